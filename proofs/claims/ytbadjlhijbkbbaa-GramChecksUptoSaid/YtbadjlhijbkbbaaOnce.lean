/-
  Does no name stand twice?
-/
import Derived.Test.YtbadjlhijbkbbaaG4
import Derived.Test.YtbadjlhijbkbbaaMap
import Derived.Test.YtbadjlhijbkbbaaGrow
set_option linter.unusedVariables false
namespace Go.Proofs.Ytbadjlhijbkbbaa
open Go Go.RowKit Sx
variable {S : Nat → Prop} {w : World} {g : Gram} {A0 A1 A2 : Option Addr} {c0 c1 c2 : Nat}
theorem putM_keys (k : ByteArray) (u : Int) : ∀ m : List (ByteArray × Int), (putM k u m).map Prod.fst = if k ∈ m.map Prod.fst then m.map Prod.fst else m.map Prod.fst ++ [k]
  | [] => by simp [putM]
  | (x, v) :: m => by
    simp only [putM]
    by_cases h : k = x
    · subst h
      simp
    · rw [if_neg h]
      simp only [List.map_cons, putM_keys k u m, List.mem_cons, h, false_or]
      split <;> simp
theorem putM_vals (k : ByteArray) (u : Int) : ∀ (m : List (ByteArray × Int)) (p : ByteArray × Int), p ∈ putM k u m → p = (k, u) ∨ p ∈ m
  | [], p, h => by simp [putM] at h; exact .inl h
  | (x, v) :: m, p, h => by
    simp only [putM] at h
    by_cases hk : k = x
    · rw [if_pos hk] at h
      rcases List.mem_cons.1 h with h | h
      · exact .inl h
      · exact .inr (List.mem_cons_of_mem _ h)
    · rw [if_neg hk] at h
      rcases List.mem_cons.1 h with h | h
      · exact .inr (by rw [h]; exact List.mem_cons_self)
      · rcases putM_vals k u m p h with h | h
        · exact .inl h
        · exact .inr (List.mem_cons_of_mem _ h)
theorem getM_range (k : ByteArray) {n : Int} (hn : 0 ≤ n) : ∀ m : List (ByteArray × Int), (∀ p ∈ m, 0 ≤ p.2 ∧ p.2 ≤ n) → 0 ≤ getM k m ∧ getM k m ≤ n
  | [], _ => ⟨Int.le_refl _, hn⟩
  | (x, v) :: m, h => by
    simp only [getM]
    by_cases hk : k = x
    · rw [if_pos hk]
      exact h (x, v) List.mem_cons_self
    · rw [if_neg hk]
      exact getM_range k hn m (fun p hp => h p (List.mem_cons_of_mem _ hp))
/-- What the map holds behind so many names. -/
structure Met (m : List (ByteArray × Int)) (l : List ByteArray) : Prop where
  keys : ∀ x, x ∈ m.map Prod.fst ↔ x ∈ l
  le : m.length ≤ l.length
  once : m.length = l.length ↔ l.Nodup
  vals : ∀ p ∈ m, 0 ≤ p.2 ∧ p.2 ≤ (l.length : Int)
theorem Met.put {m : List (ByteArray × Int)} {l : List ByteArray} (h : Met m l) (x : ByteArray) : Met (putM x (getM x m + 1) m) (l ++ [x]) := by
  have hk := putM_keys x (getM x m + 1) m
  have hg := getM_range x (by omega : (0 : Int) ≤ l.length) m h.vals
  have hlen : (putM x (getM x m + 1) m).length = if x ∈ m.map Prod.fst then m.length else m.length + 1 := by
    have := congrArg List.length hk
    rw [List.length_map] at this
    rw [this]
    split <;> simp
  have h1 := h.le
  have h2 := h.once
  refine ⟨fun y => ?_, ?_, ?_, fun p hp => ?_⟩
  · rw [hk]
    by_cases hx : x ∈ m.map Prod.fst
    · rw [if_pos hx, h.keys y, List.mem_append, List.mem_singleton]
      exact ⟨.inl, fun hy => hy.elim id (fun e => by rw [e]; exact (h.keys x).1 hx)⟩
    · rw [if_neg hx, List.mem_append, List.mem_append, h.keys y]
  · rw [hlen, List.length_append, List.length_singleton]
    split <;> omega
  · rw [hlen, List.length_append, List.length_singleton, List.nodup_append]
    by_cases hx : x ∈ m.map Prod.fst
    · rw [if_pos hx]
      constructor
      · intro; omega
      · rintro ⟨_, _, h3⟩
        exact absurd rfl (h3 x ((h.keys x).1 hx) x (List.mem_singleton.2 rfl))
    · rw [if_neg hx]
      constructor
      · intro h3
        refine ⟨h2.1 (by omega), by simp, fun a ha b hb => ?_⟩
        rw [List.mem_singleton.1 hb]
        rintro rfl
        exact hx ((h.keys a).2 ha)
      · rintro ⟨h3, _, _⟩
        have := h2.2 h3
        omega
  · rw [List.length_append, List.length_singleton]
    rcases putM_vals _ _ _ _ hp with rfl | hp
    · simp only
      omega
    · have := h.vals p hp
      omega
theorem gOnce (hg : GramAt S w g A0 A1 A2 c0 c1 c2) (hs : g.names.length ≤ 1099511627776) : Calls Try.prog 77 [.agg (gcells g A0 A1 A2 c0 c1 c2).toArray].toArray w (Ret fun v w' => v = .bool (decide g.names.Nodup) ∧ Ext w w') := by
  have h0 := hg.terms.2.1
  have h1 := hg.nons.2.1
  have hlen : g.names.length = g.terms.length + g.nons.length := List.length_append
  refine enter Try.func77 rfl Try.ntmps77 rfl ?_
  refine wk ?_; try (refine Wop.box rfl (fun w1 e1 b1 z1 => ?_); refine wk ?_)
  refine Wop.mkMap (fun w2 e2 hm2 z2 => ?_)
  have e12 := e1.trans e2
  have hg2 := hg.ext e12
  refine wk ?_
  refine Wop.buildSlice (cs := #[.slice A0 g.terms.length c0, .slice A1 g.nons.length c1]) (z := .slice none 0 0) TT rfl rfl rfl Try.zeroValue22 rfl rfl ?_ rfl (fun w3 e3 b3 z3 => ?_)
  · rfl
  refine wk ?_
  refine Wop.fn en131 rfl (concatS (hg2.ext e3).terms (hg2.ext e3).nons b3) ?_
  rintro v w4 ⟨ho, e4⟩
  change OwnS w4 w3.heap.size v g.names at ho
  obtain ⟨A, c, rfl, hcap, hrow⟩ := OwnS.row (S := fun k => k ≠ w1.heap.size) ho hs hg.strs (fun k hk => by have := (World.ownsRow.lt ho k hk).1; have := e3.size; omega)
  have e24 := e3.trans e4
  have e14 := e2.trans e24
  have hm4 := hm2.ext e24
  have hb4 := b1.ext e14
  have hlt1 : w.heap.size < w1.heap.size := b1.lt
  refine wk ?_
  refine W.loop (ι := Nat) (fun i => [(1, .pointer (some ⟨w.heap.size, 0, none⟩)), (3, .map (some w1.heap.size)), (12, .slice A g.names.length c), (13, .int .i64 (g.names.length : Int)), (14, .int .i64 (i : Int))])
    (fun i w' => Below w1.heap.size w4 w' ∧ i ≤ g.names.length ∧ (∀ j, j ≠ w1.heap.size → w'.heap[j]? = w4.heap[j]?) ∧ w'.heap.size = w4.heap.size ∧ ∃ m, MapAt w' w1.heap.size m ∧ Met m (g.names.take i)) (fun i => g.names.length - i) 0 has ⟨Below.refl _ _, Nat.zero_le _, fun _ _ => rfl, rfl, [], hm4, ?_⟩ ?_
  · exact ⟨fun x => by simp, by simp, by simp, fun p hp => by simp at hp⟩
  rintro i w' ⟨hB, hi, hsame, hz, m, hm, hmet⟩
  have hbox : Blk w' w.heap.size _ _ := (hsame _ (by omega)).trans hb4
  refine wk ?_
  refine W.test rfl (fun hlt => ?_) (fun hge => ?_)
  · have hlt : i < g.names.length := by omega
    obtain ⟨b, o, rfl, es, ⟨rfl, hsz⟩, hc⟩ := (hrow.move hsame).at_ i hlt
    have hcell := hc 0 _ rfl
    refine wk ?_
    refine Wop.getMap Try.underlying148 Try.underlying9 Try.zeroValue3 rfl rfl hm ?_
    have hr := getM_range g.names[i] (by omega : (0 : Int) ≤ (g.names.take i).length) m hmet.vals
    rw [List.length_take] at hr
    refine wk ?_
    refine Wop.putMap Try.underlying148 Try.underlying9 rfl rfl rfl hm (fun w5 hB5 hm5 hz5 hs5 => ?_)
    refine wk ?_
    refine Arr.again (i + 1) has ⟨Below.trans hB hB5, hlt, fun j hj => (hs5 j hj).trans (hsame j hj), hz5.trans hz, _, hm5, ?_⟩ (by omega)
    rw [List.take_succ_eq_append_getElem hlt]
    exact hmet.put _
  · have : i = g.names.length := by omega
    subst this
    rw [List.take_length] at hmet
    refine wk ?_
    refine Wop.lenMap rfl rfl Try.underlying148 hm ?_
    refine wk ?_
    have eB : Ext w w' := Below.trans (e1.trans e14) (Below.mono hB (by omega))
    have hg' : GramAt S w' g A0 A1 A2 c0 c1 c2 := hg.ext eB
    refine Wop.fn en20 rfl (gTop hg') ?_
    rintro _ w5 ⟨rfl, e5⟩
    refine wk ?_
    refine Arr.ret1 rfl rfl ⟨congrArg Value.bool ?_, eB.trans e5⟩
    refine decide_eq_decide.2 ?_
    rw [← hmet.once]
    show _ = ((g.terms.length : Int) + g.nons.length) ↔ _
    omega
end Go.Proofs.Ytbadjlhijbkbbaa
