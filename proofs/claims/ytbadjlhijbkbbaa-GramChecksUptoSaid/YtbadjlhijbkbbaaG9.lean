/-
  Do nonterminals stand as they come?
-/
import Derived.Test.YtbadjlhijbkbbaaG8
set_option linter.unusedVariables false
namespace Go.Proofs.Ytbadjlhijbkbbaa
open Go Go.RowKit Sx
variable {S S' : Nat → Prop} {w : World} {g : Gram} {A A0 A1 A2 : Option Addr} {n c c0 c1 c2 : Nat}

theorem isNaNI (x : Int) : Calls Try.prog 168 [.int .i64 x].toArray w (Ret fun v w' => v = .bool false ∧ Ext w w') := by
  refine enter Try.func168 rfl Try.ntmps168 rfl ?_
  refine wk ?_
  refine Arr.ret1 rfl rfl ⟨?_, Ext.refl w⟩
  simp
theorem lessI (x y : Int) : Calls Try.prog 138 [.int .i64 x, .int .i64 y].toArray w (Ret fun v w' => v = .bool (decide (x < y)) ∧ Ext w w') := by
  refine enter Try.func138 rfl Try.ntmps138 rfl ?_
  refine wk ?_
  refine Wop.fn en168 rfl (isNaNI x) ?_
  rintro _ w1 ⟨rfl, e1⟩
  refine wk ?_
  exact Arr.ret1 rfl rfl ⟨rfl, e1⟩
def sortedB (xs : List Int) : Bool := decide (∀ j, j < xs.length - 1 → xs[j]?.getD 0 ≤ xs[j + 1]?.getD 0)
theorem isSortedI {xs : List Int} (h : tI.Row S w A n xs) : Calls Try.prog 92 [.slice A n c].toArray w (Ret fun v w' => v = .bool (sortedB xs) ∧ Ext w w') := by
  have hl := h.1
  have hm := h.2.1
  refine enter Try.func92 rfl Try.ntmps92 rfl ?_
  refine wk ?_
  refine W.loop (ι := Nat) (fun i => [(0, .slice A n c), (3, .int .i64 ((n : Int) - 1 - i))])
    (fun i w' => Ext w w' ∧ (i = 0 ∨ i < n) ∧ ∀ j, n - 1 - i ≤ j → j < n - 1 → xs[j]?.getD 0 ≤ xs[j + 1]?.getD 0) (fun i => n - i) 0 (by refine Has.cons rfl (Has.cons ?_ Has.nil); simp) ⟨Ext.refl w, .inl rfl, fun j h1 h2 => by omega⟩ ?_
  rintro i w1 ⟨hE, hi, hp⟩
  refine wk ?_
  refine W.test rfl (fun hlt => ?_) (fun hge => ?_)
  · have hlt : i + 1 < n := by omega
    obtain ⟨b, o, rfl, es, ⟨rfl, hs⟩, hc⟩ := h.at_ (n - 1 - i) (by omega)
    obtain ⟨b', o', hA, es', ⟨rfl, hs'⟩, hc'⟩ := h.at_ (n - 1 - i - 1) (by omega)
    cases hA
    have k1 := hE.cell (hc 0 _ rfl)
    have k2 := hE.cell (hc' 0 _ rfl)
    refine wk ?_
    refine W.any Ext [.eq _, .eq _, .eq _, .eq _, .eq _, .eq _, .eq _, .eq _, .eq _, .eq _] [9] mixed rfl Ext.refl Ext.trans Ext.drew ⟨qs, qs, by intro w_ hG; (repeat (intro v_ hv_; cases hv_)); exact WopG.plain rfl (Wop.ixI TT (n - 1 - i) rfl rfl rfl rfl rfl (by omega) (by omega) ⟨Ext.refl _, rfl⟩), qs, qs, qs, qs, by intro w_ hG; (repeat (intro v_ hv_; cases hv_)); exact WopG.plain rfl (Wop.ixI TT (n - 1 - i - 1) rfl rfl rfl rfl rfl (by omega) (by omega) ⟨Ext.refl _, rfl⟩), qs, by intro w_ hG; (repeat (intro v_ hv_; cases hv_)); exact WopG.plain rfl (Wop.fn en138 rfl (lessI _ _) (fun v w' h => ⟨h.2, h.1⟩)), trivial⟩ ?_
    rintro wq eq_ _ ⟨⟩
    refine wk ?_
    have g1 : xs[n - 1 - i]?.getD 0 = xs[n - 1 - i] := by rw [List.getElem?_eq_getElem (by omega)]; rfl
    have g2 : xs[n - 1 - i - 1]?.getD 0 = xs[n - 1 - i - 1] := by rw [List.getElem?_eq_getElem (by omega)]; rfl
    refine W.test rfl (fun hy => ?_) (fun hn => ?_)
    · refine wk ?_
      refine Arr.ret1 rfl rfl ⟨?_, hE.trans eq_⟩
      rw [sortedB, decide_eq_false]
      intro hall
      have := hall (n - 1 - i - 1) (by omega)
      rw [show n - 1 - i - 1 + 1 = n - 1 - i by omega, g1, g2] at this
      omega
    · refine wk ?_
      refine Arr.again (i + 1) (by refine Has.cons rfl (Has.cons ?_ Has.nil); simp; omega) ⟨hE.trans eq_, .inr hlt, ?_⟩ (by omega)
      intro j h1 h2
      rcases Nat.lt_or_ge j (n - 1 - i) with h3 | h3
      · obtain rfl : j = n - 1 - i - 1 := by omega
        rw [show n - 1 - i - 1 + 1 = n - 1 - i by omega, g1, g2]
        omega
      · exact hp j h3 h2
  · refine wk ?_
    refine Arr.ret1 rfl rfl ⟨?_, hE⟩
    rw [sortedB, decide_eq_true]
    intro j hj
    exact hp j (by omega) (by omega)

theorem idxI_first {α : Type} (p : α → Bool) (xs : List α) : (if idxI p xs < 0 then (xs.length : Int) else idxI p xs) = (xs.findIdx p : Nat) := by
  unfold idxI
  cases h : xs.findIdx? p with
  | some i =>
    have := List.findIdx?_eq_some_iff_findIdx_eq.1 h
    simp [this.2]
    omega
  | none =>
    have := List.findIdx?_eq_none_iff_findIdx_eq.1 h
    simp [this]
theorem orderedC {b : Nat} {s : Int} {u : TypeId} (hb : Blk w b #[.int .i64 s] u) : PredR 91 [.pointer (some ⟨b, 0, none⟩)] w (fun r => decide (r.left = s)) := by
  intro w0 e0 x v hv
  have hb0 := hb.ext e0
  obtain ⟨A, c, rfl, h⟩ := hv
  refine enter Try.func91 rfl Try.ntmps91 rfl ?_
  refine wk ?_; try (refine Wop.box rfl (fun w1 e1 b1 z1 => ?_); refine wk ?_)
  exact Arr.ret1 rfl rfl ⟨rfl, e1⟩
theorem gOrdered (hg : GramAt S w g A0 A1 A2 c0 c1 c2) : Calls Try.prog 34 [.agg (gcells g A0 A1 A2 c0 c1 c2).toArray].toArray w (Ret fun v w' => v = .bool g.ordered ∧ Ext w w') := by
  have hm0 := hg.terms.2.1
  have hm1 := hg.nons.2.1
  have hm2 := hg.rules.2.1
  refine enter Try.func34 rfl Try.ntmps34 rfl ?_
  refine wk ?_; try (refine Wop.box rfl (fun w1 e1 b1 z1 => ?_); refine wk ?_)
  have hg1 := hg.ext e1
  refine W.loop (ι := Nat × Value) (fun i => [(1, .pointer (some ⟨w.heap.size, 0, none⟩)), (9, .int .i64 (g.nons.length : Int)), (10, .int .i64 (i.1 : Int)), (3, i.2)])
    (fun i w' => Ext w1 w' ∧ i.1 ≤ g.nons.length ∧ OwnI w' w1.heap.size i.2 ((List.range i.1).map fun j => (g.nth1 j : Int))) (fun i => g.nons.length - i.1) (0, .slice none 0 0) has ⟨Ext.refl w1, Nat.zero_le _, Own.nil _ _ _ _⟩ ?_
  rintro ⟨i, v⟩ w' ⟨hE, hi, ho⟩
  simp only at hi ho ⊢
  refine wk ?_
  refine W.test rfl (fun hlt => ?_) (fun hge => ?_)
  · have hlt : i < g.nons.length := by omega
    refine wk ?_
    refine Wop.alloc (z := .int .i64 0) Try.zeroValue3 (fun w2 e2 b2 z2 => ?_)
    refine wk ?_
    refine Wop.stC TT rfl rfl rfl rfl b2 rfl (fun w3 g3 b3 z3 k3 => ?_)
    have e3 : Ext w' w3 := Below.trans e2 g3
    have e3' := hE.trans e3
    refine wk ?_
    refine Wop.fn en90 rfl (indexFuncR (cap := [.pointer (some ⟨w'.heap.size, 0, none⟩)]) (hg1.ext e3').rules en91 (orderedC b3)) ?_
    rintro _ w4 ⟨rfl, e4⟩
    have e4' := e3'.trans e4
    have e34 := e3.trans e4
    have hf : g.nth1 i ≤ g.rules.length := List.findIdx_le_length
    have hfirst := idxI_first (fun r : Rule => decide (r.left = (g.terms.length : Int) + 1 + i)) g.rules
    have hcast : ((g.terms.length + 1 : Nat) : Int) = g.terms.length + 1 := rfl
    refine wk ?_
    refine W.test rfl (fun hneg => ?_) (fun hpos => ?_)
    · refine wk ?_
      refine Wop.litI rfl (fun w5 e5 b5 z5 => ?_)
      refine wk ?_
      refine Wop.appI rfl rfl b5 (ho.ext (e34.trans e5)) (by have := (e4'.trans e5).size; omega) (by simp; omega) (fun v' w6 ho' hb' _ _ => ?_)
      refine wk ?_
      refine Arr.again (i := (i, v)) (i + 1, v') has ⟨hb' _ (e4'.trans e5), hlt, ?_⟩ (by omega)
      rw [hcast] at hneg
      rw [if_pos hneg] at hfirst
      rw [List.range_succ, List.map_append, List.map_singleton, Gram.nth1, Gram.first, ← hfirst]
      exact ho'
    · refine wk ?_
      refine Wop.litI rfl (fun w5 e5 b5 z5 => ?_)
      refine wk ?_
      refine Wop.appI rfl rfl b5 (ho.ext (e34.trans e5)) (by have := (e4'.trans e5).size; omega) (by simp; omega) (fun v' w6 ho' hb' _ _ => ?_)
      refine wk ?_
      refine Arr.again (i := (i, v)) (i + 1, v') has ⟨hb' _ (e4'.trans e5), hlt, ?_⟩ (by omega)
      rw [hcast] at hpos ho'
      rw [if_neg hpos] at hfirst
      rw [List.range_succ, List.map_append, List.map_singleton, Gram.nth1, Gram.first, ← hfirst]
      exact ho'
  · refine wk ?_
    have : i = g.nons.length := by omega
    subst this
    obtain ⟨A, c, rfl, hc, hr⟩ := OwnI.row (S := fun _ => True) ho (by simp; omega) (by
      intro x hx
      simp only [List.mem_map, List.mem_range] at hx
      obtain ⟨j, hj, rfl⟩ := hx
      have : g.nth1 j ≤ g.rules.length := List.findIdx_le_length
      exact ⟨by omega, by omega⟩) (fun _ _ => trivial)
    refine Wop.fn en92 rfl (isSortedI hr) ?_
    rintro _ w2 ⟨rfl, e2⟩
    refine wk ?_
    refine Arr.ret1 rfl rfl ⟨?_, e1.trans (hE.trans e2)⟩
    congr 1
    rw [sortedB, Gram.ordered]
    simp only [List.length_map, List.length_range]
    congr 1
    apply propext
    refine forall_congr' fun j => forall_congr' fun hj => ?_
    rw [List.getElem?_eq_getElem (by simp; omega), List.getElem?_eq_getElem (by simp; omega)]
    simp

theorem ofFrom_first (s : Int) : ∀ (l : List Rule) (k : Nat), match Gram.ofFrom s l k with
    | [] => l.findIdx (fun r => decide (r.left = s)) = l.length
    | x :: _ => x = k + l.findIdx (fun r => decide (r.left = s))
  | [], k => by simp [Gram.ofFrom]
  | r :: l, k => by
    have ih := ofFrom_first s l (k + 1)
    simp only [Gram.ofFrom]
    by_cases h : r.left = s
    · rw [if_pos h]
      simp [List.findIdx_cons, h]
    · rw [if_neg h]
      cases hx : Gram.ofFrom s l (k + 1) with
      | nil =>
        rw [hx] at ih
        simp only at ih ⊢
        rw [List.findIdx_cons, ih]
        simp [h]
      | cons x xs =>
        rw [hx] at ih
        simp only at ih ⊢
        rw [List.findIdx_cons, ih]
        simp [h]
        omega
theorem ofFrom_get0 {s : Int} {l : List Rule} {k : Nat} (h : 0 < (Gram.ofFrom s l k).length) : (Gram.ofFrom s l k)[0] = k + l.findIdx (fun r => decide (r.left = s)) := by
  have hf := ofFrom_first s l k
  revert h hf
  generalize Gram.ofFrom s l k = x
  intro h hf
  cases x with
  | nil => simp at h
  | cons y ys => exact hf
theorem ofFrom_empty {s : Int} {l : List Rule} {k : Nat} (h : ¬ 0 < (Gram.ofFrom s l k).length) : l.findIdx (fun r => decide (r.left = s)) = l.length := by
  have hf := ofFrom_first s l k
  revert h hf
  generalize Gram.ofFrom s l k = x
  intro h hf
  cases x with
  | nil => exact hf
  | cons y ys => simp at h
theorem rOrdered (hg : GramAt S w g A0 A1 A2 c0 c1 c2) : Calls Try.prog 35 [.agg (gcells g A0 A1 A2 c0 c1 c2).toArray].toArray w (Ret fun v w' => v = .bool g.ordered ∧ Ext w w') := by
  have hm0 := hg.terms.2.1
  have hm1 := hg.nons.2.1
  have hm2 := hg.rules.2.1
  refine enter Try.func35 rfl Try.ntmps35 rfl ?_
  refine wk ?_; try (refine Wop.box rfl (fun w1 e1 b1 z1 => ?_); refine wk ?_)
  have hg1 := hg.ext e1
  refine W.loop (ι := Nat) (fun i => [(1, .pointer (some ⟨w.heap.size, 0, none⟩)), (4, .int .i64 (i : Int)), (3, .int .i64 (if i = 0 then -1 else (g.nth1 (i - 1) : Int)))])
    (fun i w' => Ext w1 w' ∧ i ≤ g.nons.length ∧ ∀ j, j < i - 1 → g.nth1 j ≤ g.nth1 (j + 1)) (fun i => g.nons.length - i) 0 has ⟨Ext.refl w1, Nat.zero_le _, fun j h => by omega⟩ ?_
  rintro i w' ⟨hE, hi, hs⟩
  refine wk ?_
  refine W.test rfl (fun hlt => ?_) (fun hge => ?_)
  · have hlt : i < g.nons.length := by omega
    refine wk ?_
    refine Wop.fn en33 rfl (rOf (hg1.ext hE) ((g.terms.length + 1 : Nat) + (i : Int))) ?_
    rintro v w2 ⟨ho, e2⟩
    have e2' := hE.trans e2
    have hlen := ofFrom_length ((g.terms.length + 1 : Nat) + (i : Int)) g.rules 0
    have hin := ofFrom_lt ((g.terms.length + 1 : Nat) + (i : Int)) g.rules 0
    have hf : g.nth1 i ≤ g.rules.length := List.findIdx_le_length
    have hnth : g.nth1 i = g.rules.findIdx (fun r => decide (r.left = (g.terms.length + 1 : Nat) + (i : Int))) := rfl
    rw [Gram.of] at ho
    obtain ⟨A, c, rfl, hcap, hr⟩ := OwnI.row (S := fun _ => True) ho (by omega) (fun x hx => by have := hin x hx; exact ⟨by omega, by omega⟩) (fun _ _ => trivial)
    refine wk ?_
    have fin : ∀ (x : Int), x = (g.nth1 i : Int) → ¬ (x < (if i = 0 then -1 else (g.nth1 (i - 1) : Int))) → ∀ j, j < i + 1 - 1 → g.nth1 j ≤ g.nth1 (j + 1) := by
      intro x hx hn j hj
      rcases Nat.lt_or_ge j (i - 1) with h | h
      · exact hs j h
      · obtain rfl : j = i - 1 := by omega
        rw [if_neg (by omega)] at hn
        rw [show i - 1 + 1 = i by omega]
        omega
    have bad : ∀ (x : Int), x = (g.nth1 i : Int) → x < (if i = 0 then -1 else (g.nth1 (i - 1) : Int)) → g.ordered = false := by
      intro x hx hy
      rw [Gram.ordered, decide_eq_false]
      intro hall
      split at hy
      · omega
      · have := hall (i - 1) (by omega)
        rw [show i - 1 + 1 = i by omega] at this
        omega
    refine W.test rfl (fun hpos => ?_) (fun hzero => ?_)
    · have h0 : 0 < (Gram.ofFrom ((g.terms.length + 1 : Nat) + (i : Int)) g.rules 0).length := by omega
      obtain ⟨b, o, rfl, es, ⟨rfl, hsz⟩, hc⟩ := hr.at_ 0 h0
      have hx : (Gram.ofFrom ((g.terms.length + 1 : Nat) + (i : Int)) g.rules 0)[0] = (g.nth1 i : Int) := by
        rw [ofFrom_get0 h0, hnth]
        omega
      have hcell := hc 0 _ rfl
      refine wk ?_
      refine W.test rfl (fun hy => ?_) (fun hn => ?_)
      · refine wk ?_
        refine Arr.ret1 rfl rfl ⟨?_, e1.trans e2'⟩
        rw [bad _ hx hy]
      · refine wk ?_
        refine Arr.again (i + 1) (by refine Has.cons rfl (Has.cons rfl (Has.cons ?_ Has.nil)); rw [if_neg (Nat.succ_ne_zero i), Nat.add_sub_cancel, ← hx]; rfl) ⟨e2', hlt, fin _ hx hn⟩ (by omega)
    · have hx : (g.rules.length : Int) = (g.nth1 i : Int) := by
        rw [hnth, ofFrom_empty (k := 0) (by omega)]
      refine wk ?_
      refine W.test rfl (fun hy => ?_) (fun hn => ?_)
      · refine wk ?_
        refine Arr.ret1 rfl rfl ⟨?_, e1.trans e2'⟩
        rw [bad _ hx hy]
      · refine wk ?_
        refine Arr.again (i + 1) (by refine Has.cons rfl (Has.cons rfl (Has.cons ?_ Has.nil)); rw [if_neg (Nat.succ_ne_zero i), Nat.add_sub_cancel, ← hx]; rfl) ⟨e2', hlt, fin _ hx hn⟩ (by omega)
  · refine wk ?_
    refine Arr.ret1 rfl rfl ⟨?_, e1.trans hE⟩
    rw [Gram.ordered, decide_eq_true]
    intro j hj
    exact hs j (by omega)
end Go.Proofs.Ytbadjlhijbkbbaa
