/-
  Joined by program out of the texts G7 G8 G9: lemmas for the proofs of this seat; no condition.
-/
import Derived.Test.YtbadjlhijbkbbaaBe
/-
  Whole grammars compared; the rest of the small functions.
-/
set_option linter.unusedVariables false
namespace Go.Proofs.Ytbadjlhijbkbbaa
open Go Go.RowKit Sx
variable {S S' : Nat → Prop} {w : World} {g h : Gram} {A0 A1 A2 : Option Addr} {c0 c1 c2 : Nat} {B0 B1 B2 : Option Addr} {d0 d1 d2 : Nat}

theorem gSame (hg : GramAt S w g A0 A1 A2 c0 c1 c2) (hh : GramAt S' w h B0 B1 B2 d0 d1 d2) : Calls Try.prog 36 [.agg (gcells g A0 A1 A2 c0 c1 c2).toArray, .agg (gcells h B0 B1 B2 d0 d1 d2).toArray].toArray w (Ret fun v w' => v = .bool (decide (g = h)) ∧ Ext w w') := by
  refine enter Try.func36 rfl Try.ntmps36 rfl ?_
  refine wk ?_
  refine Wop.box rfl (fun w1 e1 b1 z1 => ?_)
  refine wk ?_
  refine Wop.box rfl (fun w2 e2 b2 z2 => ?_)
  have e12 := e1.trans e2
  refine wk ?_
  have hg1 := hg.ext e12
  have hh1 := hh.ext e12
  refine Wop.fn en93 rfl (equalS hg1.terms hh1.terms) ?_
  rintro _ w3 ⟨rfl, e3⟩
  have e23 := e2.trans e3
  refine wk ?_
  refine Wl.part rfl rfl rfl (fun p => ?_) (fun p => ?_)
  · refine wk ?_
    refine Wop.fn en93 rfl (equalS (hg1.ext e3).nons (hh1.ext e3).nons) ?_
    rintro _ w4 ⟨rfl, e4⟩
    have e34 := e3.trans e4
    have e24 := e2.trans e34
    refine wk ?_
    refine Wl.part rfl rfl rfl (fun p2 => ?_) (fun p2 => ?_)
    · refine wk ?_
      refine Wl.part rfl rfl rfl (fun p3 => ?_) (fun p3 => ?_)
      · refine wk ?_
        refine Wop.fn en94 rfl (equalR (hg1.ext e34).rules (hh1.ext e34).rules) ?_
        rintro _ w5 ⟨rfl, e5⟩
        refine wk ?_
        refine Arr.ret1 rfl rfl ⟨?_, e12.trans (e34.trans e5)⟩
        obtain ⟨t, n, r, s⟩ := g
        obtain ⟨t', n', r', s'⟩ := h
        simp only at p p2 p3
        simp [p, p2, p3]
      · refine wk ?_
        refine Arr.ret1 rfl rfl ⟨?_, e12.trans e34⟩
        rw [decide_eq_false]
        intro e
        exact p3 (by rw [e])
    · refine wk ?_
      refine Arr.ret1 rfl rfl ⟨?_, e12.trans e34⟩
      rw [decide_eq_false]
      intro e
      exact p2 (by rw [e])
  · refine wk ?_
    refine Arr.ret1 rfl rfl ⟨?_, e12.trans e3⟩
    rw [decide_eq_false]
    intro e
    exact p (by rw [e])
theorem rSame (hg : GramAt S w g A0 A1 A2 c0 c1 c2) (hh : GramAt S' w h B0 B1 B2 d0 d1 d2) : Calls Try.prog 37 [.agg (gcells g A0 A1 A2 c0 c1 c2).toArray, .agg (gcells h B0 B1 B2 d0 d1 d2).toArray].toArray w (Ret fun v w' => v = .bool (decide (g = h)) ∧ Ext w w') := by
  have m0 := hg.rules.2.1
  have m1 := hh.rules.2.1
  refine enter Try.func37 rfl Try.ntmps37 rfl ?_
  refine wk ?_
  refine Wop.box rfl (fun w1 e1 b1 z1 => ?_)
  refine wk ?_
  refine Wop.box rfl (fun w2 e2 b2 z2 => ?_)
  have e12 := e1.trans e2
  refine wk ?_
  have hg1 := hg.ext e12
  have hh1 := hh.ext e12
  refine Wop.fn en95 rfl (r4Same hg1.terms hh1.terms) ?_
  rintro _ w3 ⟨rfl, e3⟩
  have e23 := e2.trans e3
  refine wk ?_
  refine Wl.partB rfl rfl rfl (fun p => ?_) (fun p => ?_)
  · refine wk ?_
    refine Arr.ret1 rfl rfl ⟨?_, e12.trans e3⟩
    rw [decide_eq_false]
    intro e
    subst e
    simp at p
  · refine wk ?_
    refine Wop.fn en95 rfl (r4Same (hg1.ext e3).nons (hh1.ext e3).nons) ?_
    rintro _ w4 ⟨rfl, e4⟩
    have e34 := e3.trans e4
    have e24 := e2.trans e34
    refine wk ?_
    refine Wl.partB rfl rfl rfl (fun p2 => ?_) (fun p2 => ?_)
    · refine wk ?_
      refine Arr.ret1 rfl rfl ⟨?_, e12.trans e34⟩
      rw [decide_eq_false]
      intro e
      subst e
      simp at p2
    · refine wk ?_
      refine Wl.part rfl rfl rfl (fun p3 => ?_) (fun p3 => ?_)
      · refine wk ?_
        refine Arr.ret1 rfl rfl ⟨?_, e12.trans e34⟩
        rw [decide_eq_false]
        intro e
        exact p3 (by rw [e])
      · refine wk ?_
        refine W.test rfl (fun p4 => ?_) (fun p4 => ?_)
        · refine wk ?_
          refine Arr.ret1 rfl rfl ⟨?_, e12.trans e34⟩
          rw [decide_eq_false]
          intro e
          exact p4 (by rw [e])
        · refine wk ?_
          refine W.loop (ι := Nat) (fun i => [(2, .pointer (some ⟨w.heap.size, 0, none⟩)), (3, .pointer (some ⟨w1.heap.size, 0, none⟩)), (5, .int .i64 (i : Int))])
            (fun i w' => Ext w4 w' ∧ i ≤ g.rules.length ∧ ∀ j x, j < i → g.rules[j]? = some x → h.rules[j]? = some x) (fun i => g.rules.length - i) 0 has ⟨Ext.refl w4, Nat.zero_le _, fun j x hj => absurd hj (Nat.not_lt_zero j)⟩ ?_
          rintro i w5 ⟨hE, hi, hp⟩
          have b1' := b1.ext (e2.trans (e34.trans hE))
          have b2' := b2.ext (e34.trans hE)
          have hg5 := hg1.ext (e34.trans hE)
          have hh5 := hh1.ext (e34.trans hE)
          refine wk ?_
          refine Wl.part rfl rfl rfl (fun hlt => ?_) (fun hge => ?_)
          · have hlt : i < g.rules.length := by omega
            refine wk ?_
            refine W.test rfl (fun _ => ?_) (fun hc => absurd hc (by omega))
            obtain ⟨b, o, rfl, es, hrd, hc⟩ := hg5.rules.at_ i (by omega)
            obtain ⟨P, cp, rfl, h1, h2, h3⟩ := tRule_open hrd
            obtain ⟨b', o', rfl, es', hrd', hc'⟩ := hh5.rules.at_ i (by omega)
            obtain ⟨P', cp', rfl, h1', h2', h3'⟩ := tRule_open hrd'
            have v1 : VR w5 g.rules[i] _ := ⟨P, cp, rfl, h1, h2, h3.mono (fun _ _ => trivial)⟩
            have v2 : VR w5 h.rules[i] _ := ⟨P', cp', rfl, h1', h2', h3'.mono (fun _ _ => trivial)⟩
            refine wk ?_
            refine W.any Ext [.eq _, .eq _, .eq _, .eq _, .eq _, .eq _, .eq _, .eq _, .eq _, .eq _, .eq _, .eq _] [11] mixed rfl Ext.refl Ext.trans Ext.drew ⟨qs, qs, qs, qs, qs, qs, qs, qs, qs, qs, by intro w_ hG; (repeat (intro v_ hv_; cases hv_)); exact WopG.plain rfl (Wop.fn en26 rfl (rSameRule (v1.ext hG) (v2.ext hG)) (fun v w' h => ⟨h.2, h.1⟩)), qs, trivial⟩ ?_
            rintro wq eq_ _ ⟨⟩
            refine wk ?_
            refine W.cond rfl (fun hd => ?_) (fun hs => ?_)
            · refine wk ?_
              refine Arr.ret1 rfl rfl ⟨?_, e12.trans (e34.trans (hE.trans eq_))⟩
              rw [decide_eq_false]
              intro e
              subst e
              simp at hd
            · refine wk ?_
              refine Arr.again (i + 1) has ⟨hE.trans eq_, hlt, ?_⟩ (by omega)
              intro j x hj hx'
              rcases Nat.lt_or_ge j i with h1 | h1
              · exact hp j x h1 hx'
              · obtain rfl : j = i := by omega
                rw [List.getElem?_eq_getElem (by omega)] at hx' ⊢
                cases hx'
                simp at hs
                rw [hs]
          · refine wk ?_
            refine Arr.ret1 rfl rfl ⟨?_, e12.trans (e34.trans hE)⟩
            have hr : g.rules = h.rules := eq_of_takes (by omega) (fun j x hj => hp j x (by omega))
            obtain ⟨t, n, r, s⟩ := g
            obtain ⟨t', n', r', s'⟩ := h
            simp only [Bool.not_eq_eq_eq_not, Bool.not_false, decide_eq_true_eq, ne_eq, Decidable.not_not] at p p2 p3 hr
            simp [p, p2, p3, hr]
end Go.Proofs.Ytbadjlhijbkbbaa

/-
  The rest of the small functions.
-/
set_option linter.unusedVariables false
namespace Go.Proofs.Ytbadjlhijbkbbaa
open Go Go.RowKit Sx
variable {S S' : Nat → Prop} {w : World} {g : Gram} {A0 A1 A2 : Option Addr} {c0 c1 c2 : Nat}

theorem rName (hg : GramAt S w g A0 A1 A2 c0 c1 c2) (hs : g.names.length ≤ 1099511627776) (s : Int) : Calls Try.prog 28 [.agg (gcells g A0 A1 A2 c0 c1 c2).toArray, .int .i64 s].toArray w (Ret fun v w' => v = .string (g.name s) ∧ Ext w w') := by
  have h0 := hg.terms.2.1
  have h1 := hg.nons.2.1
  have hlen : g.names.length = g.terms.length + g.nons.length := List.length_append
  refine enter Try.func28 rfl Try.ntmps28 rfl ?_
  refine wk ?_; try (refine Wop.box rfl (fun w1 e1 b1 z1 => ?_); refine wk ?_)
  have hg1 := hg.ext e1
  refine W.test rfl (fun hz => ?_) (fun hz => ?_)
  · refine wk ?_
    refine Arr.ret1 rfl rfl ⟨?_, e1⟩
    rw [Gram.name, if_pos hz]
    rfl
  refine wk ?_
  refine Wl.part rfl rfl rfl (fun p => ?_) (fun p => ?_)
  · refine wk ?_
    refine Arr.ret1 rfl rfl ⟨?_, e1⟩
    rw [Gram.name, if_neg hz, if_neg (by omega), if_neg (by omega)]
  · refine wk ?_
    refine Wop.fn en21 rfl (rTop hg1) ?_
    rintro _ w2 ⟨rfl, e2⟩
    refine wk ?_
    refine W.test rfl (fun p2 => ?_) (fun p2 => ?_)
    · refine wk ?_
      refine Arr.ret1 rfl rfl ⟨?_, e1.trans e2⟩
      have : ¬ s ≤ g.top := by omega
      have ht : g.top = g.terms.length + g.nons.length := rfl
      rw [Gram.name, if_neg hz, if_neg (by omega), if_neg (by omega)]
    · refine wk ?_
      refine Wop.fn en85 rfl (r6names (hg1.ext e2) hs) ?_
      rintro _ w3 ⟨⟨A, c, rfl, hcap, hrow⟩, e3⟩
      have ht : g.top = g.terms.length + g.nons.length := rfl
      have hlt : (s - 1).toNat < g.names.length := by omega
      obtain ⟨b, o, rfl, es, ⟨rfl, hsz⟩, hc⟩ := hrow.at_ (s - 1).toNat hlt
      have hcell := hc 0 _ rfl
      refine wk ?_
      refine Wop.ixI TT (s - 1).toNat rfl rfl rfl rfl rfl (by omega) hlt ?_
      refine wk ?_
      refine Arr.ret1 rfl rfl ⟨?_, e1.trans (e2.trans e3)⟩
      rw [Gram.name, if_neg hz, List.getElem?_eq_getElem hlt]
      simp only [Option.getD_some]
      by_cases h : 1 ≤ s ∧ s ≤ g.terms.length
      · rw [if_pos h]
      · rw [if_neg h, if_pos (by omega)]
def Gram.find (g : Gram) (name : ByteArray) : Int := idxI (fun x => decide (x = name)) g.names + 1
theorem findIdx?_append_some {α : Type} {p : α → Bool} {xs ys : List α} {i : Nat} (h : xs.findIdx? p = some i) : (xs ++ ys).findIdx? p = some i := by
  rw [List.findIdx?_append, h]; rfl
theorem idxI_append {α : Type} (p : α → Bool) (xs ys : List α) : idxI p (xs ++ ys) = if 0 ≤ idxI p xs then idxI p xs else if 0 ≤ idxI p ys then xs.length + idxI p ys else -1 := by
  unfold idxI
  rw [List.findIdx?_append]
  cases h : xs.findIdx? p with
  | some i => simp
  | none =>
    cases h2 : ys.findIdx? p with
    | some i => simp; omega
    | none => simp
theorem gFind (hg : GramAt S w g A0 A1 A2 c0 c1 c2) (name : ByteArray) (hn : name.size ≤ 140737488355328) : Calls Try.prog 29 [.agg (gcells g A0 A1 A2 c0 c1 c2).toArray, .string name].toArray w (Ret fun v w' => v = .int .i64 (g.find name) ∧ Ext w w') := by
  have h0 := hg.terms.2.1
  have h1 := hg.nons.2.1
  have hb := idxI_bounds (fun x => decide (x = name)) g.terms
  have hb2 := idxI_bounds (fun x => decide (x = name)) g.nons
  refine enter Try.func29 rfl Try.ntmps29 rfl ?_
  refine wk ?_; try (refine Wop.box rfl (fun w1 e1 b1 z1 => ?_); refine wk ?_)
  have hg1 := hg.ext e1
  refine Wop.fn en88 rfl (indexS (S' := S) hg1.terms ⟨rfl, hn⟩) ?_
  rintro _ w2 ⟨rfl, e2⟩
  refine wk ?_
  refine W.test rfl (fun p => ?_) (fun p => ?_)
  · refine wk ?_
    refine Arr.ret1 rfl rfl ⟨?_, e1.trans e2⟩
    rw [Gram.find, Gram.names, idxI_append, if_pos p]
  · refine wk ?_
    refine Wop.fn en88 rfl (indexS (S' := S) (hg1.ext e2).nons ⟨rfl, hn⟩) ?_
    rintro _ w3 ⟨rfl, e3⟩
    have e23 := e2.trans e3
    refine wk ?_
    refine W.test rfl (fun p2 => ?_) (fun p2 => ?_)
    · refine wk ?_
      refine Arr.ret1 rfl rfl ⟨?_, e1.trans (e2.trans e3)⟩
      rw [Gram.find, Gram.names, idxI_append, if_neg p, if_pos p2]
    · refine wk ?_
      refine Arr.ret1 rfl rfl ⟨?_, e1.trans (e2.trans e3)⟩
      rw [Gram.find, Gram.names, idxI_append, if_neg p, if_neg p2]
      rfl
theorem rFind (hg : GramAt S w g A0 A1 A2 c0 c1 c2) (hs : g.names.length ≤ 1099511627776) (name : ByteArray) (hn : name.size ≤ 140737488355328) : Calls Try.prog 30 [.agg (gcells g A0 A1 A2 c0 c1 c2).toArray, .string name].toArray w (Ret fun v w' => v = .int .i64 (g.find name) ∧ Ext w w') := by
  have hb := idxI_bounds (fun x => decide (x = name)) g.names
  refine enter Try.func30 rfl Try.ntmps30 rfl ?_
  refine wk ?_; try (refine Wop.box rfl (fun w1 e1 b1 z1 => ?_); refine wk ?_)
  refine Wop.fn en85 rfl (r6names (hg.ext e1) hs) ?_
  rintro _ w3 ⟨⟨A, c, rfl, hcap, hrow⟩, e3⟩
  refine wk ?_
  refine Wop.fn en89 rfl (r4Place hrow hn) ?_
  rintro _ w4 ⟨rfl, e4⟩
  refine wk ?_
  exact Arr.ret1 rfl rfl ⟨rfl, e1.trans (e3.trans e4)⟩

theorem rOf (hg : GramAt S w g A0 A1 A2 c0 c1 c2) (s : Int) : Calls Try.prog 33 [.agg (gcells g A0 A1 A2 c0 c1 c2).toArray, .int .i64 s].toArray w (Ret fun v w' => OwnI w' w.heap.size v (g.of s) ∧ Ext w w') := by
  have hm := hg.rules.2.1
  refine enter Try.func33 rfl Try.ntmps33 rfl ?_
  refine wk ?_; try (refine Wop.box rfl (fun w1 e1 b1 z1 => ?_); refine wk ?_)
  have hg1 := hg.ext e1
  refine W.loop (ι := Nat × Value) (fun i => [(1, .int .i64 s), (2, .pointer (some ⟨w.heap.size, 0, none⟩)), (6, .int .i64 (i.1 : Int)), (5, i.2)])
    (fun i w' => Ext w1 w' ∧ i.1 ≤ g.rules.length ∧ OwnI w' w1.heap.size i.2 (Gram.ofFrom s (g.rules.take i.1) 0)) (fun i => g.rules.length - i.1) (0, .slice none 0 0) has ⟨Ext.refl w1, Nat.zero_le _, Own.nil _ _ _ _⟩ ?_
  rintro ⟨i, v⟩ w' ⟨hE, hi, ho⟩
  simp only at hi ho ⊢
  refine wk ?_
  have hof := ofFrom_length s (g.rules.take i) 0
  rw [List.length_take] at hof
  refine W.test rfl (fun hlt => ?_) (fun hge => ?_)
  · have hlt : i < g.rules.length := by omega
    obtain ⟨b, o, rfl, es, hrd, hc⟩ := (hg1.rules.ext (by decide) hE).at_ i hlt
    obtain ⟨A, c, rfl, hcap, hl64, hrow⟩ := tRule_open hrd
    have hcell := hc 0 _ rfl
    refine wk ?_
    refine W.test rfl (fun heq => ?_) (fun hne => ?_)
    · refine wk ?_
      refine Wop.litI rfl (fun w4 e4 b4 z4 => ?_)
      refine wk ?_
      refine Wop.appI rfl rfl b4 (ho.ext e4) (by have := (hE.trans e4).size; omega) (by omega) (fun v' w5 ho' hb' _ _ => ?_)
      refine wk ?_
      refine Arr.again (i := (i, v)) (i + 1, v') has ⟨hb' _ (hE.trans e4), hlt, ?_⟩ (by omega)
      rw [of_take g s i hlt, if_pos heq]
      exact ho'
    · refine wk ?_
      refine Arr.again (i := (i, v)) (i + 1, v) has ⟨hE, hlt, ?_⟩ (by omega)
      rw [of_take g s i hlt, if_neg hne, List.append_nil]
      exact ho
  · refine wk ?_
    have : i = g.rules.length := by omega
    subst this
    rw [List.take_length] at ho
    exact Arr.ret1 rfl rfl ⟨ho.lower (by omega), e1.trans hE⟩
end Go.Proofs.Ytbadjlhijbkbbaa

/-
  Do nonterminals stand as they come?
-/
set_option linter.unusedVariables false
namespace Go.Proofs.Ytbadjlhijbkbbaa
open Go Go.RowKit Sx
variable {S S' : Nat → Prop} {w : World} {g : Gram} {A A0 A1 A2 : Option Addr} {n c c0 c1 c2 : Nat}

theorem isNaNI (x : Int) : Calls Try.prog 168 [.int .i64 x].toArray w (Ret fun v w' => v = .bool false ∧ Ext w w') := by
  refine enter Try.func168 rfl Try.ntmps168 rfl ?_
  refine wk ?_
  refine Arr.ret1 rfl rfl ⟨?_, Ext.refl w⟩
  simp
theorem lessI (x y : Int) : Calls Try.prog 138 [.int .i64 x, .int .i64 y].toArray w (Ret fun v w' => v = .bool (decide (x < y)) ∧ Ext w w') := by
  refine enter Try.func138 rfl Try.ntmps138 rfl ?_
  refine wk ?_
  refine Wop.fn en168 rfl (isNaNI x) ?_
  rintro _ w1 ⟨rfl, e1⟩
  refine wk ?_
  exact Arr.ret1 rfl rfl ⟨rfl, e1⟩
def sortedB (xs : List Int) : Bool := decide (∀ j, j < xs.length - 1 → xs[j]?.getD 0 ≤ xs[j + 1]?.getD 0)
theorem isSortedI {xs : List Int} (h : tI.Row S w A n xs) : Calls Try.prog 92 [.slice A n c].toArray w (Ret fun v w' => v = .bool (sortedB xs) ∧ Ext w w') := by
  have hl := h.1
  have hm := h.2.1
  refine enter Try.func92 rfl Try.ntmps92 rfl ?_
  refine wk ?_
  refine W.loop (ι := Nat) (fun i => [(0, .slice A n c), (3, .int .i64 ((n : Int) - 1 - i))])
    (fun i w' => Ext w w' ∧ (i = 0 ∨ i < n) ∧ ∀ j, n - 1 - i ≤ j → j < n - 1 → xs[j]?.getD 0 ≤ xs[j + 1]?.getD 0) (fun i => n - i) 0 (by refine Has.cons rfl (Has.cons ?_ Has.nil); simp) ⟨Ext.refl w, .inl rfl, fun j h1 h2 => by omega⟩ ?_
  rintro i w1 ⟨hE, hi, hp⟩
  refine wk ?_
  refine W.test rfl (fun hlt => ?_) (fun hge => ?_)
  · have hlt : i + 1 < n := by omega
    obtain ⟨b, o, rfl, es, ⟨rfl, hs⟩, hc⟩ := h.at_ (n - 1 - i) (by omega)
    obtain ⟨b', o', hA, es', ⟨rfl, hs'⟩, hc'⟩ := h.at_ (n - 1 - i - 1) (by omega)
    cases hA
    have k1 := hE.cell (hc 0 _ rfl)
    have k2 := hE.cell (hc' 0 _ rfl)
    refine wk ?_
    refine W.any Ext [.eq _, .eq _, .eq _, .eq _, .eq _, .eq _, .eq _, .eq _, .eq _, .eq _] [9] mixed rfl Ext.refl Ext.trans Ext.drew ⟨qs, qs, by intro w_ hG; (repeat (intro v_ hv_; cases hv_)); exact WopG.plain rfl (Wop.ixI TT (n - 1 - i) rfl rfl rfl rfl rfl (by omega) (by omega) ⟨Ext.refl _, rfl⟩), qs, qs, qs, qs, by intro w_ hG; (repeat (intro v_ hv_; cases hv_)); exact WopG.plain rfl (Wop.ixI TT (n - 1 - i - 1) rfl rfl rfl rfl rfl (by omega) (by omega) ⟨Ext.refl _, rfl⟩), qs, by intro w_ hG; (repeat (intro v_ hv_; cases hv_)); exact WopG.plain rfl (Wop.fn en138 rfl (lessI _ _) (fun v w' h => ⟨h.2, h.1⟩)), trivial⟩ ?_
    rintro wq eq_ _ ⟨⟩
    refine wk ?_
    have g1 : xs[n - 1 - i]?.getD 0 = xs[n - 1 - i] := by rw [List.getElem?_eq_getElem (by omega)]; rfl
    have g2 : xs[n - 1 - i - 1]?.getD 0 = xs[n - 1 - i - 1] := by rw [List.getElem?_eq_getElem (by omega)]; rfl
    refine W.test rfl (fun hy => ?_) (fun hn => ?_)
    · refine wk ?_
      refine Arr.ret1 rfl rfl ⟨?_, hE.trans eq_⟩
      rw [sortedB, decide_eq_false]
      intro hall
      have := hall (n - 1 - i - 1) (by omega)
      rw [show n - 1 - i - 1 + 1 = n - 1 - i by omega, g1, g2] at this
      omega
    · refine wk ?_
      refine Arr.again (i + 1) (by refine Has.cons rfl (Has.cons ?_ Has.nil); simp; omega) ⟨hE.trans eq_, .inr hlt, ?_⟩ (by omega)
      intro j h1 h2
      rcases Nat.lt_or_ge j (n - 1 - i) with h3 | h3
      · obtain rfl : j = n - 1 - i - 1 := by omega
        rw [show n - 1 - i - 1 + 1 = n - 1 - i by omega, g1, g2]
        omega
      · exact hp j h3 h2
  · refine wk ?_
    refine Arr.ret1 rfl rfl ⟨?_, hE⟩
    rw [sortedB, decide_eq_true]
    intro j hj
    exact hp j (by omega) (by omega)

theorem idxI_first {α : Type} (p : α → Bool) (xs : List α) : (if idxI p xs < 0 then (xs.length : Int) else idxI p xs) = (xs.findIdx p : Nat) := by
  unfold idxI
  cases h : xs.findIdx? p with
  | some i =>
    have := List.findIdx?_eq_some_iff_findIdx_eq.1 h
    simp [this.2]
    omega
  | none =>
    have := List.findIdx?_eq_none_iff_findIdx_eq.1 h
    simp [this]
theorem orderedC {b : Nat} {s : Int} {u : TypeId} (hb : Blk w b #[.int .i64 s] u) : PredR 91 [.pointer (some ⟨b, 0, none⟩)] w (fun r => decide (r.left = s)) := by
  intro w0 e0 x v hv
  have hb0 := hb.ext e0
  obtain ⟨A, c, rfl, h⟩ := hv
  refine enter Try.func91 rfl Try.ntmps91 rfl ?_
  refine wk ?_; try (refine Wop.box rfl (fun w1 e1 b1 z1 => ?_); refine wk ?_)
  exact Arr.ret1 rfl rfl ⟨rfl, e1⟩
theorem gOrdered (hg : GramAt S w g A0 A1 A2 c0 c1 c2) : Calls Try.prog 34 [.agg (gcells g A0 A1 A2 c0 c1 c2).toArray].toArray w (Ret fun v w' => v = .bool g.ordered ∧ Ext w w') := by
  have hm0 := hg.terms.2.1
  have hm1 := hg.nons.2.1
  have hm2 := hg.rules.2.1
  refine enter Try.func34 rfl Try.ntmps34 rfl ?_
  refine wk ?_; try (refine Wop.box rfl (fun w1 e1 b1 z1 => ?_); refine wk ?_)
  have hg1 := hg.ext e1
  refine W.loop (ι := Nat × Value) (fun i => [(1, .pointer (some ⟨w.heap.size, 0, none⟩)), (9, .int .i64 (g.nons.length : Int)), (10, .int .i64 (i.1 : Int)), (3, i.2)])
    (fun i w' => Ext w1 w' ∧ i.1 ≤ g.nons.length ∧ OwnI w' w1.heap.size i.2 ((List.range i.1).map fun j => (g.nth1 j : Int))) (fun i => g.nons.length - i.1) (0, .slice none 0 0) has ⟨Ext.refl w1, Nat.zero_le _, Own.nil _ _ _ _⟩ ?_
  rintro ⟨i, v⟩ w' ⟨hE, hi, ho⟩
  simp only at hi ho ⊢
  refine wk ?_
  refine W.test rfl (fun hlt => ?_) (fun hge => ?_)
  · have hlt : i < g.nons.length := by omega
    refine wk ?_
    refine Wop.alloc (z := .int .i64 0) Try.zeroValue3 (fun w2 e2 b2 z2 => ?_)
    refine wk ?_
    refine Wop.stC TT rfl rfl rfl rfl b2 rfl (fun w3 g3 b3 z3 k3 => ?_)
    have e3 : Ext w' w3 := Below.trans e2 g3
    have e3' := hE.trans e3
    refine wk ?_
    refine Wop.fn en90 rfl (indexFuncR (cap := [.pointer (some ⟨w'.heap.size, 0, none⟩)]) (hg1.ext e3').rules en91 (orderedC b3)) ?_
    rintro _ w4 ⟨rfl, e4⟩
    have e4' := e3'.trans e4
    have e34 := e3.trans e4
    have hf : g.nth1 i ≤ g.rules.length := List.findIdx_le_length
    have hfirst := idxI_first (fun r : Rule => decide (r.left = (g.terms.length : Int) + 1 + i)) g.rules
    have hcast : ((g.terms.length + 1 : Nat) : Int) = g.terms.length + 1 := rfl
    refine wk ?_
    refine W.test rfl (fun hneg => ?_) (fun hpos => ?_)
    · refine wk ?_
      refine Wop.litI rfl (fun w5 e5 b5 z5 => ?_)
      refine wk ?_
      refine Wop.appI rfl rfl b5 (ho.ext (e34.trans e5)) (by have := (e4'.trans e5).size; omega) (by simp; omega) (fun v' w6 ho' hb' _ _ => ?_)
      refine wk ?_
      refine Arr.again (i := (i, v)) (i + 1, v') has ⟨hb' _ (e4'.trans e5), hlt, ?_⟩ (by omega)
      rw [hcast] at hneg
      rw [if_pos hneg] at hfirst
      rw [List.range_succ, List.map_append, List.map_singleton, Gram.nth1, Gram.first, ← hfirst]
      exact ho'
    · refine wk ?_
      refine Wop.litI rfl (fun w5 e5 b5 z5 => ?_)
      refine wk ?_
      refine Wop.appI rfl rfl b5 (ho.ext (e34.trans e5)) (by have := (e4'.trans e5).size; omega) (by simp; omega) (fun v' w6 ho' hb' _ _ => ?_)
      refine wk ?_
      refine Arr.again (i := (i, v)) (i + 1, v') has ⟨hb' _ (e4'.trans e5), hlt, ?_⟩ (by omega)
      rw [hcast] at hpos ho'
      rw [if_neg hpos] at hfirst
      rw [List.range_succ, List.map_append, List.map_singleton, Gram.nth1, Gram.first, ← hfirst]
      exact ho'
  · refine wk ?_
    have : i = g.nons.length := by omega
    subst this
    obtain ⟨A, c, rfl, hc, hr⟩ := OwnI.row (S := fun _ => True) ho (by simp; omega) (by
      intro x hx
      simp only [List.mem_map, List.mem_range] at hx
      obtain ⟨j, hj, rfl⟩ := hx
      have : g.nth1 j ≤ g.rules.length := List.findIdx_le_length
      exact ⟨by omega, by omega⟩) (fun _ _ => trivial)
    refine Wop.fn en92 rfl (isSortedI hr) ?_
    rintro _ w2 ⟨rfl, e2⟩
    refine wk ?_
    refine Arr.ret1 rfl rfl ⟨?_, e1.trans (hE.trans e2)⟩
    congr 1
    rw [sortedB, Gram.ordered]
    simp only [List.length_map, List.length_range]
    congr 1
    apply propext
    refine forall_congr' fun j => forall_congr' fun hj => ?_
    rw [List.getElem?_eq_getElem (by simp; omega), List.getElem?_eq_getElem (by simp; omega)]
    simp

theorem ofFrom_first (s : Int) : ∀ (l : List Rule) (k : Nat), match Gram.ofFrom s l k with
    | [] => l.findIdx (fun r => decide (r.left = s)) = l.length
    | x :: _ => x = k + l.findIdx (fun r => decide (r.left = s))
  | [], k => by simp [Gram.ofFrom]
  | r :: l, k => by
    have ih := ofFrom_first s l (k + 1)
    simp only [Gram.ofFrom]
    by_cases h : r.left = s
    · rw [if_pos h]
      simp [List.findIdx_cons, h]
    · rw [if_neg h]
      cases hx : Gram.ofFrom s l (k + 1) with
      | nil =>
        rw [hx] at ih
        simp only at ih ⊢
        rw [List.findIdx_cons, ih]
        simp [h]
      | cons x xs =>
        rw [hx] at ih
        simp only at ih ⊢
        rw [List.findIdx_cons, ih]
        simp [h]
        omega
theorem ofFrom_get0 {s : Int} {l : List Rule} {k : Nat} (h : 0 < (Gram.ofFrom s l k).length) : (Gram.ofFrom s l k)[0] = k + l.findIdx (fun r => decide (r.left = s)) := by
  have hf := ofFrom_first s l k
  revert h hf
  generalize Gram.ofFrom s l k = x
  intro h hf
  cases x with
  | nil => simp at h
  | cons y ys => exact hf
theorem ofFrom_empty {s : Int} {l : List Rule} {k : Nat} (h : ¬ 0 < (Gram.ofFrom s l k).length) : l.findIdx (fun r => decide (r.left = s)) = l.length := by
  have hf := ofFrom_first s l k
  revert h hf
  generalize Gram.ofFrom s l k = x
  intro h hf
  cases x with
  | nil => exact hf
  | cons y ys => simp at h
theorem rOrdered (hg : GramAt S w g A0 A1 A2 c0 c1 c2) : Calls Try.prog 35 [.agg (gcells g A0 A1 A2 c0 c1 c2).toArray].toArray w (Ret fun v w' => v = .bool g.ordered ∧ Ext w w') := by
  have hm0 := hg.terms.2.1
  have hm1 := hg.nons.2.1
  have hm2 := hg.rules.2.1
  refine enter Try.func35 rfl Try.ntmps35 rfl ?_
  refine wk ?_; try (refine Wop.box rfl (fun w1 e1 b1 z1 => ?_); refine wk ?_)
  have hg1 := hg.ext e1
  refine W.loop (ι := Nat) (fun i => [(1, .pointer (some ⟨w.heap.size, 0, none⟩)), (4, .int .i64 (i : Int)), (3, .int .i64 (if i = 0 then -1 else (g.nth1 (i - 1) : Int)))])
    (fun i w' => Ext w1 w' ∧ i ≤ g.nons.length ∧ ∀ j, j < i - 1 → g.nth1 j ≤ g.nth1 (j + 1)) (fun i => g.nons.length - i) 0 has ⟨Ext.refl w1, Nat.zero_le _, fun j h => by omega⟩ ?_
  rintro i w' ⟨hE, hi, hs⟩
  refine wk ?_
  refine W.test rfl (fun hlt => ?_) (fun hge => ?_)
  · have hlt : i < g.nons.length := by omega
    refine wk ?_
    refine Wop.fn en33 rfl (rOf (hg1.ext hE) ((g.terms.length + 1 : Nat) + (i : Int))) ?_
    rintro v w2 ⟨ho, e2⟩
    have e2' := hE.trans e2
    have hlen := ofFrom_length ((g.terms.length + 1 : Nat) + (i : Int)) g.rules 0
    have hin := ofFrom_lt ((g.terms.length + 1 : Nat) + (i : Int)) g.rules 0
    have hf : g.nth1 i ≤ g.rules.length := List.findIdx_le_length
    have hnth : g.nth1 i = g.rules.findIdx (fun r => decide (r.left = (g.terms.length + 1 : Nat) + (i : Int))) := rfl
    rw [Gram.of] at ho
    obtain ⟨A, c, rfl, hcap, hr⟩ := OwnI.row (S := fun _ => True) ho (by omega) (fun x hx => by have := hin x hx; exact ⟨by omega, by omega⟩) (fun _ _ => trivial)
    refine wk ?_
    have fin : ∀ (x : Int), x = (g.nth1 i : Int) → ¬ (x < (if i = 0 then -1 else (g.nth1 (i - 1) : Int))) → ∀ j, j < i + 1 - 1 → g.nth1 j ≤ g.nth1 (j + 1) := by
      intro x hx hn j hj
      rcases Nat.lt_or_ge j (i - 1) with h | h
      · exact hs j h
      · obtain rfl : j = i - 1 := by omega
        rw [if_neg (by omega)] at hn
        rw [show i - 1 + 1 = i by omega]
        omega
    have bad : ∀ (x : Int), x = (g.nth1 i : Int) → x < (if i = 0 then -1 else (g.nth1 (i - 1) : Int)) → g.ordered = false := by
      intro x hx hy
      rw [Gram.ordered, decide_eq_false]
      intro hall
      split at hy
      · omega
      · have := hall (i - 1) (by omega)
        rw [show i - 1 + 1 = i by omega] at this
        omega
    refine W.test rfl (fun hpos => ?_) (fun hzero => ?_)
    · have h0 : 0 < (Gram.ofFrom ((g.terms.length + 1 : Nat) + (i : Int)) g.rules 0).length := by omega
      obtain ⟨b, o, rfl, es, ⟨rfl, hsz⟩, hc⟩ := hr.at_ 0 h0
      have hx : (Gram.ofFrom ((g.terms.length + 1 : Nat) + (i : Int)) g.rules 0)[0] = (g.nth1 i : Int) := by
        rw [ofFrom_get0 h0, hnth]
        omega
      have hcell := hc 0 _ rfl
      refine wk ?_
      refine W.test rfl (fun hy => ?_) (fun hn => ?_)
      · refine wk ?_
        refine Arr.ret1 rfl rfl ⟨?_, e1.trans e2'⟩
        rw [bad _ hx hy]
      · refine wk ?_
        refine Arr.again (i + 1) (by refine Has.cons rfl (Has.cons rfl (Has.cons ?_ Has.nil)); rw [if_neg (Nat.succ_ne_zero i), Nat.add_sub_cancel, ← hx]; rfl) ⟨e2', hlt, fin _ hx hn⟩ (by omega)
    · have hx : (g.rules.length : Int) = (g.nth1 i : Int) := by
        rw [hnth, ofFrom_empty (k := 0) (by omega)]
      refine wk ?_
      refine W.test rfl (fun hy => ?_) (fun hn => ?_)
      · refine wk ?_
        refine Arr.ret1 rfl rfl ⟨?_, e1.trans e2'⟩
        rw [bad _ hx hy]
      · refine wk ?_
        refine Arr.again (i + 1) (by refine Has.cons rfl (Has.cons rfl (Has.cons ?_ Has.nil)); rw [if_neg (Nat.succ_ne_zero i), Nat.add_sub_cancel, ← hx]; rfl) ⟨e2', hlt, fin _ hx hn⟩ (by omega)
  · refine wk ?_
    refine Arr.ret1 rfl rfl ⟨?_, e1.trans hE⟩
    rw [Gram.ordered, decide_eq_true]
    intro j hj
    exact hs j (by omega)
end Go.Proofs.Ytbadjlhijbkbbaa
