/-
  Whole grammars compared; the rest of the small functions.
-/
import Derived.Test.YtbadjlhijbkbbaaG6
set_option linter.unusedVariables false
namespace Go.Proofs.Ytbadjlhijbkbbaa
open Go Go.RowKit Sx
variable {S S' : Nat → Prop} {w : World} {g h : Gram} {A0 A1 A2 : Option Addr} {c0 c1 c2 : Nat} {B0 B1 B2 : Option Addr} {d0 d1 d2 : Nat}

theorem gSame (hg : GramAt S w g A0 A1 A2 c0 c1 c2) (hh : GramAt S' w h B0 B1 B2 d0 d1 d2) : Calls Try.prog 36 [.agg (gcells g A0 A1 A2 c0 c1 c2).toArray, .agg (gcells h B0 B1 B2 d0 d1 d2).toArray].toArray w (Ret fun v w' => v = .bool (decide (g = h)) ∧ Ext w w') := by
  refine enter Try.func36 rfl Try.ntmps36 rfl ?_
  refine wk ?_
  refine Wop.box rfl (fun w1 e1 b1 z1 => ?_)
  refine wk ?_
  refine Wop.box rfl (fun w2 e2 b2 z2 => ?_)
  have e12 := e1.trans e2
  refine wk ?_
  have hg1 := hg.ext e12
  have hh1 := hh.ext e12
  refine Wop.fn en93 rfl (equalS hg1.terms hh1.terms) ?_
  rintro _ w3 ⟨rfl, e3⟩
  have e23 := e2.trans e3
  refine wk ?_
  refine Wl.part rfl rfl rfl (fun p => ?_) (fun p => ?_)
  · refine wk ?_
    refine Wop.fn en93 rfl (equalS (hg1.ext e3).nons (hh1.ext e3).nons) ?_
    rintro _ w4 ⟨rfl, e4⟩
    have e34 := e3.trans e4
    have e24 := e2.trans e34
    refine wk ?_
    refine Wl.part rfl rfl rfl (fun p2 => ?_) (fun p2 => ?_)
    · refine wk ?_
      refine Wl.part rfl rfl rfl (fun p3 => ?_) (fun p3 => ?_)
      · refine wk ?_
        refine Wop.fn en94 rfl (equalR (hg1.ext e34).rules (hh1.ext e34).rules) ?_
        rintro _ w5 ⟨rfl, e5⟩
        refine wk ?_
        refine Arr.ret1 rfl rfl ⟨?_, e12.trans (e34.trans e5)⟩
        obtain ⟨t, n, r, s⟩ := g
        obtain ⟨t', n', r', s'⟩ := h
        simp only at p p2 p3
        simp [p, p2, p3]
      · refine wk ?_
        refine Arr.ret1 rfl rfl ⟨?_, e12.trans e34⟩
        rw [decide_eq_false]
        intro e
        exact p3 (by rw [e])
    · refine wk ?_
      refine Arr.ret1 rfl rfl ⟨?_, e12.trans e34⟩
      rw [decide_eq_false]
      intro e
      exact p2 (by rw [e])
  · refine wk ?_
    refine Arr.ret1 rfl rfl ⟨?_, e12.trans e3⟩
    rw [decide_eq_false]
    intro e
    exact p (by rw [e])
theorem rSame (hg : GramAt S w g A0 A1 A2 c0 c1 c2) (hh : GramAt S' w h B0 B1 B2 d0 d1 d2) : Calls Try.prog 37 [.agg (gcells g A0 A1 A2 c0 c1 c2).toArray, .agg (gcells h B0 B1 B2 d0 d1 d2).toArray].toArray w (Ret fun v w' => v = .bool (decide (g = h)) ∧ Ext w w') := by
  have m0 := hg.rules.2.1
  have m1 := hh.rules.2.1
  refine enter Try.func37 rfl Try.ntmps37 rfl ?_
  refine wk ?_
  refine Wop.box rfl (fun w1 e1 b1 z1 => ?_)
  refine wk ?_
  refine Wop.box rfl (fun w2 e2 b2 z2 => ?_)
  have e12 := e1.trans e2
  refine wk ?_
  have hg1 := hg.ext e12
  have hh1 := hh.ext e12
  refine Wop.fn en95 rfl (r4Same hg1.terms hh1.terms) ?_
  rintro _ w3 ⟨rfl, e3⟩
  have e23 := e2.trans e3
  refine wk ?_
  refine Wl.partB rfl rfl rfl (fun p => ?_) (fun p => ?_)
  · refine wk ?_
    refine Arr.ret1 rfl rfl ⟨?_, e12.trans e3⟩
    rw [decide_eq_false]
    intro e
    subst e
    simp at p
  · refine wk ?_
    refine Wop.fn en95 rfl (r4Same (hg1.ext e3).nons (hh1.ext e3).nons) ?_
    rintro _ w4 ⟨rfl, e4⟩
    have e34 := e3.trans e4
    have e24 := e2.trans e34
    refine wk ?_
    refine Wl.partB rfl rfl rfl (fun p2 => ?_) (fun p2 => ?_)
    · refine wk ?_
      refine Arr.ret1 rfl rfl ⟨?_, e12.trans e34⟩
      rw [decide_eq_false]
      intro e
      subst e
      simp at p2
    · refine wk ?_
      refine Wl.part rfl rfl rfl (fun p3 => ?_) (fun p3 => ?_)
      · refine wk ?_
        refine Arr.ret1 rfl rfl ⟨?_, e12.trans e34⟩
        rw [decide_eq_false]
        intro e
        exact p3 (by rw [e])
      · refine wk ?_
        refine W.test rfl (fun p4 => ?_) (fun p4 => ?_)
        · refine wk ?_
          refine Arr.ret1 rfl rfl ⟨?_, e12.trans e34⟩
          rw [decide_eq_false]
          intro e
          exact p4 (by rw [e])
        · refine wk ?_
          refine W.loop (ι := Nat) (fun i => [(2, .pointer (some ⟨w.heap.size, 0, none⟩)), (3, .pointer (some ⟨w1.heap.size, 0, none⟩)), (5, .int .i64 (i : Int))])
            (fun i w' => Ext w4 w' ∧ i ≤ g.rules.length ∧ ∀ j x, j < i → g.rules[j]? = some x → h.rules[j]? = some x) (fun i => g.rules.length - i) 0 has ⟨Ext.refl w4, Nat.zero_le _, fun j x hj => absurd hj (Nat.not_lt_zero j)⟩ ?_
          rintro i w5 ⟨hE, hi, hp⟩
          have b1' := b1.ext (e2.trans (e34.trans hE))
          have b2' := b2.ext (e34.trans hE)
          have hg5 := hg1.ext (e34.trans hE)
          have hh5 := hh1.ext (e34.trans hE)
          refine wk ?_
          refine Wl.part rfl rfl rfl (fun hlt => ?_) (fun hge => ?_)
          · have hlt : i < g.rules.length := by omega
            refine wk ?_
            refine W.test rfl (fun _ => ?_) (fun hc => absurd hc (by omega))
            obtain ⟨b, o, rfl, es, hrd, hc⟩ := hg5.rules.at_ i (by omega)
            obtain ⟨P, cp, rfl, h1, h2, h3⟩ := tRule_open hrd
            obtain ⟨b', o', rfl, es', hrd', hc'⟩ := hh5.rules.at_ i (by omega)
            obtain ⟨P', cp', rfl, h1', h2', h3'⟩ := tRule_open hrd'
            have v1 : VR w5 g.rules[i] _ := ⟨P, cp, rfl, h1, h2, h3.mono (fun _ _ => trivial)⟩
            have v2 : VR w5 h.rules[i] _ := ⟨P', cp', rfl, h1', h2', h3'.mono (fun _ _ => trivial)⟩
            refine wk ?_
            refine W.any Ext [.eq _, .eq _, .eq _, .eq _, .eq _, .eq _, .eq _, .eq _, .eq _, .eq _, .eq _, .eq _] [11] mixed rfl Ext.refl Ext.trans Ext.drew ⟨qs, qs, qs, qs, qs, qs, qs, qs, qs, qs, by intro w_ hG; (repeat (intro v_ hv_; cases hv_)); exact WopG.plain rfl (Wop.fn en26 rfl (rSameRule (v1.ext hG) (v2.ext hG)) (fun v w' h => ⟨h.2, h.1⟩)), qs, trivial⟩ ?_
            rintro wq eq_ _ ⟨⟩
            refine wk ?_
            refine W.cond rfl (fun hd => ?_) (fun hs => ?_)
            · refine wk ?_
              refine Arr.ret1 rfl rfl ⟨?_, e12.trans (e34.trans (hE.trans eq_))⟩
              rw [decide_eq_false]
              intro e
              subst e
              simp at hd
            · refine wk ?_
              refine Arr.again (i + 1) has ⟨hE.trans eq_, hlt, ?_⟩ (by omega)
              intro j x hj hx'
              rcases Nat.lt_or_ge j i with h1 | h1
              · exact hp j x h1 hx'
              · obtain rfl : j = i := by omega
                rw [List.getElem?_eq_getElem (by omega)] at hx' ⊢
                cases hx'
                simp at hs
                rw [hs]
          · refine wk ?_
            refine Arr.ret1 rfl rfl ⟨?_, e12.trans (e34.trans hE)⟩
            have hr : g.rules = h.rules := eq_of_takes (by omega) (fun j x hj => hp j x (by omega))
            obtain ⟨t, n, r, s⟩ := g
            obtain ⟨t', n', r', s'⟩ := h
            simp only [Bool.not_eq_eq_eq_not, Bool.not_false, decide_eq_true_eq, ne_eq, Decidable.not_not] at p p2 p3 hr
            simp [p, p2, p3, hr]
end Go.Proofs.Ytbadjlhijbkbbaa
