/-
  The walks of the first layer's laws.
-/
import Derived.Test.YtbadjlhijbkbbaaAw6
import Derived.Test.YtbadjlhijbkbbaaMuch
import Derived.Test.YtbadjlhijbkbbaaG7
set_option linter.unusedVariables false
namespace Go.Proofs.Ytbadjlhijbkbbaa
open Go Go.RowKit Sx
variable {S S' : Nat → Prop} {w : World} {g h : Gram} {A0 A1 A2 B0 B1 B2 : Option Addr} {c0 c1 c2 d0 d1 d2 : Nat}
theorem lawSame (hg : GramAt S w g A0 A1 A2 c0 c1 c2) (hh : GramAt S' w h B0 B1 B2 d0 d1 d2) : Calls Try.prog 5 [.agg (gcells g A0 A1 A2 c0 c1 c2).toArray, .agg (gcells h B0 B1 B2 d0 d1 d2).toArray].toArray w (Ret fun v w' => v = .bool true ∧ Ext w w') := by
  refine enter Try.func5 rfl Try.ntmps5 rfl ?_
  refine wk ?_
  refine Wop.box rfl (fun w1 e1 b1 z1 => ?_)
  refine wk ?_
  refine Wop.box rfl (fun w2 e2 b2 z2 => ?_)
  have e12 := e1.trans e2
  have hg2 := hg.ext e12
  have hh2 := hh.ext e12
  refine wk ?_
  refine Wop.fn en14 rfl (gMuch hg2) ?_
  rintro _ w3 ⟨rfl, e3⟩
  have e23 := e2.trans e3
  have out : ∀ w', Ext w2 w' → Value.bool true = .bool true ∧ Ext w w' := fun w' e => ⟨rfl, e12.trans e⟩
  refine wk ?_
  refine Wl.part rfl rfl rfl (fun p => ?_) (fun p => ?_)
  · refine wk ?_
    refine Wop.fn en15 rfl awake6 ?_
    rintro _ w5 ⟨rfl, e5⟩
    refine wk ?_
    exact Arr.ret1 rfl rfl (out _ (e3.trans e5))
  · refine wk ?_
    refine Wop.fn en14 rfl (gMuch (hh2.ext e3)) ?_
    rintro _ w4 ⟨rfl, e4⟩
    have e34 := e3.trans e4
    have e24 := e2.trans e34
    refine wk ?_
    refine W.test rfl (fun q => ?_) (fun q => ?_)
    · refine wk ?_
      refine Wop.fn en15 rfl awake6 ?_
      rintro _ w5 ⟨rfl, e5⟩
      refine wk ?_
      exact Arr.ret1 rfl rfl (out _ (e34.trans e5))
    · have hg4 := hg2.ext e34
      have hh4 := hh2.ext e34
      have k1 := b1.ext e24
      have k2 := b2.ext e34
      refine wk ?_
      cases hd : decide (g = h) with
      | true =>
        refine W.any Ext [.eq _, .eq _, .eq _, .eq _, .eq _, .eq _, .eq _, .eq _, .eq _, .eq _, .eq _, .eq _, .eq _, .eq _, .eq _, .eq _] [15] mixed rfl Ext.refl Ext.trans Ext.drew ⟨qs, qs, by intro w_ hG; (repeat (intro v_ hv_; cases hv_)); exact WopG.plain rfl (Wop.fn en36 rfl (gSame (hg4.ext hG) (hh4.ext hG)) (fun v w' h => ⟨h.2, h.1.trans (congrArg Value.bool hd)⟩)), qs, qs, by intro w_ hG; (repeat (intro v_ hv_; cases hv_)); exact WopG.plain rfl (Wop.fn en37 rfl (rSame (hg4.ext hG) (hh4.ext hG)) (fun v w' h => ⟨h.2, h.1.trans (congrArg Value.bool hd)⟩)), qs, qs, qs, qs, by intro w_ hG; (repeat (intro v_ hv_; cases hv_)); exact WopG.yes rfl rfl rfl rfl (Wop.fn en36 rfl (gSame (hg4.ext hG) (hg4.ext hG)) (fun v w' h => ⟨h.2, h.1.trans (congrArg Value.bool (decide_eq_true rfl))⟩)), qs, qs, by intro w_ hG; (repeat (intro v_ hv_; cases hv_)); exact WopG.yes rfl rfl rfl rfl (Wop.fn en15 rfl awake6 (fun v w' h => ⟨h.2, h.1⟩)), qs, qs, trivial⟩ ?_
        rintro wq eq_ _ ⟨⟩
        refine wk ?_
        exact Arr.ret1 rfl rfl (out _ (e34.trans eq_))
      | false =>
        refine W.any Ext [.eq _, .eq _, .eq _, .eq _, .eq _, .eq _, .eq _, .eq _, .eq _, .eq _, .eq _, .eq _, .eq _, .eq _, .eq _, .eq _] [15] mixed rfl Ext.refl Ext.trans Ext.drew ⟨qs, qs, by intro w_ hG; (repeat (intro v_ hv_; cases hv_)); exact WopG.plain rfl (Wop.fn en36 rfl (gSame (hg4.ext hG) (hh4.ext hG)) (fun v w' h => ⟨h.2, h.1.trans (congrArg Value.bool hd)⟩)), qs, qs, by intro w_ hG; (repeat (intro v_ hv_; cases hv_)); exact WopG.plain rfl (Wop.fn en37 rfl (rSame (hg4.ext hG) (hh4.ext hG)) (fun v w' h => ⟨h.2, h.1.trans (congrArg Value.bool hd)⟩)), qs, qs, qs, qs, by intro w_ hG; (repeat (intro v_ hv_; cases hv_)); exact WopG.yes rfl rfl rfl rfl (Wop.fn en36 rfl (gSame (hg4.ext hG) (hg4.ext hG)) (fun v w' h => ⟨h.2, h.1.trans (congrArg Value.bool (decide_eq_true rfl))⟩)), qs, qs, by intro w_ hG; (repeat (intro v_ hv_; cases hv_)); exact WopG.yes rfl rfl rfl rfl (Wop.fn en15 rfl awake6 (fun v w' h => ⟨h.2, h.1⟩)), qs, qs, trivial⟩ ?_
        rintro wq eq_ _ ⟨⟩
        refine wk ?_
        exact Arr.ret1 rfl rfl (out _ (e34.trans eq_))
end Go.Proofs.Ytbadjlhijbkbbaa
