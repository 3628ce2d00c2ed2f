/-
  The walk of GramChecks.
-/
import Derived.Test.YtbadjlhijbkbbaaLw6
set_option linter.unusedVariables false
namespace Go.Proofs.Ytbadjlhijbkbbaa
open Go Go.RowKit Sx
variable {S S' : Nat → Prop} {w : World} {g h : Gram} {A0 A1 A2 B0 B1 B2 : Option Addr} {c0 c1 c2 d0 d1 d2 : Nat}
/-- Numbers in a row, wherever. -/
def someI (xs : List Int) : Fact Ext := ⟨fun v w => ∃ A c, v = .slice A xs.length c ∧ xs.length ≤ c ∧ tI.Row (fun _ => True) w A xs.length xs, fun e h => by
  obtain ⟨A, c, h1, h2, h3⟩ := h
  exact ⟨A, c, h1, h2, h3.ext (by decide) e⟩⟩
theorem OwnI.some {w : World} {base : Nat} {v : Value} {xs : List Int} (h : OwnI w base v xs) (hm : xs.length ≤ 1099511627776) (hr : ∀ x ∈ xs, I64 x) : (someI xs).p v w := OwnI.row (S := fun _ => True) h hm hr (fun _ _ => trivial)
theorem Gram.of_small {g : Gram} (h : g.rules.length ≤ 1099511627776) (s : Int) : (g.of s).length ≤ 1099511627776 ∧ ∀ x ∈ g.of s, I64 x := by
  have h1 := ofFrom_length s g.rules 0
  refine ⟨Nat.le_trans h1 h, fun x hx => ?_⟩
  have := ofFrom_lt s g.rules 0 x hx
  exact ⟨by omega, by omega⟩
set_option maxRecDepth 20000 in
theorem lawChecks (hg : GramAt S w g A0 A1 A2 c0 c1 c2) (s i : Int) (name : ByteArray) (hn : name.size ≤ 140737488355328) : Calls Try.prog 3 [.agg (gcells g A0 A1 A2 c0 c1 c2).toArray, .int .i64 s, .int .i64 i, .string name].toArray w (Ret fun v w' => v = .bool true ∧ Ext w w') := by
  have h2 := hg.rules.2.1
  refine enter Try.func3 rfl Try.ntmps3 rfl ?_
  refine wk ?_
  refine Wop.box rfl (fun w1 e1 b1 z1 => ?_)
  have hg1 := hg.ext e1
  have out : ∀ w', Ext w1 w' → Value.bool true = .bool true ∧ Ext w w' := fun w' e => ⟨rfl, e1.trans e⟩
  refine wk ?_
  refine Wop.fn en14 rfl (gMuch hg1) ?_
  rintro _ w2 ⟨rfl, e2⟩
  refine wk ?_
  refine Wl.part rfl rfl rfl (fun p => ?_) (fun p => ?_)
  · refine wk ?_
    refine Wop.fn en15 rfl awake6 ?_
    rintro _ w5 ⟨rfl, e5⟩
    refine wk ?_
    exact Arr.ret1 rfl rfl (out _ (e2.trans e5))
  have hs : g.names.length ≤ 1099511627776 := by
    simp only [Gram.much] at p
    simp only [Gram.names, List.length_append]
    omega
  refine wk ?_
  refine W.test rfl (fun q => ?_) (fun q => ?_)
  · refine wk ?_
    refine Wop.fn en15 rfl awake6 ?_
    rintro _ w5 ⟨rfl, e5⟩
    refine wk ?_
    exact Arr.ret1 rfl rfl (out _ (e2.trans e5))
  refine wk ?_
  refine Wop.fn en16 rfl (gRule (hg1.ext e2) i) ?_
  rintro _ w3 ⟨⟨u, rfl, hu⟩, e3⟩
  have e3' := e2.trans e3
  obtain ⟨A, c, rfl, hc, hl, hr⟩ := hu
  refine wk ?_
  refine Wop.alloc (z := .agg #[.int .i64 0, .slice none 0 0]) Try.zeroValue30 (fun w4 e4 b4 z4 => ?_)
  refine wk ?_
  refine Wop.stB TT rfl rfl rfl (by simp [Value.oneCell']) b4 rfl (fun w5 h5 b5 z5 k5 => ?_)
  have e35 : Ext w3 w5 := Below.trans e4 h5
  have e5' := e3'.trans e35
  refine wk ?_
  refine Wop.fn en17 rfl (rRule (hg1.ext e5') i) ?_
  rintro _ w6 ⟨⟨u, rfl, hu⟩, e6⟩
  have e6' := e5'.trans e6
  have b6 := b5.ext e6
  have hr6 := hr.ext (by decide) (e35.trans e6)
  obtain ⟨B, c', rfl, hc', hl', hr'⟩ := hu
  refine wk ?_
  refine Wop.alloc (z := .agg #[.int .i64 0, .slice none 0 0]) Try.zeroValue30 (fun w7 e7 b7 z7 => ?_)
  refine wk ?_
  refine Wop.stB TT rfl rfl rfl (by simp [Value.oneCell']) b7 rfl (fun w8 h8 b8 z8 k8 => ?_)
  have e68 : Ext w6 w8 := Below.trans e7 h8
  have e8' := e6'.trans e68
  have b58 := b6.ext e68
  have hg8 := hg1.ext e8'
  have b18 := b1.ext e8'
  have v1 : VR w8 (g.rule i).2 _ := ⟨A, c, rfl, hc, hl, hr6.ext (by decide) e68⟩
  have v2 : VR w8 (g.rule i).2 _ := ⟨B, c', rfl, hc', hl', hr'.ext (by decide) e68⟩
  refine wk ?_
  refine W.any Ext (.eq _ :: .eq _ :: .eq _ :: .eq _ :: .eq _ :: .eq _ :: .eq _ :: .eq _ :: .eq _ :: .eq _ :: .eq _ :: .eq _ :: .eq _ :: .eq _ :: .eq _ :: .eq _ :: .eq _ :: .eq _ :: .eq _ :: .eq _ :: .eq _ :: .eq _ :: .eq _ :: .eq _ :: .eq _ :: .eq _ :: .eq _ :: .eq _ :: .eq _ :: .eq _ :: .eq _ :: .eq _ :: .eq _ :: .eq _ :: .eq _ :: .eq _ :: .eq _ :: .eq _ :: .eq _ :: .eq _ :: .eq _ :: []) [40] mixed rfl Ext.refl Ext.trans Ext.drew ⟨qs, by intro w_ hG; (repeat (intro v_ hv_; cases hv_)); exact WopG.plain rfl (Wop.fn en18 rfl (gCheck (hg8.ext hG)) (fun v w' h => ⟨h.2, h.1⟩)), qs, by intro w_ hG; (repeat (intro v_ hv_; cases hv_)); exact WopG.plain rfl (Wop.fn en19 rfl (rCheck (hg8.ext hG)) (fun v w' h => ⟨h.2, h.1⟩)), by intro w_ hG; (repeat (intro v_ hv_; cases hv_)); exact WopG.plain rfl (Wop.pure TT rfl ⟨Ext.refl _, neV _⟩), qs, qs, by intro w_ hG; (repeat (intro v_ hv_; cases hv_)); exact WopG.yes rfl rfl rfl rfl (Wop.fn en20 rfl (gTop (hg8.ext hG)) (fun v w' h => ⟨h.2, h.1⟩)), qs, by intro w_ hG; (repeat (intro v_ hv_; cases hv_)); exact WopG.yes rfl rfl rfl rfl (Wop.fn en21 rfl (rTop (hg8.ext hG)) (fun v w' h => ⟨h.2, h.1⟩)), by intro w_ hG; (repeat (intro v_ hv_; cases hv_)); exact WopG.yes rfl rfl rfl rfl (Wop.pure TT rfl ⟨Ext.refl _, neV _⟩), qs, qs, qs, qs, by intro w_ hG; (repeat (intro v_ hv_; cases hv_)); exact WopG.yes rfl rfl rfl rfl (Wop.fn en22 rfl (gTerm _) (fun v w' h => ⟨h.2, h.1⟩)), qs, qs, by intro w_ hG; (repeat (intro v_ hv_; cases hv_)); exact WopG.yes rfl rfl rfl rfl (Wop.fn en23 rfl (rTerm _) (fun v w' h => ⟨h.2, h.1⟩)), by intro w_ hG; (repeat (intro v_ hv_; cases hv_)); exact WopG.yes rfl rfl rfl rfl (Wop.pure TT rfl ⟨Ext.refl _, nbV _⟩), qs, qs, qs, qs, by intro w_ hG; (repeat (intro v_ hv_; cases hv_)); exact WopG.yes rfl rfl rfl rfl (Wop.fn en24 rfl (gNon (hg8.ext hG) _) (fun v w' h => ⟨h.2, h.1⟩)), qs, qs, by intro w_ hG; (repeat (intro v_ hv_; cases hv_)); exact WopG.yes rfl rfl rfl rfl (Wop.fn en25 rfl (rNon (hg8.ext hG) _) (fun v w' h => ⟨h.2, h.1⟩)), by intro w_ hG; (repeat (intro v_ hv_; cases hv_)); exact WopG.yes rfl rfl rfl rfl (Wop.pure TT rfl ⟨Ext.refl _, nbV _⟩), qs, qs, qs, qs, by intro w_ hG; (repeat (intro v_ hv_; cases hv_)); exact WopG.yes rfl rfl rfl rfl (Wop.pure TT rfl ⟨Ext.refl _, nbV _⟩), qs, qs, qs, qs, by intro w_ hG; (repeat (intro v_ hv_; cases hv_)); exact WopG.yes rfl rfl rfl rfl (Wop.fn en26 rfl (rSameRule (v1.ext hG) (v2.ext hG)) (fun v w' h => ⟨h.2, h.1.trans (eqV _)⟩)), qs, qs, trivial⟩ ?_
  rintro wq eq_ _ ⟨⟩
  refine wk ?_
  have e9 := e8'.trans eq_; clear eq_
  have hg9 := hg1.ext e9
  have b19 := b1.ext e9
  have hof := Gram.of_small h2 s
  refine wk ?_
  refine W.any Ext (.eq _ :: .eq _ :: .eq _ :: .eq _ :: .eq _ :: .eq _ :: .eq _ :: .eq _ :: .eq _ :: .eq _ :: .eq _ :: .eq _ :: .eq _ :: .eq _ :: .eq _ :: .eq _ :: .eq _ :: .eq _ :: .eq _ :: (someI (g.of s)) :: .eq _ :: .eq _ :: (someI (g.of s)) :: .eq _ :: .eq _ :: .eq _ :: .eq _ :: .eq _ :: .eq _ :: .eq _ :: .eq _ :: .eq _ :: .eq _ :: .eq _ :: .eq _ :: .eq _ :: []) [35] mixed rfl Ext.refl Ext.trans Ext.drew ⟨qs, qs, by intro w_ hG; (repeat (intro v_ hv_; cases hv_)); exact WopG.plain rfl (Wop.fn en27 rfl (gName (hg9.ext hG) _) (fun v w' h => ⟨h.2, h.1⟩)), qs, qs, by intro w_ hG; (repeat (intro v_ hv_; cases hv_)); exact WopG.plain rfl (Wop.fn en28 rfl (rName (hg9.ext hG) hs _) (fun v w' h => ⟨h.2, h.1⟩)), by intro w_ hG; (repeat (intro v_ hv_; cases hv_)); exact WopG.plain rfl (Wop.pure TT rfl ⟨Ext.refl _, eqV _⟩), qs, qs, qs, by intro w_ hG; (repeat (intro v_ hv_; cases hv_)); exact WopG.yes rfl rfl rfl rfl (Wop.fn en29 rfl (gFind (hg9.ext hG) _ hn) (fun v w' h => ⟨h.2, h.1⟩)), qs, qs, by intro w_ hG; (repeat (intro v_ hv_; cases hv_)); exact WopG.yes rfl rfl rfl rfl (Wop.fn en30 rfl (rFind (hg9.ext hG) hs _ hn) (fun v w' h => ⟨h.2, h.1⟩)), by intro w_ hG; (repeat (intro v_ hv_; cases hv_)); exact WopG.yes rfl rfl rfl rfl (Wop.pure TT rfl ⟨Ext.refl _, eqV _⟩), qs, qs, qs, qs, by intro w_ hG; (repeat (intro v_ hv_; cases hv_)); exact WopG.yes rfl rfl rfl rfl (Wop.fn en32 rfl (gOf (hg9.ext hG) _) (fun v w' h => ⟨h.2, h.1.some hof.1 hof.2⟩)), qs, qs, by intro w_ hG; (repeat (intro v_ hv_; cases hv_)); exact WopG.yes rfl rfl rfl rfl (Wop.fn en33 rfl (rOf (hg9.ext hG) _) (fun v w' h => ⟨h.2, h.1.some hof.1 hof.2⟩)), by intro w_ hG v1 h1 v2 h2 v3 h3; cases h3; obtain ⟨A1, k1, rfl, _, r1⟩ := h1; obtain ⟨A2, k2, rfl, _, r2⟩ := h2; exact WopG.yes rfl rfl rfl rfl (Wop.fn en31 rfl (r6Ints r1 r2) (fun v w' h => ⟨h.2, h.1.trans (eqV _)⟩)), qs, qs, qs, by intro w_ hG; (repeat (intro v_ hv_; cases hv_)); exact WopG.yes rfl rfl rfl rfl (Wop.fn en34 rfl (gOrdered (hg9.ext hG)) (fun v w' h => ⟨h.2, h.1⟩)), qs, by intro w_ hG; (repeat (intro v_ hv_; cases hv_)); exact WopG.yes rfl rfl rfl rfl (Wop.fn en35 rfl (rOrdered (hg9.ext hG)) (fun v w' h => ⟨h.2, h.1⟩)), by intro w_ hG; (repeat (intro v_ hv_; cases hv_)); exact WopG.yes rfl rfl rfl rfl (Wop.pure TT rfl ⟨Ext.refl _, ebV _⟩), qs, qs, by intro w_ hG; (repeat (intro v_ hv_; cases hv_)); exact WopG.yes rfl rfl rfl rfl (Wop.fn en15 rfl awake6 (fun v w' h => ⟨h.2, h.1⟩)), qs, qs, trivial⟩ ?_
  rintro wq eq_ _ ⟨⟩
  refine wk ?_
  exact Arr.ret1 rfl rfl (out _ (e9.trans eq_))
end Go.Proofs.Ytbadjlhijbkbbaa
