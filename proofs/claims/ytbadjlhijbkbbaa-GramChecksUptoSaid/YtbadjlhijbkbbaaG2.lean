/-
  The rules of a left side; a rule by its number.
-/
import Derived.Test.YtbadjlhijbkbbaaG1
set_option linter.unusedVariables false
namespace Go.Proofs.Ytbadjlhijbkbbaa
open Go Go.RowKit Sx
variable {S : Nat → Prop} {w : World} {g : Gram} {A0 A1 A2 : Option Addr} {c0 c1 c2 : Nat}

theorem gOf (hg : GramAt S w g A0 A1 A2 c0 c1 c2) (s : Int) : Calls Try.prog 32 [.agg (gcells g A0 A1 A2 c0 c1 c2).toArray, .int .i64 s].toArray w (Ret fun v w' => OwnI w' w.heap.size v (g.of s) ∧ Ext w w') := by
  have hm := hg.rules.2.1
  refine enter Try.func32 rfl Try.ntmps32 rfl ?_
  refine wk ?_; try (refine Wop.box rfl (fun w1 e1 b1 z1 => ?_); refine wk ?_)
  have hg1 := hg.ext e1
  refine W.loop (ι := Nat × Value) (fun i => [(1, .int .i64 s), (9, .slice A2 g.rules.length c2), (10, .int .i64 (g.rules.length : Int)), (11, .int .i64 (i.1 : Int)), (5, i.2)])
    (fun i w' => Ext w1 w' ∧ i.1 ≤ g.rules.length ∧ OwnI w' w1.heap.size i.2 (Gram.ofFrom s (g.rules.take i.1) 0)) (fun i => g.rules.length - i.1) (0, .slice none 0 0) has ⟨Ext.refl w1, Nat.zero_le _, Own.nil _ _ _ _⟩ ?_
  rintro ⟨i, v⟩ w' ⟨hE, hi, ho⟩
  simp only at hi ho ⊢
  refine wk ?_
  refine W.test rfl (fun hlt => ?_) (fun hge => ?_)
  · have hlt : i < g.rules.length := by omega
    obtain ⟨b, o, rfl, es, hrd, hc⟩ := (hg1.rules.ext (by decide) hE).at_ i hlt
    obtain ⟨A, c, rfl, hcap, hl64, hrow⟩ := tRule_open hrd
    refine wk ?_
    refine Wop.alloc (z := .agg #[.int .i64 0, .slice none 0 0]) Try.zeroValue30 (fun w2 e2 b2 z2 => ?_)
    refine wk ?_
    refine Wop.stB TT rfl rfl rfl (by simp [Value.oneCell']) b2 rfl (fun w3 h3 b3 z3 k3 => ?_)
    have e3 : Ext w' w3 := Below.trans e2 h3
    refine wk ?_
    have hof := ofFrom_length s (g.rules.take i) 0
    rw [List.length_take] at hof
    refine W.test rfl (fun heq => ?_) (fun hne => ?_)
    · refine wk ?_
      refine Wop.litI rfl (fun w4 e4 b4 z4 => ?_)
      refine wk ?_
      refine Wop.appI rfl rfl b4 (ho.ext (e3.trans e4)) (by have := (hE.trans (e3.trans e4)).size; omega) (by omega) (fun v' w5 ho' hb' _ _ => ?_)
      refine wk ?_
      refine Arr.again (i := (i, v)) (i + 1, v') has ⟨hb' _ (hE.trans (e3.trans e4)), hlt, ?_⟩ (by omega)
      rw [of_take g s i hlt, if_pos heq]
      exact ho'
    · refine wk ?_
      refine Arr.again (i := (i, v)) (i + 1, v) has ⟨hE.trans e3, hlt, ?_⟩ (by omega)
      rw [of_take g s i hlt, if_neg hne, List.append_nil]
      exact ho.ext e3
  · refine wk ?_
    have : i = g.rules.length := by omega
    subst this
    rw [List.take_length] at ho
    exact Arr.ret1 rfl rfl ⟨ho.lower (by omega), e1.trans hE⟩
end Go.Proofs.Ytbadjlhijbkbbaa
