/-
  gram.Check, walked.
-/
import Derived.Test.YtbadjlhijbkbbaaGck
set_option linter.unusedVariables false
namespace Go.Proofs.Ytbadjlhijbkbbaa
open Go Go.RowKit Sx
variable {S : Nat → Prop} {w : World} {g : Gram} {A A0 A1 A2 : Option Addr} {n c c0 c1 c2 : Nat}
theorem unlikeC {xs : List Rule} {i b1 b2 b3 : Nat} {u1 u2 u3 : TypeId} (hx : tRule.Row S w A n xs) (hi : i < xs.length) (h1 : Blk w b1 #[.func (.func 81) #[] #[]] u1) (h2 : Blk w b2 #[.slice A n c] u2) (h3 : Blk w b3 #[.int .i64 (i : Int)] u3) :
    PredR 134 [.pointer (some ⟨b1, 0, none⟩), .pointer (some ⟨b2, 0, none⟩), .pointer (some ⟨b3, 0, none⟩)] w (fun r => decide (r = xs[i])) := by
  intro w0 e0 x v hv
  obtain ⟨A', c', rfl, hx'⟩ := hv
  have k1 := h1.ext e0
  have k2 := h2.ext e0
  have k3 := h3.ext e0
  have hl := hx.1
  refine enter Try.func134 rfl Try.ntmps134 rfl ?_
  refine wk ?_
  refine Wop.box rfl (fun w1 e1 b1' z1 => ?_)
  have g1 := k1.ext e1
  have g2 := k2.ext e1
  have g3 := k3.ext e1
  obtain ⟨b, o, rfl, es, hrd, hc⟩ := (hx.ext (by decide) (e0.trans e1)).at_ i hi
  obtain ⟨P, cp, rfl, q1, q2, q3⟩ := tRule_open hrd
  have v1 : VR w1 x _ := VR.ext e1 ⟨A', c', rfl, hx'⟩
  have v2 : VR w1 xs[i] _ := ⟨P, cp, rfl, q1, q2, q3.mono (fun _ _ => trivial)⟩
  refine wk ?_
  refine W.any Ext [.eq _, .eq _, .eq _, .eq _, .eq _, .eq _, .eq _, .eq _] [7] mixed rfl Ext.refl Ext.trans Ext.drew ⟨qs, qs, qs, qs, qs, qs, by intro w_ hG; (repeat (intro v_ hv_; cases hv_)); exact WopG.plain rfl (Wop.fnV (cap := []) en81 rfl rfl (gSameRule (v1.ext hG) (v2.ext hG)) (fun v w' h => ⟨h.2, h.1⟩)), qs, trivial⟩ ?_
  rintro wq eq_ _ ⟨⟩
  refine wk ?_
  exact Arr.ret1 rfl rfl ⟨rfl, e1.trans eq_⟩
theorem gunlike {xs : List Rule} (hx : tRule.Row S w A n xs) (hn : n ≤ c) : Calls Try.prog 80 [.slice A n c, .func (.func 81) #[] #[]].toArray w (Ret fun v w' => v = .bool (decide xs.Nodup) ∧ Ext w w') := by
  have hl := hx.1
  have hm := hx.2.1
  refine enter Try.func80 rfl Try.ntmps80 rfl ?_
  refine wk ?_
  refine Wop.box rfl (fun w1 e1 b1 z1 => ?_)
  refine wk ?_
  refine Wop.box rfl (fun w2 e2 b2 z2 => ?_)
  have e12 := e1.trans e2
  refine wk ?_
  refine W.loop (ι := Nat) (fun i => [(2, .pointer (some ⟨w.heap.size, 0, none⟩)), (3, .pointer (some ⟨w1.heap.size, 0, none⟩)), (7, .int .i64 (n : Int)), (8, .int .i64 (i : Int))])
    (fun i w' => Ext w2 w' ∧ i ≤ n ∧ (xs.take i).Nodup) (fun i => n - i) 0 has ⟨Ext.refl w2, Nat.zero_le _, by simp⟩ ?_
  rintro i w' ⟨hE, hi, hp⟩
  refine wk ?_
  refine W.test rfl (fun hlt => ?_) (fun hge => ?_)
  · have hlt : i < n := by omega
    have hlt' : i < xs.length := by omega
    refine wk ?_
    refine Wop.alloc (z := .int .i64 0) Try.zeroValue3 (fun w3 e3 b3 z3 => ?_)
    refine wk ?_
    refine Wop.stC TT rfl rfl rfl rfl b3 rfl (fun w4 g4 b4 z4 k4 => ?_)
    have e4 : Ext w' w4 := Below.trans e3 g4
    have e4' := hE.trans e4
    have e24 := e2.trans e4'
    have bb1 := b1.ext e24
    have bb2 := b2.ext e4'
    have hx4 := hx.ext (by decide) (e12.trans e4')
    refine wk ?_
    refine Wop.sliceTo TT (h := i) rfl rfl rfl rfl rfl rfl (by omega) ?_
    refine wk ?_
    refine Wop.fn en125 rfl (containsFuncR (hx4.take i (by omega)) en134 (cap := [.pointer (some ⟨w1.heap.size, 0, none⟩), .pointer (some ⟨w.heap.size, 0, none⟩), .pointer (some ⟨w'.heap.size, 0, none⟩)]) (unlikeC hx4 hlt' bb2 bb1 b4)) ?_
    rintro _ w5 ⟨rfl, e5⟩
    have hmem : (xs.take i).any (fun r => decide (r = xs[i])) = true ↔ xs[i] ∈ xs.take i := by
      simp only [List.any_eq_true, decide_eq_true_eq]
      exact ⟨fun ⟨x, hx, e⟩ => e ▸ hx, fun h => ⟨_, h, rfl⟩⟩
    refine wk ?_
    refine W.cond rfl (fun hy => ?_) (fun hno => ?_)
    · refine wk ?_
      refine Arr.ret1 rfl rfl ⟨congrArg Value.bool (decide_eq_false (fun hd => ?_)).symm, e12.trans (e4'.trans e5)⟩
      exact ((nodup_step hlt').1 (nodup_take hd (i + 1))).2 (hmem.1 hy)
    · refine wk ?_
      exact Arr.again (i + 1) has ⟨e4'.trans e5, hlt, (nodup_step hlt').2 ⟨hp, fun h => by rw [hmem.2 h] at hno; cases hno⟩⟩ (by omega)
  · refine wk ?_
    refine Arr.ret1 rfl rfl ⟨congrArg Value.bool (decide_eq_true ?_).symm, e12.trans hE⟩
    rwa [List.take_of_length_le (by omega)] at hp
end Go.Proofs.Ytbadjlhijbkbbaa
