/-
  The classes of bytes, walked.
-/
import Derived.Test.YtbadjlhijbkbbaaStr
set_option linter.unusedVariables false
namespace Go.Proofs.Ytbadjlhijbkbbaa
open Go Go.RowKit Sx
section
variable {w : World}
set_option maxHeartbeats 2000000 in
theorem rClass (n : Int) : Calls Try.prog 178 [.int .u8 n].toArray w (Ret fun v w' => v = .int .i64 (cls n) ∧ Ext w w') := by
  refine enter Try.func178 rfl Try.ntmps178 rfl ?_
  repeat' (first | refine W.seq ?_ | refine W.region ?_ | refine Wl.step rfl ?_ | refine Wl.act ?_ | refine Wl.done ?_ | refine Arr.next ?_ | refine W.block ?_ | refine W.skip ?_ | refine W.ret ?_ | refine W.exit ?_ | refine Arr.then_ret ?_ | refine Arr.then_exit ?_ | refine Arr.block_ret ?_ | refine Arr.block_normal ?_ | refine Arr.block_exit ?_ | refine Arr.block_other rfl ?_ | refine W.yes rfl ?_ | refine W.no rfl ?_ | refine Wl.stepY rfl rfl rfl rfl ?_ | refine Wl.stepN rfl rfl rfl rfl rfl ?_ | refine Wl.stepU rfl rfl rfl rfl ?_ | refine Wop.pure TT rfl ?_ | refine Wop.ldB TT rfl rfl (by first | assumption | exact Blk.ext (by assumption) (by assumption)) rfl ?_ | refine Wop.ld TT rfl rfl (by first | assumption | exact Ext.cell (by assumption) (by assumption)) ?_ | refine Wop.ldA TT rfl rfl rfl (by first | assumption | exact Blk.ext (by assumption) (by assumption)) ?_ | refine Wop.ldR TT rfl rfl rfl (by first | assumption | exact cells_ext (by assumption) (by assumption)) ?_ | refine Wop.ix TT rfl rfl rfl rfl rfl (by first | assumption | omega) ?_ | refine Wop.inc rfl rfl (by omega) ?_ | refine Wop.add rfl rfl ⟨by omega, by omega⟩ ?_ | refine Wop.sub rfl rfl ⟨by omega, by omega⟩ ?_ | refine Wop.box rfl (fun w1 e1 b1 z1 => ?_) | refine Wl.part rfl rfl rfl (fun h_ => ?_) (fun h_ => ?_) | refine W.testR rfl (fun h_ => ?_) (fun h_ => ?_))
  all_goals (refine Arr.ret1 rfl rfl ⟨congrArg (Value.int .i64) ?_, Ext.refl w⟩; first | exact (cls0 (by omega)).symm | exact (cls1 (by omega)).symm | exact (cls2 (by omega)).symm | exact (cls3 (by omega)).symm | exact (cls4 (by omega)).symm | exact (cls5 (by omega)).symm | exact (cls6 (by omega)).symm | exact (cls7 (by omega)).symm | exact (cls8 (by omega) (by omega) (by omega) (by omega) (by omega) (by omega) (by omega) (by omega)).symm)
theorem letA {n : Int} (h : 48 ≤ n ∧ n ≤ 57) : (3 : Int) = if 48 ≤ n ∧ n ≤ 57 then 3 else if (97 ≤ n ∧ n ≤ 122) ∨ (65 ≤ n ∧ n ≤ 90) ∨ n = 95 then 4 else 8 := by rw [if_pos h]
theorem letB {n : Int} (h : ¬ (48 ≤ n ∧ n ≤ 57)) (h' : (97 ≤ n ∧ n ≤ 122) ∨ (65 ≤ n ∧ n ≤ 90) ∨ n = 95) : (4 : Int) = if 48 ≤ n ∧ n ≤ 57 then 3 else if (97 ≤ n ∧ n ≤ 122) ∨ (65 ≤ n ∧ n ≤ 90) ∨ n = 95 then 4 else 8 := by rw [if_neg h, if_pos h']
theorem letC {n : Int} (h : ¬ (48 ≤ n ∧ n ≤ 57)) (h' : ¬ ((97 ≤ n ∧ n ≤ 122) ∨ (65 ≤ n ∧ n ≤ 90) ∨ n = 95)) : (8 : Int) = if 48 ≤ n ∧ n ≤ 57 then 3 else if (97 ≤ n ∧ n ≤ 122) ∨ (65 ≤ n ∧ n ≤ 90) ∨ n = 95 then 4 else 8 := by rw [if_neg h, if_neg h']
theorem gletter (n : Int) (h0 : 0 ≤ n) (h1 : n < 256) : Calls Try.prog 176 [.int .u8 n].toArray w (Ret fun v w' => v = .int .i64 (if 48 ≤ n ∧ n ≤ 57 then 3 else if (97 ≤ n ∧ n ≤ 122) ∨ (65 ≤ n ∧ n ≤ 90) ∨ n = 95 then 4 else 8) ∧ Ext w w') := by
  have ho := or8_letter n h0 h1
  refine enter Try.func176 rfl Try.ntmps176 rfl ?_
  repeat' (first | refine W.seq ?_ | refine W.region ?_ | refine Wl.step rfl ?_ | refine Wl.act ?_ | refine Wl.done ?_ | refine Arr.next ?_ | refine W.block ?_ | refine W.skip ?_ | refine W.ret ?_ | refine W.exit ?_ | refine Arr.then_ret ?_ | refine Arr.then_exit ?_ | refine Arr.block_ret ?_ | refine Arr.block_normal ?_ | refine Arr.block_exit ?_ | refine Arr.block_other rfl ?_ | refine W.yes rfl ?_ | refine W.no rfl ?_ | refine Wl.stepY rfl rfl rfl rfl ?_ | refine Wl.stepN rfl rfl rfl rfl rfl ?_ | refine Wl.stepU rfl rfl rfl rfl ?_ | refine Wop.pure TT rfl ?_ | refine Wop.ldB TT rfl rfl (by first | assumption | exact Blk.ext (by assumption) (by assumption)) rfl ?_ | refine Wop.ld TT rfl rfl (by first | assumption | exact Ext.cell (by assumption) (by assumption)) ?_ | refine Wop.ldA TT rfl rfl rfl (by first | assumption | exact Blk.ext (by assumption) (by assumption)) ?_ | refine Wop.ldR TT rfl rfl rfl (by first | assumption | exact cells_ext (by assumption) (by assumption)) ?_ | refine Wop.ix TT rfl rfl rfl rfl rfl (by first | assumption | omega) ?_ | refine Wop.inc rfl rfl (by omega) ?_ | refine Wop.add rfl rfl ⟨by omega, by omega⟩ ?_ | refine Wop.sub rfl rfl ⟨by omega, by omega⟩ ?_ | refine Wop.box rfl (fun w1 e1 b1 z1 => ?_) | refine Wl.part rfl rfl rfl (fun h_ => ?_) (fun h_ => ?_) | refine W.testR rfl (fun h_ => ?_) (fun h_ => ?_))
  all_goals first
    | (refine Arr.ret1 rfl rfl ⟨congrArg (Value.int .i64) ?_, Ext.refl w⟩; first | exact letA (by omega) | exact letB (by omega) (by omega))
    | skip
  all_goals
    refine Wop.or8 rfl rfl ?_
    repeat' (first | refine W.seq ?_ | refine W.region ?_ | refine Wl.step rfl ?_ | refine Wl.act ?_ | refine Wl.done ?_ | refine Arr.next ?_ | refine W.block ?_ | refine W.skip ?_ | refine W.ret ?_ | refine W.exit ?_ | refine Arr.then_ret ?_ | refine Arr.then_exit ?_ | refine Arr.block_ret ?_ | refine Arr.block_normal ?_ | refine Arr.block_exit ?_ | refine Arr.block_other rfl ?_ | refine W.yes rfl ?_ | refine W.no rfl ?_ | refine Wl.stepY rfl rfl rfl rfl ?_ | refine Wl.stepN rfl rfl rfl rfl rfl ?_ | refine Wl.stepU rfl rfl rfl rfl ?_ | refine Wop.pure TT rfl ?_ | refine Wop.ldB TT rfl rfl (by first | assumption | exact Blk.ext (by assumption) (by assumption)) rfl ?_ | refine Wop.ld TT rfl rfl (by first | assumption | exact Ext.cell (by assumption) (by assumption)) ?_ | refine Wop.ldA TT rfl rfl rfl (by first | assumption | exact Blk.ext (by assumption) (by assumption)) ?_ | refine Wop.ldR TT rfl rfl rfl (by first | assumption | exact cells_ext (by assumption) (by assumption)) ?_ | refine Wop.ix TT rfl rfl rfl rfl rfl (by first | assumption | omega) ?_ | refine Wop.inc rfl rfl (by omega) ?_ | refine Wop.add rfl rfl ⟨by omega, by omega⟩ ?_ | refine Wop.sub rfl rfl ⟨by omega, by omega⟩ ?_ | refine Wop.box rfl (fun w1 e1 b1 z1 => ?_) | refine Wl.part rfl rfl rfl (fun h_ => ?_) (fun h_ => ?_) | refine W.testR rfl (fun h_ => ?_) (fun h_ => ?_))
  all_goals first
    | (refine Arr.ret1 rfl rfl ⟨congrArg (Value.int .i64) ?_, Ext.refl w⟩; exact letC (by omega) (by omega))
    | skip
  all_goals
    refine Wop.or8 rfl rfl ?_
    repeat' (first | refine W.seq ?_ | refine W.region ?_ | refine Wl.step rfl ?_ | refine Wl.act ?_ | refine Wl.done ?_ | refine Arr.next ?_ | refine W.block ?_ | refine W.skip ?_ | refine W.ret ?_ | refine W.exit ?_ | refine Arr.then_ret ?_ | refine Arr.then_exit ?_ | refine Arr.block_ret ?_ | refine Arr.block_normal ?_ | refine Arr.block_exit ?_ | refine Arr.block_other rfl ?_ | refine W.yes rfl ?_ | refine W.no rfl ?_ | refine Wl.stepY rfl rfl rfl rfl ?_ | refine Wl.stepN rfl rfl rfl rfl rfl ?_ | refine Wl.stepU rfl rfl rfl rfl ?_ | refine Wop.pure TT rfl ?_ | refine Wop.ldB TT rfl rfl (by first | assumption | exact Blk.ext (by assumption) (by assumption)) rfl ?_ | refine Wop.ld TT rfl rfl (by first | assumption | exact Ext.cell (by assumption) (by assumption)) ?_ | refine Wop.ldA TT rfl rfl rfl (by first | assumption | exact Blk.ext (by assumption) (by assumption)) ?_ | refine Wop.ldR TT rfl rfl rfl (by first | assumption | exact cells_ext (by assumption) (by assumption)) ?_ | refine Wop.ix TT rfl rfl rfl rfl rfl (by first | assumption | omega) ?_ | refine Wop.inc rfl rfl (by omega) ?_ | refine Wop.add rfl rfl ⟨by omega, by omega⟩ ?_ | refine Wop.sub rfl rfl ⟨by omega, by omega⟩ ?_ | refine Wop.box rfl (fun w1 e1 b1 z1 => ?_) | refine Wl.part rfl rfl rfl (fun h_ => ?_) (fun h_ => ?_) | refine W.testR rfl (fun h_ => ?_) (fun h_ => ?_))
  all_goals (refine Arr.ret1 rfl rfl ⟨congrArg (Value.int .i64) ?_, Ext.refl w⟩; first | exact letB (by omega) (by omega) | exact letC (by omega) (by omega))
set_option maxHeartbeats 2000000 in
theorem gClass (n : Int) (h0 : 0 ≤ n) (h1 : n < 256) : Calls Try.prog 159 [.int .u8 n].toArray w (Ret fun v w' => v = .int .i64 (cls n) ∧ Ext w w') := by
  refine enter Try.func159 rfl Try.ntmps159 rfl ?_
  repeat' (first | refine W.seq ?_ | refine W.region ?_ | refine Wl.step rfl ?_ | refine Wl.act ?_ | refine Wl.done ?_ | refine Arr.next ?_ | refine W.block ?_ | refine W.skip ?_ | refine W.ret ?_ | refine W.exit ?_ | refine Arr.then_ret ?_ | refine Arr.then_exit ?_ | refine Arr.block_ret ?_ | refine Arr.block_normal ?_ | refine Arr.block_exit ?_ | refine Arr.block_other rfl ?_ | refine W.yes rfl ?_ | refine W.no rfl ?_ | refine Wl.stepY rfl rfl rfl rfl ?_ | refine Wl.stepN rfl rfl rfl rfl rfl ?_ | refine Wl.stepU rfl rfl rfl rfl ?_ | refine Wop.pure TT rfl ?_ | refine Wop.ldB TT rfl rfl (by first | assumption | exact Blk.ext (by assumption) (by assumption)) rfl ?_ | refine Wop.ld TT rfl rfl (by first | assumption | exact Ext.cell (by assumption) (by assumption)) ?_ | refine Wop.ldA TT rfl rfl rfl (by first | assumption | exact Blk.ext (by assumption) (by assumption)) ?_ | refine Wop.ldR TT rfl rfl rfl (by first | assumption | exact cells_ext (by assumption) (by assumption)) ?_ | refine Wop.ix TT rfl rfl rfl rfl rfl (by first | assumption | omega) ?_ | refine Wop.inc rfl rfl (by omega) ?_ | refine Wop.add rfl rfl ⟨by omega, by omega⟩ ?_ | refine Wop.sub rfl rfl ⟨by omega, by omega⟩ ?_ | refine Wop.box rfl (fun w1 e1 b1 z1 => ?_) | refine Wl.part rfl rfl rfl (fun h_ => ?_) (fun h_ => ?_) | refine W.testR rfl (fun h_ => ?_) (fun h_ => ?_))
  all_goals first
    | (refine Arr.ret1 rfl rfl ⟨congrArg (Value.int .i64) ?_, Ext.refl w⟩; first | exact (cls0 (by omega)).symm | exact (cls1 (by omega)).symm | exact (cls2 (by omega)).symm | exact (cls3 (by omega)).symm | exact (cls4 (by omega)).symm | exact (cls5 (by omega)).symm | exact (cls6 (by omega)).symm | exact (cls7 (by omega)).symm | exact (cls8 (by omega) (by omega) (by omega) (by omega) (by omega) (by omega) (by omega) (by omega)).symm)
    | skip
  refine Wop.fn en176 rfl (gletter n h0 h1) ?_
  rintro _ w1 ⟨rfl, e1⟩
  refine wk ?_
  refine Arr.ret1 rfl rfl ⟨congrArg (Value.int .i64) ?_, e1⟩
  by_cases h3 : 48 ≤ n ∧ n ≤ 57
  · rw [if_pos h3]
    exact (cls3 h3).symm
  · rw [if_neg h3]
    by_cases h4 : (97 ≤ n ∧ n ≤ 122) ∨ (65 ≤ n ∧ n ≤ 90) ∨ n = 95
    · rw [if_pos h4]
      exact (cls4 h4).symm
    · rw [if_neg h4]
      exact (cls8 (by omega) (by omega) (by omega) h3 h4 (by omega) (by omega) (by omega)).symm
end
end Go.Proofs.Ytbadjlhijbkbbaa
