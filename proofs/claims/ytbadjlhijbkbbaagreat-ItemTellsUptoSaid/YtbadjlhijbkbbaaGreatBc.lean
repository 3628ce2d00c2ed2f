/-
  Joined by program out of the texts Cls Nam: lemmas for the proofs of this seat; no condition.
-/
import Derived.Test.YtbadjlhijbkbbaaGreatBb
/-
  The classes of bytes, walked.
-/
set_option linter.unusedVariables false
namespace Go.Proofs.YtbadjlhijbkbbaaGreat
open Go Go.RowKit Sx
section
variable {w : World}
set_option maxHeartbeats 2000000 in
theorem rClass (n : Int) : Calls Tryz.prog 215 [.int .u8 n].toArray w (Ret fun v w' => v = .int .i64 (cls n) ∧ Ext w w') := by
  refine enter Tryz.func215 rfl Tryz.ntmps215 rfl ?_
  repeat' (first | refine W.seq ?_ | refine W.region ?_ | refine Wl.step rfl ?_ | refine Wl.act ?_ | refine Wl.done ?_ | refine Arr.next ?_ | refine W.block ?_ | refine W.skip ?_ | refine W.ret ?_ | refine W.exit ?_ | refine Arr.then_ret ?_ | refine Arr.then_exit ?_ | refine Arr.block_ret ?_ | refine Arr.block_normal ?_ | refine Arr.block_exit ?_ | refine Arr.block_other rfl ?_ | refine W.yes rfl ?_ | refine W.no rfl ?_ | refine Wl.stepY rfl rfl rfl rfl ?_ | refine Wl.stepN rfl rfl rfl rfl rfl ?_ | refine Wl.stepU rfl rfl rfl rfl ?_ | refine Wop.pure TT rfl ?_ | refine Wop.ldB TT rfl rfl (by first | assumption | exact Blk.ext (by assumption) (by assumption)) rfl ?_ | refine Wop.ld TT rfl rfl (by first | assumption | exact Ext.cell (by assumption) (by assumption)) ?_ | refine Wop.ldA TT rfl rfl rfl (by first | assumption | exact Blk.ext (by assumption) (by assumption)) ?_ | refine Wop.ldR TT rfl rfl rfl (by first | assumption | exact cells_ext (by assumption) (by assumption)) ?_ | refine Wop.ix TT rfl rfl rfl rfl rfl (by first | assumption | omega) ?_ | refine Wop.inc rfl rfl (by omega) ?_ | refine Wop.add rfl rfl ⟨by omega, by omega⟩ ?_ | refine Wop.sub rfl rfl ⟨by omega, by omega⟩ ?_ | refine Wop.box rfl (fun w1 e1 b1 z1 => ?_) | refine Wl.part rfl rfl rfl (fun h_ => ?_) (fun h_ => ?_) | refine W.testR rfl (fun h_ => ?_) (fun h_ => ?_))
  all_goals (refine Arr.ret1 rfl rfl ⟨congrArg (Value.int .i64) ?_, Ext.refl w⟩; first | exact (cls0 (by omega)).symm | exact (cls1 (by omega)).symm | exact (cls2 (by omega)).symm | exact (cls3 (by omega)).symm | exact (cls4 (by omega)).symm | exact (cls5 (by omega)).symm | exact (cls6 (by omega)).symm | exact (cls7 (by omega)).symm | exact (cls8 (by omega) (by omega) (by omega) (by omega) (by omega) (by omega) (by omega) (by omega)).symm)
theorem letA {n : Int} (h : 48 ≤ n ∧ n ≤ 57) : (3 : Int) = if 48 ≤ n ∧ n ≤ 57 then 3 else if (97 ≤ n ∧ n ≤ 122) ∨ (65 ≤ n ∧ n ≤ 90) ∨ n = 95 then 4 else 8 := by rw [if_pos h]
theorem letB {n : Int} (h : ¬ (48 ≤ n ∧ n ≤ 57)) (h' : (97 ≤ n ∧ n ≤ 122) ∨ (65 ≤ n ∧ n ≤ 90) ∨ n = 95) : (4 : Int) = if 48 ≤ n ∧ n ≤ 57 then 3 else if (97 ≤ n ∧ n ≤ 122) ∨ (65 ≤ n ∧ n ≤ 90) ∨ n = 95 then 4 else 8 := by rw [if_neg h, if_pos h']
theorem letC {n : Int} (h : ¬ (48 ≤ n ∧ n ≤ 57)) (h' : ¬ ((97 ≤ n ∧ n ≤ 122) ∨ (65 ≤ n ∧ n ≤ 90) ∨ n = 95)) : (8 : Int) = if 48 ≤ n ∧ n ≤ 57 then 3 else if (97 ≤ n ∧ n ≤ 122) ∨ (65 ≤ n ∧ n ≤ 90) ∨ n = 95 then 4 else 8 := by rw [if_neg h, if_neg h']
theorem gletter (n : Int) (h0 : 0 ≤ n) (h1 : n < 256) : Calls Tryz.prog 226 [.int .u8 n].toArray w (Ret fun v w' => v = .int .i64 (if 48 ≤ n ∧ n ≤ 57 then 3 else if (97 ≤ n ∧ n ≤ 122) ∨ (65 ≤ n ∧ n ≤ 90) ∨ n = 95 then 4 else 8) ∧ Ext w w') := by
  have ho := or8_letter n h0 h1
  refine enter Tryz.func226 rfl Tryz.ntmps226 rfl ?_
  repeat' (first | refine W.seq ?_ | refine W.region ?_ | refine Wl.step rfl ?_ | refine Wl.act ?_ | refine Wl.done ?_ | refine Arr.next ?_ | refine W.block ?_ | refine W.skip ?_ | refine W.ret ?_ | refine W.exit ?_ | refine Arr.then_ret ?_ | refine Arr.then_exit ?_ | refine Arr.block_ret ?_ | refine Arr.block_normal ?_ | refine Arr.block_exit ?_ | refine Arr.block_other rfl ?_ | refine W.yes rfl ?_ | refine W.no rfl ?_ | refine Wl.stepY rfl rfl rfl rfl ?_ | refine Wl.stepN rfl rfl rfl rfl rfl ?_ | refine Wl.stepU rfl rfl rfl rfl ?_ | refine Wop.pure TT rfl ?_ | refine Wop.ldB TT rfl rfl (by first | assumption | exact Blk.ext (by assumption) (by assumption)) rfl ?_ | refine Wop.ld TT rfl rfl (by first | assumption | exact Ext.cell (by assumption) (by assumption)) ?_ | refine Wop.ldA TT rfl rfl rfl (by first | assumption | exact Blk.ext (by assumption) (by assumption)) ?_ | refine Wop.ldR TT rfl rfl rfl (by first | assumption | exact cells_ext (by assumption) (by assumption)) ?_ | refine Wop.ix TT rfl rfl rfl rfl rfl (by first | assumption | omega) ?_ | refine Wop.inc rfl rfl (by omega) ?_ | refine Wop.add rfl rfl ⟨by omega, by omega⟩ ?_ | refine Wop.sub rfl rfl ⟨by omega, by omega⟩ ?_ | refine Wop.box rfl (fun w1 e1 b1 z1 => ?_) | refine Wl.part rfl rfl rfl (fun h_ => ?_) (fun h_ => ?_) | refine W.testR rfl (fun h_ => ?_) (fun h_ => ?_))
  all_goals first
    | (refine Arr.ret1 rfl rfl ⟨congrArg (Value.int .i64) ?_, Ext.refl w⟩; first | exact letA (by omega) | exact letB (by omega) (by omega))
    | skip
  all_goals
    refine Wop.or8 rfl rfl ?_
    repeat' (first | refine W.seq ?_ | refine W.region ?_ | refine Wl.step rfl ?_ | refine Wl.act ?_ | refine Wl.done ?_ | refine Arr.next ?_ | refine W.block ?_ | refine W.skip ?_ | refine W.ret ?_ | refine W.exit ?_ | refine Arr.then_ret ?_ | refine Arr.then_exit ?_ | refine Arr.block_ret ?_ | refine Arr.block_normal ?_ | refine Arr.block_exit ?_ | refine Arr.block_other rfl ?_ | refine W.yes rfl ?_ | refine W.no rfl ?_ | refine Wl.stepY rfl rfl rfl rfl ?_ | refine Wl.stepN rfl rfl rfl rfl rfl ?_ | refine Wl.stepU rfl rfl rfl rfl ?_ | refine Wop.pure TT rfl ?_ | refine Wop.ldB TT rfl rfl (by first | assumption | exact Blk.ext (by assumption) (by assumption)) rfl ?_ | refine Wop.ld TT rfl rfl (by first | assumption | exact Ext.cell (by assumption) (by assumption)) ?_ | refine Wop.ldA TT rfl rfl rfl (by first | assumption | exact Blk.ext (by assumption) (by assumption)) ?_ | refine Wop.ldR TT rfl rfl rfl (by first | assumption | exact cells_ext (by assumption) (by assumption)) ?_ | refine Wop.ix TT rfl rfl rfl rfl rfl (by first | assumption | omega) ?_ | refine Wop.inc rfl rfl (by omega) ?_ | refine Wop.add rfl rfl ⟨by omega, by omega⟩ ?_ | refine Wop.sub rfl rfl ⟨by omega, by omega⟩ ?_ | refine Wop.box rfl (fun w1 e1 b1 z1 => ?_) | refine Wl.part rfl rfl rfl (fun h_ => ?_) (fun h_ => ?_) | refine W.testR rfl (fun h_ => ?_) (fun h_ => ?_))
  all_goals first
    | (refine Arr.ret1 rfl rfl ⟨congrArg (Value.int .i64) ?_, Ext.refl w⟩; exact letC (by omega) (by omega))
    | skip
  all_goals
    refine Wop.or8 rfl rfl ?_
    repeat' (first | refine W.seq ?_ | refine W.region ?_ | refine Wl.step rfl ?_ | refine Wl.act ?_ | refine Wl.done ?_ | refine Arr.next ?_ | refine W.block ?_ | refine W.skip ?_ | refine W.ret ?_ | refine W.exit ?_ | refine Arr.then_ret ?_ | refine Arr.then_exit ?_ | refine Arr.block_ret ?_ | refine Arr.block_normal ?_ | refine Arr.block_exit ?_ | refine Arr.block_other rfl ?_ | refine W.yes rfl ?_ | refine W.no rfl ?_ | refine Wl.stepY rfl rfl rfl rfl ?_ | refine Wl.stepN rfl rfl rfl rfl rfl ?_ | refine Wl.stepU rfl rfl rfl rfl ?_ | refine Wop.pure TT rfl ?_ | refine Wop.ldB TT rfl rfl (by first | assumption | exact Blk.ext (by assumption) (by assumption)) rfl ?_ | refine Wop.ld TT rfl rfl (by first | assumption | exact Ext.cell (by assumption) (by assumption)) ?_ | refine Wop.ldA TT rfl rfl rfl (by first | assumption | exact Blk.ext (by assumption) (by assumption)) ?_ | refine Wop.ldR TT rfl rfl rfl (by first | assumption | exact cells_ext (by assumption) (by assumption)) ?_ | refine Wop.ix TT rfl rfl rfl rfl rfl (by first | assumption | omega) ?_ | refine Wop.inc rfl rfl (by omega) ?_ | refine Wop.add rfl rfl ⟨by omega, by omega⟩ ?_ | refine Wop.sub rfl rfl ⟨by omega, by omega⟩ ?_ | refine Wop.box rfl (fun w1 e1 b1 z1 => ?_) | refine Wl.part rfl rfl rfl (fun h_ => ?_) (fun h_ => ?_) | refine W.testR rfl (fun h_ => ?_) (fun h_ => ?_))
  all_goals (refine Arr.ret1 rfl rfl ⟨congrArg (Value.int .i64) ?_, Ext.refl w⟩; first | exact letB (by omega) (by omega) | exact letC (by omega) (by omega))
set_option maxHeartbeats 2000000 in
theorem gClass (n : Int) (h0 : 0 ≤ n) (h1 : n < 256) : Calls Tryz.prog 208 [.int .u8 n].toArray w (Ret fun v w' => v = .int .i64 (cls n) ∧ Ext w w') := by
  refine enter Tryz.func208 rfl Tryz.ntmps208 rfl ?_
  repeat' (first | refine W.seq ?_ | refine W.region ?_ | refine Wl.step rfl ?_ | refine Wl.act ?_ | refine Wl.done ?_ | refine Arr.next ?_ | refine W.block ?_ | refine W.skip ?_ | refine W.ret ?_ | refine W.exit ?_ | refine Arr.then_ret ?_ | refine Arr.then_exit ?_ | refine Arr.block_ret ?_ | refine Arr.block_normal ?_ | refine Arr.block_exit ?_ | refine Arr.block_other rfl ?_ | refine W.yes rfl ?_ | refine W.no rfl ?_ | refine Wl.stepY rfl rfl rfl rfl ?_ | refine Wl.stepN rfl rfl rfl rfl rfl ?_ | refine Wl.stepU rfl rfl rfl rfl ?_ | refine Wop.pure TT rfl ?_ | refine Wop.ldB TT rfl rfl (by first | assumption | exact Blk.ext (by assumption) (by assumption)) rfl ?_ | refine Wop.ld TT rfl rfl (by first | assumption | exact Ext.cell (by assumption) (by assumption)) ?_ | refine Wop.ldA TT rfl rfl rfl (by first | assumption | exact Blk.ext (by assumption) (by assumption)) ?_ | refine Wop.ldR TT rfl rfl rfl (by first | assumption | exact cells_ext (by assumption) (by assumption)) ?_ | refine Wop.ix TT rfl rfl rfl rfl rfl (by first | assumption | omega) ?_ | refine Wop.inc rfl rfl (by omega) ?_ | refine Wop.add rfl rfl ⟨by omega, by omega⟩ ?_ | refine Wop.sub rfl rfl ⟨by omega, by omega⟩ ?_ | refine Wop.box rfl (fun w1 e1 b1 z1 => ?_) | refine Wl.part rfl rfl rfl (fun h_ => ?_) (fun h_ => ?_) | refine W.testR rfl (fun h_ => ?_) (fun h_ => ?_))
  all_goals first
    | (refine Arr.ret1 rfl rfl ⟨congrArg (Value.int .i64) ?_, Ext.refl w⟩; first | exact (cls0 (by omega)).symm | exact (cls1 (by omega)).symm | exact (cls2 (by omega)).symm | exact (cls3 (by omega)).symm | exact (cls4 (by omega)).symm | exact (cls5 (by omega)).symm | exact (cls6 (by omega)).symm | exact (cls7 (by omega)).symm | exact (cls8 (by omega) (by omega) (by omega) (by omega) (by omega) (by omega) (by omega) (by omega)).symm)
    | skip
  refine Wop.fn en226 rfl (gletter n h0 h1) ?_
  rintro _ w1 ⟨rfl, e1⟩
  refine wk ?_
  refine Arr.ret1 rfl rfl ⟨congrArg (Value.int .i64) ?_, e1⟩
  by_cases h3 : 48 ≤ n ∧ n ≤ 57
  · rw [if_pos h3]
    exact (cls3 h3).symm
  · rw [if_neg h3]
    by_cases h4 : (97 ≤ n ∧ n ≤ 122) ∨ (65 ≤ n ∧ n ≤ 90) ∨ n = 95
    · rw [if_pos h4]
      exact (cls4 h4).symm
    · rw [if_neg h4]
      exact (cls8 (by omega) (by omega) (by omega) h3 h4 (by omega) (by omega) (by omega)).symm
end
end Go.Proofs.YtbadjlhijbkbbaaGreat

/-
  Names.
-/
set_option linter.unusedVariables false
namespace Go.Proofs.YtbadjlhijbkbbaaGreat
open Go Go.RowKit Sx
section
variable {w : World}
def nameOk (s : ByteArray) : Bool := decide (0 < s.size) && decide (∀ i, i < s.size → cls (byt s i) = 4 ∨ (cls (byt s i) = 3 ∧ 0 < i))
def asciiOk (s : ByteArray) : Bool := decide (∀ i, i < s.size → byt s i < 128)
theorem cls_high {n : Int} (h : 128 ≤ n) : cls n = 8 := cls8 (by omega) (by omega) (by omega) (by omega) (by omega) (by omega) (by omega) (by omega)
theorem rName1 (s : ByteArray) (hs : s.size ≤ 140737488355328) : Calls Tryz.prog 193 [.string s].toArray w (Ret fun v w' => v = .bool (nameOk s) ∧ Ext w w') := by
  refine enter Tryz.func193 rfl Tryz.ntmps193 rfl ?_
  refine wk ?_
  refine W.loop (ι := Nat) (fun i => [(0, .string s), (3, .int .i64 (i : Int))])
    (fun i w' => Ext w w' ∧ i ≤ s.size ∧ ∀ j, j < i → cls (byt s j) = 4 ∨ (cls (byt s j) = 3 ∧ 0 < j)) (fun i => s.size - i) 0 has ⟨Ext.refl w, Nat.zero_le _, fun j hj => absurd hj (Nat.not_lt_zero j)⟩ ?_
  rintro i w1 ⟨hE, hi, hp⟩
  have bad : ¬ (cls (byt s i) = 4 ∨ (cls (byt s i) = 3 ∧ 0 < i)) → i < s.size → nameOk s = false := by
    intro h h2
    rw [nameOk, Bool.and_eq_false_iff]
    exact .inr (decide_eq_false (fun hall => h (hall i h2)))
  have good : (cls (byt s i) = 4 ∨ (cls (byt s i) = 3 ∧ 0 < i)) → ∀ j, j < i + 1 → cls (byt s j) = 4 ∨ (cls (byt s j) = 3 ∧ 0 < j) := by
    intro h j hj
    rcases Nat.lt_or_ge j i with h1 | h1
    · exact hp j h1
    · obtain rfl : j = i := by omega
      exact h
  refine wk ?_
  refine W.test rfl (fun hlt => ?_) (fun hge => ?_)
  · have hlt : i < s.size := by omega
    refine wk ?_
    refine Wop.byte TT i rfl rfl rfl rfl hlt ?_
    refine wk ?_
    refine Wop.fn en215 rfl (rClass (byt s i)) ?_
    rintro _ w2 ⟨rfl, e2⟩
    have e2' := hE.trans e2
    refine wk ?_
    refine Wl.part rfl rfl rfl (fun h4 => ?_) (fun h4 => ?_)
    · refine wk ?_
      refine Wl.part rfl rfl rfl (fun h3 => ?_) (fun h3 => ?_)
      · refine wk ?_
        exact Arr.ret1 rfl rfl ⟨by rw [bad (by omega) hlt], e2'⟩
      · refine wk ?_
        refine W.test rfl (fun hz => ?_) (fun hz => ?_)
        · refine wk ?_
          exact Arr.ret1 rfl rfl ⟨by rw [bad (by omega) hlt], e2'⟩
        · refine wk ?_
          exact Arr.again (i + 1) has ⟨e2', hlt, good (by omega)⟩ (by omega)
    · refine wk ?_
      exact Arr.again (i + 1) has ⟨e2', hlt, good (by omega)⟩ (by omega)
  · refine wk ?_
    refine Arr.ret1 rfl rfl ⟨congrArg Value.bool ?_, hE⟩
    rw [nameOk, decide_eq_true (fun j hj => hp j (by omega) : ∀ j, j < s.size → _), Bool.and_true]
    exact decide_eq_decide.2 (by omega)
theorem gascii (s : ByteArray) (hs : s.size ≤ 140737488355328) : Calls Tryz.prog 205 [.string s].toArray w (Ret fun v w' => v = .bool (asciiOk s) ∧ Ext w w') := by
  refine enter Tryz.func205 rfl Tryz.ntmps205 rfl ?_
  refine wk ?_
  refine W.loop (ι := Nat) (fun i => [(0, .string s), (5, .int .i64 (s.size : Int)), (6, .int .i64 (i : Int))])
    (fun i w' => Ext w w' ∧ i ≤ s.size ∧ ∀ j, j < i → byt s j < 128) (fun i => s.size - i) 0 has ⟨Ext.refl w, Nat.zero_le _, fun j hj => absurd hj (Nat.not_lt_zero j)⟩ ?_
  rintro i w1 ⟨hE, hi, hp⟩
  refine wk ?_
  refine W.test rfl (fun hlt => ?_) (fun hge => ?_)
  · have hlt : i < s.size := by omega
    refine wk ?_
    refine Wop.byte TT i rfl rfl rfl rfl hlt ?_
    refine wk ?_
    refine W.test rfl (fun hb => ?_) (fun hb => ?_)
    · refine wk ?_
      refine Arr.ret1 rfl rfl ⟨congrArg Value.bool (decide_eq_false (fun hall => ?_)).symm, hE⟩
      have := hall i hlt
      omega
    · refine wk ?_
      refine Arr.again (i + 1) has ⟨hE, hlt, fun j hj => ?_⟩ (by omega)
      rcases Nat.lt_or_ge j i with h1 | h1
      · exact hp j h1
      · obtain rfl : j = i := by omega
        omega
  · refine wk ?_
    exact Arr.ret1 rfl rfl ⟨congrArg Value.bool (decide_eq_true (fun j hj => hp j (by omega))).symm, hE⟩
/-- The closure in Name. -/
theorem gName1 (i : Nat) (n : Int) (h0 : 0 ≤ n) (h1 : n < 256) : Calls Tryz.prog 207 [.int .i64 (i : Int), .int .u8 n].toArray w (Ret fun v w' => v = .bool (decide (cls n = 4 ∨ (cls n = 3 ∧ 0 < i))) ∧ Ext w w') := by
  refine enter Tryz.func207 rfl Tryz.ntmps207 rfl ?_
  refine wk ?_
  refine Wop.fn en208 rfl (gClass n h0 h1) ?_
  rintro _ w2 ⟨rfl, e2⟩
  refine wk ?_
  refine Wl.part rfl rfl rfl (fun h4 => ?_) (fun h4 => ?_)
  · refine wk ?_
    exact Arr.ret1 rfl rfl ⟨congrArg Value.bool (decide_eq_true (.inl h4)).symm, e2⟩
  · refine wk ?_
    refine Wl.part rfl rfl rfl (fun h3 => ?_) (fun h3 => ?_)
    · refine wk ?_
      refine Arr.ret1 rfl rfl ⟨congrArg Value.bool ?_, e2⟩
      exact decide_eq_decide.2 (by omega)
    · refine wk ?_
      refine Arr.ret1 rfl rfl ⟨congrArg Value.bool ?_, e2⟩
      exact (decide_eq_false (by omega)).symm
theorem geach (s : ByteArray) (hs : s.size ≤ 140737488355328) (ha : ∀ i, i < s.size → byt s i < 128) : Calls Tryz.prog 206 [.string s, .func (.func 207) #[] #[]].toArray w (Ret fun v w' => v = .bool (nameOk s) ∧ Ext w w') := by
  refine enter Tryz.func206 rfl Tryz.ntmps206 rfl ?_
  refine wk ?_
  refine Wop.rangeS TT rfl rfl (fun w0 e0 hb0 z0 => ?_)
  refine wk ?_
  refine W.loop (ι := Nat) (fun i => [(0, .string s), (1, .func (.func 207) #[] #[]), (7, .pointer (some ⟨w.heap.size, 0, none⟩))])
    (fun i w' => Ext w w' ∧ i ≤ s.size ∧ w'.heap[w.heap.size]? = some (.stringIter s i) ∧ ∀ j, j < i → cls (byt s j) = 4 ∨ (cls (byt s j) = 3 ∧ 0 < j)) (fun i => s.size - i) 0 has ⟨e0, Nat.zero_le _, hb0, fun j hj => absurd hj (Nat.not_lt_zero j)⟩ ?_
  rintro i w1 ⟨hE, hi, hb, hp⟩
  by_cases hlt : i < s.size
  · refine wk ?_
    refine Wop.nextA rfl hb hlt (ha i hlt) (fun w2 r g2 hb2 z2 => ?_)
    have e2 : Ext w w2 := Below.trans hE g2
    refine wk ?_
    refine Wop.byte TT i rfl rfl rfl rfl hlt ?_
    refine wk ?_
    refine Wop.fnV (cap := []) en207 rfl rfl (gName1 i (byt s i) (byt_range s i).1 (byt_range s i).2) ?_
    rintro _ w3 ⟨rfl, e3⟩
    have e3' := e2.trans e3
    refine wk ?_
    refine W.cond rfl (fun hy => ?_) (fun hn => ?_)
    · refine wk ?_
      refine Arr.ret1 rfl rfl ⟨congrArg Value.bool ?_, e3'⟩
      rw [nameOk, eq_comm, Bool.and_eq_false_iff]
      refine .inr (decide_eq_false (fun hall => ?_))
      have := hall i hlt
      rw [decide_eq_true this] at hy
      cases hy
    · refine wk ?_
      refine Arr.again (i + 1) has ⟨e3', hlt, (e3.block (lt_of_block hb2)).trans hb2, fun j hj => ?_⟩ (by omega)
      rcases Nat.lt_or_ge j i with h1 | h1
      · exact hp j h1
      · obtain rfl : j = i := by omega
        exact Decidable.byContradiction (fun h => by rw [decide_eq_false h] at hn; cases hn)
  · refine wk ?_
    refine Wop.nextE rfl hb hlt ?_
    refine wk ?_
    refine Arr.ret1 rfl rfl ⟨congrArg Value.bool ?_, hE⟩
    rw [nameOk, decide_eq_true (fun j hj => hp j (by omega) : ∀ j, j < s.size → _), Bool.and_true]
    refine decide_eq_decide.2 ⟨fun h => ?_, fun h h2 => ?_⟩
    · have : s.size ≠ 0 := fun h2 => h (ByteArray.size_eq_zero_iff.1 h2)
      omega
    · subst h2
      exact absurd h (by decide)
theorem gName2 (s : ByteArray) (hs : s.size ≤ 140737488355328) : Calls Tryz.prog 185 [.string s].toArray w (Ret fun v w' => v = .bool (nameOk s) ∧ Ext w w') := by
  refine enter Tryz.func185 rfl Tryz.ntmps185 rfl ?_
  refine wk ?_
  refine Wop.fn en205 rfl (gascii s hs) ?_
  rintro _ w2 ⟨rfl, e2⟩
  refine wk ?_
  refine W.cond rfl (fun hy => ?_) (fun hn => ?_)
  · refine wk ?_
    refine Arr.ret1 rfl rfl ⟨congrArg Value.bool ?_, e2⟩
    rw [nameOk, eq_comm, Bool.and_eq_false_iff]
    refine .inr (decide_eq_false (fun hall => ?_))
    simp only [asciiOk, Bool.not_eq_eq_eq_not, Bool.not_true, decide_eq_false_iff_not] at hy
    refine hy (fun i hi => ?_)
    have := hall i hi
    rcases Int.lt_or_le (byt s i) 128 with h | h
    · exact h
    · rw [cls_high h] at this
      omega
  · simp only [asciiOk, Bool.not_eq_eq_eq_not, Bool.not_false, decide_eq_true_eq] at hn
    refine wk ?_
    refine Wop.fn en206 rfl (geach s hs hn) ?_
    rintro _ w3 ⟨rfl, e3⟩
    refine wk ?_
    exact Arr.ret1 rfl rfl ⟨rfl, e2.trans e3⟩
end
end Go.Proofs.YtbadjlhijbkbbaaGreat
