/-
  The program's and the reference's small functions on grammars.
-/
import Derived.Test.YtbadjlhijbkbbaaGram
set_option linter.unusedVariables false
namespace Go.Proofs.Ytbadjlhijbkbbaa
open Go Go.RowKit Sx
variable {S : Nat → Prop} {w : World} {g : Gram} {A0 A1 A2 : Option Addr} {c0 c1 c2 : Nat}

theorem gTop (hg : GramAt S w g A0 A1 A2 c0 c1 c2) : Calls Try.prog 20 [.agg (gcells g A0 A1 A2 c0 c1 c2).toArray].toArray w (Ret fun v w' => v = .int .i64 g.top ∧ Ext w w') := by
  have h0 := hg.terms.2.1
  have h1 := hg.nons.2.1
  refine enter Try.func20 rfl Try.ntmps20 rfl ?_
  refine wk ?_; try (refine Wop.box rfl (fun w1 e1 b1 z1 => ?_); refine wk ?_)
  exact Arr.ret1 rfl rfl ⟨rfl, e1⟩
theorem gTerm (s : Int) : Calls Try.prog 22 [.agg (gcells g A0 A1 A2 c0 c1 c2).toArray, .int .i64 s].toArray w (Ret fun v w' => v = .bool (g.term s) ∧ Ext w w') := by
  refine enter Try.func22 rfl Try.ntmps22 rfl ?_
  repeat' (first | refine W.seq ?_ | refine W.region ?_ | refine Wl.step rfl ?_ | refine Wl.act ?_ | refine Wl.done ?_ | refine Arr.next ?_ | refine W.block ?_ | refine W.skip ?_ | refine W.ret ?_ | refine W.exit ?_ | refine Arr.then_ret ?_ | refine Arr.then_exit ?_ | refine Arr.block_ret ?_ | refine Arr.block_normal ?_ | refine Arr.block_exit ?_ | refine Arr.block_other rfl ?_ | refine W.yes rfl ?_ | refine W.no rfl ?_ | refine Wl.stepY rfl rfl rfl rfl ?_ | refine Wl.stepN rfl rfl rfl rfl rfl ?_ | refine Wl.stepU rfl rfl rfl rfl ?_ | refine Wop.pure TT rfl ?_ | refine Wop.ldB TT rfl rfl (by first | assumption | exact Blk.ext (by assumption) (by assumption)) rfl ?_ | refine Wop.ld TT rfl rfl (by first | assumption | exact Ext.cell (by assumption) (by assumption)) ?_ | refine Wop.ldA TT rfl rfl rfl (by first | assumption | exact Blk.ext (by assumption) (by assumption)) ?_ | refine Wop.ldR TT rfl rfl rfl (by first | assumption | exact cells_ext (by assumption) (by assumption)) ?_ | refine Wop.ix TT rfl rfl rfl rfl rfl (by first | assumption | omega) ?_ | refine Wop.inc rfl rfl (by omega) ?_ | refine Wop.add rfl rfl ⟨by omega, by omega⟩ ?_ | refine Wop.sub rfl rfl ⟨by omega, by omega⟩ ?_ | refine Wop.box rfl (fun w1 e1 b1 z1 => ?_) | refine Wl.part rfl rfl rfl (fun h_ => ?_) (fun h_ => ?_) | refine W.testR rfl (fun h_ => ?_) (fun h_ => ?_))
  · refine Arr.ret1 rfl rfl ⟨?_, e1⟩
    simp [Gram.term, h_]
  · refine Arr.ret1 rfl rfl ⟨?_, e1⟩
    simp [Gram.term, h_]
theorem gNon (hg : GramAt S w g A0 A1 A2 c0 c1 c2) (s : Int) : Calls Try.prog 24 [.agg (gcells g A0 A1 A2 c0 c1 c2).toArray, .int .i64 s].toArray w (Ret fun v w' => v = .bool (g.non s) ∧ Ext w w') := by
  refine enter Try.func24 rfl Try.ntmps24 rfl ?_
  refine wk ?_; try (refine Wop.box rfl (fun w1 e1 b1 z1 => ?_); refine wk ?_)
  refine Wl.part rfl rfl rfl (fun h_ => ?_) (fun h_ => ?_)
  · refine wk ?_; try (refine Wop.box rfl (fun w1 e1 b1 z1 => ?_); refine wk ?_)
    refine Wop.fn en20 rfl (gTop (hg.ext e1)) ?_
    rintro _ w2 ⟨rfl, e2⟩
    refine wk ?_; try (refine Wop.box rfl (fun w1 e1 b1 z1 => ?_); refine wk ?_)
    refine Arr.ret1 rfl rfl ⟨?_, e1.trans e2⟩
    simp [Gram.non, h_]
  · refine wk ?_; try (refine Wop.box rfl (fun w1 e1 b1 z1 => ?_); refine wk ?_)
    refine Arr.ret1 rfl rfl ⟨?_, e1⟩
    simp [Gram.non, h_]
theorem rTop (hg : GramAt S w g A0 A1 A2 c0 c1 c2) : Calls Try.prog 21 [.agg (gcells g A0 A1 A2 c0 c1 c2).toArray].toArray w (Ret fun v w' => v = .int .i64 g.top ∧ Ext w w') := by
  have h0 := hg.terms.2.1
  have h1 := hg.nons.2.1
  refine enter Try.func21 rfl Try.ntmps21 rfl ?_
  refine wk ?_; try (refine Wop.box rfl (fun w1 e1 b1 z1 => ?_); refine wk ?_)
  exact Arr.ret1 rfl rfl ⟨rfl, e1⟩
theorem rTerm (s : Int) : Calls Try.prog 23 [.agg (gcells g A0 A1 A2 c0 c1 c2).toArray, .int .i64 s].toArray w (Ret fun v w' => v = .bool (g.term s) ∧ Ext w w') := by
  refine enter Try.func23 rfl Try.ntmps23 rfl ?_
  repeat' (first | refine W.seq ?_ | refine W.region ?_ | refine Wl.step rfl ?_ | refine Wl.act ?_ | refine Wl.done ?_ | refine Arr.next ?_ | refine W.block ?_ | refine W.skip ?_ | refine W.ret ?_ | refine W.exit ?_ | refine Arr.then_ret ?_ | refine Arr.then_exit ?_ | refine Arr.block_ret ?_ | refine Arr.block_normal ?_ | refine Arr.block_exit ?_ | refine Arr.block_other rfl ?_ | refine W.yes rfl ?_ | refine W.no rfl ?_ | refine Wl.stepY rfl rfl rfl rfl ?_ | refine Wl.stepN rfl rfl rfl rfl rfl ?_ | refine Wl.stepU rfl rfl rfl rfl ?_ | refine Wop.pure TT rfl ?_ | refine Wop.ldB TT rfl rfl (by first | assumption | exact Blk.ext (by assumption) (by assumption)) rfl ?_ | refine Wop.ld TT rfl rfl (by first | assumption | exact Ext.cell (by assumption) (by assumption)) ?_ | refine Wop.ldA TT rfl rfl rfl (by first | assumption | exact Blk.ext (by assumption) (by assumption)) ?_ | refine Wop.ldR TT rfl rfl rfl (by first | assumption | exact cells_ext (by assumption) (by assumption)) ?_ | refine Wop.ix TT rfl rfl rfl rfl rfl (by first | assumption | omega) ?_ | refine Wop.inc rfl rfl (by omega) ?_ | refine Wop.add rfl rfl ⟨by omega, by omega⟩ ?_ | refine Wop.sub rfl rfl ⟨by omega, by omega⟩ ?_ | refine Wop.box rfl (fun w1 e1 b1 z1 => ?_) | refine Wl.part rfl rfl rfl (fun h_ => ?_) (fun h_ => ?_) | refine W.testR rfl (fun h_ => ?_) (fun h_ => ?_))
  · refine Arr.ret1 rfl rfl ⟨?_, e1⟩
    simp [Gram.term, h_]
  · refine Arr.ret1 rfl rfl ⟨?_, e1⟩
    simp [Gram.term, h_]
theorem rNon (hg : GramAt S w g A0 A1 A2 c0 c1 c2) (s : Int) : Calls Try.prog 25 [.agg (gcells g A0 A1 A2 c0 c1 c2).toArray, .int .i64 s].toArray w (Ret fun v w' => v = .bool (g.non s) ∧ Ext w w') := by
  refine enter Try.func25 rfl Try.ntmps25 rfl ?_
  refine wk ?_; try (refine Wop.box rfl (fun w1 e1 b1 z1 => ?_); refine wk ?_)
  refine Wl.part rfl rfl rfl (fun h_ => ?_) (fun h_ => ?_)
  · refine wk ?_; try (refine Wop.box rfl (fun w1 e1 b1 z1 => ?_); refine wk ?_)
    refine Wop.fn en21 rfl (rTop (hg.ext e1)) ?_
    rintro _ w2 ⟨rfl, e2⟩
    refine wk ?_; try (refine Wop.box rfl (fun w1 e1 b1 z1 => ?_); refine wk ?_)
    refine Arr.ret1 rfl rfl ⟨?_, e1.trans e2⟩
    simp [Gram.non, h_]
  · refine wk ?_; try (refine Wop.box rfl (fun w1 e1 b1 z1 => ?_); refine wk ?_)
    refine Arr.ret1 rfl rfl ⟨?_, e1⟩
    simp [Gram.non, h_]
end Go.Proofs.Ytbadjlhijbkbbaa
