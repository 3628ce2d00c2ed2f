/-
  The small grammar at which the program is tried, laid in memory; the first layer's own trial.
-/
import Derived.Test.YtbadjlhijbkbbaaGcm
import Derived.Test.YtbadjlhijbkbbaaUtl
import Derived.Test.YtbadjlhijbkbbaaG9
set_option linter.unusedVariables false
namespace Go.Proofs.Ytbadjlhijbkbbaa
open Go Go.RowKit Sx
variable {S : Nat → Prop} {w : World} {g : Gram} {A0 A1 A2 : Option Addr} {c0 c1 c2 : Nat}
def gA : Gram := ⟨["A".toUTF8, "'x'".toUTF8], ["s".toUTF8], [⟨3, [1, 2]⟩], 3⟩
theorem gA_check : gA.check = 0 := by decide +kernel
theorem gA_ordered : gA.ordered = true := by decide +kernel
theorem gA_find : gA.find "s".toUTF8 = 3 := by decide +kernel
theorem gA_name : gA.name 2 = "'x'".toUTF8 := by decide +kernel
theorem gA_rule : gA.rule 1 = (true, ⟨0, [3]⟩) := by decide +kernel
theorem awake6 : Calls Try.prog 15 [].toArray w (Ret fun v w' => v = .bool true ∧ Ext w w') := by
  refine enter Try.func15 rfl Try.ntmps15 rfl ?_
  refine wk ?_
  refine Wop.buildSlice (cs := #[.string "A".toUTF8, .string "'x'".toUTF8]) (z := .string ⟨#[]⟩) TT rfl rfl rfl Try.zeroValue9 rfl rfl rfl rfl (fun w1 e1 b1 z1 => ?_)
  refine wk ?_
  refine Wop.buildSlice (cs := #[.string "s".toUTF8]) (z := .string ⟨#[]⟩) TT rfl rfl rfl Try.zeroValue9 rfl rfl rfl rfl (fun w2 e2 b2 z2 => ?_)
  refine wk ?_
  refine Wop.buildSlice (cs := #[.int .i64 1, .int .i64 2]) (z := .int .i64 0) TT rfl rfl rfl Try.zeroValue3 rfl rfl rfl rfl (fun w3 e3 b3 z3 => ?_)
  refine wk ?_
  refine Wop.make (cs := #[.int .i64 3, .slice (some ⟨w2.heap.size, 0, none⟩) 2 2]) pl30 rfl rfl ?_
  refine wk ?_
  refine Wop.buildSlice (cs := #[.int .i64 3, .slice (some ⟨w2.heap.size, 0, none⟩) 2 2]) (z := .agg #[.int .i64 0, .slice none 0 0]) TT rfl rfl rfl Try.zeroValue30 rfl rfl rfl rfl (fun w4 e4 b4 z4 => ?_)
  refine wk ?_
  refine Wop.make (cs := (gcells gA (some ⟨w.heap.size, 0, none⟩) (some ⟨w1.heap.size, 0, none⟩) (some ⟨w3.heap.size, 0, none⟩) 2 1 1).toArray) pl25 rfl rfl ?_
  refine wk ?_
  refine Wop.alloc (z := .agg #[.slice none 0 0, .slice none 0 0, .slice none 0 0, .int .i64 0]) Try.zeroValue25 (fun w5 e5 b5 z5 => ?_)
  refine wk ?_
  refine Wop.stB TT rfl rfl rfl (by simp [Value.oneCell']) b5 rfl (fun w6 h6 b6 z6 k6 => ?_)
  have e46 : Ext w4 w6 := Below.trans e5 h6
  have e36 := e4.trans e46
  have e26 := e3.trans e36
  have e16 := e2.trans e26
  have e06 := e1.trans e16
  have i64 : ∀ n : Int, 0 ≤ n → n < 100 → Ty.InK .i64 n := fun n h1 h2 => Ty.InK.of64 ⟨by omega, by omega⟩
  have hg : GramAt (fun _ => True) w6 gA (some ⟨w.heap.size, 0, none⟩) (some ⟨w1.heap.size, 0, none⟩) (some ⟨w3.heap.size, 0, none⟩) 2 1 1 := by
    refine ⟨Blk.rowL (xs := gA.terms) (b1.ext e16) ⟨[_], _, rfl, ⟨rfl, by decide⟩, [_], _, rfl, ⟨rfl, by decide⟩, rfl⟩ trivial (by decide), Blk.rowL (xs := gA.nons) (b2.ext e26) ⟨[_], _, rfl, ⟨rfl, by decide⟩, rfl⟩ trivial (by decide),
      Blk.rowL (xs := gA.rules) (b4.ext e46) ⟨[_, _], _, rfl, ⟨[_], [_], rfl, ⟨rfl, i64 _ (by decide) (by decide)⟩, _, _, _, rfl, Nat.le_refl _, ?_⟩, rfl⟩ trivial (by decide), ⟨by decide, by decide⟩, by decide, by decide, by decide⟩
    exact Blk.rowL (D := tI) (xs := [1, 2]) (b3.ext e36) ⟨[_], _, rfl, ⟨rfl, i64 _ (by decide) (by decide)⟩, [_], _, rfl, ⟨rfl, i64 _ (by decide) (by decide)⟩, rfl⟩ trivial (by decide)
  refine wk ?_
  refine Wop.fn en16 rfl (gRule hg 1) ?_
  rintro _ w7 ⟨⟨u, rfl, hu⟩, e7⟩
  rw [gA_rule] at hu ⊢
  obtain ⟨A, c, rfl, hc, hl, hr⟩ := hu
  refine wk ?_
  refine Wop.alloc (z := .agg #[.int .i64 0, .slice none 0 0]) Try.zeroValue30 (fun w8 e8 b8 z8 => ?_)
  refine wk ?_
  refine Wop.stB TT rfl rfl rfl (by simp [Value.oneCell']) b8 rfl (fun w9 h9 b9 z9 k9 => ?_)
  have e79 : Ext w7 w9 := Below.trans e8 h9
  have e69 := e7.trans e79
  have hg9 := hg.ext e69
  obtain ⟨b, o, rfl, es, ⟨rfl, hs⟩, hcc⟩ := (hr.ext (by decide) e79).at_ 0 (by decide)
  have hcell := hcc 0 _ rfl
  refine wk ?_
  refine Wop.fn en18 rfl (gCheck hg9) ?_
  rintro _ w10 ⟨rfl, e10⟩
  rw [gA_check]
  have hg10 := hg9.ext e10
  have e6a := e69.trans e10
  refine wk ?_
  refine Wop.fn en27 rfl (gName hg10 2) ?_
  rintro _ w11 ⟨rfl, e11⟩
  rw [gA_name]
  have hg11 := hg10.ext e11
  have e6b := e69.trans (e10.trans e11)
  refine wk ?_
  refine Wop.fn en29 rfl (gFind hg11 "s".toUTF8 (by decide)) ?_
  rintro _ w12 ⟨rfl, e12⟩
  rw [gA_find]
  have hg12 := hg11.ext e12
  have e6c := e6b.trans e12
  refine wk ?_
  refine Wop.fn en20 rfl (gTop hg12) ?_
  rintro _ w13 ⟨rfl, e13⟩
  have hg13 := hg12.ext e13
  have e6d := e6c.trans e13
  refine wk ?_
  refine Wop.fn en22 rfl (gTerm 1) ?_
  rintro _ w14 ⟨rfl, e14⟩
  have hg14 := hg13.ext e14
  have e6e := e6d.trans e14
  refine wk ?_
  refine Wop.fn en24 rfl (gNon hg14 3) ?_
  rintro _ w15 ⟨rfl, e15⟩
  have hg15 := hg14.ext e15
  have e6f := e6e.trans e15
  have e9f := e10.trans (e11.trans (e12.trans (e13.trans (e14.trans e15))))
  refine wk ?_
  refine Wop.ixI TT 0 rfl rfl rfl rfl rfl rfl (by decide) ?_
  refine wk ?_
  refine Wop.fn en34 rfl (gOrdered hg15) ?_
  rintro _ w16 ⟨rfl, e16'⟩
  rw [gA_ordered]
  refine wk ?_
  exact Arr.ret1 rfl rfl ⟨rfl, e06.trans (e6f.trans e16')⟩
end Go.Proofs.Ytbadjlhijbkbbaa
