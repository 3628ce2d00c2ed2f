/-
  gram.Check.
-/
import Derived.Test.YtbadjlhijbkbbaaChm
set_option linter.unusedVariables false
namespace Go.Proofs.Ytbadjlhijbkbbaa
open Go Go.RowKit Sx
variable {S : Nat → Prop} {w : World} {g : Gram} {A A0 A1 A2 : Option Addr} {n c c0 c1 c2 : Nat}
/-- The closures of Check. -/
theorem checkC1 : PredR 71 [] w (fun r => decide (r.right.length ≤ 8)) := by
  intro w0 e0 x v hv
  obtain ⟨A, c, rfl, hc, hl, h⟩ := hv
  have hm := h.2.1
  refine enter Try.func71 rfl Try.ntmps71 rfl ?_
  refine wk ?_; try (refine Wop.box rfl (fun w1 e1 b1 z1 => ?_); refine wk ?_)
  refine Arr.ret1 rfl rfl ⟨congrArg Value.bool (decide_eq_decide.2 (by omega)), e1⟩
theorem checkC2 : PredS 74 [] w (fun s => plainOk s || quotedOk s) := by
  rintro w0 e0 x v ⟨rfl, hs⟩
  refine enter Try.func74 rfl Try.ntmps74 rfl ?_
  refine wk ?_
  refine Wop.fn en75 rfl (gplain x hs) ?_
  rintro _ w2 ⟨rfl, e2⟩
  refine wk ?_
  refine Wl.partB rfl rfl rfl (fun p => ?_) (fun p => ?_)
  · refine wk ?_
    exact Arr.ret1 rfl rfl ⟨congrArg Value.bool (by simp [p]), e2⟩
  · refine wk ?_
    refine Wop.fn en76 rfl (gQuoted x hs) ?_
    rintro _ w3 ⟨rfl, e3⟩
    refine wk ?_
    exact Arr.ret1 rfl rfl ⟨congrArg Value.bool (by simp [p]), e2.trans e3⟩
theorem plainP : PredS 75 [] w plainOk := by
  rintro w0 e0 x v ⟨rfl, hs⟩
  exact gplain x hs
/-- A grammar in a cell of its own. -/
def GramBox (w : World) (b : Nat) (g : Gram) : Prop := ∃ A0 A1 A2 c0 c1 c2 u, Blk w b (gcells g A0 A1 A2 c0 c1 c2).toArray u ∧ GramAt (fun _ => True) w g A0 A1 A2 c0 c1 c2
theorem GramBox.ext {w w' : World} {b : Nat} (h : GramBox w b g) (e : Ext w w') : GramBox w' b g := by
  obtain ⟨A0, A1, A2, c0, c1, c2, u, hb, hg⟩ := h
  exact ⟨A0, A1, A2, c0, c1, c2, u, hb.ext e, hg.ext e⟩
theorem knownC {b : Nat} (hb : GramBox w b g) : PredI 133 [.pointer (some ⟨b, 0, none⟩)] w (fun s => g.term s || g.non s) := by
  rintro w0 e0 x v ⟨rfl, hs⟩
  obtain ⟨A0, A1, A2, c0, c1, c2, u, hb0, hg⟩ := hb.ext e0
  refine enter Try.func133 rfl Try.ntmps133 rfl ?_
  refine wk ?_
  refine Wop.fn en22 rfl (gTerm x) ?_
  rintro _ w2 ⟨rfl, e2⟩
  refine wk ?_
  refine Wl.partB rfl rfl rfl (fun p => ?_) (fun p => ?_)
  · refine wk ?_
    exact Arr.ret1 rfl rfl ⟨congrArg Value.bool (by simp [p]), e2⟩
  · refine wk ?_
    refine Wop.fn en24 rfl (gNon (hg.ext e2) x) ?_
    rintro _ w3 ⟨rfl, e3⟩
    refine wk ?_
    exact Arr.ret1 rfl rfl ⟨congrArg Value.bool (by simp [p]), e2.trans e3⟩
theorem GramAt.all {w : World} (hg : GramAt S w g A0 A1 A2 c0 c1 c2) : GramAt (fun _ => True) w g A0 A1 A2 c0 c1 c2 :=
  ⟨hg.terms.mono (fun _ _ => trivial), hg.nons.mono (fun _ _ => trivial), hg.rules.mono (fun _ _ => trivial), hg.start, hg.cap0, hg.cap1, hg.cap2⟩
theorem gknown (hg : GramAt S w g A0 A1 A2 c0 c1 c2) {r : Rule} {u : Value} (hr : VR w r u) : Calls Try.prog 79 [.agg (gcells g A0 A1 A2 c0 c1 c2).toArray, u].toArray w (Ret fun v w' => v = .bool (g.known r) ∧ Ext w w') := by
  obtain ⟨A, c, rfl, hc, hl, h⟩ := hr
  refine enter Try.func79 rfl Try.ntmps79 rfl ?_
  refine wk ?_
  refine Wop.box rfl (fun w1 e1 b1 z1 => ?_)
  refine wk ?_
  refine Wop.box rfl (fun w2 e2 b2 z2 => ?_)
  have e12 := e1.trans e2
  refine wk ?_
  refine Wop.fn en24 rfl (gNon (hg.ext e12) _) ?_
  rintro _ w3 ⟨rfl, e3⟩
  have e23 := e2.trans e3
  refine wk ?_
  refine Wl.partB rfl rfl rfl (fun p => ?_) (fun p => ?_)
  · refine wk ?_
    refine Wop.fn en132 rfl (allI (h.ext (by decide) (e12.trans e3)) en133 (cap := [.pointer (some ⟨w.heap.size, 0, none⟩)]) (knownC ⟨A0, A1, A2, c0, c1, c2, _, b1.ext e23, (hg.ext (e12.trans e3)).all⟩)) ?_
    rintro _ w4 ⟨rfl, e4⟩
    refine wk ?_
    refine Arr.ret1 rfl rfl ⟨congrArg Value.bool ?_, (e12.trans e3).trans e4⟩
    rw [Gram.known, p]
    rfl
  · refine wk ?_
    refine Arr.ret1 rfl rfl ⟨congrArg Value.bool ?_, e12.trans e3⟩
    rw [Gram.known, p]
    rfl
theorem checkC3 {b : Nat} (hb : GramBox w b g) : PredR 78 [.pointer (some ⟨b, 0, none⟩)] w g.known := by
  intro w0 e0 x v hv
  obtain ⟨A0, A1, A2, c0, c1, c2, u, hb0, hg⟩ := hb.ext e0
  obtain ⟨A, c, rfl, hx⟩ := hv
  refine enter Try.func78 rfl Try.ntmps78 rfl ?_
  refine wk ?_; try (refine Wop.box rfl (fun w1 e1 b1 z1 => ?_); refine wk ?_)
  refine Wop.fn en79 rfl (gknown (hg.ext e1) (VR.ext e1 ⟨A, c, rfl, hx⟩)) ?_
  rintro _ w2 ⟨rfl, e2⟩
  refine wk ?_
  exact Arr.ret1 rfl rfl ⟨rfl, e1.trans e2⟩
end Go.Proofs.Ytbadjlhijbkbbaa
