/-
  gram.Check, whole.
-/
import Derived.Test.YtbadjlhijbkbbaaGcl
set_option linter.unusedVariables false
namespace Go.Proofs.Ytbadjlhijbkbbaa
open Go Go.RowKit Sx
variable {S : Nat → Prop} {w : World} {g : Gram} {A A0 A1 A2 : Option Addr} {n c c0 c1 c2 : Nat}
theorem gCheck (hg : GramAt S w g A0 A1 A2 c0 c1 c2) : Calls Try.prog 18 [.agg (gcells g A0 A1 A2 c0 c1 c2).toArray].toArray w (Ret fun v w' => v = .int .i64 g.check ∧ Ext w w') := by
  have h0 := hg.terms.2.1
  have h1 := hg.nons.2.1
  have h2 := hg.rules.2.1
  refine enter Try.func18 rfl Try.ntmps18 rfl ?_
  refine wk ?_; try (refine Wop.box rfl (fun w1 e1 b1 z1 => ?_); refine wk ?_)
  have hg1 := hg.ext e1
  have big : (120 < g.terms.length ∨ 120 < g.nons.length ∨ 300 < g.rules.length) → ∀ w', Ext w1 w' → (Value.int .i64 7 = .int .i64 g.check ∧ Ext w w') := by
    intro h w' hE
    refine ⟨congrArg (Value.int .i64) ?_, e1.trans hE⟩
    rw [Gram.check, if_pos]
    rw [Gram.many, decide_eq_true h]
    rfl
  refine Wl.part rfl rfl rfl (fun p1 => ?_) (fun p1 => ?_)
  · refine wk ?_
    exact Arr.ret1 rfl rfl (big (.inl (by omega)) _ (Ext.refl _))
  refine wk ?_
  refine Wl.part rfl rfl rfl (fun p2 => ?_) (fun p2 => ?_)
  · refine wk ?_
    exact Arr.ret1 rfl rfl (big (.inr (.inl (by omega))) _ (Ext.refl _))
  refine wk ?_
  refine Wl.part rfl rfl rfl (fun p3 => ?_) (fun p3 => ?_)
  · refine wk ?_
    exact Arr.ret1 rfl rfl (big (.inr (.inr (by omega))) _ (Ext.refl _))
  refine wk ?_
  refine Wop.fn en72 rfl (allR hg1.rules en71 (cap := []) checkC1) ?_
  rintro _ w2 ⟨rfl, e2⟩
  have hmany : g.many = !g.rules.all (fun r => decide (r.right.length ≤ 8)) := by
    rw [Gram.many, decide_eq_false (by omega)]
    rfl
  refine wk ?_
  refine W.cond rfl (fun q1 => ?_) (fun q1 => ?_)
  · refine wk ?_
    refine Arr.ret1 rfl rfl ⟨congrArg (Value.int .i64) ?_, e1.trans e2⟩
    rw [Gram.check, if_pos (by rw [hmany]; exact q1)]
  rw [← hmany] at q1
  refine wk ?_
  refine Wop.fn en73 rfl (allS (hg1.terms.ext (by decide) e2) en74 (cap := []) checkC2) ?_
  rintro _ w3 ⟨rfl, e3⟩
  have e3' := e2.trans e3
  refine wk ?_
  refine Wl.partB rfl rfl rfl (fun p4 => ?_) (fun p4 => ?_)
  · refine wk ?_
    refine Arr.ret1 rfl rfl ⟨congrArg (Value.int .i64) ?_, e1.trans e3'⟩
    rw [Gram.check, if_neg (by simp [q1]), if_pos]
    simp only [Bool.not_eq_true'] at p4
    rw [Gram.form, p4]
    rfl
  simp only [Bool.not_eq_false'] at p4
  refine wk ?_
  refine Wop.fn en73 rfl (allS (hg1.nons.ext (by decide) e3') en75 (cap := []) plainP) ?_
  rintro _ w4 ⟨rfl, e4⟩
  have e4' := e3'.trans e4
  have hform : g.form = g.nons.all plainOk := by
    rw [Gram.form, p4]
    rfl
  refine wk ?_
  refine W.cond rfl (fun q2 => ?_) (fun q2 => ?_)
  · refine wk ?_
    refine Arr.ret1 rfl rfl ⟨congrArg (Value.int .i64) ?_, e1.trans e4'⟩
    rw [Gram.check, if_neg (by simp [q1]), if_pos (by rw [hform]; exact q2)]
  rw [← hform] at q2
  refine wk ?_
  refine Wop.fn en77 rfl (gOnce (hg1.ext e4') (by simp only [Gram.names, List.length_append]; omega)) ?_
  rintro _ w5 ⟨rfl, e5⟩
  have e5' := e4'.trans e5
  refine wk ?_
  refine W.cond rfl (fun q3 => ?_) (fun q3 => ?_)
  · refine wk ?_
    refine Arr.ret1 rfl rfl ⟨congrArg (Value.int .i64) ?_, e1.trans e5'⟩
    rw [Gram.check, if_neg (by simp [q1]), if_neg (by simp [q2]), if_pos q3]
  refine wk ?_
  refine Wop.fn en24 rfl (gNon (hg1.ext e5') g.start) ?_
  rintro _ w6 ⟨rfl, e6⟩
  have e6' := e5'.trans e6
  refine wk ?_
  refine Wl.partB rfl rfl rfl (fun p5 => ?_) (fun p5 => ?_)
  · refine wk ?_
    refine Arr.ret1 rfl rfl ⟨congrArg (Value.int .i64) ?_, e1.trans e6'⟩
    simp only [Bool.not_eq_true'] at p5
    rw [Gram.check, if_neg (by simp [q1]), if_neg (by simp [q2]), if_neg (by simp [q3]), if_pos (by rw [p5]; rfl)]
  simp only [Bool.not_eq_false'] at p5
  refine wk ?_
  refine Wop.fn en72 rfl (allR (hg1.rules.ext (by decide) e6') en78 (cap := [.pointer (some ⟨w.heap.size, 0, none⟩)]) (checkC3 ⟨A0, A1, A2, c0, c1, c2, _, b1.ext e6', (hg1.ext e6').all⟩)) ?_
  rintro _ w7 ⟨rfl, e7⟩
  have e7' := e6'.trans e7
  refine wk ?_
  refine W.cond rfl (fun q4 => ?_) (fun q4 => ?_)
  · refine wk ?_
    refine Arr.ret1 rfl rfl ⟨congrArg (Value.int .i64) ?_, e1.trans e7'⟩
    simp only [Bool.not_eq_true'] at q4
    rw [Gram.check, if_neg (by simp [q1]), if_neg (by simp [q2]), if_neg (by simp [q3]), if_pos (by rw [p5, q4]; rfl)]
  simp only [Bool.not_eq_false'] at q4
  refine wk ?_
  refine Wop.fn en80 rfl (gunlike (hg1.rules.ext (by decide) e7') hg.cap2) ?_
  rintro _ w8 ⟨rfl, e8⟩
  have e8' := e7'.trans e8
  refine wk ?_
  refine W.cond rfl (fun q5 => ?_) (fun q5 => ?_)
  · refine wk ?_
    refine Arr.ret1 rfl rfl ⟨congrArg (Value.int .i64) ?_, e1.trans e8'⟩
    rw [Gram.check, if_neg (by simp [q1]), if_neg (by simp [q2]), if_neg (by simp [q3]), if_neg (by rw [p5, q4]; simp), if_pos (by rw [Gram.unlike]; exact q5)]
  have hck : g.check = if (List.range g.nons.length).all (fun (i : Nat) => decide (g.of (g.terms.length + 1 + i) ≠ [])) then 0 else 9 := by
    rw [Gram.check, if_neg (by simp [q1]), if_neg (by simp [q2]), if_neg (by simp [q3]), if_neg (by rw [p5, q4]; simp), if_neg (fun h => by rw [Gram.unlike, q5] at h; cases h)]
  refine wk ?_
  refine W.loop (ι := Nat) (fun i => [(1, .pointer (some ⟨w.heap.size, 0, none⟩)), (4, .int .i64 ((g.terms.length : Int) + 1 + i))])
    (fun i w' => Ext w1 w' ∧ i ≤ g.nons.length ∧ ∀ j, j < i → g.of (g.terms.length + 1 + (j : Int)) ≠ []) (fun i => g.nons.length - i) 0 (by refine Has.cons rfl (Has.cons ?_ Has.nil); simp) ⟨e8', Nat.zero_le _, fun j hj => absurd hj (Nat.not_lt_zero j)⟩ ?_
  rintro i w' ⟨hE, hi, ha⟩
  refine wk ?_
  refine Wop.fn en20 rfl (gTop (hg1.ext hE)) ?_
  rintro _ w9 ⟨rfl, e9⟩
  have e9' := hE.trans e9
  have htop : g.top = (g.terms.length : Int) + g.nons.length := rfl
  refine wk ?_
  refine W.test rfl (fun hlt => ?_) (fun hge => ?_)
  · have hlt : i < g.nons.length := by omega
    refine wk ?_
    refine Wop.fn en32 rfl (gOf (hg1.ext e9') ((g.terms.length : Int) + 1 + (i : Int))) ?_
    rintro v w10 ⟨ho, e10⟩
    obtain ⟨A, c, rfl, hcap⟩ := ho.slice
    have e10' := e9'.trans e10
    refine wk ?_
    refine W.test rfl (fun hz => ?_) (fun hz => ?_)
    · refine wk ?_
      refine Arr.ret1 rfl rfl ⟨congrArg (Value.int .i64) ?_, e1.trans e10'⟩
      rw [hck, if_neg]
      intro hall
      rw [List.all_eq_true] at hall
      have := of_decide_eq_true (hall i (List.mem_range.2 hlt))
      exact this (List.eq_nil_of_length_eq_zero (Int.natCast_eq_zero.1 hz))
    · refine wk ?_
      refine Arr.again (i + 1) (by refine Has.cons rfl (Has.cons ?_ Has.nil); simp; omega) ⟨e10', hlt, fun j hj => ?_⟩ (by omega)
      rcases Nat.lt_or_ge j i with h | h
      · exact ha j h
      · obtain rfl : j = i := by omega
        intro hnil
        apply hz
        show ((g.of ((g.terms.length : Int) + 1 + (j : Int))).length : Int) = 0
        rw [hnil]
        rfl
  · refine wk ?_
    refine Arr.ret1 rfl rfl ⟨congrArg (Value.int .i64) ?_, e1.trans e9'⟩
    rw [hck, if_pos]
    rw [List.all_eq_true]
    intro j hj
    exact decide_eq_true (ha j (by have := List.mem_range.1 hj; omega))
end Go.Proofs.Ytbadjlhijbkbbaa
