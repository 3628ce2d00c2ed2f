/-
  The reference's known and Check.
-/
import Derived.Test.YtbadjlhijbkbbaaChl
import Derived.Test.YtbadjlhijbkbbaaG8
set_option linter.unusedVariables false
namespace Go.Proofs.Ytbadjlhijbkbbaa
open Go Go.RowKit Sx
variable {S : Nat → Prop} {w : World} {g : Gram} {A A0 A1 A2 : Option Addr} {n c c0 c1 c2 : Nat}
theorem rknown (hg : GramAt S w g A0 A1 A2 c0 c1 c2) : Calls Try.prog 86 [.agg (gcells g A0 A1 A2 c0 c1 c2).toArray].toArray w (Ret fun v w' => v = .bool (g.non g.start && g.rules.all g.known) ∧ Ext w w') := by
  have h1 := hg.nons.2.1
  have h2 := hg.rules.2.1
  refine enter Try.func86 rfl Try.ntmps86 rfl ?_
  refine wk ?_; try (refine Wop.box rfl (fun w1 e1 b1 z1 => ?_); refine wk ?_)
  have hg1 := hg.ext e1
  refine Wl.part rfl rfl rfl (fun hz => ?_) (fun hz => ?_)
  · refine wk ?_
    refine Arr.ret1 rfl rfl ⟨congrArg Value.bool ?_, e1⟩
    have : g.non g.start = false := decide_eq_false (by rw [Gram.top]; omega)
    rw [this, Bool.false_and]
  refine wk ?_
  refine Wop.fn en25 rfl (rNon hg1 g.start) ?_
  rintro _ w0 ⟨rfl, e2⟩
  refine wk ?_
  refine W.cond rfl (fun hs => ?_) (fun hs => ?_)
  · refine wk ?_
    refine Arr.ret1 rfl rfl ⟨congrArg Value.bool ?_, e1.trans e2⟩
    simp at hs
    rw [hs, Bool.false_and]
  simp at hs
  refine wk ?_
  refine W.loop (ι := Nat) (fun i => [(1, .pointer (some ⟨w.heap.size, 0, none⟩)), (3, .int .i64 (i : Int))])
    (fun i w' => Ext w1 w' ∧ i ≤ g.rules.length ∧ (g.rules.take i).all g.known = true) (fun i => g.rules.length - i) 0 has ⟨e2, Nat.zero_le _, by simp⟩ ?_
  rintro i w' ⟨hE, hi, ha⟩
  refine wk ?_
  refine W.test rfl (fun hlt => ?_) (fun hge => ?_)
  · have hlt : i < g.rules.length := by omega
    obtain ⟨b, o, rfl, es, hrd, hc⟩ := (hg1.rules.ext (by decide) hE).at_ i hlt
    obtain ⟨A, c, rfl, hcap, hl64, hrow⟩ := tRule_open hrd
    have hcell := hc 0 _ rfl
    have bb := b1.ext hE
    have hg2 := hg1.ext hE
    refine wk ?_
    refine W.any Ext [.eq _, .eq _, .eq _, .eq _, .eq _, .eq _, .eq _, .eq _, .eq _] [8] mixed rfl Ext.refl Ext.trans Ext.drew ⟨qs, qs, qs, qs, qs, qs, qs, by intro w_ hG; (repeat (intro v_ hv_; cases hv_)); exact WopG.plain rfl (Wop.fn en25 rfl (rNon (hg2.ext hG) _) (fun v w' h => ⟨h.2, h.1⟩)), qs, trivial⟩ ?_
    rintro wq eq_ _ ⟨⟩
    have e3 := hE.trans eq_
    refine wk ?_
    refine W.cond rfl (fun hn => ?_) (fun hn => ?_)
    · refine wk ?_
      refine Arr.ret1 rfl rfl ⟨congrArg Value.bool ?_, e1.trans e3⟩
      rw [all_false hlt (by simp at hn; simp [Gram.known, hn]), Bool.and_false]
    simp at hn
    have hrm := hrow.2.1
    refine wk ?_
    refine W.loop (ι := Nat) (fun k => [(1, .pointer (some ⟨w.heap.size, 0, none⟩)), (3, .int .i64 (i : Int)), (4, .int .i64 (k : Int))])
      (fun k w' => Ext w1 w' ∧ k ≤ g.rules[i].right.length ∧ (g.rules[i].right.take k).all (fun s => g.term s || g.non s) = true) (fun k => g.rules[i].right.length - k) 0 has ⟨e3, Nat.zero_le _, by simp⟩ ?_
    rintro k w2 ⟨hE2, hk, hq⟩
    have bb2 := b1.ext hE2
    have hg3 := hg1.ext hE2
    obtain ⟨b', o', hA, es, hrd, hc⟩ := (hg1.rules.ext (by decide) hE2).at_ i hlt
    cases hA
    obtain ⟨A', c', rfl, hcap', hl64', hrow'⟩ := tRule_open hrd
    have hcell1 := hc 1 _ rfl
    refine wk ?_
    refine W.test rfl (fun hlk => ?_) (fun hgk => ?_)
    · have hlk : k < g.rules[i].right.length := by omega
      obtain ⟨b2, o2, rfl, es2, ⟨rfl, hs2⟩, hc2⟩ := hrow'.at_ k hlk
      have hcell2 := hc2 0 _ rfl
      cases hterm : g.term g.rules[i].right[k] with
      | true =>
        refine wk ?_
        refine W.any Ext [.eq _, .eq _, .eq _, .eq _, .eq _, .eq _, .eq _, .eq _, .eq _, .eq _, .eq _, .eq _, .eq _, .eq _, .eq _, .eq _, .eq _, .eq _, .eq _, .eq _, .eq _, .eq _, .eq _, .eq _, .eq _, .eq _] [25] mixed rfl Ext.refl Ext.trans Ext.drew ⟨qs, qs, qs, qs, qs, qs, qs, qs, qs, qs, by intro w_ hG; (repeat (intro v_ hv_; cases hv_)); exact WopG.plain rfl (Wop.fn en23 rfl (rTerm _) (fun v w' h => ⟨h.2, h.1.trans (congrArg Value.bool hterm)⟩)), qs, qs, qs, qs, qs, qs, qs, qs, qs, qs, qs, qs, qs, qs, qs, trivial⟩ ?_
        rintro wq eq_ _ ⟨⟩
        refine wk ?_
        refine Arr.again (i := k) (k + 1) has ⟨hE2.trans eq_, hlk, all_take hlk hq (by simp [hterm])⟩ (by omega)
      | false =>
        refine wk ?_
        refine W.any Ext [.eq _, .eq _, .eq _, .eq _, .eq _, .eq _, .eq _, .eq _, .eq _, .eq _, .eq _, .eq _, .eq _, .eq _, .eq _, .eq _, .eq _, .eq _, .eq _, .eq _, .eq _, .eq _, .eq _, .eq _, .eq _, .eq _] [25] mixed rfl Ext.refl Ext.trans Ext.drew ⟨qs, qs, qs, qs, qs, qs, qs, qs, qs, qs, by intro w_ hG; (repeat (intro v_ hv_; cases hv_)); exact WopG.plain rfl (Wop.fn en23 rfl (rTerm _) (fun v w' h => ⟨h.2, h.1.trans (congrArg Value.bool hterm)⟩)), qs, qs, qs, qs, qs, qs, qs, qs, qs, qs, qs, qs, by intro w_ hG; (repeat (intro v_ hv_; cases hv_)); exact WopG.yes rfl rfl rfl rfl (Wop.fn en25 rfl (rNon (hg3.ext hG) _) (fun v w' h => ⟨h.2, h.1⟩)), qs, qs, trivial⟩ ?_
        rintro wq eq_ _ ⟨⟩
        refine wk ?_
        refine W.cond rfl (fun hy => ?_) (fun hy => ?_)
        · refine wk ?_
          refine Arr.ret1 rfl rfl ⟨congrArg Value.bool ?_, e1.trans (hE2.trans eq_)⟩
          simp at hy
          rw [all_false hlt (by rw [Gram.known, all_false hlk (by simp [hterm, hy]), Bool.and_false]), Bool.and_false]
        · refine wk ?_
          simp at hy
          refine Arr.again (i := k) (k + 1) has ⟨hE2.trans eq_, hlk, all_take hlk hq (by simp [hy])⟩ (by omega)
    · refine wk ?_
      rw [List.take_of_length_le (by omega)] at hq
      refine Arr.again (i := i) (i + 1) has ⟨hE2, hlt, all_take hlt ha (by rw [Gram.known, hn, hq]; rfl)⟩ (by omega)
  · refine wk ?_
    refine Arr.ret1 rfl rfl ⟨congrArg Value.bool ?_, e1.trans hE⟩
    rw [List.take_of_length_le (by omega)] at ha
    rw [hs, ha]
    rfl
theorem rCheck (hg : GramAt S w g A0 A1 A2 c0 c1 c2) : Calls Try.prog 19 [.agg (gcells g A0 A1 A2 c0 c1 c2).toArray].toArray w (Ret fun v w' => v = .int .i64 g.check ∧ Ext w w') := by
  have h0 := hg.terms.2.1
  have h1 := hg.nons.2.1
  have h2 := hg.rules.2.1
  refine enter Try.func19 rfl Try.ntmps19 rfl ?_
  refine wk ?_; try (refine Wop.box rfl (fun w1 e1 b1 z1 => ?_); refine wk ?_)
  have hg1 := hg.ext e1
  refine Wop.fn en82 rfl (rmany hg1) ?_
  rintro _ w2 ⟨rfl, e2⟩
  refine wk ?_
  refine W.cond rfl (fun q1 => ?_) (fun q1 => ?_)
  · refine wk ?_
    refine Arr.ret1 rfl rfl ⟨congrArg (Value.int .i64) ?_, e1.trans e2⟩
    rw [Gram.check, if_pos q1]
  refine wk ?_
  refine Wop.fn en83 rfl (rform (hg1.ext e2)) ?_
  rintro _ w3 ⟨rfl, e3⟩
  have e3' := e2.trans e3
  refine wk ?_
  refine W.cond rfl (fun q2 => ?_) (fun q2 => ?_)
  · refine wk ?_
    refine Arr.ret1 rfl rfl ⟨congrArg (Value.int .i64) ?_, e1.trans e3'⟩
    rw [Gram.check, if_neg (by simp [q1]), if_pos q2]
  refine wk ?_
  refine Wop.fn en85 rfl (r6names (hg1.ext e3') (by
    have : ¬ (120 < g.terms.length ∨ 120 < g.nons.length ∨ 300 < g.rules.length) := fun h => by simp [Gram.many, h] at q1
    simp only [Gram.names, List.length_append]
    omega)) ?_
  rintro _ w4 ⟨⟨A, c, rfl, hcap, hrow⟩, e4⟩
  refine wk ?_
  refine Wop.fn en84 rfl (ronce hrow hcap) ?_
  rintro _ w5 ⟨rfl, e5⟩
  have e5' := e3'.trans (e4.trans e5)
  refine wk ?_
  refine W.cond rfl (fun q3 => ?_) (fun q3 => ?_)
  · refine wk ?_
    refine Arr.ret1 rfl rfl ⟨congrArg (Value.int .i64) ?_, e1.trans e5'⟩
    rw [Gram.check, if_neg (by simp [q1]), if_neg (by simp [q2]), if_pos q3]
  refine wk ?_
  refine Wop.fn en86 rfl (rknown (hg1.ext e5')) ?_
  rintro _ w6 ⟨rfl, e6⟩
  have e6' := e5'.trans e6
  refine wk ?_
  refine W.cond rfl (fun q4 => ?_) (fun q4 => ?_)
  · refine wk ?_
    refine Arr.ret1 rfl rfl ⟨congrArg (Value.int .i64) ?_, e1.trans e6'⟩
    rw [Gram.check, if_neg (by simp [q1]), if_neg (by simp [q2]), if_neg (by simp [q3]), if_pos q4]
  refine wk ?_
  refine Wop.fn en87 rfl (runlike (hg1.ext e6')) ?_
  rintro _ w7 ⟨rfl, e7⟩
  have e7' := e6'.trans e7
  refine wk ?_
  refine W.cond rfl (fun q5 => ?_) (fun q5 => ?_)
  · refine wk ?_
    refine Arr.ret1 rfl rfl ⟨congrArg (Value.int .i64) ?_, e1.trans e7'⟩
    rw [Gram.check, if_neg (by simp [q1]), if_neg (by simp [q2]), if_neg (by simp [q3]), if_neg (by simp [q4]), if_pos q5]
  have hck : g.check = if (List.range g.nons.length).all (fun (i : Nat) => decide (g.of (g.terms.length + 1 + i) ≠ [])) then 0 else 9 := by
    rw [Gram.check, if_neg (by simp [q1]), if_neg (by simp [q2]), if_neg (by simp [q3]), if_neg (by simp [q4]), if_neg (by simp [q5])]
  refine wk ?_
  refine W.loop (ι := Nat) (fun i => [(1, .pointer (some ⟨w.heap.size, 0, none⟩)), (3, .int .i64 (i : Int))])
    (fun i w' => Ext w1 w' ∧ i ≤ g.nons.length ∧ ∀ j, j < i → g.of (g.terms.length + 1 + (j : Int)) ≠ []) (fun i => g.nons.length - i) 0 has ⟨e7', Nat.zero_le _, fun j hj => absurd hj (Nat.not_lt_zero j)⟩ ?_
  rintro i w' ⟨hE, hi, ha⟩
  refine wk ?_
  refine W.test rfl (fun hlt => ?_) (fun hge => ?_)
  · have hlt : i < g.nons.length := by omega
    refine wk ?_
    refine Wop.fn en33 rfl (rOf (hg1.ext hE) ((g.terms.length + 1 : Nat) + (i : Int))) ?_
    rintro v w8 ⟨ho, e8⟩
    obtain ⟨A, c, rfl, hcap⟩ := ho.slice
    have e8' := hE.trans e8
    refine wk ?_
    refine W.test rfl (fun hz => ?_) (fun hz => ?_)
    · refine wk ?_
      refine Arr.ret1 rfl rfl ⟨congrArg (Value.int .i64) ?_, e1.trans e8'⟩
      rw [hck, if_neg]
      intro hall
      rw [List.all_eq_true] at hall
      have := of_decide_eq_true (hall i (List.mem_range.2 hlt))
      exact this (List.eq_nil_of_length_eq_zero (Int.natCast_eq_zero.1 hz))
    · refine wk ?_
      refine Arr.again (i + 1) has ⟨e8', hlt, fun j hj => ?_⟩ (by omega)
      rcases Nat.lt_or_ge j i with h | h
      · exact ha j h
      · obtain rfl : j = i := by omega
        intro hnil
        apply hz
        show ((g.of ((g.terms.length : Int) + 1 + (j : Int))).length : Int) = 0
        rw [hnil]
        rfl
  · refine wk ?_
    refine Arr.ret1 rfl rfl ⟨congrArg (Value.int .i64) ?_, e1.trans hE⟩
    rw [hck, if_pos]
    rw [List.all_eq_true]
    intro j hj
    exact decide_eq_true (ha j (by have := List.mem_range.1 hj; omega))
end Go.Proofs.Ytbadjlhijbkbbaa
