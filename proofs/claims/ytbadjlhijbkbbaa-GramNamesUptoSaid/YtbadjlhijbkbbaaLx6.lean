/-
  GramNames, walked.
-/
import Derived.Test.YtbadjlhijbkbbaaLn6
set_option linter.unusedVariables false
namespace Go.Proofs.Ytbadjlhijbkbbaa
open Go Go.RowKit Sx
variable {S S' : Nat → Prop} {w : World} {g h : Gram} {A0 A1 A2 B0 B1 B2 : Option Addr} {c0 c1 c2 d0 d1 d2 : Nat}
theorem sum_take {f : Nat → Nat} {n k : Nat} (h : k ≤ n) : ((List.range k).map f).sum ≤ ((List.range n).map f).sum := by
  induction n with
  | zero => obtain rfl : k = 0 := by omega
            exact Nat.le_refl _
  | succ n ih =>
    by_cases e : k = n + 1
    · subst e; exact Nat.le_refl _
    · have := ih (by omega)
      rw [List.range_succ, List.map_append, List.sum_append]
      omega
set_option maxRecDepth 20000 in
theorem lawNames (hg : GramAt S w g A0 A1 A2 c0 c1 c2) : Calls Try.prog 4 [.agg (gcells g A0 A1 A2 c0 c1 c2).toArray].toArray w (Ret fun v w' => v = .bool true ∧ Ext w w') := by
  have m0 := hg.terms.2.1
  have m1 := hg.nons.2.1
  have m2 := hg.rules.2.1
  refine enter Try.func4 rfl Try.ntmps4 rfl ?_
  refine wk ?_
  refine Wop.box rfl (fun w1 e1 b1 z1 => ?_)
  have hg1 := hg.ext e1
  have out : ∀ w', Ext w1 w' → Value.bool true = .bool true ∧ Ext w w' := fun w' e => ⟨rfl, e1.trans e⟩
  refine wk ?_
  refine Wop.fn en14 rfl (gMuch hg1) ?_
  rintro _ w2 ⟨rfl, e2⟩
  refine wk ?_
  refine Wl.part rfl rfl rfl (fun p => ?_) (fun p => ?_)
  · refine wk ?_
    refine Wop.fn en15 rfl awake6 ?_
    rintro _ w5 ⟨rfl, e5⟩
    refine wk ?_
    exact Arr.ret1 rfl rfl (out _ (e2.trans e5))
  refine wk ?_
  refine Wop.fn en18 rfl (gCheck (hg1.ext e2)) ?_
  rintro _ w3 ⟨rfl, e3⟩
  have e3' := e2.trans e3
  refine wk ?_
  refine W.test rfl (fun q => ?_) (fun q => ?_)
  · refine wk ?_
    refine Wop.fn en15 rfl awake6 ?_
    rintro _ w5 ⟨rfl, e5⟩
    refine wk ?_
    exact Arr.ret1 rfl rfl (out _ (e3'.trans e5))
  have may : g.May := Gram.may (Decidable.not_not.1 q)
  have htop : g.top = (g.terms.length : Int) + g.nons.length := rfl
  have hsm := fun s => Gram.of_small m2 s
  refine wk ?_
  refine W.midB (ι := Unit) (fun _ => [(1, .pointer (some ⟨w.heap.size, 0, none⟩))]) (fun _ w' => Ext w1 w') ?_ ?_
  · refine W.loop (ι := Nat) (fun i => [(1, .pointer (some ⟨w.heap.size, 0, none⟩)), (3, .int .i64 ((i : Int) + 1))])
      (fun i w' => Ext w1 w' ∧ (i : Int) ≤ g.top) (fun i => g.terms.length + g.nons.length - i) 0 has ⟨e3', by omega⟩ ?_
    rintro i w' ⟨hE, hi⟩
    refine wk ?_
    refine Wop.fn en20 rfl (gTop (hg1.ext hE)) ?_
    rintro _ w4 ⟨rfl, e4⟩
    have e4' := hE.trans e4
    refine wk ?_
    refine W.test rfl (fun hlt => ?_) (fun hge => ?_)
    · have hg4 := hg1.ext e4'
      have b4 := b1.ext e4'
      have hfn := may.find_name (s := (i : Int) + 1) (by omega) hlt
      have hnm : (g.name ((i : Int) + 1)).size ≤ 140737488355328 := by
        obtain ⟨hh, he⟩ := Gram.name_get (g := g) (s := (i : Int) + 1) (by omega) hlt
        rw [he]
        exact hg.strs _ (List.getElem_mem hh)
      have htn : g.term ((i : Int) + 1) = !g.non ((i : Int) + 1) := by
        cases ht : g.term ((i : Int) + 1) with
        | true =>
          have h1 := Gram.term_iff.1 ht
          cases hn : g.non ((i : Int) + 1) with
          | true => have := Gram.non_iff.1 hn; omega
          | false => rfl
        | false =>
          cases hn : g.non ((i : Int) + 1) with
          | true => rfl
          | false =>
            have h1 : g.non ((i : Int) + 1) = true := by
              refine Gram.non_iff.2 ⟨?_, by omega⟩
              rcases Int.lt_or_le (g.terms.length : Int) ((i : Int) + 1) with h | h
              · exact h
              · rw [Gram.term_iff.2 ⟨by omega, h⟩] at ht
                cases ht
            rw [hn] at h1
            cases h1
      have hof := may.of_pos ((i : Int) + 1)
      have hne : Value.bool (g.term ((i : Int) + 1) == g.non ((i : Int) + 1)) = .bool false := by rw [htn]; cases g.non ((i : Int) + 1) <;> rfl
      have hsm' := hsm ((i : Int) + 1)
      refine wk ?_
      refine W.any Ext [.eq _, .eq _, .eq _, .eq _, .eq _, .eq _, .eq _, .eq _, .eq _, .eq _, .eq _, .eq _, .eq _, .eq _, .eq _, .eq _, .eq _, .eq _, .eq _, .eq _, .eq _, .eq _, (someI (g.of ((i : Int) + 1))), .eq _, .eq _, .eq _, .eq _] [26] mixed rfl Ext.refl Ext.trans Ext.drew ⟨qs, qs, qs, by intro w_ hG; (repeat (intro v_ hv_; cases hv_)); exact WopG.plain rfl (Wop.fn en27 rfl (gName (hg4.ext hG) _) (fun v w' h => ⟨h.2, h.1⟩)), by intro w_ hG; (repeat (intro v_ hv_; cases hv_)); exact WopG.plain rfl (Wop.fn en29 rfl (gFind (hg4.ext hG) _ hnm) (fun v w' h => ⟨h.2, h.1.trans (congrArg (Value.int .i64) hfn)⟩)), qs, by intro w_ hG; (repeat (intro v_ hv_; cases hv_)); exact WopG.plain rfl (Wop.pure TT rfl ⟨Ext.refl _, neV _⟩), qs, qs, qs, by intro w_ hG; (repeat (intro v_ hv_; cases hv_)); exact WopG.yes rfl rfl rfl rfl (Wop.fn en22 rfl (gTerm _) (fun v w' h => ⟨h.2, h.1⟩)), qs, qs, by intro w_ hG; (repeat (intro v_ hv_; cases hv_)); exact WopG.yes rfl rfl rfl rfl (Wop.fn en24 rfl (gNon (hg4.ext hG) _) (fun v w' h => ⟨h.2, h.1⟩)), by intro w_ hG; (repeat (intro v_ hv_; cases hv_)); exact WopG.yes rfl rfl rfl rfl (Wop.pure TT rfl ⟨Ext.refl _, hne⟩), qs, qs, qs, qs, by intro w_ hG; (repeat (intro v_ hv_; cases hv_)); exact WopG.yes rfl rfl rfl rfl (Wop.fn en24 rfl (gNon (hg4.ext hG) _) (fun v w' h => ⟨h.2, h.1⟩)), qs, qs, by intro w_ hG; (repeat (intro v_ hv_; cases hv_)); exact WopG.yes rfl rfl rfl rfl (Wop.fn en32 rfl (gOf (hg4.ext hG) _) (fun v w' h => ⟨h.2, h.1.some hsm'.1 hsm'.2⟩)), by intro w_ hG v1 h1 v2 h2; cases h2; obtain ⟨A1, k1, rfl, _, r1⟩ := h1; exact WopG.yes rfl rfl rfl rfl (Wop.pure TT rfl ⟨Ext.refl _, rfl⟩), qs, by intro w_ hG; (repeat (intro v_ hv_; cases hv_)); exact WopG.yes rfl rfl rfl rfl (Wop.pure TT rfl ⟨Ext.refl _, by rw [hof]; exact (congrArg Value.bool (by congr 1; simp)).trans (nbV (decide (0 < (g.of ((i : Int) + 1)).length)))⟩), qs, trivial⟩ ?_
      rintro wq eq_ _ ⟨⟩
      refine wk ?_
      refine Arr.again (i + 1) (Has.cons rfl (Has.consI rfl (by omega) Has.nil)) ⟨e4'.trans eq_, by omega⟩ (by omega)
    · refine wk ?_
      exact Arr.mid () has e4'
  rintro _ w0 hE0
  refine wk ?_
  have htot := may.of_total
  refine W.loop (ι := Nat) (fun i => [(1, .pointer (some ⟨w.heap.size, 0, none⟩)), (5, .int .i64 (i : Int)), (4, .int .i64 ((((List.range i).map fun (s : Nat) => (g.of (s : Int)).length).sum : Nat) : Int))])
    (fun i w' => Ext w1 w' ∧ i ≤ g.terms.length + g.nons.length + 1) (fun i => g.terms.length + g.nons.length + 1 - i) 0 has ⟨hE0, by omega⟩ ?_
  rintro i w' ⟨hE, hi⟩
  have hsum := sum_take (f := fun (s : Nat) => (g.of (s : Int)).length) hi
  rw [htot] at hsum
  refine wk ?_
  refine Wop.fn en20 rfl (gTop (hg1.ext hE)) ?_
  rintro _ w4 ⟨rfl, e4⟩
  have e4' := hE.trans e4
  refine wk ?_
  refine W.test rfl (fun hlt => ?_) (fun hge => ?_)
  · have hsm' := hsm (i : Int)
    have hlast : (List.map (fun (s : Nat) => (g.of (s : Int)).length) (List.range (i + 1))).sum = (List.map (fun (s : Nat) => (g.of (s : Int)).length) (List.range i)).sum + (g.of (i : Int)).length := by
      rw [List.range_succ, List.map_append, List.sum_append]
      simp
    have hsum' := sum_take (f := fun (s : Nat) => (g.of (s : Int)).length) (show i + 1 ≤ g.terms.length + g.nons.length + 1 by omega)
    rw [htot, hlast] at hsum'
    refine wk ?_
    refine Wop.fn en32 rfl (gOf (hg1.ext e4') (i : Int)) ?_
    rintro v w5 ⟨ho, e5⟩
    have e5' := e4'.trans e5
    obtain ⟨A, c, rfl, hcap, hrow⟩ := OwnI.row (S := fun _ => True) ho hsm'.1 hsm'.2 (fun _ _ => trivial)
    refine wk ?_
    refine W.midB (ι := Unit) (fun _ => [(1, .pointer (some ⟨w.heap.size, 0, none⟩)), (5, .int .i64 (i : Int)), (4, .int .i64 ((((List.range i).map fun (s : Nat) => (g.of (s : Int)).length).sum : Nat) : Int)), (6, .slice A (g.of (i : Int)).length c)]) (fun _ w' => Ext w1 w') ?_ ?_
    · refine W.loop (ι := Nat) (fun k => [(1, .pointer (some ⟨w.heap.size, 0, none⟩)), (5, .int .i64 (i : Int)), (4, .int .i64 ((((List.range i).map fun (s : Nat) => (g.of (s : Int)).length).sum : Nat) : Int)), (6, .slice A (g.of (i : Int)).length c), (7, .int .i64 (k : Int))])
        (fun k w' => Ext w5 w' ∧ k ≤ (g.of (i : Int)).length) (fun k => (g.of (i : Int)).length - k) 0 has ⟨Ext.refl _, Nat.zero_le _⟩ ?_
      rintro k w' ⟨hE6, hk⟩
      refine wk ?_
      refine W.test rfl (fun hlk => ?_) (fun hgk => ?_)
      · have hlk : k < (g.of (i : Int)).length := by omega
        obtain ⟨b, o, rfl, es, ⟨rfl, hs2⟩, hc2⟩ := hrow.at_ k hlk
        have hcell := hE6.cell (hc2 0 _ rfl)
        have b6 := b1.ext (e5'.trans hE6)
        have hg6 := hg1.ext (e5'.trans hE6)
        obtain ⟨hr1, hr2⟩ := Gram.of_rule hlk
        refine wk ?_
        refine W.anyK (Below w'.heap.size) [(fun v _ => v = _), (fun v _ => v = _), (fun v _ => v = _), (fun v _ => v = _), (fun v _ => v = _), (fun v _ => ∃ A c n, v = .tuple #[.agg #[.int .i64 (i : Int), .slice A n c], .bool true]), (fun v _ => ∃ A c n, v = .tuple #[.agg #[.int .i64 (i : Int), .slice A n c], .bool true]), (fun v _ => ∃ A c n, v = .agg #[.int .i64 (i : Int), .slice A n c]), (fun v _ => v = _), (fun v w => ∃ b, v = .pointer (some ⟨b, 0, none⟩) ∧ w'.heap.size ≤ b ∧ Blk w b #[.int .i64 0, .slice none 0 0] 30), (fun v w => ∃ b A c n, v = .pointer (some ⟨b, 0, none⟩) ∧ Blk w b #[.int .i64 (i : Int), .slice A n c] 30), (fun v _ => v = _)] [10, 11] mixed rfl (Below.refl _) Below.trans (fun w => (Below.refl _ w).drew) ⟨qk, qk, qk, qk, qk, by intro w_ hG; (repeat (intro v_ hv_; cases hv_)); exact WopG.plain rfl (Wop.fn en16 rfl (gRule (hg6.ext hG) _) (fun v w' h => ⟨Below.mono h.2 (Below.size hG), (by obtain ⟨⟨u, rfl, A, c, rfl, _⟩, _⟩ := h; exact ⟨A, c, _, by rw [hr1, hr2]⟩), (by repeat (first | exact trivial | refine ⟨fun _ h => h, ?_⟩ | refine ⟨fun _ ⟨b, h1, h2, h3⟩ => ⟨b, h1, h2, h3.ext h.2⟩, ?_⟩))⟩)), by rintro w_ hG v ⟨A, c, n, rfl⟩; exact WopG.plain rfl (Wop.pure TT rfl ⟨Below.refl _ _, ⟨A, c, n, rfl⟩, (by repeat (first | exact trivial | refine ⟨fun _ h => h, ?_⟩))⟩), by rintro w_ hG v ⟨A, c, n, rfl⟩; exact WopG.plain rfl (Wop.pure TT rfl ⟨Below.refl _ _, ⟨A, c, n, rfl⟩, (by repeat (first | exact trivial | refine ⟨fun _ h => h, ?_⟩))⟩), by rintro w_ hG v ⟨A, c, n, rfl⟩; exact WopG.plain rfl (Wop.pure TT rfl ⟨Below.refl _ _, rfl, (by repeat (first | exact trivial | refine ⟨fun _ h => h, ?_⟩))⟩), by intro w_ hG; exact WopG.plain rfl (Wop.alloc (z := .agg #[.int .i64 0, .slice none 0 0]) Try.zeroValue30 (fun w2 e2 b2 z2 => ⟨Below.mono e2 (Below.size hG), ⟨_, rfl, Below.size hG, b2⟩, (by repeat (first | exact trivial | refine ⟨fun _ h => h, ?_⟩))⟩)), by rintro w_ hG v ⟨b, rfl, hb, hB⟩ v' ⟨A, c, n, rfl⟩; exact WopG.plain rfl (Wop.stB TT rfl rfl rfl (by simp [Value.oneCell']) hB rfl (fun w3 h3 b3 z3 k3 => ⟨Below.mono h3 hb, ⟨_, rfl, b, A, c, n, rfl, b3⟩, (by repeat (first | exact trivial | refine ⟨fun _ h => h, ?_⟩))⟩)), qk, trivial⟩ ?_
        rintro wq eq_ v10 ⟨b', A', c', n', rfl, hb'⟩ v11 ⟨⟩
        have e8 : Ext w5 wq := hE6.trans eq_
        refine wk ?_
        refine W.test rfl (fun hx => ?_) (fun hx => ?_)
        · exact absurd rfl hx
        refine wk ?_
        refine Arr.again (i := k) (k + 1) has ⟨e8, hlk⟩ (by omega)
      · refine wk ?_
        exact Arr.mid () has (e5'.trans hE6)
    · rintro _ w7 hE7
      refine wk ?_
      refine Arr.again (i := i) (i + 1) (Has.cons rfl (Has.cons rfl (Has.consI rfl (by rw [hlast]; omega) Has.nil))) ⟨hE7, by omega⟩ (by omega)
  · have : i = g.terms.length + g.nons.length + 1 := by omega
    subst this
    rw [htot]
    refine wk ?_
    refine Wl.part rfl rfl rfl (fun hx => ?_) (fun hx => ?_)
    rotate_left
    · exact absurd rfl hx
    refine wk ?_
    refine Wop.fn en15 rfl awake6 ?_
    rintro _ w5 ⟨rfl, e5⟩
    refine wk ?_
    exact Arr.ret1 rfl rfl (out _ (e4'.trans e5))
end Go.Proofs.Ytbadjlhijbkbbaa
