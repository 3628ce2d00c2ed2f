/-
  Joined by program out of the texts Much Aw6 Lw6 Lc6 Ln6 Lx6: lemmas for the proofs of this seat; no condition.
-/
import Derived.Test.YtbadjlhijbkbbaaBb
import Derived.Test.YtbadjlhijbkbbaaBg
import Derived.Test.YtbadjlhijbkbbaaBf
import Derived.Test.YtbadjlhijbkbbaaBa
/-
  How much a grammar is.
-/
set_option linter.unusedVariables false
namespace Go.Proofs.Ytbadjlhijbkbbaa
open Go Go.RowKit Sx
variable {S : Nat → Prop} {w : World} {g : Gram} {A0 A1 A2 : Option Addr} {c0 c1 c2 : Nat}
/-- The sum of the first k of some numbers, each one's d-th part. -/
def partSum (d : Nat) (l : List Nat) : Nat := (l.map (· / d)).sum
def Gram.much (g : Gram) : Nat := g.terms.length + g.nons.length + g.rules.length + partSum 20 ((g.terms.map (·.size)).take 200) + partSum 20 ((g.nons.map (·.size)).take 200) + partSum 9 ((g.rules.map (·.right.length)).take 400)
theorem partSum_step (d : Nat) {l : List Nat} {i : Nat} (h : i < l.length) : partSum d (l.take (i + 1)) = partSum d (l.take i) + l[i] / d := by
  rw [List.take_succ_eq_append_getElem h, partSum, partSum, List.map_append, List.sum_append]
  simp
theorem partSum_le (d B : Nat) : ∀ (l : List Nat), (∀ x ∈ l, x ≤ B) → partSum d l ≤ l.length * B
  | [], _ => by simp [partSum]
  | x :: l, h => by
    have := partSum_le d B l (fun y hy => h y (List.mem_cons_of_mem _ hy))
    have h1 := h x List.mem_cons_self
    have h2 := Nat.div_le_self x d
    simp only [partSum, List.map_cons, List.sum_cons, List.length_cons] at this ⊢
    rw [Nat.add_mul]
    omega
theorem partSum_lt {d B i : Nat} (l : List Nat) (h : ∀ x ∈ l, x ≤ B) : partSum d (l.take i) ≤ i * B := by
  have h1 := partSum_le d B (l.take i) (fun x hx => h x (List.mem_of_mem_take hx))
  have h2 : (l.take i).length ≤ i := by rw [List.length_take]; omega
  exact Nat.le_trans h1 (Nat.mul_le_mul_right B h2)
set_option maxRecDepth 20000 in
theorem gMuch (hg : GramAt S w g A0 A1 A2 c0 c1 c2) : Calls Try.prog 14 [.agg (gcells g A0 A1 A2 c0 c1 c2).toArray].toArray w (Ret fun v w' => v = .int .i64 g.much ∧ Ext w w') := by
  have h0 := hg.terms.2.1
  have h1 := hg.nons.2.1
  have h2 := hg.rules.2.1
  have hb0 : ∀ x ∈ g.terms.map (·.size), x ≤ 140737488355328 := by
    intro x hx
    obtain ⟨s, hs, rfl⟩ := List.mem_map.1 hx
    obtain ⟨es, he⟩ := hg.terms.all s hs
    exact he.2
  have hb1 : ∀ x ∈ g.nons.map (·.size), x ≤ 140737488355328 := by
    intro x hx
    obtain ⟨s, hs, rfl⟩ := List.mem_map.1 hx
    obtain ⟨es, he⟩ := hg.nons.all s hs
    exact he.2
  have hb2 : ∀ x ∈ g.rules.map (·.right.length), x ≤ 1099511627776 := by
    intro x hx
    obtain ⟨s, hs, rfl⟩ := List.mem_map.1 hx
    obtain ⟨es, he⟩ := hg.rules.all s hs
    obtain ⟨_, _, _, _, _, hr⟩ := tRule_open he
    exact hr.2.1
  have s0 := fun i => partSum_lt (d := 20) (i := i) _ hb0
  have s1 := fun i => partSum_lt (d := 20) (i := i) _ hb1
  have s2 := fun i => partSum_lt (d := 9) (i := i) _ hb2
  refine enter Try.func14 rfl Try.ntmps14 rfl ?_
  refine wk ?_; try (refine Wop.box rfl (fun w1 e1 b1 z1 => ?_); refine wk ?_)
  have hg1 := hg.ext e1
  refine W.midB (ι := Unit) (fun _ => [(1, .pointer (some ⟨w.heap.size, 0, none⟩)), (3, .int .i64 ((g.terms.length + g.nons.length + g.rules.length + partSum 20 ((g.terms.map (·.size)).take 200) : Nat) : Int))]) (fun _ w' => Ext w1 w') ?_ ?_
  · refine W.loop (ι := Nat) (fun i => [(1, .pointer (some ⟨w.heap.size, 0, none⟩)), (4, .int .i64 (i : Int)), (3, .int .i64 ((g.terms.length + g.nons.length + g.rules.length + partSum 20 ((g.terms.map (·.size)).take i) : Nat) : Int))])
      (fun i w' => Ext w1 w' ∧ i ≤ g.terms.length ∧ i ≤ 200) (fun i => g.terms.length - i) 0 (Has.cons rfl (Has.cons rfl (Has.consI rfl (by simp [partSum]) Has.nil))) ⟨Ext.refl w1, Nat.zero_le _, Nat.zero_le _⟩ ?_
    rintro i w' ⟨hE, hi, ha⟩
    have hs := s0 i
    have hfin : i = g.terms.length ∨ i = 200 → partSum 20 ((g.terms.map (·.size)).take i) = partSum 20 ((g.terms.map (·.size)).take 200) := by
      rintro (rfl | rfl)
      · rw [List.take_of_length_le (by simp), List.take_of_length_le (by simpa using ha)]
      · rfl
    refine wk ?_
    refine Wl.part rfl rfl rfl (fun p => ?_) (fun p => ?_)
    · refine wk ?_
      refine W.test rfl (fun q => ?_) (fun q => ?_)
      · have hlt : i < g.terms.length := by omega
        obtain ⟨b, o, rfl, es, ⟨rfl, hsz⟩, hc⟩ := (hg1.terms.ext (by decide) hE).at_ i hlt
        have hcell := hc 0 _ rfl
        refine wk ?_
        refine Wop.quo rfl rfl (by omega) (by omega) (by omega) ?_
        have hst := partSum_step 20 (l := g.terms.map (·.size)) (i := i) (by simpa using hlt)
        rw [List.getElem_map] at hst
        refine wk ?_
        refine Arr.again (i + 1) (Has.cons rfl (Has.cons rfl (Has.consI rfl (by rw [hst]; omega) Has.nil))) ⟨hE, by omega, by omega⟩ (by omega)
      · refine wk ?_
        exact Arr.mid () (by rw [← hfin (by omega)]; exact has ) hE
    · refine wk ?_
      exact Arr.mid () (by rw [← hfin (by omega)]; exact has ) hE
  rintro _ w0 hE0
  have t0 := s0 200
  refine wk ?_
  refine W.midB (ι := Unit) (fun _ => [(1, .pointer (some ⟨w.heap.size, 0, none⟩)), (3, .int .i64 ((g.terms.length + g.nons.length + g.rules.length + partSum 20 ((g.terms.map (·.size)).take 200) + partSum 20 ((g.nons.map (·.size)).take 200) : Nat) : Int))]) (fun _ w' => Ext w1 w') ?_ ?_
  · refine W.loop (ι := Nat) (fun i => [(1, .pointer (some ⟨w.heap.size, 0, none⟩)), (5, .int .i64 (i : Int)), (3, .int .i64 ((g.terms.length + g.nons.length + g.rules.length + partSum 20 ((g.terms.map (·.size)).take 200) + partSum 20 ((g.nons.map (·.size)).take i) : Nat) : Int))])
      (fun i w' => Ext w1 w' ∧ i ≤ g.nons.length ∧ i ≤ 200) (fun i => g.nons.length - i) 0 (Has.cons rfl (Has.cons rfl (Has.consI rfl (by simp [partSum]) Has.nil))) ⟨hE0, Nat.zero_le _, Nat.zero_le _⟩ ?_
    rintro i w' ⟨hE, hi, ha⟩
    have hs := s1 i
    have hfin : i = g.nons.length ∨ i = 200 → partSum 20 ((g.nons.map (·.size)).take i) = partSum 20 ((g.nons.map (·.size)).take 200) := by
      rintro (rfl | rfl)
      · rw [List.take_of_length_le (by simp), List.take_of_length_le (by simpa using ha)]
      · rfl
    refine wk ?_
    refine Wl.part rfl rfl rfl (fun p => ?_) (fun p => ?_)
    · refine wk ?_
      refine W.test rfl (fun q => ?_) (fun q => ?_)
      · have hlt : i < g.nons.length := by omega
        obtain ⟨b, o, rfl, es, ⟨rfl, hsz⟩, hc⟩ := (hg1.nons.ext (by decide) hE).at_ i hlt
        have hcell := hc 0 _ rfl
        refine wk ?_
        refine Wop.quo rfl rfl (by omega) (by omega) (by omega) ?_
        have hst := partSum_step 20 (l := g.nons.map (·.size)) (i := i) (by simpa using hlt)
        rw [List.getElem_map] at hst
        refine wk ?_
        refine Arr.again (i + 1) (Has.cons rfl (Has.cons rfl (Has.consI rfl (by rw [hst]; omega) Has.nil))) ⟨hE, by omega, by omega⟩ (by omega)
      · refine wk ?_
        exact Arr.mid () (by rw [← hfin (by omega)]; exact has ) hE
    · refine wk ?_
      exact Arr.mid () (by rw [← hfin (by omega)]; exact has ) hE
  rintro _ w0 hE0
  have t1 := s1 200
  refine wk ?_
  refine W.loop (ι := Nat) (fun i => [(1, .pointer (some ⟨w.heap.size, 0, none⟩)), (6, .int .i64 (i : Int)), (3, .int .i64 ((g.terms.length + g.nons.length + g.rules.length + partSum 20 ((g.terms.map (·.size)).take 200) + partSum 20 ((g.nons.map (·.size)).take 200) + partSum 9 ((g.rules.map (·.right.length)).take i) : Nat) : Int))])
      (fun i w' => Ext w1 w' ∧ i ≤ g.rules.length ∧ i ≤ 400) (fun i => g.rules.length - i) 0 (Has.cons rfl (Has.cons rfl (Has.consI rfl (by simp [partSum]) Has.nil))) ⟨hE0, Nat.zero_le _, Nat.zero_le _⟩ ?_
  rintro i w' ⟨hE, hi, ha⟩
  have hs := s2 i
  have hfin : i = g.rules.length ∨ i = 400 → partSum 9 ((g.rules.map (·.right.length)).take i) = partSum 9 ((g.rules.map (·.right.length)).take 400) := by
    rintro (rfl | rfl)
    · rw [List.take_of_length_le (by simp), List.take_of_length_le (by simpa using ha)]
    · rfl
  refine wk ?_
  refine Wl.part rfl rfl rfl (fun p => ?_) (fun p => ?_)
  · refine wk ?_
    refine W.test rfl (fun q => ?_) (fun q => ?_)
    · have hlt : i < g.rules.length := by omega
      obtain ⟨b, o, rfl, es, hrd, hc⟩ := (hg1.rules.ext (by decide) hE).at_ i hlt
      obtain ⟨A, c, rfl, hcap, hl64, hrow⟩ := tRule_open hrd
      have hcell := hc 1 _ rfl
      have hrm := hrow.2.1
      refine wk ?_
      refine Wop.quo rfl rfl (by omega) (by omega) (by omega) ?_
      have hst := partSum_step 9 (l := g.rules.map (·.right.length)) (i := i) (by simpa using hlt)
      rw [List.getElem_map] at hst
      refine wk ?_
      refine Arr.again (i + 1) (Has.cons rfl (Has.cons rfl (Has.consI rfl (by rw [hst]; omega) Has.nil))) ⟨hE, by omega, by omega⟩ (by omega)
    · refine wk ?_
      refine Arr.ret1 rfl rfl ⟨?_, e1.trans hE⟩
      rw [Gram.much, hfin (by omega)]
  · refine wk ?_
    refine Arr.ret1 rfl rfl ⟨?_, e1.trans hE⟩
    rw [Gram.much, hfin (by omega)]
end Go.Proofs.Ytbadjlhijbkbbaa

/-
  The small grammar at which the program is tried, laid in memory; the first layer's own trial.
-/
set_option linter.unusedVariables false
namespace Go.Proofs.Ytbadjlhijbkbbaa
open Go Go.RowKit Sx
variable {S : Nat → Prop} {w : World} {g : Gram} {A0 A1 A2 : Option Addr} {c0 c1 c2 : Nat}
def gA : Gram := ⟨["A".toUTF8, "'x'".toUTF8], ["s".toUTF8], [⟨3, [1, 2]⟩], 3⟩
theorem gA_check : gA.check = 0 := by decide +kernel
theorem gA_ordered : gA.ordered = true := by decide +kernel
theorem gA_find : gA.find "s".toUTF8 = 3 := by decide +kernel
theorem gA_name : gA.name 2 = "'x'".toUTF8 := by decide +kernel
theorem gA_rule : gA.rule 1 = (true, ⟨0, [3]⟩) := by decide +kernel
theorem awake6 : Calls Try.prog 15 [].toArray w (Ret fun v w' => v = .bool true ∧ Ext w w') := by
  refine enter Try.func15 rfl Try.ntmps15 rfl ?_
  refine wk ?_
  refine Wop.buildSlice (cs := #[.string "A".toUTF8, .string "'x'".toUTF8]) (z := .string ⟨#[]⟩) TT rfl rfl rfl Try.zeroValue9 rfl rfl rfl rfl (fun w1 e1 b1 z1 => ?_)
  refine wk ?_
  refine Wop.buildSlice (cs := #[.string "s".toUTF8]) (z := .string ⟨#[]⟩) TT rfl rfl rfl Try.zeroValue9 rfl rfl rfl rfl (fun w2 e2 b2 z2 => ?_)
  refine wk ?_
  refine Wop.buildSlice (cs := #[.int .i64 1, .int .i64 2]) (z := .int .i64 0) TT rfl rfl rfl Try.zeroValue3 rfl rfl rfl rfl (fun w3 e3 b3 z3 => ?_)
  refine wk ?_
  refine Wop.make (cs := #[.int .i64 3, .slice (some ⟨w2.heap.size, 0, none⟩) 2 2]) pl30 rfl rfl ?_
  refine wk ?_
  refine Wop.buildSlice (cs := #[.int .i64 3, .slice (some ⟨w2.heap.size, 0, none⟩) 2 2]) (z := .agg #[.int .i64 0, .slice none 0 0]) TT rfl rfl rfl Try.zeroValue30 rfl rfl rfl rfl (fun w4 e4 b4 z4 => ?_)
  refine wk ?_
  refine Wop.make (cs := (gcells gA (some ⟨w.heap.size, 0, none⟩) (some ⟨w1.heap.size, 0, none⟩) (some ⟨w3.heap.size, 0, none⟩) 2 1 1).toArray) pl25 rfl rfl ?_
  refine wk ?_
  refine Wop.alloc (z := .agg #[.slice none 0 0, .slice none 0 0, .slice none 0 0, .int .i64 0]) Try.zeroValue25 (fun w5 e5 b5 z5 => ?_)
  refine wk ?_
  refine Wop.stB TT rfl rfl rfl (by simp [Value.oneCell']) b5 rfl (fun w6 h6 b6 z6 k6 => ?_)
  have e46 : Ext w4 w6 := Below.trans e5 h6
  have e36 := e4.trans e46
  have e26 := e3.trans e36
  have e16 := e2.trans e26
  have e06 := e1.trans e16
  have i64 : ∀ n : Int, 0 ≤ n → n < 100 → Ty.InK .i64 n := fun n h1 h2 => Ty.InK.of64 ⟨by omega, by omega⟩
  have hg : GramAt (fun _ => True) w6 gA (some ⟨w.heap.size, 0, none⟩) (some ⟨w1.heap.size, 0, none⟩) (some ⟨w3.heap.size, 0, none⟩) 2 1 1 := by
    refine ⟨Blk.rowL (xs := gA.terms) (b1.ext e16) ⟨[_], _, rfl, ⟨rfl, by decide⟩, [_], _, rfl, ⟨rfl, by decide⟩, rfl⟩ trivial (by decide), Blk.rowL (xs := gA.nons) (b2.ext e26) ⟨[_], _, rfl, ⟨rfl, by decide⟩, rfl⟩ trivial (by decide),
      Blk.rowL (xs := gA.rules) (b4.ext e46) ⟨[_, _], _, rfl, ⟨[_], [_], rfl, ⟨rfl, i64 _ (by decide) (by decide)⟩, _, _, _, rfl, Nat.le_refl _, ?_⟩, rfl⟩ trivial (by decide), ⟨by decide, by decide⟩, by decide, by decide, by decide⟩
    exact Blk.rowL (D := tI) (xs := [1, 2]) (b3.ext e36) ⟨[_], _, rfl, ⟨rfl, i64 _ (by decide) (by decide)⟩, [_], _, rfl, ⟨rfl, i64 _ (by decide) (by decide)⟩, rfl⟩ trivial (by decide)
  refine wk ?_
  refine Wop.fn en16 rfl (gRule hg 1) ?_
  rintro _ w7 ⟨⟨u, rfl, hu⟩, e7⟩
  rw [gA_rule] at hu ⊢
  obtain ⟨A, c, rfl, hc, hl, hr⟩ := hu
  refine wk ?_
  refine Wop.alloc (z := .agg #[.int .i64 0, .slice none 0 0]) Try.zeroValue30 (fun w8 e8 b8 z8 => ?_)
  refine wk ?_
  refine Wop.stB TT rfl rfl rfl (by simp [Value.oneCell']) b8 rfl (fun w9 h9 b9 z9 k9 => ?_)
  have e79 : Ext w7 w9 := Below.trans e8 h9
  have e69 := e7.trans e79
  have hg9 := hg.ext e69
  obtain ⟨b, o, rfl, es, ⟨rfl, hs⟩, hcc⟩ := (hr.ext (by decide) e79).at_ 0 (by decide)
  have hcell := hcc 0 _ rfl
  refine wk ?_
  refine Wop.fn en18 rfl (gCheck hg9) ?_
  rintro _ w10 ⟨rfl, e10⟩
  rw [gA_check]
  have hg10 := hg9.ext e10
  have e6a := e69.trans e10
  refine wk ?_
  refine Wop.fn en27 rfl (gName hg10 2) ?_
  rintro _ w11 ⟨rfl, e11⟩
  rw [gA_name]
  have hg11 := hg10.ext e11
  have e6b := e69.trans (e10.trans e11)
  refine wk ?_
  refine Wop.fn en29 rfl (gFind hg11 "s".toUTF8 (by decide)) ?_
  rintro _ w12 ⟨rfl, e12⟩
  rw [gA_find]
  have hg12 := hg11.ext e12
  have e6c := e6b.trans e12
  refine wk ?_
  refine Wop.fn en20 rfl (gTop hg12) ?_
  rintro _ w13 ⟨rfl, e13⟩
  have hg13 := hg12.ext e13
  have e6d := e6c.trans e13
  refine wk ?_
  refine Wop.fn en22 rfl (gTerm 1) ?_
  rintro _ w14 ⟨rfl, e14⟩
  have hg14 := hg13.ext e14
  have e6e := e6d.trans e14
  refine wk ?_
  refine Wop.fn en24 rfl (gNon hg14 3) ?_
  rintro _ w15 ⟨rfl, e15⟩
  have hg15 := hg14.ext e15
  have e6f := e6e.trans e15
  have e9f := e10.trans (e11.trans (e12.trans (e13.trans (e14.trans e15))))
  refine wk ?_
  refine Wop.ixI TT 0 rfl rfl rfl rfl rfl rfl (by decide) ?_
  refine wk ?_
  refine Wop.fn en34 rfl (gOrdered hg15) ?_
  rintro _ w16 ⟨rfl, e16'⟩
  rw [gA_ordered]
  refine wk ?_
  exact Arr.ret1 rfl rfl ⟨rfl, e06.trans (e6f.trans e16')⟩
end Go.Proofs.Ytbadjlhijbkbbaa

/-
  The walks of the first layer's laws.
-/
set_option linter.unusedVariables false
namespace Go.Proofs.Ytbadjlhijbkbbaa
open Go Go.RowKit Sx
variable {S S' : Nat → Prop} {w : World} {g h : Gram} {A0 A1 A2 B0 B1 B2 : Option Addr} {c0 c1 c2 d0 d1 d2 : Nat}
theorem lawSame (hg : GramAt S w g A0 A1 A2 c0 c1 c2) (hh : GramAt S' w h B0 B1 B2 d0 d1 d2) : Calls Try.prog 5 [.agg (gcells g A0 A1 A2 c0 c1 c2).toArray, .agg (gcells h B0 B1 B2 d0 d1 d2).toArray].toArray w (Ret fun v w' => v = .bool true ∧ Ext w w') := by
  refine enter Try.func5 rfl Try.ntmps5 rfl ?_
  refine wk ?_
  refine Wop.box rfl (fun w1 e1 b1 z1 => ?_)
  refine wk ?_
  refine Wop.box rfl (fun w2 e2 b2 z2 => ?_)
  have e12 := e1.trans e2
  have hg2 := hg.ext e12
  have hh2 := hh.ext e12
  refine wk ?_
  refine Wop.fn en14 rfl (gMuch hg2) ?_
  rintro _ w3 ⟨rfl, e3⟩
  have e23 := e2.trans e3
  have out : ∀ w', Ext w2 w' → Value.bool true = .bool true ∧ Ext w w' := fun w' e => ⟨rfl, e12.trans e⟩
  refine wk ?_
  refine Wl.part rfl rfl rfl (fun p => ?_) (fun p => ?_)
  · refine wk ?_
    refine Wop.fn en15 rfl awake6 ?_
    rintro _ w5 ⟨rfl, e5⟩
    refine wk ?_
    exact Arr.ret1 rfl rfl (out _ (e3.trans e5))
  · refine wk ?_
    refine Wop.fn en14 rfl (gMuch (hh2.ext e3)) ?_
    rintro _ w4 ⟨rfl, e4⟩
    have e34 := e3.trans e4
    have e24 := e2.trans e34
    refine wk ?_
    refine W.test rfl (fun q => ?_) (fun q => ?_)
    · refine wk ?_
      refine Wop.fn en15 rfl awake6 ?_
      rintro _ w5 ⟨rfl, e5⟩
      refine wk ?_
      exact Arr.ret1 rfl rfl (out _ (e34.trans e5))
    · have hg4 := hg2.ext e34
      have hh4 := hh2.ext e34
      have k1 := b1.ext e24
      have k2 := b2.ext e34
      refine wk ?_
      cases hd : decide (g = h) with
      | true =>
        refine W.any Ext [.eq _, .eq _, .eq _, .eq _, .eq _, .eq _, .eq _, .eq _, .eq _, .eq _, .eq _, .eq _, .eq _, .eq _, .eq _, .eq _] [15] mixed rfl Ext.refl Ext.trans Ext.drew ⟨qs, qs, by intro w_ hG; (repeat (intro v_ hv_; cases hv_)); exact WopG.plain rfl (Wop.fn en36 rfl (gSame (hg4.ext hG) (hh4.ext hG)) (fun v w' h => ⟨h.2, h.1.trans (congrArg Value.bool hd)⟩)), qs, qs, by intro w_ hG; (repeat (intro v_ hv_; cases hv_)); exact WopG.plain rfl (Wop.fn en37 rfl (rSame (hg4.ext hG) (hh4.ext hG)) (fun v w' h => ⟨h.2, h.1.trans (congrArg Value.bool hd)⟩)), qs, qs, qs, qs, by intro w_ hG; (repeat (intro v_ hv_; cases hv_)); exact WopG.yes rfl rfl rfl rfl (Wop.fn en36 rfl (gSame (hg4.ext hG) (hg4.ext hG)) (fun v w' h => ⟨h.2, h.1.trans (congrArg Value.bool (decide_eq_true rfl))⟩)), qs, qs, by intro w_ hG; (repeat (intro v_ hv_; cases hv_)); exact WopG.yes rfl rfl rfl rfl (Wop.fn en15 rfl awake6 (fun v w' h => ⟨h.2, h.1⟩)), qs, qs, trivial⟩ ?_
        rintro wq eq_ _ ⟨⟩
        refine wk ?_
        exact Arr.ret1 rfl rfl (out _ (e34.trans eq_))
      | false =>
        refine W.any Ext [.eq _, .eq _, .eq _, .eq _, .eq _, .eq _, .eq _, .eq _, .eq _, .eq _, .eq _, .eq _, .eq _, .eq _, .eq _, .eq _] [15] mixed rfl Ext.refl Ext.trans Ext.drew ⟨qs, qs, by intro w_ hG; (repeat (intro v_ hv_; cases hv_)); exact WopG.plain rfl (Wop.fn en36 rfl (gSame (hg4.ext hG) (hh4.ext hG)) (fun v w' h => ⟨h.2, h.1.trans (congrArg Value.bool hd)⟩)), qs, qs, by intro w_ hG; (repeat (intro v_ hv_; cases hv_)); exact WopG.plain rfl (Wop.fn en37 rfl (rSame (hg4.ext hG) (hh4.ext hG)) (fun v w' h => ⟨h.2, h.1.trans (congrArg Value.bool hd)⟩)), qs, qs, qs, qs, by intro w_ hG; (repeat (intro v_ hv_; cases hv_)); exact WopG.yes rfl rfl rfl rfl (Wop.fn en36 rfl (gSame (hg4.ext hG) (hg4.ext hG)) (fun v w' h => ⟨h.2, h.1.trans (congrArg Value.bool (decide_eq_true rfl))⟩)), qs, qs, by intro w_ hG; (repeat (intro v_ hv_; cases hv_)); exact WopG.yes rfl rfl rfl rfl (Wop.fn en15 rfl awake6 (fun v w' h => ⟨h.2, h.1⟩)), qs, qs, trivial⟩ ?_
        rintro wq eq_ _ ⟨⟩
        refine wk ?_
        exact Arr.ret1 rfl rfl (out _ (e34.trans eq_))
end Go.Proofs.Ytbadjlhijbkbbaa

/-
  The walk of GramChecks.
-/
set_option linter.unusedVariables false
namespace Go.Proofs.Ytbadjlhijbkbbaa
open Go Go.RowKit Sx
variable {S S' : Nat → Prop} {w : World} {g h : Gram} {A0 A1 A2 B0 B1 B2 : Option Addr} {c0 c1 c2 d0 d1 d2 : Nat}
/-- Numbers in a row, wherever. -/
def someI (xs : List Int) : Fact Ext := ⟨fun v w => ∃ A c, v = .slice A xs.length c ∧ xs.length ≤ c ∧ tI.Row (fun _ => True) w A xs.length xs, fun e h => by
  obtain ⟨A, c, h1, h2, h3⟩ := h
  exact ⟨A, c, h1, h2, h3.ext (by decide) e⟩⟩
theorem OwnI.some {w : World} {base : Nat} {v : Value} {xs : List Int} (h : OwnI w base v xs) (hm : xs.length ≤ 1099511627776) (hr : ∀ x ∈ xs, I64 x) : (someI xs).p v w := OwnI.row (S := fun _ => True) h hm hr (fun _ _ => trivial)
theorem Gram.of_small {g : Gram} (h : g.rules.length ≤ 1099511627776) (s : Int) : (g.of s).length ≤ 1099511627776 ∧ ∀ x ∈ g.of s, I64 x := by
  have h1 := ofFrom_length s g.rules 0
  refine ⟨Nat.le_trans h1 h, fun x hx => ?_⟩
  have := ofFrom_lt s g.rules 0 x hx
  exact ⟨by omega, by omega⟩
set_option maxRecDepth 20000 in
theorem lawChecks (hg : GramAt S w g A0 A1 A2 c0 c1 c2) (s i : Int) (name : ByteArray) (hn : name.size ≤ 140737488355328) : Calls Try.prog 3 [.agg (gcells g A0 A1 A2 c0 c1 c2).toArray, .int .i64 s, .int .i64 i, .string name].toArray w (Ret fun v w' => v = .bool true ∧ Ext w w') := by
  have h2 := hg.rules.2.1
  refine enter Try.func3 rfl Try.ntmps3 rfl ?_
  refine wk ?_
  refine Wop.box rfl (fun w1 e1 b1 z1 => ?_)
  have hg1 := hg.ext e1
  have out : ∀ w', Ext w1 w' → Value.bool true = .bool true ∧ Ext w w' := fun w' e => ⟨rfl, e1.trans e⟩
  refine wk ?_
  refine Wop.fn en14 rfl (gMuch hg1) ?_
  rintro _ w2 ⟨rfl, e2⟩
  refine wk ?_
  refine Wl.part rfl rfl rfl (fun p => ?_) (fun p => ?_)
  · refine wk ?_
    refine Wop.fn en15 rfl awake6 ?_
    rintro _ w5 ⟨rfl, e5⟩
    refine wk ?_
    exact Arr.ret1 rfl rfl (out _ (e2.trans e5))
  have hs : g.names.length ≤ 1099511627776 := by
    simp only [Gram.much] at p
    simp only [Gram.names, List.length_append]
    omega
  refine wk ?_
  refine W.test rfl (fun q => ?_) (fun q => ?_)
  · refine wk ?_
    refine Wop.fn en15 rfl awake6 ?_
    rintro _ w5 ⟨rfl, e5⟩
    refine wk ?_
    exact Arr.ret1 rfl rfl (out _ (e2.trans e5))
  refine wk ?_
  refine Wop.fn en16 rfl (gRule (hg1.ext e2) i) ?_
  rintro _ w3 ⟨⟨u, rfl, hu⟩, e3⟩
  have e3' := e2.trans e3
  obtain ⟨A, c, rfl, hc, hl, hr⟩ := hu
  refine wk ?_
  refine Wop.alloc (z := .agg #[.int .i64 0, .slice none 0 0]) Try.zeroValue30 (fun w4 e4 b4 z4 => ?_)
  refine wk ?_
  refine Wop.stB TT rfl rfl rfl (by simp [Value.oneCell']) b4 rfl (fun w5 h5 b5 z5 k5 => ?_)
  have e35 : Ext w3 w5 := Below.trans e4 h5
  have e5' := e3'.trans e35
  refine wk ?_
  refine Wop.fn en17 rfl (rRule (hg1.ext e5') i) ?_
  rintro _ w6 ⟨⟨u, rfl, hu⟩, e6⟩
  have e6' := e5'.trans e6
  have b6 := b5.ext e6
  have hr6 := hr.ext (by decide) (e35.trans e6)
  obtain ⟨B, c', rfl, hc', hl', hr'⟩ := hu
  refine wk ?_
  refine Wop.alloc (z := .agg #[.int .i64 0, .slice none 0 0]) Try.zeroValue30 (fun w7 e7 b7 z7 => ?_)
  refine wk ?_
  refine Wop.stB TT rfl rfl rfl (by simp [Value.oneCell']) b7 rfl (fun w8 h8 b8 z8 k8 => ?_)
  have e68 : Ext w6 w8 := Below.trans e7 h8
  have e8' := e6'.trans e68
  have b58 := b6.ext e68
  have hg8 := hg1.ext e8'
  have b18 := b1.ext e8'
  have v1 : VR w8 (g.rule i).2 _ := ⟨A, c, rfl, hc, hl, hr6.ext (by decide) e68⟩
  have v2 : VR w8 (g.rule i).2 _ := ⟨B, c', rfl, hc', hl', hr'.ext (by decide) e68⟩
  refine wk ?_
  refine W.any Ext (.eq _ :: .eq _ :: .eq _ :: .eq _ :: .eq _ :: .eq _ :: .eq _ :: .eq _ :: .eq _ :: .eq _ :: .eq _ :: .eq _ :: .eq _ :: .eq _ :: .eq _ :: .eq _ :: .eq _ :: .eq _ :: .eq _ :: .eq _ :: .eq _ :: .eq _ :: .eq _ :: .eq _ :: .eq _ :: .eq _ :: .eq _ :: .eq _ :: .eq _ :: .eq _ :: .eq _ :: .eq _ :: .eq _ :: .eq _ :: .eq _ :: .eq _ :: .eq _ :: .eq _ :: .eq _ :: .eq _ :: .eq _ :: []) [40] mixed rfl Ext.refl Ext.trans Ext.drew ⟨qs, by intro w_ hG; (repeat (intro v_ hv_; cases hv_)); exact WopG.plain rfl (Wop.fn en18 rfl (gCheck (hg8.ext hG)) (fun v w' h => ⟨h.2, h.1⟩)), qs, by intro w_ hG; (repeat (intro v_ hv_; cases hv_)); exact WopG.plain rfl (Wop.fn en19 rfl (rCheck (hg8.ext hG)) (fun v w' h => ⟨h.2, h.1⟩)), by intro w_ hG; (repeat (intro v_ hv_; cases hv_)); exact WopG.plain rfl (Wop.pure TT rfl ⟨Ext.refl _, neV _⟩), qs, qs, by intro w_ hG; (repeat (intro v_ hv_; cases hv_)); exact WopG.yes rfl rfl rfl rfl (Wop.fn en20 rfl (gTop (hg8.ext hG)) (fun v w' h => ⟨h.2, h.1⟩)), qs, by intro w_ hG; (repeat (intro v_ hv_; cases hv_)); exact WopG.yes rfl rfl rfl rfl (Wop.fn en21 rfl (rTop (hg8.ext hG)) (fun v w' h => ⟨h.2, h.1⟩)), by intro w_ hG; (repeat (intro v_ hv_; cases hv_)); exact WopG.yes rfl rfl rfl rfl (Wop.pure TT rfl ⟨Ext.refl _, neV _⟩), qs, qs, qs, qs, by intro w_ hG; (repeat (intro v_ hv_; cases hv_)); exact WopG.yes rfl rfl rfl rfl (Wop.fn en22 rfl (gTerm _) (fun v w' h => ⟨h.2, h.1⟩)), qs, qs, by intro w_ hG; (repeat (intro v_ hv_; cases hv_)); exact WopG.yes rfl rfl rfl rfl (Wop.fn en23 rfl (rTerm _) (fun v w' h => ⟨h.2, h.1⟩)), by intro w_ hG; (repeat (intro v_ hv_; cases hv_)); exact WopG.yes rfl rfl rfl rfl (Wop.pure TT rfl ⟨Ext.refl _, nbV _⟩), qs, qs, qs, qs, by intro w_ hG; (repeat (intro v_ hv_; cases hv_)); exact WopG.yes rfl rfl rfl rfl (Wop.fn en24 rfl (gNon (hg8.ext hG) _) (fun v w' h => ⟨h.2, h.1⟩)), qs, qs, by intro w_ hG; (repeat (intro v_ hv_; cases hv_)); exact WopG.yes rfl rfl rfl rfl (Wop.fn en25 rfl (rNon (hg8.ext hG) _) (fun v w' h => ⟨h.2, h.1⟩)), by intro w_ hG; (repeat (intro v_ hv_; cases hv_)); exact WopG.yes rfl rfl rfl rfl (Wop.pure TT rfl ⟨Ext.refl _, nbV _⟩), qs, qs, qs, qs, by intro w_ hG; (repeat (intro v_ hv_; cases hv_)); exact WopG.yes rfl rfl rfl rfl (Wop.pure TT rfl ⟨Ext.refl _, nbV _⟩), qs, qs, qs, qs, by intro w_ hG; (repeat (intro v_ hv_; cases hv_)); exact WopG.yes rfl rfl rfl rfl (Wop.fn en26 rfl (rSameRule (v1.ext hG) (v2.ext hG)) (fun v w' h => ⟨h.2, h.1.trans (eqV _)⟩)), qs, qs, trivial⟩ ?_
  rintro wq eq_ _ ⟨⟩
  refine wk ?_
  have e9 := e8'.trans eq_; clear eq_
  have hg9 := hg1.ext e9
  have b19 := b1.ext e9
  have hof := Gram.of_small h2 s
  refine wk ?_
  refine W.any Ext (.eq _ :: .eq _ :: .eq _ :: .eq _ :: .eq _ :: .eq _ :: .eq _ :: .eq _ :: .eq _ :: .eq _ :: .eq _ :: .eq _ :: .eq _ :: .eq _ :: .eq _ :: .eq _ :: .eq _ :: .eq _ :: .eq _ :: (someI (g.of s)) :: .eq _ :: .eq _ :: (someI (g.of s)) :: .eq _ :: .eq _ :: .eq _ :: .eq _ :: .eq _ :: .eq _ :: .eq _ :: .eq _ :: .eq _ :: .eq _ :: .eq _ :: .eq _ :: .eq _ :: []) [35] mixed rfl Ext.refl Ext.trans Ext.drew ⟨qs, qs, by intro w_ hG; (repeat (intro v_ hv_; cases hv_)); exact WopG.plain rfl (Wop.fn en27 rfl (gName (hg9.ext hG) _) (fun v w' h => ⟨h.2, h.1⟩)), qs, qs, by intro w_ hG; (repeat (intro v_ hv_; cases hv_)); exact WopG.plain rfl (Wop.fn en28 rfl (rName (hg9.ext hG) hs _) (fun v w' h => ⟨h.2, h.1⟩)), by intro w_ hG; (repeat (intro v_ hv_; cases hv_)); exact WopG.plain rfl (Wop.pure TT rfl ⟨Ext.refl _, eqV _⟩), qs, qs, qs, by intro w_ hG; (repeat (intro v_ hv_; cases hv_)); exact WopG.yes rfl rfl rfl rfl (Wop.fn en29 rfl (gFind (hg9.ext hG) _ hn) (fun v w' h => ⟨h.2, h.1⟩)), qs, qs, by intro w_ hG; (repeat (intro v_ hv_; cases hv_)); exact WopG.yes rfl rfl rfl rfl (Wop.fn en30 rfl (rFind (hg9.ext hG) hs _ hn) (fun v w' h => ⟨h.2, h.1⟩)), by intro w_ hG; (repeat (intro v_ hv_; cases hv_)); exact WopG.yes rfl rfl rfl rfl (Wop.pure TT rfl ⟨Ext.refl _, eqV _⟩), qs, qs, qs, qs, by intro w_ hG; (repeat (intro v_ hv_; cases hv_)); exact WopG.yes rfl rfl rfl rfl (Wop.fn en32 rfl (gOf (hg9.ext hG) _) (fun v w' h => ⟨h.2, h.1.some hof.1 hof.2⟩)), qs, qs, by intro w_ hG; (repeat (intro v_ hv_; cases hv_)); exact WopG.yes rfl rfl rfl rfl (Wop.fn en33 rfl (rOf (hg9.ext hG) _) (fun v w' h => ⟨h.2, h.1.some hof.1 hof.2⟩)), by intro w_ hG v1 h1 v2 h2 v3 h3; cases h3; obtain ⟨A1, k1, rfl, _, r1⟩ := h1; obtain ⟨A2, k2, rfl, _, r2⟩ := h2; exact WopG.yes rfl rfl rfl rfl (Wop.fn en31 rfl (r6Ints r1 r2) (fun v w' h => ⟨h.2, h.1.trans (eqV _)⟩)), qs, qs, qs, by intro w_ hG; (repeat (intro v_ hv_; cases hv_)); exact WopG.yes rfl rfl rfl rfl (Wop.fn en34 rfl (gOrdered (hg9.ext hG)) (fun v w' h => ⟨h.2, h.1⟩)), qs, by intro w_ hG; (repeat (intro v_ hv_; cases hv_)); exact WopG.yes rfl rfl rfl rfl (Wop.fn en35 rfl (rOrdered (hg9.ext hG)) (fun v w' h => ⟨h.2, h.1⟩)), by intro w_ hG; (repeat (intro v_ hv_; cases hv_)); exact WopG.yes rfl rfl rfl rfl (Wop.pure TT rfl ⟨Ext.refl _, ebV _⟩), qs, qs, by intro w_ hG; (repeat (intro v_ hv_; cases hv_)); exact WopG.yes rfl rfl rfl rfl (Wop.fn en15 rfl awake6 (fun v w' h => ⟨h.2, h.1⟩)), qs, qs, trivial⟩ ?_
  rintro wq eq_ _ ⟨⟩
  refine wk ?_
  exact Arr.ret1 rfl rfl (out _ (e9.trans eq_))
end Go.Proofs.Ytbadjlhijbkbbaa

/-
  GramNames: what is so of a grammar that may be; the law's walk.
-/
set_option linter.unusedVariables false
namespace Go.Proofs.Ytbadjlhijbkbbaa
open Go Go.RowKit Sx
variable {S S' : Nat → Prop} {w : World} {g h : Gram} {A0 A1 A2 B0 B1 B2 : Option Addr} {c0 c1 c2 d0 d1 d2 : Nat}
/-- A grammar that may be. -/
structure Gram.May (g : Gram) : Prop where
  fewT : g.terms.length ≤ 120
  fewN : g.nons.length ≤ 120
  fewR : g.rules.length ≤ 300
  short : ∀ r ∈ g.rules, r.right.length ≤ 8
  once : g.names.Nodup
  start : g.non g.start = true
  known : ∀ r ∈ g.rules, g.known r = true
  unlike : g.rules.Nodup
  some : ∀ i, i < g.nons.length → g.of (g.terms.length + 1 + (i : Int)) ≠ []
  form : g.form = true
theorem Gram.may (h : g.check = 0) : g.May := by
  unfold Gram.check at h
  by_cases h1 : g.many = true
  · rw [if_pos h1] at h; cases h
  rw [if_neg h1] at h
  by_cases h2 : (!g.form) = true
  · rw [if_pos h2] at h; cases h
  rw [if_neg h2] at h
  by_cases h3 : (!decide g.names.Nodup) = true
  · rw [if_pos h3] at h; cases h
  rw [if_neg h3] at h
  by_cases h4 : (!(g.non g.start && g.rules.all g.known)) = true
  · rw [if_pos h4] at h; cases h
  rw [if_neg h4] at h
  by_cases h5 : (!g.unlike) = true
  · rw [if_pos h5] at h; cases h
  rw [if_neg h5] at h
  by_cases h6 : (List.range g.nons.length).all (fun (i : Nat) => decide (g.of (g.terms.length + 1 + i) ≠ [])) = true
  · simp only [Gram.many, Bool.or_eq_true, decide_eq_true_eq, Bool.not_eq_true', not_or] at h1
    obtain ⟨h1a, h1b⟩ := h1
    simp only [Bool.not_eq_false, List.all_eq_true, decide_eq_true_eq] at h1b
    simp only [Bool.not_eq_true, Bool.not_eq_false'] at h2
    simp only [Bool.not_eq_true, Bool.not_eq_false', decide_eq_true_eq] at h3
    simp only [Bool.not_eq_true, Bool.not_eq_false', Bool.and_eq_true, List.all_eq_true] at h4
    simp only [Bool.not_eq_true, Bool.not_eq_false', Gram.unlike, decide_eq_true_eq] at h5
    simp only [List.all_eq_true, List.mem_range, decide_eq_true_eq] at h6
    exact ⟨by omega, by omega, by omega, h1b, h3, h4.1, h4.2, h5, h6, h2⟩
  · rw [if_neg h6] at h; cases h
theorem Gram.May.check (h : g.May) : g.check = 0 := by
  unfold Gram.check
  have h1 : g.many = false := by
    simp only [Gram.many, Bool.or_eq_false_iff, decide_eq_false_iff_not, Bool.not_eq_false', List.all_eq_true, decide_eq_true_eq]
    exact ⟨by have := h.fewT; have := h.fewN; have := h.fewR; omega, h.short⟩
  rw [if_neg (by simp [h1]), if_neg (by simp [h.form]), if_neg (by simp [h.once]), if_neg, if_neg (by simp [Gram.unlike, h.unlike]), if_pos]
  · simp only [List.all_eq_true, List.mem_range, decide_eq_true_eq]
    exact h.some
  · simp only [Bool.not_eq_true', Bool.not_eq_false, Bool.and_eq_true, List.all_eq_true]
    exact ⟨h.start, h.known⟩
theorem ofFrom_mem {s : Int} : ∀ {l : List Rule} {k : Nat} {x : Int}, x ∈ Gram.ofFrom s l k ↔ ∃ j r, l[j]? = some r ∧ r.left = s ∧ x = ((k + j : Nat) : Int)
  | [], k, x => by simp [Gram.ofFrom]
  | r :: l, k, x => by
    simp only [Gram.ofFrom]
    have ih := ofFrom_mem (s := s) (l := l) (k := k + 1) (x := x)
    have tail : (∃ j r', l[j]? = some r' ∧ r'.left = s ∧ x = ((k + 1 + j : Nat) : Int)) → ∃ j r', (r :: l)[j]? = some r' ∧ r'.left = s ∧ x = ((k + j : Nat) : Int) := by
      rintro ⟨j, r', h1, h2, h3⟩
      exact ⟨j + 1, r', by simpa using h1, h2, by rw [h3]; congr 1; omega⟩
    constructor
    · intro hx
      split at hx
      · rename_i hl
        rcases List.mem_cons.1 hx with rfl | hx
        · exact ⟨0, r, rfl, hl, by simp⟩
        · exact tail (ih.1 hx)
      · exact tail (ih.1 hx)
    · rintro ⟨j, r', h1, h2, h3⟩
      cases j with
      | zero =>
        simp at h1
        subst h1
        rw [if_pos h2]
        exact List.mem_cons.2 (.inl (by simpa using h3))
      | succ j =>
        have : x ∈ Gram.ofFrom s l (k + 1) := ih.2 ⟨j, r', by simpa using h1, h2, by rw [h3]; congr 1; omega⟩
        split
        · exact List.mem_cons_of_mem _ this
        · exact this
theorem of_mem {s x : Int} : x ∈ g.of s ↔ ∃ (j : Nat) (r : Rule), g.rules[j]? = some r ∧ r.left = s ∧ x = (j : Int) := by
  rw [Gram.of, ofFrom_mem]
  simp
theorem Gram.non_iff {s : Int} : g.non s = true ↔ (g.terms.length : Int) < s ∧ s ≤ g.terms.length + g.nons.length := by
  rw [Gram.non, decide_eq_true_iff]
  rfl
theorem Gram.term_iff {s : Int} : g.term s = true ↔ 1 ≤ s ∧ s ≤ g.terms.length := by
  simp [Gram.term]
theorem Gram.May.left (h : g.May) {r : Rule} (hr : r ∈ g.rules) : (g.terms.length : Int) < r.left ∧ r.left ≤ g.terms.length + g.nons.length := by
  have := h.known r hr
  simp only [Gram.known, Bool.and_eq_true] at this
  exact Gram.non_iff.1 this.1
theorem Gram.May.right (h : g.May) {r : Rule} (hr : r ∈ g.rules) {s : Int} (hs : s ∈ r.right) : 1 ≤ s ∧ s ≤ g.terms.length + g.nons.length := by
  have := h.known r hr
  simp only [Gram.known, Bool.and_eq_true, List.all_eq_true, Bool.or_eq_true] at this
  rcases this.2 s hs with h1 | h1
  · have := Gram.term_iff.1 h1; omega
  · have := Gram.non_iff.1 h1; omega
theorem Gram.May.of_pos (h : g.May) (s : Int) : g.non s = decide (0 < (g.of s).length) := by
  cases hn : g.non s with
  | true =>
    obtain ⟨h1, h2⟩ := Gram.non_iff.1 hn
    have := h.some (s - g.terms.length - 1).toNat (by omega)
    rw [show ((g.terms.length : Int) + 1 + ((s - g.terms.length - 1).toNat : Int)) = s by omega] at this
    exact (decide_eq_true (List.length_pos_iff.2 this)).symm
  | false =>
    refine (decide_eq_false (fun hp => ?_)).symm
    obtain ⟨x, hx⟩ := List.exists_mem_of_length_pos hp
    obtain ⟨j, r, h1, h2, _⟩ := of_mem.1 hx
    have := h.left (List.mem_of_getElem? h1)
    rw [h2] at this
    rw [Gram.non_iff.2 this] at hn
    cases hn
theorem Gram.of_rule {s : Int} {i : Nat} (hi : i < (g.of s).length) : (g.rule (g.of s)[i]).1 = true ∧ (g.rule (g.of s)[i]).2.left = s := by
  obtain ⟨j, r, h1, h2, h3⟩ := of_mem.1 (List.getElem_mem hi)
  have hj := (List.getElem?_eq_some_iff.1 h1).1
  rw [h3]
  have e : g.rule (j : Int) = (true, r) := by
    rw [Gram.rule, if_neg (by omega), if_neg (by omega)]
    simp only [Int.toNat_natCast, h1, Option.getD_some]
  rw [e]
  exact ⟨rfl, h2⟩
theorem Gram.name_get {s : Int} (h1 : 1 ≤ s) (h2 : s ≤ g.top) : ∃ h : (s - 1).toNat < g.names.length, g.name s = g.names[(s - 1).toNat] := by
  have hl : g.names.length = g.terms.length + g.nons.length := List.length_append
  have hlt : (s - 1).toNat < g.names.length := by rw [Gram.top] at h2; omega
  refine ⟨hlt, ?_⟩
  rw [Gram.name, if_neg (by omega)]
  by_cases h3 : s ≤ g.terms.length
  · rw [if_pos ⟨h1, h3⟩, List.getElem?_eq_getElem hlt, Option.getD_some]
  · rw [if_neg (by omega), if_pos ⟨by omega, h2⟩, List.getElem?_eq_getElem hlt, Option.getD_some]
theorem idxI_nodup {xs : List ByteArray} (h : xs.Nodup) {i : Nat} (hi : i < xs.length) : idxI (fun x => decide (x = xs[i])) xs = i := by
  refine idxI_some (List.getElem?_eq_getElem hi) (decide_eq_true rfl) (fun j y hj hy => decide_eq_false (fun e => ?_))
  obtain ⟨hj', hy⟩ := List.getElem?_eq_some_iff.1 hy
  have := (List.getElem_inj (i := j) (j := i) (h₀ := hj') (h₁ := hi) h).1 (hy.trans e)
  omega
theorem Gram.May.find_name (h : g.May) {s : Int} (h1 : 1 ≤ s) (h2 : s ≤ g.top) : g.find (g.name s) = s := by
  obtain ⟨hlt, he⟩ := Gram.name_get h1 h2
  rw [Gram.find, he, idxI_nodup h.once hlt]
  omega
/-- How many rules have a left side below so much. -/
theorem of_sum (g : Gram) : ∀ (l : List Rule) (k n : Nat), (∀ r ∈ l, 0 ≤ r.left ∧ r.left < n) → (((List.range n).map fun (s : Nat) => (Gram.ofFrom (s : Int) l k).length).sum) = l.length
  | [], k, n, _ => by
    simp only [Gram.ofFrom, List.length_nil]
    induction n with
    | zero => rfl
    | succ n ih => rw [List.range_succ, List.map_append, List.sum_append, ih (fun r hr => by cases hr)]; rfl
  | r :: l, k, n, h => by
    have ih := of_sum g l (k + 1) n (fun r' hr => h r' (List.mem_cons_of_mem _ hr))
    have hr := h r List.mem_cons_self
    have key : ∀ n : Nat, (((List.range n).map fun (s : Nat) => (Gram.ofFrom (s : Int) (r :: l) k).length).sum) = (((List.range n).map fun (s : Nat) => (Gram.ofFrom (s : Int) l (k + 1)).length).sum) + if r.left < n then 1 else 0 := by
      intro n
      induction n with
      | zero => simp; omega
      | succ n ih =>
        rw [List.range_succ, List.map_append, List.map_append, List.sum_append, List.sum_append, ih]
        simp only [List.map_cons, List.map_nil, List.sum_cons, List.sum_nil, Gram.ofFrom]
        by_cases e : r.left = (n : Int)
        · rw [if_pos e, if_neg (by omega), if_pos (by omega)]
          simp only [List.length_cons]
          omega
        · rw [if_neg e]
          by_cases e2 : r.left < n
          · rw [if_pos e2, if_pos (by omega)]; omega
          · rw [if_neg e2, if_neg (by omega)]; omega
    rw [key, ih, if_pos hr.2]
    rfl
theorem Gram.May.of_total (h : g.May) : (((List.range (g.terms.length + g.nons.length + 1)).map fun (s : Nat) => (g.of (s : Int)).length).sum) = g.rules.length :=
  of_sum g g.rules 0 _ (fun r hr => by have := h.left hr; omega)
end Go.Proofs.Ytbadjlhijbkbbaa

/-
  GramNames, walked.
-/
set_option linter.unusedVariables false
namespace Go.Proofs.Ytbadjlhijbkbbaa
open Go Go.RowKit Sx
variable {S S' : Nat → Prop} {w : World} {g h : Gram} {A0 A1 A2 B0 B1 B2 : Option Addr} {c0 c1 c2 d0 d1 d2 : Nat}
theorem sum_take {f : Nat → Nat} {n k : Nat} (h : k ≤ n) : ((List.range k).map f).sum ≤ ((List.range n).map f).sum := by
  induction n with
  | zero => obtain rfl : k = 0 := by omega
            exact Nat.le_refl _
  | succ n ih =>
    by_cases e : k = n + 1
    · subst e; exact Nat.le_refl _
    · have := ih (by omega)
      rw [List.range_succ, List.map_append, List.sum_append]
      omega
set_option maxRecDepth 20000 in
theorem lawNames (hg : GramAt S w g A0 A1 A2 c0 c1 c2) : Calls Try.prog 4 [.agg (gcells g A0 A1 A2 c0 c1 c2).toArray].toArray w (Ret fun v w' => v = .bool true ∧ Ext w w') := by
  have m0 := hg.terms.2.1
  have m1 := hg.nons.2.1
  have m2 := hg.rules.2.1
  refine enter Try.func4 rfl Try.ntmps4 rfl ?_
  refine wk ?_
  refine Wop.box rfl (fun w1 e1 b1 z1 => ?_)
  have hg1 := hg.ext e1
  have out : ∀ w', Ext w1 w' → Value.bool true = .bool true ∧ Ext w w' := fun w' e => ⟨rfl, e1.trans e⟩
  refine wk ?_
  refine Wop.fn en14 rfl (gMuch hg1) ?_
  rintro _ w2 ⟨rfl, e2⟩
  refine wk ?_
  refine Wl.part rfl rfl rfl (fun p => ?_) (fun p => ?_)
  · refine wk ?_
    refine Wop.fn en15 rfl awake6 ?_
    rintro _ w5 ⟨rfl, e5⟩
    refine wk ?_
    exact Arr.ret1 rfl rfl (out _ (e2.trans e5))
  refine wk ?_
  refine Wop.fn en18 rfl (gCheck (hg1.ext e2)) ?_
  rintro _ w3 ⟨rfl, e3⟩
  have e3' := e2.trans e3
  refine wk ?_
  refine W.test rfl (fun q => ?_) (fun q => ?_)
  · refine wk ?_
    refine Wop.fn en15 rfl awake6 ?_
    rintro _ w5 ⟨rfl, e5⟩
    refine wk ?_
    exact Arr.ret1 rfl rfl (out _ (e3'.trans e5))
  have may : g.May := Gram.may (Decidable.not_not.1 q)
  have htop : g.top = (g.terms.length : Int) + g.nons.length := rfl
  have hsm := fun s => Gram.of_small m2 s
  refine wk ?_
  refine W.midB (ι := Unit) (fun _ => [(1, .pointer (some ⟨w.heap.size, 0, none⟩))]) (fun _ w' => Ext w1 w') ?_ ?_
  · refine W.loop (ι := Nat) (fun i => [(1, .pointer (some ⟨w.heap.size, 0, none⟩)), (3, .int .i64 ((i : Int) + 1))])
      (fun i w' => Ext w1 w' ∧ (i : Int) ≤ g.top) (fun i => g.terms.length + g.nons.length - i) 0 has ⟨e3', by omega⟩ ?_
    rintro i w' ⟨hE, hi⟩
    refine wk ?_
    refine Wop.fn en20 rfl (gTop (hg1.ext hE)) ?_
    rintro _ w4 ⟨rfl, e4⟩
    have e4' := hE.trans e4
    refine wk ?_
    refine W.test rfl (fun hlt => ?_) (fun hge => ?_)
    · have hg4 := hg1.ext e4'
      have b4 := b1.ext e4'
      have hfn := may.find_name (s := (i : Int) + 1) (by omega) hlt
      have hnm : (g.name ((i : Int) + 1)).size ≤ 140737488355328 := by
        obtain ⟨hh, he⟩ := Gram.name_get (g := g) (s := (i : Int) + 1) (by omega) hlt
        rw [he]
        exact hg.strs _ (List.getElem_mem hh)
      have htn : g.term ((i : Int) + 1) = !g.non ((i : Int) + 1) := by
        cases ht : g.term ((i : Int) + 1) with
        | true =>
          have h1 := Gram.term_iff.1 ht
          cases hn : g.non ((i : Int) + 1) with
          | true => have := Gram.non_iff.1 hn; omega
          | false => rfl
        | false =>
          cases hn : g.non ((i : Int) + 1) with
          | true => rfl
          | false =>
            have h1 : g.non ((i : Int) + 1) = true := by
              refine Gram.non_iff.2 ⟨?_, by omega⟩
              rcases Int.lt_or_le (g.terms.length : Int) ((i : Int) + 1) with h | h
              · exact h
              · rw [Gram.term_iff.2 ⟨by omega, h⟩] at ht
                cases ht
            rw [hn] at h1
            cases h1
      have hof := may.of_pos ((i : Int) + 1)
      have hne : Value.bool (g.term ((i : Int) + 1) == g.non ((i : Int) + 1)) = .bool false := by rw [htn]; cases g.non ((i : Int) + 1) <;> rfl
      have hsm' := hsm ((i : Int) + 1)
      refine wk ?_
      refine W.any Ext [.eq _, .eq _, .eq _, .eq _, .eq _, .eq _, .eq _, .eq _, .eq _, .eq _, .eq _, .eq _, .eq _, .eq _, .eq _, .eq _, .eq _, .eq _, .eq _, .eq _, .eq _, .eq _, (someI (g.of ((i : Int) + 1))), .eq _, .eq _, .eq _, .eq _] [26] mixed rfl Ext.refl Ext.trans Ext.drew ⟨qs, qs, qs, by intro w_ hG; (repeat (intro v_ hv_; cases hv_)); exact WopG.plain rfl (Wop.fn en27 rfl (gName (hg4.ext hG) _) (fun v w' h => ⟨h.2, h.1⟩)), by intro w_ hG; (repeat (intro v_ hv_; cases hv_)); exact WopG.plain rfl (Wop.fn en29 rfl (gFind (hg4.ext hG) _ hnm) (fun v w' h => ⟨h.2, h.1.trans (congrArg (Value.int .i64) hfn)⟩)), qs, by intro w_ hG; (repeat (intro v_ hv_; cases hv_)); exact WopG.plain rfl (Wop.pure TT rfl ⟨Ext.refl _, neV _⟩), qs, qs, qs, by intro w_ hG; (repeat (intro v_ hv_; cases hv_)); exact WopG.yes rfl rfl rfl rfl (Wop.fn en22 rfl (gTerm _) (fun v w' h => ⟨h.2, h.1⟩)), qs, qs, by intro w_ hG; (repeat (intro v_ hv_; cases hv_)); exact WopG.yes rfl rfl rfl rfl (Wop.fn en24 rfl (gNon (hg4.ext hG) _) (fun v w' h => ⟨h.2, h.1⟩)), by intro w_ hG; (repeat (intro v_ hv_; cases hv_)); exact WopG.yes rfl rfl rfl rfl (Wop.pure TT rfl ⟨Ext.refl _, hne⟩), qs, qs, qs, qs, by intro w_ hG; (repeat (intro v_ hv_; cases hv_)); exact WopG.yes rfl rfl rfl rfl (Wop.fn en24 rfl (gNon (hg4.ext hG) _) (fun v w' h => ⟨h.2, h.1⟩)), qs, qs, by intro w_ hG; (repeat (intro v_ hv_; cases hv_)); exact WopG.yes rfl rfl rfl rfl (Wop.fn en32 rfl (gOf (hg4.ext hG) _) (fun v w' h => ⟨h.2, h.1.some hsm'.1 hsm'.2⟩)), by intro w_ hG v1 h1 v2 h2; cases h2; obtain ⟨A1, k1, rfl, _, r1⟩ := h1; exact WopG.yes rfl rfl rfl rfl (Wop.pure TT rfl ⟨Ext.refl _, rfl⟩), qs, by intro w_ hG; (repeat (intro v_ hv_; cases hv_)); exact WopG.yes rfl rfl rfl rfl (Wop.pure TT rfl ⟨Ext.refl _, by rw [hof]; exact (congrArg Value.bool (by congr 1; simp)).trans (nbV (decide (0 < (g.of ((i : Int) + 1)).length)))⟩), qs, trivial⟩ ?_
      rintro wq eq_ _ ⟨⟩
      refine wk ?_
      refine Arr.again (i + 1) (Has.cons rfl (Has.consI rfl (by omega) Has.nil)) ⟨e4'.trans eq_, by omega⟩ (by omega)
    · refine wk ?_
      exact Arr.mid () has e4'
  rintro _ w0 hE0
  refine wk ?_
  have htot := may.of_total
  refine W.loop (ι := Nat) (fun i => [(1, .pointer (some ⟨w.heap.size, 0, none⟩)), (5, .int .i64 (i : Int)), (4, .int .i64 ((((List.range i).map fun (s : Nat) => (g.of (s : Int)).length).sum : Nat) : Int))])
    (fun i w' => Ext w1 w' ∧ i ≤ g.terms.length + g.nons.length + 1) (fun i => g.terms.length + g.nons.length + 1 - i) 0 has ⟨hE0, by omega⟩ ?_
  rintro i w' ⟨hE, hi⟩
  have hsum := sum_take (f := fun (s : Nat) => (g.of (s : Int)).length) hi
  rw [htot] at hsum
  refine wk ?_
  refine Wop.fn en20 rfl (gTop (hg1.ext hE)) ?_
  rintro _ w4 ⟨rfl, e4⟩
  have e4' := hE.trans e4
  refine wk ?_
  refine W.test rfl (fun hlt => ?_) (fun hge => ?_)
  · have hsm' := hsm (i : Int)
    have hlast : (List.map (fun (s : Nat) => (g.of (s : Int)).length) (List.range (i + 1))).sum = (List.map (fun (s : Nat) => (g.of (s : Int)).length) (List.range i)).sum + (g.of (i : Int)).length := by
      rw [List.range_succ, List.map_append, List.sum_append]
      simp
    have hsum' := sum_take (f := fun (s : Nat) => (g.of (s : Int)).length) (show i + 1 ≤ g.terms.length + g.nons.length + 1 by omega)
    rw [htot, hlast] at hsum'
    refine wk ?_
    refine Wop.fn en32 rfl (gOf (hg1.ext e4') (i : Int)) ?_
    rintro v w5 ⟨ho, e5⟩
    have e5' := e4'.trans e5
    obtain ⟨A, c, rfl, hcap, hrow⟩ := OwnI.row (S := fun _ => True) ho hsm'.1 hsm'.2 (fun _ _ => trivial)
    refine wk ?_
    refine W.midB (ι := Unit) (fun _ => [(1, .pointer (some ⟨w.heap.size, 0, none⟩)), (5, .int .i64 (i : Int)), (4, .int .i64 ((((List.range i).map fun (s : Nat) => (g.of (s : Int)).length).sum : Nat) : Int)), (6, .slice A (g.of (i : Int)).length c)]) (fun _ w' => Ext w1 w') ?_ ?_
    · refine W.loop (ι := Nat) (fun k => [(1, .pointer (some ⟨w.heap.size, 0, none⟩)), (5, .int .i64 (i : Int)), (4, .int .i64 ((((List.range i).map fun (s : Nat) => (g.of (s : Int)).length).sum : Nat) : Int)), (6, .slice A (g.of (i : Int)).length c), (7, .int .i64 (k : Int))])
        (fun k w' => Ext w5 w' ∧ k ≤ (g.of (i : Int)).length) (fun k => (g.of (i : Int)).length - k) 0 has ⟨Ext.refl _, Nat.zero_le _⟩ ?_
      rintro k w' ⟨hE6, hk⟩
      refine wk ?_
      refine W.test rfl (fun hlk => ?_) (fun hgk => ?_)
      · have hlk : k < (g.of (i : Int)).length := by omega
        obtain ⟨b, o, rfl, es, ⟨rfl, hs2⟩, hc2⟩ := hrow.at_ k hlk
        have hcell := hE6.cell (hc2 0 _ rfl)
        have b6 := b1.ext (e5'.trans hE6)
        have hg6 := hg1.ext (e5'.trans hE6)
        obtain ⟨hr1, hr2⟩ := Gram.of_rule hlk
        refine wk ?_
        refine W.anyK (Below w'.heap.size) [(fun v _ => v = _), (fun v _ => v = _), (fun v _ => v = _), (fun v _ => v = _), (fun v _ => v = _), (fun v _ => ∃ A c n, v = .tuple #[.agg #[.int .i64 (i : Int), .slice A n c], .bool true]), (fun v _ => ∃ A c n, v = .tuple #[.agg #[.int .i64 (i : Int), .slice A n c], .bool true]), (fun v _ => ∃ A c n, v = .agg #[.int .i64 (i : Int), .slice A n c]), (fun v _ => v = _), (fun v w => ∃ b, v = .pointer (some ⟨b, 0, none⟩) ∧ w'.heap.size ≤ b ∧ Blk w b #[.int .i64 0, .slice none 0 0] 30), (fun v w => ∃ b A c n, v = .pointer (some ⟨b, 0, none⟩) ∧ Blk w b #[.int .i64 (i : Int), .slice A n c] 30), (fun v _ => v = _)] [10, 11] mixed rfl (Below.refl _) Below.trans (fun w => (Below.refl _ w).drew) ⟨qk, qk, qk, qk, qk, by intro w_ hG; (repeat (intro v_ hv_; cases hv_)); exact WopG.plain rfl (Wop.fn en16 rfl (gRule (hg6.ext hG) _) (fun v w' h => ⟨Below.mono h.2 (Below.size hG), (by obtain ⟨⟨u, rfl, A, c, rfl, _⟩, _⟩ := h; exact ⟨A, c, _, by rw [hr1, hr2]⟩), (by repeat (first | exact trivial | refine ⟨fun _ h => h, ?_⟩ | refine ⟨fun _ ⟨b, h1, h2, h3⟩ => ⟨b, h1, h2, h3.ext h.2⟩, ?_⟩))⟩)), by rintro w_ hG v ⟨A, c, n, rfl⟩; exact WopG.plain rfl (Wop.pure TT rfl ⟨Below.refl _ _, ⟨A, c, n, rfl⟩, (by repeat (first | exact trivial | refine ⟨fun _ h => h, ?_⟩))⟩), by rintro w_ hG v ⟨A, c, n, rfl⟩; exact WopG.plain rfl (Wop.pure TT rfl ⟨Below.refl _ _, ⟨A, c, n, rfl⟩, (by repeat (first | exact trivial | refine ⟨fun _ h => h, ?_⟩))⟩), by rintro w_ hG v ⟨A, c, n, rfl⟩; exact WopG.plain rfl (Wop.pure TT rfl ⟨Below.refl _ _, rfl, (by repeat (first | exact trivial | refine ⟨fun _ h => h, ?_⟩))⟩), by intro w_ hG; exact WopG.plain rfl (Wop.alloc (z := .agg #[.int .i64 0, .slice none 0 0]) Try.zeroValue30 (fun w2 e2 b2 z2 => ⟨Below.mono e2 (Below.size hG), ⟨_, rfl, Below.size hG, b2⟩, (by repeat (first | exact trivial | refine ⟨fun _ h => h, ?_⟩))⟩)), by rintro w_ hG v ⟨b, rfl, hb, hB⟩ v' ⟨A, c, n, rfl⟩; exact WopG.plain rfl (Wop.stB TT rfl rfl rfl (by simp [Value.oneCell']) hB rfl (fun w3 h3 b3 z3 k3 => ⟨Below.mono h3 hb, ⟨_, rfl, b, A, c, n, rfl, b3⟩, (by repeat (first | exact trivial | refine ⟨fun _ h => h, ?_⟩))⟩)), qk, trivial⟩ ?_
        rintro wq eq_ v10 ⟨b', A', c', n', rfl, hb'⟩ v11 ⟨⟩
        have e8 : Ext w5 wq := hE6.trans eq_
        refine wk ?_
        refine W.test rfl (fun hx => ?_) (fun hx => ?_)
        · exact absurd rfl hx
        refine wk ?_
        refine Arr.again (i := k) (k + 1) has ⟨e8, hlk⟩ (by omega)
      · refine wk ?_
        exact Arr.mid () has (e5'.trans hE6)
    · rintro _ w7 hE7
      refine wk ?_
      refine Arr.again (i := i) (i + 1) (Has.cons rfl (Has.cons rfl (Has.consI rfl (by rw [hlast]; omega) Has.nil))) ⟨hE7, by omega⟩ (by omega)
  · have : i = g.terms.length + g.nons.length + 1 := by omega
    subst this
    rw [htot]
    refine wk ?_
    refine Wl.part rfl rfl rfl (fun hx => ?_) (fun hx => ?_)
    rotate_left
    · exact absurd rfl hx
    refine wk ?_
    refine Wop.fn en15 rfl awake6 ?_
    rintro _ w5 ⟨rfl, e5⟩
    refine wk ?_
    exact Arr.ret1 rfl rfl (out _ (e4'.trans e5))
end Go.Proofs.Ytbadjlhijbkbbaa
