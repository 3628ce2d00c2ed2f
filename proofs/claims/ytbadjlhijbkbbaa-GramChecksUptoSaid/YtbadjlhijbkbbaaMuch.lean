/-
  How much a grammar is.
-/
import Derived.Test.YtbadjlhijbkbbaaUtl
set_option linter.unusedVariables false
namespace Go.Proofs.Ytbadjlhijbkbbaa
open Go Go.RowKit Sx
variable {S : Nat → Prop} {w : World} {g : Gram} {A0 A1 A2 : Option Addr} {c0 c1 c2 : Nat}
/-- The sum of the first k of some numbers, each one's d-th part. -/
def partSum (d : Nat) (l : List Nat) : Nat := (l.map (· / d)).sum
def Gram.much (g : Gram) : Nat := g.terms.length + g.nons.length + g.rules.length + partSum 20 ((g.terms.map (·.size)).take 200) + partSum 20 ((g.nons.map (·.size)).take 200) + partSum 9 ((g.rules.map (·.right.length)).take 400)
theorem partSum_step (d : Nat) {l : List Nat} {i : Nat} (h : i < l.length) : partSum d (l.take (i + 1)) = partSum d (l.take i) + l[i] / d := by
  rw [List.take_succ_eq_append_getElem h, partSum, partSum, List.map_append, List.sum_append]
  simp
theorem partSum_le (d B : Nat) : ∀ (l : List Nat), (∀ x ∈ l, x ≤ B) → partSum d l ≤ l.length * B
  | [], _ => by simp [partSum]
  | x :: l, h => by
    have := partSum_le d B l (fun y hy => h y (List.mem_cons_of_mem _ hy))
    have h1 := h x List.mem_cons_self
    have h2 := Nat.div_le_self x d
    simp only [partSum, List.map_cons, List.sum_cons, List.length_cons] at this ⊢
    rw [Nat.add_mul]
    omega
theorem partSum_lt {d B i : Nat} (l : List Nat) (h : ∀ x ∈ l, x ≤ B) : partSum d (l.take i) ≤ i * B := by
  have h1 := partSum_le d B (l.take i) (fun x hx => h x (List.mem_of_mem_take hx))
  have h2 : (l.take i).length ≤ i := by rw [List.length_take]; omega
  exact Nat.le_trans h1 (Nat.mul_le_mul_right B h2)
set_option maxRecDepth 20000 in
theorem gMuch (hg : GramAt S w g A0 A1 A2 c0 c1 c2) : Calls Try.prog 14 [.agg (gcells g A0 A1 A2 c0 c1 c2).toArray].toArray w (Ret fun v w' => v = .int .i64 g.much ∧ Ext w w') := by
  have h0 := hg.terms.2.1
  have h1 := hg.nons.2.1
  have h2 := hg.rules.2.1
  have hb0 : ∀ x ∈ g.terms.map (·.size), x ≤ 140737488355328 := by
    intro x hx
    obtain ⟨s, hs, rfl⟩ := List.mem_map.1 hx
    obtain ⟨es, he⟩ := hg.terms.all s hs
    exact he.2
  have hb1 : ∀ x ∈ g.nons.map (·.size), x ≤ 140737488355328 := by
    intro x hx
    obtain ⟨s, hs, rfl⟩ := List.mem_map.1 hx
    obtain ⟨es, he⟩ := hg.nons.all s hs
    exact he.2
  have hb2 : ∀ x ∈ g.rules.map (·.right.length), x ≤ 1099511627776 := by
    intro x hx
    obtain ⟨s, hs, rfl⟩ := List.mem_map.1 hx
    obtain ⟨es, he⟩ := hg.rules.all s hs
    obtain ⟨_, _, _, _, _, hr⟩ := tRule_open he
    exact hr.2.1
  have s0 := fun i => partSum_lt (d := 20) (i := i) _ hb0
  have s1 := fun i => partSum_lt (d := 20) (i := i) _ hb1
  have s2 := fun i => partSum_lt (d := 9) (i := i) _ hb2
  refine enter Try.func14 rfl Try.ntmps14 rfl ?_
  refine wk ?_; try (refine Wop.box rfl (fun w1 e1 b1 z1 => ?_); refine wk ?_)
  have hg1 := hg.ext e1
  refine W.midB (ι := Unit) (fun _ => [(1, .pointer (some ⟨w.heap.size, 0, none⟩)), (3, .int .i64 ((g.terms.length + g.nons.length + g.rules.length + partSum 20 ((g.terms.map (·.size)).take 200) : Nat) : Int))]) (fun _ w' => Ext w1 w') ?_ ?_
  · refine W.loop (ι := Nat) (fun i => [(1, .pointer (some ⟨w.heap.size, 0, none⟩)), (4, .int .i64 (i : Int)), (3, .int .i64 ((g.terms.length + g.nons.length + g.rules.length + partSum 20 ((g.terms.map (·.size)).take i) : Nat) : Int))])
      (fun i w' => Ext w1 w' ∧ i ≤ g.terms.length ∧ i ≤ 200) (fun i => g.terms.length - i) 0 (Has.cons rfl (Has.cons rfl (Has.consI rfl (by simp [partSum]) Has.nil))) ⟨Ext.refl w1, Nat.zero_le _, Nat.zero_le _⟩ ?_
    rintro i w' ⟨hE, hi, ha⟩
    have hs := s0 i
    have hfin : i = g.terms.length ∨ i = 200 → partSum 20 ((g.terms.map (·.size)).take i) = partSum 20 ((g.terms.map (·.size)).take 200) := by
      rintro (rfl | rfl)
      · rw [List.take_of_length_le (by simp), List.take_of_length_le (by simpa using ha)]
      · rfl
    refine wk ?_
    refine Wl.part rfl rfl rfl (fun p => ?_) (fun p => ?_)
    · refine wk ?_
      refine W.test rfl (fun q => ?_) (fun q => ?_)
      · have hlt : i < g.terms.length := by omega
        obtain ⟨b, o, rfl, es, ⟨rfl, hsz⟩, hc⟩ := (hg1.terms.ext (by decide) hE).at_ i hlt
        have hcell := hc 0 _ rfl
        refine wk ?_
        refine Wop.quo rfl rfl (by omega) (by omega) (by omega) ?_
        have hst := partSum_step 20 (l := g.terms.map (·.size)) (i := i) (by simpa using hlt)
        rw [List.getElem_map] at hst
        refine wk ?_
        refine Arr.again (i + 1) (Has.cons rfl (Has.cons rfl (Has.consI rfl (by rw [hst]; omega) Has.nil))) ⟨hE, by omega, by omega⟩ (by omega)
      · refine wk ?_
        exact Arr.mid () (by rw [← hfin (by omega)]; exact has ) hE
    · refine wk ?_
      exact Arr.mid () (by rw [← hfin (by omega)]; exact has ) hE
  rintro _ w0 hE0
  have t0 := s0 200
  refine wk ?_
  refine W.midB (ι := Unit) (fun _ => [(1, .pointer (some ⟨w.heap.size, 0, none⟩)), (3, .int .i64 ((g.terms.length + g.nons.length + g.rules.length + partSum 20 ((g.terms.map (·.size)).take 200) + partSum 20 ((g.nons.map (·.size)).take 200) : Nat) : Int))]) (fun _ w' => Ext w1 w') ?_ ?_
  · refine W.loop (ι := Nat) (fun i => [(1, .pointer (some ⟨w.heap.size, 0, none⟩)), (5, .int .i64 (i : Int)), (3, .int .i64 ((g.terms.length + g.nons.length + g.rules.length + partSum 20 ((g.terms.map (·.size)).take 200) + partSum 20 ((g.nons.map (·.size)).take i) : Nat) : Int))])
      (fun i w' => Ext w1 w' ∧ i ≤ g.nons.length ∧ i ≤ 200) (fun i => g.nons.length - i) 0 (Has.cons rfl (Has.cons rfl (Has.consI rfl (by simp [partSum]) Has.nil))) ⟨hE0, Nat.zero_le _, Nat.zero_le _⟩ ?_
    rintro i w' ⟨hE, hi, ha⟩
    have hs := s1 i
    have hfin : i = g.nons.length ∨ i = 200 → partSum 20 ((g.nons.map (·.size)).take i) = partSum 20 ((g.nons.map (·.size)).take 200) := by
      rintro (rfl | rfl)
      · rw [List.take_of_length_le (by simp), List.take_of_length_le (by simpa using ha)]
      · rfl
    refine wk ?_
    refine Wl.part rfl rfl rfl (fun p => ?_) (fun p => ?_)
    · refine wk ?_
      refine W.test rfl (fun q => ?_) (fun q => ?_)
      · have hlt : i < g.nons.length := by omega
        obtain ⟨b, o, rfl, es, ⟨rfl, hsz⟩, hc⟩ := (hg1.nons.ext (by decide) hE).at_ i hlt
        have hcell := hc 0 _ rfl
        refine wk ?_
        refine Wop.quo rfl rfl (by omega) (by omega) (by omega) ?_
        have hst := partSum_step 20 (l := g.nons.map (·.size)) (i := i) (by simpa using hlt)
        rw [List.getElem_map] at hst
        refine wk ?_
        refine Arr.again (i + 1) (Has.cons rfl (Has.cons rfl (Has.consI rfl (by rw [hst]; omega) Has.nil))) ⟨hE, by omega, by omega⟩ (by omega)
      · refine wk ?_
        exact Arr.mid () (by rw [← hfin (by omega)]; exact has ) hE
    · refine wk ?_
      exact Arr.mid () (by rw [← hfin (by omega)]; exact has ) hE
  rintro _ w0 hE0
  have t1 := s1 200
  refine wk ?_
  refine W.loop (ι := Nat) (fun i => [(1, .pointer (some ⟨w.heap.size, 0, none⟩)), (6, .int .i64 (i : Int)), (3, .int .i64 ((g.terms.length + g.nons.length + g.rules.length + partSum 20 ((g.terms.map (·.size)).take 200) + partSum 20 ((g.nons.map (·.size)).take 200) + partSum 9 ((g.rules.map (·.right.length)).take i) : Nat) : Int))])
      (fun i w' => Ext w1 w' ∧ i ≤ g.rules.length ∧ i ≤ 400) (fun i => g.rules.length - i) 0 (Has.cons rfl (Has.cons rfl (Has.consI rfl (by simp [partSum]) Has.nil))) ⟨hE0, Nat.zero_le _, Nat.zero_le _⟩ ?_
  rintro i w' ⟨hE, hi, ha⟩
  have hs := s2 i
  have hfin : i = g.rules.length ∨ i = 400 → partSum 9 ((g.rules.map (·.right.length)).take i) = partSum 9 ((g.rules.map (·.right.length)).take 400) := by
    rintro (rfl | rfl)
    · rw [List.take_of_length_le (by simp), List.take_of_length_le (by simpa using ha)]
    · rfl
  refine wk ?_
  refine Wl.part rfl rfl rfl (fun p => ?_) (fun p => ?_)
  · refine wk ?_
    refine W.test rfl (fun q => ?_) (fun q => ?_)
    · have hlt : i < g.rules.length := by omega
      obtain ⟨b, o, rfl, es, hrd, hc⟩ := (hg1.rules.ext (by decide) hE).at_ i hlt
      obtain ⟨A, c, rfl, hcap, hl64, hrow⟩ := tRule_open hrd
      have hcell := hc 1 _ rfl
      have hrm := hrow.2.1
      refine wk ?_
      refine Wop.quo rfl rfl (by omega) (by omega) (by omega) ?_
      have hst := partSum_step 9 (l := g.rules.map (·.right.length)) (i := i) (by simpa using hlt)
      rw [List.getElem_map] at hst
      refine wk ?_
      refine Arr.again (i + 1) (Has.cons rfl (Has.cons rfl (Has.consI rfl (by rw [hst]; omega) Has.nil))) ⟨hE, by omega, by omega⟩ (by omega)
    · refine wk ?_
      refine Arr.ret1 rfl rfl ⟨?_, e1.trans hE⟩
      rw [Gram.much, hfin (by omega)]
  · refine wk ?_
    refine Arr.ret1 rfl rfl ⟨?_, e1.trans hE⟩
    rw [Gram.much, hfin (by omega)]
end Go.Proofs.Ytbadjlhijbkbbaa
