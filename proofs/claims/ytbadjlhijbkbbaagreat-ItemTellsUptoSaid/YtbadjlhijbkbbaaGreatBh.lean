/-
  Joined by program out of the texts Much Aw6 Lw6 Lc6 Ln6: lemmas for the proofs of this seat; no condition.
-/
import Derived.Test.YtbadjlhijbkbbaaGreatBb
import Derived.Test.YtbadjlhijbkbbaaGreatBg
import Derived.Test.YtbadjlhijbkbbaaGreatBf
import Derived.Test.YtbadjlhijbkbbaaGreatBa
/-
  How much a grammar is.
-/
set_option linter.unusedVariables false
namespace Go.Proofs.YtbadjlhijbkbbaaGreat
open Go Go.RowKit Sx
variable {S : Nat → Prop} {w : World} {g : Gram} {A0 A1 A2 : Option Addr} {c0 c1 c2 : Nat}
/-- The sum of the first k of some numbers, each one's d-th part. -/
def partSum (d : Nat) (l : List Nat) : Nat := (l.map (· / d)).sum
def Gram.much (g : Gram) : Nat := g.terms.length + g.nons.length + g.rules.length + partSum 20 ((g.terms.map (·.size)).take 200) + partSum 20 ((g.nons.map (·.size)).take 200) + partSum 9 ((g.rules.map (·.right.length)).take 400)
theorem partSum_step (d : Nat) {l : List Nat} {i : Nat} (h : i < l.length) : partSum d (l.take (i + 1)) = partSum d (l.take i) + l[i] / d := by
  rw [List.take_succ_eq_append_getElem h, partSum, partSum, List.map_append, List.sum_append]
  simp
theorem partSum_le (d B : Nat) : ∀ (l : List Nat), (∀ x ∈ l, x ≤ B) → partSum d l ≤ l.length * B
  | [], _ => by simp [partSum]
  | x :: l, h => by
    have := partSum_le d B l (fun y hy => h y (List.mem_cons_of_mem _ hy))
    have h1 := h x List.mem_cons_self
    have h2 := Nat.div_le_self x d
    simp only [partSum, List.map_cons, List.sum_cons, List.length_cons] at this ⊢
    rw [Nat.add_mul]
    omega
theorem partSum_lt {d B i : Nat} (l : List Nat) (h : ∀ x ∈ l, x ≤ B) : partSum d (l.take i) ≤ i * B := by
  have h1 := partSum_le d B (l.take i) (fun x hx => h x (List.mem_of_mem_take hx))
  have h2 : (l.take i).length ≤ i := by rw [List.length_take]; omega
  exact Nat.le_trans h1 (Nat.mul_le_mul_right B h2)
set_option maxRecDepth 20000 in
theorem gMuch (hg : GramAt S w g A0 A1 A2 c0 c1 c2) : Calls Tryz.prog 11 [.agg (gcells g A0 A1 A2 c0 c1 c2).toArray].toArray w (Ret fun v w' => v = .int .i64 g.much ∧ Ext w w') := by
  have h0 := hg.terms.2.1
  have h1 := hg.nons.2.1
  have h2 := hg.rules.2.1
  have hb0 : ∀ x ∈ g.terms.map (·.size), x ≤ 140737488355328 := by
    intro x hx
    obtain ⟨s, hs, rfl⟩ := List.mem_map.1 hx
    obtain ⟨es, he⟩ := hg.terms.all s hs
    exact he.2
  have hb1 : ∀ x ∈ g.nons.map (·.size), x ≤ 140737488355328 := by
    intro x hx
    obtain ⟨s, hs, rfl⟩ := List.mem_map.1 hx
    obtain ⟨es, he⟩ := hg.nons.all s hs
    exact he.2
  have hb2 : ∀ x ∈ g.rules.map (·.right.length), x ≤ 1099511627776 := by
    intro x hx
    obtain ⟨s, hs, rfl⟩ := List.mem_map.1 hx
    obtain ⟨es, he⟩ := hg.rules.all s hs
    obtain ⟨_, _, _, _, _, hr⟩ := tRule_open he
    exact hr.2.1
  have s0 := fun i => partSum_lt (d := 20) (i := i) _ hb0
  have s1 := fun i => partSum_lt (d := 20) (i := i) _ hb1
  have s2 := fun i => partSum_lt (d := 9) (i := i) _ hb2
  refine enter Tryz.func11 rfl Tryz.ntmps11 rfl ?_
  refine wk ?_; try (refine Wop.box rfl (fun w1 e1 b1 z1 => ?_); refine wk ?_)
  have hg1 := hg.ext e1
  refine W.midB (ι := Unit) (fun _ => [(1, .pointer (some ⟨w.heap.size, 0, none⟩)), (3, .int .i64 ((g.terms.length + g.nons.length + g.rules.length + partSum 20 ((g.terms.map (·.size)).take 200) : Nat) : Int))]) (fun _ w' => Ext w1 w') ?_ ?_
  · refine W.loop (ι := Nat) (fun i => [(1, .pointer (some ⟨w.heap.size, 0, none⟩)), (4, .int .i64 (i : Int)), (3, .int .i64 ((g.terms.length + g.nons.length + g.rules.length + partSum 20 ((g.terms.map (·.size)).take i) : Nat) : Int))])
      (fun i w' => Ext w1 w' ∧ i ≤ g.terms.length ∧ i ≤ 200) (fun i => g.terms.length - i) 0 (Has.cons rfl (Has.cons rfl (Has.consI rfl (by simp [partSum]) Has.nil))) ⟨Ext.refl w1, Nat.zero_le _, Nat.zero_le _⟩ ?_
    rintro i w' ⟨hE, hi, ha⟩
    have hs := s0 i
    have hfin : i = g.terms.length ∨ i = 200 → partSum 20 ((g.terms.map (·.size)).take i) = partSum 20 ((g.terms.map (·.size)).take 200) := by
      rintro (rfl | rfl)
      · rw [List.take_of_length_le (by simp), List.take_of_length_le (by simpa using ha)]
      · rfl
    refine wk ?_
    refine Wl.part rfl rfl rfl (fun p => ?_) (fun p => ?_)
    · refine wk ?_
      refine W.test rfl (fun q => ?_) (fun q => ?_)
      · have hlt : i < g.terms.length := by omega
        obtain ⟨b, o, rfl, es, ⟨rfl, hsz⟩, hc⟩ := (hg1.terms.ext (by decide) hE).at_ i hlt
        have hcell := hc 0 _ rfl
        refine wk ?_
        refine Wop.quo rfl rfl (by omega) (by omega) (by omega) ?_
        have hst := partSum_step 20 (l := g.terms.map (·.size)) (i := i) (by simpa using hlt)
        rw [List.getElem_map] at hst
        refine wk ?_
        refine Arr.again (i + 1) (Has.cons rfl (Has.cons rfl (Has.consI rfl (by rw [hst]; omega) Has.nil))) ⟨hE, by omega, by omega⟩ (by omega)
      · refine wk ?_
        exact Arr.mid () (by rw [← hfin (by omega)]; exact has ) hE
    · refine wk ?_
      exact Arr.mid () (by rw [← hfin (by omega)]; exact has ) hE
  rintro _ w0 hE0
  have t0 := s0 200
  refine wk ?_
  refine W.midB (ι := Unit) (fun _ => [(1, .pointer (some ⟨w.heap.size, 0, none⟩)), (3, .int .i64 ((g.terms.length + g.nons.length + g.rules.length + partSum 20 ((g.terms.map (·.size)).take 200) + partSum 20 ((g.nons.map (·.size)).take 200) : Nat) : Int))]) (fun _ w' => Ext w1 w') ?_ ?_
  · refine W.loop (ι := Nat) (fun i => [(1, .pointer (some ⟨w.heap.size, 0, none⟩)), (5, .int .i64 (i : Int)), (3, .int .i64 ((g.terms.length + g.nons.length + g.rules.length + partSum 20 ((g.terms.map (·.size)).take 200) + partSum 20 ((g.nons.map (·.size)).take i) : Nat) : Int))])
      (fun i w' => Ext w1 w' ∧ i ≤ g.nons.length ∧ i ≤ 200) (fun i => g.nons.length - i) 0 (Has.cons rfl (Has.cons rfl (Has.consI rfl (by simp [partSum]) Has.nil))) ⟨hE0, Nat.zero_le _, Nat.zero_le _⟩ ?_
    rintro i w' ⟨hE, hi, ha⟩
    have hs := s1 i
    have hfin : i = g.nons.length ∨ i = 200 → partSum 20 ((g.nons.map (·.size)).take i) = partSum 20 ((g.nons.map (·.size)).take 200) := by
      rintro (rfl | rfl)
      · rw [List.take_of_length_le (by simp), List.take_of_length_le (by simpa using ha)]
      · rfl
    refine wk ?_
    refine Wl.part rfl rfl rfl (fun p => ?_) (fun p => ?_)
    · refine wk ?_
      refine W.test rfl (fun q => ?_) (fun q => ?_)
      · have hlt : i < g.nons.length := by omega
        obtain ⟨b, o, rfl, es, ⟨rfl, hsz⟩, hc⟩ := (hg1.nons.ext (by decide) hE).at_ i hlt
        have hcell := hc 0 _ rfl
        refine wk ?_
        refine Wop.quo rfl rfl (by omega) (by omega) (by omega) ?_
        have hst := partSum_step 20 (l := g.nons.map (·.size)) (i := i) (by simpa using hlt)
        rw [List.getElem_map] at hst
        refine wk ?_
        refine Arr.again (i + 1) (Has.cons rfl (Has.cons rfl (Has.consI rfl (by rw [hst]; omega) Has.nil))) ⟨hE, by omega, by omega⟩ (by omega)
      · refine wk ?_
        exact Arr.mid () (by rw [← hfin (by omega)]; exact has ) hE
    · refine wk ?_
      exact Arr.mid () (by rw [← hfin (by omega)]; exact has ) hE
  rintro _ w0 hE0
  have t1 := s1 200
  refine wk ?_
  refine W.loop (ι := Nat) (fun i => [(1, .pointer (some ⟨w.heap.size, 0, none⟩)), (6, .int .i64 (i : Int)), (3, .int .i64 ((g.terms.length + g.nons.length + g.rules.length + partSum 20 ((g.terms.map (·.size)).take 200) + partSum 20 ((g.nons.map (·.size)).take 200) + partSum 9 ((g.rules.map (·.right.length)).take i) : Nat) : Int))])
      (fun i w' => Ext w1 w' ∧ i ≤ g.rules.length ∧ i ≤ 400) (fun i => g.rules.length - i) 0 (Has.cons rfl (Has.cons rfl (Has.consI rfl (by simp [partSum]) Has.nil))) ⟨hE0, Nat.zero_le _, Nat.zero_le _⟩ ?_
  rintro i w' ⟨hE, hi, ha⟩
  have hs := s2 i
  have hfin : i = g.rules.length ∨ i = 400 → partSum 9 ((g.rules.map (·.right.length)).take i) = partSum 9 ((g.rules.map (·.right.length)).take 400) := by
    rintro (rfl | rfl)
    · rw [List.take_of_length_le (by simp), List.take_of_length_le (by simpa using ha)]
    · rfl
  refine wk ?_
  refine Wl.part rfl rfl rfl (fun p => ?_) (fun p => ?_)
  · refine wk ?_
    refine W.test rfl (fun q => ?_) (fun q => ?_)
    · have hlt : i < g.rules.length := by omega
      obtain ⟨b, o, rfl, es, hrd, hc⟩ := (hg1.rules.ext (by decide) hE).at_ i hlt
      obtain ⟨A, c, rfl, hcap, hl64, hrow⟩ := tRule_open hrd
      have hcell := hc 1 _ rfl
      have hrm := hrow.2.1
      refine wk ?_
      refine Wop.quo rfl rfl (by omega) (by omega) (by omega) ?_
      have hst := partSum_step 9 (l := g.rules.map (·.right.length)) (i := i) (by simpa using hlt)
      rw [List.getElem_map] at hst
      refine wk ?_
      refine Arr.again (i + 1) (Has.cons rfl (Has.cons rfl (Has.consI rfl (by rw [hst]; omega) Has.nil))) ⟨hE, by omega, by omega⟩ (by omega)
    · refine wk ?_
      refine Arr.ret1 rfl rfl ⟨?_, e1.trans hE⟩
      rw [Gram.much, hfin (by omega)]
  · refine wk ?_
    refine Arr.ret1 rfl rfl ⟨?_, e1.trans hE⟩
    rw [Gram.much, hfin (by omega)]
end Go.Proofs.YtbadjlhijbkbbaaGreat

/-
  The small grammar at which the program is tried, laid in memory; the first layer's own trial.
-/
set_option linter.unusedVariables false
namespace Go.Proofs.YtbadjlhijbkbbaaGreat
open Go Go.RowKit Sx
variable {S : Nat → Prop} {w : World} {g : Gram} {A0 A1 A2 : Option Addr} {c0 c1 c2 : Nat}
def gA : Gram := ⟨["A".toUTF8, "'x'".toUTF8], ["s".toUTF8], [⟨3, [1, 2]⟩], 3⟩
theorem gA_check : gA.check = 0 := by decide +kernel
theorem gA_ordered : gA.ordered = true := by decide +kernel
theorem gA_find : gA.find "s".toUTF8 = 3 := by decide +kernel
theorem gA_name : gA.name 2 = "'x'".toUTF8 := by decide +kernel
theorem gA_rule : gA.rule 1 = (true, ⟨0, [3]⟩) := by decide +kernel
end Go.Proofs.YtbadjlhijbkbbaaGreat

/-
  The walks of the first layer's laws.
-/
set_option linter.unusedVariables false
namespace Go.Proofs.YtbadjlhijbkbbaaGreat
open Go Go.RowKit Sx
variable {S S' : Nat → Prop} {w : World} {g h : Gram} {A0 A1 A2 B0 B1 B2 : Option Addr} {c0 c1 c2 d0 d1 d2 : Nat}
end Go.Proofs.YtbadjlhijbkbbaaGreat

/-
  The walk of GramChecks.
-/
set_option linter.unusedVariables false
namespace Go.Proofs.YtbadjlhijbkbbaaGreat
open Go Go.RowKit Sx
variable {S S' : Nat → Prop} {w : World} {g h : Gram} {A0 A1 A2 B0 B1 B2 : Option Addr} {c0 c1 c2 d0 d1 d2 : Nat}
/-- Numbers in a row, wherever. -/
def someI (xs : List Int) : Fact Ext := ⟨fun v w => ∃ A c, v = .slice A xs.length c ∧ xs.length ≤ c ∧ tI.Row (fun _ => True) w A xs.length xs, fun e h => by
  obtain ⟨A, c, h1, h2, h3⟩ := h
  exact ⟨A, c, h1, h2, h3.ext (by decide) e⟩⟩
theorem OwnI.some {w : World} {base : Nat} {v : Value} {xs : List Int} (h : OwnI w base v xs) (hm : xs.length ≤ 1099511627776) (hr : ∀ x ∈ xs, I64 x) : (someI xs).p v w := OwnI.row (S := fun _ => True) h hm hr (fun _ _ => trivial)
theorem Gram.of_small {g : Gram} (h : g.rules.length ≤ 1099511627776) (s : Int) : (g.of s).length ≤ 1099511627776 ∧ ∀ x ∈ g.of s, I64 x := by
  have h1 := ofFrom_length s g.rules 0
  refine ⟨Nat.le_trans h1 h, fun x hx => ?_⟩
  have := ofFrom_lt s g.rules 0 x hx
  exact ⟨by omega, by omega⟩
end Go.Proofs.YtbadjlhijbkbbaaGreat

/-
  GramNames: what is so of a grammar that may be; the law's walk.
-/
set_option linter.unusedVariables false
namespace Go.Proofs.YtbadjlhijbkbbaaGreat
open Go Go.RowKit Sx
variable {S S' : Nat → Prop} {w : World} {g h : Gram} {A0 A1 A2 B0 B1 B2 : Option Addr} {c0 c1 c2 d0 d1 d2 : Nat}
/-- A grammar that may be. -/
structure Gram.May (g : Gram) : Prop where
  fewT : g.terms.length ≤ 120
  fewN : g.nons.length ≤ 120
  fewR : g.rules.length ≤ 300
  short : ∀ r ∈ g.rules, r.right.length ≤ 8
  once : g.names.Nodup
  start : g.non g.start = true
  known : ∀ r ∈ g.rules, g.known r = true
  unlike : g.rules.Nodup
  some : ∀ i, i < g.nons.length → g.of (g.terms.length + 1 + (i : Int)) ≠ []
  form : g.form = true
theorem Gram.may (h : g.check = 0) : g.May := by
  unfold Gram.check at h
  by_cases h1 : g.many = true
  · rw [if_pos h1] at h; cases h
  rw [if_neg h1] at h
  by_cases h2 : (!g.form) = true
  · rw [if_pos h2] at h; cases h
  rw [if_neg h2] at h
  by_cases h3 : (!decide g.names.Nodup) = true
  · rw [if_pos h3] at h; cases h
  rw [if_neg h3] at h
  by_cases h4 : (!(g.non g.start && g.rules.all g.known)) = true
  · rw [if_pos h4] at h; cases h
  rw [if_neg h4] at h
  by_cases h5 : (!g.unlike) = true
  · rw [if_pos h5] at h; cases h
  rw [if_neg h5] at h
  by_cases h6 : (List.range g.nons.length).all (fun (i : Nat) => decide (g.of (g.terms.length + 1 + i) ≠ [])) = true
  · simp only [Gram.many, Bool.or_eq_true, decide_eq_true_eq, Bool.not_eq_true', not_or] at h1
    obtain ⟨h1a, h1b⟩ := h1
    simp only [Bool.not_eq_false, List.all_eq_true, decide_eq_true_eq] at h1b
    simp only [Bool.not_eq_true, Bool.not_eq_false'] at h2
    simp only [Bool.not_eq_true, Bool.not_eq_false', decide_eq_true_eq] at h3
    simp only [Bool.not_eq_true, Bool.not_eq_false', Bool.and_eq_true, List.all_eq_true] at h4
    simp only [Bool.not_eq_true, Bool.not_eq_false', Gram.unlike, decide_eq_true_eq] at h5
    simp only [List.all_eq_true, List.mem_range, decide_eq_true_eq] at h6
    exact ⟨by omega, by omega, by omega, h1b, h3, h4.1, h4.2, h5, h6, h2⟩
  · rw [if_neg h6] at h; cases h
theorem Gram.May.check (h : g.May) : g.check = 0 := by
  unfold Gram.check
  have h1 : g.many = false := by
    simp only [Gram.many, Bool.or_eq_false_iff, decide_eq_false_iff_not, Bool.not_eq_false', List.all_eq_true, decide_eq_true_eq]
    exact ⟨by have := h.fewT; have := h.fewN; have := h.fewR; omega, h.short⟩
  rw [if_neg (by simp [h1]), if_neg (by simp [h.form]), if_neg (by simp [h.once]), if_neg, if_neg (by simp [Gram.unlike, h.unlike]), if_pos]
  · simp only [List.all_eq_true, List.mem_range, decide_eq_true_eq]
    exact h.some
  · simp only [Bool.not_eq_true', Bool.not_eq_false, Bool.and_eq_true, List.all_eq_true]
    exact ⟨h.start, h.known⟩
theorem ofFrom_mem {s : Int} : ∀ {l : List Rule} {k : Nat} {x : Int}, x ∈ Gram.ofFrom s l k ↔ ∃ j r, l[j]? = some r ∧ r.left = s ∧ x = ((k + j : Nat) : Int)
  | [], k, x => by simp [Gram.ofFrom]
  | r :: l, k, x => by
    simp only [Gram.ofFrom]
    have ih := ofFrom_mem (s := s) (l := l) (k := k + 1) (x := x)
    have tail : (∃ j r', l[j]? = some r' ∧ r'.left = s ∧ x = ((k + 1 + j : Nat) : Int)) → ∃ j r', (r :: l)[j]? = some r' ∧ r'.left = s ∧ x = ((k + j : Nat) : Int) := by
      rintro ⟨j, r', h1, h2, h3⟩
      exact ⟨j + 1, r', by simpa using h1, h2, by rw [h3]; congr 1; omega⟩
    constructor
    · intro hx
      split at hx
      · rename_i hl
        rcases List.mem_cons.1 hx with rfl | hx
        · exact ⟨0, r, rfl, hl, by simp⟩
        · exact tail (ih.1 hx)
      · exact tail (ih.1 hx)
    · rintro ⟨j, r', h1, h2, h3⟩
      cases j with
      | zero =>
        simp at h1
        subst h1
        rw [if_pos h2]
        exact List.mem_cons.2 (.inl (by simpa using h3))
      | succ j =>
        have : x ∈ Gram.ofFrom s l (k + 1) := ih.2 ⟨j, r', by simpa using h1, h2, by rw [h3]; congr 1; omega⟩
        split
        · exact List.mem_cons_of_mem _ this
        · exact this
theorem of_mem {s x : Int} : x ∈ g.of s ↔ ∃ (j : Nat) (r : Rule), g.rules[j]? = some r ∧ r.left = s ∧ x = (j : Int) := by
  rw [Gram.of, ofFrom_mem]
  simp
theorem Gram.non_iff {s : Int} : g.non s = true ↔ (g.terms.length : Int) < s ∧ s ≤ g.terms.length + g.nons.length := by
  rw [Gram.non, decide_eq_true_iff]
  rfl
theorem Gram.term_iff {s : Int} : g.term s = true ↔ 1 ≤ s ∧ s ≤ g.terms.length := by
  simp [Gram.term]
theorem Gram.May.left (h : g.May) {r : Rule} (hr : r ∈ g.rules) : (g.terms.length : Int) < r.left ∧ r.left ≤ g.terms.length + g.nons.length := by
  have := h.known r hr
  simp only [Gram.known, Bool.and_eq_true] at this
  exact Gram.non_iff.1 this.1
theorem Gram.May.right (h : g.May) {r : Rule} (hr : r ∈ g.rules) {s : Int} (hs : s ∈ r.right) : 1 ≤ s ∧ s ≤ g.terms.length + g.nons.length := by
  have := h.known r hr
  simp only [Gram.known, Bool.and_eq_true, List.all_eq_true, Bool.or_eq_true] at this
  rcases this.2 s hs with h1 | h1
  · have := Gram.term_iff.1 h1; omega
  · have := Gram.non_iff.1 h1; omega
theorem Gram.May.of_pos (h : g.May) (s : Int) : g.non s = decide (0 < (g.of s).length) := by
  cases hn : g.non s with
  | true =>
    obtain ⟨h1, h2⟩ := Gram.non_iff.1 hn
    have := h.some (s - g.terms.length - 1).toNat (by omega)
    rw [show ((g.terms.length : Int) + 1 + ((s - g.terms.length - 1).toNat : Int)) = s by omega] at this
    exact (decide_eq_true (List.length_pos_iff.2 this)).symm
  | false =>
    refine (decide_eq_false (fun hp => ?_)).symm
    obtain ⟨x, hx⟩ := List.exists_mem_of_length_pos hp
    obtain ⟨j, r, h1, h2, _⟩ := of_mem.1 hx
    have := h.left (List.mem_of_getElem? h1)
    rw [h2] at this
    rw [Gram.non_iff.2 this] at hn
    cases hn
theorem Gram.of_rule {s : Int} {i : Nat} (hi : i < (g.of s).length) : (g.rule (g.of s)[i]).1 = true ∧ (g.rule (g.of s)[i]).2.left = s := by
  obtain ⟨j, r, h1, h2, h3⟩ := of_mem.1 (List.getElem_mem hi)
  have hj := (List.getElem?_eq_some_iff.1 h1).1
  rw [h3]
  have e : g.rule (j : Int) = (true, r) := by
    rw [Gram.rule, if_neg (by omega), if_neg (by omega)]
    simp only [Int.toNat_natCast, h1, Option.getD_some]
  rw [e]
  exact ⟨rfl, h2⟩
theorem Gram.name_get {s : Int} (h1 : 1 ≤ s) (h2 : s ≤ g.top) : ∃ h : (s - 1).toNat < g.names.length, g.name s = g.names[(s - 1).toNat] := by
  have hl : g.names.length = g.terms.length + g.nons.length := List.length_append
  have hlt : (s - 1).toNat < g.names.length := by rw [Gram.top] at h2; omega
  refine ⟨hlt, ?_⟩
  rw [Gram.name, if_neg (by omega)]
  by_cases h3 : s ≤ g.terms.length
  · rw [if_pos ⟨h1, h3⟩, List.getElem?_eq_getElem hlt, Option.getD_some]
  · rw [if_neg (by omega), if_pos ⟨by omega, h2⟩, List.getElem?_eq_getElem hlt, Option.getD_some]
theorem idxI_nodup {xs : List ByteArray} (h : xs.Nodup) {i : Nat} (hi : i < xs.length) : idxI (fun x => decide (x = xs[i])) xs = i := by
  refine idxI_some (List.getElem?_eq_getElem hi) (decide_eq_true rfl) (fun j y hj hy => decide_eq_false (fun e => ?_))
  obtain ⟨hj', hy⟩ := List.getElem?_eq_some_iff.1 hy
  have := (List.getElem_inj (i := j) (j := i) (h₀ := hj') (h₁ := hi) h).1 (hy.trans e)
  omega
theorem Gram.May.find_name (h : g.May) {s : Int} (h1 : 1 ≤ s) (h2 : s ≤ g.top) : g.find (g.name s) = s := by
  obtain ⟨hlt, he⟩ := Gram.name_get h1 h2
  rw [Gram.find, he, idxI_nodup h.once hlt]
  omega
/-- How many rules have a left side below so much. -/
theorem of_sum (g : Gram) : ∀ (l : List Rule) (k n : Nat), (∀ r ∈ l, 0 ≤ r.left ∧ r.left < n) → (((List.range n).map fun (s : Nat) => (Gram.ofFrom (s : Int) l k).length).sum) = l.length
  | [], k, n, _ => by
    simp only [Gram.ofFrom, List.length_nil]
    induction n with
    | zero => rfl
    | succ n ih => rw [List.range_succ, List.map_append, List.sum_append, ih (fun r hr => by cases hr)]; rfl
  | r :: l, k, n, h => by
    have ih := of_sum g l (k + 1) n (fun r' hr => h r' (List.mem_cons_of_mem _ hr))
    have hr := h r List.mem_cons_self
    have key : ∀ n : Nat, (((List.range n).map fun (s : Nat) => (Gram.ofFrom (s : Int) (r :: l) k).length).sum) = (((List.range n).map fun (s : Nat) => (Gram.ofFrom (s : Int) l (k + 1)).length).sum) + if r.left < n then 1 else 0 := by
      intro n
      induction n with
      | zero => simp; omega
      | succ n ih =>
        rw [List.range_succ, List.map_append, List.map_append, List.sum_append, List.sum_append, ih]
        simp only [List.map_cons, List.map_nil, List.sum_cons, List.sum_nil, Gram.ofFrom]
        by_cases e : r.left = (n : Int)
        · rw [if_pos e, if_neg (by omega), if_pos (by omega)]
          simp only [List.length_cons]
          omega
        · rw [if_neg e]
          by_cases e2 : r.left < n
          · rw [if_pos e2, if_pos (by omega)]; omega
          · rw [if_neg e2, if_neg (by omega)]; omega
    rw [key, ih, if_pos hr.2]
    rfl
theorem Gram.May.of_total (h : g.May) : (((List.range (g.terms.length + g.nons.length + 1)).map fun (s : Nat) => (g.of (s : Int)).length).sum) = g.rules.length :=
  of_sum g g.rules 0 _ (fun r hr => by have := h.left hr; omega)
end Go.Proofs.YtbadjlhijbkbbaaGreat
