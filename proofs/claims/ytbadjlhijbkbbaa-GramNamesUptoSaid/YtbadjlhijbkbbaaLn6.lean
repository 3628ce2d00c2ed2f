/-
  GramNames: what is so of a grammar that may be; the law's walk.
-/
import Derived.Test.YtbadjlhijbkbbaaLc6
import Derived.Test.YtbadjlhijbkbbaaAnyK
set_option linter.unusedVariables false
namespace Go.Proofs.Ytbadjlhijbkbbaa
open Go Go.RowKit Sx
variable {S S' : Nat → Prop} {w : World} {g h : Gram} {A0 A1 A2 B0 B1 B2 : Option Addr} {c0 c1 c2 d0 d1 d2 : Nat}
/-- A grammar that may be. -/
structure Gram.May (g : Gram) : Prop where
  fewT : g.terms.length ≤ 120
  fewN : g.nons.length ≤ 120
  fewR : g.rules.length ≤ 300
  short : ∀ r ∈ g.rules, r.right.length ≤ 8
  once : g.names.Nodup
  start : g.non g.start = true
  known : ∀ r ∈ g.rules, g.known r = true
  unlike : g.rules.Nodup
  some : ∀ i, i < g.nons.length → g.of (g.terms.length + 1 + (i : Int)) ≠ []
  form : g.form = true
theorem Gram.may (h : g.check = 0) : g.May := by
  unfold Gram.check at h
  by_cases h1 : g.many = true
  · rw [if_pos h1] at h; cases h
  rw [if_neg h1] at h
  by_cases h2 : (!g.form) = true
  · rw [if_pos h2] at h; cases h
  rw [if_neg h2] at h
  by_cases h3 : (!decide g.names.Nodup) = true
  · rw [if_pos h3] at h; cases h
  rw [if_neg h3] at h
  by_cases h4 : (!(g.non g.start && g.rules.all g.known)) = true
  · rw [if_pos h4] at h; cases h
  rw [if_neg h4] at h
  by_cases h5 : (!g.unlike) = true
  · rw [if_pos h5] at h; cases h
  rw [if_neg h5] at h
  by_cases h6 : (List.range g.nons.length).all (fun (i : Nat) => decide (g.of (g.terms.length + 1 + i) ≠ [])) = true
  · simp only [Gram.many, Bool.or_eq_true, decide_eq_true_eq, Bool.not_eq_true', not_or] at h1
    obtain ⟨h1a, h1b⟩ := h1
    simp only [Bool.not_eq_false, List.all_eq_true, decide_eq_true_eq] at h1b
    simp only [Bool.not_eq_true, Bool.not_eq_false'] at h2
    simp only [Bool.not_eq_true, Bool.not_eq_false', decide_eq_true_eq] at h3
    simp only [Bool.not_eq_true, Bool.not_eq_false', Bool.and_eq_true, List.all_eq_true] at h4
    simp only [Bool.not_eq_true, Bool.not_eq_false', Gram.unlike, decide_eq_true_eq] at h5
    simp only [List.all_eq_true, List.mem_range, decide_eq_true_eq] at h6
    exact ⟨by omega, by omega, by omega, h1b, h3, h4.1, h4.2, h5, h6, h2⟩
  · rw [if_neg h6] at h; cases h
theorem Gram.May.check (h : g.May) : g.check = 0 := by
  unfold Gram.check
  have h1 : g.many = false := by
    simp only [Gram.many, Bool.or_eq_false_iff, decide_eq_false_iff_not, Bool.not_eq_false', List.all_eq_true, decide_eq_true_eq]
    exact ⟨by have := h.fewT; have := h.fewN; have := h.fewR; omega, h.short⟩
  rw [if_neg (by simp [h1]), if_neg (by simp [h.form]), if_neg (by simp [h.once]), if_neg, if_neg (by simp [Gram.unlike, h.unlike]), if_pos]
  · simp only [List.all_eq_true, List.mem_range, decide_eq_true_eq]
    exact h.some
  · simp only [Bool.not_eq_true', Bool.not_eq_false, Bool.and_eq_true, List.all_eq_true]
    exact ⟨h.start, h.known⟩
theorem ofFrom_mem {s : Int} : ∀ {l : List Rule} {k : Nat} {x : Int}, x ∈ Gram.ofFrom s l k ↔ ∃ j r, l[j]? = some r ∧ r.left = s ∧ x = ((k + j : Nat) : Int)
  | [], k, x => by simp [Gram.ofFrom]
  | r :: l, k, x => by
    simp only [Gram.ofFrom]
    have ih := ofFrom_mem (s := s) (l := l) (k := k + 1) (x := x)
    have tail : (∃ j r', l[j]? = some r' ∧ r'.left = s ∧ x = ((k + 1 + j : Nat) : Int)) → ∃ j r', (r :: l)[j]? = some r' ∧ r'.left = s ∧ x = ((k + j : Nat) : Int) := by
      rintro ⟨j, r', h1, h2, h3⟩
      exact ⟨j + 1, r', by simpa using h1, h2, by rw [h3]; congr 1; omega⟩
    constructor
    · intro hx
      split at hx
      · rename_i hl
        rcases List.mem_cons.1 hx with rfl | hx
        · exact ⟨0, r, rfl, hl, by simp⟩
        · exact tail (ih.1 hx)
      · exact tail (ih.1 hx)
    · rintro ⟨j, r', h1, h2, h3⟩
      cases j with
      | zero =>
        simp at h1
        subst h1
        rw [if_pos h2]
        exact List.mem_cons.2 (.inl (by simpa using h3))
      | succ j =>
        have : x ∈ Gram.ofFrom s l (k + 1) := ih.2 ⟨j, r', by simpa using h1, h2, by rw [h3]; congr 1; omega⟩
        split
        · exact List.mem_cons_of_mem _ this
        · exact this
theorem of_mem {s x : Int} : x ∈ g.of s ↔ ∃ (j : Nat) (r : Rule), g.rules[j]? = some r ∧ r.left = s ∧ x = (j : Int) := by
  rw [Gram.of, ofFrom_mem]
  simp
theorem Gram.non_iff {s : Int} : g.non s = true ↔ (g.terms.length : Int) < s ∧ s ≤ g.terms.length + g.nons.length := by
  rw [Gram.non, decide_eq_true_iff]
  rfl
theorem Gram.term_iff {s : Int} : g.term s = true ↔ 1 ≤ s ∧ s ≤ g.terms.length := by
  simp [Gram.term]
theorem Gram.May.left (h : g.May) {r : Rule} (hr : r ∈ g.rules) : (g.terms.length : Int) < r.left ∧ r.left ≤ g.terms.length + g.nons.length := by
  have := h.known r hr
  simp only [Gram.known, Bool.and_eq_true] at this
  exact Gram.non_iff.1 this.1
theorem Gram.May.right (h : g.May) {r : Rule} (hr : r ∈ g.rules) {s : Int} (hs : s ∈ r.right) : 1 ≤ s ∧ s ≤ g.terms.length + g.nons.length := by
  have := h.known r hr
  simp only [Gram.known, Bool.and_eq_true, List.all_eq_true, Bool.or_eq_true] at this
  rcases this.2 s hs with h1 | h1
  · have := Gram.term_iff.1 h1; omega
  · have := Gram.non_iff.1 h1; omega
theorem Gram.May.of_pos (h : g.May) (s : Int) : g.non s = decide (0 < (g.of s).length) := by
  cases hn : g.non s with
  | true =>
    obtain ⟨h1, h2⟩ := Gram.non_iff.1 hn
    have := h.some (s - g.terms.length - 1).toNat (by omega)
    rw [show ((g.terms.length : Int) + 1 + ((s - g.terms.length - 1).toNat : Int)) = s by omega] at this
    exact (decide_eq_true (List.length_pos_iff.2 this)).symm
  | false =>
    refine (decide_eq_false (fun hp => ?_)).symm
    obtain ⟨x, hx⟩ := List.exists_mem_of_length_pos hp
    obtain ⟨j, r, h1, h2, _⟩ := of_mem.1 hx
    have := h.left (List.mem_of_getElem? h1)
    rw [h2] at this
    rw [Gram.non_iff.2 this] at hn
    cases hn
theorem Gram.of_rule {s : Int} {i : Nat} (hi : i < (g.of s).length) : (g.rule (g.of s)[i]).1 = true ∧ (g.rule (g.of s)[i]).2.left = s := by
  obtain ⟨j, r, h1, h2, h3⟩ := of_mem.1 (List.getElem_mem hi)
  have hj := (List.getElem?_eq_some_iff.1 h1).1
  rw [h3]
  have e : g.rule (j : Int) = (true, r) := by
    rw [Gram.rule, if_neg (by omega), if_neg (by omega)]
    simp only [Int.toNat_natCast, h1, Option.getD_some]
  rw [e]
  exact ⟨rfl, h2⟩
theorem Gram.name_get {s : Int} (h1 : 1 ≤ s) (h2 : s ≤ g.top) : ∃ h : (s - 1).toNat < g.names.length, g.name s = g.names[(s - 1).toNat] := by
  have hl : g.names.length = g.terms.length + g.nons.length := List.length_append
  have hlt : (s - 1).toNat < g.names.length := by rw [Gram.top] at h2; omega
  refine ⟨hlt, ?_⟩
  rw [Gram.name, if_neg (by omega)]
  by_cases h3 : s ≤ g.terms.length
  · rw [if_pos ⟨h1, h3⟩, List.getElem?_eq_getElem hlt, Option.getD_some]
  · rw [if_neg (by omega), if_pos ⟨by omega, h2⟩, List.getElem?_eq_getElem hlt, Option.getD_some]
theorem idxI_nodup {xs : List ByteArray} (h : xs.Nodup) {i : Nat} (hi : i < xs.length) : idxI (fun x => decide (x = xs[i])) xs = i := by
  refine idxI_some (List.getElem?_eq_getElem hi) (decide_eq_true rfl) (fun j y hj hy => decide_eq_false (fun e => ?_))
  obtain ⟨hj', hy⟩ := List.getElem?_eq_some_iff.1 hy
  have := (List.getElem_inj (i := j) (j := i) (h₀ := hj') (h₁ := hi) h).1 (hy.trans e)
  omega
theorem Gram.May.find_name (h : g.May) {s : Int} (h1 : 1 ≤ s) (h2 : s ≤ g.top) : g.find (g.name s) = s := by
  obtain ⟨hlt, he⟩ := Gram.name_get h1 h2
  rw [Gram.find, he, idxI_nodup h.once hlt]
  omega
/-- How many rules have a left side below so much. -/
theorem of_sum (g : Gram) : ∀ (l : List Rule) (k n : Nat), (∀ r ∈ l, 0 ≤ r.left ∧ r.left < n) → (((List.range n).map fun (s : Nat) => (Gram.ofFrom (s : Int) l k).length).sum) = l.length
  | [], k, n, _ => by
    simp only [Gram.ofFrom, List.length_nil]
    induction n with
    | zero => rfl
    | succ n ih => rw [List.range_succ, List.map_append, List.sum_append, ih (fun r hr => by cases hr)]; rfl
  | r :: l, k, n, h => by
    have ih := of_sum g l (k + 1) n (fun r' hr => h r' (List.mem_cons_of_mem _ hr))
    have hr := h r List.mem_cons_self
    have key : ∀ n : Nat, (((List.range n).map fun (s : Nat) => (Gram.ofFrom (s : Int) (r :: l) k).length).sum) = (((List.range n).map fun (s : Nat) => (Gram.ofFrom (s : Int) l (k + 1)).length).sum) + if r.left < n then 1 else 0 := by
      intro n
      induction n with
      | zero => simp; omega
      | succ n ih =>
        rw [List.range_succ, List.map_append, List.map_append, List.sum_append, List.sum_append, ih]
        simp only [List.map_cons, List.map_nil, List.sum_cons, List.sum_nil, Gram.ofFrom]
        by_cases e : r.left = (n : Int)
        · rw [if_pos e, if_neg (by omega), if_pos (by omega)]
          simp only [List.length_cons]
          omega
        · rw [if_neg e]
          by_cases e2 : r.left < n
          · rw [if_pos e2, if_pos (by omega)]; omega
          · rw [if_neg e2, if_neg (by omega)]; omega
    rw [key, ih, if_pos hr.2]
    rfl
theorem Gram.May.of_total (h : g.May) : (((List.range (g.terms.length + g.nons.length + 1)).map fun (s : Nat) => (g.of (s : Int)).length).sum) = g.rules.length :=
  of_sum g g.rules 0 _ (fun r hr => by have := h.left hr; omega)
end Go.Proofs.Ytbadjlhijbkbbaa
