/-
  Joined by program out of the texts It1 It2 It3 It4 Sli It5: lemmas for the proofs of this seat; no condition.
-/
import Derived.Test.YtbadjlhijbkbbaaGreatBb
import Derived.Test.YtbadjlhijbkbbaaGreatCa
import Derived.Laws.StructEq
import Derived.Test.YtbadjlhijbkbbaaGreatBe
import Derived.Test.YtbadjlhijbkbbaaGreatBf
set_option maxHeartbeats 1000000
/-
  Items, in plain Lean.
-/
set_option linter.unusedVariables false
namespace Go.Proofs.YtbadjlhijbkbbaaGreat
open Go
/-- An item. -/
structure Itm where
  rule : Int
  dot : Int
deriving DecidableEq
namespace Itm
instance : Inhabited Itm := ⟨⟨0, 0⟩⟩
def less (a b : Itm) : Bool := decide (a.rule < b.rule ∨ a.rule = b.rule ∧ a.dot < b.dot)
theorem less_iff {a b : Itm} : less a b = true ↔ a.rule < b.rule ∨ a.rule = b.rule ∧ a.dot < b.dot := by simp [less]
theorem eq_of {a b : Itm} (h1 : a.rule = b.rule) (h2 : a.dot = b.dot) : a = b := by cases a; cases b; simp_all
theorem less_irrefl (a : Itm) : less a a = false := by simp [less]
theorem less_trans {a b c : Itm} (h : less a b = true) (k : less b c = true) : less a c = true := by
  rw [less_iff] at *; omega
theorem less_asymm {a b : Itm} (h : less a b = true) : less b a = false := by
  cases hb : less b a with
  | false => rfl
  | true => rw [less_iff] at *; omega
theorem less_or {a b : Itm} (h : a ≠ b) : less a b = true ∨ less b a = true := by
  rw [less_iff, less_iff]
  by_cases h1 : a.rule = b.rule
  · by_cases h2 : a.dot = b.dot
    · exact (h (eq_of h1 h2)).elim
    · omega
  · omega
/-- Rising. -/
def Asc (l : List Itm) : Prop := l.Pairwise fun a b => less a b = true
theorem asc_unique : ∀ {l m : List Itm}, Asc l → Asc m → (∀ x, x ∈ l ↔ x ∈ m) → l = m
  | [], [], _, _, _ => rfl
  | [], y :: m, _, _, h => by have := (h y).2 List.mem_cons_self; cases this
  | x :: l, [], _, _, h => by have := (h x).1 List.mem_cons_self; cases this
  | x :: l, y :: m, hl, hm, h => by
    obtain ⟨h1, h2⟩ := List.pairwise_cons.1 hl
    obtain ⟨k1, k2⟩ := List.pairwise_cons.1 hm
    have e : x = y := by
      rcases List.mem_cons.1 ((h x).1 List.mem_cons_self) with e | hx
      · exact e
      · rcases List.mem_cons.1 ((h y).2 List.mem_cons_self) with e | hy
        · exact e.symm
        · have := less_asymm (h1 y hy)
          rw [k1 x hx] at this
          cases this
    subst e
    congr 1
    refine asc_unique h2 k2 (fun z => ⟨fun hz => ?_, fun hz => ?_⟩)
    · rcases List.mem_cons.1 ((h z).1 (List.mem_cons_of_mem _ hz)) with e | hz'
      · subst e
        have := h1 z hz
        rw [less_irrefl] at this
        cases this
      · exact hz'
    · rcases List.mem_cons.1 ((h z).2 (List.mem_cons_of_mem _ hz)) with e | hz'
      · subst e
        have := k1 z hz
        rw [less_irrefl] at this
        cases this
      · exact hz'
theorem asc_nodup {l : List Itm} (h : Asc l) : l.Nodup := h.imp (fun h e => by subst e; rw [less_irrefl] at h; cases h)
/-- An item more, if it is not there. -/
def put : List Itm → Itm → List Itm
  | [], x => [x]
  | y :: l, x => if less y x = true then y :: put l x else if y = x then y :: l else x :: y :: l
theorem mem_put {x y : Itm} : ∀ {l : List Itm}, y ∈ put l x ↔ y = x ∨ y ∈ l
  | [] => by simp [put]
  | z :: l => by
    rw [put]
    split
    · rw [List.mem_cons, mem_put, List.mem_cons]
      exact ⟨fun h => h.elim (fun h => .inr (.inl h)) (fun h => h.elim .inl (fun h => .inr (.inr h))), fun h => h.elim (fun h => .inr (.inl h)) (fun h => h.elim .inl (fun h => .inr (.inr h)))⟩
    · split
      · rename_i e
        subst e
        simp
      · simp
theorem put_asc {x : Itm} : ∀ {l : List Itm}, Asc l → Asc (put l x)
  | [], _ => List.pairwise_singleton _ _
  | y :: l, h => by
    obtain ⟨h1, h2⟩ := List.pairwise_cons.1 h
    rw [put]
    split
    · rename_i hy
      refine List.pairwise_cons.2 ⟨fun z hz => ?_, put_asc h2⟩
      rcases mem_put.1 hz with e | hz
      · subst e; exact hy
      · exact h1 z hz
    · rename_i hy
      split
      · exact h
      · rename_i hne
        have hxy : less x y = true := (less_or (Ne.symm hne)).resolve_right (by simpa using hy)
        refine List.pairwise_cons.2 ⟨fun z hz => ?_, h⟩
        rcases List.mem_cons.1 hz with e | hz
        · subst e; exact hxy
        · exact less_trans hxy (h1 z hz)
theorem put_length_le (x : Itm) : ∀ (l : List Itm), (put l x).length ≤ l.length + 1
  | [] => by simp [put]
  | y :: l => by
    have := put_length_le x l
    rw [put]
    split
    · simp only [List.length_cons]; omega
    · split <;> simp
theorem length_le_put (x : Itm) : ∀ (l : List Itm), l.length ≤ (put l x).length
  | [] => by simp
  | y :: l => by
    have := length_le_put x l
    rw [put]
    split
    · simp only [List.length_cons]; omega
    · split <;> simp
/-- Where a list is cut. -/
theorem put_at {x : Itm} : ∀ {l : List Itm} {k : Nat}, k ≤ l.length → (∀ j y, j < k → l[j]? = some y → less y x = true) → (∀ y, l[k]? = some y → less y x = false) →
    put l x = if l[k]? = some x then l else l.take k ++ x :: l.drop k
  | [], 0, _, _, _ => by simp [put]
  | [], k + 1, h, _, _ => by simp at h
  | y :: l, 0, _, _, h2 => by
    have := h2 y rfl
    rw [put, this]
    by_cases e : y = x
    · simp [e]
    · simp [e]
  | y :: l, k + 1, hk, h1, h2 => by
    have hy := h1 0 y (by omega) rfl
    have ih := put_at (x := x) (l := l) (k := k) (by simpa using hk) (fun j z hj hz => h1 (j + 1) z (by omega) (by simpa using hz)) (fun z hz => h2 z (by simpa using hz))
    rw [put, if_pos hy, ih]
    simp only [List.getElem?_cons_succ, List.take_succ_cons, List.drop_succ_cons]
    split <;> simp
def puts (l : List Itm) : List Itm := l.foldl put []
theorem foldl_put {l o : List Itm} : (∀ x, x ∈ l.foldl put o ↔ x ∈ o ∨ x ∈ l) ∧ (Asc o → Asc (l.foldl put o)) := by
  induction l generalizing o with
  | nil => exact ⟨by simp, fun h => h⟩
  | cons y l ih =>
    rw [List.foldl_cons]
    refine ⟨fun x => ?_, fun h => ih.2 (put_asc h)⟩
    rw [ih.1, mem_put, List.mem_cons]
    exact ⟨fun h => h.elim (fun h => h.elim (fun h => .inr (.inl h)) .inl) (fun h => .inr (.inr h)), fun h => h.elim (fun h => .inl (.inr h)) (fun h => h.elim (fun h => .inl (.inl h)) .inr)⟩
theorem mem_puts {l : List Itm} {x : Itm} : x ∈ puts l ↔ x ∈ l := by rw [puts, foldl_put.1]; simp
theorem puts_asc (l : List Itm) : Asc (puts l) := foldl_put.2 List.Pairwise.nil
/-- Of runs of equals, one. -/
def compact : List Itm → List Itm
  | [] => []
  | [x] => [x]
  | x :: y :: l => if x = y then compact (y :: l) else x :: compact (y :: l)
theorem mem_compact {x : Itm} : ∀ {l : List Itm}, x ∈ compact l ↔ x ∈ l
  | [] => by simp [compact]
  | [y] => by simp [compact]
  | y :: z :: l => by
    have ih := mem_compact (x := x) (l := z :: l)
    rw [compact]
    split
    · rename_i e
      subst e
      rw [ih]
      simp
    · rw [List.mem_cons, ih, List.mem_cons, List.mem_cons, List.mem_cons]
theorem compact_head {x : Itm} : ∀ {l : List Itm}, ∃ m, compact (x :: l) = x :: m
  | [] => ⟨[], rfl⟩
  | z :: l => by
    rw [compact]
    split
    · rename_i e
      subst e
      exact compact_head
    · exact ⟨_, rfl⟩
def Le (a b : Itm) : Prop := less b a = false
theorem compact_asc : ∀ {l : List Itm}, l.Pairwise Le → Asc (compact l)
  | [], _ => List.Pairwise.nil
  | [y], _ => List.pairwise_singleton _ _
  | y :: z :: l, h => by
    obtain ⟨h1, h2⟩ := List.pairwise_cons.1 h
    have ih := compact_asc h2
    rw [compact]
    split
    · exact ih
    · rename_i hne
      have hyz : less y z = true := (less_or hne).resolve_right (by have := h1 z List.mem_cons_self; rw [Le] at this; simp [this])
      refine List.pairwise_cons.2 ⟨fun x hx => ?_, ih⟩
      rcases List.mem_cons.1 (mem_compact.1 hx) with e | hx
      · subst e; exact hyz
      · obtain ⟨k1, _⟩ := List.pairwise_cons.1 h2
        have hzx := k1 x hx
        rw [Le] at hzx
        by_cases e : x = z
        · subst e; exact hyz
        · exact less_trans hyz ((less_or (Ne.symm e)).resolve_right (by simp [hzx]))
/-- Sorted, each once. -/
def tidy (l : List Itm) : List Itm := compact (l.mergeSort fun a b => !less b a)
theorem tidy_eq (l : List Itm) : tidy l = puts l := by
  refine asc_unique (compact_asc ?_) (puts_asc l) (fun x => ?_)
  · have := List.pairwise_mergeSort (le := fun a b => !less b a) (fun a b c h1 h2 => by
      simp only [Bool.not_eq_true'] at h1 h2 ⊢
      cases h : less c a with
      | false => rfl
      | true =>
        rcases Decidable.em (a = b) with e | e
        · subst e; rw [h] at h2; cases h2
        · have h3 := (less_or e).resolve_right (by simp [h1])
          have h4 := less_trans h h3
          rw [h4] at h2; cases h2) (fun a b => by
      cases h : less b a with
      | false => rfl
      | true => simp [less_asymm h]) l
    exact this.imp (fun h => by simpa [Le] using h)
  · rw [tidy, mem_compact, List.mem_mergeSort, mem_puts]
theorem puts_self {l : List Itm} (h : Asc l) : puts l = l := asc_unique (puts_asc l) h (fun _ => mem_puts)
end Itm
namespace Gram
def iright (g : Gram) (x : Itm) : Bool := (g.rule x.rule).1 && decide (0 ≤ x.dot ∧ x.dot ≤ (g.rule x.rule).2.right.length)
def ibehind (g : Gram) (x : Itm) : Int × Bool := if (g.rule x.rule).1 = true ∧ 0 ≤ x.dot ∧ x.dot < (g.rule x.rule).2.right.length then ((g.rule x.rule).2.right[x.dot.toNat]?.getD 0, true) else (0, false)
theorem ibehind_right {g : Gram} {x : Itm} (h : (g.ibehind x).2 = true) : g.iright x = true := by
  rw [ibehind] at h
  split at h
  · rename_i hx
    simp [iright, hx.1]
    omega
  · cases h
/-- What comes with some items. -/
inductive Reach (g : Gram) (l : List Itm) : Itm → Prop
  | base {x : Itm} : x ∈ l → g.iright x = true → Reach g l x
  | step {x : Itm} {k : Int} : Reach g l x → (g.ibehind x).2 = true → k ∈ g.of (g.ibehind x).1 → Reach g l ⟨k, 0⟩
/-- The closed list of some items. -/
def IsClose (g : Gram) (l out : List Itm) : Prop := Itm.Asc out ∧ ∀ x, x ∈ out ↔ Reach g l x
theorem IsClose.unique {g : Gram} {l a b : List Itm} (h : IsClose g l a) (k : IsClose g l b) : a = b := Itm.asc_unique h.1 k.1 (fun x => (h.2 x).trans (k.2 x).symm)
def isteps (g : Gram) (l : List Itm) (s : Int) : List Itm := l.filterMap fun x => if g.ibehind x = (s, true) then some ⟨x.rule, x.dot + 1⟩ else none
def ikernel (g : Gram) (l : List Itm) : List Itm := l.filter fun x => g.iright x && (decide (0 < x.dot) || decide (x.rule = g.rules.length))
end Gram
theorem of_right {g : Gram} {s k : Int} (h : k ∈ g.of s) : g.iright ⟨k, 0⟩ = true := by
  have := ofFrom_lt s g.rules 0 k h
  have h1 : ¬ (k < 0 ∨ k > g.rules.length) := by omega
  have h2 : ¬ (k = g.rules.length) := by omega
  simp [Gram.iright, Gram.rule, h1, h2]
theorem Gram.Reach.right {g : Gram} {l : List Itm} {x : Itm} (h : g.Reach l x) : g.iright x = true := by
  cases h with
  | base _ h => exact h
  | step _ _ h => exact of_right h
end Go.Proofs.YtbadjlhijbkbbaaGreat

/-
  Items in memory; two items held one against the other.
-/
set_option linter.unusedVariables false
namespace Go.Proofs.YtbadjlhijbkbbaaGreat
open Go Go.RowKit Sx
variable {S S' : Nat → Prop} {w w' : World}
abbrev tItm : Ty Itm := (tI.prod tI).via fun x => (x.rule, x.dot)
theorem tItm_open {x : Itm} {cs : List Value} (h : tItm.rd S w x cs) : cs = [.int .i64 x.rule, .int .i64 x.dot] ∧ I64 x.rule ∧ I64 x.dot := by
  obtain ⟨_, _, rfl, ⟨rfl, h1⟩, rfl, h2⟩ := h
  exact ⟨rfl, h1.i64, h2.i64⟩
theorem tItm_mk {x : Itm} (h1 : I64 x.rule) (h2 : I64 x.dot) : tItm.rd S w x [.int .i64 x.rule, .int .i64 x.dot] := ⟨[_], _, rfl, ⟨rfl, Ty.InK.of64 h1⟩, rfl, Ty.InK.of64 h2⟩
/-- An item, as a value. -/
abbrev vItm (x : Itm) : Value := .agg #[.int .i64 x.rule, .int .i64 x.dot]
theorem infoItm : (Tryz.prog.info? 73).map (fun i => (i.zero, i.size, i.bytes)) = some (some (.agg #[.int .i64 0, .int .i64 0]), 2, 16) := by kernel_rfl
theorem run_eqItm (a b c d : Int) (w : World) : (Op.equalIn 10000 73 (.agg #[.int .i64 a, .int .i64 b]) (.agg #[.int .i64 c, .int .i64 d])).run Tryz.prog w = .ok (decide (a = c ∧ b = d)) w := by
  have hs : Tryz.prog.stoodInHeld 73 = false := by kernel_rfl
  have ht : Tryz.prog.underlying 73 = some (.struct (Tryz.prog.fieldsOf 73)) := by rw [Program.fieldsOf, Tryz.underlying73]
  have ha : ∀ w, (isAgg 3).run Tryz.prog w = .ok false w := Tryz.isAgg3
  have h1 : ∀ x y : Int, (Op.equalIn 9999 3 (.int .i64 x) (.int .i64 y)).run Tryz.prog w = .ok (x == y) w := fun x y => run_equalIn_int w 9998 3 .i64 .i64 x y Tryz.underlying3
  rw [show (10000 : Nat) = 9999 + 1 from rfl, run_equalIn_struct w 9999 73 _ _ ht hs, Program.fieldsOf, Tryz.underlying73]
  by_cases e1 : a = c
  · by_cases e2 : b = d
    · simp [Op.eqFields, part, ha, h1, e1, e2]
    · simp [Op.eqFields, part, ha, h1, e1, e2]
  · simp [Op.eqFields, part, ha, h1, e1]
section
variable {Q : Exit → Act → World → Prop} {N : Nat} {σ : Sl} {w : World} {K : Value → World → Prop}
variable {d : Option Tmp} {ty : TypeId} {ps : String} {af : Array Edge} {gd : Option (Nat × Bool)}
theorem itm_eq {x y : Itm} : (x.rule = y.rule ∧ x.dot = y.dot) ↔ x = y := ⟨fun h => Itm.eq_of h.1 h.2, fun h => by subst h; exact ⟨rfl, rfl⟩⟩
theorem Wop.eqlItm {t' : TypeId} {p q : Operand} {x y : Itm} (hx : Sx.look σ p = some (vItm x)) (hy : Sx.look σ q = some (vItm y)) (hk : K (.bool (decide (x = y))) w) : Wop Tryz.prog Q N ⟨d, .binOp .eql 73 p q t', ty, ps, af, gd⟩ σ w K :=
  Wop.val (v := .bool (decide (x = y))) (fun ρ h => by
    have hg : Tryz.prog.eqGuardType Tryz.prog.depth 73 = false := by kernel_rfl
    have h1 := run_eqGuard_agg w (P := Tryz.prog) .eql 73 p q #[.int .i64 x.rule, .int .i64 x.dot] #[.int .i64 y.rule, .int .i64 y.dot] hg
    have h2 := run_eql_struct (P := Tryz.prog) w 73 #[.int .i64 x.rule, .int .i64 x.dot] #[.int .i64 y.rule, .int .i64 y.dot]
    rw [run_eqItm] at h2
    simp [execOp, h p _ hx, h q _ hy, h1, h2, itm_eq]) hk
theorem Wop.neqItm {t' : TypeId} {p q : Operand} {x y : Itm} (hx : Sx.look σ p = some (vItm x)) (hy : Sx.look σ q = some (vItm y)) (hk : K (.bool (decide (x ≠ y))) w) : Wop Tryz.prog Q N ⟨d, .binOp .neq 73 p q t', ty, ps, af, gd⟩ σ w K :=
  Wop.val (v := .bool (decide (x ≠ y))) (fun ρ h => by
    have hg : Tryz.prog.eqGuardType Tryz.prog.depth 73 = false := by kernel_rfl
    have h1 := run_eqGuard_agg w (P := Tryz.prog) .neq 73 p q #[.int .i64 x.rule, .int .i64 x.dot] #[.int .i64 y.rule, .int .i64 y.dot] hg
    have h2 := run_neq_struct (P := Tryz.prog) w 73 #[.int .i64 x.rule, .int .i64 x.dot] #[.int .i64 y.rule, .int .i64 y.dot]
    rw [run_eqItm] at h2
    simp [execOp, h p _ hx, h q _ hy, h1, h2, itm_eq]) hk
end
end Go.Proofs.YtbadjlhijbkbbaaGreat

/-
  The reference's small functions on items.
-/
set_option linter.unusedVariables false
namespace Go.Proofs.YtbadjlhijbkbbaaGreat
open Go Go.RowKit Sx
variable {S S' : Nat → Prop} {w w' : World} {g : Gram} {A B A0 A1 A2 : Option Addr} {n m c c' c0 c1 c2 : Nat}
theorem rLess (x y : Itm) : Calls Tryz.prog 157 [vItm x, vItm y].toArray w (Ret fun v w' => v = .bool (Itm.less x y) ∧ Ext w w') := by
  refine enter Tryz.func157 rfl Tryz.ntmps157 rfl ?_
  refine wk ?_
  refine Wop.box rfl (fun w1 e1 b1 z1 => ?_)
  refine wk ?_
  refine Wop.box rfl (fun w2 e2 b2 z2 => ?_)
  have e12 := e1.trans e2
  refine wk ?_
  refine Wl.part rfl rfl rfl (fun p => ?_) (fun p => ?_)
  · refine wk ?_
    exact Arr.ret1 rfl rfl ⟨by rw [Itm.less, decide_eq_true (.inl p)], e12⟩
  · refine wk ?_
    refine Wl.part rfl rfl rfl (fun q => ?_) (fun q => ?_)
    · refine wk ?_
      refine Arr.ret1 rfl rfl ⟨?_, e12⟩
      rw [Itm.less]
      simp [q]
    · refine wk ?_
      refine Arr.ret1 rfl rfl ⟨?_, e12⟩
      rw [Itm.less]
      simp [p, q]
theorem rSameI {xs ys : List Itm} (hx : tItm.Row S w A n xs) (hy : tItm.Row S' w B m ys) : Calls Tryz.prog 52 [.slice A n c, .slice B m c'].toArray w (Ret fun v w' => v = .bool (decide (xs = ys)) ∧ Ext w w') := by
  have hl := hx.1
  have hm := hx.2.1
  have hl' := hy.1
  have hm' := hy.2.1
  refine enter Tryz.func52 rfl Tryz.ntmps52 rfl ?_
  refine wk ?_
  refine W.test rfl (fun hne => ?_) (fun heq => ?_)
  · refine wk ?_
    refine Arr.ret1 rfl rfl ⟨?_, Ext.refl w⟩
    rw [decide_eq_false]
    intro h
    rw [h] at hl
    omega
  · refine wk ?_
    refine W.loop (ι := Nat) (fun i => [(0, .slice A n c), (1, .slice B m c'), (5, .int .i64 (i : Int))])
      (fun i w' => Ext w w' ∧ i ≤ n ∧ ∀ j (h1 : j < xs.length) (h2 : j < ys.length), j < i → xs[j] = ys[j]) (fun i => n - i) 0 has ⟨Ext.refl w, Nat.zero_le _, fun j _ _ hj => absurd hj (Nat.not_lt_zero j)⟩ ?_
    rintro i w1 ⟨hE, hi, hp⟩
    refine wk ?_
    refine Wl.part rfl rfl rfl (fun p1 => ?_) (fun p1 => ?_)
    · refine wk ?_
      refine W.test rfl (fun p2 => ?_) (fun p2 => ?_)
      · have hlt : i < n := by omega
        obtain ⟨b, o, rfl, es, hrd, hc⟩ := (hx.ext (by decide) hE).at_ i (by omega)
        obtain ⟨b', o', rfl, es', hrd', hc'⟩ := (hy.ext (by decide) hE).at_ i (by omega)
        obtain ⟨rfl, _, _⟩ := tItm_open hrd
        obtain ⟨rfl, _, _⟩ := tItm_open hrd'
        have hcs : ∀ (k : Nat) (u : Value), [Value.int .i64 xs[i].rule, .int .i64 xs[i].dot][k]? = some u → w1.cell? ⟨b, o + i * 2 + k, none⟩ = some u := hc
        have hcs' : ∀ (k : Nat) (u : Value), [Value.int .i64 ys[i].rule, .int .i64 ys[i].dot][k]? = some u → w1.cell? ⟨b', o' + i * 2 + k, none⟩ = some u := hc'
        refine wk ?_
        refine W.any Ext [.eq _, .eq _, .eq _, .eq _, .eq _, .eq _, .eq _, .eq _, .eq _] [8] mixed rfl Ext.refl Ext.trans Ext.drew ⟨qs, qs, qs, qs, qs, qs, qs, qs, by intro w_ hG; (repeat (intro v_ hv_; cases hv_)); refine WopG.plain rfl (Wop.neqItm (x := xs[i]) (y := ys[i]) rfl rfl ?_); refine ⟨Ext.refl _, ?_⟩; show _ = _; exact rfl, trivial⟩ ?_
        rintro wq eq_ _ ⟨⟩
        refine wk ?_
        refine W.test rfl (fun hd => ?_) (fun hs => ?_)
        · refine wk ?_
          refine Arr.ret1 rfl rfl ⟨?_, hE.trans eq_⟩
          rw [decide_eq_false]
          intro h
          subst h
          exact hd rfl
        · refine wk ?_
          refine Arr.again (i + 1) has ⟨hE.trans eq_, hlt, ?_⟩ (by omega)
          intro j g1 g2 hj
          rcases Nat.lt_or_ge j i with h | h
          · exact hp j g1 g2 h
          · obtain rfl : j = i := by omega
            exact Decidable.not_not.1 hs
      · omega
    · refine wk ?_
      refine Arr.ret1 rfl rfl ⟨?_, hE⟩
      rw [decide_eq_true]
      exact List.ext_getElem (by omega) (fun j g1 g2 => hp j g1 g2 (by omega))
end Go.Proofs.YtbadjlhijbkbbaaGreat

/-
  Is an item right, what is behind its dot, where it begins: the reference's and the program's.
-/
set_option linter.unusedVariables false
namespace Go.Proofs.YtbadjlhijbkbbaaGreat
open Go Go.RowKit Sx
variable {S S' : Nat → Prop} {w w' : World} {g : Gram} {A B A0 A1 A2 : Option Addr} {n m c c' c0 c1 c2 : Nat}
set_option maxHeartbeats 1000000 in
theorem rRightI (hg : GramAt S w g A0 A1 A2 c0 c1 c2) (x : Itm) : Calls Tryz.prog 51 [.agg (gcells g A0 A1 A2 c0 c1 c2).toArray, vItm x].toArray w (Ret fun v w' => v = .bool (g.iright x) ∧ Ext w w') := by
  refine enter Tryz.func51 rfl Tryz.ntmps51 rfl ?_
  refine wk ?_
  refine Wop.box rfl (fun w1 e1 b1 z1 => ?_)
  refine wk ?_
  refine Wop.box rfl (fun w2 e2 b2 z2 => ?_)
  have e12 := e1.trans e2
  refine wk ?_
  refine Wop.fn en108 rfl (rRule (hg.ext e12) x.rule) ?_
  rintro _ w3 ⟨⟨u, rfl, AR, cR, rfl, hcR, hlR, hrR⟩, e3⟩
  have e23 := e2.trans e3
  have hm := hrR.2.1
  refine wk ?_
  refine Wop.alloc (z := .agg #[.int .i64 0, .slice none 0 0]) Tryz.zeroValue93 (fun w4 e4 b4 z4 => ?_)
  refine wk ?_
  refine Wop.stB TT rfl rfl rfl (by simp [Value.oneCell']) b4 rfl (fun w5 g5 b5 z5 k5 => ?_)
  have e35 : Ext w3 w5 := Below.trans e4 g5
  have E5 := e12.trans (e3.trans e35)
  have b2' := b2.ext (e3.trans e35)
  unfold Gram.iright
  cases hok : (g.rule x.rule).1 with
  | false =>
    refine wk ?_
    exact Arr.ret1 rfl rfl ⟨by simp, E5⟩
  | true =>
    refine wk ?_
    refine Wl.part rfl rfl rfl (fun p => ?_) (fun p => ?_)
    · refine wk ?_
      exact Arr.ret1 rfl rfl ⟨by simp [p], E5⟩
    · refine wk ?_
      exact Arr.ret1 rfl rfl ⟨by simp [p], E5⟩
set_option maxHeartbeats 1000000 in
theorem gRightI (hg : GramAt S w g A0 A1 A2 c0 c1 c2) (x : Itm) : Calls Tryz.prog 103 [.agg (gcells g A0 A1 A2 c0 c1 c2).toArray, vItm x].toArray w (Ret fun v w' => v = .bool (g.iright x) ∧ Ext w w') := by
  refine enter Tryz.func103 rfl Tryz.ntmps103 rfl ?_
  refine wk ?_
  refine Wop.box rfl (fun w1 e1 b1 z1 => ?_)
  refine wk ?_
  refine Wop.box rfl (fun w2 e2 b2 z2 => ?_)
  have e12 := e1.trans e2
  refine wk ?_
  refine Wop.fn en152 rfl (gRule (hg.ext e12) x.rule) ?_
  rintro _ w3 ⟨⟨u, rfl, AR, cR, rfl, hcR, hlR, hrR⟩, e3⟩
  have e23 := e2.trans e3
  have hm := hrR.2.1
  refine wk ?_
  refine Wop.alloc (z := .agg #[.int .i64 0, .slice none 0 0]) Tryz.zeroValue93 (fun w4 e4 b4 z4 => ?_)
  refine wk ?_
  refine Wop.stB TT rfl rfl rfl (by simp [Value.oneCell']) b4 rfl (fun w5 g5 b5 z5 k5 => ?_)
  have e35 : Ext w3 w5 := Below.trans e4 g5
  have E5 := e12.trans (e3.trans e35)
  have b2' := b2.ext (e3.trans e35)
  unfold Gram.iright
  cases hok : (g.rule x.rule).1 with
  | false =>
    refine wk ?_
    exact Arr.ret1 rfl rfl ⟨by simp, E5⟩
  | true =>
    refine wk ?_
    refine Wl.part rfl rfl rfl (fun p => ?_) (fun p => ?_)
    · refine wk ?_
      exact Arr.ret1 rfl rfl ⟨by simp [p], E5⟩
    · refine wk ?_
      exact Arr.ret1 rfl rfl ⟨by simp [p], E5⟩
set_option maxHeartbeats 1000000 in
theorem rBehindI (hg : GramAt S w g A0 A1 A2 c0 c1 c2) (x : Itm) : Calls Tryz.prog 50 [.agg (gcells g A0 A1 A2 c0 c1 c2).toArray, vItm x].toArray w (Ret fun v w' => v = .tuple #[.int .i64 (g.ibehind x).1, .bool (g.ibehind x).2] ∧ Ext w w') := by
  refine enter Tryz.func50 rfl Tryz.ntmps50 rfl ?_
  refine wk ?_
  refine Wop.box rfl (fun w1 e1 b1 z1 => ?_)
  refine wk ?_
  refine Wop.box rfl (fun w2 e2 b2 z2 => ?_)
  have e12 := e1.trans e2
  refine wk ?_
  refine Wop.fn en108 rfl (rRule (hg.ext e12) x.rule) ?_
  rintro _ w3 ⟨⟨u, rfl, AR, cR, rfl, hcR, hlR, hrR⟩, e3⟩
  have hm := hrR.2.1
  refine wk ?_
  refine Wop.alloc (z := .agg #[.int .i64 0, .slice none 0 0]) Tryz.zeroValue93 (fun w4 e4 b4 z4 => ?_)
  refine wk ?_
  refine Wop.stB TT rfl rfl rfl (by simp [Value.oneCell']) b4 rfl (fun w5 g5 b5 z5 k5 => ?_)
  have e35 : Ext w3 w5 := Below.trans e4 g5
  have E5 := e12.trans (e3.trans e35)
  have b2' := b2.ext (e3.trans e35)
  have b1' := b1.ext (e2.trans (e3.trans e35))
  have hr5 := hrR.ext (by decide) e35
  refine wk ?_
  refine Wop.fn en51 rfl (rRightI (hg.ext E5) x) ?_
  rintro _ w6 ⟨rfl, e6⟩
  have b26 := b2'.ext e6
  have b56 := b5.ext e6
  have E6 := E5.trans e6
  unfold Gram.ibehind
  cases hir : g.iright x with
  | false =>
    refine wk ?_
    refine Arr.ret2 rfl rfl rfl ⟨?_, E6⟩
    rw [if_neg]
    rintro ⟨h1, h2⟩
    simp [Gram.iright, h1] at hir
    omega
  | true =>
    simp only [Gram.iright, Bool.and_eq_true, decide_eq_true_eq] at hir
    refine wk ?_
    refine W.test rfl (fun p => ?_) (fun p => ?_)
    · refine wk ?_
      refine Arr.ret2 rfl rfl rfl ⟨?_, E6⟩
      rw [if_neg (by omega)]
    · obtain ⟨b, o, rfl, es, ⟨rfl, hI⟩, hcc⟩ := (hr5.ext (by decide) e6).at_ x.dot.toNat (by omega)
      have hcell := hcc 0 _ rfl
      refine wk ?_
      refine Wop.ixI TT x.dot.toNat rfl rfl rfl rfl rfl (by omega) (by omega) ?_
      refine wk ?_
      refine Arr.ret2 rfl rfl rfl ⟨?_, E6⟩
      rw [if_pos ⟨hir.1, by omega, by omega⟩, List.getElem?_eq_getElem (by omega)]
      rfl
set_option maxHeartbeats 1000000 in
theorem gBehindI (hg : GramAt S w g A0 A1 A2 c0 c1 c2) (x : Itm) : Calls Tryz.prog 102 [.agg (gcells g A0 A1 A2 c0 c1 c2).toArray, vItm x].toArray w (Ret fun v w' => v = .tuple #[.int .i64 (g.ibehind x).1, .bool (g.ibehind x).2] ∧ Ext w w') := by
  refine enter Tryz.func102 rfl Tryz.ntmps102 rfl ?_
  refine wk ?_
  refine Wop.box rfl (fun w1 e1 b1 z1 => ?_)
  refine wk ?_
  refine Wop.box rfl (fun w2 e2 b2 z2 => ?_)
  have e12 := e1.trans e2
  refine wk ?_
  refine Wop.fn en152 rfl (gRule (hg.ext e12) x.rule) ?_
  rintro _ w3 ⟨⟨u, rfl, AR, cR, rfl, hcR, hlR, hrR⟩, e3⟩
  have hm := hrR.2.1
  refine wk ?_
  refine Wop.alloc (z := .agg #[.int .i64 0, .slice none 0 0]) Tryz.zeroValue93 (fun w4 e4 b4 z4 => ?_)
  refine wk ?_
  refine Wop.stB TT rfl rfl rfl (by simp [Value.oneCell']) b4 rfl (fun w5 g5 b5 z5 k5 => ?_)
  have e35 : Ext w3 w5 := Below.trans e4 g5
  have E5 := e12.trans (e3.trans e35)
  have b2' := b2.ext (e3.trans e35)
  have hr5 := hrR.ext (by decide) e35
  unfold Gram.ibehind
  cases hok : (g.rule x.rule).1 with
  | false =>
    refine wk ?_
    refine Arr.ret2 rfl rfl rfl ⟨?_, E5⟩
    rw [if_neg (by simp)]
  | true =>
    refine wk ?_
    refine Wl.part rfl rfl rfl (fun p => ?_) (fun p => ?_)
    · refine wk ?_
      refine Arr.ret2 rfl rfl rfl ⟨?_, E5⟩
      rw [if_neg (by omega)]
    · refine wk ?_
      refine W.test rfl (fun q => ?_) (fun q => ?_)
      · refine wk ?_
        refine Arr.ret2 rfl rfl rfl ⟨?_, E5⟩
        rw [if_neg (by omega)]
      · obtain ⟨b, o, rfl, es, ⟨rfl, hI⟩, hcc⟩ := hr5.at_ x.dot.toNat (by omega)
        have hcell := hcc 0 _ rfl
        refine wk ?_
        refine Wop.ixI TT x.dot.toNat rfl rfl rfl rfl rfl (by omega) (by omega) ?_
        refine wk ?_
        refine Arr.ret2 rfl rfl rfl ⟨?_, E5⟩
        rw [if_pos ⟨rfl, by omega, by omega⟩, List.getElem?_eq_getElem (by omega)]
        rfl
/-- A row of the call's own of items. -/
abbrev OwnT (w : World) (base : Nat) (v : Value) (xs : List Itm) : Prop := OwnM tItm (fun _ => False) w base 73 v xs
theorem OwnT.row {base : Nat} {v : Value} {xs : List Itm} (h : OwnT w base v xs) (hm : xs.length ≤ 1099511627776) : ∃ A c, v = .slice A xs.length c ∧ xs.length ≤ c ∧ tItm.Row (fun k => base ≤ k ∧ k < w.heap.size) w A xs.length xs :=
  OwnM.row h hm (fun k hk => hk.elim) (fun k hk => h.lt k hk)
theorem OwnT.lit {base b : Nat} {x : Itm} (hb : Blk w b #[.int .i64 x.rule, .int .i64 x.dot] 73) (h : base ≤ b) (h1 : I64 x.rule) (h2 : I64 x.dot) : OwnT w base (.slice (some ⟨b, 0, none⟩) 1 1) [x] :=
  ⟨[.int .i64 x.rule, .int .i64 x.dot], ⟨rfl, .inr ⟨b, 1, _, rfl, h, hb, Nat.le_refl _, by simp [maxLen], rfl, rfl⟩⟩, _, [], rfl, tItm_mk h1 h2, rfl⟩
theorem OwnT.lit0 {base b : Nat} (hb : Blk w b #[] 73) (h : base ≤ b) : OwnT w base (.slice (some ⟨b, 0, none⟩) 0 0) [] :=
  ⟨[], ⟨rfl, .inr ⟨b, 0, _, rfl, h, hb, Nat.le_refl _, by simp [maxLen], rfl, rfl⟩⟩, rfl⟩
theorem OwnM.lower {α : Type} {D : Ty α} {e : TypeId} {base base' : Nat} {v : Value} {xs : List α} (h : OwnM D S w base e v xs) (hb : base' ≤ base) : OwnM D S w base' e v xs := by
  obtain ⟨cs, ⟨h1, h2⟩, h3⟩ := h
  refine ⟨cs, ⟨h1, ?_⟩, h3⟩
  rcases h2 with h2 | ⟨g, cap, cur, hv, hg, r⟩
  · exact .inl h2
  · exact .inr ⟨g, cap, cur, hv, Nat.le_trans hb hg, r⟩
theorem rBeginI (hg : GramAt S w g A0 A1 A2 c0 c1 c2) : Calls Tryz.prog 53 [.agg (gcells g A0 A1 A2 c0 c1 c2).toArray].toArray w (Ret fun v w' => OwnT w' w.heap.size v [⟨g.rules.length, 0⟩] ∧ Ext w w') := by
  have hm := hg.rules.2.1
  refine enter Tryz.func53 rfl Tryz.ntmps53 rfl ?_
  refine wk ?_
  refine Wop.box rfl (fun w1 e1 b1 z1 => ?_)
  refine wk ?_
  refine Wop.make (cs := #[.int .i64 (g.rules.length : Int), .int .i64 0]) pl73 rfl rfl ?_
  refine wk ?_
  refine Wop.buildSlice (cs := #[.int .i64 (g.rules.length : Int), .int .i64 0]) TT rfl rfl rfl Tryz.zeroValue73 rfl rfl rfl rfl (fun w2 e2 b2 z2 => ?_)
  refine wk ?_
  exact Arr.ret1 rfl rfl ⟨OwnT.lit (x := ⟨g.rules.length, 0⟩) b2 e1.size ⟨by show (_ : Int) ≤ (g.rules.length : Int); omega, by show (g.rules.length : Int) ≤ _; omega⟩ ⟨by show (_ : Int) ≤ 0; omega, by show (0 : Int) ≤ _; omega⟩, e1.trans e2⟩
end Go.Proofs.YtbadjlhijbkbbaaGreat

/-
  x[l:], and append(v, row ..) of elements of several cells.
-/
set_option linter.unusedVariables false
namespace Go.Proofs.YtbadjlhijbkbbaaGreat.Sx
open Go Go.RowKit
section
variable {P : Program} {Q : Exit → Act → World → Prop} {N : Nat} {σ : Sl} {w : World} {K : Value → World → Prop}
variable {d : Option Tmp} {ty : TypeId} {ps : String} {af : Array Edge} {gd : Option (Nat × Bool)}
/-- The place of x[l:]. -/
def fromA (A : Option Addr) (l c sz : Nat) : Option Addr := if c = l then A else A.map fun a => a.add (l * sz)
/-- x[l:] -/
theorem Wop.sliceFrom (T : Tab P) {t e sz : Nat} {x y : Operand} {A : Option Addr} {n c l : Nat} {m : Int} (ht : nth T.kinds t = some 1) (he : nth T.elems t = some e) (hs : nth T.sizes e = some sz) (hx : look σ x = some (.slice A n c)) (hy : look σ y = some (.int .i64 m)) (hm : m = (l : Int)) (hh : l ≤ n) (hk : K (.slice (fromA A l c sz) (n - l) (c - l)) w) :
    Wop P Q N ⟨d, .slice t x (some y) none none, ty, ps, af, gd⟩ σ w K := by
  subst hm
  refine Wop.val (fun ρ hr => ?_) hk
  have hu := T.slice t e ht he
  simp [execOp, hr x _ hx, hr y _ hy, Instr.sliceAt, Instr.slice, run_underlying hu, Instr.sliceBounds, Instr.sliceBound, asIntOf, hh, T.size e sz hs, fromA]
end
theorem Ty.Row.drop {α : Type} {D : Ty α} {S : Nat → Prop} {w : World} {A : Option Addr} {n c : Nat} {xs : List α} (h : D.Row S w A n xs) (l : Nat) (hl : l ≤ n) (hc : n ≤ c) : D.Row S w (fromA A l c D.sz) (n - l) (xs.drop l) := by
  refine ⟨by rw [List.length_drop, h.1], by have := h.2.1; omega, fun hp => ?_⟩
  obtain ⟨b, o, rfl, hb, hcc⟩ := h.2.2 (by omega)
  refine ⟨b, o + l * D.sz, ?_, hb, fun j x hx => ?_⟩
  · rw [fromA, if_neg (by omega)]
    simp [add_at]
  · rw [List.getElem?_drop] at hx
    obtain ⟨es, h1, h2⟩ := hcc (l + j) x hx
    exact ⟨es, h1, fun i v hv => by rw [show o + l * D.sz + j * D.sz + i = o + (l + j) * D.sz + i by rw [Nat.add_mul]; omega]; exact h2 i v hv⟩
/-- A row's cells, one behind the other. -/
theorem Ty.Row.toL {α : Type} {D : Ty α} {S : Nat → Prop} {w : World} {b : Nat} : ∀ {xs : List α} {o : Nat}, (∀ j x, xs[j]? = some x → ∃ es, D.rd S w x es ∧ ∀ i v, es[i]? = some v → w.cell? ⟨b, o + j * D.sz + i, none⟩ = some v) →
    ∃ cs, Ty.RowL D S w xs cs ∧ ∀ (j : Nat) (u : Value), cs[j]? = some u → w.cell? ⟨b, o + j, none⟩ = some u
  | [], o, _ => ⟨[], rfl, fun j u h => by simp at h⟩
  | x :: xs, o, h => by
    obtain ⟨es, h1, h2⟩ := h 0 x rfl
    obtain ⟨cs, h3, h4⟩ := Ty.Row.toL (xs := xs) (o := o + D.sz) (fun j y hy => by
      obtain ⟨es', g1, g2⟩ := h (j + 1) y (by simpa using hy)
      exact ⟨es', g1, fun i v hv => by rw [show o + D.sz + j * D.sz + i = o + (j + 1) * D.sz + i by rw [Nat.add_mul]; omega]; exact g2 i v hv⟩)
    have hl := D.len h1
    refine ⟨es ++ cs, ⟨es, cs, rfl, h1, h3⟩, fun j u hu => ?_⟩
    by_cases hj : j < es.length
    · rw [List.getElem?_append_left hj] at hu
      have := h2 j u hu
      rwa [Nat.zero_mul, Nat.add_zero] at this
    · rw [List.getElem?_append_right (by omega)] at hu
      have := h4 (j - es.length) u hu
      rwa [show o + D.sz + (j - es.length) = o + j by omega] at this
theorem Ty.RowL.one {α : Type} {D : Ty α} {S : Nat → Prop} {w : World} : ∀ {xs : List α} {cs : List Value}, Ty.RowL D S w xs cs → ∀ u ∈ cs, u.oneCell' = true
  | [], _, h, u, hu => by rw [show _ = [] from h] at hu; cases hu
  | _ :: _, _, ⟨es, r, rfl, h2, h3⟩, u, hu => by
    rcases List.mem_append.1 hu with hu | hu
    · exact D.one h2 u hu
    · exact Ty.RowL.one h3 u hu
theorem Ty.RowL.append {α : Type} {D : Ty α} {S : Nat → Prop} {w : World} : ∀ {xs : List α} {cs : List Value} {ys : List α} {ds : List Value}, Ty.RowL D S w xs cs → Ty.RowL D S w ys ds → Ty.RowL D S w (xs ++ ys) (cs ++ ds)
  | [], cs, _, _, h, k => by rw [show cs = [] from h]; exact k
  | _ :: _, _, _, _, ⟨es, r, rfl, h2, h3⟩, k => ⟨es, r ++ _, by simp, h2, Ty.RowL.append h3 k⟩
section
variable {P : Program} {Q : Exit → Act → World → Prop} {N : Nat} {σ : Sl} {w : World} {K : Value → World → Prop}
variable {d : Option Tmp} {ty : TypeId} {ps : String} {af : Array Edge} {gd : Option (Nat × Bool)}
/-- append(v, row ..): v a row of the call's own. -/
theorem Wop.appRowM {α : Type} {D : Ty α} {S S' : Nat → Prop} (T : Tab P) {t e : TypeId} {x y : Operand} {z v : Value} {bytes n c : Nat} {A : Option Addr} {xs ys : List α} {base : Nat} (ht : nth T.kinds t = some 1) (he : nth T.elems t = some e) (hinfo : (P.info? e).map (fun i => (i.zero, i.size, i.bytes)) = some (some z, D.sz, bytes)) (hz : z.cells.size = D.sz) (h0 : 0 < D.sz) (hb0 : 0 < bytes)
    (hx : look σ x = some v) (hy : look σ y = some (.slice A n c)) (hr : D.Row S' w A n ys) (HO : OwnM D S w base e v xs) (hbase : base ≤ w.heap.size) (hl : (xs.length + n) * bytes ≤ 140737488355328)
    (hS : ∀ k, S k → v.ownBlock ≠ some k) (hS' : ∀ k, S' k → v.ownBlock ≠ some k)
    (hk : ∀ v' w', OwnM D (fun k => (S k ∨ S' k) ∧ k < w.heap.size) w' base e v' (xs ++ ys) → Keeps (fun k => v.ownBlock ≠ some k) w w' → (v'.ownBlock = v.ownBlock ∨ v'.ownBlock = some w.heap.size) → K v' w') :
    Wop P Q N ⟨d, .call ⟨.builtin .append, #[x, y], #[t, t]⟩, ty, ps, af, gd⟩ σ w K := by
  obtain ⟨i0, hi, hzz⟩ := Option.map_eq_some_iff.1 hinfo
  simp only [Prod.mk.injEq] at hzz
  obtain ⟨hz0, hz1, hz2⟩ := hzz
  have hn := hr.1
  rcases Nat.eq_zero_or_pos n with hn0 | hp
  · subst hn0
    have hys : ys = [] := List.eq_nil_of_length_eq_zero hn
    subst hys
    obtain ⟨B, cv, rfl, hcv⟩ := HO.slice
    refine Wop.val (fun ρ h => ?_) (hk _ w (by rw [List.append_nil]; exact HO.mono (fun k hk hlt => ⟨.inl hk, hlt⟩)) (Keeps.refl _ _) (.inl rfl))
    simp [execOp, resolve, invoke, builtin, h x _ hx, h y _ hy, append_nil_run (w := w) (r := ty) (A := A) (c' := c) (T.slice t e ht he) hi (n := xs.length) (B := B) hcv]
  · obtain ⟨b, o, rfl, hb, hcc⟩ := hr.2.2 hp
    obtain ⟨cs, h1, h2⟩ := HO
    obtain ⟨ds, g1, g2⟩ := Ty.Row.toL (o := o) hcc
    have hdl := g1.length
    have hlen : xs.length + n ≤ 140737488355328 := Nat.le_trans (Nat.le_mul_of_pos_right _ hb0) hl
    obtain ⟨v1, w1, hrun, hown, hg, _, hat⟩ := run_append_own_at (P := P) w base t ty e i0 z D.sz bytes (T.slice t e ht he) hi hz0 hz1 hz2 hz h0 v xs.length cs h1 ⟨b, o, none⟩ n c ds (by rw [hdl, hn])
      (fun j u hj => by rw [add_at]; exact g2 j u hj) g1.one (by simp only [maxLen]; omega) hl hbase
    have hkk := keeps_grown hg
    refine Wop.val (fun ρ h => by simp [execOp, resolve, invoke, builtin, h x _ hx, h y _ hy, hrun]) (hk v1 w1 ⟨cs ++ ds, by rw [List.length_append, hn]; exact hown, ?_⟩ hkk hat)
    exact ((h2.under.keep hkk (fun k hk => hS k hk.1)).mono (fun k hk => ⟨.inl hk.1, hk.2⟩)).append ((g1.under.keep hkk (fun k hk => hS' k hk.1)).mono (fun k hk => ⟨.inr hk.1, hk.2⟩))
end
end Go.Proofs.YtbadjlhijbkbbaaGreat.Sx

/-
  The reference's Put.
-/
set_option linter.unusedVariables false
namespace Go.Proofs.YtbadjlhijbkbbaaGreat
open Go Go.RowKit Sx
variable {S S' : Nat → Prop} {w w' : World} {g : Gram} {A B A0 A1 A2 : Option Addr} {n m c c' c0 c1 c2 : Nat}
/-- Items somewhere in memory, to be read. -/
def VT (w : World) (v : Value) (xs : List Itm) : Prop := ∃ A c, v = .slice A xs.length c ∧ xs.length ≤ c ∧ tItm.Row (fun _ => True) w A xs.length xs
theorem VT.ext {v : Value} {xs : List Itm} (h : VT w v xs) (e : Ext w w') : VT w' v xs := by
  obtain ⟨A, c, h1, h2, h3⟩ := h
  exact ⟨A, c, h1, h2, h3.ext (by decide) e⟩
theorem VT.nil : VT w (.slice none 0 0) [] := ⟨none, 0, rfl, Nat.le_refl _, Ty.Row.nil_ _ _ _ _⟩
theorem OwnT.vt {base : Nat} {v : Value} {xs : List Itm} (h : OwnT w base v xs) (hm : xs.length ≤ 1099511627776) : VT w v xs := by
  obtain ⟨A, c, h1, h2, h3⟩ := h.row hm
  exact ⟨A, c, h1, h2, h3.mono (fun _ _ => trivial)⟩
theorem OwnT.low {S : Nat → Prop} {base : Nat} {v : Value} {xs : List Itm} (h : OwnM tItm S w base 73 v xs) : OwnT w base v xs := by
  obtain ⟨cs, h1, h2⟩ := h
  refine ⟨cs, h1, ?_⟩
  clear h1
  induction xs generalizing cs with
  | nil => exact h2
  | cons x xs ih =>
    obtain ⟨es, r, h3, h4, h5⟩ := h2
    obtain ⟨rfl, g1, g2⟩ := tItm_open h4
    exact ⟨_, r, h3, tItm_mk g1 g2, ih r h5⟩
theorem litK {a a' : World} {base n T : Nat} {v : Value} {cs : Array Value} (k : ∀ b, Blk a b cs T → Blk a' b cs T) (h : ∃ b, v = .slice (some ⟨b, 0, none⟩) n n ∧ base ≤ b ∧ Blk a b cs T) : ∃ b, v = .slice (some ⟨b, 0, none⟩) n n ∧ base ≤ b ∧ Blk a' b cs T := by
  obtain ⟨b, k1, k2, k3⟩ := h
  exact ⟨b, k1, k2, k b k3⟩
set_option maxRecDepth 20000 in
set_option maxHeartbeats 4000000 in
theorem rPut {l : List Itm} {x : Itm} (hl : tItm.Row S w A l.length l) (hc : l.length ≤ c) (h1 : I64 x.rule) (h2 : I64 x.dot) (hsm : l.length ≤ 1000000000) : Calls Tryz.prog 109 [.slice A l.length c, vItm x].toArray w (Ret fun v w' => VT w' v (Itm.put l x) ∧ Ext w w') := by
  refine enter Tryz.func109 rfl Tryz.ntmps109 rfl ?_
  refine wk ?_
  refine Wop.box rfl (fun w1 e1 b1 z1 => ?_)
  have hl1 := hl.ext (by decide) e1
  refine wk ?_
  refine W.midB (ι := Nat) (fun k => [(0, .slice A l.length c), (3, .pointer (some ⟨w.heap.size, 0, none⟩)), (5, .int .i64 (k : Int))]) (fun k w' => Ext w1 w' ∧ k ≤ l.length ∧ (∀ j y, j < k → l[j]? = some y → Itm.less y x = true) ∧ (∀ y, l[k]? = some y → Itm.less y x = false)) ?_ ?_
  · refine W.loop (ι := Nat) (fun k => [(0, .slice A l.length c), (3, .pointer (some ⟨w.heap.size, 0, none⟩)), (5, .int .i64 (k : Int))]) (fun k w' => Ext w1 w' ∧ k ≤ l.length ∧ (∀ j y, j < k → l[j]? = some y → Itm.less y x = true)) (fun k => l.length - k) 0 has ⟨Ext.refl _, Nat.zero_le _, fun j y hj => absurd hj (Nat.not_lt_zero j)⟩ ?_
    rintro k w2 ⟨hE, hk, hp⟩
    have b12 := b1.ext hE
    rcases Nat.lt_or_ge k l.length with hlt | hge
    · obtain ⟨b, o, rfl, es, hrd, hcc⟩ := (hl1.ext (by decide) hE).at_ k hlt
      obtain ⟨rfl, _, _⟩ := tItm_open hrd
      have hcs : ∀ (i : Nat) (u : Value), [Value.int .i64 l[k].rule, .int .i64 l[k].dot][i]? = some u → w2.cell? ⟨b, o + k * 2 + i, none⟩ = some u := hcc
      refine wk ?_
      refine W.any Ext [.eq _, .eq _, .eq _, .eq _, .eq _, .eq _, .eq _, .eq _, .eq _, .eq _, .eq _, .eq _] [11] mixed rfl Ext.refl Ext.trans Ext.drew ⟨qs, qs, qs, by intro w_ hG; (repeat (intro v_ hv_; cases hv_)); refine WopG.plain rfl (Wop.pure TT rfl ?_); exact ⟨Ext.refl _, congrArg Value.bool (decide_eq_true (by omega))⟩, qs, qs, qs, qs, qs, qs, by intro w_ hG; (repeat (intro v_ hv_; cases hv_)); refine WopG.yes rfl rfl rfl rfl (Wop.fn en157 rfl (rLess l[k] x) (fun v w' h => ?_)); refine ⟨h.2, ?_⟩; show _ = _; exact h.1, qs, trivial⟩ ?_
      rintro wq eq_ _ ⟨⟩
      have hEq := hE.trans eq_
      clear eq_
      refine wk ?_
      refine W.cond rfl (fun q => ?_) (fun q => ?_)
      · refine wk ?_
        refine Arr.again (k + 1) has ⟨hEq, hlt, ?_⟩ (by omega)
        intro j y hj hy
        rcases Nat.lt_or_ge j k with h | h
        · exact hp j y h hy
        · obtain rfl : j = k := by omega
          rw [List.getElem?_eq_getElem hlt] at hy
          cases hy
          exact q
      · refine wk ?_
        refine Arr.mid k has ⟨hEq, hk, hp, fun y hy => ?_⟩
        rw [List.getElem?_eq_getElem hlt] at hy
        cases hy
        exact q
    · have hkl : k = l.length := by omega
      subst hkl
      refine wk ?_
      refine W.any Ext [.eq _, .eq _, .eq _, .eq _, .eq _, .eq _, .eq _, .eq _, .eq _, .eq _, .eq _, .eq _] [11] mixed rfl Ext.refl Ext.trans Ext.drew ⟨qs, qs, qs, by intro w_ hG; (repeat (intro v_ hv_; cases hv_)); refine WopG.plain rfl (Wop.pure TT rfl ?_); exact ⟨Ext.refl _, congrArg Value.bool (decide_eq_false (by omega))⟩, qs, qs, qs, qs, qs, qs, qs, qs, trivial⟩ ?_
      rintro wq eq_ _ ⟨⟩
      refine wk ?_
      refine Arr.mid l.length has ⟨hE.trans eq_, hk, hp, fun y hy => ?_⟩
      rw [List.getElem?_eq_none (Nat.le_refl _)] at hy
      cases hy
  rintro k w2 ⟨hE, hk, hp, hq⟩
  have b12 := b1.ext hE
  have hput := Itm.put_at hk hp hq
  have E2 := e1.trans hE
  have hl2 := hl1.ext (by decide) hE
  refine W.mid (ι := Unit) (fun _ => [(0, .slice A l.length c), (3, .pointer (some ⟨w.heap.size, 0, none⟩)), (5, .int .i64 (k : Int))]) (fun _ w' => Ext w2 w' ∧ l[k]? ≠ some x) ?_ ?_
  · rcases Nat.lt_or_ge k l.length with hlt | hge
    · obtain ⟨b, o, rfl, es, hrd, hcc⟩ := hl2.at_ k hlt
      obtain ⟨rfl, _, _⟩ := tItm_open hrd
      have hcs : ∀ (i : Nat) (u : Value), [Value.int .i64 l[k].rule, .int .i64 l[k].dot][i]? = some u → w2.cell? ⟨b, o + k * 2 + i, none⟩ = some u := hcc
      refine wk ?_
      refine W.any Ext [.eq _, .eq _, .eq _, .eq _, .eq _, .eq _, .eq _, .eq _, .eq _, .eq _, .eq _, .eq _] [11] mixed rfl Ext.refl Ext.trans Ext.drew ⟨qs, qs, qs, by intro w_ hG; (repeat (intro v_ hv_; cases hv_)); refine WopG.plain rfl (Wop.pure TT rfl ?_); exact ⟨Ext.refl _, congrArg Value.bool (decide_eq_true (by omega))⟩, qs, qs, qs, qs, qs, qs, by intro w_ hG; (repeat (intro v_ hv_; cases hv_)); refine WopG.yes rfl rfl rfl rfl (Wop.eqlItm (x := l[k]) (y := x) rfl rfl ?_); refine ⟨Ext.refl _, ?_⟩; show _ = _; exact rfl, qs, trivial⟩ ?_
      rintro wq eq_ _ ⟨⟩
      refine wk ?_
      refine W.test rfl (fun q => ?_) (fun q => ?_)
      · refine wk ?_
        refine Arr.ret1 rfl rfl ⟨?_, E2.trans eq_⟩
        rw [hput, if_pos (by rw [List.getElem?_eq_getElem hlt, q])]
        exact ⟨_, c, rfl, hc, (hl2.ext (by decide) eq_).mono (fun _ _ => trivial)⟩
      · refine wk ?_
        refine Arr.mid () has ⟨eq_, fun h => q ?_⟩
        rw [List.getElem?_eq_getElem hlt] at h
        exact Option.some.inj h
    · refine wk ?_
      refine W.any Ext [.eq _, .eq _, .eq _, .eq _, .eq _, .eq _, .eq _, .eq _, .eq _, .eq _, .eq _, .eq _] [11] mixed rfl Ext.refl Ext.trans Ext.drew ⟨qs, qs, qs, by intro w_ hG; (repeat (intro v_ hv_; cases hv_)); refine WopG.plain rfl (Wop.pure TT rfl ?_); exact ⟨Ext.refl _, congrArg Value.bool (decide_eq_false (by omega))⟩, qs, qs, qs, qs, qs, qs, qs, qs, trivial⟩ ?_
      rintro wq eq_ _ ⟨⟩
      refine wk ?_
      refine Arr.mid () has ⟨eq_, fun h => ?_⟩
      rw [List.getElem?_eq_none hge] at h
      cases h
  rintro _ w3 ⟨hE3, hne⟩
  rw [if_neg hne] at hput
  have b13 := b12.ext hE3
  have E3 := E2.trans hE3
  have hl3 := ((hl2.ext (by decide) hE3).lt (by decide)).mono (S' := fun j => j < w3.heap.size) (fun _ h => h.2)
  have hl3' : ∀ w_, Below w3.heap.size w3 w_ → tItm.Row (fun j => j < w3.heap.size) w_ A l.length l := fun w_ h => hl3.keep (by decide) (⟨h.os, h.tape, h.output, h.size, fun j hj _ => h.block j hj⟩ : Keeps (fun j => j < w3.heap.size) w3 w_) (fun _ h => h)
  have kb : ∀ {a b : World} {v : Value} {xs : List Itm}, w3.heap.size ≤ a.heap.size → OwnT a w3.heap.size v xs → Keeps (fun k => v.ownBlock ≠ some k) a b → Below w3.heap.size a b := fun {a b v xs} hs ho k => k.below hs (fun j hj h => by have := (ho.lt j h).1; omega)
  refine wk ?_
  refine W.anyK (Below w3.heap.size) [(fun v c_ => ∃ b, v = .slice (some ⟨b, 0, none⟩) 0 0 ∧ w3.heap.size ≤ b ∧ Blk c_ b #[] 73), ((fun u v (_ : World) => v = u) _), ((fun u v (_ : World) => v = u) _), ((fun u v (_ : World) => v = u) _), (fun v c_ => OwnT c_ w3.heap.size v (l.take k)), ((fun u v (_ : World) => v = u) _), (fun v c_ => ∃ b, v = .slice (some ⟨b, 0, none⟩) 1 1 ∧ w3.heap.size ≤ b ∧ Blk c_ b #[.int .i64 x.rule, .int .i64 x.dot] 73), (fun v c_ => OwnT c_ w3.heap.size v (l.take k ++ [x])), ((fun u v (_ : World) => v = u) _), ((fun u v (_ : World) => v = u) _), ((fun u v (_ : World) => v = u) _), (fun v c_ => OwnT c_ w3.heap.size v (l.take k ++ [x] ++ l.drop k)), (fun v c_ => OwnT c_ w3.heap.size v (l.take k ++ [x] ++ l.drop k))] [12] mixed rfl (Below.refl _) Below.trans (fun w => (Below.refl _ w).drew) ⟨by intro w_ hG; exact WopG.plain rfl (Wop.buildSlice0 TT rfl rfl rfl (fun w1 e1 b1 z1 => ⟨e1.mono hG.size, ⟨_, rfl, hG.size, b1⟩, (by repeat (first | exact trivial | refine ⟨fun _ h => h, ?_⟩ | refine ⟨fun _ h => litK (fun _ q => q.ext e1) h, ?_⟩ | refine ⟨fun _ h => OwnM.ext h e1, ?_⟩))⟩)), qk, qk, by intro w_ hG; (repeat (intro v_ hv_; cases hv_)); refine WopG.plain rfl (Wop.sliceTo TT (h := k) rfl rfl rfl rfl rfl rfl (by omega) ?_); refine ⟨Below.refl _ _, ?_, (by repeat (first | exact trivial | refine ⟨fun _ h => h, ?_⟩))⟩; show _ = _; exact rfl, by rintro w_ hG _ ⟨b0, rfl, hb0, hb0'⟩ _ ⟨⟩; exact WopG.plain rfl (Wop.appRowM (D := tItm) TT rfl rfl infoItm rfl (by decide) (by decide) rfl rfl ((hl3' w_ hG).take k hk) (OwnT.lit0 hb0' hb0) hG.size (by simp; omega) (fun j h => h.elim) (fun j h e => by have : b0 = j := Option.some.inj e; omega) (fun v' w' hm kk hat => ⟨kb hG.size (OwnT.lit0 hb0' hb0) kk, OwnT.low hm, (by repeat (first | exact trivial | refine ⟨fun _ h => h, ?_⟩ | refine ⟨fun _ h => litK (fun b k3 => kk.blk k3 (fun e => by have e' : b0 = b := Option.some.inj e; rw [e'] at hb0'; have := hb0'.symm.trans k3; simp at this)) h, ?_⟩))⟩)), qk, by rintro w_ hG _ ⟨⟩; exact WopG.plain rfl (Wop.buildSlice (cs := #[.int .i64 x.rule, .int .i64 x.dot]) TT rfl rfl rfl Tryz.zeroValue73 rfl rfl rfl rfl (fun w1 e1 b1 z1 => ⟨e1.mono hG.size, ⟨_, rfl, hG.size, b1⟩, (by repeat (first | exact trivial | refine ⟨fun _ h => h, ?_⟩ | refine ⟨fun _ h => litK (fun _ q => q.ext e1) h, ?_⟩ | refine ⟨fun _ h => OwnM.ext h e1, ?_⟩))⟩)), by rintro w_ hG v4 h4 _ ⟨b6, rfl, hb6, hb6'⟩; exact WopG.plain rfl (Wop.appM (D := tItm) (S' := fun _ => False) TT rfl rfl infoItm rfl (by decide) (by decide) rfl rfl (es := [.int .i64 x.rule, .int .i64 x.dot]) (a := x) hb6' (tItm_mk h1 h2) h4 hG.size (by simp; omega) (fun j h => h.elim) (fun j h => h.elim) (fun v' w' hm kk hat => ⟨kb hG.size h4 kk, OwnT.low hm, (by repeat (first | exact trivial | refine ⟨fun _ h => h, ?_⟩))⟩)), qk, qk, by intro w_ hG; (repeat (intro v_ hv_; cases hv_)); refine WopG.plain rfl (Wop.sliceFrom TT (l := k) rfl rfl rfl rfl rfl rfl hk ?_); refine ⟨Below.refl _ _, ?_, (by repeat (first | exact trivial | refine ⟨fun _ h => h, ?_⟩))⟩; show _ = _; exact rfl, by rintro w_ hG v7 h7 _ ⟨⟩; exact WopG.plain rfl (Wop.appRowM (D := tItm) TT rfl rfl infoItm rfl (by decide) (by decide) rfl rfl ((hl3' w_ hG).drop k hk hc) h7 hG.size (by simp; omega) (fun j h => h.elim) (fun j h e => by have := (h7.lt j e).1; omega) (fun v' w' hm kk hat => ⟨kb hG.size h7 kk, OwnT.low hm, (by repeat (first | exact trivial | refine ⟨fun _ h => h, ?_⟩))⟩)), by rintro w_ hG v11 h11; exact WopG.plain rfl (Wop.pure TT rfl ⟨Below.refl _ _, h11, (by repeat (first | exact trivial | refine ⟨fun _ h => h, ?_⟩))⟩), trivial⟩ ?_
  rintro wq hG v12 h12
  have hlen : (l.take k ++ [x] ++ l.drop k).length ≤ 1099511627776 := by simp; omega
  refine wk ?_
  refine Arr.ret1 rfl rfl ⟨?_, Below.trans E3 (hG.mono E3.size)⟩
  rw [hput]
  simpa using h12.vt hlen
end Go.Proofs.YtbadjlhijbkbbaaGreat
