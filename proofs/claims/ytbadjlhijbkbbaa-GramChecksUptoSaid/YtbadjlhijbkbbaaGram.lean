/-
  Grammars as data, and what is to be computed of them: plain functions, no program.
-/
import Derived.Test.YtbadjlhijbkbbaaMem
set_option linter.unusedVariables false
namespace Go.Proofs.Ytbadjlhijbkbbaa
open Go Go.RowKit Sx

structure Rule where
  left : Int
  right : List Int
  deriving DecidableEq
structure Gram where
  terms : List ByteArray
  nons : List ByteArray
  rules : List Rule
  start : Int
  deriving DecidableEq

abbrev tRule : Ty Rule := (tI.prod tIs).via fun r => (r.left, r.right)
theorem tRule_sz : 0 < tRule.sz := by decide
abbrev tRules : Ty (List Rule) := Ty.slice tRule tRule_sz
abbrev tGram : Ty Gram := (tSs.prod (tSs.prod (tRules.prod tI))).via fun g => (g.terms, g.nons, g.rules, g.start)

section
variable {S : Nat → Prop} {w : World}
theorem tIs_open {x : List Int} {cs : List Value} (h : tIs.rd S w x cs) : ∃ A c, cs = [.slice A x.length c] ∧ x.length ≤ c ∧ tI.Row S w A x.length x := by
  obtain ⟨A, n, c, rfl, hc, hr⟩ := h
  have := hr.1
  subst this
  exact ⟨A, c, rfl, hc, hr⟩
theorem tSs_open {x : List ByteArray} {cs : List Value} (h : tSs.rd S w x cs) : ∃ A c, cs = [.slice A x.length c] ∧ x.length ≤ c ∧ tS.Row S w A x.length x := by
  obtain ⟨A, n, c, rfl, hc, hr⟩ := h
  have := hr.1
  subst this
  exact ⟨A, c, rfl, hc, hr⟩
theorem tRules_open {x : List Rule} {cs : List Value} (h : tRules.rd S w x cs) : ∃ A c, cs = [.slice A x.length c] ∧ x.length ≤ c ∧ tRule.Row S w A x.length x := by
  obtain ⟨A, n, c, rfl, hc, hr⟩ := h
  have := hr.1
  subst this
  exact ⟨A, c, rfl, hc, hr⟩
theorem tRule_open {r : Rule} {cs : List Value} (h : tRule.rd S w r cs) : ∃ A c, cs = [.int .i64 r.left, .slice A r.right.length c] ∧ r.right.length ≤ c ∧ I64 r.left ∧ tI.Row S w A r.right.length r.right := by
  obtain ⟨c1, c2, rfl, ⟨rfl, hl⟩, h2⟩ := h
  obtain ⟨A, c, rfl, hc, hr⟩ := tIs_open h2
  exact ⟨A, c, rfl, hc, hl.i64, hr⟩
theorem tRule_mk {r : Rule} {A : Option Addr} {c : Nat} (hl : I64 r.left) (hc : r.right.length ≤ c) (hr : tI.Row S w A r.right.length r.right) : tRule.rd S w r [.int .i64 r.left, .slice A r.right.length c] :=
  ⟨[_], [_], rfl, ⟨rfl, Ty.InK.of64 hl⟩, A, _, c, rfl, hc, hr⟩

/-- A grammar, laid open. -/
structure GramAt (S : Nat → Prop) (w : World) (g : Gram) (A0 A1 A2 : Option Addr) (c0 c1 c2 : Nat) : Prop where
  terms : tS.Row S w A0 g.terms.length g.terms
  nons : tS.Row S w A1 g.nons.length g.nons
  rules : tRule.Row S w A2 g.rules.length g.rules
  start : I64 g.start
  cap0 : g.terms.length ≤ c0
  cap1 : g.nons.length ≤ c1
  cap2 : g.rules.length ≤ c2
/-- Its four cells. -/
abbrev gcells (g : Gram) (A0 A1 A2 : Option Addr) (c0 c1 c2 : Nat) : List Value := [.slice A0 g.terms.length c0, .slice A1 g.nons.length c1, .slice A2 g.rules.length c2, .int .i64 g.start]
theorem tGram_open {g : Gram} {cs : List Value} (h : tGram.rd S w g cs) : ∃ A0 A1 A2 c0 c1 c2, cs = gcells g A0 A1 A2 c0 c1 c2 ∧ GramAt S w g A0 A1 A2 c0 c1 c2 := by
  obtain ⟨c1, c2, rfl, h1, d1, d2, rfl, h2, e1, e2, rfl, h3, rfl, h4⟩ := h
  obtain ⟨A0, k0, rfl, g0, r0⟩ := tSs_open h1
  obtain ⟨A1, k1, rfl, g1, r1⟩ := tSs_open h2
  obtain ⟨A2, k2, rfl, g2, r2⟩ := tRules_open h3
  exact ⟨A0, A1, A2, k0, k1, k2, rfl, r0, r1, r2, h4.i64, g0, g1, g2⟩
theorem GramAt.ext {g : Gram} {A0 A1 A2 : Option Addr} {c0 c1 c2 : Nat} {w' : World} (h : GramAt S w g A0 A1 A2 c0 c1 c2) (e : Ext w w') : GramAt S w' g A0 A1 A2 c0 c1 c2 :=
  ⟨h.terms.ext (by decide) e, h.nons.ext (by decide) e, h.rules.ext (by decide) e, h.start, h.cap0, h.cap1, h.cap2⟩
end

/-- Numbers in a row of the call's own. -/
abbrev OwnI (w : World) (base : Nat) (v : Value) (xs : List Int) : Prop := Own 3 (Value.int .i64) w base v xs
/-- Texts in a row of the call's own. -/
abbrev OwnS (w : World) (base : Nat) (v : Value) (xs : List ByteArray) : Prop := Own 9 Value.string w base v xs
theorem infoS : (Try.prog.info? 9).map (fun i => (i.zero, i.size, i.bytes)) = some (some (.string ⟨#[]⟩), 1, 16) := by kernel_rfl
theorem OwnS.row {w : World} {base : Nat} {v : Value} {xs : List ByteArray} (h : OwnS w base v xs) (hm : xs.length ≤ 1099511627776) (hr : ∀ x ∈ xs, x.size ≤ 140737488355328) {S : Nat → Prop} (hS : ∀ k, v.ownBlock = some k → S k) : ∃ A c, v = .slice A xs.length c ∧ xs.length ≤ c ∧ tS.Row S w A xs.length xs :=
  Own.row h rfl hm hS (fun x hx => ⟨rfl, hr x hx⟩)
theorem Own.lit0 {α : Type} {enc : α → Value} {e : TypeId} {w : World} {base g : Nat} (hb : Blk w g #[] e) (h : base ≤ g) : Own e enc w base (.slice (some ⟨g, 0, none⟩) 0 0) [] :=
  ⟨by simp, .inr ⟨g, 0, #[], rfl, h, hb, Nat.le_refl _, by simp [maxLen], rfl, rfl⟩⟩
theorem Sx.Blk.rowI {w : World} {b : Nat} {x : Int} {u : TypeId} {S : Nat → Prop} (h : Blk w b #[.int .i64 x] u) (hx : I64 x) (hS : S b := by trivial) : tI.Row S w (some ⟨b, 0, none⟩) 1 [x] :=
  ⟨rfl, by decide, fun _ => ⟨b, 0, rfl, hS, fun j y hj => by
    have : j = 0 := by have := (List.getElem?_eq_some_iff.1 hj).1; simp at this; exact this
    subst this
    simp at hj
    subst hj
    refine ⟨[.int .i64 x], ⟨rfl, Ty.InK.of64 hx⟩, fun i v hv => ?_⟩
    have : i = 0 := by have := (List.getElem?_eq_some_iff.1 hv).1; simp at this; exact this
    subst this
    simp at hv
    subst hv
    exact h.cell rfl⟩⟩
theorem Sx.Ty.Row.all {α : Type} {D : Ty α} {S : Nat → Prop} {w : World} {A : Option Addr} {n : Nat} {xs : List α} (h : D.Row S w A n xs) : ∀ x ∈ xs, ∃ es, D.rd S w x es := by
  intro x hx
  obtain ⟨j, hj⟩ := List.getElem?_of_mem hx
  have := (List.getElem?_eq_some_iff.1 hj).1
  obtain ⟨_, _, _, _, hc⟩ := h.2.2 (by have := h.1; omega)
  obtain ⟨es, he, _⟩ := hc j x hj
  exact ⟨es, he⟩
theorem infoI : (Try.prog.info? 3).map (fun i => (i.zero, i.size, i.bytes)) = some (some (.int .i64 0), 1, 8) := by kernel_rfl
theorem OwnI.row {w : World} {base : Nat} {v : Value} {xs : List Int} (h : OwnI w base v xs) (hm : xs.length ≤ 1099511627776) (hr : ∀ x ∈ xs, I64 x) {S : Nat → Prop} (hS : ∀ k, v.ownBlock = some k → S k) : ∃ A c, v = .slice A xs.length c ∧ xs.length ≤ c ∧ tI.Row S w A xs.length xs :=
  Own.row h rfl hm hS (fun x hx => ⟨rfl, Ty.InK.of64 (hr x hx)⟩)

section
variable {P : Program} {Q : Exit → Act → World → Prop} {N : Nat} {σ : Sl} {w : World} {K : Value → World → Prop}
variable {d : Option Tmp} {ty : TypeId} {ps : String} {af : Array Edge} {gd : Option (Nat × Bool)}
/-- [x] of a number. -/
theorem Wop.litI {x : Operand} {i : Int} (hx : Sx.look σ x = some (.int .i64 i))
    (hk : ∀ w', Ext w w' → Blk w' w.heap.size #[.int .i64 i] 3 → w'.heap.size = w.heap.size + 1 → K (.slice (some ⟨w.heap.size, 0, none⟩) 1 1) w') : Wop Try.prog Q N ⟨d, .buildSlice 28 1 #[(0, x)], ty, ps, af, gd⟩ σ w K :=
  Wop.lit1 TT rfl rfl rfl Try.zeroValue3 rfl hx rfl hk
/-- append(v, i) of a number: v a row of the call's own. -/
theorem Wop.appI {x y : Operand} {v : Value} {b : Nat} {xs : List Int} {a : Int} {base : Nat} {u : TypeId}
    (hx : Sx.look σ x = some v) (hy : Sx.look σ y = some (.slice (some ⟨b, 0, none⟩) 1 1)) (hb : Blk w b #[.int .i64 a] u) (HO : OwnI w base v xs) (hbase : base ≤ w.heap.size) (hl : xs.length ≤ 1099511627776)
    (hk : ∀ v' w', OwnI w' base v' (xs ++ [a]) → (∀ w0, Below base w0 w → Below base w0 w') → w.grownBy w' v.ownBlock → (v'.ownBlock = v.ownBlock ∨ v'.ownBlock = some w.heap.size) → K v' w') :
    Wop Try.prog Q N ⟨d, .call ⟨.builtin .append, #[x, y], #[28, 28]⟩, ty, ps, af, gd⟩ σ w K :=
  Wop.app1 (α := Int) TT rfl rfl infoI rfl (by decide) hx hy hb rfl HO hbase (by omega) hk
end

/-! ### What is computed -/
namespace Gram
def top (g : Gram) : Int := g.terms.length + g.nons.length
def term (g : Gram) (s : Int) : Bool := decide (1 ≤ s ∧ s ≤ g.terms.length)
def names (g : Gram) : List ByteArray := g.terms ++ g.nons
def non (g : Gram) (s : Int) : Bool := decide ((g.terms.length : Int) < s ∧ s ≤ g.top)
def name (g : Gram) (s : Int) : ByteArray := if s = 0 then "$".toUTF8 else if 1 ≤ s ∧ s ≤ g.terms.length then g.names[(s - 1).toNat]?.getD ⟨#[]⟩ else if (g.terms.length : Int) < s ∧ s ≤ g.top then g.names[(s - 1).toNat]?.getD ⟨#[]⟩ else ⟨#[]⟩
def rule (g : Gram) (i : Int) : Bool × Rule := if i < 0 ∨ i > g.rules.length then (false, ⟨0, []⟩) else if i = g.rules.length then (true, ⟨0, [g.start]⟩) else (true, g.rules[i.toNat]?.getD ⟨0, []⟩)
/-- The number of the first rule of each nonterminal, or of all rules. -/
def first (g : Gram) (s : Int) : Nat := g.rules.findIdx (fun r => decide (r.left = s))
def nth1 (g : Gram) (i : Nat) : Nat := g.first (g.terms.length + 1 + i)
def ordered (g : Gram) : Bool := decide (∀ j, j < g.nons.length - 1 → g.nth1 j ≤ g.nth1 (j + 1))
/-- The numbers, from k on, of the rules of a left side. -/
def ofFrom (s : Int) : List Rule → Nat → List Int
  | [], _ => []
  | r :: l, k => if r.left = s then (k : Int) :: ofFrom s l (k + 1) else ofFrom s l (k + 1)
def of (g : Gram) (s : Int) : List Int := ofFrom s g.rules 0
end Gram
theorem ofFrom_append (s : Int) : ∀ (l m : List Rule) (k : Nat), Gram.ofFrom s (l ++ m) k = Gram.ofFrom s l k ++ Gram.ofFrom s m (k + l.length)
  | [], m, k => by simp [Gram.ofFrom]
  | r :: l, m, k => by
    simp only [List.cons_append, Gram.ofFrom, ofFrom_append s l m (k + 1), List.length_cons]
    rw [show k + 1 + l.length = k + (l.length + 1) by omega]
    split <;> simp
theorem ofFrom_length (s : Int) : ∀ (l : List Rule) (k : Nat), (Gram.ofFrom s l k).length ≤ l.length
  | [], _ => by simp [Gram.ofFrom]
  | r :: l, k => by
    have := ofFrom_length s l (k + 1)
    simp only [Gram.ofFrom, List.length_cons]
    split <;> simp <;> omega
theorem ofFrom_lt (s : Int) : ∀ (l : List Rule) (k : Nat) (x : Int), x ∈ Gram.ofFrom s l k → (k : Int) ≤ x ∧ x < k + l.length
  | [], _, _, h => by simp [Gram.ofFrom] at h
  | r :: l, k, x, h => by
    simp only [Gram.ofFrom] at h
    have : x = k ∨ x ∈ Gram.ofFrom s l (k + 1) := by
      split at h
      · rcases List.mem_cons.1 h with h | h
        · exact .inl h
        · exact .inr h
      · exact .inr h
    rcases this with rfl | h
    · simp only [List.length_cons]; omega
    · have := ofFrom_lt s l (k + 1) x h
      simp only [List.length_cons]
      omega
theorem of_take (g : Gram) (s : Int) (k : Nat) (hk : k < g.rules.length) : Gram.ofFrom s (g.rules.take (k + 1)) 0 = Gram.ofFrom s (g.rules.take k) 0 ++ if (g.rules[k]).left = s then [(k : Int)] else [] := by
  rw [List.take_succ_eq_append_getElem hk, ofFrom_append]
  simp only [Nat.zero_add, List.length_take, Nat.min_eq_left (Nat.le_of_lt hk), Gram.ofFrom]
end Go.Proofs.Ytbadjlhijbkbbaa
