/-
  Small helpers of the walk.
-/
import Derived.Test.YtbadjlhijbkbbaaRow
set_option linter.unusedVariables false
namespace Go.Proofs.Ytbadjlhijbkbbaa.Sx
open Go Go.RowKit
/-- A slot's value, by another name. -/
theorem Has.consE {σ τ : Sl} {t : Nat} {v v' : Value} (h : σ.lookup t = some v') (e : v' = v) (r : Has σ τ) : Has σ ((t, v) :: τ) := Has.cons (e ▸ h) r
theorem Has.consI {σ τ : Sl} {t : Nat} {k : IntKind} {m n : Int} (h : σ.lookup t = some (.int k m)) (e : m = n) (r : Has σ τ) : Has σ ((t, .int k n) :: τ) := Has.cons (e ▸ h) r
/-- The cells of a row's elements, one behind the other. -/
def Ty.RowL {α : Type} (D : Ty α) (S : Nat → Prop) (w : World) : List α → List Value → Prop
  | [], cs => cs = []
  | x :: xs, cs => ∃ es r, cs = es ++ r ∧ D.rd S w x es ∧ Ty.RowL D S w xs r
theorem Ty.RowL.at_ {α : Type} {D : Ty α} {S : Nat → Prop} {w : World} : ∀ {xs : List α} {cs : List Value}, Ty.RowL D S w xs cs → ∀ (j : Nat) (x : α), xs[j]? = some x → ∃ es, D.rd S w x es ∧ ∀ i v, es[i]? = some v → cs[j * D.sz + i]? = some v
  | [], _, _, j, x, hj => by simp at hj
  | y :: xs, _, ⟨es, r, rfl, he, hr⟩, 0, x, hj => by
    simp at hj
    subst hj
    refine ⟨es, he, fun i v hv => ?_⟩
    have := (List.getElem?_eq_some_iff.1 hv).1
    rw [Nat.zero_mul, Nat.zero_add, List.getElem?_append_left this]
    exact hv
  | y :: xs, _, ⟨es, r, rfl, he, hr⟩, j + 1, x, hj => by
    obtain ⟨es', he', h⟩ := Ty.RowL.at_ hr j x (by simpa using hj)
    refine ⟨es', he', fun i v hv => ?_⟩
    have hl := D.len he
    rw [List.getElem?_append_right (by rw [hl, Nat.add_mul]; omega), hl, show (j + 1) * D.sz + i - D.sz = j * D.sz + i by rw [Nat.add_mul]; omega]
    exact h i v hv
theorem Blk.rowL {α : Type} {D : Ty α} {S : Nat → Prop} {w : World} {b : Nat} {cs : List Value} {u : TypeId} {xs : List α} (hb : Blk w b cs.toArray u) (h : Ty.RowL D S w xs cs) (hS : S b) (hn : xs.length ≤ 1099511627776) : D.Row S w (some ⟨b, 0, none⟩) xs.length xs :=
  ⟨rfl, hn, fun _ => ⟨b, 0, rfl, hS, fun j x hj => by
    obtain ⟨es, he, hc⟩ := h.at_ j x hj
    exact ⟨es, he, fun i v hv => by rw [Nat.zero_add]; exact hb.cell (by simpa using hc i v hv)⟩⟩⟩
theorem neV (x : Int) : Value.bool (decide (x ≠ x)) = .bool false := congrArg Value.bool (decide_eq_false (fun h => h rfl))
theorem eqV {α : Type} [DecidableEq α] (x : α) : Value.bool (decide (x = x)) = .bool true := congrArg Value.bool (decide_eq_true rfl)
theorem nbV (b : Bool) : Value.bool (b != b) = .bool false := by cases b <;> rfl
theorem ebV (b : Bool) : Value.bool (b == b) = .bool true := by cases b <;> rfl
end Go.Proofs.Ytbadjlhijbkbbaa.Sx
