/-
  Data as they lie in memory: how a value's cells are read. Nothing of the program is in it.
-/
import Derived.Test.YtbadjlhijbkbbaaOp
set_option linter.unusedVariables false
namespace Go.Proofs.Ytbadjlhijbkbbaa.Sx
open Go Go.RowKit

/-- How data of a type lie in memory; S: the blocks that may be touched. -/
structure Ty (α : Type) where
  sz : Nat
  rd : (Nat → Prop) → World → α → List Value → Prop
  len : ∀ {S w x cs}, rd S w x cs → cs.length = sz
  one : ∀ {S w x cs}, rd S w x cs → ∀ u ∈ cs, u.oneCell' = true
  mono : ∀ {S S' : Nat → Prop} {w x cs}, (∀ k, S k → S' k) → rd S w x cs → rd S' w x cs
  move : ∀ {S : Nat → Prop} {w w' : World} {x cs}, (∀ k, S k → w'.heap[k]? = w.heap[k]?) → rd S w x cs → rd S w' x cs
  lt : ∀ {S : Nat → Prop} {w : World} {x cs}, rd S w x cs → rd (fun k => S k ∧ k < w.heap.size) w x cs

namespace Ty
variable {α β : Type}
/-- What lay, lies. -/
theorem ext (d : Ty α) {S : Nat → Prop} {w w' : World} {x : α} {cs : List Value} (e : Ext w w') (h : d.rd S w x cs) : d.rd S w' x cs :=
  d.mono (fun _ hk => hk.1) (d.move (fun _ hk => e.block hk.2) (d.lt h))
/-- Whatever is written from B on: what was read below B reads as it did. -/
theorem below (d : Ty α) {B : Nat} {S : Nat → Prop} {w w' : World} {x : α} {cs : List Value} (e : Below B w w') (hS : ∀ k, S k → k < B) (h : d.rd S w x cs) : d.rd S w' x cs :=
  d.move (fun k hk => e.block k (hS k hk)) h
theorem all (d : Ty α) {S : Nat → Prop} {w : World} {x : α} {cs : List Value} (h : d.rd S w x cs) : d.rd (fun _ => True) w x cs := d.mono (fun _ _ => trivial) h
theorem under (d : Ty α) {S : Nat → Prop} {w : World} {x : α} {cs : List Value} (h : d.rd S w x cs) : d.rd (fun k => k < w.heap.size) w x cs := d.mono (fun _ hk => hk.2) (d.lt h)

def InK (k : IntKind) (n : Int) : Prop := k.min ≤ n ∧ n ≤ k.max
theorem InK.i64 {n : Int} (h : InK .i64 n) : I64 n := by
  obtain ⟨h1, h2⟩ := h
  simp [IntKind.min, IntKind.max, IntKind.signed, IntKind.bits] at h1 h2
  exact ⟨by omega, by omega⟩
theorem InK.of64 {n : Int} (h : I64 n) : InK .i64 n := by
  obtain ⟨h1, h2⟩ := h
  constructor <;> simp [IntKind.min, IntKind.max, IntKind.signed, IntKind.bits] <;> omega

def int (k : IntKind) : Ty Int where
  sz := 1
  rd _ _ n cs := cs = [.int k n] ∧ InK k n
  len := by rintro _ _ _ _ ⟨rfl, _⟩; rfl
  one := by rintro _ _ _ _ ⟨rfl, _⟩ u hu; simp at hu; subst hu; rfl
  mono := fun _ h => h
  move := fun _ h => h
  lt := fun h => h
def bool : Ty Bool where
  sz := 1
  rd _ _ b cs := cs = [.bool b]
  len := by rintro _ _ _ _ rfl; rfl
  one := by rintro _ _ _ _ rfl u hu; simp at hu; subst hu; rfl
  mono := fun _ h => h
  move := fun _ h => h
  lt := fun h => h
def str : Ty ByteArray where
  sz := 1
  rd _ _ s cs := cs = [.string s] ∧ s.size ≤ 140737488355328
  len := by rintro _ _ _ _ ⟨rfl, _⟩; rfl
  one := by rintro _ _ _ _ ⟨rfl, _⟩ u hu; simp at hu; subst hu; rfl
  mono := fun _ h => h
  move := fun _ h => h
  lt := fun h => h
def prod (d : Ty α) (e : Ty β) : Ty (α × β) where
  sz := d.sz + e.sz
  rd S w x cs := ∃ c1 c2, cs = c1 ++ c2 ∧ d.rd S w x.1 c1 ∧ e.rd S w x.2 c2
  len := by rintro _ _ _ _ ⟨c1, c2, rfl, h1, h2⟩; simp [d.len h1, e.len h2]
  one := by
    rintro _ _ _ _ ⟨c1, c2, rfl, h1, h2⟩ u hu
    rcases List.mem_append.1 hu with hu | hu
    · exact d.one h1 u hu
    · exact e.one h2 u hu
  mono := by rintro _ _ _ _ _ hS ⟨c1, c2, rfl, h1, h2⟩; exact ⟨c1, c2, rfl, d.mono hS h1, e.mono hS h2⟩
  move := by rintro _ _ _ _ _ hS ⟨c1, c2, rfl, h1, h2⟩; exact ⟨c1, c2, rfl, d.move hS h1, e.move hS h2⟩
  lt := by rintro _ _ _ _ ⟨c1, c2, rfl, h1, h2⟩; exact ⟨c1, c2, rfl, d.lt h1, e.lt h2⟩
def via (f : β → α) (d : Ty α) : Ty β where
  sz := d.sz
  rd S w x cs := d.rd S w (f x) cs
  len := d.len
  one := d.one
  mono := d.mono
  move := d.move
  lt := d.lt

/-- A row of elements from an address on. -/
def Row (d : Ty α) (S : Nat → Prop) (w : World) (A : Option Addr) (n : Nat) (xs : List α) : Prop :=
  xs.length = n ∧ n ≤ 1099511627776 ∧ (0 < n → ∃ b o, A = some ⟨b, o, none⟩ ∧ S b ∧ ∀ j x, xs[j]? = some x → ∃ es, d.rd S w x es ∧ ∀ i v, es[i]? = some v → w.cell? ⟨b, o + j * d.sz + i, none⟩ = some v)

theorem Row.mono {d : Ty α} {S S' : Nat → Prop} {w : World} {A : Option Addr} {n : Nat} {xs : List α} (hS : ∀ k, S k → S' k) (h : d.Row S w A n xs) : d.Row S' w A n xs :=
  ⟨h.1, h.2.1, fun hn => by
    obtain ⟨b, o, hA, hb, hc⟩ := h.2.2 hn
    exact ⟨b, o, hA, hS b hb, fun j x hx => by obtain ⟨es, he, hcc⟩ := hc j x hx; exact ⟨es, d.mono hS he, hcc⟩⟩⟩
theorem Row.move {d : Ty α} {S : Nat → Prop} {w w' : World} {A : Option Addr} {n : Nat} {xs : List α} (hS : ∀ k, S k → w'.heap[k]? = w.heap[k]?) (h : d.Row S w A n xs) : d.Row S w' A n xs :=
  ⟨h.1, h.2.1, fun hn => by
    obtain ⟨b, o, hA, hb, hc⟩ := h.2.2 hn
    exact ⟨b, o, hA, hb, fun j x hx => by
      obtain ⟨es, he, hcc⟩ := hc j x hx
      exact ⟨es, d.move hS he, fun i v hv => (World.cell?_of_block (w := w) (hS b hb)).trans (hcc i v hv)⟩⟩⟩
theorem Row.lt {d : Ty α} {S : Nat → Prop} {w : World} {A : Option Addr} {n : Nat} {xs : List α} (h0 : 0 < d.sz) (h : d.Row S w A n xs) : d.Row (fun k => S k ∧ k < w.heap.size) w A n xs :=
  ⟨h.1, h.2.1, fun hn => by
    obtain ⟨b, o, hA, hb, hc⟩ := h.2.2 hn
    have hlt : b < w.heap.size := by
      obtain ⟨es, he, hcc⟩ := hc 0 (xs[0]'(by have := h.1; omega)) (List.getElem?_eq_getElem _)
      have hl := d.len he
      exact World.block_lt_of_cell? w ⟨b, o + 0 * d.sz + 0, none⟩ (hcc 0 (es[0]'(by omega)) (List.getElem?_eq_getElem _))
    exact ⟨b, o, hA, ⟨hb, hlt⟩, fun j x hx => by obtain ⟨es, he, hcc⟩ := hc j x hx; exact ⟨es, d.lt he, hcc⟩⟩⟩
theorem Row.ext {d : Ty α} {S : Nat → Prop} {w w' : World} {A : Option Addr} {n : Nat} {xs : List α} (h0 : 0 < d.sz) (e : Ext w w') (h : d.Row S w A n xs) : d.Row S w' A n xs :=
  Row.mono (fun _ hk => hk.1) (Row.move (fun _ hk => e.block hk.2) (Row.lt h0 h))

def slice (d : Ty α) (h0 : 0 < d.sz) : Ty (List α) where
  sz := 1
  rd S w xs cs := ∃ A n c, cs = [.slice A n c] ∧ n ≤ c ∧ d.Row S w A n xs
  len := by rintro _ _ _ _ ⟨A, n, c, rfl, _⟩; rfl
  one := by rintro _ _ _ _ ⟨A, n, c, rfl, _⟩ u hu; simp at hu; subst hu; rfl
  mono := by rintro _ _ _ _ _ hS ⟨A, n, c, rfl, hc, h⟩; exact ⟨A, n, c, rfl, hc, h.mono hS⟩
  move := by rintro _ _ _ _ _ hS ⟨A, n, c, rfl, hc, h⟩; exact ⟨A, n, c, rfl, hc, h.move hS⟩
  lt := by rintro _ _ _ _ ⟨A, n, c, rfl, hc, h⟩; exact ⟨A, n, c, rfl, hc, h.lt h0⟩
end Ty

/-! ### A row that is read at an index -/
section
variable {α : Type} {d : Ty α} {S : Nat → Prop} {w : World} {A : Option Addr} {n : Nat} {xs : List α}
theorem Ty.Row.at_ (h : d.Row S w A n xs) (i : Nat) (hi : i < xs.length) : ∃ b o, A = some ⟨b, o, none⟩ ∧ ∃ es, d.rd S w xs[i] es ∧ ∀ k v, es[k]? = some v → w.cell? ⟨b, o + i * d.sz + k, none⟩ = some v := by
  obtain ⟨b, o, hA, _, hc⟩ := h.2.2 (by have := h.1; omega)
  exact ⟨b, o, hA, hc i xs[i] (List.getElem?_eq_getElem hi)⟩
theorem Ty.Row.take (h : d.Row S w A n xs) (i : Nat) (hi : i ≤ n) : d.Row S w A i (xs.take i) := by
  refine ⟨by rw [List.length_take, h.1]; omega, by have := h.2.1; omega, fun hp => ?_⟩
  obtain ⟨b, o, hA, hb, hc⟩ := h.2.2 (by omega)
  refine ⟨b, o, hA, hb, fun j x hx => hc j x ?_⟩
  rw [List.getElem?_take] at hx
  split at hx
  · exact hx
  · cases hx
theorem Ty.Row.nil_ (d : Ty α) (S : Nat → Prop) (w : World) (A : Option Addr) : d.Row S w A 0 [] := ⟨rfl, by omega, fun h => by omega⟩
end
abbrev tI : Ty Int := Ty.int .i64
abbrev tIs : Ty (List Int) := Ty.slice tI (by decide)
abbrev tS : Ty ByteArray := Ty.str
abbrev tSs : Ty (List ByteArray) := Ty.slice tS (by decide)

/-! ### Rows of the call's own, of elements of one cell -/
theorem row_of_own {α : Type} {d : Ty α} {enc : α → Value} (hsz : d.sz = 1) {S : Nat → Prop} {w : World} {base : Nat} {e : TypeId} {v : Value} {xs : List α} (h : w.ownsRow base e 1 v xs.length (xs.map enc)) (hm : xs.length ≤ 1099511627776) (hS : ∀ k, v.ownBlock = some k → S k)
    (hr : ∀ x ∈ xs, d.rd S w x [enc x]) : ∃ A c, v = .slice A xs.length c ∧ xs.length ≤ c ∧ d.Row S w A xs.length xs := by
  rcases h.2 with ⟨rfl, h0⟩ | ⟨g, cap, cur, rfl, hb, hh, hnc, hcm, hcs, htake⟩
  · have hx : xs = [] := List.eq_nil_of_length_eq_zero h0
    subst hx
    exact ⟨none, 0, rfl, Nat.le_refl _, Ty.Row.nil_ _ _ _ _⟩
  · refine ⟨_, cap, rfl, hnc, rfl, hm, fun hp => ⟨g, 0, rfl, hS g rfl, fun j x hx => ⟨[enc x], hr x (List.mem_of_getElem? hx), fun i u hu => ?_⟩⟩⟩
    have hi : i = 0 := by
      have := (List.getElem?_eq_some_iff.1 hu).1
      simp at this
      exact this
    subst hi
    simp at hu
    subst hu
    have hc := h.cells (g := g) rfl j (enc x) (by rw [List.getElem?_map, hx]; rfl)
    rw [add_at] at hc
    rw [hsz]
    simpa using hc
end Go.Proofs.Ytbadjlhijbkbbaa.Sx
