/-
  Joined by program out of the texts G7 G8 G9: lemmas for the proofs of this seat; no condition.
-/
import Derived.Test.YtbadjlhijbkbbaaGreatBe
/-
  Whole grammars compared; the rest of the small functions.
-/
set_option linter.unusedVariables false
namespace Go.Proofs.YtbadjlhijbkbbaaGreat
open Go Go.RowKit Sx
variable {S S' : Nat → Prop} {w : World} {g h : Gram} {A0 A1 A2 : Option Addr} {c0 c1 c2 : Nat} {B0 B1 B2 : Option Addr} {d0 d1 d2 : Nat}

end Go.Proofs.YtbadjlhijbkbbaaGreat

/-
  The rest of the small functions.
-/
set_option linter.unusedVariables false
namespace Go.Proofs.YtbadjlhijbkbbaaGreat
open Go Go.RowKit Sx
variable {S S' : Nat → Prop} {w : World} {g : Gram} {A0 A1 A2 : Option Addr} {c0 c1 c2 : Nat}

theorem rName (hg : GramAt S w g A0 A1 A2 c0 c1 c2) (hs : g.names.length ≤ 1099511627776) (s : Int) : Calls Tryz.prog 84 [.agg (gcells g A0 A1 A2 c0 c1 c2).toArray, .int .i64 s].toArray w (Ret fun v w' => v = .string (g.name s) ∧ Ext w w') := by
  have h0 := hg.terms.2.1
  have h1 := hg.nons.2.1
  have hlen : g.names.length = g.terms.length + g.nons.length := List.length_append
  refine enter Tryz.func84 rfl Tryz.ntmps84 rfl ?_
  refine wk ?_; try (refine Wop.box rfl (fun w1 e1 b1 z1 => ?_); refine wk ?_)
  have hg1 := hg.ext e1
  refine W.test rfl (fun hz => ?_) (fun hz => ?_)
  · refine wk ?_
    refine Arr.ret1 rfl rfl ⟨?_, e1⟩
    rw [Gram.name, if_pos hz]
    rfl
  refine wk ?_
  refine Wl.part rfl rfl rfl (fun p => ?_) (fun p => ?_)
  · refine wk ?_
    refine Arr.ret1 rfl rfl ⟨?_, e1⟩
    rw [Gram.name, if_neg hz, if_neg (by omega), if_neg (by omega)]
  · refine wk ?_
    refine Wop.fn en117 rfl (rTop hg1) ?_
    rintro _ w2 ⟨rfl, e2⟩
    refine wk ?_
    refine W.test rfl (fun p2 => ?_) (fun p2 => ?_)
    · refine wk ?_
      refine Arr.ret1 rfl rfl ⟨?_, e1.trans e2⟩
      have : ¬ s ≤ g.top := by omega
      have ht : g.top = g.terms.length + g.nons.length := rfl
      rw [Gram.name, if_neg hz, if_neg (by omega), if_neg (by omega)]
    · refine wk ?_
      refine Wop.fn en97 rfl (r6names (hg1.ext e2) hs) ?_
      rintro _ w3 ⟨⟨A, c, rfl, hcap, hrow⟩, e3⟩
      have ht : g.top = g.terms.length + g.nons.length := rfl
      have hlt : (s - 1).toNat < g.names.length := by omega
      obtain ⟨b, o, rfl, es, ⟨rfl, hsz⟩, hc⟩ := hrow.at_ (s - 1).toNat hlt
      have hcell := hc 0 _ rfl
      refine wk ?_
      refine Wop.ixI TT (s - 1).toNat rfl rfl rfl rfl rfl (by omega) hlt ?_
      refine wk ?_
      refine Arr.ret1 rfl rfl ⟨?_, e1.trans (e2.trans e3)⟩
      rw [Gram.name, if_neg hz, List.getElem?_eq_getElem hlt]
      simp only [Option.getD_some]
      by_cases h : 1 ≤ s ∧ s ≤ g.terms.length
      · rw [if_pos h]
      · rw [if_neg h, if_pos (by omega)]
def Gram.find (g : Gram) (name : ByteArray) : Int := idxI (fun x => decide (x = name)) g.names + 1
theorem findIdx?_append_some {α : Type} {p : α → Bool} {xs ys : List α} {i : Nat} (h : xs.findIdx? p = some i) : (xs ++ ys).findIdx? p = some i := by
  rw [List.findIdx?_append, h]; rfl
theorem idxI_append {α : Type} (p : α → Bool) (xs ys : List α) : idxI p (xs ++ ys) = if 0 ≤ idxI p xs then idxI p xs else if 0 ≤ idxI p ys then xs.length + idxI p ys else -1 := by
  unfold idxI
  rw [List.findIdx?_append]
  cases h : xs.findIdx? p with
  | some i => simp
  | none =>
    cases h2 : ys.findIdx? p with
    | some i => simp; omega
    | none => simp
theorem rOf (hg : GramAt S w g A0 A1 A2 c0 c1 c2) (s : Int) : Calls Tryz.prog 100 [.agg (gcells g A0 A1 A2 c0 c1 c2).toArray, .int .i64 s].toArray w (Ret fun v w' => OwnI w' w.heap.size v (g.of s) ∧ Ext w w') := by
  have hm := hg.rules.2.1
  refine enter Tryz.func100 rfl Tryz.ntmps100 rfl ?_
  refine wk ?_; try (refine Wop.box rfl (fun w1 e1 b1 z1 => ?_); refine wk ?_)
  have hg1 := hg.ext e1
  refine W.loop (ι := Nat × Value) (fun i => [(1, .int .i64 s), (2, .pointer (some ⟨w.heap.size, 0, none⟩)), (6, .int .i64 (i.1 : Int)), (5, i.2)])
    (fun i w' => Ext w1 w' ∧ i.1 ≤ g.rules.length ∧ OwnI w' w1.heap.size i.2 (Gram.ofFrom s (g.rules.take i.1) 0)) (fun i => g.rules.length - i.1) (0, .slice none 0 0) has ⟨Ext.refl w1, Nat.zero_le _, Own.nil _ _ _ _⟩ ?_
  rintro ⟨i, v⟩ w' ⟨hE, hi, ho⟩
  simp only at hi ho ⊢
  refine wk ?_
  have hof := ofFrom_length s (g.rules.take i) 0
  rw [List.length_take] at hof
  refine W.test rfl (fun hlt => ?_) (fun hge => ?_)
  · have hlt : i < g.rules.length := by omega
    obtain ⟨b, o, rfl, es, hrd, hc⟩ := (hg1.rules.ext (by decide) hE).at_ i hlt
    obtain ⟨A, c, rfl, hcap, hl64, hrow⟩ := tRule_open hrd
    have hcell := hc 0 _ rfl
    refine wk ?_
    refine W.test rfl (fun heq => ?_) (fun hne => ?_)
    · refine wk ?_
      refine Wop.litI rfl (fun w4 e4 b4 z4 => ?_)
      refine wk ?_
      refine Wop.appI rfl rfl b4 (ho.ext e4) (by have := (hE.trans e4).size; omega) (by omega) (fun v' w5 ho' hb' _ _ => ?_)
      refine wk ?_
      refine Arr.again (i := (i, v)) (i + 1, v') has ⟨hb' _ (hE.trans e4), hlt, ?_⟩ (by omega)
      rw [of_take g s i hlt, if_pos heq]
      exact ho'
    · refine wk ?_
      refine Arr.again (i := (i, v)) (i + 1, v) has ⟨hE, hlt, ?_⟩ (by omega)
      rw [of_take g s i hlt, if_neg hne, List.append_nil]
      exact ho
  · refine wk ?_
    have : i = g.rules.length := by omega
    subst this
    rw [List.take_length] at ho
    exact Arr.ret1 rfl rfl ⟨ho.lower (by omega), e1.trans hE⟩
end Go.Proofs.YtbadjlhijbkbbaaGreat

/-
  Do nonterminals stand as they come?
-/
set_option linter.unusedVariables false
namespace Go.Proofs.YtbadjlhijbkbbaaGreat
open Go Go.RowKit Sx
variable {S S' : Nat → Prop} {w : World} {g : Gram} {A A0 A1 A2 : Option Addr} {n c c0 c1 c2 : Nat}

theorem isNaNI (x : Int) : Calls Tryz.prog 177 [.int .i64 x].toArray w (Ret fun v w' => v = .bool false ∧ Ext w w') := by
  refine enter Tryz.func177 rfl Tryz.ntmps177 rfl ?_
  refine wk ?_
  refine Arr.ret1 rfl rfl ⟨?_, Ext.refl w⟩
  simp
def sortedB (xs : List Int) : Bool := decide (∀ j, j < xs.length - 1 → xs[j]?.getD 0 ≤ xs[j + 1]?.getD 0)
theorem idxI_first {α : Type} (p : α → Bool) (xs : List α) : (if idxI p xs < 0 then (xs.length : Int) else idxI p xs) = (xs.findIdx p : Nat) := by
  unfold idxI
  cases h : xs.findIdx? p with
  | some i =>
    have := List.findIdx?_eq_some_iff_findIdx_eq.1 h
    simp [this.2]
    omega
  | none =>
    have := List.findIdx?_eq_none_iff_findIdx_eq.1 h
    simp [this]
theorem ofFrom_first (s : Int) : ∀ (l : List Rule) (k : Nat), match Gram.ofFrom s l k with
    | [] => l.findIdx (fun r => decide (r.left = s)) = l.length
    | x :: _ => x = k + l.findIdx (fun r => decide (r.left = s))
  | [], k => by simp [Gram.ofFrom]
  | r :: l, k => by
    have ih := ofFrom_first s l (k + 1)
    simp only [Gram.ofFrom]
    by_cases h : r.left = s
    · rw [if_pos h]
      simp [List.findIdx_cons, h]
    · rw [if_neg h]
      cases hx : Gram.ofFrom s l (k + 1) with
      | nil =>
        rw [hx] at ih
        simp only at ih ⊢
        rw [List.findIdx_cons, ih]
        simp [h]
      | cons x xs =>
        rw [hx] at ih
        simp only at ih ⊢
        rw [List.findIdx_cons, ih]
        simp [h]
        omega
theorem ofFrom_get0 {s : Int} {l : List Rule} {k : Nat} (h : 0 < (Gram.ofFrom s l k).length) : (Gram.ofFrom s l k)[0] = k + l.findIdx (fun r => decide (r.left = s)) := by
  have hf := ofFrom_first s l k
  revert h hf
  generalize Gram.ofFrom s l k = x
  intro h hf
  cases x with
  | nil => simp at h
  | cons y ys => exact hf
theorem ofFrom_empty {s : Int} {l : List Rule} {k : Nat} (h : ¬ 0 < (Gram.ofFrom s l k).length) : l.findIdx (fun r => decide (r.left = s)) = l.length := by
  have hf := ofFrom_first s l k
  revert h hf
  generalize Gram.ofFrom s l k = x
  intro h hf
  cases x with
  | nil => exact hf
  | cons y ys => simp at h
end Go.Proofs.YtbadjlhijbkbbaaGreat
