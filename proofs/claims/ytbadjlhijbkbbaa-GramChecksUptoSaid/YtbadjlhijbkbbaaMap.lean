/-
  Maps from texts to numbers.
-/
import Derived.Test.YtbadjlhijbkbbaaGram
set_option linter.unusedVariables false
namespace Go.Proofs.Ytbadjlhijbkbbaa.Sx
open Go Go.RowKit
theorem bbeq (a b : ByteArray) : (a == b) = decide (a = b) := by
  have e : (a == b) = (a.data == b.data) := rfl
  rw [e]
  by_cases h : a = b
  · subst h; simp
  · rw [decide_eq_false h]
    simp only [beq_eq_false_iff_ne, ne_eq]
    exact fun h' => h (ByteArray.ext h')
instance : LawfulBEq ByteArray where
  eq_of_beq {a b} h := by
    rw [bbeq] at h
    exact of_decide_eq_true h
  rfl {a} := by rw [bbeq]; exact decide_eq_true rfl
def posM (k : ByteArray) : List (ByteArray × Int) → Nat → Option (Nat × Int)
  | [], _ => none
  | (x, v) :: r, i => if k = x then some (i, v) else posM k r (i + 1)
def getM (k : ByteArray) : List (ByteArray × Int) → Int
  | [] => 0
  | (x, v) :: r => if k = x then v else getM k r
def putM (k : ByteArray) (u : Int) : List (ByteArray × Int) → List (ByteArray × Int)
  | [] => [(k, u)]
  | (x, v) :: r => if k = x then (k, u) :: r else (x, v) :: putM k u r
def mcell (p : ByteArray × Int) : Value × Value := (.string p.1, .int .i64 p.2)
def MapIn (m : List (ByteArray × Int)) (es : Array MapEntry) : Prop := es.toList.map (fun e => (e.key, e.val)) = m.map mcell
/-- A map lies in a block. -/
def MapAt (w : World) (b : Nat) (m : List (ByteArray × Int)) : Prop := ∃ es c, w.heap[b]? = some (.map es c) ∧ MapIn m es
theorem MapAt.ext {w w' : World} {b : Nat} {m : List (ByteArray × Int)} (h : MapAt w b m) (e : Ext w w') : MapAt w' b m := by
  obtain ⟨es, c, h1, h2⟩ := h
  exact ⟨es, c, (e.block (lt_of_block h1)).trans h1, h2⟩
theorem MapAt.lt {w : World} {b : Nat} {m : List (ByteArray × Int)} (h : MapAt w b m) : b < w.heap.size := by
  obtain ⟨es, c, h1, _⟩ := h
  exact lt_of_block h1
theorem findNow_pos (k : ByteArray) : ∀ (l : List MapEntry) (m : List (ByteArray × Int)) (i : Nat), l.map (fun e => (e.key, e.val)) = m.map mcell →
    Instr.findNow .string (.string k) l i = some ((posM k m i).map fun p => (p.1, .int .i64 p.2))
  | [], m, i, h => by
    have : m = [] := by simpa using h.symm
    subst this
    rfl
  | e :: l, [], i, h => by simp at h
  | e :: l, (x, v) :: m, i, h => by
    simp only [List.map_cons, List.cons.injEq, mcell, Prod.mk.injEq] at h
    obtain ⟨⟨h1, h2⟩, h3⟩ := h
    simp only [Instr.findNow, h1, h2, Instr.sameNow, bbeq]
    by_cases hk : k = x
    · rw [decide_eq_true hk]
      simp [posM, hk]
    · rw [decide_eq_false hk]
      simp only [posM, if_neg hk]
      exact findNow_pos k l m (i + 1) h3
theorem posM_get (k : ByteArray) : ∀ (m : List (ByteArray × Int)) (i : Nat), getM k m = match posM k m i with
    | some p => p.2
    | none => 0
  | [], _ => rfl
  | (x, v) :: m, i => by
    simp only [getM, posM]
    by_cases h : k = x
    · rw [if_pos h, if_pos h]
    · rw [if_neg h, if_neg h]
      exact posM_get k m (i + 1)
theorem posM_put (k : ByteArray) (u : Int) : ∀ (m : List (ByteArray × Int)) (i : Nat), match posM k m i with
    | some p => i ≤ p.1 ∧ p.1 < i + m.length ∧ putM k u m = m.set (p.1 - i) (k, u) ∧ ∃ v, m[p.1 - i]? = some (k, v)
    | none => putM k u m = m ++ [(k, u)]
  | [], _ => rfl
  | (x, v) :: m, i => by
    have ih := posM_put k u m (i + 1)
    simp only [posM, putM]
    by_cases h : k = x
    · subst h
      simp
    · rw [if_neg h, if_neg h]
      cases hp : posM k m (i + 1) with
      | none => rw [hp] at ih; simp only at ih ⊢; rw [ih]; rfl
      | some p =>
        rw [hp] at ih
        obtain ⟨h1, h2, h3, v', h4⟩ := ih
        simp only
        have e : p.1 - i = (p.1 - (i + 1)) + 1 := by omega
        refine ⟨by omega, by simp; omega, ?_, v', ?_⟩
        · rw [e, List.set_cons_succ, h3]
        · rw [e, List.getElem?_cons_succ]; exact h4
section
variable {P : Program} {Q : Exit → Act → World → Prop} {N : Nat} {σ : Sl} {w : World} {K : Value → World → Prop}
variable {d : Option Tmp} {ty : TypeId} {ps : String} {af : Array Edge} {gd : Option (Nat × Bool)}
theorem Wop.mkMap {t : TypeId} (hk : ∀ w', Ext w w' → MapAt w' w.heap.size [] → w'.heap.size = w.heap.size + 1 → K (.map (some w.heap.size)) w') : Wop P Q N ⟨d, .makeMap t none, ty, ps, af, gd⟩ σ w K :=
  Wop.val (w' := w.alloc (.map #[] 0)) (fun ρ h => by simp [execOp, Instr.makeMap, newObj, Sem.run, World.alloc_eq]) (hk _ (Ext.alloc _ _) ⟨#[], 0, heap_alloc_new w _, rfl⟩ (by simp))
theorem run_checkS {kt : TypeId} {k : ByteArray} (hkt : P.underlying kt = some .string) (e : Bool) (w : World) : (Instr.checkKey e 10000 kt (.string k)).run P w = .ok () w := by
  rw [show 10000 = 9999 + 1 from rfl, Instr.checkKey]
  simp [run_underlying hkt]
theorem Wop.getMap {t kt et : TypeId} {x y : Operand} {b : Nat} {k : ByteArray} {m : List (ByteArray × Int)} (ht : P.underlying t = some (.map kt et)) (hkt : P.underlying kt = some .string) (hz : ∀ w, (zeroValue et).run P w = .ok (.int .i64 0) w)
    (hx : look σ x = some (.map (some b))) (hy : look σ y = some (.string k)) (hm : MapAt w b m) (hk : K (.int .i64 (getM k m)) w) : Wop P Q N ⟨d, .lookup t x y false, ty, ps, af, gd⟩ σ w K := by
  obtain ⟨es, c, h1, h2⟩ := hm
  refine Wop.val (fun ρ h => ?_) hk
  have hf := findNow_pos k es.toList m 0 h2
  have hg := posM_get k m 0
  cases hp : posM k m 0 with
  | none =>
    rw [hp] at hf hg
    simp [execOp, h x _ hx, h y _ hy, Instr.lookup, run_underlying ht, getObj, Sem.run, h1, run_checkS hkt, run_underlying hkt, Instr.findKey, hf, hz, hg]
  | some p =>
    rw [hp] at hf hg
    simp [execOp, h x _ hx, h y _ hy, Instr.lookup, run_underlying ht, getObj, Sem.run, h1, run_checkS hkt, run_underlying hkt, Instr.findKey, hf, hg]
theorem Wop.putMap {t kt et : TypeId} {x y z : Operand} {b : Nat} {k : ByteArray} {u : Int} {m : List (ByteArray × Int)} (ht : P.underlying t = some (.map kt et)) (hkt : P.underlying kt = some .string)
    (hx : look σ x = some (.map (some b))) (hy : look σ y = some (.string k)) (hz : look σ z = some (.int .i64 u)) (hm : MapAt w b m)
    (hk : ∀ w', Below b w w' → MapAt w' b (putM k u m) → w'.heap.size = w.heap.size → (∀ j, j ≠ b → w'.heap[j]? = w.heap[j]?) → K undef w') : Wop P Q N ⟨d, .mapUpdate t x y z, ty, ps, af, gd⟩ σ w K := by
  obtain ⟨es, c, h1, h2⟩ := hm
  have hlt := lt_of_block h1
  have hf := findNow_pos k es.toList m 0 h2
  have hg := posM_put k u m 0
  have hbel : ∀ o : Obj, Below b w { w with heap := w.heap.setIfInBounds b o } := fun o => ⟨rfl, rfl, rfl, by simp, fun j hj => by simp only [Array.getElem?_setIfInBounds]; rw [if_neg (by omega)]⟩
  have hoth : ∀ (o : Obj) (j : Nat), j ≠ b → (({ w with heap := w.heap.setIfInBounds b o } : World).heap)[j]? = w.heap[j]? := fun o j hj => by simp only [Array.getElem?_setIfInBounds]; rw [if_neg (by omega)]
  have hset : ∀ o : Obj, (({ w with heap := w.heap.setIfInBounds b o } : World).heap)[b]? = some o := fun o => by simp [hlt]
  cases hp : posM k m 0 with
  | none =>
    rw [hp] at hf hg
    refine Wop.skip (w' := { w with heap := w.heap.setIfInBounds b (.map (es.push ⟨.string k, .int .i64 u, c⟩) (c + 1)) }) (fun ρ h => ?_) (hk _ (hbel _) ⟨_, _, hset _, ?_⟩ (by simp) (hoth _))
    · simp [execOp, h x _ hx, h y _ hy, h z _ hz, Instr.mapUpdate, run_underlying ht, getObj, setObj, Sem.run, h1, run_checkS hkt, run_underlying hkt, Instr.findKey, hf]
    · simp only at hg
      unfold MapIn
      rw [hg]
      simp only [Array.toList_push, List.map_append, List.map_singleton]
      rw [h2]
      rfl
  | some p =>
    rw [hp] at hf hg
    obtain ⟨_, g2, g3, v', g4⟩ := hg
    simp only [Nat.sub_zero, Nat.zero_add] at g2 g3 g4
    have hlen : es.size = m.length := by have := congrArg List.length h2; simpa using this
    have hent : ∃ e, es[p.1]? = some e ∧ e.key = .string k := by
      have h5 : (es.toList.map (fun e => (e.key, e.val)))[p.1]? = some (mcell (k, v')) := by rw [h2, List.getElem?_map, g4]; rfl
      rw [List.getElem?_map] at h5
      obtain ⟨e, he, hee⟩ := Option.map_eq_some_iff.1 h5
      exact ⟨e, by simpa using he, congrArg Prod.fst hee⟩
    obtain ⟨e, he, hek⟩ := hent
    refine Wop.skip (w' := { w with heap := w.heap.setIfInBounds b (.map (es.modify p.1 fun e => { e with key := .string k, val := .int .i64 u }) c) }) (fun ρ h => ?_) (hk _ (hbel _) ⟨_, _, hset _, ?_⟩ (by simp) (hoth _))
    · simp [execOp, h x _ hx, h y _ hy, h z _ hz, Instr.mapUpdate, run_underlying ht, getObj, setObj, Sem.run, h1, run_checkS hkt, run_underlying hkt, Instr.findKey, hf, he, hek, Instr.keyThatStays, Instr.sameBits]
    · unfold MapIn
      rw [g3]
      apply List.ext_getElem?
      intro j
      rw [List.getElem?_map, List.getElem?_map, List.getElem?_set]
      have h5 : ∀ j : Nat, (es.toList[j]?).map (fun e : MapEntry => (e.key, e.val)) = (m[j]?).map mcell := fun j => by
        have h2 : es.toList.map (fun e : MapEntry => (e.key, e.val)) = m.map mcell := h2
        have := congrArg (fun l => l[j]?) h2
        simpa [List.getElem?_map] using this
      by_cases hj : p.1 = j
      · subst hj
        simp [he, g2, mcell]
      · simp [hj]
        have := h5 j
        simpa using this
theorem Wop.lenMap {t kt et : TypeId} {ar : Array TypeId} {x : Operand} {b : Nat} {m : List (ByteArray × Int)} (hx : look σ x = some (.map (some b))) (ht : ar = #[t]) (hu : P.underlying t = some (.map kt et)) (hm : MapAt w b m) (hk : K (.int .i64 (m.length : Int)) w) :
    Wop P Q N ⟨d, .call ⟨.builtin .len, #[x], ar⟩, ty, ps, af, gd⟩ σ w K := by
  subst ht
  obtain ⟨es, c, h1, h2⟩ := hm
  have hlen : es.size = m.length := by have := congrArg List.length h2; simpa using this
  exact Wop.val (fun ρ h => by simp [execOp, resolve, invoke, builtin, h x _ hx, Builtin.len_, run_underlying hu, getObj, Sem.run, h1, hlen, goInt]) hk
end
end Go.Proofs.Ytbadjlhijbkbbaa.Sx
