/-
  Joined by program out of the texts Tab Mem Gram Row Utl Mut Wr Map Grow Str: lemmas for the proofs of this seat; no condition.
-/
import Derived.Test.YtbadjlhijbkbbaaGreatBa
import Derived.Test.YtbadjlhijbkbbaaGreatProg
import Derived.Maps.AppendAt
import Derived.Laws.MakeOwn
/-
  The program's types in small tables, and the operations that need no more than these and the slots: one law for all of them.
-/
set_option linter.unusedVariables false
namespace Go.Proofs.YtbadjlhijbkbbaaGreat.Sx
open Go Go.RowKit

/-- By a type's number: its kind (0 struct or array, 1 slice, 2 string, 3 bool, 4 another), its cells, a slice's element type. By a struct type's number and a field's: the field's offset. -/
structure Tab (P : Program) where
  kinds : List Nat
  sizes : List Nat
  elems : List Nat
  flds : List (List Nat)
  agg : ∀ t, nth kinds t = some 0 → ∀ w, (isAgg t).run P w = .ok true w
  plain : ∀ t k, nth kinds t = some (k + 1) → ∀ w, (isAgg t).run P w = .ok false w
  slice : ∀ t e, nth kinds t = some 1 → nth elems t = some e → P.underlying t = some (.slice e)
  str : ∀ t, nth kinds t = some 2 → P.underlying t = some .string
  bool : ∀ t, nth kinds t = some 3 → P.underlying t = some .bool
  size : ∀ t n, nth sizes t = some n → ∀ w, (Go.sizeOf t).run P w = .ok n w
  fld : ∀ t f l o, nth flds t = some l → nth l f = some o → FieldOk P t f o

def lookL (σ : Sl) : List Operand → Option (List Value)
  | [] => some []
  | x :: r => match look σ x with
    | some v => match lookL σ r with
      | some vs => some (v :: vs)
      | none => none
    | none => none
theorem lookL_map {σ : Sl} {ρ : Operand → Value} (h : ∀ x u, look σ x = some u → ρ x = u) : ∀ {l : List Operand} {vs : List Value}, lookL σ l = some vs → l.map ρ = vs
  | [], vs, hl => by simp [lookL] at hl; simp [hl]
  | x :: r, vs, hl => by
    unfold lookL at hl
    cases hx : look σ x with
    | none => rw [hx] at hl; cases hl
    | some v =>
      rw [hx] at hl
      simp only at hl
      cases hr : lookL σ r with
      | none => rw [hr] at hl; cases hl
      | some us =>
        rw [hr] at hl
        cases hl
        simp [h x v hx, lookL_map h hr]

theorem lookL_arr {σ : Sl} {ρ : Operand → Value} (h : ∀ x u, look σ x = some u → ρ x = u) {l : Array Operand} {vs : List Value} (hl : lookL σ l.toList = some vs) : l.map ρ = vs.toArray :=
  Array.ext' (by rw [Array.toList_map]; exact lookL_map h hl)

def sameK : IntKind → IntKind → Bool
  | .i64, .i64 => true
  | .u8, .u8 => true
  | .i32, .i32 => true
  | .u64, .u64 => true
  | .u16, .u16 => true
  | .i8, .i8 => true
  | .i16, .i16 => true
  | .u32, .u32 => true
  | _, _ => false
theorem sameK_eq {k l : IntKind} (h : sameK k l = true) : k = l := by cases k <;> cases l <;> first | rfl | (simp [sameK] at h)

/-- Comparisons. -/
def cmpV : BinOp → Value → Value → Option Value
  | op, .int k m, .int l n => match sameK k l with
    | true => match op with
      | .lss => some (.bool (decide (m < n)))
      | .leq => some (.bool (decide (m ≤ n)))
      | .gtr => some (.bool (decide (n < m)))
      | .geq => some (.bool (decide (n ≤ m)))
      | .eql => some (.bool (decide (m = n)))
      | .neq => some (.bool (decide (m ≠ n)))
      | _ => none
    | false => none
  | op, .string a, .string b => match op with
    | .eql => some (.bool (decide (a = b)))
    | .neq => some (.bool (decide (a ≠ b)))
    | _ => none
  | _, _, _ => none

def pureV {P : Program} (T : Tab P) (σ : Sl) : Op → Option Value
  | .move x => look σ x
  | .assign x => look σ x
  | .unOp .not _ x => match look σ x with
    | some (.bool b) => some (.bool !b)
    | _ => none
  | .pick c x y => match look σ c with
    | some (.bool true) => look σ x
    | some (.bool false) => look σ y
    | _ => none
  | .extract x i => match look σ x with
    | some (.tuple vs) => vs[i]?
    | _ => none
  | .nilCheck x => match look σ x with
    | some (.pointer (some a)) => some (.pointer (some a))
    | _ => none
  | .makeFunc fn first cap => match lookL σ first.toList with
    | some vs => match lookL σ cap.toList with
      | some us => some (.func fn vs.toArray us.toArray)
      | none => none
    | none => none
  | .binOp op t x y _ => match look σ x with
    | some u => match look σ y with
      | some v => match u, v with
        | .bool a, .bool b => match nth T.kinds t with
          | some 3 => match op with
            | .eql => some (.bool (a == b))
            | .neq => some (.bool (a != b))
            | _ => none
          | _ => none
        | _, _ => cmpV op u v
      | none => none
    | none => none
  | .fieldAddr t x f => match look σ x with
    | some (.pointer (some ⟨b, o, none⟩)) => match nth T.flds t with
      | some l => match nth l f with
        | some off => some (.pointer (some ⟨b, o + off, none⟩))
        | none => none
      | none => none
    | _ => none
  | .call ⟨.builtin .len, args, ar⟩ => match args.toList with
    | [x] => match ar.toList with
      | [t] => match look σ x with
        | some (.slice _ n _) => match nth T.kinds t with
          | some 1 => match nth T.elems t with
            | some _ => some (.int .i64 (n : Int))
            | none => none
          | _ => none
        | some (.string s) => match nth T.kinds t with
          | some 2 => some (.int .i64 (s.size : Int))
          | _ => none
        | _ => none
      | _ => none
    | _ => none
  | _ => none

section
variable {P : Program} {Q : Exit → Act → World → Prop} {N : Nat} {σ : Sl} {w : World} {K : Value → World → Prop}
variable {d : Option Tmp} {ty : TypeId} {ps : String} {af : Array Edge} {gd : Option (Nat × Bool)}

theorem cmpV_run {op : BinOp} {t t' : TypeId} {x y : Operand} {u v r : Value} (hx : look σ x = some u) (hy : look σ y = some v) (h : cmpV op u v = some r) (hk : K r w) : Wop P Q N ⟨d, .binOp op t x y t', ty, ps, af, gd⟩ σ w K := by
  unfold cmpV at h
  split at h
  · rename_i k m l n
    split at h
    · rename_i hs
      have := sameK_eq hs
      subst this
      split at h <;> first | (cases h; done) | (cases h; first | exact Wop.lss hx hy hk | exact Wop.leq hx hy hk | exact Wop.gtr hx hy hk | exact Wop.geq hx hy hk | exact Wop.eqlI hx hy hk | exact Wop.neqI hx hy hk)
    · cases h
  · split at h <;> first | (cases h; done) | (cases h; first | exact Wop.eqlS hx hy hk | exact Wop.neqS hx hy hk)
  · cases h

theorem Wop.pure (T : Tab P) {op : Op} {v : Value} (h : pureV T σ op = some v) (hk : K v w) : Wop P Q N ⟨d, op, ty, ps, af, gd⟩ σ w K := by
  unfold pureV at h
  split at h
  · exact Wop.move h hk
  · exact Wop.assign h hk
  · split at h
    · rename_i hx; cases h; exact Wop.not hx hk
    · cases h
  · split at h
    · rename_i hc; exact Wop.pickT hc h hk
    · rename_i hc; exact Wop.pickF hc h hk
    · cases h
  · split at h
    · rename_i hx; exact Wop.extract hx h hk
    · cases h
  · split at h
    · rename_i hx; cases h; exact Wop.nilCheckP hx hk
    · cases h
  · split at h
    · rename_i h1
      split at h
      · rename_i h2
        cases h
        exact Wop.val (fun ρ hρ => by
          have e1 := lookL_arr hρ h1
          have e2 := lookL_arr hρ h2
          simp [execOp, e1, e2, Instr.makeFunc]) hk
      · cases h
    · cases h
  · split at h
    · rename_i hx
      split at h
      · rename_i hy
        split at h
        · split at h
          · rename_i ht
            split at h
            · cases h; exact Wop.eqlB (T.bool _ ht) hx hy hk
            · cases h; exact Wop.neqB (T.bool _ ht) hx hy hk
            · cases h
          · cases h
        · exact cmpV_run hx hy h hk
      · cases h
    · cases h
  · split at h
    · rename_i hx
      split at h
      · rename_i hl
        split at h
        · rename_i hf; cases h; exact Wop.fieldAddr hx (T.fld _ _ _ _ hl hf) hk
        · cases h
      · cases h
    · cases h
  · rename_i args ar
    split at h
    · rename_i x hargs
      split at h
      · rename_i t har
        have e1 : args = #[x] := Array.ext' hargs
        have e2 : ar = #[t] := Array.ext' har
        subst e1; subst e2
        split at h
        · rename_i hx
          split at h
          · rename_i ht
            split at h
            · rename_i he; cases h; exact Wop.lenS hx rfl (T.slice _ _ ht he) hk
            · cases h
          · cases h
        · rename_i hx
          split at h
          · rename_i ht; cases h; exact Wop.lenStr hx rfl (T.str _ ht) hk
          · cases h
        · cases h
      · cases h
    · cases h
  · cases h

/-! ### What needs a fact beside -/
/-- A cell is read. -/
theorem Wop.ld (T : Tab P) {t : TypeId} {x : Operand} {a : Addr} {v : Value} {k : Nat} (ht : nth T.kinds t = some (k + 1)) (hx : look σ x = some (.pointer (some a))) (hc : w.cell? a = some v) (hk : K v w) : Wop P Q N ⟨d, .load t x, ty, ps, af, gd⟩ σ w K :=
  Wop.load hx (T.plain t k ht) hc hk
theorem Wop.ldB (T : Tab P) {t : TypeId} {x : Operand} {b i : Nat} {cs : Array Value} {u : TypeId} {v : Value} {k : Nat} (ht : nth T.kinds t = some (k + 1)) (hx : look σ x = some (.pointer (some ⟨b, i, none⟩))) (hb : Blk w b cs u) (hi : cs[i]? = some v) (hk : K v w) : Wop P Q N ⟨d, .load t x, ty, ps, af, gd⟩ σ w K :=
  Wop.load hx (T.plain t k ht) (hb.cell hi) hk
/-- A struct that is a whole block is read. -/
theorem Wop.ldA (T : Tab P) {t : TypeId} {x : Operand} {b : Nat} {cs : Array Value} {u : TypeId} (ht : nth T.kinds t = some 0) (hs : nth T.sizes t = some cs.size) (hx : look σ x = some (.pointer (some ⟨b, 0, none⟩))) (hb : Blk w b cs u) (hk : K (.agg cs) w) : Wop P Q N ⟨d, .load t x, ty, ps, af, gd⟩ σ w K :=
  Wop.loadB hx (T.agg t ht) (T.size t _ hs) rfl hb hk
/-- A struct in a row is read. -/
theorem Wop.ldR (T : Tab P) {t : TypeId} {x : Operand} {b o : Nat} {cs : List Value} (ht : nth T.kinds t = some 0) (hs : nth T.sizes t = some cs.length) (hx : look σ x = some (.pointer (some ⟨b, o, none⟩))) (hc : ∀ k v, cs[k]? = some v → w.cell? ⟨b, o + k, none⟩ = some v) (hk : K (.agg cs.toArray) w) : Wop P Q N ⟨d, .load t x, ty, ps, af, gd⟩ σ w K :=
  Wop.loads hx (T.agg t ht) (T.size t _ hs) rfl (fun j v hj => by rw [add_at]; exact hc j v hj) hk
theorem cells_ext {w' : World} (e : Ext w w') {b o : Nat} {cs : List Value} (h : ∀ k v, cs[k]? = some v → w.cell? ⟨b, o + k, none⟩ = some v) : ∀ k v, cs[k]? = some v → w'.cell? ⟨b, o + k, none⟩ = some v := fun k v hk => e.cell (h k v hk)
theorem Wop.ix (T : Tab P) {t e : TypeId} {x y : Operand} {b o n c i sz : Nat} (ht : nth T.kinds t = some 1) (he : nth T.elems t = some e) (hs : nth T.sizes e = some sz) (hx : look σ x = some (.slice (some ⟨b, o, none⟩) n c)) (hy : look σ y = some (.int .i64 (i : Int))) (hi : i < n)
    (hk : K (.pointer (some ⟨b, o + i * sz, none⟩)) w) : Wop P Q N ⟨d, .indexAddr t x y, ty, ps, af, gd⟩ σ w K :=
  Wop.indexAddr hx hy (T.slice t e ht he) (T.size e sz hs) hi hk
/-- The same at an Int that is known to lie in between. -/
theorem Wop.ixI (T : Tab P) {t e : TypeId} {x y : Operand} {b o n c sz : Nat} {m : Int} (i : Nat) (ht : nth T.kinds t = some 1) (he : nth T.elems t = some e) (hs : nth T.sizes e = some sz) (hx : look σ x = some (.slice (some ⟨b, o, none⟩) n c)) (hy : look σ y = some (.int .i64 m)) (hm : m = (i : Int)) (hi : i < n)
    (hk : K (.pointer (some ⟨b, o + i * sz, none⟩)) w) : Wop P Q N ⟨d, .indexAddr t x y, ty, ps, af, gd⟩ σ w K := by
  subst hm
  exact Wop.ix T ht he hs hx hy hi hk
theorem Wop.st (T : Tab P) {t : TypeId} {x y : Operand} {b i : Nat} {cs : Array Value} {u : TypeId} {v old : Value} (hs : nth T.sizes t = some 1) (hx : look σ x = some (.pointer (some ⟨b, i, none⟩))) (hy : look σ y = some v) (hv : v.oneCell' = true) (hb : Blk w b cs u) (hi : cs[i]? = some old)
    (hk : K undef (w.setCell ⟨b, i, none⟩ v)) : Wop P Q N ⟨d, .store t x y, ty, ps, af, gd⟩ σ w K := Wop.store1 hx hy hv (T.size t 1 hs) hb hi hk
end

/-! ### Calls -/
section
variable {P : Program} {Q : Exit → Act → World → Prop} {N : Nat} {σ : Sl} {w : World} {K : Value → World → Prop}
variable {d : Option Tmp} {ty : TypeId} {ps : String} {af : Array Edge} {gd : Option (Nat × Bool)}
theorem Wop.fn {f : FuncId} {xs : Array Operand} {ar : Array TypeId} {args : List Value} {Φ : Value → World → Prop} (he : Enters P f) (hx : lookL σ xs.toList = some args)
    (hc : Calls P f args.toArray w (Ret Φ)) (hk : ∀ v w', Φ v w' → K v w') : Wop P Q N ⟨d, .call ⟨.value (.func f), xs, ar⟩, ty, ps, af, gd⟩ σ w K := by
  refine Wop.enter (fun ρ h => ?_) hc hk
  have h2 : ρ (.func f) = .func (.func f) #[] #[] := h _ _ rfl
  simp [execOp, resolve, Deferred.ofValue, invoke, lookL_arr h hx, h2, he args.toArray w]
theorem Wop.fnV {f : FuncId} {g : Operand} {cap : List Value} {xs : Array Operand} {ar : Array TypeId} {args : List Value} {Φ : Value → World → Prop} (he : Enters P f) (hg : look σ g = some (.func (.func f) #[] cap.toArray)) (hx : lookL σ xs.toList = some args)
    (hc : Calls P f (args ++ cap).toArray w (Ret Φ)) (hk : ∀ v w', Φ v w' → K v w') : Wop P Q N ⟨d, .call ⟨.value g, xs, ar⟩, ty, ps, af, gd⟩ σ w K := by
  refine Wop.enter (fun ρ h => ?_) hc hk
  simp [execOp, resolve, Deferred.ofValue, invoke, lookL_arr h hx, h _ _ hg, he (args ++ cap).toArray w]
end

/-! ### The tables are right: by one reckoning -/
def kindOf (P : Program) (t : Nat) : Nat := match P.underlying t with
  | some (.struct _) => 0
  | some (.array _ _) => 0
  | some (.slice _) => 1
  | some .string => 2
  | some .bool => 3
  | some _ => 4
  | none => 100
def sizeIn (P : Program) (t : Nat) : Nat := match P.info? t with
  | some i => i.size
  | none => 1000000
def elemIn (P : Program) (t : Nat) : Nat := match P.underlying t with
  | some (.slice e) => e
  | _ => 0
def fieldIn (P : Program) (t f o : Nat) : Bool := match P.underlying t with
  | some (.struct fs) => match fs[f]? with
    | some fd => Nat.beq fd.offset o && (match P.info? fd.type with
      | some i => !Nat.beq i.size 0
      | none => false)
    | none => false
  | _ => false
def fieldsIn (P : Program) (t : Nat) : List Nat → Nat → Bool
  | [], _ => true
  | o :: r, f => fieldIn P t f o && fieldsIn P t r (f + 1)
def allFrom (p : Nat → Nat → Bool) : List Nat → Nat → Bool
  | [], _ => true
  | x :: r, t => p t x && allFrom p r (t + 1)
def allFromL (p : Nat → List Nat → Bool) : List (List Nat) → Nat → Bool
  | [], _ => true
  | x :: r, t => p t x && allFromL p r (t + 1)
theorem allFrom_spec {p : Nat → Nat → Bool} : ∀ {l : List Nat} {k : Nat}, allFrom p l k = true → ∀ t x, nth l t = some x → p (k + t) x = true
  | [], _, _, t, x, h => by simp [nth] at h
  | y :: r, k, h, 0, x, hx => by simp [nth] at hx; subst hx; simp only [allFrom, Bool.and_eq_true] at h; exact h.1
  | y :: r, k, h, t + 1, x, hx => by
    simp only [allFrom, Bool.and_eq_true] at h
    have := allFrom_spec h.2 t x (by simpa [nth] using hx)
    rwa [show k + 1 + t = k + (t + 1) by omega] at this
theorem allFromL_spec {p : Nat → List Nat → Bool} : ∀ {l : List (List Nat)} {k : Nat}, allFromL p l k = true → ∀ t x, nth l t = some x → p (k + t) x = true
  | [], _, _, t, x, h => by simp [nth] at h
  | y :: r, k, h, 0, x, hx => by simp [nth] at hx; subst hx; simp only [allFromL, Bool.and_eq_true] at h; exact h.1
  | y :: r, k, h, t + 1, x, hx => by
    simp only [allFromL, Bool.and_eq_true] at h
    have := allFromL_spec h.2 t x (by simpa [nth] using hx)
    rwa [show k + 1 + t = k + (t + 1) by omega] at this
theorem fieldsIn_spec {P : Program} {t : Nat} : ∀ {l : List Nat} {k : Nat}, fieldsIn P t l k = true → ∀ f o, nth l f = some o → fieldIn P t (k + f) o = true
  | [], _, _, f, o, h => by simp [nth] at h
  | y :: r, k, h, 0, o, ho => by simp [nth] at ho; subst ho; simp only [fieldsIn, Bool.and_eq_true] at h; exact h.1
  | y :: r, k, h, f + 1, o, ho => by
    simp only [fieldsIn, Bool.and_eq_true] at h
    have := fieldsIn_spec h.2 f o (by simpa [nth] using ho)
    rwa [show k + 1 + f = k + (f + 1) by omega] at this
theorem size_of {P : Program} {t n : Nat} (h : sizeIn P t = n) (hn : n < 1000000) (w : World) : (Go.sizeOf t).run P w = .ok n w := by
  unfold sizeIn at h
  cases hi : P.info? t with
  | none => rw [hi] at h; simp at h; omega
  | some i => rw [hi] at h; simp at h; simp [Go.sizeOf, typeInfo, hi, h]
def mkTab (P : Program) (kinds sizes elems : List Nat) (flds : List (List Nat)) (h1 : allFrom (fun t k => Nat.beq (kindOf P t) k && Nat.blt k 100) kinds 0 = true) (h2 : allFrom (fun t n => Nat.beq (sizeIn P t) n && Nat.blt n 1000000) sizes 0 = true)
    (h3 : allFrom (fun t e => Nat.beq (elemIn P t) e) elems 0 = true) (h4 : allFromL (fun t l => fieldsIn P t l 0) flds 0 = true) : Tab P where
  kinds := kinds
  sizes := sizes
  elems := elems
  flds := flds
  agg := fun t ht w => by
    have h := allFrom_spec h1 t 0 ht
    simp only [Nat.zero_add, Bool.and_eq_true, kindOf] at h
    cases hu : P.underlying t with
    | none => rw [hu] at h; simp at h
    | some u => rw [hu] at h; cases u <;> first | (simp at h; done) | simp [isAgg, run_underlying hu]
  plain := fun t k ht w => by
    have h := allFrom_spec h1 t (k + 1) ht
    simp only [Nat.zero_add, Bool.and_eq_true, kindOf] at h
    cases hu : P.underlying t with
    | none => rw [hu] at h; simp at h; omega
    | some u => rw [hu] at h; cases u <;> first | (simp at h; done) | simp [isAgg, run_underlying hu]
  slice := fun t e ht he => by
    have h := allFrom_spec h1 t 1 ht
    have h' := allFrom_spec h3 t e he
    simp only [Nat.zero_add, Bool.and_eq_true, kindOf] at h
    simp only [Nat.zero_add, elemIn] at h'
    cases hu : P.underlying t with
    | none => rw [hu] at h; simp at h
    | some u => rw [hu] at h h'; cases u <;> first | (simp at h; done) | (simp at h'; rw [h'])
  str := fun t ht => by
    have h := allFrom_spec h1 t 2 ht
    simp only [Nat.zero_add, Bool.and_eq_true, kindOf] at h
    cases hu : P.underlying t with
    | none => rw [hu] at h; simp at h
    | some u => rw [hu] at h; cases u <;> first | rfl | (simp at h; done)
  bool := fun t ht => by
    have h := allFrom_spec h1 t 3 ht
    simp only [Nat.zero_add, Bool.and_eq_true, kindOf] at h
    cases hu : P.underlying t with
    | none => rw [hu] at h; simp at h
    | some u => rw [hu] at h; cases u <;> first | rfl | (simp at h; done)
  size := fun t n ht w => by
    have h := allFrom_spec h2 t n ht
    simp only [Nat.zero_add, Bool.and_eq_true] at h
    exact size_of (Nat.eq_of_beq_eq_true h.1) (by simpa using h.2) w
  fld := fun t f l o hl ho => by
    have h := fieldsIn_spec (allFromL_spec h4 t l hl) f o ho
    simp only [Nat.zero_add, fieldIn] at h
    cases hu : P.underlying t with
    | none => rw [hu] at h; simp at h
    | some u =>
      rw [hu] at h
      cases u <;> try (simp at h; done)
      rename_i fs
      simp only at h
      cases hf : fs[f]? with
      | none => rw [hf] at h; simp at h
      | some fd =>
        rw [hf] at h
        simp only [Bool.and_eq_true] at h
        obtain ⟨h5, h6⟩ := h
        cases hi : P.info? fd.type with
        | none => rw [hi] at h6; simp at h6
        | some i =>
          rw [hi] at h6
          refine ⟨fs, fd, i.size, hu, hf, Nat.eq_of_beq_eq_true h5, fun w => by simp [Go.sizeOf, typeInfo, hi], ?_⟩
          simp only [Bool.not_eq_true'] at h6
          cases hz : i.size with
          | zero => rw [hz] at h6; simp at h6
          | succ n => rfl
end Go.Proofs.YtbadjlhijbkbbaaGreat.Sx
namespace Go.Proofs.YtbadjlhijbkbbaaGreat
open Go Go.RowKit Sx
def kindsT : List Nat := [4, 4, 4, 4, 3, 4, 4, 0, 0, 2, 2, 2, 4, 0, 0, 4, 4, 4, 0, 0, 4, 4, 1, 1, 0, 0, 0, 0, 0, 0, 4, 4, 4, 4, 4, 4, 4, 4, 4, 4, 1, 4, 4, 4, 4, 4, 4, 1, 4, 4, 4, 4, 0, 0, 4, 4, 4, 4, 4, 4, 4, 1, 1, 0, 0, 4, 4, 4, 1, 4, 4, 4, 0, 0, 4, 4, 4, 4, 4, 4, 4, 1, 4, 4, 4, 4, 4, 1, 0, 0, 0, 0, 0, 0, 1, 4, 4, 0, 0, 4, 4, 4, 4, 4, 0, 0, 4, 4, 4, 0, 0, 4, 0, 0, 1, 0, 0, 4, 1, 0, 0, 4, 4, 4, 4, 4, 4, 4, 4, 4, 4, 4, 4, 4, 4, 4, 4, 4, 4, 4, 4, 4, 4, 4, 4, 4, 4, 4, 4, 1, 0, 0, 4, 4, 0, 1, 0, 0, 0, 0, 0, 0, 4, 4, 4, 4, 4, 4, 0, 0, 4, 4, 4, 4, 4, 4, 4, 4, 4, 4, 4, 4, 4, 4, 4, 4, 4, 4, 4, 4, 4, 4, 4, 4, 4, 4, 4, 4, 4, 4, 4, 4, 4, 4, 4, 4, 4, 4, 4, 4, 4, 4, 4, 4, 4, 0, 0, 4, 4, 4, 4, 4, 4, 4, 4, 4, 4, 4, 4, 4, 4, 4, 4, 4, 4, 1, 4, 4, 4, 4, 4, 4, 4, 4, 4, 4, 0, 0, 4, 4, 4, 4, 0, 0, 0, 0, 0, 4, 4, 4, 4, 4, 0, 0, 4]
def sizesT : List Nat := [1, 1, 1, 1, 1, 1, 1, 4, 4, 1, 1, 1, 1, 2, 2, 1, 1, 1, 1, 1, 1, 1, 1, 1, 4, 4, 2, 2, 6, 6, 1, 1, 1, 1, 1, 1, 1, 1, 1, 1, 1, 1, 1, 1, 1, 1, 1, 1, 1, 1, 1, 1, 4, 4, 1, 1, 1, 1, 1, 1, 1, 1, 1, 3, 3, 1, 1, 1, 1, 1, 1, 1, 2, 2, 1, 1, 1, 1, 1, 1, 1, 1, 1, 1, 1, 1, 1, 1, 2, 2, 2, 2, 2, 2, 1, 1, 1, 2, 2, 1, 1, 1, 1, 1, 2, 2, 1, 1, 1, 4, 4, 1, 6, 6, 1, 1, 1, 1, 1, 2, 2, 1, 1, 1, 1, 1, 1, 1, 1, 1, 1, 1, 1, 1, 1, 1, 1, 1, 1, 1, 1, 1, 1, 1, 1, 1, 1, 1, 1, 1, 8, 8, 1, 1, 2, 1, 1, 1, 3, 3, 1, 1, 1, 1, 1, 1, 1, 1, 3, 3, 1, 1, 1, 1, 1, 1, 1, 1, 1, 1, 1, 1, 1, 1, 1, 1, 1, 1, 1, 1, 1, 1, 1, 1, 1, 1, 1, 1, 1, 1, 1, 1, 1, 1, 1, 1, 1, 1, 1, 1, 1, 1, 1, 1, 1, 2, 2, 1, 1, 1, 1, 1, 1, 1, 1, 1, 1, 1, 1, 1, 1, 1, 1, 1, 1, 1, 1, 1, 1, 1, 1, 1, 1, 1, 1, 1, 2, 2, 1, 1, 1, 1, 4, 4, 0, 0, 0, 1, 1, 1, 1, 1, 11, 11, 1]
def elemsT : List Nat := [0, 0, 0, 0, 0, 0, 0, 0, 0, 0, 0, 0, 0, 0, 0, 0, 0, 0, 0, 0, 0, 0, 9, 93, 0, 0, 0, 0, 0, 0, 0, 0, 0, 0, 0, 0, 0, 0, 0, 0, 3, 0, 0, 0, 0, 0, 0, 110, 0, 0, 0, 0, 0, 0, 0, 0, 0, 0, 0, 0, 0, 53, 4, 0, 0, 0, 0, 0, 73, 0, 0, 0, 0, 0, 0, 0, 0, 0, 0, 0, 0, 89, 0, 0, 0, 0, 0, 91, 0, 0, 0, 0, 0, 0, 40, 0, 0, 0, 0, 0, 0, 0, 0, 0, 0, 0, 0, 0, 0, 0, 0, 0, 0, 0, 113, 0, 0, 0, 5, 0, 0, 0, 0, 0, 0, 0, 0, 0, 0, 0, 0, 0, 0, 0, 0, 0, 0, 0, 0, 0, 0, 0, 0, 0, 0, 0, 0, 0, 0, 68, 0, 0, 0, 0, 0, 159, 0, 0, 0, 0, 0, 0, 0, 0, 0, 0, 0, 0, 0, 0, 0, 0, 0, 0, 0, 0, 0, 0, 0, 0, 0, 0, 0, 0, 0, 0, 0, 0, 0, 0, 0, 0, 0, 0, 0, 0, 0, 0, 0, 0, 0, 0, 0, 0, 0, 0, 0, 0, 0, 0, 0, 0, 0, 0, 0, 0, 0, 0, 0, 0, 0, 0, 0, 0, 0, 0, 0, 0, 0, 0, 0, 0, 0, 0, 0, 22, 0, 0, 0, 0, 0, 0, 0, 0, 0, 0, 0, 0, 0, 0, 0, 0, 0, 0, 0, 0, 0, 0, 0, 0, 0, 0, 0, 0, 0]
def fldsT : List (List Nat) := [[], [], [], [], [], [], [], [0, 1, 2, 3], [0, 1, 2, 3], [], [], [], [], [0, 1], [0, 1], [], [], [], [0], [0], [], [], [], [], [0, 1, 2, 3], [0, 1, 2, 3], [0, 1], [0, 1], [0, 1, 2, 4], [0, 1, 2, 4], [], [], [], [], [], [], [], [], [], [], [], [], [], [], [], [], [], [], [], [], [], [], [0, 1, 2, 3], [0, 1, 2, 3], [], [], [], [], [], [], [], [], [], [0, 1, 2], [0, 1, 2], [], [], [], [], [], [], [], [0, 1], [0, 1], [], [], [], [], [], [], [], [], [], [], [], [], [], [], [0, 1], [0, 1], [0, 1], [0, 1], [0, 1], [0, 1], [], [], [], [0, 1], [0, 1], [], [], [], [], [], [0, 1], [0, 1], [], [], [], [0, 1, 2, 3], [0, 1, 2, 3], [], [0, 4, 5], [0, 4, 5], [], [0], [0], [], [], [0, 1], [0, 1], [], [], [], [], [], [], [], [], [], [], [], [], [], [], [], [], [], [], [], [], [], [], [], [], [], [], [], [], [], [0, 4, 5, 6, 7], [0, 4, 5, 6, 7], [], [], [], [], [0], [0], [0, 1, 2], [0, 1, 2], [0], [0], [], [], [], [], [], [], [0, 1, 2], [0, 1, 2], [], [], [], [], [], [], [], [], [], [], [], [], [], [], [], [], [], [], [], [], [], [], [], [], [], [], [], [], [], [], [], [], [], [], [], [], [], [], [], [], [], [], [], [], [], [0, 1], [0, 1], [], [], [], [], [], [], [], [], [], [], [], [], [], [], [], [], [], [], [], [], [], [], [], [], [], [], [], [], [], [0, 1], [0, 1], [], [], [], [], [0, 1, 2, 3], [0, 1, 2, 3], [], [], [], [], [], [], [], [], [0, 1, 2, 3, 4, 5, 6, 7, 8, 9, 10], [0, 1, 2, 3, 4, 5, 6, 7, 8, 9, 10], []]
theorem kindsT_ok : allFrom (fun t k => Nat.beq (kindOf Tryz.prog t) k && Nat.blt k 100) kindsT 0 = true := by kernel_rfl
theorem sizesT_ok : allFrom (fun t n => Nat.beq (sizeIn Tryz.prog t) n && Nat.blt n 1000000) sizesT 0 = true := by kernel_rfl
theorem elemsT_ok : allFrom (fun t e => Nat.beq (elemIn Tryz.prog t) e) elemsT 0 = true := by kernel_rfl
theorem fldsT_ok : allFromL (fun t l => fieldsIn Tryz.prog t l 0) fldsT 0 = true := by kernel_rfl
/-- The seat's table. -/
def TT : Tab Tryz.prog := mkTab Tryz.prog kindsT sizesT elemsT fldsT kindsT_ok sizesT_ok elemsT_ok fldsT_ok
theorem mixed : Tryz.prog.follows .mixedOrders = true := by kernel_rfl
theorem en3 : Enters Tryz.prog 3 := callFunc_run Tryz.func3 rfl (by kernel_rfl)
theorem en4 : Enters Tryz.prog 4 := callFunc_run Tryz.func4 rfl (by kernel_rfl)
theorem en5 : Enters Tryz.prog 5 := callFunc_run Tryz.func5 rfl (by kernel_rfl)
theorem en6 : Enters Tryz.prog 6 := callFunc_run Tryz.func6 rfl (by kernel_rfl)
theorem en7 : Enters Tryz.prog 7 := callFunc_run Tryz.func7 rfl (by kernel_rfl)
theorem en8 : Enters Tryz.prog 8 := callFunc_run Tryz.func8 rfl (by kernel_rfl)
theorem en9 : Enters Tryz.prog 9 := callFunc_run Tryz.func9 rfl (by kernel_rfl)
theorem en10 : Enters Tryz.prog 10 := callFunc_run Tryz.func10 rfl (by kernel_rfl)
theorem en11 : Enters Tryz.prog 11 := callFunc_run Tryz.func11 rfl (by kernel_rfl)
theorem en12 : Enters Tryz.prog 12 := callFunc_run Tryz.func12 rfl (by kernel_rfl)
theorem en13 : Enters Tryz.prog 13 := callFunc_run Tryz.func13 rfl (by kernel_rfl)
theorem en14 : Enters Tryz.prog 14 := callFunc_run Tryz.func14 rfl (by kernel_rfl)
theorem en15 : Enters Tryz.prog 15 := callFunc_run Tryz.func15 rfl (by kernel_rfl)
theorem en16 : Enters Tryz.prog 16 := callFunc_run Tryz.func16 rfl (by kernel_rfl)
theorem en17 : Enters Tryz.prog 17 := callFunc_run Tryz.func17 rfl (by kernel_rfl)
theorem en18 : Enters Tryz.prog 18 := callFunc_run Tryz.func18 rfl (by kernel_rfl)
theorem en19 : Enters Tryz.prog 19 := callFunc_run Tryz.func19 rfl (by kernel_rfl)
theorem en20 : Enters Tryz.prog 20 := callFunc_run Tryz.func20 rfl (by kernel_rfl)
theorem en21 : Enters Tryz.prog 21 := callFunc_run Tryz.func21 rfl (by kernel_rfl)
theorem en22 : Enters Tryz.prog 22 := callFunc_run Tryz.func22 rfl (by kernel_rfl)
theorem en23 : Enters Tryz.prog 23 := callFunc_run Tryz.func23 rfl (by kernel_rfl)
theorem en24 : Enters Tryz.prog 24 := callFunc_run Tryz.func24 rfl (by kernel_rfl)
theorem en25 : Enters Tryz.prog 25 := callFunc_run Tryz.func25 rfl (by kernel_rfl)
theorem en26 : Enters Tryz.prog 26 := callFunc_run Tryz.func26 rfl (by kernel_rfl)
theorem en27 : Enters Tryz.prog 27 := callFunc_run Tryz.func27 rfl (by kernel_rfl)
theorem en28 : Enters Tryz.prog 28 := callFunc_run Tryz.func28 rfl (by kernel_rfl)
theorem en29 : Enters Tryz.prog 29 := callFunc_run Tryz.func29 rfl (by kernel_rfl)
theorem en30 : Enters Tryz.prog 30 := callFunc_run Tryz.func30 rfl (by kernel_rfl)
theorem en31 : Enters Tryz.prog 31 := callFunc_run Tryz.func31 rfl (by kernel_rfl)
theorem en32 : Enters Tryz.prog 32 := callFunc_run Tryz.func32 rfl (by kernel_rfl)
theorem en33 : Enters Tryz.prog 33 := callFunc_run Tryz.func33 rfl (by kernel_rfl)
theorem en34 : Enters Tryz.prog 34 := callFunc_run Tryz.func34 rfl (by kernel_rfl)
theorem en35 : Enters Tryz.prog 35 := callFunc_run Tryz.func35 rfl (by kernel_rfl)
theorem en36 : Enters Tryz.prog 36 := callFunc_run Tryz.func36 rfl (by kernel_rfl)
theorem en37 : Enters Tryz.prog 37 := callFunc_run Tryz.func37 rfl (by kernel_rfl)
theorem en38 : Enters Tryz.prog 38 := callFunc_run Tryz.func38 rfl (by kernel_rfl)
theorem en39 : Enters Tryz.prog 39 := callFunc_run Tryz.func39 rfl (by kernel_rfl)
theorem en40 : Enters Tryz.prog 40 := callFunc_run Tryz.func40 rfl (by kernel_rfl)
theorem en41 : Enters Tryz.prog 41 := callFunc_run Tryz.func41 rfl (by kernel_rfl)
theorem en42 : Enters Tryz.prog 42 := callFunc_run Tryz.func42 rfl (by kernel_rfl)
theorem en43 : Enters Tryz.prog 43 := callFunc_run Tryz.func43 rfl (by kernel_rfl)
theorem en44 : Enters Tryz.prog 44 := callFunc_run Tryz.func44 rfl (by kernel_rfl)
theorem en45 : Enters Tryz.prog 45 := callFunc_run Tryz.func45 rfl (by kernel_rfl)
theorem en46 : Enters Tryz.prog 46 := callFunc_run Tryz.func46 rfl (by kernel_rfl)
theorem en47 : Enters Tryz.prog 47 := callFunc_run Tryz.func47 rfl (by kernel_rfl)
theorem en48 : Enters Tryz.prog 48 := callFunc_run Tryz.func48 rfl (by kernel_rfl)
theorem en49 : Enters Tryz.prog 49 := callFunc_run Tryz.func49 rfl (by kernel_rfl)
theorem en50 : Enters Tryz.prog 50 := callFunc_run Tryz.func50 rfl (by kernel_rfl)
theorem en51 : Enters Tryz.prog 51 := callFunc_run Tryz.func51 rfl (by kernel_rfl)
theorem en52 : Enters Tryz.prog 52 := callFunc_run Tryz.func52 rfl (by kernel_rfl)
theorem en53 : Enters Tryz.prog 53 := callFunc_run Tryz.func53 rfl (by kernel_rfl)
theorem en54 : Enters Tryz.prog 54 := callFunc_run Tryz.func54 rfl (by kernel_rfl)
theorem en55 : Enters Tryz.prog 55 := callFunc_run Tryz.func55 rfl (by kernel_rfl)
theorem en56 : Enters Tryz.prog 56 := callFunc_run Tryz.func56 rfl (by kernel_rfl)
theorem en57 : Enters Tryz.prog 57 := callFunc_run Tryz.func57 rfl (by kernel_rfl)
theorem en58 : Enters Tryz.prog 58 := callFunc_run Tryz.func58 rfl (by kernel_rfl)
theorem en59 : Enters Tryz.prog 59 := callFunc_run Tryz.func59 rfl (by kernel_rfl)
theorem en60 : Enters Tryz.prog 60 := callFunc_run Tryz.func60 rfl (by kernel_rfl)
theorem en61 : Enters Tryz.prog 61 := callFunc_run Tryz.func61 rfl (by kernel_rfl)
theorem en62 : Enters Tryz.prog 62 := callFunc_run Tryz.func62 rfl (by kernel_rfl)
theorem en63 : Enters Tryz.prog 63 := callFunc_run Tryz.func63 rfl (by kernel_rfl)
theorem en64 : Enters Tryz.prog 64 := callFunc_run Tryz.func64 rfl (by kernel_rfl)
theorem en65 : Enters Tryz.prog 65 := callFunc_run Tryz.func65 rfl (by kernel_rfl)
theorem en66 : Enters Tryz.prog 66 := callFunc_run Tryz.func66 rfl (by kernel_rfl)
theorem en67 : Enters Tryz.prog 67 := callFunc_run Tryz.func67 rfl (by kernel_rfl)
theorem en68 : Enters Tryz.prog 68 := callFunc_run Tryz.func68 rfl (by kernel_rfl)
theorem en69 : Enters Tryz.prog 69 := callFunc_run Tryz.func69 rfl (by kernel_rfl)
theorem en70 : Enters Tryz.prog 70 := callFunc_run Tryz.func70 rfl (by kernel_rfl)
theorem en71 : Enters Tryz.prog 71 := callFunc_run Tryz.func71 rfl (by kernel_rfl)
theorem en72 : Enters Tryz.prog 72 := callFunc_run Tryz.func72 rfl (by kernel_rfl)
theorem en73 : Enters Tryz.prog 73 := callFunc_run Tryz.func73 rfl (by kernel_rfl)
theorem en74 : Enters Tryz.prog 74 := callFunc_run Tryz.func74 rfl (by kernel_rfl)
theorem en75 : Enters Tryz.prog 75 := callFunc_run Tryz.func75 rfl (by kernel_rfl)
theorem en76 : Enters Tryz.prog 76 := callFunc_run Tryz.func76 rfl (by kernel_rfl)
theorem en77 : Enters Tryz.prog 77 := callFunc_run Tryz.func77 rfl (by kernel_rfl)
theorem en78 : Enters Tryz.prog 78 := callFunc_run Tryz.func78 rfl (by kernel_rfl)
theorem en79 : Enters Tryz.prog 79 := callFunc_run Tryz.func79 rfl (by kernel_rfl)
theorem en80 : Enters Tryz.prog 80 := callFunc_run Tryz.func80 rfl (by kernel_rfl)
theorem en81 : Enters Tryz.prog 81 := callFunc_run Tryz.func81 rfl (by kernel_rfl)
theorem en82 : Enters Tryz.prog 82 := callFunc_run Tryz.func82 rfl (by kernel_rfl)
theorem en83 : Enters Tryz.prog 83 := callFunc_run Tryz.func83 rfl (by kernel_rfl)
theorem en84 : Enters Tryz.prog 84 := callFunc_run Tryz.func84 rfl (by kernel_rfl)
theorem en85 : Enters Tryz.prog 85 := callFunc_run Tryz.func85 rfl (by kernel_rfl)
theorem en86 : Enters Tryz.prog 86 := callFunc_run Tryz.func86 rfl (by kernel_rfl)
theorem en87 : Enters Tryz.prog 87 := callFunc_run Tryz.func87 rfl (by kernel_rfl)
theorem en88 : Enters Tryz.prog 88 := callFunc_run Tryz.func88 rfl (by kernel_rfl)
theorem en89 : Enters Tryz.prog 89 := callFunc_run Tryz.func89 rfl (by kernel_rfl)
theorem en90 : Enters Tryz.prog 90 := callFunc_run Tryz.func90 rfl (by kernel_rfl)
theorem en91 : Enters Tryz.prog 91 := callFunc_run Tryz.func91 rfl (by kernel_rfl)
theorem en92 : Enters Tryz.prog 92 := callFunc_run Tryz.func92 rfl (by kernel_rfl)
theorem en93 : Enters Tryz.prog 93 := callFunc_run Tryz.func93 rfl (by kernel_rfl)
theorem en94 : Enters Tryz.prog 94 := callFunc_run Tryz.func94 rfl (by kernel_rfl)
theorem en95 : Enters Tryz.prog 95 := callFunc_run Tryz.func95 rfl (by kernel_rfl)
theorem en96 : Enters Tryz.prog 96 := callFunc_run Tryz.func96 rfl (by kernel_rfl)
theorem en97 : Enters Tryz.prog 97 := callFunc_run Tryz.func97 rfl (by kernel_rfl)
theorem en98 : Enters Tryz.prog 98 := callFunc_run Tryz.func98 rfl (by kernel_rfl)
theorem en99 : Enters Tryz.prog 99 := callFunc_run Tryz.func99 rfl (by kernel_rfl)
theorem en100 : Enters Tryz.prog 100 := callFunc_run Tryz.func100 rfl (by kernel_rfl)
theorem en101 : Enters Tryz.prog 101 := callFunc_run Tryz.func101 rfl (by kernel_rfl)
theorem en102 : Enters Tryz.prog 102 := callFunc_run Tryz.func102 rfl (by kernel_rfl)
theorem en103 : Enters Tryz.prog 103 := callFunc_run Tryz.func103 rfl (by kernel_rfl)
theorem en104 : Enters Tryz.prog 104 := callFunc_run Tryz.func104 rfl (by kernel_rfl)
theorem en105 : Enters Tryz.prog 105 := callFunc_run Tryz.func105 rfl (by kernel_rfl)
theorem en106 : Enters Tryz.prog 106 := callFunc_run Tryz.func106 rfl (by kernel_rfl)
theorem en107 : Enters Tryz.prog 107 := callFunc_run Tryz.func107 rfl (by kernel_rfl)
theorem en108 : Enters Tryz.prog 108 := callFunc_run Tryz.func108 rfl (by kernel_rfl)
theorem en109 : Enters Tryz.prog 109 := callFunc_run Tryz.func109 rfl (by kernel_rfl)
theorem en110 : Enters Tryz.prog 110 := callFunc_run Tryz.func110 rfl (by kernel_rfl)
theorem en111 : Enters Tryz.prog 111 := callFunc_run Tryz.func111 rfl (by kernel_rfl)
theorem en112 : Enters Tryz.prog 112 := callFunc_run Tryz.func112 rfl (by kernel_rfl)
theorem en113 : Enters Tryz.prog 113 := callFunc_run Tryz.func113 rfl (by kernel_rfl)
theorem en114 : Enters Tryz.prog 114 := callFunc_run Tryz.func114 rfl (by kernel_rfl)
theorem en115 : Enters Tryz.prog 115 := callFunc_run Tryz.func115 rfl (by kernel_rfl)
theorem en116 : Enters Tryz.prog 116 := callFunc_run Tryz.func116 rfl (by kernel_rfl)
theorem en117 : Enters Tryz.prog 117 := callFunc_run Tryz.func117 rfl (by kernel_rfl)
theorem en118 : Enters Tryz.prog 118 := callFunc_run Tryz.func118 rfl (by kernel_rfl)
theorem en119 : Enters Tryz.prog 119 := callFunc_run Tryz.func119 rfl (by kernel_rfl)
theorem en120 : Enters Tryz.prog 120 := callFunc_run Tryz.func120 rfl (by kernel_rfl)
theorem en121 : Enters Tryz.prog 121 := callFunc_run Tryz.func121 rfl (by kernel_rfl)
theorem en122 : Enters Tryz.prog 122 := callFunc_run Tryz.func122 rfl (by kernel_rfl)
theorem en123 : Enters Tryz.prog 123 := callFunc_run Tryz.func123 rfl (by kernel_rfl)
theorem en124 : Enters Tryz.prog 124 := callFunc_run Tryz.func124 rfl (by kernel_rfl)
theorem en125 : Enters Tryz.prog 125 := callFunc_run Tryz.func125 rfl (by kernel_rfl)
theorem en126 : Enters Tryz.prog 126 := callFunc_run Tryz.func126 rfl (by kernel_rfl)
theorem en127 : Enters Tryz.prog 127 := callFunc_run Tryz.func127 rfl (by kernel_rfl)
theorem en128 : Enters Tryz.prog 128 := callFunc_run Tryz.func128 rfl (by kernel_rfl)
theorem en129 : Enters Tryz.prog 129 := callFunc_run Tryz.func129 rfl (by kernel_rfl)
theorem en130 : Enters Tryz.prog 130 := callFunc_run Tryz.func130 rfl (by kernel_rfl)
theorem en131 : Enters Tryz.prog 131 := callFunc_run Tryz.func131 rfl (by kernel_rfl)
theorem en132 : Enters Tryz.prog 132 := callFunc_run Tryz.func132 rfl (by kernel_rfl)
theorem en133 : Enters Tryz.prog 133 := callFunc_run Tryz.func133 rfl (by kernel_rfl)
theorem en134 : Enters Tryz.prog 134 := callFunc_run Tryz.func134 rfl (by kernel_rfl)
theorem en135 : Enters Tryz.prog 135 := callFunc_run Tryz.func135 rfl (by kernel_rfl)
theorem en136 : Enters Tryz.prog 136 := callFunc_run Tryz.func136 rfl (by kernel_rfl)
theorem en137 : Enters Tryz.prog 137 := callFunc_run Tryz.func137 rfl (by kernel_rfl)
theorem en138 : Enters Tryz.prog 138 := callFunc_run Tryz.func138 rfl (by kernel_rfl)
theorem en139 : Enters Tryz.prog 139 := callFunc_run Tryz.func139 rfl (by kernel_rfl)
theorem en140 : Enters Tryz.prog 140 := callFunc_run Tryz.func140 rfl (by kernel_rfl)
theorem en141 : Enters Tryz.prog 141 := callFunc_run Tryz.func141 rfl (by kernel_rfl)
theorem en142 : Enters Tryz.prog 142 := callFunc_run Tryz.func142 rfl (by kernel_rfl)
theorem en143 : Enters Tryz.prog 143 := callFunc_run Tryz.func143 rfl (by kernel_rfl)
theorem en144 : Enters Tryz.prog 144 := callFunc_run Tryz.func144 rfl (by kernel_rfl)
theorem en145 : Enters Tryz.prog 145 := callFunc_run Tryz.func145 rfl (by kernel_rfl)
theorem en146 : Enters Tryz.prog 146 := callFunc_run Tryz.func146 rfl (by kernel_rfl)
theorem en147 : Enters Tryz.prog 147 := callFunc_run Tryz.func147 rfl (by kernel_rfl)
theorem en148 : Enters Tryz.prog 148 := callFunc_run Tryz.func148 rfl (by kernel_rfl)
theorem en149 : Enters Tryz.prog 149 := callFunc_run Tryz.func149 rfl (by kernel_rfl)
theorem en150 : Enters Tryz.prog 150 := callFunc_run Tryz.func150 rfl (by kernel_rfl)
theorem en151 : Enters Tryz.prog 151 := callFunc_run Tryz.func151 rfl (by kernel_rfl)
theorem en152 : Enters Tryz.prog 152 := callFunc_run Tryz.func152 rfl (by kernel_rfl)
theorem en153 : Enters Tryz.prog 153 := callFunc_run Tryz.func153 rfl (by kernel_rfl)
theorem en154 : Enters Tryz.prog 154 := callFunc_run Tryz.func154 rfl (by kernel_rfl)
theorem en155 : Enters Tryz.prog 155 := callFunc_run Tryz.func155 rfl (by kernel_rfl)
theorem en156 : Enters Tryz.prog 156 := callFunc_run Tryz.func156 rfl (by kernel_rfl)
theorem en157 : Enters Tryz.prog 157 := callFunc_run Tryz.func157 rfl (by kernel_rfl)
theorem en158 : Enters Tryz.prog 158 := callFunc_run Tryz.func158 rfl (by kernel_rfl)
theorem en159 : Enters Tryz.prog 159 := callFunc_run Tryz.func159 rfl (by kernel_rfl)
theorem en160 : Enters Tryz.prog 160 := callFunc_run Tryz.func160 rfl (by kernel_rfl)
theorem en161 : Enters Tryz.prog 161 := callFunc_run Tryz.func161 rfl (by kernel_rfl)
theorem en162 : Enters Tryz.prog 162 := callFunc_run Tryz.func162 rfl (by kernel_rfl)
theorem en163 : Enters Tryz.prog 163 := callFunc_run Tryz.func163 rfl (by kernel_rfl)
theorem en164 : Enters Tryz.prog 164 := callFunc_run Tryz.func164 rfl (by kernel_rfl)
theorem en165 : Enters Tryz.prog 165 := callFunc_run Tryz.func165 rfl (by kernel_rfl)
theorem en166 : Enters Tryz.prog 166 := callFunc_run Tryz.func166 rfl (by kernel_rfl)
theorem en167 : Enters Tryz.prog 167 := callFunc_run Tryz.func167 rfl (by kernel_rfl)
theorem en168 : Enters Tryz.prog 168 := callFunc_run Tryz.func168 rfl (by kernel_rfl)
theorem en169 : Enters Tryz.prog 169 := callFunc_run Tryz.func169 rfl (by kernel_rfl)
theorem en170 : Enters Tryz.prog 170 := callFunc_run Tryz.func170 rfl (by kernel_rfl)
theorem en171 : Enters Tryz.prog 171 := callFunc_run Tryz.func171 rfl (by kernel_rfl)
theorem en172 : Enters Tryz.prog 172 := callFunc_run Tryz.func172 rfl (by kernel_rfl)
theorem en173 : Enters Tryz.prog 173 := callFunc_run Tryz.func173 rfl (by kernel_rfl)
theorem en174 : Enters Tryz.prog 174 := callFunc_run Tryz.func174 rfl (by kernel_rfl)
theorem en175 : Enters Tryz.prog 175 := callFunc_run Tryz.func175 rfl (by kernel_rfl)
theorem en176 : Enters Tryz.prog 176 := callFunc_run Tryz.func176 rfl (by kernel_rfl)
theorem en177 : Enters Tryz.prog 177 := callFunc_run Tryz.func177 rfl (by kernel_rfl)
theorem en178 : Enters Tryz.prog 178 := callFunc_run Tryz.func178 rfl (by kernel_rfl)
theorem en179 : Enters Tryz.prog 179 := callFunc_run Tryz.func179 rfl (by kernel_rfl)
theorem en181 : Enters Tryz.prog 181 := callFunc_run Tryz.func181 rfl (by kernel_rfl)
theorem en182 : Enters Tryz.prog 182 := callFunc_run Tryz.func182 rfl (by kernel_rfl)
theorem en183 : Enters Tryz.prog 183 := callFunc_run Tryz.func183 rfl (by kernel_rfl)
theorem en184 : Enters Tryz.prog 184 := callFunc_run Tryz.func184 rfl (by kernel_rfl)
theorem en185 : Enters Tryz.prog 185 := callFunc_run Tryz.func185 rfl (by kernel_rfl)
theorem en186 : Enters Tryz.prog 186 := callFunc_run Tryz.func186 rfl (by kernel_rfl)
theorem en187 : Enters Tryz.prog 187 := callFunc_run Tryz.func187 rfl (by kernel_rfl)
theorem en188 : Enters Tryz.prog 188 := callFunc_run Tryz.func188 rfl (by kernel_rfl)
theorem en189 : Enters Tryz.prog 189 := callFunc_run Tryz.func189 rfl (by kernel_rfl)
theorem en190 : Enters Tryz.prog 190 := callFunc_run Tryz.func190 rfl (by kernel_rfl)
theorem en191 : Enters Tryz.prog 191 := callFunc_run Tryz.func191 rfl (by kernel_rfl)
theorem en192 : Enters Tryz.prog 192 := callFunc_run Tryz.func192 rfl (by kernel_rfl)
theorem en193 : Enters Tryz.prog 193 := callFunc_run Tryz.func193 rfl (by kernel_rfl)
theorem en194 : Enters Tryz.prog 194 := callFunc_run Tryz.func194 rfl (by kernel_rfl)
theorem en195 : Enters Tryz.prog 195 := callFunc_run Tryz.func195 rfl (by kernel_rfl)
theorem en196 : Enters Tryz.prog 196 := callFunc_run Tryz.func196 rfl (by kernel_rfl)
theorem en197 : Enters Tryz.prog 197 := callFunc_run Tryz.func197 rfl (by kernel_rfl)
theorem en198 : Enters Tryz.prog 198 := callFunc_run Tryz.func198 rfl (by kernel_rfl)
theorem en199 : Enters Tryz.prog 199 := callFunc_run Tryz.func199 rfl (by kernel_rfl)
theorem en200 : Enters Tryz.prog 200 := callFunc_run Tryz.func200 rfl (by kernel_rfl)
theorem en201 : Enters Tryz.prog 201 := callFunc_run Tryz.func201 rfl (by kernel_rfl)
theorem en202 : Enters Tryz.prog 202 := callFunc_run Tryz.func202 rfl (by kernel_rfl)
theorem en203 : Enters Tryz.prog 203 := callFunc_run Tryz.func203 rfl (by kernel_rfl)
theorem en204 : Enters Tryz.prog 204 := callFunc_run Tryz.func204 rfl (by kernel_rfl)
theorem en205 : Enters Tryz.prog 205 := callFunc_run Tryz.func205 rfl (by kernel_rfl)
theorem en206 : Enters Tryz.prog 206 := callFunc_run Tryz.func206 rfl (by kernel_rfl)
theorem en207 : Enters Tryz.prog 207 := callFunc_run Tryz.func207 rfl (by kernel_rfl)
theorem en208 : Enters Tryz.prog 208 := callFunc_run Tryz.func208 rfl (by kernel_rfl)
theorem en209 : Enters Tryz.prog 209 := callFunc_run Tryz.func209 rfl (by kernel_rfl)
theorem en210 : Enters Tryz.prog 210 := callFunc_run Tryz.func210 rfl (by kernel_rfl)
theorem en211 : Enters Tryz.prog 211 := callFunc_run Tryz.func211 rfl (by kernel_rfl)
theorem en212 : Enters Tryz.prog 212 := callFunc_run Tryz.func212 rfl (by kernel_rfl)
theorem en213 : Enters Tryz.prog 213 := callFunc_run Tryz.func213 rfl (by kernel_rfl)
theorem en214 : Enters Tryz.prog 214 := callFunc_run Tryz.func214 rfl (by kernel_rfl)
theorem en215 : Enters Tryz.prog 215 := callFunc_run Tryz.func215 rfl (by kernel_rfl)
theorem en216 : Enters Tryz.prog 216 := callFunc_run Tryz.func216 rfl (by kernel_rfl)
theorem en217 : Enters Tryz.prog 217 := callFunc_run Tryz.func217 rfl (by kernel_rfl)
theorem en218 : Enters Tryz.prog 218 := callFunc_run Tryz.func218 rfl (by kernel_rfl)
theorem en219 : Enters Tryz.prog 219 := callFunc_run Tryz.func219 rfl (by kernel_rfl)
theorem en220 : Enters Tryz.prog 220 := callFunc_run Tryz.func220 rfl (by kernel_rfl)
theorem en221 : Enters Tryz.prog 221 := callFunc_run Tryz.func221 rfl (by kernel_rfl)
theorem en222 : Enters Tryz.prog 222 := callFunc_run Tryz.func222 rfl (by kernel_rfl)
theorem en223 : Enters Tryz.prog 223 := callFunc_run Tryz.func223 rfl (by kernel_rfl)
theorem en224 : Enters Tryz.prog 224 := callFunc_run Tryz.func224 rfl (by kernel_rfl)
theorem en225 : Enters Tryz.prog 225 := callFunc_run Tryz.func225 rfl (by kernel_rfl)
theorem en226 : Enters Tryz.prog 226 := callFunc_run Tryz.func226 rfl (by kernel_rfl)
theorem en227 : Enters Tryz.prog 227 := callFunc_run Tryz.func227 rfl (by kernel_rfl)
theorem en228 : Enters Tryz.prog 228 := callFunc_run Tryz.func228 rfl (by kernel_rfl)
theorem en229 : Enters Tryz.prog 229 := callFunc_run Tryz.func229 rfl (by kernel_rfl)
theorem en230 : Enters Tryz.prog 230 := callFunc_run Tryz.func230 rfl (by kernel_rfl)
theorem en231 : Enters Tryz.prog 231 := callFunc_run Tryz.func231 rfl (by kernel_rfl)
end Go.Proofs.YtbadjlhijbkbbaaGreat
namespace Go.Proofs.YtbadjlhijbkbbaaGreat.Sx
open Go Go.RowKit
/-- Straight on: all that needs no fact that is not at hand. -/
theorem wk {p q : Prop} (hq : q) (h : (Unit → q) → p := by intro hq_; (repeat (first | refine W.seq ?_ | refine W.region ?_ | refine Wl.step rfl ?_ | refine Wl.act ?_ | refine Wl.done ?_ | refine Arr.next ?_ | refine W.block ?_ | refine W.skip ?_ | refine W.ret ?_ | refine W.exit ?_ | refine Arr.then_ret ?_ | refine Arr.then_exit ?_ | refine Arr.block_ret ?_ | refine Arr.block_normal ?_ | refine Arr.block_exit ?_ | refine Arr.block_other rfl ?_ | refine W.yes rfl ?_ | refine W.no rfl ?_ | refine Wl.stepY rfl rfl rfl rfl ?_ | refine Wl.stepN rfl rfl rfl rfl rfl ?_ | refine Wl.stepU rfl rfl rfl rfl ?_ | refine Wop.pure TT rfl ?_ | refine Wop.ldB TT rfl rfl (by first | assumption | exact Blk.ext (by assumption) (by assumption)) rfl ?_ | refine Wop.ld TT rfl rfl (by first | assumption | exact Ext.cell (by assumption) (by assumption)) ?_ | refine Wop.ldA TT rfl rfl rfl (by first | assumption | exact Blk.ext (by assumption) (by assumption)) ?_ | refine Wop.ldR TT rfl rfl rfl (by first | assumption | exact cells_ext (by assumption) (by assumption)) ?_ | refine Wop.ix TT rfl rfl rfl rfl rfl (by first | assumption | omega) ?_ | refine Wop.inc rfl rfl (by omega) ?_ | refine Wop.add rfl rfl ⟨by omega, by omega⟩ ?_ | refine Wop.sub rfl rfl ⟨by omega, by omega⟩ ?_)); exact hq_ ()) : p := h fun _ => hq
/-- One operation of a region that draws its order. -/
theorem qs {p : Prop} (h : p := by (intro w_ hG; (repeat (intro v_ hv_; cases hv_)); first | (refine WopG.plain rfl ?_; first | refine Wop.pure TT rfl ⟨Ext.refl _, rfl⟩ | refine Wop.ldB TT rfl rfl (by first | assumption | exact Blk.ext (by assumption) hG) rfl ⟨Ext.refl _, rfl⟩ | refine Wop.ld TT rfl rfl (by first | assumption | exact Ext.cell hG (by assumption)) ⟨Ext.refl _, rfl⟩ | refine Wop.ldA TT rfl rfl rfl (by first | assumption | exact Blk.ext (by assumption) hG) ⟨Ext.refl _, rfl⟩ | refine Wop.ldR TT rfl rfl rfl (by first | assumption | exact cells_ext hG (by assumption)) ⟨Ext.refl _, rfl⟩ | refine Wop.ix TT rfl rfl rfl rfl rfl (by first | assumption | omega) ⟨Ext.refl _, rfl⟩ | refine Wop.inc rfl rfl (by omega) ⟨Ext.refl _, rfl⟩ | refine Wop.add rfl rfl ⟨by omega, by omega⟩ ⟨Ext.refl _, rfl⟩ | refine Wop.sub rfl rfl ⟨by omega, by omega⟩ ⟨Ext.refl _, rfl⟩) | exact WopG.no rfl rfl rfl rfl rfl ⟨Ext.refl _, rfl⟩ | (refine WopG.yes rfl rfl rfl rfl ?_; first | refine Wop.pure TT rfl ⟨Ext.refl _, rfl⟩ | refine Wop.ldB TT rfl rfl (by first | assumption | exact Blk.ext (by assumption) hG) rfl ⟨Ext.refl _, rfl⟩ | refine Wop.ld TT rfl rfl (by first | assumption | exact Ext.cell hG (by assumption)) ⟨Ext.refl _, rfl⟩ | refine Wop.ldA TT rfl rfl rfl (by first | assumption | exact Blk.ext (by assumption) hG) ⟨Ext.refl _, rfl⟩ | refine Wop.ldR TT rfl rfl rfl (by first | assumption | exact cells_ext hG (by assumption)) ⟨Ext.refl _, rfl⟩ | refine Wop.ix TT rfl rfl rfl rfl rfl (by first | assumption | omega) ⟨Ext.refl _, rfl⟩ | refine Wop.inc rfl rfl (by omega) ⟨Ext.refl _, rfl⟩ | refine Wop.add rfl rfl ⟨by omega, by omega⟩ ⟨Ext.refl _, rfl⟩ | refine Wop.sub rfl rfl ⟨by omega, by omega⟩ ⟨Ext.refl _, rfl⟩))) : p := h
/-- The same, where facts hold only until they are no more looked at. -/
theorem qk {p : Prop} (h : p := by (intro w_ hG; (repeat (intro v_ hv_; cases hv_)); first | (refine WopG.plain rfl ?_; first | refine Wop.pure TT rfl ⟨Below.refl _ _, rfl, (by repeat (first | exact trivial | refine ⟨fun _ h => h, ?_⟩))⟩ | refine Wop.ldB TT rfl rfl (by first | assumption | exact Blk.ext (by assumption) hG) rfl ⟨Below.refl _ _, rfl, (by repeat (first | exact trivial | refine ⟨fun _ h => h, ?_⟩))⟩ | refine Wop.ld TT rfl rfl (by first | assumption | exact Ext.cell hG (by assumption)) ⟨Below.refl _ _, rfl, (by repeat (first | exact trivial | refine ⟨fun _ h => h, ?_⟩))⟩ | refine Wop.ldA TT rfl rfl rfl (by first | assumption | exact Blk.ext (by assumption) hG) ⟨Below.refl _ _, rfl, (by repeat (first | exact trivial | refine ⟨fun _ h => h, ?_⟩))⟩ | refine Wop.ldR TT rfl rfl rfl (by first | assumption | exact cells_ext hG (by assumption)) ⟨Below.refl _ _, rfl, (by repeat (first | exact trivial | refine ⟨fun _ h => h, ?_⟩))⟩ | refine Wop.ix TT rfl rfl rfl rfl rfl (by first | assumption | omega) ⟨Below.refl _ _, rfl, (by repeat (first | exact trivial | refine ⟨fun _ h => h, ?_⟩))⟩ | refine Wop.inc rfl rfl (by omega) ⟨Below.refl _ _, rfl, (by repeat (first | exact trivial | refine ⟨fun _ h => h, ?_⟩))⟩ | refine Wop.add rfl rfl ⟨by omega, by omega⟩ ⟨Below.refl _ _, rfl, (by repeat (first | exact trivial | refine ⟨fun _ h => h, ?_⟩))⟩ | refine Wop.sub rfl rfl ⟨by omega, by omega⟩ ⟨Below.refl _ _, rfl, (by repeat (first | exact trivial | refine ⟨fun _ h => h, ?_⟩))⟩) | exact WopG.no rfl rfl rfl rfl rfl ⟨Below.refl _ _, rfl, (by repeat (first | exact trivial | refine ⟨fun _ h => h, ?_⟩))⟩ | (refine WopG.yes rfl rfl rfl rfl ?_; first | refine Wop.pure TT rfl ⟨Below.refl _ _, rfl, (by repeat (first | exact trivial | refine ⟨fun _ h => h, ?_⟩))⟩ | refine Wop.ldB TT rfl rfl (by first | assumption | exact Blk.ext (by assumption) hG) rfl ⟨Below.refl _ _, rfl, (by repeat (first | exact trivial | refine ⟨fun _ h => h, ?_⟩))⟩ | refine Wop.ld TT rfl rfl (by first | assumption | exact Ext.cell hG (by assumption)) ⟨Below.refl _ _, rfl, (by repeat (first | exact trivial | refine ⟨fun _ h => h, ?_⟩))⟩ | refine Wop.ldA TT rfl rfl rfl (by first | assumption | exact Blk.ext (by assumption) hG) ⟨Below.refl _ _, rfl, (by repeat (first | exact trivial | refine ⟨fun _ h => h, ?_⟩))⟩ | refine Wop.ldR TT rfl rfl rfl (by first | assumption | exact cells_ext hG (by assumption)) ⟨Below.refl _ _, rfl, (by repeat (first | exact trivial | refine ⟨fun _ h => h, ?_⟩))⟩ | refine Wop.ix TT rfl rfl rfl rfl rfl (by first | assumption | omega) ⟨Below.refl _ _, rfl, (by repeat (first | exact trivial | refine ⟨fun _ h => h, ?_⟩))⟩ | refine Wop.inc rfl rfl (by omega) ⟨Below.refl _ _, rfl, (by repeat (first | exact trivial | refine ⟨fun _ h => h, ?_⟩))⟩ | refine Wop.add rfl rfl ⟨by omega, by omega⟩ ⟨Below.refl _ _, rfl, (by repeat (first | exact trivial | refine ⟨fun _ h => h, ?_⟩))⟩ | refine Wop.sub rfl rfl ⟨by omega, by omega⟩ ⟨Below.refl _ _, rfl, (by repeat (first | exact trivial | refine ⟨fun _ h => h, ?_⟩))⟩))) : p := h
/-- The slots hold those of a list. -/
theorem has {σ τ : Sl} (h : Has σ τ := by repeat (first | exact Has.nil | refine Has.cons rfl ?_)) : Has σ τ := h
end Go.Proofs.YtbadjlhijbkbbaaGreat.Sx

/-
  Operations that make memory or write it, and a function's ends that read it. Nothing of the program is in it.
-/
set_option linter.unusedVariables false
namespace Go.Proofs.YtbadjlhijbkbbaaGreat.Sx
open Go Go.RowKit
section
variable {P : Program} {Q : Exit → Act → World → Prop} {N : Nat} {σ : Sl} {w : World} {K : Value → World → Prop} {ops : Array Oper} {rest : List Oper}
variable {d : Option Tmp} {ty : TypeId} {ps : String} {af : Array Edge} {gd : Option (Nat × Bool)}

theorem St.same {a : Act} (h : St N σ a) {t : Nat} {v : Value} (hl : σ.lookup t = some v) : St N ((t, v) :: σ) a := h.cons (h.get t v hl)
/-- An operation's guard, not decided yet: both ways. -/
theorem Wl.part {o : Oper} {t : Tmp} {p : Prop} [Decidable p] {j : Nat} {b : Bool} (_hg : o.guard = some (j, b)) (_hj : (ops[j]?).bind (·.dst) = some t) (hl : σ.lookup t = some (.bool (decide p)))
    (h1 : p → Wl P Q N ops (o :: rest) ((t, .bool true) :: σ) w) (h2 : ¬ p → Wl P Q N ops (o :: rest) ((t, .bool false) :: σ) w) : Wl P Q N ops (o :: rest) σ w :=
  ⟨fun a ha => by
    by_cases h : p
    · exact (h1 h).out a (by have := ha.same hl; rwa [decide_eq_true h] at this)
    · exact (h2 h).out a (by have := ha.same hl; rwa [decide_eq_false h] at this)⟩
theorem Wl.partB {o : Oper} {t : Tmp} {c : Bool} {j : Nat} {b : Bool} (_hg : o.guard = some (j, b)) (_hj : (ops[j]?).bind (·.dst) = some t) (hl : σ.lookup t = some (.bool c))
    (h1 : c = true → Wl P Q N ops (o :: rest) ((t, .bool true) :: σ) w) (h2 : c = false → Wl P Q N ops (o :: rest) ((t, .bool false) :: σ) w) : Wl P Q N ops (o :: rest) σ w :=
  ⟨fun a ha => by
    cases c with
    | true => exact (h1 rfl).out a (ha.same hl)
    | false => exact (h2 rfl).out a (ha.same hl)⟩
/-- A test whose slot is looked at again: what it was is kept. -/
theorem W.testR {t : Tmp} {p : Prop} [Decidable p] {x y : Code} (hc : σ.lookup t = some (.bool (decide p))) (h1 : p → W P Q N x ((t, .bool true) :: σ) w) (h2 : ¬ p → W P Q N y ((t, .bool false) :: σ) w) : W P Q N (.cond (.tmp t) x y) σ w :=
  W.test hc (fun h => ⟨fun a ha => (h1 h).out a (by have := ha.same hc; rwa [decide_eq_true h] at this)⟩) (fun h => ⟨fun a ha => (h2 h).out a (by have := ha.same hc; rwa [decide_eq_false h] at this)⟩)
/-- A slot's value, by another name. -/
theorem Wl.as {t : Tmp} {v v' : Value} (hl : σ.lookup t = some v) (he : v = v') (h : Wl P Q N ops rest ((t, v') :: σ) w) : Wl P Q N ops rest σ w := ⟨fun a ha => h.out a (by have := ha.same hl; rwa [he] at this)⟩
theorem W.as {c : Code} {t : Tmp} {v v' : Value} (hl : σ.lookup t = some v) (he : v = v') (h : W P Q N c ((t, v') :: σ) w) : W P Q N c σ w := ⟨fun a ha => h.out a (by have := ha.same hl; rwa [he] at this)⟩

/-! ### ends -/
section
variable {fn : Func} {Φ : Value → World → Prop}
theorem loadVar_blk (T : Tab P) {t u : TypeId} {b : Nat} {cs : Array Value} (ht : nth T.kinds t = some 0) (hs : nth T.sizes t = some cs.size) (hb : Blk w b cs u) : (loadVar t ⟨b, 0, none⟩).run P w = .ok (.agg cs) w := by
  have h := loadCells_run (P := P) (w := w) (a := ⟨b, 0, none⟩) cs.toList 0 #[] (fun j v hj => by rw [add_at, Nat.zero_add, Nat.zero_add]; exact hb.cell (by simpa using hj))
  simp at h
  simp [loadVar, T.agg t ht, T.size t _ hs, loadCells, h]
theorem loadVar_one (T : Tab P) {t u : TypeId} {b k : Nat} {cs : Array Value} {v : Value} (ht : nth T.kinds t = some (k + 1)) (hv : cs[0]? = some v) (hb : Blk w b cs u) : (loadVar t ⟨b, 0, none⟩).run P w = .ok v w := by
  simp [loadVar, T.plain t k ht, hb.cell hv]
/-- A struct result that lies in memory. -/
theorem Arr.retC (T : Tab P) {p : Tmp} {t u : TypeId} {b : Nat} {cs : Array Value} (hr : fn.results = #[.cell p t]) (hl : σ.lookup p = some (.pointer (some ⟨b, 0, none⟩))) (hb : Blk w b cs u) (ht : nth T.kinds t = some 0) (hs : nth T.sizes t = some cs.size) (hp : Φ (.agg cs) w) :
    Arr (bodyPost P fn (Ret Φ)) N .ret σ w := by
  refine ⟨fun a ha => ⟨ha.defers, _, ?_, _, rfl, hp⟩⟩
  have h1 := ha.get p _ hl
  rw [Array.getD_eq_getD_getElem?] at h1
  simp [results, hr, h1, asAddr, loadVar_blk T ht hs hb]
theorem Arr.retCT (T : Tab P) {p q : Tmp} {t u : TypeId} {b : Nat} {cs : Array Value} {v : Value} (hr : fn.results = #[.cell p t, .tmp q]) (hl : σ.lookup p = some (.pointer (some ⟨b, 0, none⟩))) (hb : Blk w b cs u) (ht : nth T.kinds t = some 0) (hs : nth T.sizes t = some cs.size)
    (hq : σ.lookup q = some v) (hp : Φ (.tuple #[.agg cs, v]) w) : Arr (bodyPost P fn (Ret Φ)) N .ret σ w := by
  refine ⟨fun a ha => ⟨ha.defers, _, ?_, _, rfl, hp⟩⟩
  have h1 := ha.get p _ hl
  have h2 := ha.get q _ hq
  rw [Array.getD_eq_getD_getElem?] at h1 h2
  simp [results, hr, h1, h2, asAddr, loadVar_blk T ht hs hb]
theorem Arr.retTC (T : Tab P) {p q : Tmp} {t u : TypeId} {b : Nat} {cs : Array Value} {v : Value} (hr : fn.results = #[.tmp q, .cell p t]) (hl : σ.lookup p = some (.pointer (some ⟨b, 0, none⟩))) (hb : Blk w b cs u) (ht : nth T.kinds t = some 0) (hs : nth T.sizes t = some cs.size)
    (hq : σ.lookup q = some v) (hp : Φ (.tuple #[v, .agg cs]) w) : Arr (bodyPost P fn (Ret Φ)) N .ret σ w := by
  refine ⟨fun a ha => ⟨ha.defers, _, ?_, _, rfl, hp⟩⟩
  have h1 := ha.get p _ hl
  have h2 := ha.get q _ hq
  rw [Array.getD_eq_getD_getElem?] at h1 h2
  simp [results, hr, h1, h2, asAddr, loadVar_blk T ht hs hb]
theorem Arr.ret0 (hr : fn.results = #[]) (hp : Φ (.tuple #[]) w) : Arr (bodyPost P fn (Ret Φ)) N .ret σ w :=
  ⟨fun a ha => ⟨ha.defers, _, results_none hr _ _ _, _, rfl, hp⟩⟩
theorem Arr.end0 (hr : fn.results = #[]) (hp : Φ (.tuple #[]) w) : Arr (bodyPost P fn (Ret Φ)) N .normal σ w :=
  ⟨fun a ha => ⟨ha.defers, _, results_none hr _ _ _, _, rfl, hp⟩⟩
theorem Arr.retT3 {t u x : Tmp} {v v' v'' : Value} (hr : fn.results = #[.tmp t, .tmp u, .tmp x]) (hl : σ.lookup t = some v) (hl' : σ.lookup u = some v') (hl'' : σ.lookup x = some v'') (hp : Φ (.tuple #[v, v', v'']) w) : Arr (bodyPost P fn (Ret Φ)) N .ret σ w := by
  refine ⟨fun a ha => ⟨ha.defers, _, ?_, _, rfl, hp⟩⟩
  have h1 := ha.get t _ hl
  have h2 := ha.get u _ hl'
  have h3 := ha.get x _ hl''
  rw [Array.getD_eq_getD_getElem?] at h1 h2 h3
  simp [results, hr, h1, h2, h3]
end

/-! ### what is made -/
theorem zip_of {ρ : Operand → Value} (h : ∀ x u, look σ x = some u → ρ x = u) : ∀ {l : List (Nat × Operand)} {us : List Value}, lookL σ (l.map (·.2)) = some us → l.map (fun x => (x.1, ρ x.2)) = (l.map (·.1)).zip us := by
  intro l us hx
  have := lookL_map h hx
  rw [← this]
  clear hx this
  induction l with
  | nil => rfl
  | cons x l ih => simp [ih]
theorem range_map {β : Type} (f : Nat → β) (n : Nat) : (Array.range n).map f = ((List.range n).map f).toArray := by
  apply Array.ext'
  simp
theorem Wop.buildSlice (T : Tab P) {t e : TypeId} {len sz : Nat} {parts : Array (Nat × Operand)} {us : List Value} {z : Value} {cs : Array Value} (ht : nth T.kinds t = some 1) (he : nth T.elems t = some e) (hs : nth T.sizes e = some sz) (hz : ∀ w, (zeroValue e).run P w = .ok z w)
    (hx : lookL σ (parts.toList.map (·.2)) = some us) (hsm : Nat.ble (len * sz) 16777216 = true)
    (hf : Instr.fill (fun i => some (i * sz, sz)) ((List.range (len * sz)).map (z.cells[· % z.cells.size]!)).toArray ((parts.toList.map (·.1)).zip us) = some cs) (h0 : (len * sz == 0) = false)
    (hk : ∀ w', Ext w w' → Blk w' w.heap.size cs e → w'.heap.size = w.heap.size + 1 → K (.slice (some ⟨w.heap.size, 0, none⟩) len len) w') : Wop P Q N ⟨d, .buildSlice t len parts, ty, ps, af, gd⟩ σ w K := by
  refine Wop.val (w' := w.alloc (.cells cs e)) (fun ρ h => ?_) (hk _ (Ext.alloc _ _) (Blk.alloc _ _ _) (by simp))
  have h1 := zip_of h hx
  rw [← range_map] at hf
  have hsm' : ¬ (len * sz > 16777216) := by simpa using hsm
  have h0' : ¬ (len * sz = 0) := by simpa using h0
  simp [execOp, Instr.buildSlice, run_underlying (T.slice t e ht he), T.size e sz hs, hsm', h0', hz, h1, hf, newRow]
/-- A literal of one element of one cell. -/
theorem Wop.lit1 (T : Tab P) {t e : TypeId} {x : Operand} {u z : Value} (ht : nth T.kinds t = some 1) (he : nth T.elems t = some e) (hs : nth T.sizes e = some 1) (hz : ∀ w, (zeroValue e).run P w = .ok z w) (hz1 : z.oneCell' = true)
    (hx : look σ x = some u) (hu : u.oneCell' = true)
    (hk : ∀ w', Ext w w' → Blk w' w.heap.size #[u] e → w'.heap.size = w.heap.size + 1 → K (.slice (some ⟨w.heap.size, 0, none⟩) 1 1) w') : Wop P Q N ⟨d, .buildSlice t 1 #[(0, x)], ty, ps, af, gd⟩ σ w K := by
  refine Wop.buildSlice T ht he hs hz (us := [u]) (by simp [lookL, hx]) rfl ?_ rfl hk
  cases u <;> simp_all [Instr.fill, Value.cells, List.range_succ, Value.oneCell', List.range_zero, Array.zipIdx]
/-- An empty literal. -/
theorem Wop.buildSlice0 (T : Tab P) {t e : TypeId} {sz : Nat} (ht : nth T.kinds t = some 1) (he : nth T.elems t = some e) (hs : nth T.sizes e = some sz)
    (hk : ∀ w', Ext w w' → Blk w' w.heap.size #[] e → w'.heap.size = w.heap.size + 1 → K (.slice (some ⟨w.heap.size, 0, none⟩) 0 0) w') : Wop P Q N ⟨d, .buildSlice t 0 #[], ty, ps, af, gd⟩ σ w K := by
  refine Wop.val (w' := w.alloc (.cells #[] e)) (fun ρ h => ?_) (hk _ (Ext.alloc _ _) (Blk.alloc _ _ _) (by simp))
  simp [execOp, Instr.buildSlice, run_underlying (T.slice t e ht he), T.size e sz hs, Instr.fill, newRow, range_map]
/-- A struct made of its parts. -/
theorem Wop.struct {t : TypeId} {parts : Array (Nat × Operand)} {us : List Value} {cs : Array Value} (hx : lookL σ (parts.toList.map (·.2)) = some us) (hb : P.built t ((parts.toList.map (·.1)).zip us) = some cs) (hk : K (.agg cs) w) :
    Wop P Q N ⟨d, .build t parts, ty, ps, af, gd⟩ σ w K := by
  refine Wop.val (fun ρ h => ?_) hk
  have h1 : (parts.map fun (i, x) => (i, ρ x)).toList = (parts.toList.map (·.1)).zip us := by
    rw [Array.toList_map]
    exact zip_of h hx
  have := run_build (P := P) w t (parts.map fun (i, x) => (i, ρ x)) cs (by rw [h1]; exact hb)
  simp [execOp, this]

/-- A struct type's zero cells and its fields' places. -/
def placesOf (P : Program) (t : TypeId) : Option (Array Value × Array (Nat × Nat)) := match P.info? t, P.underlying t with
  | some it, some (.struct fields) => match it.zero, fields.toList.mapM (fun f => (P.info? f.type).map fun i => (f.offset, i.size)) with
    | some z, some places => some (z.cells, places.toArray)
    | _, _ => none
  | _, _ => none
theorem built_of {t : TypeId} {z : Array Value} {pl : Array (Nat × Nat)} (h : placesOf P t = some (z, pl)) (parts : List (Nat × Value)) : P.built t parts = Instr.fill (pl[·]?) z parts := by
  unfold placesOf at h
  unfold Program.built
  cases hi : P.info? t with
  | none => rw [hi] at h; simp at h
  | some it =>
    cases hu : P.underlying t with
    | none => rw [hi, hu] at h; simp at h
    | some u =>
      rw [hi, hu] at h
      cases u <;> try (simp at h; done)
      rename_i fields
      simp only at h ⊢
      cases hz : it.zero with
      | none => rw [hz] at h; simp at h
      | some zz =>
        cases hm : fields.toList.mapM (fun f => (P.info? f.type).map fun i => (f.offset, i.size)) with
        | none => rw [hz, hm] at h; simp at h
        | some ps =>
          rw [hz, hm] at h
          simp only [Option.some.injEq, Prod.mk.injEq] at h
          simp [h.1, ← h.2]
/-- A struct made of its parts, by its type's places. -/
theorem Wop.make {t : TypeId} {z : Array Value} {pl : Array (Nat × Nat)} {parts : Array (Nat × Operand)} {us : List Value} {cs : Array Value} (hpl : placesOf P t = some (z, pl)) (hx : lookL σ (parts.toList.map (·.2)) = some us) (hf : Instr.fill (pl[·]?) z ((parts.toList.map (·.1)).zip us) = some cs) (hk : K (.agg cs) w) :
    Wop P Q N ⟨d, .build t parts, ty, ps, af, gd⟩ σ w K := Wop.struct hx (by rw [built_of hpl]; exact hf) hk
theorem fill_nil {p : Nat → Option (Nat × Nat)} {z : Array Value} : Instr.fill p z [] = some z := rfl

/-! ### stores of whole structs -/
def setAll (cs : Array Value) (o : Nat) : List Value → Array Value
  | [] => cs
  | v :: r => setAll (cs.setIfInBounds o v) (o + 1) r
theorem setAll_size : ∀ (vs : List Value) (cs : Array Value) (o : Nat), (setAll cs o vs).size = cs.size
  | [], _, _ => rfl
  | v :: r, cs, o => by simp [setAll, setAll_size r]
def setCellsW (w : World) (b o : Nat) : List Value → World
  | [] => w
  | v :: r => setCellsW (w.setCell ⟨b, o, none⟩ v) b (o + 1) r
theorem setCellsW_blk {u : TypeId} {b : Nat} : ∀ (vs : List Value) (w : World) (cs : Array Value) (o : Nat), Blk w b cs u → Blk (setCellsW w b o vs) b (setAll cs o vs) u
  | [], _, _, _, h => h
  | v :: r, w, cs, o, h => setCellsW_blk r _ _ _ (h.set o v)
theorem setCellsW_other {b k : Nat} (hk : k ≠ b) : ∀ (vs : List Value) (w : World) (o : Nat), (setCellsW w b o vs).heap[k]? = w.heap[k]?
  | [], _, _ => rfl
  | v :: r, w, o => by rw [setCellsW, setCellsW_other hk r]; exact Below.heap_setCell w _ _ _ hk
theorem setCellsW_below {b B : Nat} (hb : B ≤ b) : ∀ (vs : List Value) (w0 w : World) (o : Nat), Below B w0 w → Below B w0 (setCellsW w b o vs)
  | [], _, _, _, h => h
  | v :: r, w0, w, o, h => setCellsW_below hb r w0 _ _ (h.setCell hb v)
theorem setCellsW_size {b : Nat} : ∀ (vs : List Value) (w : World) (o : Nat), (setCellsW w b o vs).heap.size = w.heap.size
  | [], _, _ => rfl
  | v :: r, w, o => by rw [setCellsW, setCellsW_size r]; simp [World.setCell]
theorem storeCells_run {u : TypeId} {b : Nat} : ∀ (vs : List Value) (w : World) (cs : Array Value) (o i : Nat), (∀ v ∈ vs, v.oneCell' = true) → Blk w b cs u → o + i + vs.length ≤ cs.size → (storeCells ⟨b, o, none⟩ vs i).run P w = .ok () (setCellsW w b (o + i) vs)
  | [], _, _, _, _, _, _, _ => by simp [storeCells, setCellsW]
  | v :: r, w, cs, o, i, h1, hb, hl => by
    have hlt : o + i < cs.size := by simp at hl; omega
    have hc := hb.cell (i := o + i) (v := cs[o + i]) (by simp [hlt])
    have hst : (store ⟨b, o + i, none⟩ v).run P w = .ok () (w.setCell ⟨b, o + i, none⟩ v) := by rw [run_store P w _ v _ (h1 v List.mem_cons_self), hc]; simp [hb.frozen]
    have ih := storeCells_run r (w.setCell ⟨b, o + i, none⟩ v) _ o (i + 1) (fun x hx => h1 x (List.mem_cons_of_mem _ hx)) (hb.set (o + i) v) (by simp at hl ⊢; omega)
    rw [storeCells, add_at]
    simp only [Sem.run_bind, hst, Result.andThen_ok, ih, setCellsW]
    rfl
theorem Wop.stS (T : Tab P) {t : TypeId} {x y : Operand} {b o : Nat} {cs vs : Array Value} {u : TypeId} (hs : nth T.sizes t = some vs.size) (hx : look σ x = some (.pointer (some ⟨b, o, none⟩))) (hy : look σ y = some (.agg vs)) (h1 : ∀ v ∈ vs.toList, v.oneCell' = true) (hb : Blk w b cs u) (hl : o + vs.size ≤ cs.size)
    (hk : K undef (setCellsW w b o vs.toList)) : Wop P Q N ⟨d, .store t x y, ty, ps, af, gd⟩ σ w K := by
  refine Wop.skip (fun ρ h => ?_) hk
  have hst := storeCells_run (P := P) vs.toList w cs o 0 h1 hb (by simpa using hl)
  simp [execOp, h x _ hx, h y _ hy, Instr.storeAt, Instr.sureAddr, storeVar, Value.cells, T.size t _ hs, hst]
/-- A whole block that is a struct is written: the block then holds just this. -/
theorem setAll_whole : ∀ (vs : List Value) (pre : List Value) (cs : List Value), cs.length = vs.length → setAll (pre ++ cs).toArray pre.length vs = (pre ++ vs).toArray
  | [], pre, cs, h => by
    have : cs = [] := List.eq_nil_of_length_eq_zero (by simpa using h)
    simp [setAll, this]
  | v :: r, pre, c :: cs, h => by
    have ih := setAll_whole r (pre ++ [v]) cs (by simpa using h)
    simp only [List.append_assoc, List.singleton_append, List.length_append, List.length_singleton] at ih
    rw [setAll, ← ih]
    congr 1
    simp
  | v :: r, pre, [], h => by simp at h
theorem Wop.stB (T : Tab P) {t : TypeId} {x y : Operand} {b : Nat} {cs vs : Array Value} {u : TypeId} (hs : nth T.sizes t = some vs.size) (hx : look σ x = some (.pointer (some ⟨b, 0, none⟩))) (hy : look σ y = some (.agg vs)) (h1 : ∀ v ∈ vs.toList, v.oneCell' = true) (hb : Blk w b cs u) (hl : cs.size = vs.size)
    (hk : ∀ w', Below b w w' → Blk w' b vs u → w'.heap.size = w.heap.size → (∀ k, k ≠ b → w'.heap[k]? = w.heap[k]?) → K undef w') : Wop P Q N ⟨d, .store t x y, ty, ps, af, gd⟩ σ w K := by
  refine Wop.stS T hs hx hy h1 hb (by omega) (hk _ (setCellsW_below (Nat.le_refl _) _ _ _ _ (Below.refl _ _)) ?_ (setCellsW_size _ _ _) (fun k hk => setCellsW_other hk _ _ _))
  have h2 := setCellsW_blk vs.toList w cs 0 hb
  have h3 := setAll_whole vs.toList [] cs.toList (by simpa using hl)
  simp at h3
  rw [h3] at h2
  exact h2

/-- One cell of a block is written. -/
theorem Wop.stC (T : Tab P) {t : TypeId} {x y : Operand} {b i : Nat} {cs : Array Value} {u : TypeId} {v old : Value} (hs : nth T.sizes t = some 1) (hx : look σ x = some (.pointer (some ⟨b, i, none⟩))) (hy : look σ y = some v) (hv : v.oneCell' = true) (hb : Blk w b cs u) (hi : cs[i]? = some old)
    (hk : ∀ w', Below b w w' → Blk w' b (cs.setIfInBounds i v) u → w'.heap.size = w.heap.size → (∀ k, k ≠ b → w'.heap[k]? = w.heap[k]?) → K undef w') : Wop P Q N ⟨d, .store t x y, ty, ps, af, gd⟩ σ w K :=
  Wop.st T hs hx hy hv hb hi (hk _ ((Below.refl b w).setCell (show b ≤ (⟨b, i, none⟩ : Addr).block from Nat.le_refl b) v) (hb.set i v) (by simp [World.setCell]) (fun k hk => Below.heap_setCell w _ _ _ hk))

/-! ### append -/
/-- append(v, x): v a row of the call's own, x's cells in a block by themselves. -/
theorem Wop.app (T : Tab P) {t e : TypeId} {x y : Operand} {z v : Value} {sz bytes b n : Nat} {xs ys : List Value} {base : Nat} {u : TypeId} (ht : nth T.kinds t = some 1) (he : nth T.elems t = some e) (hinfo : (P.info? e).map (fun i => (i.zero, i.size, i.bytes)) = some (some z, sz, bytes)) (hz : z.cells.size = sz) (hs0 : 0 < sz) (hb0 : 0 < bytes)
    (hx : look σ x = some v) (hy : look σ y = some (.slice (some ⟨b, 0, none⟩) 1 1)) (hb : Blk w b ys.toArray u) (hys : ys.length = sz) (h1 : ∀ u ∈ ys, u.oneCell' = true) (HO : w.ownsRow base e sz v n xs) (hbase : base ≤ w.heap.size) (hl : (n + 1) * bytes ≤ 140737488355328)
    (hk : ∀ v' w', w'.ownsRow base e sz v' (n + 1) (xs ++ ys) → w.grownBy w' v.ownBlock → (v'.ownBlock = v.ownBlock ∨ v'.ownBlock = some w.heap.size) → K v' w') :
    Wop P Q N ⟨d, .call ⟨.builtin .append, #[x, y], #[t, t]⟩, ty, ps, af, gd⟩ σ w K := by
  obtain ⟨i0, hi, hzz⟩ := Option.map_eq_some_iff.1 hinfo
  simp only [Prod.mk.injEq] at hzz
  obtain ⟨hz0, hz1, hz2⟩ := hzz
  have hlen : n + 1 ≤ 140737488355328 := Nat.le_trans (Nat.le_mul_of_pos_right _ hb0) hl
  obtain ⟨v1, w1, hr, hown, hg, _, hat⟩ := run_append_own_at (P := P) w base t ty e i0 z sz bytes (T.slice t e ht he) hi hz0 hz1 hz2 hz hs0 v n xs HO ⟨b, 0, none⟩ 1 1 ys (by rw [hys]; simp)
    (fun j u hj => by rw [add_at, Nat.zero_add]; exact hb.cell (by simpa using hj)) h1 (by simp only [maxLen]; omega) hl hbase
  exact Wop.val (fun ρ h => by simp [execOp, resolve, invoke, builtin, h x _ hx, h y _ hy, hr]) (hk v1 w1 hown hg hat)
end

/-! ### rows of the call's own, of elements of one cell -/
section
variable {α : Type} {enc : α → Value} {e : TypeId} {w w' : World} {base : Nat} {v : Value} {xs : List α}
def Own (e : TypeId) (enc : α → Value) (w : World) (base : Nat) (v : Value) (xs : List α) : Prop := w.ownsRow base e 1 v xs.length (xs.map enc)
theorem own_move {size n : Nat} {cs : List Value} (h : w.ownsRow base e size v n cs) (hm : ∀ k, v.ownBlock = some k → w'.heap[k]? = w.heap[k]?) : w'.ownsRow base e size v n cs := by
  refine ⟨h.1, ?_⟩
  rcases h.2 with h2 | ⟨g, cap, cur, rfl, hb, hh, r⟩
  · exact .inl h2
  · exact .inr ⟨g, cap, cur, rfl, hb, (hm g rfl).trans hh, r⟩
theorem own_ext {size n : Nat} {cs : List Value} (h : w.ownsRow base e size v n cs) (x : Ext w w') : w'.ownsRow base e size v n cs := own_move h (fun k hk => x.block (h.lt k hk).2)
theorem Own.ext (h : Own e enc w base v xs) (x : Ext w w') : Own e enc w' base v xs := own_ext h x
theorem Own.move (h : Own e enc w base v xs) (hm : ∀ k, v.ownBlock = some k → w'.heap[k]? = w.heap[k]?) : Own e enc w' base v xs := own_move h hm
theorem Own.nil (e : TypeId) (enc : α → Value) (w : World) (base : Nat) : Own e enc w base (.slice none 0 0) [] := World.ownsRow_nil _ _ _ _
theorem Own.lower {base' : Nat} (h : Own e enc w base v xs) (hb : base' ≤ base) : Own e enc w base' v xs := by
  obtain ⟨h1, h2⟩ := h
  refine ⟨h1, ?_⟩
  rcases h2 with h2 | ⟨g, cap, cur, rfl, hg, r⟩
  · exact .inl h2
  · exact .inr ⟨g, cap, cur, rfl, Nat.le_trans hb hg, r⟩
theorem Own.slice (h : Own e enc w base v xs) : ∃ A c, v = .slice A xs.length c ∧ xs.length ≤ c := by
  rcases h.2 with ⟨rfl, h0⟩ | ⟨g, cap, cur, rfl, hb, hh, hnc, _⟩
  · exact ⟨none, 0, by rw [h0], by omega⟩
  · exact ⟨_, cap, rfl, hnc⟩
theorem Own.row {d : Ty α} (h : Own e enc w base v xs) (hsz : d.sz = 1) {S : Nat → Prop} (hm : xs.length ≤ 1099511627776) (hS : ∀ k, v.ownBlock = some k → S k) (hr : ∀ x ∈ xs, d.rd S w x [enc x]) : ∃ A c, v = .slice A xs.length c ∧ xs.length ≤ c ∧ d.Row S w A xs.length xs :=
  row_of_own hsz h hm hS hr
end
section
variable {P : Program} {Q : Exit → Act → World → Prop} {N : Nat} {σ : Sl} {w : World} {K : Value → World → Prop}
variable {d : Option Tmp} {ty : TypeId} {ps : String} {af : Array Edge} {gd : Option (Nat × Bool)}
/-- append(v, x) of one cell. -/
theorem Wop.app1 {α : Type} (T : Tab P) {t e : TypeId} {x y : Operand} {z v : Value} {bytes b : Nat} {enc : α → Value} {xs : List α} {a : α} {base : Nat} {u : TypeId} (ht : nth T.kinds t = some 1) (he : nth T.elems t = some e) (hinfo : (P.info? e).map (fun i => (i.zero, i.size, i.bytes)) = some (some z, 1, bytes)) (hz : z.cells.size = 1) (hb0 : 0 < bytes)
    (hx : look σ x = some v) (hy : look σ y = some (.slice (some ⟨b, 0, none⟩) 1 1)) (hb : Blk w b #[enc a] u) (h1 : (enc a).oneCell' = true) (HO : Own e enc w base v xs) (hbase : base ≤ w.heap.size) (hl : (xs.length + 1) * bytes ≤ 140737488355328)
    (hk : ∀ v' w', Own e enc w' base v' (xs ++ [a]) → (∀ w0, Below base w0 w → Below base w0 w') → w.grownBy w' v.ownBlock → (v'.ownBlock = v.ownBlock ∨ v'.ownBlock = some w.heap.size) → K v' w') :
    Wop P Q N ⟨d, .call ⟨.builtin .append, #[x, y], #[t, t]⟩, ty, ps, af, gd⟩ σ w K := by
  refine Wop.app T ht he hinfo hz (by decide) hb0 hx hy (ys := [enc a]) (by simpa using hb) rfl (by simpa using h1) HO hbase hl (fun v' w' ho hg hat => hk v' w' ?_ ?_ hg hat)
  · have : (xs ++ [a]).map enc = xs.map enc ++ [enc a] := by simp
    show w'.ownsRow base e 1 v' (xs ++ [a]).length _
    rw [this, List.length_append]
    exact ho
  · exact fun w0 h0 => h0.grown hg hbase (fun k hk => (HO.lt k hk).1)
end
end Go.Proofs.YtbadjlhijbkbbaaGreat.Sx
namespace Go.Proofs.YtbadjlhijbkbbaaGreat
open Go Go.RowKit Sx
theorem pl7 : placesOf Tryz.prog 7 = some (#[.int .i64 0, .int .i64 0, .bool false, .int .u8 0], #[(0, 1), (1, 1), (2, 1), (3, 1)]) := by kernel_rfl
theorem pl8 : placesOf Tryz.prog 8 = some (#[.int .i64 0, .int .i64 0, .bool false, .int .u8 0], #[(0, 1), (1, 1), (2, 1), (3, 1)]) := by kernel_rfl
theorem pl13 : placesOf Tryz.prog 13 = some (#[.string ⟨#[]⟩, .int .u64 0], #[(0, 1), (1, 1)]) := by kernel_rfl
theorem pl14 : placesOf Tryz.prog 14 = some (#[.string ⟨#[]⟩, .int .u64 0], #[(0, 1), (1, 1)]) := by kernel_rfl
theorem pl18 : placesOf Tryz.prog 18 = some (#[.pointer none], #[(0, 1)]) := by kernel_rfl
theorem pl19 : placesOf Tryz.prog 19 = some (#[.pointer none], #[(0, 1)]) := by kernel_rfl
theorem pl24 : placesOf Tryz.prog 24 = some (#[.slice none 0 0, .slice none 0 0, .slice none 0 0, .int .i64 0], #[(0, 1), (1, 1), (2, 1), (3, 1)]) := by kernel_rfl
theorem pl25 : placesOf Tryz.prog 25 = some (#[.slice none 0 0, .slice none 0 0, .slice none 0 0, .int .i64 0], #[(0, 1), (1, 1), (2, 1), (3, 1)]) := by kernel_rfl
theorem pl26 : placesOf Tryz.prog 26 = some (#[.int .i64 0, .int .i64 0], #[(0, 1), (1, 1)]) := by kernel_rfl
theorem pl27 : placesOf Tryz.prog 27 = some (#[.int .i64 0, .int .i64 0], #[(0, 1), (1, 1)]) := by kernel_rfl
theorem pl28 : placesOf Tryz.prog 28 = some (#[.int .i64 0, .int .i64 0, .int .i64 0, .int .i64 0, .int .i64 0, .int .i64 0], #[(0, 1), (1, 1), (2, 2), (4, 2)]) := by kernel_rfl
theorem pl29 : placesOf Tryz.prog 29 = some (#[.int .i64 0, .int .i64 0, .int .i64 0, .int .i64 0, .int .i64 0, .int .i64 0], #[(0, 1), (1, 1), (2, 2), (4, 2)]) := by kernel_rfl
theorem pl52 : placesOf Tryz.prog 52 = some (#[.int .i64 0, .int .i64 0, .int .i64 0, .slice none 0 0], #[(0, 1), (1, 1), (2, 1), (3, 1)]) := by kernel_rfl
theorem pl53 : placesOf Tryz.prog 53 = some (#[.int .i64 0, .int .i64 0, .int .i64 0, .slice none 0 0], #[(0, 1), (1, 1), (2, 1), (3, 1)]) := by kernel_rfl
theorem pl63 : placesOf Tryz.prog 63 = some (#[.slice none 0 0, .slice none 0 0, .slice none 0 0], #[(0, 1), (1, 1), (2, 1)]) := by kernel_rfl
theorem pl64 : placesOf Tryz.prog 64 = some (#[.slice none 0 0, .slice none 0 0, .slice none 0 0], #[(0, 1), (1, 1), (2, 1)]) := by kernel_rfl
theorem pl72 : placesOf Tryz.prog 72 = some (#[.int .i64 0, .int .i64 0], #[(0, 1), (1, 1)]) := by kernel_rfl
theorem pl73 : placesOf Tryz.prog 73 = some (#[.int .i64 0, .int .i64 0], #[(0, 1), (1, 1)]) := by kernel_rfl
theorem pl88 : placesOf Tryz.prog 88 = some (#[.slice none 0 0, .slice none 0 0], #[(0, 1), (1, 1)]) := by kernel_rfl
theorem pl89 : placesOf Tryz.prog 89 = some (#[.slice none 0 0, .slice none 0 0], #[(0, 1), (1, 1)]) := by kernel_rfl
theorem pl90 : placesOf Tryz.prog 90 = some (#[.int .i64 0, .int .i64 0], #[(0, 1), (1, 1)]) := by kernel_rfl
theorem pl91 : placesOf Tryz.prog 91 = some (#[.int .i64 0, .int .i64 0], #[(0, 1), (1, 1)]) := by kernel_rfl
theorem pl92 : placesOf Tryz.prog 92 = some (#[.int .i64 0, .slice none 0 0], #[(0, 1), (1, 1)]) := by kernel_rfl
theorem pl93 : placesOf Tryz.prog 93 = some (#[.int .i64 0, .slice none 0 0], #[(0, 1), (1, 1)]) := by kernel_rfl
theorem pl97 : placesOf Tryz.prog 97 = some (#[.slice none 0 0, .pointer none], #[(0, 1), (1, 1)]) := by kernel_rfl
theorem pl98 : placesOf Tryz.prog 98 = some (#[.slice none 0 0, .pointer none], #[(0, 1), (1, 1)]) := by kernel_rfl
theorem pl104 : placesOf Tryz.prog 104 = some (#[.slice none 0 0, .pointer none], #[(0, 1), (1, 1)]) := by kernel_rfl
theorem pl105 : placesOf Tryz.prog 105 = some (#[.slice none 0 0, .pointer none], #[(0, 1), (1, 1)]) := by kernel_rfl
theorem pl109 : placesOf Tryz.prog 109 = some (#[.bool false, .int .i64 0, .int .i64 0, .slice none 0 0], #[(0, 1), (1, 1), (2, 1), (3, 1)]) := by kernel_rfl
theorem pl110 : placesOf Tryz.prog 110 = some (#[.bool false, .int .i64 0, .int .i64 0, .slice none 0 0], #[(0, 1), (1, 1), (2, 1), (3, 1)]) := by kernel_rfl
theorem pl112 : placesOf Tryz.prog 112 = some (#[.int .i64 0, .int .i64 0, .int .i64 0, .slice none 0 0, .bool false, .bool false], #[(0, 4), (4, 1), (5, 1)]) := by kernel_rfl
theorem pl113 : placesOf Tryz.prog 113 = some (#[.int .i64 0, .int .i64 0, .int .i64 0, .slice none 0 0, .bool false, .bool false], #[(0, 4), (4, 1), (5, 1)]) := by kernel_rfl
theorem pl115 : placesOf Tryz.prog 115 = some (#[.slice none 0 0], #[(0, 1)]) := by kernel_rfl
theorem pl116 : placesOf Tryz.prog 116 = some (#[.slice none 0 0], #[(0, 1)]) := by kernel_rfl
theorem pl119 : placesOf Tryz.prog 119 = some (#[.pointer none, .slice none 0 0], #[(0, 1), (1, 1)]) := by kernel_rfl
theorem pl120 : placesOf Tryz.prog 120 = some (#[.pointer none, .slice none 0 0], #[(0, 1), (1, 1)]) := by kernel_rfl
theorem pl150 : placesOf Tryz.prog 150 = some (#[.slice none 0 0, .slice none 0 0, .slice none 0 0, .int .i64 0, .slice none 0 0, .slice none 0 0, .map none, .map none], #[(0, 4), (4, 1), (5, 1), (6, 1), (7, 1)]) := by kernel_rfl
theorem pl151 : placesOf Tryz.prog 151 = some (#[.slice none 0 0, .slice none 0 0, .slice none 0 0, .int .i64 0, .slice none 0 0, .slice none 0 0, .map none, .map none], #[(0, 4), (4, 1), (5, 1), (6, 1), (7, 1)]) := by kernel_rfl
theorem pl156 : placesOf Tryz.prog 156 = some (#[.slice none 0 0], #[(0, 1)]) := by kernel_rfl
theorem pl157 : placesOf Tryz.prog 157 = some (#[.slice none 0 0], #[(0, 1)]) := by kernel_rfl
theorem pl158 : placesOf Tryz.prog 158 = some (#[.bool false, .bool false, .slice none 0 0], #[(0, 1), (1, 1), (2, 1)]) := by kernel_rfl
theorem pl159 : placesOf Tryz.prog 159 = some (#[.bool false, .bool false, .slice none 0 0], #[(0, 1), (1, 1), (2, 1)]) := by kernel_rfl
theorem pl160 : placesOf Tryz.prog 160 = some (#[.nilFunc], #[(0, 1)]) := by kernel_rfl
theorem pl161 : placesOf Tryz.prog 161 = some (#[.nilFunc], #[(0, 1)]) := by kernel_rfl
theorem pl168 : placesOf Tryz.prog 168 = some (#[.slice none 0 0, .slice none 0 0, .slice none 0 0], #[(0, 1), (1, 1), (2, 1)]) := by kernel_rfl
theorem pl169 : placesOf Tryz.prog 169 = some (#[.slice none 0 0, .slice none 0 0, .slice none 0 0], #[(0, 1), (1, 1), (2, 1)]) := by kernel_rfl
theorem pl215 : placesOf Tryz.prog 215 = some (#[.int .i64 0, .int .i64 0], #[(0, 1), (1, 1)]) := by kernel_rfl
theorem pl216 : placesOf Tryz.prog 216 = some (#[.int .i64 0, .int .i64 0], #[(0, 1), (1, 1)]) := by kernel_rfl
theorem pl246 : placesOf Tryz.prog 246 = some (#[.int .i64 0, .int .i64 0], #[(0, 1), (1, 1)]) := by kernel_rfl
theorem pl247 : placesOf Tryz.prog 247 = some (#[.int .i64 0, .int .i64 0], #[(0, 1), (1, 1)]) := by kernel_rfl
theorem pl252 : placesOf Tryz.prog 252 = some (#[.pointer none, .pointer none, .pointer none, .string ⟨#[]⟩], #[(0, 1), (1, 1), (2, 1), (3, 1)]) := by kernel_rfl
theorem pl253 : placesOf Tryz.prog 253 = some (#[.pointer none, .pointer none, .pointer none, .string ⟨#[]⟩], #[(0, 1), (1, 1), (2, 1), (3, 1)]) := by kernel_rfl
theorem pl262 : placesOf Tryz.prog 262 = some (#[.int .u64 0, .int .u64 0, .int .u32 0, .int .u8 0, .int .u8 0, .int .u8 0, .int .u8 0, .nilFunc, .pointer none, .int .i32 0, .int .i32 0], #[(0, 1), (1, 1), (2, 1), (3, 1), (4, 1), (5, 1), (6, 1), (7, 1), (8, 1), (9, 1), (10, 1)]) := by kernel_rfl
theorem pl263 : placesOf Tryz.prog 263 = some (#[.int .u64 0, .int .u64 0, .int .u32 0, .int .u8 0, .int .u8 0, .int .u8 0, .int .u8 0, .nilFunc, .pointer none, .int .i32 0, .int .i32 0], #[(0, 1), (1, 1), (2, 1), (3, 1), (4, 1), (5, 1), (6, 1), (7, 1), (8, 1), (9, 1), (10, 1)]) := by kernel_rfl
end Go.Proofs.YtbadjlhijbkbbaaGreat

/-
  Grammars as data, and what is to be computed of them: plain functions, no program.
-/
set_option linter.unusedVariables false
namespace Go.Proofs.YtbadjlhijbkbbaaGreat
open Go Go.RowKit Sx

structure Rule where
  left : Int
  right : List Int
  deriving DecidableEq
structure Gram where
  terms : List ByteArray
  nons : List ByteArray
  rules : List Rule
  start : Int
  deriving DecidableEq

abbrev tRule : Ty Rule := (tI.prod tIs).via fun r => (r.left, r.right)
theorem tRule_sz : 0 < tRule.sz := by decide
abbrev tRules : Ty (List Rule) := Ty.slice tRule tRule_sz
abbrev tGram : Ty Gram := (tSs.prod (tSs.prod (tRules.prod tI))).via fun g => (g.terms, g.nons, g.rules, g.start)

section
variable {S : Nat → Prop} {w : World}
theorem tIs_open {x : List Int} {cs : List Value} (h : tIs.rd S w x cs) : ∃ A c, cs = [.slice A x.length c] ∧ x.length ≤ c ∧ tI.Row S w A x.length x := by
  obtain ⟨A, n, c, rfl, hc, hr⟩ := h
  have := hr.1
  subst this
  exact ⟨A, c, rfl, hc, hr⟩
theorem tSs_open {x : List ByteArray} {cs : List Value} (h : tSs.rd S w x cs) : ∃ A c, cs = [.slice A x.length c] ∧ x.length ≤ c ∧ tS.Row S w A x.length x := by
  obtain ⟨A, n, c, rfl, hc, hr⟩ := h
  have := hr.1
  subst this
  exact ⟨A, c, rfl, hc, hr⟩
theorem tRules_open {x : List Rule} {cs : List Value} (h : tRules.rd S w x cs) : ∃ A c, cs = [.slice A x.length c] ∧ x.length ≤ c ∧ tRule.Row S w A x.length x := by
  obtain ⟨A, n, c, rfl, hc, hr⟩ := h
  have := hr.1
  subst this
  exact ⟨A, c, rfl, hc, hr⟩
theorem tRule_open {r : Rule} {cs : List Value} (h : tRule.rd S w r cs) : ∃ A c, cs = [.int .i64 r.left, .slice A r.right.length c] ∧ r.right.length ≤ c ∧ I64 r.left ∧ tI.Row S w A r.right.length r.right := by
  obtain ⟨c1, c2, rfl, ⟨rfl, hl⟩, h2⟩ := h
  obtain ⟨A, c, rfl, hc, hr⟩ := tIs_open h2
  exact ⟨A, c, rfl, hc, hl.i64, hr⟩
theorem tRule_mk {r : Rule} {A : Option Addr} {c : Nat} (hl : I64 r.left) (hc : r.right.length ≤ c) (hr : tI.Row S w A r.right.length r.right) : tRule.rd S w r [.int .i64 r.left, .slice A r.right.length c] :=
  ⟨[_], [_], rfl, ⟨rfl, Ty.InK.of64 hl⟩, A, _, c, rfl, hc, hr⟩

/-- A grammar, laid open. -/
structure GramAt (S : Nat → Prop) (w : World) (g : Gram) (A0 A1 A2 : Option Addr) (c0 c1 c2 : Nat) : Prop where
  terms : tS.Row S w A0 g.terms.length g.terms
  nons : tS.Row S w A1 g.nons.length g.nons
  rules : tRule.Row S w A2 g.rules.length g.rules
  start : I64 g.start
  cap0 : g.terms.length ≤ c0
  cap1 : g.nons.length ≤ c1
  cap2 : g.rules.length ≤ c2
/-- Its four cells. -/
abbrev gcells (g : Gram) (A0 A1 A2 : Option Addr) (c0 c1 c2 : Nat) : List Value := [.slice A0 g.terms.length c0, .slice A1 g.nons.length c1, .slice A2 g.rules.length c2, .int .i64 g.start]
theorem tGram_open {g : Gram} {cs : List Value} (h : tGram.rd S w g cs) : ∃ A0 A1 A2 c0 c1 c2, cs = gcells g A0 A1 A2 c0 c1 c2 ∧ GramAt S w g A0 A1 A2 c0 c1 c2 := by
  obtain ⟨c1, c2, rfl, h1, d1, d2, rfl, h2, e1, e2, rfl, h3, rfl, h4⟩ := h
  obtain ⟨A0, k0, rfl, g0, r0⟩ := tSs_open h1
  obtain ⟨A1, k1, rfl, g1, r1⟩ := tSs_open h2
  obtain ⟨A2, k2, rfl, g2, r2⟩ := tRules_open h3
  exact ⟨A0, A1, A2, k0, k1, k2, rfl, r0, r1, r2, h4.i64, g0, g1, g2⟩
theorem GramAt.ext {g : Gram} {A0 A1 A2 : Option Addr} {c0 c1 c2 : Nat} {w' : World} (h : GramAt S w g A0 A1 A2 c0 c1 c2) (e : Ext w w') : GramAt S w' g A0 A1 A2 c0 c1 c2 :=
  ⟨h.terms.ext (by decide) e, h.nons.ext (by decide) e, h.rules.ext (by decide) e, h.start, h.cap0, h.cap1, h.cap2⟩
end

/-- Numbers in a row of the call's own. -/
abbrev OwnI (w : World) (base : Nat) (v : Value) (xs : List Int) : Prop := Own 3 (Value.int .i64) w base v xs
/-- Texts in a row of the call's own. -/
abbrev OwnS (w : World) (base : Nat) (v : Value) (xs : List ByteArray) : Prop := Own 9 Value.string w base v xs
theorem infoS : (Tryz.prog.info? 9).map (fun i => (i.zero, i.size, i.bytes)) = some (some (.string ⟨#[]⟩), 1, 16) := by kernel_rfl
theorem OwnS.row {w : World} {base : Nat} {v : Value} {xs : List ByteArray} (h : OwnS w base v xs) (hm : xs.length ≤ 1099511627776) (hr : ∀ x ∈ xs, x.size ≤ 140737488355328) {S : Nat → Prop} (hS : ∀ k, v.ownBlock = some k → S k) : ∃ A c, v = .slice A xs.length c ∧ xs.length ≤ c ∧ tS.Row S w A xs.length xs :=
  Own.row h rfl hm hS (fun x hx => ⟨rfl, hr x hx⟩)
theorem Own.lit0 {α : Type} {enc : α → Value} {e : TypeId} {w : World} {base g : Nat} (hb : Blk w g #[] e) (h : base ≤ g) : Own e enc w base (.slice (some ⟨g, 0, none⟩) 0 0) [] :=
  ⟨by simp, .inr ⟨g, 0, #[], rfl, h, hb, Nat.le_refl _, by simp [maxLen], rfl, rfl⟩⟩
theorem Sx.Blk.rowI {w : World} {b : Nat} {x : Int} {u : TypeId} {S : Nat → Prop} (h : Blk w b #[.int .i64 x] u) (hx : I64 x) (hS : S b := by trivial) : tI.Row S w (some ⟨b, 0, none⟩) 1 [x] :=
  ⟨rfl, by decide, fun _ => ⟨b, 0, rfl, hS, fun j y hj => by
    have : j = 0 := by have := (List.getElem?_eq_some_iff.1 hj).1; simp at this; exact this
    subst this
    simp at hj
    subst hj
    refine ⟨[.int .i64 x], ⟨rfl, Ty.InK.of64 hx⟩, fun i v hv => ?_⟩
    have : i = 0 := by have := (List.getElem?_eq_some_iff.1 hv).1; simp at this; exact this
    subst this
    simp at hv
    subst hv
    exact h.cell rfl⟩⟩
theorem Sx.Ty.Row.all {α : Type} {D : Ty α} {S : Nat → Prop} {w : World} {A : Option Addr} {n : Nat} {xs : List α} (h : D.Row S w A n xs) : ∀ x ∈ xs, ∃ es, D.rd S w x es := by
  intro x hx
  obtain ⟨j, hj⟩ := List.getElem?_of_mem hx
  have := (List.getElem?_eq_some_iff.1 hj).1
  obtain ⟨_, _, _, _, hc⟩ := h.2.2 (by have := h.1; omega)
  obtain ⟨es, he, _⟩ := hc j x hj
  exact ⟨es, he⟩
theorem infoI : (Tryz.prog.info? 3).map (fun i => (i.zero, i.size, i.bytes)) = some (some (.int .i64 0), 1, 8) := by kernel_rfl
theorem OwnI.row {w : World} {base : Nat} {v : Value} {xs : List Int} (h : OwnI w base v xs) (hm : xs.length ≤ 1099511627776) (hr : ∀ x ∈ xs, I64 x) {S : Nat → Prop} (hS : ∀ k, v.ownBlock = some k → S k) : ∃ A c, v = .slice A xs.length c ∧ xs.length ≤ c ∧ tI.Row S w A xs.length xs :=
  Own.row h rfl hm hS (fun x hx => ⟨rfl, Ty.InK.of64 (hr x hx)⟩)

section
variable {P : Program} {Q : Exit → Act → World → Prop} {N : Nat} {σ : Sl} {w : World} {K : Value → World → Prop}
variable {d : Option Tmp} {ty : TypeId} {ps : String} {af : Array Edge} {gd : Option (Nat × Bool)}
/-- [x] of a number. -/
theorem Wop.litI {x : Operand} {i : Int} (hx : Sx.look σ x = some (.int .i64 i))
    (hk : ∀ w', Ext w w' → Blk w' w.heap.size #[.int .i64 i] 3 → w'.heap.size = w.heap.size + 1 → K (.slice (some ⟨w.heap.size, 0, none⟩) 1 1) w') : Wop Tryz.prog Q N ⟨d, .buildSlice 40 1 #[(0, x)], ty, ps, af, gd⟩ σ w K :=
  Wop.lit1 TT rfl rfl rfl Tryz.zeroValue3 rfl hx rfl hk
/-- append(v, i) of a number: v a row of the call's own. -/
theorem Wop.appI {x y : Operand} {v : Value} {b : Nat} {xs : List Int} {a : Int} {base : Nat} {u : TypeId}
    (hx : Sx.look σ x = some v) (hy : Sx.look σ y = some (.slice (some ⟨b, 0, none⟩) 1 1)) (hb : Blk w b #[.int .i64 a] u) (HO : OwnI w base v xs) (hbase : base ≤ w.heap.size) (hl : xs.length ≤ 1099511627776)
    (hk : ∀ v' w', OwnI w' base v' (xs ++ [a]) → (∀ w0, Below base w0 w → Below base w0 w') → w.grownBy w' v.ownBlock → (v'.ownBlock = v.ownBlock ∨ v'.ownBlock = some w.heap.size) → K v' w') :
    Wop Tryz.prog Q N ⟨d, .call ⟨.builtin .append, #[x, y], #[40, 40]⟩, ty, ps, af, gd⟩ σ w K :=
  Wop.app1 (α := Int) TT rfl rfl infoI rfl (by decide) hx hy hb rfl HO hbase (by omega) hk
end

/-! ### What is computed -/
namespace Gram
def top (g : Gram) : Int := g.terms.length + g.nons.length
def term (g : Gram) (s : Int) : Bool := decide (1 ≤ s ∧ s ≤ g.terms.length)
def names (g : Gram) : List ByteArray := g.terms ++ g.nons
def non (g : Gram) (s : Int) : Bool := decide ((g.terms.length : Int) < s ∧ s ≤ g.top)
def name (g : Gram) (s : Int) : ByteArray := if s = 0 then "$".toUTF8 else if 1 ≤ s ∧ s ≤ g.terms.length then g.names[(s - 1).toNat]?.getD ⟨#[]⟩ else if (g.terms.length : Int) < s ∧ s ≤ g.top then g.names[(s - 1).toNat]?.getD ⟨#[]⟩ else ⟨#[]⟩
def rule (g : Gram) (i : Int) : Bool × Rule := if i < 0 ∨ i > g.rules.length then (false, ⟨0, []⟩) else if i = g.rules.length then (true, ⟨0, [g.start]⟩) else (true, g.rules[i.toNat]?.getD ⟨0, []⟩)
/-- The number of the first rule of each nonterminal, or of all rules. -/
def first (g : Gram) (s : Int) : Nat := g.rules.findIdx (fun r => decide (r.left = s))
def nth1 (g : Gram) (i : Nat) : Nat := g.first (g.terms.length + 1 + i)
def ordered (g : Gram) : Bool := decide (∀ j, j < g.nons.length - 1 → g.nth1 j ≤ g.nth1 (j + 1))
/-- The numbers, from k on, of the rules of a left side. -/
def ofFrom (s : Int) : List Rule → Nat → List Int
  | [], _ => []
  | r :: l, k => if r.left = s then (k : Int) :: ofFrom s l (k + 1) else ofFrom s l (k + 1)
def of (g : Gram) (s : Int) : List Int := ofFrom s g.rules 0
end Gram
theorem ofFrom_append (s : Int) : ∀ (l m : List Rule) (k : Nat), Gram.ofFrom s (l ++ m) k = Gram.ofFrom s l k ++ Gram.ofFrom s m (k + l.length)
  | [], m, k => by simp [Gram.ofFrom]
  | r :: l, m, k => by
    simp only [List.cons_append, Gram.ofFrom, ofFrom_append s l m (k + 1), List.length_cons]
    rw [show k + 1 + l.length = k + (l.length + 1) by omega]
    split <;> simp
theorem ofFrom_length (s : Int) : ∀ (l : List Rule) (k : Nat), (Gram.ofFrom s l k).length ≤ l.length
  | [], _ => by simp [Gram.ofFrom]
  | r :: l, k => by
    have := ofFrom_length s l (k + 1)
    simp only [Gram.ofFrom, List.length_cons]
    split <;> simp <;> omega
theorem ofFrom_lt (s : Int) : ∀ (l : List Rule) (k : Nat) (x : Int), x ∈ Gram.ofFrom s l k → (k : Int) ≤ x ∧ x < k + l.length
  | [], _, _, h => by simp [Gram.ofFrom] at h
  | r :: l, k, x, h => by
    simp only [Gram.ofFrom] at h
    have : x = k ∨ x ∈ Gram.ofFrom s l (k + 1) := by
      split at h
      · rcases List.mem_cons.1 h with h | h
        · exact .inl h
        · exact .inr h
      · exact .inr h
    rcases this with rfl | h
    · simp only [List.length_cons]; omega
    · have := ofFrom_lt s l (k + 1) x h
      simp only [List.length_cons]
      omega
theorem of_take (g : Gram) (s : Int) (k : Nat) (hk : k < g.rules.length) : Gram.ofFrom s (g.rules.take (k + 1)) 0 = Gram.ofFrom s (g.rules.take k) 0 ++ if (g.rules[k]).left = s then [(k : Int)] else [] := by
  rw [List.take_succ_eq_append_getElem hk, ofFrom_append]
  simp only [Nat.zero_add, List.length_take, Nat.min_eq_left (Nat.le_of_lt hk), Gram.ofFrom]
end Go.Proofs.YtbadjlhijbkbbaaGreat

/-
  A row that is appended to a row.
-/
set_option linter.unusedVariables false
namespace Go.Proofs.YtbadjlhijbkbbaaGreat.Sx
open Go Go.RowKit
section
variable {P : Program} {Q : Exit → Act → World → Prop} {N : Nat} {σ : Sl} {w : World} {K : Value → World → Prop}
variable {d : Option Tmp} {ty : TypeId} {ps : String} {af : Array Edge} {gd : Option (Nat × Bool)}
theorem append_nil_run {t e r : TypeId} {i : TypeInfo} (ht : P.underlying t = some (.slice e)) (hi : P.info? e = some i) {A B : Option Addr} {n c c' : Nat} (hn : n ≤ c) : (Builtin.append_ #[t, t] r #[.slice B n c, .slice A 0 c']).run P w = .ok (.slice B n c) w := by
  have hu := run_underlying (P := P) (w := w) ht
  have hs : (Go.sizeOf e).run P w = .ok i.size w := by simp [Go.sizeOf, typeInfo, hi]
  cases A <;> cases B <;> simp [Builtin.append_, hu, hs, Builtin.lenOf, hn, Builtin.firstCells, storeCells, loadCells, loadCellsFrom]

/-- The cells of a row's elements, each of one cell. -/
theorem Ty.Row.news {α : Type} {D : Ty α} {S : Nat → Prop} {b o n : Nat} {xs : List α} {enc : α → Value} (h : D.Row S w (some ⟨b, o, none⟩) n xs) (h1 : D.sz = 1) (henc : ∀ x es, D.rd S w x es → es = [enc x]) :
    ∀ (j : Nat) (u : Value), (xs.map enc)[j]? = some u → w.cell? ⟨b, o + j, none⟩ = some u := by
  intro j u hu
  rw [List.getElem?_map] at hu
  obtain ⟨x, hx, rfl⟩ := Option.map_eq_some_iff.1 hu
  have hj := (List.getElem?_eq_some_iff.1 hx).1
  have hp : 0 < n := by have := h.1; omega
  obtain ⟨b', o', hA, _, hc⟩ := h.2.2 hp
  cases hA
  obtain ⟨es, he, hcc⟩ := hc j x hx
  have := hcc 0 (enc x) (by rw [henc x es he]; rfl)
  rw [h1] at this
  simpa using this
/-- append(v, xs ..): v a row of the call's own, the elements of one cell each. -/
theorem Wop.appRow {α : Type} {D : Ty α} {S : Nat → Prop} (T : Tab P) {t e : TypeId} {x y : Operand} {z v : Value} {bytes n c : Nat} {A : Option Addr} {enc : α → Value} {xs ys : List α} {base : Nat} (ht : nth T.kinds t = some 1) (he : nth T.elems t = some e) (hinfo : (P.info? e).map (fun i => (i.zero, i.size, i.bytes)) = some (some z, 1, bytes)) (hz : z.cells.size = 1) (hb0 : 0 < bytes)
    (hD : D.sz = 1) (henc : ∀ S w x es, D.rd S w x es → es = [enc x])
    (hx : look σ x = some v) (hy : look σ y = some (.slice A n c)) (hr : D.Row S w A n ys) (HO : Own e enc w base v xs) (hbase : base ≤ w.heap.size) (hl : (xs.length + n) * bytes ≤ 140737488355328)
    (hk : ∀ v' w', Own e enc w' base v' (xs ++ ys) → (∀ w0, Below base w0 w → Below base w0 w') → w.grownBy w' v.ownBlock → (v'.ownBlock = v.ownBlock ∨ v'.ownBlock = some w.heap.size) → K v' w') :
    Wop P Q N ⟨d, .call ⟨.builtin .append, #[x, y], #[t, t]⟩, ty, ps, af, gd⟩ σ w K := by
  obtain ⟨i0, hi, hzz⟩ := Option.map_eq_some_iff.1 hinfo
  simp only [Prod.mk.injEq] at hzz
  obtain ⟨hz0, hz1, hz2⟩ := hzz
  have hn := hr.1
  rcases Nat.eq_zero_or_pos n with h0 | hp
  · subst h0
    have hys : ys = [] := List.eq_nil_of_length_eq_zero hn
    subst hys
    obtain ⟨B, cv, rfl, hcv⟩ := HO.slice
    refine Wop.val (fun ρ h => ?_) (hk _ w (by simpa using HO) (fun _ h => h) ?_ (.inl rfl))
    · simp [execOp, resolve, invoke, builtin, h x _ hx, h y _ hy, append_nil_run (w := w) (r := ty) (A := A) (c' := c) (T.slice t e ht he) hi (n := xs.length) (B := B) hcv]
    · exact ⟨rfl, rfl, rfl, Nat.le_refl _, fun _ _ _ => rfl⟩
  · obtain ⟨b, o, rfl, _⟩ := hr.2.2 hp
    have hlen : xs.length + n ≤ 140737488355328 := Nat.le_trans (Nat.le_mul_of_pos_right _ hb0) hl
    obtain ⟨v1, w1, hrun, hown, hg, _, hat⟩ := run_append_own_at (P := P) w base t ty e i0 z 1 bytes (T.slice t e ht he) hi hz0 hz1 hz2 hz (by decide) v xs.length (xs.map enc) HO ⟨b, o, none⟩ n c (ys.map enc) (by simp [hn])
      (fun j u hj => by rw [add_at]; exact hr.news hD (henc S w) j u hj) (fun u hu => by
        obtain ⟨q, hq, rfl⟩ := List.mem_map.1 hu
        obtain ⟨j, hj⟩ := List.getElem?_of_mem hq
        obtain ⟨_, _, _, _, hcc⟩ := hr.2.2 hp
        obtain ⟨es, he', _⟩ := hcc j q hj
        have := D.one he' (enc q)
        rw [henc S w q es he'] at this
        exact this (by simp)) (by simp only [maxLen]; omega) hl hbase
    refine Wop.val (fun ρ h => by simp [execOp, resolve, invoke, builtin, h x _ hx, h y _ hy, hrun]) (hk v1 w1 ?_ (fun w0 h0 => h0.grown hg hbase (fun k hk => (World.ownsRow.lt HO k hk).1)) hg hat)
    show w1.ownsRow base e 1 v1 (xs ++ ys).length _
    rw [List.length_append, List.map_append, hn]
    exact hown
end
section
variable {Q : Exit → Act → World → Prop} {N : Nat} {σ : Sl} {w : World} {K : Value → World → Prop}
variable {d : Option Tmp} {ty : TypeId} {ps : String} {af : Array Edge} {gd : Option (Nat × Bool)}
/-- append(v, xs ..) of texts, of numbers. -/
theorem Wop.appRowS {S : Nat → Prop} {x y : Operand} {v : Value} {n c : Nat} {A : Option Addr} {xs ys : List ByteArray} {base : Nat} (hx : look σ x = some v) (hy : look σ y = some (.slice A n c)) (hr : tS.Row S w A n ys) (HO : OwnS w base v xs) (hbase : base ≤ w.heap.size) (hl : xs.length + n ≤ 2199023255552)
    (hk : ∀ v' w', OwnS w' base v' (xs ++ ys) → (∀ w0, Below base w0 w → Below base w0 w') → w.grownBy w' v.ownBlock → (v'.ownBlock = v.ownBlock ∨ v'.ownBlock = some w.heap.size) → K v' w') :
    Wop Tryz.prog Q N ⟨d, .call ⟨.builtin .append, #[x, y], #[22, 22]⟩, ty, ps, af, gd⟩ σ w K :=
  Wop.appRow (D := tS) TT rfl rfl infoS rfl (by decide) rfl (fun _ _ _ _ h => h.1) hx hy hr HO hbase (by omega) hk
theorem Wop.appRowI {S : Nat → Prop} {x y : Operand} {v : Value} {n c : Nat} {A : Option Addr} {xs ys : List Int} {base : Nat} (hx : look σ x = some v) (hy : look σ y = some (.slice A n c)) (hr : tI.Row S w A n ys) (HO : OwnI w base v xs) (hbase : base ≤ w.heap.size) (hl : xs.length + n ≤ 2199023255552)
    (hk : ∀ v' w', OwnI w' base v' (xs ++ ys) → (∀ w0, Below base w0 w → Below base w0 w') → w.grownBy w' v.ownBlock → (v'.ownBlock = v.ownBlock ∨ v'.ownBlock = some w.heap.size) → K v' w') :
    Wop Tryz.prog Q N ⟨d, .call ⟨.builtin .append, #[x, y], #[40, 40]⟩, ty, ps, af, gd⟩ σ w K :=
  Wop.appRow (D := tI) TT rfl rfl infoI rfl (by decide) rfl (fun _ _ _ _ h => h.1) hx hy hr HO hbase (by omega) hk
end
/-! ### where ways meet again -/
section
variable {P : Program} {Q : Exit → Act → World → Prop} {N : Nat} {σ : Sl} {w : World}
theorem W.mid {x y : Code} {ι : Type} (τ : ι → Sl) (I : ι → World → Prop) (h : W P (Exit.then (fun a w => ∃ i, St N (τ i) a ∧ I i w) Q) N x σ w) (hy : ∀ i w', I i w' → W P Q N y (τ i) w') : W P Q N (.seq x y) σ w :=
  W.seq ⟨fun a ha => wp_mono (h.out a ha) (fun e a' w' hq => by
    cases e with
    | normal =>
      obtain ⟨i, hs, hI⟩ := hq
      exact (hy i w' hI).out a' hs
    | _ => exact hq)⟩
/-- As 'mid', from within a block. -/
theorem W.midB {id : Nat} {x y : Code} {ι : Type} (τ : ι → Sl) (I : ι → World → Prop) (h : W P (Exit.inBlock id (Exit.then (fun a w => ∃ i, St N (τ i) a ∧ I i w) Q)) N x σ w) (hy : ∀ i w', I i w' → W P Q N y (τ i) w') : W P (Exit.inBlock id (Exit.then (fun a w => y.wp P Q a w) Q)) N x σ w :=
  ⟨fun a ha => wp_mono (h.out a ha) (fun e a' w' hq => by
    have key : ∀ e, Exit.then (fun a w => ∃ i, St N (τ i) a ∧ I i w) Q e a' w' → Exit.then (fun a w => y.wp P Q a w) Q e a' w' := by
      intro e hq
      cases e with
      | normal =>
        obtain ⟨i, hs, hI⟩ := hq
        exact (hy i w' hI).out a' hs
      | _ => exact hq
    cases e with
    | exit id' =>
      simp only [Exit.inBlock] at hq ⊢
      by_cases hid : id' = id
      · rw [if_pos hid] at hq ⊢
        exact key _ hq
      · rw [if_neg hid] at hq ⊢
        exact key _ hq
    | normal => exact key .normal hq
    | ret => exact key .ret hq
    | goto l => exact key (.goto l) hq
    | panic c => exact key (.panic c) hq
    | outgrown => exact key .outgrown hq)⟩
theorem Arr.mid {ι : Type} {τ : ι → Sl} {I : ι → World → Prop} (i : ι) (hτ : Has σ (τ i)) (hI : I i w) : Arr (Exit.then (fun a w => ∃ i, St N (τ i) a ∧ I i w) Q) N .normal σ w := ⟨fun a ha => ⟨i, hτ.st a ha, hI⟩⟩
end
end Go.Proofs.YtbadjlhijbkbbaaGreat.Sx

/-
  Small helpers of the walk.
-/
set_option linter.unusedVariables false
namespace Go.Proofs.YtbadjlhijbkbbaaGreat.Sx
open Go Go.RowKit
/-- A slot's value, by another name. -/
theorem Has.consE {σ τ : Sl} {t : Nat} {v v' : Value} (h : σ.lookup t = some v') (e : v' = v) (r : Has σ τ) : Has σ ((t, v) :: τ) := Has.cons (e ▸ h) r
theorem Has.consI {σ τ : Sl} {t : Nat} {k : IntKind} {m n : Int} (h : σ.lookup t = some (.int k m)) (e : m = n) (r : Has σ τ) : Has σ ((t, .int k n) :: τ) := Has.cons (e ▸ h) r
/-- The cells of a row's elements, one behind the other. -/
def Ty.RowL {α : Type} (D : Ty α) (S : Nat → Prop) (w : World) : List α → List Value → Prop
  | [], cs => cs = []
  | x :: xs, cs => ∃ es r, cs = es ++ r ∧ D.rd S w x es ∧ Ty.RowL D S w xs r
theorem Ty.RowL.at_ {α : Type} {D : Ty α} {S : Nat → Prop} {w : World} : ∀ {xs : List α} {cs : List Value}, Ty.RowL D S w xs cs → ∀ (j : Nat) (x : α), xs[j]? = some x → ∃ es, D.rd S w x es ∧ ∀ i v, es[i]? = some v → cs[j * D.sz + i]? = some v
  | [], _, _, j, x, hj => by simp at hj
  | y :: xs, _, ⟨es, r, rfl, he, hr⟩, 0, x, hj => by
    simp at hj
    subst hj
    refine ⟨es, he, fun i v hv => ?_⟩
    have := (List.getElem?_eq_some_iff.1 hv).1
    rw [Nat.zero_mul, Nat.zero_add, List.getElem?_append_left this]
    exact hv
  | y :: xs, _, ⟨es, r, rfl, he, hr⟩, j + 1, x, hj => by
    obtain ⟨es', he', h⟩ := Ty.RowL.at_ hr j x (by simpa using hj)
    refine ⟨es', he', fun i v hv => ?_⟩
    have hl := D.len he
    rw [List.getElem?_append_right (by rw [hl, Nat.add_mul]; omega), hl, show (j + 1) * D.sz + i - D.sz = j * D.sz + i by rw [Nat.add_mul]; omega]
    exact h i v hv
theorem Blk.rowL {α : Type} {D : Ty α} {S : Nat → Prop} {w : World} {b : Nat} {cs : List Value} {u : TypeId} {xs : List α} (hb : Blk w b cs.toArray u) (h : Ty.RowL D S w xs cs) (hS : S b) (hn : xs.length ≤ 1099511627776) : D.Row S w (some ⟨b, 0, none⟩) xs.length xs :=
  ⟨rfl, hn, fun _ => ⟨b, 0, rfl, hS, fun j x hj => by
    obtain ⟨es, he, hc⟩ := h.at_ j x hj
    exact ⟨es, he, fun i v hv => by rw [Nat.zero_add]; exact hb.cell (by simpa using hc i v hv)⟩⟩⟩
theorem neV (x : Int) : Value.bool (decide (x ≠ x)) = .bool false := congrArg Value.bool (decide_eq_false (fun h => h rfl))
theorem eqV {α : Type} [DecidableEq α] (x : α) : Value.bool (decide (x = x)) = .bool true := congrArg Value.bool (decide_eq_true rfl)
theorem nbV (b : Bool) : Value.bool (b != b) = .bool false := by cases b <;> rfl
theorem ebV (b : Bool) : Value.bool (b == b) = .bool true := by cases b <;> rfl
end Go.Proofs.YtbadjlhijbkbbaaGreat.Sx

/-
  Rows that are written in place: a row in one block, of elements whose own data lie elsewhere.
-/
set_option linter.unusedVariables false
namespace Go.Proofs.YtbadjlhijbkbbaaGreat.Sx
open Go Go.RowKit

/-- The blocks of which p is so are as they were. -/
structure Keeps (p : Nat → Prop) (a b : World) : Prop where
  os : b.os = a.os
  tape : b.tape = a.tape
  output : b.output = a.output
  size : a.heap.size ≤ b.heap.size
  block : ∀ k, p k → k < a.heap.size → b.heap[k]? = a.heap[k]?
theorem Keeps.refl (p : Nat → Prop) (a : World) : Keeps p a a := ⟨rfl, rfl, rfl, Nat.le_refl _, fun _ _ _ => rfl⟩
theorem Keeps.trans {p : Nat → Prop} {a b c : World} (h : Keeps p a b) (k : Keeps p b c) : Keeps p a c :=
  ⟨k.os.trans h.os, k.tape.trans h.tape, k.output.trans h.output, Nat.le_trans h.size k.size, fun i hp hi => (k.block i hp (Nat.lt_of_lt_of_le hi h.size)).trans (h.block i hp hi)⟩
theorem Ext.keeps {p : Nat → Prop} {a b : World} (h : Ext a b) : Keeps p a b := ⟨h.os, h.tape, h.output, Ext.size h, fun _ _ hk => h.block hk⟩
theorem Keeps.mono {p q : Nat → Prop} {a b : World} (h : Keeps p a b) (hq : ∀ k, q k → p k) : Keeps q a b := ⟨h.os, h.tape, h.output, h.size, fun k hk hl => h.block k (hq k hk) hl⟩
theorem Keeps.below {p : Nat → Prop} {a b : World} {B : Nat} (h : Keeps p a b) (hB : B ≤ a.heap.size) (hp : ∀ k, k < B → p k) : Below B a b := ⟨h.os, h.tape, h.output, h.size, fun k hk => h.block k (hp k hk) (Nat.lt_of_lt_of_le hk hB)⟩
theorem Keeps.drew (p : Nat → Prop) (a : World) : Keeps p a { a with drawn := a.drawn + 1 } := ⟨rfl, rfl, rfl, Nat.le_refl _, fun _ _ _ => rfl⟩
theorem Keeps.blk {p : Nat → Prop} {a b : World} {k : Nat} {cs : Array Value} {u : TypeId} (e : Keeps p a b) (h : Blk a k cs u) (hp : p k) : Blk b k cs u := (e.block k hp h.lt).trans h
theorem Ty.keep {α : Type} (D : Ty α) {S p : Nat → Prop} {a b : World} {x : α} {cs : List Value} (e : Keeps p a b) (hS : ∀ k, S k → p k) (h : D.rd S a x cs) : D.rd S b x cs :=
  D.mono (fun _ hk => hk.1) (D.move (fun k hk => e.block k (hS k hk.1) hk.2) (D.lt h))
theorem Ty.Row.keep {α : Type} {D : Ty α} {S p : Nat → Prop} {a b : World} {A : Option Addr} {n : Nat} {xs : List α} (h0 : 0 < D.sz) (e : Keeps p a b) (hS : ∀ k, S k → p k) (h : D.Row S a A n xs) : D.Row S b A n xs :=
  Ty.Row.mono (fun _ hk => hk.1) (Ty.Row.move (fun k hk => e.block k (hS k hk.1) hk.2) (Ty.Row.lt h0 h))

/-- Some blocks are written: each is as it was, or what is wanted is so of it. -/
structure Wr (l : List (Nat × (World → Prop))) (a b : World) : Prop where
  keeps : Keeps (fun k => ∀ q ∈ l, k ≠ q.1) a b
  each : ∀ q ∈ l, b.heap[q.1]? = a.heap[q.1]? ∨ q.2 b
theorem Wr.refl (l : List (Nat × (World → Prop))) (a : World) : Wr l a a := ⟨Keeps.refl _ _, fun _ _ => .inl rfl⟩
theorem Wr.drew (l : List (Nat × (World → Prop))) (a : World) : Wr l a { a with drawn := a.drawn + 1 } := ⟨Keeps.drew _ _, fun _ _ => .inl rfl⟩
def Stable (l : List (Nat × (World → Prop))) : Prop := ∀ q ∈ l, ∀ a b, q.2 a → Keeps (fun k => ∀ q ∈ l, k ≠ q.1) a b → b.heap[q.1]? = a.heap[q.1]? → q.2 b
theorem Wr.trans {l : List (Nat × (World → Prop))} (hT : Stable l) {a b c : World} (h : Wr l a b) (k : Wr l b c) : Wr l a c :=
  ⟨h.keeps.trans k.keeps, fun q hq => by
    rcases k.each q hq with h1 | h1
    · rcases h.each q hq with h2 | h2
      · exact .inl (h1.trans h2)
      · exact .inr (hT q hq b c h2 k.keeps h1)
    · exact .inr h1⟩
theorem Wr.of_ext {l : List (Nat × (World → Prop))} {a b : World} (e : Ext a b) (hl : ∀ q ∈ l, q.1 < a.heap.size) : Wr l a b := ⟨Ext.keeps e, fun q hq => .inl (e.block (hl q hq))⟩
/-- One operation of a region that draws its order and writes some blocks. -/
theorem qw {p : Prop} (h : p := by (intro w_ hG; (repeat (intro v_ hv_; cases hv_)); first | (refine WopG.plain rfl ?_; first | refine Wop.pure TT rfl ⟨Wr.refl _ _, rfl, (by repeat (first | exact trivial | refine ⟨fun _ h => h, ?_⟩))⟩ | refine Wop.ldB TT rfl rfl (by first | assumption | exact (by assumption : ∀ w_, Wr _ _ w_ → Blk w_ _ _ _) _ hG) rfl ⟨Wr.refl _ _, rfl, (by repeat (first | exact trivial | refine ⟨fun _ h => h, ?_⟩))⟩ | refine Wop.ld TT rfl rfl (by first | assumption | exact (by assumption : ∀ w_, Wr _ _ w_ → w_.cell? _ = _) _ hG) ⟨Wr.refl _ _, rfl, (by repeat (first | exact trivial | refine ⟨fun _ h => h, ?_⟩))⟩ | refine Wop.ldA TT rfl rfl rfl (by first | assumption | exact (by assumption : ∀ w_, Wr _ _ w_ → Blk w_ _ _ _) _ hG) ⟨Wr.refl _ _, rfl, (by repeat (first | exact trivial | refine ⟨fun _ h => h, ?_⟩))⟩ | refine Wop.ldR TT rfl rfl rfl (by first | assumption | assumption) ⟨Wr.refl _ _, rfl, (by repeat (first | exact trivial | refine ⟨fun _ h => h, ?_⟩))⟩ | refine Wop.ix TT rfl rfl rfl rfl rfl (by first | assumption | omega) ⟨Wr.refl _ _, rfl, (by repeat (first | exact trivial | refine ⟨fun _ h => h, ?_⟩))⟩ | refine Wop.inc rfl rfl (by omega) ⟨Wr.refl _ _, rfl, (by repeat (first | exact trivial | refine ⟨fun _ h => h, ?_⟩))⟩ | refine Wop.add rfl rfl ⟨by omega, by omega⟩ ⟨Wr.refl _ _, rfl, (by repeat (first | exact trivial | refine ⟨fun _ h => h, ?_⟩))⟩ | refine Wop.sub rfl rfl ⟨by omega, by omega⟩ ⟨Wr.refl _ _, rfl, (by repeat (first | exact trivial | refine ⟨fun _ h => h, ?_⟩))⟩) | exact WopG.no rfl rfl rfl rfl rfl ⟨Wr.refl _ _, rfl, (by repeat (first | exact trivial | refine ⟨fun _ h => h, ?_⟩))⟩ | (refine WopG.yes rfl rfl rfl rfl ?_; first | refine Wop.pure TT rfl ⟨Wr.refl _ _, rfl, (by repeat (first | exact trivial | refine ⟨fun _ h => h, ?_⟩))⟩ | refine Wop.ldB TT rfl rfl (by first | assumption | exact (by assumption : ∀ w_, Wr _ _ w_ → Blk w_ _ _ _) _ hG) rfl ⟨Wr.refl _ _, rfl, (by repeat (first | exact trivial | refine ⟨fun _ h => h, ?_⟩))⟩ | refine Wop.ld TT rfl rfl (by first | assumption | exact (by assumption : ∀ w_, Wr _ _ w_ → w_.cell? _ = _) _ hG) ⟨Wr.refl _ _, rfl, (by repeat (first | exact trivial | refine ⟨fun _ h => h, ?_⟩))⟩ | refine Wop.ldA TT rfl rfl rfl (by first | assumption | exact (by assumption : ∀ w_, Wr _ _ w_ → Blk w_ _ _ _) _ hG) ⟨Wr.refl _ _, rfl, (by repeat (first | exact trivial | refine ⟨fun _ h => h, ?_⟩))⟩ | refine Wop.ldR TT rfl rfl rfl (by first | assumption | assumption) ⟨Wr.refl _ _, rfl, (by repeat (first | exact trivial | refine ⟨fun _ h => h, ?_⟩))⟩ | refine Wop.ix TT rfl rfl rfl rfl rfl (by first | assumption | omega) ⟨Wr.refl _ _, rfl, (by repeat (first | exact trivial | refine ⟨fun _ h => h, ?_⟩))⟩ | refine Wop.inc rfl rfl (by omega) ⟨Wr.refl _ _, rfl, (by repeat (first | exact trivial | refine ⟨fun _ h => h, ?_⟩))⟩ | refine Wop.add rfl rfl ⟨by omega, by omega⟩ ⟨Wr.refl _ _, rfl, (by repeat (first | exact trivial | refine ⟨fun _ h => h, ?_⟩))⟩ | refine Wop.sub rfl rfl ⟨by omega, by omega⟩ ⟨Wr.refl _ _, rfl, (by repeat (first | exact trivial | refine ⟨fun _ h => h, ?_⟩))⟩))) : p := h
theorem Ty.RowL.move {α : Type} {D : Ty α} {S : Nat → Prop} {w w' : World} (hm : ∀ x es, D.rd S w x es → D.rd S w' x es) : ∀ {xs : List α} {cs : List Value}, Ty.RowL D S w xs cs → Ty.RowL D S w' xs cs
  | [], _, h => h
  | _ :: _, _, ⟨es, r, h1, h2, h3⟩ => ⟨es, r, h1, hm _ _ h2, Ty.RowL.move hm h3⟩
theorem Ty.RowL.length {α : Type} {D : Ty α} {S : Nat → Prop} {w : World} : ∀ {xs : List α} {cs : List Value}, Ty.RowL D S w xs cs → cs.length = xs.length * D.sz
  | [], _, h => by rw [show _ = [] from h]; simp
  | _ :: _, _, ⟨es, r, rfl, h2, h3⟩ => by rw [List.length_append, D.len h2, Ty.RowL.length h3, List.length_cons, Nat.add_mul]; omega
theorem Ty.RowL.split {α : Type} {D : Ty α} {S : Nat → Prop} {w : World} : ∀ {xs : List α} {cs : List Value}, Ty.RowL D S w xs cs → ∀ (j : Nat) (hj : j < xs.length),
    ∃ pre es post, cs = pre ++ es ++ post ∧ pre.length = j * D.sz ∧ D.rd S w xs[j] es ∧ ∀ x' es', D.rd S w x' es' → Ty.RowL D S w (xs.set j x') (pre ++ es' ++ post)
  | [], _, _, j, hj => by simp at hj
  | x :: xs, _, ⟨es, r, rfl, h2, h3⟩, 0, _ => ⟨[], es, r, by simp, by simp, h2, fun x' es' h' => ⟨es', r, by simp, h', h3⟩⟩
  | x :: xs, _, ⟨es, r, rfl, h2, h3⟩, j + 1, hj => by
    obtain ⟨pre, e2, post, rfl, hp, hr, hs⟩ := Ty.RowL.split h3 j (by simpa using hj)
    refine ⟨es ++ pre, e2, post, by simp, by rw [List.length_append, D.len h2, hp, Nat.add_mul]; omega, hr, fun x' es' h' => ?_⟩
    exact ⟨es, pre ++ es' ++ post, by simp, h2, hs x' es' h'⟩

/-- Elements xs in block b, their own data in the blocks S. -/
def Mut {α : Type} (D : Ty α) (S : Nat → Prop) (w : World) (b : Nat) (u : TypeId) (xs : List α) : Prop := ∃ cs : List Value, Blk w b cs.toArray u ∧ Ty.RowL D S w xs cs
section
variable {α : Type} {D : Ty α} {S : Nat → Prop} {w w' : World} {b : Nat} {u : TypeId} {xs : List α}
theorem Mut.lt (h : Mut D S w b u xs) : b < w.heap.size := by obtain ⟨cs, h, _⟩ := h; exact h.lt
theorem Mut.keep {p : Nat → Prop} (h : Mut D S w b u xs) (e : Keeps p w w') (hb : p b) (hS : ∀ k, S k → p k) : Mut D S w' b u xs := by
  obtain ⟨cs, h1, h2⟩ := h
  exact ⟨cs, e.blk h1 hb, h2.move (fun x es hx => D.keep e hS hx)⟩
theorem Mut.same {p : Nat → Prop} (h : Mut D S w b u xs) (e : Keeps p w w') (hb : w'.heap[b]? = w.heap[b]?) (hS : ∀ k, S k → p k) : Mut D S w' b u xs := by
  obtain ⟨cs, h1, h2⟩ := h
  exact ⟨cs, hb.trans h1, h2.move (fun x es hx => D.keep e hS hx)⟩
theorem Mut.mono {S' : Nat → Prop} (h : Mut D S w b u xs) (hS : ∀ k, S k → S' k) : Mut D S' w b u xs := by
  obtain ⟨cs, h1, h2⟩ := h
  have key : ∀ {xs : List α} {cs : List Value}, Ty.RowL D S w xs cs → Ty.RowL D S' w xs cs := by
    intro xs
    induction xs with
    | nil => exact fun h => h
    | cons x xs ih => exact fun ⟨es, r, e, he, hr⟩ => ⟨es, r, e, D.mono hS he, ih hr⟩
  exact ⟨cs, h1, key h2⟩
theorem Mut.ext (h : Mut D S w b u xs) (e : Ext w w') : Mut D S w' b u xs := h.keep (Ext.keeps (p := fun _ => True) e) trivial (fun _ _ => trivial)
theorem Mut.at_ (h : Mut D S w b u xs) (i : Nat) (hi : i < xs.length) : ∃ es, D.rd S w xs[i] es ∧ ∀ k v, es[k]? = some v → w.cell? ⟨b, 0 + i * D.sz + k, none⟩ = some v := by
  obtain ⟨cs, h1, h2⟩ := h
  obtain ⟨es, he, hc⟩ := h2.at_ i xs[i] (List.getElem?_eq_getElem hi)
  exact ⟨es, he, fun k v hv => h1.cell (by simpa using hc k v hv)⟩
theorem Mut.row (h : Mut D S w b u xs) (hb : S b) (hn : xs.length ≤ 1099511627776) : D.Row S w (some ⟨b, 0, none⟩) xs.length xs := by
  obtain ⟨cs, h1, h2⟩ := h
  exact h1.rowL h2 hb hn
end
theorem setAll_mid : ∀ (vs pre cs post : List Value), cs.length = vs.length → setAll (pre ++ cs ++ post).toArray pre.length vs = (pre ++ vs ++ post).toArray
  | [], pre, cs, post, h => by
    have : cs = [] := List.eq_nil_of_length_eq_zero (by simpa using h)
    simp [setAll, this]
  | v :: r, pre, c :: cs, post, h => by
    have ih := setAll_mid r (pre ++ [v]) cs post (by simpa using h)
    simp only [List.append_assoc, List.singleton_append, List.length_append, List.length_singleton] at ih
    rw [setAll]
    have e : (pre ++ c :: cs ++ post).toArray.setIfInBounds pre.length v = (pre ++ (v :: (cs ++ post))).toArray := by
      simp
    rw [e]
    simpa using ih
  | v :: r, pre, [], post, h => by simp at h
theorem setCellsW_keeps {b : Nat} (vs : List Value) (w : World) (o : Nat) : Keeps (fun k => k ≠ b) w (setCellsW w b o vs) := by
  have h := setCellsW_below (Nat.le_refl b) vs w w o (Below.refl _ _)
  exact ⟨h.os, h.tape, h.output, h.size, fun k hk _ => setCellsW_other hk vs w o⟩
section
variable {P : Program} {Q : Exit → Act → World → Prop} {N : Nat} {σ : Sl} {w : World} {K : Value → World → Prop}
variable {d : Option Tmp} {ty : TypeId} {ps : String} {af : Array Edge} {gd : Option (Nat × Bool)}
variable {α : Type} {D : Ty α} {S : Nat → Prop} {b : Nat} {u : TypeId} {xs : List α}
/-- A whole element is written. -/
theorem Wop.stMut (T : Tab P) {t : TypeId} {x y : Operand} {j o : Nat} {x' : α} {vs : Array Value} (hs : nth T.sizes t = some vs.size) (hx : look σ x = some (.pointer (some ⟨b, o, none⟩))) (ho : o = j * D.sz) (hy : look σ y = some (.agg vs)) (h1 : ∀ v ∈ vs.toList, v.oneCell' = true)
    (hm : Mut D S w b u xs) (hj : j < xs.length) (hr : D.rd S w x' vs.toList) (hS : ∀ k, S k → k ≠ b)
    (hk : ∀ w', Keeps (fun k => k ≠ b) w w' → w'.heap.size = w.heap.size → Mut D S w' b u (xs.set j x') → K undef w') : Wop P Q N ⟨d, .store t x y, ty, ps, af, gd⟩ σ w K := by
  subst ho
  obtain ⟨cs, hb, hrow⟩ := hm
  obtain ⟨pre, es, post, rfl, hp, he, hset⟩ := hrow.split j hj
  have hl := D.len he
  have hl' := D.len hr
  have kp := setCellsW_keeps (b := b) vs.toList w (j * D.sz)
  refine Wop.stS T hs hx hy h1 hb (by simp at hl' ⊢; omega) (hk _ kp (setCellsW_size _ _ _) ⟨pre ++ vs.toList ++ post, ?_, (hset x' _ hr).move (fun y es hy => D.keep kp hS hy)⟩)
  have h2 := setCellsW_blk vs.toList w _ (j * D.sz) hb
  rw [← hp, setAll_mid _ _ _ _ (by rw [hl, hl'])] at h2
  rw [← hp]
  exact h2
/-- One cell of an element is written. -/
theorem Wop.stMutF (T : Tab P) {t : TypeId} {x y : Operand} {j k o : Nat} {x' : α} {v : Value} (hs : nth T.sizes t = some 1) (hx : look σ x = some (.pointer (some ⟨b, o, none⟩))) (ho : o = j * D.sz + k) (hkz : k < D.sz) (hy : look σ y = some v) (h1 : v.oneCell' = true)
    (hm : Mut D S w b u xs) (hj : j < xs.length) (hr : ∀ es, D.rd S w xs[j] es → D.rd S w x' (es.set k v)) (hS : ∀ k, S k → k ≠ b)
    (hk : ∀ w', Keeps (fun k => k ≠ b) w w' → w'.heap.size = w.heap.size → Mut D S w' b u (xs.set j x') → K undef w') : Wop P Q N ⟨d, .store t x y, ty, ps, af, gd⟩ σ w K := by
  subst ho
  obtain ⟨cs, hb, hrow⟩ := hm
  obtain ⟨pre, es, post, rfl, hp, he, hset⟩ := hrow.split j hj
  have hl := D.len he
  have kp : Keeps (fun k => k ≠ b) w (w.setCell ⟨b, j * D.sz + k, none⟩ v) := by
    have h := (Below.refl b w).setCell (show b ≤ (⟨b, j * D.sz + k, none⟩ : Addr).block from Nat.le_refl b) v
    exact ⟨h.os, h.tape, h.output, h.size, fun i hi _ => Below.heap_setCell w _ _ _ hi⟩
  have hlt : j * D.sz + k < (pre ++ es ++ post).length := by simp; omega
  refine Wop.st T hs hx hy h1 hb (old := (pre ++ es ++ post)[j * D.sz + k]) (by simp) (hk _ kp (by simp [World.setCell]) ⟨pre ++ es.set k v ++ post, ?_, (hset x' _ (hr es he)).move (fun y es hy => D.keep kp hS hy)⟩)
  have h2 := hb.set (j * D.sz + k) v
  have e : (pre ++ es ++ post).toArray.setIfInBounds (j * D.sz + k) v = (pre ++ es.set k v ++ post).toArray := by
    rw [← hp]
    simp only [List.setIfInBounds_toArray]
    congr 1
    rw [List.append_assoc, List.set_append_right _ _ (by omega), Nat.add_sub_cancel_left, List.set_append_left _ _ (by omega), List.append_assoc]
  rw [e] at h2
  exact h2
theorem rowL_made {z : Array Value} {x0 : α} (hz : D.rd S w x0 z.toList) : ∀ n : Nat, Ty.RowL D S w (List.replicate n x0) ((List.range (n * D.sz)).map (z[· % z.size]!))
  | 0 => by
    rw [Nat.zero_mul]
    exact rfl
  | n + 1 => by
    have hl : z.size = D.sz := by simpa using D.len hz
    refine ⟨z.toList, (List.range (n * D.sz)).map (z[· % z.size]!), ?_, hz, rowL_made hz n⟩
    rw [show (n + 1) * D.sz = D.sz + n * D.sz by rw [Nat.add_mul]; omega, List.range_add, List.map_append, List.map_map]
    congr 1
    · apply List.ext_getElem?
      intro i
      rw [List.getElem?_map]
      by_cases hi : i < D.sz
      · rw [List.getElem?_range hi]
        have hi' : i < z.size := by omega
        simp [Nat.mod_eq_of_lt hi', hi']
      · have : (List.range D.sz)[i]? = none := List.getElem?_eq_none (by simp; omega)
        rw [this, List.getElem?_eq_none (by simp; omega)]
        rfl
    · apply List.map_congr_left
      intro i _
      simp only [Function.comp]
      rw [← hl, Nat.add_mod_left]
/-- make([]T, n). -/
theorem Wop.makeMut (T : Tab P) {t e : TypeId} {x y : Operand} {n : Nat} {m : Int} {z : Value} {sz bytes : Nat} {x0 : α} (ht : nth T.kinds t = some 1) (he : nth T.elems t = some e) (hinfo : (P.info? e).map (fun i => (i.zero, i.size, i.bytes)) = some (some z, sz, bytes)) (hsz : sz = D.sz)
    (hx : look σ x = some (.int .i64 m)) (hy : look σ y = some (.int .i64 m)) (hm : m = (n : Int)) (hl : n * bytes ≤ 140737488355328) (hn : n ≤ 1099511627776) (hz : ∀ w, D.rd S w x0 z.cells.toList)
    (hk : ∀ w', Ext w w' → Mut D S w' w.heap.size e (List.replicate n x0) → w'.heap.size = w.heap.size + 1 → K (.slice (some ⟨w.heap.size, 0, none⟩) n n) w') : Wop P Q N ⟨d, .makeSlice t x y, ty, ps, af, gd⟩ σ w K := by
  subst hm
  obtain ⟨i0, hi, hzz⟩ := Option.map_eq_some_iff.1 hinfo
  simp only [Prod.mk.injEq] at hzz
  obtain ⟨hz0, hz1, hz2⟩ := hzz
  have hb : (i0.bytes : Int) * (n : Int) ≤ 281474976710656 := by
    have : bytes * n ≤ 140737488355328 := by rw [Nat.mul_comm]; exact hl
    rw [hz2]
    have h2 : ((bytes * n : Nat) : Int) ≤ 140737488355328 := by omega
    rw [Int.natCast_mul] at h2
    omega
  have hrun := run_make (P := P) w t e i0 z (T.slice t e ht he) hi hz0 .i64 .i64 (n : Int) (n : Int) (by omega) (Int.le_refl _) hb (by omega)
  simp only [Int.toNat_natCast] at hrun
  have e2 : madeCells z.cells (n * D.sz) = ((List.range (n * D.sz)).map (z.cells[· % z.cells.size]!)).toArray := range_map _ _
  rw [hz1, hsz, e2] at hrun
  exact Wop.val (fun ρ h => by simp [execOp, h x _ hx, h y _ hy, hrun]) (hk _ (Ext.alloc _ _) ⟨(List.range (n * D.sz)).map (z.cells[· % z.cells.size]!), Blk.alloc _ _ _, rowL_made (hz _) n⟩ (by simp))
end
end Go.Proofs.YtbadjlhijbkbbaaGreat.Sx

/-
  Regions that draw their order and write elements of rows.
-/
set_option linter.unusedVariables false
namespace Go.Proofs.YtbadjlhijbkbbaaGreat.Sx
open Go Go.RowKit
theorem mem2 {α : Type _} {q a b : α} (h : q ∈ [a, b]) : q = a ∨ q = b := by simpa using h
theorem mem3 {α : Type _} {q a b c : α} (h : q ∈ [a, b, c]) : q = a ∨ q = b ∨ q = c := by simpa using h
/-- One row more that is written. -/
theorem Stable.nil : Stable [] := fun q h => by cases h
def MutT {α : Type} (D : Ty α) (S : Nat → Prop) (b : Nat) (u : TypeId) (ys : List α) : Nat × (World → Prop) := (b, fun c => Mut D S c b u ys)
theorem stable_mut {l : List (Nat × (World → Prop))} (h : ∀ q ∈ l, ∃ (α : Type) (D : Ty α) (S : Nat → Prop) (u : TypeId) (ys : List α), q = MutT D S q.1 u ys ∧ ∀ k, S k → ∀ r ∈ l, k ≠ r.1) : Stable l := by
  intro q hq a b hT hK hs
  obtain ⟨α, D, S, u, ys, e, hS⟩ := h q hq
  rw [e] at hT ⊢
  exact Mut.same hT hK hs hS
section
variable {α : Type} {D : Ty α} {S : Nat → Prop} {w w_ w' : World} {b i : Nat} {u : TypeId} {xs : List α} {x : α} {l : List (Nat × (World → Prop))}
theorem Wr.cur (h : Mut D S w b u xs) (hq : MutT D S b u (xs.set i x) ∈ l) (hS : ∀ k, S k → ∀ q ∈ l, k ≠ q.1) (hG : Wr l w w_) : ∃ cur, Mut D S w_ b u cur ∧ cur.length = xs.length ∧ cur.set i x = xs.set i x := by
  rcases hG.each _ hq with hs | hT
  · exact ⟨xs, h.same hG.keeps hs hS, rfl, rfl⟩
  · exact ⟨_, hT, by simp, by simp⟩
theorem Wr.store (hG : Wr l w w_) (hlt : ∀ q ∈ l, q.1 < w.heap.size) (kk : Keeps (fun k => k ≠ b) w_ w') (hb : ∃ q ∈ l, q.1 = b) (hT : ∀ q ∈ l, q.1 = b → q.2 w') : Wr l w_ w' := by
  obtain ⟨q0, h0, rfl⟩ := hb
  refine ⟨kk.mono (fun k hk => hk q0 h0), fun q hq => ?_⟩
  by_cases e : q.1 = q0.1
  · exact .inr (hT q hq e)
  · exact .inl (kk.block _ e (Nat.lt_of_lt_of_le (hlt q hq) hG.keeps.size))
end
end Go.Proofs.YtbadjlhijbkbbaaGreat.Sx

/-
  Maps from texts to numbers.
-/
set_option linter.unusedVariables false
namespace Go.Proofs.YtbadjlhijbkbbaaGreat.Sx
open Go Go.RowKit
theorem bbeq (a b : ByteArray) : (a == b) = decide (a = b) := by
  have e : (a == b) = (a.data == b.data) := rfl
  rw [e]
  by_cases h : a = b
  · subst h; simp
  · rw [decide_eq_false h]
    simp only [beq_eq_false_iff_ne, ne_eq]
    exact fun h' => h (ByteArray.ext h')
instance : LawfulBEq ByteArray where
  eq_of_beq {a b} h := by
    rw [bbeq] at h
    exact of_decide_eq_true h
  rfl {a} := by rw [bbeq]; exact decide_eq_true rfl
def posM (k : ByteArray) : List (ByteArray × Int) → Nat → Option (Nat × Int)
  | [], _ => none
  | (x, v) :: r, i => if k = x then some (i, v) else posM k r (i + 1)
def getM (k : ByteArray) : List (ByteArray × Int) → Int
  | [] => 0
  | (x, v) :: r => if k = x then v else getM k r
def putM (k : ByteArray) (u : Int) : List (ByteArray × Int) → List (ByteArray × Int)
  | [] => [(k, u)]
  | (x, v) :: r => if k = x then (k, u) :: r else (x, v) :: putM k u r
def mcell (p : ByteArray × Int) : Value × Value := (.string p.1, .int .i64 p.2)
def MapIn (m : List (ByteArray × Int)) (es : Array MapEntry) : Prop := es.toList.map (fun e => (e.key, e.val)) = m.map mcell
/-- A map lies in a block. -/
def MapAt (w : World) (b : Nat) (m : List (ByteArray × Int)) : Prop := ∃ es c, w.heap[b]? = some (.map es c) ∧ MapIn m es
theorem MapAt.ext {w w' : World} {b : Nat} {m : List (ByteArray × Int)} (h : MapAt w b m) (e : Ext w w') : MapAt w' b m := by
  obtain ⟨es, c, h1, h2⟩ := h
  exact ⟨es, c, (e.block (lt_of_block h1)).trans h1, h2⟩
theorem MapAt.lt {w : World} {b : Nat} {m : List (ByteArray × Int)} (h : MapAt w b m) : b < w.heap.size := by
  obtain ⟨es, c, h1, _⟩ := h
  exact lt_of_block h1
theorem findNow_pos (k : ByteArray) : ∀ (l : List MapEntry) (m : List (ByteArray × Int)) (i : Nat), l.map (fun e => (e.key, e.val)) = m.map mcell →
    Instr.findNow .string (.string k) l i = some ((posM k m i).map fun p => (p.1, .int .i64 p.2))
  | [], m, i, h => by
    have : m = [] := by simpa using h.symm
    subst this
    rfl
  | e :: l, [], i, h => by simp at h
  | e :: l, (x, v) :: m, i, h => by
    simp only [List.map_cons, List.cons.injEq, mcell, Prod.mk.injEq] at h
    obtain ⟨⟨h1, h2⟩, h3⟩ := h
    simp only [Instr.findNow, h1, h2, Instr.sameNow, bbeq]
    by_cases hk : k = x
    · rw [decide_eq_true hk]
      simp [posM, hk]
    · rw [decide_eq_false hk]
      simp only [posM, if_neg hk]
      exact findNow_pos k l m (i + 1) h3
theorem posM_get (k : ByteArray) : ∀ (m : List (ByteArray × Int)) (i : Nat), getM k m = match posM k m i with
    | some p => p.2
    | none => 0
  | [], _ => rfl
  | (x, v) :: m, i => by
    simp only [getM, posM]
    by_cases h : k = x
    · rw [if_pos h, if_pos h]
    · rw [if_neg h, if_neg h]
      exact posM_get k m (i + 1)
theorem posM_put (k : ByteArray) (u : Int) : ∀ (m : List (ByteArray × Int)) (i : Nat), match posM k m i with
    | some p => i ≤ p.1 ∧ p.1 < i + m.length ∧ putM k u m = m.set (p.1 - i) (k, u) ∧ ∃ v, m[p.1 - i]? = some (k, v)
    | none => putM k u m = m ++ [(k, u)]
  | [], _ => rfl
  | (x, v) :: m, i => by
    have ih := posM_put k u m (i + 1)
    simp only [posM, putM]
    by_cases h : k = x
    · subst h
      simp
    · rw [if_neg h, if_neg h]
      cases hp : posM k m (i + 1) with
      | none => rw [hp] at ih; simp only at ih ⊢; rw [ih]; rfl
      | some p =>
        rw [hp] at ih
        obtain ⟨h1, h2, h3, v', h4⟩ := ih
        simp only
        have e : p.1 - i = (p.1 - (i + 1)) + 1 := by omega
        refine ⟨by omega, by simp; omega, ?_, v', ?_⟩
        · rw [e, List.set_cons_succ, h3]
        · rw [e, List.getElem?_cons_succ]; exact h4
section
variable {P : Program} {Q : Exit → Act → World → Prop} {N : Nat} {σ : Sl} {w : World} {K : Value → World → Prop}
variable {d : Option Tmp} {ty : TypeId} {ps : String} {af : Array Edge} {gd : Option (Nat × Bool)}
theorem Wop.mkMap {t : TypeId} (hk : ∀ w', Ext w w' → MapAt w' w.heap.size [] → w'.heap.size = w.heap.size + 1 → K (.map (some w.heap.size)) w') : Wop P Q N ⟨d, .makeMap t none, ty, ps, af, gd⟩ σ w K :=
  Wop.val (w' := w.alloc (.map #[] 0)) (fun ρ h => by simp [execOp, Instr.makeMap, newObj, Sem.run, World.alloc_eq]) (hk _ (Ext.alloc _ _) ⟨#[], 0, heap_alloc_new w _, rfl⟩ (by simp))
theorem run_checkS {kt : TypeId} {k : ByteArray} (hkt : P.underlying kt = some .string) (e : Bool) (w : World) : (Instr.checkKey e 10000 kt (.string k)).run P w = .ok () w := by
  rw [show 10000 = 9999 + 1 from rfl, Instr.checkKey]
  simp [run_underlying hkt]
theorem Wop.getMap {t kt et : TypeId} {x y : Operand} {b : Nat} {k : ByteArray} {m : List (ByteArray × Int)} (ht : P.underlying t = some (.map kt et)) (hkt : P.underlying kt = some .string) (hz : ∀ w, (zeroValue et).run P w = .ok (.int .i64 0) w)
    (hx : look σ x = some (.map (some b))) (hy : look σ y = some (.string k)) (hm : MapAt w b m) (hk : K (.int .i64 (getM k m)) w) : Wop P Q N ⟨d, .lookup t x y false, ty, ps, af, gd⟩ σ w K := by
  obtain ⟨es, c, h1, h2⟩ := hm
  refine Wop.val (fun ρ h => ?_) hk
  have hf := findNow_pos k es.toList m 0 h2
  have hg := posM_get k m 0
  cases hp : posM k m 0 with
  | none =>
    rw [hp] at hf hg
    simp [execOp, h x _ hx, h y _ hy, Instr.lookup, run_underlying ht, getObj, Sem.run, h1, run_checkS hkt, run_underlying hkt, Instr.findKey, hf, hz, hg]
  | some p =>
    rw [hp] at hf hg
    simp [execOp, h x _ hx, h y _ hy, Instr.lookup, run_underlying ht, getObj, Sem.run, h1, run_checkS hkt, run_underlying hkt, Instr.findKey, hf, hg]
theorem Wop.putMap {t kt et : TypeId} {x y z : Operand} {b : Nat} {k : ByteArray} {u : Int} {m : List (ByteArray × Int)} (ht : P.underlying t = some (.map kt et)) (hkt : P.underlying kt = some .string)
    (hx : look σ x = some (.map (some b))) (hy : look σ y = some (.string k)) (hz : look σ z = some (.int .i64 u)) (hm : MapAt w b m)
    (hk : ∀ w', Below b w w' → MapAt w' b (putM k u m) → w'.heap.size = w.heap.size → (∀ j, j ≠ b → w'.heap[j]? = w.heap[j]?) → K undef w') : Wop P Q N ⟨d, .mapUpdate t x y z, ty, ps, af, gd⟩ σ w K := by
  obtain ⟨es, c, h1, h2⟩ := hm
  have hlt := lt_of_block h1
  have hf := findNow_pos k es.toList m 0 h2
  have hg := posM_put k u m 0
  have hbel : ∀ o : Obj, Below b w { w with heap := w.heap.setIfInBounds b o } := fun o => ⟨rfl, rfl, rfl, by simp, fun j hj => by simp only [Array.getElem?_setIfInBounds]; rw [if_neg (by omega)]⟩
  have hoth : ∀ (o : Obj) (j : Nat), j ≠ b → (({ w with heap := w.heap.setIfInBounds b o } : World).heap)[j]? = w.heap[j]? := fun o j hj => by simp only [Array.getElem?_setIfInBounds]; rw [if_neg (by omega)]
  have hset : ∀ o : Obj, (({ w with heap := w.heap.setIfInBounds b o } : World).heap)[b]? = some o := fun o => by simp [hlt]
  cases hp : posM k m 0 with
  | none =>
    rw [hp] at hf hg
    refine Wop.skip (w' := { w with heap := w.heap.setIfInBounds b (.map (es.push ⟨.string k, .int .i64 u, c⟩) (c + 1)) }) (fun ρ h => ?_) (hk _ (hbel _) ⟨_, _, hset _, ?_⟩ (by simp) (hoth _))
    · simp [execOp, h x _ hx, h y _ hy, h z _ hz, Instr.mapUpdate, run_underlying ht, getObj, setObj, Sem.run, h1, run_checkS hkt, run_underlying hkt, Instr.findKey, hf]
    · simp only at hg
      unfold MapIn
      rw [hg]
      simp only [Array.toList_push, List.map_append, List.map_singleton]
      rw [h2]
      rfl
  | some p =>
    rw [hp] at hf hg
    obtain ⟨_, g2, g3, v', g4⟩ := hg
    simp only [Nat.sub_zero, Nat.zero_add] at g2 g3 g4
    have hlen : es.size = m.length := by have := congrArg List.length h2; simpa using this
    have hent : ∃ e, es[p.1]? = some e ∧ e.key = .string k := by
      have h5 : (es.toList.map (fun e => (e.key, e.val)))[p.1]? = some (mcell (k, v')) := by rw [h2, List.getElem?_map, g4]; rfl
      rw [List.getElem?_map] at h5
      obtain ⟨e, he, hee⟩ := Option.map_eq_some_iff.1 h5
      exact ⟨e, by simpa using he, congrArg Prod.fst hee⟩
    obtain ⟨e, he, hek⟩ := hent
    refine Wop.skip (w' := { w with heap := w.heap.setIfInBounds b (.map (es.modify p.1 fun e => { e with key := .string k, val := .int .i64 u }) c) }) (fun ρ h => ?_) (hk _ (hbel _) ⟨_, _, hset _, ?_⟩ (by simp) (hoth _))
    · simp [execOp, h x _ hx, h y _ hy, h z _ hz, Instr.mapUpdate, run_underlying ht, getObj, setObj, Sem.run, h1, run_checkS hkt, run_underlying hkt, Instr.findKey, hf, he, hek, Instr.keyThatStays, Instr.sameBits]
    · unfold MapIn
      rw [g3]
      apply List.ext_getElem?
      intro j
      rw [List.getElem?_map, List.getElem?_map, List.getElem?_set]
      have h5 : ∀ j : Nat, (es.toList[j]?).map (fun e : MapEntry => (e.key, e.val)) = (m[j]?).map mcell := fun j => by
        have h2 : es.toList.map (fun e : MapEntry => (e.key, e.val)) = m.map mcell := h2
        have := congrArg (fun l => l[j]?) h2
        simpa [List.getElem?_map] using this
      by_cases hj : p.1 = j
      · subst hj
        simp [he, g2, mcell]
      · simp [hj]
        have := h5 j
        simpa using this
theorem Wop.lenMap {t kt et : TypeId} {ar : Array TypeId} {x : Operand} {b : Nat} {m : List (ByteArray × Int)} (hx : look σ x = some (.map (some b))) (ht : ar = #[t]) (hu : P.underlying t = some (.map kt et)) (hm : MapAt w b m) (hk : K (.int .i64 (m.length : Int)) w) :
    Wop P Q N ⟨d, .call ⟨.builtin .len, #[x], ar⟩, ty, ps, af, gd⟩ σ w K := by
  subst ht
  obtain ⟨es, c, h1, h2⟩ := hm
  have hlen : es.size = m.length := by have := congrArg List.length h2; simpa using this
  exact Wop.val (fun ρ h => by simp [execOp, resolve, invoke, builtin, h x _ hx, Builtin.len_, run_underlying hu, getObj, Sem.run, h1, hlen, goInt]) hk
end
end Go.Proofs.YtbadjlhijbkbbaaGreat.Sx

/-
  slices.Grow and slices.Concat of texts.
-/
set_option linter.unusedVariables false
namespace Go.Proofs.YtbadjlhijbkbbaaGreat.Sx
open Go Go.RowKit
section
variable {P : Program} {Q : Exit → Act → World → Prop} {N : Nat} {σ : Sl} {w : World} {K : Value → World → Prop}
variable {d : Option Tmp} {ty : TypeId} {ps : String} {af : Array Edge} {gd : Option (Nat × Bool)}
theorem Wop.cap (T : Tab P) {t : TypeId} {ar : Array TypeId} {x : Operand} {A : Option Addr} {n c e : Nat} (hx : look σ x = some (.slice A n c)) (har : ar = #[t]) (ht : nth T.kinds t = some 1) (he : nth T.elems t = some e) (hk : K (.int .i64 (c : Int)) w) :
    Wop P Q N ⟨d, .call ⟨.builtin .cap, #[x], ar⟩, ty, ps, af, gd⟩ σ w K := by
  subst har
  exact Wop.val (fun ρ h => by simp [execOp, resolve, invoke, builtin, h x _ hx, Builtin.cap_, run_underlying (T.slice t e ht he), goInt]) hk
/-- x[:h] -/
theorem Wop.sliceTo (T : Tab P) {t e sz : Nat} {x y : Operand} {A : Option Addr} {n c h : Nat} {m : Int} (ht : nth T.kinds t = some 1) (he : nth T.elems t = some e) (hs : nth T.sizes e = some sz) (hx : look σ x = some (.slice A n c)) (hy : look σ y = some (.int .i64 m)) (hm : m = (h : Int)) (hh : h ≤ c) (hk : K (.slice A h c) w) :
    Wop P Q N ⟨d, .slice t x none (some y) none, ty, ps, af, gd⟩ σ w K := by
  subst hm
  refine Wop.val (fun ρ hr => ?_) hk
  have hu := T.slice t e ht he
  have hA : (if c = 0 then A else A.map fun (a : Addr) => a.add 0) = A := by
    split
    · rfl
    · cases A with
      | none => rfl
      | some a => obtain ⟨b, o, pth⟩ := a; simp [Addr.add]
  simp [execOp, hr x _ hx, hr y _ hy, Instr.sliceAt, Instr.slice, run_underlying hu, Instr.sliceBounds, Instr.sliceBound, asIntOf, hh, T.size e sz hs, hA]
/-- append(nil, make([]T, m) ..) -/
theorem grow_nil_run {t ti r e : TypeId} {i : TypeInfo} {z : Value} {k kx : IntKind} (ht : P.underlying t = some (.slice e)) (hti : P.underlying ti = some (.int k)) (hi : P.info? e = some i) (hz : i.zero = some z) (hs1 : i.size = 1) (hzs : z.cells.size = 1) {m : Nat} (hm : 0 < m) (hb : m * i.bytes ≤ 140737488355328) (hb0 : 0 < i.bytes) :
    ∃ cur cap, (Builtin.append_ #[t, ti] r #[.slice none 0 0, .int kx m]).run P w = .ok (.slice (some ⟨w.heap.size, 0, none⟩) m cap) (w.drew.alloc (.cells cur e)) ∧ cur.size = cap ∧ m ≤ cap ∧ cap ≤ maxLen := by
  have hle : m ≤ 140737488355328 := Nat.le_trans (Nat.le_mul_of_pos_right _ hb0) hb
  have hw : IntKind.i64.wrap (m : Int) = m := by rw [IntKind.wrap_i64]; omega
  have hneg : ¬ ((m : Int) < 0) := by omega
  have hbig : ¬ (281474976710656 < (m : Int) * (i.bytes : Int)) := by
    rw [← Int.natCast_mul]
    omega
  have hn : ¬ (m ≤ 0) := by omega
  have h63' : ¬ (9223372036854775807 < (m : Int)) := by omega
  have hfit := growslice_fits (old := 0) (need := m) hm hb
  have h48' : ¬ (281474976710656 < Builtin.nextslicecap m 0 * i.bytes) := by omega
  have hm0 : ¬ m = 0 := by omega
  have hge := grownCap_ge w m 0 e
  have hcm : grownCap w m 0 e ≤ maxLen := grownCap_le_maxLen w m 0 e (by simp only [maxLen]; omega)
  refine ⟨Builtin.zeroCells z.cells m ++ Builtin.zeroCells z.cells (grownCap w m 0 e - m), grownCap w m 0 e, ?_, ?_, hge, hcm⟩
  · simp [Builtin.append_, run_underlying ht, run_underlying hti, sizeOf, typeInfo, zeroValue, hi, hz, asInt, asIntOf, hw, hneg, hbig, h63', h48', Question.forced, Builtin.firstCells, newRow, grownCap, hs1, hm0]
  · rw [Array.size_append, size_zeroCells, size_zeroCells, hzs]
    omega
theorem Wop.growNil (T : Tab P) {t ti e : TypeId} {x y : Operand} {z : Value} {bytes : Nat} {k kx : IntKind} {m : Nat} {mi : Int} (ht : nth T.kinds t = some 1) (he : nth T.elems t = some e) (hti : P.underlying ti = some (.int k)) (hinfo : (P.info? e).map (fun i => (i.zero, i.size, i.bytes)) = some (some z, 1, bytes)) (hz : z.cells.size = 1) (hb0 : 0 < bytes)
    (hx : look σ x = some (.slice none 0 0)) (hy : look σ y = some (.int kx mi)) (hmi : mi = (m : Int)) (hm : 0 < m) (hb : m * bytes ≤ 140737488355328)
    (hk : ∀ w' cur cap, Ext w w' → w'.heap[w.heap.size]? = some (.cells cur e (0, 0)) → cur.size = cap → m ≤ cap → cap ≤ maxLen → K (.slice (some ⟨w.heap.size, 0, none⟩) m cap) w') :
    Wop P Q N ⟨d, .call ⟨.builtin .append, #[x, y], #[t, ti]⟩, ty, ps, af, gd⟩ σ w K := by
  subst hmi
  obtain ⟨i0, hi, hzz⟩ := Option.map_eq_some_iff.1 hinfo
  simp only [Prod.mk.injEq] at hzz
  obtain ⟨hz0, hz1, hz2⟩ := hzz
  obtain ⟨cur, cap, hr, h1, h2, h3⟩ := grow_nil_run (P := P) (w := w) (r := ty) (kx := kx) (T.slice t e ht he) hti hi hz0 hz1 hz hm (by rw [hz2]; exact hb) (by omega)
  exact Wop.val (w' := w.drew.alloc (.cells cur e)) (fun ρ h => by simp [execOp, resolve, invoke, builtin, h x _ hx, h y _ hy, hr]) (hk _ cur cap ((Ext.drew w).trans (Ext.alloc w.drew _)) (heap_alloc_new w.drew _) h1 h2 h3)
end
end Go.Proofs.YtbadjlhijbkbbaaGreat.Sx
namespace Go.Proofs.YtbadjlhijbkbbaaGreat
open Go Go.RowKit Sx
variable {w : World}
theorem growS (m : Nat) (hm : m ≤ 2199023255552) : Calls Tryz.prog 212 [.slice none 0 0, .int .i64 (m : Int)].toArray w (Ret fun v w' => OwnS w' w.heap.size v [] ∧ Ext w w') := by
  refine enter Tryz.func212 rfl Tryz.ntmps212 rfl ?_
  refine wk ?_
  refine Wop.cap TT rfl rfl rfl rfl ?_
  refine wk ?_
  refine W.test rfl (fun hpos => ?_) (fun hz => ?_)
  · have hm0 : 0 < m := by omega
    refine wk ?_
    refine Wop.cap TT rfl rfl rfl rfl ?_
    refine wk ?_
    refine Wop.sliceTo TT (h := 0) rfl rfl rfl rfl rfl rfl (Nat.le_refl _) ?_
    refine wk ?_
    refine Wop.growNil (m := m) TT rfl rfl Tryz.underlying3 infoS rfl (by decide) rfl rfl (by omega) hm0 (by omega) (fun w1 cur cap e1 hc h1 h2 h3 => ?_)
    refine wk ?_
    refine Wop.sliceTo TT (h := 0) rfl rfl rfl rfl rfl rfl (Nat.zero_le _) ?_
    refine wk ?_
    refine Arr.ret1 rfl rfl ⟨⟨by simp, .inr ⟨w.heap.size, cap, cur, rfl, Nat.le_refl _, hc, Nat.zero_le _, h3, by simp [h1], by simp⟩⟩, e1⟩
  · refine wk ?_
    exact Arr.ret1 rfl rfl ⟨Own.nil _ _ _ _, Ext.refl w⟩
/-- Two rows of texts, one behind the other. -/
theorem concatS {S : Nat → Prop} {A B : Option Addr} {n m c c' b : Nat} {xs ys : List ByteArray} {u : TypeId} (hx : tS.Row S w A n xs) (hy : tS.Row S w B m ys) (hb : Blk w b #[.slice A n c, .slice B m c'] u) :
    Calls Tryz.prog 187 [.slice (some ⟨b, 0, none⟩) 2 2].toArray w (Ret fun v w' => OwnS w' w.heap.size v (xs ++ ys) ∧ Ext w w') := by
  have hm := hx.2.1
  have hm' := hy.2.1
  have hl := hx.1
  have hl' := hy.1
  refine enter Tryz.func187 rfl Tryz.ntmps187 rfl ?_
  refine wk ?_
  refine W.midB (ι := Unit) (fun _ => [(0, .slice (some ⟨b, 0, none⟩) 2 2), (3, .int .i64 ((n + m : Nat) : Int))]) (fun _ w' => w' = w) ?_ ?_
  · refine wk ?_
    refine W.loop (ι := Nat) (fun i => [(0, .slice (some ⟨b, 0, none⟩) 2 2), (9, .slice (some ⟨b, 0, none⟩) 2 2), (10, .int .i64 ((2 : Nat) : Int)), (11, .int .i64 (i : Int)), (3, .int .i64 ((if i = 0 then 0 else if i = 1 then n else n + m : Nat) : Int))])
      (fun i w' => w' = w ∧ i ≤ 2) (fun i => 2 - i) 0 has ⟨rfl, Nat.zero_le _⟩ ?_
    rintro i w' ⟨rfl, hi⟩
    have h012 : i = 0 ∨ i = 1 ∨ i = 2 := by omega
    rcases h012 with rfl | rfl | rfl
    · refine W.only [(0, .slice (some ⟨b, 0, none⟩) 2 2), (9, .slice (some ⟨b, 0, none⟩) 2 2), (10, .int .i64 ((2 : Nat) : Int)), (11, .int .i64 ((0 : Nat) : Int)), (3, .int .i64 0)] has ?_
      refine wk ?_
      refine Arr.again (i := 0) 1 (by exact Has.cons rfl (Has.cons rfl (Has.cons rfl (Has.cons rfl (Has.cons (v := .int .i64 _) (show some (Value.int .i64 (0 + (n : Int))) = some (Value.int .i64 ((n : Nat) : Int)) by rw [Int.zero_add]) Has.nil))))) ⟨rfl, by omega⟩ (by omega)
    · refine W.only [(0, .slice (some ⟨b, 0, none⟩) 2 2), (9, .slice (some ⟨b, 0, none⟩) 2 2), (10, .int .i64 ((2 : Nat) : Int)), (11, .int .i64 ((1 : Nat) : Int)), (3, .int .i64 (n : Int))] has ?_
      refine wk ?_
      refine Arr.again (i := 1) 2 (by exact Has.cons rfl (Has.cons rfl (Has.cons rfl (Has.cons rfl (Has.cons (v := .int .i64 _) (show some (Value.int .i64 ((n : Int) + (m : Int))) = some (Value.int .i64 ((n + m : Nat) : Int)) from rfl) Has.nil))))) ⟨rfl, by omega⟩ (by omega)
    · refine W.only [(0, .slice (some ⟨b, 0, none⟩) 2 2), (9, .slice (some ⟨b, 0, none⟩) 2 2), (10, .int .i64 ((2 : Nat) : Int)), (11, .int .i64 ((2 : Nat) : Int)), (3, .int .i64 ((n + m : Nat) : Int))] has ?_
      refine wk ?_
      exact Arr.mid () has rfl
  · rintro _ w' hw
    rw [hw]
    refine wk ?_
    refine Wop.fn en212 rfl (growS (n + m) (by omega)) ?_
    rintro v0 w1 ⟨h0, e1⟩
    have hb1 := hb.ext e1
    have hx1 := hx.ext (by decide) e1
    have hy1 := hy.ext (by decide) e1
    refine wk ?_
    refine W.loop (ι := Nat × Value) (fun i => [(25, .slice (some ⟨b, 0, none⟩) 2 2), (26, .int .i64 ((2 : Nat) : Int)), (27, .int .i64 (i.1 : Int)), (6, i.2)])
      (fun i w' => Below w.heap.size w w' ∧ i.1 ≤ 2 ∧ OwnS w' w.heap.size i.2 (if i.1 = 0 then [] else if i.1 = 1 then xs else xs ++ ys)) (fun i => 2 - i.1) (0, v0) has ⟨e1, Nat.zero_le _, h0⟩ ?_
    rintro ⟨i, v⟩ w2 ⟨e2, hi, ho⟩
    simp only at hi ho ⊢
    have hb2 := hb.ext e2
    have hx2 := hx.ext (by decide) e2
    have hy2 := hy.ext (by decide) e2
    refine wk ?_
    refine W.test rfl (fun hlt => ?_) (fun hge => ?_)
    · have h01 : i = 0 ∨ i = 1 := by omega
      rcases h01 with rfl | rfl
      · refine wk ?_
        refine Wop.appRowS rfl rfl hx2 ho e2.size (by simp; omega) (fun v' w3 ho' hb' _ _ => ?_)
        refine wk ?_
        exact Arr.again (i := (0, v)) (1, v') has ⟨hb' _ e2, by omega, by simpa using ho'⟩ (by omega)
      · refine wk ?_
        refine Wop.appRowS rfl rfl hy2 ho e2.size (by simp; omega) (fun v' w3 ho' hb' _ _ => ?_)
        refine wk ?_
        exact Arr.again (i := (1, v)) (2, v') has ⟨hb' _ e2, by omega, by simpa using ho'⟩ (by omega)
    · refine wk ?_
      have : i = 2 := by omega
      subst this
      exact Arr.ret1 rfl rfl ⟨by simpa using ho, e2⟩
end Go.Proofs.YtbadjlhijbkbbaaGreat

/-
  Operations on texts and bytes, and classes of bytes.
-/
set_option linter.unusedVariables false
namespace Go.Proofs.YtbadjlhijbkbbaaGreat.Sx
open Go Go.RowKit
/-- A byte of a text. -/
def byt (s : ByteArray) (i : Nat) : Int := match s[i]? with
  | some b => (b.toNat : Int)
  | none => 0
theorem byt_range (s : ByteArray) (i : Nat) : 0 ≤ byt s i ∧ byt s i < 256 := by
  unfold byt
  split
  · next b _ => have := b.toNat_lt; omega
  · omega
def or8 (m n : Int) : Int := IntKind.u8.wrap (((m % 256).toNat ||| (n % 256).toNat : Nat) : Int)
section
variable {P : Program} {Q : Exit → Act → World → Prop} {N : Nat} {σ : Sl} {w : World} {K : Value → World → Prop}
variable {d : Option Tmp} {ty : TypeId} {ps : String} {af : Array Edge} {gd : Option (Nat × Bool)}
theorem Wop.or8 {t t' : TypeId} {x y : Operand} {m n : Int} (hx : look σ x = some (.int .u8 m)) (hy : look σ y = some (.int .u8 n)) (hk : K (.int .u8 (or8 m n)) w) : Wop P Q N ⟨d, .binOp .or t x y t', ty, ps, af, gd⟩ σ w K :=
  Wop.val (fun ρ h => by
    simp [execOp, h x _ hx, h y _ hy, eqGuard, binOp, Op.intBits, IntKind.bits]
    show IntKind.u8.wrap ((BitVec.ofInt 8 m ||| BitVec.ofInt 8 n : BitVec 8).toNat : Int) = Sx.or8 m n
    rw [BitVec.toNat_or]
    simp [Sx.or8, BitVec.toNat_ofInt]) hk
/-- A byte by its index. -/
theorem Wop.byte (T : Tab P) {t : TypeId} {x y : Operand} {s : ByteArray} (i : Nat) {m : Int} (ht : nth T.kinds t = some 2) (hx : look σ x = some (.string s)) (hy : look σ y = some (.int .i64 m)) (hm : m = (i : Int)) (hi : i < s.size) (hk : K (.int .u8 (byt s i)) w) :
    Wop P Q N ⟨d, .index t x y, ty, ps, af, gd⟩ σ w K := by
  subst hm
  refine Wop.val (fun ρ h => ?_) hk
  have hs : s[i]? = some (s[i]'hi) := by simp [hi]
  simp [execOp, h x _ hx, h y _ hy, Instr.index, run_underlying (T.str t ht), byt, hs, asIntOf]
theorem Wop.rangeS (T : Tab P) {t : TypeId} {x : Operand} {s : ByteArray} (ht : nth T.kinds t = some 2) (hx : look σ x = some (.string s))
    (hk : ∀ w', Ext w w' → w'.heap[w.heap.size]? = some (.stringIter s 0) → w'.heap.size = w.heap.size + 1 → K (.pointer (some ⟨w.heap.size, 0, none⟩)) w') : Wop P Q N ⟨d, .range t x, ty, ps, af, gd⟩ σ w K :=
  Wop.val (fun ρ h => by simp [execOp, h x _ hx, run_range_string _ _ _ (T.str t ht), World.iter]) (hk _ (Ext.alloc _ _) (World.iter_heap _ _ _) (by simp))
theorem Wop.nextA {x : Operand} {b pos : Nat} {s : ByteArray} (hx : look σ x = some (.pointer (some ⟨b, 0, none⟩))) (hb : w.heap[b]? = some (.stringIter s pos)) (h : pos < s.size) (ha : byt s pos < 128)
    (hk : ∀ w' r, Below b w w' → w'.heap[b]? = some (.stringIter s (pos + 1)) → w'.heap.size = w.heap.size → K (.tuple #[.bool true, .int .i64 (pos : Int), r]) w') : Wop P Q N ⟨d, .next x true, ty, ps, af, gd⟩ σ w K := by
  have hlt := lt_of_block hb
  have hs : s[pos]? = some (s[pos]'h) := by simp [h]
  have ha' : (s[pos]'h).toNat < 128 := by
    unfold byt at ha
    rw [hs] at ha
    simp only at ha
    omega
  refine Wop.val (w' := { w with heap := w.heap.setIfInBounds b (.stringIter s (pos + 1)) }) (v := .tuple #[.bool true, .int .i64 (pos : Int), .int .i32 (s[pos]'h).toNat]) (fun ρ hr => ?_) (hk _ _ ?_ ?_ ?_)
  · simp [execOp, hr x _ hx, Instr.next, getObj, setObj, Sem.run, hb, h, decode_ascii s pos h ha', goInt]
  · exact ⟨rfl, rfl, rfl, by simp, fun k hk => by simp only [Array.getElem?_setIfInBounds]; rw [if_neg (by omega)]⟩
  · simp [hlt]
  · simp
theorem Wop.nextE {x : Operand} {b pos : Nat} {s : ByteArray} (hx : look σ x = some (.pointer (some ⟨b, 0, none⟩))) (hb : w.heap[b]? = some (.stringIter s pos)) (h : ¬ pos < s.size)
    (hk : K (.tuple #[.bool false]) w) : Wop P Q N ⟨d, .next x true, ty, ps, af, gd⟩ σ w K :=
  Wop.val (fun ρ hr => by simp [execOp, hr x _ hx, Instr.next, getObj, Sem.run, hb, h]) hk
end
end Go.Proofs.YtbadjlhijbkbbaaGreat.Sx
namespace Go.Proofs.YtbadjlhijbkbbaaGreat
open Go Go.RowKit Sx
def cls (n : Int) : Int := if n = 0 then 0 else if n = 32 ∨ n = 9 then 1 else if n = 10 then 2 else if 48 ≤ n ∧ n ≤ 57 then 3 else if (97 ≤ n ∧ n ≤ 122) ∨ (65 ≤ n ∧ n ≤ 90) ∨ n = 95 then 4 else
  if n = 38 ∨ n = 124 ∨ n = 59 ∨ n = 60 ∨ n = 62 ∨ n = 40 ∨ n = 41 then 5 else if n = 39 ∨ n = 34 ∨ n = 92 ∨ n = 96 then 6 else if n = 36 then 7 else 8
theorem cls0 {n : Int} (h : n = 0) : cls n = 0 := by rw [cls, if_pos h]
theorem cls1 {n : Int} (h : n = 32 ∨ n = 9) : cls n = 1 := by rw [cls, if_neg (by omega), if_pos h]
theorem cls2 {n : Int} (h : n = 10) : cls n = 2 := by rw [cls, if_neg (by omega), if_neg (by omega), if_pos h]
theorem cls3 {n : Int} (h : 48 ≤ n ∧ n ≤ 57) : cls n = 3 := by rw [cls, if_neg (by omega), if_neg (by omega), if_neg (by omega), if_pos h]
theorem cls4 {n : Int} (h : (97 ≤ n ∧ n ≤ 122) ∨ (65 ≤ n ∧ n ≤ 90) ∨ n = 95) : cls n = 4 := by rw [cls, if_neg (by omega), if_neg (by omega), if_neg (by omega), if_neg (by omega), if_pos h]
theorem cls5 {n : Int} (h : n = 38 ∨ n = 124 ∨ n = 59 ∨ n = 60 ∨ n = 62 ∨ n = 40 ∨ n = 41) : cls n = 5 := by rw [cls, if_neg (by omega), if_neg (by omega), if_neg (by omega), if_neg (by omega), if_neg (by omega), if_pos h]
theorem cls6 {n : Int} (h : n = 39 ∨ n = 34 ∨ n = 92 ∨ n = 96) : cls n = 6 := by rw [cls, if_neg (by omega), if_neg (by omega), if_neg (by omega), if_neg (by omega), if_neg (by omega), if_neg (by omega), if_pos h]
theorem cls7 {n : Int} (h : n = 36) : cls n = 7 := by subst h; decide
theorem cls8 {n : Int} (h0 : ¬ n = 0) (h1 : ¬ (n = 32 ∨ n = 9)) (h2 : ¬ n = 10) (h3 : ¬ (48 ≤ n ∧ n ≤ 57)) (h4 : ¬ ((97 ≤ n ∧ n ≤ 122) ∨ (65 ≤ n ∧ n ≤ 90) ∨ n = 95)) (h5 : ¬ (n = 38 ∨ n = 124 ∨ n = 59 ∨ n = 60 ∨ n = 62 ∨ n = 40 ∨ n = 41)) (h6 : ¬ (n = 39 ∨ n = 34 ∨ n = 92 ∨ n = 96)) (h7 : ¬ n = 36) : cls n = 8 := by
  rw [cls, if_neg h0, if_neg h1, if_neg h2, if_neg h3, if_neg h4, if_neg h5, if_neg h6, if_neg h7]
theorem or8_letter (n : Int) (h0 : 0 ≤ n) (h1 : n < 256) : (97 ≤ or8 n 32 ∧ or8 n 32 ≤ 122) ↔ ((97 ≤ n ∧ n ≤ 122) ∨ (65 ≤ n ∧ n ≤ 90)) := by
  have key : ∀ k : Fin 256, (97 ≤ or8 (k.val : Int) 32 ∧ or8 (k.val : Int) 32 ≤ 122) ↔ ((97 ≤ (k.val : Int) ∧ (k.val : Int) ≤ 122) ∨ (65 ≤ (k.val : Int) ∧ (k.val : Int) ≤ 90)) := by decide +kernel
  have := key ⟨n.toNat, by omega⟩
  simp only [Int.toNat_of_nonneg h0] at this
  exact this
section
variable {w : World}
end
end Go.Proofs.YtbadjlhijbkbbaaGreat
