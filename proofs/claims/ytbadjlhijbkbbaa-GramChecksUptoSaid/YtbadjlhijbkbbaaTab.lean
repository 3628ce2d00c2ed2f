/-
  The program's types in small tables, and the operations that need no more than these and the slots: one law for all of them.
-/
import Derived.Test.YtbadjlhijbkbbaaAny
import Derived.Test.YtbadjlhijbkbbaaProg
set_option linter.unusedVariables false
namespace Go.Proofs.Ytbadjlhijbkbbaa.Sx
open Go Go.RowKit

/-- By a type's number: its kind (0 struct or array, 1 slice, 2 string, 3 bool, 4 another), its cells, a slice's element type. By a struct type's number and a field's: the field's offset. -/
structure Tab (P : Program) where
  kinds : List Nat
  sizes : List Nat
  elems : List Nat
  flds : List (List Nat)
  agg : ∀ t, nth kinds t = some 0 → ∀ w, (isAgg t).run P w = .ok true w
  plain : ∀ t k, nth kinds t = some (k + 1) → ∀ w, (isAgg t).run P w = .ok false w
  slice : ∀ t e, nth kinds t = some 1 → nth elems t = some e → P.underlying t = some (.slice e)
  str : ∀ t, nth kinds t = some 2 → P.underlying t = some .string
  bool : ∀ t, nth kinds t = some 3 → P.underlying t = some .bool
  size : ∀ t n, nth sizes t = some n → ∀ w, (Go.sizeOf t).run P w = .ok n w
  fld : ∀ t f l o, nth flds t = some l → nth l f = some o → FieldOk P t f o

def lookL (σ : Sl) : List Operand → Option (List Value)
  | [] => some []
  | x :: r => match look σ x with
    | some v => match lookL σ r with
      | some vs => some (v :: vs)
      | none => none
    | none => none
theorem lookL_map {σ : Sl} {ρ : Operand → Value} (h : ∀ x u, look σ x = some u → ρ x = u) : ∀ {l : List Operand} {vs : List Value}, lookL σ l = some vs → l.map ρ = vs
  | [], vs, hl => by simp [lookL] at hl; simp [hl]
  | x :: r, vs, hl => by
    unfold lookL at hl
    cases hx : look σ x with
    | none => rw [hx] at hl; cases hl
    | some v =>
      rw [hx] at hl
      simp only at hl
      cases hr : lookL σ r with
      | none => rw [hr] at hl; cases hl
      | some us =>
        rw [hr] at hl
        cases hl
        simp [h x v hx, lookL_map h hr]

theorem lookL_arr {σ : Sl} {ρ : Operand → Value} (h : ∀ x u, look σ x = some u → ρ x = u) {l : Array Operand} {vs : List Value} (hl : lookL σ l.toList = some vs) : l.map ρ = vs.toArray :=
  Array.ext' (by rw [Array.toList_map]; exact lookL_map h hl)

def sameK : IntKind → IntKind → Bool
  | .i64, .i64 => true
  | .u8, .u8 => true
  | .i32, .i32 => true
  | .u64, .u64 => true
  | .u16, .u16 => true
  | .i8, .i8 => true
  | .i16, .i16 => true
  | .u32, .u32 => true
  | _, _ => false
theorem sameK_eq {k l : IntKind} (h : sameK k l = true) : k = l := by cases k <;> cases l <;> first | rfl | (simp [sameK] at h)

/-- Comparisons. -/
def cmpV : BinOp → Value → Value → Option Value
  | op, .int k m, .int l n => match sameK k l with
    | true => match op with
      | .lss => some (.bool (decide (m < n)))
      | .leq => some (.bool (decide (m ≤ n)))
      | .gtr => some (.bool (decide (n < m)))
      | .geq => some (.bool (decide (n ≤ m)))
      | .eql => some (.bool (decide (m = n)))
      | .neq => some (.bool (decide (m ≠ n)))
      | _ => none
    | false => none
  | op, .string a, .string b => match op with
    | .eql => some (.bool (decide (a = b)))
    | .neq => some (.bool (decide (a ≠ b)))
    | _ => none
  | _, _, _ => none

def pureV {P : Program} (T : Tab P) (σ : Sl) : Op → Option Value
  | .move x => look σ x
  | .assign x => look σ x
  | .unOp .not _ x => match look σ x with
    | some (.bool b) => some (.bool !b)
    | _ => none
  | .pick c x y => match look σ c with
    | some (.bool true) => look σ x
    | some (.bool false) => look σ y
    | _ => none
  | .extract x i => match look σ x with
    | some (.tuple vs) => vs[i]?
    | _ => none
  | .nilCheck x => match look σ x with
    | some (.pointer (some a)) => some (.pointer (some a))
    | _ => none
  | .makeFunc fn first cap => match lookL σ first.toList with
    | some vs => match lookL σ cap.toList with
      | some us => some (.func fn vs.toArray us.toArray)
      | none => none
    | none => none
  | .binOp op t x y _ => match look σ x with
    | some u => match look σ y with
      | some v => match u, v with
        | .bool a, .bool b => match nth T.kinds t with
          | some 3 => match op with
            | .eql => some (.bool (a == b))
            | .neq => some (.bool (a != b))
            | _ => none
          | _ => none
        | _, _ => cmpV op u v
      | none => none
    | none => none
  | .fieldAddr t x f => match look σ x with
    | some (.pointer (some ⟨b, o, none⟩)) => match nth T.flds t with
      | some l => match nth l f with
        | some off => some (.pointer (some ⟨b, o + off, none⟩))
        | none => none
      | none => none
    | _ => none
  | .call ⟨.builtin .len, args, ar⟩ => match args.toList with
    | [x] => match ar.toList with
      | [t] => match look σ x with
        | some (.slice _ n _) => match nth T.kinds t with
          | some 1 => match nth T.elems t with
            | some _ => some (.int .i64 (n : Int))
            | none => none
          | _ => none
        | some (.string s) => match nth T.kinds t with
          | some 2 => some (.int .i64 (s.size : Int))
          | _ => none
        | _ => none
      | _ => none
    | _ => none
  | _ => none

section
variable {P : Program} {Q : Exit → Act → World → Prop} {N : Nat} {σ : Sl} {w : World} {K : Value → World → Prop}
variable {d : Option Tmp} {ty : TypeId} {ps : String} {af : Array Edge} {gd : Option (Nat × Bool)}

theorem cmpV_run {op : BinOp} {t t' : TypeId} {x y : Operand} {u v r : Value} (hx : look σ x = some u) (hy : look σ y = some v) (h : cmpV op u v = some r) (hk : K r w) : Wop P Q N ⟨d, .binOp op t x y t', ty, ps, af, gd⟩ σ w K := by
  unfold cmpV at h
  split at h
  · rename_i k m l n
    split at h
    · rename_i hs
      have := sameK_eq hs
      subst this
      split at h <;> first | (cases h; done) | (cases h; first | exact Wop.lss hx hy hk | exact Wop.leq hx hy hk | exact Wop.gtr hx hy hk | exact Wop.geq hx hy hk | exact Wop.eqlI hx hy hk | exact Wop.neqI hx hy hk)
    · cases h
  · split at h <;> first | (cases h; done) | (cases h; first | exact Wop.eqlS hx hy hk | exact Wop.neqS hx hy hk)
  · cases h

theorem Wop.pure (T : Tab P) {op : Op} {v : Value} (h : pureV T σ op = some v) (hk : K v w) : Wop P Q N ⟨d, op, ty, ps, af, gd⟩ σ w K := by
  unfold pureV at h
  split at h
  · exact Wop.move h hk
  · exact Wop.assign h hk
  · split at h
    · rename_i hx; cases h; exact Wop.not hx hk
    · cases h
  · split at h
    · rename_i hc; exact Wop.pickT hc h hk
    · rename_i hc; exact Wop.pickF hc h hk
    · cases h
  · split at h
    · rename_i hx; exact Wop.extract hx h hk
    · cases h
  · split at h
    · rename_i hx; cases h; exact Wop.nilCheckP hx hk
    · cases h
  · split at h
    · rename_i h1
      split at h
      · rename_i h2
        cases h
        exact Wop.val (fun ρ hρ => by
          have e1 := lookL_arr hρ h1
          have e2 := lookL_arr hρ h2
          simp [execOp, e1, e2, Instr.makeFunc]) hk
      · cases h
    · cases h
  · split at h
    · rename_i hx
      split at h
      · rename_i hy
        split at h
        · split at h
          · rename_i ht
            split at h
            · cases h; exact Wop.eqlB (T.bool _ ht) hx hy hk
            · cases h; exact Wop.neqB (T.bool _ ht) hx hy hk
            · cases h
          · cases h
        · exact cmpV_run hx hy h hk
      · cases h
    · cases h
  · split at h
    · rename_i hx
      split at h
      · rename_i hl
        split at h
        · rename_i hf; cases h; exact Wop.fieldAddr hx (T.fld _ _ _ _ hl hf) hk
        · cases h
      · cases h
    · cases h
  · rename_i args ar
    split at h
    · rename_i x hargs
      split at h
      · rename_i t har
        have e1 : args = #[x] := Array.ext' hargs
        have e2 : ar = #[t] := Array.ext' har
        subst e1; subst e2
        split at h
        · rename_i hx
          split at h
          · rename_i ht
            split at h
            · rename_i he; cases h; exact Wop.lenS hx rfl (T.slice _ _ ht he) hk
            · cases h
          · cases h
        · rename_i hx
          split at h
          · rename_i ht; cases h; exact Wop.lenStr hx rfl (T.str _ ht) hk
          · cases h
        · cases h
      · cases h
    · cases h
  · cases h

/-! ### What needs a fact beside -/
/-- A cell is read. -/
theorem Wop.ld (T : Tab P) {t : TypeId} {x : Operand} {a : Addr} {v : Value} {k : Nat} (ht : nth T.kinds t = some (k + 1)) (hx : look σ x = some (.pointer (some a))) (hc : w.cell? a = some v) (hk : K v w) : Wop P Q N ⟨d, .load t x, ty, ps, af, gd⟩ σ w K :=
  Wop.load hx (T.plain t k ht) hc hk
theorem Wop.ldB (T : Tab P) {t : TypeId} {x : Operand} {b i : Nat} {cs : Array Value} {u : TypeId} {v : Value} {k : Nat} (ht : nth T.kinds t = some (k + 1)) (hx : look σ x = some (.pointer (some ⟨b, i, none⟩))) (hb : Blk w b cs u) (hi : cs[i]? = some v) (hk : K v w) : Wop P Q N ⟨d, .load t x, ty, ps, af, gd⟩ σ w K :=
  Wop.load hx (T.plain t k ht) (hb.cell hi) hk
/-- A struct that is a whole block is read. -/
theorem Wop.ldA (T : Tab P) {t : TypeId} {x : Operand} {b : Nat} {cs : Array Value} {u : TypeId} (ht : nth T.kinds t = some 0) (hs : nth T.sizes t = some cs.size) (hx : look σ x = some (.pointer (some ⟨b, 0, none⟩))) (hb : Blk w b cs u) (hk : K (.agg cs) w) : Wop P Q N ⟨d, .load t x, ty, ps, af, gd⟩ σ w K :=
  Wop.loadB hx (T.agg t ht) (T.size t _ hs) rfl hb hk
/-- A struct in a row is read. -/
theorem Wop.ldR (T : Tab P) {t : TypeId} {x : Operand} {b o : Nat} {cs : List Value} (ht : nth T.kinds t = some 0) (hs : nth T.sizes t = some cs.length) (hx : look σ x = some (.pointer (some ⟨b, o, none⟩))) (hc : ∀ k v, cs[k]? = some v → w.cell? ⟨b, o + k, none⟩ = some v) (hk : K (.agg cs.toArray) w) : Wop P Q N ⟨d, .load t x, ty, ps, af, gd⟩ σ w K :=
  Wop.loads hx (T.agg t ht) (T.size t _ hs) rfl (fun j v hj => by rw [add_at]; exact hc j v hj) hk
theorem cells_ext {w' : World} (e : Ext w w') {b o : Nat} {cs : List Value} (h : ∀ k v, cs[k]? = some v → w.cell? ⟨b, o + k, none⟩ = some v) : ∀ k v, cs[k]? = some v → w'.cell? ⟨b, o + k, none⟩ = some v := fun k v hk => e.cell (h k v hk)
theorem Wop.ix (T : Tab P) {t e : TypeId} {x y : Operand} {b o n c i sz : Nat} (ht : nth T.kinds t = some 1) (he : nth T.elems t = some e) (hs : nth T.sizes e = some sz) (hx : look σ x = some (.slice (some ⟨b, o, none⟩) n c)) (hy : look σ y = some (.int .i64 (i : Int))) (hi : i < n)
    (hk : K (.pointer (some ⟨b, o + i * sz, none⟩)) w) : Wop P Q N ⟨d, .indexAddr t x y, ty, ps, af, gd⟩ σ w K :=
  Wop.indexAddr hx hy (T.slice t e ht he) (T.size e sz hs) hi hk
/-- The same at an Int that is known to lie in between. -/
theorem Wop.ixI (T : Tab P) {t e : TypeId} {x y : Operand} {b o n c sz : Nat} {m : Int} (i : Nat) (ht : nth T.kinds t = some 1) (he : nth T.elems t = some e) (hs : nth T.sizes e = some sz) (hx : look σ x = some (.slice (some ⟨b, o, none⟩) n c)) (hy : look σ y = some (.int .i64 m)) (hm : m = (i : Int)) (hi : i < n)
    (hk : K (.pointer (some ⟨b, o + i * sz, none⟩)) w) : Wop P Q N ⟨d, .indexAddr t x y, ty, ps, af, gd⟩ σ w K := by
  subst hm
  exact Wop.ix T ht he hs hx hy hi hk
theorem Wop.st (T : Tab P) {t : TypeId} {x y : Operand} {b i : Nat} {cs : Array Value} {u : TypeId} {v old : Value} (hs : nth T.sizes t = some 1) (hx : look σ x = some (.pointer (some ⟨b, i, none⟩))) (hy : look σ y = some v) (hv : v.oneCell' = true) (hb : Blk w b cs u) (hi : cs[i]? = some old)
    (hk : K undef (w.setCell ⟨b, i, none⟩ v)) : Wop P Q N ⟨d, .store t x y, ty, ps, af, gd⟩ σ w K := Wop.store1 hx hy hv (T.size t 1 hs) hb hi hk
end

/-! ### Calls -/
section
variable {P : Program} {Q : Exit → Act → World → Prop} {N : Nat} {σ : Sl} {w : World} {K : Value → World → Prop}
variable {d : Option Tmp} {ty : TypeId} {ps : String} {af : Array Edge} {gd : Option (Nat × Bool)}
theorem Wop.fn {f : FuncId} {xs : Array Operand} {ar : Array TypeId} {args : List Value} {Φ : Value → World → Prop} (he : Enters P f) (hx : lookL σ xs.toList = some args)
    (hc : Calls P f args.toArray w (Ret Φ)) (hk : ∀ v w', Φ v w' → K v w') : Wop P Q N ⟨d, .call ⟨.value (.func f), xs, ar⟩, ty, ps, af, gd⟩ σ w K := by
  refine Wop.enter (fun ρ h => ?_) hc hk
  have h2 : ρ (.func f) = .func (.func f) #[] #[] := h _ _ rfl
  simp [execOp, resolve, Deferred.ofValue, invoke, lookL_arr h hx, h2, he args.toArray w]
theorem Wop.fnV {f : FuncId} {g : Operand} {cap : List Value} {xs : Array Operand} {ar : Array TypeId} {args : List Value} {Φ : Value → World → Prop} (he : Enters P f) (hg : look σ g = some (.func (.func f) #[] cap.toArray)) (hx : lookL σ xs.toList = some args)
    (hc : Calls P f (args ++ cap).toArray w (Ret Φ)) (hk : ∀ v w', Φ v w' → K v w') : Wop P Q N ⟨d, .call ⟨.value g, xs, ar⟩, ty, ps, af, gd⟩ σ w K := by
  refine Wop.enter (fun ρ h => ?_) hc hk
  simp [execOp, resolve, Deferred.ofValue, invoke, lookL_arr h hx, h _ _ hg, he (args ++ cap).toArray w]
end

/-! ### The tables are right: by one reckoning -/
def kindOf (P : Program) (t : Nat) : Nat := match P.underlying t with
  | some (.struct _) => 0
  | some (.array _ _) => 0
  | some (.slice _) => 1
  | some .string => 2
  | some .bool => 3
  | some _ => 4
  | none => 100
def sizeIn (P : Program) (t : Nat) : Nat := match P.info? t with
  | some i => i.size
  | none => 1000000
def elemIn (P : Program) (t : Nat) : Nat := match P.underlying t with
  | some (.slice e) => e
  | _ => 0
def fieldIn (P : Program) (t f o : Nat) : Bool := match P.underlying t with
  | some (.struct fs) => match fs[f]? with
    | some fd => Nat.beq fd.offset o && (match P.info? fd.type with
      | some i => !Nat.beq i.size 0
      | none => false)
    | none => false
  | _ => false
def fieldsIn (P : Program) (t : Nat) : List Nat → Nat → Bool
  | [], _ => true
  | o :: r, f => fieldIn P t f o && fieldsIn P t r (f + 1)
def allFrom (p : Nat → Nat → Bool) : List Nat → Nat → Bool
  | [], _ => true
  | x :: r, t => p t x && allFrom p r (t + 1)
def allFromL (p : Nat → List Nat → Bool) : List (List Nat) → Nat → Bool
  | [], _ => true
  | x :: r, t => p t x && allFromL p r (t + 1)
theorem allFrom_spec {p : Nat → Nat → Bool} : ∀ {l : List Nat} {k : Nat}, allFrom p l k = true → ∀ t x, nth l t = some x → p (k + t) x = true
  | [], _, _, t, x, h => by simp [nth] at h
  | y :: r, k, h, 0, x, hx => by simp [nth] at hx; subst hx; simp only [allFrom, Bool.and_eq_true] at h; exact h.1
  | y :: r, k, h, t + 1, x, hx => by
    simp only [allFrom, Bool.and_eq_true] at h
    have := allFrom_spec h.2 t x (by simpa [nth] using hx)
    rwa [show k + 1 + t = k + (t + 1) by omega] at this
theorem allFromL_spec {p : Nat → List Nat → Bool} : ∀ {l : List (List Nat)} {k : Nat}, allFromL p l k = true → ∀ t x, nth l t = some x → p (k + t) x = true
  | [], _, _, t, x, h => by simp [nth] at h
  | y :: r, k, h, 0, x, hx => by simp [nth] at hx; subst hx; simp only [allFromL, Bool.and_eq_true] at h; exact h.1
  | y :: r, k, h, t + 1, x, hx => by
    simp only [allFromL, Bool.and_eq_true] at h
    have := allFromL_spec h.2 t x (by simpa [nth] using hx)
    rwa [show k + 1 + t = k + (t + 1) by omega] at this
theorem fieldsIn_spec {P : Program} {t : Nat} : ∀ {l : List Nat} {k : Nat}, fieldsIn P t l k = true → ∀ f o, nth l f = some o → fieldIn P t (k + f) o = true
  | [], _, _, f, o, h => by simp [nth] at h
  | y :: r, k, h, 0, o, ho => by simp [nth] at ho; subst ho; simp only [fieldsIn, Bool.and_eq_true] at h; exact h.1
  | y :: r, k, h, f + 1, o, ho => by
    simp only [fieldsIn, Bool.and_eq_true] at h
    have := fieldsIn_spec h.2 f o (by simpa [nth] using ho)
    rwa [show k + 1 + f = k + (f + 1) by omega] at this
theorem size_of {P : Program} {t n : Nat} (h : sizeIn P t = n) (hn : n < 1000000) (w : World) : (Go.sizeOf t).run P w = .ok n w := by
  unfold sizeIn at h
  cases hi : P.info? t with
  | none => rw [hi] at h; simp at h; omega
  | some i => rw [hi] at h; simp at h; simp [Go.sizeOf, typeInfo, hi, h]
def mkTab (P : Program) (kinds sizes elems : List Nat) (flds : List (List Nat)) (h1 : allFrom (fun t k => Nat.beq (kindOf P t) k && Nat.blt k 100) kinds 0 = true) (h2 : allFrom (fun t n => Nat.beq (sizeIn P t) n && Nat.blt n 1000000) sizes 0 = true)
    (h3 : allFrom (fun t e => Nat.beq (elemIn P t) e) elems 0 = true) (h4 : allFromL (fun t l => fieldsIn P t l 0) flds 0 = true) : Tab P where
  kinds := kinds
  sizes := sizes
  elems := elems
  flds := flds
  agg := fun t ht w => by
    have h := allFrom_spec h1 t 0 ht
    simp only [Nat.zero_add, Bool.and_eq_true, kindOf] at h
    cases hu : P.underlying t with
    | none => rw [hu] at h; simp at h
    | some u => rw [hu] at h; cases u <;> first | (simp at h; done) | simp [isAgg, run_underlying hu]
  plain := fun t k ht w => by
    have h := allFrom_spec h1 t (k + 1) ht
    simp only [Nat.zero_add, Bool.and_eq_true, kindOf] at h
    cases hu : P.underlying t with
    | none => rw [hu] at h; simp at h; omega
    | some u => rw [hu] at h; cases u <;> first | (simp at h; done) | simp [isAgg, run_underlying hu]
  slice := fun t e ht he => by
    have h := allFrom_spec h1 t 1 ht
    have h' := allFrom_spec h3 t e he
    simp only [Nat.zero_add, Bool.and_eq_true, kindOf] at h
    simp only [Nat.zero_add, elemIn] at h'
    cases hu : P.underlying t with
    | none => rw [hu] at h; simp at h
    | some u => rw [hu] at h h'; cases u <;> first | (simp at h; done) | (simp at h'; rw [h'])
  str := fun t ht => by
    have h := allFrom_spec h1 t 2 ht
    simp only [Nat.zero_add, Bool.and_eq_true, kindOf] at h
    cases hu : P.underlying t with
    | none => rw [hu] at h; simp at h
    | some u => rw [hu] at h; cases u <;> first | rfl | (simp at h; done)
  bool := fun t ht => by
    have h := allFrom_spec h1 t 3 ht
    simp only [Nat.zero_add, Bool.and_eq_true, kindOf] at h
    cases hu : P.underlying t with
    | none => rw [hu] at h; simp at h
    | some u => rw [hu] at h; cases u <;> first | rfl | (simp at h; done)
  size := fun t n ht w => by
    have h := allFrom_spec h2 t n ht
    simp only [Nat.zero_add, Bool.and_eq_true] at h
    exact size_of (Nat.eq_of_beq_eq_true h.1) (by simpa using h.2) w
  fld := fun t f l o hl ho => by
    have h := fieldsIn_spec (allFromL_spec h4 t l hl) f o ho
    simp only [Nat.zero_add, fieldIn] at h
    cases hu : P.underlying t with
    | none => rw [hu] at h; simp at h
    | some u =>
      rw [hu] at h
      cases u <;> try (simp at h; done)
      rename_i fs
      simp only at h
      cases hf : fs[f]? with
      | none => rw [hf] at h; simp at h
      | some fd =>
        rw [hf] at h
        simp only [Bool.and_eq_true] at h
        obtain ⟨h5, h6⟩ := h
        cases hi : P.info? fd.type with
        | none => rw [hi] at h6; simp at h6
        | some i =>
          rw [hi] at h6
          refine ⟨fs, fd, i.size, hu, hf, Nat.eq_of_beq_eq_true h5, fun w => by simp [Go.sizeOf, typeInfo, hi], ?_⟩
          simp only [Bool.not_eq_true'] at h6
          cases hz : i.size with
          | zero => rw [hz] at h6; simp at h6
          | succ n => rfl
end Go.Proofs.Ytbadjlhijbkbbaa.Sx
namespace Go.Proofs.Ytbadjlhijbkbbaa
open Go Go.RowKit Sx
def kindsT : List Nat := [4, 4, 4, 4, 3, 4, 4, 0, 0, 2, 2, 2, 4, 0, 0, 4, 4, 4, 0, 0, 4, 4, 1, 1, 0, 0, 4, 4, 1, 0, 0, 4, 4, 4, 4, 4, 4, 4, 4, 4, 4, 4, 4, 4, 4, 4, 4, 4, 4, 4, 4, 4, 4, 1, 4, 1, 4, 4, 0, 0, 4, 4, 4, 4, 4, 0, 0, 4, 4, 4, 4, 1, 1, 1, 0, 0, 4, 4, 4, 4, 4, 4, 0, 0, 4, 4, 0, 0, 4, 4, 4, 4, 4, 4, 4, 4, 4, 4, 4, 4, 4, 4, 1, 0, 0, 0, 0, 0, 0, 4, 4, 4, 1, 1, 0, 0, 4, 4, 4, 1, 0, 0, 0, 0, 4, 4, 4, 4, 4, 4, 4, 4, 4, 4, 0, 0, 4, 4, 4, 4, 4, 4, 4, 4, 4, 4, 4, 4, 4, 4, 1, 0, 0, 4, 4, 4, 0, 4, 4, 4, 4, 4, 4, 4, 4, 4, 4, 4, 4, 4, 4, 4, 4, 4, 4, 4, 4, 4, 4, 4, 4, 4, 4, 4, 4, 4, 1, 4, 0, 0, 4, 4, 4, 4, 4, 4, 4, 4, 4, 0, 0, 4, 4, 4, 4, 4, 4, 4, 4, 4, 4, 4, 4, 4, 4, 4, 4, 4, 4, 4, 4, 4, 4, 4, 0, 0, 0, 0, 0, 4, 4, 4, 4, 4, 0, 0]
def sizesT : List Nat := [1, 1, 1, 1, 1, 1, 1, 4, 4, 1, 1, 1, 1, 2, 2, 1, 1, 1, 1, 1, 1, 1, 1, 1, 4, 4, 1, 1, 1, 2, 2, 1, 1, 1, 1, 1, 1, 1, 1, 1, 1, 1, 1, 1, 1, 1, 1, 1, 1, 1, 1, 1, 1, 1, 1, 1, 1, 1, 4, 4, 1, 1, 1, 1, 1, 4, 4, 1, 1, 1, 1, 1, 1, 1, 2, 2, 1, 1, 1, 1, 1, 1, 2, 2, 1, 1, 2, 2, 1, 1, 1, 1, 1, 1, 1, 1, 1, 1, 1, 1, 1, 1, 1, 1, 1, 3, 3, 1, 1, 1, 1, 1, 1, 1, 3, 3, 1, 1, 1, 1, 1, 1, 6, 6, 1, 1, 1, 1, 1, 1, 1, 1, 1, 1, 2, 2, 1, 1, 1, 1, 1, 1, 1, 1, 1, 1, 1, 1, 1, 1, 1, 8, 8, 1, 1, 1, 2, 1, 1, 1, 1, 1, 1, 1, 1, 1, 1, 1, 1, 1, 1, 1, 1, 1, 1, 1, 1, 1, 1, 1, 1, 1, 1, 1, 1, 1, 1, 1, 2, 2, 1, 1, 1, 1, 1, 1, 1, 1, 1, 2, 2, 1, 1, 1, 1, 1, 1, 1, 1, 1, 1, 1, 1, 1, 1, 1, 1, 1, 1, 1, 1, 1, 1, 1, 4, 4, 0, 0, 0, 1, 1, 1, 1, 1, 11, 11]
def elemsT : List Nat := [0, 0, 0, 0, 0, 0, 0, 0, 0, 0, 0, 0, 0, 0, 0, 0, 0, 0, 0, 0, 0, 0, 9, 30, 0, 0, 0, 0, 3, 0, 0, 0, 0, 0, 0, 0, 0, 0, 0, 0, 0, 0, 0, 0, 0, 0, 0, 0, 0, 0, 0, 0, 0, 5, 0, 59, 0, 0, 0, 0, 0, 0, 0, 0, 0, 0, 0, 0, 0, 0, 0, 75, 87, 83, 0, 0, 0, 0, 0, 0, 0, 0, 0, 0, 0, 0, 0, 0, 0, 0, 0, 0, 0, 0, 0, 0, 0, 0, 0, 0, 0, 0, 106, 0, 0, 0, 0, 0, 0, 0, 0, 0, 28, 4, 0, 0, 0, 0, 0, 123, 0, 0, 0, 0, 0, 0, 0, 0, 0, 0, 0, 0, 0, 0, 0, 0, 0, 0, 0, 0, 0, 0, 0, 0, 0, 0, 0, 0, 0, 0, 72, 0, 0, 0, 0, 0, 0, 0, 0, 0, 0, 0, 0, 0, 0, 0, 0, 0, 0, 0, 0, 0, 0, 0, 0, 0, 0, 0, 0, 0, 0, 0, 0, 0, 0, 0, 22, 0, 0, 0, 0, 0, 0, 0, 0, 0, 0, 0, 0, 0, 0, 0, 0, 0, 0, 0, 0, 0, 0, 0, 0, 0, 0, 0, 0, 0, 0, 0, 0, 0, 0, 0, 0, 0, 0, 0, 0, 0, 0, 0, 0, 0, 0, 0, 0, 0]
def fldsT : List (List Nat) := [[], [], [], [], [], [], [], [0, 1, 2, 3], [0, 1, 2, 3], [], [], [], [], [0, 1], [0, 1], [], [], [], [0], [0], [], [], [], [], [0, 1, 2, 3], [0, 1, 2, 3], [], [], [], [0, 1], [0, 1], [], [], [], [], [], [], [], [], [], [], [], [], [], [], [], [], [], [], [], [], [], [], [], [], [], [], [], [0, 1, 2, 3], [0, 1, 2, 3], [], [], [], [], [], [0, 1, 2, 3], [0, 1, 2, 3], [], [], [], [], [], [], [], [0, 1], [0, 1], [], [], [], [], [], [], [0, 1], [0, 1], [], [], [0, 1], [0, 1], [], [], [], [], [], [], [], [], [], [], [], [], [], [], [], [0], [0], [0, 1, 2], [0, 1, 2], [0], [0], [], [], [], [], [], [0, 1, 2], [0, 1, 2], [], [], [], [], [0], [0], [0, 4, 5], [0, 4, 5], [], [], [], [], [], [], [], [], [], [], [0, 1], [0, 1], [], [], [], [], [], [], [], [], [], [], [], [], [], [], [], [0, 4, 5, 6, 7], [0, 4, 5, 6, 7], [], [], [], [], [], [], [], [], [], [], [], [], [], [], [], [], [], [], [], [], [], [], [], [], [], [], [], [], [], [], [], [], [], [], [], [0, 1], [0, 1], [], [], [], [], [], [], [], [], [], [0, 1], [0, 1], [], [], [], [], [], [], [], [], [], [], [], [], [], [], [], [], [], [], [], [], [], [], [], [0, 1, 2, 3], [0, 1, 2, 3], [], [], [], [], [], [], [], [], [0, 1, 2, 3, 4, 5, 6, 7, 8, 9, 10], [0, 1, 2, 3, 4, 5, 6, 7, 8, 9, 10]]
theorem kindsT_ok : allFrom (fun t k => Nat.beq (kindOf Try.prog t) k && Nat.blt k 100) kindsT 0 = true := by kernel_rfl
theorem sizesT_ok : allFrom (fun t n => Nat.beq (sizeIn Try.prog t) n && Nat.blt n 1000000) sizesT 0 = true := by kernel_rfl
theorem elemsT_ok : allFrom (fun t e => Nat.beq (elemIn Try.prog t) e) elemsT 0 = true := by kernel_rfl
theorem fldsT_ok : allFromL (fun t l => fieldsIn Try.prog t l 0) fldsT 0 = true := by kernel_rfl
/-- The seat's table. -/
def TT : Tab Try.prog := mkTab Try.prog kindsT sizesT elemsT fldsT kindsT_ok sizesT_ok elemsT_ok fldsT_ok
theorem mixed : Try.prog.follows .mixedOrders = true := by kernel_rfl
theorem en3 : Enters Try.prog 3 := callFunc_run Try.func3 rfl (by kernel_rfl)
theorem en4 : Enters Try.prog 4 := callFunc_run Try.func4 rfl (by kernel_rfl)
theorem en5 : Enters Try.prog 5 := callFunc_run Try.func5 rfl (by kernel_rfl)
theorem en6 : Enters Try.prog 6 := callFunc_run Try.func6 rfl (by kernel_rfl)
theorem en7 : Enters Try.prog 7 := callFunc_run Try.func7 rfl (by kernel_rfl)
theorem en8 : Enters Try.prog 8 := callFunc_run Try.func8 rfl (by kernel_rfl)
theorem en9 : Enters Try.prog 9 := callFunc_run Try.func9 rfl (by kernel_rfl)
theorem en10 : Enters Try.prog 10 := callFunc_run Try.func10 rfl (by kernel_rfl)
theorem en11 : Enters Try.prog 11 := callFunc_run Try.func11 rfl (by kernel_rfl)
theorem en12 : Enters Try.prog 12 := callFunc_run Try.func12 rfl (by kernel_rfl)
theorem en13 : Enters Try.prog 13 := callFunc_run Try.func13 rfl (by kernel_rfl)
theorem en14 : Enters Try.prog 14 := callFunc_run Try.func14 rfl (by kernel_rfl)
theorem en15 : Enters Try.prog 15 := callFunc_run Try.func15 rfl (by kernel_rfl)
theorem en16 : Enters Try.prog 16 := callFunc_run Try.func16 rfl (by kernel_rfl)
theorem en17 : Enters Try.prog 17 := callFunc_run Try.func17 rfl (by kernel_rfl)
theorem en18 : Enters Try.prog 18 := callFunc_run Try.func18 rfl (by kernel_rfl)
theorem en19 : Enters Try.prog 19 := callFunc_run Try.func19 rfl (by kernel_rfl)
theorem en20 : Enters Try.prog 20 := callFunc_run Try.func20 rfl (by kernel_rfl)
theorem en21 : Enters Try.prog 21 := callFunc_run Try.func21 rfl (by kernel_rfl)
theorem en22 : Enters Try.prog 22 := callFunc_run Try.func22 rfl (by kernel_rfl)
theorem en23 : Enters Try.prog 23 := callFunc_run Try.func23 rfl (by kernel_rfl)
theorem en24 : Enters Try.prog 24 := callFunc_run Try.func24 rfl (by kernel_rfl)
theorem en25 : Enters Try.prog 25 := callFunc_run Try.func25 rfl (by kernel_rfl)
theorem en26 : Enters Try.prog 26 := callFunc_run Try.func26 rfl (by kernel_rfl)
theorem en27 : Enters Try.prog 27 := callFunc_run Try.func27 rfl (by kernel_rfl)
theorem en28 : Enters Try.prog 28 := callFunc_run Try.func28 rfl (by kernel_rfl)
theorem en29 : Enters Try.prog 29 := callFunc_run Try.func29 rfl (by kernel_rfl)
theorem en30 : Enters Try.prog 30 := callFunc_run Try.func30 rfl (by kernel_rfl)
theorem en31 : Enters Try.prog 31 := callFunc_run Try.func31 rfl (by kernel_rfl)
theorem en32 : Enters Try.prog 32 := callFunc_run Try.func32 rfl (by kernel_rfl)
theorem en33 : Enters Try.prog 33 := callFunc_run Try.func33 rfl (by kernel_rfl)
theorem en34 : Enters Try.prog 34 := callFunc_run Try.func34 rfl (by kernel_rfl)
theorem en35 : Enters Try.prog 35 := callFunc_run Try.func35 rfl (by kernel_rfl)
theorem en36 : Enters Try.prog 36 := callFunc_run Try.func36 rfl (by kernel_rfl)
theorem en37 : Enters Try.prog 37 := callFunc_run Try.func37 rfl (by kernel_rfl)
theorem en38 : Enters Try.prog 38 := callFunc_run Try.func38 rfl (by kernel_rfl)
theorem en39 : Enters Try.prog 39 := callFunc_run Try.func39 rfl (by kernel_rfl)
theorem en40 : Enters Try.prog 40 := callFunc_run Try.func40 rfl (by kernel_rfl)
theorem en41 : Enters Try.prog 41 := callFunc_run Try.func41 rfl (by kernel_rfl)
theorem en42 : Enters Try.prog 42 := callFunc_run Try.func42 rfl (by kernel_rfl)
theorem en43 : Enters Try.prog 43 := callFunc_run Try.func43 rfl (by kernel_rfl)
theorem en44 : Enters Try.prog 44 := callFunc_run Try.func44 rfl (by kernel_rfl)
theorem en45 : Enters Try.prog 45 := callFunc_run Try.func45 rfl (by kernel_rfl)
theorem en46 : Enters Try.prog 46 := callFunc_run Try.func46 rfl (by kernel_rfl)
theorem en47 : Enters Try.prog 47 := callFunc_run Try.func47 rfl (by kernel_rfl)
theorem en48 : Enters Try.prog 48 := callFunc_run Try.func48 rfl (by kernel_rfl)
theorem en49 : Enters Try.prog 49 := callFunc_run Try.func49 rfl (by kernel_rfl)
theorem en50 : Enters Try.prog 50 := callFunc_run Try.func50 rfl (by kernel_rfl)
theorem en51 : Enters Try.prog 51 := callFunc_run Try.func51 rfl (by kernel_rfl)
theorem en52 : Enters Try.prog 52 := callFunc_run Try.func52 rfl (by kernel_rfl)
theorem en53 : Enters Try.prog 53 := callFunc_run Try.func53 rfl (by kernel_rfl)
theorem en54 : Enters Try.prog 54 := callFunc_run Try.func54 rfl (by kernel_rfl)
theorem en55 : Enters Try.prog 55 := callFunc_run Try.func55 rfl (by kernel_rfl)
theorem en56 : Enters Try.prog 56 := callFunc_run Try.func56 rfl (by kernel_rfl)
theorem en57 : Enters Try.prog 57 := callFunc_run Try.func57 rfl (by kernel_rfl)
theorem en58 : Enters Try.prog 58 := callFunc_run Try.func58 rfl (by kernel_rfl)
theorem en59 : Enters Try.prog 59 := callFunc_run Try.func59 rfl (by kernel_rfl)
theorem en60 : Enters Try.prog 60 := callFunc_run Try.func60 rfl (by kernel_rfl)
theorem en61 : Enters Try.prog 61 := callFunc_run Try.func61 rfl (by kernel_rfl)
theorem en62 : Enters Try.prog 62 := callFunc_run Try.func62 rfl (by kernel_rfl)
theorem en63 : Enters Try.prog 63 := callFunc_run Try.func63 rfl (by kernel_rfl)
theorem en64 : Enters Try.prog 64 := callFunc_run Try.func64 rfl (by kernel_rfl)
theorem en65 : Enters Try.prog 65 := callFunc_run Try.func65 rfl (by kernel_rfl)
theorem en66 : Enters Try.prog 66 := callFunc_run Try.func66 rfl (by kernel_rfl)
theorem en67 : Enters Try.prog 67 := callFunc_run Try.func67 rfl (by kernel_rfl)
theorem en68 : Enters Try.prog 68 := callFunc_run Try.func68 rfl (by kernel_rfl)
theorem en69 : Enters Try.prog 69 := callFunc_run Try.func69 rfl (by kernel_rfl)
theorem en70 : Enters Try.prog 70 := callFunc_run Try.func70 rfl (by kernel_rfl)
theorem en71 : Enters Try.prog 71 := callFunc_run Try.func71 rfl (by kernel_rfl)
theorem en72 : Enters Try.prog 72 := callFunc_run Try.func72 rfl (by kernel_rfl)
theorem en73 : Enters Try.prog 73 := callFunc_run Try.func73 rfl (by kernel_rfl)
theorem en74 : Enters Try.prog 74 := callFunc_run Try.func74 rfl (by kernel_rfl)
theorem en75 : Enters Try.prog 75 := callFunc_run Try.func75 rfl (by kernel_rfl)
theorem en76 : Enters Try.prog 76 := callFunc_run Try.func76 rfl (by kernel_rfl)
theorem en77 : Enters Try.prog 77 := callFunc_run Try.func77 rfl (by kernel_rfl)
theorem en78 : Enters Try.prog 78 := callFunc_run Try.func78 rfl (by kernel_rfl)
theorem en79 : Enters Try.prog 79 := callFunc_run Try.func79 rfl (by kernel_rfl)
theorem en80 : Enters Try.prog 80 := callFunc_run Try.func80 rfl (by kernel_rfl)
theorem en81 : Enters Try.prog 81 := callFunc_run Try.func81 rfl (by kernel_rfl)
theorem en82 : Enters Try.prog 82 := callFunc_run Try.func82 rfl (by kernel_rfl)
theorem en83 : Enters Try.prog 83 := callFunc_run Try.func83 rfl (by kernel_rfl)
theorem en84 : Enters Try.prog 84 := callFunc_run Try.func84 rfl (by kernel_rfl)
theorem en85 : Enters Try.prog 85 := callFunc_run Try.func85 rfl (by kernel_rfl)
theorem en86 : Enters Try.prog 86 := callFunc_run Try.func86 rfl (by kernel_rfl)
theorem en87 : Enters Try.prog 87 := callFunc_run Try.func87 rfl (by kernel_rfl)
theorem en88 : Enters Try.prog 88 := callFunc_run Try.func88 rfl (by kernel_rfl)
theorem en89 : Enters Try.prog 89 := callFunc_run Try.func89 rfl (by kernel_rfl)
theorem en90 : Enters Try.prog 90 := callFunc_run Try.func90 rfl (by kernel_rfl)
theorem en91 : Enters Try.prog 91 := callFunc_run Try.func91 rfl (by kernel_rfl)
theorem en92 : Enters Try.prog 92 := callFunc_run Try.func92 rfl (by kernel_rfl)
theorem en93 : Enters Try.prog 93 := callFunc_run Try.func93 rfl (by kernel_rfl)
theorem en94 : Enters Try.prog 94 := callFunc_run Try.func94 rfl (by kernel_rfl)
theorem en95 : Enters Try.prog 95 := callFunc_run Try.func95 rfl (by kernel_rfl)
theorem en96 : Enters Try.prog 96 := callFunc_run Try.func96 rfl (by kernel_rfl)
theorem en97 : Enters Try.prog 97 := callFunc_run Try.func97 rfl (by kernel_rfl)
theorem en98 : Enters Try.prog 98 := callFunc_run Try.func98 rfl (by kernel_rfl)
theorem en99 : Enters Try.prog 99 := callFunc_run Try.func99 rfl (by kernel_rfl)
theorem en100 : Enters Try.prog 100 := callFunc_run Try.func100 rfl (by kernel_rfl)
theorem en101 : Enters Try.prog 101 := callFunc_run Try.func101 rfl (by kernel_rfl)
theorem en102 : Enters Try.prog 102 := callFunc_run Try.func102 rfl (by kernel_rfl)
theorem en103 : Enters Try.prog 103 := callFunc_run Try.func103 rfl (by kernel_rfl)
theorem en104 : Enters Try.prog 104 := callFunc_run Try.func104 rfl (by kernel_rfl)
theorem en105 : Enters Try.prog 105 := callFunc_run Try.func105 rfl (by kernel_rfl)
theorem en106 : Enters Try.prog 106 := callFunc_run Try.func106 rfl (by kernel_rfl)
theorem en107 : Enters Try.prog 107 := callFunc_run Try.func107 rfl (by kernel_rfl)
theorem en108 : Enters Try.prog 108 := callFunc_run Try.func108 rfl (by kernel_rfl)
theorem en109 : Enters Try.prog 109 := callFunc_run Try.func109 rfl (by kernel_rfl)
theorem en110 : Enters Try.prog 110 := callFunc_run Try.func110 rfl (by kernel_rfl)
theorem en111 : Enters Try.prog 111 := callFunc_run Try.func111 rfl (by kernel_rfl)
theorem en112 : Enters Try.prog 112 := callFunc_run Try.func112 rfl (by kernel_rfl)
theorem en113 : Enters Try.prog 113 := callFunc_run Try.func113 rfl (by kernel_rfl)
theorem en114 : Enters Try.prog 114 := callFunc_run Try.func114 rfl (by kernel_rfl)
theorem en115 : Enters Try.prog 115 := callFunc_run Try.func115 rfl (by kernel_rfl)
theorem en116 : Enters Try.prog 116 := callFunc_run Try.func116 rfl (by kernel_rfl)
theorem en117 : Enters Try.prog 117 := callFunc_run Try.func117 rfl (by kernel_rfl)
theorem en118 : Enters Try.prog 118 := callFunc_run Try.func118 rfl (by kernel_rfl)
theorem en119 : Enters Try.prog 119 := callFunc_run Try.func119 rfl (by kernel_rfl)
theorem en120 : Enters Try.prog 120 := callFunc_run Try.func120 rfl (by kernel_rfl)
theorem en121 : Enters Try.prog 121 := callFunc_run Try.func121 rfl (by kernel_rfl)
theorem en122 : Enters Try.prog 122 := callFunc_run Try.func122 rfl (by kernel_rfl)
theorem en123 : Enters Try.prog 123 := callFunc_run Try.func123 rfl (by kernel_rfl)
theorem en124 : Enters Try.prog 124 := callFunc_run Try.func124 rfl (by kernel_rfl)
theorem en125 : Enters Try.prog 125 := callFunc_run Try.func125 rfl (by kernel_rfl)
theorem en126 : Enters Try.prog 126 := callFunc_run Try.func126 rfl (by kernel_rfl)
theorem en127 : Enters Try.prog 127 := callFunc_run Try.func127 rfl (by kernel_rfl)
theorem en128 : Enters Try.prog 128 := callFunc_run Try.func128 rfl (by kernel_rfl)
theorem en129 : Enters Try.prog 129 := callFunc_run Try.func129 rfl (by kernel_rfl)
theorem en130 : Enters Try.prog 130 := callFunc_run Try.func130 rfl (by kernel_rfl)
theorem en131 : Enters Try.prog 131 := callFunc_run Try.func131 rfl (by kernel_rfl)
theorem en132 : Enters Try.prog 132 := callFunc_run Try.func132 rfl (by kernel_rfl)
theorem en133 : Enters Try.prog 133 := callFunc_run Try.func133 rfl (by kernel_rfl)
theorem en134 : Enters Try.prog 134 := callFunc_run Try.func134 rfl (by kernel_rfl)
theorem en135 : Enters Try.prog 135 := callFunc_run Try.func135 rfl (by kernel_rfl)
theorem en136 : Enters Try.prog 136 := callFunc_run Try.func136 rfl (by kernel_rfl)
theorem en137 : Enters Try.prog 137 := callFunc_run Try.func137 rfl (by kernel_rfl)
theorem en138 : Enters Try.prog 138 := callFunc_run Try.func138 rfl (by kernel_rfl)
theorem en139 : Enters Try.prog 139 := callFunc_run Try.func139 rfl (by kernel_rfl)
theorem en140 : Enters Try.prog 140 := callFunc_run Try.func140 rfl (by kernel_rfl)
theorem en141 : Enters Try.prog 141 := callFunc_run Try.func141 rfl (by kernel_rfl)
theorem en142 : Enters Try.prog 142 := callFunc_run Try.func142 rfl (by kernel_rfl)
theorem en143 : Enters Try.prog 143 := callFunc_run Try.func143 rfl (by kernel_rfl)
theorem en144 : Enters Try.prog 144 := callFunc_run Try.func144 rfl (by kernel_rfl)
theorem en145 : Enters Try.prog 145 := callFunc_run Try.func145 rfl (by kernel_rfl)
theorem en146 : Enters Try.prog 146 := callFunc_run Try.func146 rfl (by kernel_rfl)
theorem en147 : Enters Try.prog 147 := callFunc_run Try.func147 rfl (by kernel_rfl)
theorem en148 : Enters Try.prog 148 := callFunc_run Try.func148 rfl (by kernel_rfl)
theorem en149 : Enters Try.prog 149 := callFunc_run Try.func149 rfl (by kernel_rfl)
theorem en150 : Enters Try.prog 150 := callFunc_run Try.func150 rfl (by kernel_rfl)
theorem en151 : Enters Try.prog 151 := callFunc_run Try.func151 rfl (by kernel_rfl)
theorem en152 : Enters Try.prog 152 := callFunc_run Try.func152 rfl (by kernel_rfl)
theorem en153 : Enters Try.prog 153 := callFunc_run Try.func153 rfl (by kernel_rfl)
theorem en154 : Enters Try.prog 154 := callFunc_run Try.func154 rfl (by kernel_rfl)
theorem en155 : Enters Try.prog 155 := callFunc_run Try.func155 rfl (by kernel_rfl)
theorem en156 : Enters Try.prog 156 := callFunc_run Try.func156 rfl (by kernel_rfl)
theorem en157 : Enters Try.prog 157 := callFunc_run Try.func157 rfl (by kernel_rfl)
theorem en158 : Enters Try.prog 158 := callFunc_run Try.func158 rfl (by kernel_rfl)
theorem en159 : Enters Try.prog 159 := callFunc_run Try.func159 rfl (by kernel_rfl)
theorem en160 : Enters Try.prog 160 := callFunc_run Try.func160 rfl (by kernel_rfl)
theorem en161 : Enters Try.prog 161 := callFunc_run Try.func161 rfl (by kernel_rfl)
theorem en162 : Enters Try.prog 162 := callFunc_run Try.func162 rfl (by kernel_rfl)
theorem en163 : Enters Try.prog 163 := callFunc_run Try.func163 rfl (by kernel_rfl)
theorem en164 : Enters Try.prog 164 := callFunc_run Try.func164 rfl (by kernel_rfl)
theorem en165 : Enters Try.prog 165 := callFunc_run Try.func165 rfl (by kernel_rfl)
theorem en166 : Enters Try.prog 166 := callFunc_run Try.func166 rfl (by kernel_rfl)
theorem en167 : Enters Try.prog 167 := callFunc_run Try.func167 rfl (by kernel_rfl)
theorem en168 : Enters Try.prog 168 := callFunc_run Try.func168 rfl (by kernel_rfl)
theorem en169 : Enters Try.prog 169 := callFunc_run Try.func169 rfl (by kernel_rfl)
theorem en170 : Enters Try.prog 170 := callFunc_run Try.func170 rfl (by kernel_rfl)
theorem en172 : Enters Try.prog 172 := callFunc_run Try.func172 rfl (by kernel_rfl)
theorem en173 : Enters Try.prog 173 := callFunc_run Try.func173 rfl (by kernel_rfl)
theorem en174 : Enters Try.prog 174 := callFunc_run Try.func174 rfl (by kernel_rfl)
theorem en175 : Enters Try.prog 175 := callFunc_run Try.func175 rfl (by kernel_rfl)
theorem en176 : Enters Try.prog 176 := callFunc_run Try.func176 rfl (by kernel_rfl)
theorem en177 : Enters Try.prog 177 := callFunc_run Try.func177 rfl (by kernel_rfl)
theorem en178 : Enters Try.prog 178 := callFunc_run Try.func178 rfl (by kernel_rfl)
theorem en179 : Enters Try.prog 179 := callFunc_run Try.func179 rfl (by kernel_rfl)
theorem en180 : Enters Try.prog 180 := callFunc_run Try.func180 rfl (by kernel_rfl)
theorem en181 : Enters Try.prog 181 := callFunc_run Try.func181 rfl (by kernel_rfl)
theorem en182 : Enters Try.prog 182 := callFunc_run Try.func182 rfl (by kernel_rfl)
theorem en183 : Enters Try.prog 183 := callFunc_run Try.func183 rfl (by kernel_rfl)
theorem en184 : Enters Try.prog 184 := callFunc_run Try.func184 rfl (by kernel_rfl)
theorem en185 : Enters Try.prog 185 := callFunc_run Try.func185 rfl (by kernel_rfl)
theorem en186 : Enters Try.prog 186 := callFunc_run Try.func186 rfl (by kernel_rfl)
theorem en187 : Enters Try.prog 187 := callFunc_run Try.func187 rfl (by kernel_rfl)
theorem en188 : Enters Try.prog 188 := callFunc_run Try.func188 rfl (by kernel_rfl)
theorem en189 : Enters Try.prog 189 := callFunc_run Try.func189 rfl (by kernel_rfl)
theorem en190 : Enters Try.prog 190 := callFunc_run Try.func190 rfl (by kernel_rfl)
theorem en191 : Enters Try.prog 191 := callFunc_run Try.func191 rfl (by kernel_rfl)
theorem en192 : Enters Try.prog 192 := callFunc_run Try.func192 rfl (by kernel_rfl)
theorem en193 : Enters Try.prog 193 := callFunc_run Try.func193 rfl (by kernel_rfl)
theorem en194 : Enters Try.prog 194 := callFunc_run Try.func194 rfl (by kernel_rfl)
theorem en195 : Enters Try.prog 195 := callFunc_run Try.func195 rfl (by kernel_rfl)
theorem en196 : Enters Try.prog 196 := callFunc_run Try.func196 rfl (by kernel_rfl)
theorem en197 : Enters Try.prog 197 := callFunc_run Try.func197 rfl (by kernel_rfl)
end Go.Proofs.Ytbadjlhijbkbbaa
namespace Go.Proofs.Ytbadjlhijbkbbaa.Sx
open Go Go.RowKit
/-- Straight on: all that needs no fact that is not at hand. -/
theorem wk {p q : Prop} (hq : q) (h : (Unit → q) → p := by intro hq_; (repeat (first | refine W.seq ?_ | refine W.region ?_ | refine Wl.step rfl ?_ | refine Wl.act ?_ | refine Wl.done ?_ | refine Arr.next ?_ | refine W.block ?_ | refine W.skip ?_ | refine W.ret ?_ | refine W.exit ?_ | refine Arr.then_ret ?_ | refine Arr.then_exit ?_ | refine Arr.block_ret ?_ | refine Arr.block_normal ?_ | refine Arr.block_exit ?_ | refine Arr.block_other rfl ?_ | refine W.yes rfl ?_ | refine W.no rfl ?_ | refine Wl.stepY rfl rfl rfl rfl ?_ | refine Wl.stepN rfl rfl rfl rfl rfl ?_ | refine Wl.stepU rfl rfl rfl rfl ?_ | refine Wop.pure TT rfl ?_ | refine Wop.ldB TT rfl rfl (by first | assumption | exact Blk.ext (by assumption) (by assumption)) rfl ?_ | refine Wop.ld TT rfl rfl (by first | assumption | exact Ext.cell (by assumption) (by assumption)) ?_ | refine Wop.ldA TT rfl rfl rfl (by first | assumption | exact Blk.ext (by assumption) (by assumption)) ?_ | refine Wop.ldR TT rfl rfl rfl (by first | assumption | exact cells_ext (by assumption) (by assumption)) ?_ | refine Wop.ix TT rfl rfl rfl rfl rfl (by first | assumption | omega) ?_ | refine Wop.inc rfl rfl (by omega) ?_ | refine Wop.add rfl rfl ⟨by omega, by omega⟩ ?_ | refine Wop.sub rfl rfl ⟨by omega, by omega⟩ ?_)); exact hq_ ()) : p := h fun _ => hq
/-- One operation of a region that draws its order. -/
theorem qs {p : Prop} (h : p := by (intro w_ hG; (repeat (intro v_ hv_; cases hv_)); first | (refine WopG.plain rfl ?_; first | refine Wop.pure TT rfl ⟨Ext.refl _, rfl⟩ | refine Wop.ldB TT rfl rfl (by first | assumption | exact Blk.ext (by assumption) hG) rfl ⟨Ext.refl _, rfl⟩ | refine Wop.ld TT rfl rfl (by first | assumption | exact Ext.cell hG (by assumption)) ⟨Ext.refl _, rfl⟩ | refine Wop.ldA TT rfl rfl rfl (by first | assumption | exact Blk.ext (by assumption) hG) ⟨Ext.refl _, rfl⟩ | refine Wop.ldR TT rfl rfl rfl (by first | assumption | exact cells_ext hG (by assumption)) ⟨Ext.refl _, rfl⟩ | refine Wop.ix TT rfl rfl rfl rfl rfl (by first | assumption | omega) ⟨Ext.refl _, rfl⟩ | refine Wop.inc rfl rfl (by omega) ⟨Ext.refl _, rfl⟩ | refine Wop.add rfl rfl ⟨by omega, by omega⟩ ⟨Ext.refl _, rfl⟩ | refine Wop.sub rfl rfl ⟨by omega, by omega⟩ ⟨Ext.refl _, rfl⟩) | exact WopG.no rfl rfl rfl rfl rfl ⟨Ext.refl _, rfl⟩ | (refine WopG.yes rfl rfl rfl rfl ?_; first | refine Wop.pure TT rfl ⟨Ext.refl _, rfl⟩ | refine Wop.ldB TT rfl rfl (by first | assumption | exact Blk.ext (by assumption) hG) rfl ⟨Ext.refl _, rfl⟩ | refine Wop.ld TT rfl rfl (by first | assumption | exact Ext.cell hG (by assumption)) ⟨Ext.refl _, rfl⟩ | refine Wop.ldA TT rfl rfl rfl (by first | assumption | exact Blk.ext (by assumption) hG) ⟨Ext.refl _, rfl⟩ | refine Wop.ldR TT rfl rfl rfl (by first | assumption | exact cells_ext hG (by assumption)) ⟨Ext.refl _, rfl⟩ | refine Wop.ix TT rfl rfl rfl rfl rfl (by first | assumption | omega) ⟨Ext.refl _, rfl⟩ | refine Wop.inc rfl rfl (by omega) ⟨Ext.refl _, rfl⟩ | refine Wop.add rfl rfl ⟨by omega, by omega⟩ ⟨Ext.refl _, rfl⟩ | refine Wop.sub rfl rfl ⟨by omega, by omega⟩ ⟨Ext.refl _, rfl⟩))) : p := h
/-- The same, where facts hold only until they are no more looked at. -/
theorem qk {p : Prop} (h : p := by (intro w_ hG; (repeat (intro v_ hv_; cases hv_)); first | (refine WopG.plain rfl ?_; first | refine Wop.pure TT rfl ⟨Below.refl _ _, rfl, (by repeat (first | exact trivial | refine ⟨fun _ h => h, ?_⟩))⟩ | refine Wop.ldB TT rfl rfl (by first | assumption | exact Blk.ext (by assumption) hG) rfl ⟨Below.refl _ _, rfl, (by repeat (first | exact trivial | refine ⟨fun _ h => h, ?_⟩))⟩ | refine Wop.ld TT rfl rfl (by first | assumption | exact Ext.cell hG (by assumption)) ⟨Below.refl _ _, rfl, (by repeat (first | exact trivial | refine ⟨fun _ h => h, ?_⟩))⟩ | refine Wop.ldA TT rfl rfl rfl (by first | assumption | exact Blk.ext (by assumption) hG) ⟨Below.refl _ _, rfl, (by repeat (first | exact trivial | refine ⟨fun _ h => h, ?_⟩))⟩ | refine Wop.ldR TT rfl rfl rfl (by first | assumption | exact cells_ext hG (by assumption)) ⟨Below.refl _ _, rfl, (by repeat (first | exact trivial | refine ⟨fun _ h => h, ?_⟩))⟩ | refine Wop.ix TT rfl rfl rfl rfl rfl (by first | assumption | omega) ⟨Below.refl _ _, rfl, (by repeat (first | exact trivial | refine ⟨fun _ h => h, ?_⟩))⟩ | refine Wop.inc rfl rfl (by omega) ⟨Below.refl _ _, rfl, (by repeat (first | exact trivial | refine ⟨fun _ h => h, ?_⟩))⟩ | refine Wop.add rfl rfl ⟨by omega, by omega⟩ ⟨Below.refl _ _, rfl, (by repeat (first | exact trivial | refine ⟨fun _ h => h, ?_⟩))⟩ | refine Wop.sub rfl rfl ⟨by omega, by omega⟩ ⟨Below.refl _ _, rfl, (by repeat (first | exact trivial | refine ⟨fun _ h => h, ?_⟩))⟩) | exact WopG.no rfl rfl rfl rfl rfl ⟨Below.refl _ _, rfl, (by repeat (first | exact trivial | refine ⟨fun _ h => h, ?_⟩))⟩ | (refine WopG.yes rfl rfl rfl rfl ?_; first | refine Wop.pure TT rfl ⟨Below.refl _ _, rfl, (by repeat (first | exact trivial | refine ⟨fun _ h => h, ?_⟩))⟩ | refine Wop.ldB TT rfl rfl (by first | assumption | exact Blk.ext (by assumption) hG) rfl ⟨Below.refl _ _, rfl, (by repeat (first | exact trivial | refine ⟨fun _ h => h, ?_⟩))⟩ | refine Wop.ld TT rfl rfl (by first | assumption | exact Ext.cell hG (by assumption)) ⟨Below.refl _ _, rfl, (by repeat (first | exact trivial | refine ⟨fun _ h => h, ?_⟩))⟩ | refine Wop.ldA TT rfl rfl rfl (by first | assumption | exact Blk.ext (by assumption) hG) ⟨Below.refl _ _, rfl, (by repeat (first | exact trivial | refine ⟨fun _ h => h, ?_⟩))⟩ | refine Wop.ldR TT rfl rfl rfl (by first | assumption | exact cells_ext hG (by assumption)) ⟨Below.refl _ _, rfl, (by repeat (first | exact trivial | refine ⟨fun _ h => h, ?_⟩))⟩ | refine Wop.ix TT rfl rfl rfl rfl rfl (by first | assumption | omega) ⟨Below.refl _ _, rfl, (by repeat (first | exact trivial | refine ⟨fun _ h => h, ?_⟩))⟩ | refine Wop.inc rfl rfl (by omega) ⟨Below.refl _ _, rfl, (by repeat (first | exact trivial | refine ⟨fun _ h => h, ?_⟩))⟩ | refine Wop.add rfl rfl ⟨by omega, by omega⟩ ⟨Below.refl _ _, rfl, (by repeat (first | exact trivial | refine ⟨fun _ h => h, ?_⟩))⟩ | refine Wop.sub rfl rfl ⟨by omega, by omega⟩ ⟨Below.refl _ _, rfl, (by repeat (first | exact trivial | refine ⟨fun _ h => h, ?_⟩))⟩))) : p := h
/-- The slots hold those of a list. -/
theorem has {σ τ : Sl} (h : Has σ τ := by repeat (first | exact Has.nil | refine Has.cons rfl ?_)) : Has σ τ := h
end Go.Proofs.Ytbadjlhijbkbbaa.Sx
