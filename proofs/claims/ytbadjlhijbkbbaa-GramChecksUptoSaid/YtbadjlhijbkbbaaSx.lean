/-
  The base of this seat's proofs: a symbolic walk over slots. Nothing of the program is in it: P is any program.
-/
import Derived.Orders
import Derived.Below
import Derived.Tactics
import Derived.WalkKit
import Derived.KernelRfl
set_option linter.unusedVariables false
namespace Go.Proofs.Ytbadjlhijbkbbaa.Sx
open Go Go.RowKit

/-! ### 1. Slots -/
abbrev Sl := List (Nat × Value)
def look (σ : Sl) : Operand → Option Value
  | .tmp t => σ.lookup t
  | .const v => some v
  | .global g => some (.pointer (some ⟨g, 0, none⟩))
  | .func f => some (.func (.func f) #[] #[])

/-- What is known of a frame. -/
structure St (N : Nat) (σ : Sl) (a : Act) : Prop where
  size : a.tmps.size = N
  defers : a.defers = []
  get : ∀ t v, σ.lookup t = some v → a.tmps.getD t undef = v

def upd (σ : Sl) : Option Tmp → Value → Sl
  | some d, v => (d, v) :: σ
  | none, _ => σ
def fits (N : Nat) : Option Tmp → Bool
  | some d => Nat.blt d N
  | none => true

theorem St.eval {N : Nat} {σ : Sl} {a : Act} (h : St N σ a) {x : Operand} {v : Value} (hx : look σ x = some v) : a.eval x = v := by
  cases x with
  | tmp t => exact h.get t v hx
  | const c => exact Option.some.inj hx
  | global g => exact Option.some.inj hx
  | func f => exact Option.some.inj hx

theorem St.put {N : Nat} {σ : Sl} {a : Act} (h : St N σ a) (d : Option Tmp) (v : Value) (hd : fits N d = true) : St N (upd σ d v) (a.put d v) := by
  cases d with
  | none => exact h
  | some d =>
    have hlt : d < N := by simpa [fits] using hd
    refine ⟨by simp [Act.put, h.size], h.defers, fun t u hu => ?_⟩
    by_cases e : t = d
    · subst e
      have : some v = some u := by simpa [upd] using hu
      injection this with this
      subst this
      simp [Act.put, Array.getD_eq_getD_getElem?, h.size, hlt]
    · have hu' : σ.lookup t = some u := by
        have hb : (t == d) = false := by simpa using e
        simpa [upd, List.lookup, hb] using hu
      have := h.get t u hu'
      rw [← this]
      simp only [Act.put, Array.getD_eq_getD_getElem?]
      rw [Array.getElem?_setIfInBounds_ne (Ne.symm e)]

theorem St.weaken {N : Nat} {σ τ : Sl} {a : Act} (h : St N σ a) (hs : ∀ t v, τ.lookup t = some v → σ.lookup t = some v) : St N τ a :=
  ⟨h.size, h.defers, fun t v hv => h.get t v (hs t v hv)⟩

theorem St.nil {N : Nat} {a : Act} {σ : Sl} (h : St N σ a) : St N [] a := h.weaken (by simp)
theorem St.cons {N : Nat} {a : Act} {σ : Sl} (h : St N σ a) {t : Nat} {v : Value} (hv : a.tmps.getD t undef = v) : St N ((t, v) :: σ) a :=
  ⟨h.size, h.defers, fun u x hx => by
    by_cases e : u = t
    · subst e
      have : some v = some x := by simpa using hx
      injection this with this
      subst this
      exact hv
    · have hb : (u == t) = false := by simpa using e
      exact h.get u x (by simpa [List.lookup, hb] using hx)⟩
/-- Of the slots, those of a list. -/
theorem St.only {N : Nat} {a : Act} {σ : Sl} (h : St N σ a) : ∀ (τ : Sl), (∀ p ∈ τ, σ.lookup p.1 = some p.2) → St N τ a
  | [], _ => h.nil
  | (t, v) :: τ, hs => (St.only h τ (fun p hp => hs p (List.mem_cons_of_mem _ hp))).cons (h.get t v (hs (t, v) List.mem_cons_self))

/-! ### 2. One operation -/
section
variable {P : Program} {Q : Exit → Act → World → Prop} {N : Nat}

/-- The operation o comes, from slots σ and the world w, to a value and a world of which K is so. -/
structure Wop (P : Program) (Q : Exit → Act → World → Prop) (N : Nat) (o : Oper) (σ : Sl) (w : World) (K : Value → World → Prop) : Prop where
  out : ∀ a, St N σ a → ∀ next : Act → World → Prop, (∀ v w', K v w' → next (a.put o.dst v) w') → o.wp P a w next Q

theorem Wop.mono {o : Oper} {σ : Sl} {w : World} {K K' : Value → World → Prop} (h : Wop P Q N o σ w K) (hk : ∀ v w', K v w' → K' v w') : Wop P Q N o σ w K' :=
  ⟨fun a ha next hn => h.out a ha next fun v w' hv => hn v w' (hk v w' hv)⟩

theorem Wop.val {o : Oper} {σ : Sl} {w w' : World} {v : Value} {K : Value → World → Prop}
    (h : ∀ ρ : Operand → Value, (∀ x u, look σ x = some u → ρ x = u) → (execOp ρ o).run P w = .ok (.value v) w') (hk : K v w') : Wop P Q N o σ w K := by
  refine ⟨fun a ha next hn => ?_⟩
  unfold Oper.wp
  rw [h a.eval fun x u hx => ha.eval hx]
  exact hn v w' hk
theorem Wop.skip {o : Oper} {σ : Sl} {w w' : World} {K : Value → World → Prop}
    (h : ∀ ρ : Operand → Value, (∀ x u, look σ x = some u → ρ x = u) → (execOp ρ o).run P w = .ok .skip w') (hk : K undef w') : Wop P Q N o σ w K := by
  refine ⟨fun a ha next hn => ?_⟩
  unfold Oper.wp
  rw [h a.eval fun x u hx => ha.eval hx]
  exact hn undef w' hk

/-- What a contract says of a call that returns. -/
def Ret (Φ : Value → World → Prop) : Ending → World → Prop := fun e w' => ∃ v, e = .returned v ∧ Φ v w'

theorem Wop.enter {o : Oper} {σ : Sl} {w : World} {f : FuncId} {args : Array Value} {Φ K : Value → World → Prop}
    (h : ∀ ρ : Operand → Value, (∀ x u, look σ x = some u → ρ x = u) → (execOp ρ o).run P w = .ok (.enter f args) w)
    (hc : Calls P f args w (Ret Φ)) (hk : ∀ v w', Φ v w' → K v w') : Wop P Q N o σ w K := by
  refine ⟨fun a ha next hn => ?_⟩
  unfold Oper.wp
  rw [h a.eval fun x u hx => ha.eval hx]
  refine Calls.mono hc fun e w' he => ?_
  obtain ⟨v, rfl, hv⟩ := he
  exact hn v w' (hk v w' hv)

/-! ### 3. A region in the text's order -/
structure Wl (P : Program) (Q : Exit → Act → World → Prop) (N : Nat) (ops : Array Oper) (rest : List Oper) (σ : Sl) (w : World) : Prop where
  out : ∀ a, St N σ a → wpList P ops Q rest a w

variable {ops : Array Oper} {rest : List Oper}


theorem Wl.cons {o : Oper} {σ : Sl} {w : World} (hg : o.guard = none) (hd : fits N o.dst = true)
    (h : Wop P Q N o σ w (fun v w' => Wl P Q N ops rest (upd σ o.dst v) w')) : Wl P Q N ops (o :: rest) σ w := by
  refine ⟨fun a ha => ?_⟩
  unfold wpList
  rw [if_pos (by simp [Region.wanted, hg])]
  exact .inl (h.out a ha _ fun v w' hv => hv.out _ (ha.put o.dst v hd))

theorem Wl.step {d : Tmp} {op : Op} {ty : TypeId} {ps : String} {af : Array Edge} {σ : Sl} {w : World} (hd : Nat.blt d N = true)
    (h : Wop P Q N ⟨some d, op, ty, ps, af, none⟩ σ w (fun v w' => Wl P Q N ops rest ((d, v) :: σ) w')) : Wl P Q N ops (⟨some d, op, ty, ps, af, none⟩ :: rest) σ w := Wl.cons rfl hd h
theorem Wl.act {op : Op} {ty : TypeId} {ps : String} {af : Array Edge} {σ : Sl} {w : World}
    (h : Wop P Q N ⟨none, op, ty, ps, af, none⟩ σ w (fun _ w' => Wl P Q N ops rest σ w')) : Wl P Q N ops (⟨none, op, ty, ps, af, none⟩ :: rest) σ w := Wl.cons rfl rfl h

theorem yielded_of {a : Act} {σ : Sl} (ha : St N σ a) {j : Nat} {t : Tmp} {b : Bool} (hd : (ops[j]?).bind (·.dst) = some t) (ht : t < N) (hl : σ.lookup t = some (.bool b)) :
    yielded ops a.tmps j = some b := by
  have hg := ha.get t _ hl
  have hlt : t < a.tmps.size := by rw [ha.size]; exact ht
  unfold yielded
  rw [hd]
  simp only [Option.bind_some, Array.getElem?_eq_getElem hlt]
  rw [Array.getD_eq_getD_getElem?, Array.getElem?_eq_getElem hlt, Option.getD_some] at hg
  rw [hg]

theorem Wl.yes {o : Oper} {σ : Sl} {w : World} {j : Nat} {t : Tmp} {b : Bool} (hg : o.guard = some (j, b)) (hj : (ops[j]?).bind (·.dst) = some t) (ht : Nat.blt t N = true) (hl : σ.lookup t = some (.bool b))
    (hd : fits N o.dst = true) (h : Wop P Q N o σ w (fun v w' => Wl P Q N ops rest (upd σ o.dst v) w')) : Wl P Q N ops (o :: rest) σ w := by
  refine ⟨fun a ha => ?_⟩
  unfold wpList
  rw [if_pos (by simp [Region.wanted, hg, yielded_of ha hj (by simpa using ht) hl])]
  exact .inl (h.out a ha _ fun v w' hv => hv.out _ (ha.put o.dst v hd))
theorem Wl.no {o : Oper} {σ : Sl} {w : World} {j : Nat} {t : Tmp} {b c : Bool} (hg : o.guard = some (j, b)) (hj : (ops[j]?).bind (·.dst) = some t) (ht : Nat.blt t N = true) (hl : σ.lookup t = some (.bool c)) (hbc : (c == b) = false)
    (hd : fits N o.dst = true) (h : Wl P Q N ops rest (upd σ o.dst undef) w) : Wl P Q N ops (o :: rest) σ w := by
  refine ⟨fun a ha => ?_⟩
  unfold wpList
  have hne : ¬ c = b := by simpa using hbc
  rw [if_neg (by simp [Region.wanted, hg, yielded_of ha hj (by simpa using ht) hl, hne])]
  exact h.out _ (ha.put o.dst undef hd)

theorem Wl.stepY {d : Tmp} {op : Op} {ty : TypeId} {ps : String} {af : Array Edge} {j : Nat} {b : Bool} {σ : Sl} {w : World} {t : Tmp} (hj : (ops[j]?).bind (·.dst) = some t) (ht : Nat.blt t N = true) (hl : σ.lookup t = some (.bool b)) (hd : Nat.blt d N = true)
    (h : Wop P Q N ⟨some d, op, ty, ps, af, some (j, b)⟩ σ w (fun v w' => Wl P Q N ops rest ((d, v) :: σ) w')) : Wl P Q N ops (⟨some d, op, ty, ps, af, some (j, b)⟩ :: rest) σ w := Wl.yes rfl hj ht hl hd h
theorem Wl.stepN {d : Tmp} {op : Op} {ty : TypeId} {ps : String} {af : Array Edge} {j : Nat} {b c : Bool} {σ : Sl} {w : World} {t : Tmp} (hj : (ops[j]?).bind (·.dst) = some t) (ht : Nat.blt t N = true) (hl : σ.lookup t = some (.bool c)) (hbc : (c == b) = false) (hd : Nat.blt d N = true)
    (h : Wl P Q N ops rest ((d, undef) :: σ) w) : Wl P Q N ops (⟨some d, op, ty, ps, af, some (j, b)⟩ :: rest) σ w := Wl.no rfl hj ht hl hbc hd h

/-- Its guard was itself left out. -/
theorem Wl.stepU {d : Tmp} {op : Op} {ty : TypeId} {ps : String} {af : Array Edge} {j : Nat} {b : Bool} {σ : Sl} {w : World} {t : Tmp} (hj : (ops[j]?).bind (·.dst) = some t) (ht : Nat.blt t N = true) (hl : σ.lookup t = some undef) (hd : Nat.blt d N = true)
    (h : Wl P Q N ops rest ((d, undef) :: σ) w) : Wl P Q N ops (⟨some d, op, ty, ps, af, some (j, b)⟩ :: rest) σ w := by
  refine ⟨fun a ha => ?_⟩
  unfold wpList
  have hg := ha.get t _ hl
  have hy : yielded ops a.tmps j = none := by
    have hlt : t < a.tmps.size := by rw [ha.size]; simpa using ht
    unfold yielded
    rw [hj]
    simp only [Option.bind_some, Array.getElem?_eq_getElem hlt]
    rw [Array.getD_eq_getD_getElem?, Array.getElem?_eq_getElem hlt, Option.getD_some] at hg
    rw [hg]
    rfl
  rw [if_neg (by simp [Region.wanted, hy])]
  exact h.out _ (ha.put (some d) undef hd)

/-! ### 4. Code -/
structure W (P : Program) (Q : Exit → Act → World → Prop) (N : Nat) (c : Code) (σ : Sl) (w : World) : Prop where
  out : ∀ a, St N σ a → c.wp P Q a w
/-- An end is come to. -/
structure Arr (Q : Exit → Act → World → Prop) (N : Nat) (e : Exit) (σ : Sl) (w : World) : Prop where
  out : ∀ a, St N σ a → Q e a w

variable {σ : Sl} {w : World}
theorem W.seq {x y : Code} (h : W P (Exit.then (fun a w => y.wp P Q a w) Q) N x σ w) : W P Q N (.seq x y) σ w := ⟨fun a ha => wp_seq (h.out a ha)⟩
theorem W.skip (h : Arr Q N .normal σ w) : W P Q N .skip σ w := ⟨fun a ha => wp_skip (h.out a ha)⟩
theorem W.ret (h : Arr Q N .ret σ w) : W P Q N .ret σ w := ⟨fun a ha => wp_ret (h.out a ha)⟩
theorem W.exit {id : Nat} (h : Arr Q N (.exit id) σ w) : W P Q N (.exit id) σ w := ⟨fun a ha => wp_exit (h.out a ha)⟩
theorem W.block {id : Nat} {c : Code} (h : W P (Exit.inBlock id Q) N c σ w) : W P Q N (.block id c) σ w := ⟨fun a ha => wp_block (h.out a ha)⟩
theorem W.yes {c : Operand} {x y : Code} (hc : look σ c = some (.bool true)) (h : W P Q N x σ w) : W P Q N (.cond c x y) σ w := ⟨fun a ha => wp_cond_true (ha.eval hc) (h.out a ha)⟩
theorem W.no {c : Operand} {x y : Code} (hc : look σ c = some (.bool false)) (h : W P Q N y σ w) : W P Q N (.cond c x y) σ w := ⟨fun a ha => wp_cond_false (ha.eval hc) (h.out a ha)⟩
theorem W.cond {c : Operand} {x y : Code} {t : Bool} (hc : look σ c = some (.bool t)) (h1 : t = true → W P Q N x σ w) (h2 : t = false → W P Q N y σ w) : W P Q N (.cond c x y) σ w := by
  cases t
  · exact W.no hc (h2 rfl)
  · exact W.yes hc (h1 rfl)
/-- A test of a number's kind: both ways. -/
theorem W.test {c : Operand} {x y : Code} {p : Prop} [Decidable p] (hc : look σ c = some (.bool (decide p))) (h1 : p → W P Q N x σ w) (h2 : ¬ p → W P Q N y σ w) : W P Q N (.cond c x y) σ w :=
  W.cond hc (fun h => h1 (of_decide_eq_true h)) (fun h => h2 (of_decide_eq_false h))
theorem W.region {id : Nat} {l : List Oper} (h : Wl P Q N l.toArray l σ w) : W P Q N (.region id l.toArray false) σ w := ⟨fun a ha => wp_region_lit (h.out a ha)⟩

theorem Arr.next {y : Code} (h : W P Q N y σ w) : Arr (Exit.then (fun a w => y.wp P Q a w) Q) N .normal σ w := ⟨h.out⟩
theorem Arr.then_ret {K : Act → World → Prop} (h : Arr Q N .ret σ w) : Arr (Exit.then K Q) N .ret σ w := ⟨h.out⟩
theorem Arr.then_exit {K : Act → World → Prop} {id : Nat} (h : Arr Q N (.exit id) σ w) : Arr (Exit.then K Q) N (.exit id) σ w := ⟨h.out⟩
theorem Arr.block_ret {id : Nat} (h : Arr Q N .ret σ w) : Arr (Exit.inBlock id Q) N .ret σ w := ⟨h.out⟩
theorem Arr.block_normal {id : Nat} (h : Arr Q N .normal σ w) : Arr (Exit.inBlock id Q) N .normal σ w := ⟨h.out⟩
theorem Arr.block_exit {id : Nat} (h : Arr Q N .normal σ w) : Arr (Exit.inBlock id Q) N (.exit id) σ w := ⟨fun a ha => by
  show (if id = id then Q .normal a w else Q (.exit id) a w)
  rw [if_pos rfl]; exact h.out a ha⟩
theorem Arr.block_other {id id' : Nat} (hne : (id' == id) = false) (h : Arr Q N (.exit id') σ w) : Arr (Exit.inBlock id Q) N (.exit id') σ w := ⟨fun a ha => by
  show (if id' = id then Q .normal a w else Q (.exit id') a w)
  rw [if_neg (by simpa using hne)]; exact h.out a ha⟩
theorem Wl.done (h : Arr Q N .normal σ w) : Wl P Q N ops [] σ w := ⟨h.out⟩

/-- The slots σ hold (at least) τ. -/
def Has (σ τ : Sl) : Prop := ∀ p ∈ τ, σ.lookup p.1 = some p.2
theorem Has.nil {σ : Sl} : Has σ [] := fun _ h => by cases h
theorem Has.cons {σ τ : Sl} {t : Nat} {v : Value} (h : σ.lookup t = some v) (r : Has σ τ) : Has σ ((t, v) :: τ) := by
  intro p hp
  rcases List.mem_cons.1 hp with rfl | hp
  · exact h
  · exact r p hp
theorem Has.st {σ τ : Sl} (h : Has σ τ) : ∀ a, St N σ a → St N τ a := fun _ ha => ha.only τ h

/-- A loop: at each round's head the slots hold τ i, and I i is so of the world; m goes down. -/
theorem W.loop {c : Code} {ι : Type} (τ : ι → Sl) (I : ι → World → Prop) (m : ι → Nat) (i0 : ι) (hτ : Has σ (τ i0)) (h0 : I i0 w)
    (round : ∀ i w, I i w → W P (Exit.then (fun a w' => ∃ i', St N (τ i') a ∧ I i' w' ∧ m i' < m i) Q) N c (τ i) w) : W P Q N (.loop c) σ w := by
  refine ⟨fun a ha b k cs => ?_⟩
  have key : ∀ n i a w, m i = n → St N (τ i) a → I i w →
      ∃ e a' w', Q e a' w' ∧ Arrives P (lone (b.at a (.code c :: .inLoop c :: k)) cs w) b k cs e a' w' := by
    intro n
    induction n using Nat.strongRecOn with
    | _ n ih =>
      intro i a w hn ha hI
      obtain ⟨e, a₁, w₁, hq, harr⟩ := (round i w hI).out a ha b (.inLoop c :: k) cs
      cases e with
      | normal =>
        obtain ⟨i', hs, hI', hlt⟩ := hq
        obtain ⟨e₂, a₂, w₂, hq₂, harr₂⟩ := ih (m i') (hn ▸ hlt) i' a₁ w₁ rfl hs hI'
        exact ⟨e₂, a₂, w₂, hq₂, .of_steps (Steps.trans harr (.one step_inLoop)) harr₂⟩
      | exit id => exact ⟨_, a₁, w₁, hq, .pass (x := .inLoop c) rfl (fun _ _ => .inl (by simp)) harr⟩
      | goto l => exact ⟨_, a₁, w₁, hq, .pass (x := .inLoop c) rfl (fun _ _ => .inl (by simp)) harr⟩
      | ret => exact ⟨_, a₁, w₁, hq, .pass (x := .inLoop c) rfl (fun _ _ => .inl (by simp)) harr⟩
      | panic ch => exact ⟨_, a₁, w₁, hq, .pass (x := .inLoop c) rfl (fun _ _ => .inl (by simp)) harr⟩
      | outgrown => exact ⟨_, a₁, w₁, hq, .pass (x := .inLoop c) rfl (fun _ _ => .inl (by simp)) harr⟩
  obtain ⟨e, a', w', hq, harr⟩ := key _ i0 a w rfl (hτ.st a ha) h0
  exact ⟨e, a', w', hq, .of_steps (.one step_loop) harr⟩

theorem Arr.again {ι : Type} {τ : ι → Sl} {I : ι → World → Prop} {m : ι → Nat} {i : ι} (i' : ι) (hτ : Has σ (τ i')) (hI : I i' w) (hm : m i' < m i) :
    Arr (Exit.then (fun a w' => ∃ i', St N (τ i') a ∧ I i' w' ∧ m i' < m i) Q) N .normal σ w := ⟨fun a ha => ⟨i', hτ.st a ha, hI, hm⟩⟩

/-- Fewer slots, under other names. -/
theorem W.only {c : Code} (τ : Sl) (hτ : Has σ τ) (h : W P Q N c τ w) : W P Q N c σ w := ⟨fun a ha => h.out a (hτ.st a ha)⟩

/-! ### 5. A function's begin and end -/
def argSl : Nat → List Value → Sl
  | _, [] => []
  | i, v :: r => (i, v) :: argSl (i + 1) r
theorem argSl_look : ∀ (l : List Value) (i t : Nat) (v : Value), (argSl i l).lookup t = some v → i ≤ t ∧ l[t - i]? = some v
  | [], _, _, _, h => by simp [argSl] at h
  | x :: l, i, t, v, h => by
    by_cases e : t = i
    · subst e
      simp [argSl] at h
      simp [h]
    · have hb : (t == i) = false := by simpa using e
      have h' : (argSl (i + 1) l).lookup t = some v := by simpa [argSl, List.lookup, hb] using h
      obtain ⟨h1, h2⟩ := argSl_look l (i + 1) t v h'
      refine ⟨by omega, ?_⟩
      have : t - i = (t - (i + 1)) + 1 := by omega
      rw [this, List.getElem?_cons_succ]
      exact h2

theorem enter {f : FuncId} {fn : Func} {c : Code} {l : List Value} {w : World} {R : Ending → World → Prop} (hf : P.funcs[f]? = some fn) (hb : fn.body = some c) (hn : fn.ntmps = N) (hl : Nat.ble l.length N = true)
    (h : W P (bodyPost P fn R) N c (argSl 0 l) w) : Calls P f l.toArray w R := by
  refine calls_of_wp hf hb (h.out _ ⟨?_, rfl, fun t v hv => ?_⟩)
  · have hl' : l.length ≤ N := by simpa using hl
    simp only [Array.size_append, List.size_toArray, Array.size_replicate, hn]
    omega
  · obtain ⟨_, h2⟩ := argSl_look l 0 t v hv
    simp only [Nat.sub_zero] at h2
    have hlt : t < l.length := (List.getElem?_eq_some_iff.1 h2).1
    rw [Array.getD_eq_getD_getElem?, Array.getElem?_append_left (by simpa using hlt)]
    simp [h2]

section
variable {fn : Func} {Φ : Value → World → Prop}
theorem Arr.ret1 {t : Tmp} {v : Value} (hr : fn.results = #[.tmp t]) (hl : σ.lookup t = some v) (hp : Φ v w) : Arr (bodyPost P fn (Ret Φ)) N .ret σ w := by
  refine ⟨fun a ha => ?_⟩
  refine ⟨ha.defers, v, ?_, v, rfl, hp⟩
  rw [results_tmp hr, ha.get t v hl]
theorem Arr.ret2 {t u : Tmp} {v v' : Value} (hr : fn.results = #[.tmp t, .tmp u]) (hl : σ.lookup t = some v) (hl' : σ.lookup u = some v') (hp : Φ (.tuple #[v, v']) w) : Arr (bodyPost P fn (Ret Φ)) N .ret σ w := by
  refine ⟨fun a ha => ?_⟩
  refine ⟨ha.defers, _, ?_, _, rfl, hp⟩
  rw [results_tmp2 hr, ha.get t v hl, ha.get u v' hl']
end
end

/-! ### 6. Worlds -/
/-- What lay in w lies in w' as it lay. -/
def Ext (w w' : World) : Prop := Below w.heap.size w w'
theorem Ext.refl (w : World) : Ext w w := Below.refl _ _
theorem Ext.trans {a b c : World} (h : Ext a b) (k : Ext b c) : Ext a c := Below.trans h (Below.mono k h.size)
theorem Ext.size {a b : World} (h : Ext a b) : a.heap.size ≤ b.heap.size := Below.size h
theorem Ext.block {a b : World} (h : Ext a b) {k : Nat} (hk : k < a.heap.size) : b.heap[k]? = a.heap[k]? := Below.block h k hk
theorem Ext.drew (w : World) : Ext w w.drew := (Below.refl _ _).drew
theorem Ext.alloc (w : World) (o : Obj) : Ext w (w.alloc o) := (Below.refl _ _).alloc (Nat.le_refl _) o

/-- A block of plain cells. -/
def Blk (w : World) (b : Nat) (cs : Array Value) (t : TypeId) : Prop := w.heap[b]? = some (.cells cs t (0, 0))
theorem lt_of_block {w : World} {b : Nat} {o : Obj} (h : w.heap[b]? = some o) : b < w.heap.size := (Array.getElem?_eq_some_iff.1 h).1
theorem Blk.lt {w : World} {b : Nat} {cs : Array Value} {t : TypeId} (h : Blk w b cs t) : b < w.heap.size := lt_of_block h
theorem Blk.ext {w w' : World} {b : Nat} {cs : Array Value} {t : TypeId} (h : Blk w b cs t) (e : Ext w w') : Blk w' b cs t := (e.block h.lt).trans h
theorem Blk.alloc (w : World) (cs : Array Value) (t : TypeId) : Blk (w.alloc (.cells cs t)) w.heap.size cs t := heap_alloc_new w _
theorem Blk.cell {w : World} {b : Nat} {cs : Array Value} {t : TypeId} (h : Blk w b cs t) {i : Nat} {v : Value} (hi : cs[i]? = some v) : w.cell? ⟨b, i, none⟩ = some v := by
  have h' : w.heap[b]? = some (.cells cs t (0, 0)) := h
  simp [World.cell?, h', hi]
theorem Blk.frozen {w : World} {b : Nat} {cs : Array Value} {t : TypeId} (h : Blk w b cs t) (i : Nat) : w.frozen? ⟨b, i, none⟩ = false := by
  have h' : w.heap[b]? = some (.cells cs t (0, 0)) := h
  simp [World.frozen?, h']
theorem Blk.set {w : World} {b : Nat} {cs : Array Value} {t : TypeId} (h : Blk w b cs t) (i : Nat) (v : Value) : Blk (w.setCell ⟨b, i, none⟩ v) b (cs.setIfInBounds i v) t := by
  have h' : w.heap[b]? = some (.cells cs t (0, 0)) := h
  have hb := h.lt
  unfold Blk World.setCell
  simp only [Array.getElem?_modify, if_true, h', Option.map_some, Option.isSome_none]
  rfl
theorem Ext.cell {w w' : World} (e : Ext w w') {a : Addr} {v : Value} (h : w.cell? a = some v) : w'.cell? a = some v :=
  (Below.cell e (World.block_lt_of_cell? w a h)).trans h

end Go.Proofs.Ytbadjlhijbkbbaa.Sx
