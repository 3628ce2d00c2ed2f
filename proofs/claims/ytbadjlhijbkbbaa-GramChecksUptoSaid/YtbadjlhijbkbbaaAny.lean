/-
  A region whose order Go leaves open: each operation by itself, from what those before it have left, whatever else has gone on meanwhile.
-/
import Derived.Test.YtbadjlhijbkbbaaDat
set_option linter.unusedVariables false
namespace Go.Proofs.Ytbadjlhijbkbbaa.Sx
open Go Go.RowKit

/-- What is so of a slot's value, and stays so while the world goes on by G. -/
structure Fact (G : World → World → Prop) where
  p : Value → World → Prop
  st : ∀ {v : Value} {w w' : World}, G w w' → p v w → p v w'
def Fact.eq {G : World → World → Prop} (x : Value) : Fact G := ⟨fun v _ => v = x, fun _ h => h⟩
def Fact.any {G : World → World → Prop} : Fact G := ⟨fun _ _ => True, fun _ h => h⟩
def Fact.pure {G : World → World → Prop} (p : Value → Prop) : Fact G := ⟨fun v _ => p v, fun _ h => h⟩

def isDst (o : Oper) (t : Nat) : Bool := match o.dst with
  | some d => Nat.beq d t
  | none => false
def behindL : List Edge → Nat → Bool
  | [], _ => false
  | e :: r, i => (Region.binds .any e && Nat.beq e.on i) || behindL r i
def stays : List Oper → Nat → Nat → Bool
  | [], _, _ => true
  | o :: r, i, t => (!isDst o t || behindL o.after.toList i) && stays r i t
def keepAt (ops : List Oper) (i : Nat) : Sl → Sl
  | [] => []
  | (t, v) :: σ => match stays ops i t with
    | true => (t, v) :: keepAt ops i σ
    | false => keepAt ops i σ
def undst : List Oper → Nat → Bool
  | [], _ => true
  | o :: r, t => !isDst o t && undst r t
def keepEnd (ops : List Oper) : Sl → Sl
  | [] => []
  | (t, v) :: σ => match undst ops t with
    | true => (t, v) :: keepEnd ops σ
    | false => keepEnd ops σ
def dataE : Ground → Bool
  | .data => true
  | .guard => true
  | _ => false
def hasN : List Nat → Nat → Bool
  | [], _ => false
  | x :: r, n => Nat.beq x n || hasN r n
def ndepsL : List Edge → List Nat → List Nat
  | [], acc => acc.reverse
  | e :: r, acc => match dataE e.ground && !hasN acc e.on with
    | true => ndepsL r (e.on :: acc)
    | false => ndepsL r acc
/-- By data or guard: the operations that an operation leans on. -/
def ndeps (o : Oper) : List Nat := ndepsL o.after.toList []
def nth {α : Type} : List α → Nat → Option α
  | [], _ => none
  | x :: _, 0 => some x
  | _ :: r, n + 1 => nth r n
theorem nth_eq {α : Type} : ∀ (l : List α) (n : Nat), nth l n = l[n]?
  | [], _ => by simp [nth]
  | _ :: _, 0 => by simp [nth]
  | _ :: r, n + 1 => by simp [nth, nth_eq r n]
def factAt {G : World → World → Prop} (F : List (Fact G)) (i : Nat) : Fact G := match nth F i with
  | some f => f
  | none => Fact.any
def dstOf (ops : List Oper) (j : Nat) : Option Nat := match nth ops j with
  | some o => o.dst
  | none => none
def Given {G : World → World → Prop} (F : List (Fact G)) (ops : List Oper) (w : World) (C : Sl → Prop) : List Nat → Sl → Prop
  | [], τ => C τ
  | j :: js, τ => match dstOf ops j with
    | some d => ∀ v, (factAt F j).p v w → Given F ops w C js ((d, v) :: τ)
    | none => Given F ops w C js τ

section
variable {P : Program} {Q : Exit → Act → World → Prop} {N : Nat}
/-- As 'Wop', for an operation that may have a guard. -/
structure WopG (P : Program) (Q : Exit → Act → World → Prop) (N : Nat) (ops : List Oper) (o : Oper) (σ : Sl) (w : World) (K : Value → World → Prop) : Prop where
  out : ∀ a, St N σ a → ∀ next : Act → World → Prop, (∀ v w', K v w' → next (a.put o.dst v) w') → if Region.wanted o (yielded ops.toArray a.tmps) = true then o.wp P a w next Q else next (a.put o.dst undef) w
theorem WopG.plain {ops : List Oper} {o : Oper} {σ : Sl} {w : World} {K : Value → World → Prop} (hg : o.guard = none) (h : Wop P Q N o σ w K) : WopG P Q N ops o σ w K :=
  ⟨fun a ha next hn => by rw [if_pos (by simp [Region.wanted, hg])]; exact h.out a ha next hn⟩
theorem yieldedL {ops : List Oper} {a : Act} {σ : Sl} (ha : St N σ a) {j : Nat} {t : Tmp} {b : Bool} (hd : dstOf ops j = some t) (ht : Nat.blt t N = true) (hl : σ.lookup t = some (.bool b)) : yielded ops.toArray a.tmps j = some b := by
  refine yielded_of ha (t := t) ?_ (by simpa using ht) hl
  unfold dstOf at hd
  rw [nth_eq] at hd
  rw [List.getElem?_toArray]
  cases h : ops[j]? with
  | none => rw [h] at hd; cases hd
  | some o => rw [h] at hd; exact hd
theorem WopG.yes {ops : List Oper} {o : Oper} {σ : Sl} {w : World} {K : Value → World → Prop} {j : Nat} {t : Tmp} {b : Bool} (hg : o.guard = some (j, b)) (hj : dstOf ops j = some t) (ht : Nat.blt t N = true) (hl : σ.lookup t = some (.bool b))
    (h : Wop P Q N o σ w K) : WopG P Q N ops o σ w K :=
  ⟨fun a ha next hn => by rw [if_pos (by simp [Region.wanted, hg, yieldedL ha hj ht hl])]; exact h.out a ha next hn⟩
theorem WopG.no {ops : List Oper} {o : Oper} {σ : Sl} {w : World} {K : Value → World → Prop} {j : Nat} {t : Tmp} {b c : Bool} (hg : o.guard = some (j, b)) (hj : dstOf ops j = some t) (ht : Nat.blt t N = true) (hl : σ.lookup t = some (.bool c)) (hbc : (c == b) = false)
    (h : K undef w) : WopG P Q N ops o σ w K :=
  ⟨fun a ha next hn => by
    have hne : ¬ c = b := by simpa using hbc
    rw [if_neg (by simp [Region.wanted, hg, yieldedL ha hj ht hl, hne])]; exact hn _ _ h⟩

def AllObl (P : Program) (Q : Exit → Act → World → Prop) (N : Nat) (G : World → World → Prop) (F : List (Fact G)) (ops : List Oper) (σ : Sl) (w0 : World) : Nat → List Oper → Prop
  | _, [] => True
  | i, o :: r => (∀ w, G w0 w → Given F ops w (fun τ => WopG P Q N ops o τ w (fun v w' => G w w' ∧ (factAt F i).p v w')) (ndeps o) (keepAt ops i σ)) ∧ AllObl P Q N G F ops σ w0 (i + 1) r

def edgesOk : List Edge → Nat → Bool
  | [], _ => true
  | e :: r, i => (!Region.binds .any e || Nat.blt e.on i) && edgesOk r i
def okFrom (N : Nat) : List Oper → Nat → Bool
  | [], _ => true
  | o :: r, i => edgesOk o.after.toList i && (match o.dst with
    | some d => Nat.blt d N && undst r d
    | none => true) && okFrom N r (i + 1)

theorem edgesOk_spec : ∀ {l : List Edge} {i : Nat}, edgesOk l i = true → ∀ e ∈ l, Region.binds .any e = true → e.on < i
  | [], _, _, _, h, _ => by cases h
  | e' :: r, i, h, e, he, hb => by
    simp only [edgesOk, Bool.and_eq_true, Bool.or_eq_true, Bool.not_eq_true'] at h
    rcases List.mem_cons.1 he with rfl | he
    · rcases h.1 with h1 | h1
      · rw [hb] at h1; cases h1
      · simpa using h1
    · exact edgesOk_spec h.2 e he hb
theorem undst_spec : ∀ {l : List Oper} {t : Nat}, undst l t = true → ∀ o ∈ l, isDst o t = false
  | [], _, _, _, h => by cases h
  | o' :: r, t, h, o, ho => by
    simp only [undst, Bool.and_eq_true, Bool.not_eq_true'] at h
    rcases List.mem_cons.1 ho with rfl | ho
    · exact h.1
    · exact undst_spec h.2 o ho
theorem isDst_iff {o : Oper} {t : Nat} : isDst o t = true ↔ o.dst = some t := by
  unfold isDst
  cases o.dst with
  | none => simp
  | some d => simp
theorem okFrom_spec : ∀ {l : List Oper} {i : Nat}, okFrom N l i = true → ∀ j o, l[j]? = some o → (∀ e ∈ o.after.toList, Region.binds .any e = true → e.on < i + j) ∧ (∀ d, o.dst = some d → d < N) ∧
    ∀ d, o.dst = some d → ∀ k o', l[k]? = some o' → o'.dst = some d → k = j
  | [], _, _, j, o, ho => by simp at ho
  | x :: r, i, h, j, o, ho => by
    simp only [okFrom, Bool.and_eq_true] at h
    obtain ⟨⟨h1, h2⟩, h3⟩ := h
    have far : ∀ (d : Nat), x.dst = some d → ∀ (k : Nat) (o' : Oper), r[k]? = some o' → o'.dst = some d → False := by
      intro d hd k o' hk hd'
      rw [hd] at h2
      simp only [Bool.and_eq_true] at h2
      have := undst_spec h2.2 o' (List.mem_of_getElem? hk)
      rw [Bool.eq_false_iff] at this
      exact this (isDst_iff.2 hd')
    cases j with
    | zero =>
      simp at ho
      subst ho
      refine ⟨fun e he hb => by simpa using edgesOk_spec h1 e he hb, fun d hd => ?_, fun d hd k o' hk hd' => ?_⟩
      · rw [hd] at h2
        simp only [Bool.and_eq_true] at h2
        simpa using h2.1
      · cases k with
        | zero => rfl
        | succ k => exact (far d hd k o' (by simpa using hk) hd').elim
    | succ j =>
      have ho' : r[j]? = some o := by simpa using ho
      obtain ⟨g1, g2, g3⟩ := okFrom_spec h3 j o ho'
      refine ⟨fun e he hb => by have := g1 e he hb; omega, g2, fun d hd k o' hk hd' => ?_⟩
      cases k with
      | zero =>
        simp at hk
        subst hk
        exact (far d hd' j o ho' hd).elim
      | succ k => rw [g3 d hd k o' (by simpa using hk) hd']

theorem behindL_spec : ∀ {l : List Edge} {i : Nat}, behindL l i = true → ∃ e ∈ l, Region.binds .any e = true ∧ e.on = i
  | [], _, h => by simp [behindL] at h
  | e :: r, i, h => by
    simp only [behindL, Bool.or_eq_true, Bool.and_eq_true] at h
    rcases h with h | h
    · exact ⟨e, List.mem_cons_self, h.1, by simpa using h.2⟩
    · obtain ⟨e', he, h2⟩ := behindL_spec h
      exact ⟨e', List.mem_cons_of_mem _ he, h2⟩
theorem stays_spec : ∀ {l : List Oper} {i t : Nat}, stays l i t = true → ∀ o ∈ l, o.dst = some t → ∃ e ∈ o.after.toList, Region.binds .any e = true ∧ e.on = i
  | [], _, _, _, _, h, _ => by cases h
  | x :: r, i, t, h, o, ho, hd => by
    simp only [stays, Bool.and_eq_true, Bool.or_eq_true, Bool.not_eq_true'] at h
    rcases List.mem_cons.1 ho with rfl | ho
    · rcases h.1 with h1 | h1
      · rw [isDst_iff.2 hd] at h1; cases h1
      · exact behindL_spec h1
    · exact stays_spec h.2 o ho hd
theorem keepAt_spec (ops : List Oper) (i : Nat) : ∀ (σ : Sl) (t : Nat) (v : Value), (keepAt ops i σ).lookup t = some v → σ.lookup t = some v ∧ stays ops i t = true
  | [], _, _, h => by simp [keepAt] at h
  | (u, x) :: σ, t, v, h => by
    unfold keepAt at h
    by_cases e : t = u
    · subst e
      cases hs : stays ops i t with
      | true => rw [hs] at h; simp at h; subst h; exact ⟨by simp, rfl⟩
      | false =>
        rw [hs] at h
        have := (keepAt_spec ops i σ t v h).2
        rw [hs] at this; cases this
    · have hb : (t == u) = false := by simpa using e
      have h' : (keepAt ops i σ).lookup t = some v := by
        cases hs : stays ops i u with
        | true => rw [hs] at h; simpa [List.lookup, hb] using h
        | false => rw [hs] at h; exact h
      obtain ⟨h1, h2⟩ := keepAt_spec ops i σ t v h'
      exact ⟨by simpa [List.lookup, hb] using h1, h2⟩
theorem keepEnd_spec (ops : List Oper) : ∀ (σ : Sl) (t : Nat) (v : Value), (keepEnd ops σ).lookup t = some v → σ.lookup t = some v ∧ undst ops t = true
  | [], _, _, h => by simp [keepEnd] at h
  | (u, x) :: σ, t, v, h => by
    unfold keepEnd at h
    by_cases e : t = u
    · subst e
      cases hs : undst ops t with
      | true => rw [hs] at h; simp at h; subst h; exact ⟨by simp, rfl⟩
      | false =>
        rw [hs] at h
        have := (keepEnd_spec ops σ t v h).2
        rw [hs] at this; cases this
    · have hb : (t == u) = false := by simpa using e
      have h' : (keepEnd ops σ).lookup t = some v := by
        cases hs : undst ops u with
        | true => rw [hs] at h; simpa [List.lookup, hb] using h
        | false => rw [hs] at h; exact h
      obtain ⟨h1, h2⟩ := keepEnd_spec ops σ t v h'
      exact ⟨by simpa [List.lookup, hb] using h1, h2⟩
theorem ndepsL_spec : ∀ (l : List Edge) (acc : List Nat) (j : Nat), j ∈ ndepsL l acc → j ∈ acc ∨ ∃ e ∈ l, Region.binds .any e = true ∧ e.on = j
  | [], acc, j, h => .inl (by simpa [ndepsL] using h)
  | e :: r, acc, j, h => by
    unfold ndepsL at h
    cases hc : dataE e.ground && !hasN acc e.on with
    | true =>
      rw [hc] at h
      rcases ndepsL_spec r (e.on :: acc) j h with h1 | ⟨e', he, h2⟩
      · rcases List.mem_cons.1 h1 with rfl | h1
        · refine .inr ⟨e, List.mem_cons_self, ?_, rfl⟩
          simp only [Bool.and_eq_true] at hc
          obtain ⟨on, gr⟩ := e
          cases gr <;> simp [dataE] at hc <;> rfl
        · exact .inl h1
      · exact .inr ⟨e', List.mem_cons_of_mem _ he, h2⟩
    | false =>
      rw [hc] at h
      rcases ndepsL_spec r acc j h with h1 | ⟨e', he, h2⟩
      · exact .inl h1
      · exact .inr ⟨e', List.mem_cons_of_mem _ he, h2⟩
theorem ndeps_spec {o : Oper} {j : Nat} (h : j ∈ ndeps o) : ∃ e ∈ o.after.toList, Region.binds .any e = true ∧ e.on = j := by
  rcases ndepsL_spec _ _ _ h with h | h
  · cases h
  · exact h

theorem Given.use {G : World → World → Prop} {F : List (Fact G)} {ops : List Oper} {w : World} {C : Sl → Prop} {a : Act} : ∀ {l : List Nat} {τ : Sl}, Given F ops w C l τ → St N τ a →
    (∀ j ∈ l, ∀ d, dstOf ops j = some d → (factAt F j).p (a.tmps.getD d undef) w) → ∃ τ', C τ' ∧ St N τ' a
  | [], τ, h, ha, _ => ⟨τ, h, ha⟩
  | j :: js, τ, h, ha, hf => by
    unfold Given at h
    cases hd : dstOf ops j with
    | none => rw [hd] at h; exact Given.use h ha (fun k hk => hf k (List.mem_cons_of_mem _ hk))
    | some d =>
      rw [hd] at h
      exact Given.use (h _ (hf j List.mem_cons_self d hd)) (ha.cons rfl) (fun k hk => hf k (List.mem_cons_of_mem _ hk))

theorem AllObl.at_ {G : World → World → Prop} {F : List (Fact G)} {ops : List Oper} {σ : Sl} {w0 : World} : ∀ {l : List Oper} {i : Nat}, AllObl P Q N G F ops σ w0 i l → ∀ j o, l[j]? = some o →
    ∀ w, G w0 w → Given F ops w (fun τ => WopG P Q N ops o τ w (fun v w' => G w w' ∧ (factAt F (i + j)).p v w')) (ndeps o) (keepAt ops (i + j) σ)
  | [], _, _, j, o, h => by simp at h
  | x :: r, i, h, 0, o, ho => by simp at ho; subst ho; exact h.1
  | x :: r, i, h, j + 1, o, ho => by
    have := AllObl.at_ h.2 j o (by simpa using ho)
    rwa [show i + 1 + j = i + (j + 1) by omega] at this

def unl (l : Array Bool) : Nat → Nat
  | 0 => 0
  | k + 1 => unl l k + (match l.getD k true with | true => 0 | false => 1)
theorem unl_far {l : Array Bool} {i : Nat} : ∀ k, k ≤ i → unl (l.setIfInBounds i true) k = unl l k
  | 0, _ => rfl
  | k + 1, h => by
    have hne : i ≠ k := by omega
    have h1 : (l.setIfInBounds i true).getD k true = l.getD k true := getD_set_ne true hne
    show unl _ k + (match (l.setIfInBounds i true).getD k true with | true => 0 | false => 1) = unl l k + _
    rw [h1, unl_far k (by omega)]
theorem unl_set {l : Array Bool} {i : Nat} (hi : l.getD i true = false) : ∀ k, i < k → unl (l.setIfInBounds i true) k + 1 = unl l k
  | 0, h => by omega
  | k + 1, h => by
    by_cases e : i = k
    · subst e
      have hs : i < l.size := by
        rcases Nat.lt_or_ge i l.size with h | h
        · exact h
        · simp [Array.getElem?_eq_none h] at hi
      have h1 : (l.setIfInBounds i true).getD i true = true := by simp [hs]
      show unl _ i + (match (l.setIfInBounds i true).getD i true with | true => 0 | false => 1) + 1 = unl l i + (match l.getD i true with | true => 0 | false => 1)
      rw [h1, hi, unl_far i (Nat.le_refl _)]
      rfl
    · have h1 : (l.setIfInBounds i true).getD k true = l.getD k true := getD_set_ne true e
      have := unl_set hi k (by omega)
      show unl _ k + (match (l.setIfInBounds i true).getD k true with | true => 0 | false => 1) + 1 = unl l k + (match l.getD k true with | true => 0 | false => 1)
      rw [h1]
      omega
theorem unl_zero {l : Array Bool} : ∀ k, unl l k = 0 → ∀ i, i < k → l.getD i true = true
  | 0, _, i, h => by omega
  | k + 1, h0, i, h => by
    simp only [unl] at h0
    by_cases e : i = k
    · subst e
      cases hl : l.getD i true with
      | true => rfl
      | false => rw [hl] at h0; simp at h0
    · exact unl_zero k (by omega) i (by omega)

/-- THE LAW. live: the slots that the rest looks at, by their operations. -/
theorem W.any {id : Nat} {ops : List Oper} {σ : Sl} {w : World} (G : World → World → Prop) (F : List (Fact G)) (live : List Nat) (hmix : P.follows .mixedOrders = true) (hok : okFrom N ops 0 = true)
    (hrefl : ∀ w, G w w) (htrans : ∀ {a b c}, G a b → G b c → G a c) (hdraw : ∀ w, G w { w with drawn := w.drawn + 1 })
    (hobl : AllObl P Q N G F ops σ w 0 ops) (hend : ∀ w', G w w' → Given F ops w' (fun τ => Arr Q N .normal τ w') live (keepEnd ops σ)) : W P Q N (.region id ops.toArray true) σ w := by
  refine ⟨fun a ha => wp_region_any hmix ?_⟩
  have ok := okFrom_spec (N := N) hok
  have hsz : ops.toArray.size = ops.length := by simp
  have hget : ∀ j : Nat, ops.toArray[j]? = ops[j]? := fun j => List.getElem?_toArray
  have key : ∀ (fuel : Nat) (listed : Array Bool) (a : Act) (w' : World), listed.size = ops.length → unl listed ops.length ≤ fuel → a.tmps.size = N → a.defers = [] → G w w' →
      (∀ t v, σ.lookup t = some v → (∀ k o, ops[k]? = some o → o.dst = some t → listed.getD k false = false) → a.tmps.getD t undef = v) →
      (∀ j d, dstOf ops j = some d → listed.getD j false = true → (factAt F j).p (a.tmps.getD d undef) w') →
      (∀ k o, ops[k]? = some o → listed.getD k false = true → ∀ e ∈ o.after.toList, Region.binds .any e = true → listed.getD e.on false = true) → wpAny P .any ops.toArray Q fuel listed a w' := by
    intro fuel
    have gd : ∀ (l : Array Bool) (k : Nat), l.size = ops.length → k < ops.length → l.getD k false = l.getD k true := by
      intro l k hl hk
      have : k < l.size := by omega
      simp [this]
    -- at the end
    have fin : ∀ (listed : Array Bool) (a : Act) (w' : World), listed.size = ops.length → (∀ i, i < ops.length → listed.getD i true = true) → a.tmps.size = N → a.defers = [] → G w w' →
        (∀ t v, σ.lookup t = some v → (∀ k o, ops[k]? = some o → o.dst = some t → listed.getD k false = false) → a.tmps.getD t undef = v) →
        (∀ j d, dstOf ops j = some d → listed.getD j false = true → (factAt F j).p (a.tmps.getD d undef) w') → Q .normal a w' := by
      intro listed a w' hl hall h1 h2 h3 h4 h5
      have hst : St N (keepEnd ops σ) a := ⟨h1, h2, fun t v hv => by
        obtain ⟨g1, g2⟩ := keepEnd_spec ops σ t v hv
        refine h4 t v g1 (fun k o hk hd => ?_)
        have := undst_spec g2 o (List.mem_of_getElem? hk)
        rw [Bool.eq_false_iff] at this
        exact (this (isDst_iff.2 hd)).elim⟩
      have hd : ∀ j ∈ live, ∀ d, dstOf ops j = some d → (factAt F j).p (a.tmps.getD d undef) w' := by
        intro j _ d hj
        refine h5 j d hj ?_
        have hlt : j < ops.length := by
          unfold dstOf at hj
          rw [nth_eq] at hj
          cases h : ops[j]? with
          | none => rw [h] at hj; cases hj
          | some o => exact (List.getElem?_eq_some_iff.1 h).1
        rw [gd listed j hl hlt]
        exact hall j hlt
      obtain ⟨τ', hA, hs⟩ := Given.use (hend w' h3) hst hd
      exact hA.out a hs
    induction fuel with
    | zero =>
      intro listed a w' hl hu h1 h2 h3 h4 h5 h6
      have hall := unl_zero ops.length (by omega : unl listed ops.length = 0)
      refine ⟨?_, fin listed a w' hl hall h1 h2 h3 h4 h5⟩
      rw [List.eq_nil_iff_forall_not_mem]
      intro i hi
      obtain ⟨g1, o, g2, _⟩ := mem_ready.1 hi
      rw [hget] at g2
      rw [hall i (List.getElem?_eq_some_iff.1 g2).1] at g1
      cases g1
    | succ fuel ih =>
      intro listed a w' hl hu h1 h2 h3 h4 h5 h6
      refine ⟨fun hr => ?_, fun i hi => ?_⟩
      · refine fin listed a w' hl ?_ h1 h2 h3 h4 h5
        -- nothing ready: all are listed
        intro i
        induction i using Nat.strongRecOn with
        | _ i ihi =>
          intro hlt
          cases hli : listed.getD i true with
          | true => rfl
          | false =>
            have hmem : i ∈ Region.ready .any ops.toArray listed := mem_ready.2 ⟨hli, ops[i], by rw [hget]; exact List.getElem?_eq_getElem hlt, fun e he hb => by
              have h7 := (ok i ops[i] (List.getElem?_eq_getElem hlt)).1 e (by simpa using he) hb
              rw [gd listed e.on hl (by omega)]
              exact ihi e.on (by omega) (by omega)⟩
            rw [hr] at hmem
            cases hmem
      · obtain ⟨g1, o, g2, g3⟩ := mem_ready.1 hi
        rw [hget] at g2
        have hlt : i < ops.length := (List.getElem?_eq_some_iff.1 g2).1
        obtain ⟨k1, k2, k3⟩ := ok i o g2
        unfold wpOp
        rw [hget, g2]
        simp only
        have hG := hobl.at_ i o g2 w' h3
        simp only [Nat.zero_add] at hG
        have hst : St N (keepAt ops i σ) a := ⟨h1, h2, fun t v hv => by
          obtain ⟨e1, e2⟩ := keepAt_spec ops i σ t v hv
          refine h4 t v e1 (fun k o' hk hd => ?_)
          obtain ⟨e, he, hb, hon⟩ := stays_spec e2 o' (List.mem_of_getElem? hk) hd
          -- k is behind i, which is not listed
          cases hlk : listed.getD k false with
          | false => rfl
          | true =>
            have h8 := h6 k o' hk hlk e he hb
            rw [hon, gd listed i hl hlt, g1] at h8
            cases h8⟩
        have hdeps : ∀ j ∈ ndeps o, ∀ d, dstOf ops j = some d → (factAt F j).p (a.tmps.getD d undef) w' := by
          intro j hj d hd
          obtain ⟨e, he, hb, hon⟩ := ndeps_spec hj
          refine h5 j d hd ?_
          rw [← hon]
          exact g3 e (by simpa using he) hb
        obtain ⟨τ', hW, hs⟩ := Given.use hG hst hdeps
        have hout := hW.out a hs (wpAny P .any ops.toArray Q fuel (listed.setIfInBounds i true)) ?_
        · split
          · rename_i hw
            rw [if_pos hw] at hout
            exact .inl hout
          · rename_i hw
            rw [if_neg hw] at hout
            exact hout
        · rintro v w'' ⟨hg', hfact⟩
          refine ih _ _ _ (by simpa using hl) ?_ (by cases hd : o.dst <;> simp [Act.put, h1]) (by cases hd : o.dst <;> simp [Act.put, h2]) (htrans h3 hg') ?_ ?_ ?_
          · have := unl_set g1 ops.length hlt
            omega
          · intro t x ht hno
            have hno' : ∀ k o', ops[k]? = some o' → o'.dst = some t → listed.getD k false = false := by
              intro k o' hk hd
              have := hno k o' hk hd
              by_cases e : i = k
              · subst e
                rw [gd listed i hl hlt]; exact g1
              · rwa [getD_set_ne false e] at this
            have hne : o.dst ≠ some t := by
              intro hd
              have := hno i o g2 hd
              have hs' : i < listed.size := by omega
              simp [hs'] at this
            rw [← h4 t x ht hno']
            cases hd : o.dst with
            | none => rfl
            | some d =>
              have hdt : d ≠ t := fun e => hne (by rw [hd, e])
              simp only [Act.put, Array.getD_eq_getD_getElem?]
              rw [Array.getElem?_setIfInBounds_ne hdt]
          · intro j d hj hlj
            by_cases e : j = i
            · subst e
              have hd : o.dst = some d := by
                unfold dstOf at hj
                rw [nth_eq, g2] at hj
                exact hj
              have hlt' := k2 d hd
              rw [hd]
              simp only [Act.put, Array.getD_eq_getD_getElem?]
              rw [Array.getElem?_setIfInBounds_self_of_lt (by omega)]
              exact hfact
            · have hlj' : listed.getD j false = true := by rwa [getD_set_ne false (Ne.symm e)] at hlj
              have hp := (factAt F j).st hg' (h5 j d hj hlj')
              have hne : o.dst ≠ some d := by
                intro hd
                unfold dstOf at hj
                rw [nth_eq] at hj
                cases hoj : ops[j]? with
                | none => rw [hoj] at hj; cases hj
                | some oj =>
                  rw [hoj] at hj
                  exact e (k3 d hd j oj hoj hj)
              have hsame : (a.put o.dst v).tmps.getD d undef = a.tmps.getD d undef := by
                cases hd : o.dst with
                | none => rfl
                | some d' =>
                  have hdt : d' ≠ d := fun e => hne (by rw [hd, e])
                  simp only [Act.put, Array.getD_eq_getD_getElem?]
                  rw [Array.getElem?_setIfInBounds_ne hdt]
              rw [hsame]
              exact hp
          · intro k o' hk hlk e he hb
            by_cases e' : i = k
            · subst e'
              rw [g2] at hk
              cases hk
              exact getD_set_true (g3 e (by simpa using he) hb)
            · rw [getD_set_ne false e'] at hlk
              exact getD_set_true (h6 k o' hk hlk e he hb)
  have hno : ∀ j : Nat, (Array.replicate ops.toArray.size false).getD j false = true → False := by
    intro j hj
    rw [Array.getD_eq_getD_getElem?, Array.getElem?_replicate] at hj
    split at hj <;> simp at hj
  refine key _ _ a _ (by simp) ?_ ha.size ha.defers (hdraw w) (fun t v hv _ => ha.get t v hv) (fun j d _ hlj => (hno j hlj).elim) (fun k o _ hlk => (hno k hlk).elim)
  have : ∀ (l : Array Bool) k, unl l k ≤ k := by
    intro l k
    induction k with
    | zero => exact Nat.le_refl _
    | succ k ih => simp only [unl]; split <;> omega
  rw [hsz]
  exact this _ _
end
end Go.Proofs.Ytbadjlhijbkbbaa.Sx
