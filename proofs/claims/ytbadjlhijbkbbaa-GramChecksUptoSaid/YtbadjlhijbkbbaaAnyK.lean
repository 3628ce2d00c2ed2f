/-
  A region whose order Go leaves open, whose operations change what lay: facts that hold only until they are no more looked at.
-/
import Derived.Test.YtbadjlhijbkbbaaAny
set_option linter.unusedVariables false
namespace Go.Proofs.Ytbadjlhijbkbbaa.Sx
open Go Go.RowKit

def pAt (F : List (Value → World → Prop)) (i : Nat) : Value → World → Prop := match nth F i with
  | some f => f
  | none => fun _ _ => True
/-- Those that write slot x go ahead of it. -/
def steadyV (x : Nat) (ds : List Nat) : List Oper → Nat → Bool
  | [], _ => true
  | o :: r, k => (!isDst o x || hasN ds k) && steadyV x ds r (k + 1)
def depsL : List Edge → List Nat
  | [] => []
  | e :: r => match Region.binds .any e with
    | true => e.on :: depsL r
    | false => depsL r
def depsB (o : Oper) : List Nat := depsL o.after.toList
/-- A store's fact speaks of the slot that holds its address. -/
def viewSt (ops : List Oper) (o : Oper) : Option Nat := match o.op with
  | .store _ (.tmp x) _ => match steadyV x (depsB o) ops 0 with
    | true => some x
    | false => none
  | _ => none
def viewIn (ops : List Oper) (o : Oper) : Option Nat := match o.dst with
  | some d => some d
  | none => viewSt ops o
def viewOf (ops : List Oper) (j : Nat) : Option Nat := match nth ops j with
  | some o => viewIn ops o
  | none => none
/-- Of an operation: its value, or what its view holds. -/
def seen (ops : List Oper) (o : Oper) (τ : Sl) (v : Value) (p : Value → Prop) : Prop := match o.dst with
  | some _ => p v
  | none => match viewSt ops o with
    | some x => ∃ u, τ.lookup x = some u ∧ p u
    | none => p v
def holdsAt (ops : List Oper) (a : Act) (F : List (Value → World → Prop)) (j : Nat) (w : World) : Prop := match viewOf ops j with
  | some d => pAt F j (a.tmps.getD d undef) w
  | none => ∃ v, pAt F j v w
def GivenK (F : List (Value → World → Prop)) (ops : List Oper) (w : World) (C : Sl → Prop) : List Nat → Sl → Prop
  | [], τ => C τ
  | j :: js, τ => match viewOf ops j with
    | some d => ∀ v, pAt F j v w → GivenK F ops w C js ((d, v) :: τ)
    | none => (Nat.blt j ops.length = true → ∃ v, pAt F j v w) → GivenK F ops w C js τ
def sweep (ops : List Oper) : Nat → List Nat → List Nat
  | 0, S => S
  | k + 1, S => match hasN S k with
    | true => match nth ops k with
      | some o => sweep ops k (depsB o ++ S)
      | none => sweep ops k S
    | false => sweep ops k S
/-- Those that go ahead of one. -/
def anc (ops : List Oper) (i : Nat) : List Nat := match nth ops i with
  | some o => sweep ops i (depsB o)
  | none => []
/-- Is one's fact looked at by one that may come behind i? -/
def lookedAt (i : Nat) (S : List Nat) (j : Nat) : List Oper → Nat → Bool
  | [], _ => false
  | o :: r, k => (!Nat.beq k i && !hasN S k && hasN (ndeps o) j) || lookedAt i S j r (k + 1)
def aliveFrom (ops : List Oper) (live : List Nat) (i : Nat) (S : List Nat) : Nat → List Nat
  | 0 => []
  | j + 1 => match !Nat.beq j i && (hasN live j || lookedAt i S j ops 0) && !hasN (anc ops j) i with
    | true => j :: aliveFrom ops live i S j
    | false => aliveFrom ops live i S j
def aliveL (ops : List Oper) (live : List Nat) (i : Nat) : List Nat := aliveFrom ops live i (anc ops i) ops.length
theorem steadyV_spec {x : Nat} {ds : List Nat} : ∀ {l : List Oper} {k : Nat}, steadyV x ds l k = true → ∀ i o, l[i]? = some o → o.dst = some x → hasN ds (k + i) = true
  | [], _, _, i, o, h, _ => by simp at h
  | y :: r, k, h, 0, o, ho, hd => by
    simp at ho
    subst ho
    simp only [steadyV, Bool.and_eq_true, Bool.or_eq_true, Bool.not_eq_true'] at h
    rcases h.1 with h1 | h1
    · rw [isDst_iff.2 hd] at h1; cases h1
    · exact h1
  | y :: r, k, h, i + 1, o, ho, hd => by
    simp only [steadyV, Bool.and_eq_true] at h
    have := steadyV_spec h.2 i o (by simpa using ho) hd
    rwa [show k + 1 + i = k + (i + 1) by omega] at this
def KeepL (F : List (Value → World → Prop)) (w w' : World) : List Nat → Prop
  | [] => True
  | j :: r => (∀ v, pAt F j v w → pAt F j v w') ∧ KeepL F w w' r
theorem KeepL_spec {F : List (Value → World → Prop)} {w w' : World} : ∀ {l : List Nat}, KeepL F w w' l → ∀ {j}, j ∈ l → ∀ v, pAt F j v w → pAt F j v w'
  | [], _, j, h => by cases h
  | x :: r, hk, j, h => by
    rcases List.mem_cons.1 h with rfl | h
    · exact hk.1
    · exact KeepL_spec hk.2 h
theorem hasN_iff : ∀ {l : List Nat} {n : Nat}, hasN l n = true ↔ n ∈ l
  | [], n => by simp [hasN]
  | x :: r, n => by
    simp only [hasN, Bool.or_eq_true, hasN_iff (l := r), List.mem_cons]
    exact ⟨fun h => h.elim (fun h => .inl (Nat.eq_of_beq_eq_true h).symm) .inr, fun h => h.elim (fun h => .inl (by subst h; exact Nat.beq_refl n)) .inr⟩
theorem depsL_spec : ∀ {l : List Edge} {k : Nat}, k ∈ depsL l → ∃ e ∈ l, Region.binds .any e = true ∧ e.on = k
  | [], _, h => by cases h
  | e :: r, k, h => by
    unfold depsL at h
    cases hb : Region.binds .any e with
    | true =>
      rw [hb] at h
      rcases List.mem_cons.1 h with rfl | h
      · exact ⟨e, List.mem_cons_self, hb, rfl⟩
      · obtain ⟨e', he, h2⟩ := depsL_spec h
        exact ⟨e', List.mem_cons_of_mem _ he, h2⟩
    | false =>
      rw [hb] at h
      obtain ⟨e', he, h2⟩ := depsL_spec h
      exact ⟨e', List.mem_cons_of_mem _ he, h2⟩
theorem depsB_spec {o : Oper} {k : Nat} (h : k ∈ depsB o) : ∃ e ∈ o.after.toList, Region.binds .any e = true ∧ e.on = k := depsL_spec h
theorem viewSt_spec {ops : List Oper} {o : Oper} {x : Nat} (h : viewSt ops o = some x) (i : Nat) (oi : Oper) (hi : ops[i]? = some oi) (hd : oi.dst = some x) : i ∈ depsB o := by
  unfold viewSt at h
  split at h
  · split at h
    · rename_i hs
      cases h
      have := steadyV_spec hs i oi hi hd
      rw [Nat.zero_add] at this
      exact hasN_iff.1 this
    · cases h
  · cases h
theorem sweep_spec {ops : List Oper} {listed : Array Bool} (h6 : ∀ (k : Nat) (o : Oper), ops[k]? = some o → listed.getD k false = true → ∀ e ∈ o.after.toList, Region.binds .any e = true → listed.getD e.on false = true) :
    ∀ (n : Nat) (S : List Nat), (∀ k ∈ S, listed.getD k false = true) → ∀ k ∈ sweep ops n S, listed.getD k false = true
  | 0, S, h, k, hk => h k hk
  | n + 1, S, h, k, hk => by
    unfold sweep at hk
    cases hs : hasN S n with
    | false => rw [hs] at hk; exact sweep_spec h6 n S h k hk
    | true =>
      rw [hs] at hk
      cases ho : nth ops n with
      | none => rw [ho] at hk; exact sweep_spec h6 n S h k hk
      | some o =>
        rw [ho] at hk
        refine sweep_spec h6 n _ (fun x hx => ?_) k hk
        rcases List.mem_append.1 hx with hx | hx
        · obtain ⟨e, he, hb, rfl⟩ := depsB_spec hx
          exact h6 n o (by rwa [nth_eq] at ho) (h n (hasN_iff.1 hs)) e he hb
        · exact h x hx
theorem anc_spec {ops : List Oper} {listed : Array Bool} {i : Nat} {o : Oper} (ho : ops[i]? = some o) (hd : ∀ k ∈ depsB o, listed.getD k false = true)
    (h6 : ∀ (k : Nat) (o : Oper), ops[k]? = some o → listed.getD k false = true → ∀ e ∈ o.after.toList, Region.binds .any e = true → listed.getD e.on false = true) : ∀ k ∈ anc ops i, listed.getD k false = true := by
  intro k hk
  unfold anc at hk
  rw [nth_eq, ho] at hk
  exact sweep_spec h6 i _ hd k hk
def needed (ops : List Oper) (live : List Nat) (listed : Array Bool) (j : Nat) : Prop := j ∈ live ∨ ∃ k o, ops[k]? = some o ∧ listed.getD k false = false ∧ j ∈ ndeps o
theorem lookedAt_spec {i j : Nat} {S : List Nat} : ∀ {l : List Oper} {k0 : Nat} (k : Nat) (o : Oper), l[k]? = some o → k0 + k ≠ i → k0 + k ∉ S → j ∈ ndeps o → lookedAt i S j l k0 = true
  | [], _, k, o, h, _, _, _ => by simp at h
  | x :: r, k0, 0, o, h, h1, h2, h3 => by
    simp at h
    subst h
    have g1 : Nat.beq k0 i = false := Bool.eq_false_iff.2 (fun hc => h1 (by simpa using Nat.eq_of_beq_eq_true hc))
    have g2 : hasN S k0 = false := by
      rw [Bool.eq_false_iff]
      exact fun hc => h2 (by simpa using hasN_iff.1 hc)
    simp [lookedAt, g1, g2, hasN_iff.2 h3]
  | x :: r, k0, k + 1, o, h, h1, h2, h3 => by
    have := lookedAt_spec (l := r) (k0 := k0 + 1) (i := i) (S := S) k o (by simpa using h) (by omega) (by rwa [show k0 + 1 + k = k0 + (k + 1) by omega]) h3
    simp [lookedAt, this]
theorem aliveFrom_spec {ops : List Oper} {live : List Nat} {i : Nat} {S : List Nat} : ∀ {n j : Nat}, j < n → j ≠ i → (j ∈ live ∨ lookedAt i S j ops 0 = true) → i ∉ anc ops j → j ∈ aliveFrom ops live i S n
  | 0, j, h, _, _, _ => by omega
  | n + 1, j, h, hne, hl, ha => by
    unfold aliveFrom
    by_cases e : j = n
    · subst e
      have h1 : Nat.beq j i = false := Bool.eq_false_iff.2 (fun hc => hne (Nat.eq_of_beq_eq_true hc))
      have h2 : (hasN live j || lookedAt i S j ops 0) = true := by
        rcases hl with hl | hl
        · simp [hasN_iff.2 hl]
        · simp [hl]
      have h3 : hasN (anc ops j) i = false := Bool.eq_false_iff.2 (fun hc => ha (hasN_iff.1 hc))
      simp [h1, h2, h3]
    · have := aliveFrom_spec (ops := ops) (live := live) (i := i) (S := S) (n := n) (j := j) (by omega) hne hl ha
      split
      · exact List.mem_cons_of_mem _ this
      · exact this
theorem aliveL_spec {ops : List Oper} {live : List Nat} {i j : Nat} (hne : j ≠ i) (hj : j < ops.length) (h : j ∈ live ∨ ∃ (k : Nat) (o : Oper), ops[k]? = some o ∧ k ≠ i ∧ k ∉ anc ops i ∧ j ∈ ndeps o) (ha : i ∉ anc ops j) : j ∈ aliveL ops live i := by
  refine aliveFrom_spec hj hne ?_ ha
  rcases h with h | ⟨k, o, hk, h1, h2, h3⟩
  · exact .inl h
  · exact .inr (lookedAt_spec k o hk (by simpa using h1) (by simpa using h2) h3)
section
variable {P : Program} {Q : Exit → Act → World → Prop} {N : Nat}
def AllOblK (P : Program) (Q : Exit → Act → World → Prop) (N : Nat) (G : World → World → Prop) (F : List (Value → World → Prop)) (ops : List Oper) (live : List Nat) (σ : Sl) (w0 : World) : Nat → List Oper → Prop
  | _, [] => True
  | i, o :: r => (∀ w, G w0 w → GivenK F ops w (fun τ => WopG P Q N ops o τ w (fun v w' => G w w' ∧ seen ops o τ v (fun u => pAt F i u w') ∧ KeepL F w w' (aliveL ops live i))) (ndeps o) (keepAt ops i σ)) ∧ AllOblK P Q N G F ops live σ w0 (i + 1) r
theorem AllOblK.at_ {G : World → World → Prop} {F : List (Value → World → Prop)} {ops : List Oper} {live : List Nat} {σ : Sl} {w0 : World} : ∀ {l : List Oper} {i : Nat}, AllOblK P Q N G F ops live σ w0 i l → ∀ j o, l[j]? = some o →
    ∀ w, G w0 w → GivenK F ops w (fun τ => WopG P Q N ops o τ w (fun v w' => G w w' ∧ seen ops o τ v (fun u => pAt F (i + j) u w') ∧ KeepL F w w' (aliveL ops live (i + j)))) (ndeps o) (keepAt ops (i + j) σ)
  | [], _, _, j, o, h => by simp at h
  | x :: r, i, h, 0, o, ho => by simp at ho; subst ho; exact h.1
  | x :: r, i, h, j + 1, o, ho => by
    have := AllOblK.at_ h.2 j o (by simpa using ho)
    rwa [show i + 1 + j = i + (j + 1) by omega] at this
theorem GivenK.use {F : List (Value → World → Prop)} {ops : List Oper} {w : World} {C : Sl → Prop} {a : Act} : ∀ {l : List Nat} {τ : Sl}, GivenK F ops w C l τ → St N τ a →
    (∀ j ∈ l, j < ops.length → holdsAt ops a F j w) → ∃ τ', C τ' ∧ St N τ' a
  | [], τ, h, ha, _ => ⟨τ, h, ha⟩
  | j :: js, τ, h, ha, hf => by
    unfold GivenK at h
    have h0 := hf j List.mem_cons_self
    have hr : ∀ k ∈ js, k < ops.length → holdsAt ops a F k w := fun k hk => hf k (List.mem_cons_of_mem _ hk)
    unfold holdsAt at h0
    cases hd : viewOf ops j with
    | none =>
      rw [hd] at h h0
      exact GivenK.use (h (fun hj => h0 (by simpa using hj))) ha hr
    | some d =>
      rw [hd] at h h0
      have hj : j < ops.length := by
        unfold viewOf at hd
        rw [nth_eq] at hd
        cases h : ops[j]? with
        | none => rw [h] at hd; cases hd
        | some o => exact (List.getElem?_eq_some_iff.1 h).1
      exact GivenK.use (h _ (h0 hj)) (ha.cons rfl) hr

/-- THE LAW, for operations that change what lay. live: the operations whose facts the rest looks at. -/
theorem W.anyK {id : Nat} {ops : List Oper} {σ : Sl} {w : World} (G : World → World → Prop) (F : List (Value → World → Prop)) (live : List Nat) (hmix : P.follows .mixedOrders = true) (hok : okFrom N ops 0 = true)
    (hrefl : ∀ w, G w w) (htrans : ∀ {a b c}, G a b → G b c → G a c) (hdraw : ∀ w, G w { w with drawn := w.drawn + 1 })
    (hobl : AllOblK P Q N G F ops live σ w 0 ops) (hend : ∀ w', G w w' → GivenK F ops w' (fun τ => Arr Q N .normal τ w') live (keepEnd ops σ)) : W P Q N (.region id ops.toArray true) σ w := by
  refine ⟨fun a ha => wp_region_any hmix ?_⟩
  have ok := okFrom_spec (N := N) hok
  have hsz : ops.toArray.size = ops.length := by simp
  have hget : ∀ j : Nat, ops.toArray[j]? = ops[j]? := fun j => List.getElem?_toArray
  have key : ∀ (fuel : Nat) (listed : Array Bool) (a : Act) (w' : World), listed.size = ops.length → unl listed ops.length ≤ fuel → a.tmps.size = N → a.defers = [] → G w w' →
      (∀ t v, σ.lookup t = some v → (∀ k o, ops[k]? = some o → o.dst = some t → listed.getD k false = false) → a.tmps.getD t undef = v) →
      (∀ j, listed.getD j false = true → needed ops live listed j → holdsAt ops a F j w') →
      (∀ k o, ops[k]? = some o → listed.getD k false = true → ∀ e ∈ o.after.toList, Region.binds .any e = true → listed.getD e.on false = true) → wpAny P .any ops.toArray Q fuel listed a w' := by
    intro fuel
    have gd : ∀ (l : Array Bool) (k : Nat), l.size = ops.length → k < ops.length → l.getD k false = l.getD k true := by
      intro l k hl hk
      have : k < l.size := by omega
      simp [this]
    -- at the end
    have fin : ∀ (listed : Array Bool) (a : Act) (w' : World), listed.size = ops.length → (∀ i, i < ops.length → listed.getD i true = true) → a.tmps.size = N → a.defers = [] → G w w' →
        (∀ t v, σ.lookup t = some v → (∀ k o, ops[k]? = some o → o.dst = some t → listed.getD k false = false) → a.tmps.getD t undef = v) →
        (∀ j, listed.getD j false = true → needed ops live listed j → holdsAt ops a F j w') → Q .normal a w' := by
      intro listed a w' hl hall h1 h2 h3 h4 h5
      have hst : St N (keepEnd ops σ) a := ⟨h1, h2, fun t v hv => by
        obtain ⟨g1, g2⟩ := keepEnd_spec ops σ t v hv
        refine h4 t v g1 (fun k o hk hd => ?_)
        have := undst_spec g2 o (List.mem_of_getElem? hk)
        rw [Bool.eq_false_iff] at this
        exact (this (isDst_iff.2 hd)).elim⟩
      have hd : ∀ j ∈ live, j < ops.length → holdsAt ops a F j w' := by
        intro j hjl hlt
        refine h5 j ?_ (.inl hjl)
        rw [gd listed j hl hlt]
        exact hall j hlt
      obtain ⟨τ', hA, hs⟩ := GivenK.use (hend w' h3) hst hd
      exact hA.out a hs
    induction fuel with
    | zero =>
      intro listed a w' hl hu h1 h2 h3 h4 h5 h6
      have hall := unl_zero ops.length (by omega : unl listed ops.length = 0)
      refine ⟨?_, fin listed a w' hl hall h1 h2 h3 h4 h5⟩
      rw [List.eq_nil_iff_forall_not_mem]
      intro i hi
      obtain ⟨g1, o, g2, _⟩ := mem_ready.1 hi
      rw [hget] at g2
      rw [hall i (List.getElem?_eq_some_iff.1 g2).1] at g1
      cases g1
    | succ fuel ih =>
      intro listed a w' hl hu h1 h2 h3 h4 h5 h6
      refine ⟨fun hr => ?_, fun i hi => ?_⟩
      · refine fin listed a w' hl ?_ h1 h2 h3 h4 h5
        -- nothing ready: all are listed
        intro i
        induction i using Nat.strongRecOn with
        | _ i ihi =>
          intro hlt
          cases hli : listed.getD i true with
          | true => rfl
          | false =>
            have hmem : i ∈ Region.ready .any ops.toArray listed := mem_ready.2 ⟨hli, ops[i], by rw [hget]; exact List.getElem?_eq_getElem hlt, fun e he hb => by
              have h7 := (ok i ops[i] (List.getElem?_eq_getElem hlt)).1 e (by simpa using he) hb
              rw [gd listed e.on hl (by omega)]
              exact ihi e.on (by omega) (by omega)⟩
            rw [hr] at hmem
            cases hmem
      · obtain ⟨g1, o, g2, g3⟩ := mem_ready.1 hi
        rw [hget] at g2
        have hlt : i < ops.length := (List.getElem?_eq_some_iff.1 g2).1
        obtain ⟨k1, k2, k3⟩ := ok i o g2
        unfold wpOp
        rw [hget, g2]
        simp only
        have hG := hobl.at_ i o g2 w' h3
        simp only [Nat.zero_add] at hG
        have hst : St N (keepAt ops i σ) a := ⟨h1, h2, fun t v hv => by
          obtain ⟨e1, e2⟩ := keepAt_spec ops i σ t v hv
          refine h4 t v e1 (fun k o' hk hd => ?_)
          obtain ⟨e, he, hb, hon⟩ := stays_spec e2 o' (List.mem_of_getElem? hk) hd
          -- k is behind i, which is not listed
          cases hlk : listed.getD k false with
          | false => rfl
          | true =>
            have h8 := h6 k o' hk hlk e he hb
            rw [hon, gd listed i hl hlt, g1] at h8
            cases h8⟩
        have hdeps : ∀ j ∈ ndeps o, j < ops.length → holdsAt ops a F j w' := by
          intro j hj _
          obtain ⟨e, he, hb, hon⟩ := ndeps_spec hj
          refine h5 j ?_ (.inr ⟨i, o, g2, by rw [gd listed i hl hlt]; exact g1, hj⟩)
          rw [← hon]
          exact g3 e (by simpa using he) hb
        have hanc : ∀ k ∈ anc ops i, listed.getD k false = true := anc_spec g2 (fun k hk => by
          obtain ⟨e, he, hb, hon⟩ := depsB_spec hk
          rw [← hon]
          exact g3 e (by simpa using he) hb) h6
        obtain ⟨τ', hW, hs⟩ := GivenK.use hG hst hdeps
        have hout := hW.out a hs (wpAny P .any ops.toArray Q fuel (listed.setIfInBounds i true)) ?_
        · split
          · rename_i hw
            rw [if_pos hw] at hout
            exact .inl hout
          · rename_i hw
            rw [if_neg hw] at hout
            exact hout
        · rintro v w'' ⟨hg', hfact, hkeep⟩
          refine ih _ _ _ (by simpa using hl) ?_ (by cases hd : o.dst <;> simp [Act.put, h1]) (by cases hd : o.dst <;> simp [Act.put, h2]) (htrans h3 hg') ?_ ?_ ?_
          · have := unl_set g1 ops.length hlt
            omega
          · intro t x ht hno
            have hno' : ∀ k o', ops[k]? = some o' → o'.dst = some t → listed.getD k false = false := by
              intro k o' hk hd
              have := hno k o' hk hd
              by_cases e : i = k
              · subst e
                rw [gd listed i hl hlt]; exact g1
              · rwa [getD_set_ne false e] at this
            have hne : o.dst ≠ some t := by
              intro hd
              have := hno i o g2 hd
              have hs' : i < listed.size := by omega
              simp [hs'] at this
            rw [← h4 t x ht hno']
            cases hd : o.dst with
            | none => rfl
            | some d =>
              have hdt : d ≠ t := fun e => hne (by rw [hd, e])
              simp only [Act.put, Array.getD_eq_getD_getElem?]
              rw [Array.getElem?_setIfInBounds_ne hdt]
          · intro j hlj hnd
            by_cases e : j = i
            · subst e
              unfold seen at hfact
              unfold holdsAt viewOf viewIn
              rw [nth_eq, g2]
              simp only
              cases hd : o.dst with
              | none =>
                rw [hd] at hfact
                simp only at hfact ⊢
                cases hv : viewSt ops o with
                | none =>
                  rw [hv] at hfact
                  exact ⟨v, hfact⟩
                | some x =>
                  rw [hv] at hfact
                  obtain ⟨u, hu, hp⟩ := hfact
                  have := hs.get x u hu
                  simp only [Act.put]
                  rw [this]
                  exact hp
              | some d =>
                rw [hd] at hfact
                have hlt' := k2 d hd
                simp only [Act.put, Array.getD_eq_getD_getElem?]
                rw [Array.getElem?_setIfInBounds_self_of_lt (by omega)]
                exact hfact
            · have jlt : ∀ j, listed.getD j false = true → j < ops.length := by
                intro j hj
                by_cases hjl : j < ops.length
                · exact hjl
                · have : listed.getD j false = false := by simp [Array.getD_eq_getD_getElem?, Array.getElem?_eq_none (by omega : listed.size ≤ j)]
                  rw [this] at hj; cases hj
              have hlj' : listed.getD j false = true := by rwa [getD_set_ne false (Ne.symm e)] at hlj
              have hnd' : needed ops live listed j := by
                rcases hnd with h | ⟨k, ok', hk, hlk, hjk⟩
                · exact .inl h
                · refine .inr ⟨k, ok', hk, ?_, hjk⟩
                  have hki : i ≠ k := by
                    rintro rfl
                    have hs' : i < listed.size := by omega
                    simp [hs'] at hlk
                  rwa [getD_set_ne false hki] at hlk
              have hkj : ∀ u, pAt F j u w' → pAt F j u w'' := by
                refine KeepL_spec hkeep (aliveL_spec e ?_ ?_ ?_)
                · by_cases hjl : j < ops.length
                  · exact hjl
                  · have : listed.getD j false = false := by simp [Array.getD_eq_getD_getElem?, Array.getElem?_eq_none (by omega : listed.size ≤ j)]
                    rw [this] at hlj'; cases hlj'
                · rcases hnd with h | ⟨k, ok', hk, hlk, hjk⟩
                  · exact .inl h
                  · have hki : i ≠ k := by
                      rintro rfl
                      have hs' : i < listed.size := by omega
                      simp [hs'] at hlk
                    refine .inr ⟨k, ok', hk, Ne.symm hki, fun hka => ?_, hjk⟩
                    rw [getD_set_ne false hki, hanc k hka] at hlk
                    cases hlk
                · intro hia
                  have := anc_spec (listed := listed) (i := j) (o := ops[j]'(jlt j hlj')) (List.getElem?_eq_getElem _) (fun k hk => by
                    obtain ⟨e2, he2, hb2, hon2⟩ := depsB_spec hk
                    rw [← hon2]
                    exact h6 j _ (List.getElem?_eq_getElem (jlt j hlj')) hlj' e2 he2 hb2) h6 i hia
                  rw [gd listed i hl hlt, g1] at this
                  cases this
              have h0 := h5 j hlj' hnd'
              unfold holdsAt at h0 ⊢
              cases hj : viewOf ops j with
              | none =>
                rw [hj] at h0
                obtain ⟨u, hu⟩ := h0
                exact ⟨u, hkj u hu⟩
              | some d =>
                rw [hj] at h0
                have hne : o.dst ≠ some d := by
                  intro hd
                  unfold viewOf at hj
                  rw [nth_eq] at hj
                  cases hoj : ops[j]? with
                  | none => rw [hoj] at hj; cases hj
                  | some oj =>
                    rw [hoj] at hj
                    simp only [viewIn] at hj
                    cases hdj : oj.dst with
                    | some d' =>
                      rw [hdj] at hj
                      exact e (k3 d hd j oj hoj (by rw [hdj]; exact hj))
                    | none =>
                      rw [hdj] at hj
                      have := viewSt_spec hj i o g2 hd
                      obtain ⟨e2, he2, hb2, hon2⟩ := depsB_spec this
                      have := h6 j oj hoj hlj' e2 he2 hb2
                      rw [hon2, gd listed i hl hlt, g1] at this
                      cases this
                have : (a.put o.dst v).tmps.getD d undef = a.tmps.getD d undef := by
                  cases hd : o.dst with
                  | none => rfl
                  | some d' =>
                    have hdt : d' ≠ d := fun e => hne (by rw [hd, e])
                    simp only [Act.put, Array.getD_eq_getD_getElem?]
                    rw [Array.getElem?_setIfInBounds_ne hdt]
                show pAt F j ((a.put o.dst v).tmps.getD d undef) w''
                rw [this]
                exact hkj _ h0
          · intro k o' hk hlk e he hb
            by_cases e' : i = k
            · subst e'
              rw [g2] at hk
              cases hk
              exact getD_set_true (g3 e (by simpa using he) hb)
            · rw [getD_set_ne false e'] at hlk
              exact getD_set_true (h6 k o' hk hlk e he hb)
  have hno : ∀ j : Nat, (Array.replicate ops.toArray.size false).getD j false = true → False := by
    intro j hj
    rw [Array.getD_eq_getD_getElem?, Array.getElem?_replicate] at hj
    split at hj <;> simp at hj
  refine key _ _ a _ (by simp) ?_ ha.size ha.defers (hdraw w) (fun t v hv _ => ha.get t v hv) (fun j hlj _ => (hno j hlj).elim) (fun k o _ hlk => (hno k hlk).elim)
  have : ∀ (l : Array Bool) k, unl l k ≤ k := by
    intro l k
    induction k with
    | zero => exact Nat.le_refl _
    | succ k ih => simp only [unl]; split <;> omega
  rw [hsz]
  exact this _ _
end
end Go.Proofs.Ytbadjlhijbkbbaa.Sx
