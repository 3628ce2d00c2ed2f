/-
  Joined by program out of the texts Own Rnd Rng CutK CutI: lemmas for the proofs of this seat; no condition.
-/
import Derived.Test.YtbadjlhijbkbbaaGreatBb
import Derived.Laws.IdiomStrings
import Derived.Test.YtbadjlhijbkbbaaGreatBa
import Derived.OrdersIn
import Derived.RangeFuncSeq
import Derived.TacticsIn
import Derived.RangeFuncCalls
import Derived.RangeFuncLeaves
set_option maxHeartbeats 1000000
/-
  Conversions; pointers held against nil; a row of the call's own whose elements have data elsewhere.
-/
set_option linter.unusedVariables false
namespace Go.Proofs.YtbadjlhijbkbbaaGreat.Sx
open Go Go.RowKit
section
variable {P : Program} {Q : Exit → Act → World → Prop} {N : Nat} {σ : Sl} {w : World} {K : Value → World → Prop}
variable {d : Option Tmp} {ty : TypeId} {ps : String} {af : Array Edge} {gd : Option (Nat × Bool)}
theorem run_eqP0 {t e : TypeId} (ht : P.underlying t = some (.pointer e)) (w : World) : (Op.equal t (.pointer none) (.pointer none)).run P w = .ok true w := by
  unfold Op.equal
  rw [show Op.maxDepth = 9999 + 1 from rfl, Op.equalIn]
  simp [run_underlying ht]
theorem run_eqP1 {t e : TypeId} {a : Addr} (ht : P.underlying t = some (.pointer e)) (w : World) : (Op.equal t (.pointer (some a)) (.pointer none)).run P w = .ok false w := by
  unfold Op.equal
  rw [show Op.maxDepth = 9999 + 1 from rfl, Op.equalIn]
  simp [run_underlying ht]
theorem binOp_eqP0 {t e : TypeId} (ht : P.underlying t = some (.pointer e)) (w : World) : (binOp .eql t (.pointer none) (.pointer none)).run P w = .ok (.bool true) w := by
  show (do pure (Value.bool (← Op.equal t _ _)) : Sem Value).run P w = _
  simp [run_eqP0 ht]
theorem binOp_eqP1 {t e : TypeId} {a : Addr} (ht : P.underlying t = some (.pointer e)) (w : World) : (binOp .eql t (.pointer (some a)) (.pointer none)).run P w = .ok (.bool false) w := by
  show (do pure (Value.bool (← Op.equal t _ _)) : Sem Value).run P w = _
  simp [run_eqP1 ht]
theorem Wop.ptrNil {t t' e : TypeId} {x : Operand} (ht : P.underlying t = some (.pointer e)) (hx : look σ x = some (.pointer none)) (hk : K (.bool true) w) : Wop P Q N ⟨d, .binOp .eql t x (.const (.pointer none)) t', ty, ps, af, gd⟩ σ w K :=
  Wop.val (v := .bool true) (fun ρ h => by simp [execOp, h x _ hx, h (.const (.pointer none)) _ rfl, eqGuard, binOp_eqP0 ht]) hk
theorem Wop.ptrSome {t t' e : TypeId} {x : Operand} {a : Addr} (ht : P.underlying t = some (.pointer e)) (hx : look σ x = some (.pointer (some a))) (hk : K (.bool false) w) : Wop P Q N ⟨d, .binOp .eql t x (.const (.pointer none)) t', ty, ps, af, gd⟩ σ w K :=
  Wop.val (v := .bool false) (fun ρ h => by simp [execOp, h x _ hx, h (.const (.pointer none)) _ rfl, eqGuard, binOp_eqP1 ht]) hk
theorem conv_int {src dst : TypeId} {k k' : IntKind} {t : TypeDesc} {n : Int} (hs : P.underlying src = some t) (hd : P.underlying dst = some (.int k)) : (convert src dst (.int k' n)).run P w = .ok (.int k (k.wrap n)) w := by
  simp [convert, run_underlying hs, run_underlying hd, Conv.intToInt]
theorem Wop.convI {src dst : TypeId} {k k' : IntKind} {t : TypeDesc} {x : Operand} {n : Int} (hs : P.underlying src = some t) (hd : P.underlying dst = some (.int k)) (hx : look σ x = some (.int k' n)) (hw : k.wrap n = n) (hk : K (.int k n) w) : Wop P Q N ⟨d, .convert src dst x, ty, ps, af, gd⟩ σ w K :=
  Wop.val (fun ρ h => by simp [execOp, h x _ hx, conv_int (w := w) hs hd, hw]) hk
theorem Wop.bytesStr {src dst e : TypeId} {x : Operand} {b cap : Nat} {l : List UInt8} {cs : Array Value} {u : TypeId} (hs : P.underlying src = some (.slice e)) (he : P.underlying e = some (.int .u8)) (hd : P.underlying dst = some .string) (hx : look σ x = some (.slice (some ⟨b, 0, none⟩) l.length cap))
    (hb : Blk w b cs u) (hc : ∀ j (hj : j < l.length), cs[j]? = some (.int .u8 (l[j].toNat : Int))) (hk : K (.string ⟨l.toArray⟩) w) : Wop P Q N ⟨d, .convert src dst x, ty, ps, af, gd⟩ σ w K :=
  Wop.val (fun ρ h => by
    have := run_convert_bytes_back (P := P) w src dst e ⟨b, 0, none⟩ cap l hs he hd (fun j hj => by rw [add_at, Nat.zero_add]; exact hb.cell (hc j hj))
    simp [execOp, h x _ hx, this]) hk
end
theorem Ty.RowL.snoc {α : Type} {D : Ty α} {S : Nat → Prop} {w : World} {x : α} {es : List Value} (hx : D.rd S w x es) : ∀ {xs : List α} {cs : List Value}, Ty.RowL D S w xs cs → Ty.RowL D S w (xs ++ [x]) (cs ++ es)
  | [], cs, h => by
    rw [show cs = [] from h]
    exact ⟨es, [], by simp, hx, rfl⟩
  | y :: xs, _, ⟨e, r, rfl, he, hr⟩ => ⟨e, r ++ es, by simp, he, Ty.RowL.snoc hx hr⟩
theorem Ty.RowL.mono {α : Type} {D : Ty α} {S S' : Nat → Prop} {w : World} (hS : ∀ k, S k → S' k) : ∀ {xs : List α} {cs : List Value}, Ty.RowL D S w xs cs → Ty.RowL D S' w xs cs
  | [], _, h => h
  | _ :: _, _, ⟨e, r, h1, he, hr⟩ => ⟨e, r, h1, D.mono hS he, Ty.RowL.mono hS hr⟩
theorem Ty.RowL.under {α : Type} {D : Ty α} {S : Nat → Prop} {w : World} : ∀ {xs : List α} {cs : List Value}, Ty.RowL D S w xs cs → Ty.RowL D (fun k => S k ∧ k < w.heap.size) w xs cs
  | [], _, h => h
  | _ :: _, _, ⟨e, r, h1, he, hr⟩ => ⟨e, r, h1, D.lt he, Ty.RowL.under hr⟩
theorem Ty.RowL.keep {α : Type} {D : Ty α} {S p : Nat → Prop} {w w' : World} (e : Keeps p w w') (hS : ∀ k, S k → p k) {xs : List α} {cs : List Value} (h : Ty.RowL D S w xs cs) : Ty.RowL D S w' xs cs := h.move (fun _ _ hx => D.keep e hS hx)
/-- A row of the call's own whose elements have data elsewhere. -/
def OwnM {α : Type} (D : Ty α) (S : Nat → Prop) (w : World) (base : Nat) (e : TypeId) (v : Value) (xs : List α) : Prop := ∃ cs, w.ownsRow base e D.sz v xs.length cs ∧ Ty.RowL D S w xs cs
section
variable {α : Type} {D : Ty α} {S S' : Nat → Prop} {w w' : World} {base : Nat} {e : TypeId} {v : Value} {xs : List α}
theorem OwnM.nil : OwnM D S w base e (.slice none 0 0) ([] : List α) := ⟨[], World.ownsRow_nil _ _ _ _, rfl⟩
theorem OwnM.keep {p : Nat → Prop} (h : OwnM D S w base e v xs) (k : Keeps p w w') (hv : ∀ k, v.ownBlock = some k → p k) (hS : ∀ k, S k → p k) : OwnM D S w' base e v xs := by
  obtain ⟨cs, h1, h2⟩ := h
  exact ⟨cs, own_move h1 (fun j hj => k.block j (hv j hj) (h1.lt j hj).2), h2.keep k hS⟩
theorem OwnM.ext (h : OwnM D S w base e v xs) (k : Ext w w') : OwnM D S w' base e v xs := h.keep (p := fun _ => True) (Ext.keeps k) (fun _ _ => trivial) (fun _ _ => trivial)
theorem OwnM.mono (h : OwnM D S w base e v xs) (hS : ∀ k, S k → k < w.heap.size → S' k) : OwnM D S' w base e v xs := by
  obtain ⟨cs, h1, h2⟩ := h
  exact ⟨cs, h1, h2.under.mono (fun k hk => hS k hk.1 hk.2)⟩
theorem OwnM.lt (h : OwnM D S w base e v xs) : ∀ k, v.ownBlock = some k → base ≤ k ∧ k < w.heap.size := by
  obtain ⟨cs, h1, h2⟩ := h
  exact h1.lt
theorem OwnM.slice (h : OwnM D S w base e v xs) : ∃ A c, v = .slice A xs.length c ∧ xs.length ≤ c := by
  obtain ⟨cs, h1, _⟩ := h
  rcases h1.2 with ⟨rfl, h0⟩ | ⟨g, cap, cur, rfl, hb, hh, hnc, _⟩
  · exact ⟨none, 0, by rw [h0], by omega⟩
  · exact ⟨_, cap, rfl, hnc⟩
theorem OwnM.row (h : OwnM D S w base e v xs) (hm : xs.length ≤ 1099511627776) (hS : ∀ k, S k → S' k) (hv : ∀ k, v.ownBlock = some k → S' k) : ∃ A c, v = .slice A xs.length c ∧ xs.length ≤ c ∧ D.Row S' w A xs.length xs := by
  obtain ⟨cs, h1, h2⟩ := h
  have h1' := h1
  rcases h1.2 with ⟨rfl, h0⟩ | ⟨g, cap, cur, rfl, hb, hh, hnc, hcm, hcs, htake⟩
  · have hx : xs = [] := List.eq_nil_of_length_eq_zero h0
    subst hx
    exact ⟨none, 0, rfl, Nat.le_refl _, Ty.Row.nil_ _ _ _ _⟩
  · refine ⟨_, cap, rfl, hnc, rfl, hm, fun hp => ⟨g, 0, rfl, hv g rfl, fun j x hx => ?_⟩⟩
    obtain ⟨es, he, hc⟩ := h2.at_ j x hx
    refine ⟨es, D.mono hS he, fun i u hu => ?_⟩
    have := h1'.cells (g := g) rfl (j * D.sz + i) u (hc i u hu)
    rw [add_at] at this
    rw [Nat.add_assoc]
    exact this
theorem keeps_grown {row : Option Nat} (h : w.grownBy w' row) : Keeps (fun k => row ≠ some k) w w' := ⟨h.os, h.tape, h.output, h.size, fun k hk hl => h.block k hl (fun e => hk e.symm)⟩
end
section
variable {P : Program} {Q : Exit → Act → World → Prop} {N : Nat} {σ : Sl} {w : World} {K : Value → World → Prop}
variable {d : Option Tmp} {ty : TypeId} {ps : String} {af : Array Edge} {gd : Option (Nat × Bool)}
/-- append(v, x) of a struct. -/
theorem Wop.appM {α : Type} {D : Ty α} {S S' : Nat → Prop} (T : Tab P) {t e : TypeId} {x y : Operand} {z v : Value} {bytes b : Nat} {xs : List α} {a : α} {es : List Value} {base : Nat} {u : TypeId} (ht : nth T.kinds t = some 1) (he : nth T.elems t = some e) (hinfo : (P.info? e).map (fun i => (i.zero, i.size, i.bytes)) = some (some z, D.sz, bytes)) (hz : z.cells.size = D.sz) (h0 : 0 < D.sz) (hb0 : 0 < bytes)
    (hx : look σ x = some v) (hy : look σ y = some (.slice (some ⟨b, 0, none⟩) 1 1)) (hb : Blk w b es.toArray u) (hr : D.rd S' w a es) (HO : OwnM D S w base e v xs) (hbase : base ≤ w.heap.size) (hl : (xs.length + 1) * bytes ≤ 140737488355328)
    (hS : ∀ k, S k → v.ownBlock ≠ some k) (hS' : ∀ k, S' k → v.ownBlock ≠ some k)
    (hk : ∀ v' w', OwnM D (fun k => (S k ∨ S' k) ∧ k < w.heap.size) w' base e v' (xs ++ [a]) → Keeps (fun k => v.ownBlock ≠ some k) w w' → (v'.ownBlock = v.ownBlock ∨ v'.ownBlock = some w.heap.size) → K v' w') :
    Wop P Q N ⟨d, .call ⟨.builtin .append, #[x, y], #[t, t]⟩, ty, ps, af, gd⟩ σ w K := by
  obtain ⟨cs, h1, h2⟩ := HO
  refine Wop.app T ht he hinfo hz h0 hb0 hx hy hb (D.len hr) (D.one hr) h1 hbase hl (fun v' w' ho hg hat => hk v' w' ⟨cs ++ es, by simpa using ho, ?_⟩ (keeps_grown hg) hat)
  have hkk := keeps_grown hg
  have g1 : Ty.RowL D (fun k => (S k ∨ S' k) ∧ k < w.heap.size) w' xs cs := (h2.under.keep hkk (fun k hk => hS k hk.1)).mono (fun k hk => ⟨.inl hk.1, hk.2⟩)
  have g2 : D.rd (fun k => (S k ∨ S' k) ∧ k < w.heap.size) w' a es := D.mono (fun k hk => ⟨.inr hk.1, hk.2⟩) (D.keep hkk (fun k hk => hS' k hk.1) (D.lt hr))
  exact g1.snoc g2
end
end Go.Proofs.YtbadjlhijbkbbaaGreat.Sx

/-
  A walk in a round's frame, and with marks among the deferred calls: the plain walk's operations carried over; code's rules said anew. P is any program.
-/
set_option linter.unusedVariables false
namespace Go.Proofs.YtbadjlhijbkbbaaGreat.Sx
open Go Go.RowKit

/-- Every machine; the frame is one of a round, or none. -/
abbrev wideAt (r : Option Nat) : Fence := { Fence.wide with round := r }
theorem callsIn_at {r : Option Nat} {n : Nat} {P : Program} {f : FuncId} {args : Array Value} {w : World} {R : Ending → World → Prop} (h : Calls P f args w R) : CallsIn (wideAt r) n P f args w R :=
  (callsIn_wide.2 h : CallsIn Fence.wide n P f args w R)
theorem rowsIn_at {r : Option Nat} {n : Nat} {P : Program} {row : String} {args : Array Value} {w : World} {R : Value → World → Prop} (h : Rows P row args w R) : RowsIn (wideAt r) n P row args w R :=
  fun c cs _ => let ⟨v, w', h1, s⟩ := h c cs; ⟨v, w', h1, stepsIn_wide.2 s⟩
/-- With these beneath its deferred calls. -/
abbrev onto (ms : List Deferred) (a : Act) : Act := { a with defers := a.defers ++ ms }
/-- What is asked of the frame with the marks. -/
def low (ms : List Deferred) (Q : Exit → Act → World → Prop) : Exit → Act → World → Prop
  | .outgrown, _, _ => False
  | e, a, w => Q e (onto ms a) w
theorem low_out {ms : List Deferred} {Q : Exit → Act → World → Prop} : ¬ LetsOut (low ms Q) := fun ⟨_, _, h⟩ => h
/-- No defer statement. -/
def calm (o : Oper) : Bool := match o.op with
  | .defer _ => false
  | _ => true
theorem calm_spec {o : Oper} (h : calm o = true) : ∀ c, o.op ≠ .defer c := fun c e => by simp [calm, e] at h
variable {P : Program} {Q : Exit → Act → World → Prop} {N : Nat} {r : Option Nat} {n : Nat} {ms : List Deferred}

theorem put_onto (a : Act) (d : Option Tmp) (v : Value) : (onto ms a).put d v = onto ms (a.put d v) := by cases d <;> rfl
theorem eval_onto (a : Act) : (onto ms a).eval = a.eval := by funext x; cases x <;> rfl

/-- An operation, carried over. -/
theorem Oper.over {o : Oper} {a : Act} {w : World} {next next' : Act → World → Prop} (hc : calm o = true) (h : o.wp P a w next (low ms Q)) (hn : ∀ a w, next a w → next' (onto ms a) w) :
    o.wpIn (wideAt r) n P (onto ms a) w next' Q := by
  refine ⟨fun _ _ => trivial, ?_⟩
  rw [Oper.semAt_eq _ _ _ (calm_spec hc), eval_onto]
  unfold Oper.wp at h
  cases hr : (execOp a.eval o).run P w with
  | ok x w' =>
    rw [hr] at h
    cases x with
    | value v => rw [Oper.uponIn_value, put_onto]; exact hn _ _ h
    | skip => rw [Oper.uponIn_skip, put_onto]; exact hn _ _ h
    | defer d =>
      rw [Oper.uponIn_defer]
      have := hn _ _ h
      cases hd : o.dst <;> rw [hd] at this <;> exact this
    | enter f args =>
      rw [Oper.uponIn_enter]
      refine ⟨fun h => by simp [Fence.wide] at h, callsIn_at (Calls.mono h fun e w'' he => ?_)⟩
      cases e with
      | returned v => show next' ((onto ms a).put o.dst v) w''; rw [put_onto]; exact hn _ _ he
      | panicked ch => exact he
      | outgrown => exact (low_out he).elim
    | row row args =>
      rw [Oper.uponIn_row]
      refine ⟨fun h => by simp [Fence.wide] at h, fun c cs hroom => ?_⟩
      obtain ⟨v, w'', h1, s⟩ := rowsIn_at (r := r) (n := n - 1) h c cs hroom
      refine ⟨v, w'', ?_, s⟩
      show next' ((onto ms a).put o.dst v) w''
      rw [put_onto]
      exact hn _ _ h1
    | _ => exact h.elim
  | halt x w' =>
    rw [hr] at h
    cases x with
    | panic v => exact h
    | _ => exact h.elim

/-- The rest of a region, in a round's frame. -/
structure WlM (r : Option Nat) (ms : List Deferred) (P : Program) (Q : Exit → Act → World → Prop) (N : Nat) (ops : Array Oper) (rest : List Oper) (σ : Sl) (w : World) : Prop where
  out : ∀ a, St N σ a → wpListIn (wideAt r) 0 P ops Q rest (onto ms a) w
theorem list_over {ops : Array Oper} : ∀ {rest : List Oper} {a : Act} {w : World}, rest.all calm = true → wpList P ops (low ms Q) rest a w → wpListIn (wideAt r) n P ops Q rest (onto ms a) w
  | [], _, _, _, h => h
  | o :: rest, a, w, hc, h => by
    rw [List.all_cons, Bool.and_eq_true] at hc
    unfold wpList at h
    unfold wpListIn
    by_cases hw : Region.wanted o (yielded ops a.tmps) = true
    · rw [if_pos hw] at h ⊢
      rcases h with h | h
      · exact Oper.over hc.1 h (fun a w h => list_over hc.2 h)
      · exact (low_out h.2).elim
    · rw [if_neg hw] at h ⊢
      refine ⟨fun _ _ => trivial, ?_⟩
      rw [put_onto]
      exact list_over hc.2 h
theorem WlM.of {ops : Array Oper} {rest : List Oper} {σ : Sl} {w : World} (hc : rest.all calm = true) (h : Wl P (low ms Q) N ops rest σ w) : WlM r ms P Q N ops rest σ w :=
  ⟨fun a ha => list_over hc (h.out a ha)⟩
theorem WlM.op {ops : Array Oper} {rest : List Oper} {o : Oper} {σ : Sl} {w : World} (hc : calm o = true) (hg : o.guard = none) (hd : fits N o.dst = true) (h : Wop P (low ms Q) N o σ w (fun v w' => WlM r ms P Q N ops rest (upd σ o.dst v) w')) :
    WlM r ms P Q N ops (o :: rest) σ w := by
  refine ⟨fun a ha => ?_⟩
  unfold wpListIn
  rw [if_pos (by simp [Region.wanted, hg])]
  exact Oper.over hc (h.out a ha (fun a w => wpListIn (wideAt r) 0 P ops Q rest (onto ms a) w) fun v w' hv => hv.out _ (ha.put o.dst v hd)) (fun _ _ h => h)

/-- A region that draws its order, carried over. -/
theorem any_over {ops : Array Oper} (hc : ops.toList.all calm = true) : ∀ {fuel : Nat} {listed : Array Bool} {a : Act} {w : World}, wpAny P .any ops (low ms Q) fuel listed a w → wpAnyIn (wideAt r) n P .any ops Q fuel listed (onto ms a) w
  | 0, _, _, _, h => h
  | fuel + 1, listed, a, w, h => by
    refine ⟨fun h0 => h.1 h0, fun i hi => ?_⟩
    have h1 := h.2 i hi
    unfold wpOp at h1
    unfold wpOpIn
    cases ho : ops[i]? with
    | none => rw [ho] at h1; exact any_over hc h1
    | some o =>
      rw [ho] at h1
      simp only at h1 ⊢
      have hco : calm o = true := List.all_eq_true.1 hc o (Array.mem_toList_iff.2 (Array.mem_of_getElem? ho))
      by_cases hw : Region.wanted o (yielded ops a.tmps) = true
      · rw [if_pos hw] at h1 ⊢
        rcases h1 with h1 | h1
        · exact Oper.over hco h1 (fun a w h => any_over hc h)
        · exact (low_out h1.2).elim
      · rw [if_neg hw] at h1 ⊢
        refine ⟨fun _ _ => trivial, ?_⟩
        rw [put_onto]
        exact any_over hc h1

/-! ### Code, in a round's frame or with marks -/
structure WM (r : Option Nat) (ms : List Deferred) (P : Program) (Q : Exit → Act → World → Prop) (N : Nat) (c : Code) (σ : Sl) (w : World) : Prop where
  out : ∀ a, St N σ a → c.wpIn (wideAt r) 0 P Q (onto ms a) w
structure ArrM (ms : List Deferred) (Q : Exit → Act → World → Prop) (N : Nat) (e : Exit) (σ : Sl) (w : World) : Prop where
  out : ∀ a, St N σ a → Q e (onto ms a) w
variable {σ : Sl} {w : World}
theorem ArrM.arr (h : ArrM ms Q N .normal σ w) : Arr (low ms Q) N .normal σ w := ⟨h.out⟩
theorem WM.seq {x y : Code} (h : WM r ms P (Exit.then (fun a w => y.wpIn (wideAt r) 0 P Q a w) Q) N x σ w) : WM r ms P Q N (.seq x y) σ w := ⟨fun a ha => wpIn_seq (h.out a ha)⟩
theorem WM.skip (h : ArrM ms Q N .normal σ w) : WM r ms P Q N .skip σ w := ⟨fun a ha => wpIn_skip (h.out a ha)⟩
theorem WM.ret (h : ArrM ms Q N .ret σ w) : WM r ms P Q N .ret σ w := ⟨fun a ha => wpIn_ret (h.out a ha)⟩
theorem WM.exit {id : Nat} (h : ArrM ms Q N (.exit id) σ w) : WM r ms P Q N (.exit id) σ w := ⟨fun a ha => wpIn_exit (h.out a ha)⟩
theorem WM.block {id : Nat} {c : Code} (h : WM r ms P (Exit.inBlock id Q) N c σ w) : WM r ms P Q N (.block id c) σ w := ⟨fun a ha => wpIn_block (h.out a ha)⟩
theorem WM.yes {c : Operand} {x y : Code} (hc : look σ c = some (.bool true)) (h : WM r ms P Q N x σ w) : WM r ms P Q N (.cond c x y) σ w := ⟨fun a ha => wpIn_cond_true (by rw [eval_onto]; exact ha.eval hc) (h.out a ha)⟩
theorem WM.no {c : Operand} {x y : Code} (hc : look σ c = some (.bool false)) (h : WM r ms P Q N y σ w) : WM r ms P Q N (.cond c x y) σ w := ⟨fun a ha => wpIn_cond_false (by rw [eval_onto]; exact ha.eval hc) (h.out a ha)⟩
theorem WM.cond {c : Operand} {x y : Code} {t : Bool} (hc : look σ c = some (.bool t)) (h1 : t = true → WM r ms P Q N x σ w) (h2 : t = false → WM r ms P Q N y σ w) : WM r ms P Q N (.cond c x y) σ w := by
  cases t
  · exact WM.no hc (h2 rfl)
  · exact WM.yes hc (h1 rfl)
theorem WM.test {c : Operand} {x y : Code} {p : Prop} [Decidable p] (hc : look σ c = some (.bool (decide p))) (h1 : p → WM r ms P Q N x σ w) (h2 : ¬ p → WM r ms P Q N y σ w) : WM r ms P Q N (.cond c x y) σ w :=
  WM.cond hc (fun h => h1 (of_decide_eq_true h)) (fun h => h2 (of_decide_eq_false h))
theorem WM.region {id : Nat} {l : List Oper} (hc : l.all calm = true) (h : Wl P (low ms Q) N l.toArray l σ w) : WM r ms P Q N (.region id l.toArray false) σ w :=
  ⟨fun a ha => wpIn_region_lit (list_over hc (h.out a ha))⟩
theorem WM.regionM {id : Nat} {l : List Oper} (h : WlM r ms P Q N l.toArray l σ w) : WM r ms P Q N (.region id l.toArray false) σ w := ⟨fun a ha => wpIn_region_lit (h.out a ha)⟩
theorem WM.any {id : Nat} {l : List Oper} (hmix : P.follows .mixedOrders = true) (hc : l.all calm = true) (h : Wa P (low ms Q) N l σ w) : WM r ms P Q N (.region id l.toArray true) σ w :=
  ⟨fun a ha => wpIn_region_any hmix (any_over (by simpa using hc) (h.out a ha))⟩
theorem WlM.done {ops : Array Oper} (h : ArrM ms Q N .normal σ w) : WlM r ms P Q N ops [] σ w := ⟨h.out⟩
theorem ArrM.next {y : Code} (h : WM r ms P Q N y σ w) : ArrM ms (Exit.then (fun a w => y.wpIn (wideAt r) 0 P Q a w) Q) N .normal σ w := ⟨h.out⟩
theorem ArrM.then_ret {K : Act → World → Prop} (h : ArrM ms Q N .ret σ w) : ArrM ms (Exit.then K Q) N .ret σ w := ⟨h.out⟩
theorem ArrM.then_exit {K : Act → World → Prop} {id : Nat} (h : ArrM ms Q N (.exit id) σ w) : ArrM ms (Exit.then K Q) N (.exit id) σ w := ⟨h.out⟩
theorem ArrM.block_ret {id : Nat} (h : ArrM ms Q N .ret σ w) : ArrM ms (Exit.inBlock id Q) N .ret σ w := ⟨h.out⟩
theorem ArrM.block_normal {id : Nat} (h : ArrM ms Q N .normal σ w) : ArrM ms (Exit.inBlock id Q) N .normal σ w := ⟨h.out⟩
theorem ArrM.block_exit {id : Nat} (h : ArrM ms Q N .normal σ w) : ArrM ms (Exit.inBlock id Q) N (.exit id) σ w := ⟨fun a ha => by
  show (if id = id then Q .normal (onto ms a) w else Q (.exit id) (onto ms a) w)
  rw [if_pos rfl]; exact h.out a ha⟩
theorem WM.only {c : Code} (τ : Sl) (hτ : Has σ τ) (h : WM r ms P Q N c τ w) : WM r ms P Q N c σ w := ⟨fun a ha => h.out a (hτ.st a ha)⟩
/-- A loop; the marks may grow from round to round. -/
theorem WM.loop {c : Code} {ι : Type} (τ : ι → Sl) (μ : ι → List Deferred) (I : ι → World → Prop) (m : ι → Nat) (i0 : ι) (hτ : Has σ (τ i0)) (h0 : I i0 w)
    (round : ∀ i w, I i w → WM r (μ i) P (Exit.then (fun a w' => ∃ i' b, St N (τ i') b ∧ a = onto (μ i') b ∧ I i' w' ∧ m i' < m i) Q) N c (τ i) w) : WM r (μ i0) P Q N (.loop c) σ w := by
  refine ⟨fun a ha b k cs hro hb hr => ?_⟩
  have key : ∀ n i a w, m i = n → St N (τ i) a → I i w →
      ∃ e a' w', Q e a' w' ∧ ArrivesIn (Machine.fenced P (wideAt r)) P (lone (b.atR (onto (μ i) a) (.code c :: .inLoop c :: k)) cs w) b k cs e a' w' := by
    intro n
    induction n using Nat.strongRecOn with
    | _ n ih =>
      intro i a w hn ha hI
      obtain ⟨e, a₁, w₁, hq, harr⟩ := (round i w hI).out a ha b (.inLoop c :: k) cs hro hb hr
      cases e with
      | normal =>
        obtain ⟨i', a₀, hs, rfl, hI', hlt⟩ := hq
        obtain ⟨e₂, a₂, w₂, hq₂, harr₂⟩ := ih (m i') (hn ▸ hlt) i' a₀ w₁ rfl hs hI'
        exact ⟨e₂, a₂, w₂, hq₂, .of_steps (StepsIn.trans harr (.one (fenced_calm hb hr rfl) stepR_inLoop)) harr₂⟩
      | exit id => exact ⟨_, a₁, w₁, hq, .pass (x := .inLoop c) rfl (fun _ _ => .inl (by simp)) harr⟩
      | goto l => exact ⟨_, a₁, w₁, hq, .pass (x := .inLoop c) rfl (fun _ _ => .inl (by simp)) harr⟩
      | ret => exact ⟨_, a₁, w₁, hq, .pass (x := .inLoop c) rfl (fun _ _ => .inl (by simp)) harr⟩
      | panic ch => exact ⟨_, a₁, w₁, hq, .pass (x := .inLoop c) rfl (fun _ _ => .inl (by simp)) harr⟩
      | outgrown => exact ⟨_, a₁, w₁, hq, .pass (x := .inLoop c) rfl (fun _ _ => .inl (by simp)) harr⟩
  obtain ⟨e, a', w', hq, harr⟩ := key _ i0 a w rfl (hτ.st a ha) h0
  exact ⟨e, a', w', hq, .of_steps (.one (fenced_calm hb hr rfl) stepR_loop) harr⟩
theorem ArrM.again {ι : Type} {τ : ι → Sl} {μ : ι → List Deferred} {I : ι → World → Prop} {m : ι → Nat} {i : ι} (i' : ι) (hτ : Has σ (τ i')) (hI : I i' w) (hm : m i' < m i) :
    ArrM (μ i') (Exit.then (fun a w' => ∃ i' b, St N (τ i') b ∧ a = onto (μ i') b ∧ I i' w' ∧ m i' < m i) Q) N .normal σ w := ⟨fun a ha => ⟨i', a, hτ.st a ha, rfl, hI, hm⟩⟩

/-! ### Marks -/
abbrev mark (b : Nat) : Deferred := { target := .collected b, args := #[] }
abbrev isOpen (w : World) (b : Nat) : Prop := w.heap[b]? = some (.deferred (some []))
theorem Keeps.putObj (p : Nat → Prop) (w : World) (b : Nat) (o : Obj) (hp : ¬ p b) : Keeps p w (w.putObj b o) :=
  ⟨rfl, rfl, rfl, by simp, fun k hk _ => World.putObj_heap_other (fun e => hp (e ▸ hk))⟩
theorem leavesM {fn : Func} {tmps : Array Value} {R : Ending → World → Prop} : ∀ (bs : List Nat) (w : World), (∀ b ∈ bs, isOpen w b) → bs.Nodup →
    (∀ w', Keeps (fun k => k ∉ bs) w w' → LeavesIn Fence.wide 0 P fn tmps R [] .returning w') → LeavesInM Fence.wide 0 P fn tmps R (bs.map mark) .returning w
  | [], w, _, _, h => h w (Keeps.refl _ _)
  | b :: bs, w, ho, hd, h => by
    have hb := ho b List.mem_cons_self
    refine ⟨by simp, .inl ⟨b, _, rfl, run_takeDeferred hb, leavesM bs _ (fun c hc => ?_) (List.nodup_cons.1 hd).2 (fun w' hk => h w' ?_)⟩⟩
    · have hne : c ≠ b := fun e => (List.nodup_cons.1 hd).1 (e ▸ hc)
      show (w.putObj b _).heap[c]? = _
      rw [World.putObj_heap_other hne]
      exact ho c (List.mem_cons_of_mem _ hc)
    · exact (Keeps.putObj (fun k => k ∉ b :: bs) w b _ (by simp)).trans (hk.mono (fun k hk h => hk (List.mem_cons_of_mem _ h)))
theorem WM.mid {x y : Code} {ι : Type} (τ : ι → Sl) (I : ι → World → Prop) (h : WM r ms P (Exit.then (fun a w => ∃ i b, St N (τ i) b ∧ a = onto ms b ∧ I i w) Q) N x σ w) (hy : ∀ i w', I i w' → WM r ms P Q N y (τ i) w') : WM r ms P Q N (.seq x y) σ w :=
  WM.seq ⟨fun a ha => wpIn_mono (h.out a ha) (fun e a' w' hq => by
    cases e with
    | normal =>
      obtain ⟨i, b, hs, rfl, hI⟩ := hq
      exact (hy i w' hI).out b hs
    | _ => exact hq)⟩
theorem ArrM.mid {ι : Type} {τ : ι → Sl} {I : ι → World → Prop} (i : ι) (hτ : Has σ (τ i)) (hI : I i w) : ArrM ms (Exit.then (fun a w => ∃ i b, St N (τ i) b ∧ a = onto ms b ∧ I i w) Q) N .normal σ w := ⟨fun a ha => ⟨i, a, hτ.st a ha, rfl, hI⟩⟩
/-- A function whose body may hold a range over a function. -/
theorem enterM {f : FuncId} {fn : Func} {c : Code} {l : List Value} {w : World} {R : Ending → World → Prop} (hf : P.funcs[f]? = some fn) (hb : fn.body = some c) (hn : fn.ntmps = N) (hl : Nat.ble l.length N = true)
    (h : WM none [] P (bodyPostM Fence.wide 0 P fn R) N c (argSl 0 l) w) : Calls P f l.toArray w R := by
  refine callsIn_wide.1 (callsIn_of_wp_marks (n := 0) hf hb trivial ?_ rfl)
  refine h.out ⟨_, []⟩ ⟨?_, rfl, fun t v hv => ?_⟩
  · have hl' : l.length ≤ N := by simpa using hl
    simp only [Array.size_append, List.size_toArray, Array.size_replicate, hn]
    omega
  · obtain ⟨_, h2⟩ := argSl_look l 0 t v hv
    simp only [Nat.sub_zero] at h2
    have hlt : t < l.length := (List.getElem?_eq_some_iff.1 h2).1
    rw [Array.getD_eq_getD_getElem?, Array.getElem?_append_left (by simpa using hlt)]
    simp [h2]
/-- Straight on, in a round's frame or with marks. -/
theorem wm {p q : Prop} (hq : q) (h : (Unit → q) → p := by intro hq_; (repeat (first | refine WM.seq ?_ | refine WM.region rfl ?_ | refine ArrM.arr ?_ | refine ArrM.next ?_ | refine WM.block ?_ | refine WM.skip ?_ | refine WM.ret ?_ | refine WM.exit ?_ | refine ArrM.then_ret ?_ | refine ArrM.then_exit ?_ | refine ArrM.block_ret ?_ | refine ArrM.block_normal ?_ | refine ArrM.block_exit ?_ | refine ArrM.block_other rfl ?_ | refine WM.yes rfl ?_ | refine WM.no rfl ?_ | refine Wl.step rfl ?_ | refine Wl.act ?_ | refine Wl.done ?_ | refine Wl.stepY rfl rfl rfl rfl ?_ | refine Wl.stepN rfl rfl rfl rfl rfl ?_ | refine Wl.stepU rfl rfl rfl rfl ?_ | refine Wop.pure TT rfl ?_ | refine Wop.ldB TT rfl rfl (by first | assumption | exact Blk.ext (by assumption) (by assumption)) rfl ?_ | refine Wop.ld TT rfl rfl (by first | assumption | exact Ext.cell (by assumption) (by assumption)) ?_ | refine Wop.ldA TT rfl rfl rfl (by first | assumption | exact Blk.ext (by assumption) (by assumption)) ?_ | refine Wop.ldR TT rfl rfl rfl (by first | assumption | exact cells_ext (by assumption) (by assumption)) ?_ | refine Wop.ix TT rfl rfl rfl rfl rfl (by first | assumption | omega) ?_ | refine Wop.inc rfl rfl (by omega) ?_ | refine Wop.add rfl rfl ⟨by omega, by omega⟩ ?_ | refine Wop.sub rfl rfl ⟨by omega, by omega⟩ ?_)); exact hq_ ()) : p := h fun _ => hq
end Go.Proofs.YtbadjlhijbkbbaaGreat.Sx

/-
  A range over a function: the iterator's contract, the statement's law, a call of yield. P is any program.
-/
set_option linter.unusedVariables false
namespace Go.Proofs.YtbadjlhijbkbbaaGreat.Sx
open Go Go.RowKit
/-- THE ITERATOR gf, with lb captured, gives xs, where what lies in T lies as it did in w0. J pre S: pre has come; S: blocks of the rounds' own beyond those that lay when the iterator was called. -/
def Iter {α : Type} (P : Program) (gf : Nat) (lb : Array Value) (encs : α → Array Value) (xs : List α) (T : Nat → Prop) (w0 : World) : Prop :=
  ∀ (l : Nat) (J Jx : List α → (Nat → Prop) → World → Prop) (W : World), Keeps T w0 W →
    (∀ pre S A B, J pre S A → Keeps (fun k => k < W.heap.size ∨ S k) A B → J pre S B) →
    (∀ pre S A B, Jx pre S A → Keeps (fun k => k < W.heap.size ∨ S k) A B → Jx pre S B) →
    (∀ pre x S A, J pre S A → pre ++ [x] <+: xs → YieldAt Fence.wide 0 P l (encs x) A fun e A' =>
      (e = .returned (.bool true) ∧ ∃ S', J (pre ++ [x]) S' A' ∧ (∀ k, S' k → S k ∨ (A.heap.size ≤ k ∧ k < A'.heap.size)) ∧ Keeps (fun k => T k ∨ (W.heap.size ≤ k ∧ ¬ S k)) A A') ∨
      (e = .returned (.bool false) ∧ ∃ S', Jx (pre ++ [x]) S' A' ∧ (∀ k, S' k → S k ∨ (A.heap.size ≤ k ∧ k < A'.heap.size)) ∧ Keeps (fun k => T k ∨ (W.heap.size ≤ k ∧ ¬ S k)) A A')) →
    J [] (fun _ => False) W → Calls P gf (#[.func (.yield l) #[] #[]] ++ lb) W (Ret fun _ W' => (∃ S', J xs S' W') ∨ (∃ pre S', pre <+: xs ∧ Jx pre S' W'))
variable {P : Program} {Q : Exit → Act → World → Prop} {N : Nat} {r : Option Nat} {ms : List Deferred} {σ : Sl} {w : World}
/-- The parameters, laid into the slots. -/
def binds : List (Tmp × Value) → Sl → Sl
  | [], σ => σ
  | (p, v) :: l, σ => binds l ((p, v) :: σ)
theorem St.binds : ∀ (l : List (Tmp × Value)) {σ : Sl} {a : Act}, St N σ a → (∀ p ∈ l, p.1 < N) → St N (binds l σ) { tmps := l.foldl (fun t (p, v) => t.setIfInBounds p v) a.tmps, defers := [] }
  | [], σ, a, h, _ => by
    have : ({ tmps := a.tmps, defers := [] } : Act) = a := by rw [← h.defers]
    simpa [Sx.binds, this] using h
  | (p, v) :: l, σ, a, h, hl => by
    have h1 := h.put (some p) v (by simpa [fits] using hl (p, v) List.mem_cons_self)
    exact St.binds l h1 (fun q hq => hl q (List.mem_cons_of_mem _ hq))
/-- How a round's body may be left: on; or by a return. -/
def roundQ {α : Type} (B : Nat) (T : Nat → Prop) (I Ix : List α → (Nat → Prop) → World → Prop) (xs : List α) (S : Nat → Prop) (A : World) : Exit → Act → World → Prop
  | .normal, _, A' => ∃ S', I xs S' A' ∧ (∀ k, S' k → S k ∨ (A.heap.size ≤ k ∧ k < A'.heap.size)) ∧ Keeps (fun k => T k ∨ (B ≤ k ∧ ¬ S k)) A A'
  | .ret, _, A' => ∃ S', Ix xs S' A' ∧ (∀ k, S' k → S k ∨ (A.heap.size ≤ k ∧ k < A'.heap.size)) ∧ Keeps (fun k => T k ∨ (B ≤ k ∧ ¬ S k)) A A'
  | _, _, _ => False
/-- THE STATEMENT'S LAW, outermost in its frame. -/
theorem WM.range {α : Type} {g : Operand} {ps : Array Tmp} {assign body : Code} {gf : Nat} {lb : Array Value} (hg : look σ g = some (.func (.func gf) #[] lb)) (eg : ∀ args w, (callFunc gf args).run P w = .ok (.enter gf args) w)
    {encs : α → Array Value} {xs : List α} {T : Nat → Prop} {w0 : World} (hit : Iter P gf lb encs xs T w0) (hT : ∀ k, T k → k < w.heap.size) (hk0 : Keeps T w0 w)
    (hps : ∀ x, (encs x).size = ps.size) (hpn : ∀ p ∈ ps, p < N) (I Ix : List α → (Nat → Prop) → World → Prop)
    (hI : ∀ pre S A B, I pre S A → Keeps (fun k => k < w.heap.size ∨ S k) A B → I pre S B)
    (hIx : ∀ pre S A B, Ix pre S A → Keeps (fun k => k < w.heap.size ∨ S k) A B → Ix pre S B)
    (h0 : I [] (fun _ => False) w) (τ : α → Sl)
    (hassign : ∀ l x A, WM (some l) [] P (Exit.then (fun a A1 => A1 = A ∧ St N (τ x) a) (fun _ _ _ => False)) N assign (binds (ps.zip (encs x)).toList σ) A)
    (hbody : ∀ l pre x S A, I pre S A → pre ++ [x] <+: xs → w.heap.size + 2 ≤ A.heap.size → (∀ k, S k → w.heap.size + 2 ≤ k ∧ k < A.heap.size) → WM (some l) [] P (roundQ w.heap.size T I Ix (pre ++ [x]) S A) N body (τ x) A)
    (hdone : ∀ S A, I xs S A → isOpen A w.heap.size → w.heap.size < A.heap.size → ArrM (mark w.heap.size :: ms) Q N .normal σ A)
    (hstop : ∀ pre S A, pre <+: xs → Ix pre S A → isOpen A w.heap.size → w.heap.size < A.heap.size → ArrM (mark w.heap.size :: ms) Q N .ret σ A) :
    WM none ms P Q N (.rangeFunc g ps assign body) σ w := by
  refine ⟨fun a ha => wpIn_rangeFunc ?_⟩
  intro fn _
  obtain ⟨rec, hrec⟩ : ∃ rec : LoopState → Option Code → Loop, rec = fun st pe => { state := st, pending := pe, fn, tmps := a.tmps, params := ps, assign, body, defers := w.heap.size } := ⟨_, rfl⟩
  obtain ⟨W1, hW1⟩ : ∃ W1, (w.alloc (.deferred (some []))).alloc (.loop (rec .ready none)) = W1 := ⟨_, rfl⟩
  have hs1 : W1.heap.size = w.heap.size + 2 := by rw [← hW1]; simp
  have e1 : Ext w W1 := by rw [← hW1]; exact (Ext.alloc w _).trans (Ext.alloc _ _)
  have hL1 : W1.heap[w.heap.size + 1]? = some (.loop (rec .ready none)) := by
    rw [← hW1]; have := World.alloc_heap_new (w.alloc (.deferred (some []))) (.loop (rec .ready none)); rwa [World.size_alloc] at this
  have hK1 : isOpen W1 w.heap.size := by
    rw [← hW1]; exact (Below.heap_alloc _ _ _ (by simp)).trans (World.alloc_heap_new w _)
  have hev : (onto ms a).eval g = .func (.func gf) #[] lb := by rw [eval_onto]; exact ha.eval hg
  refine ⟨w.heap.size + 1, [mark w.heap.size], W1, { target := .fn (.func gf) lb, args := #[.func (.yield (w.heap.size + 1)) #[] #[]] }, W1, gf,
    #[.func (.yield (w.heap.size + 1)) #[] #[]] ++ lb, W1, ?_, ?_, fun _ _ => trivial, ?_, fun h => by simp [Fence.wide] at h, ?_⟩
  · rw [← hW1, hrec]; exact run_enterLoop_outer _ _ _ _ _
  · simp only [resolve, hev]
    simp [go_sem]
  · simp [invoke, go_sem, eg]
  · have hrun : ∀ (S : Nat → Prop) (A : World) (o : Obj), (∀ k, S k → w.heap.size + 2 ≤ k ∧ k < A.heap.size) → Keeps (fun k => k < w.heap.size ∨ S k) A (A.putObj (w.heap.size + 1) o) := fun S A o hS =>
      Keeps.putObj _ _ _ _ (fun h => by
        rcases h with h | h
        · omega
        · have := (hS _ h).1
          omega)
    have key := hit (w.heap.size + 1) (fun pre S A => I pre S A ∧ A.heap[w.heap.size + 1]? = some (.loop (rec .ready none)) ∧ isOpen A w.heap.size ∧ (∀ k, S k → w.heap.size + 2 ≤ k ∧ k < A.heap.size))
      (fun pre S A => Ix pre S A ∧ A.heap[w.heap.size + 1]? = some (.loop (rec .done (some .ret))) ∧ isOpen A w.heap.size ∧ (∀ k, S k → w.heap.size + 2 ≤ k ∧ k < A.heap.size)) W1 (hk0.trans (Ext.keeps e1)) ?_ ?_ ?_ ⟨hI _ _ _ _ h0 (Ext.keeps e1), hL1, hK1, fun k h => h.elim⟩
    · refine CallsIn.mono (callsIn_at (r := none) key) ?_
      rintro e W2 ⟨v, rfl, h⟩
      have hdef : a.defers = [] := ha.defers
      rcases h with ⟨S', hi, hl, ho, hS⟩ | ⟨pre, S', hpre, hi, hl, ho, hS⟩
      · refine ⟨none, _, by have := run_endLoop (P := P) hl (by rw [hrec]; simp); rw [hrec] at this; exact this, ?_⟩
        have hlt := (Array.getElem?_eq_some_iff.1 hl).1
        have h2 := fun o => (hdone S' (W2.putObj (w.heap.size + 1) o) (hI _ _ _ _ hi (hrun S' W2 _ hS)) ((World.putObj_heap_other (by omega)).trans ho) (by rw [World.putObj_size]; omega)).out a ha
        simpa [onto, hdef] using h2 _
      · refine ⟨some .ret, _, by have := run_endLoop (P := P) hl (by rw [hrec]; simp); rw [hrec] at this; exact this, wpIn_ret ?_⟩
        have hlt := (Array.getElem?_eq_some_iff.1 hl).1
        have h2 := fun o => (hstop pre S' (W2.putObj (w.heap.size + 1) o) hpre (hIx _ _ _ _ hi (hrun S' W2 _ hS)) ((World.putObj_heap_other (by omega)).trans ho) (by rw [World.putObj_size]; omega)).out a ha
        simpa [onto, hdef] using h2 _
    · rintro pre S A B ⟨hi, hl, ho, hS⟩ hk
      have hlt := (Array.getElem?_eq_some_iff.1 hl).1
      exact ⟨hI _ _ _ _ hi (hk.mono (fun k h => h.imp (fun h => by omega) id)), (hk.block _ (.inl (by omega)) (by omega)).trans hl, (hk.block _ (.inl (by omega)) (by omega)).trans ho, fun k hk' => ⟨(hS k hk').1, Nat.lt_of_lt_of_le (hS k hk').2 hk.size⟩⟩
    · rintro pre S A B ⟨hi, hl, ho, hS⟩ hk
      have hlt := (Array.getElem?_eq_some_iff.1 hl).1
      exact ⟨hIx _ _ _ _ hi (hk.mono (fun k h => h.imp (fun h => by omega) id)), (hk.block _ (.inl (by omega)) (by omega)).trans hl, (hk.block _ (.inl (by omega)) (by omega)).trans ho, fun k hk' => ⟨(hS k hk').1, Nat.lt_of_lt_of_le (hS k hk').2 hk.size⟩⟩
    · rintro pre x S A ⟨hi, hl, ho, hS⟩ hpx
      have hlt := (Array.getElem?_eq_some_iff.1 hl).1
      have hy := run_yield (P := P) (args := encs x) hl (by rw [hrec]; exact hps x)
      rw [hrec] at hy
      refine ⟨fn, _, assign, body, hy, roundIn_of_wpIn trivial ?_⟩
      clear hy
      have hst := St.binds (ps.zip (encs x)).toList ha (fun p hp => by
        have : p.1 ∈ ps := by
          have := (List.of_mem_zip (a := p.1) (b := p.2) (show (p.1, p.2) ∈ ps.toList.zip (encs x).toList by simpa using hp)).1
          simpa using this
        exact hpn _ this)
      have hA := (hassign (w.heap.size + 1) x A).out _ hst
      rw [Array.foldl_toList] at hA
      refine wpIn_mono hA ?_
      rintro e a1 A1 hq
      cases e with
      | normal =>
        obtain ⟨rfl, hst1⟩ := hq
        refine ⟨_, run_beginRound hl (by rw [hrec]), ?_⟩
        have ho1 : onto [] a1 = a1 := by
          have := hst1.defers
          cases a1
          simp_all
        obtain ⟨A0, hA0⟩ : ∃ A0, A0 = A1.putObj (w.heap.size + 1) (.loop { rec .ready none with state := .busy }) := ⟨_, rfl⟩
        have hs0 : A0.heap.size = A1.heap.size := by rw [hA0, World.putObj_size]
        have hl2 : A0.heap[w.heap.size + 1]? = some (.loop { rec .ready none with state := .busy }) := by rw [hA0]; exact World.putObj_heap_same hlt
        have ho2 : isOpen A0 w.heap.size := by rw [hA0]; exact (World.putObj_heap_other (by omega)).trans ho
        have hk10 : Keeps (fun k => k ≠ w.heap.size + 1) A1 A0 := by rw [hA0]; exact Keeps.putObj _ _ _ _ (by simp)
        have hi0 : I pre S A0 := hI _ _ _ _ hi (by rw [hA0]; exact hrun S A1 _ hS)
        have hB := (hbody (w.heap.size + 1) pre x S A0 hi0 hpx (by omega) (fun k hk => ⟨(hS k hk).1, by have := (hS k hk).2; omega⟩)).out a1 hst1
        rw [ho1] at hB
        rw [← hA0]
        refine wpIn_mono hB ?_
        have hnS : ∀ k, k < w.heap.size + 2 → ¬ S k := fun k hk h => by have := (hS k h).1; omega
        have fin : ∀ (jump : Option Code) (A3 : World) (S' : Nat → Prop), Keeps (fun k => T k ∨ (w.heap.size ≤ k ∧ ¬ S k)) A0 A3 → (∀ k, S' k → S k ∨ (A0.heap.size ≤ k ∧ k < A3.heap.size)) →
            ∃ A4, (Instr.endRound (w.heap.size + 1) jump).run P A3 = .ok (.bool jump.isNone) A4 ∧ A4.heap[w.heap.size + 1]? = some (.loop (rec (if jump.isNone then .ready else .done) jump)) ∧ isOpen A4 w.heap.size ∧
              Keeps (fun k => k < w.heap.size ∨ S' k) A3 A4 ∧ Keeps (fun k => T k ∨ (W1.heap.size ≤ k ∧ ¬ S k)) A1 A4 ∧ (∀ k, S' k → S k ∨ (A1.heap.size ≤ k ∧ k < A4.heap.size)) ∧ (∀ k, S' k → w.heap.size + 2 ≤ k ∧ k < A4.heap.size) := by
          intro jump A3 S' hk3 hS'
          have h3 := hk3.size
          have hl3 : A3.heap[w.heap.size + 1]? = some (.loop { rec .ready none with state := .busy }) := (hk3.block _ (.inr ⟨by omega, hnS _ (by omega)⟩) (by omega)).trans hl2
          have ho3 : isOpen A3 w.heap.size := (hk3.block _ (.inr ⟨by omega, hnS _ (by omega)⟩) (by omega)).trans ho2
          have hlt3 := (Array.getElem?_eq_some_iff.1 hl3).1
          have := run_endRound (P := P) jump hl3
          rw [hrec] at this
          have hSS : ∀ k, S' k → w.heap.size + 2 ≤ k ∧ k < A3.heap.size := fun k hk => by
            rcases hS' k hk with h | h
            · have := hS k h
              omega
            · omega
          refine ⟨_, this, by rw [hrec]; exact World.putObj_heap_same hlt3, (World.putObj_heap_other (by omega)).trans ho3, hrun S' A3 _ hSS, ?_, fun k hk => ?_, fun k hk => ?_⟩
          · refine ((hk10.mono (fun k hk => ?_)).trans (hk3.mono (fun k hk => ?_))).trans (Keeps.putObj _ _ _ _ ?_)
            · rcases hk with h | h
              · have := hT k h
                omega
              · omega
            · rcases hk with h | h
              · exact .inl h
              · exact .inr ⟨by omega, h.2⟩
            · rintro (h | h)
              · have := hT _ h
                omega
              · omega
          · rw [World.putObj_size]
            rcases hS' k hk with h | h
            · exact .inl h
            · exact .inr ⟨by omega, h.2⟩
          · rw [World.putObj_size]
            exact hSS k hk
        rintro e a3 A3 hp
        cases e with
        | normal =>
          obtain ⟨S', hi3, hS', hk3⟩ := hp
          obtain ⟨A4, hr, hl4, ho4, hka, hkb, hsa, hsb⟩ := fin none A3 S' hk3 hS'
          exact ⟨_, A4, hr, .inl ⟨rfl, S', ⟨hI _ _ _ _ hi3 hka, hl4, ho4, hsb⟩, hsa, hkb⟩⟩
        | ret =>
          obtain ⟨S', hi3, hS', hk3⟩ := hp
          obtain ⟨A4, hr, hl4, ho4, hka, hkb, hsa, hsb⟩ := fin (some .ret) A3 S' hk3 hS'
          exact ⟨_, A4, hr, .inr ⟨rfl, S', ⟨hIx _ _ _ _ hi3 hka, hl4, ho4, hsb⟩, hsa, hkb⟩⟩
        | exit id => exact hp.elim
        | goto t => exact hp.elim
        | panic ch => exact hp.elim
        | outgrown => exact hp.elim
      | exit id => exact hq.elim
      | goto t => exact hq.elim
      | ret => exact hq.elim
      | panic ch => exact hq.elim
      | outgrown => exact hq.elim

/-- A call of yield: the round is done. -/
theorem WlM.yield {l : Nat} {args : List Value} {ops : Array Oper} {rest : List Oper} {o : Oper} (hc : calm o = true) (hg : o.guard = none) (hd : fits N o.dst = true)
    (hx : ∀ ρ : Operand → Value, (∀ x u, look σ x = some u → ρ x = u) → ∀ w, (execOp ρ o).run P w = (Instr.yield l args.toArray).run P w) {R : Ending → World → Prop}
    (hy : YieldAt Fence.wide 0 P l args.toArray w R) (h : ∀ e w', R e w' → ∃ v, e = .returned v ∧ WlM r ms P Q N ops rest (upd σ o.dst v) w') : WlM r ms P Q N ops (o :: rest) σ w := by
  refine ⟨fun a ha => ?_⟩
  unfold wpListIn
  rw [if_pos (by simp [Region.wanted, hg])]
  refine ⟨fun _ _ => trivial, ?_⟩
  obtain ⟨fn, tmps, assign, body, hr, hR⟩ := hy
  rw [Oper.semAt_eq _ _ _ (calm_spec hc), eval_onto, hx a.eval (fun x u hx => ha.eval hx), hr, Oper.uponIn_round]
  refine ⟨fun h => by simp [Fence.wide] at h, ?_⟩
  have hR' : RoundIn (wideAt r) 0 P l fn tmps assign body w R := hR
  refine RoundIn.mono hR' fun e w' he => ?_
  obtain ⟨v, rfl, hv⟩ := h e w' he
  show wpListIn _ 0 P ops Q rest ((onto ms a).put o.dst v) w'
  rw [put_onto]
  exact hv.out _ (ha.put o.dst v hd)
end Go.Proofs.YtbadjlhijbkbbaaGreat.Sx

/-
  A region whose order Go leaves open, whose operations change what lay, and whose last operations go one behind the other, behind all others.
-/
set_option linter.unusedVariables false
namespace Go.Proofs.YtbadjlhijbkbbaaGreat.Sx
open Go Go.RowKit
section
variable {P : Program} {Q : Exit → Act → World → Prop} {N : Nat}
/-- THE LAW, for operations that change what lay, where those from c on go one behind the other, behind all others. -/
theorem Wa.anyKCut {ops : List Oper} {σ : Sl} {w : World} (G : World → World → Prop) (F : List (Value → World → Prop)) (c : Nat) (live : List Nat) (hmix : P.follows .mixedOrders = true) (hok : okFrom N ops 0 = true)
    (hrefl : ∀ w, G w w) (htrans : ∀ {a b c}, G a b → G b c → G a c) (hdraw : ∀ w, G w { w with drawn := w.drawn + 1 })
    (hcut : cutOk ops c = true) (hlive : liveOk c live = true)
    (hobl : AllOblK P Q N G F ops live σ w 0 (takeL c ops)) (hend : ∀ w', G w w' → GivenK F ops w' (fun τ => Wl P Q N ops.toArray (dropL c ops) τ w') live (keepAt ops c σ)) : Wa P Q N ops σ w := by
  refine ⟨fun a ha => ?_⟩
  have ok := okFrom_spec (N := N) hok
  have hsz : ops.toArray.size = ops.length := by simp
  have hget : ∀ j : Nat, ops.toArray[j]? = ops[j]? := fun j => List.getElem?_toArray
  have key : ∀ (fuel : Nat) (listed : Array Bool) (a : Act) (w' : World), listed.size = ops.length → unl listed ops.length ≤ fuel → a.tmps.size = N → a.defers = [] → G w w' →
      (∀ t v, σ.lookup t = some v → (∀ k o, ops[k]? = some o → o.dst = some t → listed.getD k false = false) → a.tmps.getD t undef = v) →
      (∀ j, listed.getD j false = true → needed ops live listed j → holdsAt ops a F j w') →
      (∀ k o, ops[k]? = some o → listed.getD k false = true → ∀ e ∈ o.after.toList, Region.binds .any e = true → listed.getD e.on false = true) → (∀ j, listed.getD j false = true → j < c) → wpAny P .any ops.toArray Q fuel listed a w' := by
    intro fuel
    have gd : ∀ (l : Array Bool) (k : Nat), l.size = ops.length → k < ops.length → l.getD k false = l.getD k true := by
      intro l k hl hk
      have : k < l.size := by omega
      simp [this]
    -- all that go ahead are done
    have tail : ∀ (fuel : Nat) (listed : Array Bool) (a : Act) (w' : World), listed.size = ops.length → unl listed ops.length ≤ fuel → (∀ i, i < c → i < ops.length → listed.getD i true = true) → a.tmps.size = N → a.defers = [] → G w w' →
        (∀ t v, σ.lookup t = some v → (∀ k o, ops[k]? = some o → o.dst = some t → listed.getD k false = false) → a.tmps.getD t undef = v) →
        (∀ j, listed.getD j false = true → needed ops live listed j → holdsAt ops a F j w') →
        (∀ k o, ops[k]? = some o → listed.getD k false = true → ∀ e ∈ o.after.toList, Region.binds .any e = true → listed.getD e.on false = true) →
        (∀ j, listed.getD j false = true → j < c) → wpAny P .any ops.toArray Q fuel listed a w' := by
      intro fuel listed a w' hl hu hall h1 h2 h3 h4 h5 h6 hp
      have hst : St N (keepAt ops c σ) a := ⟨h1, h2, fun t v hv => by
        obtain ⟨g1, g2⟩ := keepAt_spec ops c σ t v hv
        refine h4 t v g1 (fun k' o hk hd => ?_)
        obtain ⟨e, he, hb, hon⟩ := stays_spec g2 o (List.mem_of_getElem? hk) hd
        cases hlk : listed.getD k' false with
        | false => rfl
        | true =>
          have := hp _ (h6 k' o hk hlk e he hb)
          omega⟩
      have hd : ∀ j ∈ live, j < ops.length → holdsAt ops a F j w' := by
        intro j hjl hlt
        refine h5 j ?_ (.inl hjl)
        rw [gd listed j hl hlt]
        exact hall j (liveOk_spec hlive j hjl) hlt
      obtain ⟨τ', hA, hs⟩ := GivenK.use (hend w' h3) hst hd
      refine tailRun (ok := ok) hcut (n := ops.length - c) c fuel listed a w' rfl (Nat.le_refl c) hl hu (fun i hi hlt => hall i hi hlt) (fun i hi => ?_) (hA.out a hs)
      cases hli : listed.getD i false with
      | false => rfl
      | true => have := hp i hli; omega
    induction fuel with
    | zero =>
      intro listed a w' hl hu h1 h2 h3 h4 h5 h6 hp
      have hall := unl_zero ops.length (by omega : unl listed ops.length = 0)
      exact tail 0 listed a w' hl hu (fun i _ hlt => hall i hlt) h1 h2 h3 h4 h5 h6 hp
    | succ fuel ih =>
      intro listed a w' hl hu h1 h2 h3 h4 h5 h6 hp
      by_cases hall : ∀ i, i < c → i < ops.length → listed.getD i true = true
      · exact tail (fuel + 1) listed a w' hl hu hall h1 h2 h3 h4 h5 h6 hp
      refine ⟨fun hr => ?_, fun i hi => ?_⟩
      · refine (hall (fun i _ => ?_)).elim
        -- nothing ready: all are listed
        induction i using Nat.strongRecOn with
        | _ i ihi =>
          intro hlt
          cases hli : listed.getD i true with
          | true => rfl
          | false =>
            have hmem : i ∈ Region.ready .any ops.toArray listed := mem_ready.2 ⟨hli, ops[i], by rw [hget]; exact List.getElem?_eq_getElem hlt, fun e he hb => by
              have h7 := (ok i ops[i] (List.getElem?_eq_getElem hlt)).1 e (by simpa using he) hb
              rw [gd listed e.on hl (by omega)]
              exact ihi e.on (by omega) (by omega) (by omega)⟩
            rw [hr] at hmem
            cases hmem
      · obtain ⟨g1, o, g2, g3⟩ := mem_ready.1 hi
        rw [hget] at g2
        have hlt : i < ops.length := (List.getElem?_eq_some_iff.1 g2).1
        obtain ⟨k1, k2, k3⟩ := ok i o g2
        have hic : i < c := by
          rcases Nat.lt_or_ge i c with h | h
          · exact h
          · refine (hall (fun j hj hjl => ?_)).elim
            have := anc_spec (listed := listed) g2 (fun k' hk' => by
              obtain ⟨e, he, hb, hon⟩ := depsB_spec hk'
              rw [← hon]
              exact g3 e (by simpa using he) hb) h6 j (cutOk_spec hcut i h hlt j (by omega))
            rw [← gd listed j hl hjl]
            exact this
        unfold wpOp
        rw [hget, g2]
        simp only
        have hG := hobl.at_ i o (by rw [takeL_eq, List.getElem?_take, if_pos hic]; exact g2) w' h3
        simp only [Nat.zero_add] at hG
        have hst : St N (keepAt ops i σ) a := ⟨h1, h2, fun t v hv => by
          obtain ⟨e1, e2⟩ := keepAt_spec ops i σ t v hv
          refine h4 t v e1 (fun k o' hk hd => ?_)
          obtain ⟨e, he, hb, hon⟩ := stays_spec e2 o' (List.mem_of_getElem? hk) hd
          -- k is behind i, which is not listed
          cases hlk : listed.getD k false with
          | false => rfl
          | true =>
            have h8 := h6 k o' hk hlk e he hb
            rw [hon, gd listed i hl hlt, g1] at h8
            cases h8⟩
        have hdeps : ∀ j ∈ ndeps o, j < ops.length → holdsAt ops a F j w' := by
          intro j hj _
          obtain ⟨e, he, hb, hon⟩ := ndeps_spec hj
          refine h5 j ?_ (.inr ⟨i, o, g2, by rw [gd listed i hl hlt]; exact g1, hj⟩)
          rw [← hon]
          exact g3 e (by simpa using he) hb
        have hanc : ∀ k ∈ anc ops i, listed.getD k false = true := anc_spec g2 (fun k hk => by
          obtain ⟨e, he, hb, hon⟩ := depsB_spec hk
          rw [← hon]
          exact g3 e (by simpa using he) hb) h6
        obtain ⟨τ', hW, hs⟩ := GivenK.use hG hst hdeps
        have hout := hW.out a hs (wpAny P .any ops.toArray Q fuel (listed.setIfInBounds i true)) ?_
        · split
          · rename_i hw
            rw [if_pos hw] at hout
            exact .inl hout
          · rename_i hw
            rw [if_neg hw] at hout
            exact hout
        · rintro v w'' ⟨hg', hfact, hkeep⟩
          refine ih _ _ _ (by simpa using hl) ?_ (by cases hd : o.dst <;> simp [Act.put, h1]) (by cases hd : o.dst <;> simp [Act.put, h2]) (htrans h3 hg') ?_ ?_ ?_ ?_
          · have := unl_set g1 ops.length hlt
            omega
          · intro t x ht hno
            have hno' : ∀ k o', ops[k]? = some o' → o'.dst = some t → listed.getD k false = false := by
              intro k o' hk hd
              have := hno k o' hk hd
              by_cases e : i = k
              · subst e
                rw [gd listed i hl hlt]; exact g1
              · rwa [getD_set_ne false e] at this
            have hne : o.dst ≠ some t := by
              intro hd
              have := hno i o g2 hd
              have hs' : i < listed.size := by omega
              simp [hs'] at this
            rw [← h4 t x ht hno']
            cases hd : o.dst with
            | none => rfl
            | some d =>
              have hdt : d ≠ t := fun e => hne (by rw [hd, e])
              simp only [Act.put, Array.getD_eq_getD_getElem?]
              rw [Array.getElem?_setIfInBounds_ne hdt]
          · intro j hlj hnd
            by_cases e : j = i
            · subst e
              unfold seen at hfact
              unfold holdsAt viewOf viewIn
              rw [nth_eq, g2]
              simp only
              cases hd : o.dst with
              | none =>
                rw [hd] at hfact
                simp only at hfact ⊢
                cases hv : viewSt ops o with
                | none =>
                  rw [hv] at hfact
                  exact ⟨v, hfact⟩
                | some x =>
                  rw [hv] at hfact
                  obtain ⟨u, hu, hp⟩ := hfact
                  have := hs.get x u hu
                  simp only [Act.put]
                  rw [this]
                  exact hp
              | some d =>
                rw [hd] at hfact
                have hlt' := k2 d hd
                simp only [Act.put, Array.getD_eq_getD_getElem?]
                rw [Array.getElem?_setIfInBounds_self_of_lt (by omega)]
                exact hfact
            · have jlt : ∀ j, listed.getD j false = true → j < ops.length := by
                intro j hj
                by_cases hjl : j < ops.length
                · exact hjl
                · have : listed.getD j false = false := by simp [Array.getD_eq_getD_getElem?, Array.getElem?_eq_none (by omega : listed.size ≤ j)]
                  rw [this] at hj; cases hj
              have hlj' : listed.getD j false = true := by rwa [getD_set_ne false (Ne.symm e)] at hlj
              have hnd' : needed ops live listed j := by
                rcases hnd with h | ⟨k, ok', hk, hlk, hjk⟩
                · exact .inl h
                · refine .inr ⟨k, ok', hk, ?_, hjk⟩
                  have hki : i ≠ k := by
                    rintro rfl
                    have hs' : i < listed.size := by omega
                    simp [hs'] at hlk
                  rwa [getD_set_ne false hki] at hlk
              have hkj : ∀ u, pAt F j u w' → pAt F j u w'' := by
                refine KeepL_spec hkeep (aliveL_spec e ?_ ?_ ?_)
                · by_cases hjl : j < ops.length
                  · exact hjl
                  · have : listed.getD j false = false := by simp [Array.getD_eq_getD_getElem?, Array.getElem?_eq_none (by omega : listed.size ≤ j)]
                    rw [this] at hlj'; cases hlj'
                · rcases hnd with h | ⟨k, ok', hk, hlk, hjk⟩
                  · exact .inl h
                  · have hki : i ≠ k := by
                      rintro rfl
                      have hs' : i < listed.size := by omega
                      simp [hs'] at hlk
                    refine .inr ⟨k, ok', hk, Ne.symm hki, fun hka => ?_, hjk⟩
                    rw [getD_set_ne false hki, hanc k hka] at hlk
                    cases hlk
                · intro hia
                  have := anc_spec (listed := listed) (i := j) (o := ops[j]'(jlt j hlj')) (List.getElem?_eq_getElem _) (fun k hk => by
                    obtain ⟨e2, he2, hb2, hon2⟩ := depsB_spec hk
                    rw [← hon2]
                    exact h6 j _ (List.getElem?_eq_getElem (jlt j hlj')) hlj' e2 he2 hb2) h6 i hia
                  rw [gd listed i hl hlt, g1] at this
                  cases this
              have h0 := h5 j hlj' hnd'
              unfold holdsAt at h0 ⊢
              cases hj : viewOf ops j with
              | none =>
                rw [hj] at h0
                obtain ⟨u, hu⟩ := h0
                exact ⟨u, hkj u hu⟩
              | some d =>
                rw [hj] at h0
                have hne : o.dst ≠ some d := by
                  intro hd
                  unfold viewOf at hj
                  rw [nth_eq] at hj
                  cases hoj : ops[j]? with
                  | none => rw [hoj] at hj; cases hj
                  | some oj =>
                    rw [hoj] at hj
                    simp only [viewIn] at hj
                    cases hdj : oj.dst with
                    | some d' =>
                      rw [hdj] at hj
                      exact e (k3 d hd j oj hoj (by rw [hdj]; exact hj))
                    | none =>
                      rw [hdj] at hj
                      have := viewSt_spec hj i o g2 hd
                      obtain ⟨e2, he2, hb2, hon2⟩ := depsB_spec this
                      have := h6 j oj hoj hlj' e2 he2 hb2
                      rw [hon2, gd listed i hl hlt, g1] at this
                      cases this
                have : (a.put o.dst v).tmps.getD d undef = a.tmps.getD d undef := by
                  cases hd : o.dst with
                  | none => rfl
                  | some d' =>
                    have hdt : d' ≠ d := fun e => hne (by rw [hd, e])
                    simp only [Act.put, Array.getD_eq_getD_getElem?]
                    rw [Array.getElem?_setIfInBounds_ne hdt]
                show pAt F j ((a.put o.dst v).tmps.getD d undef) w''
                rw [this]
                exact hkj _ h0
          · intro k o' hk hlk e he hb
            by_cases e' : i = k
            · subst e'
              rw [g2] at hk
              cases hk
              exact getD_set_true (g3 e (by simpa using he) hb)
            · rw [getD_set_ne false e'] at hlk
              exact getD_set_true (h6 k o' hk hlk e he hb)
          · intro j hj
            by_cases e : i = j
            · omega
            · rw [getD_set_ne false e] at hj
              exact hp j hj
  have hno : ∀ j : Nat, (Array.replicate ops.toArray.size false).getD j false = true → False := by
    intro j hj
    rw [Array.getD_eq_getD_getElem?, Array.getElem?_replicate] at hj
    split at hj <;> simp at hj
  refine key _ _ a _ (by simp) ?_ ha.size ha.defers (hdraw w) (fun t v hv _ => ha.get t v hv) (fun j hlj _ => (hno j hlj).elim) (fun k o _ hlk => (hno k hlk).elim) (fun j hj => (hno j hj).elim)
  have : ∀ (l : Array Bool) k, unl l k ≤ k := by
    intro l k
    induction k with
    | zero => exact Nat.le_refl _
    | succ k ih => simp only [unl]; split <;> omega
  rw [hsz]
  exact this _ _
theorem W.anyKCut {id : Nat} {ops : List Oper} {σ : Sl} {w : World} (G : World → World → Prop) (F : List (Value → World → Prop)) (c : Nat) (live : List Nat) (hmix : P.follows .mixedOrders = true) (hok : okFrom N ops 0 = true)
    (hrefl : ∀ w, G w w) (htrans : ∀ {a b c}, G a b → G b c → G a c) (hdraw : ∀ w, G w { w with drawn := w.drawn + 1 })
    (hcut : cutOk ops c = true) (hlive : liveOk c live = true)
    (hobl : AllOblK P Q N G F ops live σ w 0 (takeL c ops)) (hend : ∀ w', G w w' → GivenK F ops w' (fun τ => Wl P Q N ops.toArray (dropL c ops) τ w') live (keepAt ops c σ)) : W P Q N (.region id ops.toArray true) σ w :=
  Wa.w hmix (Wa.anyKCut G F c live hmix hok hrefl htrans hdraw hcut hlive hobl hend)
end
end Go.Proofs.YtbadjlhijbkbbaaGreat.Sx

/-
  A region whose order Go leaves open, in which something is so until one operation (an append in place) is done.
-/
set_option linter.unusedVariables false
namespace Go.Proofs.YtbadjlhijbkbbaaGreat.Sx
open Go Go.RowKit
section
variable {P : Program} {Q : Exit → Act → World → Prop} {N : Nat}
/-- As AllOblK; besides, I0 is so until operation b is done. -/
def AllOblI (P : Program) (Q : Exit → Act → World → Prop) (N : Nat) (G : World → World → Prop) (I0 : World → Prop) (b : Nat) (F : List (Value → World → Prop)) (ops : List Oper) (live : List Nat) (σ : Sl) (w0 : World) : Nat → List Oper → Prop
  | _, [] => True
  | i, o :: r => (∀ w, G w0 w → (hasN (b :: anc ops b) i = true → I0 w) → GivenK F ops w (fun τ => WopG P Q N ops o τ w (fun v w' => (G w w' ∧ (Nat.beq i b = false → I0 w → I0 w')) ∧ seen ops o τ v (fun u => pAt F i u w') ∧ KeepL F w w' (aliveL ops live i))) (ndeps o) (keepAt ops i σ)) ∧ AllOblI P Q N G I0 b F ops live σ w0 (i + 1) r
theorem AllOblI.at_ {G : World → World → Prop} {I0 : World → Prop} {b : Nat} {F : List (Value → World → Prop)} {ops : List Oper} {live : List Nat} {σ : Sl} {w0 : World} : ∀ {l : List Oper} {i : Nat}, AllOblI P Q N G I0 b F ops live σ w0 i l → ∀ j o, l[j]? = some o →
    ∀ w, G w0 w → (hasN (b :: anc ops b) (i + j) = true → I0 w) → GivenK F ops w (fun τ => WopG P Q N ops o τ w (fun v w' => (G w w' ∧ (Nat.beq (i + j) b = false → I0 w → I0 w')) ∧ seen ops o τ v (fun u => pAt F (i + j) u w') ∧ KeepL F w w' (aliveL ops live (i + j)))) (ndeps o) (keepAt ops (i + j) σ)
  | [], _, _, j, o, h => by simp at h
  | x :: r, i, h, 0, o, ho => by simp at ho; subst ho; exact h.1
  | x :: r, i, h, j + 1, o, ho => by
    have := AllOblI.at_ h.2 j o (by simpa using ho)
    rwa [show i + 1 + j = i + (j + 1) by omega] at this
/-- THE LAW, where besides I0 is so until operation b is done, and those from c on go one behind the other, behind all others. -/
theorem Wa.anyICut {ops : List Oper} {σ : Sl} {w : World} (G : World → World → Prop) (I0 : World → Prop) (b : Nat) (F : List (Value → World → Prop)) (c : Nat) (live : List Nat) (hmix : P.follows .mixedOrders = true) (hok : okFrom N ops 0 = true)
    (hrefl : ∀ w, G w w) (htrans : ∀ {a b c}, G a b → G b c → G a c) (hdraw : ∀ w, G w { w with drawn := w.drawn + 1 })
    (h0 : I0 w) (hI0 : ∀ w : World, I0 w → I0 { w with drawn := w.drawn + 1 }) (hcut : cutOk ops c = true) (hlive : liveOk c live = true)
    (hobl : AllOblI P Q N G I0 b F ops live σ w 0 (takeL c ops)) (hend : ∀ w', G w w' → GivenK F ops w' (fun τ => Wl P Q N ops.toArray (dropL c ops) τ w') live (keepAt ops c σ)) : Wa P Q N ops σ w := by
  refine ⟨fun a ha => ?_⟩
  have ok := okFrom_spec (N := N) hok
  have hsz : ops.toArray.size = ops.length := by simp
  have hget : ∀ j : Nat, ops.toArray[j]? = ops[j]? := fun j => List.getElem?_toArray
  have key : ∀ (fuel : Nat) (listed : Array Bool) (a : Act) (w' : World), listed.size = ops.length → unl listed ops.length ≤ fuel → a.tmps.size = N → a.defers = [] → G w w' →
      (∀ t v, σ.lookup t = some v → (∀ k o, ops[k]? = some o → o.dst = some t → listed.getD k false = false) → a.tmps.getD t undef = v) →
      (∀ j, listed.getD j false = true → needed ops live listed j → holdsAt ops a F j w') →
      (∀ k o, ops[k]? = some o → listed.getD k false = true → ∀ e ∈ o.after.toList, Region.binds .any e = true → listed.getD e.on false = true) → (∀ j, listed.getD j false = true → j < c) → (listed.getD b false = false → I0 w') → wpAny P .any ops.toArray Q fuel listed a w' := by
    intro fuel
    have gd : ∀ (l : Array Bool) (k : Nat), l.size = ops.length → k < ops.length → l.getD k false = l.getD k true := by
      intro l k hl hk
      have : k < l.size := by omega
      simp [this]
    -- all that go ahead are done
    have tail : ∀ (fuel : Nat) (listed : Array Bool) (a : Act) (w' : World), listed.size = ops.length → unl listed ops.length ≤ fuel → (∀ i, i < c → i < ops.length → listed.getD i true = true) → a.tmps.size = N → a.defers = [] → G w w' →
        (∀ t v, σ.lookup t = some v → (∀ k o, ops[k]? = some o → o.dst = some t → listed.getD k false = false) → a.tmps.getD t undef = v) →
        (∀ j, listed.getD j false = true → needed ops live listed j → holdsAt ops a F j w') →
        (∀ k o, ops[k]? = some o → listed.getD k false = true → ∀ e ∈ o.after.toList, Region.binds .any e = true → listed.getD e.on false = true) →
        (∀ j, listed.getD j false = true → j < c) → wpAny P .any ops.toArray Q fuel listed a w' := by
      intro fuel listed a w' hl hu hall h1 h2 h3 h4 h5 h6 hp
      have hst : St N (keepAt ops c σ) a := ⟨h1, h2, fun t v hv => by
        obtain ⟨g1, g2⟩ := keepAt_spec ops c σ t v hv
        refine h4 t v g1 (fun k' o hk hd => ?_)
        obtain ⟨e, he, hb, hon⟩ := stays_spec g2 o (List.mem_of_getElem? hk) hd
        cases hlk : listed.getD k' false with
        | false => rfl
        | true =>
          have := hp _ (h6 k' o hk hlk e he hb)
          omega⟩
      have hd : ∀ j ∈ live, j < ops.length → holdsAt ops a F j w' := by
        intro j hjl hlt
        refine h5 j ?_ (.inl hjl)
        rw [gd listed j hl hlt]
        exact hall j (liveOk_spec hlive j hjl) hlt
      obtain ⟨τ', hA, hs⟩ := GivenK.use (hend w' h3) hst hd
      refine tailRun (ok := ok) hcut (n := ops.length - c) c fuel listed a w' rfl (Nat.le_refl c) hl hu (fun i hi hlt => hall i hi hlt) (fun i hi => ?_) (hA.out a hs)
      cases hli : listed.getD i false with
      | false => rfl
      | true => have := hp i hli; omega
    induction fuel with
    | zero =>
      intro listed a w' hl hu h1 h2 h3 h4 h5 h6 hp hi0
      have hall := unl_zero ops.length (by omega : unl listed ops.length = 0)
      exact tail 0 listed a w' hl hu (fun i _ hlt => hall i hlt) h1 h2 h3 h4 h5 h6 hp
    | succ fuel ih =>
      intro listed a w' hl hu h1 h2 h3 h4 h5 h6 hp hi0
      by_cases hall : ∀ i, i < c → i < ops.length → listed.getD i true = true
      · exact tail (fuel + 1) listed a w' hl hu hall h1 h2 h3 h4 h5 h6 hp
      refine ⟨fun hr => ?_, fun i hi => ?_⟩
      · refine (hall (fun i _ => ?_)).elim
        -- nothing ready: all are listed
        induction i using Nat.strongRecOn with
        | _ i ihi =>
          intro hlt
          cases hli : listed.getD i true with
          | true => rfl
          | false =>
            have hmem : i ∈ Region.ready .any ops.toArray listed := mem_ready.2 ⟨hli, ops[i], by rw [hget]; exact List.getElem?_eq_getElem hlt, fun e he hb => by
              have h7 := (ok i ops[i] (List.getElem?_eq_getElem hlt)).1 e (by simpa using he) hb
              rw [gd listed e.on hl (by omega)]
              exact ihi e.on (by omega) (by omega) (by omega)⟩
            rw [hr] at hmem
            cases hmem
      · obtain ⟨g1, o, g2, g3⟩ := mem_ready.1 hi
        rw [hget] at g2
        have hlt : i < ops.length := (List.getElem?_eq_some_iff.1 g2).1
        obtain ⟨k1, k2, k3⟩ := ok i o g2
        have hic : i < c := by
          rcases Nat.lt_or_ge i c with h | h
          · exact h
          · refine (hall (fun j hj hjl => ?_)).elim
            have := anc_spec (listed := listed) g2 (fun k' hk' => by
              obtain ⟨e, he, hb, hon⟩ := depsB_spec hk'
              rw [← hon]
              exact g3 e (by simpa using he) hb) h6 j (cutOk_spec hcut i h hlt j (by omega))
            rw [← gd listed j hl hjl]
            exact this
        unfold wpOp
        rw [hget, g2]
        simp only
        have hG := hobl.at_ i o (by rw [takeL_eq, List.getElem?_take, if_pos hic]; exact g2) w' h3 (fun hib => hi0 (by
          rw [Nat.zero_add] at hib
          cases hlb : listed.getD b false with
          | false => rfl
          | true =>
            rcases List.mem_cons.1 (hasN_iff.1 hib) with e | hia
            · subst e
              rw [gd listed i hl hlt, g1] at hlb
              cases hlb
            · have hbl : b < ops.length := by
                by_cases hjl : b < ops.length
                · exact hjl
                · have : listed.getD b false = false := by simp [Array.getD_eq_getD_getElem?, Array.getElem?_eq_none (by omega : listed.size ≤ b)]
                  rw [this] at hlb; cases hlb
              have := anc_spec (listed := listed) (i := b) (o := ops[b]'hbl) (List.getElem?_eq_getElem _) (fun k hk => by
                obtain ⟨e2, he2, hb2, hon2⟩ := depsB_spec hk
                rw [← hon2]
                exact h6 b _ (List.getElem?_eq_getElem hbl) hlb e2 he2 hb2) h6 i hia
              rw [gd listed i hl hlt, g1] at this
              cases this))
        simp only [Nat.zero_add] at hG
        have hst : St N (keepAt ops i σ) a := ⟨h1, h2, fun t v hv => by
          obtain ⟨e1, e2⟩ := keepAt_spec ops i σ t v hv
          refine h4 t v e1 (fun k o' hk hd => ?_)
          obtain ⟨e, he, hb, hon⟩ := stays_spec e2 o' (List.mem_of_getElem? hk) hd
          -- k is behind i, which is not listed
          cases hlk : listed.getD k false with
          | false => rfl
          | true =>
            have h8 := h6 k o' hk hlk e he hb
            rw [hon, gd listed i hl hlt, g1] at h8
            cases h8⟩
        have hdeps : ∀ j ∈ ndeps o, j < ops.length → holdsAt ops a F j w' := by
          intro j hj _
          obtain ⟨e, he, hb, hon⟩ := ndeps_spec hj
          refine h5 j ?_ (.inr ⟨i, o, g2, by rw [gd listed i hl hlt]; exact g1, hj⟩)
          rw [← hon]
          exact g3 e (by simpa using he) hb
        have hanc : ∀ k ∈ anc ops i, listed.getD k false = true := anc_spec g2 (fun k hk => by
          obtain ⟨e, he, hb, hon⟩ := depsB_spec hk
          rw [← hon]
          exact g3 e (by simpa using he) hb) h6
        obtain ⟨τ', hW, hs⟩ := GivenK.use hG hst hdeps
        have hout := hW.out a hs (wpAny P .any ops.toArray Q fuel (listed.setIfInBounds i true)) ?_
        · split
          · rename_i hw
            rw [if_pos hw] at hout
            exact .inl hout
          · rename_i hw
            rw [if_neg hw] at hout
            exact hout
        · rintro v w'' ⟨⟨hg', hi0'⟩, hfact, hkeep⟩
          refine ih _ _ _ (by simpa using hl) ?_ (by cases hd : o.dst <;> simp [Act.put, h1]) (by cases hd : o.dst <;> simp [Act.put, h2]) (htrans h3 hg') ?_ ?_ ?_ ?_ ?_
          · have := unl_set g1 ops.length hlt
            omega
          · intro t x ht hno
            have hno' : ∀ k o', ops[k]? = some o' → o'.dst = some t → listed.getD k false = false := by
              intro k o' hk hd
              have := hno k o' hk hd
              by_cases e : i = k
              · subst e
                rw [gd listed i hl hlt]; exact g1
              · rwa [getD_set_ne false e] at this
            have hne : o.dst ≠ some t := by
              intro hd
              have := hno i o g2 hd
              have hs' : i < listed.size := by omega
              simp [hs'] at this
            rw [← h4 t x ht hno']
            cases hd : o.dst with
            | none => rfl
            | some d =>
              have hdt : d ≠ t := fun e => hne (by rw [hd, e])
              simp only [Act.put, Array.getD_eq_getD_getElem?]
              rw [Array.getElem?_setIfInBounds_ne hdt]
          · intro j hlj hnd
            by_cases e : j = i
            · subst e
              unfold seen at hfact
              unfold holdsAt viewOf viewIn
              rw [nth_eq, g2]
              simp only
              cases hd : o.dst with
              | none =>
                rw [hd] at hfact
                simp only at hfact ⊢
                cases hv : viewSt ops o with
                | none =>
                  rw [hv] at hfact
                  exact ⟨v, hfact⟩
                | some x =>
                  rw [hv] at hfact
                  obtain ⟨u, hu, hp⟩ := hfact
                  have := hs.get x u hu
                  simp only [Act.put]
                  rw [this]
                  exact hp
              | some d =>
                rw [hd] at hfact
                have hlt' := k2 d hd
                simp only [Act.put, Array.getD_eq_getD_getElem?]
                rw [Array.getElem?_setIfInBounds_self_of_lt (by omega)]
                exact hfact
            · have jlt : ∀ j, listed.getD j false = true → j < ops.length := by
                intro j hj
                by_cases hjl : j < ops.length
                · exact hjl
                · have : listed.getD j false = false := by simp [Array.getD_eq_getD_getElem?, Array.getElem?_eq_none (by omega : listed.size ≤ j)]
                  rw [this] at hj; cases hj
              have hlj' : listed.getD j false = true := by rwa [getD_set_ne false (Ne.symm e)] at hlj
              have hnd' : needed ops live listed j := by
                rcases hnd with h | ⟨k, ok', hk, hlk, hjk⟩
                · exact .inl h
                · refine .inr ⟨k, ok', hk, ?_, hjk⟩
                  have hki : i ≠ k := by
                    rintro rfl
                    have hs' : i < listed.size := by omega
                    simp [hs'] at hlk
                  rwa [getD_set_ne false hki] at hlk
              have hkj : ∀ u, pAt F j u w' → pAt F j u w'' := by
                refine KeepL_spec hkeep (aliveL_spec e ?_ ?_ ?_)
                · by_cases hjl : j < ops.length
                  · exact hjl
                  · have : listed.getD j false = false := by simp [Array.getD_eq_getD_getElem?, Array.getElem?_eq_none (by omega : listed.size ≤ j)]
                    rw [this] at hlj'; cases hlj'
                · rcases hnd with h | ⟨k, ok', hk, hlk, hjk⟩
                  · exact .inl h
                  · have hki : i ≠ k := by
                      rintro rfl
                      have hs' : i < listed.size := by omega
                      simp [hs'] at hlk
                    refine .inr ⟨k, ok', hk, Ne.symm hki, fun hka => ?_, hjk⟩
                    rw [getD_set_ne false hki, hanc k hka] at hlk
                    cases hlk
                · intro hia
                  have := anc_spec (listed := listed) (i := j) (o := ops[j]'(jlt j hlj')) (List.getElem?_eq_getElem _) (fun k hk => by
                    obtain ⟨e2, he2, hb2, hon2⟩ := depsB_spec hk
                    rw [← hon2]
                    exact h6 j _ (List.getElem?_eq_getElem (jlt j hlj')) hlj' e2 he2 hb2) h6 i hia
                  rw [gd listed i hl hlt, g1] at this
                  cases this
              have h0 := h5 j hlj' hnd'
              unfold holdsAt at h0 ⊢
              cases hj : viewOf ops j with
              | none =>
                rw [hj] at h0
                obtain ⟨u, hu⟩ := h0
                exact ⟨u, hkj u hu⟩
              | some d =>
                rw [hj] at h0
                have hne : o.dst ≠ some d := by
                  intro hd
                  unfold viewOf at hj
                  rw [nth_eq] at hj
                  cases hoj : ops[j]? with
                  | none => rw [hoj] at hj; cases hj
                  | some oj =>
                    rw [hoj] at hj
                    simp only [viewIn] at hj
                    cases hdj : oj.dst with
                    | some d' =>
                      rw [hdj] at hj
                      exact e (k3 d hd j oj hoj (by rw [hdj]; exact hj))
                    | none =>
                      rw [hdj] at hj
                      have := viewSt_spec hj i o g2 hd
                      obtain ⟨e2, he2, hb2, hon2⟩ := depsB_spec this
                      have := h6 j oj hoj hlj' e2 he2 hb2
                      rw [hon2, gd listed i hl hlt, g1] at this
                      cases this
                have : (a.put o.dst v).tmps.getD d undef = a.tmps.getD d undef := by
                  cases hd : o.dst with
                  | none => rfl
                  | some d' =>
                    have hdt : d' ≠ d := fun e => hne (by rw [hd, e])
                    simp only [Act.put, Array.getD_eq_getD_getElem?]
                    rw [Array.getElem?_setIfInBounds_ne hdt]
                show pAt F j ((a.put o.dst v).tmps.getD d undef) w''
                rw [this]
                exact hkj _ h0
          · intro k o' hk hlk e he hb
            by_cases e' : i = k
            · subst e'
              rw [g2] at hk
              cases hk
              exact getD_set_true (g3 e (by simpa using he) hb)
            · rw [getD_set_ne false e'] at hlk
              exact getD_set_true (h6 k o' hk hlk e he hb)
          · intro j hj
            by_cases e : i = j
            · omega
            · rw [getD_set_ne false e] at hj
              exact hp j hj
          · intro hlb
            have hne : i ≠ b := by
              rintro rfl
              have hs' : i < listed.size := by omega
              simp [hs'] at hlb
            rw [getD_set_ne false hne] at hlb
            exact hi0' (Bool.eq_false_iff.2 (fun h => hne (Nat.eq_of_beq_eq_true h))) (hi0 hlb)
  have hno : ∀ j : Nat, (Array.replicate ops.toArray.size false).getD j false = true → False := by
    intro j hj
    rw [Array.getD_eq_getD_getElem?, Array.getElem?_replicate] at hj
    split at hj <;> simp at hj
  refine key _ _ a _ (by simp) ?_ ha.size ha.defers (hdraw w) (fun t v hv _ => ha.get t v hv) (fun j hlj _ => (hno j hlj).elim) (fun k o _ hlk => (hno k hlk).elim) (fun j hj => (hno j hj).elim) (fun _ => hI0 _ h0)
  have : ∀ (l : Array Bool) k, unl l k ≤ k := by
    intro l k
    induction k with
    | zero => exact Nat.le_refl _
    | succ k ih => simp only [unl]; split <;> omega
  rw [hsz]
  exact this _ _
theorem W.anyICut {id : Nat} {ops : List Oper} {σ : Sl} {w : World} (G : World → World → Prop) (I0 : World → Prop) (b : Nat) (F : List (Value → World → Prop)) (c : Nat) (live : List Nat) (hmix : P.follows .mixedOrders = true) (hok : okFrom N ops 0 = true)
    (hrefl : ∀ w, G w w) (htrans : ∀ {a b c}, G a b → G b c → G a c) (hdraw : ∀ w, G w { w with drawn := w.drawn + 1 })
    (h0 : I0 w) (hI0 : ∀ w : World, I0 w → I0 { w with drawn := w.drawn + 1 }) (hcut : cutOk ops c = true) (hlive : liveOk c live = true)
    (hobl : AllOblI P Q N G I0 b F ops live σ w 0 (takeL c ops)) (hend : ∀ w', G w w' → GivenK F ops w' (fun τ => Wl P Q N ops.toArray (dropL c ops) τ w') live (keepAt ops c σ)) : W P Q N (.region id ops.toArray true) σ w :=
  Wa.w hmix (Wa.anyICut G I0 b F c live hmix hok hrefl htrans hdraw h0 hI0 hcut hlive hobl hend)
end
/-- One operation of a region in which something is so until one of its operations is done. -/
theorem qi {p : Prop} (h : p := by (intro w_ _ hI; (first | have hG := hI rfl | skip); (repeat (intro v_ hv_; cases hv_)); first | (refine WopG.plain rfl ?_; first | refine Wop.pure TT rfl ⟨⟨trivial, fun _ h => h⟩, rfl, (by repeat (first | exact trivial | refine ⟨fun _ h => h, ?_⟩))⟩ | refine Wop.ldB TT rfl rfl (by first | assumption | exact Blk.ext (by assumption) hG) rfl ⟨⟨trivial, fun _ h => h⟩, rfl, (by repeat (first | exact trivial | refine ⟨fun _ h => h, ?_⟩))⟩ | refine Wop.ld TT rfl rfl (by first | assumption | exact Ext.cell hG (by assumption)) ⟨⟨trivial, fun _ h => h⟩, rfl, (by repeat (first | exact trivial | refine ⟨fun _ h => h, ?_⟩))⟩ | refine Wop.ldA TT rfl rfl rfl (by first | assumption | exact Blk.ext (by assumption) hG) ⟨⟨trivial, fun _ h => h⟩, rfl, (by repeat (first | exact trivial | refine ⟨fun _ h => h, ?_⟩))⟩ | refine Wop.ldR TT rfl rfl rfl (by first | assumption | exact cells_ext hG (by assumption)) ⟨⟨trivial, fun _ h => h⟩, rfl, (by repeat (first | exact trivial | refine ⟨fun _ h => h, ?_⟩))⟩ | refine Wop.ix TT rfl rfl rfl rfl rfl (by first | assumption | omega) ⟨⟨trivial, fun _ h => h⟩, rfl, (by repeat (first | exact trivial | refine ⟨fun _ h => h, ?_⟩))⟩ | refine Wop.inc rfl rfl (by omega) ⟨⟨trivial, fun _ h => h⟩, rfl, (by repeat (first | exact trivial | refine ⟨fun _ h => h, ?_⟩))⟩ | refine Wop.add rfl rfl ⟨by omega, by omega⟩ ⟨⟨trivial, fun _ h => h⟩, rfl, (by repeat (first | exact trivial | refine ⟨fun _ h => h, ?_⟩))⟩ | refine Wop.sub rfl rfl ⟨by omega, by omega⟩ ⟨⟨trivial, fun _ h => h⟩, rfl, (by repeat (first | exact trivial | refine ⟨fun _ h => h, ?_⟩))⟩) | exact WopG.no rfl rfl rfl rfl rfl ⟨⟨trivial, fun _ h => h⟩, rfl, (by repeat (first | exact trivial | refine ⟨fun _ h => h, ?_⟩))⟩ | (refine WopG.yes rfl rfl rfl rfl ?_; first | refine Wop.pure TT rfl ⟨⟨trivial, fun _ h => h⟩, rfl, (by repeat (first | exact trivial | refine ⟨fun _ h => h, ?_⟩))⟩ | refine Wop.ldB TT rfl rfl (by first | assumption | exact Blk.ext (by assumption) hG) rfl ⟨⟨trivial, fun _ h => h⟩, rfl, (by repeat (first | exact trivial | refine ⟨fun _ h => h, ?_⟩))⟩ | refine Wop.ld TT rfl rfl (by first | assumption | exact Ext.cell hG (by assumption)) ⟨⟨trivial, fun _ h => h⟩, rfl, (by repeat (first | exact trivial | refine ⟨fun _ h => h, ?_⟩))⟩ | refine Wop.ldA TT rfl rfl rfl (by first | assumption | exact Blk.ext (by assumption) hG) ⟨⟨trivial, fun _ h => h⟩, rfl, (by repeat (first | exact trivial | refine ⟨fun _ h => h, ?_⟩))⟩ | refine Wop.ldR TT rfl rfl rfl (by first | assumption | exact cells_ext hG (by assumption)) ⟨⟨trivial, fun _ h => h⟩, rfl, (by repeat (first | exact trivial | refine ⟨fun _ h => h, ?_⟩))⟩ | refine Wop.ix TT rfl rfl rfl rfl rfl (by first | assumption | omega) ⟨⟨trivial, fun _ h => h⟩, rfl, (by repeat (first | exact trivial | refine ⟨fun _ h => h, ?_⟩))⟩ | refine Wop.inc rfl rfl (by omega) ⟨⟨trivial, fun _ h => h⟩, rfl, (by repeat (first | exact trivial | refine ⟨fun _ h => h, ?_⟩))⟩ | refine Wop.add rfl rfl ⟨by omega, by omega⟩ ⟨⟨trivial, fun _ h => h⟩, rfl, (by repeat (first | exact trivial | refine ⟨fun _ h => h, ?_⟩))⟩ | refine Wop.sub rfl rfl ⟨by omega, by omega⟩ ⟨⟨trivial, fun _ h => h⟩, rfl, (by repeat (first | exact trivial | refine ⟨fun _ h => h, ?_⟩))⟩))) : p := h
end Go.Proofs.YtbadjlhijbkbbaaGreat.Sx
