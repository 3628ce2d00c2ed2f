/-
  Joined by program out of the texts Le7 Le8 Lt10 Lr1 Lr10: lemmas for the proofs of this seat; no condition.
-/
import Derived.Test.YtbadjlhijbkbbaaBj
import Derived.Test.YtbadjlhijbkbbaaBh
import Derived.Test.YtbadjlhijbkbbaaBi
set_option maxHeartbeats 1000000
/-
  The words of symbols, how long they are: the program's and the reference's.
-/
set_option linter.unusedVariables false
namespace Go.Proofs.Ytbadjlhijbkbbaa.Sx
open Go Go.RowKit
section
variable {P : Program} {Q : Exit → Act → World → Prop} {N : Nat} {σ : Sl} {w : World} {K : Value → World → Prop}
variable {d : Option Tmp} {ty : TypeId} {ps : String} {af : Array Edge} {gd : Option (Nat × Bool)}
theorem run_eqP0 {t e : TypeId} (ht : P.underlying t = some (.pointer e)) (w : World) : (Op.equal t (.pointer none) (.pointer none)).run P w = .ok true w := by
  unfold Op.equal
  rw [show Op.maxDepth = 9999 + 1 from rfl, Op.equalIn]
  simp [run_underlying ht]
theorem run_eqP1 {t e : TypeId} {a : Addr} (ht : P.underlying t = some (.pointer e)) (w : World) : (Op.equal t (.pointer (some a)) (.pointer none)).run P w = .ok false w := by
  unfold Op.equal
  rw [show Op.maxDepth = 9999 + 1 from rfl, Op.equalIn]
  simp [run_underlying ht]
theorem binOp_eqP0 {t e : TypeId} (ht : P.underlying t = some (.pointer e)) (w : World) : (binOp .eql t (.pointer none) (.pointer none)).run P w = .ok (.bool true) w := by
  show (do pure (Value.bool (← Op.equal t _ _)) : Sem Value).run P w = _
  simp [run_eqP0 ht]
theorem binOp_eqP1 {t e : TypeId} {a : Addr} (ht : P.underlying t = some (.pointer e)) (w : World) : (binOp .eql t (.pointer (some a)) (.pointer none)).run P w = .ok (.bool false) w := by
  show (do pure (Value.bool (← Op.equal t _ _)) : Sem Value).run P w = _
  simp [run_eqP1 ht]
theorem Wop.ptrNil {t t' e : TypeId} {x : Operand} (ht : P.underlying t = some (.pointer e)) (hx : look σ x = some (.pointer none)) (hk : K (.bool true) w) : Wop P Q N ⟨d, .binOp .eql t x (.const (.pointer none)) t', ty, ps, af, gd⟩ σ w K :=
  Wop.val (v := .bool true) (fun ρ h => by simp [execOp, h x _ hx, h (.const (.pointer none)) _ rfl, eqGuard, binOp_eqP0 ht]) hk
theorem Wop.ptrSome {t t' e : TypeId} {x : Operand} {a : Addr} (ht : P.underlying t = some (.pointer e)) (hx : look σ x = some (.pointer (some a))) (hk : K (.bool false) w) : Wop P Q N ⟨d, .binOp .eql t x (.const (.pointer none)) t', ty, ps, af, gd⟩ σ w K :=
  Wop.val (v := .bool false) (fun ρ h => by simp [execOp, h x _ hx, h (.const (.pointer none)) _ rfl, eqGuard, binOp_eqP1 ht]) hk
end
end Go.Proofs.Ytbadjlhijbkbbaa.Sx
namespace Go.Proofs.Ytbadjlhijbkbbaa
open Go Go.RowKit Sx Found
variable {S S' : Nat → Prop} {w : World} {g : Gram} {A B A0 A1 A2 : Option Addr} {n m c c' c0 c1 c2 : Nat}
namespace Found
def line (o : Option (List Found)) (l : List Int) : List Int × Bool := match o with
  | none => ([], false)
  | some ws => ((join ws l).l, (join ws l).is_ && !(join ws l).long)
def len (o : Option (List Found)) (s : Int) : Int := match o with
  | none => -1
  | some ws => if s < 0 ∨ (ws.length : Int) ≤ s then -1 else if (ws[s.toNat]?.getD no).is_ = false then -1 else if (ws[s.toNat]?.getD no).long = true then 4097 else ((ws[s.toNat]?.getD no).l.length : Int)
end Found
/-- Words, if there are any, as the program has them; as the reference has them. -/
def PW (K : Nat) (w : World) (v : Value) : Option (List Found) → Prop
  | none => v = .pointer none
  | some ws => ∃ p, v = .pointer (some ⟨p, 0, none⟩) ∧ WordsAt w p ws ∧ WsOk K ws
def RW (K : Nat) (w : World) (v : Value) : Option (List Found) → Prop
  | none => v = .pointer none
  | some ws => ∃ p, v = .pointer (some ⟨p, 0, none⟩) ∧ RefAt w p ws ∧ WsOk K ws
theorem PW.ext {K : Nat} {w w' : World} {v : Value} {o : Option (List Found)} (h : PW K w v o) (e : Ext w w') : PW K w' v o := by
  cases o with
  | none => exact h
  | some ws => obtain ⟨p, h1, h2, h3⟩ := h; exact ⟨p, h1, h2.ext e, h3⟩
theorem RW.ext {K : Nat} {w w' : World} {v : Value} {o : Option (List Found)} (h : RW K w v o) (e : Ext w w') : RW K w' v o := by
  cases o with
  | none => exact h
  | some ws => obtain ⟨p, h1, h2, h3⟩ := h; exact ⟨p, h1, h2.ext e, h3⟩
def LineV (w0 : World) (r : List Int × Bool) (v : Value) (w : World) : Prop := ∃ B c, v = .tuple #[.slice B r.1.length c, .bool r.2] ∧ r.1.length ≤ c ∧ tI.Row (fun k => w0.heap.size ≤ k) w B r.1.length r.1
theorem LineV.ext {w0 w w' : World} {r : List Int × Bool} {v : Value} (h : LineV w0 r v w) (e : Ext w w') : LineV w0 r v w' := by
  obtain ⟨B, c, h1, h2, h3⟩ := h
  exact ⟨B, c, h1, h2, h3.ext (by decide) e⟩
theorem gLine {K : Nat} {o : Option (List Found)} {v : Value} {l : List Int} (hw : PW K w v o) (hKb : K ≤ 1000) (hl : tI.Row S w A n l) : Calls Try.prog 46 [v, .slice A n c].toArray w (Ret fun r w' => LineV w (line o l) r w' ∧ Ext w w') := by
  refine enter Try.func46 rfl Try.ntmps46 rfl ?_
  cases o with
  | none =>
    obtain rfl : v = .pointer none := hw
    refine wk ?_
    refine Wop.ptrNil Try.underlying44 rfl ?_
    refine wk ?_
    exact Arr.ret2 rfl rfl rfl ⟨⟨none, 0, rfl, Nat.le_refl _, Ty.Row.nil_ _ _ _ _⟩, Ext.refl _⟩
  | some ws =>
    obtain ⟨p, rfl, hp, hok⟩ := hw
    refine wk ?_
    refine Wop.ptrSome Try.underlying44 rfl ?_
    refine wk ?_
    refine Wop.fn en97 rfl (gJoin hp hok hKb hl) ?_
    rintro _ w1 ⟨⟨B, c, rfl, hc, hr⟩, e1⟩
    refine wk ?_
    refine Wop.alloc (z := .agg #[.bool false, .bool false, .slice none 0 0]) Try.zeroValue106 (fun w2 e2 b2 z2 => ?_)
    refine wk ?_
    refine Wop.stB TT rfl rfl rfl (by simp [Value.oneCell']) b2 rfl (fun w3 h3 b3 z3 k3 => ?_)
    have e13 : Ext w1 w3 := Below.trans e2 h3
    cases q1 : (join ws l).is_ with
    | false =>
      rw [q1] at b3
      refine wk ?_
      refine W.any Ext [.eq _, .eq _, .eq _, .eq _, .eq _, .eq _, .eq _, .eq _, .eq _, .eq _, .eq _] [9, 10] mixed rfl Ext.refl Ext.trans Ext.drew ⟨qs, qs, qs, qs, qs, qs, qs, qs, qs, qs, qs, trivial⟩ ?_
      rintro wq eq_ _ ⟨⟩ _ ⟨⟩
      refine wk ?_
      refine Arr.ret2 rfl rfl rfl ⟨⟨B, c, ?_, hc, hr.ext (by decide) (e13.trans eq_)⟩, e1.trans (e13.trans eq_)⟩
      simp [line, q1]
    | true =>
      rw [q1] at b3
      refine wk ?_
      refine W.any Ext [.eq _, .eq _, .eq _, .eq _, .eq _, .eq _, .eq _, .eq _, .eq _, .eq _, .eq _] [9, 10] mixed rfl Ext.refl Ext.trans Ext.drew ⟨qs, qs, qs, qs, qs, qs, qs, qs, qs, qs, qs, trivial⟩ ?_
      rintro wq eq_ _ ⟨⟩ _ ⟨⟩
      refine wk ?_
      refine Arr.ret2 rfl rfl rfl ⟨⟨B, c, ?_, hc, hr.ext (by decide) (e13.trans eq_)⟩, e1.trans (e13.trans eq_)⟩
      simp [line, q1]
theorem rLine {K : Nat} {o : Option (List Found)} {v : Value} {l : List Int} (hw : RW K w v o) (hKb : K ≤ 1000) (hl : tI.Row S w A n l) : Calls Try.prog 42 [v, .slice A n c].toArray w (Ret fun r w' => LineV w (line o l) r w' ∧ Ext w w') := by
  refine enter Try.func42 rfl Try.ntmps42 rfl ?_
  cases o with
  | none =>
    obtain rfl : v = .pointer none := hw
    refine wk ?_
    refine Wop.ptrNil Try.underlying46 rfl ?_
    refine wk ?_
    exact Arr.ret2 rfl rfl rfl ⟨⟨none, 0, rfl, Nat.le_refl _, Ty.Row.nil_ _ _ _ _⟩, Ext.refl _⟩
  | some ws =>
    obtain ⟨p, rfl, hp, hok⟩ := hw
    refine wk ?_
    refine Wop.ptrSome Try.underlying46 rfl ?_
    refine wk ?_
    refine Wop.fn en99 rfl (rJoin hp hok hKb hl) ?_
    rintro _ w1 ⟨⟨B, c, rfl, hc, hr⟩, e1⟩
    refine wk ?_
    refine Wl.partB rfl rfl rfl (fun q1 => ?_) (fun q1 => ?_)
    · refine wk ?_
      refine Arr.ret2 rfl rfl rfl ⟨⟨B, c, ?_, hc, hr⟩, e1⟩
      simp [line, q1]
    · refine wk ?_
      refine Arr.ret2 rfl rfl rfl ⟨⟨B, c, ?_, hc, hr⟩, e1⟩
      simp [line, q1]
theorem gWord {K : Nat} {o : Option (List Found)} {v : Value} {s : Int} (hw : PW K w v o) (hKb : K ≤ 1000) (hs : I64 s) : Calls Try.prog 41 [v, .int .i64 s].toArray w (Ret fun r w' => LineV w (line o [s]) r w' ∧ Ext w w') := by
  refine enter Try.func41 rfl Try.ntmps41 rfl ?_
  refine wk ?_
  refine Wop.litI rfl (fun w1 e1 b1 z1 => ?_)
  refine wk ?_
  refine Wop.fn en46 rfl (gLine (S := fun _ => True) (hw.ext e1) hKb (Sx.Blk.rowI b1 hs)) ?_
  rintro _ w2 ⟨⟨B, c, rfl, hc, hr⟩, e2⟩
  refine wk ?_
  exact Arr.ret2 rfl rfl rfl ⟨⟨B, c, rfl, hc, hr.mono (fun k hk => by have := e1.size; omega)⟩, e1.trans e2⟩
theorem len_out {ws : List Found} {s : Int} (h : s < 0 ∨ (ws.length : Int) ≤ s) : len (some ws) s = -1 := by
  rw [len, if_pos h]
theorem len_in {ws : List Found} {s : Int} (h0 : ¬ s < 0) (h1 : ¬ (ws.length : Int) ≤ s) (hin : s.toNat < ws.length) : len (some ws) s = if ws[s.toNat].is_ = false then -1 else if ws[s.toNat].long = true then 4097 else (ws[s.toNat].l.length : Int) := by
  rw [len, if_neg (by omega), List.getElem?_eq_getElem hin, Option.getD_some]
theorem gLen {K : Nat} {o : Option (List Found)} {v : Value} {s : Int} (hw : PW K w v o) : Calls Try.prog 43 [v, .int .i64 s].toArray w (Ret fun r w' => r = .int .i64 (len o s) ∧ Ext w w') := by
  refine enter Try.func43 rfl Try.ntmps43 rfl ?_
  cases o with
  | none =>
    obtain rfl : v = .pointer none := hw
    refine wk ?_
    refine Wop.ptrNil Try.underlying44 rfl ?_
    refine wk ?_
    exact Arr.ret1 rfl rfl ⟨rfl, Ext.refl _⟩
  | some ws =>
    obtain ⟨p, rfl, ⟨b, cw, wp, wc, w1000, wpb, wm⟩, hok⟩ := hw
    refine wk ?_
    refine Wop.ptrSome Try.underlying44 rfl ?_
    refine wk ?_
    refine Wl.part rfl rfl rfl (fun q1 => ?_) (fun q1 => ?_)
    · refine wk ?_
      exact Arr.ret1 rfl rfl ⟨by rw [len_out (.inl q1)], Ext.refl _⟩
    refine wk ?_
    refine Wl.part rfl rfl rfl (fun q2 => ?_) (fun q2 => ?_)
    · refine wk ?_
      exact Arr.ret1 rfl rfl ⟨by rw [len_out (.inr q2)], Ext.refl _⟩
    have hin : s.toNat < ws.length := by omega
    obtain ⟨es, hrd, hcw⟩ := wm.at_ s.toNat hin
    obtain ⟨X, xc, rfl, hxc, hxr⟩ := tFound_open hrd
    have hx0 := hcw 0 _ rfl
    have hx1 := hcw 1 _ rfl
    have hx2 := hcw 2 _ rfl
    have hl := len_in q1 q2 hin
    refine wk ?_
    refine Wop.ixI TT s.toNat rfl rfl rfl rfl rfl (by omega) hin ?_
    refine wk ?_
    refine W.cond rfl (fun q3 => ?_) (fun q3 => ?_)
    · refine wk ?_
      exact Arr.ret1 rfl rfl ⟨by rw [hl, if_pos (by simpa using q3)], Ext.refl _⟩
    refine wk ?_
    refine Wop.ixI TT s.toNat rfl rfl rfl rfl rfl (by omega) hin ?_
    refine wk ?_
    refine W.cond rfl (fun q4 => ?_) (fun q4 => ?_)
    · refine wk ?_
      exact Arr.ret1 rfl rfl ⟨by rw [hl, if_neg (by simpa using q3), if_pos q4], Ext.refl _⟩
    · refine wk ?_
      refine Wop.ixI TT s.toNat rfl rfl rfl rfl rfl (by omega) hin ?_
      refine wk ?_
      exact Arr.ret1 rfl rfl ⟨by rw [hl, if_neg (by simpa using q3), if_neg (by simp [q4])], Ext.refl _⟩
theorem rLen {K : Nat} {o : Option (List Found)} {v : Value} {s : Int} (hw : RW K w v o) : Calls Try.prog 44 [v, .int .i64 s].toArray w (Ret fun r w' => r = .int .i64 (len o s) ∧ Ext w w') := by
  refine enter Try.func44 rfl Try.ntmps44 rfl ?_
  cases o with
  | none =>
    obtain rfl : v = .pointer none := hw
    refine wk ?_
    refine Wop.ptrNil Try.underlying46 rfl ?_
    refine wk ?_
    exact Arr.ret1 rfl rfl ⟨rfl, Ext.refl _⟩
  | some ws =>
    obtain ⟨p, rfl, ⟨b1, b2, b3, k1, k2, k3, wp, wc, w1000, wr⟩, hok⟩ := hw
    refine wk ?_
    refine Wop.ptrSome Try.underlying46 rfl ?_
    refine wk ?_
    refine Wl.part rfl rfl rfl (fun q1 => ?_) (fun q1 => ?_)
    · refine wk ?_
      exact Arr.ret1 rfl rfl ⟨by rw [len_out (.inl q1)], Ext.refl _⟩
    refine wk ?_
    refine Wl.part rfl rfl rfl (fun q2 => ?_) (fun q2 => ?_)
    · refine wk ?_
      exact Arr.ret1 rfl rfl ⟨by rw [len_out (.inr q2)], Ext.refl _⟩
    have hin : s.toNat < ws.length := by omega
    obtain ⟨X, xc, x1, hxc, hxr, x2, x3⟩ := wr.get s.toNat hin
    have hl := len_in q1 q2 hin
    refine wk ?_
    refine Wop.ixI TT s.toNat rfl rfl rfl rfl rfl (by omega) hin ?_
    refine wk ?_
    refine W.cond rfl (fun q3 => ?_) (fun q3 => ?_)
    · refine wk ?_
      exact Arr.ret1 rfl rfl ⟨by rw [hl, if_pos (by simpa using q3)], Ext.refl _⟩
    refine wk ?_
    refine Wop.ixI TT s.toNat rfl rfl rfl rfl rfl (by omega) hin ?_
    refine wk ?_
    refine W.cond rfl (fun q4 => ?_) (fun q4 => ?_)
    · refine wk ?_
      exact Arr.ret1 rfl rfl ⟨by rw [hl, if_neg (by simpa using q3), if_pos q4], Ext.refl _⟩
    · refine wk ?_
      refine Wop.ixI TT s.toNat rfl rfl rfl rfl rfl (by omega) hin ?_
      refine wk ?_
      exact Arr.ret1 rfl rfl ⟨by rw [hl, if_neg (by simpa using q3), if_neg (by simp [q4])], Ext.refl _⟩
end Go.Proofs.Ytbadjlhijbkbbaa

/-
  The second layer's trial, and the walk of LeastTells.
-/
set_option linter.unusedVariables false
namespace Go.Proofs.Ytbadjlhijbkbbaa
open Go Go.RowKit Sx Found
variable {S S' : Nat → Prop} {w : World} {g : Gram} {A B A0 A1 A2 : Option Addr} {n m c c' c0 c1 c2 : Nat}
def gB : Gram := ⟨["A".toUTF8, "B".toUTF8], ["s".toUTF8], [⟨3, [1, 3]⟩, ⟨3, [2]⟩], 3⟩
theorem gB_check : gB.check = 0 := by decide +kernel
def wsB : List Found := [⟨true, false, []⟩, ⟨true, false, [1]⟩, ⟨true, false, [2]⟩, ⟨true, false, [2]⟩]
theorem fixB : Fix gB.rules (init gB.terms.length gB.nons.length) wsB := ⟨1, by decide +kernel, by decide +kernel⟩
theorem leastB {ws : List Found} (h : Least gB ws) : ws = wsB := h.fix.unique fixB
theorem least_K {g : Gram} (h : g.check = 0) : g.terms.length ≤ 1000 := by have := (Gram.may h).fewT; omega
theorem awake10 : Calls Try.prog 38 [].toArray w (Ret fun v w' => v = .bool true ∧ Ext w w') := by
  refine enter Try.func38 rfl Try.ntmps38 rfl ?_
  refine wk ?_
  refine Wop.buildSlice (cs := #[.string "A".toUTF8, .string "B".toUTF8]) (z := .string ⟨#[]⟩) TT rfl rfl rfl Try.zeroValue9 rfl rfl rfl rfl (fun w1 e1 b1 z1 => ?_)
  refine wk ?_
  refine Wop.buildSlice (cs := #[.string "s".toUTF8]) (z := .string ⟨#[]⟩) TT rfl rfl rfl Try.zeroValue9 rfl rfl rfl rfl (fun w2 e2 b2 z2 => ?_)
  refine wk ?_
  refine Wop.buildSlice (cs := #[.int .i64 1, .int .i64 3]) (z := .int .i64 0) TT rfl rfl rfl Try.zeroValue3 rfl rfl rfl rfl (fun w3 e3 b3 z3 => ?_)
  refine wk ?_
  refine Wop.make (cs := #[.int .i64 3, .slice (some ⟨w2.heap.size, 0, none⟩) 2 2]) pl30 rfl rfl ?_
  refine wk ?_
  refine Wop.buildSlice (cs := #[.int .i64 2]) (z := .int .i64 0) TT rfl rfl rfl Try.zeroValue3 rfl rfl rfl rfl (fun w4 e4 b4 z4 => ?_)
  refine wk ?_
  refine Wop.make (cs := #[.int .i64 3, .slice (some ⟨w3.heap.size, 0, none⟩) 1 1]) pl30 rfl rfl ?_
  refine wk ?_
  refine Wop.buildSlice (cs := #[.int .i64 3, .slice (some ⟨w2.heap.size, 0, none⟩) 2 2, .int .i64 3, .slice (some ⟨w3.heap.size, 0, none⟩) 1 1]) (z := .agg #[.int .i64 0, .slice none 0 0]) TT rfl rfl rfl Try.zeroValue30 rfl rfl rfl rfl (fun w5 e5 b5 z5 => ?_)
  refine wk ?_
  refine Wop.make (cs := (gcells gB (some ⟨w.heap.size, 0, none⟩) (some ⟨w1.heap.size, 0, none⟩) (some ⟨w4.heap.size, 0, none⟩) 2 1 2).toArray) pl25 rfl rfl ?_
  refine wk ?_
  refine Wop.alloc (z := .agg #[.slice none 0 0, .slice none 0 0, .slice none 0 0, .int .i64 0]) Try.zeroValue25 (fun w6 e6 b6 z6 => ?_)
  refine wk ?_
  refine Wop.stB TT rfl rfl rfl (by simp [Value.oneCell']) b6 rfl (fun w7 h7 b7 z7 k7 => ?_)
  have e57 : Ext w5 w7 := Below.trans e6 h7
  have e47 := e5.trans e57
  have e37 := e4.trans e47
  have e27 := e3.trans e37
  have e17 := e2.trans e27
  have e07 := e1.trans e17
  have i64 : ∀ n : Int, 0 ≤ n → n < 100 → Ty.InK .i64 n := fun n h1 h2 => Ty.InK.of64 ⟨by omega, by omega⟩
  have hg : GramAt (fun _ => True) w7 gB (some ⟨w.heap.size, 0, none⟩) (some ⟨w1.heap.size, 0, none⟩) (some ⟨w4.heap.size, 0, none⟩) 2 1 2 := by
    refine ⟨Blk.rowL (xs := gB.terms) (b1.ext e17) ⟨[_], _, rfl, ⟨rfl, by decide⟩, [_], _, rfl, ⟨rfl, by decide⟩, rfl⟩ trivial (by decide), Blk.rowL (xs := gB.nons) (b2.ext e27) ⟨[_], _, rfl, ⟨rfl, by decide⟩, rfl⟩ trivial (by decide),
      Blk.rowL (xs := gB.rules) (b5.ext e57) ⟨[_, _], _, rfl, ⟨[_], [_], rfl, ⟨rfl, i64 _ (by decide) (by decide)⟩, _, _, _, rfl, Nat.le_refl _, ?_⟩, [_, _], _, rfl, ⟨[_], [_], rfl, ⟨rfl, i64 _ (by decide) (by decide)⟩, _, _, _, rfl, Nat.le_refl _, ?_⟩, rfl⟩ trivial (by decide), ⟨by decide, by decide⟩, by decide, by decide, by decide⟩
    · exact Blk.rowL (D := tI) (xs := [1, 3]) (b3.ext e37) ⟨[_], _, rfl, ⟨rfl, i64 _ (by decide) (by decide)⟩, [_], _, rfl, ⟨rfl, i64 _ (by decide) (by decide)⟩, rfl⟩ trivial (by decide)
    · exact Blk.rowL (D := tI) (xs := [2]) (b4.ext e47) ⟨[_], _, rfl, ⟨rfl, i64 _ (by decide) (by decide)⟩, rfl⟩ trivial (by decide)
  refine wk ?_
  refine Wop.fn en39 rfl (gLeast hg) ?_
  rintro v w8 ⟨hv, e8⟩
  rw [if_pos gB_check] at hv
  obtain ⟨p, ws, rfl, hp, hL⟩ := hv
  obtain rfl := leastB hL
  have pw : PW gB.terms.length w8 (.pointer (some ⟨p, 0, none⟩)) (some wsB) := ⟨p, rfl, hp, hL.ok⟩
  refine wk ?_
  refine Wop.fn en41 rfl (gWord pw (by decide) ⟨by decide, by decide⟩) ?_
  rintro _ w9 ⟨⟨X, xc, rfl, hxc, hxr⟩, e9⟩
  rw [show line (some wsB) [3] = ([2], true) by decide +kernel] at hxc hxr ⊢
  obtain ⟨b, o, rfl, es, ⟨rfl, hs⟩, hcc⟩ := hxr.at_ 0 (by decide)
  have hcell := hcc 0 _ rfl
  refine wk ?_
  refine Wop.fn en43 rfl (gLen (pw.ext e9)) ?_
  rintro _ w10 ⟨rfl, e10⟩
  rw [show len (some wsB) 3 = 1 by decide +kernel]
  refine wk ?_
  refine Wop.fn en43 rfl (gLen (pw.ext (e9.trans e10))) ?_
  rintro _ w11 ⟨rfl, e11⟩
  rw [show len (some wsB) 1 = 1 by decide +kernel]
  refine wk ?_
  refine Wop.fn en43 rfl (gLen (pw.ext (e9.trans (e10.trans e11)))) ?_
  rintro _ w12 ⟨rfl, e12⟩
  rw [show len (some wsB) 9 = -1 by decide +kernel]
  have e9c := e10.trans (e11.trans e12)
  refine wk ?_
  refine Wop.ixI TT 0 rfl rfl rfl rfl rfl rfl (by decide) ?_
  refine wk ?_
  exact Arr.ret1 rfl rfl ⟨rfl, e07.trans (e8.trans (e9.trans e9c))⟩
/-- Of a grammar: its words, if it may be. -/
def LeastO (g : Gram) (o : Option (List Found)) : Prop := match o with
  | none => g.check ≠ 0
  | some ws => g.check = 0 ∧ Least g ws
theorem LeastO.unique {g : Gram} {a b : Option (List Found)} (ha : LeastO g a) (hb : LeastO g b) : a = b := by
  cases a with
  | none =>
    cases b with
    | none => rfl
    | some y => exact absurd hb.1 ha
  | some x =>
    cases b with
    | none => exact absurd ha.1 hb
    | some y => rw [ha.2.fix.unique hb.2.fix]
theorem gLeastO (hg : GramAt S w g A0 A1 A2 c0 c1 c2) : Calls Try.prog 39 [.agg (gcells g A0 A1 A2 c0 c1 c2).toArray].toArray w (Ret fun v w' => (∃ o, LeastO g o ∧ PW g.terms.length w' v o) ∧ Ext w w') :=
  Calls.mono (gLeast hg) (fun e w' ⟨v, h1, h2, h3⟩ => ⟨v, h1, by
    by_cases hc : g.check = 0
    · rw [if_pos hc] at h2
      obtain ⟨p, ws, rfl, hp, hL⟩ := h2
      exact ⟨some ws, ⟨hc, hL⟩, p, rfl, hp, hL.ok⟩
    · rw [if_neg hc] at h2
      exact ⟨none, hc, h2⟩, h3⟩)
theorem rLeastO (hg : GramAt S w g A0 A1 A2 c0 c1 c2) : Calls Try.prog 40 [.agg (gcells g A0 A1 A2 c0 c1 c2).toArray].toArray w (Ret fun v w' => (∃ o, LeastO g o ∧ RW g.terms.length w' v o) ∧ Ext w w') :=
  Calls.mono (rLeast hg) (fun e w' ⟨v, h1, h2, h3⟩ => ⟨v, h1, by
    by_cases hc : g.check = 0
    · rw [if_pos hc] at h2
      obtain ⟨p, ws, rfl, hp, hL⟩ := h2
      exact ⟨some ws, ⟨hc, hL⟩, p, rfl, hp, hL.ok⟩
    · rw [if_neg hc] at h2
      exact ⟨none, hc, h2⟩, h3⟩)
end Go.Proofs.Ytbadjlhijbkbbaa

/-
  The walk of LeastTells.
-/
set_option linter.unusedVariables false
namespace Go.Proofs.Ytbadjlhijbkbbaa
open Go Go.RowKit Sx Found
variable {S S' : Nat → Prop} {w : World} {g : Gram} {A B A0 A1 A2 : Option Addr} {n m c c' c0 c1 c2 : Nat}
def pwF (g : Gram) : Fact Ext := ⟨fun v w => ∃ o, LeastO g o ∧ PW g.terms.length w v o, fun e h => by
  obtain ⟨o, h1, h2⟩ := h
  exact ⟨o, h1, h2.ext e⟩⟩
def rwF (g : Gram) : Fact Ext := ⟨fun v w => ∃ o, LeastO g o ∧ RW g.terms.length w v o, fun e h => by
  obtain ⟨o, h1, h2⟩ := h
  exact ⟨o, h1, h2.ext e⟩⟩
section
variable {Q : Exit → Act → World → Prop} {N : Nat} {σ : Sl} {K : Value → World → Prop}
variable {d : Option Tmp} {ty : TypeId} {ps : String} {af : Array Edge} {gd : Option (Nat × Bool)}
theorem Wop.nilP {k : Nat} {t' : TypeId} {x : Operand} {v : Value} {o : Option (List Found)} (h : PW k w v o) (hx : Sx.look σ x = some v) (hk : K (.bool o.isNone) w) : Wop Try.prog Q N ⟨d, .binOp .eql 44 x (.const (.pointer none)) t', ty, ps, af, gd⟩ σ w K := by
  cases o with
  | none =>
    obtain rfl : v = .pointer none := h
    exact Wop.ptrNil Try.underlying44 hx hk
  | some ws =>
    obtain ⟨p, rfl, _⟩ := h
    exact Wop.ptrSome Try.underlying44 hx hk
theorem Wop.nilR {k : Nat} {t' : TypeId} {x : Operand} {v : Value} {o : Option (List Found)} (h : RW k w v o) (hx : Sx.look σ x = some v) (hk : K (.bool o.isNone) w) : Wop Try.prog Q N ⟨d, .binOp .eql 46 x (.const (.pointer none)) t', ty, ps, af, gd⟩ σ w K := by
  cases o with
  | none =>
    obtain rfl : v = .pointer none := h
    exact Wop.ptrNil Try.underlying46 hx hk
  | some ws =>
    obtain ⟨p, rfl, _⟩ := h
    exact Wop.ptrSome Try.underlying46 hx hk
end
set_option maxRecDepth 20000 in
set_option maxHeartbeats 1000000 in
theorem lawTells {l : List Int} (hg : GramAt S w g A0 A1 A2 c0 c1 c2) (hl : tI.Row S' w A n l) : Calls Try.prog 6 [.agg (gcells g A0 A1 A2 c0 c1 c2).toArray, .slice A n c].toArray w (Ret fun v w' => v = .bool true ∧ Ext w w') := by
  have hlm := hl.2.1
  refine enter Try.func6 rfl Try.ntmps6 rfl ?_
  refine wk ?_
  refine Wop.box rfl (fun w1 e1 b1 z1 => ?_)
  have hg1 := hg.ext e1
  have out : ∀ w', Ext w1 w' → Value.bool true = .bool true ∧ Ext w w' := fun w' e => ⟨rfl, e1.trans e⟩
  refine wk ?_
  refine Wop.fn en14 rfl (gMuch hg1) ?_
  rintro _ w2 ⟨rfl, e2⟩
  refine wk ?_
  refine Wl.part rfl rfl rfl (fun p => ?_) (fun p => ?_)
  · refine wk ?_
    refine Wop.fn en38 rfl awake10 ?_
    rintro _ w5 ⟨rfl, e5⟩
    refine wk ?_
    exact Arr.ret1 rfl rfl (out _ (e2.trans e5))
  have hK : g.terms.length ≤ 1000 ∧ g.nons.length ≤ 1000 := by
    simp only [Gram.much] at p
    omega
  obtain ⟨hK, hNn⟩ := hK
  refine wk ?_
  refine W.test rfl (fun q => ?_) (fun q => ?_)
  · refine wk ?_
    refine Wop.fn en38 rfl awake10 ?_
    rintro _ w5 ⟨rfl, e5⟩
    refine wk ?_
    exact Arr.ret1 rfl rfl (out _ (e2.trans e5))
  have hg2 := hg1.ext e2
  have b2 := b1.ext e2
  refine wk ?_
  refine W.any Ext [.eq _, (pwF g), .eq _, (rwF g), (pwF g), (rwF g)] [4, 5] mixed rfl Ext.refl Ext.trans Ext.drew ⟨qs, by intro w_ hG; (repeat (intro v_ hv_; cases hv_)); exact WopG.plain rfl (Wop.fn en39 rfl (gLeastO (hg2.ext hG)) (fun v w' h => ⟨h.2, h.1⟩)), qs, by intro w_ hG; (repeat (intro v_ hv_; cases hv_)); exact WopG.plain rfl (Wop.fn en40 rfl (rLeastO (hg2.ext hG)) (fun v w' h => ⟨h.2, h.1⟩)), by intro w_ hG v h; exact WopG.plain rfl (Wop.pure TT rfl ⟨Ext.refl _, h⟩), by intro w_ hG v h; exact WopG.plain rfl (Wop.pure TT rfl ⟨Ext.refl _, h⟩), trivial⟩ ?_
  rintro wq eq_ v4 h4 v5 h5
  obtain ⟨o, ho, hp⟩ := h4
  obtain ⟨o', ho', hr⟩ := h5
  obtain rfl := ho.unique ho'
  have e3 := e2.trans eq_
  have hg3 := hg2.ext eq_
  have b3 := b2.ext eq_
  clear eq_
  refine wk ?_
  refine Wop.nilP hp rfl ?_
  refine wk ?_
  refine Wop.nilR hr rfl ?_
  refine wk ?_
  refine W.cond rfl (fun q => ?_) (fun q => ?_)
  · exact absurd q (by simp)
  have htop : g.top = (g.terms.length : Int) + g.nons.length := rfl
  refine wk ?_
  refine W.midB (ι := Unit) (fun _ => [(1, .slice A n c), (5, v4), (6, v5)]) (fun _ w' => Ext wq w') ?_ ?_
  · refine W.loop (ι := Nat) (fun i => [(2, .pointer (some ⟨w.heap.size, 0, none⟩)), (1, .slice A n c), (5, v4), (6, v5), (7, .int .i64 ((i : Int) - 1))])
      (fun i w' => Ext wq w' ∧ (i : Int) ≤ g.top + 3) (fun i => g.terms.length + g.nons.length + 3 - i) 0 has ⟨Ext.refl _, by omega⟩ ?_
    rintro i w' ⟨hE, hi⟩
    refine wk ?_
    refine Wop.fn en21 rfl (rTop (hg3.ext hE)) ?_
    rintro _ w4 ⟨rfl, e4⟩
    have e4' := hE.trans e4
    refine wk ?_
    refine W.test rfl (fun hlt => ?_) (fun hge => ?_)
    · refine wk ?_
      refine Wop.fn en41 rfl (gWord (hp.ext e4') hK ⟨by omega, by omega⟩) ?_
      rintro _ w5 ⟨⟨X, xc, rfl, hxc, hxr⟩, e5⟩
      refine wk ?_
      refine Wop.litI rfl (fun w6 e6 b6 z6 => ?_)
      have e46 := e4'.trans (e5.trans e6)
      refine wk ?_
      refine Wop.fn en42 rfl (rLine (S := fun _ => True) (hr.ext e46) hK (Sx.Blk.rowI b6 ⟨by omega, by omega⟩)) ?_
      rintro _ w7 ⟨⟨Y, yc, rfl, hyc, hyr⟩, e7⟩
      have e47 := e46.trans e7
      refine wk ?_
      refine Wop.fn en43 rfl (gLen (hp.ext e47)) ?_
      rintro _ w8 ⟨rfl, e8⟩
      refine wk ?_
      refine Wop.fn en44 rfl (rLen (hr.ext (e47.trans e8))) ?_
      rintro _ w9 ⟨rfl, e9⟩
      have e49 := e47.trans (e8.trans e9)
      refine wk ?_
      refine Wl.part rfl rfl rfl (fun q => ?_) (fun q => ?_)
      · exact absurd rfl q
      refine wk ?_
      refine Wl.partB rfl rfl rfl (fun q => ?_) (fun q => ?_)
      · exact absurd q (by simp)
      refine wk ?_
      refine Wop.fn en45 rfl (r3Ints (hxr.ext (by decide) (e6.trans (e7.trans (e8.trans e9)))) (hyr.ext (by decide) (e8.trans e9))) ?_
      rintro _ w10 ⟨rfl, e10⟩
      refine wk ?_
      refine W.cond rfl (fun q => ?_) (fun q => ?_)
      · exact absurd q (by simp)
      refine wk ?_
      refine Arr.again (i + 1) (Has.cons rfl (Has.cons rfl (Has.cons rfl (Has.cons rfl (Has.consI rfl (by omega) Has.nil))))) ⟨e49.trans e10, by omega⟩ (by omega)
    · refine wk ?_
      exact Arr.mid () has e4'
  rintro _ w4 e4
  have e34 := e3.trans e4
  refine wk ?_
  refine Wop.fn en46 rfl (gLine (hp.ext e4) hK (hl.ext (by decide) (e1.trans e34))) ?_
  rintro _ w5 ⟨⟨X, xc, rfl, hxc, hxr⟩, e5⟩
  refine wk ?_
  refine Wop.fn en42 rfl (rLine (hr.ext (e4.trans e5)) hK (hl.ext (by decide) (e1.trans (e34.trans e5)))) ?_
  rintro _ w6 ⟨⟨Y, yc, rfl, hyc, hyr⟩, e6⟩
  refine wk ?_
  refine Wl.partB rfl rfl rfl (fun q => ?_) (fun q => ?_)
  rotate_left
  · exact absurd q (by simp)
  refine wk ?_
  refine Wop.fn en45 rfl (r3Ints (hxr.ext (by decide) e6) hyr) ?_
  rintro _ w7 ⟨rfl, e7⟩
  refine wk ?_
  refine Wl.partB rfl rfl rfl (fun q => ?_) (fun q => ?_)
  rotate_left
  · exact absurd q (by simp)
  refine wk ?_
  refine Wop.fn en38 rfl awake10 ?_
  rintro _ w8 ⟨rfl, e8⟩
  refine wk ?_
  exact Arr.ret1 rfl rfl (out _ (e34.trans (e5.trans (e6.trans (e7.trans e8)))))
end Go.Proofs.Ytbadjlhijbkbbaa

/-
  No rule's right side has a lesser word than its left side, and one of them has that one: plain functions, no program.
-/
set_option linter.unusedVariables false
namespace Go.Proofs.Ytbadjlhijbkbbaa
open Go Go.RowKit Sx Found
theorem getD_get {ws : List Found} {i : Nat} (h : i < ws.length) : ws[i]?.getD no = ws[i] := by rw [List.getElem?_eq_getElem h]; rfl
theorem join_one {K : Nat} {ws : List Found} (hw : WsOk K ws) {s : Int} (h0 : 0 ≤ s) (h1 : s < ws.length) : join ws [s] = ws[s.toNat]?.getD no := by
  have hf := hw.get s.toNat
  rw [join, joinFrom, if_neg (by omega)]
  simp only
  generalize ws[s.toNat]?.getD no = x at hf
  by_cases h : x.is_ = false
  · rw [if_pos h]
    have h2 := hf.dead (.inl h)
    have h3 := hf.nolong h
    cases x
    simp only at h h2 h3
    subst h h2 h3
    rfl
  · rw [if_neg h]
    have hl := hf.len
    have hb : decide (4096 < ([] : List Int).length + x.l.length) = false := decide_eq_false (by simp; omega)
    rw [hb, joinFrom]
    cases hx : x.long with
    | true =>
      have h2 := hf.dead (.inr hx)
      cases x
      simp only at h h2 hx
      subst h2 hx
      simp at h
      simp [h]
    | false =>
      cases x
      simp only at h hx
      subst hx
      simp at h
      simp [h]
/-- No greater. -/
def LeF (K : Nat) (x y : Found) : Prop := y.is_ = true → x.is_ = true ∧ (y.long = false → x.long = false ∧ val (K + 1) x.l ≤ val (K + 1) y.l)
theorem LeF.refl (K : Nat) (x : Found) : LeF K x x := fun h => ⟨h, fun h => ⟨h, Nat.le_refl _⟩⟩
theorem LeF.trans {K : Nat} {x y z : Found} (h : LeF K x y) (k : LeF K y z) : LeF K x z := fun hz => by
  obtain ⟨h1, h2⟩ := k hz
  obtain ⟨h3, h4⟩ := h h1
  exact ⟨h3, fun hl => by obtain ⟨h5, h6⟩ := h2 hl; obtain ⟨h7, h8⟩ := h4 h5; exact ⟨h7, Nat.le_trans h8 h6⟩⟩
theorem better_le {K : Nat} {x y : Found} (hx : FOk K x) (hy : FOk K y) (h : better x y = true) : LeF K x y := by
  intro hyi
  unfold better at h
  cases h1 : x.is_ with
  | false => rw [h1, if_pos rfl] at h; cases h
  | true =>
    rw [h1, if_neg (by simp), hyi, if_neg (by simp)] at h
    refine ⟨rfl, fun hl => ?_⟩
    cases h3 : x.long with
    | true => rw [h3, hl] at h; simp at h
    | false =>
      rw [h3, hl] at h
      simp at h
      exact ⟨rfl, Nat.le_of_lt (val_shortLt hx.range hy.range h)⟩
theorem len_le {K : Nat} {a b : List Int} (ha : ∀ x ∈ a, 1 ≤ x ∧ x ≤ (K : Int)) (hb : ∀ x ∈ b, 1 ≤ x ∧ x ≤ (K : Int)) (h : val (K + 1) a ≤ val (K + 1) b) : a.length ≤ b.length := by
  rcases Nat.lt_or_ge b.length a.length with h1 | h1
  · have := val_short hb ha h1
    omega
  · exact h1
theorem val_append (B : Nat) : ∀ (a b : List Int), val B (a ++ b) = val B a * B ^ b.length + val B b
  | [], b => by simp [val]
  | d :: a, b => by
    simp only [List.cons_append, val, val_append B a b, List.length_append, Nat.pow_add, Nat.add_mul, Nat.mul_assoc]
    omega
theorem val_append_le {K : Nat} {a a' b b' : List Int} (hb : ∀ x ∈ b, 1 ≤ x ∧ x ≤ (K : Int)) (hb' : ∀ x ∈ b', 1 ≤ x ∧ x ≤ (K : Int)) (h1 : val (K + 1) a' ≤ val (K + 1) a) (h2 : val (K + 1) b' ≤ val (K + 1) b) : val (K + 1) (a' ++ b') ≤ val (K + 1) (a ++ b) := by
  rw [val_append, val_append]
  have hl := len_le hb' hb h2
  have h3 : (K + 1) ^ b'.length ≤ (K + 1) ^ b.length := Nat.pow_le_pow_right (by omega) hl
  have := Nat.mul_le_mul h1 h3
  omega
def WsLe (K : Nat) (ws ws' : List Found) : Prop := ws.length = ws'.length ∧ ∀ i : Nat, LeF K (ws[i]?.getD no) (ws'[i]?.getD no)
theorem joinFrom_mono {K : Nat} {ws ws' : List Found} (h : WsLe K ws ws') (hw : WsOk K ws) (hw' : WsOk K ws') : ∀ (l : List Int) (out out' : Found), (∀ x ∈ out.l, 1 ≤ x ∧ x ≤ (K : Int)) → (∀ x ∈ out'.l, 1 ≤ x ∧ x ≤ (K : Int)) →
    (out'.long = false → out.long = false ∧ val (K + 1) out.l ≤ val (K + 1) out'.l) → LeF K (joinFrom ws l out) (joinFrom ws' l out')
  | [], out, out', _, _, hle => by
    intro _
    rw [joinFrom, joinFrom]
    refine ⟨rfl, fun hl => ?_⟩
    simp only at hl ⊢
    obtain ⟨h1, h2⟩ := hle hl
    rw [h1, hl]
    exact ⟨rfl, h2⟩
  | s :: r, out, out', ho, ho', hle => by
    rw [joinFrom.eq_2 ws', joinFrom.eq_2 ws]
    by_cases hr : s < 0 ∨ (ws'.length : Int) ≤ s
    · rw [if_pos hr]
      intro hi
      cases hi
    · rw [if_neg hr, if_neg (by have := h.1; omega)]
      simp only
      have hx := hw.get s.toNat
      have hx' := hw'.get s.toNat
      have hxx := h.2 s.toNat
      by_cases hi' : (ws'[s.toNat]?.getD no).is_ = false
      · rw [if_pos hi']
        intro hi
        cases hi
      · rw [if_neg hi']
        obtain ⟨g1, g2⟩ := hxx (by simpa using hi')
        rw [if_neg (by simp [g1])]
        refine joinFrom_mono h hw hw' r _ _ ?_ ?_ ?_
        · simp only
          split
          · exact ho
          · exact fun y hy => (List.mem_append.1 hy).elim (ho y) (hx.range y)
        · simp only
          split
          · exact ho'
          · exact fun y hy => (List.mem_append.1 hy).elim (ho' y) (hx'.range y)
        · intro hlg
          simp only [Bool.or_eq_false_iff, decide_eq_false_iff_not] at hlg
          obtain ⟨⟨l1, l2⟩, l3⟩ := hlg
          obtain ⟨k1, k2⟩ := hle l1
          obtain ⟨k3, k4⟩ := g2 l2
          have n1 := len_le ho ho' k2
          have n2 := len_le hx.range hx'.range k4
          have e1 : (out.long || (ws[s.toNat]?.getD no).long || decide (4096 < out.l.length + (ws[s.toNat]?.getD no).l.length)) = false := by
            rw [k1, k3]
            simp
            omega
          have e2 : (out'.long || (ws'[s.toNat]?.getD no).long || decide (4096 < out'.l.length + (ws'[s.toNat]?.getD no).l.length)) = false := by
            rw [l1, l2]
            simp
            omega
          refine ⟨e1, ?_⟩
          simp only
          rw [e1, e2]
          exact val_append_le hx'.range hx.range k2 k4
theorem join_mono {K : Nat} {ws ws' : List Found} (h : WsLe K ws ws') (hw : WsOk K ws) (hw' : WsOk K ws') (l : List Int) : LeF K (join ws l) (join ws' l) :=
  joinFrom_mono h hw hw' l _ _ (fun x hx => by cases hx) (fun x hx => by cases hx) (fun _ => ⟨rfl, Nat.le_refl _⟩)
/-- Each nonterminal that has a word has a rule that has no greater one. -/
def Held (t : Nat) (rules : List Rule) (ws : List Found) : Prop := ∀ s, t < s → (ws[s]?.getD no).is_ = true → ∃ r ∈ rules, r.left.toNat = s ∧ LeF t (join ws r.right) (ws[s]?.getD no)
theorem held_step {t : Nat} {rules : List Rule} {ws : List Found} (hw : WsOk t ws) {r : Rule} (hr : r ∈ rules) (h : Held t rules ws) : Held t rules (stepF ws r).1 := by
  have hok := step_ok hw r
  unfold stepF at hok ⊢
  split
  · rename_i hb
    rw [if_pos hb] at hok
    have hle : WsLe t (ws.set r.left.toNat (join ws r.right)) ws := ⟨by simp, fun i => by
      rw [List.getElem?_set]
      split
      · rename_i e
        subst e
        split
        · exact better_le (join_ok hw _) (hw.get _) hb
        · intro h
          rename_i hlt
          rw [List.getElem?_eq_none (by omega)] at h
          cases h
      · exact LeF.refl _ _⟩
    have hm := fun l => join_mono hle hok.1 hw l
    intro s hs hi
    simp only at hi ⊢
    rw [List.getElem?_set] at hi ⊢
    split at hi
    · rename_i e
      split at hi
      · rename_i hlt
        rw [if_pos e, if_pos hlt]
        exact ⟨r, hr, e, hm _⟩
      · cases hi
    · rename_i e
      rw [if_neg e]
      obtain ⟨r', h1, h2, h3⟩ := h s hs hi
      exact ⟨r', h1, h2, (hm _).trans h3⟩
  · exact h
theorem held_passOn {t : Nat} {rules : List Rule} : ∀ (rs : List Rule) (p : List Found × Bool), (∀ r ∈ rs, r ∈ rules) → WsOk t p.1 → Held t rules p.1 → Held t rules (passOn p rs).1
  | [], _, _, _, h => h
  | r :: rs, p, hr, hw, h => by
    rw [passOn_cons]
    exact held_passOn rs _ (fun x hx => hr x (List.mem_cons_of_mem _ hx)) (step_ok hw r).1 (held_step hw (hr r List.mem_cons_self) h)
theorem held_iter {t : Nat} {rules : List Rule} : ∀ (n : Nat) (ws : List Found), WsOk t ws → Held t rules ws → Held t rules (iter rules n ws)
  | 0, _, _, h => h
  | n + 1, ws, hw, h => held_iter n _ (passOn_ok rules (ws, false) hw).1 (held_passOn rules (ws, false) (fun _ h => h) hw h)
theorem held_init (t n : Nat) (rules : List Rule) : Held t rules (init t n) := by
  intro s hs hi
  unfold init at hi
  rw [List.getElem?_append_right (by simp; omega), List.getElem?_replicate] at hi
  split at hi <;> cases hi
theorem lexLt_tri : ∀ {a b : List Int}, a.length = b.length → lexLt a b = false → lexLt b a = false → a = b
  | [], [], _, _, _ => rfl
  | [], _ :: _, h, _, _ => by simp at h
  | _ :: _, [], h, _, _ => by simp at h
  | a :: x, b :: y, h, h1, h2 => by
    simp only [lexLt] at h1 h2
    by_cases e : a = b
    · subst e
      rw [if_pos rfl] at h1 h2
      rw [lexLt_tri (by simpa using h) h1 h2]
    · rw [if_neg e] at h1
      rw [if_neg (Ne.symm e)] at h2
      have h1 := of_decide_eq_false h1
      have h2 := of_decide_eq_false h2
      omega
theorem shortLt_tri {a b : List Int} (h1 : shortLt a b = false) (h2 : shortLt b a = false) : a = b := by
  unfold shortLt at h1 h2
  by_cases e : a.length = b.length
  · rw [if_pos e] at h1
    rw [if_pos e.symm] at h2
    exact lexLt_tri e h1 h2
  · rw [if_neg e] at h1
    rw [if_neg (Ne.symm e)] at h2
    have h1 := of_decide_eq_false h1
    have h2 := of_decide_eq_false h2
    omega
/-- The words of a grammar: no rule has a lesser one; one has this one. -/
theorem fix_rules {t n : Nat} {rules : List Rule} {ws : List Found} (hf : Fix rules (init t n) ws) (hok : WsOk t ws) {s : Nat} (hs : t < s) :
    (∀ r ∈ rules, r.left.toNat = s → ((join ws r.right).is_ && !(join ws r.right).long) = true → ((ws[s]?.getD no).is_ && !(ws[s]?.getD no).long) = true ∧ shortLt (join ws r.right).l (ws[s]?.getD no).l = false) ∧
    (((ws[s]?.getD no).is_ && !(ws[s]?.getD no).long) = true → ∃ r ∈ rules, r.left.toNat = s ∧ ((join ws r.right).is_ && !(join ws r.right).long) = true ∧ (join ws r.right).l = (ws[s]?.getD no).l) := by
  obtain ⟨k, hk, hst⟩ := hf
  have hstill := (passOn_still rules ws hst).2
  have hb : ∀ r ∈ rules, r.left.toNat = s → better (join ws r.right) (ws[s]?.getD no) = false := by
    intro r hr e
    have := hstill r hr
    unfold stepF at this
    rw [e] at this
    split at this
    · cases this
    · rename_i h
      simpa using h
  have first : ∀ r ∈ rules, r.left.toNat = s → ((join ws r.right).is_ && !(join ws r.right).long) = true → ((ws[s]?.getD no).is_ && !(ws[s]?.getD no).long) = true ∧ shortLt (join ws r.right).l (ws[s]?.getD no).l = false := by
    intro r hr e hj
    have h := hb r hr e
    simp only [Bool.and_eq_true, Bool.not_eq_true'] at hj
    unfold better at h
    rw [hj.1, if_neg (by simp)] at h
    cases h1 : (ws[s]?.getD no).is_ with
    | false => rw [h1, if_pos rfl] at h; cases h
    | true =>
      rw [h1, if_neg (by simp)] at h
      cases h2 : (ws[s]?.getD no).long with
      | true => rw [h2, hj.2] at h; simp at h
      | false =>
        rw [h2, hj.2] at h
        simp at h
        exact ⟨rfl, h⟩
  refine ⟨first, fun hx => ?_⟩
  simp only [Bool.and_eq_true, Bool.not_eq_true'] at hx
  have hh := held_iter (rules := rules) k (init t n) (init_ok t n).1 (held_init t n rules)
  rw [← hk] at hh
  obtain ⟨r, hr, e, hle⟩ := hh s hs hx.1
  obtain ⟨h1, h2⟩ := hle hx.1
  obtain ⟨h3, h4⟩ := h2 hx.2
  have hj : ((join ws r.right).is_ && !(join ws r.right).long) = true := by simp [h1, h3]
  refine ⟨r, hr, e, hj, shortLt_tri (first r hr e hj).2 ?_⟩
  cases h5 : shortLt (ws[s]?.getD no).l (join ws r.right).l with
  | false => rfl
  | true =>
    have := val_shortLt (hok.get s).range (join_ok hok r.right).range h5
    omega
end Go.Proofs.Ytbadjlhijbkbbaa

/-
  The walk of LeastRules.
-/
set_option linter.unusedVariables false
namespace Go.Proofs.Ytbadjlhijbkbbaa
open Go Go.RowKit Sx Found
variable {S S' : Nat → Prop} {w : World} {g : Gram} {A B A0 A1 A2 : Option Addr} {n m c c' c0 c1 c2 : Nat}
theorem lBefore {x y : List Int} (hx : tI.Row S w A n x) (hy : tI.Row S' w B m y) (hnm : n = m) : Calls Try.prog 47 [.slice A n c, .slice B m c'].toArray w (Ret fun v w' => v = .bool (lexLt x y) ∧ Ext w w') := by
  subst hnm
  have hxl := hx.1
  have hxm := hx.2.1
  have hyl := hy.1
  refine enter Try.func47 rfl Try.ntmps47 rfl ?_
  refine wk ?_
  refine W.loop (ι := Nat) (fun i => [(0, .slice A n c), (1, .slice B n c'), (5, .int .i64 (i : Int))])
    (fun i w' => Ext w w' ∧ i ≤ n ∧ x.take i = y.take i) (fun i => n - i) 0 has ⟨Ext.refl w, Nat.zero_le _, by simp⟩ ?_
  rintro i w1 ⟨hE, hi, ht⟩
  have hd := lexLt_drop ht (by omega) (by omega)
  refine wk ?_
  refine Wl.part rfl rfl rfl (fun hlt => ?_) (fun hge => ?_)
  · have hlt : i < n := by omega
    have hlx : i < x.length := by omega
    have hly : i < y.length := by omega
    obtain ⟨b, o, rfl, es, ⟨rfl, hs⟩, hc⟩ := hx.at_ i hlx
    obtain ⟨b', o', rfl, es', ⟨rfl, hs'⟩, hc'⟩ := hy.at_ i hly
    have hcell := hE.cell (hc 0 _ rfl)
    have hcell' := hE.cell (hc' 0 _ rfl)
    rw [List.drop_eq_getElem_cons hlx, List.drop_eq_getElem_cons hly] at hd
    simp only [lexLt] at hd
    refine wk ?_
    refine W.test rfl (fun hq => ?_) (fun hq => ?_)
    · refine wk ?_
      refine W.any Ext [.eq _, .eq _, .eq _, .eq _, .eq _, .eq _, .eq _, .eq _, .eq _] [8] mixed rfl Ext.refl Ext.trans Ext.drew ⟨qs, qs, qs, qs, qs, qs, qs, qs, qs, trivial⟩ ?_
      rintro wq eq_ _ ⟨⟩
      have hcell2 := eq_.cell hcell
      have hcell3 := eq_.cell hcell'
      have hEq := hE.trans eq_
      clear eq_
      refine wk ?_
      refine W.test rfl (fun hne => ?_) (fun heq => ?_)
      · refine wk ?_
        refine W.any Ext [.eq _, .eq _, .eq _, .eq _, .eq _, .eq _, .eq _, .eq _, .eq _, .eq _] [9] mixed rfl Ext.refl Ext.trans Ext.drew ⟨qs, qs, qs, qs, qs, qs, qs, qs, qs, qs, trivial⟩ ?_
        rintro wq eq_ _ ⟨⟩
        refine wk ?_
        refine Arr.ret1 rfl rfl ⟨congrArg Value.bool ?_, hEq.trans eq_⟩
        rw [hd, if_neg hne]
      · refine wk ?_
        exact Arr.again (i + 1) has ⟨hEq, hlt, take_alike ht hlx hly (Decidable.not_not.1 heq)⟩ (by omega)
    · exact absurd (by omega) hq
  · have : i = n := by omega
    subst this
    refine wk ?_
    refine Arr.ret1 rfl rfl ⟨congrArg Value.bool ?_, hE⟩
    rw [hd, List.drop_of_length_le (by omega), List.drop_of_length_le (by omega)]
    rfl
def lineF (w0 : World) (r : List Int × Bool) : Fact Ext := ⟨fun v w => LineV w0 r v w, fun e h => h.ext e⟩
/-- Is a rule one that has the word x? -/
def hits (ws : List Found) (x : List Int) (ok : Bool) (r : Rule) : Bool := (line (some ws) r.right).2 && ok && decide (x = (line (some ws) r.right).1)
def ruleAt (g : Gram) (k : Int) : Rule := g.rules[k.toNat]?.getD ⟨0, []⟩
theorem any_take {α : Type} {p : α → Bool} {l : List α} {i : Nat} (h : i < l.length) : (l.take (i + 1)).any p = ((l.take i).any p || p l[i]) := by
  rw [List.take_succ_eq_append_getElem h, List.any_append]
  simp
set_option maxRecDepth 20000 in
set_option maxHeartbeats 2000000 in
theorem lawRules (hg : GramAt S w g A0 A1 A2 c0 c1 c2) : Calls Try.prog 7 [.agg (gcells g A0 A1 A2 c0 c1 c2).toArray].toArray w (Ret fun v w' => v = .bool true ∧ Ext w w') := by
  have m2 := hg.rules.2.1
  refine enter Try.func7 rfl Try.ntmps7 rfl ?_
  refine wk ?_
  refine Wop.box rfl (fun w1 e1 b1 z1 => ?_)
  have hg1 := hg.ext e1
  have out : ∀ w', Ext w1 w' → Value.bool true = .bool true ∧ Ext w w' := fun w' e => ⟨rfl, e1.trans e⟩
  refine wk ?_
  refine Wop.fn en14 rfl (gMuch hg1) ?_
  rintro _ w2 ⟨rfl, e2⟩
  refine wk ?_
  refine Wl.part rfl rfl rfl (fun p => ?_) (fun p => ?_)
  · refine wk ?_
    refine Wop.fn en38 rfl awake10 ?_
    rintro _ w5 ⟨rfl, e5⟩
    refine wk ?_
    exact Arr.ret1 rfl rfl (out _ (e2.trans e5))
  refine wk ?_
  refine Wop.fn en19 rfl (rCheck (hg1.ext e2)) ?_
  rintro _ w3 ⟨rfl, e3⟩
  have e13 := e2.trans e3
  refine wk ?_
  refine W.test rfl (fun q => ?_) (fun q => ?_)
  · refine wk ?_
    refine Wop.fn en38 rfl awake10 ?_
    rintro _ w5 ⟨rfl, e5⟩
    refine wk ?_
    exact Arr.ret1 rfl rfl (out _ (e13.trans e5))
  have hck : g.check = 0 := Decidable.not_not.1 q
  have may := Gram.may hck
  have t1 := may.fewT
  have t2 := may.fewN
  have hKb : g.terms.length ≤ 1000 := by omega
  refine wk ?_
  refine Wop.fn en39 rfl (gLeast (hg1.ext e13)) ?_
  rintro v w4 ⟨hv, e4⟩
  rw [if_pos hck] at hv
  obtain ⟨p, ws, rfl, hp, hL⟩ := hv
  have pw : PW g.terms.length w4 (.pointer (some ⟨p, 0, none⟩)) (some ws) := ⟨p, rfl, hp, hL.ok⟩
  have e14 := e13.trans e4
  have hlen := hL.len
  have htop : g.top = (g.terms.length : Int) + g.nons.length := rfl
  refine wk ?_
  refine W.loop (ι := Nat) (fun i => [(1, .pointer (some ⟨w.heap.size, 0, none⟩)), (3, .pointer (some ⟨p, 0, none⟩)), (4, .int .i64 ((g.terms.length : Int) + 1 + i))])
    (fun i w' => Ext w4 w' ∧ i ≤ g.nons.length) (fun i => g.nons.length - i) 0 (Has.cons rfl (Has.cons rfl (Has.consI rfl (by omega) Has.nil))) ⟨Ext.refl _, Nat.zero_le _⟩ ?_
  rintro i w' ⟨hE, hi⟩
  have b1' := b1.ext (e14.trans hE)
  refine wk ?_
  refine Wop.fn en21 rfl (rTop (hg1.ext (e14.trans hE))) ?_
  rintro _ w5 ⟨rfl, e5⟩
  have hE5 := hE.trans e5
  refine wk ?_
  refine W.test rfl (fun hlt => ?_) (fun hge => ?_)
  · have hlt : i < g.nons.length := by omega
    have hline : line (some ws) [(g.terms.length : Int) + 1 + i] = ((ws[g.terms.length + 1 + i]?.getD no).l, (ws[g.terms.length + 1 + i]?.getD no).is_ && !(ws[g.terms.length + 1 + i]?.getD no).long) := by
      simp only [line]
      rw [join_one hL.ok (by omega) (by omega), show ((g.terms.length : Int) + 1 + i).toNat = g.terms.length + 1 + i by omega]
    obtain ⟨hfa, hfb⟩ := fix_rules hL.fix hL.ok (s := g.terms.length + 1 + i) (by omega)
    have hsm := Gram.of_small m2 ((g.terms.length : Int) + 1 + i)
    refine wk ?_
    refine Wop.fn en41 rfl (gWord (pw.ext hE5) hKb ⟨by omega, by omega⟩) ?_
    rintro _ w6 ⟨⟨X, xc, rfl, hxc, hxr⟩, e6⟩
    rw [hline] at hxc hxr ⊢
    simp only at hxc hxr ⊢
    generalize hXl : (ws[g.terms.length + 1 + i]?.getD no).l = xl at hxc hxr hfa hfb ⊢
    generalize hXok : ((ws[g.terms.length + 1 + i]?.getD no).is_ && !(ws[g.terms.length + 1 + i]?.getD no).long) = ok at hfa hfb ⊢
    have b16 := b1.ext (e14.trans (hE5.trans e6))
    refine wk ?_
    refine Wop.fn en33 rfl (rOf (hg1.ext (e14.trans (hE5.trans e6))) ((g.terms.length : Int) + 1 + i)) ?_
    rintro v w7 ⟨hof, e7⟩
    have hE7 := hE5.trans (e6.trans e7)
    obtain ⟨OA, oc, rfl, hocap, horow⟩ := OwnI.row (S := fun _ => True) hof hsm.1 hsm.2 (fun _ _ => trivial)
    have hxr7 := hxr.ext (by decide) e7
    refine wk ?_
    refine W.loop (ι := Nat) (fun j => [(1, .pointer (some ⟨w.heap.size, 0, none⟩)), (3, .pointer (some ⟨p, 0, none⟩)), (4, .int .i64 ((g.terms.length : Int) + 1 + i)), (5, .slice X xl.length xc), (6, .bool ok), (7, .slice OA (g.of ((g.terms.length : Int) + 1 + i)).length oc), (8, .bool (((g.of ((g.terms.length : Int) + 1 + i)).take j).any fun k => hits ws xl ok (ruleAt g k))), (9, .int .i64 (j : Int))])
      (fun j w' => Ext w7 w' ∧ j ≤ (g.of ((g.terms.length : Int) + 1 + i)).length) (fun j => (g.of ((g.terms.length : Int) + 1 + i)).length - j) 0 has ⟨Ext.refl _, Nat.zero_le _⟩ ?_
    rintro j w8 ⟨hE8, hj⟩
    refine wk ?_
    refine W.test rfl (fun hlj => ?_) (fun hgj => ?_)
    · have hlj : j < (g.of ((g.terms.length : Int) + 1 + i)).length := by omega
      obtain ⟨ob, oo, rfl, es, ⟨rfl, ho64⟩, hoc⟩ := horow.at_ j hlj
      have hcell := hE8.cell (hoc 0 _ rfl)
      obtain ⟨kk, r, hkr, hkl, hkk⟩ := of_mem.1 (List.getElem_mem hlj)
      have hkin := (List.getElem?_eq_some_iff.1 hkr).1
      have hkr' : g.rules[kk] = r := (List.getElem?_eq_some_iff.1 hkr).2
      have hrmem : r ∈ g.rules := List.mem_of_getElem? hkr
      have hrat : ruleAt g (g.of ((g.terms.length : Int) + 1 + i))[j] = r := by
        rw [ruleAt, hkk]
        simp only [Int.toNat_natCast, hkr, Option.getD_some]
      have hleft : r.left.toNat = g.terms.length + 1 + i := by omega
      have hE18 := e14.trans (hE7.trans hE8)
      have hg8 := hg1.ext hE18
      have b18 := b1.ext hE18
      obtain ⟨rb, ro, hA2, es, hrd, hrc⟩ := hg8.rules.at_ kk hkin
      rw [hkr'] at hrd
      obtain ⟨RA, rc, rfl, hrcap, hl64, hrrow⟩ := tRule_open hrd
      have hc1 := hrc 1 _ rfl
      have pw8 := pw.ext (hE7.trans hE8)
      have hann := any_take (p := fun k => hits ws xl ok (ruleAt g k)) hlj
      rw [hrat] at hann
      refine wk ?_
      refine W.any Ext [.eq _, .eq _, .eq _, .eq _, .eq _, .eq _, .eq _, .eq _, .eq _, .eq _, (lineF w8 (line (some ws) r.right)), (lineF w8 (line (some ws) r.right)), (someI (line (some ws) r.right).1), .eq _, (someI (line (some ws) r.right).1), .eq _] [14, 15] mixed rfl Ext.refl Ext.trans Ext.drew ⟨qs, qs, by intro w_ hG; (repeat (intro v_ hv_; cases hv_)); refine WopG.plain rfl (Wop.ldB (v := .slice (some ⟨rb, ro, none⟩) g.rules.length c2) TT rfl rfl (b18.ext hG) (by rw [← hA2]; rfl) ⟨Ext.refl _, rfl⟩), qs, qs, qs, qs, by intro w_ hG; (repeat (intro v_ hv_; cases hv_)); refine WopG.plain rfl (Wop.ixI TT kk rfl rfl rfl rfl rfl hkk hkin ?_); refine ⟨Ext.refl _, ?_⟩; show _ = _; exact rfl, qs, qs, by intro w_ hG; (repeat (intro v_ hv_; cases hv_)); exact WopG.plain rfl (Wop.fn en46 rfl (gLine (pw8.ext hG) hKb (hrrow.ext (by decide) hG)) (fun v w' h => ⟨h.2, by obtain ⟨B, c, h1, h2, h3⟩ := h.1; exact ⟨B, c, h1, h2, h3.mono (fun k hk => by have := hG.size; omega)⟩⟩)), by intro w_ hG v h; exact WopG.plain rfl (Wop.pure TT rfl ⟨Ext.refl _, h⟩), by rintro w_ hG v ⟨B, c, rfl, h2, h3⟩; exact WopG.plain rfl (Wop.pure TT rfl ⟨Ext.refl _, B, c, rfl, h2, h3.mono (fun _ _ => trivial)⟩), by rintro w_ hG v ⟨B, c, rfl, h2, h3⟩; exact WopG.plain rfl (Wop.pure TT rfl ⟨Ext.refl _, rfl⟩), by intro w_ hG v h; exact WopG.plain rfl (Wop.pure TT rfl ⟨Ext.refl _, h⟩), qs, trivial⟩ ?_
      rintro wq eq_ v14 h14 _ ⟨⟩
      obtain ⟨Y, yc, rfl, hyc, hyr⟩ := h14
      have hEq := hE8.trans eq_
      have hxrq := hxr7.ext (by decide) hEq
      have hxm := hxrq.2.1
      have hym := hyr.2.1
      clear eq_
      have hfa' : (line (some ws) r.right).2 = true → ok = true ∧ shortLt (line (some ws) r.right).1 xl = false := hfa r hrmem hleft
      rw [show hits ws xl ok r = ((line (some ws) r.right).2 && ok && decide (xl = (line (some ws) r.right).1)) from rfl] at hann
      revert hyc hyr hfa' hann hym
      generalize line (some ws) r.right = ly
      obtain ⟨yl, is⟩ := ly
      intro hann hyc hyr hym hfa'
      simp only at hyc hyr hym hfa' hann ⊢
      cases is with
      | false =>
        simp only [Bool.false_and, Bool.or_false] at hann
        refine wk ?_
        refine Wl.partB rfl rfl rfl (fun q => ?_) (fun q => ?_)
        · refine wk ?_
          refine Arr.again (i := j) (j + 1) (Has.cons rfl (Has.cons rfl (Has.cons rfl (Has.cons rfl (Has.cons rfl (Has.cons rfl (Has.consE rfl (by rw [hann, q]) (Has.cons rfl Has.nil)))))))) ⟨hEq, hlj⟩ (by omega)
        · refine wk ?_
          refine Arr.again (i := j) (j + 1) (Has.cons rfl (Has.cons rfl (Has.cons rfl (Has.cons rfl (Has.cons rfl (Has.cons rfl (Has.consE rfl (by rw [hann, q]) (Has.cons rfl Has.nil)))))))) ⟨hEq, hlj⟩ (by omega)
      | true =>
        obtain ⟨rfl, hsh⟩ := hfa' rfl
        simp only [Bool.true_and] at hann
        have tail : ∀ (M : Bool), M = ((g.of ((g.terms.length : Int) + 1 + i)).take j).any (fun k => hits ws xl true (ruleAt g k)) → True := fun _ _ => trivial
        refine wk ?_
        refine Wl.part rfl rfl rfl (fun q1 => ?_) (fun q1 => ?_)
        · have q1 : yl.length < xl.length := by omega
          rw [shortLt, if_neg (by omega), decide_eq_true q1] at hsh
          cases hsh
        refine wk ?_
        refine Wl.part rfl rfl rfl (fun q2 => ?_) (fun q2 => ?_)
        · have q2 : yl.length = xl.length := by omega
          rw [shortLt, if_pos q2] at hsh
          refine wk ?_
          refine Wop.fn en47 rfl (lBefore hyr hxrq q2) ?_
          rintro _ w9 ⟨rfl, e9⟩
          rw [hsh]
          refine wk ?_
          refine Wl.partB rfl rfl rfl (fun q => ?_) (fun q => ?_)
          · refine wk ?_
            refine Arr.again (i := j) (j + 1) (Has.cons rfl (Has.cons rfl (Has.cons rfl (Has.cons rfl (Has.cons rfl (Has.cons rfl (Has.consE rfl (by rw [hann, q]; rfl) (Has.cons rfl Has.nil)))))))) ⟨hEq.trans e9, hlj⟩ (by omega)
          · refine wk ?_
            refine Wop.fn en45 rfl (r3Ints (hxrq.ext (by decide) e9) (hyr.ext (by decide) e9)) ?_
            rintro _ w10 ⟨rfl, e10⟩
            refine wk ?_
            refine Arr.again (i := j) (j + 1) (Has.cons rfl (Has.cons rfl (Has.cons rfl (Has.cons rfl (Has.cons rfl (Has.cons rfl (Has.consE rfl (by rw [hann, q]; rfl) (Has.cons rfl Has.nil)))))))) ⟨hEq.trans (e9.trans e10), hlj⟩ (by omega)
        · refine wk ?_
          refine Wl.partB rfl rfl rfl (fun q => ?_) (fun q => ?_)
          · refine wk ?_
            refine Arr.again (i := j) (j + 1) (Has.cons rfl (Has.cons rfl (Has.cons rfl (Has.cons rfl (Has.cons rfl (Has.cons rfl (Has.consE rfl (by rw [hann, q]; rfl) (Has.cons rfl Has.nil)))))))) ⟨hEq, hlj⟩ (by omega)
          · refine wk ?_
            refine Wop.fn en45 rfl (r3Ints hxrq hyr) ?_
            rintro _ w10 ⟨rfl, e10⟩
            refine wk ?_
            refine Arr.again (i := j) (j + 1) (Has.cons rfl (Has.cons rfl (Has.cons rfl (Has.cons rfl (Has.cons rfl (Has.cons rfl (Has.consE rfl (by rw [hann, q]; rfl) (Has.cons rfl Has.nil)))))))) ⟨hEq.trans e10, hlj⟩ (by omega)
    · have : j = (g.of ((g.terms.length : Int) + 1 + i)).length := by omega
      subst this
      have hany : ((g.of ((g.terms.length : Int) + 1 + i)).any fun k => hits ws xl ok (ruleAt g k)) = ok := by
        cases hok : ok with
        | false =>
          rw [List.any_eq_false]
          intro k _
          simp [hits]
        | true =>
          rw [hok] at hfb
          obtain ⟨r, hr, hrl, hj1, hj2⟩ := hfb rfl
          rw [List.any_eq_true]
          obtain ⟨kk, hkk, hkr⟩ := List.getElem_of_mem hr
          have hlr := may.left hr
          refine ⟨(kk : Int), of_mem.2 ⟨kk, r, by rw [List.getElem?_eq_getElem hkk, hkr], by omega, rfl⟩, ?_⟩
          have : ruleAt g (kk : Int) = r := by rw [ruleAt, Int.toNat_natCast, List.getElem?_eq_getElem hkk, hkr]; rfl
          rw [this]
          simp only [hits, line, hj1, Bool.and_true, Bool.true_and]
          exact decide_eq_true hj2.symm
      rw [List.take_length, hany]
      refine wk ?_
      refine W.cond rfl (fun q => ?_) (fun q => ?_)
      · exact absurd q (by simp)
      refine wk ?_
      exact Arr.again (i := i) (i + 1) (Has.cons rfl (Has.cons rfl (Has.consI rfl (by omega) Has.nil))) ⟨hE7.trans hE8, hlt⟩ (by omega)
  · refine wk ?_
    refine Wop.fn en38 rfl awake10 ?_
    rintro _ w6 ⟨rfl, e6⟩
    refine wk ?_
    exact Arr.ret1 rfl rfl (out _ (e14.trans (hE5.trans e6)))
end Go.Proofs.Ytbadjlhijbkbbaa
