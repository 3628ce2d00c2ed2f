/-
  Joined by program out of the texts Le5 Le6: lemmas for the proofs of this seat; no condition.
-/
import Derived.Test.YtbadjlhijbkbbaaBi
import Derived.Test.YtbadjlhijbkbbaaBa
import Derived.Test.YtbadjlhijbkbbaaBb
set_option maxHeartbeats 1000000
/-
  The reference's least words: comparing, joining.
-/
set_option linter.unusedVariables false
namespace Go.Proofs.Ytbadjlhijbkbbaa
open Go Go.RowKit Sx Found
variable {S S' : Nat → Prop} {w : World} {A B : Option Addr} {n m c c' : Nat}
theorem rLess {x y : List Int} (hx : tI.Row S w A n x) (hy : tI.Row S' w B m y) : Calls Try.prog 141 [.slice A n c, .slice B m c'].toArray w (Ret fun v w' => v = .bool (shortLt x y) ∧ Ext w w') := by
  have hxl := hx.1
  have hxm := hx.2.1
  have hyl := hy.1
  have hym := hy.2.1
  refine enter Try.func141 rfl Try.ntmps141 rfl ?_
  refine wk ?_
  refine W.test rfl (fun h => ?_) (fun h => ?_)
  · refine wk ?_
    refine Arr.ret1 rfl rfl ⟨congrArg Value.bool ?_, Ext.refl _⟩
    rw [shortLt, if_neg (by omega)]
    exact decide_eq_decide.2 (by omega)
  have hnm : n = m := by omega
  subst hnm
  have hsl : shortLt x y = lexLt x y := by rw [shortLt, if_pos (by omega)]
  refine wk ?_
  refine W.loop (ι := Nat) (fun i => [(0, .slice A n c), (1, .slice B n c'), (5, .int .i64 (i : Int))])
    (fun i w' => Ext w w' ∧ i ≤ n ∧ x.take i = y.take i) (fun i => n - i) 0 has ⟨Ext.refl w, Nat.zero_le _, by simp⟩ ?_
  rintro i w1 ⟨hE, hi, ht⟩
  have hd := lexLt_drop ht (by omega) (by omega)
  refine wk ?_
  refine Wl.part rfl rfl rfl (fun hlt => ?_) (fun hge => ?_)
  · have hlt : i < n := by omega
    have hlx : i < x.length := by omega
    have hly : i < y.length := by omega
    obtain ⟨b, o, rfl, es, ⟨rfl, hs⟩, hc⟩ := hx.at_ i hlx
    obtain ⟨b', o', rfl, es', ⟨rfl, hs'⟩, hc'⟩ := hy.at_ i hly
    have hcell := hE.cell (hc 0 _ rfl)
    have hcell' := hE.cell (hc' 0 _ rfl)
    rw [List.drop_eq_getElem_cons hlx, List.drop_eq_getElem_cons hly] at hd
    simp only [lexLt] at hd
    refine wk ?_
    refine W.test rfl (fun hq => ?_) (fun hq => ?_)
    · refine wk ?_
      refine W.any Ext [.eq _, .eq _, .eq _, .eq _, .eq _, .eq _, .eq _, .eq _, .eq _] [8] mixed rfl Ext.refl Ext.trans Ext.drew ⟨qs, qs, qs, qs, qs, qs, qs, qs, qs, trivial⟩ ?_
      rintro wq eq_ _ ⟨⟩
      have hcell2 := eq_.cell hcell
      have hcell3 := eq_.cell hcell'
      have hEq := hE.trans eq_
      clear eq_
      refine wk ?_
      refine W.test rfl (fun hne => ?_) (fun heq => ?_)
      · refine wk ?_
        refine W.any Ext [.eq _, .eq _, .eq _, .eq _, .eq _, .eq _, .eq _, .eq _, .eq _, .eq _] [9] mixed rfl Ext.refl Ext.trans Ext.drew ⟨qs, qs, qs, qs, qs, qs, qs, qs, qs, qs, trivial⟩ ?_
        rintro wq eq_ _ ⟨⟩
        refine wk ?_
        refine Arr.ret1 rfl rfl ⟨congrArg Value.bool ?_, hEq.trans eq_⟩
        rw [hsl, hd, if_neg hne]
      · refine wk ?_
        exact Arr.again (i + 1) has ⟨hEq, hlt, take_alike ht hlx hly (Decidable.not_not.1 heq)⟩ (by omega)
    · exact absurd (by omega) hq
  · have : i = n := by omega
    subst this
    refine wk ?_
    refine Arr.ret1 rfl rfl ⟨congrArg Value.bool ?_, hE⟩
    rw [hsl, hd, List.drop_of_length_le (by omega), List.drop_of_length_le (by omega)]
    rfl

/-! ### in memory -/
/-- The words behind a pointer, as the reference keeps them. -/
structure RefIn (S : Nat → Prop) (w : World) (b1 b2 b3 : Nat) (ws : List Found) : Prop where
  l : Mut tIs S w b1 28 (ws.map (·.l))
  is_ : Mut Ty.bool S w b2 4 (ws.map (·.is_))
  long : Mut Ty.bool S w b3 4 (ws.map (·.long))
theorem RefIn.ext {S : Nat → Prop} {w w' : World} {b1 b2 b3 : Nat} {ws : List Found} (h : RefIn S w b1 b2 b3 ws) (e : Ext w w') : RefIn S w' b1 b2 b3 ws := ⟨h.l.ext e, h.is_.ext e, h.long.ext e⟩
def apart3 (b1 b2 b3 : Nat) : Nat → Prop := fun k => k ≠ b1 ∧ k ≠ b2 ∧ k ≠ b3
def RefAt (w : World) (p : Nat) (ws : List Found) : Prop := ∃ b1 b2 b3 c1 c2 c3, Blk w p #[.slice (some ⟨b1, 0, none⟩) ws.length c1, .slice (some ⟨b2, 0, none⟩) ws.length c2, .slice (some ⟨b3, 0, none⟩) ws.length c3] 115 ∧ ws.length ≤ c1 ∧ ws.length ≤ 1000 ∧ RefIn (apart3 b1 b2 b3) w b1 b2 b3 ws
theorem RefAt.ext {w w' : World} {p : Nat} {ws : List Found} (h : RefAt w p ws) (e : Ext w w') : RefAt w' p ws := by
  obtain ⟨b1, b2, b3, c1, c2, c3, h1, h2, h3, h4⟩ := h
  exact ⟨b1, b2, b3, c1, c2, c3, h1.ext e, h2, h3, h4.ext e⟩
/-- The cells of one word, as the reference keeps it. -/
theorem RefIn.get {S : Nat → Prop} {w : World} {b1 b2 b3 : Nat} {ws : List Found} (h : RefIn S w b1 b2 b3 ws) (i : Nat) (hi : i < ws.length) :
    ∃ A c, w.cell? ⟨b1, 0 + i * 1 + 0, none⟩ = some (.slice A ws[i].l.length c) ∧ ws[i].l.length ≤ c ∧ tI.Row S w A ws[i].l.length ws[i].l ∧ w.cell? ⟨b2, 0 + i * 1 + 0, none⟩ = some (.bool ws[i].is_) ∧ w.cell? ⟨b3, 0 + i * 1 + 0, none⟩ = some (.bool ws[i].long) := by
  obtain ⟨e1, r1, k1⟩ := h.l.at_ i (by simpa using hi)
  obtain ⟨e2, r2, k2⟩ := h.is_.at_ i (by simpa using hi)
  obtain ⟨e3, r3, k3⟩ := h.long.at_ i (by simpa using hi)
  obtain ⟨A, c, rfl, hc, hr⟩ := tIs_open r1
  simp only [List.getElem_map] at hc hr k1
  have g2 : e2 = [.bool ((ws.map (·.is_))[i]'(by simpa using hi))] := r2
  have g3 : e3 = [.bool ((ws.map (·.long))[i]'(by simpa using hi))] := r3
  simp only [List.getElem_map] at g2 g3
  subst g2
  subst g3
  exact ⟨A, c, k1 0 _ rfl, hc, hr, k2 0 _ rfl, k3 0 _ rfl⟩
set_option maxRecDepth 20000 in
set_option maxHeartbeats 1000000 in
theorem rJoin {K p : Nat} {ws : List Found} {l : List Int} (hw : RefAt w p ws) (hK : WsOk K ws) (hKb : K ≤ 1000) (hl : tI.Row S w A n l) : Calls Try.prog 99 [.pointer (some ⟨p, 0, none⟩), .slice A n c].toArray w (Ret fun v w' => (∃ B c, v = .tuple #[.slice B (join ws l).l.length c, .bool (join ws l).is_, .bool (join ws l).long] ∧ (join ws l).l.length ≤ c ∧ tI.Row (fun k => w.heap.size ≤ k) w' B (join ws l).l.length (join ws l).l) ∧ Ext w w') := by
  have hll := hl.1
  have hlm := hl.2.1
  obtain ⟨b1, b2, b3, k1, k2, k3, wp, wc, w1000, wr⟩ := hw
  refine enter Try.func99 rfl Try.ntmps99 rfl ?_
  refine wk ?_
  refine W.loop (ι := Nat × Found × Value) (fun i => [(0, .pointer (some ⟨p, 0, none⟩)), (1, .slice A n c), (7, i.2.2), (8, .bool i.2.1.long), (9, .int .i64 (i.1 : Int))])
    (fun i w' => Ext w w' ∧ i.1 ≤ n ∧ join ws l = joinFrom ws (l.drop i.1) i.2.1 ∧ i.2.1.l.length ≤ 4096 ∧ (∀ x ∈ i.2.1.l, 1 ≤ x ∧ x ≤ (K : Int)) ∧ OwnI w' w.heap.size i.2.2 i.2.1.l) (fun i => n - i.1)
    (0, ⟨true, false, []⟩, .slice none 0 0) has ⟨Ext.refl w, Nat.zero_le _, rfl, by simp, fun x hx => (by cases hx), Own.nil _ _ _ _⟩ ?_
  rintro ⟨i, out, v⟩ w' ⟨hE, hi, hj, hol, hor, ho⟩
  simp only at hi hj hol hor ho ⊢
  have wp' := wp.ext hE
  refine wk ?_
  refine W.test rfl (fun hlt => ?_) (fun hge => ?_)
  · have hlt : i < n := by omega
    have hli : i < l.length := by omega
    obtain ⟨lb, lo, rfl, es, ⟨rfl, hs64⟩, hc⟩ := (hl.ext (by decide) hE).at_ i hli
    have hcell := hc 0 _ rfl
    rw [List.drop_eq_getElem_cons hli] at hj
    have bad : (l[i] < 0 ∨ (ws.length : Int) ≤ l[i] ∨ (ws[l[i].toNat]?.getD no).is_ = false) → join ws l = no := fun h => hj.trans (joinFrom_bad h)
    have fin : join ws l = no → ∀ wx, Ext w wx → (∃ B c, Value.tuple #[.slice none 0 0, .bool false, .bool false] = .tuple #[.slice B (join ws l).l.length c, .bool (join ws l).is_, .bool (join ws l).long] ∧ (join ws l).l.length ≤ c ∧ tI.Row (fun k => w.heap.size ≤ k) wx B (join ws l).l.length (join ws l).l) ∧ Ext w wx := fun h wx hx => by
      rw [h]
      exact ⟨⟨none, 0, rfl, Nat.le_refl _, Ty.Row.nil_ _ _ _ _⟩, hx⟩
    by_cases q1 : l[i] < 0
    · refine wk ?_
      refine W.any Ext (.eq _ :: .eq _ :: .eq _ :: .eq _ :: .eq _ :: .eq _ :: .eq _ :: .eq _ :: .eq _ :: .eq _ :: .eq _ :: .eq _ :: .eq _ :: .eq _ :: .eq _ :: .eq _ :: .eq _ :: .eq _ :: .eq _ :: .eq _ :: .eq _ :: .eq _ :: .eq _ :: .eq _ :: .eq _ :: .eq _ :: .eq _ :: .eq _ :: .eq _ :: .eq _ :: []) [29] mixed rfl Ext.refl Ext.trans Ext.drew ⟨qs, qs, qs, qs, by intro w_ hG; (repeat (intro v_ hv_; cases hv_)); refine WopG.plain rfl (Wop.pure TT rfl ?_); exact ⟨Ext.refl _, congrArg Value.bool (decide_eq_true q1)⟩, qs, qs, qs, qs, qs, qs, qs, qs, qs, qs, qs, qs, qs, qs, qs, qs, qs, qs, qs, qs, qs, qs, qs, qs, qs, trivial⟩ ?_
      rintro wq eq_ _ ⟨⟩
      refine wk ?_
      exact Arr.retT3 rfl rfl rfl rfl (fin (bad (.inl q1)) _ (hE.trans eq_))
    by_cases q2 : (ws.length : Int) ≤ l[i]
    · refine wk ?_
      refine W.any Ext (.eq _ :: .eq _ :: .eq _ :: .eq _ :: .eq _ :: .eq _ :: .eq _ :: .eq _ :: .eq _ :: .eq _ :: .eq _ :: .eq _ :: .eq _ :: .eq _ :: .eq _ :: .eq _ :: .eq _ :: .eq _ :: .eq _ :: .eq _ :: .eq _ :: .eq _ :: .eq _ :: .eq _ :: .eq _ :: .eq _ :: .eq _ :: .eq _ :: .eq _ :: .eq _ :: []) [29] mixed rfl Ext.refl Ext.trans Ext.drew ⟨qs, qs, qs, qs, by intro w_ hG; (repeat (intro v_ hv_; cases hv_)); refine WopG.plain rfl (Wop.pure TT rfl ?_); exact ⟨Ext.refl _, congrArg Value.bool (decide_eq_false q1)⟩, qs, qs, qs, qs, qs, qs, qs, qs, qs, qs, by intro w_ hG; (repeat (intro v_ hv_; cases hv_)); refine WopG.yes rfl rfl rfl rfl (Wop.pure TT rfl ?_); exact ⟨Ext.refl _, congrArg Value.bool (decide_eq_true q2)⟩, qs, qs, qs, qs, qs, qs, qs, qs, qs, qs, qs, qs, qs, qs, trivial⟩ ?_
      rintro wq eq_ _ ⟨⟩
      refine wk ?_
      exact Arr.retT3 rfl rfl rfl rfl (fin (bad (.inr (.inl q2))) _ (hE.trans eq_))
    have hin : l[i].toNat < ws.length := by omega
    have hget : ws[l[i].toNat]?.getD no = ws[l[i].toNat] := by rw [List.getElem?_eq_getElem hin]; rfl
    obtain ⟨X, xc, x1, hxc, hxr, x2, x3⟩ := wr.get l[i].toNat hin
    have y1 := hE.cell x1
    have y2 := hE.cell x2
    have y3 := hE.cell x3
    have hxm := hxr.2.1
    have hfo := hK _ (List.getElem_mem hin)
    refine wk ?_
    refine W.any Ext (.eq _ :: .eq _ :: .eq _ :: .eq _ :: .eq _ :: .eq _ :: .eq _ :: .eq _ :: .eq _ :: .eq _ :: .eq _ :: .eq _ :: .eq _ :: .eq _ :: .eq _ :: .eq _ :: .eq _ :: .eq _ :: .eq _ :: .eq _ :: .eq _ :: .eq _ :: .eq _ :: .eq _ :: .eq _ :: .eq _ :: .eq _ :: .eq _ :: .eq _ :: .eq _ :: []) [29] mixed rfl Ext.refl Ext.trans Ext.drew ⟨qs, qs, qs, qs, by intro w_ hG; (repeat (intro v_ hv_; cases hv_)); refine WopG.plain rfl (Wop.pure TT rfl ?_); exact ⟨Ext.refl _, congrArg Value.bool (decide_eq_false q1)⟩, qs, qs, qs, qs, qs, qs, qs, qs, qs, qs, by intro w_ hG; (repeat (intro v_ hv_; cases hv_)); refine WopG.yes rfl rfl rfl rfl (Wop.pure TT rfl ?_); exact ⟨Ext.refl _, congrArg Value.bool (decide_eq_false q2)⟩, qs, qs, qs, qs, qs, qs, qs, qs, qs, qs, by intro w_ hG; (repeat (intro v_ hv_; cases hv_)); refine WopG.yes rfl rfl rfl rfl (Wop.ixI TT l[i].toNat rfl rfl rfl rfl rfl (by omega) hin ?_); refine ⟨Ext.refl _, ?_⟩; show _ = _; exact rfl, qs, qs, qs, trivial⟩ ?_
    rintro wq eq_ _ ⟨⟩
    have hE1 := hE.trans eq_
    have wp1 := wp'.ext eq_
    have y11 := eq_.cell y1
    have y21 := eq_.cell y2
    have y31 := eq_.cell y3
    have hcell1 := eq_.cell hcell
    have ho1 := ho.ext eq_
    clear eq_
    refine wk ?_
    refine W.cond rfl (fun q3 => ?_) (fun q3 => ?_)
    · refine wk ?_
      exact Arr.retT3 rfl rfl rfl rfl (fin (bad (.inr (.inr (by rw [hget]; simpa using q3)))) _ hE1)
    simp only [Bool.not_eq_false'] at q3
    have hnext := joinFrom_next (ws := ws) (s := l[i]) (r := l.drop (i + 1)) (out := out) q1 q2 (by rw [hget]; exact q3)
    rw [hget] at hnext
    obtain ⟨vA, vc, rfl, hvc⟩ := ho.slice
    have far : ∀ lg : Bool, lg = (out.long || ws[l[i].toNat].long || decide (4096 < out.l.length + ws[l[i].toNat].l.length)) → lg = true → join ws l = joinFrom ws (l.drop (i + 1)) ⟨true, true, out.l⟩ := by
      intro lg h1 h2
      rw [hj, hnext lg h1, h2]
      rfl
    cases hxl : ws[l[i].toNat].long with
    | true =>
      rw [hxl] at y31
      refine wk ?_
      refine W.any Ext [.eq _, .eq _, .eq _, .eq _, .eq _, .eq _, .eq _, .eq _, .eq _, .eq _, .eq _, .eq _, .eq _, .eq _, .eq _, .eq _, .eq _, .eq _, .eq _, .eq _, .eq _, .eq _, .eq _, .eq _, .eq _, .eq _, .eq _] [26] mixed rfl Ext.refl Ext.trans Ext.drew ⟨qs, qs, qs, qs, qs, qs, qs, qs, by intro w_ hG; (repeat (intro v_ hv_; cases hv_)); refine WopG.plain rfl (Wop.ixI TT l[i].toNat rfl rfl rfl rfl rfl (by omega) hin ?_); refine ⟨Ext.refl _, ?_⟩; show _ = _; exact rfl, qs, qs, qs, qs, qs, qs, qs, qs, qs, qs, qs, qs, qs, qs, qs, qs, qs, qs, trivial⟩ ?_
      rintro wq eq_ _ ⟨⟩
      refine wk ?_
      refine Arr.again (i := (i, out, .slice vA out.l.length vc)) (i + 1, ⟨true, true, out.l⟩, .slice vA out.l.length vc) has ⟨hE1.trans eq_, hlt, far true (by simp [hxl]) rfl, hol, hor, ho1.ext eq_⟩ (by simp only; omega)
    | false =>
      rw [hxl] at y31
      by_cases hbig : 4096 < out.l.length + ws[l[i].toNat].l.length
      · refine wk ?_
        refine W.any Ext [.eq _, .eq _, .eq _, .eq _, .eq _, .eq _, .eq _, .eq _, .eq _, .eq _, .eq _, .eq _, .eq _, .eq _, .eq _, .eq _, .eq _, .eq _, .eq _, .eq _, .eq _, .eq _, .eq _, .eq _, .eq _, .eq _, .eq _] [26] mixed rfl Ext.refl Ext.trans Ext.drew ⟨qs, qs, qs, qs, qs, qs, qs, qs, by intro w_ hG; (repeat (intro v_ hv_; cases hv_)); refine WopG.plain rfl (Wop.ixI TT l[i].toNat rfl rfl rfl rfl rfl (by omega) hin ?_); refine ⟨Ext.refl _, ?_⟩; show _ = _; exact rfl, qs, qs, qs, qs, qs, qs, qs, qs, qs, qs, qs, qs, by intro w_ hG; (repeat (intro v_ hv_; cases hv_)); refine WopG.yes rfl rfl rfl rfl (Wop.ixI TT l[i].toNat rfl rfl rfl rfl rfl (by omega) hin ?_); refine ⟨Ext.refl _, ?_⟩; show _ = _; exact rfl, qs, qs, qs, by intro w_ hG; (repeat (intro v_ hv_; cases hv_)); refine WopG.yes rfl rfl rfl rfl (Wop.pure TT rfl ?_); exact ⟨Ext.refl _, congrArg Value.bool (decide_eq_true (by omega))⟩, qs, trivial⟩ ?_
        rintro wq eq_ _ ⟨⟩
        refine wk ?_
        refine Arr.again (i := (i, out, .slice vA out.l.length vc)) (i + 1, ⟨true, true, out.l⟩, .slice vA out.l.length vc) has ⟨hE1.trans eq_, hlt, far true (by simp [hbig]) rfl, hol, hor, ho1.ext eq_⟩ (by simp only; omega)
      · refine wk ?_
        refine W.any Ext [.eq _, .eq _, .eq _, .eq _, .eq _, .eq _, .eq _, .eq _, .eq _, .eq _, .eq _, .eq _, .eq _, .eq _, .eq _, .eq _, .eq _, .eq _, .eq _, .eq _, .eq _, .eq _, .eq _, .eq _, .eq _, .eq _, .eq _] [26] mixed rfl Ext.refl Ext.trans Ext.drew ⟨qs, qs, qs, qs, qs, qs, qs, qs, by intro w_ hG; (repeat (intro v_ hv_; cases hv_)); refine WopG.plain rfl (Wop.ixI TT l[i].toNat rfl rfl rfl rfl rfl (by omega) hin ?_); refine ⟨Ext.refl _, ?_⟩; show _ = _; exact rfl, qs, qs, qs, qs, qs, qs, qs, qs, qs, qs, qs, qs, by intro w_ hG; (repeat (intro v_ hv_; cases hv_)); refine WopG.yes rfl rfl rfl rfl (Wop.ixI TT l[i].toNat rfl rfl rfl rfl rfl (by omega) hin ?_); refine ⟨Ext.refl _, ?_⟩; show _ = _; exact rfl, qs, qs, qs, by intro w_ hG; (repeat (intro v_ hv_; cases hv_)); refine WopG.yes rfl rfl rfl rfl (Wop.pure TT rfl ?_); exact ⟨Ext.refl _, congrArg Value.bool (decide_eq_false (by omega))⟩, qs, trivial⟩ ?_
        rintro wq eq_ _ ⟨⟩
        have hE2 := hE1.trans eq_
        have wp2 := wp1.ext eq_
        have y12 := eq_.cell y11
        have hcell2 := eq_.cell hcell1
        have ho2 := ho1.ext eq_
        clear eq_
        refine wk ?_
        refine W.cond rfl (fun p1 => ?_) (fun p1 => ?_)
        · simp only [Bool.not_eq_true'] at p1
          refine wk ?_
          refine W.anyCut Ext [.eq _, .eq _, .eq _, .eq _, .eq _, .eq _, .eq _, .eq _, .eq _, .eq _, .eq _] 11 [0, 10] mixed rfl Ext.refl Ext.trans Ext.drew rfl rfl ⟨qs, qs, qs, qs, qs, qs, qs, qs, qs, by intro w_ hG; (repeat (intro v_ hv_; cases hv_)); refine WopG.plain rfl (Wop.ixI TT l[i].toNat rfl rfl rfl rfl rfl (by omega) hin ?_); refine ⟨Ext.refl _, ?_⟩; show _ = _; exact rfl, qs, trivial⟩ ?_
          rintro wq eq_ _ ⟨⟩ _ ⟨⟩
          have hlen := hfo.len
          refine wk ?_
          refine Wop.appRowI rfl rfl (hxr.ext (by decide) (hE2.trans eq_)) (ho2.ext eq_) (by have := (hE2.trans eq_).size; exact this) (by omega) (fun v' w7 ho' hb' _ _ => ?_)
          refine wk ?_
          refine Arr.again (i := (i, out, .slice vA out.l.length vc)) (i + 1, ⟨true, false, out.l ++ ws[l[i].toNat].l⟩, v') (Has.cons rfl (Has.cons rfl (Has.cons rfl (Has.consE rfl (by rw [p1]) (Has.cons rfl Has.nil))))) ⟨hb' _ (hE2.trans eq_), hlt, ?_, ?_, ?_, ho'⟩ (by simp only; omega)
          · rw [hj, hnext false (by simp [p1, hxl, hbig])]
            rfl
          · simp only [List.length_append]
            omega
          · intro x hx
            rcases List.mem_append.1 hx with hx | hx
            · exact hor x hx
            · exact hfo.range x hx
        · simp only [Bool.not_eq_false'] at p1
          refine wk ?_
          refine Arr.again (i := (i, out, .slice vA out.l.length vc)) (i + 1, ⟨true, true, out.l⟩, .slice vA out.l.length vc) (Has.cons rfl (Has.cons rfl (Has.cons rfl (Has.consE rfl (by rw [p1]) (Has.cons rfl Has.nil))))) ⟨hE2, hlt, far true (by simp [p1]) rfl, hol, hor, ho2⟩ (by simp only; omega)
  · have : i = n := by omega
    subst this
    have hfin : join ws l = ⟨true, out.long, if out.long then [] else out.l⟩ := by
      rw [hj, List.drop_of_length_le (by omega), joinFrom]
    obtain ⟨vA, vc, rfl, hvc⟩ := ho.slice
    refine wk ?_
    refine W.cond rfl (fun q => ?_) (fun q => ?_)
    · refine wk ?_
      refine Arr.retT3 rfl rfl rfl rfl ⟨?_, hE⟩
      rw [hfin, q]
      exact ⟨none, 0, rfl, Nat.le_refl _, Ty.Row.nil_ _ _ _ _⟩
    · refine wk ?_
      refine Arr.retT3 rfl rfl rfl rfl ⟨?_, hE⟩
      rw [hfin, q]
      obtain ⟨A1, c1, h1, h2, h3⟩ := OwnI.row (S := fun k => w.heap.size ≤ k) ho (by omega) (fun x hx => by have := hor x hx; exact ⟨by omega, by omega⟩) (fun k hk => (World.ownsRow.lt ho k hk).1)
      cases h1
      exact ⟨_, _, rfl, h2, h3⟩
end Go.Proofs.Ytbadjlhijbkbbaa

/-
  The reference's least words of a grammar.
-/
set_option linter.unusedVariables false
namespace Go.Proofs.Ytbadjlhijbkbbaa
open Go Go.RowKit Sx Found
variable {S S' : Nat → Prop} {w : World} {g : Gram} {A B A0 A1 A2 : Option Addr} {n m c c' c0 c1 c2 : Nat}
set_option maxHeartbeats 1000000 in
theorem rBetter {p : Nat} {ws : List Found} {s : Int} {x : List Int} {lg : Bool} (hw : RefAt w p ws) (h0 : 0 ≤ s) (h1 : s < ws.length) (hx : tI.Row S w A n x) : Calls Try.prog 100 [.pointer (some ⟨p, 0, none⟩), .int .i64 s, .slice A n c, .bool lg].toArray w (Ret fun v w' => v = .bool (better ⟨true, lg, x⟩ (ws[s.toNat]?.getD no)) ∧ Ext w w') := by
  obtain ⟨b1, b2, b3, k1, k2, k3, wp, wc, w1000, wr⟩ := hw
  have hin : s.toNat < ws.length := by omega
  obtain ⟨X, xc, x1, hxc, hxr, x2, x3⟩ := wr.get s.toNat hin
  rw [List.getElem?_eq_getElem hin, Option.getD_some]
  refine enter Try.func100 rfl Try.ntmps100 rfl ?_
  refine wk ?_
  refine Wop.ixI TT s.toNat rfl rfl rfl rfl rfl (by omega) hin ?_
  cases q1 : ws[s.toNat].is_ with
  | false =>
    rw [q1] at x2
    refine wk ?_
    refine Arr.ret1 rfl rfl ⟨?_, Ext.refl _⟩
    simp [better, q1]
  | true =>
    rw [q1] at x2
    refine wk ?_
    refine Wop.ixI TT s.toNat rfl rfl rfl rfl rfl (by omega) hin ?_
    cases q2 : ws[s.toNat].long with
    | true =>
      rw [q2] at x3
      cases lg with
      | true =>
        refine wk ?_
        refine Arr.ret1 rfl rfl ⟨?_, Ext.refl _⟩
        simp [better, q1, q2]
      | false =>
        refine wk ?_
        refine Arr.ret1 rfl rfl ⟨?_, Ext.refl _⟩
        simp [better, q1, q2]
    | false =>
      rw [q2] at x3
      cases lg with
      | true =>
        refine wk ?_
        refine Arr.ret1 rfl rfl ⟨?_, Ext.refl _⟩
        simp [better, q1, q2]
      | false =>
        refine wk ?_
        refine Wop.ixI TT s.toNat rfl rfl rfl rfl rfl (by omega) hin ?_
        refine wk ?_
        refine Wop.ixI TT s.toNat rfl rfl rfl rfl rfl (by omega) hin ?_
        refine wk ?_
        refine Wop.fn en141 rfl (rLess hx hxr) ?_
        rintro _ w1 ⟨rfl, e1⟩
        refine wk ?_
        refine Arr.ret1 rfl rfl ⟨?_, e1⟩
        simp [better, q1, q2]
/-! ### making the rows -/
def rowF {α : Type} (D : Ty α) (B n : Nat) (u : TypeId) (xs : List α) : Fact Ext := ⟨fun v w => ∃ b, v = .slice (some ⟨b, 0, none⟩) n n ∧ B ≤ b ∧ Mut D (fun _ => False) w b u xs, fun e h => by
  obtain ⟨b, h1, h2, h3⟩ := h
  exact ⟨b, h1, h2, h3.ext e⟩⟩
def distV (u v : Value) : Prop := ∀ b b' n n', u = .slice (some ⟨b, 0, none⟩) n n → v = .slice (some ⟨b', 0, none⟩) n' n' → b ≠ b'
theorem distV.new {α : Type} {D : Ty α} {B n m : Nat} {t : TypeId} {xs : List α} {w : World} {u : Value} (h : (rowF D B n t xs).p u w) : distV (.slice (some ⟨w.heap.size, 0, none⟩) m m) u ∧ distV u (.slice (some ⟨w.heap.size, 0, none⟩) m m) := by
  obtain ⟨b, rfl, _, hm⟩ := h
  have hlt := hm.lt
  constructor
  · intro b1 b2 n1 n2 h1 h2
    cases h1
    cases h2
    omega
  · intro b1 b2 n1 n2 h1 h2
    cases h1
    cases h2
    omega
def refAgg (b1 b2 b3 n : Nat) : Array Value := #[.slice (some ⟨b1, 0, none⟩) n n, .slice (some ⟨b2, 0, none⟩) n n, .slice (some ⟨b3, 0, none⟩) n n]
structure RefNew (w : World) (B n b1 b2 b3 : Nat) : Prop where
  l : Mut tIs (fun _ => False) w b1 28 (List.replicate n [])
  is_ : Mut Ty.bool (fun _ => False) w b2 4 (List.replicate n false)
  long : Mut Ty.bool (fun _ => False) w b3 4 (List.replicate n false)
  g1 : B ≤ b1
  g2 : B ≤ b2
  g3 : B ≤ b3
  d12 : b1 ≠ b2
  d13 : b1 ≠ b3
  d23 : b2 ≠ b3
theorem RefNew.ext {w w' : World} {B n b1 b2 b3 : Nat} (h : RefNew w B n b1 b2 b3) (e : Ext w w') : RefNew w' B n b1 b2 b3 := ⟨h.l.ext e, h.is_.ext e, h.long.ext e, h.g1, h.g2, h.g3, h.d12, h.d13, h.d23⟩
def aggF (B n : Nat) : Fact Ext := ⟨fun v w => ∃ b1 b2 b3, v = .agg (refAgg b1 b2 b3 n) ∧ RefNew w B n b1 b2 b3, fun e h => by
  obtain ⟨b1, b2, b3, h1, h2⟩ := h
  exact ⟨b1, b2, b3, h1, h2.ext e⟩⟩
def ptrF (B n : Nat) : Fact Ext := ⟨fun v w => ∃ p b1 b2 b3, v = .pointer (some ⟨p, 0, none⟩) ∧ B ≤ p ∧ p ≠ b1 ∧ p ≠ b2 ∧ p ≠ b3 ∧ Blk w p (refAgg b1 b2 b3 n) 115 ∧ RefNew w B n b1 b2 b3, fun e h => by
  obtain ⟨p, b1, b2, b3, h1, h2, h3, h4, h5, h6, h7⟩ := h
  exact ⟨p, b1, b2, b3, h1, h2, h3, h4, h5, h6.ext e, h7.ext e⟩⟩
theorem infoIs : (Try.prog.info? 28).map (fun i => (i.zero, i.size, i.bytes)) = some (some (.slice none 0 0), 1, 24) := by kernel_rfl
theorem infoBool : (Try.prog.info? 4).map (fun i => (i.zero, i.size, i.bytes)) = some (some (.bool false), 1, 1) := by kernel_rfl
theorem set_same {α : Type} {xs : List α} {i : Nat} {x : α} (h : xs[i]? = some x) : xs.set i x = xs := by
  apply List.ext_getElem?
  intro j
  rw [List.getElem?_set]
  split
  · rename_i e
    subst e
    split
    · exact h.symm
    · rename_i h2
      rw [List.getElem?_eq_none (by omega)] at h
      cases h
  · rfl
theorem initP_get {t n i : Nat} (h : i < t) : (initP t n i)[i + 1]? = some no := by
  unfold initP
  have hl : ((⟨true, false, []⟩ :: (List.range i).map (fun (j : Nat) => (⟨true, false, [(j : Int) + 1]⟩ : Found))) : List Found).length = i + 1 := by simp
  rw [List.getElem?_append_right (by omega), hl, Nat.sub_self, List.getElem?_replicate, if_pos (by omega)]
set_option maxRecDepth 20000 in
set_option maxHeartbeats 4000000 in
theorem rLeast (hg : GramAt S w g A0 A1 A2 c0 c1 c2) : Calls Try.prog 40 [.agg (gcells g A0 A1 A2 c0 c1 c2).toArray].toArray w (Ret fun v w' => (if g.check = 0 then ∃ p ws, v = .pointer (some ⟨p, 0, none⟩) ∧ RefAt w' p ws ∧ Least g ws else v = .pointer none) ∧ Ext w w') := by
  have h0 := hg.terms.2.1
  have h1 := hg.nons.2.1
  have h2 := hg.rules.2.1
  refine enter Try.func40 rfl Try.ntmps40 rfl ?_
  refine wk ?_
  refine Wop.box rfl (fun w1 e1 b1 z1 => ?_)
  have hg1 := hg.ext e1
  refine wk ?_
  refine Wop.fn en19 rfl (rCheck hg1) ?_
  rintro _ w2 ⟨rfl, e2⟩
  have e02 := e1.trans e2
  refine wk ?_
  refine W.test rfl (fun q => ?_) (fun q => ?_)
  · refine wk ?_
    refine Arr.ret1 rfl rfl ⟨?_, e02⟩
    rw [if_neg q]
  have hck : g.check = 0 := Decidable.not_not.1 q
  have may := Gram.may hck
  have t1 := may.fewT
  have t2 := may.fewN
  have t3 := may.fewR
  refine wk ?_
  refine Wop.fn en21 rfl (rTop (hg1.ext e2)) ?_
  rintro _ w3 ⟨rfl, e3⟩
  have e13 := e2.trans e3
  have htop : g.top = (g.terms.length : Int) + g.nons.length := rfl
  have rs : ∀ (F : List (Fact Ext)) (w_ : World) (i : Nat) (v : Value), i ≠ 1 → i ≠ 3 → i ≠ 5 → RelObl F w_ i v [(1, 3, distV), (1, 5, distV), (3, 5, distV)] := by
    intro F w_ i v h1 h3 h5
    have n1 : Nat.beq 1 i = false := by rw [Bool.eq_false_iff]; exact fun h => h1 (Nat.eq_of_beq_eq_true h).symm
    have n3 : Nat.beq 3 i = false := by rw [Bool.eq_false_iff]; exact fun h => h3 (Nat.eq_of_beq_eq_true h).symm
    have n5 : Nat.beq 5 i = false := by rw [Bool.eq_false_iff]; exact fun h => h5 (Nat.eq_of_beq_eq_true h).symm
    simp [RelObl, n1, n3, n5]
  refine wk ?_
  refine W.anyR Ext [.eq (.int .i64 (g.top + 1)), rowF tIs w3.heap.size (g.terms.length + g.nons.length + 1) 28 (List.replicate (g.terms.length + g.nons.length + 1) []), .eq (.int .i64 (g.top + 1)), rowF Ty.bool w3.heap.size (g.terms.length + g.nons.length + 1) 4 (List.replicate (g.terms.length + g.nons.length + 1) false), .eq (.int .i64 (g.top + 1)), rowF Ty.bool w3.heap.size (g.terms.length + g.nons.length + 1) 4 (List.replicate (g.terms.length + g.nons.length + 1) false), aggF w3.heap.size (g.terms.length + g.nons.length + 1), ptrF w3.heap.size (g.terms.length + g.nons.length + 1), ptrF w3.heap.size (g.terms.length + g.nons.length + 1)]
    [(1, 3, distV), (1, 5, distV), (3, 5, distV)] [8] mixed rfl Ext.refl Ext.trans Ext.drew ⟨?_, ?_, ?_, ?_, ?_, ?_, ?_, ?_, ?_, trivial⟩ ?_
  · intro w_ hG _
    exact WopG.plain rfl (Wop.pure TT rfl ⟨Ext.refl _, rfl, rs _ _ _ _ (by decide) (by decide) (by decide)⟩)
  · intro w_ hG v hv _
    cases hv
    exact WopG.plain rfl (Wop.makeMut (D := tIs) (S := fun _ => False) (x0 := []) (n := g.terms.length + g.nons.length + 1) TT rfl rfl infoIs rfl rfl rfl (by omega) (by omega) (by omega) (fun w => ⟨none, 0, 0, rfl, Nat.le_refl _, Ty.Row.nil_ _ _ _ _⟩) (fun w' e m z => ⟨e, ⟨_, rfl, hG.size, m⟩, fun u hu => (distV.new hu).1, trivial, fun u hu => (distV.new hu).1, trivial, trivial, trivial, trivial⟩))
  · intro w_ hG _
    exact WopG.plain rfl (Wop.pure TT rfl ⟨Ext.refl _, rfl, rs _ _ _ _ (by decide) (by decide) (by decide)⟩)
  · intro w_ hG v hv _
    cases hv
    exact WopG.plain rfl (Wop.makeMut (D := Ty.bool) (S := fun _ => False) (x0 := false) (n := g.terms.length + g.nons.length + 1) TT rfl rfl infoBool rfl rfl rfl (by omega) (by omega) (by omega) (fun w => rfl) (fun w' e m z => ⟨e, ⟨_, rfl, hG.size, m⟩, trivial, fun u hu => (distV.new hu).2, trivial, trivial, fun u hu => (distV.new hu).1, trivial, trivial⟩))
  · intro w_ hG _
    exact WopG.plain rfl (Wop.pure TT rfl ⟨Ext.refl _, rfl, rs _ _ _ _ (by decide) (by decide) (by decide)⟩)
  · intro w_ hG v hv _
    cases hv
    exact WopG.plain rfl (Wop.makeMut (D := Ty.bool) (S := fun _ => False) (x0 := false) (n := g.terms.length + g.nons.length + 1) TT rfl rfl infoBool rfl rfl rfl (by omega) (by omega) (by omega) (fun w => rfl) (fun w' e m z => ⟨e, ⟨_, rfl, hG.size, m⟩, trivial, trivial, trivial, fun u hu => (distV.new hu).2, trivial, fun u hu => (distV.new hu).2, trivial⟩))
  · rintro w_ hG v1 ⟨b1, rfl, g1, m1⟩ v3 ⟨b2, rfl, g2, m2⟩ v5 ⟨b3, rfl, g3, m3⟩ ⟨r1, r2, r3, _⟩
    exact WopG.plain rfl (Wop.make (cs := refAgg b1 b2 b3 (g.terms.length + g.nons.length + 1)) pl115 rfl rfl ⟨Ext.refl _, ⟨b1, b2, b3, rfl, m1, m2, m3, g1, g2, g3, r1 _ _ _ _ rfl rfl, r2 _ _ _ _ rfl rfl, r3 _ _ _ _ rfl rfl⟩, rs _ _ _ _ (by decide) (by decide) (by decide)⟩)
  · rintro w_ hG v ⟨b1, b2, b3, rfl, hn⟩ _
    exact WopG.plain rfl (Wop.box rfl (fun w' e b z => ⟨e, ⟨_, b1, b2, b3, rfl, hG.size, by have := hn.l.lt; omega, by have := hn.is_.lt; omega, by have := hn.long.lt; omega, b, hn.ext e⟩, rs _ _ _ _ (by decide) (by decide) (by decide)⟩))
  · rintro w_ hG v ⟨p, b1, b2, b3, rfl, hn⟩ _
    exact WopG.plain rfl (Wop.pure TT rfl ⟨Ext.refl _, ⟨p, b1, b2, b3, rfl, hn⟩, rs _ _ _ _ (by decide) (by decide) (by decide)⟩)
  rintro w4 e4 v8 ⟨p, d1, d2, d3, rfl, gp, np1, np2, np3, hp, hn⟩ _
  have e14 := e13.trans e4
  have hp' : Blk w4 p #[.slice (some ⟨d1, 0, none⟩) (g.terms.length + g.nons.length + 1) (g.terms.length + g.nons.length + 1), .slice (some ⟨d2, 0, none⟩) (g.terms.length + g.nons.length + 1) (g.terms.length + g.nons.length + 1), .slice (some ⟨d3, 0, none⟩) (g.terms.length + g.nons.length + 1) (g.terms.length + g.nons.length + 1)] 115 := hp
  clear hp
  have hn1 : RefIn (apart3 d1 d2 d3) w4 d1 d2 d3 (List.replicate (g.terms.length + g.nons.length + 1) no) := by
    refine ⟨?_, ?_, ?_⟩
    · rw [List.map_replicate]; exact hn.l.mono (fun _ h => h.elim)
    · rw [List.map_replicate]; exact hn.is_.mono (fun _ h => h.elim)
    · rw [List.map_replicate]; exact hn.long.mono (fun _ h => h.elim)
  have D12 := hn.d12
  have D13 := hn.d13
  have D23 := hn.d23
  have G1 := hn.g1
  have G2 := hn.g2
  have G3 := hn.g3
  have hs13 := e13.size
  have hs1 := e1.size
  have hbl := b1.lt
  have E4 : Below w.heap.size w w4 := e1.trans e14
  have hb14 := b1.ext e14
  refine wk ?_
  refine Wop.ixI TT 0 rfl rfl rfl rfl rfl rfl (by omega) ?_
  refine wk ?_
  refine Wop.stMutF (x' := true) (j := 0) (k := 0) (D := Ty.bool) TT rfl rfl rfl (by decide) rfl rfl hn1.is_ (by simp) (fun es he => ?_) (fun k hk => hk.2.1) (fun w5 k5 z5 m5 => ?_)
  · have he' : es = [.bool _] := he
    subst he'
    rfl
  have hn5 : RefIn (apart3 d1 d2 d3) w5 d1 d2 d3 (initP g.terms.length g.nons.length 0) := by
    rw [← initP_zero]
    refine ⟨?_, ?_, ?_⟩
    · rw [List.map_set, set_same (by simp [no])]
      exact hn1.l.keep k5 D12 (fun k hk => hk.2.1)
    · rw [List.map_set]
      exact m5
    · rw [List.map_set, set_same (by simp [no])]
      exact hn1.long.keep k5 (Ne.symm D23) (fun k hk => hk.2.1)
  have E5 : Below w.heap.size w w5 := Below.trans E4 (k5.below (by have := E4.size; omega) (fun k hk => by omega))
  have hb15 := k5.blk hb14 (by omega)
  have hp5 := k5.blk hp' np2
  refine wk ?_
  refine W.midB (ι := Unit) (fun _ => [(1, .pointer (some ⟨w.heap.size, 0, none⟩)), (4, .pointer (some ⟨p, 0, none⟩))]) (fun _ w' => Below w.heap.size w w' ∧ w4.heap.size ≤ w'.heap.size ∧ Blk w' w.heap.size (gcells g A0 A1 A2 c0 c1 c2).toArray 25 ∧ Blk w' p #[.slice (some ⟨d1, 0, none⟩) (g.terms.length + g.nons.length + 1) (g.terms.length + g.nons.length + 1), .slice (some ⟨d2, 0, none⟩) (g.terms.length + g.nons.length + 1) (g.terms.length + g.nons.length + 1), .slice (some ⟨d3, 0, none⟩) (g.terms.length + g.nons.length + 1) (g.terms.length + g.nons.length + 1)] 115 ∧ RefIn (apart3 d1 d2 d3) w' d1 d2 d3 (init g.terms.length g.nons.length)) ?_ ?_
  · refine W.loop (ι := Nat) (fun i => [(1, .pointer (some ⟨w.heap.size, 0, none⟩)), (4, .pointer (some ⟨p, 0, none⟩)), (5, .int .i64 ((i : Int) + 1))])
      (fun i w' => i ≤ g.terms.length ∧ Below w.heap.size w w' ∧ w4.heap.size ≤ w'.heap.size ∧ Blk w' w.heap.size (gcells g A0 A1 A2 c0 c1 c2).toArray 25 ∧ Blk w' p #[.slice (some ⟨d1, 0, none⟩) (g.terms.length + g.nons.length + 1) (g.terms.length + g.nons.length + 1), .slice (some ⟨d2, 0, none⟩) (g.terms.length + g.nons.length + 1) (g.terms.length + g.nons.length + 1), .slice (some ⟨d3, 0, none⟩) (g.terms.length + g.nons.length + 1) (g.terms.length + g.nons.length + 1)] 115 ∧ RefIn (apart3 d1 d2 d3) w' d1 d2 d3 (initP g.terms.length g.nons.length i)) (fun i => g.terms.length - i) 0 has ⟨Nat.zero_le _, E5, by omega, hb15, hp5, hn5⟩ ?_
    rintro i w' ⟨hi, hE, hsz, hb1, hbp, hr⟩
    have hlen := initP_length (t := g.terms.length) (n := g.nons.length) (i := i) hi
    refine wk ?_
    refine W.test rfl (fun hlt => ?_) (fun hge => ?_)
    · have hlt : i < g.terms.length := by omega
      have hst : Stable [MutT tIs (apart3 d1 d2 d3) d1 28 (((initP g.terms.length g.nons.length i).map (·.l)).set (i + 1) [(i : Int) + 1]), MutT Ty.bool (apart3 d1 d2 d3) d2 4 (((initP g.terms.length g.nons.length i).map (·.is_)).set (i + 1) true)] := stable_mut (fun q hq => by
        simp only [List.mem_cons, List.not_mem_nil, or_false] at hq
        rcases hq with rfl | rfl
        · exact ⟨_, _, (apart3 d1 d2 d3), _, _, rfl, fun k hk r hr => by simp only [List.mem_cons, List.not_mem_nil, or_false] at hr; rcases hr with rfl | rfl <;> first | exact hk.1 | exact hk.2.1⟩
        · exact ⟨_, _, (apart3 d1 d2 d3), _, _, rfl, fun k hk r hr => by simp only [List.mem_cons, List.not_mem_nil, or_false] at hr; rcases hr with rfl | rfl <;> first | exact hk.1 | exact hk.2.1⟩)
      have hS : ∀ k, (apart3 d1 d2 d3) k → ∀ q ∈ [MutT tIs (apart3 d1 d2 d3) d1 28 (((initP g.terms.length g.nons.length i).map (·.l)).set (i + 1) [(i : Int) + 1]), MutT Ty.bool (apart3 d1 d2 d3) d2 4 (((initP g.terms.length g.nons.length i).map (·.is_)).set (i + 1) true)], k ≠ q.1 := fun k hk r hr => by simp only [List.mem_cons, List.not_mem_nil, or_false] at hr; rcases hr with rfl | rfl <;> first | exact hk.1 | exact hk.2.1
      have hlt2 : ∀ q ∈ [MutT tIs (apart3 d1 d2 d3) d1 28 (((initP g.terms.length g.nons.length i).map (·.l)).set (i + 1) [(i : Int) + 1]), MutT Ty.bool (apart3 d1 d2 d3) d2 4 (((initP g.terms.length g.nons.length i).map (·.is_)).set (i + 1) true)], q.1 < w'.heap.size := fun q hq => by simp only [List.mem_cons, List.not_mem_nil, or_false] at hq; rcases hq with rfl | rfl <;> first | exact hr.l.lt | exact hr.is_.lt
      have hpk : ∀ k, k ≠ d1 → k ≠ d2 → ∀ q ∈ [MutT tIs (apart3 d1 d2 d3) d1 28 (((initP g.terms.length g.nons.length i).map (·.l)).set (i + 1) [(i : Int) + 1]), MutT Ty.bool (apart3 d1 d2 d3) d2 4 (((initP g.terms.length g.nons.length i).map (·.is_)).set (i + 1) true)], k ≠ q.1 := fun k h1 h2 q hq => by simp only [List.mem_cons, List.not_mem_nil, or_false] at hq; rcases hq with rfl | rfl <;> first | exact h1 | exact h2
      have gp : ∀ w_, Wr [MutT tIs (apart3 d1 d2 d3) d1 28 (((initP g.terms.length g.nons.length i).map (·.l)).set (i + 1) [(i : Int) + 1]), MutT Ty.bool (apart3 d1 d2 d3) d2 4 (((initP g.terms.length g.nons.length i).map (·.is_)).set (i + 1) true)] w' w_ → Blk w_ p #[.slice (some ⟨d1, 0, none⟩) (g.terms.length + g.nons.length + 1) (g.terms.length + g.nons.length + 1), .slice (some ⟨d2, 0, none⟩) (g.terms.length + g.nons.length + 1) (g.terms.length + g.nons.length + 1), .slice (some ⟨d3, 0, none⟩) (g.terms.length + g.nons.length + 1) (g.terms.length + g.nons.length + 1)] 115 := fun w_ h => h.keeps.blk hbp (hpk _ np1 np2)
      have hx1 := hr.l.lt
      have hx2 := hr.is_.lt
      refine wk ?_
      refine W.anyK (Wr [MutT tIs (apart3 d1 d2 d3) d1 28 (((initP g.terms.length g.nons.length i).map (·.l)).set (i + 1) [(i : Int) + 1]), MutT Ty.bool (apart3 d1 d2 d3) d2 4 (((initP g.terms.length g.nons.length i).map (·.is_)).set (i + 1) true)]) [(fun v _ => v = _), (fun v _ => v = _), (fun v _ => v = _), (fun v _ => v = _), (fun v _ => v = _), (fun v _ => v = _), (fun v _ => v = _), (fun v _ => v = _), (fun v _ => v = _), (fun v _ => v = _), (fun v _ => v = _), (fun v w => ∃ q, v = .slice (some ⟨q, 0, none⟩) 1 1 ∧ w'.heap.size ≤ q ∧ Blk w q #[.int .i64 ((i : Int) + 1)] 3), (fun v _ => v = _), (fun _ w => Mut tIs (apart3 d1 d2 d3) w d1 28 (((initP g.terms.length g.nons.length i).map (·.l)).set (i + 1) [(i : Int) + 1])), (fun v _ => v = _), (fun _ w => Mut Ty.bool (apart3 d1 d2 d3) w d2 4 (((initP g.terms.length g.nons.length i).map (·.is_)).set (i + 1) true))] [13, 15] mixed rfl (Wr.refl _) (Wr.trans hst) (Wr.drew _) ⟨qw, qw, qw, by intro w_ hG; (repeat (intro v_ hv_; cases hv_)); exact WopG.plain rfl (Wop.ldB TT rfl rfl (gp _ hG) rfl ⟨Wr.refl _ _, rfl, (by repeat (first | exact trivial | refine ⟨fun _ h => h, ?_⟩))⟩), qw, qw, qw, qw, by intro w_ hG; (repeat (intro v_ hv_; cases hv_)); exact WopG.plain rfl (Wop.ldB TT rfl rfl (gp _ hG) rfl ⟨Wr.refl _ _, rfl, (by repeat (first | exact trivial | refine ⟨fun _ h => h, ?_⟩))⟩), qw, qw, by intro w_ hG; (repeat (intro v_ hv_; cases hv_)); exact WopG.plain rfl (Wop.litI rfl (fun w2 e2 b2 z2 => ⟨Wr.of_ext e2 (fun q hq => Nat.lt_of_lt_of_le (hlt2 q hq) hG.keeps.size), ⟨_, rfl, hG.keeps.size, b2⟩, (by repeat (first | exact trivial | refine ⟨fun _ h => h, ?_⟩ | refine ⟨fun _ h => h.ext e2, ?_⟩))⟩)), by intro w_ hG; (repeat (intro v_ hv_; cases hv_)); refine WopG.plain rfl (Wop.ixI TT (i + 1) rfl rfl rfl rfl rfl (by omega) (by omega) ?_); refine ⟨Wr.refl _ _, ?_, (by repeat (first | exact trivial | refine ⟨fun _ h => h, ?_⟩))⟩; show _ = _; exact rfl, by rintro w_ hG v12 rfl v11 ⟨q, rfl, hq, hb⟩; have hx3 := hr.long.lt; obtain ⟨cur, mm, hcl, hcs⟩ := Wr.cur (i := i + 1) (x := [(i : Int) + 1]) hr.l List.mem_cons_self hS hG; exact WopG.plain rfl (Wop.stMutF (x' := [(i : Int) + 1]) (j := i + 1) (k := 0) (D := tIs) TT rfl rfl (by show 0 + (i + 1) * 1 = (i + 1) * 1 + 0; omega) (by decide) rfl rfl mm (by rw [hcl, List.length_map]; omega) (fun es he => by obtain ⟨_, _, rfl, _, _⟩ := tIs_open he; exact ⟨some ⟨q, 0, none⟩, 1, 1, rfl, Nat.le_refl _, Sx.Blk.rowI hb ⟨by omega, by omega⟩ ⟨by omega, by omega, by omega⟩⟩) (fun k hk => hk.1) (fun wz kk zz mm' => ⟨Wr.store hG hlt2 kk ⟨_, List.mem_cons_self, rfl⟩ (fun q hq e => by rcases mem2 hq with rfl | rfl <;> first | (show Mut _ _ _ _ _ _; rw [← hcs]; exact mm') | exact absurd e (Ne.symm D12)), ⟨_, rfl, (by rw [← hcs]; exact mm')⟩, (by repeat (first | exact trivial | refine ⟨fun _ h => h, ?_⟩ | refine ⟨fun _ h => Mut.keep h kk (Ne.symm D12) (fun k hk => hk.1), ?_⟩))⟩)), by intro w_ hG; (repeat (intro v_ hv_; cases hv_)); refine WopG.plain rfl (Wop.ixI TT (i + 1) rfl rfl rfl rfl rfl (by omega) (by omega) ?_); refine ⟨Wr.refl _ _, ?_, (by repeat (first | exact trivial | refine ⟨fun _ h => h, ?_⟩))⟩; show _ = _; exact rfl, by intro w_ hG; (repeat (intro v_ hv_; cases hv_)); obtain ⟨cur, mm, hcl, hcs⟩ := Wr.cur (i := i + 1) (x := true) hr.is_ (List.mem_cons_of_mem _ List.mem_cons_self) hS hG; exact WopG.plain rfl (Wop.stMutF (x' := true) (j := i + 1) (k := 0) (D := Ty.bool) TT rfl rfl (by show 0 + (i + 1) * 1 = (i + 1) * 1 + 0; omega) (by decide) rfl rfl mm (by rw [hcl, List.length_map]; omega) (fun es he => by have he' : es = [.bool _] := he; subst he'; rfl) (fun k hk => hk.2.1) (fun wz kk zz mm' => ⟨Wr.store hG hlt2 kk ⟨_, List.mem_cons_of_mem _ List.mem_cons_self, rfl⟩ (fun q hq e => by rcases mem2 hq with rfl | rfl <;> first | (show Mut _ _ _ _ _ _; rw [← hcs]; exact mm') | exact absurd e D12), ⟨_, rfl, (by rw [← hcs]; exact mm')⟩, (by repeat (first | exact trivial | refine ⟨fun _ h => h, ?_⟩ | refine ⟨fun _ h => Mut.keep h kk D12 (fun k hk => hk.2.1), ?_⟩ | refine ⟨fun _ ⟨q, h1, h2, h3⟩ => ⟨q, h1, h2, kk.blk h3 (by omega)⟩, ?_⟩))⟩)), trivial⟩ ?_
      intro wq hGq v13 m13 v15 m15
      have kr := hGq.keeps
      have hsr := kr.size
      refine wk ?_
      refine Arr.again (i + 1) (Has.cons rfl (Has.cons rfl (Has.consI rfl (by omega) Has.nil))) ⟨hlt, Below.trans hE (kr.below (by have := hE.size; omega) (fun k hk => hpk k (by omega) (by omega))), by omega, kr.blk hb1 (hpk _ (by omega) (by omega)), kr.blk hbp (hpk _ np1 np2), ⟨?_, ?_, ?_⟩⟩ (by omega)
      · rw [← initP_step hlt, List.map_set]
        exact m13
      · rw [← initP_step hlt, List.map_set]
        exact m15
      · rw [← initP_step hlt, List.map_set, set_same (by rw [List.getElem?_map, initP_get hlt]; rfl)]
        exact hr.long.keep kr (hpk _ (Ne.symm D13) (Ne.symm D23)) hS
    · have : i = g.terms.length := by omega
      subst this
      rw [initP_end] at hr
      refine wk ?_
      exact Arr.mid () has ⟨hE, hsz, hb1, hbp, hr⟩
  rintro _ w7 ⟨hE7, hs7, hb17, hbp7, hr7⟩
  obtain ⟨iok, ilen⟩ := init_ok g.terms.length g.nons.length
  refine wk ?_
  refine W.loop (ι := List Found × Bool) (fun i => [(1, .pointer (some ⟨w.heap.size, 0, none⟩)), (4, .pointer (some ⟨p, 0, none⟩)), (6, .bool i.2)])
    (fun i w' => (Below w.heap.size w w' ∧ w4.heap.size ≤ w'.heap.size ∧ Blk w' w.heap.size (gcells g A0 A1 A2 c0 c1 c2).toArray 25 ∧ Blk w' p #[.slice (some ⟨d1, 0, none⟩) (g.terms.length + g.nons.length + 1) (g.terms.length + g.nons.length + 1), .slice (some ⟨d2, 0, none⟩) (g.terms.length + g.nons.length + 1) (g.terms.length + g.nons.length + 1), .slice (some ⟨d3, 0, none⟩) (g.terms.length + g.nons.length + 1) (g.terms.length + g.nons.length + 1)] 115 ∧ RefIn (apart3 d1 d2 d3) w' d1 d2 d3 i.1) ∧ WsOk g.terms.length i.1 ∧ i.1.length = g.terms.length + g.nons.length + 1 ∧ (∃ k, i.1 = iter g.rules k (init g.terms.length g.nons.length)) ∧ (i.2 = false → (pass g.rules i.1).2 = false))
    (fun i => 2 * rank g.terms.length i.1 + if i.2 = true then 1 else 0) (init g.terms.length g.nons.length, true) has ⟨⟨hE7, hs7, hb17, hbp7, hr7⟩, iok, ilen, ⟨0, rfl⟩, fun h => by cases h⟩ ?_
  rintro ⟨ws, more⟩ w' ⟨⟨hE, hsz, hb1, hbp, hr⟩, hok, hlen, ⟨kk, hit⟩, hstill⟩
  simp only at hr hok hlen hit hstill ⊢
  refine wk ?_
  refine W.cond rfl (fun q => ?_) (fun q => ?_)
  · subst q
    refine wk ?_
    refine W.loop (ι := Nat × List Found × Bool) (fun i => [(1, .pointer (some ⟨w.heap.size, 0, none⟩)), (4, .pointer (some ⟨p, 0, none⟩)), (6, .bool i.2.2), (7, .int .i64 (i.1 : Int))])
      (fun i w' => i.1 ≤ g.rules.length ∧ i.2 = passOn (ws, false) (g.rules.take i.1) ∧ Below w.heap.size w w' ∧ w4.heap.size ≤ w'.heap.size ∧ Blk w' w.heap.size (gcells g A0 A1 A2 c0 c1 c2).toArray 25 ∧ Blk w' p #[.slice (some ⟨d1, 0, none⟩) (g.terms.length + g.nons.length + 1) (g.terms.length + g.nons.length + 1), .slice (some ⟨d2, 0, none⟩) (g.terms.length + g.nons.length + 1) (g.terms.length + g.nons.length + 1), .slice (some ⟨d3, 0, none⟩) (g.terms.length + g.nons.length + 1) (g.terms.length + g.nons.length + 1)] 115 ∧ RefIn (apart3 d1 d2 d3) w' d1 d2 d3 i.2.1)
      (fun i => g.rules.length - i.1) (0, ws, false) has ⟨Nat.zero_le _, rfl, hE, hsz, hb1, hbp, hr⟩ ?_
    rintro ⟨k, wz, mk⟩ w1' ⟨hk, hpass, hE1, hsz1, hb11, hbp1, hr1⟩
    simp only at hk hpass hr1 ⊢
    have hwz : wz = (passOn (ws, false) (g.rules.take k)).1 := by rw [← hpass]
    obtain ⟨kok, klen⟩ := passOn_ok (g.rules.take k) (ws, false) hok
    rw [← hwz] at kok klen
    simp only [hlen] at klen
    refine wk ?_
    refine W.test rfl (fun hlt => ?_) (fun hge => ?_)
    · have hlt : k < g.rules.length := by omega
      obtain ⟨rb, ro, hA2, es, hrd, hc⟩ := hg.rules.at_ k hlt
      subst hA2
      obtain ⟨RA, rc, rfl, hrcap, hl64, hrrow⟩ := tRule_open hrd
      have hc1 := Ext.cell hE1 (hc 1 _ rfl)
      have hleft := may.left (List.getElem_mem hlt)
      have hin : g.rules[k].left.toNat < wz.length := by omega
      refine wk ?_
      refine Wop.fn en99 rfl (rJoin (p := p) (ws := wz) ⟨d1, d2, d3, (g.terms.length + g.nons.length + 1), (g.terms.length + g.nons.length + 1), (g.terms.length + g.nons.length + 1), by rw [klen]; exact hbp1, by omega, by omega, hr1⟩ kok (by omega) (hrrow.ext (by decide) hE1)) ?_
      rintro _ u1 ⟨⟨JA, jc, rfl, hjc, hjr⟩, f1⟩
      have hE2 := hE1.trans (Below.mono f1 hE1.size)
      have hb12 := hb11.ext f1
      have hbp2 := hbp1.ext f1
      have hr2 := hr1.ext f1
      have hc0 := Ext.cell hE2 (hc 0 _ rfl)
      have hsf := f1.size
      have htake := passOn_take (p := (ws, false)) hlt
      rw [← hpass] at htake
      simp only at htake
      have hstep : stepF wz g.rules[k] = if better (join wz g.rules[k].right) (wz[g.rules[k].left.toNat]?.getD no) = true then (wz.set g.rules[k].left.toNat (join wz g.rules[k].right), true) else (wz, false) := rfl
      refine wk ?_
      refine Wl.partB rfl rfl rfl (fun q1 => ?_) (fun q1 => ?_)
      rotate_left
      · have hb : better (join wz g.rules[k].right) (wz[g.rules[k].left.toNat]?.getD no) = false := by rw [better, if_pos q1]
        rw [hstep, if_neg (by rw [hb]; exact Bool.false_ne_true)] at htake
        simp only [Bool.or_false] at htake
        refine wk ?_
        refine Arr.again (i := (k, wz, mk)) (k + 1, wz, mk) has ⟨hlt, htake.symm, hE2, by omega, hb12, hbp2, hr2⟩ (by simp only; omega)
      refine wk ?_
      refine Wop.fn en100 rfl (rBetter (p := p) (ws := wz) ⟨d1, d2, d3, (g.terms.length + g.nons.length + 1), (g.terms.length + g.nons.length + 1), (g.terms.length + g.nons.length + 1), by rw [klen]; exact hbp2, by omega, by omega, hr2⟩ (by omega) (by omega) hjr) ?_
      rintro _ u2 ⟨rfl, f2⟩
      have heta : (⟨true, (join wz g.rules[k].right).long, (join wz g.rules[k].right).l⟩ : Found) = join wz g.rules[k].right := by rw [← q1]
      rw [heta]
      have hE3 := hE2.trans (Below.mono f2 hE2.size)
      have hb13 := hb12.ext f2
      have hbp3 := hbp2.ext f2
      have hr3 := hr2.ext f2
      have hsf2 := f2.size
      refine wk ?_
      refine W.cond rfl (fun hb => ?_) (fun hb => ?_)
      · rw [hstep, if_pos hb] at htake
        have hst : Stable [MutT tIs (apart3 d1 d2 d3) d1 28 ((wz.map (·.l)).set g.rules[k].left.toNat (join wz g.rules[k].right).l), MutT Ty.bool (apart3 d1 d2 d3) d2 4 ((wz.map (·.is_)).set g.rules[k].left.toNat true), MutT Ty.bool (apart3 d1 d2 d3) d3 4 ((wz.map (·.long)).set g.rules[k].left.toNat (join wz g.rules[k].right).long)] := stable_mut (fun q hq => by
          rcases mem3 hq with rfl | rfl | rfl
          · exact ⟨_, _, (apart3 d1 d2 d3), _, _, rfl, fun k hk r hr => by rcases mem3 hr with rfl | rfl | rfl <;> first | exact hk.1 | exact hk.2.1 | exact hk.2.2⟩
          · exact ⟨_, _, (apart3 d1 d2 d3), _, _, rfl, fun k hk r hr => by rcases mem3 hr with rfl | rfl | rfl <;> first | exact hk.1 | exact hk.2.1 | exact hk.2.2⟩
          · exact ⟨_, _, (apart3 d1 d2 d3), _, _, rfl, fun k hk r hr => by rcases mem3 hr with rfl | rfl | rfl <;> first | exact hk.1 | exact hk.2.1 | exact hk.2.2⟩)
        have hS : ∀ j, (apart3 d1 d2 d3) j → ∀ q ∈ [MutT tIs (apart3 d1 d2 d3) d1 28 ((wz.map (·.l)).set g.rules[k].left.toNat (join wz g.rules[k].right).l), MutT Ty.bool (apart3 d1 d2 d3) d2 4 ((wz.map (·.is_)).set g.rules[k].left.toNat true), MutT Ty.bool (apart3 d1 d2 d3) d3 4 ((wz.map (·.long)).set g.rules[k].left.toNat (join wz g.rules[k].right).long)], j ≠ q.1 := fun j hj r hr => by rcases mem3 hr with rfl | rfl | rfl <;> first | exact hj.1 | exact hj.2.1 | exact hj.2.2
        have hlt2 : ∀ q ∈ [MutT tIs (apart3 d1 d2 d3) d1 28 ((wz.map (·.l)).set g.rules[k].left.toNat (join wz g.rules[k].right).l), MutT Ty.bool (apart3 d1 d2 d3) d2 4 ((wz.map (·.is_)).set g.rules[k].left.toNat true), MutT Ty.bool (apart3 d1 d2 d3) d3 4 ((wz.map (·.long)).set g.rules[k].left.toNat (join wz g.rules[k].right).long)], q.1 < u2.heap.size := fun q hq => by rcases mem3 hq with rfl | rfl | rfl <;> first | exact hr3.l.lt | exact hr3.is_.lt | exact hr3.long.lt
        have hpk : ∀ j, j ≠ d1 → j ≠ d2 → j ≠ d3 → ∀ q ∈ [MutT tIs (apart3 d1 d2 d3) d1 28 ((wz.map (·.l)).set g.rules[k].left.toNat (join wz g.rules[k].right).l), MutT Ty.bool (apart3 d1 d2 d3) d2 4 ((wz.map (·.is_)).set g.rules[k].left.toNat true), MutT Ty.bool (apart3 d1 d2 d3) d3 4 ((wz.map (·.long)).set g.rules[k].left.toNat (join wz g.rules[k].right).long)], j ≠ q.1 := fun j h1 h2 h3 q hq => by rcases mem3 hq with rfl | rfl | rfl <;> first | exact h1 | exact h2 | exact h3
        have gp : ∀ w_, Wr [MutT tIs (apart3 d1 d2 d3) d1 28 ((wz.map (·.l)).set g.rules[k].left.toNat (join wz g.rules[k].right).l), MutT Ty.bool (apart3 d1 d2 d3) d2 4 ((wz.map (·.is_)).set g.rules[k].left.toNat true), MutT Ty.bool (apart3 d1 d2 d3) d3 4 ((wz.map (·.long)).set g.rules[k].left.toNat (join wz g.rules[k].right).long)] u2 w_ → Blk w_ p #[.slice (some ⟨d1, 0, none⟩) (g.terms.length + g.nons.length + 1) (g.terms.length + g.nons.length + 1), .slice (some ⟨d2, 0, none⟩) (g.terms.length + g.nons.length + 1) (g.terms.length + g.nons.length + 1), .slice (some ⟨d3, 0, none⟩) (g.terms.length + g.nons.length + 1) (g.terms.length + g.nons.length + 1)] 115 := fun w_ h => h.keeps.blk hbp3 (hpk _ np1 np2 np3)
        have hx1 := hr1.l.lt
        have hx2 := hr1.is_.lt
        have hx3 := hr1.long.lt
        have hjrow : ∀ w_, Wr [MutT tIs (apart3 d1 d2 d3) d1 28 ((wz.map (·.l)).set g.rules[k].left.toNat (join wz g.rules[k].right).l), MutT Ty.bool (apart3 d1 d2 d3) d2 4 ((wz.map (·.is_)).set g.rules[k].left.toNat true), MutT Ty.bool (apart3 d1 d2 d3) d3 4 ((wz.map (·.long)).set g.rules[k].left.toNat (join wz g.rules[k].right).long)] u2 w_ → tI.Row (apart3 d1 d2 d3) w_ JA (join wz g.rules[k].right).l.length (join wz g.rules[k].right).l := fun w_ hG =>
          ((hjr.ext (by decide) f2).keep (by decide) hG.keeps (fun j hj => hpk j (by omega) (by omega) (by omega))).mono (fun j hj => ⟨by omega, by omega, by omega⟩)
        refine wk ?_
        refine W.anyK (Wr [MutT tIs (apart3 d1 d2 d3) d1 28 ((wz.map (·.l)).set g.rules[k].left.toNat (join wz g.rules[k].right).l), MutT Ty.bool (apart3 d1 d2 d3) d2 4 ((wz.map (·.is_)).set g.rules[k].left.toNat true), MutT Ty.bool (apart3 d1 d2 d3) d3 4 ((wz.map (·.long)).set g.rules[k].left.toNat (join wz g.rules[k].right).long)]) [(fun v _ => v = _), (fun v _ => v = _), (fun v _ => v = _), (fun v _ => v = _), (fun v _ => v = _), (fun v _ => v = _), (fun v _ => v = _), (fun v _ => v = _), (fun v _ => v = _), (fun v _ => v = _), (fun v _ => v = _), (fun v _ => v = _), (fun v _ => v = _), (fun v _ => v = _), (fun v _ => v = _), (fun v _ => v = _), (fun v _ => v = _), (fun v _ => v = _), (fun _ w => Mut tIs (apart3 d1 d2 d3) w d1 28 ((wz.map (·.l)).set g.rules[k].left.toNat (join wz g.rules[k].right).l)), (fun v _ => v = _), (fun _ w => Mut Ty.bool (apart3 d1 d2 d3) w d2 4 ((wz.map (·.is_)).set g.rules[k].left.toNat true)), (fun v _ => v = _), (fun _ w => Mut Ty.bool (apart3 d1 d2 d3) w d3 4 ((wz.map (·.long)).set g.rules[k].left.toNat (join wz g.rules[k].right).long))] [18, 20, 22] mixed rfl (Wr.refl _) (Wr.trans hst) (Wr.drew _) ⟨qw, qw, qw, by intro w_ hG; (repeat (intro v_ hv_; cases hv_)); exact WopG.plain rfl (Wop.ldB TT rfl rfl (gp _ hG) rfl ⟨Wr.refl _ _, rfl, (by repeat (first | exact trivial | refine ⟨fun _ h => h, ?_⟩))⟩), qw, qw, qw, qw, by intro w_ hG; (repeat (intro v_ hv_; cases hv_)); exact WopG.plain rfl (Wop.ldB TT rfl rfl (gp _ hG) rfl ⟨Wr.refl _ _, rfl, (by repeat (first | exact trivial | refine ⟨fun _ h => h, ?_⟩))⟩), qw, qw, qw, qw, by intro w_ hG; (repeat (intro v_ hv_; cases hv_)); exact WopG.plain rfl (Wop.ldB TT rfl rfl (gp _ hG) rfl ⟨Wr.refl _ _, rfl, (by repeat (first | exact trivial | refine ⟨fun _ h => h, ?_⟩))⟩), qw, qw, qw, by intro w_ hG; (repeat (intro v_ hv_; cases hv_)); refine WopG.plain rfl (Wop.ixI TT g.rules[k].left.toNat rfl rfl rfl rfl rfl (by omega) (by omega) ?_); refine ⟨Wr.refl _ _, ?_, (by repeat (first | exact trivial | refine ⟨fun _ h => h, ?_⟩))⟩; show _ = _; exact rfl, by intro w_ hG; (repeat (intro v_ hv_; cases hv_)); obtain ⟨cur, mm, hcl, hcs⟩ := Wr.cur (i := g.rules[k].left.toNat) (x := (join wz g.rules[k].right).l) hr3.l (List.mem_cons_self) hS hG; exact WopG.plain rfl (Wop.stMutF (x' := (join wz g.rules[k].right).l) (j := g.rules[k].left.toNat) (k := 0) (D := tIs) TT rfl rfl (by show 0 + g.rules[k].left.toNat * 1 = g.rules[k].left.toNat * 1 + 0; omega) (by decide) rfl rfl mm (by rw [hcl, List.length_map]; omega) (fun es he => by obtain ⟨_, _, rfl, _, _⟩ := tIs_open he; exact ⟨_, _, _, rfl, hjc, hjrow _ hG⟩) (fun j hj => hj.1) (fun wy kk zz mm' => ⟨Wr.store hG hlt2 kk ⟨_, List.mem_cons_self, rfl⟩ (fun q hq e => by rcases mem3 hq with rfl | rfl | rfl <;> first | (show Mut _ _ _ _ _ _; rw [← hcs]; exact mm') | exact absurd e (Ne.symm D12) | exact absurd e (Ne.symm D13)), ⟨_, rfl, (by rw [← hcs]; exact mm')⟩, (by repeat (first | exact trivial | refine ⟨fun _ h => h, ?_⟩ | refine ⟨fun _ h => Mut.keep h kk (Ne.symm D12) (fun j hj => hj.1), ?_⟩ | refine ⟨fun _ h => Mut.keep h kk (Ne.symm D13) (fun j hj => hj.1), ?_⟩))⟩)), by intro w_ hG; (repeat (intro v_ hv_; cases hv_)); refine WopG.plain rfl (Wop.ixI TT g.rules[k].left.toNat rfl rfl rfl rfl rfl (by omega) (by omega) ?_); refine ⟨Wr.refl _ _, ?_, (by repeat (first | exact trivial | refine ⟨fun _ h => h, ?_⟩))⟩; show _ = _; exact rfl, by intro w_ hG; (repeat (intro v_ hv_; cases hv_)); obtain ⟨cur, mm, hcl, hcs⟩ := Wr.cur (i := g.rules[k].left.toNat) (x := true) hr3.is_ (List.mem_cons_of_mem _ List.mem_cons_self) hS hG; exact WopG.plain rfl (Wop.stMutF (x' := true) (j := g.rules[k].left.toNat) (k := 0) (D := Ty.bool) TT rfl rfl (by show 0 + g.rules[k].left.toNat * 1 = g.rules[k].left.toNat * 1 + 0; omega) (by decide) rfl rfl mm (by rw [hcl, List.length_map]; omega) (fun es he => by have he' : es = [.bool _] := he; subst he'; rfl) (fun j hj => hj.2.1) (fun wy kk zz mm' => ⟨Wr.store hG hlt2 kk ⟨_, List.mem_cons_of_mem _ List.mem_cons_self, rfl⟩ (fun q hq e => by rcases mem3 hq with rfl | rfl | rfl <;> first | (show Mut _ _ _ _ _ _; rw [← hcs]; exact mm') | exact absurd e D12 | exact absurd e (Ne.symm D23)), ⟨_, rfl, (by rw [← hcs]; exact mm')⟩, (by repeat (first | exact trivial | refine ⟨fun _ h => h, ?_⟩ | refine ⟨fun _ h => Mut.keep h kk D12 (fun j hj => hj.2.1), ?_⟩ | refine ⟨fun _ h => Mut.keep h kk (Ne.symm D23) (fun j hj => hj.2.1), ?_⟩))⟩)), by intro w_ hG; (repeat (intro v_ hv_; cases hv_)); refine WopG.plain rfl (Wop.ixI TT g.rules[k].left.toNat rfl rfl rfl rfl rfl (by omega) (by omega) ?_); refine ⟨Wr.refl _ _, ?_, (by repeat (first | exact trivial | refine ⟨fun _ h => h, ?_⟩))⟩; show _ = _; exact rfl, by intro w_ hG; (repeat (intro v_ hv_; cases hv_)); obtain ⟨cur, mm, hcl, hcs⟩ := Wr.cur (i := g.rules[k].left.toNat) (x := (join wz g.rules[k].right).long) hr3.long (List.mem_cons_of_mem _ (List.mem_cons_of_mem _ List.mem_cons_self)) hS hG; exact WopG.plain rfl (Wop.stMutF (x' := (join wz g.rules[k].right).long) (j := g.rules[k].left.toNat) (k := 0) (D := Ty.bool) TT rfl rfl (by show 0 + g.rules[k].left.toNat * 1 = g.rules[k].left.toNat * 1 + 0; omega) (by decide) rfl rfl mm (by rw [hcl, List.length_map]; omega) (fun es he => by have he' : es = [.bool _] := he; subst he'; rfl) (fun j hj => hj.2.2) (fun wy kk zz mm' => ⟨Wr.store hG hlt2 kk ⟨_, List.mem_cons_of_mem _ (List.mem_cons_of_mem _ List.mem_cons_self), rfl⟩ (fun q hq e => by rcases mem3 hq with rfl | rfl | rfl <;> first | (show Mut _ _ _ _ _ _; rw [← hcs]; exact mm') | exact absurd e D13 | exact absurd e D23), ⟨_, rfl, (by rw [← hcs]; exact mm')⟩, (by repeat (first | exact trivial | refine ⟨fun _ h => h, ?_⟩ | refine ⟨fun _ h => Mut.keep h kk D13 (fun j hj => hj.2.2), ?_⟩ | refine ⟨fun _ h => Mut.keep h kk D23 (fun j hj => hj.2.2), ?_⟩))⟩)), trivial⟩ ?_
        intro wr hGr v18 m18 v20 m20 v22 m22
        have kr := hGr.keeps
        have hsr := kr.size
        refine wk ?_
        refine Arr.again (i := (k, wz, mk)) (k + 1, wz.set g.rules[k].left.toNat (join wz g.rules[k].right), true) has ⟨hlt, ?_, Below.trans hE3 (kr.below (by have := hE3.size; omega) (fun j hj => hpk j (by omega) (by omega) (by omega))), by omega, kr.blk hb13 (hpk _ (by omega) (by omega) (by omega)), kr.blk hbp3 (hpk _ np1 np2 np3), ⟨?_, ?_, ?_⟩⟩ (by simp only; omega)
        · rw [htake]
          simp
        · simp only [List.map_set]
          exact m18
        · simp only [List.map_set]
          rw [q1]
          exact m20
        · simp only [List.map_set]
          exact m22
      · rw [hstep, if_neg (by rw [hb]; exact Bool.false_ne_true)] at htake
        simp only [Bool.or_false] at htake
        refine wk ?_
        refine Arr.again (i := (k, wz, mk)) (k + 1, wz, mk) has ⟨hlt, htake.symm, hE3, by omega, hb13, hbp3, hr3⟩ (by simp only; omega)
    · have : k = g.rules.length := by omega
      subst this
      rw [List.take_length] at hpass
      change (wz, mk) = pass g.rules ws at hpass
      have hrk := passOn_rank (K := g.terms.length) g.rules ws false hok (fun r hr => by have := may.left hr; omega)
      change rank g.terms.length (pass g.rules ws).1 ≤ rank g.terms.length ws ∧ (false = false → (pass g.rules ws).2 = true → rank g.terms.length (pass g.rules ws).1 < rank g.terms.length ws) at hrk
      rw [← hpass] at hrk
      simp only at hrk
      refine wk ?_
      refine Arr.again (i := (ws, true)) (wz, mk) has ⟨⟨hE1, hsz1, hb11, hbp1, hr1⟩, kok, klen, ⟨kk + 1, ?_⟩, fun h => ?_⟩ ?_
      · rw [iter_add, ← hit, iter, ← hpass]
        rfl
      · subst h
        have h2 : (pass g.rules ws).2 = false := by rw [← hpass]
        have h1 := pass_still h2
        rw [← hpass] at h1
        simp only at h1
        rw [h1]
        exact h2
      · simp only [if_pos]
        cases mk with
        | true => have := hrk.2 trivial rfl; simp; omega
        | false => have := hrk.1; simp; omega
  · subst q
    refine wk ?_
    refine Arr.ret1 rfl rfl ⟨?_, hE⟩
    rw [if_pos hck]
    exact ⟨p, ws, rfl, ⟨d1, d2, d3, (g.terms.length + g.nons.length + 1), (g.terms.length + g.nons.length + 1), (g.terms.length + g.nons.length + 1), by rw [hlen]; exact hbp, by omega, by omega, hr⟩, ⟨⟨kk, hit, hstill rfl⟩, hok, hlen⟩⟩
end Go.Proofs.Ytbadjlhijbkbbaa
