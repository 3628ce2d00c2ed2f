/-
  Joined by program out of the texts Ar7 Ar8: lemmas for the proofs of this seat; no condition.
-/
import Derived.Test.YtbadjlhijbkbbaaCc
import Derived.Test.YtbadjlhijbkbbaaCa
import Derived.Test.YtbadjlhijbkbbaaBe
set_option maxHeartbeats 1000000
/-
  slices.Contains and slices.Clone of numbers; a row of the call's own is written in place.
-/
set_option linter.unusedVariables false
namespace Go.Proofs.Ytbadjlhijbkbbaa.Sx
open Go Go.RowKit
section
variable {P : Program} {Q : Exit → Act → World → Prop} {N : Nat} {σ : Sl} {w : World} {K : Value → World → Prop}
variable {d : Option Tmp} {ty : TypeId} {ps : String} {af : Array Edge} {gd : Option (Nat × Bool)}
theorem run_eqSl {t e : TypeId} {A : Option Addr} {n c : Nat} (ht : P.underlying t = some (.slice e)) (w : World) : (Op.equal t (.slice A n c) (.slice none 0 0)).run P w = .ok A.isNone w := by
  unfold Op.equal
  rw [show Op.maxDepth = 9999 + 1 from rfl, Op.equalIn]
  cases A <;> simp [run_underlying ht]
theorem binOp_eqSl {t e : TypeId} {A : Option Addr} {n c : Nat} (ht : P.underlying t = some (.slice e)) (w : World) : (binOp .eql t (.slice A n c) (.slice none 0 0)).run P w = .ok (.bool A.isNone) w := by
  show (do pure (Value.bool (← Op.equal t _ _)) : Sem Value).run P w = _
  simp [run_eqSl ht]
/-- s == nil. -/
theorem Wop.sliceNil {t t' e : TypeId} {x : Operand} {A : Option Addr} {n c : Nat} (ht : P.underlying t = some (.slice e)) (hx : look σ x = some (.slice A n c)) (hk : K (.bool A.isNone) w) : Wop P Q N ⟨d, .binOp .eql t x (.const (.slice none 0 0)) t', ty, ps, af, gd⟩ σ w K :=
  Wop.val (v := .bool A.isNone) (fun ρ h => by simp [execOp, h x _ hx, h (.const (.slice none 0 0)) _ rfl, eqGuard, binOp_eqSl ht]) hk
/-- One cell of an element of a row of the call's own is written. -/
theorem Wop.stOwnF {α : Type} {D : Ty α} {S : Nat → Prop} (T : Tab P) {t e : TypeId} {x y : Operand} {base g n c j k o : Nat} {xs : List α} {x' : α} {u : Value} (hs : nth T.sizes t = some 1) (hx : look σ x = some (.pointer (some ⟨g, o, none⟩))) (ho : o = j * D.sz + k) (hkz : k < D.sz) (hy : look σ y = some u) (h1 : u.oneCell' = true)
    (hm : OwnM D S w base e (.slice (some ⟨g, 0, none⟩) n c) xs) (hj : j < xs.length) (hr : ∀ es, D.rd S w xs[j] es → D.rd S w x' (es.set k u)) (hS : ∀ k, S k → k ≠ g)
    (hk : ∀ w', Keeps (fun k => k ≠ g) w w' → w'.heap.size = w.heap.size → OwnM D S w' base e (.slice (some ⟨g, 0, none⟩) n c) (xs.set j x') → K undef w') : Wop P Q N ⟨d, .store t x y, ty, ps, af, gd⟩ σ w K := by
  subst ho
  obtain ⟨cs, ⟨hl0, hrow⟩, hL⟩ := hm
  rcases hrow with ⟨he, _⟩ | ⟨g', cap, cur, he, hbg, hh, hnc, hcm, hcs, ht⟩
  · cases he
  injection he with e1 e2 e3
  subst e3
  have e1' : g = g' := by injection e1 with e1; injection e1
  subst e1'
  obtain ⟨pre, es, post, rfl, hp, hrd, hset⟩ := hL.split j hj
  have hl := D.len hrd
  have hb : Blk w g cur e := hh
  have hlen : pre.length + es.length + post.length = xs.length * D.sz := by rw [← hl0]; simp; omega
  have hcl : xs.length * D.sz ≤ cur.size := by rw [hcs]; exact Nat.mul_le_mul_right _ hnc
  have hlt : j * D.sz + k < xs.length * D.sz := by omega
  have kp : Keeps (fun k => k ≠ g) w (w.setCell ⟨g, j * D.sz + k, none⟩ u) := by
    have h := (Below.refl g w).setCell (show g ≤ (⟨g, j * D.sz + k, none⟩ : Addr).block from Nat.le_refl g) u
    exact ⟨h.os, h.tape, h.output, h.size, fun i hi _ => Below.heap_setCell w _ _ _ hi⟩
  refine Wop.st T hs hx hy h1 hb (old := cur[j * D.sz + k]'(by omega)) (by simp) (hk _ kp (by simp [World.setCell]) ⟨pre ++ es.set k u ++ post, ⟨by simp; omega, .inr ⟨g, c, cur.setIfInBounds (j * D.sz + k) u, by rw [e2]; simp, hbg, hb.set _ u, by simpa using hnc, hcm, by simpa using hcs, ?_⟩⟩, (hset x' _ (hr es hrd)).move (fun y es hy => D.keep kp hS hy)⟩)
  have e : (cur.setIfInBounds (j * D.sz + k) u).toList.take ((xs.set j x').length * D.sz) = (cur.toList.take (xs.length * D.sz)).set (j * D.sz + k) u := by
    simp [List.take_set]
  rw [e, ht, ← hp, List.append_assoc, List.set_append_right _ _ (by omega), Nat.add_sub_cancel_left, List.set_append_left _ _ (by omega), List.append_assoc]
end
/-- One operation of a region that draws its order and keeps some blocks. -/
theorem qg {p : Prop} (h : p := by (intro w_ hG; (repeat (intro v_ hv_; cases hv_)); first | (refine WopG.plain rfl ?_; first | refine Wop.pure TT rfl ⟨Keeps.refl _ _, rfl, (by repeat (first | exact trivial | refine ⟨fun _ h => h, ?_⟩))⟩ | refine Wop.ldB TT rfl rfl (by first | assumption | exact (by assumption : ∀ w_, Keeps _ _ w_ → Blk w_ _ _ _) _ hG) rfl ⟨Keeps.refl _ _, rfl, (by repeat (first | exact trivial | refine ⟨fun _ h => h, ?_⟩))⟩ | refine Wop.ld TT rfl rfl (by first | assumption | exact (by assumption : ∀ w_, Keeps _ _ w_ → w_.cell? _ = _) _ hG) ⟨Keeps.refl _ _, rfl, (by repeat (first | exact trivial | refine ⟨fun _ h => h, ?_⟩))⟩ | refine Wop.ldA TT rfl rfl rfl (by first | assumption | exact (by assumption : ∀ w_, Keeps _ _ w_ → Blk w_ _ _ _) _ hG) ⟨Keeps.refl _ _, rfl, (by repeat (first | exact trivial | refine ⟨fun _ h => h, ?_⟩))⟩ | refine Wop.ldR TT rfl rfl rfl (by first | assumption | assumption) ⟨Keeps.refl _ _, rfl, (by repeat (first | exact trivial | refine ⟨fun _ h => h, ?_⟩))⟩ | refine Wop.ix TT rfl rfl rfl rfl rfl (by first | assumption | omega) ⟨Keeps.refl _ _, rfl, (by repeat (first | exact trivial | refine ⟨fun _ h => h, ?_⟩))⟩ | refine Wop.inc rfl rfl (by omega) ⟨Keeps.refl _ _, rfl, (by repeat (first | exact trivial | refine ⟨fun _ h => h, ?_⟩))⟩ | refine Wop.add rfl rfl ⟨by omega, by omega⟩ ⟨Keeps.refl _ _, rfl, (by repeat (first | exact trivial | refine ⟨fun _ h => h, ?_⟩))⟩ | refine Wop.sub rfl rfl ⟨by omega, by omega⟩ ⟨Keeps.refl _ _, rfl, (by repeat (first | exact trivial | refine ⟨fun _ h => h, ?_⟩))⟩) | exact WopG.no rfl rfl rfl rfl rfl ⟨Keeps.refl _ _, rfl, (by repeat (first | exact trivial | refine ⟨fun _ h => h, ?_⟩))⟩ | (refine WopG.yes rfl rfl rfl rfl ?_; first | refine Wop.pure TT rfl ⟨Keeps.refl _ _, rfl, (by repeat (first | exact trivial | refine ⟨fun _ h => h, ?_⟩))⟩ | refine Wop.ldB TT rfl rfl (by first | assumption | exact (by assumption : ∀ w_, Keeps _ _ w_ → Blk w_ _ _ _) _ hG) rfl ⟨Keeps.refl _ _, rfl, (by repeat (first | exact trivial | refine ⟨fun _ h => h, ?_⟩))⟩ | refine Wop.ld TT rfl rfl (by first | assumption | exact (by assumption : ∀ w_, Keeps _ _ w_ → w_.cell? _ = _) _ hG) ⟨Keeps.refl _ _, rfl, (by repeat (first | exact trivial | refine ⟨fun _ h => h, ?_⟩))⟩ | refine Wop.ldA TT rfl rfl rfl (by first | assumption | exact (by assumption : ∀ w_, Keeps _ _ w_ → Blk w_ _ _ _) _ hG) ⟨Keeps.refl _ _, rfl, (by repeat (first | exact trivial | refine ⟨fun _ h => h, ?_⟩))⟩ | refine Wop.ldR TT rfl rfl rfl (by first | assumption | assumption) ⟨Keeps.refl _ _, rfl, (by repeat (first | exact trivial | refine ⟨fun _ h => h, ?_⟩))⟩ | refine Wop.ix TT rfl rfl rfl rfl rfl (by first | assumption | omega) ⟨Keeps.refl _ _, rfl, (by repeat (first | exact trivial | refine ⟨fun _ h => h, ?_⟩))⟩ | refine Wop.inc rfl rfl (by omega) ⟨Keeps.refl _ _, rfl, (by repeat (first | exact trivial | refine ⟨fun _ h => h, ?_⟩))⟩ | refine Wop.add rfl rfl ⟨by omega, by omega⟩ ⟨Keeps.refl _ _, rfl, (by repeat (first | exact trivial | refine ⟨fun _ h => h, ?_⟩))⟩ | refine Wop.sub rfl rfl ⟨by omega, by omega⟩ ⟨Keeps.refl _ _, rfl, (by repeat (first | exact trivial | refine ⟨fun _ h => h, ?_⟩))⟩))) : p := h
end Go.Proofs.Ytbadjlhijbkbbaa.Sx
namespace Go.Proofs.Ytbadjlhijbkbbaa
open Go Go.RowKit Sx Arena
variable {S S' : Nat → Prop} {w w0 w' : World} {base p : Nat} {ns : List Nd} {A : Option Addr} {n c : Nat}
theorem containsI {xs : List Int} {y : Int} (hx : tI.Row S w A n xs) (hy : I64 y) : Calls Try.prog 102 [.slice A n c, .int .i64 y].toArray w (Ret fun v w' => v = .bool (xs.contains y) ∧ Ext w w') := by
  refine enter Try.func102 rfl Try.ntmps102 rfl ?_
  refine wk ?_
  refine Wop.fn en142 rfl (indexI (vy := .int .i64 y) (S' := fun _ => True) hx ⟨rfl, Ty.InK.of64 hy⟩) ?_
  rintro _ w1 ⟨rfl, e1⟩
  refine wk ?_
  refine Arr.ret1 rfl rfl ⟨congrArg Value.bool ?_, e1⟩
  rw [Bool.eq_iff_iff, decide_eq_true_iff, idxI_any]
  simp
theorem cloneI {xs : List Int} (hx : tI.Row S w A n xs) : Calls Try.prog 103 [.slice A n c].toArray w (Ret fun v w' => OwnI w' w.heap.size v xs ∧ Ext w w') := by
  have hm := hx.2.1
  have hl := hx.1
  refine enter Try.func103 rfl Try.ntmps103 rfl ?_
  refine wk ?_
  refine Wop.sliceNil Try.underlying28 rfl ?_
  refine wk ?_
  refine W.cond rfl (fun q => ?_) (fun q => ?_)
  · refine wk ?_
    refine Arr.ret1 rfl rfl ⟨?_, Ext.refl _⟩
    have : A = Option.none := by simpa using q
    subst this
    have h0 : xs = [] := by
      apply List.eq_nil_of_length_eq_zero
      rcases Nat.eq_zero_or_pos n with h | h
      · omega
      · obtain ⟨_, _, h, _⟩ := hx.2.2 h
        cases h
    subst h0
    exact Sx.Own.nil _ _ _ _
  · refine wk ?_
    refine Wop.buildSlice0 TT rfl rfl rfl (fun w1 e1 b1 z1 => ?_)
    refine wk ?_
    refine Wop.appRowI rfl rfl (hx.ext (by decide) e1) (Own.lit0 b1 (Nat.le_refl _)) e1.size (by simp; omega) (fun v' w2 ho hb _ _ => ?_)
    refine wk ?_
    exact Arr.ret1 rfl rfl ⟨by simpa using ho, hb _ e1⟩
end Go.Proofs.Ytbadjlhijbkbbaa

/-
  The arena's Join.
-/
set_option linter.unusedVariables false
namespace Go.Proofs.Ytbadjlhijbkbbaa
open Go Go.RowKit Sx Arena
variable {S S' : Nat → Prop} {w w0 w' : World} {base p : Nat} {ns : List Nd} {A : Option Addr} {n c : Nat}
theorem may_step (ns : List Nd) (ks : List Int) {i : Nat} (hi : i < ks.length) : mayFrom ns (ks.take i) (ks.drop i) = (isIn ns ks[i] && !(nd ns ks[i]).taken && !(ks.take i).contains ks[i] && mayFrom ns (ks.take (i + 1)) (ks.drop (i + 1))) := by
  rw [List.drop_eq_getElem_cons hi, mayFrom, List.take_succ_eq_append_getElem hi]
theorem takeAll_step (ns : List Nd) (ks : List Int) {i : Nat} (hi : i < ks.length) : takeAll ns (ks.take (i + 1)) = take1 (takeAll ns (ks.take i)) ks[i] := by
  rw [List.take_succ_eq_append_getElem hi, takeAll, List.foldl_append]
  rfl
/-- A row of the call's own of nodes, of which one is written. -/
theorem take1_set {ns : List Nd} {k : Int} (h0 : 0 ≤ k) (hk : k < ns.length) : take1 ns k = ns.set k.toNat { ns[k.toNat]'(by omega) with taken := true } := by
  rw [take1]
  apply List.ext_getElem?
  intro j
  rw [List.getElem?_modify, List.getElem?_set]
  have hk' : k.toNat < ns.length := by omega
  by_cases e : k.toNat = j
  · subst e
    simp [hk']
  · simp [e]
theorem Sx.OwnM.addr {α : Type} {D : Ty α} {e : TypeId} {xs : List α} (h : OwnM D S w base e (.slice A n c) xs) (hp : 0 < n) : ∃ g, A = some ⟨g, 0, Option.none⟩ := by
  obtain ⟨cs, h1, _⟩ := h
  rcases h1.2 with ⟨he, _⟩ | ⟨g, cap, cur, he, _⟩
  · injection he with e1 e2 e3
    omega
  · injection he with e1 e2 e3
    exact ⟨g, e1⟩
theorem tNd_take {x : Nd} {es : List Value} (h : tNd.rd S w x es) : tNd.rd S w { x with taken := true } (es.set 5 (.bool true)) := by
  obtain ⟨A, c, rfl, hc, h1, h2, h3, hr⟩ := tNd_open h
  exact tNd_mk (x := { x with taken := true }) h1 h2 h3 hc hr
set_option maxRecDepth 20000 in
set_option maxHeartbeats 4000000 in
theorem gJoinT (h : TreeAt w base p ns) (hb : base ≤ w.heap.size) (hn : ns.length ≤ 1000000000) {sym rule : Int} {ks : List Int} (hs : I64 sym) (hrl : I64 rule) (hks : tI.Row S w A n ks) (hkc : n ≤ c) (hSk : ∀ k, S k → k ≠ p ∧ ∀ v, Blk w p #[v] 121 → v.ownBlock ≠ some k) :
    Calls Try.prog 50 [.pointer (some ⟨p, 0, none⟩), .int .i64 sym, .int .i64 rule, .slice A n c].toArray w (Ret fun v w' => v = .int .i64 (if may ns ks then (ns.length : Int) else -1) ∧ TreeAt w' base p (join ns sym rule ks) ∧ Below base w w') := by
  have hkl := hks.1
  have hkm := hks.2.1
  obtain ⟨v0, hp0, hbp, hvp, hom0⟩ := id h
  obtain ⟨Av, cv, hv0, hcv⟩ := hom0.slice
  subst hv0
  refine enter Try.func50 rfl Try.ntmps50 rfl ?_
  refine wk ?_
  refine Wop.ptrSome Try.underlying56 rfl ?_
  refine wk ?_
  refine W.midB (ι := Unit) (fun _ => [(0, .pointer (some ⟨p, 0, none⟩)), (1, .int .i64 sym), (2, .int .i64 rule), (3, .slice A n c)]) (fun _ w' => Ext w w' ∧ may ns ks = true) ?_ ?_
  · refine W.loop (ι := Nat) (fun i => [(0, .pointer (some ⟨p, 0, none⟩)), (1, .int .i64 sym), (2, .int .i64 rule), (3, .slice A n c), (15, .slice A n c), (16, .int .i64 (n : Int)), (17, .int .i64 (i : Int))])
      (fun i w' => Ext w w' ∧ i ≤ n ∧ may ns ks = mayFrom ns (ks.take i) (ks.drop i)) (fun i => n - i) 0 has ⟨Ext.refl _, Nat.zero_le _, by simp [may]⟩ ?_
    rintro i w1 ⟨hE, hi, hm⟩
    refine wk ?_
    refine W.test rfl (fun hlt => ?_) (fun hge => ?_)
    · have hlt : i < n := by omega
      obtain ⟨b, o, rfl, es, ⟨rfl, hI⟩, hcc⟩ := (hks.ext (by decide) hE).at_ i (by omega)
      have hcell := hcc 0 _ rfl
      rw [may_step ns ks (by omega)] at hm
      refine wk ?_
      refine Wop.fn en101 rfl (gIn (h.ext hE) ks[i]) ?_
      rintro _ w2 ⟨rfl, e2⟩
      have hE2 := hE.trans e2
      cases hin : isIn ns ks[i] with
      | false =>
        refine wk ?_
        refine Arr.ret1 rfl rfl ⟨?_, ?_, hE2.mono hb⟩
        · rw [hm, hin]
          rfl
        · rw [join, hm, hin]
          exact h.ext hE2
      | true =>
        have hk : 0 ≤ ks[i] ∧ ks[i] < ns.length := by simpa [isIn] using hin
        obtain ⟨A2, c2, hb2, hc2, hbp, hr2⟩ := (h.ext hE2).row hn
        obtain ⟨b', o', rfl, es', hrd, hcc'⟩ := hr2.at_ ks[i].toNat (by omega)
        obtain ⟨A1', c1, rfl, hcap, _, _, _, hkids⟩ := tNd_open hrd
        have hnk : nd ns ks[i] = ns[ks[i].toNat] := by rw [nd_int hk.1, nd_lt]
        have hcell5 := hcc' 5 _ rfl
        rw [hin, hnk] at hm
        refine wk ?_
        refine Wop.ixI TT ks[i].toNat rfl rfl rfl rfl rfl (by omega) (by omega) ?_
        cases htk : ns[ks[i].toNat].taken with
        | true =>
          rw [htk] at hcell5 hm
          refine wk ?_
          refine Arr.ret1 rfl rfl ⟨?_, ?_, hE2.mono hb⟩
          · rw [hm]
            rfl
          · rw [join, hm]
            exact h.ext hE2
        | false =>
          rw [htk] at hcell5 hm
          refine wk ?_
          refine Wop.sliceTo TT (h := i) rfl rfl rfl rfl rfl rfl (by omega) ?_
          refine wk ?_
          refine Wop.fn en102 rfl (containsI ((hks.take i (by omega)).ext (by decide) hE2) hI.i64) ?_
          rintro _ w3 ⟨rfl, e3⟩
          have hE3 := hE2.trans e3
          refine wk ?_
          refine W.cond rfl (fun q => ?_) (fun q => ?_)
          · rw [q] at hm
            refine wk ?_
            refine Arr.ret1 rfl rfl ⟨?_, ?_, hE3.mono hb⟩
            · rw [hm]
              rfl
            · rw [join, hm]
              exact h.ext hE3
          · rw [q] at hm
            refine wk ?_
            refine Arr.again (i + 1) has ⟨hE3, hlt, ?_⟩ (by omega)
            rw [hm]
            rfl
    · refine wk ?_
      refine Arr.mid () has ⟨hE, ?_⟩
      rw [hm, List.drop_of_length_le (by omega)]
      rfl
  rintro _ w1 ⟨hE, hm⟩
  have hms := mayFrom_spec hm
  have hp1 := hp0.ext hE
  have hom := hom0.ext hE
  have hvlt := hom.lt
  have hks1 := hks.ext (by decide) hE
  have hS1 : ∀ k, S k → k ≠ p ∧ (Value.slice Av ns.length cv).ownBlock ≠ some k := fun k hk => ⟨(hSk k hk).1, (hSk k hk).2 _ hp0⟩
  refine wk ?_
  refine W.midB (ι := Unit) (fun _ => [(0, .pointer (some ⟨p, 0, none⟩)), (1, .int .i64 sym), (2, .int .i64 rule), (3, .slice A n c)]) (fun _ w' => Keeps (fun k => (Value.slice Av ns.length cv).ownBlock ≠ some k) w1 w' ∧ OwnM tNd (fun k => base ≤ k ∧ k ≠ p ∧ (Value.slice Av ns.length cv).ownBlock ≠ some k) w' base 123 (.slice Av ns.length cv) (takeAll ns ks)) ?_ ?_
  · refine W.loop (ι := Nat) (fun i => [(0, .pointer (some ⟨p, 0, none⟩)), (1, .int .i64 sym), (2, .int .i64 rule), (3, .slice A n c), (44, .slice A n c), (45, .int .i64 (n : Int)), (46, .int .i64 (i : Int))])
      (fun i w' => Keeps (fun k => (Value.slice Av ns.length cv).ownBlock ≠ some k) w1 w' ∧ i ≤ n ∧ OwnM tNd (fun k => base ≤ k ∧ k ≠ p ∧ (Value.slice Av ns.length cv).ownBlock ≠ some k) w' base 123 (.slice Av ns.length cv) (takeAll ns (ks.take i))) (fun i => n - i) 0 has ⟨Keeps.refl _ _, Nat.zero_le _, by simpa [takeAll] using hom⟩ ?_
    rintro i w2 ⟨hK, hi, ho⟩
    refine wk ?_
    refine W.test rfl (fun hlt => ?_) (fun hge => ?_)
    · have hlt : i < n := by omega
      have hik := (hms.1 ks[i] (List.getElem_mem _)).1
      have hlT := takeAll_length (ks.take i) ns
      have hp2 := hK.blk hp1 hvp
      obtain ⟨bq, oq, rfl, es, ⟨rfl, hI⟩, hcc⟩ := (hks1.keep (by decide) hK (fun k hk => (hS1 k hk).2)).at_ i (by omega)
      have hcell := hcc 0 _ rfl
      obtain ⟨gv, rfl⟩ := ho.addr (by omega)
      refine wk ?_
      refine Wop.ixI TT ks[i].toNat rfl rfl rfl rfl rfl (by omega) (by omega) ?_
      refine wk ?_
      refine Wop.stOwnF (D := tNd) (j := ks[i].toNat) (k := 5) TT rfl rfl (by show _ = _ * 6 + 5; omega) (by decide) rfl rfl ho (by omega) (fun es h => tNd_take h) (fun k hk e => hk.2.2 (by rw [e]; rfl)) (fun w3 K3 z3 o3 => ?_)
      refine wk ?_
      refine Arr.again (i + 1) has ⟨hK.trans (K3.mono (fun k hk e => hk (by rw [e]; rfl))), hlt, ?_⟩ (by omega)
      rw [takeAll_step ns ks (by omega), take1_set hik.1 (by omega)]
      exact o3
    · refine wk ?_
      refine Arr.mid () has ⟨hK, ?_⟩
      rwa [List.take_of_length_le (by omega)] at ho
  rintro _ w2 ⟨hK, ho⟩
  have hlT := takeAll_length ks ns
  have hp2 := hK.blk hp1 hvp
  have hks2 := hks1.keep (by decide) hK (fun k hk => (hS1 k hk).2)
  have hs1 := hE.size
  have hs2 := hK.size
  have hB2 : Below base w w2 := Below.trans (hE.mono hb) (Keeps.below hK (by omega) (fun k hk h => by have := (hvlt k h).1; omega))
  have hlt2 := hp2.lt
  have fin : ∀ (w_ : World) (A8 : Option Addr) (c8 : Nat) (v' : Value) (w' : World), Ext w2 w_ → OwnI w_ w2.heap.size (.slice A8 ks.length c8) ks →
      OwnM tNd (fun k => ((base ≤ k ∧ k ≠ p ∧ (Value.slice Av ns.length cv).ownBlock ≠ some k) ∨ (Value.slice A8 ks.length c8).ownBlock = some k) ∧ k < w_.heap.size) w' base 123 v' (takeAll ns ks ++ [joinNd sym rule ks]) →
      Keeps (fun k => (Value.slice Av ns.length cv).ownBlock ≠ some k) w_ w' → (v'.ownBlock = (Value.slice Av ns.length cv).ownBlock ∨ v'.ownBlock = some w_.heap.size) →
      ∃ A' c', v' = .slice A' (ns.length + 1) c' ∧ Blk w' p #[.slice Av ns.length cv] 121 ∧ v'.ownBlock ≠ some p ∧ OwnM tNd (fun k => base ≤ k ∧ k ≠ p ∧ v'.ownBlock ≠ some k) w' base 123 v' (takeAll ns ks ++ [joinNd sym rule ks]) ∧ Below base w w' := by
    intro w_ A8 c8 v' w' hG h8 hm kk hat
    obtain ⟨A', c', hv', _⟩ := hm.slice
    have hs3 := hG.size
    have h8lt := h8.lt
    refine ⟨A', c', by rw [hv']; simp [hlT], kk.blk (hp2.ext hG) hvp, fun h => ?_, hm.mono (fun k hk _ => ?_), Below.trans (Below.trans hB2 (hG.mono (by omega))) (Keeps.below kk (by omega) (fun k hk h => by have := (hvlt k h).1; omega))⟩
    · rcases hat with e | e
      · rw [e] at h
        exact hvp h
      · rw [e] at h
        have := Option.some.inj h
        omega
    · rcases hk.1 with g | g
      · refine ⟨g.1, g.2.1, fun h => ?_⟩
        rcases hat with e | e
        · rw [e] at h
          exact g.2.2 h
        · rw [e] at h
          have := Option.some.inj h
          omega
      · have hk8 := h8lt k g
        refine ⟨by omega, by omega, fun h => ?_⟩
        rcases hat with e | e
        · rw [e] at h
          have := hvlt k h
          omega
        · rw [e] at h
          have := Option.some.inj h
          omega
  refine wk ?_
  refine W.anyICut (fun _ _ => True) (Ext _) 12 [(fun v _ => v = _), (fun v _ => v = _), (fun v _ => v = _), (fun v _ => v = _), (fun v _ => v = _), (fun v _ => v = _), (fun v _ => v = _), (fun v _ => v = _), (fun v c => ∃ A8 c8, v = .slice A8 ks.length c8 ∧ ks.length ≤ c8 ∧ OwnI c w2.heap.size (.slice A8 ks.length c8) ks), (fun v c => ∃ A8 c8, v = .agg #[.int .i64 sym, .int .i64 (-1), .int .i64 rule, .slice A8 ks.length c8] ∧ ks.length ≤ c8 ∧ OwnI c w2.heap.size (.slice A8 ks.length c8) ks), (fun v c => ∃ A8 c8, v = .agg #[.int .i64 sym, .int .i64 (-1), .int .i64 rule, .slice A8 ks.length c8, .bool false, .bool false] ∧ ks.length ≤ c8 ∧ OwnI c w2.heap.size (.slice A8 ks.length c8) ks), (fun v c => ∃ b A8 c8, v = .slice (some ⟨b, 0, Option.none⟩) 1 1 ∧ Blk c b #[.int .i64 sym, .int .i64 (-1), .int .i64 rule, .slice A8 ks.length c8, .bool false, .bool false] 123 ∧ ks.length ≤ c8 ∧ OwnI c w2.heap.size (.slice A8 ks.length c8) ks), (fun v c => ∃ A' c', v = .slice A' (ns.length + 1) c' ∧ Blk c p #[.slice Av ns.length cv] 121 ∧ v.ownBlock ≠ some p ∧ OwnM tNd (fun k => base ≤ k ∧ k ≠ p ∧ v.ownBlock ≠ some k) c base 123 v (takeAll ns ks ++ [joinNd sym rule ks]) ∧ Below base w c), (fun v _ => v = _), (fun v _ => v = _)] 15 [12, 14] mixed rfl (fun _ => trivial) (fun _ _ => trivial) (fun _ => trivial) (Ext.refl _) (fun _ h => h.trans (Ext.drew _)) rfl rfl ⟨qi, qi, qi, qi, qi, qi, qi, qi, by intro w_ _ hI; have hG := hI rfl; (repeat (intro v_ hv_; cases hv_)); exact WopG.plain rfl (Wop.fn en103 rfl (cloneI (hks2.ext (by decide) hG)) (fun v w' h => ⟨⟨trivial, fun _ g => g.trans h.2⟩, (by obtain ⟨A8, c8, rfl, hc8⟩ := h.1.slice; exact ⟨A8, c8, rfl, hc8, h.1.lower hG.size⟩), (by repeat (first | exact trivial | refine ⟨fun _ h => h, ?_⟩))⟩)), by rintro w_ _ hI _ ⟨⟩ _ ⟨⟩ _ ⟨A8, c8, rfl, h8, h9⟩; exact WopG.plain rfl (Wop.make (cs := #[.int .i64 sym, .int .i64 (-1), .int .i64 rule, .slice A8 ks.length c8]) pl66 rfl rfl ⟨⟨trivial, fun _ h => h⟩, ⟨A8, c8, rfl, h8, h9⟩, (by repeat (first | exact trivial | refine ⟨fun _ h => h, ?_⟩))⟩), by rintro w_ _ hI _ ⟨A8, c8, rfl, h8, h9⟩; exact WopG.plain rfl (Wop.make (cs := #[.int .i64 sym, .int .i64 (-1), .int .i64 rule, .slice A8 ks.length c8, .bool false, .bool false]) pl123 rfl rfl ⟨⟨trivial, fun _ h => h⟩, ⟨A8, c8, rfl, h8, h9⟩, (by repeat (first | exact trivial | refine ⟨fun _ h => h, ?_⟩))⟩), by rintro w_ _ hI _ ⟨A8, c8, rfl, h8, h9⟩; exact WopG.plain rfl (Wop.buildSlice (cs := #[.int .i64 sym, .int .i64 (-1), .int .i64 rule, .slice A8 ks.length c8, .bool false, .bool false]) TT rfl rfl rfl Try.zeroValue123 rfl rfl rfl rfl (fun w1 e1 b1 z1 => ⟨⟨trivial, fun _ h => h.trans e1⟩, ⟨_, A8, c8, rfl, b1, h8, h9.ext e1⟩, (by repeat (first | exact trivial | refine ⟨fun _ h => h, ?_⟩))⟩)), by rintro w_ _ hI _ ⟨⟩ _ ⟨b11, A8, c8, rfl, h11, h8, h9⟩; have hG := hI rfl; exact WopG.plain rfl (Wop.appM (D := tNd) (S' := fun k => (Value.slice A8 ks.length c8).ownBlock = some k) TT rfl rfl infoNd rfl (by decide) (by decide) rfl rfl (es := [.int .i64 sym, .int .i64 (-1), .int .i64 rule, .slice A8 ks.length c8, .bool false, .bool false]) (a := joinNd sym rule ks) h11 (by obtain ⟨A', c', he, _, hrr⟩ := h9.row (by omega) (fun x hx => by obtain ⟨es, hes, hI⟩ := hks.all x hx; exact hI.i64) (S := fun k => (Value.slice A8 ks.length c8).ownBlock = some k) (fun k hk => hk); cases he; exact tNd_mk (x := joinNd sym rule ks) hs i64m hrl h8 hrr) (ho.ext hG) (by have := hG.size; omega) (by omega) (fun k hk => hk.2.2) (fun k hk e => by have := h9.lt k hk; have := hvlt k e; have := hG.size; omega) (fun v' w' hm kk hat => ⟨⟨trivial, fun h => by cases h⟩, fin w_ A8 c8 v' w' hG h9 hm kk hat, (by repeat (first | exact trivial | refine ⟨fun _ h => h, ?_⟩))⟩)), qi, qi, trivial⟩ ?_
  rintro wq _ v12 ⟨A', c', rfl, hpq, hv'p, hmq, hBq⟩ v14 hv14
  cases hv14
  refine wk ?_
  refine Wop.stC TT rfl rfl rfl rfl hpq rfl (fun w3 g3 b3 z3 k3 => ?_)
  have K3 : Keeps (fun k => k ≠ p) wq w3 := ⟨g3.os, g3.tape, g3.output, g3.size, fun k hk _ => k3 k hk⟩
  refine wk ?_
  refine Arr.ret1 rfl rfl ⟨?_, ?_, Below.trans hBq (g3.mono hbp)⟩
  · rw [if_pos hm]
    congr 1
    omega
  · rw [join, if_pos hm]
    exact ⟨_, b3, hbp, hv'p, hmq.keep K3 (fun k hk e => hv'p (by rw [← e]; exact hk)) (fun k hk => hk.2.1)⟩
end Go.Proofs.Ytbadjlhijbkbbaa
