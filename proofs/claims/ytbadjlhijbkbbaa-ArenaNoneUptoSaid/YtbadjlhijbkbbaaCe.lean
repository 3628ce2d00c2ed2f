/-
  Joined by program out of the texts Ar9 Ar10: lemmas for the proofs of this seat; no condition.
-/
import Derived.Test.YtbadjlhijbkbbaaCd
import Derived.Test.YtbadjlhijbkbbaaBf
import Derived.Test.YtbadjlhijbkbbaaBg
set_option maxHeartbeats 1000000
/-
  Is a node as a grammar says?
-/
set_option linter.unusedVariables false
namespace Go.Proofs.Ytbadjlhijbkbbaa
open Go Go.RowKit Sx Arena
variable {S S' : Nat → Prop} {w w0 w' : World} {base p : Nat} {ns : List Nd} {A B : Option Addr} {n m c c' : Nat}
theorem gFine1 {bt : Nat} (hbt : Blk w bt #[.pointer (some ⟨p, 0, none⟩)] 56) (hp : Blk w p #[.slice A ns.length c] 121) (hr : tNd.Row S w A ns.length ns) (s : Int) {k : Int} (hk : 0 ≤ k ∧ k < ns.length) :
    Calls Try.prog 146 [.int .i64 s, .int .i64 k, .pointer (some ⟨bt, 0, none⟩)].toArray w (Ret fun v w' => v = .bool (decide ((nd ns k).sym = s)) ∧ Ext w w') := by
  obtain ⟨b', o', rfl, es', hrd, hcc'⟩ := hr.at_ k.toNat (by omega)
  obtain ⟨A1', c1, rfl, hcap, _, _, _, hkids⟩ := tNd_open hrd
  have hnk : nd ns k = ns[k.toNat] := by rw [nd_int hk.1, nd_lt]
  have hcell := hcc' 0 _ rfl
  refine enter Try.func146 rfl Try.ntmps146 rfl ?_
  refine wk ?_
  refine Wop.ixI TT k.toNat rfl rfl rfl rfl rfl (by omega) (by omega) ?_
  refine wk ?_
  exact Arr.ret1 rfl rfl ⟨by rw [hnk], Ext.refl _⟩
/-- Two rows, each two that stand at one place. -/
def zipAll (q : Int → Int → Bool) : List Int → List Int → Bool
  | [], [] => true
  | x :: xs, y :: ys => q x y && zipAll q xs ys
  | _, _ => false
theorem zipAll_len {q : Int → Int → Bool} : ∀ {xs ys : List Int}, zipAll q xs ys = true → xs.length = ys.length
  | [], [], _ => rfl
  | x :: xs, y :: ys, h => by
    simp only [zipAll, Bool.and_eq_true] at h
    simp [zipAll_len h.2]
  | [], _ :: _, h => by simp [zipAll] at h
  | _ :: _, [], h => by simp [zipAll] at h
theorem zipAll_drop (q : Int → Int → Bool) : ∀ {xs ys : List Int}, xs.length = ys.length → ((∀ j (h1 : j < xs.length) (h2 : j < ys.length), q xs[j] ys[j] = true) ↔ zipAll q xs ys = true)
  | [], [], _ => by simp [zipAll]
  | x :: xs, y :: ys, h => by
    have ih := zipAll_drop q (xs := xs) (ys := ys) (by simpa using h)
    simp only [zipAll, Bool.and_eq_true, ← ih]
    constructor
    · intro g
      exact ⟨g 0 (by simp) (by simp), fun j h1 h2 => g (j + 1) (by simpa using h1) (by simpa using h2)⟩
    · rintro ⟨g1, g2⟩ j h1 h2
      cases j with
      | zero => exact g1
      | succ j => exact g2 j (by simpa using h1) (by simpa using h2)
  | [], _ :: _, h => by simp at h
  | _ :: _, [], h => by simp at h
set_option maxHeartbeats 1000000 in
theorem equalFuncI {xs ys : List Int} {q : Int → Int → Bool} {gf : Nat} {cap : List Value} (eg : Enters Try.prog gf) (hx : tI.Row S w A n xs) (hy : tI.Row S' w B m ys)
    (hf : ∀ j (h1 : j < xs.length) (h2 : j < ys.length) w1, Ext w w1 → Calls Try.prog gf ([Value.int .i64 xs[j], Value.int .i64 ys[j]] ++ cap).toArray w1 (Ret fun v w' => v = .bool (q xs[j] ys[j]) ∧ Ext w1 w')) :
    Calls Try.prog 145 [.slice A n c, .slice B m c', .func (.func gf) #[] cap.toArray].toArray w (Ret fun v w' => v = .bool (zipAll q xs ys) ∧ Ext w w') := by
  have hl := hx.1
  have hm := hx.2.1
  have hl' := hy.1
  have hm' := hy.2.1
  refine enter Try.func145 rfl Try.ntmps145 rfl ?_
  refine wk ?_
  refine W.test rfl (fun hne => ?_) (fun heq => ?_)
  · refine wk ?_
    refine Arr.ret1 rfl rfl ⟨?_, Ext.refl w⟩
    cases hz : zipAll q xs ys with
    | false => rfl
    | true => have := zipAll_len hz; omega
  · refine wk ?_
    refine W.loop (ι := Nat) (fun i => [(0, .slice A n c), (1, .slice B m c'), (2, .func (.func gf) #[] cap.toArray), (15, .slice A n c), (16, .int .i64 (n : Int)), (17, .int .i64 (i : Int))])
      (fun i w' => Ext w w' ∧ i ≤ n ∧ ∀ j (h1 : j < xs.length) (h2 : j < ys.length), j < i → q xs[j] ys[j] = true) (fun i => n - i) 0 has ⟨Ext.refl w, Nat.zero_le _, fun j _ _ hj => absurd hj (Nat.not_lt_zero j)⟩ ?_
    rintro i w1 ⟨hE, hi, hp⟩
    refine wk ?_
    refine W.test rfl (fun hlt => ?_) (fun hge => ?_)
    · have hlt : i < n := by omega
      obtain ⟨b, o, rfl, es, ⟨rfl, hs⟩, hc⟩ := hx.at_ i (by omega)
      obtain ⟨b', o', rfl, es', ⟨rfl, hs'⟩, hc'⟩ := hy.at_ i (by omega)
      have h1 := hE.cell (hc 0 _ rfl)
      have h2 := hE.cell (hc' 0 _ rfl)
      refine wk ?_
      refine Wop.fnV (cap := cap) eg rfl rfl (hf i (by omega) (by omega) w1 hE) ?_
      rintro _ w2 ⟨rfl, e2⟩
      refine wk ?_
      refine W.cond rfl (fun hd => ?_) (fun hd => ?_)
      · refine wk ?_
        refine Arr.ret1 rfl rfl ⟨?_, hE.trans e2⟩
        cases hz : zipAll q xs ys with
        | false => rfl
        | true =>
          have := (zipAll_drop q (by omega)).2 hz i (by omega) (by omega)
          simp [this] at hd
      · refine wk ?_
        refine Arr.again (i + 1) has ⟨hE.trans e2, hlt, ?_⟩ (by omega)
        intro j g1 g2 hj
        rcases Nat.lt_or_ge j i with h | h
        · exact hp j g1 g2 h
        · obtain rfl : j = i := by omega
          simpa using hd
    · refine wk ?_
      refine Arr.ret1 rfl rfl ⟨?_, hE⟩
      rw [(zipAll_drop q (by omega)).1 (fun j g1 g2 => hp j g1 g2 (by omega))]
/-- Is a node as a grammar says? -/
def fineNd (g : Gram) (ns : List Nd) (x : Nd) : Bool := if x.leaf = true then g.term x.sym else
  decide (0 ≤ x.rule ∧ x.rule < g.rules.length) && (decide ((g.rules[x.rule.toNat]?.getD ⟨0, []⟩).left = x.sym) && zipAll (fun s k => decide ((nd ns k).sym = s)) (g.rules[x.rule.toNat]?.getD ⟨0, []⟩).right x.kids)
set_option maxRecDepth 20000 in
set_option maxHeartbeats 4000000 in
theorem gFine {g : Gram} {A0 A1 A2 : Option Addr} {c0 c1 c2 : Nat} (hg : GramAt S' w g A0 A1 A2 c0 c1 c2) (hp : Blk w p #[.slice A ns.length c] 121) (hr : tNd.Row S w A ns.length ns) {x : Nd} {A3 : Option Addr} {c3 : Nat} {S3 : Nat → Prop} (hkx : tI.Row S3 w A3 x.kids.length x.kids) (hks : ∀ k ∈ x.kids, 0 ≤ k ∧ k < ns.length) (hrI : I64 x.rule) :
    Calls Try.prog 108 [.pointer (some ⟨p, 0, none⟩), .agg (gcells g A0 A1 A2 c0 c1 c2).toArray, .agg #[.int .i64 x.sym, .int .i64 x.val, .int .i64 x.rule, .slice A3 x.kids.length c3, .bool x.leaf, .bool x.taken]].toArray w (Ret fun v w' => v = .bool (fineNd g ns x) ∧ Ext w w') := by
  refine enter Try.func108 rfl Try.ntmps108 rfl ?_
  refine wk ?_
  refine Wop.box rfl (fun w1 e1 b1 z1 => ?_)
  refine wk ?_
  refine Wop.box rfl (fun w2 e2 b2 z2 => ?_)
  refine wk ?_
  refine Wop.box rfl (fun w3 e3 b3 z3 => ?_)
  have e23 := e2.trans e3
  have E3 := e1.trans e23
  have b1' := b1.ext e23
  have b2' := b2.ext e3
  refine wk ?_
  refine W.cond rfl (fun q => ?_) (fun q => ?_)
  · refine wk ?_
    refine Wop.fn en22 rfl (gTerm x.sym) ?_
    rintro _ w4 ⟨rfl, e4⟩
    refine wk ?_
    exact Arr.ret1 rfl rfl ⟨by rw [fineNd, if_pos q], E3.trans e4⟩
  · have hle := hg.rules.2.1
    have hg3 := hg.ext E3
    rcases Decidable.em (0 ≤ x.rule ∧ x.rule < g.rules.length) with hin | hout
    · obtain ⟨rb, ro, rfl, es, hrd, hcc⟩ := hg3.rules.at_ x.rule.toNat (by omega)
      obtain ⟨RA, rc, rfl, hrc, hli, hrr⟩ := tRule_open hrd
      have hat : g.rules[x.rule.toNat]?.getD ⟨0, []⟩ = g.rules[x.rule.toNat] := by rw [List.getElem?_eq_getElem (by omega)]; rfl
      have hc0 := hcc 0 _ rfl
      have hc1 := hcc 1 _ rfl
      refine wk ?_
      refine W.any Ext [.eq _, .eq _, .eq _, .eq _, .eq _, .eq _, .eq _, .eq _, .eq _, .eq _, .eq _, .eq _, .eq _, .eq _, .eq _, .eq _, .eq _, .eq _, .eq _, .eq _, .eq _, .eq _, .eq _, .eq _, .eq _, .eq _, .eq _] [26] mixed rfl Ext.refl Ext.trans Ext.drew ⟨qs, qs, qs, by intro w_ hG; (repeat (intro v_ hv_; cases hv_)); refine WopG.plain rfl (Wop.pure TT rfl ?_); exact ⟨Ext.refl _, congrArg Value.bool (decide_eq_false (by omega))⟩, qs, qs, qs, qs, qs, qs, qs, by intro w_ hG; (repeat (intro v_ hv_; cases hv_)); refine WopG.yes rfl rfl rfl rfl (Wop.pure TT rfl ?_); exact ⟨Ext.refl _, congrArg Value.bool (decide_eq_false (by omega))⟩, qs, qs, qs, qs, qs, qs, qs, by intro w_ hG; (repeat (intro v_ hv_; cases hv_)); refine WopG.yes rfl rfl rfl rfl (Wop.ixI TT x.rule.toNat rfl rfl rfl rfl rfl (by omega) (by omega) ?_); refine ⟨Ext.refl _, ?_⟩; show _ = _; exact rfl, qs, qs, qs, qs, qs, qs, qs, trivial⟩ ?_
      rintro wq eq_ _ ⟨⟩
      have E4 := E3.trans eq_
      have e1q := e23.trans eq_
      have e2q := e3.trans eq_
      refine wk ?_
      refine W.test rfl (fun p1 => ?_) (fun p1 => ?_)
      · refine wk ?_
        refine Arr.ret1 rfl rfl ⟨?_, E4⟩
        rw [fineNd, if_neg (by simp [q]), hat, decide_eq_false (p := g.rules[x.rule.toNat].left = x.sym) p1]
        simp
      · have b1q := b1'.ext eq_
        have b2q := b2'.ext eq_
        have b3q := b3.ext eq_
        have hg4 := hg.ext E4
        have hc1q := eq_.cell hc1
        have hrrq := hrr.ext (by decide) eq_
        have hpq := hp.ext E4
        have hrq := hr.ext (by decide) E4
        have hkq := hkx.ext (by decide) E4
        clear eq_
        refine wk ?_
        refine W.any Ext [.eq _, .eq _, .eq _, .eq _, .eq _, .eq _, .eq _, .eq _, .eq _, .eq _, .eq _, .eq _, .eq _, .eq _] [13] mixed rfl Ext.refl Ext.trans Ext.drew ⟨qs, qs, qs, qs, qs, by intro w_ hG; (repeat (intro v_ hv_; cases hv_)); refine WopG.plain rfl (Wop.ixI TT x.rule.toNat rfl rfl rfl rfl rfl (by omega) (by omega) ?_); refine ⟨Ext.refl _, ?_⟩; show _ = _; exact rfl, qs, qs, qs, qs, qs, qs, by intro w_ hG; (repeat (intro v_ hv_; cases hv_)); exact WopG.plain rfl (Wop.fn en145 rfl (equalFuncI (q := fun s k => decide ((nd ns k).sym = s)) (cap := [.pointer (some ⟨w.heap.size, 0, Option.none⟩)]) en146 (hrrq.ext (by decide) hG) (hkq.ext (by decide) hG) (fun j h1 h2 w8 e8 => gFine1 ((b1q.ext hG).ext e8) ((hpq.ext hG).ext e8) ((hrq.ext (by decide) hG).ext (by decide) e8) _ (hks _ (List.getElem_mem _)))) (fun v w' h => ⟨h.2, h.1⟩)), qs, trivial⟩ ?_
        rintro wq eq_ _ ⟨⟩
        refine wk ?_
        refine Arr.ret1 rfl rfl ⟨?_, E4.trans eq_⟩
        rw [fineNd, if_neg (by simp [q]), hat, decide_eq_true (p := g.rules[x.rule.toNat].left = x.sym) (Decidable.not_not.1 p1), decide_eq_true hin]
        rfl
    · have hf : fineNd g ns x = false := by
        rw [fineNd, if_neg (by simp [q]), decide_eq_false hout]
        rfl
      rcases Decidable.em (x.rule < 0) with h1 | h1
      · refine wk ?_
        refine W.any Ext [.eq _, .eq _, .eq _, .eq _, .eq _, .eq _, .eq _, .eq _, .eq _, .eq _, .eq _, .eq _, .eq _, .eq _, .eq _, .eq _, .eq _, .eq _, .eq _, .eq _, .eq _, .eq _, .eq _, .eq _, .eq _, .eq _, .eq _] [26] mixed rfl Ext.refl Ext.trans Ext.drew ⟨qs, qs, qs, by intro w_ hG; (repeat (intro v_ hv_; cases hv_)); refine WopG.plain rfl (Wop.pure TT rfl ?_); exact ⟨Ext.refl _, congrArg Value.bool (decide_eq_true (by omega))⟩, qs, qs, qs, qs, qs, qs, qs, qs, qs, qs, qs, qs, qs, qs, qs, qs, qs, qs, qs, qs, qs, qs, qs, trivial⟩ ?_
        rintro wq eq_ _ ⟨⟩
        refine wk ?_
        exact Arr.ret1 rfl rfl ⟨by rw [hf], E3.trans eq_⟩
      · refine wk ?_
        refine W.any Ext [.eq _, .eq _, .eq _, .eq _, .eq _, .eq _, .eq _, .eq _, .eq _, .eq _, .eq _, .eq _, .eq _, .eq _, .eq _, .eq _, .eq _, .eq _, .eq _, .eq _, .eq _, .eq _, .eq _, .eq _, .eq _, .eq _, .eq _] [26] mixed rfl Ext.refl Ext.trans Ext.drew ⟨qs, qs, qs, by intro w_ hG; (repeat (intro v_ hv_; cases hv_)); refine WopG.plain rfl (Wop.pure TT rfl ?_); exact ⟨Ext.refl _, congrArg Value.bool (decide_eq_false (by omega))⟩, qs, qs, qs, qs, qs, qs, qs, by intro w_ hG; (repeat (intro v_ hv_; cases hv_)); refine WopG.yes rfl rfl rfl rfl (Wop.pure TT rfl ?_); exact ⟨Ext.refl _, congrArg Value.bool (decide_eq_true (by omega))⟩, qs, qs, qs, qs, qs, qs, qs, qs, qs, qs, qs, qs, qs, qs, qs, trivial⟩ ?_
        rintro wq eq_ _ ⟨⟩
        refine wk ?_
        exact Arr.ret1 rfl rfl ⟨by rw [hf], E3.trans eq_⟩
end Go.Proofs.Ytbadjlhijbkbbaa

/-
  The arena's Check.
-/
set_option linter.unusedVariables false
namespace Go.Proofs.Ytbadjlhijbkbbaa
open Go Go.RowKit Sx Arena
variable {S S' : Nat → Prop} {w w0 w' : World} {base p : Nat} {ns : List Nd} {A : Option Addr} {c : Nat}
theorem leaveCell {P : Program} (T : Tab P) {fn : Func} {N : Nat} {bs : List Nat} {Φ : Value → World → Prop} {σ : Sl} {q : Tmp} {t k b : Nat} {v : Value} {e : Exit} (hr : fn.results = #[.cell q t]) (ht : nth T.kinds t = some (k + 1)) (hl : σ.lookup q = some (.pointer (some ⟨b, 0, none⟩))) (ho : ∀ b ∈ bs, isOpen w b) (hd : bs.Nodup)
    (h : ∀ w', Keeps (fun k => k ∉ bs) w w' → ∃ cs u, Blk w' b cs u ∧ cs[0]? = some v ∧ Φ v w') (he : e = .ret ∨ e = .normal) :
    ArrM (bs.map Sx.mark) (bodyPostM Fence.wide 0 P fn (Ret Φ)) N e σ w := ⟨fun a ha => by
  have hdef : (onto (bs.map Sx.mark) a).defers = bs.map Sx.mark := by simp [ha.defers]
  have key : LeavesInM Fence.wide 0 P fn (onto (bs.map Sx.mark) a).tmps (Ret Φ) (onto (bs.map Sx.mark) a).defers .returning w := by
    rw [hdef]
    refine leavesM bs w ho hd (fun w' hk => ?_)
    obtain ⟨cs, u, hb, hv, hp⟩ := h w' hk
    refine ⟨v, ?_, v, rfl, hp⟩
    have h1 := ha.get q _ hl
    rw [Array.getD_eq_getD_getElem?] at h1
    simp [results, hr, h1, asAddr, loadVar_one T ht hv hb]
  rcases he with rfl | rfl <;> exact key⟩
def checkT (g : Gram) (ns : List Nd) (i : Int) : Bool := isIn ns i && (decide (g.check = 0) && (under ns i).all fun k => fineNd g ns (nd ns k))
theorem GramAt.low {w : World} {g : Gram} {A0 A1 A2 : Option Addr} {c0 c1 c2 : Nat} (h : GramAt S w g A0 A1 A2 c0 c1 c2) : GramAt (fun k => k < w.heap.size) w g A0 A1 A2 c0 c1 c2 :=
  ⟨(h.terms.lt (by decide)).mono (fun _ hk => hk.2), (h.nons.lt (by decide)).mono (fun _ hk => hk.2), (h.rules.lt (by decide)).mono (fun _ hk => hk.2), h.start, h.cap0, h.cap1, h.cap2⟩
theorem GramAt.keep {w w' : World} {q : Nat → Prop} {g : Gram} {A0 A1 A2 : Option Addr} {c0 c1 c2 : Nat} (h : GramAt S w g A0 A1 A2 c0 c1 c2) (e : Keeps q w w') (hS : ∀ k, S k → q k) : GramAt S w' g A0 A1 A2 c0 c1 c2 :=
  ⟨h.terms.keep (by decide) e hS, h.nons.keep (by decide) e hS, h.rules.keep (by decide) e hS, h.start, h.cap0, h.cap1, h.cap2⟩
structure Chq (g : Gram) (ns : List Nd) (B : Nat) (W : World) (pre : List Int) (S : Nat → Prop) (A : World) : Prop where
  keeps : Keeps (fun k => k < B) W A
  all : ∀ k ∈ pre, fineNd g ns (nd ns k) = true
structure Chx (g : Gram) (ns : List Nd) (b6 B : Nat) (W : World) (pre : List Int) (S : Nat → Prop) (A : World) : Prop where
  keeps : Keeps (fun k => k < B ∧ k ≠ b6) W A
  cell : Blk A b6 #[.bool false] 4
  not : ∃ k ∈ pre, fineNd g ns (nd ns k) = false
set_option maxRecDepth 20000 in
set_option maxHeartbeats 4000000 in
theorem gCheckT (h : TreeAt w base p ns) (hb : base ≤ w.heap.size) (hn : ns.length ≤ 1000000000) (hd : Down ns) {i : Int} (hall : (under ns i).length ≤ 1000000000) {g : Gram} {A0 A1 A2 : Option Addr} {c0 c1 c2 : Nat} (hg : GramAt S' w g A0 A1 A2 c0 c1 c2) :
    Calls Try.prog 57 [.pointer (some ⟨p, 0, none⟩), .agg (gcells g A0 A1 A2 c0 c1 c2).toArray, .int .i64 i].toArray w (Ret fun v w' => v = .bool (checkT g ns i) ∧ Ext w w') := by
  obtain ⟨A, c, hp, hc, hbp, hr⟩ := h.row hn
  refine enterM Try.func57 rfl Try.ntmps57 rfl ?_
  refine wm ?_
  refine Wop.box rfl (fun w1 e1 b1 z1 => ?_)
  refine wm ?_
  refine Wop.box rfl (fun w2 e2 b2 z2 => ?_)
  refine wm ?_
  refine Wop.alloc (z := .bool false) Try.zeroValue4 (fun w3 e3 b3 z3 => ?_)
  have e23 := e2.trans e3
  have e13 := e1.trans e23
  have s1 := e1.size
  have s2 := e2.size
  have s3 := e3.size
  have b1' := b1.ext e23
  have b2' := b2.ext e3
  refine wm ?_
  refine Wop.fn en101 rfl (gInB (hp.ext e13) i) ?_
  rintro _ w4 ⟨rfl, e4⟩
  have e14 := e13.trans e4
  cases hin : isIn ns i with
  | false =>
    refine wm ?_
    refine Wop.stC TT rfl rfl rfl rfl (b3.ext e4) rfl (fun w5 g5 b5 z5 k5 => ?_)
    refine wm ?_
    refine leaveCell TT (bs := []) rfl rfl rfl (by simp) List.nodup_nil (fun w' hk => ⟨_, _, hk.blk b5 (by simp), rfl, ?_, ?_⟩) (.inl rfl)
    · rw [checkT, hin]
      rfl
    · exact Below.trans (Below.trans e14 (g5.mono (by omega))) (Keeps.below hk (by have := e14.size; omega) (fun k hk => by simp))
  | true =>
    have b1q := b1'.ext e4
    have b2q := b2'.ext e4
    have hg4 := hg.ext e14
    refine wm ?_
    refine Wop.fn en18 rfl (gCheck hg4) ?_
    rintro _ w5 ⟨rfl, e5⟩
    have e15 := e14.trans e5
    have e45 := e4.trans e5
    refine wm ?_
    refine WM.test rfl (fun q => ?_) (fun q => ?_)
    · refine wm ?_
      refine Wop.stC TT rfl rfl rfl rfl (b3.ext e45) rfl (fun w6 g6 b6 z6 k6 => ?_)
      refine wm ?_
      refine leaveCell TT (bs := []) rfl rfl rfl (by simp) List.nodup_nil (fun w' hk => ⟨_, _, hk.blk b6 (by simp), rfl, ?_, ?_⟩) (.inl rfl)
      · rw [checkT, hin, decide_eq_false q]
        rfl
      · exact Below.trans (Below.trans e15 (g6.mono (by omega))) (Keeps.below hk (by have := e15.size; have := g6.size; omega) (fun k hk => by simp))
    · have q' : g.check = 0 := Decidable.not_not.1 q
      have b1r := b1q.ext e5
      refine wm ?_
      refine Wop.fn en107 rfl (gUnder i) ?_
      rintro _ w6 ⟨rfl, h1, h2, e6⟩
      have e16 := e15.trans e6
      have e46 := e45.trans e6
      have s4 := e4.size
      have s5 := e5.size
      have s6 := e6.size
      have l1 := h1.lt
      have l2 := h2.lt
      refine wm ?_
      have hp6 := hp.ext e16
      have hplt := hp.lt
      have hr6 := (hr.lt (by decide)).ext (by decide) e16
      have hg6 := hg.ext e16
      have b1s := b1r.ext e6
      have b2s := (b2q.ext e5).ext e6
      have b3s := b3.ext e46
      have hT : ∀ k, (k = w5.heap.size ∨ k = w5.heap.size + 1 ∨ (base ≤ k ∧ k < w.heap.size)) → k < w6.heap.size := fun k hk => by omega
      refine WM.range (encs := fun x : Int => #[.int .i64 x]) (xs := under ns i) (T := fun k => k = w5.heap.size ∨ k = w5.heap.size + 1 ∨ (base ≤ k ∧ k < w.heap.size)) (w0 := w6) rfl en143 (under_iter (T0 := fun k => base ≤ k ∧ k < w.heap.size) hall hd (fun k hk => by omega) h1 h2 hp6 ⟨hbp, hplt⟩ (hr6.mono (fun k hk => ⟨hk.1.1, hk.2⟩))) hT (Keeps.refl _ _) (fun _ => rfl) ?_
        (Chq g ns w6.heap.size w6) (Chx g ns w2.heap.size w6.heap.size w6) ?_ ?_ ⟨Keeps.refl _ _, by simp⟩ (fun x => [(3, .pointer (some ⟨w.heap.size, 0, none⟩)), (4, .pointer (some ⟨w1.heap.size, 0, none⟩)), (6, .pointer (some ⟨w2.heap.size, 0, none⟩)), (7, .int .i64 x)]) ?_ ?_ ?_ ?_
      · simp
      · rintro pre S A B ⟨g1, g2⟩ hK
        exact ⟨g1.trans (hK.mono (fun k hk => .inl hk)), g2⟩
      · rintro pre S A B ⟨g1, g2, g3⟩ hK
        exact ⟨g1.trans (hK.mono (fun k hk => .inl hk.1)), hK.blk g2 (.inl (by omega)), g3⟩
      · intro l2 x A2
        have hz : ((#[20] : Array Nat).zip #[Value.int .i64 x]).toList = [(20, .int .i64 x)] := by simp
        rw [hz]
        refine wm ?_
        refine ArrM.bound ?_
        exact has
      · rintro l2 pre x S Z1 ⟨g1, g2⟩ hpx hsz hS
        have hx : 0 ≤ x ∧ x < ns.length := under_in hd x (hpx.subset (by simp))
        have hbA1 := g1.blk b1s (show w.heap.size < w6.heap.size by omega)
        have hbA2 := g1.blk b2s (show w1.heap.size < w6.heap.size by omega)
        have hbA3 := g1.blk b3s (show w2.heap.size < w6.heap.size by omega)
        have hpA := g1.blk hp6 (show p < w6.heap.size by omega)
        have hrA := hr6.keep (by decide) g1 (fun k hk => (show k < w6.heap.size by have := hk.2; omega))
        have hgA : GramAt (fun k => k < w6.heap.size) Z1 g A0 A1 A2 c0 c1 c2 := hg6.low.keep g1 (fun k hk => hk)
        have hsA := g1.size
        obtain ⟨b', o', rfl, es', hrd, hcc'⟩ := hrA.at_ x.toNat (by omega)
        obtain ⟨A3, c3, rfl, hcap, _, _, hrI, hkids⟩ := tNd_open hrd
        have hnx : nd ns x = ns[x.toNat] := by rw [nd_int hx.1, nd_lt]
        have hcs : ∀ (k : Nat) (u : Value), [Value.int .i64 ns[x.toNat].sym, .int .i64 ns[x.toNat].val, .int .i64 ns[x.toNat].rule, .slice A3 ns[x.toNat].kids.length c3, .bool ns[x.toNat].leaf, .bool ns[x.toNat].taken][k]? = some u → Z1.cell? ⟨b', o' + x.toNat * 6 + k, none⟩ = some u := hcc'
        have hks : ∀ k ∈ ns[x.toNat].kids, 0 ≤ k ∧ k < ns.length := fun k hk => by
          have := hd x.toNat k (by rw [← nd_int hx.1, hnx]; exact hk)
          omega
        refine wm ?_
        refine WM.any mixed rfl ?_
        refine Wa.any Ext [.eq _, .eq _, .eq _, .eq _, .eq _, .eq _, .eq _, .eq _, .eq _, .eq _, .eq _] [10] mixed rfl Ext.refl Ext.trans Ext.drew ⟨qs, qs, qs, qs, qs, qs, qs, by intro w_ hG; (repeat (intro v_ hv_; cases hv_)); refine WopG.plain rfl (Wop.ixI TT x.toNat rfl rfl rfl rfl rfl (by omega) (by omega) ?_); refine ⟨Ext.refl _, ?_⟩; show _ = _; exact rfl, qs, by intro w_ hG; (repeat (intro v_ hv_; cases hv_)); exact WopG.plain rfl (Wop.fn en108 rfl (gFine (hgA.ext hG) (hpA.ext hG) (hrA.ext (by decide) hG) (hkids.ext (by decide) hG) hks hrI) (fun v w' h => ⟨h.2, h.1⟩)), qs, trivial⟩ ?_
        rintro wq eq_ _ ⟨⟩
        have hsq := eq_.size
        refine wm ?_
        refine WM.cond rfl (fun q1 => ?_) (fun q1 => ?_)
        · refine wm ?_
          refine Wop.stC TT rfl rfl rfl rfl (hbA3.ext eq_) rfl (fun w7 g7 b7 z7 k7 => ?_)
          refine wm ?_
          have K7 : Keeps (fun k => k ≠ w2.heap.size) Z1 w7 := (Ext.keeps eq_).trans ⟨g7.os, g7.tape, g7.output, g7.size, fun k hk _ => k7 k hk⟩
          refine ⟨fun a ha => ⟨S, ⟨(g1.mono (fun k hk => hk.1)).trans (K7.mono (fun k hk => hk.2)), b7, x, by simp, by rw [hnx]; simpa using q1⟩, fun j hj => .inl hj, K7.mono (fun k hk => ?_)⟩⟩
          rcases hk with hk | hk
          · omega
          · omega
        · refine wm ?_
          refine ⟨fun a ha => ⟨S, ⟨g1.trans (Ext.keeps eq_), fun k hk => ?_⟩, fun j hj => .inl hj, Ext.keeps eq_⟩⟩
          rcases List.mem_append.1 hk with hk | hk
          · exact g2 k hk
          · obtain rfl : k = x := by simpa using hk
            rw [hnx]
            simpa using q1
      · rintro S A1 ⟨g1, g2⟩ hop hlt
        have hb6 := g1.blk b3s (show w2.heap.size < w6.heap.size by omega)
        refine wm ?_
        refine Wop.stC TT rfl rfl rfl rfl hb6 rfl (fun w7 g7 b7 z7 k7 => ?_)
        refine wm ?_
        refine leaveCell TT (bs := [w6.heap.size]) rfl rfl rfl ?_ (by simp) (fun w' hk => ⟨_, _, hk.blk b7 (by simp; omega), rfl, ?_, ?_⟩) (.inl rfl)
        · intro b hb
          obtain rfl : b = w6.heap.size := by simpa using hb
          exact (k7 _ (by omega)).trans hop
        · rw [checkT, hin, decide_eq_true q']
          have : (under ns i).all (fun k => fineNd g ns (nd ns k)) = true := List.all_eq_true.2 g2
          rw [this]
          rfl
        · have s7 := g1.size
          have s8 := g7.size
          exact Below.trans (Below.trans (Below.trans e16 (Keeps.below g1 (by omega) (fun k hk => by omega))) (g7.mono (by omega))) (Keeps.below hk (by omega) (fun k hk => by simp; omega))
      · rintro pre S A1 hpre ⟨g1, g2, g3⟩ hop hlt
        refine wm ?_
        refine leaveCell TT (bs := [w6.heap.size]) rfl rfl rfl (by simpa using hop) (by simp) (fun w' hk => ⟨_, _, hk.blk g2 (by simp; omega), rfl, ?_, ?_⟩) (.inl rfl)
        · obtain ⟨k, hk1, hk2⟩ := g3
          rw [checkT, hin, decide_eq_true q']
          have : (under ns i).all (fun k => fineNd g ns (nd ns k)) = false := List.all_eq_false.2 ⟨k, hpre.subset hk1, by simp [hk2]⟩
          rw [this]
          rfl
        · have s7 := g1.size
          exact Below.trans (Below.trans e16 (Keeps.below g1 (by omega) (fun k hk => by omega))) (Keeps.below hk (by omega) (fun k hk => by simp; omega))
end Go.Proofs.Ytbadjlhijbkbbaa
