/-
  Joined by program out of the texts Aw12 Il1 Readi: lemmas for the proofs of this seat; no condition.
-/
import Derived.Test.YtbadjlhijbkbbaaGreatDe
import Derived.Test.YtbadjlhijbkbbaaGreatBh
import Derived.Test.YtbadjlhijbkbbaaGreatBz
set_option maxHeartbeats 1000000
/-
  The trial of the items' layer.
-/
set_option linter.unusedVariables false
namespace Go.Proofs.YtbadjlhijbkbbaaGreat
open Go Go.RowKit Sx
variable {S : Nat → Prop} {w : World} {g : Gram} {A0 A1 A2 : Option Addr} {c0 c1 c2 : Nat}
def gI : Gram := ⟨["A".toUTF8, "B".toUTF8], ["s".toUTF8, "t".toUTF8], [⟨3, [4, 1]⟩, ⟨4, [2]⟩], 3⟩
def lI : List Itm := [⟨0, 0⟩, ⟨1, 0⟩, ⟨2, 0⟩]
theorem gI_check : gI.check = 0 := by decide +kernel
theorem gI_begin : gI.ibegin = [⟨2, 0⟩] := by rw [Gram.ibegin, if_pos gI_check]; rfl
theorem gI_close : gI.IsClose [⟨2, 0⟩] lI := by
  have h2 : gI.Reach [⟨2, 0⟩] ⟨2, 0⟩ := .base List.mem_cons_self (by decide +kernel)
  have h0 : gI.Reach [⟨2, 0⟩] ⟨0, 0⟩ := .step h2 (by decide +kernel) (by decide +kernel)
  have h1 : gI.Reach [⟨2, 0⟩] ⟨1, 0⟩ := .step h0 (by decide +kernel) (by decide +kernel)
  refine Gram.isClose_of ?_ ?_ ?_ ?_
  · unfold Itm.Asc lI; decide +kernel
  · intro x hx
    simp only [lI, List.mem_cons, List.not_mem_nil, or_false] at hx
    rcases hx with rfl | rfl | rfl
    · exact h0
    · exact h1
    · exact h2
  · intro x hx _
    simp only [List.mem_cons, List.not_mem_nil, or_false] at hx
    subst hx
    decide +kernel
  · intro x hx
    simp only [lI, List.mem_cons, List.not_mem_nil, or_false] at hx
    rcases hx with rfl | rfl | rfl
    · intro _; decide +kernel
    · intro _; decide +kernel
    · intro _; decide +kernel
theorem gI_step : (Itm.puts (gI.isteps lI 4)).length = 1 := by decide +kernel
theorem gI_kernel : (Itm.puts (gI.ikernel lI)).length = 1 := by decide +kernel
theorem gI_behind : gI.ibehind ⟨1, 0⟩ = (2, true) := by decide +kernel
theorem gI_right : gI.iright ⟨2, 1⟩ = true := by decide +kernel
set_option maxHeartbeats 1000000 in
theorem awake12 : Calls Tryz.prog 42 [].toArray w (Ret fun v w' => v = .bool true ∧ Ext w w') := by
  refine enter Tryz.func42 rfl Tryz.ntmps42 rfl ?_
  refine wk ?_
  refine Wop.buildSlice (cs := #[.string "A".toUTF8, .string "B".toUTF8]) (z := .string ⟨#[]⟩) TT rfl rfl rfl Tryz.zeroValue9 rfl rfl rfl rfl (fun w1 e1 b1 z1 => ?_)
  refine wk ?_
  refine Wop.buildSlice (cs := #[.string "s".toUTF8, .string "t".toUTF8]) (z := .string ⟨#[]⟩) TT rfl rfl rfl Tryz.zeroValue9 rfl rfl rfl rfl (fun w2 e2 b2 z2 => ?_)
  refine wk ?_
  refine Wop.buildSlice (cs := #[.int .i64 4, .int .i64 1]) (z := .int .i64 0) TT rfl rfl rfl Tryz.zeroValue3 rfl rfl rfl rfl (fun w3 e3 b3 z3 => ?_)
  refine wk ?_
  refine Wop.make (cs := #[.int .i64 3, .slice (some ⟨w2.heap.size, 0, none⟩) 2 2]) pl93 rfl rfl ?_
  refine wk ?_
  refine Wop.buildSlice (cs := #[.int .i64 2]) (z := .int .i64 0) TT rfl rfl rfl Tryz.zeroValue3 rfl rfl rfl rfl (fun w4 e4 b4 z4 => ?_)
  refine wk ?_
  refine Wop.make (cs := #[.int .i64 4, .slice (some ⟨w3.heap.size, 0, none⟩) 1 1]) pl93 rfl rfl ?_
  refine wk ?_
  refine Wop.buildSlice (cs := #[.int .i64 3, .slice (some ⟨w2.heap.size, 0, none⟩) 2 2, .int .i64 4, .slice (some ⟨w3.heap.size, 0, none⟩) 1 1]) (z := .agg #[.int .i64 0, .slice none 0 0]) TT rfl rfl rfl Tryz.zeroValue93 rfl rfl rfl rfl (fun w5 e5 b5 z5 => ?_)
  refine wk ?_
  refine Wop.make (cs := (gcells gI (some ⟨w.heap.size, 0, none⟩) (some ⟨w1.heap.size, 0, none⟩) (some ⟨w4.heap.size, 0, none⟩) 2 2 2).toArray) pl25 rfl rfl ?_
  refine wk ?_
  refine Wop.alloc (z := .agg #[.slice none 0 0, .slice none 0 0, .slice none 0 0, .int .i64 0]) Tryz.zeroValue25 (fun w6 e6 b6 z6 => ?_)
  refine wk ?_
  refine Wop.stB TT rfl rfl rfl (by simp [Value.oneCell']) b6 rfl (fun w7 h7 b7 z7 k7 => ?_)
  have e57 : Ext w5 w7 := Below.trans e6 h7
  have e47 := e5.trans e57
  have e37 := e4.trans e47
  have e27 := e3.trans e37
  have e17 := e2.trans e27
  have e07 := e1.trans e17
  have i64 : ∀ n : Int, 0 ≤ n → n < 100 → Ty.InK .i64 n := fun n h1 h2 => Ty.InK.of64 ⟨by omega, by omega⟩
  have hg : GramAt (fun _ => True) w7 gI (some ⟨w.heap.size, 0, none⟩) (some ⟨w1.heap.size, 0, none⟩) (some ⟨w4.heap.size, 0, none⟩) 2 2 2 := by
    refine ⟨Blk.rowL (xs := gI.terms) (b1.ext e17) ⟨[_], _, rfl, ⟨rfl, by decide⟩, [_], _, rfl, ⟨rfl, by decide⟩, rfl⟩ trivial (by decide), Blk.rowL (xs := gI.nons) (b2.ext e27) ⟨[_], _, rfl, ⟨rfl, by decide⟩, [_], _, rfl, ⟨rfl, by decide⟩, rfl⟩ trivial (by decide),
      Blk.rowL (xs := gI.rules) (b5.ext e57) ⟨[_, _], _, rfl, ⟨[_], [_], rfl, ⟨rfl, i64 _ (by decide) (by decide)⟩, _, _, _, rfl, Nat.le_refl _, ?_⟩, [_, _], _, rfl, ⟨[_], [_], rfl, ⟨rfl, i64 _ (by decide) (by decide)⟩, _, _, _, rfl, Nat.le_refl _, ?_⟩, rfl⟩ trivial (by decide), ⟨by decide, by decide⟩, by decide, by decide, by decide⟩
    · exact Blk.rowL (D := tI) (xs := [4, 1]) (b3.ext e37) ⟨[_], _, rfl, ⟨rfl, i64 _ (by decide) (by decide)⟩, [_], _, rfl, ⟨rfl, i64 _ (by decide) (by decide)⟩, rfl⟩ trivial (by decide)
    · exact Blk.rowL (D := tI) (xs := [2]) (b4.ext e47) ⟨[_], _, rfl, ⟨rfl, i64 _ (by decide) (by decide)⟩, rfl⟩ trivial (by decide)
  refine wk ?_
  refine W.any Ext [.eq _, .eq _, (vtF [⟨2, 0⟩]), (vtF lI), (vtF lI)] [4] mixed rfl Ext.refl Ext.trans Ext.drew ⟨qs, qs, by intro w_ hG; (repeat (intro v_ hv_; cases hv_)); exact WopG.plain rfl (Wop.fn en46 rfl (gBeginItem (hg.ext hG)) (fun v w' h => ⟨h.2, by have := h.1; rw [gI_begin] at this; exact OwnT.vt this (by decide)⟩)), by rintro w_ hG _ ⟨⟩ v ⟨A, c, rfl, hc, hr⟩; exact WopG.plain rfl (Wop.fn en47 rfl (gCloseItem (hg.ext hG) hr hc (by decide)) (fun v w' h => ⟨h.2, by obtain ⟨⟨out, h1, h2⟩, _⟩ := h; rw [if_pos gI_check] at h2; rw [h2.unique gI_close] at h1; exact OwnT.vt h1 (by decide)⟩)), by intro w_ hG v h; exact WopG.plain rfl (Wop.pure TT rfl ⟨Ext.refl _, h⟩), trivial⟩ ?_
  rintro wq eq_ v4 h4
  obtain ⟨A, c, rfl, hc, hr⟩ := h4
  have hgq := hg.ext eq_
  have b7q := b7.ext eq_
  have e0q := e07.trans eq_
  refine wk ?_
  refine Wop.make (cs := #[.int .i64 1, .int .i64 0]) pl73 rfl rfl ?_
  refine wk ?_
  refine Wop.fn en44 rfl (gBehindItem hgq ⟨1, 0⟩) ?_
  rintro _ w8 ⟨rfl, e8⟩
  rw [if_pos gI_check, gI_behind]
  have hg8 := hgq.ext e8
  have b78 := b7q.ext e8
  have hr8 := hr.ext (by decide) e8
  have e08 := e0q.trans e8
  refine wk ?_
  refine Wop.make (cs := #[.int .i64 2, .int .i64 1]) pl73 rfl rfl ?_
  refine wk ?_
  refine Wop.fn en45 rfl (gRightItem hg8 ⟨2, 1⟩) ?_
  rintro _ w9 ⟨rfl, e9⟩
  rw [gI_right, decide_eq_true gI_check]
  have hg9 := hg8.ext e9
  have b79 := b78.ext e9
  have hr9 := hr8.ext (by decide) e9
  have e09 := e08.trans e9
  refine wk ?_
  refine Wop.fn en48 rfl (gStepItem hg9 (s := 4) hr9 hc (by decide)) ?_
  rintro _ w10 ⟨h10, e10⟩
  rw [if_pos gI_check] at h10
  obtain ⟨A', c', rfl, hc', _⟩ := OwnT.row h10 (by rw [gI_step]; decide)
  rw [gI_step]
  have hg10 := hg9.ext e10
  have b710 := b79.ext e10
  have hr10 := hr9.ext (by decide) e10
  have e010 := e09.trans e10
  refine wk ?_
  refine Wop.fn en49 rfl (gKernelItem hg10 hr10 hc (by decide)) ?_
  rintro _ w11 ⟨h11, e11⟩
  rw [if_pos gI_check] at h11
  obtain ⟨A'', c'', rfl, hc'', _⟩ := OwnT.row h11 (by rw [gI_kernel]; decide)
  rw [gI_kernel]
  refine wk ?_
  exact Arr.ret1 rfl rfl ⟨rfl, e010.trans e11⟩
end Go.Proofs.YtbadjlhijbkbbaaGreat

/-
  ItemTells: the law's walk.
-/
set_option linter.unusedVariables false
namespace Go.Proofs.YtbadjlhijbkbbaaGreat
open Go Go.RowKit Sx
variable {S S' : Nat → Prop} {w : World} {g : Gram} {A A0 A1 A2 : Option Addr} {c c0 c1 c2 : Nat}
theorem much_rules (h : ¬ ((g.much : Nat) : Int) > 100) : g.rules.length ≤ 100 := by
  unfold Gram.much at h
  omega
def clF (g : Gram) (l : List Itm) : Fact Ext := ⟨fun v w => ∃ out, VT w v out ∧ g.IsClose l out, fun e h => by obtain ⟨out, h1, h2⟩ := h; exact ⟨out, h1.ext e, h2⟩⟩
theorem close_len {l out : List Itm} (h : g.IsClose l out) : out.length ≤ l.length + g.rules.length := Gram.Reach.len h.1 (fun x hx => (h.2 x).1 hx)
set_option maxRecDepth 20000 in
set_option maxHeartbeats 8000000 in
theorem lawItemTells (hg : GramAt S w g A0 A1 A2 c0 c1 c2) {l : List Itm} {s : Int} (hl : tItm.Row S' w A l.length l) (hc : l.length ≤ c) : Calls Tryz.prog 6 [.agg (gcells g A0 A1 A2 c0 c1 c2).toArray, .slice A l.length c, .int .i64 s].toArray w (Ret fun v w' => v = .bool true ∧ Ext w w') := by
  refine enter Tryz.func6 rfl Tryz.ntmps6 rfl ?_
  refine wk ?_
  refine Wop.box rfl (fun w1 e1 b1 z1 => ?_)
  refine wk ?_
  refine Wop.fn en11 rfl (gMuch (hg.ext e1)) ?_
  rintro _ w2 ⟨rfl, e2⟩
  have e12 := e1.trans e2
  have b12 := b1.ext e2
  have hg2 := hg.ext e12
  have hl2 := hl.ext (by decide) e12
  refine wk ?_
  refine Wl.part rfl rfl rfl (fun p => ?_) (fun p => ?_)
  · refine wk ?_
    refine Wop.fn en42 rfl awake12 ?_
    rintro _ w3 ⟨rfl, e3⟩
    refine wk ?_
    exact Arr.ret1 rfl rfl ⟨rfl, e12.trans e3⟩
  have hr100 := much_rules p
  refine wk ?_
  refine W.test rfl (fun q => ?_) (fun q => ?_)
  · refine wk ?_
    refine Wop.fn en42 rfl awake12 ?_
    rintro _ w3 ⟨rfl, e3⟩
    refine wk ?_
    exact Arr.ret1 rfl rfl ⟨rfl, e12.trans e3⟩
  have hl40 : l.length ≤ 40 := by omega
  refine wk ?_
  refine Wop.fn en43 rfl (rCheck hg2) ?_
  rintro _ w3 ⟨rfl, e3⟩
  have b13 := b12.ext e3
  have hg3 := hg2.ext e3
  have hl3 := hl2.ext (by decide) e3
  have e13 := e12.trans e3
  refine wk ?_
  refine W.test rfl (fun hm => ?_) (fun hm => ?_)
  · replace hm : ¬ g.good := hm
    refine wk ?_
    refine W.midB (ι := Unit) (fun _ => [(1, .slice A l.length c), (2, .int .i64 s), (3, .pointer (some ⟨w.heap.size, 0, none⟩))]) (fun _ w' => Ext w3 w') ?_ ?_
    · refine W.loop (ι := Nat) (fun i => [(1, .slice A l.length c), (2, .int .i64 s), (3, .pointer (some ⟨w.heap.size, 0, none⟩)), (7, .int .i64 (i : Int))]) (fun i w' => Ext w3 w' ∧ i ≤ l.length) (fun i => l.length - i) 0 has ⟨Ext.refl _, Nat.zero_le _⟩ ?_
      rintro i w4 ⟨hE, hi⟩
      have b14 := b13.ext hE
      have hg4 := hg3.ext hE
      refine wk ?_
      refine W.test rfl (fun hlt => ?_) (fun hge => ?_)
      · replace hlt : i < l.length := by omega
        obtain ⟨b, o, rfl, es, hrd, hcc⟩ := (hl3.ext (by decide) hE).at_ i hlt
        obtain ⟨rfl, hr1, hr2⟩ := tItm_open hrd
        have hcs : ∀ (j : Nat) (u : Value), [Value.int .i64 l[i].rule, .int .i64 l[i].dot][j]? = some u → w4.cell? ⟨b, o + i * 2 + j, none⟩ = some u := hcc
        refine wk ?_
        refine W.any Ext [.eq _, .eq _, .eq _, .eq _, .eq _, .eq _, .eq _, .eq _, .eq _, .eq _, .eq _] [9, 10] mixed rfl Ext.refl Ext.trans Ext.drew ⟨qs, qs, qs, qs, qs, by intro w_ hG; (repeat (intro v_ hv_; cases hv_)); refine WopG.plain rfl (Wop.fn en44 rfl (gBehindItem (hg4.ext hG) l[i]) (fun v w' h => ?_)); refine ⟨h.2, ?_⟩; show _ = _; exact h.1.trans (by rw [if_neg hm]), qs, qs, qs, qs, qs, trivial⟩ ?_
        rintro wq eq_ _ ⟨⟩ _ ⟨⟩
        have hE5 := hE.trans eq_
        have b15 := b14.ext eq_
        have hg5 := hg4.ext eq_
        have hcs5 : ∀ (j : Nat) (u : Value), [Value.int .i64 l[i].rule, .int .i64 l[i].dot][j]? = some u → wq.cell? ⟨b, o + i * 2 + j, none⟩ = some u := fun j u hu => eq_.cell (hcs j u hu)
        refine wk ?_
        have eq1 := eq_
        clear eq_
        refine W.any Ext [.eq _, .eq _, .eq _, .eq _, .eq _, .eq _, .eq _, .eq _, .eq _, .eq _, .eq _, .eq _, .eq _] [12] mixed rfl Ext.refl Ext.trans Ext.drew ⟨qs, qs, qs, qs, qs, qs, qs, qs, qs, qs, qs, by intro w_ hG; (repeat (intro v_ hv_; cases hv_)); refine WopG.yes rfl rfl rfl rfl (Wop.fn en45 rfl (gRightItem (hg5.ext hG) l[i]) (fun v w' h => ?_)); refine ⟨h.2, ?_⟩; show _ = _; exact h.1.trans (by rw [decide_eq_false hm]), qs, trivial⟩ ?_
        rintro wq eq_ _ ⟨⟩
        refine wk ?_
        exact Arr.again (i + 1) has ⟨hE5.trans (by assumption), hlt⟩ (by omega)
      · refine wk ?_
        exact Arr.mid () has hE
    rintro _ w4 hE
    have b14 := b13.ext hE
    have hg4 := hg3.ext hE
    have hl4 := hl3.ext (by decide) hE
    have n0 : ∀ {v : Value} {w' : World}, OwnT w' w'.heap.size v [] → True := fun _ => trivial
    refine wk ?_
    refine W.any Ext [.eq _, (vtF []), .eq _, .eq _, .eq _, (vtF []), .eq _, .eq _, .eq _, .eq _, .eq _, (vtF []), .eq _, .eq _, .eq _, .eq _, (vtF []), .eq _, .eq _, .eq _, .eq _, .eq _, .eq _, .eq _] [23] mixed rfl Ext.refl Ext.trans Ext.drew ⟨qs, by intro w_ hG; (repeat (intro v_ hv_; cases hv_)); exact WopG.plain rfl (Wop.fn en46 rfl (gBeginItem (hg4.ext hG)) (fun v w' h => ⟨h.2, by have := h.1; rw [Gram.ibegin, if_neg hm] at this; exact OwnT.vt this (by decide)⟩)), by rintro w_ hG _ ⟨A', c', rfl, _, _⟩; exact WopG.plain rfl (Wop.pure TT rfl ⟨Ext.refl _, (rfl : _ = Value.int .i64 0)⟩), qs, qs, by intro w_ hG; (repeat (intro v_ hv_; cases hv_)); exact WopG.plain rfl (Wop.fn en47 rfl (gCloseItem (hg4.ext hG) (hl4.ext (by decide) hG) hc (by omega)) (fun v w' h => ⟨h.2, by obtain ⟨⟨out, h1, h2⟩, _⟩ := h; rw [if_neg hm] at h2; subst h2; exact OwnT.vt h1 (by decide)⟩)), by rintro w_ hG _ ⟨A', c', rfl, _, _⟩; exact WopG.plain rfl (Wop.pure TT rfl ⟨Ext.refl _, (rfl : _ = Value.int .i64 0)⟩), qs, qs, qs, qs, by intro w_ hG; (repeat (intro v_ hv_; cases hv_)); exact WopG.plain rfl (Wop.fn en48 rfl (gStepItem (hg4.ext hG) (hl4.ext (by decide) hG) hc (by omega)) (fun v w' h => ⟨h.2, by have := h.1; rw [if_neg hm] at this; exact OwnT.vt this (by decide)⟩)), by rintro w_ hG _ ⟨A', c', rfl, _, _⟩; exact WopG.plain rfl (Wop.pure TT rfl ⟨Ext.refl _, (rfl : _ = Value.int .i64 0)⟩), qs, qs, qs, by intro w_ hG; (repeat (intro v_ hv_; cases hv_)); exact WopG.plain rfl (Wop.fn en49 rfl (gKernelItem (hg4.ext hG) (hl4.ext (by decide) hG) hc (by omega)) (fun v w' h => ⟨h.2, by have := h.1; rw [if_neg hm] at this; exact OwnT.vt this (by decide)⟩)), by rintro w_ hG _ ⟨A', c', rfl, _, _⟩; exact WopG.plain rfl (Wop.pure TT rfl ⟨Ext.refl _, (rfl : _ = Value.int .i64 0)⟩), qs, qs, qs, by intro w_ hG; (repeat (intro v_ hv_; cases hv_)); refine WopG.yes rfl rfl rfl rfl (Wop.fn en42 rfl awake12 (fun v w' h => ?_)); refine ⟨h.2, ?_⟩; show _ = _; exact h.1, qs, qs, trivial⟩ ?_
    rintro wq eq_ _ ⟨⟩
    refine wk ?_
    exact Arr.ret1 rfl rfl ⟨rfl, (e13.trans hE).trans (by assumption)⟩
  · replace hm : g.good := Decidable.not_not.1 hm
    refine wk ?_
    refine W.midB (ι := Unit) (fun _ => [(1, .slice A l.length c), (2, .int .i64 s), (3, .pointer (some ⟨w.heap.size, 0, none⟩))]) (fun _ w' => Ext w3 w') ?_ ?_
    · refine W.loop (ι := Nat) (fun i => [(1, .slice A l.length c), (2, .int .i64 s), (3, .pointer (some ⟨w.heap.size, 0, none⟩)), (10, .int .i64 (i : Int))]) (fun i w' => Ext w3 w' ∧ i ≤ l.length) (fun i => l.length - i) 0 has ⟨Ext.refl _, Nat.zero_le _⟩ ?_
      rintro i w4 ⟨hE, hi⟩
      have b14 := b13.ext hE
      have hg4 := hg3.ext hE
      refine wk ?_
      refine W.test rfl (fun hlt => ?_) (fun hge => ?_)
      · replace hlt : i < l.length := by omega
        obtain ⟨b, o, rfl, es, hrd, hcc⟩ := (hl3.ext (by decide) hE).at_ i hlt
        obtain ⟨rfl, hr1, hr2⟩ := tItm_open hrd
        have hcs : ∀ (j : Nat) (u : Value), [Value.int .i64 l[i].rule, .int .i64 l[i].dot][j]? = some u → w4.cell? ⟨b, o + i * 2 + j, none⟩ = some u := hcc
        refine wk ?_
        rcases hib : g.ibehind l[i] with ⟨y, t⟩
        refine W.any Ext [.eq _, .eq _, .eq _, .eq _, .eq _, .eq _, .eq _, .eq _, .eq _, .eq _, .eq _] [9, 10] mixed rfl Ext.refl Ext.trans Ext.drew ⟨qs, qs, qs, qs, qs, by intro w_ hG; (repeat (intro v_ hv_; cases hv_)); refine WopG.plain rfl (Wop.fn en44 rfl (gBehindItem (hg4.ext hG) l[i]) (fun v w' h => ?_)); refine ⟨h.2, ?_⟩; show _ = _; exact h.1.trans (by rw [if_pos hm, hib]), qs, qs, qs, qs, qs, trivial⟩ ?_
        rintro wq eq_ _ ⟨⟩ _ ⟨⟩
        have hE5 := hE.trans eq_
        have b15 := b14.ext eq_
        have hg5 := hg4.ext eq_
        have hcs5 : ∀ (j : Nat) (u : Value), [Value.int .i64 l[i].rule, .int .i64 l[i].dot][j]? = some u → wq.cell? ⟨b, o + i * 2 + j, none⟩ = some u := fun j u hu => eq_.cell (hcs j u hu)
        clear hcs hcc b14 eq_
        refine wk ?_
        refine W.any Ext [.eq _, .eq _, .eq _, .eq _, .eq _, .eq _, .eq _, .eq _, .eq _, .eq _, .eq _] [9, 10] mixed rfl Ext.refl Ext.trans Ext.drew ⟨qs, qs, qs, qs, qs, by intro w_ hG; (repeat (intro v_ hv_; cases hv_)); refine WopG.plain rfl (Wop.fn en50 rfl (rBehindI (hg5.ext hG) l[i]) (fun v w' h => ?_)); refine ⟨h.2, ?_⟩; show _ = _; exact h.1.trans (by rw [hib]), qs, qs, qs, qs, qs, trivial⟩ ?_
        rintro wq eq_ _ ⟨⟩ _ ⟨⟩
        rename_i wq0
        have hE6 := hE5.trans eq_
        have b16 := b15.ext eq_
        have hg6 := hg5.ext eq_
        have hcs6 : ∀ (j : Nat) (u : Value), [Value.int .i64 l[i].rule, .int .i64 l[i].dot][j]? = some u → wq.cell? ⟨b, o + i * 2 + j, none⟩ = some u := fun j u hu => eq_.cell (hcs5 j u hu)
        clear hcs5 b15 eq_
        refine wk ?_
        rcases hir : g.iright l[i] with _ | _
        all_goals rcases t with _ | _
        · refine W.any Ext [.eq _, .eq _, .eq _, .eq _, .eq _, .eq _, .eq _, .eq _, .eq _, .eq _, .eq _, .eq _, .eq _, .eq _, .eq _, .eq _, .eq _, .eq _, .eq _, .eq _, .eq _, .eq _, .eq _] [22] mixed rfl Ext.refl Ext.trans Ext.drew ⟨qs, qs, by intro w_ hG; (repeat (intro v_ hv_; cases hv_)); exact WopG.plain rfl (Wop.pure TT rfl ⟨Ext.refl _, congrArg Value.bool (decide_eq_false (fun h => h rfl))⟩), qs, qs, qs, qs, qs, qs, qs, qs, qs, qs, qs, by intro w_ hG; (repeat (intro v_ hv_; cases hv_)); refine WopG.yes rfl rfl rfl rfl (Wop.fn en45 rfl (gRightItem (hg6.ext hG) l[i]) (fun v w' h => ?_)); refine ⟨h.2, ?_⟩; show _ = _; exact h.1.trans (by rw [decide_eq_true hm, hir]), qs, qs, qs, qs, qs, by intro w_ hG; (repeat (intro v_ hv_; cases hv_)); refine WopG.yes rfl rfl rfl rfl (Wop.fn en51 rfl (rRightI (hg6.ext hG) l[i]) (fun v w' h => ?_)); refine ⟨h.2, ?_⟩; show _ = _; exact h.1.trans (by rw [hir]), qs, qs, trivial⟩ ?_
          rintro wq eq_ _ ⟨⟩
          refine wk ?_
          exact Arr.again (i + 1) has ⟨hE6.trans (by assumption), hlt⟩ (by omega)
        · refine W.any Ext [.eq _, .eq _, .eq _, .eq _, .eq _, .eq _, .eq _, .eq _, .eq _, .eq _, .eq _, .eq _, .eq _, .eq _, .eq _, .eq _, .eq _, .eq _, .eq _, .eq _, .eq _, .eq _, .eq _] [22] mixed rfl Ext.refl Ext.trans Ext.drew ⟨qs, qs, by intro w_ hG; (repeat (intro v_ hv_; cases hv_)); exact WopG.plain rfl (Wop.pure TT rfl ⟨Ext.refl _, congrArg Value.bool (decide_eq_false (fun h => h rfl))⟩), qs, qs, qs, qs, qs, qs, qs, qs, qs, qs, qs, by intro w_ hG; (repeat (intro v_ hv_; cases hv_)); refine WopG.yes rfl rfl rfl rfl (Wop.fn en45 rfl (gRightItem (hg6.ext hG) l[i]) (fun v w' h => ?_)); refine ⟨h.2, ?_⟩; show _ = _; exact h.1.trans (by rw [decide_eq_true hm, hir]), qs, qs, qs, qs, qs, by intro w_ hG; (repeat (intro v_ hv_; cases hv_)); refine WopG.yes rfl rfl rfl rfl (Wop.fn en51 rfl (rRightI (hg6.ext hG) l[i]) (fun v w' h => ?_)); refine ⟨h.2, ?_⟩; show _ = _; exact h.1.trans (by rw [hir]), qs, qs, trivial⟩ ?_
          rintro wq eq_ _ ⟨⟩
          refine wk ?_
          exact Arr.again (i + 1) has ⟨hE6.trans (by assumption), hlt⟩ (by omega)
        · refine W.any Ext [.eq _, .eq _, .eq _, .eq _, .eq _, .eq _, .eq _, .eq _, .eq _, .eq _, .eq _, .eq _, .eq _, .eq _, .eq _, .eq _, .eq _, .eq _, .eq _, .eq _, .eq _, .eq _, .eq _] [22] mixed rfl Ext.refl Ext.trans Ext.drew ⟨qs, qs, by intro w_ hG; (repeat (intro v_ hv_; cases hv_)); exact WopG.plain rfl (Wop.pure TT rfl ⟨Ext.refl _, congrArg Value.bool (decide_eq_false (fun h => h rfl))⟩), qs, qs, qs, qs, qs, qs, qs, qs, qs, qs, qs, by intro w_ hG; (repeat (intro v_ hv_; cases hv_)); refine WopG.yes rfl rfl rfl rfl (Wop.fn en45 rfl (gRightItem (hg6.ext hG) l[i]) (fun v w' h => ?_)); refine ⟨h.2, ?_⟩; show _ = _; exact h.1.trans (by rw [decide_eq_true hm, hir]), qs, qs, qs, qs, qs, by intro w_ hG; (repeat (intro v_ hv_; cases hv_)); refine WopG.yes rfl rfl rfl rfl (Wop.fn en51 rfl (rRightI (hg6.ext hG) l[i]) (fun v w' h => ?_)); refine ⟨h.2, ?_⟩; show _ = _; exact h.1.trans (by rw [hir]), qs, qs, trivial⟩ ?_
          rintro wq eq_ _ ⟨⟩
          refine wk ?_
          exact Arr.again (i + 1) has ⟨hE6.trans (by assumption), hlt⟩ (by omega)
        · refine W.any Ext [.eq _, .eq _, .eq _, .eq _, .eq _, .eq _, .eq _, .eq _, .eq _, .eq _, .eq _, .eq _, .eq _, .eq _, .eq _, .eq _, .eq _, .eq _, .eq _, .eq _, .eq _, .eq _, .eq _] [22] mixed rfl Ext.refl Ext.trans Ext.drew ⟨qs, qs, by intro w_ hG; (repeat (intro v_ hv_; cases hv_)); exact WopG.plain rfl (Wop.pure TT rfl ⟨Ext.refl _, congrArg Value.bool (decide_eq_false (fun h => h rfl))⟩), qs, qs, qs, qs, qs, qs, qs, qs, qs, qs, qs, by intro w_ hG; (repeat (intro v_ hv_; cases hv_)); refine WopG.yes rfl rfl rfl rfl (Wop.fn en45 rfl (gRightItem (hg6.ext hG) l[i]) (fun v w' h => ?_)); refine ⟨h.2, ?_⟩; show _ = _; exact h.1.trans (by rw [decide_eq_true hm, hir]), qs, qs, qs, qs, qs, by intro w_ hG; (repeat (intro v_ hv_; cases hv_)); refine WopG.yes rfl rfl rfl rfl (Wop.fn en51 rfl (rRightI (hg6.ext hG) l[i]) (fun v w' h => ?_)); refine ⟨h.2, ?_⟩; show _ = _; exact h.1.trans (by rw [hir]), qs, qs, trivial⟩ ?_
          rintro wq eq_ _ ⟨⟩
          refine wk ?_
          exact Arr.again (i + 1) has ⟨hE6.trans (by assumption), hlt⟩ (by omega)
      · refine wk ?_
        exact Arr.mid () has hE
    rintro _ w4 hE
    have b14 := b13.ext hE
    have hg4 := hg3.ext hE
    have hl4 := hl3.ext (by decide) hE
    refine wk ?_
    refine W.any Ext (.eq _ :: (vtF [⟨g.rules.length, 0⟩]) :: .eq _ :: (vtF [⟨g.rules.length, 0⟩]) :: .eq _ :: .eq _ :: .eq _ :: .eq _ :: (clF g l) :: .eq _ :: .eq _ :: (clF g l) :: .eq _ :: .eq _ :: .eq _ :: .eq _ :: .eq _ :: .eq _ :: (vtF (Itm.puts (g.isteps l s))) :: .eq _ :: .eq _ :: .eq _ :: (vtF (Itm.puts (g.isteps l s))) :: .eq _ :: .eq _ :: .eq _ :: .eq _ :: .eq _ :: (vtF (Itm.puts (g.ikernel l))) :: .eq _ :: .eq _ :: (vtF (Itm.puts (g.ikernel l))) :: .eq _ :: .eq _ :: .eq _ :: .eq _ :: .eq _ :: .eq _ :: []) [37] mixed rfl Ext.refl Ext.trans Ext.drew ⟨qs, by intro w_ hG; (repeat (intro v_ hv_; cases hv_)); exact WopG.plain rfl (Wop.fn en46 rfl (gBeginItem (hg4.ext hG)) (fun v w' h => ⟨h.2, by have := h.1; rw [Gram.ibegin, if_pos hm] at this; exact OwnT.vt this (by simp)⟩)), qs, by intro w_ hG; (repeat (intro v_ hv_; cases hv_)); exact WopG.plain rfl (Wop.fn en53 rfl (rBeginI (hg4.ext hG)) (fun v w' h => ⟨h.2, OwnT.vt h.1 (by simp)⟩)), by rintro w_ hG _ ⟨Aa, ca, rfl, ha1, ha2⟩ _ ⟨Ab, cb, rfl, hb1, hb2⟩; refine WopG.plain rfl (Wop.fn en52 rfl (rSameI ha2 hb2) (fun v w' h => ?_)); refine ⟨h.2, ?_⟩; show _ = _; exact h.1.trans (congrArg Value.bool (decide_eq_true rfl)), qs, qs, qs, by intro w_ hG; (repeat (intro v_ hv_; cases hv_)); exact WopG.yes rfl rfl rfl rfl (Wop.fn en47 rfl (gCloseItem (hg4.ext hG) (hl4.ext (by decide) hG) hc (by omega)) (fun v w' h => ⟨h.2, by obtain ⟨⟨out, h1, h2⟩, _⟩ := h; rw [if_pos hm] at h2; exact ⟨out, OwnT.vt h1 (by have := close_len h2; omega), h2⟩⟩)), qs, qs, by intro w_ hG; (repeat (intro v_ hv_; cases hv_)); exact WopG.yes rfl rfl rfl rfl (Wop.fn en54 rfl (rCloseI (hg4.ext hG) (hl4.ext (by decide) hG) hc (by omega)) (fun v w' h => ⟨h.2, h.1⟩)), by rintro w_ hG _ ⟨oa, ⟨Aa, ca, rfl, ha1, ha2⟩, ha3⟩ _ ⟨ob, ⟨Ab, cb, rfl, hb1, hb2⟩, hb3⟩ _ ⟨⟩; refine WopG.yes rfl rfl rfl rfl (Wop.fn en52 rfl (rSameI ha2 hb2) (fun v w' h => ?_)); refine ⟨h.2, ?_⟩; show _ = _; exact h.1.trans (congrArg Value.bool (decide_eq_true (ha3.unique hb3))), qs, qs, qs, qs, qs, by intro w_ hG; (repeat (intro v_ hv_; cases hv_)); exact WopG.yes rfl rfl rfl rfl (Wop.fn en48 rfl (gStepItem (hg4.ext hG) (hl4.ext (by decide) hG) hc (by omega)) (fun v w' h => ⟨h.2, by have := h.1; rw [if_pos hm] at this; exact OwnT.vt this (by have h1 := Itm.puts_len (g.isteps l s); have h2 : (g.isteps l s).length ≤ l.length := List.length_filterMap_le _ _; omega)⟩)), qs, qs, qs, by intro w_ hG; (repeat (intro v_ hv_; cases hv_)); exact WopG.yes rfl rfl rfl rfl (Wop.fn en55 rfl (rStepI (hg4.ext hG) (hl4.ext (by decide) hG) hc (by omega)) (fun v w' h => ⟨h.2, h.1⟩)), by rintro w_ hG _ ⟨Aa, ca, rfl, ha1, ha2⟩ _ ⟨Ab, cb, rfl, hb1, hb2⟩ _ ⟨⟩; refine WopG.yes rfl rfl rfl rfl (Wop.fn en52 rfl (rSameI ha2 hb2) (fun v w' h => ?_)); refine ⟨h.2, ?_⟩; show _ = _; exact h.1.trans (congrArg Value.bool (decide_eq_true rfl)), qs, qs, qs, qs, by intro w_ hG; (repeat (intro v_ hv_; cases hv_)); exact WopG.yes rfl rfl rfl rfl (Wop.fn en49 rfl (gKernelItem (hg4.ext hG) (hl4.ext (by decide) hG) hc (by omega)) (fun v w' h => ⟨h.2, by have := h.1; rw [if_pos hm] at this; exact OwnT.vt this (by have h1 := Itm.puts_len (g.ikernel l); have h2 : (g.ikernel l).length ≤ l.length := List.length_filter_le _ _; omega)⟩)), qs, qs, by intro w_ hG; (repeat (intro v_ hv_; cases hv_)); exact WopG.yes rfl rfl rfl rfl (Wop.fn en56 rfl (rKernelI (hg4.ext hG) (hl4.ext (by decide) hG) hc (by omega)) (fun v w' h => ⟨h.2, h.1⟩)), by rintro w_ hG _ ⟨Aa, ca, rfl, ha1, ha2⟩ _ ⟨Ab, cb, rfl, hb1, hb2⟩ _ ⟨⟩; refine WopG.yes rfl rfl rfl rfl (Wop.fn en52 rfl (rSameI ha2 hb2) (fun v w' h => ?_)); refine ⟨h.2, ?_⟩; show _ = _; exact h.1.trans (congrArg Value.bool (decide_eq_true rfl)), qs, qs, by intro w_ hG; (repeat (intro v_ hv_; cases hv_)); refine WopG.yes rfl rfl rfl rfl (Wop.fn en42 rfl (awake12) (fun v w' h => ?_)); refine ⟨h.2, ?_⟩; show _ = _; exact h.1, qs, qs, trivial⟩ ?_
    rintro wq eq_ _ ⟨⟩
    refine wk ?_
    exact Arr.ret1 rfl rfl ⟨rfl, (e13.trans hE).trans (by assumption)⟩
end Go.Proofs.YtbadjlhijbkbbaaGreat

/-
  The items' laws' arguments.
-/
set_option linter.unusedVariables false
namespace Go.Proofs.YtbadjlhijbkbbaaGreat
open Go Go.RowKit Go.ChangeShapes Go.WideShapes Sx
theorem readsItm : Reads 73 tItm := Reads.via (fun a => ⟨a.1, a.2⟩) (fun _ => rfl) (Reads.struct2 Tryz.underlying73 ⟨by kernel_rfl, rfl, by kernel_rfl, rfl, by kernel_rfl⟩ readsI readsI)
theorem readsItms : Reads 68 (Ty.slice tItm (by decide)) := Reads.slice Tryz.underlying68 (by decide) (by kernel_rfl) readsItm
section
variable {H : Type} {enc : TypeId × Value → H} {W : World} {base : Nat} {spare : Nat → Bool} {held : Bool} {v : Value} {d : DataW H} {p : List MemPlace}
set_option maxRecDepth 100000 in
theorem argItms (hv : Value.okWide Tryz.prog W .any base 68 v) (h : DataW.Trod enc Tryz.prog W 0 spare held 68 v d p) (hb : Rows.uptoBulk d ≤ 1048576) : ∃ (x : List Itm) (B : Option Addr) (k : Nat), v = .slice B x.length k ∧ x.length ≤ k ∧ tItm.Row (fun _ => True) W B x.length x := by
  obtain ⟨B, n, k, rfl⟩ := okWide_slice Tryz.underlying68 hv
  obtain ⟨fuel, hf⟩ := h
  obtain ⟨x, B', n', k', hcs, hk, hr⟩ := readsItms hf hb
  have hn := hr.1
  subst hn
  simp only [Value.cells, List.cons.injEq, and_true] at hcs
  exact ⟨x, B', k', hcs, hk, hr⟩
set_option maxRecDepth 100000 in
theorem argItm (hv : Value.okWide Tryz.prog W .any base 73 v) (h : DataW.Trod enc Tryz.prog W 0 spare held 73 v d p) (hb : Rows.uptoBulk d ≤ 1048576) : ∃ x : Itm, v = vItm x ∧ I64 x.rule ∧ I64 x.dot := by
  obtain ⟨cs, rfl, hsz⟩ := okWide_struct Tryz.underlying73 hv
  obtain ⟨fuel, hf⟩ := h
  obtain ⟨x, hx⟩ := readsItm hf hb
  obtain ⟨hcs, h1, h2⟩ := tItm_open hx
  refine ⟨x, ?_, h1, h2⟩
  have : cs.toList = _ := hcs
  congr 1
  exact Array.ext' this
end
end Go.Proofs.YtbadjlhijbkbbaaGreat
