/-
  Joined by program out of the texts Ig2 Mit Ig3: lemmas for the proofs of this seat; no condition.
-/
import Derived.Test.YtbadjlhijbkbbaaGreatDc
import Derived.Test.YtbadjlhijbkbbaaGreatDb
import Derived.Test.YtbadjlhijbkbbaaGreatDa
import Derived.Test.YtbadjlhijbkbbaaGreatBb
set_option maxHeartbeats 1000000
/-
  item.Step and item.Kernel.
-/
set_option linter.unusedVariables false
namespace Go.Proofs.YtbadjlhijbkbbaaGreat
open Go Go.RowKit Sx
variable {S S' : Nat → Prop} {w w' : World} {g : Gram} {A B A0 A1 A2 : Option Addr} {n m c c' c0 c1 c2 : Nat}
theorem OwnT.below {base : Nat} {a b : World} {v : Value} {xs : List Itm} (ho : OwnT a base v xs) (hs : base ≤ a.heap.size) (k : Keeps (fun k => v.ownBlock ≠ some k) a b) : Below base a b := k.below hs (fun j hj h => by have := (ho.lt j h).1; omega)
theorem fm_step {l : List Itm} {f : Itm → Option Itm} {i : Nat} (h : i < l.length) : (l.take (i + 1)).filterMap f = (l.take i).filterMap f ++ (f l[i]).toList := by
  rw [List.take_succ_eq_append_getElem h, List.filterMap_append]
  cases hf : f l[i] with
  | none => simp [hf]
  | some y => simp [hf]
theorem fm_len {l : List Itm} {f : Itm → Option Itm} {i : Nat} : ((l.take i).filterMap f).length ≤ l.length := by
  have h2 := List.length_filterMap_le f (l.take i)
  have h3 : (l.take i).length ≤ l.length := by rw [List.length_take]; omega
  omega
set_option maxRecDepth 20000 in
set_option maxHeartbeats 4000000 in
theorem gStepItem (hg : GramAt S w g A0 A1 A2 c0 c1 c2) {l : List Itm} {s : Int} (hl : tItm.Row S' w A l.length l) (hc : l.length ≤ c) (hsm : l.length ≤ 1000000000) : Calls Tryz.prog 48 [.agg (gcells g A0 A1 A2 c0 c1 c2).toArray, .slice A l.length c, .int .i64 s].toArray w (Ret fun v w' => OwnT w' w.heap.size v (if g.good then Itm.puts (g.isteps l s) else []) ∧ Ext w w') := by
  refine enter Tryz.func48 rfl Tryz.ntmps48 rfl ?_
  refine wk ?_
  refine Wop.box rfl (fun w1 e1 b1 z1 => ?_)
  refine wk ?_
  refine Wop.fn en101 rfl (gMayI (hg.ext e1)) ?_
  rintro _ w2 ⟨rfl, e2⟩
  have e12 := e1.trans e2
  rcases Decidable.em g.good with hm | hm
  · rw [decide_eq_true hm, if_pos hm]
    have b12 := b1.ext e2
    have hl2 := hl.ext (by decide) e12
    have hg2 := hg.ext e12
    refine wk ?_
    refine W.loop (ι := Nat × Value) (fun q => [(2, .int .i64 s), (3, .pointer (some ⟨w.heap.size, 0, none⟩)), (7, q.2), (15, .slice A l.length c), (16, .int .i64 (l.length : Int)), (17, .int .i64 (q.1 : Int))])
      (fun q w' => Ext w2 w' ∧ q.1 ≤ l.length ∧ OwnT w' w2.heap.size q.2 ((l.take q.1).filterMap (g.istepf s))) (fun q => l.length - q.1) (0, .slice none 0 0) has ⟨Ext.refl _, Nat.zero_le _, OwnM.nil⟩ ?_
    rintro ⟨k, v⟩ w3 ⟨hE, hk, hv⟩
    replace hk : k ≤ l.length := hk
    replace hv : OwnT w3 w2.heap.size v ((l.take k).filterMap (g.istepf s)) := hv
    dsimp only
    have b13 := b12.ext hE
    have hg3 := hg2.ext hE
    refine wk ?_
    refine W.test rfl (fun hlt => ?_) (fun hge => ?_)
    · replace hlt : k < l.length := by omega
      have hstep := fm_step (f := g.istepf s) hlt
      have hlen : ((l.take k).filterMap (g.istepf s)).length ≤ l.length := fm_len
      obtain ⟨b, o, rfl, es, hrd, hcc⟩ := (hl2.ext (by decide) hE).at_ k hlt
      obtain ⟨rfl, hr1, hr2⟩ := tItm_open hrd
      have hcs : ∀ (i : Nat) (u : Value), [Value.int .i64 l[k].rule, .int .i64 l[k].dot][i]? = some u → w3.cell? ⟨b, o + k * 2 + i, none⟩ = some u := hcc
      refine wk ?_
      refine Wop.alloc (z := .agg #[.int .i64 0, .int .i64 0]) Tryz.zeroValue73 (fun w4 e4 b4 z4 => ?_)
      refine wk ?_
      refine Wop.stB TT rfl rfl rfl (by simp [Value.oneCell']) b4 rfl (fun w5 g5 b5 z5 k5 => ?_)
      have e35 : Ext w3 w5 := Below.trans e4 g5
      have b15 := b13.ext e35
      have hv5 := hv.ext e35
      have hE5 := hE.trans e35
      refine wk ?_
      refine Wop.fn en102 rfl (gBehindI (hg3.ext e35) l[k]) ?_
      rcases hib : g.ibehind l[k] with ⟨y, t⟩
      rintro _ w6 ⟨rfl, e6⟩
      have b56 := b5.ext e6
      have b16 := b15.ext e6
      have hv6 := hv5.ext e6
      have hE6 := hE5.trans e6
      cases t with
      | false =>
        have hf : g.istepf s l[k] = none := by simp [Gram.istepf, hib]
        rw [hf] at hstep
        refine wk ?_
        refine Arr.again (i := (k, v)) (k + 1, v) has ⟨hE6, hlt, by rw [show (k + 1, v).1 = k + 1 from rfl, hstep]; simpa using hv6⟩ (by show l.length - (k + 1) < l.length - k; omega)
      | true =>
        refine wk ?_
        refine W.test rfl (fun hy => ?_) (fun hy => ?_)
        · have hf : g.istepf s l[k] = some ⟨l[k].rule, l[k].dot + 1⟩ := by rw [Gram.istepf, hib, if_pos (by rw [show y = s from hy])]
          rw [hf] at hstep
          have hdot := Gram.ibehind_dot (g := g) (x := l[k]) (by rw [hib])
          have hrl := hg.right_le l[k].rule
          have hd1 : I64 (l[k].dot + 1) := ⟨by omega, by omega⟩
          refine wk ?_
          refine Wop.make (cs := #[.int .i64 l[k].rule, .int .i64 (l[k].dot + 1)]) pl73 rfl rfl ?_
          refine wk ?_
          refine Wop.buildSlice (cs := #[.int .i64 l[k].rule, .int .i64 (l[k].dot + 1)]) TT rfl rfl rfl Tryz.zeroValue73 rfl rfl rfl rfl (fun w7 e7 b7 z7 => ?_)
          have hv7 := hv6.ext e7
          have hE7 := hE6.trans e7
          refine wk ?_
          refine Wop.appM (D := tItm) (S' := fun _ => False) TT rfl rfl infoItm rfl (by decide) (by decide) rfl rfl (es := [.int .i64 l[k].rule, .int .i64 (l[k].dot + 1)]) (a := ⟨l[k].rule, l[k].dot + 1⟩) b7 (tItm_mk hr1 hd1) hv7 hE7.size (by omega) (fun j h => h.elim) (fun j h => h.elim) (fun v' w8 hm' kk hat => ?_)
          have hv8 := OwnT.low hm'
          have hE8 : Ext w2 w8 := Below.trans hE7 (OwnT.below hv7 hE7.size kk)
          refine wk ?_
          refine Arr.again (i := (k, v)) (k + 1, v') has ⟨hE8, hlt, by rw [show (k + 1, v').1 = k + 1 from rfl, hstep]; exact hv8⟩ (by show l.length - (k + 1) < l.length - k; omega)
        · have hf : g.istepf s l[k] = none := by
            rw [Gram.istepf, if_neg]
            rw [hib]
            intro h
            exact hy (Prod.mk.inj h).1
          rw [hf] at hstep
          refine wk ?_
          refine Arr.again (i := (k, v)) (k + 1, v) has ⟨hE6, hlt, by rw [show (k + 1, v).1 = k + 1 from rfl, hstep]; simpa using hv6⟩ (by show l.length - (k + 1) < l.length - k; omega)
    · obtain rfl : k = l.length := by omega
      rw [List.take_length] at hv
      have hlen : (l.filterMap (g.istepf s)).length ≤ l.length := List.length_filterMap_le _ _
      refine wk ?_
      refine Wop.fn en107 rfl (kSorted hv (by omega)) ?_
      rintro u w4 ⟨h4, k4⟩
      refine wk ?_
      refine Arr.ret1 rfl rfl ⟨?_, e12.trans (Below.trans hE (OwnT.below hv hE.size k4))⟩
      exact OwnM.lower h4 e12.size
  · rw [decide_eq_false hm, if_neg hm]
    refine wk ?_
    exact Arr.ret1 rfl rfl ⟨OwnM.nil, e12⟩
/-- What the kernel keeps. -/
def Gram.kernf (g : Gram) (x : Itm) : Option Itm := if g.good then g.ikernf x else none
theorem Gram.kernf_fm (g : Gram) (l : List Itm) : Itm.puts (l.filterMap g.kernf) = if g.good then Itm.puts (g.ikernel l) else [] := by
  by_cases h : g.good
  · rw [if_pos h, ← Gram.ikernf_fm]
    congr 1
    have : g.kernf = g.ikernf := by funext x; rw [Gram.kernf, if_pos h]
    rw [this]
  · rw [if_neg h]
    have : g.kernf = fun _ => none := by funext x; rw [Gram.kernf, if_neg h]
    rw [this, List.filterMap_eq_nil_iff.2 (fun _ _ => rfl)]
    rfl
set_option maxRecDepth 20000 in
set_option maxHeartbeats 4000000 in
theorem gKernelItem (hg : GramAt S w g A0 A1 A2 c0 c1 c2) {l : List Itm} (hl : tItm.Row S' w A l.length l) (hc : l.length ≤ c) (hsm : l.length ≤ 1000000000) : Calls Tryz.prog 49 [.agg (gcells g A0 A1 A2 c0 c1 c2).toArray, .slice A l.length c].toArray w (Ret fun v w' => OwnT w' w.heap.size v (if g.good then Itm.puts (g.ikernel l) else []) ∧ Ext w w') := by
  have hrn := hg.rules.2.1
  refine enter Tryz.func49 rfl Tryz.ntmps49 rfl ?_
  refine wk ?_
  refine Wop.box rfl (fun w2 e12 b12 z1 => ?_)
  have hl2 := hl.ext (by decide) e12
  have hg2 := hg.ext e12
  refine wk ?_
  refine W.loop (ι := Nat × Value) (fun q => [(2, .pointer (some ⟨w.heap.size, 0, none⟩)), (5, q.2), (8, .slice A l.length c), (9, .int .i64 (l.length : Int)), (10, .int .i64 (q.1 : Int))])
    (fun q w' => Ext w2 w' ∧ q.1 ≤ l.length ∧ OwnT w' w2.heap.size q.2 ((l.take q.1).filterMap g.kernf)) (fun q => l.length - q.1) (0, .slice none 0 0) has ⟨Ext.refl _, Nat.zero_le _, OwnM.nil⟩ ?_
  rintro ⟨k, v⟩ w3 ⟨hE, hk, hv⟩
  replace hk : k ≤ l.length := hk
  replace hv : OwnT w3 w2.heap.size v ((l.take k).filterMap g.kernf) := hv
  dsimp only
  have b13 := b12.ext hE
  have hg3 := hg2.ext hE
  refine wk ?_
  refine W.test rfl (fun hlt => ?_) (fun hge => ?_)
  · replace hlt : k < l.length := by omega
    have hstep := fm_step (f := g.kernf) hlt
    have hlen : ((l.take k).filterMap g.kernf).length ≤ l.length := fm_len
    obtain ⟨b, o, rfl, es, hrd, hcc⟩ := (hl2.ext (by decide) hE).at_ k hlt
    obtain ⟨rfl, hr1, hr2⟩ := tItm_open hrd
    have hcs : ∀ (i : Nat) (u : Value), [Value.int .i64 l[k].rule, .int .i64 l[k].dot][i]? = some u → w3.cell? ⟨b, o + k * 2 + i, none⟩ = some u := hcc
    refine wk ?_
    refine Wop.alloc (z := .agg #[.int .i64 0, .int .i64 0]) Tryz.zeroValue73 (fun w4 e4 b4 z4 => ?_)
    refine wk ?_
    refine Wop.stB TT rfl rfl rfl (by simp [Value.oneCell']) b4 rfl (fun w5 g5 b5 z5 k5 => ?_)
    have e35 : Ext w3 w5 := Below.trans e4 g5
    have b15 := b13.ext e35
    have hv5 := hv.ext e35
    have hE5 := hE.trans e35
    refine wk ?_
    refine Wop.fn en101 rfl (gMayI (hg3.ext e35)) ?_
    rintro _ w6 ⟨rfl, e6⟩
    have b56 := b5.ext e6
    have b16 := b15.ext e6
    have hv6 := hv5.ext e6
    have hE6 := hE5.trans e6
    rcases Decidable.em g.good with hm | hm
    · have hkf : ∀ x, g.kernf x = g.ikernf x := fun x => by rw [Gram.kernf, if_pos hm]
      rw [decide_eq_true hm]
      refine wk ?_
      refine Wop.fn en103 rfl (gRightI (hg2.ext hE6) l[k]) ?_
      rintro _ w7 ⟨rfl, e7⟩
      have b57 := b56.ext e7
      have b17 := b16.ext e7
      have hv7 := hv6.ext e7
      have hE7 := hE6.trans e7
      cases hir : g.iright l[k] with
      | false =>
        have hf : g.kernf l[k] = none := by rw [hkf, Gram.ikernf, if_neg (by simp [hir])]
        rw [hf] at hstep
        refine wk ?_
        refine Arr.again (i := (k, v)) (k + 1, v) has ⟨hE7, hlt, by rw [show (k + 1, v).1 = k + 1 from rfl, hstep]; simpa using hv7⟩ (by show l.length - (k + 1) < l.length - k; omega)
      | true =>
        refine wk ?_
        refine Wl.part rfl rfl rfl (fun hp => ?_) (fun hp => ?_)
        · refine wk ?_
          have hf : g.kernf l[k] = some l[k] := by rw [hkf, Gram.ikernf, if_pos (by simp [hir, hp])]
          rw [hf] at hstep
          refine wk ?_
          refine Wop.buildSlice (cs := #[.int .i64 l[k].rule, .int .i64 l[k].dot]) TT rfl rfl rfl Tryz.zeroValue73 rfl rfl rfl rfl (fun w8 e8 b8 z8 => ?_)
          have hv8 := hv7.ext e8
          have hE8 := hE7.trans e8
          refine wk ?_
          refine Wop.appM (D := tItm) (S' := fun _ => False) TT rfl rfl infoItm rfl (by decide) (by decide) rfl rfl (es := [.int .i64 l[k].rule, .int .i64 l[k].dot]) (a := l[k]) b8 (tItm_mk hr1 hr2) hv8 hE8.size (by omega) (fun j h => h.elim) (fun j h => h.elim) (fun v' w9 hm' kk hat => ?_)
          have hv9 := OwnT.low hm'
          have hE9 : Ext w2 w9 := Below.trans hE8 (OwnT.below hv8 hE8.size kk)
          refine wk ?_
          refine Arr.again (i := (k, v)) (k + 1, v') has ⟨hE9, hlt, by rw [show (k + 1, v').1 = k + 1 from rfl, hstep]; exact hv9⟩ (by show l.length - (k + 1) < l.length - k; omega)
        · refine wk ?_
          refine W.test rfl (fun hq => ?_) (fun hq => ?_)
          · skip
            have hf : g.kernf l[k] = some l[k] := by rw [hkf, Gram.ikernf, if_pos (by simp [hir, hp, hq])]
            rw [hf] at hstep
            refine wk ?_
            refine Wop.buildSlice (cs := #[.int .i64 l[k].rule, .int .i64 l[k].dot]) TT rfl rfl rfl Tryz.zeroValue73 rfl rfl rfl rfl (fun w8 e8 b8 z8 => ?_)
            have hv8 := hv7.ext e8
            have hE8 := hE7.trans e8
            refine wk ?_
            refine Wop.appM (D := tItm) (S' := fun _ => False) TT rfl rfl infoItm rfl (by decide) (by decide) rfl rfl (es := [.int .i64 l[k].rule, .int .i64 l[k].dot]) (a := l[k]) b8 (tItm_mk hr1 hr2) hv8 hE8.size (by omega) (fun j h => h.elim) (fun j h => h.elim) (fun v' w9 hm' kk hat => ?_)
            have hv9 := OwnT.low hm'
            have hE9 : Ext w2 w9 := Below.trans hE8 (OwnT.below hv8 hE8.size kk)
            refine wk ?_
            refine Arr.again (i := (k, v)) (k + 1, v') has ⟨hE9, hlt, by rw [show (k + 1, v').1 = k + 1 from rfl, hstep]; exact hv9⟩ (by show l.length - (k + 1) < l.length - k; omega)
          · skip
            have hf : g.kernf l[k] = none := by rw [hkf, Gram.ikernf, if_neg (by simp [hir, hp, hq])]
            rw [hf] at hstep
            refine wk ?_
            refine Arr.again (i := (k, v)) (k + 1, v) has ⟨hE7, hlt, by rw [show (k + 1, v).1 = k + 1 from rfl, hstep]; simpa using hv7⟩ (by show l.length - (k + 1) < l.length - k; omega)
    · have hf : g.kernf l[k] = none := by rw [Gram.kernf, if_neg hm]
      rw [hf] at hstep
      rw [decide_eq_false hm]
      refine wk ?_
      refine Arr.again (i := (k, v)) (k + 1, v) has ⟨hE6, hlt, by rw [show (k + 1, v).1 = k + 1 from rfl, hstep]; simpa using hv6⟩ (by show l.length - (k + 1) < l.length - k; omega)
  · obtain rfl : k = l.length := by omega
    rw [List.take_length] at hv
    have hlen : (l.filterMap g.kernf).length ≤ l.length := List.length_filterMap_le _ _
    refine wk ?_
    refine Wop.fn en107 rfl (kSorted hv (by omega)) ?_
    rintro u w4 ⟨h4, k4⟩
    refine wk ?_
    refine Arr.ret1 rfl rfl ⟨?_, e12.trans (Below.trans hE (OwnT.below hv hE.size k4))⟩
    rw [← Gram.kernf_fm]
    exact OwnM.lower h4 e12.size
end Go.Proofs.YtbadjlhijbkbbaaGreat

/-
  A map from items to bools: a set of items.
-/
set_option linter.unusedVariables false
namespace Go.Proofs.YtbadjlhijbkbbaaGreat
open Go Go.RowKit Sx
theorem run_checkItm (e : Bool) (a b : Int) (w : World) : (Instr.checkKey e 10000 73 (.agg #[.int .i64 a, .int .i64 b])).run Tryz.prog w = .ok () w := by
  have ha : ∀ w, (isAgg 3).run Tryz.prog w = .ok false w := Tryz.isAgg3
  have h1 : ∀ (n : Nat) (x : Int), (Instr.checkKey e (n + 1) 3 (.int .i64 x)).run Tryz.prog w = .ok () w := fun n x => by
    rw [Instr.checkKey]
    simp [run_underlying Tryz.underlying3]
  rw [show (10000 : Nat) = 9998 + 1 + 1 from rfl, Instr.checkKey]
  simp [run_underlying Tryz.underlying73, part, ha, h1]
/-- A set of items lies in a block. -/
def MetAt (w : World) (b : Nat) (ms : List Itm) : Prop := ∃ es c, w.heap[b]? = some (.map es c) ∧ es.toList.map (fun e => (e.key, e.val)) = ms.map fun x => (vItm x, Value.bool true)
theorem MetAt.keep {w w' : World} {p : Nat → Prop} {b : Nat} {ms : List Itm} (h : MetAt w b ms) (k : Keeps p w w') (hb : p b) : MetAt w' b ms := by
  obtain ⟨es, c, h1, h2⟩ := h
  exact ⟨es, c, (k.block b hb (lt_of_block h1)).trans h1, h2⟩
theorem MetAt.ext {w w' : World} {b : Nat} {ms : List Itm} (h : MetAt w b ms) (e : Ext w w') : MetAt w' b ms := h.keep (p := fun _ => True) (Ext.keeps e) trivial
theorem MetAt.lt {w : World} {b : Nat} {ms : List Itm} (h : MetAt w b ms) : b < w.heap.size := by
  obtain ⟨es, c, h1, _⟩ := h
  exact lt_of_block h1
theorem run_findT (x : Itm) (w : World) : ∀ (l : List MapEntry) (ms : List Itm) (i : Nat), l.map (fun e => (e.key, e.val)) = ms.map (fun x => (vItm x, Value.bool true)) →
    (x ∈ ms → ∃ j, (Instr.findAsking 73 (vItm x) l i).run Tryz.prog w = .ok (some (j, .bool true)) w) ∧ (x ∉ ms → (Instr.findAsking 73 (vItm x) l i).run Tryz.prog w = .ok none w)
  | [], ms, i, h => by
    have : ms = [] := by simpa using h.symm
    subst this
    exact ⟨fun h => (by cases h), fun _ => by simp [Instr.findAsking]⟩
  | e :: l, [], i, h => by simp at h
  | e :: l, y :: ms, i, h => by
    simp only [List.map_cons, List.cons.injEq, Prod.mk.injEq] at h
    obtain ⟨⟨h1, h2⟩, h3⟩ := h
    have ih := run_findT x w l ms (i + 1) h3
    have heq : (Op.equal 73 (vItm x) (vItm y)).run Tryz.prog w = .ok (decide (x = y)) w := by
      have := run_eqItm x.rule x.dot y.rule y.dot w
      have e : decide (x.rule = y.rule ∧ x.dot = y.dot) = decide (x = y) := decide_eq_decide.2 itm_eq
      rw [e] at this
      exact this
    by_cases hx : x = y
    · subst hx
      refine ⟨fun _ => ⟨i, ?_⟩, fun h => absurd List.mem_cons_self h⟩
      simp [Instr.findAsking, h1, h2, heq]
    · refine ⟨fun h => ?_, fun h => ?_⟩
      · obtain ⟨j, hj⟩ := ih.1 ((List.mem_cons.1 h).resolve_left hx)
        exact ⟨j, by simp [Instr.findAsking, h1, heq, hx, hj]⟩
      · have := ih.2 (fun h' => h (List.mem_cons_of_mem _ h'))
        simp [Instr.findAsking, h1, heq, hx, this]
theorem run_findKeyT (x : Itm) (w : World) (l : List MapEntry) (ms : List Itm) (h : l.map (fun e => (e.key, e.val)) = ms.map (fun x => (vItm x, Value.bool true))) :
    (x ∈ ms → ∃ j, (Instr.findKey 73 (vItm x) l).run Tryz.prog w = .ok (some (j, .bool true)) w) ∧ (x ∉ ms → (Instr.findKey 73 (vItm x) l).run Tryz.prog w = .ok none w) := by
  have hf := run_findT x w l ms 0 h
  cases l with
  | nil =>
    have : ms = [] := by simpa using h.symm
    subst this
    exact ⟨fun h => (by cases h), fun _ => by simp [Instr.findKey, run_underlying Tryz.underlying73, Instr.findNow]⟩
  | cons e l =>
    have hn : (Instr.findKey 73 (vItm x) (e :: l)).run Tryz.prog w = (Instr.findAsking 73 (vItm x) (e :: l) 0).run Tryz.prog w := by
      simp [Instr.findKey, run_underlying Tryz.underlying73, Instr.findNow, Instr.sameNow]
    rw [hn]
    exact hf
section
variable {Q : Exit → Act → World → Prop} {N : Nat} {σ : Sl} {w : World} {K : Value → World → Prop}
variable {d : Option Tmp} {ty : TypeId} {ps : String} {af : Array Edge} {gd : Option (Nat × Bool)}
theorem Wop.mkMet {t : TypeId} (hk : ∀ w', Ext w w' → MetAt w' w.heap.size [] → w'.heap.size = w.heap.size + 1 → K (.map (some w.heap.size)) w') : Wop Tryz.prog Q N ⟨d, .makeMap t none, ty, ps, af, gd⟩ σ w K :=
  Wop.val (w' := w.alloc (.map #[] 0)) (fun ρ h => by simp [execOp, Instr.makeMap, newObj, Sem.run, World.alloc_eq]) (hk _ (Ext.alloc _ _) ⟨#[], 0, heap_alloc_new w _, rfl⟩ (by simp))
theorem Wop.getMet {x y : Operand} {b : Nat} {k : Itm} {ms : List Itm} (hx : Sx.look σ x = some (.map (some b))) (hy : Sx.look σ y = some (vItm k)) (hm : MetAt w b ms) (hk : K (.bool (decide (k ∈ ms))) w) : Wop Tryz.prog Q N ⟨d, .lookup 138 x y false, ty, ps, af, gd⟩ σ w K := by
  obtain ⟨es, c, h1, h2⟩ := hm
  refine Wop.val (fun ρ h => ?_) hk
  have hf := run_findKeyT k w es.toList ms h2
  have hz : (zeroValue 4).run Tryz.prog w = .ok (.bool false) w := Tryz.zeroValue4 w
  by_cases hmem : k ∈ ms
  · obtain ⟨j, hj⟩ := hf.1 hmem
    simp [execOp, h x _ hx, h y _ hy, Instr.lookup, run_underlying Tryz.underlying138, getObj, Sem.run, h1, run_checkItm, hj, hmem]
  · have hj := hf.2 hmem
    simp [execOp, h x _ hx, h y _ hy, Instr.lookup, run_underlying Tryz.underlying138, getObj, Sem.run, h1, run_checkItm, hj, hz, hmem]
theorem Wop.putMet {x y z : Operand} {b : Nat} {k : Itm} {ms : List Itm} (hx : Sx.look σ x = some (.map (some b))) (hy : Sx.look σ y = some (vItm k)) (hz : Sx.look σ z = some (.bool true)) (hm : MetAt w b ms) (hn : k ∉ ms)
    (hk : ∀ w', Below b w w' → MetAt w' b (ms ++ [k]) → w'.heap.size = w.heap.size → (∀ j, j ≠ b → w'.heap[j]? = w.heap[j]?) → K undef w') : Wop Tryz.prog Q N ⟨d, .mapUpdate 138 x y z, ty, ps, af, gd⟩ σ w K := by
  obtain ⟨es, c, h1, h2⟩ := hm
  have hlt := lt_of_block h1
  have hj := (run_findKeyT k w es.toList ms h2).2 hn
  have hbel : ∀ o : Obj, Below b w { w with heap := w.heap.setIfInBounds b o } := fun o => ⟨rfl, rfl, rfl, by simp, fun j hj => by simp only [Array.getElem?_setIfInBounds]; rw [if_neg (by omega)]⟩
  have hoth : ∀ (o : Obj) (j : Nat), j ≠ b → (({ w with heap := w.heap.setIfInBounds b o } : World).heap)[j]? = w.heap[j]? := fun o j hj => by simp only [Array.getElem?_setIfInBounds]; rw [if_neg (by omega)]
  have hset : ∀ o : Obj, (({ w with heap := w.heap.setIfInBounds b o } : World).heap)[b]? = some o := fun o => by simp [hlt]
  refine Wop.skip (w' := { w with heap := w.heap.setIfInBounds b (.map (es.push ⟨vItm k, .bool true, c⟩) (c + 1)) }) (fun ρ h => ?_) (hk _ (hbel _) ⟨_, _, hset _, ?_⟩ (by simp) (hoth _))
  · simp [execOp, h x _ hx, h y _ hy, h z _ hz, Instr.mapUpdate, run_underlying Tryz.underlying138, getObj, setObj, Sem.run, h1, run_checkItm, hj]
  · simp only [Array.toList_push, List.map_append, List.map_singleton]
    rw [h2]
end
end Go.Proofs.YtbadjlhijbkbbaaGreat

/-
  item.Close's put.
-/
set_option linter.unusedVariables false
namespace Go.Proofs.YtbadjlhijbkbbaaGreat
open Go Go.RowKit Sx
variable {S S' : Nat → Prop} {w w' : World} {g : Gram} {A B A0 A1 A2 : Option Addr} {n m c c' c0 c1 c2 : Nat}
/-- An item more, if it is right and not there. -/
def Gram.addI (g : Gram) (out : List Itm) (x : Itm) : List Itm := if x ∉ out ∧ g.iright x = true then out ++ [x] else out
/-- What the put works on. -/
structure PutSt (S : Nat → Prop) (g : Gram) (A0 A1 A2 : Option Addr) (c0 c1 c2 : Nat) (bs bg bm b bo base : Nat) (w : World) (out : List Itm) : Prop where
  box : Blk w bg (gcells g A0 A1 A2 c0 c1 c2).toArray 25
  gram : GramAt S w g A0 A1 A2 c0 c1 c2
  var : Blk w bm #[.map (some b)] 138
  met : MetAt w b out
  row : ∃ v, Blk w bo #[v] 68 ∧ OwnT w base v out
  old : ∀ k, S k → k < bs
  size : base ≤ w.heap.size
  lt : bs ≤ bg ∧ bg < base ∧ bs ≤ bm ∧ bm < base ∧ bs ≤ b ∧ b < base ∧ bs ≤ bo ∧ bo < base
  ne : b ≠ bg ∧ b ≠ bm ∧ b ≠ bo ∧ bo ≠ bg ∧ bo ≠ bm
theorem PutSt.ext {bs bg bm b bo base : Nat} {out : List Itm} (h : PutSt S g A0 A1 A2 c0 c1 c2 bs bg bm b bo base w out) (e : Ext w w') : PutSt S g A0 A1 A2 c0 c1 c2 bs bg bm b bo base w' out := by
  obtain ⟨v, h1, h2⟩ := h.row
  exact ⟨h.box.ext e, h.gram.ext e, h.var.ext e, h.met.ext e, ⟨v, h1.ext e, h2.ext e⟩, h.old, Nat.le_trans h.size e.size, h.lt, h.ne⟩
theorem GramAt.keep {p : Nat → Prop} (h : GramAt S w g A0 A1 A2 c0 c1 c2) (k : Keeps p w w') (hS : ∀ k, S k → p k) : GramAt S w' g A0 A1 A2 c0 c1 c2 :=
  ⟨h.terms.keep (by decide) k hS, h.nons.keep (by decide) k hS, h.rules.keep (by decide) k hS, h.start, h.cap0, h.cap1, h.cap2⟩
theorem Blk.inj {k : Nat} {cs cs' : Array Value} {u u' : TypeId} (h : Blk w k cs u) (h' : Blk w k cs' u') : cs = cs' := by
  have h1 : w.heap[k]? = some (.cells cs u (0, 0)) := h
  have h2 : w.heap[k]? = some (.cells cs' u' (0, 0)) := h'
  rw [h1] at h2
  simp only [Option.some.injEq, Obj.cells.injEq] at h2
  exact h2.1
/-- The row lies in none of these blocks. -/
def Away (w : World) (bo : Nat) (T : Nat → Prop) : Prop := ∀ v u, Blk w bo #[v] u → ∀ k, v.ownBlock = some k → ¬ T k
theorem Away.of {bo : Nat} {v : Value} {u : TypeId} {T : Nat → Prop} (h : Blk w bo #[v] u) (hT : ∀ k, v.ownBlock = some k → ¬ T k) : Away w bo T := fun v' u' h' k hk => by
  have := Blk.inj h h'
  simp only [Array.mk.injEq, List.cons.injEq, and_true] at this
  subst this
  exact hT k hk
set_option maxHeartbeats 2000000 in
theorem gPutI {bs bg bm b bo base : Nat} {out : List Itm} (h : PutSt S g A0 A1 A2 c0 c1 c2 bs bg bm b bo base w out) (x : Itm) (h1 : I64 x.rule) (h2 : I64 x.dot) (hsm : out.length ≤ 1000000000) :
    Calls Tryz.prog 104 [vItm x, .pointer (some ⟨bm, 0, none⟩), .pointer (some ⟨bg, 0, none⟩), .pointer (some ⟨bo, 0, none⟩)].toArray w (Ret fun _ w' => PutSt S g A0 A1 A2 c0 c1 c2 bs bg bm b bo base w' (g.addI out x) ∧ Below bs w w' ∧ ∀ T : Nat → Prop, (∀ k, T k → k ≠ b ∧ k ≠ bo ∧ k < w.heap.size) → Away w bo T → Keeps T w w' ∧ Away w' bo T) := by
  have hbs : bs ≤ w.heap.size := by have := h.size; have := h.lt; omega
  obtain ⟨v0, k0, o0⟩ := h.row
  refine enter Tryz.func104 rfl Tryz.ntmps104 rfl ?_
  refine wk ?_
  refine Wop.box rfl (fun w1 e1 b1 z1 => ?_)
  have h1' := h.ext e1
  have kbox := h1'.box
  have kvar := h1'.var
  refine wk ?_
  refine Wop.getMet rfl rfl h1'.met ?_
  unfold Gram.addI
  by_cases hmem : x ∈ out
  · rw [decide_eq_true hmem, if_neg (fun q => q.1 hmem)]
    refine wk ?_
    exact Arr.end0 rfl ⟨h1', e1.mono hbs, fun T _ hA => ⟨Ext.keeps e1, Away.of (k0.ext e1) (fun k hk => hA v0 _ k0 k hk)⟩⟩
  · rw [decide_eq_false hmem]
    refine wk ?_
    refine Wop.fn en103 rfl (gRightI h1'.gram x) ?_
    rintro _ w2 ⟨rfl, e2⟩
    have h2' := h1'.ext e2
    have e12 := e1.trans e2
    have b12 := b1.ext e2
    cases hir : g.iright x with
    | false =>
      rw [if_neg (fun q => by cases q.2)]
      refine wk ?_
      exact Arr.end0 rfl ⟨h2', e12.mono hbs, fun T _ hA => ⟨Ext.keeps e12, Away.of (k0.ext e12) (fun k hk => hA v0 _ k0 k hk)⟩⟩
    | true =>
      rw [if_pos ⟨hmem, rfl⟩]
      have kvar2 := h2'.var
      obtain ⟨v, kro, kown⟩ := h2'.row
      have hv0 : v = v0 := by
        have := Blk.inj kro (k0.ext e12)
        simpa using this
      refine wk ?_
      refine Wop.putMet rfl rfl rfl h2'.met hmem (fun w3 g3 m3 z3 k3 => ?_)
      obtain ⟨l1, l2, l3, l4, l5, l6, l7, l8⟩ := h.lt
      obtain ⟨n1, n2, n3, n4, n5⟩ := h.ne
      have hsz := h.size
      have K3 : Keeps (fun k => k ≠ b) w2 w3 := ⟨g3.os, g3.tape, g3.output, by omega, fun k hk _ => k3 k hk⟩
      have b13 := K3.blk b12 (show w.heap.size ≠ b by omega)
      have kro3 := K3.blk kro n3.symm
      have box3 := K3.blk h2'.box n1.symm
      have var3 := K3.blk kvar2 n2.symm
      have own3 : OwnT w3 base v out := OwnM.keep kown K3 (fun k hk => by have := (OwnM.lt kown k hk).1; show k ≠ b; omega) (fun k hk => hk.elim)
      have gram3 := h2'.gram.keep K3 (fun k hk => by have := h.old k hk; show k ≠ b; omega)
      have s3 : w2.heap.size ≤ w3.heap.size := by omega
      have s2 := h2'.size
      refine wk ?_
      refine Wop.buildSlice (cs := #[.int .i64 x.rule, .int .i64 x.dot]) TT rfl rfl rfl Tryz.zeroValue73 rfl rfl rfl rfl (fun w4 e4 b4 z4 => ?_)
      have own4 := OwnM.ext own3 e4
      have s4 := e4.size
      refine wk ?_
      refine Wop.appM (D := tItm) (S' := fun _ => False) TT rfl rfl infoItm rfl (by decide) (by decide) rfl rfl (es := [.int .i64 x.rule, .int .i64 x.dot]) (a := x) b4 (tItm_mk h1 h2) own4 (by omega) (by omega) (fun j h => h.elim) (fun j h => h.elim) (fun v' w5 hm' kk hat => ?_)
      have own5 := OwnT.low hm'
      have hlt : ∀ k, k < base → v.ownBlock ≠ some k := fun k hk e => by have := (OwnM.lt own4 k e).1; omega
      have kro5 := kk.blk (kro3.ext e4) (hlt bo l8)
      have hone : v'.oneCell' = true := by obtain ⟨A', c', rfl, _⟩ := OwnM.slice own5; rfl
      have s5 := kk.size
      refine wk ?_
      refine Wop.stC TT rfl rfl rfl hone kro5 rfl (fun w6 g6 b6 z6 k6 => ?_)
      have K6 : Keeps (fun k => k ≠ bo) w5 w6 := ⟨g6.os, g6.tape, g6.output, by omega, fun k hk _ => k6 k hk⟩
      refine wk ?_
      refine Arr.end0 rfl ⟨⟨K6.blk (kk.blk (box3.ext e4) (hlt bg l2)) n4.symm, (gram3.ext e4).keep kk (fun k hk => hlt k (by have := h.old k hk; omega)) |>.keep K6 (fun k hk => by have := h.old k hk; show k ≠ bo; omega), K6.blk (kk.blk (var3.ext e4) (hlt bm l4)) n5.symm, ((m3.ext e4).keep kk (hlt b l6)).keep K6 n3, ⟨v', b6, OwnM.keep own5 K6 (fun k hk => by have := (OwnM.lt own5 k hk).1; show k ≠ bo; omega) (fun k hk => hk.elim)⟩, h.old, by omega, h.lt, h.ne⟩, ?_, fun T hT hA => ⟨?_, ?_⟩⟩
      rotate_left
      · have hvT : ∀ k, T k → v.ownBlock ≠ some k := fun k hk e => hA v0 _ k0 k (hv0 ▸ e) hk
        exact ((((Ext.keeps e12).trans (K3.mono (fun k hk => (hT k hk).1))).trans (Ext.keeps e4)).trans (kk.mono hvT)).trans (K6.mono (fun k hk => (hT k hk).2.1))
      · refine Away.of b6 (fun k hk hTk => ?_)
        have hs := e12.size
        rcases hat with h' | h'
        · have h'' : v'.ownBlock = v.ownBlock := h'
          exact hA v0 _ k0 k (by rw [← hv0, ← h'', hk]) hTk
        · rw [hk] at h'
          have := (hT k hTk).2.2
          have := Option.some.inj h'
          omega
      have hA : Below bs w w2 := e12.mono hbs
      have hB : Below bs w2 w3 := K3.below (by omega) (fun k hk => by show k ≠ b; omega)
      have hC : Below bs w3 w4 := e4.mono (by omega)
      have hD : Below bs w4 w5 := kk.below (by omega) (fun k hk => hlt k (by omega))
      have hF : Below bs w5 w6 := K6.below (by omega) (fun k hk => by show k ≠ bo; omega)
      exact (((hA.trans hB).trans hC).trans hD).trans hF
end Go.Proofs.YtbadjlhijbkbbaaGreat
