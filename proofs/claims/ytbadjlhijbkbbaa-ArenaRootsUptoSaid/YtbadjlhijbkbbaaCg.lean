/-
  Joined by program out of the texts Aw19 Al1 Al2 Reada: lemmas for the proofs of this seat; no condition.
-/
import Derived.Test.YtbadjlhijbkbbaaCf
import Derived.Test.YtbadjlhijbkbbaaBb
import Derived.Test.YtbadjlhijbkbbaaBz
set_option maxHeartbeats 1000000
/-
  The arena's own trial.
-/
set_option linter.unusedVariables false
namespace Go.Proofs.Ytbadjlhijbkbbaa
open Go Go.RowKit Sx Arena
variable {S S' : Nat → Prop} {w w0 w' : World} {base p : Nat} {ns : List Nd} {A : Option Addr} {n c : Nat}
def gT : Gram := ⟨["A".toUTF8], ["s".toUTF8, "t".toUTF8], [⟨2, [1, 3]⟩, ⟨3, []⟩], 2⟩
def nB : List Nd := join (join [leafNd 1 7] 3 1 []) 2 0 [0, 1]
theorem nB1 : may [leafNd 1 7] [] = true := by decide +kernel
theorem nB2 : may (join [leafNd 1 7] 3 1 []) [0, 1] = true := by decide +kernel
theorem nB3 : may nB [0, 1] = false := by decide +kernel
theorem nB_len : (join [leafNd 1 7] 3 1 []).length = 2 := by decide +kernel
theorem nB_show : showT gT nB 2 = "(s A (t))".toUTF8.data.toList := by decide +kernel
theorem nB_showl : (showN gT nB 2).length = 9 := by decide +kernel
theorem gT_check : gT.check = 0 := by decide +kernel
theorem nB_check : checkT gT nB 2 = true := by
  have h1 : isIn nB 2 = true := by decide +kernel
  have h2 : (under nB 2).all (fun k => fineNd gT nB (nd nB k)) = true := by decide +kernel
  rw [checkT, h1, h2, decide_eq_true gT_check]
  rfl
theorem nB_check5 : checkT gT nB 5 = false := by
  have h1 : isIn nB 5 = false := by decide +kernel
  rw [checkT, h1]
  rfl
theorem nB_leaves : picks nB (·.val) (under nB 2) = [7] := by decide +kernel
theorem nB_under : (under nB 2).length ≤ 1000000000 := by decide +kernel
theorem nB_under5 : (under nB 5).length ≤ 1000000000 := by decide +kernel
theorem nB_roots : roots nB = [2] := by decide +kernel
theorem nB_down : Down nB := (((Wood.nil.leaf 1 7).join 3 1 []).join 2 0 [0, 1]).down
theorem nB_n : nB.length ≤ 1000000000 := by decide +kernel
theorem TreeAt.fresh (h : TreeAt w base p ns) (e : Ext w w') {k : Nat} (hk : w.heap.size ≤ k) : k ≠ p ∧ ∀ v, Blk w' p #[v] 121 → v.ownBlock ≠ some k := by
  obtain ⟨v, h1, h2, h3, h4⟩ := h
  have := h1.lt
  refine ⟨by omega, fun u hu hk' => ?_⟩
  have h5 := (h1.ext e).symm.trans hu
  have h6 : v = u := by
    injection h5 with h5
    injection h5 with h5
    simpa using h5
  subst h6
  have := (h4.lt k hk').2
  omega
set_option maxRecDepth 20000 in
set_option maxHeartbeats 8000000 in
theorem awake19 : Calls Try.prog 53 [].toArray w (Ret fun v w' => v = .bool true ∧ Ext w w') := by
  refine enter Try.func53 rfl Try.ntmps53 rfl ?_
  refine wk ?_
  refine Wop.buildSlice (cs := #[.string "A".toUTF8]) (z := .string ⟨#[]⟩) TT rfl rfl rfl Try.zeroValue9 rfl rfl rfl rfl (fun w1 e1 b1 z1 => ?_)
  refine wk ?_
  refine Wop.buildSlice (cs := #[.string "s".toUTF8, .string "t".toUTF8]) (z := .string ⟨#[]⟩) TT rfl rfl rfl Try.zeroValue9 rfl rfl rfl rfl (fun w2 e2 b2 z2 => ?_)
  refine wk ?_
  refine Wop.buildSlice (cs := #[.int .i64 1, .int .i64 3]) (z := .int .i64 0) TT rfl rfl rfl Try.zeroValue3 rfl rfl rfl rfl (fun w3 e3 b3 z3 => ?_)
  refine wk ?_
  refine Wop.make (cs := #[.int .i64 2, .slice (some ⟨w2.heap.size, 0, none⟩) 2 2]) pl30 rfl rfl ?_
  refine wk ?_
  refine Wop.make (cs := #[.int .i64 3, .slice none 0 0]) pl30 rfl rfl ?_
  refine wk ?_
  refine Wop.buildSlice (cs := #[.int .i64 2, .slice (some ⟨w2.heap.size, 0, none⟩) 2 2, .int .i64 3, .slice none 0 0]) (z := .agg #[.int .i64 0, .slice none 0 0]) TT rfl rfl rfl Try.zeroValue30 rfl rfl rfl rfl (fun w4 e4 b4 z4 => ?_)
  refine wk ?_
  refine Wop.make (cs := (gcells gT (some ⟨w.heap.size, 0, none⟩) (some ⟨w1.heap.size, 0, none⟩) (some ⟨w3.heap.size, 0, none⟩) 1 2 2).toArray) pl25 rfl rfl ?_
  refine wk ?_
  refine Wop.alloc (z := .agg #[.slice none 0 0, .slice none 0 0, .slice none 0 0, .int .i64 0]) Try.zeroValue25 (fun w5 e5 b5 z5 => ?_)
  refine wk ?_
  refine Wop.stB TT rfl rfl rfl (by simp [Value.oneCell']) b5 rfl (fun w6 h6 b6 z6 k6 => ?_)
  have e46 : Ext w4 w6 := Below.trans e5 h6
  have e36 := e4.trans e46
  have e26 := e3.trans e36
  have e16 := e2.trans e26
  have e06 := e1.trans e16
  have i64 : ∀ n : Int, 0 ≤ n → n < 100 → Ty.InK .i64 n := fun n h1 h2 => Ty.InK.of64 ⟨by omega, by omega⟩
  have hg : GramAt (fun _ => True) w6 gT (some ⟨w.heap.size, 0, none⟩) (some ⟨w1.heap.size, 0, none⟩) (some ⟨w3.heap.size, 0, none⟩) 1 2 2 := by
    refine ⟨Blk.rowL (xs := gT.terms) (b1.ext e16) ⟨[_], _, rfl, ⟨rfl, by decide⟩, rfl⟩ trivial (by decide), Blk.rowL (xs := gT.nons) (b2.ext e26) ⟨[_], _, rfl, ⟨rfl, by decide⟩, [_], _, rfl, ⟨rfl, by decide⟩, rfl⟩ trivial (by decide),
      Blk.rowL (xs := gT.rules) (b4.ext e46) ⟨[_, _], _, rfl, ⟨[_], [_], rfl, ⟨rfl, i64 _ (by decide) (by decide)⟩, _, _, _, rfl, Nat.le_refl _, ?_⟩, [_, _], _, rfl, ⟨[_], [_], rfl, ⟨rfl, i64 _ (by decide) (by decide)⟩, none, 0, 0, rfl, Nat.le_refl _, Ty.Row.nil_ _ _ _ _⟩, rfl⟩ trivial (by decide), ⟨by decide, by decide⟩, by decide, by decide, by decide⟩
    exact Blk.rowL (D := tI) (xs := [1, 3]) (b3.ext e36) ⟨[_], _, rfl, ⟨rfl, i64 _ (by decide) (by decide)⟩, [_], _, rfl, ⟨rfl, i64 _ (by decide) (by decide)⟩, rfl⟩ trivial (by decide)
  have s6 := e06.size
  have l6 := b6.lt
  refine wk ?_
  refine Wop.fn en48 rfl gNew ?_
  rintro _ w7 ⟨rfl, ht7, e7⟩
  have s7 := e7.size
  refine wk ?_
  refine Wop.fn en49 rfl (gLeaf ht7 (by omega) (by decide) (sym := 1) (val := 7) ⟨by decide, by decide⟩ ⟨by decide, by decide⟩) ?_
  rintro _ w8 ⟨rfl, ht8, e8⟩
  have s8 := e8.size
  have E8 : Ext w6 w8 := Below.trans e7 e8
  refine wk ?_
  refine Wop.fn en50 rfl (gJoinT (S := fun _ => False) (ks := []) ht8 (by omega) (by decide) (sym := 3) (rule := 1) ⟨by decide, by decide⟩ ⟨by decide, by decide⟩ (Ty.Row.nil_ _ _ _ _) (Nat.le_refl _) (fun k hk => hk.elim)) ?_
  rintro v9 w9 ⟨hv9, ht9, e9⟩
  obtain rfl : v9 = .int .i64 1 := by rw [hv9, show [] ++ [leafNd 1 7] = [leafNd 1 7] from rfl, nB1]; rfl
  have ht9' : TreeAt w9 w6.heap.size w6.heap.size (join [leafNd 1 7] 3 1 []) := ht9
  have s9 := e9.size
  have E9 : Ext w6 w9 := Below.trans E8 e9
  refine wk ?_
  refine Wop.buildSlice (cs := #[.int .i64 0, .int .i64 1]) (z := .int .i64 0) TT rfl rfl rfl Try.zeroValue3 rfl rfl rfl rfl (fun wa ea ba za => ?_)
  have sa := ea.size
  have hka : tI.Row (fun k => k = w9.heap.size) wa (some ⟨w9.heap.size, 0, none⟩) 2 [0, 1] := Blk.rowL (xs := [0, 1]) ba ⟨[_], _, rfl, ⟨rfl, i64 _ (by decide) (by decide)⟩, [_], _, rfl, ⟨rfl, i64 _ (by decide) (by decide)⟩, rfl⟩ rfl (by decide)
  refine wk ?_
  refine Wop.fn en50 rfl (gJoinT (ks := [0, 1]) (ht9'.ext ea) (by omega) (by rw [nB_len]; decide) (sym := 2) (rule := 0) ⟨by decide, by decide⟩ ⟨by decide, by decide⟩ hka (Nat.le_refl _) (fun k hk => by subst hk; exact ht9'.fresh ea (Nat.le_refl _))) ?_
  rintro vb wb ⟨hvb, htb, eb⟩
  obtain rfl : vb = .int .i64 2 := by rw [hvb, nB2, nB_len]; rfl
  have htb' : TreeAt wb w6.heap.size w6.heap.size nB := htb
  have sb := eb.size
  have Eb : Ext w6 wb := Below.trans (Below.trans E9 (ea.mono E9.size)) eb
  have hgb := hg.ext Eb
  have b6b := b6.ext Eb
  refine wk ?_
  refine Wop.fn en58 rfl (gShowT htb' nB_n nB_down hgb (by rw [nB_showl]; decide)) ?_
  rintro _ wc ⟨rfl, ec⟩
  rw [nB_show]
  have hgc := hgb.ext ec
  have b6c := b6b.ext ec
  have Ec := Eb.trans ec
  refine wk ?_
  refine Wop.fn en57 rfl (gCheckT (htb'.ext ec) (by have := Ec.size; omega) nB_n nB_down nB_under hgc) ?_
  rintro _ wd ⟨rfl, ed⟩
  rw [nB_check]
  have ecd := ec.trans ed
  have hgd := hgc.ext ed
  have b6d := b6c.ext ed
  have Ed := Ec.trans ed
  refine wk ?_
  refine Wop.fn en57 rfl (gCheckT (htb'.ext ecd) (by have := Ed.size; omega) nB_n nB_down nB_under5 hgd) ?_
  rintro _ we ⟨rfl, ee⟩
  rw [nB_check5]
  have ece := ecd.trans ee
  have Ee := Ed.trans ee
  refine wk ?_
  refine Wop.fn en52 rfl (gLeaves1T (htb'.ext ece) (by have := Ee.size; omega) nB_n nB_down nB_under) ?_
  rintro vf wf ⟨hof, ef⟩
  rw [nB_leaves] at hof
  obtain ⟨Af, cf, rfl, hcf⟩ := hof.slice
  have ecf := ece.trans ef
  have Ef := Ee.trans ef
  refine wk ?_
  refine Wop.fn en52 rfl (gLeaves1T (htb'.ext ecf) (by have := Ef.size; omega) nB_n nB_down nB_under) ?_
  rintro vh wh ⟨hoh, eh⟩
  rw [nB_leaves] at hoh
  obtain ⟨Ah, ch, hvh, hch, hrh⟩ := OwnI.row (S := fun _ => True) hoh (by decide) (fun x hx => by simp at hx; subst hx; exact ⟨by decide, by decide⟩) (fun _ _ => trivial)
  subst hvh
  obtain ⟨bh, oh, rfl, es, ⟨rfl, _⟩, hcc⟩ := hrh.at_ 0 (by decide)
  have hcell := hcc 0 _ rfl
  have ech := ecf.trans eh
  have Eh := Ef.trans eh
  refine wk ?_
  refine Wop.ixI TT 0 rfl rfl rfl rfl rfl rfl (by decide) ?_
  refine wk ?_
  refine Wop.fn en51 rfl (gRoots (htb'.ext ech) nB_n) ?_
  rintro vi wi ⟨hoi, ei⟩
  rw [nB_roots] at hoi
  obtain ⟨Ai, ci, rfl, hci⟩ := hoi.slice
  have eci := ech.trans ei
  have Ei := Eh.trans ei
  refine wk ?_
  refine Wop.buildSlice (cs := #[.int .i64 0, .int .i64 1]) (z := .int .i64 0) TT rfl rfl rfl Try.zeroValue3 rfl rfl rfl rfl (fun wj ej bj zj => ?_)
  have ecj := eci.trans ej
  have Ej := Ei.trans ej
  have hkj : tI.Row (fun k => k = wi.heap.size) wj (some ⟨wi.heap.size, 0, none⟩) 2 [0, 1] := Blk.rowL (xs := [0, 1]) bj ⟨[_], _, rfl, ⟨rfl, i64 _ (by decide) (by decide)⟩, [_], _, rfl, ⟨rfl, i64 _ (by decide) (by decide)⟩, rfl⟩ rfl (by decide)
  refine wk ?_
  refine Wop.fn en50 rfl (gJoinT (ks := [0, 1]) (htb'.ext ecj) (by have := Ej.size; omega) nB_n (sym := 2) (rule := 0) ⟨by decide, by decide⟩ ⟨by decide, by decide⟩ hkj (Nat.le_refl _) (fun k hk => by subst hk; exact (htb'.ext eci).fresh ej (Nat.le_refl _))) ?_
  rintro vk wl ⟨hvk, _, ek⟩
  obtain rfl : vk = .int .i64 (-1) := by rw [hvk, nB3]; rfl
  refine wk ?_
  exact Arr.ret1 rfl rfl ⟨rfl, e06.trans (Below.trans Ej ek)⟩
end Go.Proofs.Ytbadjlhijbkbbaa

/-
  ArenaRoots: the law's function answers true.
-/
set_option linter.unusedVariables false
namespace Go.Proofs.Ytbadjlhijbkbbaa
open Go Go.RowKit Sx Arena
variable {S S' : Nat → Prop} {w w0 w' : World} {base p : Nat} {ns : List Nd} {A : Option Addr} {n c : Nat}
/-- A call. -/
structure AOp where
  leaf : Bool
  sym : Int
  n : Int
  kids : List Int
abbrev tOp : Ty AOp := (Ty.bool.prod (tI.prod (tI.prod tIs))).via fun x => (x.leaf, x.sym, x.n, x.kids)
theorem tOp_open {x : AOp} {cs : List Value} (h : tOp.rd S w x cs) : ∃ A c, cs = [.bool x.leaf, .int .i64 x.sym, .int .i64 x.n, .slice A x.kids.length c] ∧ x.kids.length ≤ c ∧ I64 x.sym ∧ I64 x.n ∧ tI.Row S w A x.kids.length x.kids := by
  obtain ⟨_, _, rfl, rfl, _, _, rfl, ⟨rfl, h1⟩, _, _, rfl, ⟨rfl, h2⟩, h4⟩ := h
  obtain ⟨A, c, rfl, hc, hr⟩ := tIs_open h4
  exact ⟨A, c, rfl, hc, h1.i64, h2.i64, hr⟩
theorem TreeAt.keepB (h : TreeAt w base p ns) (K : Keeps (fun k => k < w.heap.size) w w') : TreeAt w' base p ns := by
  obtain ⟨v, h1, h2, h3, h4⟩ := h
  refine ⟨v, K.blk h1 h1.lt, h2, h3, ?_⟩
  exact ((h4.mono (S' := fun k => (base ≤ k ∧ k ≠ p ∧ v.ownBlock ≠ some k) ∧ k < w.heap.size) (fun k hk hl => ⟨hk, hl⟩)).keep K (fun k hk => (h4.lt k hk).2) (fun k hk => hk.2)).mono (fun k hk _ => hk.1)
/-- How often each number stands in a list. -/
def cnts (l : List Int) (n : Nat) : List Int := (List.range n).map fun (x : Nat) => (l.count (x : Int) : Int)
theorem cnts_nil (n : Nat) : cnts [] n = List.replicate n 0 := by
  apply List.ext_getElem <;> simp [cnts]
theorem cnts_length (l : List Int) (n : Nat) : (cnts l n).length = n := by simp [cnts]
theorem cnts_snoc (l : List Int) {n : Nat} {v : Int} (h0 : 0 ≤ v) (hn : v < n) : cnts (l ++ [v]) n = (cnts l n).set v.toNat ((cnts l n)[v.toNat]'(by rw [cnts_length]; omega) + 1) := by
  apply List.ext_getElem (by simp [cnts])
  intro j h1 h2
  rw [cnts_length] at h1
  rw [List.getElem_set]
  by_cases e : v.toNat = j
  · subst e
    have hv : ((v.toNat : Nat) : Int) = v := by omega
    simp only [cnts, List.getElem_map, List.getElem_range, List.count_append, hv]
    simp
  · have hv : ¬ v = (j : Int) := by omega
    simp only [cnts, List.getElem_map, List.getElem_range, List.count_append, if_neg e]
    simp [hv]
theorem cnts_perm {l : List Int} {n : Nat} (h : l.Perm (ints n)) : cnts l n = List.replicate n 1 := by
  apply List.ext_getElem (by simp [cnts])
  intro j h1 h2
  rw [cnts_length] at h1
  simp only [cnts, List.getElem_map, List.getElem_range, List.getElem_replicate]
  rw [h.count_eq, (ints_nodup n).count, if_pos (mem_ints.2 ⟨by omega, by omega⟩)]
  rfl
set_option maxRecDepth 20000 in
set_option maxHeartbeats 8000000 in
theorem lawRoots {xs : List AOp} (hl : tOp.Row (fun _ => True) w A n xs) : Calls Try.prog 9 [.slice A n c].toArray w (Ret fun v w' => v = .bool true ∧ Ext w w') := by
  have hl0 := hl.1
  have hlm := hl.2.1
  replace hl := hl.lt (by decide)
  refine enter Try.func9 rfl Try.ntmps9 rfl ?_
  refine wk ?_
  refine Wop.fn en48 rfl gNew ?_
  rintro _ w1 ⟨rfl, ht1, e1⟩
  have s1 := e1.size
  refine wk ?_
  refine W.midB (ι := List Nd × Nat) (fun x => [(3, .pointer (some ⟨w.heap.size, 0, none⟩)), (4, .int .i64 (x.2 : Int))]) (fun x w' => Forest x.1 x.2 ∧ x.1.length ≤ 60 ∧ x.2 ≤ 60 ∧ TreeAt w' w.heap.size w.heap.size x.1 ∧ Ext w w') ?_ ?_
  · refine W.loop (ι := Nat × List Nd × Nat) (fun x => [(0, .slice A n c), (3, .pointer (some ⟨w.heap.size, 0, none⟩)), (4, .int .i64 (x.2.2 : Int)), (5, .int .i64 (x.1 : Int))])
      (fun x w' => x.1 ≤ 60 ∧ Forest x.2.1 x.2.2 ∧ x.2.1.length ≤ x.1 ∧ x.2.2 ≤ x.1 ∧ TreeAt w' w.heap.size w.heap.size x.2.1 ∧ Ext w w') (fun x => 60 - x.1) (0, [], 0) has ⟨by simp, Forest.nil, by simp, by simp, ht1, e1⟩ ?_
    rintro ⟨i, ns, k⟩ w2 ⟨hi60, hF, hnl, hkl, hT, hE⟩
    simp only at hi60 hF hnl hkl hT ⊢
    have s2 := hE.size
    refine wk ?_
    refine Wl.part rfl rfl rfl (fun q1 => ?_) (fun q1 => ?_)
    · refine wk ?_
      refine W.test rfl (fun q2 => ?_) (fun q2 => ?_)
      · have hlt : i < xs.length := by omega
        obtain ⟨b, o, rfl, es, hrd, hcc⟩ := (hl.ext (by decide) hE).at_ i hlt
        obtain ⟨A1, c1, rfl, hcap, hsy, hn, hkids⟩ := tOp_open hrd
        have hc0 := hcc 0 _ rfl
        have hc1 := hcc 1 _ rfl
        have hc2 := hcc 2 _ rfl
        have hc3 := hcc 3 _ rfl
        have hkm := hkids.2.1
        refine wk ?_
        refine W.cond rfl (fun q => ?_) (fun q => ?_)
        · refine wk ?_
          refine Wop.fn en49 rfl (gLeaf hT (by omega) (by omega) hsy ⟨by omega, by omega⟩) ?_
          rintro _ w3 ⟨rfl, hT3, e3⟩
          refine wk ?_
          refine Arr.again (i := (i, ns, k)) (i + 1, ns ++ [leafNd xs[i].sym k], k + 1) has ⟨by omega, hF.leaf _, by simp; omega, by simp only; omega, hT3, Below.trans hE e3⟩ (by simp only; omega)
        · refine wk ?_
          refine W.test rfl (fun q3 => ?_) (fun q3 => ?_)
          · refine W.anyCut Ext [.eq _, .eq _, .eq _, .eq _, .eq _, .eq _, .eq _, .eq _, .eq _, .eq _, .eq _, .eq _, .eq _, .eq _, .eq _, .eq _] 16 [0, 5, 10, 15] mixed rfl Ext.refl Ext.trans Ext.drew rfl rfl ⟨qs, qs, qs, qs, qs, qs, qs, qs, qs, qs, qs, qs, qs, qs, qs, qs, trivial⟩ ?_
            rintro wq eq_ _ ⟨⟩ _ ⟨⟩ _ ⟨⟩ _ ⟨⟩
            have sq := eq_.size
            refine wk ?_
            refine Wop.fn en50 rfl (gJoinT (ks := xs[i].kids) (hT.ext eq_) (by omega) (by omega) hsy hn (hkids.ext (by decide) eq_) hcap (fun k hk => ⟨Nat.ne_of_lt hk.2, fun v hv hk' => ?_⟩)) ?_
            · have h1 : k < w.heap.size := hk.2
              obtain ⟨v', g1, g2, g3, g4⟩ := hT.ext eq_
              have h5 := g1.symm.trans hv
              have h6 : v' = v := by
                injection h5 with h5
                injection h5 with h5
                simpa using h5
              subst h6
              have := (g4.lt k hk').1
              omega
            rintro v3 w3 ⟨_, hT3, e3⟩
            refine wk ?_
            refine Arr.again (i := (i, ns, k)) (i + 1, join ns xs[i].sym xs[i].n xs[i].kids, k) has ⟨by omega, hF.join _ _ _, ?_, by simp only; omega, hT3, Below.trans (hE.trans eq_) e3⟩ (by simp only; omega)
            rw [join]
            split
            · rw [List.length_append, takeAll_length]
              simp
              omega
            · simp only
              omega
          · refine wk ?_
            refine Arr.again (i := (i, ns, k)) (i + 1, ns, k) has ⟨by omega, hF, by simp only; omega, by simp only; omega, hT, hE⟩ (by simp only; omega)
      · refine wk ?_
        exact Arr.mid (ns, k) has ⟨hF, by simp only; omega, by simp only; omega, hT, hE⟩
    · refine wk ?_
      exact Arr.mid (ns, k) has ⟨hF, by simp only; omega, by simp only; omega, hT, hE⟩
  rintro ⟨ns, k⟩ w2 ⟨hF, hnl, hkl, hT, hE⟩
  simp only at hF hnl hkl hT ⊢
  have s2 := hE.size
  have hperm := hF.counts
  have hall : ∀ i : Int, (under ns i).length ≤ 1000000000 := fun i => by have := hF.toWood.under_le i; omega
  refine wk ?_
  refine Wop.makeMut (D := tI) (S := fun _ => False) (n := k) (x0 := 0) TT rfl rfl infoI rfl rfl rfl rfl (by omega) (by omega) (fun w => ⟨rfl, Ty.InK.of64 ⟨by decide, by decide⟩⟩) (fun w3 e3 m3 z3 => ?_)
  rw [← cnts_nil] at m3
  have hE3 := hE.trans e3
  refine wk ?_
  refine Wop.fn en51 rfl (gRoots (hT.ext e3) (by omega)) ?_
  rintro vr w4 ⟨hor, e4⟩
  have s4 := e4.size
  have hrr : ∀ x ∈ roots ns, I64 x := fun x hx => by have := (mem_roots.1 hx).1; exact ⟨by omega, by omega⟩
  have hrl : (roots ns).length ≤ 60 := by
    rw [Arena.roots]
    simp only [List.length_map]
    exact Nat.le_trans (List.length_filter_le _ _) (by simpa using hnl)
  obtain ⟨Ar, cr, rfl, hcr, hrrow⟩ := OwnI.row (S := fun j => w3.heap.size ≤ j ∧ j < w4.heap.size) hor (by omega) hrr (fun j hj => hor.lt j hj)
  have m4 := m3.ext e4
  have hE4 := hE3.trans e4
  have hT4 := (hT.ext e3).ext e4
  have hd := hF.down
  refine wk ?_
  refine W.midB (ι := Unit) (fun _ => [(4, .int .i64 (k : Int)), (6, .slice (some ⟨w2.heap.size, 0, none⟩) k k)]) (fun _ w' => Mut tI (fun _ => False) w' w2.heap.size 3 (cnts ((roots ns).flatMap (leaves ns)) k) ∧ Ext w w') ?_ ?_
  · refine W.loop (ι := Nat) (fun i => [(3, .pointer (some ⟨w.heap.size, 0, none⟩)), (4, .int .i64 (k : Int)), (6, .slice (some ⟨w2.heap.size, 0, none⟩) k k), (7, .slice Ar (roots ns).length cr), (8, .int .i64 (i : Int))])
      (fun i w' => i ≤ (roots ns).length ∧ Keeps (fun j => j ≠ w2.heap.size) w4 w' ∧ Mut tI (fun _ => False) w' w2.heap.size 3 (cnts (((roots ns).take i).flatMap (leaves ns)) k)) (fun i => (roots ns).length - i) 0 has ⟨Nat.zero_le _, Keeps.refl _ _, by simpa using m4⟩ ?_
    rintro i w5 ⟨hi, hK, hM⟩
    have s5 := hK.size
    refine wk ?_
    refine W.test rfl (fun q => ?_) (fun q => ?_)
    · have hlt : i < (roots ns).length := by omega
      obtain ⟨br, or_, rfl, es, ⟨rfl, hI⟩, hcc⟩ := (hrrow.keep (by decide) hK (fun j hj => by omega)).at_ i hlt
      have hcell := hcc 0 _ rfl
      have hT5 : TreeAt w5 w.heap.size w.heap.size ns := hT.keepB (((Ext.keeps (e3.trans e4)).trans (hK.mono (fun j hj => by omega))))
      refine wk ?_
      refine Wop.fn en52 rfl (gLeaves1T hT5 (by omega) (by omega) hd (hall _)) ?_
      rintro vk w6 ⟨hok, e6⟩
      have hleq : picks ns (·.val) (under ns (roots ns)[i]) = leaves ns (roots ns)[i] := rfl
      rw [hleq] at hok
      have hwhole : (roots ns).flatMap (leaves ns) = ((roots ns).take i).flatMap (leaves ns) ++ (leaves ns (roots ns)[i] ++ ((roots ns).drop (i + 1)).flatMap (leaves ns)) := by
        conv => lhs; rw [← List.take_append_drop i (roots ns), List.flatMap_append, List.drop_eq_getElem_cons hlt, List.flatMap_cons]
      have hrange : ∀ x ∈ leaves ns (roots ns)[i], 0 ≤ x ∧ x < k := fun x hx => mem_ints.1 (hperm.mem_iff.1 (by rw [hwhole]; simp [hx]))
      have hlen := hperm.length_eq
      rw [hwhole] at hlen
      simp only [List.length_append, ints, List.length_map, List.length_range] at hlen
      have s6 := e6.size
      obtain ⟨Ak, ck, rfl, hck, hkrow⟩ := OwnI.row (S := fun j => w5.heap.size ≤ j ∧ j < w6.heap.size) hok (by omega) (fun x hx => by have := hrange x hx; exact ⟨by omega, by omega⟩) (fun j hj => hok.lt j hj)
      have hM6 := hM.ext e6
      have hmlt := hM.lt
      generalize hLv : leaves ns (roots ns)[i] = Lv at *
      refine wk ?_
      refine W.loop (ι := Nat) (fun j => [(3, .pointer (some ⟨w.heap.size, 0, none⟩)), (4, .int .i64 (k : Int)), (6, .slice (some ⟨w2.heap.size, 0, none⟩) k k), (7, .slice (some ⟨br, or_, none⟩) (roots ns).length cr), (8, .int .i64 (i : Int)), (9, .slice Ak Lv.length ck), (10, .int .i64 (j : Int))])
        (fun j w' => j ≤ Lv.length ∧ Keeps (fun j => j ≠ w2.heap.size) w6 w' ∧ Mut tI (fun _ => False) w' w2.heap.size 3 (cnts (((roots ns).take i).flatMap (leaves ns) ++ Lv.take j) k)) (fun j => Lv.length - j) 0 has ⟨Nat.zero_le _, Keeps.refl _ _, by simpa using hM6⟩ ?_
      rintro j w7 ⟨hj, hK7, hM7⟩
      refine wk ?_
      refine W.test rfl (fun qj => ?_) (fun qj => ?_)
      · have hjl : j < Lv.length := by omega
        obtain ⟨bk, ok_, rfl, es, ⟨rfl, hI7⟩, hcc7⟩ := (hkrow.keep (by decide) hK7 (fun j hj => by omega)).at_ j hjl
        have hcell7 := hcc7 0 _ rfl
        have hv := hrange Lv[j] (List.getElem_mem _)
        have hcl := cnts_length (((roots ns).take i).flatMap (leaves ns) ++ Lv.take j) k
        obtain ⟨es8, ⟨rfl, hI8⟩, hcc8⟩ := hM7.at_ Lv[j].toNat (by rw [hcl]; omega)
        have hcell8 := hcc8 0 _ rfl
        have hsmall : 0 ≤ (cnts (((roots ns).take i).flatMap (leaves ns) ++ Lv.take j) k)[Lv[j].toNat]'(by rw [hcl]; omega) ∧ (cnts (((roots ns).take i).flatMap (leaves ns) ++ Lv.take j) k)[Lv[j].toNat]'(by rw [hcl]; omega) ≤ 60 := by
          simp only [cnts, List.getElem_map, List.getElem_range]
          have := List.count_le_length (a := ((Lv[j].toNat : Nat) : Int)) (l := ((roots ns).take i).flatMap (leaves ns) ++ Lv.take j)
          simp only [List.length_append, List.length_take] at this
          omega
        refine wk ?_
        refine Wl.part rfl rfl rfl (fun q5 => (by omega : False).elim) (fun q5 => ?_)
        refine wk ?_
        refine W.test rfl (fun q6 => (by omega : False).elim) (fun q6 => ?_)
        refine wk ?_
        refine Wop.ixI TT Lv[j].toNat rfl rfl rfl rfl rfl (by omega) (by omega) ?_
        refine wk ?_
        refine Wop.ixI TT Lv[j].toNat rfl rfl rfl rfl rfl (by omega) (by omega) ?_
        refine wk ?_
        refine Wop.stMutF (D := tI) (j := Lv[j].toNat) (k := 0) (x' := (cnts (((roots ns).take i).flatMap (leaves ns) ++ Lv.take j) k)[Lv[j].toNat]'(by rw [hcl]; omega) + 1) TT rfl rfl (by show _ = _ * 1 + 0; omega) (by decide) rfl rfl hM7 (by rw [hcl]; omega) (fun es h => by obtain ⟨rfl, _⟩ := h; exact ⟨rfl, Ty.InK.of64 ⟨by omega, by omega⟩⟩) (fun k hk => hk.elim) (fun w8 K8 z8 M8 => ?_)
        refine wk ?_
        refine Arr.again (j + 1) has ⟨hjl, hK7.trans K8, ?_⟩ (by omega)
        rw [List.take_succ_eq_append_getElem hjl, ← List.append_assoc, cnts_snoc _ hv.1 hv.2]
        exact M8
      · refine wk ?_
        refine Arr.again (i := i) (i + 1) has ⟨hlt, (hK.trans (Ext.keeps e6)).trans hK7, ?_⟩ (by omega)
        rw [List.take_succ_eq_append_getElem hlt, List.flatMap_append, List.flatMap_cons, List.flatMap_nil, List.append_nil, hLv]
        rwa [List.take_of_length_le (l := Lv) (by omega)] at hM7
    · refine wk ?_
      refine Arr.mid () has ⟨?_, Below.trans hE4 (Keeps.below hK (by omega) (fun j hj => by omega))⟩
      rwa [List.take_of_length_le (by omega)] at hM
  rintro _ w5 ⟨hM, hE5⟩
  rw [cnts_perm hperm] at hM
  refine wk ?_
  refine W.midB (ι := Unit) (fun _ => []) (fun _ w' => Ext w w') ?_ ?_
  · refine W.loop (ι := Nat) (fun i => [(4, .int .i64 (k : Int)), (6, .slice (some ⟨w2.heap.size, 0, none⟩) k k), (11, .int .i64 (i : Int))]) (fun i w' => i ≤ k ∧ w' = w5) (fun i => k - i) 0 has ⟨Nat.zero_le _, rfl⟩ ?_
    rintro i w6 ⟨hi, rfl⟩
    refine wk ?_
    refine W.test rfl (fun q => ?_) (fun q => ?_)
    · have hlt : i < k := by omega
      obtain ⟨es8, ⟨rfl, hI8⟩, hcc8⟩ := hM.at_ i (by simpa using hlt)
      have hcell8 := hcc8 0 _ rfl
      rw [List.getElem_replicate] at hcell8
      refine wk ?_
      refine Arr.again (i + 1) has ⟨hlt, rfl⟩ (by omega)
    · refine wk ?_
      exact Arr.mid () has hE5
  rintro _ w6 hE6
  refine wk ?_
  refine Wop.fn en53 rfl awake19 ?_
  rintro _ w7 ⟨rfl, e7⟩
  refine wk ?_
  exact Arr.ret1 rfl rfl ⟨rfl, hE6.trans e7⟩
end Go.Proofs.Ytbadjlhijbkbbaa

/-
  ArenaNone: the law's function answers true.
-/
set_option linter.unusedVariables false
namespace Go.Proofs.Ytbadjlhijbkbbaa
open Go Go.RowKit Sx Arena
variable {S S' : Nat → Prop} {w w0 w' : World} {A : Option Addr} {n c : Nat}
set_option maxRecDepth 20000 in
set_option maxHeartbeats 8000000 in
theorem lawNone {lf : Bool} {sym k i : Int} {n c : Nat} (hn : n ≤ 1099511627776) : Calls Try.prog 10 [.agg #[.bool lf, .int .i64 sym, .int .i64 k, .slice A n c], .int .i64 i].toArray w (Ret fun v w' => v = .bool true ∧ Ext w w') := by
  refine enter Try.func10 rfl Try.ntmps10 rfl ?_
  refine wk ?_
  refine Wop.box rfl (fun w1 e1 b1 z1 => ?_)
  refine wk ?_
  refine W.test rfl (fun q => ?_) (fun q => ?_)
  · refine wk ?_
    refine Wop.fn en53 rfl awake19 ?_
    rintro _ w2 ⟨rfl, e2⟩
    refine wk ?_
    exact Arr.ret1 rfl rfl ⟨rfl, e1.trans e2⟩
  · refine wk ?_
    refine Wop.fn en54 rfl (gNodeN i) ?_
    rintro _ w2 ⟨rfl, e2⟩
    refine wk ?_
    refine Wop.alloc (z := .agg #[.int .i64 0, .int .i64 0, .int .i64 0, .slice none 0 0]) Try.zeroValue66 (fun w3 e3 b3 z3 => ?_)
    refine wk ?_
    refine Wop.stB TT rfl rfl rfl (by simp [Value.oneCell']) b3 rfl (fun w4 g4 b4 z4 k4 => ?_)
    have e24 : Ext w2 w4 := Below.trans e3 g4
    have E4 := e2.trans e24
    have b1a := b1.ext E4
    refine wk ?_
    refine Wop.fn en49 rfl (gLeafN sym k) ?_
    rintro _ w5 ⟨rfl, e5⟩
    have E5 := E4.trans e5
    have b1b := b1a.ext e5
    refine wk ?_
    refine Wop.fn en50 rfl (gJoinN sym k (.slice A n c)) ?_
    rintro _ w6 ⟨rfl, e6⟩
    have E6 := E5.trans e6
    refine wk ?_
    refine Wop.fn en55 rfl gLenN ?_
    rintro _ w7 ⟨rfl, e7⟩
    have E7 := E6.trans e7
    refine wk ?_
    refine Wop.fn en51 rfl gRootsN ?_
    rintro _ w8 ⟨rfl, e8⟩
    have E8 := E7.trans e8
    refine wk ?_
    refine Wop.fn en52 rfl (gLeavesN i) ?_
    rintro _ w9 ⟨rfl, e9⟩
    have E9 := E8.trans e9
    refine wk ?_
    refine Wop.fn en56 rfl (gYieldN i) ?_
    rintro _ wa ⟨rfl, ea⟩
    have Ea := E9.trans ea
    refine wk ?_
    refine Wop.make (cs := #[.slice none 0 0, .slice none 0 0, .slice none 0 0, .int .i64 0]) pl25 rfl rfl ?_
    refine wk ?_
    refine Wop.fn en57 rfl (gCheckTN i _) ?_
    rintro _ wb ⟨rfl, eb⟩
    have Eb := Ea.trans eb
    refine wk ?_
    refine Wop.make (cs := #[.slice none 0 0, .slice none 0 0, .slice none 0 0, .int .i64 0]) pl25 rfl rfl ?_
    refine wk ?_
    refine Wop.fn en58 rfl (gShowTN i _) ?_
    rintro _ wc ⟨rfl, ec⟩
    have Ec := Eb.trans ec
    refine wk ?_
    refine Wop.fn en59 rfl gTwinN ?_
    rintro _ wd ⟨rfl, ed⟩
    have Ed := Ec.trans ed
    refine wk ?_
    refine Wop.ptrNil Try.underlying56 rfl ?_
    refine wk ?_
    refine Wop.fn en53 rfl awake19 ?_
    rintro _ we ⟨rfl, ee⟩
    refine wk ?_
    exact Arr.ret1 rfl rfl ⟨rfl, e1.trans (Ed.trans ee)⟩
end Go.Proofs.Ytbadjlhijbkbbaa

/-
  The arena laws' arguments.
-/
set_option linter.unusedVariables false
namespace Go.Proofs.Ytbadjlhijbkbbaa
open Go Go.RowKit Go.ChangeShapes Go.WideShapes Sx
theorem readsOp : Reads 59 tOp := Reads.via (fun a => ⟨a.1, a.2.1, a.2.2.1, a.2.2.2⟩) (fun _ => rfl) (Reads.struct4 Try.underlying59 ⟨by kernel_rfl, rfl, by kernel_rfl, rfl, by kernel_rfl, rfl, by kernel_rfl, rfl, by kernel_rfl⟩ (Reads.bool Try.underlying4) readsI readsI readsIs)
theorem readsOps : Reads 55 (Ty.slice tOp (by decide)) := Reads.slice Try.underlying55 (by decide) (by kernel_rfl) readsOp
section
variable {H : Type} {enc : TypeId × Value → H} {W : World} {base : Nat} {spare : Nat → Bool} {held : Bool} {v : Value} {d : DataW H} {p : List MemPlace}
set_option maxRecDepth 100000 in
theorem argOps (hv : Value.okWide Try.prog W .any base 55 v) (h : DataW.Trod enc Try.prog W 0 spare held 55 v d p) (hb : Rows.uptoBulk d ≤ 1048576) : ∃ (x : List AOp) (B : Option Addr) (k : Nat), v = .slice B x.length k ∧ x.length ≤ k ∧ tOp.Row (fun _ => True) W B x.length x := by
  obtain ⟨B, n, k, rfl⟩ := okWide_slice Try.underlying55 hv
  obtain ⟨fuel, hf⟩ := h
  obtain ⟨x, B', n', k', hcs, hk, hr⟩ := readsOps hf hb
  have hn := hr.1
  subst hn
  simp only [Value.cells, List.cons.injEq, and_true] at hcs
  exact ⟨x, B', k', hcs, hk, hr⟩
set_option maxRecDepth 100000 in
theorem argOp (hv : Value.okWide Try.prog W .any base 59 v) (h : DataW.Trod enc Try.prog W 0 spare held 59 v d p) (hb : Rows.uptoBulk d ≤ 1048576) : ∃ lf sym k A n c, v = .agg #[.bool lf, .int .i64 sym, .int .i64 k, .slice A n c] ∧ n ≤ 1099511627776 := by
  obtain ⟨cs, rfl, hsz⟩ := okWide_struct Try.underlying59 hv
  obtain ⟨fuel, hf⟩ := h
  obtain ⟨x, hx⟩ := readsOp hf hb
  obtain ⟨A, c, hcs, hc, _, _, hr⟩ := tOp_open hx
  refine ⟨x.leaf, x.sym, x.n, A, x.kids.length, c, ?_, hr.2.1⟩
  have : cs.toList = _ := hcs
  congr 1
  exact Array.ext' this
end
end Go.Proofs.Ytbadjlhijbkbbaa
