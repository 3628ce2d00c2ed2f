/-
  Joined by program out of the texts It6 It7: lemmas for the proofs of this seat; no condition.
-/
import Derived.Test.YtbadjlhijbkbbaaGreatDa
import Derived.Test.YtbadjlhijbkbbaaGreatBf
set_option maxHeartbeats 1000000
/-
  The reference's Step and Kernel.
-/
set_option linter.unusedVariables false
namespace Go.Proofs.YtbadjlhijbkbbaaGreat
open Go Go.RowKit Sx
variable {S S' : Nat → Prop} {w w' : World} {g : Gram} {A B A0 A1 A2 : Option Addr} {n m c c' c0 c1 c2 : Nat}
theorem Itm.puts_snoc (l : List Itm) (x : Itm) : Itm.puts (l ++ [x]) = Itm.put (Itm.puts l) x := by simp [Itm.puts]
theorem Itm.puts_len (l : List Itm) : (Itm.puts l).length ≤ l.length := by
  have h : ∀ (l o : List Itm), (l.foldl Itm.put o).length ≤ o.length + l.length := fun l => by
    induction l with
    | nil => exact fun o => Nat.le_refl _
    | cons x l ih =>
      intro o
      have := ih (Itm.put o x)
      have := Itm.put_length_le x o
      rw [List.foldl_cons, List.length_cons]
      omega
  have := h l []
  simpa [Itm.puts] using this
theorem Itm.puts_step {l : List Itm} {f : Itm → Option Itm} {i : Nat} (h : i < l.length) : Itm.puts ((l.take (i + 1)).filterMap f) = match f l[i] with | some y => Itm.put (Itm.puts ((l.take i).filterMap f)) y | none => Itm.puts ((l.take i).filterMap f) := by
  rw [List.take_succ_eq_append_getElem h, List.filterMap_append]
  cases hf : f l[i] with
  | none => simp [hf]
  | some y =>
    have : [l[i]].filterMap f = [y] := by simp [hf]
    rw [this, Itm.puts_snoc]
theorem Itm.puts_fm_len (l : List Itm) (f : Itm → Option Itm) (i : Nat) : (Itm.puts ((l.take i).filterMap f)).length ≤ l.length := by
  have h1 := Itm.puts_len ((l.take i).filterMap f)
  have h2 := List.length_filterMap_le f (l.take i)
  have h3 : (l.take i).length ≤ l.length := by rw [List.length_take]; omega
  omega
theorem GramAt.right_le (hg : GramAt S w g A0 A1 A2 c0 c1 c2) (k : Int) : (g.rule k).2.right.length ≤ 1099511627776 := by
  rw [Gram.rule]
  split
  · simp
  · split
    · simp
    · rename_i h1 h2
      have hlt : k.toNat < g.rules.length := by omega
      obtain ⟨b, o, _, es, hrd, _⟩ := hg.rules.at_ k.toNat hlt
      obtain ⟨_, _, _, _, _, hr⟩ := tRule_open hrd
      rw [List.getElem?_eq_getElem hlt]
      exact hr.2.1
theorem Gram.ibehind_dot {x : Itm} (h : (g.ibehind x).2 = true) : 0 ≤ x.dot ∧ x.dot < (g.rule x.rule).2.right.length := by
  rw [Gram.ibehind] at h
  split at h
  · rename_i hx
    exact hx.2
  · cases h
def Gram.istepf (g : Gram) (s : Int) (x : Itm) : Option Itm := if g.ibehind x = (s, true) then some ⟨x.rule, x.dot + 1⟩ else none
abbrev stepTo (g : Gram) (l : List Itm) (s : Int) (i : Nat) : List Itm := Itm.puts ((l.take i).filterMap (g.istepf s))
def vtF (xs : List Itm) : Fact Ext := ⟨fun v w => VT w v xs, fun e h => h.ext e⟩
set_option maxRecDepth 20000 in
set_option maxHeartbeats 4000000 in
theorem rStepI (hg : GramAt S w g A0 A1 A2 c0 c1 c2) {l : List Itm} {s : Int} (hl : tItm.Row S' w A l.length l) (hc : l.length ≤ c) (hsm : l.length ≤ 1000000000) : Calls Tryz.prog 55 [.agg (gcells g A0 A1 A2 c0 c1 c2).toArray, .slice A l.length c, .int .i64 s].toArray w (Ret fun v w' => VT w' v (Itm.puts (g.isteps l s)) ∧ Ext w w') := by
  refine enter Tryz.func55 rfl Tryz.ntmps55 rfl ?_
  refine wk ?_
  refine Wop.box rfl (fun w1 e1 b1 z1 => ?_)
  have hl1 := hl.ext (by decide) e1
  have hg1 := hg.ext e1
  refine wk ?_
  refine W.loop (ι := Nat × Option Addr × Nat × List Itm) (fun q => [(1, .slice A l.length c), (2, .int .i64 s), (3, .pointer (some ⟨w.heap.size, 0, none⟩)), (7, .slice q.2.1 q.2.2.2.length q.2.2.1), (8, .int .i64 (q.1 : Int))])
    (fun q w' => Ext w1 w' ∧ q.1 ≤ l.length ∧ q.2.2.2 = stepTo g l s q.1 ∧ q.2.2.2.length ≤ q.2.2.1 ∧ tItm.Row (fun _ => True) w' q.2.1 q.2.2.2.length q.2.2.2) (fun q => l.length - q.1) (0, none, 0, []) has ⟨Ext.refl _, Nat.zero_le _, rfl, Nat.le_refl _, Ty.Row.nil_ _ _ _ _⟩ ?_
  rintro ⟨k, B, d, xs⟩ w2 ⟨hE, hk, hxs, hd, hB⟩
  replace hk : k ≤ l.length := hk
  replace hxs : xs = stepTo g l s k := hxs
  replace hd : xs.length ≤ d := hd
  replace hB : tItm.Row (fun _ => True) w2 B xs.length xs := hB
  have b12 := b1.ext hE
  have hg2 := hg1.ext hE
  have hlen : xs.length ≤ l.length := by rw [hxs]; exact Itm.puts_fm_len _ _ _
  refine wk ?_
  refine W.test rfl (fun hlt => ?_) (fun hge => ?_)
  · replace hlt : k < l.length := by omega
    have hstep := Itm.puts_step (f := g.istepf s) hlt
    obtain ⟨b, o, rfl, es, hrd, hcc⟩ := (hl1.ext (by decide) hE).at_ k hlt
    obtain ⟨rfl, hr1, hr2⟩ := tItm_open hrd
    have hcs : ∀ (i : Nat) (u : Value), [Value.int .i64 l[k].rule, .int .i64 l[k].dot][i]? = some u → w2.cell? ⟨b, o + k * 2 + i, none⟩ = some u := hcc
    refine wk ?_
    rcases hib : g.ibehind l[k] with ⟨y, t⟩
    refine W.any Ext [.eq _, .eq _, .eq _, .eq _, .eq _, .eq _, .eq _, .eq _, .eq _, .eq _, .eq _] [9, 10] mixed rfl Ext.refl Ext.trans Ext.drew ⟨qs, qs, qs, qs, qs, by intro w_ hG; (repeat (intro v_ hv_; cases hv_)); refine WopG.plain rfl (Wop.fn en50 rfl (rBehindI (hg2.ext hG) l[k]) (fun v w' h => ?_)); refine ⟨h.2, ?_⟩; show _ = _; exact h.1.trans (by rw [hib]), qs, qs, qs, qs, qs, trivial⟩ ?_
    rintro wq eq_ _ ⟨⟩ _ ⟨⟩
    have hEq := hE.trans eq_
    cases t with
    | false =>
      have hf : g.istepf s l[k] = none := by simp [Gram.istepf, hib]
      rw [hf] at hstep
      refine wk ?_
      refine Arr.again (i := (k, B, d, xs)) (k + 1, B, d, xs) has ⟨hEq, hlt, hxs.trans hstep.symm, hd, hB.ext (by decide) eq_⟩ (by show l.length - (k + 1) < l.length - k; omega)
    | true =>
      refine wk ?_
      refine W.test rfl (fun hy => ?_) (fun hy => ?_)
      · have hf : g.istepf s l[k] = some ⟨l[k].rule, l[k].dot + 1⟩ := by rw [Gram.istepf, hib, if_pos (by rw [show y = s from hy])]
        rw [hf] at hstep
        have hdot := Gram.ibehind_dot (g := g) (x := l[k]) (by rw [hib])
        have hrl := hg.right_le l[k].rule
        have hBq := hB.ext (by decide) eq_
        have hcq : ∀ (i : Nat) (u : Value), [Value.int .i64 l[k].rule, .int .i64 l[k].dot][i]? = some u → wq.cell? ⟨b, o + k * 2 + i, none⟩ = some u := fun i u h => eq_.cell (hcs i u h)
        have hf0 := hcq 0 _ rfl
        have hf1 := hcq 1 _ rfl
        have hd1 : I64 (l[k].dot + 1) := ⟨by omega, by omega⟩
        refine wk ?_
        refine W.any Ext [.eq _, .eq _, .eq _, .eq _, .eq _, .eq _, .eq _, .eq _, .eq _, .eq _, .eq _, .eq _, .eq _, (vtF (Itm.put xs ⟨l[k].rule, l[k].dot + 1⟩)), (vtF (Itm.put xs ⟨l[k].rule, l[k].dot + 1⟩))] [14] mixed rfl Ext.refl Ext.trans Ext.drew ⟨qs, qs, qs, qs, qs, qs, qs, qs, qs, qs, qs, qs, by intro w_ hG; (repeat (intro v_ hv_; cases hv_)); refine WopG.plain rfl (Wop.make (cs := #[.int .i64 l[k].rule, .int .i64 (l[k].dot + 1)]) pl73 rfl rfl ?_); refine ⟨Ext.refl _, ?_⟩; show _ = _; exact rfl, by intro w_ hG; (repeat (intro v_ hv_; cases hv_)); refine WopG.plain rfl (Wop.fn en109 rfl (rPut (x := ⟨l[k].rule, l[k].dot + 1⟩) (hBq.ext (by decide) hG) hd hr1 hd1 (Nat.le_trans hlen hsm)) (fun v w' h => ⟨h.2, h.1⟩)), by intro w_ hG v h; exact WopG.plain rfl (Wop.pure TT rfl ⟨Ext.refl _, h⟩), trivial⟩ ?_
        rintro wq eq_ v14 h14
        obtain ⟨B', d', rfl, hd', hB'⟩ := h14
        refine wk ?_
        refine Arr.again (i := (k, B, d, xs)) (k + 1, B', d', _) has ⟨hEq.trans (by assumption), hlt, (congrArg (fun z => Itm.put z _) hxs).trans hstep.symm, hd', hB'⟩ (by show l.length - (k + 1) < l.length - k; omega)
      · have hf : g.istepf s l[k] = none := by
          rw [Gram.istepf, if_neg]
          rw [hib]
          intro h
          exact hy (Prod.mk.inj h).1
        rw [hf] at hstep
        refine wk ?_
        refine Arr.again (i := (k, B, d, xs)) (k + 1, B, d, xs) has ⟨hEq, hlt, hxs.trans hstep.symm, hd, hB.ext (by decide) eq_⟩ (by show l.length - (k + 1) < l.length - k; omega)
  · refine wk ?_
    refine Arr.ret1 rfl rfl ⟨?_, e1.trans hE⟩
    obtain rfl : k = l.length := by omega
    have : stepTo g l s l.length = Itm.puts (g.isteps l s) := by rw [stepTo, List.take_length]; rfl
    rw [← this, ← hxs]
    exact ⟨B, d, rfl, hd, hB⟩
section
variable {P : Program} {Q : Exit → Act → World → Prop} {N : Nat}
/-- Its guard was itself left out. -/
theorem Sx.WopG.un {ops : List Oper} {o : Oper} {σ : Sl} {w : World} {K : Value → World → Prop} {j : Nat} {t : Tmp} {b : Bool} (hg : o.guard = some (j, b)) (hj : dstOf ops j = some t) (ht : Nat.blt t N = true) (hl : σ.lookup t = some undef)
    (h : K undef w) : WopG P Q N ops o σ w K := by
  refine ⟨fun a ha next hn => ?_⟩
  have hgt := ha.get t _ hl
  have hd : (ops.toArray[j]?).bind (·.dst) = some t := by
    unfold dstOf at hj
    rw [nth_eq] at hj
    rw [List.getElem?_toArray]
    cases h : ops[j]? with
    | none => rw [h] at hj; cases hj
    | some o => rw [h] at hj; exact hj
  have hy : yielded ops.toArray a.tmps j = none := by
    have hlt : t < a.tmps.size := by rw [ha.size]; simpa using ht
    unfold yielded
    rw [hd]
    simp only [Option.bind_some, Array.getElem?_eq_getElem hlt]
    rw [Array.getD_eq_getD_getElem?, Array.getElem?_eq_getElem hlt, Option.getD_some] at hgt
    rw [hgt]
    rfl
  rw [if_neg (by simp [Region.wanted, hg, hy])]
  exact hn _ _ h
end
def Gram.ikernf (g : Gram) (x : Itm) : Option Itm := if (g.iright x && (decide (0 < x.dot) || decide (x.rule = g.rules.length))) = true then some x else none
theorem Gram.ikernf_fm (g : Gram) : ∀ (l : List Itm), l.filterMap g.ikernf = g.ikernel l
  | [] => rfl
  | x :: l => by
    have ih := ikernf_fm g l
    rw [Gram.ikernel] at *
    cases h : (g.iright x && (decide (0 < x.dot) || decide (x.rule = g.rules.length))) with
    | true => simp only [List.filterMap_cons, Gram.ikernf, List.filter_cons, h, if_true]; exact congrArg _ ih
    | false => simp only [List.filterMap_cons, Gram.ikernf, List.filter_cons, h]; exact ih
abbrev kernTo (g : Gram) (l : List Itm) (i : Nat) : List Itm := Itm.puts ((l.take i).filterMap g.ikernf)
set_option maxRecDepth 20000 in
set_option maxHeartbeats 4000000 in
theorem rKernelI (hg : GramAt S w g A0 A1 A2 c0 c1 c2) {l : List Itm} (hl : tItm.Row S' w A l.length l) (hc : l.length ≤ c) (hsm : l.length ≤ 1000000000) : Calls Tryz.prog 56 [.agg (gcells g A0 A1 A2 c0 c1 c2).toArray, .slice A l.length c].toArray w (Ret fun v w' => VT w' v (Itm.puts (g.ikernel l)) ∧ Ext w w') := by
  have hrn := hg.rules.2.1
  refine enter Tryz.func56 rfl Tryz.ntmps56 rfl ?_
  refine wk ?_
  refine Wop.box rfl (fun w1 e1 b1 z1 => ?_)
  have hl1 := hl.ext (by decide) e1
  have hg1 := hg.ext e1
  refine wk ?_
  refine W.loop (ι := Nat × Option Addr × Nat × List Itm) (fun q => [(1, .slice A l.length c), (2, .pointer (some ⟨w.heap.size, 0, none⟩)), (5, .slice q.2.1 q.2.2.2.length q.2.2.1), (6, .int .i64 (q.1 : Int))])
    (fun q w' => Ext w1 w' ∧ q.1 ≤ l.length ∧ q.2.2.2 = kernTo g l q.1 ∧ q.2.2.2.length ≤ q.2.2.1 ∧ tItm.Row (fun _ => True) w' q.2.1 q.2.2.2.length q.2.2.2) (fun q => l.length - q.1) (0, none, 0, []) has ⟨Ext.refl _, Nat.zero_le _, rfl, Nat.le_refl _, Ty.Row.nil_ _ _ _ _⟩ ?_
  rintro ⟨k, B, d, xs⟩ w2 ⟨hE, hk, hxs, hd, hB⟩
  replace hk : k ≤ l.length := hk
  replace hxs : xs = kernTo g l k := hxs
  replace hd : xs.length ≤ d := hd
  replace hB : tItm.Row (fun _ => True) w2 B xs.length xs := hB
  have b12 := b1.ext hE
  have hg2 := hg1.ext hE
  have hlen : xs.length ≤ l.length := by rw [hxs]; exact Itm.puts_fm_len _ _ _
  refine wk ?_
  refine W.test rfl (fun hlt => ?_) (fun hge => ?_)
  · replace hlt : k < l.length := by omega
    have hstep := Itm.puts_step (f := g.ikernf) hlt
    obtain ⟨b, o, rfl, es, hrd, hcc⟩ := (hl1.ext (by decide) hE).at_ k hlt
    obtain ⟨rfl, hr1, hr2⟩ := tItm_open hrd
    have hcs : ∀ (i : Nat) (u : Value), [Value.int .i64 l[k].rule, .int .i64 l[k].dot][i]? = some u → w2.cell? ⟨b, o + k * 2 + i, none⟩ = some u := hcc
    have hf0 := hcs 0 _ rfl
    have hf1 := hcs 1 _ rfl
    refine wk ?_
    cases hir : g.iright l[k] with
    | false =>
      refine W.any Ext [.eq _, .eq _, .eq _, .eq _, .eq _, .eq _, .eq _, .eq _, .eq _, .eq _, .eq _, .eq _, .eq _, .eq _, .eq _, .eq _, .eq _, .eq _, .eq _, .eq _, .eq _, .eq _, .eq _, .eq _, .eq _] [24] mixed rfl Ext.refl Ext.trans Ext.drew ⟨qs, qs, qs, qs, qs, by intro w_ hG; (repeat (intro v_ hv_; cases hv_)); refine WopG.plain rfl (Wop.fn en51 rfl (rRightI (hg2.ext hG) l[k]) (fun v w' h => ?_)); refine ⟨h.2, ?_⟩; show _ = _; exact h.1.trans (by rw [hir]), qs, qs, qs, qs, qs, qs, qs, qs, by intro w_ hG; (repeat (intro v_ hv_; cases hv_)); exact WopG.un rfl rfl rfl rfl ⟨Ext.refl _, rfl⟩, by intro w_ hG; (repeat (intro v_ hv_; cases hv_)); exact WopG.un rfl rfl rfl rfl ⟨Ext.refl _, rfl⟩, by intro w_ hG; (repeat (intro v_ hv_; cases hv_)); exact WopG.un rfl rfl rfl rfl ⟨Ext.refl _, rfl⟩, by intro w_ hG; (repeat (intro v_ hv_; cases hv_)); exact WopG.un rfl rfl rfl rfl ⟨Ext.refl _, rfl⟩, by intro w_ hG; (repeat (intro v_ hv_; cases hv_)); exact WopG.un rfl rfl rfl rfl ⟨Ext.refl _, rfl⟩, by intro w_ hG; (repeat (intro v_ hv_; cases hv_)); exact WopG.un rfl rfl rfl rfl ⟨Ext.refl _, rfl⟩, by intro w_ hG; (repeat (intro v_ hv_; cases hv_)); exact WopG.un rfl rfl rfl rfl ⟨Ext.refl _, rfl⟩, by intro w_ hG; (repeat (intro v_ hv_; cases hv_)); exact WopG.un rfl rfl rfl rfl ⟨Ext.refl _, rfl⟩, by intro w_ hG; (repeat (intro v_ hv_; cases hv_)); exact WopG.un rfl rfl rfl rfl ⟨Ext.refl _, rfl⟩, qs, qs, trivial⟩ ?_
      rintro wq eq_ _ ⟨⟩
      have hf : g.ikernf l[k] = none := by rw [Gram.ikernf, if_neg (by simp [hir])]
      rw [hf] at hstep
      refine wk ?_
      refine Arr.again (i := (k, B, d, xs)) (k + 1, B, d, xs) has ⟨hE.trans eq_, hlt, hxs.trans hstep.symm, hd, hB.ext (by decide) eq_⟩ (by show l.length - (k + 1) < l.length - k; omega)
    | true =>
      rcases Decidable.em (0 < l[k].dot) with hp | hp
      · refine W.any Ext [.eq _, .eq _, .eq _, .eq _, .eq _, .eq _, .eq _, .eq _, .eq _, .eq _, .eq _, .eq _, .eq _, .eq _, .eq _, .eq _, .eq _, .eq _, .eq _, .eq _, .eq _, .eq _, .eq _, .eq _, .eq _] [24] mixed rfl Ext.refl Ext.trans Ext.drew ⟨qs, qs, qs, qs, qs, by intro w_ hG; (repeat (intro v_ hv_; cases hv_)); refine WopG.plain rfl (Wop.fn en51 rfl (rRightI (hg2.ext hG) l[k]) (fun v w' h => ?_)); refine ⟨h.2, ?_⟩; show _ = _; exact h.1.trans (by rw [hir]), qs, qs, qs, qs, qs, qs, by intro w_ hG; (repeat (intro v_ hv_; cases hv_)); refine WopG.yes rfl rfl rfl rfl (Wop.pure TT rfl ?_); exact ⟨Ext.refl _, congrArg Value.bool (decide_eq_true hp)⟩, qs, qs, qs, qs, qs, qs, qs, qs, qs, qs, qs, qs, trivial⟩ ?_
        rintro wq eq_ _ ⟨⟩
        have hf : g.ikernf l[k] = some l[k] := by rw [Gram.ikernf, if_pos (by simp [hir, hp])]
        rw [hf] at hstep
        have hcq : ∀ (i : Nat) (u : Value), [Value.int .i64 l[k].rule, .int .i64 l[k].dot][i]? = some u → wq.cell? ⟨b, o + k * 2 + i, none⟩ = some u := fun i u h => eq_.cell (hcs i u h)
        refine wk ?_
        refine Wop.fn en109 rfl (rPut (x := l[k]) (hB.ext (by decide) eq_) hd hr1 hr2 (Nat.le_trans hlen hsm)) ?_
        rintro _ w3 ⟨⟨B', d', rfl, hd', hB'⟩, e3⟩
        refine wk ?_
        refine Arr.again (i := (k, B, d, xs)) (k + 1, B', d', _) has ⟨(hE.trans eq_).trans e3, hlt, (congrArg (fun z => Itm.put z _) hxs).trans hstep.symm, hd', hB'⟩ (by show l.length - (k + 1) < l.length - k; omega)
      · refine W.any Ext [.eq _, .eq _, .eq _, .eq _, .eq _, .eq _, .eq _, .eq _, .eq _, .eq _, .eq _, .eq _, .eq _, .eq _, .eq _, .eq _, .eq _, .eq _, .eq _, .eq _, .eq _, .eq _, .eq _, .eq _, .eq _] [24] mixed rfl Ext.refl Ext.trans Ext.drew ⟨qs, qs, qs, qs, qs, by intro w_ hG; (repeat (intro v_ hv_; cases hv_)); refine WopG.plain rfl (Wop.fn en51 rfl (rRightI (hg2.ext hG) l[k]) (fun v w' h => ?_)); refine ⟨h.2, ?_⟩; show _ = _; exact h.1.trans (by rw [hir]), qs, qs, qs, qs, qs, qs, by intro w_ hG; (repeat (intro v_ hv_; cases hv_)); refine WopG.yes rfl rfl rfl rfl (Wop.pure TT rfl ?_); exact ⟨Ext.refl _, congrArg Value.bool (decide_eq_false hp)⟩, qs, qs, qs, qs, qs, qs, qs, qs, qs, qs, qs, qs, trivial⟩ ?_
        rintro wq eq_ _ ⟨⟩
        refine wk ?_
        refine W.test rfl (fun hq => ?_) (fun hq => ?_)
        · have hf : g.ikernf l[k] = some l[k] := by rw [Gram.ikernf, if_pos (by simp [hir, hp, hq])]
          rw [hf] at hstep
          have hcq : ∀ (i : Nat) (u : Value), [Value.int .i64 l[k].rule, .int .i64 l[k].dot][i]? = some u → wq.cell? ⟨b, o + k * 2 + i, none⟩ = some u := fun i u h => eq_.cell (hcs i u h)
          refine wk ?_
          refine Wop.fn en109 rfl (rPut (x := l[k]) (hB.ext (by decide) eq_) hd hr1 hr2 (Nat.le_trans hlen hsm)) ?_
          rintro _ w3 ⟨⟨B', d', rfl, hd', hB'⟩, e3⟩
          refine wk ?_
          refine Arr.again (i := (k, B, d, xs)) (k + 1, B', d', _) has ⟨(hE.trans eq_).trans e3, hlt, (congrArg (fun z => Itm.put z _) hxs).trans hstep.symm, hd', hB'⟩ (by show l.length - (k + 1) < l.length - k; omega)
        · have hf : g.ikernf l[k] = none := by rw [Gram.ikernf, if_neg (by simp [hir, hp, hq])]
          rw [hf] at hstep
          refine wk ?_
          refine Arr.again (i := (k, B, d, xs)) (k + 1, B, d, xs) has ⟨hE.trans eq_, hlt, hxs.trans hstep.symm, hd, hB.ext (by decide) eq_⟩ (by show l.length - (k + 1) < l.length - k; omega)
  · refine wk ?_
    refine Arr.ret1 rfl rfl ⟨?_, e1.trans hE⟩
    obtain rfl : k = l.length := by omega
    have : kernTo g l l.length = Itm.puts (g.ikernel l) := by rw [kernTo, List.take_length, Gram.ikernf_fm]
    rw [← this, ← hxs]
    exact ⟨B, d, rfl, hd, hB⟩
end Go.Proofs.YtbadjlhijbkbbaaGreat

/-
  The reference's Close.
-/
set_option linter.unusedVariables false
namespace Go.Proofs.YtbadjlhijbkbbaaGreat
open Go Go.RowKit Sx
variable {S S' : Nat → Prop} {w w' : World} {g : Gram} {A B A0 A1 A2 : Option Addr} {n m c c' c0 c1 c2 : Nat}
theorem nodup_len {α : Type} [DecidableEq α] : ∀ {a b : List α}, a.Nodup → (∀ x ∈ a, x ∈ b) → a.length ≤ b.length
  | [], _, _, _ => Nat.zero_le _
  | x :: a, b, h, hs => by
    obtain ⟨h1, h2⟩ := List.nodup_cons.1 h
    have hx : x ∈ b := hs x List.mem_cons_self
    have := nodup_len (b := b.erase x) h2 (fun y hy => (List.mem_erase_of_ne (fun e => by subst e; exact h1 hy)).2 (hs y (List.mem_cons_of_mem _ hy)))
    rw [List.length_erase_of_mem hx] at this
    have := List.length_pos_of_mem hx
    rw [List.length_cons]
    omega
theorem of_bound {s k : Int} (h : k ∈ g.of s) : 0 ≤ k ∧ k < g.rules.length := by
  have := ofFrom_lt s g.rules 0 k h
  omega
theorem of_length (g : Gram) (s : Int) : (g.of s).length ≤ g.rules.length := by
  have : ∀ (l : List Rule) (k : Nat), (Gram.ofFrom s l k).length ≤ l.length := fun l => by
    induction l with
    | nil => exact fun k => Nat.le_refl _
    | cons r l ih =>
      intro k
      have := ih (k + 1)
      rw [Gram.ofFrom]
      split
      · simp only [List.length_cons]; omega
      · simp only [List.length_cons]; omega
  exact this g.rules 0
theorem Gram.Reach.len {l out : List Itm} (ha : Itm.Asc out) (hr : ∀ x ∈ out, g.Reach l x) : out.length ≤ l.length + g.rules.length := by
  have := nodup_len (b := l ++ (List.range g.rules.length).map fun k => (⟨(k : Nat), 0⟩ : Itm)) (Itm.asc_nodup ha) (fun x hx => by
    cases hr x hx with
    | base h _ => exact List.mem_append_left _ h
    | @step _ k _ _ h =>
      have := of_bound h
      refine List.mem_append_right _ (List.mem_map.2 ⟨k.toNat, List.mem_range.2 (by omega), ?_⟩)
      congr 1
      omega)
  simpa using this
/-- All that an item brings is there. -/
def Gram.Shut (g : Gram) (xs : List Itm) (x : Itm) : Prop := (g.ibehind x).2 = true → ∀ k ∈ g.of (g.ibehind x).1, (⟨k, 0⟩ : Itm) ∈ xs
theorem Gram.isClose_of {l out : List Itm} (ha : Itm.Asc out) (hr : ∀ x ∈ out, g.Reach l x) (hb : ∀ x ∈ l, g.iright x = true → x ∈ out) (hs : ∀ x ∈ out, g.Shut out x) : g.IsClose l out := by
  refine ⟨ha, fun x => ⟨hr x, fun h => ?_⟩⟩
  induction h with
  | base h1 h2 => exact hb _ h1 h2
  | step _ h2 h3 ih => exact hs _ ih h2 _ h3
theorem Itm.foldl_put_len (xs : List Itm) : ∀ (o : List Itm), o.length ≤ (xs.foldl Itm.put o).length := by
  induction xs with
  | nil => exact fun o => Nat.le_refl _
  | cons x xs ih => exact fun o => Nat.le_trans (Itm.length_le_put x o) (ih _)
theorem Itm.foldl_put_le (xs : List Itm) : ∀ (o : List Itm), (xs.foldl Itm.put o).length ≤ o.length + xs.length := by
  induction xs with
  | nil => exact fun o => Nat.le_refl _
  | cons x xs ih =>
    intro o
    have := ih (Itm.put o x)
    have := Itm.put_length_le x o
    rw [List.foldl_cons, List.length_cons]
    omega
theorem Itm.foldl_put_same {xs o : List Itm} (ha : Itm.Asc o) (h : (xs.foldl Itm.put o).length = o.length) : ∀ x ∈ xs, x ∈ o := by
  intro x hx
  by_cases hxo : x ∈ o
  · exact hxo
  have hm := (Itm.foldl_put (l := xs) (o := o)).1
  have := nodup_len (a := x :: o) (b := xs.foldl Itm.put o) (List.nodup_cons.2 ⟨hxo, Itm.asc_nodup ha⟩) (fun y hy => by
    rcases List.mem_cons.1 hy with e | hy
    · exact (hm y).2 (.inr (e ▸ hx))
    · exact (hm y).2 (.inl hy))
  rw [List.length_cons] at this
  omega
/-- What one item brings. -/
abbrev Gram.brings (g : Gram) (x : Itm) : List Itm := (g.of (g.ibehind x).1).map fun k => ⟨k, 0⟩
def Gram.irightf (g : Gram) (x : Itm) : Option Itm := if g.iright x = true then some x else none
theorem Gram.irightf_mem {l : List Itm} {x : Itm} : x ∈ Itm.puts (l.filterMap g.irightf) ↔ x ∈ l ∧ g.iright x = true := by
  rw [Itm.mem_puts, List.mem_filterMap]
  constructor
  · rintro ⟨y, h1, h2⟩
    rw [Gram.irightf] at h2
    split at h2
    · cases h2; exact ⟨h1, by assumption⟩
    · cases h2
  · rintro ⟨h1, h2⟩
    exact ⟨x, h1, by rw [Gram.irightf, if_pos h2]⟩
abbrev rightTo (g : Gram) (l : List Itm) (i : Nat) : List Itm := Itm.puts ((l.take i).filterMap g.irightf)
theorem Itm.fm_step {l : List Itm} {f : Itm → Option Itm} {i : Nat} (h : i < l.length) : Itm.puts ((l.take (i + 1)).filterMap f) = match f l[i] with | some y => Itm.put (Itm.puts ((l.take i).filterMap f)) y | none => Itm.puts ((l.take i).filterMap f) := by
  rw [List.take_succ_eq_append_getElem h, List.filterMap_append]
  cases hf : f l[i] with
  | none => simp [hf]
  | some y =>
    have : [l[i]].filterMap f = [y] := by simp [hf]
    rw [this]
    simp [Itm.puts]
structure CloseI (g : Gram) (l : List Itm) (w : World) (B : Option Addr) (d : Nat) (xs : List Itm) : Prop where
  asc : Itm.Asc xs
  reach : ∀ x ∈ xs, g.Reach l x
  base : ∀ x ∈ l, g.iright x = true → x ∈ xs
  cap : xs.length ≤ d
  row : tItm.Row (fun _ => True) w B xs.length xs
theorem CloseI.ext {l xs : List Itm} {d : Nat} (h : CloseI g l w B d xs) (e : Ext w w') : CloseI g l w' B d xs := ⟨h.asc, h.reach, h.base, h.cap, h.row.ext (by decide) e⟩
theorem CloseI.more {l xs ys : List Itm} {x : Itm} {d d' : Nat} {B' : Option Addr} (h : CloseI g l w B d xs) (hx : x ∈ xs) (ht : (g.ibehind x).2 = true) (hy : ys = (g.brings x).foldl Itm.put xs) (hc : ys.length ≤ d') (hr : tItm.Row (fun _ => True) w' B' ys.length ys) : CloseI g l w' B' d' ys := by
  subst hy
  have hm := Itm.foldl_put (l := g.brings x) (o := xs)
  refine ⟨hm.2 h.asc, fun y hy => ?_, fun y h1 h2 => (hm.1 y).2 (.inl (h.base y h1 h2)), hc, hr⟩
  rcases (hm.1 y).1 hy with h1 | h1
  · exact h.reach y h1
  · obtain ⟨k, hk, rfl⟩ := List.mem_map.1 h1
    exact .step (h.reach x hx) ht hk
abbrev moreTo (g : Gram) (s : Int) (xs : List Itm) (j : Nat) : List Itm := (((g.of s).take j).map fun k => (⟨k, 0⟩ : Itm)).foldl Itm.put xs
set_option maxRecDepth 20000 in
set_option maxHeartbeats 8000000 in
theorem rCloseI (hg : GramAt S w g A0 A1 A2 c0 c1 c2) {l : List Itm} (hl : tItm.Row S' w A l.length l) (hc : l.length ≤ c) (hsm : l.length + g.rules.length ≤ 400000000) : Calls Tryz.prog 54 [.agg (gcells g A0 A1 A2 c0 c1 c2).toArray, .slice A l.length c].toArray w (Ret fun v w' => (∃ out, VT w' v out ∧ g.IsClose l out) ∧ Ext w w') := by
  refine enter Tryz.func54 rfl Tryz.ntmps54 rfl ?_
  refine wk ?_
  refine Wop.box rfl (fun w1 e1 b1 z1 => ?_)
  have hl1 := hl.ext (by decide) e1
  have hg1 := hg.ext e1
  refine wk ?_
  refine W.midB (ι := Option Addr × Nat × List Itm) (fun q => [(2, .pointer (some ⟨w.heap.size, 0, none⟩)), (5, .slice q.1 q.2.2.length q.2.1)]) (fun q w' => Ext w1 w' ∧ CloseI g l w' q.1 q.2.1 q.2.2) ?_ ?_
  · refine W.loop (ι := Nat × Option Addr × Nat × List Itm) (fun q => [(1, .slice A l.length c), (2, .pointer (some ⟨w.heap.size, 0, none⟩)), (5, .slice q.2.1 q.2.2.2.length q.2.2.1), (6, .int .i64 (q.1 : Int))])
      (fun q w' => Ext w1 w' ∧ q.1 ≤ l.length ∧ q.2.2.2 = rightTo g l q.1 ∧ q.2.2.2.length ≤ q.2.2.1 ∧ tItm.Row (fun _ => True) w' q.2.1 q.2.2.2.length q.2.2.2) (fun q => l.length - q.1) (0, none, 0, []) has ⟨Ext.refl _, Nat.zero_le _, rfl, Nat.le_refl _, Ty.Row.nil_ _ _ _ _⟩ ?_
    rintro ⟨k, B, d, xs⟩ w2 ⟨hE, hk, hxs, hd, hB⟩
    replace hk : k ≤ l.length := hk
    replace hxs : xs = rightTo g l k := hxs
    replace hd : xs.length ≤ d := hd
    replace hB : tItm.Row (fun _ => True) w2 B xs.length xs := hB
    have b12 := b1.ext hE
    have hg2 := hg1.ext hE
    have hlen : xs.length ≤ l.length := by
      rw [hxs]
      refine nodup_len (Itm.asc_nodup (Itm.puts_asc _)) (fun x hx => ?_)
      exact List.mem_of_mem_take (Gram.irightf_mem.1 hx).1
    have hx9 : xs.length ≤ 1000000000 := by omega
    refine wk ?_
    refine W.test rfl (fun hlt => ?_) (fun hge => ?_)
    · replace hlt : k < l.length := by omega
      have hstep := Itm.fm_step (f := g.irightf) hlt
      obtain ⟨b, o, rfl, es, hrd, hcc⟩ := (hl1.ext (by decide) hE).at_ k hlt
      obtain ⟨rfl, hr1, hr2⟩ := tItm_open hrd
      have hcs : ∀ (i : Nat) (u : Value), [Value.int .i64 l[k].rule, .int .i64 l[k].dot][i]? = some u → w2.cell? ⟨b, o + k * 2 + i, none⟩ = some u := hcc
      refine wk ?_
      refine W.any Ext [.eq _, .eq _, .eq _, .eq _, .eq _, .eq _] [5] mixed rfl Ext.refl Ext.trans Ext.drew ⟨qs, qs, qs, qs, qs, by intro w_ hG; (repeat (intro v_ hv_; cases hv_)); refine WopG.plain rfl (Wop.fn en51 rfl (rRightI (hg2.ext hG) l[k]) (fun v w' h => ?_)); refine ⟨h.2, ?_⟩; show _ = _; exact h.1, trivial⟩ ?_
      rintro wq eq_ _ ⟨⟩
      have hEq := hE.trans eq_
      have hcq : ∀ (i : Nat) (u : Value), [Value.int .i64 l[k].rule, .int .i64 l[k].dot][i]? = some u → wq.cell? ⟨b, o + k * 2 + i, none⟩ = some u := fun i u h => eq_.cell (hcs i u h)
      refine wk ?_
      refine W.cond rfl (fun hir => ?_) (fun hir => ?_)
      · have hf : g.irightf l[k] = some l[k] := by rw [Gram.irightf, if_pos hir]
        rw [hf] at hstep
        refine wk ?_
        refine Wop.fn en109 rfl (rPut (x := l[k]) (hB.ext (by decide) eq_) hd hr1 hr2 hx9) ?_
        rintro _ w3 ⟨⟨B', d', rfl, hd', hB'⟩, e3⟩
        refine wk ?_
        refine Arr.again (i := (k, B, d, xs)) (k + 1, B', d', _) has ⟨hEq.trans e3, hlt, (congrArg (fun z => Itm.put z _) hxs).trans hstep.symm, hd', hB'⟩ (by show l.length - (k + 1) < l.length - k; omega)
      · have hf : g.irightf l[k] = none := by rw [Gram.irightf, if_neg (by rw [hir]; decide)]
        rw [hf] at hstep
        refine wk ?_
        refine Arr.again (i := (k, B, d, xs)) (k + 1, B, d, xs) has ⟨hEq, hlt, hxs.trans hstep.symm, hd, hB.ext (by decide) eq_⟩ (by show l.length - (k + 1) < l.length - k; omega)
    · obtain rfl : k = l.length := by omega
      refine wk ?_
      refine Arr.mid (B, d, xs) has ⟨hE, ?_, fun x hx => ?_, fun x h1 h2 => ?_, hd, hB⟩
      · show Itm.Asc xs
        rw [hxs]
        exact Itm.puts_asc _
      · rw [show (B, d, xs).2.2 = xs from rfl, hxs, rightTo, List.take_length] at hx
        exact .base (Gram.irightf_mem.1 hx).1 (Gram.irightf_mem.1 hx).2
      · show x ∈ xs
        rw [hxs, rightTo, List.take_length]
        exact Gram.irightf_mem.2 ⟨h1, h2⟩
  rintro ⟨B0, d0, xs0⟩ w2 ⟨hE2, hI0⟩
  replace hI0 : CloseI g l w2 B0 d0 xs0 := hI0
  refine wk ?_
  refine W.loop (ι := Int × Option Addr × Nat × List Itm) (fun q => [(2, .pointer (some ⟨w.heap.size, 0, none⟩)), (5, .slice q.2.1 q.2.2.2.length q.2.2.1), (7, .int .i64 q.1)])
    (fun q w' => Ext w1 w' ∧ CloseI g l w' q.2.1 q.2.2.1 q.2.2.2 ∧ (q.1 = q.2.2.2.length → ∀ x ∈ q.2.2.2, g.Shut q.2.2.2 x)) (fun q => 2 * (l.length + g.rules.length - q.2.2.2.length) + (if q.1 = q.2.2.2.length then 0 else 1)) (-1, B0, d0, xs0) has ⟨hE2, hI0, fun h => absurd h (by show ¬ (-1 : Int) = (xs0.length : Int); omega)⟩ ?_
  rintro ⟨n0, B, d, xs⟩ w3 ⟨hE3, hI, hsh⟩
  replace hI : CloseI g l w3 B d xs := hI
  replace hsh : n0 = xs.length → ∀ x ∈ xs, g.Shut xs x := hsh
  have hlen := Gram.Reach.len hI.asc hI.reach
  have hx9 : xs.length ≤ 1000000000 := by omega
  have hd := hI.cap
  have b13 := b1.ext hE3
  have hg3 := hg1.ext hE3
  refine wk ?_
  refine W.test rfl (fun hne => ?_) (fun heq => ?_)
  · replace hne : n0 ≠ xs.length := hne
    refine wk ?_
    refine W.loop (ι := Nat) (fun i => [(2, .pointer (some ⟨w.heap.size, 0, none⟩)), (5, .slice B xs.length d), (7, .int .i64 (xs.length : Int)), (8, .int .i64 (i : Int))])
      (fun i w' => Ext w3 w' ∧ i ≤ xs.length ∧ ∀ j y, j < i → xs[j]? = some y → g.Shut xs y) (fun i => xs.length - i) 0 has ⟨Ext.refl _, Nat.zero_le _, fun j y h => absurd h (Nat.not_lt_zero j)⟩ ?_
    rintro i w4 ⟨hE4, hi, hp⟩
    have b14 := b13.ext hE4
    have hg4 := hg3.ext hE4
    have hI4 := hI.ext hE4
    refine wk ?_
    refine W.test rfl (fun hlt => ?_) (fun hge => ?_)
    · replace hlt : i < xs.length := by omega
      obtain ⟨b, o, rfl, es, hrd, hcc⟩ := hI4.row.at_ i hlt
      obtain ⟨rfl, hr1, hr2⟩ := tItm_open hrd
      have hcs : ∀ (j : Nat) (u : Value), [Value.int .i64 xs[i].rule, .int .i64 xs[i].dot][j]? = some u → w4.cell? ⟨b, o + i * 2 + j, none⟩ = some u := hcc
      refine wk ?_
      rcases hib : g.ibehind xs[i] with ⟨s, t⟩
      refine W.any Ext [.eq _, .eq _, .eq _, .eq _, .eq _, .eq _, .eq _, .eq _, .eq _, .eq _, .eq _] [9, 10] mixed rfl Ext.refl Ext.trans Ext.drew ⟨qs, qs, qs, qs, qs, by intro w_ hG; (repeat (intro v_ hv_; cases hv_)); refine WopG.plain rfl (Wop.fn en50 rfl (rBehindI (hg4.ext hG) xs[i]) (fun v w' h => ?_)); refine ⟨h.2, ?_⟩; show _ = _; exact h.1.trans (by rw [hib]), qs, qs, qs, qs, qs, trivial⟩ ?_
      rintro wq eq_ _ ⟨⟩ _ ⟨⟩
      have hE5 := hE4.trans eq_
      have next : ∀ {y : Itm}, xs[i]? = some y → y = xs[i] := fun {y} h => by rw [List.getElem?_eq_getElem hlt] at h; exact (Option.some.inj h).symm
      cases t with
      | false =>
        refine wk ?_
        refine Arr.again (i := i) (i + 1) has ⟨hE5, hlt, fun j y hj hy => ?_⟩ (by omega)
        rcases Nat.lt_or_ge j i with h | h
        · exact hp j y h hy
        · obtain rfl : j = i := by omega
          rw [next hy]
          intro h2
          rw [hib] at h2
          cases h2
      | true =>
        have b15 := b14.ext eq_
        have hg5 := hg4.ext eq_
        refine wk ?_
        refine Wop.fn en100 rfl (rOf hg5 s) ?_
        rintro v6 w6 ⟨ho, e6⟩
        have hgl := of_length g s
        obtain ⟨K, cK, rfl, hcK, hK⟩ := OwnI.row (S := fun _ => True) ho (by omega) (fun x hx => by have := of_bound hx; exact ⟨by omega, by omega⟩) (fun _ _ => trivial)
        have hE6 := hE5.trans e6
        have hI6 := hI.ext hE6
        have b16 := b15.ext e6
        refine wk ?_
        refine W.midB (ι := Option Addr × Nat × List Itm) (fun q => [(2, .pointer (some ⟨w.heap.size, 0, none⟩)), (5, .slice (some ⟨b, o, none⟩) xs.length d), (7, .int .i64 (xs.length : Int)), (8, .int .i64 (i : Int)), (12, .slice q.1 q.2.2.length q.2.1)])
          (fun q w' => Ext w6 w' ∧ q.2.2 = (g.brings xs[i]).foldl Itm.put xs ∧ q.2.2.length ≤ q.2.1 ∧ tItm.Row (fun _ => True) w' q.1 q.2.2.length q.2.2) ?_ ?_
        · refine W.loop (ι := Nat × Option Addr × Nat × List Itm) (fun q => [(2, .pointer (some ⟨w.heap.size, 0, none⟩)), (5, .slice (some ⟨b, o, none⟩) xs.length d), (7, .int .i64 (xs.length : Int)), (8, .int .i64 (i : Int)), (11, .slice K (g.of s).length cK), (12, .slice q.2.1 q.2.2.2.length q.2.2.1), (13, .int .i64 (q.1 : Int))])
            (fun q w' => Ext w6 w' ∧ q.1 ≤ (g.of s).length ∧ q.2.2.2 = moreTo g s xs q.1 ∧ q.2.2.2.length ≤ q.2.2.1 ∧ tItm.Row (fun _ => True) w' q.2.1 q.2.2.2.length q.2.2.2) (fun q => (g.of s).length - q.1) (0, some ⟨b, o, none⟩, d, xs) has ⟨Ext.refl _, Nat.zero_le _, rfl, hd, hI6.row⟩ ?_
          rintro ⟨j, B', d', ys⟩ w7 ⟨hE7, hj, hys, hd', hB'⟩
          replace hj : j ≤ (g.of s).length := hj
          replace hys : ys = moreTo g s xs j := hys
          replace hd' : ys.length ≤ d' := hd'
          replace hB' : tItm.Row (fun _ => True) w7 B' ys.length ys := hB'
          have hy9 : ys.length ≤ 1000000000 := by
            have h1 : (moreTo g s xs j).length ≤ xs.length + (((g.of s).take j).map fun k => (⟨k, 0⟩ : Itm)).length := Itm.foldl_put_le _ xs
            have h2 : (((g.of s).take j).map fun k => (⟨k, 0⟩ : Itm)).length ≤ (g.of s).length := by rw [List.length_map, List.length_take]; omega
            rw [hys]
            omega
          refine wk ?_
          refine W.test rfl (fun hlj => ?_) (fun hgj => ?_)
          · replace hlj : j < (g.of s).length := by omega
            obtain ⟨b2, o2, rfl, es2, ⟨rfl, hI2⟩, hcc2⟩ := (hK.ext (by decide) hE7).at_ j hlj
            have hcell := hcc2 0 _ rfl
            have hkb := of_bound (g := g) (List.getElem_mem hlj)
            refine wk ?_
            refine Wop.make (cs := #[.int .i64 (g.of s)[j], .int .i64 0]) pl73 rfl rfl ?_
            refine wk ?_
            refine Wop.fn en109 rfl (rPut (x := ⟨(g.of s)[j], 0⟩) hB' hd' ⟨by show (_ : Int) ≤ (g.of s)[j]; omega, by show (g.of s)[j] ≤ (_ : Int); omega⟩ ⟨by show (_ : Int) ≤ 0; omega, by show (0 : Int) ≤ _; omega⟩ hy9) ?_
            rintro _ w8 ⟨⟨B'', d'', rfl, hd'', hB''⟩, e8⟩
            refine wk ?_
            refine Arr.again (i := (j, B', d', ys)) (j + 1, B'', d'', _) has ⟨hE7.trans e8, hlj, ?_, hd'', hB''⟩ (by show (g.of s).length - (j + 1) < (g.of s).length - j; omega)
            show Itm.put ys _ = moreTo g s xs (j + 1)
            rw [moreTo, List.take_succ_eq_append_getElem hlj, List.map_append, List.foldl_append, hys]
            rfl
          · obtain rfl : j = (g.of s).length := by omega
            refine wk ?_
            refine Arr.mid (B', d', ys) has ⟨hE7, ?_, hd', hB'⟩
            show ys = _
            rw [hys, moreTo, List.take_length, Gram.brings, hib]
        rintro ⟨B', d', ys⟩ w7 ⟨hE7, hys, hd', hB'⟩
        replace hys : ys = (g.brings xs[i]).foldl Itm.put xs := hys
        replace hd' : ys.length ≤ d' := hd'
        replace hB' : tItm.Row (fun _ => True) w7 B' ys.length ys := hB'
        have hge := Itm.foldl_put_len (g.brings xs[i]) xs
        rw [← hys] at hge
        have hI7 := hI6.more (List.getElem_mem hlt) (by rw [hib]) hys hd' hB'
        have hE8 := hE6.trans hE7
        refine wk ?_
        refine W.test rfl (fun hne7 => ?_) (fun heq7 => ?_)
        · replace hne7 : (ys.length : Int) ≠ xs.length := hne7
          have hlen7 := Gram.Reach.len hI7.asc hI7.reach
          refine wk ?_
          refine Arr.again (i := (n0, some ⟨b, o, none⟩, d, xs)) ((xs.length : Int), B', d', ys) has ⟨hE3.trans hE8, hI7, fun h => absurd h (by show ¬ (xs.length : Int) = (ys.length : Int); omega)⟩ ?_
          show 2 * (l.length + g.rules.length - ys.length) + (if (xs.length : Int) = ys.length then 0 else 1) < 2 * (l.length + g.rules.length - xs.length) + (if n0 = xs.length then 0 else 1)
          rw [if_neg (fun h => hne7 h.symm), if_neg hne]
          omega
        · have hs7 := Itm.foldl_put_same (xs := g.brings xs[i]) hI.asc (by rw [← hys]; have h7 : (ys.length : Int) = xs.length := Decidable.not_not.1 heq7; omega)
          refine wk ?_
          refine Arr.again (i := i) (i + 1) has ⟨hE8, hlt, fun j y hj hy => ?_⟩ (by omega)
          rcases Nat.lt_or_ge j i with h | h
          · exact hp j y h hy
          · obtain rfl : j = i := by omega
            rw [next hy]
            intro _ k hk
            exact hs7 _ (List.mem_map.2 ⟨k, hk, rfl⟩)
    · obtain rfl : i = xs.length := by omega
      refine wk ?_
      refine Arr.again (i := (n0, B, d, xs)) ((xs.length : Int), B, d, xs) has ⟨hE3.trans hE4, hI4, fun _ x hx => ?_⟩ ?_
      · obtain ⟨j, hj, rfl⟩ := List.getElem_of_mem hx
        exact hp j _ hj (List.getElem?_eq_getElem hj)
      · show 2 * (l.length + g.rules.length - xs.length) + (if (xs.length : Int) = xs.length then 0 else 1) < 2 * (l.length + g.rules.length - xs.length) + (if n0 = xs.length then 0 else 1)
        rw [if_pos rfl, if_neg hne]
        omega
  · replace heq : n0 = xs.length := Decidable.not_not.1 heq
    refine wk ?_
    refine Arr.ret1 rfl rfl ⟨⟨xs, ⟨B, d, rfl, hd, hI.row⟩, Gram.isClose_of hI.asc hI.reach hI.base (hsh heq)⟩, e1.trans hE3⟩
end Go.Proofs.YtbadjlhijbkbbaaGreat
