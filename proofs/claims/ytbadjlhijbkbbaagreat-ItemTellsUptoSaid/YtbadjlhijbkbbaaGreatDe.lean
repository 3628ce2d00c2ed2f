/-
  Joined by program out of the texts Ig4 Ig5: lemmas for the proofs of this seat; no condition.
-/
import Derived.Test.YtbadjlhijbkbbaaGreatDd
import Derived.Test.YtbadjlhijbkbbaaGreatDb
import Derived.Test.YtbadjlhijbkbbaaGreatBh
set_option maxHeartbeats 1000000
/-
  item.Close: what it comes to.
-/
set_option linter.unusedVariables false
namespace Go.Proofs.YtbadjlhijbkbbaaGreat
open Go Go.RowKit Sx
variable {S S' : Nat → Prop} {w w' : World} {g : Gram} {A B A0 A1 A2 : Option Addr} {n m c c' c0 c1 c2 : Nat}
theorem of_non (h : g.check = 0) {s k : Int} (hk : k ∈ g.of s) : g.non s = true := by
  obtain ⟨j, r, h1, rfl, _⟩ := ofFrom_mem.1 hk
  have := (Gram.may h).known r (List.mem_of_getElem? h1)
  rw [Gram.known, Bool.and_eq_true] at this
  exact this.1
/-- What has been put. -/
structure Put (g : Gram) (l out : List Itm) : Prop where
  nodup : out.Nodup
  reach : ∀ x ∈ out, g.Reach l x
theorem Put.len {l out : List Itm} (h : Put g l out) : out.length ≤ l.length + g.rules.length := by
  have := nodup_len (b := l ++ (List.range g.rules.length).map fun k => (⟨(k : Nat), 0⟩ : Itm)) h.nodup (fun x hx => by
    cases h.reach x hx with
    | base h _ => exact List.mem_append_left _ h
    | @step _ k _ _ h =>
      have := of_bound h
      refine List.mem_append_right _ (List.mem_map.2 ⟨k.toNat, List.mem_range.2 (by omega), ?_⟩)
      congr 1
      omega)
  simpa using this
theorem Put.i64 {l out : List Itm} (h : Put g l out) (hl : ∀ x ∈ l, I64 x.rule ∧ I64 x.dot) (hr : g.rules.length ≤ 1099511627776) : ∀ x ∈ out, I64 x.rule ∧ I64 x.dot := fun x hx => by
  cases h.reach x hx with
  | base h _ => exact hl x h
  | @step _ k _ _ h =>
    have := of_bound h
    exact ⟨⟨by show (_ : Int) ≤ k; omega, by show k ≤ (_ : Int); omega⟩, ⟨by show (_ : Int) ≤ 0; omega, by show (0 : Int) ≤ _; omega⟩⟩
theorem addI_mem {out : List Itm} {x y : Itm} : y ∈ g.addI out x ↔ y ∈ out ∨ (y = x ∧ g.iright x = true) := by
  unfold Gram.addI
  split
  · rename_i h
    simp [h.2]
  · rename_i h
    constructor
    · exact .inl
    · rintro (h1 | ⟨rfl, h2⟩)
      · exact h1
      · exact Decidable.byContradiction fun hn => h ⟨hn, h2⟩
theorem addI_pre (g : Gram) (out : List Itm) (x : Itm) : out <+: g.addI out x := by
  unfold Gram.addI
  split
  · exact List.prefix_append _ _
  · exact List.prefix_refl _
theorem Put.add {l out : List Itm} {x : Itm} (h : Put g l out) (hx : g.iright x = true → g.Reach l x) : Put g l (g.addI out x) := by
  refine ⟨?_, fun y hy => ?_⟩
  · unfold Gram.addI
    split
    · rename_i hm
      refine List.nodup_append.2 ⟨h.nodup, by simp, fun a ha b hb => ?_⟩
      simp only [List.mem_singleton] at hb
      subst hb
      intro e
      subst e
      exact hm.1 ha
    · exact h.nodup
  · rcases addI_mem.1 hy with h1 | ⟨rfl, h2⟩
    · exact h.reach y h1
    · exact hx h2
theorem Gram.Shut.mono {xs ys : List Itm} {x : Itm} (h : g.Shut xs x) (hs : ∀ y ∈ xs, y ∈ ys) : g.Shut ys x := fun h1 k hk => hs _ (h h1 k hk)
theorem Put.isClose {l out : List Itm} (h : Put g l out) (hb : ∀ x ∈ l, g.iright x = true → x ∈ out) (hs : ∀ x ∈ out, g.Shut out x) : g.IsClose l (Itm.puts out) := by
  refine Gram.isClose_of (Itm.puts_asc out) (fun x hx => h.reach x (Itm.mem_puts.1 hx)) (fun x h1 h2 => Itm.mem_puts.2 (hb x h1 h2)) (fun x hx => ?_)
  exact (hs x (Itm.mem_puts.1 hx)).mono (fun y hy => Itm.mem_puts.2 hy)
end Go.Proofs.YtbadjlhijbkbbaaGreat

/-
  item.Close.
-/
set_option linter.unusedVariables false
namespace Go.Proofs.YtbadjlhijbkbbaaGreat
open Go Go.RowKit Sx
variable {S S' : Nat → Prop} {w w' : World} {g : Gram} {A B A0 A1 A2 : Option Addr} {n m c c' c0 c1 c2 : Nat}
theorem GramAt.lt (h : GramAt S w g A0 A1 A2 c0 c1 c2) : GramAt (fun k => S k ∧ k < w.heap.size) w g A0 A1 A2 c0 c1 c2 :=
  ⟨h.terms.lt (by decide), h.nons.lt (by decide), h.rules.lt (by decide), h.start, h.cap0, h.cap1, h.cap2⟩
set_option maxRecDepth 20000 in
set_option maxHeartbeats 8000000 in
theorem gCloseItem (hg : GramAt S w g A0 A1 A2 c0 c1 c2) {l : List Itm} (hl : tItm.Row S' w A l.length l) (hc : l.length ≤ c) (hsm : l.length + g.rules.length ≤ 400000000) : Calls Tryz.prog 47 [.agg (gcells g A0 A1 A2 c0 c1 c2).toArray, .slice A l.length c].toArray w (Ret fun v w' => (∃ out, OwnT w' w.heap.size v out ∧ (if g.good then g.IsClose l out else out = [])) ∧ Ext w w') := by
  have hrn := hg.rules.2.1
  refine enter Tryz.func47 rfl Tryz.ntmps47 rfl ?_
  refine wk ?_
  refine Wop.box rfl (fun w1 e1 b1 z1 => ?_)
  refine wk ?_
  refine Wop.fn en101 rfl (gMayI (hg.ext e1)) ?_
  rintro _ w2 ⟨rfl, e2⟩
  have e12 := e1.trans e2
  rcases Decidable.em g.good with hm | hm
  · rw [decide_eq_true hm]
    have b12 := b1.ext e2
    refine wk ?_
    refine Wop.mkMet (fun w3 e3 m3 z3 => ?_)
    refine wk ?_
    refine Wop.alloc (z := .map none) Tryz.zeroValue138 (fun w4 e4 b4 z4 => ?_)
    refine wk ?_
    refine Wop.stC TT rfl rfl rfl rfl b4 rfl (fun w5 g5 b5 z5 k5 => ?_)
    have e35 : Ext w3 w5 := Below.trans e4 g5
    refine wk ?_
    refine Wop.alloc (z := .slice none 0 0) Tryz.zeroValue68 (fun w6 e6 b6 z6 => ?_)
    have e16 := ((e2.trans e3).trans e35).trans e6
    have e06 := e1.trans e16
    have s2 := e2.size
    have hst : PutSt (fun k => S k ∧ k < w.heap.size) g A0 A1 A2 c0 c1 c2 w.heap.size w.heap.size w3.heap.size w2.heap.size w5.heap.size w6.heap.size w6 [] :=
      ⟨b1.ext e16, hg.lt.ext e06, b5.ext e6, m3.ext (e35.trans e6), ⟨_, b6, OwnM.nil⟩, fun k hk => hk.2, Nat.le_refl _, by omega, by omega⟩
    generalize hSS : (fun k => S k ∧ k < w.heap.size) = SS at hst
    have hlr := hl.ext (by decide) e06
    refine wk ?_
    refine W.midB (ι := List Itm) (fun _ => [(2, .pointer (some ⟨w.heap.size, 0, none⟩)), (6, .pointer (some ⟨w5.heap.size, 0, none⟩)), (7, .func (.func 104) #[] #[.pointer (some ⟨w3.heap.size, 0, none⟩), .pointer (some ⟨w.heap.size, 0, none⟩), .pointer (some ⟨w5.heap.size, 0, none⟩)])])
      (fun out w' => Ext w w' ∧ PutSt SS g A0 A1 A2 c0 c1 c2 w.heap.size w.heap.size w3.heap.size w2.heap.size w5.heap.size w6.heap.size w' out ∧ Put g l out ∧ ∀ x ∈ l, g.iright x = true → x ∈ out) ?_ ?_
    · refine W.loop (ι := Nat × List Itm) (fun q => [(2, .pointer (some ⟨w.heap.size, 0, none⟩)), (6, .pointer (some ⟨w5.heap.size, 0, none⟩)), (7, .func (.func 104) #[] #[.pointer (some ⟨w3.heap.size, 0, none⟩), .pointer (some ⟨w.heap.size, 0, none⟩), .pointer (some ⟨w5.heap.size, 0, none⟩)]), (20, .slice A l.length c), (21, .int .i64 (l.length : Int)), (22, .int .i64 (q.1 : Int))])
        (fun q w' => Ext w w' ∧ PutSt SS g A0 A1 A2 c0 c1 c2 w.heap.size w.heap.size w3.heap.size w2.heap.size w5.heap.size w6.heap.size w' q.2 ∧ Put g l q.2 ∧ q.1 ≤ l.length ∧ ∀ x ∈ l.take q.1, g.iright x = true → x ∈ q.2) (fun q => l.length - q.1) (0, []) has ⟨e06, hst, ⟨List.nodup_nil, fun x hx => by cases hx⟩, Nat.zero_le _, fun x hx => by cases hx⟩ ?_
      rintro ⟨k, out⟩ w7 ⟨hE, hP, hQ, hk, hb⟩
      replace hP : PutSt SS g A0 A1 A2 c0 c1 c2 w.heap.size w.heap.size w3.heap.size w2.heap.size w5.heap.size w6.heap.size w7 out := hP
      replace hQ : Put g l out := hQ
      replace hk : k ≤ l.length := hk
      replace hb : ∀ x ∈ l.take k, g.iright x = true → x ∈ out := hb
      dsimp only
      have hlen := hQ.len
      have hx9 : out.length ≤ 1000000000 := by omega
      refine wk ?_
      refine W.test rfl (fun hlt => ?_) (fun hge => ?_)
      · replace hlt : k < l.length := by omega
        obtain ⟨b, o, rfl, es, hrd, hcc⟩ := (hl.ext (by decide) hE).at_ k hlt
        obtain ⟨rfl, hr1, hr2⟩ := tItm_open hrd
        have hcs : ∀ (i : Nat) (u : Value), [Value.int .i64 l[k].rule, .int .i64 l[k].dot][i]? = some u → w7.cell? ⟨b, o + k * 2 + i, none⟩ = some u := hcc
        refine wk ?_
        refine Wop.alloc (z := .agg #[.int .i64 0, .int .i64 0]) Tryz.zeroValue73 (fun w8 e8 b8 z8 => ?_)
        refine wk ?_
        refine Wop.stB TT rfl rfl rfl (by simp [Value.oneCell']) b8 rfl (fun w9 g9 b9 z9 k9 => ?_)
        have e79 : Ext w7 w9 := Below.trans e8 g9
        refine wk ?_
        refine Wop.fnV (cap := [.pointer (some ⟨w3.heap.size, 0, none⟩), .pointer (some ⟨w.heap.size, 0, none⟩), .pointer (some ⟨w5.heap.size, 0, none⟩)]) en104 rfl rfl (gPutI (hP.ext e79) l[k] hr1 hr2 hx9) ?_
        rintro _ w10 ⟨hP', hB', _⟩
        refine wk ?_
        refine Arr.again (i := (k, out)) (k + 1, g.addI out l[k]) has ⟨Below.trans (hE.trans e79) hB', hP', hQ.add (fun h => .base (List.getElem_mem hlt) h), hlt, fun x hx hr => ?_⟩ (by show l.length - (k + 1) < l.length - k; omega)
        rw [show (k + 1, g.addI out l[k]).1 = k + 1 from rfl, List.take_succ_eq_append_getElem hlt] at hx
        rcases List.mem_append.1 hx with h | h
        · exact addI_mem.2 (.inl (hb x h hr))
        · rw [List.mem_singleton] at h
          subst h
          exact addI_mem.2 (.inr ⟨rfl, hr⟩)
      · obtain rfl : k = l.length := by omega
        refine wk ?_
        refine Arr.mid out has ⟨hE, hP, hQ, ?_⟩
        rw [List.take_length] at hb
        exact hb
    rintro out0 w7 ⟨hE7, hP7, hQ7, hb7⟩
    refine wk ?_
    refine W.loop (ι := Nat × List Itm) (fun q => [(2, .pointer (some ⟨w.heap.size, 0, none⟩)), (6, .pointer (some ⟨w5.heap.size, 0, none⟩)), (7, .func (.func 104) #[] #[.pointer (some ⟨w3.heap.size, 0, none⟩), .pointer (some ⟨w.heap.size, 0, none⟩), .pointer (some ⟨w5.heap.size, 0, none⟩)]), (10, .int .i64 (q.1 : Int))])
      (fun q w' => Ext w w' ∧ PutSt SS g A0 A1 A2 c0 c1 c2 w.heap.size w.heap.size w3.heap.size w2.heap.size w5.heap.size w6.heap.size w' q.2 ∧ Put g l q.2 ∧ (∀ x ∈ l, g.iright x = true → x ∈ q.2) ∧ q.1 ≤ q.2.length ∧ ∀ j y, j < q.1 → q.2[j]? = some y → g.Shut q.2 y) (fun q => l.length + g.rules.length - q.1) (0, out0) has ⟨hE7, hP7, hQ7, hb7, Nat.zero_le _, fun j y h => absurd h (Nat.not_lt_zero j)⟩ ?_
    rintro ⟨i, out⟩ w8 ⟨hE, hP, hQ, hb, hi, hsh⟩
    replace hP : PutSt SS g A0 A1 A2 c0 c1 c2 w.heap.size w.heap.size w3.heap.size w2.heap.size w5.heap.size w6.heap.size w8 out := hP
    replace hQ : Put g l out := hQ
    replace hb : ∀ x ∈ l, g.iright x = true → x ∈ out := hb
    replace hi : i ≤ out.length := hi
    replace hsh : ∀ j y, j < i → out[j]? = some y → g.Shut out y := hsh
    dsimp only
    have hlen := hQ.len
    have hx9 : out.length ≤ 1000000000 := by omega
    have kbox := hP.box
    obtain ⟨v, kro, kown⟩ := hP.row
    obtain ⟨Aq, cq, rfl, hcq, hrow⟩ := OwnT.row kown (by omega)
    refine wk ?_
    refine W.test rfl (fun hlt => ?_) (fun hge => ?_)
    · replace hlt : i < out.length := by omega
      obtain ⟨b, o, rfl, es, hrd, hcc⟩ := hrow.at_ i hlt
      obtain ⟨rfl, hr1, hr2⟩ := tItm_open hrd
      have hcs : ∀ (j : Nat) (u : Value), [Value.int .i64 out[i].rule, .int .i64 out[i].dot][j]? = some u → w8.cell? ⟨b, o + i * 2 + j, none⟩ = some u := hcc
      have next : ∀ {y : Itm}, out[i]? = some y → y = out[i] := fun {y} h => by rw [List.getElem?_eq_getElem hlt] at h; exact (Option.some.inj h).symm
      refine wk ?_
      rcases hib : g.ibehind out[i] with ⟨s, t⟩
      refine W.any Ext [.eq _, .eq _, .eq _, .eq _, .eq _, .eq _, .eq _, .eq _, .eq _, .eq _, .eq _] [9, 10] mixed rfl Ext.refl Ext.trans Ext.drew ⟨qs, qs, qs, qs, qs, by intro w_ hG; (repeat (intro v_ hv_; cases hv_)); refine WopG.plain rfl (Wop.fn en102 rfl (gBehindI (hP.gram.ext hG) out[i]) (fun v w' h => ?_)); refine ⟨h.2, ?_⟩; show _ = _; exact h.1.trans (by rw [hib]), qs, qs, qs, qs, qs, trivial⟩ ?_
      rintro wq eq_ _ ⟨⟩ _ ⟨⟩
      have hEq := hE.trans eq_
      have hPq := hP.ext eq_
      have kbq := kbox.ext eq_
      have skip : (t = true → g.of s = []) → ∀ j y, j < i + 1 → out[j]? = some y → g.Shut out y := fun hs j y hj hy => by
        rcases Nat.lt_or_ge j i with h | h
        · exact hsh j y h hy
        · obtain rfl : j = i := by omega
          rw [next hy]
          intro h1 k hk
          rw [hib] at h1 hk
          rw [hs h1] at hk
          cases hk
      cases t with
      | false =>
        refine wk ?_
        refine Arr.again (i := (i, out)) (i + 1, out) has ⟨hEq, hPq, hQ, hb, hlt, skip (fun h => by cases h)⟩ (by show l.length + g.rules.length - (i + 1) < l.length + g.rules.length - i; omega)
      | true =>
        refine wk ?_
        refine Wop.fn en105 rfl (gNon hPq.gram s) ?_
        rintro _ w9 ⟨rfl, e9⟩
        have hE9 := hEq.trans e9
        have hP9 := hPq.ext e9
        have kb9 := kbq.ext e9
        cases hns : g.non s with
        | false =>
          refine wk ?_
          refine Arr.again (i := (i, out)) (i + 1, out) has ⟨hE9, hP9, hQ, hb, hlt, skip (fun _ => ?_)⟩ (by show l.length + g.rules.length - (i + 1) < l.length + g.rules.length - i; omega)
          rw [List.eq_nil_iff_forall_not_mem]
          intro k hk
          rw [of_non hm hk] at hns
          cases hns
        | true =>
          refine wk ?_
          refine Wop.fn en106 rfl (gOf hP9.gram s) ?_
          rintro v10 w10 ⟨ho, e10⟩
          have hgl := of_length g s
          obtain ⟨K, cK, rfl, hcK, hK⟩ := OwnI.row (S := fun k => w9.heap.size ≤ k ∧ k < w10.heap.size) ho (by omega) (fun x hx => by have := of_bound hx; exact ⟨by omega, by omega⟩) (fun k hk => World.ownsRow.lt ho k hk)
          have hE10 := hE9.trans e10
          have hP10 := hP9.ext e10
          have hT9 : ∀ k, (w9.heap.size ≤ k ∧ k < w10.heap.size) → k ≠ w2.heap.size ∧ k ≠ w5.heap.size ∧ k < w10.heap.size := fun k hk => by
            have := hP9.size
            have := hP9.lt
            omega
          have hA10 : Away w10 w5.heap.size (fun k => w9.heap.size ≤ k ∧ k < w10.heap.size) := by
            obtain ⟨v9, k9, o9⟩ := hP9.row
            exact Away.of (k9.ext e10) (fun k hk hTk => by have := (OwnM.lt o9 k hk).2; omega)
          refine wk ?_
          refine W.loop (ι := Nat × List Itm) (fun q => [(2, .pointer (some ⟨w.heap.size, 0, none⟩)), (6, .pointer (some ⟨w5.heap.size, 0, none⟩)), (7, .func (.func 104) #[] #[.pointer (some ⟨w3.heap.size, 0, none⟩), .pointer (some ⟨w.heap.size, 0, none⟩), .pointer (some ⟨w5.heap.size, 0, none⟩)]), (10, .int .i64 (i : Int)), (55, .slice K (g.of s).length cK), (56, .int .i64 ((g.of s).length : Int)), (57, .int .i64 (q.1 : Int))])
            (fun q w' => Ext w w' ∧ PutSt SS g A0 A1 A2 c0 c1 c2 w.heap.size w.heap.size w3.heap.size w2.heap.size w5.heap.size w6.heap.size w' q.2 ∧ Put g l q.2 ∧ out <+: q.2 ∧ q.1 ≤ (g.of s).length ∧ (∀ k ∈ (g.of s).take q.1, (⟨k, 0⟩ : Itm) ∈ q.2) ∧ Keeps (fun k => w9.heap.size ≤ k ∧ k < w10.heap.size) w10 w' ∧ Away w' w5.heap.size (fun k => w9.heap.size ≤ k ∧ k < w10.heap.size)) (fun q => (g.of s).length - q.1) (0, out) has ⟨hE10, hP10, hQ, List.prefix_refl _, Nat.zero_le _, (by intro k hk; simp at hk), Keeps.refl _ _, hA10⟩ ?_
          rintro ⟨j, out2⟩ w11 ⟨hE11, hP11, hQ11, hpre, hj, hin, hK11, hA11⟩
          replace hP11 : PutSt SS g A0 A1 A2 c0 c1 c2 w.heap.size w.heap.size w3.heap.size w2.heap.size w5.heap.size w6.heap.size w11 out2 := hP11
          replace hQ11 : Put g l out2 := hQ11
          replace hpre : out <+: out2 := hpre
          replace hj : j ≤ (g.of s).length := hj
          replace hin : ∀ k ∈ (g.of s).take j, (⟨k, 0⟩ : Itm) ∈ out2 := hin
          dsimp only
          have hsub := hpre.subset
          have hlen2 := hQ11.len
          have hl2 := hpre.length_le
          have hx2 : out2.length ≤ 1000000000 := by omega
          refine wk ?_
          refine W.test rfl (fun hlj => ?_) (fun hgj => ?_)
          · replace hlj : j < (g.of s).length := by omega
            obtain ⟨b2, o2, rfl, es2, ⟨rfl, hI2⟩, hcc2⟩ := (hK.keep (by decide) hK11 (fun _ h => h)).at_ j hlj
            have hcell := hcc2 0 _ rfl
            have hkb := of_bound (g := g) (List.getElem_mem hlj)
            refine wk ?_
            refine Wop.make (cs := #[.int .i64 (g.of s)[j], .int .i64 0]) pl73 rfl rfl ?_
            refine wk ?_
            refine Wop.fnV (cap := [.pointer (some ⟨w3.heap.size, 0, none⟩), .pointer (some ⟨w.heap.size, 0, none⟩), .pointer (some ⟨w5.heap.size, 0, none⟩)]) en104 rfl rfl (gPutI hP11 ⟨(g.of s)[j], 0⟩ ⟨by show (_ : Int) ≤ (g.of s)[j]; omega, by show (g.of s)[j] ≤ (_ : Int); omega⟩ ⟨by show (_ : Int) ≤ 0; omega, by show (0 : Int) ≤ _; omega⟩ hx2) ?_
            rintro _ w12 ⟨hP12, hB12, hT12⟩
            obtain ⟨hK12, hA12⟩ := hT12 _ (fun k hk => ⟨(hT9 k hk).1, (hT9 k hk).2.1, by have := hK11.size; omega⟩) hA11
            refine wk ?_
            refine Arr.again (i := (j, out2)) (j + 1, g.addI out2 ⟨(g.of s)[j], 0⟩) has ⟨Below.trans hE11 hB12, hP12, hQ11.add (fun _ => ?_), hpre.trans (addI_pre _ _ _), hlj, fun k hk => ?_, hK11.trans hK12, hA12⟩ (by show (g.of s).length - (j + 1) < (g.of s).length - j; omega)
            · refine .step (x := out[i]) (hQ.reach _ (List.getElem_mem hlt)) (by rw [hib]) ?_
              rw [hib]
              exact List.getElem_mem hlj
            · rw [show (j + 1, g.addI out2 ⟨(g.of s)[j], 0⟩).1 = j + 1 from rfl, List.take_succ_eq_append_getElem hlj] at hk
              rcases List.mem_append.1 hk with h | h
              · exact addI_mem.2 (.inl (hin k h))
              · rw [List.mem_singleton] at h
                subst h
                exact addI_mem.2 (.inr ⟨rfl, of_right (List.getElem_mem hlj)⟩)
          · obtain rfl : j = (g.of s).length := by omega
            rw [List.take_length] at hin
            refine wk ?_
            refine Arr.again (i := (i, out)) (i + 1, out2) has ⟨hE11, hP11, hQ11, fun x h1 h2 => hsub (hb x h1 h2), by show i + 1 ≤ out2.length; omega, fun j y hj hy => ?_⟩ (by show l.length + g.rules.length - (i + 1) < l.length + g.rules.length - i; omega)
            have hyo : out[j]? = some y := by
              have hjl : j < out.length := by
                replace hj : j < i + 1 := hj
                omega
              obtain ⟨r, rfl⟩ := hpre
              rwa [List.getElem?_append_left hjl] at hy
            rcases Nat.lt_or_ge j i with h | h
            · exact (hsh j y h hyo).mono (fun z hz => hsub hz)
            · obtain rfl : j = i := by
                replace hj : j < i + 1 := hj
                omega
              rw [next hyo]
              intro _ k hk
              rw [hib] at hk
              exact hin k hk
    · obtain rfl : i = out.length := by omega
      have kown0 := kown
      refine wk ?_
      refine Wop.fn en107 rfl (kSorted kown hx9) ?_
      rintro u w9 ⟨h9, k9⟩
      refine wk ?_
      have hbase : w.heap.size ≤ w6.heap.size := by have := hP.lt; omega
      refine Arr.ret1 rfl rfl ⟨⟨_, OwnM.lower h9 hbase, ?_⟩, Below.trans hE ((OwnT.below kown0 hP.size k9).mono hbase)⟩
      rw [if_pos hm]
      exact hQ.isClose hb (fun x hx => by
        obtain ⟨j, hj, rfl⟩ := List.getElem_of_mem hx
        exact hsh j _ hj (List.getElem?_eq_getElem hj))
  · rw [decide_eq_false hm]
    refine wk ?_
    exact Arr.ret1 rfl rfl ⟨⟨[], OwnM.nil, by rw [if_neg hm]⟩, e12⟩
end Go.Proofs.YtbadjlhijbkbbaaGreat
