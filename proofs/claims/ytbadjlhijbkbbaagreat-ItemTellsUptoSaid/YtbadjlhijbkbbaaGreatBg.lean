/-
  Joined by program out of the texts Chk Chl Chm Gck Gcl Gcm: lemmas for the proofs of this seat; no condition.
-/
import Derived.Test.YtbadjlhijbkbbaaGreatBe
import Derived.Test.YtbadjlhijbkbbaaGreatBd
import Derived.Test.YtbadjlhijbkbbaaGreatBf
/-
  Parts of the reference's Check.
-/
set_option linter.unusedVariables false
namespace Go.Proofs.YtbadjlhijbkbbaaGreat
open Go Go.RowKit Sx
variable {S : Nat → Prop} {w : World} {g : Gram} {A0 A1 A2 : Option Addr} {c0 c1 c2 : Nat}
namespace Gram
def many (g : Gram) : Bool := decide (120 < g.terms.length ∨ 120 < g.nons.length ∨ 300 < g.rules.length) || !g.rules.all (fun r => decide (r.right.length ≤ 8))
def form (g : Gram) : Bool := g.terms.all (fun s => plainOk s || quotedOk s) && g.nons.all plainOk
def known (g : Gram) (r : Rule) : Bool := g.non r.left && r.right.all (fun s => g.term s || g.non s)
def unlike (g : Gram) : Bool := decide g.rules.Nodup
def check (g : Gram) : Int := if g.many then 7 else if !g.form then 10 else if !decide g.names.Nodup then 8 else if !(g.non g.start && g.rules.all g.known) then 1 else if !g.unlike then 8 else
  if (List.range g.nons.length).all (fun (i : Nat) => decide (g.of (g.terms.length + 1 + i) ≠ [])) then 0 else 9
end Gram
theorem all_take {α : Type} {p : α → Bool} {l : List α} {i : Nat} (h : i < l.length) (h1 : (l.take i).all p = true) (h2 : p l[i] = true) : (l.take (i + 1)).all p = true := by
  rw [List.take_succ_eq_append_getElem h, List.all_append, h1]
  simp [h2]
theorem all_false {α : Type} {p : α → Bool} {l : List α} {i : Nat} (h : i < l.length) (h2 : p l[i] = false) : l.all p = false := by
  rw [List.all_eq_false]
  exact ⟨l[i], List.getElem_mem h, by simp [h2]⟩
theorem rmany (hg : GramAt S w g A0 A1 A2 c0 c1 c2) : Calls Tryz.prog 94 [.agg (gcells g A0 A1 A2 c0 c1 c2).toArray].toArray w (Ret fun v w' => v = .bool g.many ∧ Ext w w') := by
  have h0 := hg.terms.2.1
  have h1 := hg.nons.2.1
  have h2 := hg.rules.2.1
  refine enter Tryz.func94 rfl Tryz.ntmps94 rfl ?_
  refine wk ?_; try (refine Wop.box rfl (fun w1 e1 b1 z1 => ?_); refine wk ?_)
  have hg1 := hg.ext e1
  refine W.loop (ι := Nat) (fun i => [(1, .pointer (some ⟨w.heap.size, 0, none⟩)), (3, .int .i64 (i : Int))])
    (fun i w' => Ext w1 w' ∧ i ≤ g.rules.length ∧ (g.rules.take i).all (fun r => decide (r.right.length ≤ 8)) = true) (fun i => g.rules.length - i) 0 has ⟨Ext.refl w1, Nat.zero_le _, by simp⟩ ?_
  rintro i w' ⟨hE, hi, ha⟩
  refine wk ?_
  refine W.test rfl (fun hlt => ?_) (fun hge => ?_)
  · have hlt : i < g.rules.length := by omega
    obtain ⟨b, o, rfl, es, hrd, hc⟩ := (hg1.rules.ext (by decide) hE).at_ i hlt
    obtain ⟨A, c, rfl, hcap, hl64, hrow⟩ := tRule_open hrd
    have hcell := hc 1 _ rfl
    have hrm := hrow.2.1
    refine wk ?_
    refine W.test rfl (fun h => ?_) (fun h => ?_)
    · refine wk ?_
      refine Arr.ret1 rfl rfl ⟨congrArg Value.bool ?_, e1.trans hE⟩
      rw [Gram.many, all_false hlt (decide_eq_false (by omega))]
      simp
    · refine wk ?_
      exact Arr.again (i + 1) has ⟨hE, hlt, all_take hlt ha (decide_eq_true (by omega))⟩ (by omega)
  · have : i = g.rules.length := by omega
    subst this
    rw [List.take_length] at ha
    have key : ∀ p : Bool, p = decide (120 < g.terms.length ∨ 120 < g.nons.length ∨ 300 < g.rules.length) → p = g.many := by
      intro p hp
      rw [Gram.many, ha, hp]
      simp
    refine wk ?_
    refine Wl.part rfl rfl rfl (fun p1 => ?_) (fun p1 => ?_)
    · refine wk ?_
      exact Arr.ret1 rfl rfl ⟨congrArg Value.bool (key _ (decide_eq_true (by omega)).symm), e1.trans hE⟩
    · refine wk ?_
      refine Wl.part rfl rfl rfl (fun p2 => ?_) (fun p2 => ?_)
      · refine wk ?_
        exact Arr.ret1 rfl rfl ⟨congrArg Value.bool (key _ (decide_eq_true (by omega)).symm), e1.trans hE⟩
      · refine wk ?_
        exact Arr.ret1 rfl rfl ⟨congrArg Value.bool (key _ (decide_eq_decide.2 (by omega))), e1.trans hE⟩
theorem rform (hg : GramAt S w g A0 A1 A2 c0 c1 c2) : Calls Tryz.prog 95 [.agg (gcells g A0 A1 A2 c0 c1 c2).toArray].toArray w (Ret fun v w' => v = .bool g.form ∧ Ext w w') := by
  have h0 := hg.terms.2.1
  have h1 := hg.nons.2.1
  refine enter Tryz.func95 rfl Tryz.ntmps95 rfl ?_
  refine wk ?_; try (refine Wop.box rfl (fun w1 e1 b1 z1 => ?_); refine wk ?_)
  have hg1 := hg.ext e1
  refine W.midB (ι := Unit) (fun _ => [(1, .pointer (some ⟨w.heap.size, 0, none⟩))]) (fun _ w' => Ext w1 w' ∧ g.terms.all (fun s => plainOk s || quotedOk s) = true) ?_ ?_
  · refine W.loop (ι := Nat) (fun i => [(1, .pointer (some ⟨w.heap.size, 0, none⟩)), (3, .int .i64 (i : Int))])
      (fun i w' => Ext w1 w' ∧ i ≤ g.terms.length ∧ (g.terms.take i).all (fun s => plainOk s || quotedOk s) = true) (fun i => g.terms.length - i) 0 has ⟨Ext.refl w1, Nat.zero_le _, by simp⟩ ?_
    rintro i w' ⟨hE, hi, ha⟩
    refine wk ?_
    refine W.test rfl (fun hlt => ?_) (fun hge => ?_)
    · have hlt : i < g.terms.length := by omega
      obtain ⟨b, o, rfl, es, ⟨rfl, hsz⟩, hc⟩ := (hg1.terms.ext (by decide) hE).at_ i hlt
      have hcell := hc 0 _ rfl
      refine wk ?_
      refine Wop.fn en147 rfl (rplain _ hsz) ?_
      rintro _ w2 ⟨rfl, e2⟩
      have e2' := hE.trans e2
      have hcell2 := e2.cell hcell
      refine wk ?_
      refine Wl.partB rfl rfl rfl (fun p => ?_) (fun p => ?_)
      · refine wk ?_
        refine Wop.fn en148 rfl (rQuoted _ hsz) ?_
        rintro _ w3 ⟨rfl, e3⟩
        have e3' := e2'.trans e3
        refine wk ?_
        refine W.cond rfl (fun q => ?_) (fun q => ?_)
        · refine wk ?_
          refine Arr.ret1 rfl rfl ⟨congrArg Value.bool ?_, e1.trans e3'⟩
          rw [Gram.form, all_false hlt (by simp at p q; simp [p, q])]
          rfl
        · refine wk ?_
          exact Arr.again (i + 1) has ⟨e3', hlt, all_take hlt ha (by simp at q; simp [q])⟩ (by omega)
      · refine wk ?_
        exact Arr.again (i + 1) has ⟨e2', hlt, all_take hlt ha (by simp at p; simp [p])⟩ (by omega)
    · have : i = g.terms.length := by omega
      subst this
      rw [List.take_length] at ha
      refine wk ?_
      exact Arr.mid () has ⟨hE, ha⟩
  · rintro _ w0 ⟨hE0, ht⟩
    refine wk ?_
    refine W.loop (ι := Nat) (fun i => [(1, .pointer (some ⟨w.heap.size, 0, none⟩)), (4, .int .i64 (i : Int))])
      (fun i w' => Ext w1 w' ∧ i ≤ g.nons.length ∧ (g.nons.take i).all plainOk = true) (fun i => g.nons.length - i) 0 has ⟨hE0, Nat.zero_le _, by simp⟩ ?_
    rintro i w' ⟨hE, hi, ha⟩
    refine wk ?_
    refine W.test rfl (fun hlt => ?_) (fun hge => ?_)
    · have hlt : i < g.nons.length := by omega
      obtain ⟨b, o, rfl, es, ⟨rfl, hsz⟩, hc⟩ := (hg1.nons.ext (by decide) hE).at_ i hlt
      have hcell := hc 0 _ rfl
      refine wk ?_
      refine Wop.fn en147 rfl (rplain _ hsz) ?_
      rintro _ w2 ⟨rfl, e2⟩
      have e2' := hE.trans e2
      refine wk ?_
      refine W.cond rfl (fun q => ?_) (fun q => ?_)
      · refine wk ?_
        refine Arr.ret1 rfl rfl ⟨congrArg Value.bool ?_, e1.trans e2'⟩
        rw [Gram.form, all_false hlt (by simp at q; simp [q]), Bool.and_false]
      · refine wk ?_
        exact Arr.again (i + 1) has ⟨e2', hlt, all_take hlt ha (by simp at q; simp [q])⟩ (by omega)
    · have : i = g.nons.length := by omega
      subst this
      rw [List.take_length] at ha
      refine wk ?_
      refine Arr.ret1 rfl rfl ⟨congrArg Value.bool ?_, e1.trans hE⟩
      rw [Gram.form, ht, ha]
      rfl
end Go.Proofs.YtbadjlhijbkbbaaGreat

/-
  More parts of the reference's Check.
-/
set_option linter.unusedVariables false
namespace Go.Proofs.YtbadjlhijbkbbaaGreat
open Go Go.RowKit Sx
variable {S : Nat → Prop} {w : World} {g : Gram} {A A0 A1 A2 : Option Addr} {n c c0 c1 c2 : Nat}
theorem nodup_step {α : Type} {l : List α} {i : Nat} (h : i < l.length) : (l.take (i + 1)).Nodup ↔ (l.take i).Nodup ∧ l[i] ∉ l.take i := by
  rw [List.take_succ_eq_append_getElem h, List.nodup_append]
  simp only [List.nodup_cons, List.not_mem_nil, not_false_eq_true, List.nodup_nil, and_self, true_and, List.mem_singleton, ne_eq]
  exact ⟨fun ⟨h1, h2⟩ => ⟨h1, fun h3 => h2 _ h3 _ rfl rfl⟩, fun ⟨h1, h2⟩ => ⟨h1, fun a ha b hb e => h2 (by rw [← hb, ← e]; exact ha)⟩⟩
theorem nodup_take {α : Type} {l : List α} (h : l.Nodup) (i : Nat) : (l.take i).Nodup := h.sublist (List.take_sublist i l)
theorem ronce {l : List ByteArray} (hx : tS.Row S w A n l) (hn : n ≤ c) : Calls Tryz.prog 96 [.slice A n c].toArray w (Ret fun v w' => v = .bool (decide l.Nodup) ∧ Ext w w') := by
  have hl := hx.1
  have hm := hx.2.1
  refine enter Tryz.func96 rfl Tryz.ntmps96 rfl ?_
  refine wk ?_
  refine W.loop (ι := Nat) (fun i => [(0, .slice A n c), (3, .int .i64 (i : Int))])
    (fun i w' => Ext w w' ∧ i ≤ n ∧ (l.take i).Nodup) (fun i => n - i) 0 has ⟨Ext.refl w, Nat.zero_le _, by simp⟩ ?_
  rintro i w1 ⟨hE, hi, hp⟩
  refine wk ?_
  refine W.test rfl (fun hlt => ?_) (fun hge => ?_)
  · have hlt : i < n := by omega
    have hlt' : i < l.length := by omega
    obtain ⟨b, o, rfl, es, ⟨rfl, hs⟩, hc⟩ := hx.at_ i hlt'
    have hcell := hE.cell (hc 0 _ rfl)
    have hrow := (hx.ext (by decide) hE).take i (by omega)
    have hany := idxI_any (fun x => decide (x = l[i])) (l.take i)
    refine wk ?_
    refine W.any Ext [.eq _, .eq _, .eq _, .eq _, .eq _, .eq _, .eq _, .eq _, .eq _] [8] mixed rfl Ext.refl Ext.trans Ext.drew ⟨qs, qs, by intro w_ hG; (repeat (intro v_ hv_; cases hv_)); exact WopG.plain rfl (Wop.sliceTo TT (h := i) rfl rfl rfl rfl rfl rfl (by omega) ⟨Ext.refl _, rfl⟩), qs, qs, qs, qs, by intro w_ hG; (repeat (intro v_ hv_; cases hv_)); exact WopG.plain rfl (Wop.fn en149 rfl (r4Place (hrow.ext (by decide) hG) hs) (fun v w' h => ⟨h.2, h.1⟩)), qs, trivial⟩ ?_
    rintro wq eq_ _ ⟨⟩
    refine wk ?_
    have hmem : (l.take i).any (fun x => decide (x = l[i])) = true ↔ l[i] ∈ l.take i := by
      simp only [List.any_eq_true, decide_eq_true_eq]
      exact ⟨fun ⟨x, hx, e⟩ => e ▸ hx, fun h => ⟨_, h, rfl⟩⟩
    refine W.test rfl (fun hy => ?_) (fun hno => ?_)
    · refine wk ?_
      refine Arr.ret1 rfl rfl ⟨congrArg Value.bool (decide_eq_false (fun hd => ?_)).symm, hE.trans eq_⟩
      exact ((nodup_step hlt').1 (nodup_take hd (i + 1))).2 (hmem.1 (hany.1 hy))
    · refine wk ?_
      exact Arr.again (i + 1) has ⟨hE.trans eq_, hlt, (nodup_step hlt').2 ⟨hp, fun h => hno (hany.2 (hmem.2 h))⟩⟩ (by omega)
  · refine wk ?_
    refine Arr.ret1 rfl rfl ⟨congrArg Value.bool (decide_eq_true ?_).symm, hE⟩
    rwa [List.take_of_length_le (by omega)] at hp
theorem runlike (hg : GramAt S w g A0 A1 A2 c0 c1 c2) : Calls Tryz.prog 99 [.agg (gcells g A0 A1 A2 c0 c1 c2).toArray].toArray w (Ret fun v w' => v = .bool g.unlike ∧ Ext w w') := by
  have h2 := hg.rules.2.1
  refine enter Tryz.func99 rfl Tryz.ntmps99 rfl ?_
  refine wk ?_; try (refine Wop.box rfl (fun w1 e1 b1 z1 => ?_); refine wk ?_)
  have hg1 := hg.ext e1
  refine W.loop (ι := Nat) (fun i => [(1, .pointer (some ⟨w.heap.size, 0, none⟩)), (3, .int .i64 (i : Int))])
    (fun i w' => Ext w1 w' ∧ i ≤ g.rules.length ∧ (g.rules.take i).Nodup) (fun i => g.rules.length - i) 0 has ⟨Ext.refl w1, Nat.zero_le _, by simp⟩ ?_
  rintro i w' ⟨hE, hi, hp⟩
  refine wk ?_
  refine W.test rfl (fun hlt => ?_) (fun hge => ?_)
  · have hlt : i < g.rules.length := by omega
    refine wk ?_
    refine W.loop (ι := Nat) (fun k => [(1, .pointer (some ⟨w.heap.size, 0, none⟩)), (3, .int .i64 (i : Int)), (4, .int .i64 (k : Int))])
      (fun k w' => Ext w1 w' ∧ k ≤ i ∧ ∀ j x, j < k → g.rules[j]? = some x → x ≠ g.rules[i]) (fun k => i - k) 0 has ⟨hE, Nat.zero_le _, fun j x hj => absurd hj (Nat.not_lt_zero j)⟩ ?_
    rintro k w2 ⟨hE2, hk, hq⟩
    refine wk ?_
    refine W.test rfl (fun hlk => ?_) (fun hgk => ?_)
    · have hlk : k < i := by omega
      have hrules := hg1.rules.ext (by decide) hE2
      have bb := b1.ext hE2
      obtain ⟨b, o, hA, es, hrd, hc⟩ := hrules.at_ i (by omega)
      subst hA
      obtain ⟨P, cp, rfl, h1, h2, h3⟩ := tRule_open hrd
      obtain ⟨b', o', hA, es', hrd', hc'⟩ := hrules.at_ k (by omega)
      cases hA
      obtain ⟨P', cp', rfl, h1', h2', h3'⟩ := tRule_open hrd'
      have v1 : VR w2 g.rules[i] _ := ⟨P, cp, rfl, h1, h2, h3.mono (fun _ _ => trivial)⟩
      have v2 : VR w2 g.rules[k] _ := ⟨P', cp', rfl, h1', h2', h3'.mono (fun _ _ => trivial)⟩
      refine wk ?_
      refine W.any Ext [.eq _, .eq _, .eq _, .eq _, .eq _, .eq _, .eq _, .eq _, .eq _, .eq _, .eq _] [10] mixed rfl Ext.refl Ext.trans Ext.drew ⟨qs, qs, qs, qs, qs, qs, qs, qs, qs, qs, by intro w_ hG; (repeat (intro v_ hv_; cases hv_)); exact WopG.plain rfl (Wop.fn en151 rfl (rSameRule (v1.ext hG) (v2.ext hG)) (fun v w' h => ⟨h.2, h.1⟩)), trivial⟩ ?_
      rintro wq eq_ _ ⟨⟩
      refine wk ?_
      refine W.cond rfl (fun hd => ?_) (fun hs => ?_)
      · refine wk ?_
        refine Arr.ret1 rfl rfl ⟨congrArg Value.bool (decide_eq_false (fun hn => ?_)).symm, e1.trans (hE2.trans eq_)⟩
        have hd := of_decide_eq_true hd
        refine ((nodup_step hlt).1 (nodup_take hn (i + 1))).2 ?_
        rw [List.mem_take_iff_getElem]
        exact ⟨k, by omega, hd.symm⟩
      · refine wk ?_
        refine Arr.again (i := k) (k + 1) has ⟨hE2.trans eq_, hlk, fun j x hj hx => ?_⟩ (by omega)
        rcases Nat.lt_or_ge j k with h | h
        · exact hq j x h hx
        · obtain rfl : j = k := by omega
          rw [List.getElem?_eq_getElem (by omega)] at hx
          cases hx
          exact fun e => of_decide_eq_false hs e.symm
    · refine wk ?_
      refine Arr.again (i := i) (i + 1) has ⟨hE2, hlt, (nodup_step hlt).2 ⟨hp, fun hm => ?_⟩⟩ (by omega)
      rw [List.mem_take_iff_getElem] at hm
      obtain ⟨j, hj, e⟩ := hm
      exact hq j _ (by omega) (List.getElem?_eq_getElem (by omega)) e
  · refine wk ?_
    refine Arr.ret1 rfl rfl ⟨congrArg Value.bool (decide_eq_true ?_).symm, e1.trans hE⟩
    rwa [List.take_of_length_le (by omega)] at hp
end Go.Proofs.YtbadjlhijbkbbaaGreat

/-
  The reference's known and Check.
-/
set_option linter.unusedVariables false
namespace Go.Proofs.YtbadjlhijbkbbaaGreat
open Go Go.RowKit Sx
variable {S : Nat → Prop} {w : World} {g : Gram} {A A0 A1 A2 : Option Addr} {n c c0 c1 c2 : Nat}
theorem rknown (hg : GramAt S w g A0 A1 A2 c0 c1 c2) : Calls Tryz.prog 98 [.agg (gcells g A0 A1 A2 c0 c1 c2).toArray].toArray w (Ret fun v w' => v = .bool (g.non g.start && g.rules.all g.known) ∧ Ext w w') := by
  have h1 := hg.nons.2.1
  have h2 := hg.rules.2.1
  refine enter Tryz.func98 rfl Tryz.ntmps98 rfl ?_
  refine wk ?_; try (refine Wop.box rfl (fun w1 e1 b1 z1 => ?_); refine wk ?_)
  have hg1 := hg.ext e1
  refine Wl.part rfl rfl rfl (fun hz => ?_) (fun hz => ?_)
  · refine wk ?_
    refine Arr.ret1 rfl rfl ⟨congrArg Value.bool ?_, e1⟩
    have : g.non g.start = false := decide_eq_false (by rw [Gram.top]; omega)
    rw [this, Bool.false_and]
  refine wk ?_
  refine Wop.fn en150 rfl (rNon hg1 g.start) ?_
  rintro _ w0 ⟨rfl, e2⟩
  refine wk ?_
  refine W.cond rfl (fun hs => ?_) (fun hs => ?_)
  · refine wk ?_
    refine Arr.ret1 rfl rfl ⟨congrArg Value.bool ?_, e1.trans e2⟩
    simp at hs
    rw [hs, Bool.false_and]
  simp at hs
  refine wk ?_
  refine W.loop (ι := Nat) (fun i => [(1, .pointer (some ⟨w.heap.size, 0, none⟩)), (3, .int .i64 (i : Int))])
    (fun i w' => Ext w1 w' ∧ i ≤ g.rules.length ∧ (g.rules.take i).all g.known = true) (fun i => g.rules.length - i) 0 has ⟨e2, Nat.zero_le _, by simp⟩ ?_
  rintro i w' ⟨hE, hi, ha⟩
  refine wk ?_
  refine W.test rfl (fun hlt => ?_) (fun hge => ?_)
  · have hlt : i < g.rules.length := by omega
    obtain ⟨b, o, rfl, es, hrd, hc⟩ := (hg1.rules.ext (by decide) hE).at_ i hlt
    obtain ⟨A, c, rfl, hcap, hl64, hrow⟩ := tRule_open hrd
    have hcell := hc 0 _ rfl
    have bb := b1.ext hE
    have hg2 := hg1.ext hE
    refine wk ?_
    refine W.any Ext [.eq _, .eq _, .eq _, .eq _, .eq _, .eq _, .eq _, .eq _, .eq _] [8] mixed rfl Ext.refl Ext.trans Ext.drew ⟨qs, qs, qs, qs, qs, qs, qs, by intro w_ hG; (repeat (intro v_ hv_; cases hv_)); exact WopG.plain rfl (Wop.fn en150 rfl (rNon (hg2.ext hG) _) (fun v w' h => ⟨h.2, h.1⟩)), qs, trivial⟩ ?_
    rintro wq eq_ _ ⟨⟩
    have e3 := hE.trans eq_
    refine wk ?_
    refine W.cond rfl (fun hn => ?_) (fun hn => ?_)
    · refine wk ?_
      refine Arr.ret1 rfl rfl ⟨congrArg Value.bool ?_, e1.trans e3⟩
      rw [all_false hlt (by simp at hn; simp [Gram.known, hn]), Bool.and_false]
    simp at hn
    have hrm := hrow.2.1
    refine wk ?_
    refine W.loop (ι := Nat) (fun k => [(1, .pointer (some ⟨w.heap.size, 0, none⟩)), (3, .int .i64 (i : Int)), (4, .int .i64 (k : Int))])
      (fun k w' => Ext w1 w' ∧ k ≤ g.rules[i].right.length ∧ (g.rules[i].right.take k).all (fun s => g.term s || g.non s) = true) (fun k => g.rules[i].right.length - k) 0 has ⟨e3, Nat.zero_le _, by simp⟩ ?_
    rintro k w2 ⟨hE2, hk, hq⟩
    have bb2 := b1.ext hE2
    have hg3 := hg1.ext hE2
    obtain ⟨b', o', hA, es, hrd, hc⟩ := (hg1.rules.ext (by decide) hE2).at_ i hlt
    cases hA
    obtain ⟨A', c', rfl, hcap', hl64', hrow'⟩ := tRule_open hrd
    have hcell1 := hc 1 _ rfl
    refine wk ?_
    refine W.test rfl (fun hlk => ?_) (fun hgk => ?_)
    · have hlk : k < g.rules[i].right.length := by omega
      obtain ⟨b2, o2, rfl, es2, ⟨rfl, hs2⟩, hc2⟩ := hrow'.at_ k hlk
      have hcell2 := hc2 0 _ rfl
      cases hterm : g.term g.rules[i].right[k] with
      | true =>
        refine wk ?_
        refine W.any Ext [.eq _, .eq _, .eq _, .eq _, .eq _, .eq _, .eq _, .eq _, .eq _, .eq _, .eq _, .eq _, .eq _, .eq _, .eq _, .eq _, .eq _, .eq _, .eq _, .eq _, .eq _, .eq _, .eq _, .eq _, .eq _, .eq _] [25] mixed rfl Ext.refl Ext.trans Ext.drew ⟨qs, qs, qs, qs, qs, qs, qs, qs, qs, qs, by intro w_ hG; (repeat (intro v_ hv_; cases hv_)); exact WopG.plain rfl (Wop.fn en146 rfl (rTerm _) (fun v w' h => ⟨h.2, h.1.trans (congrArg Value.bool hterm)⟩)), qs, qs, qs, qs, qs, qs, qs, qs, qs, qs, qs, qs, qs, qs, qs, trivial⟩ ?_
        rintro wq eq_ _ ⟨⟩
        refine wk ?_
        refine Arr.again (i := k) (k + 1) has ⟨hE2.trans eq_, hlk, all_take hlk hq (by simp [hterm])⟩ (by omega)
      | false =>
        refine wk ?_
        refine W.any Ext [.eq _, .eq _, .eq _, .eq _, .eq _, .eq _, .eq _, .eq _, .eq _, .eq _, .eq _, .eq _, .eq _, .eq _, .eq _, .eq _, .eq _, .eq _, .eq _, .eq _, .eq _, .eq _, .eq _, .eq _, .eq _, .eq _] [25] mixed rfl Ext.refl Ext.trans Ext.drew ⟨qs, qs, qs, qs, qs, qs, qs, qs, qs, qs, by intro w_ hG; (repeat (intro v_ hv_; cases hv_)); exact WopG.plain rfl (Wop.fn en146 rfl (rTerm _) (fun v w' h => ⟨h.2, h.1.trans (congrArg Value.bool hterm)⟩)), qs, qs, qs, qs, qs, qs, qs, qs, qs, qs, qs, qs, by intro w_ hG; (repeat (intro v_ hv_; cases hv_)); exact WopG.yes rfl rfl rfl rfl (Wop.fn en150 rfl (rNon (hg3.ext hG) _) (fun v w' h => ⟨h.2, h.1⟩)), qs, qs, trivial⟩ ?_
        rintro wq eq_ _ ⟨⟩
        refine wk ?_
        refine W.cond rfl (fun hy => ?_) (fun hy => ?_)
        · refine wk ?_
          refine Arr.ret1 rfl rfl ⟨congrArg Value.bool ?_, e1.trans (hE2.trans eq_)⟩
          simp at hy
          rw [all_false hlt (by rw [Gram.known, all_false hlk (by simp [hterm, hy]), Bool.and_false]), Bool.and_false]
        · refine wk ?_
          simp at hy
          refine Arr.again (i := k) (k + 1) has ⟨hE2.trans eq_, hlk, all_take hlk hq (by simp [hy])⟩ (by omega)
    · refine wk ?_
      rw [List.take_of_length_le (by omega)] at hq
      refine Arr.again (i := i) (i + 1) has ⟨hE2, hlt, all_take hlt ha (by rw [Gram.known, hn, hq]; rfl)⟩ (by omega)
  · refine wk ?_
    refine Arr.ret1 rfl rfl ⟨congrArg Value.bool ?_, e1.trans hE⟩
    rw [List.take_of_length_le (by omega)] at ha
    rw [hs, ha]
    rfl
theorem rCheck (hg : GramAt S w g A0 A1 A2 c0 c1 c2) : Calls Tryz.prog 43 [.agg (gcells g A0 A1 A2 c0 c1 c2).toArray].toArray w (Ret fun v w' => v = .int .i64 g.check ∧ Ext w w') := by
  have h0 := hg.terms.2.1
  have h1 := hg.nons.2.1
  have h2 := hg.rules.2.1
  refine enter Tryz.func43 rfl Tryz.ntmps43 rfl ?_
  refine wk ?_; try (refine Wop.box rfl (fun w1 e1 b1 z1 => ?_); refine wk ?_)
  have hg1 := hg.ext e1
  refine Wop.fn en94 rfl (rmany hg1) ?_
  rintro _ w2 ⟨rfl, e2⟩
  refine wk ?_
  refine W.cond rfl (fun q1 => ?_) (fun q1 => ?_)
  · refine wk ?_
    refine Arr.ret1 rfl rfl ⟨congrArg (Value.int .i64) ?_, e1.trans e2⟩
    rw [Gram.check, if_pos q1]
  refine wk ?_
  refine Wop.fn en95 rfl (rform (hg1.ext e2)) ?_
  rintro _ w3 ⟨rfl, e3⟩
  have e3' := e2.trans e3
  refine wk ?_
  refine W.cond rfl (fun q2 => ?_) (fun q2 => ?_)
  · refine wk ?_
    refine Arr.ret1 rfl rfl ⟨congrArg (Value.int .i64) ?_, e1.trans e3'⟩
    rw [Gram.check, if_neg (by simp [q1]), if_pos q2]
  refine wk ?_
  refine Wop.fn en97 rfl (r6names (hg1.ext e3') (by
    have : ¬ (120 < g.terms.length ∨ 120 < g.nons.length ∨ 300 < g.rules.length) := fun h => by simp [Gram.many, h] at q1
    simp only [Gram.names, List.length_append]
    omega)) ?_
  rintro _ w4 ⟨⟨A, c, rfl, hcap, hrow⟩, e4⟩
  refine wk ?_
  refine Wop.fn en96 rfl (ronce hrow hcap) ?_
  rintro _ w5 ⟨rfl, e5⟩
  have e5' := e3'.trans (e4.trans e5)
  refine wk ?_
  refine W.cond rfl (fun q3 => ?_) (fun q3 => ?_)
  · refine wk ?_
    refine Arr.ret1 rfl rfl ⟨congrArg (Value.int .i64) ?_, e1.trans e5'⟩
    rw [Gram.check, if_neg (by simp [q1]), if_neg (by simp [q2]), if_pos q3]
  refine wk ?_
  refine Wop.fn en98 rfl (rknown (hg1.ext e5')) ?_
  rintro _ w6 ⟨rfl, e6⟩
  have e6' := e5'.trans e6
  refine wk ?_
  refine W.cond rfl (fun q4 => ?_) (fun q4 => ?_)
  · refine wk ?_
    refine Arr.ret1 rfl rfl ⟨congrArg (Value.int .i64) ?_, e1.trans e6'⟩
    rw [Gram.check, if_neg (by simp [q1]), if_neg (by simp [q2]), if_neg (by simp [q3]), if_pos q4]
  refine wk ?_
  refine Wop.fn en99 rfl (runlike (hg1.ext e6')) ?_
  rintro _ w7 ⟨rfl, e7⟩
  have e7' := e6'.trans e7
  refine wk ?_
  refine W.cond rfl (fun q5 => ?_) (fun q5 => ?_)
  · refine wk ?_
    refine Arr.ret1 rfl rfl ⟨congrArg (Value.int .i64) ?_, e1.trans e7'⟩
    rw [Gram.check, if_neg (by simp [q1]), if_neg (by simp [q2]), if_neg (by simp [q3]), if_neg (by simp [q4]), if_pos q5]
  have hck : g.check = if (List.range g.nons.length).all (fun (i : Nat) => decide (g.of (g.terms.length + 1 + i) ≠ [])) then 0 else 9 := by
    rw [Gram.check, if_neg (by simp [q1]), if_neg (by simp [q2]), if_neg (by simp [q3]), if_neg (by simp [q4]), if_neg (by simp [q5])]
  refine wk ?_
  refine W.loop (ι := Nat) (fun i => [(1, .pointer (some ⟨w.heap.size, 0, none⟩)), (3, .int .i64 (i : Int))])
    (fun i w' => Ext w1 w' ∧ i ≤ g.nons.length ∧ ∀ j, j < i → g.of (g.terms.length + 1 + (j : Int)) ≠ []) (fun i => g.nons.length - i) 0 has ⟨e7', Nat.zero_le _, fun j hj => absurd hj (Nat.not_lt_zero j)⟩ ?_
  rintro i w' ⟨hE, hi, ha⟩
  refine wk ?_
  refine W.test rfl (fun hlt => ?_) (fun hge => ?_)
  · have hlt : i < g.nons.length := by omega
    refine wk ?_
    refine Wop.fn en100 rfl (rOf (hg1.ext hE) ((g.terms.length + 1 : Nat) + (i : Int))) ?_
    rintro v w8 ⟨ho, e8⟩
    obtain ⟨A, c, rfl, hcap⟩ := ho.slice
    have e8' := hE.trans e8
    refine wk ?_
    refine W.test rfl (fun hz => ?_) (fun hz => ?_)
    · refine wk ?_
      refine Arr.ret1 rfl rfl ⟨congrArg (Value.int .i64) ?_, e1.trans e8'⟩
      rw [hck, if_neg]
      intro hall
      rw [List.all_eq_true] at hall
      have := of_decide_eq_true (hall i (List.mem_range.2 hlt))
      exact this (List.eq_nil_of_length_eq_zero (Int.natCast_eq_zero.1 hz))
    · refine wk ?_
      refine Arr.again (i + 1) has ⟨e8', hlt, fun j hj => ?_⟩ (by omega)
      rcases Nat.lt_or_ge j i with h | h
      · exact ha j h
      · obtain rfl : j = i := by omega
        intro hnil
        apply hz
        show ((g.of ((g.terms.length : Int) + 1 + (j : Int))).length : Int) = 0
        rw [hnil]
        rfl
  · refine wk ?_
    refine Arr.ret1 rfl rfl ⟨congrArg (Value.int .i64) ?_, e1.trans hE⟩
    rw [hck, if_pos]
    rw [List.all_eq_true]
    intro j hj
    exact decide_eq_true (ha j (by have := List.mem_range.1 hj; omega))
end Go.Proofs.YtbadjlhijbkbbaaGreat

/-
  gram.Check.
-/
set_option linter.unusedVariables false
namespace Go.Proofs.YtbadjlhijbkbbaaGreat
open Go Go.RowKit Sx
variable {S : Nat → Prop} {w : World} {g : Gram} {A A0 A1 A2 : Option Addr} {n c c0 c1 c2 : Nat}
/-- The closures of Check. -/
theorem checkC1 : PredR 131 [] w (fun r => decide (r.right.length ≤ 8)) := by
  intro w0 e0 x v hv
  obtain ⟨A, c, rfl, hc, hl, h⟩ := hv
  have hm := h.2.1
  refine enter Tryz.func131 rfl Tryz.ntmps131 rfl ?_
  refine wk ?_; try (refine Wop.box rfl (fun w1 e1 b1 z1 => ?_); refine wk ?_)
  refine Arr.ret1 rfl rfl ⟨congrArg Value.bool (decide_eq_decide.2 (by omega)), e1⟩
theorem checkC2 : PredS 134 [] w (fun s => plainOk s || quotedOk s) := by
  rintro w0 e0 x v ⟨rfl, hs⟩
  refine enter Tryz.func134 rfl Tryz.ntmps134 rfl ?_
  refine wk ?_
  refine Wop.fn en135 rfl (gplain x hs) ?_
  rintro _ w2 ⟨rfl, e2⟩
  refine wk ?_
  refine Wl.partB rfl rfl rfl (fun p => ?_) (fun p => ?_)
  · refine wk ?_
    exact Arr.ret1 rfl rfl ⟨congrArg Value.bool (by simp [p]), e2⟩
  · refine wk ?_
    refine Wop.fn en136 rfl (gQuoted x hs) ?_
    rintro _ w3 ⟨rfl, e3⟩
    refine wk ?_
    exact Arr.ret1 rfl rfl ⟨congrArg Value.bool (by simp [p]), e2.trans e3⟩
theorem plainP : PredS 135 [] w plainOk := by
  rintro w0 e0 x v ⟨rfl, hs⟩
  exact gplain x hs
/-- A grammar in a cell of its own. -/
def GramBox (w : World) (b : Nat) (g : Gram) : Prop := ∃ A0 A1 A2 c0 c1 c2 u, Blk w b (gcells g A0 A1 A2 c0 c1 c2).toArray u ∧ GramAt (fun _ => True) w g A0 A1 A2 c0 c1 c2
theorem GramBox.ext {w w' : World} {b : Nat} (h : GramBox w b g) (e : Ext w w') : GramBox w' b g := by
  obtain ⟨A0, A1, A2, c0, c1, c2, u, hb, hg⟩ := h
  exact ⟨A0, A1, A2, c0, c1, c2, u, hb.ext e, hg.ext e⟩
theorem knownC {b : Nat} (hb : GramBox w b g) : PredI 189 [.pointer (some ⟨b, 0, none⟩)] w (fun s => g.term s || g.non s) := by
  rintro w0 e0 x v ⟨rfl, hs⟩
  obtain ⟨A0, A1, A2, c0, c1, c2, u, hb0, hg⟩ := hb.ext e0
  refine enter Tryz.func189 rfl Tryz.ntmps189 rfl ?_
  refine wk ?_
  refine Wop.fn en120 rfl (gTerm x) ?_
  rintro _ w2 ⟨rfl, e2⟩
  refine wk ?_
  refine Wl.partB rfl rfl rfl (fun p => ?_) (fun p => ?_)
  · refine wk ?_
    exact Arr.ret1 rfl rfl ⟨congrArg Value.bool (by simp [p]), e2⟩
  · refine wk ?_
    refine Wop.fn en105 rfl (gNon (hg.ext e2) x) ?_
    rintro _ w3 ⟨rfl, e3⟩
    refine wk ?_
    exact Arr.ret1 rfl rfl ⟨congrArg Value.bool (by simp [p]), e2.trans e3⟩
theorem GramAt.all {w : World} (hg : GramAt S w g A0 A1 A2 c0 c1 c2) : GramAt (fun _ => True) w g A0 A1 A2 c0 c1 c2 :=
  ⟨hg.terms.mono (fun _ _ => trivial), hg.nons.mono (fun _ _ => trivial), hg.rules.mono (fun _ _ => trivial), hg.start, hg.cap0, hg.cap1, hg.cap2⟩
theorem gknown (hg : GramAt S w g A0 A1 A2 c0 c1 c2) {r : Rule} {u : Value} (hr : VR w r u) : Calls Tryz.prog 139 [.agg (gcells g A0 A1 A2 c0 c1 c2).toArray, u].toArray w (Ret fun v w' => v = .bool (g.known r) ∧ Ext w w') := by
  obtain ⟨A, c, rfl, hc, hl, h⟩ := hr
  refine enter Tryz.func139 rfl Tryz.ntmps139 rfl ?_
  refine wk ?_
  refine Wop.box rfl (fun w1 e1 b1 z1 => ?_)
  refine wk ?_
  refine Wop.box rfl (fun w2 e2 b2 z2 => ?_)
  have e12 := e1.trans e2
  refine wk ?_
  refine Wop.fn en105 rfl (gNon (hg.ext e12) _) ?_
  rintro _ w3 ⟨rfl, e3⟩
  have e23 := e2.trans e3
  refine wk ?_
  refine Wl.partB rfl rfl rfl (fun p => ?_) (fun p => ?_)
  · refine wk ?_
    refine Wop.fn en188 rfl (allI (h.ext (by decide) (e12.trans e3)) en189 (cap := [.pointer (some ⟨w.heap.size, 0, none⟩)]) (knownC ⟨A0, A1, A2, c0, c1, c2, _, b1.ext e23, (hg.ext (e12.trans e3)).all⟩)) ?_
    rintro _ w4 ⟨rfl, e4⟩
    refine wk ?_
    refine Arr.ret1 rfl rfl ⟨congrArg Value.bool ?_, (e12.trans e3).trans e4⟩
    rw [Gram.known, p]
    rfl
  · refine wk ?_
    refine Arr.ret1 rfl rfl ⟨congrArg Value.bool ?_, e12.trans e3⟩
    rw [Gram.known, p]
    rfl
theorem checkC3 {b : Nat} (hb : GramBox w b g) : PredR 138 [.pointer (some ⟨b, 0, none⟩)] w g.known := by
  intro w0 e0 x v hv
  obtain ⟨A0, A1, A2, c0, c1, c2, u, hb0, hg⟩ := hb.ext e0
  obtain ⟨A, c, rfl, hx⟩ := hv
  refine enter Tryz.func138 rfl Tryz.ntmps138 rfl ?_
  refine wk ?_; try (refine Wop.box rfl (fun w1 e1 b1 z1 => ?_); refine wk ?_)
  refine Wop.fn en139 rfl (gknown (hg.ext e1) (VR.ext e1 ⟨A, c, rfl, hx⟩)) ?_
  rintro _ w2 ⟨rfl, e2⟩
  refine wk ?_
  exact Arr.ret1 rfl rfl ⟨rfl, e1.trans e2⟩
end Go.Proofs.YtbadjlhijbkbbaaGreat

/-
  gram.Check, walked.
-/
set_option linter.unusedVariables false
namespace Go.Proofs.YtbadjlhijbkbbaaGreat
open Go Go.RowKit Sx
variable {S : Nat → Prop} {w : World} {g : Gram} {A A0 A1 A2 : Option Addr} {n c c0 c1 c2 : Nat}
theorem unlikeC {xs : List Rule} {i b1 b2 b3 : Nat} {u1 u2 u3 : TypeId} (hx : tRule.Row S w A n xs) (hi : i < xs.length) (h1 : Blk w b1 #[.func (.func 141) #[] #[]] u1) (h2 : Blk w b2 #[.slice A n c] u2) (h3 : Blk w b3 #[.int .i64 (i : Int)] u3) :
    PredR 190 [.pointer (some ⟨b1, 0, none⟩), .pointer (some ⟨b2, 0, none⟩), .pointer (some ⟨b3, 0, none⟩)] w (fun r => decide (r = xs[i])) := by
  intro w0 e0 x v hv
  obtain ⟨A', c', rfl, hx'⟩ := hv
  have k1 := h1.ext e0
  have k2 := h2.ext e0
  have k3 := h3.ext e0
  have hl := hx.1
  refine enter Tryz.func190 rfl Tryz.ntmps190 rfl ?_
  refine wk ?_
  refine Wop.box rfl (fun w1 e1 b1' z1 => ?_)
  have g1 := k1.ext e1
  have g2 := k2.ext e1
  have g3 := k3.ext e1
  obtain ⟨b, o, rfl, es, hrd, hc⟩ := (hx.ext (by decide) (e0.trans e1)).at_ i hi
  obtain ⟨P, cp, rfl, q1, q2, q3⟩ := tRule_open hrd
  have v1 : VR w1 x _ := VR.ext e1 ⟨A', c', rfl, hx'⟩
  have v2 : VR w1 xs[i] _ := ⟨P, cp, rfl, q1, q2, q3.mono (fun _ _ => trivial)⟩
  refine wk ?_
  refine W.any Ext [.eq _, .eq _, .eq _, .eq _, .eq _, .eq _, .eq _, .eq _] [7] mixed rfl Ext.refl Ext.trans Ext.drew ⟨qs, qs, qs, qs, qs, qs, by intro w_ hG; (repeat (intro v_ hv_; cases hv_)); exact WopG.plain rfl (Wop.fnV (cap := []) en141 rfl rfl (gSameRule (v1.ext hG) (v2.ext hG)) (fun v w' h => ⟨h.2, h.1⟩)), qs, trivial⟩ ?_
  rintro wq eq_ _ ⟨⟩
  refine wk ?_
  exact Arr.ret1 rfl rfl ⟨rfl, e1.trans eq_⟩
theorem gunlike {xs : List Rule} (hx : tRule.Row S w A n xs) (hn : n ≤ c) : Calls Tryz.prog 140 [.slice A n c, .func (.func 141) #[] #[]].toArray w (Ret fun v w' => v = .bool (decide xs.Nodup) ∧ Ext w w') := by
  have hl := hx.1
  have hm := hx.2.1
  refine enter Tryz.func140 rfl Tryz.ntmps140 rfl ?_
  refine wk ?_
  refine Wop.box rfl (fun w1 e1 b1 z1 => ?_)
  refine wk ?_
  refine Wop.box rfl (fun w2 e2 b2 z2 => ?_)
  have e12 := e1.trans e2
  refine wk ?_
  refine W.loop (ι := Nat) (fun i => [(2, .pointer (some ⟨w.heap.size, 0, none⟩)), (3, .pointer (some ⟨w1.heap.size, 0, none⟩)), (7, .int .i64 (n : Int)), (8, .int .i64 (i : Int))])
    (fun i w' => Ext w2 w' ∧ i ≤ n ∧ (xs.take i).Nodup) (fun i => n - i) 0 has ⟨Ext.refl w2, Nat.zero_le _, by simp⟩ ?_
  rintro i w' ⟨hE, hi, hp⟩
  refine wk ?_
  refine W.test rfl (fun hlt => ?_) (fun hge => ?_)
  · have hlt : i < n := by omega
    have hlt' : i < xs.length := by omega
    refine wk ?_
    refine Wop.alloc (z := .int .i64 0) Tryz.zeroValue3 (fun w3 e3 b3 z3 => ?_)
    refine wk ?_
    refine Wop.stC TT rfl rfl rfl rfl b3 rfl (fun w4 g4 b4 z4 k4 => ?_)
    have e4 : Ext w' w4 := Below.trans e3 g4
    have e4' := hE.trans e4
    have e24 := e2.trans e4'
    have bb1 := b1.ext e24
    have bb2 := b2.ext e4'
    have hx4 := hx.ext (by decide) (e12.trans e4')
    refine wk ?_
    refine Wop.sliceTo TT (h := i) rfl rfl rfl rfl rfl rfl (by omega) ?_
    refine wk ?_
    refine Wop.fn en181 rfl (containsFuncR (hx4.take i (by omega)) en190 (cap := [.pointer (some ⟨w1.heap.size, 0, none⟩), .pointer (some ⟨w.heap.size, 0, none⟩), .pointer (some ⟨w'.heap.size, 0, none⟩)]) (unlikeC hx4 hlt' bb2 bb1 b4)) ?_
    rintro _ w5 ⟨rfl, e5⟩
    have hmem : (xs.take i).any (fun r => decide (r = xs[i])) = true ↔ xs[i] ∈ xs.take i := by
      simp only [List.any_eq_true, decide_eq_true_eq]
      exact ⟨fun ⟨x, hx, e⟩ => e ▸ hx, fun h => ⟨_, h, rfl⟩⟩
    refine wk ?_
    refine W.cond rfl (fun hy => ?_) (fun hno => ?_)
    · refine wk ?_
      refine Arr.ret1 rfl rfl ⟨congrArg Value.bool (decide_eq_false (fun hd => ?_)).symm, e12.trans (e4'.trans e5)⟩
      exact ((nodup_step hlt').1 (nodup_take hd (i + 1))).2 (hmem.1 hy)
    · refine wk ?_
      exact Arr.again (i + 1) has ⟨e4'.trans e5, hlt, (nodup_step hlt').2 ⟨hp, fun h => by rw [hmem.2 h] at hno; cases hno⟩⟩ (by omega)
  · refine wk ?_
    refine Arr.ret1 rfl rfl ⟨congrArg Value.bool (decide_eq_true ?_).symm, e12.trans hE⟩
    rwa [List.take_of_length_le (by omega)] at hp
end Go.Proofs.YtbadjlhijbkbbaaGreat

/-
  gram.Check, whole.
-/
set_option linter.unusedVariables false
namespace Go.Proofs.YtbadjlhijbkbbaaGreat
open Go Go.RowKit Sx
variable {S : Nat → Prop} {w : World} {g : Gram} {A A0 A1 A2 : Option Addr} {n c c0 c1 c2 : Nat}
theorem gCheck (hg : GramAt S w g A0 A1 A2 c0 c1 c2) : Calls Tryz.prog 85 [.agg (gcells g A0 A1 A2 c0 c1 c2).toArray].toArray w (Ret fun v w' => v = .int .i64 g.check ∧ Ext w w') := by
  have h0 := hg.terms.2.1
  have h1 := hg.nons.2.1
  have h2 := hg.rules.2.1
  refine enter Tryz.func85 rfl Tryz.ntmps85 rfl ?_
  refine wk ?_; try (refine Wop.box rfl (fun w1 e1 b1 z1 => ?_); refine wk ?_)
  have hg1 := hg.ext e1
  have big : (120 < g.terms.length ∨ 120 < g.nons.length ∨ 300 < g.rules.length) → ∀ w', Ext w1 w' → (Value.int .i64 7 = .int .i64 g.check ∧ Ext w w') := by
    intro h w' hE
    refine ⟨congrArg (Value.int .i64) ?_, e1.trans hE⟩
    rw [Gram.check, if_pos]
    rw [Gram.many, decide_eq_true h]
    rfl
  refine Wl.part rfl rfl rfl (fun p1 => ?_) (fun p1 => ?_)
  · refine wk ?_
    exact Arr.ret1 rfl rfl (big (.inl (by omega)) _ (Ext.refl _))
  refine wk ?_
  refine Wl.part rfl rfl rfl (fun p2 => ?_) (fun p2 => ?_)
  · refine wk ?_
    exact Arr.ret1 rfl rfl (big (.inr (.inl (by omega))) _ (Ext.refl _))
  refine wk ?_
  refine Wl.part rfl rfl rfl (fun p3 => ?_) (fun p3 => ?_)
  · refine wk ?_
    exact Arr.ret1 rfl rfl (big (.inr (.inr (by omega))) _ (Ext.refl _))
  refine wk ?_
  refine Wop.fn en132 rfl (allR hg1.rules en131 (cap := []) checkC1) ?_
  rintro _ w2 ⟨rfl, e2⟩
  have hmany : g.many = !g.rules.all (fun r => decide (r.right.length ≤ 8)) := by
    rw [Gram.many, decide_eq_false (by omega)]
    rfl
  refine wk ?_
  refine W.cond rfl (fun q1 => ?_) (fun q1 => ?_)
  · refine wk ?_
    refine Arr.ret1 rfl rfl ⟨congrArg (Value.int .i64) ?_, e1.trans e2⟩
    rw [Gram.check, if_pos (by rw [hmany]; exact q1)]
  rw [← hmany] at q1
  refine wk ?_
  refine Wop.fn en133 rfl (allS (hg1.terms.ext (by decide) e2) en134 (cap := []) checkC2) ?_
  rintro _ w3 ⟨rfl, e3⟩
  have e3' := e2.trans e3
  refine wk ?_
  refine Wl.partB rfl rfl rfl (fun p4 => ?_) (fun p4 => ?_)
  · refine wk ?_
    refine Arr.ret1 rfl rfl ⟨congrArg (Value.int .i64) ?_, e1.trans e3'⟩
    rw [Gram.check, if_neg (by simp [q1]), if_pos]
    simp only [Bool.not_eq_true'] at p4
    rw [Gram.form, p4]
    rfl
  simp only [Bool.not_eq_false'] at p4
  refine wk ?_
  refine Wop.fn en133 rfl (allS (hg1.nons.ext (by decide) e3') en135 (cap := []) plainP) ?_
  rintro _ w4 ⟨rfl, e4⟩
  have e4' := e3'.trans e4
  have hform : g.form = g.nons.all plainOk := by
    rw [Gram.form, p4]
    rfl
  refine wk ?_
  refine W.cond rfl (fun q2 => ?_) (fun q2 => ?_)
  · refine wk ?_
    refine Arr.ret1 rfl rfl ⟨congrArg (Value.int .i64) ?_, e1.trans e4'⟩
    rw [Gram.check, if_neg (by simp [q1]), if_pos (by rw [hform]; exact q2)]
  rw [← hform] at q2
  refine wk ?_
  refine Wop.fn en137 rfl (gOnce (hg1.ext e4') (by simp only [Gram.names, List.length_append]; omega)) ?_
  rintro _ w5 ⟨rfl, e5⟩
  have e5' := e4'.trans e5
  refine wk ?_
  refine W.cond rfl (fun q3 => ?_) (fun q3 => ?_)
  · refine wk ?_
    refine Arr.ret1 rfl rfl ⟨congrArg (Value.int .i64) ?_, e1.trans e5'⟩
    rw [Gram.check, if_neg (by simp [q1]), if_neg (by simp [q2]), if_pos q3]
  refine wk ?_
  refine Wop.fn en105 rfl (gNon (hg1.ext e5') g.start) ?_
  rintro _ w6 ⟨rfl, e6⟩
  have e6' := e5'.trans e6
  refine wk ?_
  refine Wl.partB rfl rfl rfl (fun p5 => ?_) (fun p5 => ?_)
  · refine wk ?_
    refine Arr.ret1 rfl rfl ⟨congrArg (Value.int .i64) ?_, e1.trans e6'⟩
    simp only [Bool.not_eq_true'] at p5
    rw [Gram.check, if_neg (by simp [q1]), if_neg (by simp [q2]), if_neg (by simp [q3]), if_pos (by rw [p5]; rfl)]
  simp only [Bool.not_eq_false'] at p5
  refine wk ?_
  refine Wop.fn en132 rfl (allR (hg1.rules.ext (by decide) e6') en138 (cap := [.pointer (some ⟨w.heap.size, 0, none⟩)]) (checkC3 ⟨A0, A1, A2, c0, c1, c2, _, b1.ext e6', (hg1.ext e6').all⟩)) ?_
  rintro _ w7 ⟨rfl, e7⟩
  have e7' := e6'.trans e7
  refine wk ?_
  refine W.cond rfl (fun q4 => ?_) (fun q4 => ?_)
  · refine wk ?_
    refine Arr.ret1 rfl rfl ⟨congrArg (Value.int .i64) ?_, e1.trans e7'⟩
    simp only [Bool.not_eq_true'] at q4
    rw [Gram.check, if_neg (by simp [q1]), if_neg (by simp [q2]), if_neg (by simp [q3]), if_pos (by rw [p5, q4]; rfl)]
  simp only [Bool.not_eq_false'] at q4
  refine wk ?_
  refine Wop.fn en140 rfl (gunlike (hg1.rules.ext (by decide) e7') hg.cap2) ?_
  rintro _ w8 ⟨rfl, e8⟩
  have e8' := e7'.trans e8
  refine wk ?_
  refine W.cond rfl (fun q5 => ?_) (fun q5 => ?_)
  · refine wk ?_
    refine Arr.ret1 rfl rfl ⟨congrArg (Value.int .i64) ?_, e1.trans e8'⟩
    rw [Gram.check, if_neg (by simp [q1]), if_neg (by simp [q2]), if_neg (by simp [q3]), if_neg (by rw [p5, q4]; simp), if_pos (by rw [Gram.unlike]; exact q5)]
  have hck : g.check = if (List.range g.nons.length).all (fun (i : Nat) => decide (g.of (g.terms.length + 1 + i) ≠ [])) then 0 else 9 := by
    rw [Gram.check, if_neg (by simp [q1]), if_neg (by simp [q2]), if_neg (by simp [q3]), if_neg (by rw [p5, q4]; simp), if_neg (fun h => by rw [Gram.unlike, q5] at h; cases h)]
  refine wk ?_
  refine W.loop (ι := Nat) (fun i => [(1, .pointer (some ⟨w.heap.size, 0, none⟩)), (4, .int .i64 ((g.terms.length : Int) + 1 + i))])
    (fun i w' => Ext w1 w' ∧ i ≤ g.nons.length ∧ ∀ j, j < i → g.of (g.terms.length + 1 + (j : Int)) ≠ []) (fun i => g.nons.length - i) 0 (by refine Has.cons rfl (Has.cons ?_ Has.nil); simp) ⟨e8', Nat.zero_le _, fun j hj => absurd hj (Nat.not_lt_zero j)⟩ ?_
  rintro i w' ⟨hE, hi, ha⟩
  refine wk ?_
  refine Wop.fn en116 rfl (gTop (hg1.ext hE)) ?_
  rintro _ w9 ⟨rfl, e9⟩
  have e9' := hE.trans e9
  have htop : g.top = (g.terms.length : Int) + g.nons.length := rfl
  refine wk ?_
  refine W.test rfl (fun hlt => ?_) (fun hge => ?_)
  · have hlt : i < g.nons.length := by omega
    refine wk ?_
    refine Wop.fn en106 rfl (gOf (hg1.ext e9') ((g.terms.length : Int) + 1 + (i : Int))) ?_
    rintro v w10 ⟨ho, e10⟩
    obtain ⟨A, c, rfl, hcap⟩ := ho.slice
    have e10' := e9'.trans e10
    refine wk ?_
    refine W.test rfl (fun hz => ?_) (fun hz => ?_)
    · refine wk ?_
      refine Arr.ret1 rfl rfl ⟨congrArg (Value.int .i64) ?_, e1.trans e10'⟩
      rw [hck, if_neg]
      intro hall
      rw [List.all_eq_true] at hall
      have := of_decide_eq_true (hall i (List.mem_range.2 hlt))
      exact this (List.eq_nil_of_length_eq_zero (Int.natCast_eq_zero.1 hz))
    · refine wk ?_
      refine Arr.again (i + 1) (by refine Has.cons rfl (Has.cons ?_ Has.nil); simp; omega) ⟨e10', hlt, fun j hj => ?_⟩ (by omega)
      rcases Nat.lt_or_ge j i with h | h
      · exact ha j h
      · obtain rfl : j = i := by omega
        intro hnil
        apply hz
        show ((g.of ((g.terms.length : Int) + 1 + (j : Int))).length : Int) = 0
        rw [hnil]
        rfl
  · refine wk ?_
    refine Arr.ret1 rfl rfl ⟨congrArg (Value.int .i64) ?_, e1.trans e9'⟩
    rw [hck, if_pos]
    rw [List.all_eq_true]
    intro j hj
    exact decide_eq_true (ha j (by have := List.mem_range.1 hj; omega))
end Go.Proofs.YtbadjlhijbkbbaaGreat
