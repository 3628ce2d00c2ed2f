/-
  Parts of the reference's Check.
-/
import Derived.Test.YtbadjlhijbkbbaaOnce
import Derived.Test.YtbadjlhijbkbbaaQur
import Derived.Test.YtbadjlhijbkbbaaG6
set_option linter.unusedVariables false
namespace Go.Proofs.Ytbadjlhijbkbbaa
open Go Go.RowKit Sx
variable {S : Nat → Prop} {w : World} {g : Gram} {A0 A1 A2 : Option Addr} {c0 c1 c2 : Nat}
namespace Gram
def many (g : Gram) : Bool := decide (120 < g.terms.length ∨ 120 < g.nons.length ∨ 300 < g.rules.length) || !g.rules.all (fun r => decide (r.right.length ≤ 8))
def form (g : Gram) : Bool := g.terms.all (fun s => plainOk s || quotedOk s) && g.nons.all plainOk
def known (g : Gram) (r : Rule) : Bool := g.non r.left && r.right.all (fun s => g.term s || g.non s)
def unlike (g : Gram) : Bool := decide g.rules.Nodup
def check (g : Gram) : Int := if g.many then 7 else if !g.form then 10 else if !decide g.names.Nodup then 8 else if !(g.non g.start && g.rules.all g.known) then 1 else if !g.unlike then 8 else
  if (List.range g.nons.length).all (fun (i : Nat) => decide (g.of (g.terms.length + 1 + i) ≠ [])) then 0 else 9
end Gram
theorem all_take {α : Type} {p : α → Bool} {l : List α} {i : Nat} (h : i < l.length) (h1 : (l.take i).all p = true) (h2 : p l[i] = true) : (l.take (i + 1)).all p = true := by
  rw [List.take_succ_eq_append_getElem h, List.all_append, h1]
  simp [h2]
theorem all_false {α : Type} {p : α → Bool} {l : List α} {i : Nat} (h : i < l.length) (h2 : p l[i] = false) : l.all p = false := by
  rw [List.all_eq_false]
  exact ⟨l[i], List.getElem_mem h, by simp [h2]⟩
theorem rmany (hg : GramAt S w g A0 A1 A2 c0 c1 c2) : Calls Try.prog 82 [.agg (gcells g A0 A1 A2 c0 c1 c2).toArray].toArray w (Ret fun v w' => v = .bool g.many ∧ Ext w w') := by
  have h0 := hg.terms.2.1
  have h1 := hg.nons.2.1
  have h2 := hg.rules.2.1
  refine enter Try.func82 rfl Try.ntmps82 rfl ?_
  refine wk ?_; try (refine Wop.box rfl (fun w1 e1 b1 z1 => ?_); refine wk ?_)
  have hg1 := hg.ext e1
  refine W.loop (ι := Nat) (fun i => [(1, .pointer (some ⟨w.heap.size, 0, none⟩)), (3, .int .i64 (i : Int))])
    (fun i w' => Ext w1 w' ∧ i ≤ g.rules.length ∧ (g.rules.take i).all (fun r => decide (r.right.length ≤ 8)) = true) (fun i => g.rules.length - i) 0 has ⟨Ext.refl w1, Nat.zero_le _, by simp⟩ ?_
  rintro i w' ⟨hE, hi, ha⟩
  refine wk ?_
  refine W.test rfl (fun hlt => ?_) (fun hge => ?_)
  · have hlt : i < g.rules.length := by omega
    obtain ⟨b, o, rfl, es, hrd, hc⟩ := (hg1.rules.ext (by decide) hE).at_ i hlt
    obtain ⟨A, c, rfl, hcap, hl64, hrow⟩ := tRule_open hrd
    have hcell := hc 1 _ rfl
    have hrm := hrow.2.1
    refine wk ?_
    refine W.test rfl (fun h => ?_) (fun h => ?_)
    · refine wk ?_
      refine Arr.ret1 rfl rfl ⟨congrArg Value.bool ?_, e1.trans hE⟩
      rw [Gram.many, all_false hlt (decide_eq_false (by omega))]
      simp
    · refine wk ?_
      exact Arr.again (i + 1) has ⟨hE, hlt, all_take hlt ha (decide_eq_true (by omega))⟩ (by omega)
  · have : i = g.rules.length := by omega
    subst this
    rw [List.take_length] at ha
    have key : ∀ p : Bool, p = decide (120 < g.terms.length ∨ 120 < g.nons.length ∨ 300 < g.rules.length) → p = g.many := by
      intro p hp
      rw [Gram.many, ha, hp]
      simp
    refine wk ?_
    refine Wl.part rfl rfl rfl (fun p1 => ?_) (fun p1 => ?_)
    · refine wk ?_
      exact Arr.ret1 rfl rfl ⟨congrArg Value.bool (key _ (decide_eq_true (by omega)).symm), e1.trans hE⟩
    · refine wk ?_
      refine Wl.part rfl rfl rfl (fun p2 => ?_) (fun p2 => ?_)
      · refine wk ?_
        exact Arr.ret1 rfl rfl ⟨congrArg Value.bool (key _ (decide_eq_true (by omega)).symm), e1.trans hE⟩
      · refine wk ?_
        exact Arr.ret1 rfl rfl ⟨congrArg Value.bool (key _ (decide_eq_decide.2 (by omega))), e1.trans hE⟩
theorem rform (hg : GramAt S w g A0 A1 A2 c0 c1 c2) : Calls Try.prog 83 [.agg (gcells g A0 A1 A2 c0 c1 c2).toArray].toArray w (Ret fun v w' => v = .bool g.form ∧ Ext w w') := by
  have h0 := hg.terms.2.1
  have h1 := hg.nons.2.1
  refine enter Try.func83 rfl Try.ntmps83 rfl ?_
  refine wk ?_; try (refine Wop.box rfl (fun w1 e1 b1 z1 => ?_); refine wk ?_)
  have hg1 := hg.ext e1
  refine W.midB (ι := Unit) (fun _ => [(1, .pointer (some ⟨w.heap.size, 0, none⟩))]) (fun _ w' => Ext w1 w' ∧ g.terms.all (fun s => plainOk s || quotedOk s) = true) ?_ ?_
  · refine W.loop (ι := Nat) (fun i => [(1, .pointer (some ⟨w.heap.size, 0, none⟩)), (3, .int .i64 (i : Int))])
      (fun i w' => Ext w1 w' ∧ i ≤ g.terms.length ∧ (g.terms.take i).all (fun s => plainOk s || quotedOk s) = true) (fun i => g.terms.length - i) 0 has ⟨Ext.refl w1, Nat.zero_le _, by simp⟩ ?_
    rintro i w' ⟨hE, hi, ha⟩
    refine wk ?_
    refine W.test rfl (fun hlt => ?_) (fun hge => ?_)
    · have hlt : i < g.terms.length := by omega
      obtain ⟨b, o, rfl, es, ⟨rfl, hsz⟩, hc⟩ := (hg1.terms.ext (by decide) hE).at_ i hlt
      have hcell := hc 0 _ rfl
      refine wk ?_
      refine Wop.fn en136 rfl (rplain _ hsz) ?_
      rintro _ w2 ⟨rfl, e2⟩
      have e2' := hE.trans e2
      have hcell2 := e2.cell hcell
      refine wk ?_
      refine Wl.partB rfl rfl rfl (fun p => ?_) (fun p => ?_)
      · refine wk ?_
        refine Wop.fn en137 rfl (rQuoted _ hsz) ?_
        rintro _ w3 ⟨rfl, e3⟩
        have e3' := e2'.trans e3
        refine wk ?_
        refine W.cond rfl (fun q => ?_) (fun q => ?_)
        · refine wk ?_
          refine Arr.ret1 rfl rfl ⟨congrArg Value.bool ?_, e1.trans e3'⟩
          rw [Gram.form, all_false hlt (by simp at p q; simp [p, q])]
          rfl
        · refine wk ?_
          exact Arr.again (i + 1) has ⟨e3', hlt, all_take hlt ha (by simp at q; simp [q])⟩ (by omega)
      · refine wk ?_
        exact Arr.again (i + 1) has ⟨e2', hlt, all_take hlt ha (by simp at p; simp [p])⟩ (by omega)
    · have : i = g.terms.length := by omega
      subst this
      rw [List.take_length] at ha
      refine wk ?_
      exact Arr.mid () has ⟨hE, ha⟩
  · rintro _ w0 ⟨hE0, ht⟩
    refine wk ?_
    refine W.loop (ι := Nat) (fun i => [(1, .pointer (some ⟨w.heap.size, 0, none⟩)), (4, .int .i64 (i : Int))])
      (fun i w' => Ext w1 w' ∧ i ≤ g.nons.length ∧ (g.nons.take i).all plainOk = true) (fun i => g.nons.length - i) 0 has ⟨hE0, Nat.zero_le _, by simp⟩ ?_
    rintro i w' ⟨hE, hi, ha⟩
    refine wk ?_
    refine W.test rfl (fun hlt => ?_) (fun hge => ?_)
    · have hlt : i < g.nons.length := by omega
      obtain ⟨b, o, rfl, es, ⟨rfl, hsz⟩, hc⟩ := (hg1.nons.ext (by decide) hE).at_ i hlt
      have hcell := hc 0 _ rfl
      refine wk ?_
      refine Wop.fn en136 rfl (rplain _ hsz) ?_
      rintro _ w2 ⟨rfl, e2⟩
      have e2' := hE.trans e2
      refine wk ?_
      refine W.cond rfl (fun q => ?_) (fun q => ?_)
      · refine wk ?_
        refine Arr.ret1 rfl rfl ⟨congrArg Value.bool ?_, e1.trans e2'⟩
        rw [Gram.form, all_false hlt (by simp at q; simp [q]), Bool.and_false]
      · refine wk ?_
        exact Arr.again (i + 1) has ⟨e2', hlt, all_take hlt ha (by simp at q; simp [q])⟩ (by omega)
    · have : i = g.nons.length := by omega
      subst this
      rw [List.take_length] at ha
      refine wk ?_
      refine Arr.ret1 rfl rfl ⟨congrArg Value.bool ?_, e1.trans hE⟩
      rw [Gram.form, ht, ha]
      rfl
end Go.Proofs.Ytbadjlhijbkbbaa
