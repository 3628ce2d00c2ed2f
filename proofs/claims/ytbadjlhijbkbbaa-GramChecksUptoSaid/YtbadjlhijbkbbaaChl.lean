/-
  More parts of the reference's Check.
-/
import Derived.Test.YtbadjlhijbkbbaaChk
set_option linter.unusedVariables false
namespace Go.Proofs.Ytbadjlhijbkbbaa
open Go Go.RowKit Sx
variable {S : Nat → Prop} {w : World} {g : Gram} {A A0 A1 A2 : Option Addr} {n c c0 c1 c2 : Nat}
theorem nodup_step {α : Type} {l : List α} {i : Nat} (h : i < l.length) : (l.take (i + 1)).Nodup ↔ (l.take i).Nodup ∧ l[i] ∉ l.take i := by
  rw [List.take_succ_eq_append_getElem h, List.nodup_append]
  simp only [List.nodup_cons, List.not_mem_nil, not_false_eq_true, List.nodup_nil, and_self, true_and, List.mem_singleton, ne_eq]
  exact ⟨fun ⟨h1, h2⟩ => ⟨h1, fun h3 => h2 _ h3 _ rfl rfl⟩, fun ⟨h1, h2⟩ => ⟨h1, fun a ha b hb e => h2 (by rw [← hb, ← e]; exact ha)⟩⟩
theorem nodup_take {α : Type} {l : List α} (h : l.Nodup) (i : Nat) : (l.take i).Nodup := h.sublist (List.take_sublist i l)
theorem ronce {l : List ByteArray} (hx : tS.Row S w A n l) (hn : n ≤ c) : Calls Try.prog 84 [.slice A n c].toArray w (Ret fun v w' => v = .bool (decide l.Nodup) ∧ Ext w w') := by
  have hl := hx.1
  have hm := hx.2.1
  refine enter Try.func84 rfl Try.ntmps84 rfl ?_
  refine wk ?_
  refine W.loop (ι := Nat) (fun i => [(0, .slice A n c), (3, .int .i64 (i : Int))])
    (fun i w' => Ext w w' ∧ i ≤ n ∧ (l.take i).Nodup) (fun i => n - i) 0 has ⟨Ext.refl w, Nat.zero_le _, by simp⟩ ?_
  rintro i w1 ⟨hE, hi, hp⟩
  refine wk ?_
  refine W.test rfl (fun hlt => ?_) (fun hge => ?_)
  · have hlt : i < n := by omega
    have hlt' : i < l.length := by omega
    obtain ⟨b, o, rfl, es, ⟨rfl, hs⟩, hc⟩ := hx.at_ i hlt'
    have hcell := hE.cell (hc 0 _ rfl)
    have hrow := (hx.ext (by decide) hE).take i (by omega)
    have hany := idxI_any (fun x => decide (x = l[i])) (l.take i)
    refine wk ?_
    refine W.any Ext [.eq _, .eq _, .eq _, .eq _, .eq _, .eq _, .eq _, .eq _, .eq _] [8] mixed rfl Ext.refl Ext.trans Ext.drew ⟨qs, qs, by intro w_ hG; (repeat (intro v_ hv_; cases hv_)); exact WopG.plain rfl (Wop.sliceTo TT (h := i) rfl rfl rfl rfl rfl rfl (by omega) ⟨Ext.refl _, rfl⟩), qs, qs, qs, qs, by intro w_ hG; (repeat (intro v_ hv_; cases hv_)); exact WopG.plain rfl (Wop.fn en89 rfl (r4Place (hrow.ext (by decide) hG) hs) (fun v w' h => ⟨h.2, h.1⟩)), qs, trivial⟩ ?_
    rintro wq eq_ _ ⟨⟩
    refine wk ?_
    have hmem : (l.take i).any (fun x => decide (x = l[i])) = true ↔ l[i] ∈ l.take i := by
      simp only [List.any_eq_true, decide_eq_true_eq]
      exact ⟨fun ⟨x, hx, e⟩ => e ▸ hx, fun h => ⟨_, h, rfl⟩⟩
    refine W.test rfl (fun hy => ?_) (fun hno => ?_)
    · refine wk ?_
      refine Arr.ret1 rfl rfl ⟨congrArg Value.bool (decide_eq_false (fun hd => ?_)).symm, hE.trans eq_⟩
      exact ((nodup_step hlt').1 (nodup_take hd (i + 1))).2 (hmem.1 (hany.1 hy))
    · refine wk ?_
      exact Arr.again (i + 1) has ⟨hE.trans eq_, hlt, (nodup_step hlt').2 ⟨hp, fun h => hno (hany.2 (hmem.2 h))⟩⟩ (by omega)
  · refine wk ?_
    refine Arr.ret1 rfl rfl ⟨congrArg Value.bool (decide_eq_true ?_).symm, hE⟩
    rwa [List.take_of_length_le (by omega)] at hp
theorem runlike (hg : GramAt S w g A0 A1 A2 c0 c1 c2) : Calls Try.prog 87 [.agg (gcells g A0 A1 A2 c0 c1 c2).toArray].toArray w (Ret fun v w' => v = .bool g.unlike ∧ Ext w w') := by
  have h2 := hg.rules.2.1
  refine enter Try.func87 rfl Try.ntmps87 rfl ?_
  refine wk ?_; try (refine Wop.box rfl (fun w1 e1 b1 z1 => ?_); refine wk ?_)
  have hg1 := hg.ext e1
  refine W.loop (ι := Nat) (fun i => [(1, .pointer (some ⟨w.heap.size, 0, none⟩)), (3, .int .i64 (i : Int))])
    (fun i w' => Ext w1 w' ∧ i ≤ g.rules.length ∧ (g.rules.take i).Nodup) (fun i => g.rules.length - i) 0 has ⟨Ext.refl w1, Nat.zero_le _, by simp⟩ ?_
  rintro i w' ⟨hE, hi, hp⟩
  refine wk ?_
  refine W.test rfl (fun hlt => ?_) (fun hge => ?_)
  · have hlt : i < g.rules.length := by omega
    refine wk ?_
    refine W.loop (ι := Nat) (fun k => [(1, .pointer (some ⟨w.heap.size, 0, none⟩)), (3, .int .i64 (i : Int)), (4, .int .i64 (k : Int))])
      (fun k w' => Ext w1 w' ∧ k ≤ i ∧ ∀ j x, j < k → g.rules[j]? = some x → x ≠ g.rules[i]) (fun k => i - k) 0 has ⟨hE, Nat.zero_le _, fun j x hj => absurd hj (Nat.not_lt_zero j)⟩ ?_
    rintro k w2 ⟨hE2, hk, hq⟩
    refine wk ?_
    refine W.test rfl (fun hlk => ?_) (fun hgk => ?_)
    · have hlk : k < i := by omega
      have hrules := hg1.rules.ext (by decide) hE2
      have bb := b1.ext hE2
      obtain ⟨b, o, hA, es, hrd, hc⟩ := hrules.at_ i (by omega)
      subst hA
      obtain ⟨P, cp, rfl, h1, h2, h3⟩ := tRule_open hrd
      obtain ⟨b', o', hA, es', hrd', hc'⟩ := hrules.at_ k (by omega)
      cases hA
      obtain ⟨P', cp', rfl, h1', h2', h3'⟩ := tRule_open hrd'
      have v1 : VR w2 g.rules[i] _ := ⟨P, cp, rfl, h1, h2, h3.mono (fun _ _ => trivial)⟩
      have v2 : VR w2 g.rules[k] _ := ⟨P', cp', rfl, h1', h2', h3'.mono (fun _ _ => trivial)⟩
      refine wk ?_
      refine W.any Ext [.eq _, .eq _, .eq _, .eq _, .eq _, .eq _, .eq _, .eq _, .eq _, .eq _, .eq _] [10] mixed rfl Ext.refl Ext.trans Ext.drew ⟨qs, qs, qs, qs, qs, qs, qs, qs, qs, qs, by intro w_ hG; (repeat (intro v_ hv_; cases hv_)); exact WopG.plain rfl (Wop.fn en26 rfl (rSameRule (v1.ext hG) (v2.ext hG)) (fun v w' h => ⟨h.2, h.1⟩)), trivial⟩ ?_
      rintro wq eq_ _ ⟨⟩
      refine wk ?_
      refine W.cond rfl (fun hd => ?_) (fun hs => ?_)
      · refine wk ?_
        refine Arr.ret1 rfl rfl ⟨congrArg Value.bool (decide_eq_false (fun hn => ?_)).symm, e1.trans (hE2.trans eq_)⟩
        have hd := of_decide_eq_true hd
        refine ((nodup_step hlt).1 (nodup_take hn (i + 1))).2 ?_
        rw [List.mem_take_iff_getElem]
        exact ⟨k, by omega, hd.symm⟩
      · refine wk ?_
        refine Arr.again (i := k) (k + 1) has ⟨hE2.trans eq_, hlk, fun j x hj hx => ?_⟩ (by omega)
        rcases Nat.lt_or_ge j k with h | h
        · exact hq j x h hx
        · obtain rfl : j = k := by omega
          rw [List.getElem?_eq_getElem (by omega)] at hx
          cases hx
          exact fun e => of_decide_eq_false hs e.symm
    · refine wk ?_
      refine Arr.again (i := i) (i + 1) has ⟨hE2, hlt, (nodup_step hlt).2 ⟨hp, fun hm => ?_⟩⟩ (by omega)
      rw [List.mem_take_iff_getElem] at hm
      obtain ⟨j, hj, e⟩ := hm
      exact hq j _ (by omega) (List.getElem?_eq_getElem (by omega)) e
  · refine wk ?_
    refine Arr.ret1 rfl rfl ⟨congrArg Value.bool (decide_eq_true ?_).symm, e1.trans hE⟩
    rwa [List.take_of_length_le (by omega)] at hp
end Go.Proofs.Ytbadjlhijbkbbaa
