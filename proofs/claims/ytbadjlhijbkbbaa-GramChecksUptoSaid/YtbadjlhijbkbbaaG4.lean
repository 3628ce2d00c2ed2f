/-
  All names in a row.
-/
import Derived.Test.YtbadjlhijbkbbaaG1
import Derived.Test.YtbadjlhijbkbbaaF1
import Derived.Test.YtbadjlhijbkbbaaRow
import Derived.Test.YtbadjlhijbkbbaaAnyK
set_option linter.unusedVariables false
namespace Go.Proofs.Ytbadjlhijbkbbaa
open Go Go.RowKit Sx
variable {S : Nat → Prop} {w : World} {g : Gram} {A0 A1 A2 : Option Addr} {c0 c1 c2 : Nat}

theorem GramAt.strs (hg : GramAt S w g A0 A1 A2 c0 c1 c2) : ∀ x ∈ g.names, x.size ≤ 140737488355328 := by
  intro x hx
  rcases List.mem_append.1 hx with h | h
  · obtain ⟨_, _, h⟩ := hg.terms.all x h
    exact h
  · obtain ⟨_, _, h⟩ := hg.nons.all x h
    exact h
theorem r6names (hg : GramAt S w g A0 A1 A2 c0 c1 c2) (hs : g.names.length ≤ 1099511627776) : Calls Try.prog 85 [.agg (gcells g A0 A1 A2 c0 c1 c2).toArray].toArray w (Ret fun v w' => (∃ A c, v = .slice A g.names.length c ∧ g.names.length ≤ c ∧ tS.Row (fun _ => True) w' A g.names.length g.names) ∧ Ext w w') := by
  have h0 := hg.terms.2.1
  have h1 := hg.nons.2.1
  refine enter Try.func85 rfl Try.ntmps85 rfl ?_
  refine wk ?_; try (refine Wop.box rfl (fun w1 e1 b1 z1 => ?_); refine wk ?_)
  have hg1 := hg.ext e1
  refine W.anyK (Below w1.heap.size) [fun v w => OwnS w w1.heap.size v [], fun v _ => v = _, fun v _ => v = _, fun v w => OwnS w w1.heap.size v g.terms, fun v _ => v = _, fun v _ => v = _, fun v w => OwnS w w1.heap.size v g.names, fun v w => OwnS w w1.heap.size v g.names] [7] mixed rfl (Below.refl _) Below.trans (fun w => (Below.refl _ w).drew) ⟨?_, qk, qk, ?_, qk, qk, ?_, ?_, trivial⟩ ?_
  · intro w2 hG
    refine WopG.plain rfl (Wop.buildSlice0 TT rfl rfl rfl (fun w3 e3 b3 z3 => ⟨Below.mono e3 hG.size, Own.lit0 b3 hG.size, (by repeat (first | exact trivial | refine ⟨fun _ h => h, ?_⟩))⟩))
  · intro w2 hG v3 h3 v5 h5
    cases h5
    refine WopG.plain rfl (Wop.appRowS rfl rfl (hg1.terms.ext (by decide) hG) h3 hG.size (by simp; omega) (fun v' w' ho hb _ _ => ⟨hb _ (Below.refl _ _), ho, (by repeat (first | exact trivial | refine ⟨fun _ h => h, ?_⟩))⟩))
  · intro w2 hG v3 h3 v5 h5
    cases h5
    refine WopG.plain rfl (Wop.appRowS rfl rfl (hg1.nons.ext (by decide) hG) h3 hG.size (by omega) (fun v' w' ho hb _ _ => ⟨hb _ (Below.refl _ _), ho, (by repeat (first | exact trivial | refine ⟨fun _ h => h, ?_⟩))⟩))
  · intro w2 hG v6 h6
    refine WopG.plain rfl (Wop.pure TT rfl ⟨Below.refl _ _, h6, (by repeat (first | exact trivial | refine ⟨fun _ h => h, ?_⟩))⟩)
  · intro w2 hG v h
    refine wk ?_
    refine Arr.ret1 rfl rfl ⟨?_, e1.trans hG⟩
    exact OwnS.row h hs hg.strs (fun _ _ => trivial)

/-! ### a symbol's name -/
theorem gName (hg : GramAt S w g A0 A1 A2 c0 c1 c2) (s : Int) : Calls Try.prog 27 [.agg (gcells g A0 A1 A2 c0 c1 c2).toArray, .int .i64 s].toArray w (Ret fun v w' => v = .string (g.name s) ∧ Ext w w') := by
  have h0 := hg.terms.2.1
  have h1 := hg.nons.2.1
  refine enter Try.func27 rfl Try.ntmps27 rfl ?_
  refine wk ?_; try (refine Wop.box rfl (fun w1 e1 b1 z1 => ?_); refine wk ?_)
  have hg1 := hg.ext e1
  refine W.test rfl (fun hs => ?_) (fun hs => ?_)
  · refine wk ?_
    refine Arr.ret1 rfl rfl ⟨?_, e1⟩
    simp [Gram.name, hs]
    rfl
  refine wk ?_
  refine Wop.fn en22 rfl (gTerm s) ?_
  rintro _ w2 ⟨rfl, e2⟩
  refine wk ?_
  refine W.cond rfl (fun ht => ?_) (fun ht => ?_)
  · simp only [Gram.term, decide_eq_true_eq] at ht
    obtain ⟨b, o, rfl, es, ⟨rfl, hsz⟩, hc⟩ := ((hg1.ext e2).terms).at_ (s - 1).toNat (by omega)
    have hcell := hc 0 _ rfl
    refine wk ?_
    refine Wop.ixI TT (s - 1).toNat rfl rfl rfl rfl rfl (by omega) (by omega) ?_
    refine wk ?_
    refine Arr.ret1 rfl rfl ⟨?_, e1.trans e2⟩
    rw [Gram.name, if_neg hs, if_pos ht, Gram.names]
    rw [List.getElem?_append_left (by omega), List.getElem?_eq_getElem (by omega)]
    rfl
  · refine wk ?_
    refine Wop.fn en24 rfl (gNon (hg1.ext e2) s) ?_
    rintro _ w3 ⟨rfl, e3⟩
    have e13 := e2.trans e3
    refine wk ?_
    simp only [Gram.term, decide_eq_false_iff_not] at ht
    refine W.cond rfl (fun hn => ?_) (fun hn => ?_)
    · simp only [Gram.non, decide_eq_true_eq] at hn
      have hn2 := hn.2
      simp only [Gram.top] at hn2
      obtain ⟨b, o, rfl, es, ⟨rfl, hsz⟩, hc⟩ := ((hg1.ext (e2.trans e3)).nons).at_ (s - 1 - g.terms.length).toNat (by omega)
      have hcell := hc 0 _ rfl
      refine wk ?_
      refine Wop.ixI TT (s - 1 - g.terms.length).toNat rfl rfl rfl rfl rfl (by omega) (by omega) ?_
      refine wk ?_
      refine Arr.ret1 rfl rfl ⟨?_, e1.trans (e2.trans e3)⟩
      rw [Gram.name, if_neg hs, if_neg ht, if_pos hn, Gram.names]
      rw [List.getElem?_append_right (by omega), List.getElem?_eq_getElem (by omega)]
      simp only [Option.getD_some]
      congr 2
      omega
    · refine wk ?_
      refine Arr.ret1 rfl rfl ⟨?_, e1.trans (e2.trans e3)⟩
      simp only [Gram.non, decide_eq_false_iff_not] at hn
      rw [Gram.name, if_neg hs, if_neg ht, if_neg hn]
end Go.Proofs.Ytbadjlhijbkbbaa
