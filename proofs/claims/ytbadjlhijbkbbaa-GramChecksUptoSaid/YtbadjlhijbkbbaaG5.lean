/-
  A rule by its number; names and their symbols; rules compared.
-/
import Derived.Test.YtbadjlhijbkbbaaG3
import Derived.Test.YtbadjlhijbkbbaaG4
set_option linter.unusedVariables false
namespace Go.Proofs.Ytbadjlhijbkbbaa
open Go Go.RowKit Sx
variable {S S' : Nat → Prop} {w : World} {g : Gram} {A0 A1 A2 : Option Addr} {c0 c1 c2 : Nat}

theorem gRule (hg : GramAt S w g A0 A1 A2 c0 c1 c2) (i : Int) : Calls Try.prog 16 [.agg (gcells g A0 A1 A2 c0 c1 c2).toArray, .int .i64 i].toArray w (Ret fun v w' => (∃ u, v = .tuple #[u, .bool (g.rule i).1] ∧ VR w' (g.rule i).2 u) ∧ Ext w w') := by
  have h0 := hg.rules.2.1
  refine enter Try.func16 rfl Try.ntmps16 rfl ?_
  refine wk ?_; try (refine Wop.box rfl (fun w1 e1 b1 z1 => ?_); refine wk ?_)
  refine Wop.alloc (z := .agg #[.int .i64 0, .slice none 0 0]) Try.zeroValue30 (fun w2 e2 b2 z2 => ?_)
  refine wk ?_
  refine Wl.part rfl rfl rfl (fun h => ?_) (fun h => ?_)
  · refine wk ?_
    refine Wop.make pl30 rfl rfl ?_
    refine wk ?_
    refine Wop.stB TT rfl rfl rfl (by simp [Value.oneCell']) b2 rfl (fun w3 h3 b3 z3 k3 => ?_)
    refine wk ?_
    refine Arr.retCT TT rfl rfl b3 rfl rfl rfl ?_
    simp only [Gram.rule, if_pos (Or.inl h : i < 0 ∨ i > g.rules.length)]
    exact ⟨⟨_, rfl, none, 0, rfl, Nat.le_refl _, ⟨by decide, by decide⟩, Ty.Row.nil_ _ _ _ _⟩, e1.trans (Below.trans e2 h3)⟩
  refine wk ?_
  refine W.test rfl (fun h' => ?_) (fun h' => ?_)
  · refine wk ?_
    refine Wop.make pl30 rfl rfl ?_
    refine wk ?_
    refine Wop.stB TT rfl rfl rfl (by simp [Value.oneCell']) b2 rfl (fun w3 h3 b3 z3 k3 => ?_)
    refine wk ?_
    refine Arr.retCT TT rfl rfl b3 rfl rfl rfl ?_
    simp only [Gram.rule, if_pos (Or.inr h' : i < 0 ∨ i > g.rules.length)]
    exact ⟨⟨_, rfl, none, 0, rfl, Nat.le_refl _, ⟨by decide, by decide⟩, Ty.Row.nil_ _ _ _ _⟩, e1.trans (Below.trans e2 h3)⟩
  refine wk ?_
  refine W.test rfl (fun hq => ?_) (fun hq => ?_)
  · refine wk ?_
    refine Wop.litI rfl (fun w3 e3 b3 z3 => ?_)
    refine wk ?_
    refine Wop.make (cs := #[.int .i64 0, .slice (some ⟨w2.heap.size, 0, none⟩) 1 1]) pl30 rfl rfl ?_
    refine wk ?_
    refine Wop.stB TT rfl rfl rfl (by simp [Value.oneCell']) (b2.ext e3) rfl (fun w4 h4 b4 z4 k4 => ?_)
    refine wk ?_
    refine Arr.retCT TT rfl rfl b4 rfl rfl rfl ?_
    simp only [Gram.rule, if_neg (by omega : ¬ (i < 0 ∨ i > g.rules.length)), if_pos hq]
    have b3' : Blk w4 w2.heap.size #[.int .i64 g.start] 3 := by
      have hlt := b2.lt
      unfold Blk at b3 ⊢
      rw [k4 _ (by omega)]
      exact b3
    exact ⟨⟨_, rfl, some ⟨w2.heap.size, 0, none⟩, 1, rfl, Nat.le_refl _, ⟨by show (-9223372036854775808 : Int) ≤ 0; decide, by show (0 : Int) ≤ 9223372036854775807; decide⟩, Blk.rowI b3' hg.start⟩, e1.trans (Below.trans (Ext.trans e2 e3) h4)⟩
  · have hlt : i.toNat < g.rules.length := by omega
    obtain ⟨b, o, rfl, es, hrd, hc⟩ := hg.rules.at_ i.toNat hlt
    obtain ⟨A, c, rfl, hcap, hl64, hrow⟩ := tRule_open hrd
    refine wk ?_
    refine Wop.ixI TT i.toNat rfl rfl rfl rfl rfl (by omega) hlt ?_
    refine wk ?_
    refine Wop.ldR TT rfl rfl rfl (fun k v h => (e1.trans e2).cell (hc k v h)) ?_
    refine wk ?_
    refine Wop.stB TT rfl rfl rfl (by simp [Value.oneCell']) b2 rfl (fun w3 h3 b3 z3 k3 => ?_)
    refine wk ?_
    refine Arr.retCT TT rfl rfl b3 rfl rfl rfl ?_
    simp only [Gram.rule, if_neg (by omega : ¬ (i < 0 ∨ i > g.rules.length)), if_neg hq, List.getElem?_eq_getElem hlt, Option.getD_some]
    exact ⟨⟨_, rfl, A, c, rfl, hcap, hl64, (hrow.ext (by decide) (e1.trans (Below.trans e2 h3))).mono (fun _ _ => trivial)⟩, e1.trans (Below.trans e2 h3)⟩
theorem rRule (hg : GramAt S w g A0 A1 A2 c0 c1 c2) (i : Int) : Calls Try.prog 17 [.agg (gcells g A0 A1 A2 c0 c1 c2).toArray, .int .i64 i].toArray w (Ret fun v w' => (∃ u, v = .tuple #[u, .bool (g.rule i).1] ∧ VR w' (g.rule i).2 u) ∧ Ext w w') := by
  have h0 := hg.rules.2.1
  refine enter Try.func17 rfl Try.ntmps17 rfl ?_
  refine wk ?_; try (refine Wop.box rfl (fun w1 e1 b1 z1 => ?_); refine wk ?_)
  refine Wop.alloc (z := .agg #[.int .i64 0, .slice none 0 0]) Try.zeroValue30 (fun w2 e2 b2 z2 => ?_)
  refine wk ?_
  refine Wl.part rfl rfl rfl (fun h => ?_) (fun h => ?_)
  · refine wk ?_
    refine Wop.make pl30 rfl rfl ?_
    refine wk ?_
    refine Wop.stB TT rfl rfl rfl (by simp [Value.oneCell']) b2 rfl (fun w3 h3 b3 z3 k3 => ?_)
    refine wk ?_
    refine Arr.retCT TT rfl rfl b3 rfl rfl rfl ?_
    simp only [Gram.rule, if_pos (Or.inl h : i < 0 ∨ i > g.rules.length)]
    exact ⟨⟨_, rfl, none, 0, rfl, Nat.le_refl _, ⟨by decide, by decide⟩, Ty.Row.nil_ _ _ _ _⟩, e1.trans (Below.trans e2 h3)⟩
  refine wk ?_
  refine W.test rfl (fun h' => ?_) (fun h' => ?_)
  · refine wk ?_
    refine Wop.make pl30 rfl rfl ?_
    refine wk ?_
    refine Wop.stB TT rfl rfl rfl (by simp [Value.oneCell']) b2 rfl (fun w3 h3 b3 z3 k3 => ?_)
    refine wk ?_
    refine Arr.retCT TT rfl rfl b3 rfl rfl rfl ?_
    simp only [Gram.rule, if_pos (Or.inr h' : i < 0 ∨ i > g.rules.length)]
    exact ⟨⟨_, rfl, none, 0, rfl, Nat.le_refl _, ⟨by decide, by decide⟩, Ty.Row.nil_ _ _ _ _⟩, e1.trans (Below.trans e2 h3)⟩
  refine wk ?_
  refine W.test rfl (fun hq => ?_) (fun hq => ?_)
  · refine wk ?_
    refine Wop.litI rfl (fun w3 e3 b3 z3 => ?_)
    refine wk ?_
    refine Wop.make (cs := #[.int .i64 0, .slice (some ⟨w2.heap.size, 0, none⟩) 1 1]) pl30 rfl rfl ?_
    refine wk ?_
    refine Wop.stB TT rfl rfl rfl (by simp [Value.oneCell']) (b2.ext e3) rfl (fun w4 h4 b4 z4 k4 => ?_)
    refine wk ?_
    refine Arr.retCT TT rfl rfl b4 rfl rfl rfl ?_
    simp only [Gram.rule, if_neg (by omega : ¬ (i < 0 ∨ i > g.rules.length)), if_pos hq]
    have b3' : Blk w4 w2.heap.size #[.int .i64 g.start] 3 := by
      have hlt := b2.lt
      unfold Blk at b3 ⊢
      rw [k4 _ (by omega)]
      exact b3
    exact ⟨⟨_, rfl, some ⟨w2.heap.size, 0, none⟩, 1, rfl, Nat.le_refl _, ⟨by show (-9223372036854775808 : Int) ≤ 0; decide, by show (0 : Int) ≤ 9223372036854775807; decide⟩, Blk.rowI b3' hg.start⟩, e1.trans (Below.trans (Ext.trans e2 e3) h4)⟩
  · have hlt : i.toNat < g.rules.length := by omega
    obtain ⟨b, o, rfl, es, hrd, hc⟩ := hg.rules.at_ i.toNat hlt
    obtain ⟨A, c, rfl, hcap, hl64, hrow⟩ := tRule_open hrd
    refine wk ?_
    refine Wop.ixI TT i.toNat rfl rfl rfl rfl rfl (by omega) hlt ?_
    refine wk ?_
    refine Wop.ldR TT rfl rfl rfl (fun k v h => (e1.trans e2).cell (hc k v h)) ?_
    refine wk ?_
    refine Wop.stB TT rfl rfl rfl (by simp [Value.oneCell']) b2 rfl (fun w3 h3 b3 z3 k3 => ?_)
    refine wk ?_
    refine Arr.retCT TT rfl rfl b3 rfl rfl rfl ?_
    simp only [Gram.rule, if_neg (by omega : ¬ (i < 0 ∨ i > g.rules.length)), if_neg hq, List.getElem?_eq_getElem hlt, Option.getD_some]
    exact ⟨⟨_, rfl, A, c, rfl, hcap, hl64, (hrow.ext (by decide) (e1.trans (Below.trans e2 h3))).mono (fun _ _ => trivial)⟩, e1.trans (Below.trans e2 h3)⟩
end Go.Proofs.Ytbadjlhijbkbbaa
