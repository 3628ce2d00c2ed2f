/-
  Quoted names.
-/
import Derived.Test.YtbadjlhijbkbbaaQuo
set_option linter.unusedVariables false
namespace Go.Proofs.Ytbadjlhijbkbbaa
open Go Go.RowKit Sx
section
variable {w : World}
theorem gfault (e at_ : Int) (he : e ≠ 0) : Calls Try.prog 162 [.int .i64 e, .int .i64 at_].toArray w (Ret fun v w' => (∃ u x, v = .iface u x) ∧ Ext w w') := by
  refine enter Try.func162 rfl Try.ntmps162 rfl ?_
  refine wk ?_
  refine W.test rfl (fun h => absurd h he) (fun _ => ?_)
  refine wk ?_
  refine Wop.make (cs := #[.int .i64 e, .int .i64 at_]) pl200 rfl rfl ?_
  refine wk ?_; try (refine Wop.box rfl (fun w1 e1 b1 z1 => ?_); refine wk ?_)
  refine Wop.iface Try.underlying198 rfl ?_
  refine wk ?_
  exact Arr.ret1 rfl rfl ⟨⟨_, _, rfl⟩, e1⟩
/-- What 'quoted' answers. -/
def QuoAns (s : ByteArray) (n : Int) (ok : Bool) : Prop := ∃ m, SpanTo s m ∧ ok = decide (m < s.size ∧ byt s m = 39 ∧ m ≠ 1 ∧ m < 24) ∧ (ok = true → n = m + 1)
theorem gquoted (s : ByteArray) (hs : s.size ≤ 140737488355328) : Calls Try.prog 130 [.string s, .int .i64 0].toArray w (Ret fun v w' => (∃ n e ok, v = .tuple #[.int .i64 n, e] ∧ QuoAns s n ok ∧ (ok = true → e = .nilIface) ∧ (ok = false → ∃ u x, e = .iface u x)) ∧ Ext w w') := by
  refine enter Try.func130 rfl Try.ntmps130 rfl ?_
  refine wk ?_
  refine Wop.fn en160 rfl (gspan s hs) ?_
  rintro _ w1 ⟨⟨k, rfl, hsp⟩, e1⟩
  have hk := hsp.le
  refine wk ?_
  refine W.test rfl (fun h => ?_) (fun h => ?_)
  · refine wk ?_
    refine Wop.fn en162 rfl (gfault 4 _ (by decide)) ?_
    rintro _ w2 ⟨⟨u, x, rfl⟩, e2⟩
    refine wk ?_
    exact Arr.ret2 rfl rfl rfl ⟨⟨_, _, false, rfl, ⟨k + 1, hsp, (decide_eq_false (by omega)).symm, fun h => (by cases h)⟩, fun h => (by cases h), fun _ => ⟨u, x, rfl⟩⟩, e1.trans e2⟩
  · have hlt : k + 1 < s.size := by omega
    refine wk ?_
    refine Wop.byte TT (k + 1) rfl rfl rfl (by omega) hlt ?_
    refine wk ?_
    refine Wl.part rfl rfl rfl (fun h2 => ?_) (fun h2 => ?_)
    · refine wk ?_
      refine Wop.fn en162 rfl (gfault 2 _ (by decide)) ?_
      rintro _ w2 ⟨⟨u, x, rfl⟩, e2⟩
      refine wk ?_
      exact Arr.ret2 rfl rfl rfl ⟨⟨_, _, false, rfl, ⟨k + 1, hsp, (decide_eq_false (by omega)).symm, fun h => (by cases h)⟩, fun h => (by cases h), fun _ => ⟨u, x, rfl⟩⟩, e1.trans e2⟩
    · refine wk ?_
      refine W.test rfl (fun h3 => ?_) (fun h3 => ?_)
      · refine wk ?_
        refine Wop.fn en162 rfl (gfault 2 _ (by decide)) ?_
        rintro _ w2 ⟨⟨u, x, rfl⟩, e2⟩
        refine wk ?_
        exact Arr.ret2 rfl rfl rfl ⟨⟨_, _, false, rfl, ⟨k + 1, hsp, (decide_eq_false (by omega)).symm, fun h => (by cases h)⟩, fun h => (by cases h), fun _ => ⟨u, x, rfl⟩⟩, e1.trans e2⟩
      · refine wk ?_
        refine W.test rfl (fun h4 => ?_) (fun h4 => ?_)
        · refine wk ?_
          refine Wop.fn en162 rfl (gfault 5 _ (by decide)) ?_
          rintro _ w2 ⟨⟨u, x, rfl⟩, e2⟩
          refine wk ?_
          exact Arr.ret2 rfl rfl rfl ⟨⟨_, _, false, rfl, ⟨k + 1, hsp, (decide_eq_false (by omega)).symm, fun h => (by cases h)⟩, fun h => (by cases h), fun _ => ⟨u, x, rfl⟩⟩, e1.trans e2⟩
        · refine wk ?_
          exact Arr.ret2 rfl rfl rfl ⟨⟨_, _, true, rfl, ⟨k + 1, hsp, (decide_eq_true (by omega)).symm, fun _ => by omega⟩, fun _ => rfl, fun h => (by cases h)⟩, e1⟩
theorem gQuoted (s : ByteArray) (hs : s.size ≤ 140737488355328) : Calls Try.prog 76 [.string s].toArray w (Ret fun v w' => v = .bool (quotedOk s) ∧ Ext w w') := by
  refine enter Try.func76 rfl Try.ntmps76 rfl ?_
  refine wk ?_
  refine Wl.part rfl rfl rfl (fun h => ?_) (fun h => ?_)
  · refine wk ?_
    refine Arr.ret1 rfl rfl ⟨congrArg Value.bool ?_, Ext.refl w⟩
    subst h
    rfl
  · have hpos : 0 < s.size := by
      have : s.size ≠ 0 := fun h2 => h (ByteArray.size_eq_zero_iff.1 h2)
      omega
    refine wk ?_
    refine Wop.byte TT 0 rfl rfl rfl rfl hpos ?_
    refine wk ?_
    refine W.test rfl (fun h2 => ?_) (fun h2 => ?_)
    · refine wk ?_
      refine Arr.ret1 rfl rfl ⟨congrArg Value.bool ?_, Ext.refl w⟩
      exact (decide_eq_false (fun h3 => h2 h3.2.2.1)).symm
    · refine wk ?_
      refine Wop.fn en130 rfl (gquoted s hs) ?_
      rintro _ w1 ⟨⟨n, e, ok, rfl, ⟨m, hsp, hok, hn⟩, ht, hf⟩, e1⟩
      have hq := hsp.quoted
      refine wk ?_
      cases ok with
      | true =>
        obtain rfl := ht rfl
        have hn := hn rfl
        refine Wop.isNil Try.underlying138 rfl ?_
        refine wk ?_
        refine Arr.ret1 rfl rfl ⟨congrArg Value.bool ?_, e1⟩
        have hok := of_decide_eq_true hok.symm
        rw [Bool.eq_iff_iff, decide_eq_true_eq, hq]
        constructor
        · intro h; refine ⟨by omega, hok.1, hok.2.1, hok.2.2.1, hok.2.2.2, by omega⟩
        · intro h; omega
      | false =>
        obtain ⟨u, x, rfl⟩ := hf rfl
        refine Wop.notNil Try.underlying138 rfl ?_
        refine wk ?_
        refine Arr.ret1 rfl rfl ⟨congrArg Value.bool ?_, e1⟩
        have hok := of_decide_eq_false hok.symm
        rw [eq_comm, Bool.eq_false_iff]
        intro h
        have := hq.1 h
        exact hok ⟨this.2.1, this.2.2.1, this.2.2.2.1, this.2.2.2.2.1⟩
end
end Go.Proofs.Ytbadjlhijbkbbaa
