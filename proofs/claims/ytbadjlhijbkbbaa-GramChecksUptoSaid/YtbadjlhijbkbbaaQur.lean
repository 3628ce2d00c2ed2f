/-
  Quoted names, by the reference.
-/
import Derived.Test.YtbadjlhijbkbbaaQuz
import Derived.Test.YtbadjlhijbkbbaaRow
set_option linter.unusedVariables false
namespace Go.Proofs.Ytbadjlhijbkbbaa
open Go Go.RowKit Sx
section
variable {w : World}
theorem rquoted (s : ByteArray) (hs : s.size ≤ 140737488355328) : Calls Try.prog 167 [.string s, .int .i64 0].toArray w (Ret fun v w' => (∃ n e a ok, v = .tuple #[.int .i64 n, .agg #[.int .i64 e, .int .i64 a]] ∧ QuoAns s n ok ∧ (ok = true ↔ e = 0)) ∧ Ext w w') := by
  refine enter Try.func167 rfl Try.ntmps167 rfl ?_
  refine wk ?_
  refine Wop.alloc (z := .agg #[.int .i64 0, .int .i64 0]) Try.zeroValue189 (fun w0 e0 b0 z0 => ?_)
  refine wk ?_
  refine W.midB (ι := Nat) (fun i => [(0, .string s), (1, .int .i64 0), (5, .pointer (some ⟨w.heap.size, 0, none⟩)), (6, .int .i64 ((i + 1 : Nat) : Int))]) (fun i w' => Ext w0 w' ∧ SpanTo s (i + 1)) ?_ ?_
  · refine wk ?_
    refine W.loop (ι := Nat) (fun i => [(0, .string s), (1, .int .i64 0), (5, .pointer (some ⟨w.heap.size, 0, none⟩)), (6, .int .i64 ((i + 1 : Nat) : Int))])
      (fun i w' => Ext w0 w' ∧ (i + 1 ≤ s.size ∨ i = 0) ∧ ∀ j, 1 ≤ j → j < i + 1 → insideB (byt s j) = true) (fun i => s.size - i) 0 has ⟨Ext.refl w0, .inr rfl, fun j h1 h2 => by omega⟩ ?_
    rintro i w1 ⟨hE, hi, hp⟩
    refine wk ?_
    refine Wl.part rfl rfl rfl (fun hlt => ?_) (fun hge => ?_)
    · have hlt : i + 1 < s.size := by omega
      refine wk ?_
      refine Wop.byte TT (i + 1) rfl rfl rfl (by omega) hlt ?_
      refine wk ?_
      refine Wop.fn en179 rfl (rinside (byt s (i + 1))) ?_
      rintro _ w2 ⟨rfl, e2⟩
      refine wk ?_
      refine W.cond rfl (fun hy => ?_) (fun hn => ?_)
      · refine wk ?_
        refine Arr.again (i + 1) has ⟨hE.trans e2, .inl (by omega), fun j h1 h2 => ?_⟩ (by omega)
        rcases Nat.lt_or_ge j (i + 1) with h | h
        · exact hp j h1 h
        · obtain rfl : j = i + 1 := by omega
          exact hy
      · refine wk ?_
        exact Arr.mid i has ⟨hE.trans e2, by omega, hp, fun _ => hn, by omega⟩
    · refine wk ?_
      exact Arr.mid i has ⟨hE, by omega, hp, fun h => absurd h (by omega), by omega⟩
  · rintro i w1 ⟨hE, hsp⟩
    have b1 := b0.ext hE
    have hi := hsp.le
    refine wk ?_
    refine W.test rfl (fun h => ?_) (fun h => ?_)
    · refine wk ?_
      refine Wop.make (cs := #[.int .i64 4, .int .i64 (s.size : Int)]) pl189 rfl rfl ?_
      refine wk ?_
      refine Wop.stB TT rfl rfl rfl (by simp [Value.oneCell']) b1 rfl (fun w3 h3 b3 z3 k3 => ?_)
      refine wk ?_
      exact Arr.retTC TT rfl rfl b3 rfl rfl rfl ⟨⟨_, _, _, false, rfl, ⟨i + 1, hsp, (decide_eq_false (by omega)).symm, fun h => (by cases h)⟩, by simp⟩, Below.trans e0 (Below.trans (Below.mono hE e0.size) h3)⟩
    · have hlt : i + 1 < s.size := by omega
      refine wk ?_
      refine Wop.byte TT (i + 1) rfl rfl rfl (by omega) hlt ?_
      refine wk ?_
      refine Wl.part rfl rfl rfl (fun h2 => ?_) (fun h2 => ?_)
      · refine wk ?_
        refine Wop.make (cs := #[.int .i64 2, .int .i64 (0 + ((i + 1 : Nat) : Int))]) pl189 rfl rfl ?_
        refine wk ?_
        refine Wop.stB TT rfl rfl rfl (by simp [Value.oneCell']) b1 rfl (fun w3 h3 b3 z3 k3 => ?_)
        refine wk ?_
        exact Arr.retTC TT rfl rfl b3 rfl rfl rfl ⟨⟨_, _, _, false, rfl, ⟨i + 1, hsp, (decide_eq_false (by omega)).symm, fun h => (by cases h)⟩, by simp⟩, Below.trans e0 (Below.trans (Below.mono hE e0.size) h3)⟩
      · refine wk ?_
        refine W.test rfl (fun h3 => ?_) (fun h3 => ?_)
        · refine wk ?_
          refine Wop.make (cs := #[.int .i64 2, .int .i64 (0 + ((i + 1 : Nat) : Int))]) pl189 rfl rfl ?_
          refine wk ?_
          refine Wop.stB TT rfl rfl rfl (by simp [Value.oneCell']) b1 rfl (fun w3 h3' b3 z3 k3 => ?_)
          refine wk ?_
          exact Arr.retTC TT rfl rfl b3 rfl rfl rfl ⟨⟨_, _, _, false, rfl, ⟨i + 1, hsp, (decide_eq_false (by omega)).symm, fun h => (by cases h)⟩, by simp⟩, Below.trans e0 (Below.trans (Below.mono hE e0.size) h3')⟩
        · refine wk ?_
          refine W.test rfl (fun h4 => ?_) (fun h4 => ?_)
          · refine wk ?_
            refine Wop.make (cs := #[.int .i64 5, .int .i64 0]) pl189 rfl rfl ?_
            refine wk ?_
            refine Wop.stB TT rfl rfl rfl (by simp [Value.oneCell']) b1 rfl (fun w3 h3' b3 z3 k3 => ?_)
            refine wk ?_
            exact Arr.retTC TT rfl rfl b3 rfl rfl rfl ⟨⟨_, _, _, false, rfl, ⟨i + 1, hsp, (decide_eq_false (by omega)).symm, fun h => (by cases h)⟩, by simp⟩, Below.trans e0 (Below.trans (Below.mono hE e0.size) h3')⟩
          · refine wk ?_
            refine Wop.make (cs := #[.int .i64 0, .int .i64 0]) pl189 rfl rfl ?_
            refine wk ?_
            refine Wop.stB TT rfl rfl rfl (by simp [Value.oneCell']) b1 rfl (fun w3 h3' b3 z3 k3 => ?_)
            refine wk ?_
            exact Arr.retTC TT rfl rfl b3 rfl rfl rfl ⟨⟨_, _, _, true, rfl, ⟨i + 1, hsp, (decide_eq_true (by omega)).symm, fun _ => by omega⟩, by simp⟩, Below.trans e0 (Below.trans (Below.mono hE e0.size) h3')⟩
theorem rQuoted (s : ByteArray) (hs : s.size ≤ 140737488355328) : Calls Try.prog 137 [.string s].toArray w (Ret fun v w' => v = .bool (quotedOk s) ∧ Ext w w') := by
  refine enter Try.func137 rfl Try.ntmps137 rfl ?_
  refine wk ?_
  refine Wl.part rfl rfl rfl (fun h => ?_) (fun h => ?_)
  · refine wk ?_
    refine Arr.ret1 rfl rfl ⟨congrArg Value.bool ?_, Ext.refl w⟩
    subst h
    rfl
  · have hpos : 0 < s.size := by
      have : s.size ≠ 0 := fun h2 => h (ByteArray.size_eq_zero_iff.1 h2)
      omega
    refine wk ?_
    refine Wop.byte TT 0 rfl rfl rfl rfl hpos ?_
    refine wk ?_
    refine W.test rfl (fun h2 => ?_) (fun h2 => ?_)
    · refine wk ?_
      refine Arr.ret1 rfl rfl ⟨congrArg Value.bool ?_, Ext.refl w⟩
      exact (decide_eq_false (fun h3 => h2 h3.2.2.1)).symm
    · refine wk ?_
      refine Wop.fn en167 rfl (rquoted s hs) ?_
      rintro _ w1 ⟨⟨n, e, a, ok, rfl, ⟨m, hsp, hok, hn⟩, he⟩, e1⟩
      have hq := hsp.quoted
      refine wk ?_
      refine Wop.alloc (z := .agg #[.int .i64 0, .int .i64 0]) Try.zeroValue189 (fun w2 e2 b2 z2 => ?_)
      refine wk ?_
      refine Wop.stB TT rfl rfl rfl (by simp [Value.oneCell']) b2 rfl (fun w3 h3 b3 z3 k3 => ?_)
      have e3 := e1.trans (Below.trans e2 h3)
      refine wk ?_
      refine Wl.part rfl rfl rfl (fun h4 => ?_) (fun h4 => ?_)
      · refine wk ?_
        refine Arr.ret1 rfl rfl ⟨congrArg Value.bool ?_, e3⟩
        have hk := he.2 h4
        have hn := hn hk
        rw [hk] at hok
        have hok := of_decide_eq_true hok.symm
        rw [Bool.eq_iff_iff, decide_eq_true_eq, hq]
        constructor
        · intro h; refine ⟨by omega, hok.1, hok.2.1, hok.2.2.1, hok.2.2.2, by omega⟩
        · intro h; omega
      · refine wk ?_
        refine Arr.ret1 rfl rfl ⟨congrArg Value.bool ?_, e3⟩
        have hk : ok = false := by
          cases ok with
          | true => exact absurd (he.1 rfl) h4
          | false => rfl
        rw [hk] at hok
        have hok := of_decide_eq_false hok.symm
        rw [eq_comm, Bool.eq_false_iff]
        intro h
        have := hq.1 h
        exact hok ⟨this.2.1, this.2.2.1, this.2.2.2.1, this.2.2.2.2.1⟩
end
end Go.Proofs.Ytbadjlhijbkbbaa
