/-
  Joined by program out of the texts Quo Quz Qur: lemmas for the proofs of this seat; no condition.
-/
import Derived.Test.YtbadjlhijbkbbaaGreatBc
import Derived.Test.YtbadjlhijbkbbaaGreatBb
/-
  Plain names, quoted ones.
-/
set_option linter.unusedVariables false
namespace Go.Proofs.YtbadjlhijbkbbaaGreat.Sx
open Go Go.RowKit
section
variable {P : Program} {Q : Exit → Act → World → Prop} {N : Nat} {σ : Sl} {w : World} {K : Value → World → Prop}
variable {d : Option Tmp} {ty : TypeId} {ps : String} {af : Array Edge} {gd : Option (Nat × Bool)}
theorem run_eqN {t : TypeId} {ms : Array (String × TypeId)} (ht : P.underlying t = some (.interface ms)) (w : World) : (Op.equal t .nilIface .nilIface).run P w = .ok true w := by
  unfold Op.equal
  rw [show Op.maxDepth = 9999 + 1 from rfl, Op.equalIn]
  simp [run_underlying ht]
theorem run_eqNo {t u : TypeId} {v : Value} {ms : Array (String × TypeId)} (ht : P.underlying t = some (.interface ms)) (w : World) : (Op.equal t (.iface u v) .nilIface).run P w = .ok false w := by
  unfold Op.equal
  rw [show Op.maxDepth = 9999 + 1 from rfl, Op.equalIn]
  simp [run_underlying ht]
theorem binOp_eqN {t : TypeId} {ms : Array (String × TypeId)} (ht : P.underlying t = some (.interface ms)) (w : World) : (binOp .eql t .nilIface .nilIface).run P w = .ok (.bool true) w := by
  show (do pure (Value.bool (← Op.equal t .nilIface .nilIface)) : Sem Value).run P w = _
  simp [run_eqN ht]
theorem binOp_eqNo {t u : TypeId} {v : Value} {ms : Array (String × TypeId)} (ht : P.underlying t = some (.interface ms)) (w : World) : (binOp .eql t (.iface u v) .nilIface).run P w = .ok (.bool false) w := by
  show (do pure (Value.bool (← Op.equal t (.iface u v) .nilIface)) : Sem Value).run P w = _
  simp [run_eqNo ht]
/-- Is an interface's value nil? The literal nil stands behind. -/
theorem Wop.isNil {t t' : TypeId} {ms : Array (String × TypeId)} {x : Operand} (ht : P.underlying t = some (.interface ms)) (hx : look σ x = some .nilIface) (hk : K (.bool true) w) : Wop P Q N ⟨d, .binOp .eql t x (.const .nilIface) t', ty, ps, af, gd⟩ σ w K :=
  Wop.val (v := .bool true) (fun ρ h => by simp [execOp, h x _ hx, h (.const .nilIface) _ rfl, eqGuard_nil_constR, binOp_eqN ht]) hk
theorem Wop.notNil {t t' u : TypeId} {ms : Array (String × TypeId)} {x : Operand} {v : Value} (ht : P.underlying t = some (.interface ms)) (hx : look σ x = some (.iface u v)) (hk : K (.bool false) w) : Wop P Q N ⟨d, .binOp .eql t x (.const .nilIface) t', ty, ps, af, gd⟩ σ w K :=
  Wop.val (v := .bool false) (fun ρ h => by simp [execOp, h x _ hx, h (.const .nilIface) _ rfl, eqGuard, binOp_eqNo ht]) hk
theorem Wop.iface {t e : TypeId} {x : Operand} {v : Value} (ht : P.underlying t = some (.pointer e)) (hx : look σ x = some v) (hk : K (.iface t v) w) : Wop P Q N ⟨d, .makeInterface t x, ty, ps, af, gd⟩ σ w K :=
  Wop.val (fun ρ h => by simp [execOp, h x _ hx, Instr.makeInterface, run_underlying ht]) hk
end
end Go.Proofs.YtbadjlhijbkbbaaGreat.Sx
namespace Go.Proofs.YtbadjlhijbkbbaaGreat
open Go Go.RowKit Sx
section
variable {w : World}
def plainOk (s : ByteArray) : Bool := decide (s.size ≤ 24) && nameOk s
theorem gplain (s : ByteArray) (hs : s.size ≤ 140737488355328) : Calls Tryz.prog 135 [.string s].toArray w (Ret fun v w' => v = .bool (plainOk s) ∧ Ext w w') := by
  refine enter Tryz.func135 rfl Tryz.ntmps135 rfl ?_
  refine wk ?_
  refine Wl.part rfl rfl rfl (fun h => ?_) (fun h => ?_)
  · refine wk ?_
    refine Wop.fn en185 rfl (gName2 s hs) ?_
    rintro _ w2 ⟨rfl, e2⟩
    refine wk ?_
    refine Arr.ret1 rfl rfl ⟨congrArg Value.bool ?_, e2⟩
    rw [plainOk, decide_eq_true (by omega : s.size ≤ 24), Bool.true_and]
  · refine wk ?_
    refine Arr.ret1 rfl rfl ⟨congrArg Value.bool ?_, Ext.refl w⟩
    rw [plainOk, decide_eq_false (by omega : ¬ s.size ≤ 24), Bool.false_and]
theorem rplain (s : ByteArray) (hs : s.size ≤ 140737488355328) : Calls Tryz.prog 147 [.string s].toArray w (Ret fun v w' => v = .bool (plainOk s) ∧ Ext w w') := by
  refine enter Tryz.func147 rfl Tryz.ntmps147 rfl ?_
  refine wk ?_
  refine Wop.fn en193 rfl (rName1 s hs) ?_
  rintro _ w2 ⟨rfl, e2⟩
  refine wk ?_
  refine Wl.partB rfl rfl rfl (fun h => ?_) (fun h => ?_)
  · refine wk ?_
    refine Arr.ret1 rfl rfl ⟨congrArg Value.bool ?_, e2⟩
    rw [plainOk, h, Bool.and_true]
    exact decide_eq_decide.2 (by omega)
  · refine wk ?_
    refine Arr.ret1 rfl rfl ⟨congrArg Value.bool ?_, e2⟩
    rw [plainOk, h, Bool.and_false]

def insideB (n : Int) : Bool := decide (33 ≤ n ∧ n ≤ 126 ∧ n ≠ 39)
theorem ginside (n : Int) : Calls Tryz.prog 210 [.int .u8 n].toArray w (Ret fun v w' => v = .bool (insideB n) ∧ Ext w w') := by
  refine enter Tryz.func210 rfl Tryz.ntmps210 rfl ?_
  repeat' (first | refine W.seq ?_ | refine W.region ?_ | refine Wl.step rfl ?_ | refine Wl.act ?_ | refine Wl.done ?_ | refine Arr.next ?_ | refine W.block ?_ | refine W.skip ?_ | refine W.ret ?_ | refine W.exit ?_ | refine Arr.then_ret ?_ | refine Arr.then_exit ?_ | refine Arr.block_ret ?_ | refine Arr.block_normal ?_ | refine Arr.block_exit ?_ | refine Arr.block_other rfl ?_ | refine W.yes rfl ?_ | refine W.no rfl ?_ | refine Wl.stepY rfl rfl rfl rfl ?_ | refine Wl.stepN rfl rfl rfl rfl rfl ?_ | refine Wl.stepU rfl rfl rfl rfl ?_ | refine Wop.pure TT rfl ?_ | refine Wop.ldB TT rfl rfl (by first | assumption | exact Blk.ext (by assumption) (by assumption)) rfl ?_ | refine Wop.ld TT rfl rfl (by first | assumption | exact Ext.cell (by assumption) (by assumption)) ?_ | refine Wop.ldA TT rfl rfl rfl (by first | assumption | exact Blk.ext (by assumption) (by assumption)) ?_ | refine Wop.ldR TT rfl rfl rfl (by first | assumption | exact cells_ext (by assumption) (by assumption)) ?_ | refine Wop.ix TT rfl rfl rfl rfl rfl (by first | assumption | omega) ?_ | refine Wop.inc rfl rfl (by omega) ?_ | refine Wop.add rfl rfl ⟨by omega, by omega⟩ ?_ | refine Wop.sub rfl rfl ⟨by omega, by omega⟩ ?_ | refine Wop.box rfl (fun w1 e1 b1 z1 => ?_) | refine Wl.part rfl rfl rfl (fun h_ => ?_) (fun h_ => ?_) | refine W.testR rfl (fun h_ => ?_) (fun h_ => ?_))
  all_goals (refine Arr.ret1 rfl rfl ⟨congrArg Value.bool ?_, Ext.refl w⟩; first | exact (decide_eq_false (by omega)).symm | exact decide_eq_decide.2 (by omega))
theorem rinside (n : Int) : Calls Tryz.prog 216 [.int .u8 n].toArray w (Ret fun v w' => v = .bool (insideB n) ∧ Ext w w') := by
  refine enter Tryz.func216 rfl Tryz.ntmps216 rfl ?_
  repeat' (first | refine W.seq ?_ | refine W.region ?_ | refine Wl.step rfl ?_ | refine Wl.act ?_ | refine Wl.done ?_ | refine Arr.next ?_ | refine W.block ?_ | refine W.skip ?_ | refine W.ret ?_ | refine W.exit ?_ | refine Arr.then_ret ?_ | refine Arr.then_exit ?_ | refine Arr.block_ret ?_ | refine Arr.block_normal ?_ | refine Arr.block_exit ?_ | refine Arr.block_other rfl ?_ | refine W.yes rfl ?_ | refine W.no rfl ?_ | refine Wl.stepY rfl rfl rfl rfl ?_ | refine Wl.stepN rfl rfl rfl rfl rfl ?_ | refine Wl.stepU rfl rfl rfl rfl ?_ | refine Wop.pure TT rfl ?_ | refine Wop.ldB TT rfl rfl (by first | assumption | exact Blk.ext (by assumption) (by assumption)) rfl ?_ | refine Wop.ld TT rfl rfl (by first | assumption | exact Ext.cell (by assumption) (by assumption)) ?_ | refine Wop.ldA TT rfl rfl rfl (by first | assumption | exact Blk.ext (by assumption) (by assumption)) ?_ | refine Wop.ldR TT rfl rfl rfl (by first | assumption | exact cells_ext (by assumption) (by assumption)) ?_ | refine Wop.ix TT rfl rfl rfl rfl rfl (by first | assumption | omega) ?_ | refine Wop.inc rfl rfl (by omega) ?_ | refine Wop.add rfl rfl ⟨by omega, by omega⟩ ?_ | refine Wop.sub rfl rfl ⟨by omega, by omega⟩ ?_ | refine Wop.box rfl (fun w1 e1 b1 z1 => ?_) | refine Wl.part rfl rfl rfl (fun h_ => ?_) (fun h_ => ?_) | refine W.testR rfl (fun h_ => ?_) (fun h_ => ?_))
  all_goals (refine Arr.ret1 rfl rfl ⟨congrArg Value.bool ?_, Ext.refl w⟩; first | exact (decide_eq_false (by omega)).symm | exact decide_eq_decide.2 (by omega))
/-- How far what stands inside quotes goes, from 1 on. -/
structure SpanTo (s : ByteArray) (m : Nat) : Prop where
  lo : 1 ≤ m
  ins : ∀ j, 1 ≤ j → j < m → insideB (byt s j) = true
  stop : m < s.size → insideB (byt s m) = false
  le : m ≤ s.size ∨ m = 1
def quotedOk (s : ByteArray) : Bool := decide (3 ≤ s.size ∧ s.size ≤ 24 ∧ byt s 0 = 39 ∧ byt s (s.size - 1) = 39 ∧ ∀ j, j < s.size - 1 → 1 ≤ j → insideB (byt s j) = true)
theorem SpanTo.quoted {s : ByteArray} {m : Nat} (h : SpanTo s m) : quotedOk s = true ↔ (byt s 0 = 39 ∧ m < s.size ∧ byt s m = 39 ∧ m ≠ 1 ∧ m < 24 ∧ m + 1 = s.size) := by
  have h1 := h.lo
  rw [quotedOk, decide_eq_true_eq]
  constructor
  · rintro ⟨a1, a2, a3, a4, a5⟩
    have h39 : insideB 39 = false := by decide
    have hm : m = s.size - 1 := by
      rcases Nat.lt_trichotomy m (s.size - 1) with hl | hl | hl
      · have := h.stop (by omega)
        rw [a5 m hl h1] at this
        cases this
      · exact hl
      · have := h.ins (s.size - 1) (by omega) hl
        rw [a4, h39] at this
        cases this
    subst hm
    exact ⟨a3, by omega, a4, by omega, by omega, by omega⟩
  · rintro ⟨a1, a2, a3, a4, a5, a6⟩
    refine ⟨by omega, by omega, a1, ?_, fun j hj hj1 => h.ins j hj1 (by omega)⟩
    rw [show s.size - 1 = m by omega]
    exact a3
theorem gspan (s : ByteArray) (hs : s.size ≤ 140737488355328) : Calls Tryz.prog 209 [.string s, .int .i64 1, .func (.func 210) #[] #[]].toArray w (Ret fun v w' => (∃ m : Nat, v = .int .i64 (m : Int) ∧ SpanTo s (m + 1)) ∧ Ext w w') := by
  refine enter Tryz.func209 rfl Tryz.ntmps209 rfl ?_
  refine wk ?_
  refine W.loop (ι := Nat) (fun i => [(0, .string s), (1, .int .i64 1), (2, .func (.func 210) #[] #[]), (7, .int .i64 (i : Int))])
    (fun i w' => Ext w w' ∧ (i + 1 ≤ s.size ∨ i = 0) ∧ ∀ j, 1 ≤ j → j < i + 1 → insideB (byt s j) = true) (fun i => s.size - i) 0 has ⟨Ext.refl w, .inr rfl, fun j h1 h2 => by omega⟩ ?_
  rintro i w1 ⟨hE, hi, hp⟩
  refine wk ?_
  refine Wl.part rfl rfl rfl (fun hlt => ?_) (fun hge => ?_)
  · have hlt : i + 1 < s.size := by omega
    refine wk ?_
    refine Wop.byte TT (i + 1) rfl rfl rfl (by omega) hlt ?_
    refine wk ?_
    refine Wop.fnV (cap := []) en210 rfl rfl (ginside (byt s (i + 1))) ?_
    rintro _ w2 ⟨rfl, e2⟩
    refine wk ?_
    refine W.cond rfl (fun hy => ?_) (fun hn => ?_)
    · refine wk ?_
      refine Arr.again (i + 1) has ⟨hE.trans e2, .inl (by omega), fun j h1 h2 => ?_⟩ (by omega)
      rcases Nat.lt_or_ge j (i + 1) with h | h
      · exact hp j h1 h
      · obtain rfl : j = i + 1 := by omega
        exact hy
    · refine wk ?_
      exact Arr.ret1 rfl rfl ⟨⟨i, rfl, by omega, hp, fun _ => hn, by omega⟩, hE.trans e2⟩
  · refine wk ?_
    exact Arr.ret1 rfl rfl ⟨⟨i, rfl, by omega, hp, fun h => absurd h (by omega), by omega⟩, hE⟩
end
end Go.Proofs.YtbadjlhijbkbbaaGreat

/-
  Quoted names.
-/
set_option linter.unusedVariables false
namespace Go.Proofs.YtbadjlhijbkbbaaGreat
open Go Go.RowKit Sx
section
variable {w : World}
theorem gfault (e at_ : Int) (he : e ≠ 0) : Calls Tryz.prog 211 [.int .i64 e, .int .i64 at_].toArray w (Ret fun v w' => (∃ u x, v = .iface u x) ∧ Ext w w') := by
  refine enter Tryz.func211 rfl Tryz.ntmps211 rfl ?_
  refine wk ?_
  refine W.test rfl (fun h => absurd h he) (fun _ => ?_)
  refine wk ?_
  refine Wop.make (cs := #[.int .i64 e, .int .i64 at_]) pl247 rfl rfl ?_
  refine wk ?_; try (refine Wop.box rfl (fun w1 e1 b1 z1 => ?_); refine wk ?_)
  refine Wop.iface Tryz.underlying245 rfl ?_
  refine wk ?_
  exact Arr.ret1 rfl rfl ⟨⟨_, _, rfl⟩, e1⟩
/-- What 'quoted' answers. -/
def QuoAns (s : ByteArray) (n : Int) (ok : Bool) : Prop := ∃ m, SpanTo s m ∧ ok = decide (m < s.size ∧ byt s m = 39 ∧ m ≠ 1 ∧ m < 24) ∧ (ok = true → n = m + 1)
theorem gquoted (s : ByteArray) (hs : s.size ≤ 140737488355328) : Calls Tryz.prog 186 [.string s, .int .i64 0].toArray w (Ret fun v w' => (∃ n e ok, v = .tuple #[.int .i64 n, e] ∧ QuoAns s n ok ∧ (ok = true → e = .nilIface) ∧ (ok = false → ∃ u x, e = .iface u x)) ∧ Ext w w') := by
  refine enter Tryz.func186 rfl Tryz.ntmps186 rfl ?_
  refine wk ?_
  refine Wop.fn en209 rfl (gspan s hs) ?_
  rintro _ w1 ⟨⟨k, rfl, hsp⟩, e1⟩
  have hk := hsp.le
  refine wk ?_
  refine W.test rfl (fun h => ?_) (fun h => ?_)
  · refine wk ?_
    refine Wop.fn en211 rfl (gfault 4 _ (by decide)) ?_
    rintro _ w2 ⟨⟨u, x, rfl⟩, e2⟩
    refine wk ?_
    exact Arr.ret2 rfl rfl rfl ⟨⟨_, _, false, rfl, ⟨k + 1, hsp, (decide_eq_false (by omega)).symm, fun h => (by cases h)⟩, fun h => (by cases h), fun _ => ⟨u, x, rfl⟩⟩, e1.trans e2⟩
  · have hlt : k + 1 < s.size := by omega
    refine wk ?_
    refine Wop.byte TT (k + 1) rfl rfl rfl (by omega) hlt ?_
    refine wk ?_
    refine Wl.part rfl rfl rfl (fun h2 => ?_) (fun h2 => ?_)
    · refine wk ?_
      refine Wop.fn en211 rfl (gfault 2 _ (by decide)) ?_
      rintro _ w2 ⟨⟨u, x, rfl⟩, e2⟩
      refine wk ?_
      exact Arr.ret2 rfl rfl rfl ⟨⟨_, _, false, rfl, ⟨k + 1, hsp, (decide_eq_false (by omega)).symm, fun h => (by cases h)⟩, fun h => (by cases h), fun _ => ⟨u, x, rfl⟩⟩, e1.trans e2⟩
    · refine wk ?_
      refine W.test rfl (fun h3 => ?_) (fun h3 => ?_)
      · refine wk ?_
        refine Wop.fn en211 rfl (gfault 2 _ (by decide)) ?_
        rintro _ w2 ⟨⟨u, x, rfl⟩, e2⟩
        refine wk ?_
        exact Arr.ret2 rfl rfl rfl ⟨⟨_, _, false, rfl, ⟨k + 1, hsp, (decide_eq_false (by omega)).symm, fun h => (by cases h)⟩, fun h => (by cases h), fun _ => ⟨u, x, rfl⟩⟩, e1.trans e2⟩
      · refine wk ?_
        refine W.test rfl (fun h4 => ?_) (fun h4 => ?_)
        · refine wk ?_
          refine Wop.fn en211 rfl (gfault 5 _ (by decide)) ?_
          rintro _ w2 ⟨⟨u, x, rfl⟩, e2⟩
          refine wk ?_
          exact Arr.ret2 rfl rfl rfl ⟨⟨_, _, false, rfl, ⟨k + 1, hsp, (decide_eq_false (by omega)).symm, fun h => (by cases h)⟩, fun h => (by cases h), fun _ => ⟨u, x, rfl⟩⟩, e1.trans e2⟩
        · refine wk ?_
          exact Arr.ret2 rfl rfl rfl ⟨⟨_, _, true, rfl, ⟨k + 1, hsp, (decide_eq_true (by omega)).symm, fun _ => by omega⟩, fun _ => rfl, fun h => (by cases h)⟩, e1⟩
theorem gQuoted (s : ByteArray) (hs : s.size ≤ 140737488355328) : Calls Tryz.prog 136 [.string s].toArray w (Ret fun v w' => v = .bool (quotedOk s) ∧ Ext w w') := by
  refine enter Tryz.func136 rfl Tryz.ntmps136 rfl ?_
  refine wk ?_
  refine Wl.part rfl rfl rfl (fun h => ?_) (fun h => ?_)
  · refine wk ?_
    refine Arr.ret1 rfl rfl ⟨congrArg Value.bool ?_, Ext.refl w⟩
    subst h
    rfl
  · have hpos : 0 < s.size := by
      have : s.size ≠ 0 := fun h2 => h (ByteArray.size_eq_zero_iff.1 h2)
      omega
    refine wk ?_
    refine Wop.byte TT 0 rfl rfl rfl rfl hpos ?_
    refine wk ?_
    refine W.test rfl (fun h2 => ?_) (fun h2 => ?_)
    · refine wk ?_
      refine Arr.ret1 rfl rfl ⟨congrArg Value.bool ?_, Ext.refl w⟩
      exact (decide_eq_false (fun h3 => h2 h3.2.2.1)).symm
    · refine wk ?_
      refine Wop.fn en186 rfl (gquoted s hs) ?_
      rintro _ w1 ⟨⟨n, e, ok, rfl, ⟨m, hsp, hok, hn⟩, ht, hf⟩, e1⟩
      have hq := hsp.quoted
      refine wk ?_
      cases ok with
      | true =>
        obtain rfl := ht rfl
        have hn := hn rfl
        refine Wop.isNil Tryz.underlying123 rfl ?_
        refine wk ?_
        refine Arr.ret1 rfl rfl ⟨congrArg Value.bool ?_, e1⟩
        have hok := of_decide_eq_true hok.symm
        rw [Bool.eq_iff_iff, decide_eq_true_eq, hq]
        constructor
        · intro h; refine ⟨by omega, hok.1, hok.2.1, hok.2.2.1, hok.2.2.2, by omega⟩
        · intro h; omega
      | false =>
        obtain ⟨u, x, rfl⟩ := hf rfl
        refine Wop.notNil Tryz.underlying123 rfl ?_
        refine wk ?_
        refine Arr.ret1 rfl rfl ⟨congrArg Value.bool ?_, e1⟩
        have hok := of_decide_eq_false hok.symm
        rw [eq_comm, Bool.eq_false_iff]
        intro h
        have := hq.1 h
        exact hok ⟨this.2.1, this.2.2.1, this.2.2.2.1, this.2.2.2.2.1⟩
end
end Go.Proofs.YtbadjlhijbkbbaaGreat

/-
  Quoted names, by the reference.
-/
set_option linter.unusedVariables false
namespace Go.Proofs.YtbadjlhijbkbbaaGreat
open Go Go.RowKit Sx
section
variable {w : World}
theorem rquoted (s : ByteArray) (hs : s.size ≤ 140737488355328) : Calls Tryz.prog 194 [.string s, .int .i64 0].toArray w (Ret fun v w' => (∃ n e a ok, v = .tuple #[.int .i64 n, .agg #[.int .i64 e, .int .i64 a]] ∧ QuoAns s n ok ∧ (ok = true ↔ e = 0)) ∧ Ext w w') := by
  refine enter Tryz.func194 rfl Tryz.ntmps194 rfl ?_
  refine wk ?_
  refine Wop.alloc (z := .agg #[.int .i64 0, .int .i64 0]) Tryz.zeroValue216 (fun w0 e0 b0 z0 => ?_)
  refine wk ?_
  refine W.midB (ι := Nat) (fun i => [(0, .string s), (1, .int .i64 0), (5, .pointer (some ⟨w.heap.size, 0, none⟩)), (6, .int .i64 ((i + 1 : Nat) : Int))]) (fun i w' => Ext w0 w' ∧ SpanTo s (i + 1)) ?_ ?_
  · refine wk ?_
    refine W.loop (ι := Nat) (fun i => [(0, .string s), (1, .int .i64 0), (5, .pointer (some ⟨w.heap.size, 0, none⟩)), (6, .int .i64 ((i + 1 : Nat) : Int))])
      (fun i w' => Ext w0 w' ∧ (i + 1 ≤ s.size ∨ i = 0) ∧ ∀ j, 1 ≤ j → j < i + 1 → insideB (byt s j) = true) (fun i => s.size - i) 0 has ⟨Ext.refl w0, .inr rfl, fun j h1 h2 => by omega⟩ ?_
    rintro i w1 ⟨hE, hi, hp⟩
    refine wk ?_
    refine Wl.part rfl rfl rfl (fun hlt => ?_) (fun hge => ?_)
    · have hlt : i + 1 < s.size := by omega
      refine wk ?_
      refine Wop.byte TT (i + 1) rfl rfl rfl (by omega) hlt ?_
      refine wk ?_
      refine Wop.fn en216 rfl (rinside (byt s (i + 1))) ?_
      rintro _ w2 ⟨rfl, e2⟩
      refine wk ?_
      refine W.cond rfl (fun hy => ?_) (fun hn => ?_)
      · refine wk ?_
        refine Arr.again (i + 1) has ⟨hE.trans e2, .inl (by omega), fun j h1 h2 => ?_⟩ (by omega)
        rcases Nat.lt_or_ge j (i + 1) with h | h
        · exact hp j h1 h
        · obtain rfl : j = i + 1 := by omega
          exact hy
      · refine wk ?_
        exact Arr.mid i has ⟨hE.trans e2, by omega, hp, fun _ => hn, by omega⟩
    · refine wk ?_
      exact Arr.mid i has ⟨hE, by omega, hp, fun h => absurd h (by omega), by omega⟩
  · rintro i w1 ⟨hE, hsp⟩
    have b1 := b0.ext hE
    have hi := hsp.le
    refine wk ?_
    refine W.test rfl (fun h => ?_) (fun h => ?_)
    · refine wk ?_
      refine Wop.make (cs := #[.int .i64 4, .int .i64 (s.size : Int)]) pl216 rfl rfl ?_
      refine wk ?_
      refine Wop.stB TT rfl rfl rfl (by simp [Value.oneCell']) b1 rfl (fun w3 h3 b3 z3 k3 => ?_)
      refine wk ?_
      exact Arr.retTC TT rfl rfl b3 rfl rfl rfl ⟨⟨_, _, _, false, rfl, ⟨i + 1, hsp, (decide_eq_false (by omega)).symm, fun h => (by cases h)⟩, by simp⟩, Below.trans e0 (Below.trans (Below.mono hE e0.size) h3)⟩
    · have hlt : i + 1 < s.size := by omega
      refine wk ?_
      refine Wop.byte TT (i + 1) rfl rfl rfl (by omega) hlt ?_
      refine wk ?_
      refine Wl.part rfl rfl rfl (fun h2 => ?_) (fun h2 => ?_)
      · refine wk ?_
        refine Wop.make (cs := #[.int .i64 2, .int .i64 (0 + ((i + 1 : Nat) : Int))]) pl216 rfl rfl ?_
        refine wk ?_
        refine Wop.stB TT rfl rfl rfl (by simp [Value.oneCell']) b1 rfl (fun w3 h3 b3 z3 k3 => ?_)
        refine wk ?_
        exact Arr.retTC TT rfl rfl b3 rfl rfl rfl ⟨⟨_, _, _, false, rfl, ⟨i + 1, hsp, (decide_eq_false (by omega)).symm, fun h => (by cases h)⟩, by simp⟩, Below.trans e0 (Below.trans (Below.mono hE e0.size) h3)⟩
      · refine wk ?_
        refine W.test rfl (fun h3 => ?_) (fun h3 => ?_)
        · refine wk ?_
          refine Wop.make (cs := #[.int .i64 2, .int .i64 (0 + ((i + 1 : Nat) : Int))]) pl216 rfl rfl ?_
          refine wk ?_
          refine Wop.stB TT rfl rfl rfl (by simp [Value.oneCell']) b1 rfl (fun w3 h3' b3 z3 k3 => ?_)
          refine wk ?_
          exact Arr.retTC TT rfl rfl b3 rfl rfl rfl ⟨⟨_, _, _, false, rfl, ⟨i + 1, hsp, (decide_eq_false (by omega)).symm, fun h => (by cases h)⟩, by simp⟩, Below.trans e0 (Below.trans (Below.mono hE e0.size) h3')⟩
        · refine wk ?_
          refine W.test rfl (fun h4 => ?_) (fun h4 => ?_)
          · refine wk ?_
            refine Wop.make (cs := #[.int .i64 5, .int .i64 0]) pl216 rfl rfl ?_
            refine wk ?_
            refine Wop.stB TT rfl rfl rfl (by simp [Value.oneCell']) b1 rfl (fun w3 h3' b3 z3 k3 => ?_)
            refine wk ?_
            exact Arr.retTC TT rfl rfl b3 rfl rfl rfl ⟨⟨_, _, _, false, rfl, ⟨i + 1, hsp, (decide_eq_false (by omega)).symm, fun h => (by cases h)⟩, by simp⟩, Below.trans e0 (Below.trans (Below.mono hE e0.size) h3')⟩
          · refine wk ?_
            refine Wop.make (cs := #[.int .i64 0, .int .i64 0]) pl216 rfl rfl ?_
            refine wk ?_
            refine Wop.stB TT rfl rfl rfl (by simp [Value.oneCell']) b1 rfl (fun w3 h3' b3 z3 k3 => ?_)
            refine wk ?_
            exact Arr.retTC TT rfl rfl b3 rfl rfl rfl ⟨⟨_, _, _, true, rfl, ⟨i + 1, hsp, (decide_eq_true (by omega)).symm, fun _ => by omega⟩, by simp⟩, Below.trans e0 (Below.trans (Below.mono hE e0.size) h3')⟩
theorem rQuoted (s : ByteArray) (hs : s.size ≤ 140737488355328) : Calls Tryz.prog 148 [.string s].toArray w (Ret fun v w' => v = .bool (quotedOk s) ∧ Ext w w') := by
  refine enter Tryz.func148 rfl Tryz.ntmps148 rfl ?_
  refine wk ?_
  refine Wl.part rfl rfl rfl (fun h => ?_) (fun h => ?_)
  · refine wk ?_
    refine Arr.ret1 rfl rfl ⟨congrArg Value.bool ?_, Ext.refl w⟩
    subst h
    rfl
  · have hpos : 0 < s.size := by
      have : s.size ≠ 0 := fun h2 => h (ByteArray.size_eq_zero_iff.1 h2)
      omega
    refine wk ?_
    refine Wop.byte TT 0 rfl rfl rfl rfl hpos ?_
    refine wk ?_
    refine W.test rfl (fun h2 => ?_) (fun h2 => ?_)
    · refine wk ?_
      refine Arr.ret1 rfl rfl ⟨congrArg Value.bool ?_, Ext.refl w⟩
      exact (decide_eq_false (fun h3 => h2 h3.2.2.1)).symm
    · refine wk ?_
      refine Wop.fn en194 rfl (rquoted s hs) ?_
      rintro _ w1 ⟨⟨n, e, a, ok, rfl, ⟨m, hsp, hok, hn⟩, he⟩, e1⟩
      have hq := hsp.quoted
      refine wk ?_
      refine Wop.alloc (z := .agg #[.int .i64 0, .int .i64 0]) Tryz.zeroValue216 (fun w2 e2 b2 z2 => ?_)
      refine wk ?_
      refine Wop.stB TT rfl rfl rfl (by simp [Value.oneCell']) b2 rfl (fun w3 h3 b3 z3 k3 => ?_)
      have e3 := e1.trans (Below.trans e2 h3)
      refine wk ?_
      refine Wl.part rfl rfl rfl (fun h4 => ?_) (fun h4 => ?_)
      · refine wk ?_
        refine Arr.ret1 rfl rfl ⟨congrArg Value.bool ?_, e3⟩
        have hk := he.2 h4
        have hn := hn hk
        rw [hk] at hok
        have hok := of_decide_eq_true hok.symm
        rw [Bool.eq_iff_iff, decide_eq_true_eq, hq]
        constructor
        · intro h; refine ⟨by omega, hok.1, hok.2.1, hok.2.2.1, hok.2.2.2, by omega⟩
        · intro h; omega
      · refine wk ?_
        refine Arr.ret1 rfl rfl ⟨congrArg Value.bool ?_, e3⟩
        have hk : ok = false := by
          cases ok with
          | true => exact absurd (he.1 rfl) h4
          | false => rfl
        rw [hk] at hok
        have hok := of_decide_eq_false hok.symm
        rw [eq_comm, Bool.eq_false_iff]
        intro h
        have := hq.1 h
        exact hok ⟨this.2.1, this.2.2.1, this.2.2.2.1, this.2.2.2.2.1⟩
end
end Go.Proofs.YtbadjlhijbkbbaaGreat
