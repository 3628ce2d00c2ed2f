/-
  What each kind of operation does in the walk over slots. Nothing of the program is in it.
-/
import Derived.Test.YtbadjlhijbkbbaaSx
import Derived.Laws.Tables
set_option linter.unusedVariables false
namespace Go.Proofs.Ytbadjlhijbkbbaa.Sx
open Go Go.RowKit
theorem toList_inj {a b : ByteArray} (h : a.toList = b.toList) : a = b := by
  rw [ByteArray.toList_eq, ByteArray.toList_eq] at h
  cases a; cases b
  congr 1
  exact Array.ext' h
/-- In the range of int. -/
def I64 (n : Int) : Prop := -9223372036854775808 ≤ n ∧ n ≤ 9223372036854775807
section
variable {P : Program} {Q : Exit → Act → World → Prop} {N : Nat} {σ : Sl} {w : World} {K : Value → World → Prop}
variable {d : Option Tmp} {ty : TypeId} {ps : String} {af : Array Edge} {gd : Option (Nat × Bool)}

theorem Wop.move {x : Operand} {v : Value} (hx : look σ x = some v) (hk : K v w) : Wop P Q N ⟨d, .move x, ty, ps, af, gd⟩ σ w K :=
  Wop.val (fun ρ h => by simp [execOp, h x v hx]) hk
theorem Wop.assign {x : Operand} {v : Value} (hx : look σ x = some v) (hk : K v w) : Wop P Q N ⟨d, .assign x, ty, ps, af, gd⟩ σ w K :=
  Wop.val (fun ρ h => by simp [execOp, h x v hx]) hk
theorem Wop.pick {c x y : Operand} {t : Bool} {u v : Value} (hc : look σ c = some (.bool t)) (hx : look σ x = some u) (hy : look σ y = some v) (hk : K (if t then u else v) w) : Wop P Q N ⟨d, .pick c x y, ty, ps, af, gd⟩ σ w K :=
  Wop.val (fun ρ h => by simp [execOp, h c _ hc, h x u hx, h y v hy, asBool]) hk
theorem Wop.pickT {c x y : Operand} {u : Value} (hc : look σ c = some (.bool true)) (hx : look σ x = some u) (hk : K u w) : Wop P Q N ⟨d, .pick c x y, ty, ps, af, gd⟩ σ w K :=
  Wop.val (fun ρ h => by simp [execOp, h c _ hc, h x u hx, asBool]) hk
theorem Wop.pickF {c x y : Operand} {u : Value} (hc : look σ c = some (.bool false)) (hy : look σ y = some u) (hk : K u w) : Wop P Q N ⟨d, .pick c x y, ty, ps, af, gd⟩ σ w K :=
  Wop.val (fun ρ h => by simp [execOp, h c _ hc, h y u hy, asBool]) hk
theorem Wop.not {x : Operand} {b : Bool} {t : TypeId} (hx : look σ x = some (.bool b)) (hk : K (.bool !b) w) : Wop P Q N ⟨d, .unOp .not t x, ty, ps, af, gd⟩ σ w K :=
  Wop.val (fun ρ h => by simp [execOp, h x _ hx, Op.unary]) hk
theorem Wop.extract {x : Operand} {i : Nat} {vs : Array Value} {v : Value} (hx : look σ x = some (.tuple vs)) (hi : vs[i]? = some v) (hk : K v w) : Wop P Q N ⟨d, .extract x i, ty, ps, af, gd⟩ σ w K :=
  Wop.val (fun ρ h => by simp [execOp, h x _ hx, Instr.extract, hi]) hk
theorem Wop.nilCheckP {x : Operand} {a : Addr} (hx : look σ x = some (.pointer (some a))) (hk : K (.pointer (some a)) w) : Wop P Q N ⟨d, .nilCheck x, ty, ps, af, gd⟩ σ w K :=
  Wop.val (fun ρ h => by simp [execOp, h x _ hx]) hk
theorem Wop.makeFunc {fn : Fn} {first captured : Array Operand} {vs us : Array Value} (h1 : first.mapM (look σ) = some vs) (h2 : captured.mapM (look σ) = some us) (hk : K (.func fn vs us) w) :
    Wop P Q N ⟨d, .makeFunc fn first captured, ty, ps, af, gd⟩ σ w K := by
  have key : ∀ (ρ : Operand → Value), (∀ x u, look σ x = some u → ρ x = u) → ∀ (l : Array Operand) (vs : Array Value), l.mapM (look σ) = some vs → l.map ρ = vs := by
    intro ρ h l vs hl
    have hl' : l.toList.mapM (look σ) = some vs.toList := by
      rw [Array.mapM_eq_mapM_toList] at hl
      obtain ⟨r, hr, he⟩ := Option.map_eq_some_iff.1 (by simpa using hl)
      rw [hr, ← he]
    have : ∀ (l : List Operand) (vs : List Value), l.mapM (look σ) = some vs → l.map ρ = vs := by
      intro l
      induction l with
      | nil => intro vs h; simp at h; simp [h]
      | cons x l ih =>
        intro vs hl
        simp only [List.mapM_cons, Option.bind_eq_bind, Option.pure_def] at hl
        obtain ⟨v, hv, hl⟩ := Option.bind_eq_some_iff.1 hl
        obtain ⟨r, hr, he⟩ := Option.bind_eq_some_iff.1 hl
        simp at he
        subst he
        simp [h x v hv, ih r hr]
    apply Array.ext'
    rw [Array.toList_map]
    exact this _ _ hl'
  exact Wop.val (fun ρ h => by simp [execOp, key ρ h first vs h1, key ρ h captured us h2, Instr.makeFunc]) hk

/-! ### numbers -/
theorem Wop.lss {t t' : TypeId} {x y : Operand} {k : IntKind} {m n : Int} (hx : look σ x = some (.int k m)) (hy : look σ y = some (.int k n)) (hk : K (.bool (decide (m < n))) w) : Wop P Q N ⟨d, .binOp .lss t x y t', ty, ps, af, gd⟩ σ w K :=
  Wop.val (fun ρ h => by simp [execOp, h x _ hx, h y _ hy, eqGuard, binOp, Op.intCmp]) hk
theorem Wop.leq {t t' : TypeId} {x y : Operand} {k : IntKind} {m n : Int} (hx : look σ x = some (.int k m)) (hy : look σ y = some (.int k n)) (hk : K (.bool (decide (m ≤ n))) w) : Wop P Q N ⟨d, .binOp .leq t x y t', ty, ps, af, gd⟩ σ w K :=
  Wop.val (fun ρ h => by simp [execOp, h x _ hx, h y _ hy, eqGuard, binOp, Op.intCmp]) hk
theorem Wop.gtr {t t' : TypeId} {x y : Operand} {k : IntKind} {m n : Int} (hx : look σ x = some (.int k m)) (hy : look σ y = some (.int k n)) (hk : K (.bool (decide (n < m))) w) : Wop P Q N ⟨d, .binOp .gtr t x y t', ty, ps, af, gd⟩ σ w K :=
  Wop.val (fun ρ h => by simp [execOp, h x _ hx, h y _ hy, eqGuard, binOp, Op.intCmp]) hk
theorem Wop.geq {t t' : TypeId} {x y : Operand} {k : IntKind} {m n : Int} (hx : look σ x = some (.int k m)) (hy : look σ y = some (.int k n)) (hk : K (.bool (decide (n ≤ m))) w) : Wop P Q N ⟨d, .binOp .geq t x y t', ty, ps, af, gd⟩ σ w K :=
  Wop.val (fun ρ h => by simp [execOp, h x _ hx, h y _ hy, eqGuard, binOp, Op.intCmp]) hk
theorem Wop.eqlI {t t' : TypeId} {x y : Operand} {k : IntKind} {m n : Int} (hx : look σ x = some (.int k m)) (hy : look σ y = some (.int k n)) (hk : K (.bool (decide (m = n))) w) : Wop P Q N ⟨d, .binOp .eql t x y t', ty, ps, af, gd⟩ σ w K :=
  Wop.val (fun ρ h => by simp [execOp, h x _ hx, h y _ hy, eqGuard, binOp, Op.intCmp, Bool.beq_eq_decide_eq]) hk
theorem Wop.neqI {t t' : TypeId} {x y : Operand} {k : IntKind} {m n : Int} (hx : look σ x = some (.int k m)) (hy : look σ y = some (.int k n)) (hk : K (.bool (decide (m ≠ n))) w) : Wop P Q N ⟨d, .binOp .neq t x y t', ty, ps, af, gd⟩ σ w K :=
  Wop.val (v := .bool (decide (m ≠ n))) (fun ρ h => by
    have e : (m != n) = decide (m ≠ n) := by by_cases h : m = n <;> simp [h]
    simp [execOp, h x _ hx, h y _ hy, eqGuard, binOp, Op.intCmp, e]) hk
theorem Wop.eqlS {t t' : TypeId} {x y : Operand} {a b : ByteArray} (hx : look σ x = some (.string a)) (hy : look σ y = some (.string b)) (hk : K (.bool (decide (a = b))) w) : Wop P Q N ⟨d, .binOp .eql t x y t', ty, ps, af, gd⟩ σ w K :=
  Wop.val (v := .bool (decide (a = b))) (fun ρ h => by
    have e : (a.toList == b.toList) = decide (a = b) := by
      by_cases h : a = b
      · subst h; simp
      · rw [decide_eq_false h]
        simp only [beq_eq_false_iff_ne, ne_eq]
        intro h'
        exact h (toList_inj h')
    simp [execOp, h x _ hx, h y _ hy, eqGuard, binOp, Op.stringOp, e]) hk
theorem Wop.neqS {t t' : TypeId} {x y : Operand} {a b : ByteArray} (hx : look σ x = some (.string a)) (hy : look σ y = some (.string b)) (hk : K (.bool (decide (a ≠ b))) w) : Wop P Q N ⟨d, .binOp .neq t x y t', ty, ps, af, gd⟩ σ w K :=
  Wop.val (v := .bool (decide (a ≠ b))) (fun ρ h => by
    have e : (!(a.toList == b.toList)) = decide (a ≠ b) := by
      by_cases h : a = b
      · subst h; simp
      · rw [decide_eq_true h]
        simp only [Bool.not_eq_true', beq_eq_false_iff_ne, ne_eq]
        intro h'
        exact h (toList_inj h')
    simp [execOp, h x _ hx, h y _ hy, eqGuard, binOp, Op.stringOp, e]) hk
theorem run_eqB {t : TypeId} (ht : P.underlying t = some .bool) (a b : Bool) (w : World) : (Op.equal t (.bool a) (.bool b)).run P w = .ok (a == b) w := by
  unfold Op.equal
  rw [show Op.maxDepth = 9999 + 1 from rfl, Op.equalIn]
  simp [run_underlying ht]
theorem binOp_eqB {t : TypeId} (ht : P.underlying t = some .bool) (a b : Bool) (w : World) : (binOp .eql t (.bool a) (.bool b)).run P w = .ok (.bool (a == b)) w := by
  show (do pure (Value.bool (← Op.equal t (.bool a) (.bool b))) : Sem Value).run P w = _
  simp [run_eqB ht]
theorem binOp_neB {t : TypeId} (ht : P.underlying t = some .bool) (a b : Bool) (w : World) : (binOp .neq t (.bool a) (.bool b)).run P w = .ok (.bool (a != b)) w := by
  show (do pure (Value.bool (!(← Op.equal t (.bool a) (.bool b)))) : Sem Value).run P w = _
  simp [run_eqB ht, bne]
theorem Wop.eqlB {t t' : TypeId} {x y : Operand} {a b : Bool} (ht : P.underlying t = some .bool) (hx : look σ x = some (.bool a)) (hy : look σ y = some (.bool b)) (hk : K (.bool (a == b)) w) : Wop P Q N ⟨d, .binOp .eql t x y t', ty, ps, af, gd⟩ σ w K :=
  Wop.val (v := .bool (a == b)) (fun ρ h => by simp [execOp, h x _ hx, h y _ hy, eqGuard, binOp_eqB ht]) hk
theorem Wop.neqB {t t' : TypeId} {x y : Operand} {a b : Bool} (ht : P.underlying t = some .bool) (hx : look σ x = some (.bool a)) (hy : look σ y = some (.bool b)) (hk : K (.bool (a != b)) w) : Wop P Q N ⟨d, .binOp .neq t x y t', ty, ps, af, gd⟩ σ w K :=
  Wop.val (v := .bool (a != b)) (fun ρ h => by simp [execOp, h x _ hx, h y _ hy, eqGuard, binOp_neB ht]) hk

theorem Wop.add {t t' : TypeId} {x y : Operand} {m n : Int} (hx : look σ x = some (.int .i64 m)) (hy : look σ y = some (.int .i64 n)) (hr : I64 (m + n)) (hk : K (.int .i64 (m + n)) w) : Wop P Q N ⟨d, .binOp .add t x y t', ty, ps, af, gd⟩ σ w K :=
  Wop.val (fun ρ h => by simp [execOp, h x _ hx, h y _ hy, eqGuard, binOp, Op.intArith, IntWalk.i64_in _ hr]) hk
theorem Wop.sub {t t' : TypeId} {x y : Operand} {m n : Int} (hx : look σ x = some (.int .i64 m)) (hy : look σ y = some (.int .i64 n)) (hr : I64 (m - n)) (hk : K (.int .i64 (m - n)) w) : Wop P Q N ⟨d, .binOp .sub t x y t', ty, ps, af, gd⟩ σ w K :=
  Wop.val (fun ρ h => by simp [execOp, h x _ hx, h y _ hy, eqGuard, binOp, Op.intArith, IntWalk.i64_in _ hr]) hk
theorem Wop.mul {t t' : TypeId} {x y : Operand} {m n : Int} (hx : look σ x = some (.int .i64 m)) (hy : look σ y = some (.int .i64 n)) (hr : I64 (m * n)) (hk : K (.int .i64 (m * n)) w) : Wop P Q N ⟨d, .binOp .mul t x y t', ty, ps, af, gd⟩ σ w K :=
  Wop.val (fun ρ h => by simp [execOp, h x _ hx, h y _ hy, eqGuard, binOp, Op.intArith, IntWalk.i64_in _ hr]) hk
/-- The next number of a count. -/
theorem Wop.inc {t t' : TypeId} {x y : Operand} {n : Nat} (hx : look σ x = some (.int .i64 (n : Int))) (hy : look σ y = some (.int .i64 1)) (hr : n < 9223372036854775807) (hk : K (.int .i64 ((n + 1 : Nat) : Int)) w) : Wop P Q N ⟨d, .binOp .add t x y t', ty, ps, af, gd⟩ σ w K :=
  Wop.add hx hy ⟨by omega, by omega⟩ (by rw [show ((n : Int) + 1) = ((n + 1 : Nat) : Int) by omega]; exact hk)
theorem Wop.quo {t t' : TypeId} {x y : Operand} {m n : Int} (hx : look σ x = some (.int .i64 m)) (hy : look σ y = some (.int .i64 n)) (hm : 0 ≤ m) (hn : 0 < n) (hr : m ≤ 9223372036854775807) (hk : K (.int .i64 (m / n)) w) : Wop P Q N ⟨d, .binOp .quo t x y t', ty, ps, af, gd⟩ σ w K :=
  Wop.val (fun ρ h => by
    have h0 : ¬ n = 0 := by omega
    have h1 : m.tdiv n = m / n := Int.tdiv_eq_ediv_of_nonneg hm
    have h2 : m / n ≤ m := Int.ediv_le_self _ hm
    have h3 : 0 ≤ m / n := Int.ediv_nonneg hm (by omega)
    have h4 : IntKind.i64.wrap (m / n) = m / n := IntWalk.i64_in _ ⟨by omega, by omega⟩
    simp [execOp, h x _ hx, h y _ hy, eqGuard, binOp, Op.intDiv, h0, h1, h4]) hk
theorem Wop.rem {t t' : TypeId} {x y : Operand} {m n : Int} (hx : look σ x = some (.int .i64 m)) (hy : look σ y = some (.int .i64 n)) (hm : 0 ≤ m) (hn : 0 < n) (hk : K (.int .i64 (m % n)) w) : Wop P Q N ⟨d, .binOp .rem t x y t', ty, ps, af, gd⟩ σ w K :=
  Wop.val (fun ρ h => by
    have h0 : ¬ n = 0 := by omega
    have h1 : m.tmod n = m % n := Int.tmod_eq_emod_of_nonneg hm
    simp [execOp, h x _ hx, h y _ hy, eqGuard, binOp, Op.intDiv, h0, h1]) hk

/-! ### memory -/
theorem Wop.box {t : TypeId} {x : Operand} {v : Value} (hx : look σ x = some v) (hk : ∀ w', Ext w w' → Blk w' w.heap.size v.cells t → w'.heap.size = w.heap.size + 1 → K (.pointer (some ⟨w.heap.size, 0, none⟩)) w') :
    Wop P Q N ⟨d, .box t x, ty, ps, af, gd⟩ σ w K :=
  Wop.val (w' := w.alloc (.cells v.cells t)) (fun ρ h => by simp [execOp, h x v hx, Instr.box, newVar, newRow]) (hk _ (Ext.alloc _ _) (Blk.alloc _ _ _) (by simp))
theorem Wop.alloc {t : TypeId} {z : Value} (hz : ∀ w, (zeroValue t).run P w = .ok z w) (hk : ∀ w', Ext w w' → Blk w' w.heap.size z.cells t → w'.heap.size = w.heap.size + 1 → K (.pointer (some ⟨w.heap.size, 0, none⟩)) w') :
    Wop P Q N ⟨d, .alloc t, ty, ps, af, gd⟩ σ w K :=
  Wop.val (w' := w.alloc (.cells z.cells t)) (fun ρ h => by simp [execOp, Instr.alloc, hz, newVar, newRow]) (hk _ (Ext.alloc _ _) (Blk.alloc _ _ _) (by simp))
/-- A cell is read. -/
theorem Wop.load {t : TypeId} {x : Operand} {a : Addr} {v : Value} (hx : look σ x = some (.pointer (some a))) (hag : ∀ w, (isAgg t).run P w = .ok false w) (hc : w.cell? a = some v) (hk : K v w) :
    Wop P Q N ⟨d, .load t x, ty, ps, af, gd⟩ σ w K :=
  Wop.val (fun ρ h => by simp [execOp, h x _ hx, Instr.loadAt, Instr.sureAddr, loadVar, hag, hc]) hk
theorem loadCells_run {w : World} {a : Addr} : ∀ (cs : List Value) (i : Nat) (acc : Array Value), (∀ j v, cs[j]? = some v → w.cell? (a.add (i + j)) = some v) → (loadCellsFrom a i cs.length acc).run P w = .ok (acc ++ cs.toArray) w
  | [], i, acc, _ => by simp [loadCellsFrom]
  | c :: cs, i, acc, h => by
    have h0 : w.cell? (a.add i) = some c := h 0 c rfl
    have ih := loadCells_run cs (i + 1) (acc.push c) (fun j v hj => by have := h (j + 1) v (by simpa using hj); rwa [show i + (j + 1) = i + 1 + j by omega] at this)
    simp [loadCellsFrom, h0, ih]
/-- A struct is read. -/
theorem Wop.loads {t : TypeId} {x : Operand} {a : Addr} {cs : List Value} {n : Nat} (hx : look σ x = some (.pointer (some a))) (hag : ∀ w, (isAgg t).run P w = .ok true w) (hsz : ∀ w, (Go.sizeOf t).run P w = .ok n w) (hn : cs.length = n)
    (hc : ∀ j v, cs[j]? = some v → w.cell? (a.add j) = some v) (hk : K (.agg cs.toArray) w) :
    Wop P Q N ⟨d, .load t x, ty, ps, af, gd⟩ σ w K := by
  subst hn
  exact Wop.val (fun ρ h => by
    have := loadCells_run (P := P) (a := a) cs 0 #[] (fun j v hj => by rw [Nat.zero_add]; exact hc j v hj)
    simp [execOp, h x _ hx, Instr.loadAt, Instr.sureAddr, loadVar, hag, hsz, loadCells, this]) hk
theorem add_at (b o j : Nat) : (⟨b, o, none⟩ : Addr).add j = ⟨b, o + j, none⟩ := by unfold Addr.add; split <;> simp_all
/-- A whole block that is a struct is read. -/
theorem Wop.loadB {t : TypeId} {x : Operand} {b : Nat} {cs : Array Value} {u : TypeId} {n : Nat} (hx : look σ x = some (.pointer (some ⟨b, 0, none⟩))) (hag : ∀ w, (isAgg t).run P w = .ok true w) (hsz : ∀ w, (Go.sizeOf t).run P w = .ok n w) (hn : cs.size = n)
    (hb : Blk w b cs u) (hk : K (.agg cs) w) : Wop P Q N ⟨d, .load t x, ty, ps, af, gd⟩ σ w K :=
  Wop.loads (cs := cs.toList) hx hag hsz (by simpa using hn) (fun j v hj => by rw [add_at, Nat.zero_add]; exact hb.cell (by simpa using hj)) (by simpa using hk)
/-- A cell of a block is read. -/
theorem Wop.load1 {t : TypeId} {x : Operand} {b i : Nat} {cs : Array Value} {u : TypeId} {v : Value} (hx : look σ x = some (.pointer (some ⟨b, i, none⟩))) (hag : ∀ w, (isAgg t).run P w = .ok false w) (hb : Blk w b cs u) (hi : cs[i]? = some v) (hk : K v w) :
    Wop P Q N ⟨d, .load t x, ty, ps, af, gd⟩ σ w K := Wop.load hx hag (hb.cell hi) hk
/-- Field f of the struct type t lies at 'off', and is of some size. -/
def FieldOk (P : Program) (t : TypeId) (f off : Nat) : Prop := ∃ fs fd n, P.underlying t = some (.struct fs) ∧ fs[f]? = some fd ∧ fd.offset = off ∧ (∀ w, (Go.sizeOf fd.type).run P w = .ok n w) ∧ (n == 0) = false
theorem Wop.fieldAddr {t : TypeId} {x : Operand} {f b o off : Nat} (hx : look σ x = some (.pointer (some ⟨b, o, none⟩))) (hf : FieldOk P t f off)
    (hk : K (.pointer (some ⟨b, o + off, none⟩)) w) : Wop P Q N ⟨d, .fieldAddr t x f, ty, ps, af, gd⟩ σ w K := by
  obtain ⟨fs, fd, n, hu, hf, rfl, hs, hn⟩ := hf
  have hn' : ¬ n = 0 := by simpa using hn
  exact Wop.val (fun ρ h => by simp [execOp, h x _ hx, Instr.fieldAt, run_underlying hu, hf, Instr.sureAddr, fieldPlace, hs, hn', add_at]) hk
theorem Wop.indexAddr {t e : TypeId} {x y : Operand} {b o n c i sz : Nat} (hx : look σ x = some (.slice (some ⟨b, o, none⟩) n c)) (hy : look σ y = some (.int .i64 (i : Int))) (hu : P.underlying t = some (.slice e)) (hs : ∀ w, (Go.sizeOf e).run P w = .ok sz w) (hi : i < n)
    (hk : K (.pointer (some ⟨b, o + i * sz, none⟩)) w) : Wop P Q N ⟨d, .indexAddr t x y, ty, ps, af, gd⟩ σ w K :=
  Wop.val (fun ρ h => by
    have h1 : (0 : Int) ≤ (i : Int) ∧ (i : Int) < (n : Int) := by omega
    simp [execOp, h x _ hx, h y _ hy, Instr.indexAt, run_underlying hu, asIntOf, hi, hs, add_at]) hk
theorem Wop.lenS {t : TypeId} {ar : Array TypeId} {x : Operand} {A : Option Addr} {n c : Nat} {e : TypeId} (hx : look σ x = some (.slice A n c)) (ht : ar = #[t]) (hu : P.underlying t = some (.slice e)) (hk : K (.int .i64 (n : Int)) w) :
    Wop P Q N ⟨d, .call ⟨.builtin .len, #[x], ar⟩, ty, ps, af, gd⟩ σ w K := by
  subst ht
  exact Wop.val (fun ρ h => by simp [execOp, resolve, invoke, builtin, h x _ hx, Builtin.len_, run_underlying hu, goInt]) hk
theorem Wop.lenStr {t : TypeId} {ar : Array TypeId} {x : Operand} {s : ByteArray} (hx : look σ x = some (.string s)) (ht : ar = #[t]) (hu : P.underlying t = some .string) (hk : K (.int .i64 (s.size : Int)) w) :
    Wop P Q N ⟨d, .call ⟨.builtin .len, #[x], ar⟩, ty, ps, af, gd⟩ σ w K := by
  subst ht
  exact Wop.val (fun ρ h => by simp [execOp, resolve, invoke, builtin, h x _ hx, Builtin.len_, run_underlying hu, goInt]) hk
theorem Wop.build {t : TypeId} {parts : Array (Nat × Operand)} {vs : List (Nat × Value)} {cs : Array Value} (hp : parts.toList.mapM (fun p => (look σ p.2).map fun v => (p.1, v)) = some vs) (hb : P.built t vs = some cs) (hk : K (.agg cs) w) :
    Wop P Q N ⟨d, .build t parts, ty, ps, af, gd⟩ σ w K := by
  refine Wop.val (fun ρ h => ?_) hk
  have key : ∀ (l : List (Nat × Operand)) (vs : List (Nat × Value)), l.mapM (fun p => (look σ p.2).map fun v => (p.1, v)) = some vs → l.map (fun p => (p.1, ρ p.2)) = vs := by
    intro l
    induction l with
    | nil => intro vs h; simp at h; simp [h]
    | cons x l ih =>
      intro vs hl
      simp only [List.mapM_cons, Option.bind_eq_bind, Option.pure_def] at hl
      obtain ⟨v, hv, hl⟩ := Option.bind_eq_some_iff.1 hl
      obtain ⟨r, hr, he⟩ := Option.bind_eq_some_iff.1 hl
      obtain ⟨u, hu, rfl⟩ := Option.map_eq_some_iff.1 hv
      simp at he
      subst he
      simp [h x.2 u hu, ih r hr]
  have h1 : (parts.map fun (i, x) => (i, ρ x)).toList = vs := by rw [Array.toList_map]; exact key _ _ hp
  have := run_build (P := P) w t (parts.map fun (i, x) => (i, ρ x)) cs (by rw [h1]; exact hb)
  simp [execOp, this]
/-- A store of one cell into a block. -/
theorem Wop.store1 {t : TypeId} {x y : Operand} {b i : Nat} {cs : Array Value} {u : TypeId} {v old : Value} (hx : look σ x = some (.pointer (some ⟨b, i, none⟩))) (hy : look σ y = some v) (hv : v.oneCell' = true) (hsz : ∀ w, (Go.sizeOf t).run P w = .ok 1 w)
    (hb : Blk w b cs u) (hi : cs[i]? = some old) (hk : K undef (w.setCell ⟨b, i, none⟩ v)) : Wop P Q N ⟨d, .store t x y, ty, ps, af, gd⟩ σ w K := by
  refine Wop.skip (fun ρ h => ?_) hk
  have hcs : v.cells = #[v] := by cases v <;> first | rfl | (simp [Value.oneCell'] at hv)
  have hc := hb.cell hi
  have hst : (store ⟨b, i, none⟩ v).run P w = .ok () (w.setCell ⟨b, i, none⟩ v) := by rw [run_store P w _ v _ hv, hc]; simp [hb.frozen]
  have ha : (⟨b, i, none⟩ : Addr).add 0 = ⟨b, i, none⟩ := by rw [add_at]; rfl
  simp [execOp, h x _ hx, h y _ hy, Instr.storeAt, Instr.sureAddr, storeVar, hcs, hsz, storeCells, ha, hst]

/-! ### calls -/
theorem callFunc_run {f : FuncId} {fn : Func} (hf : P.funcs[f]? = some fn) (hb : fn.body.isNone = false) (hnm : (fn.name == "runtime.NumGoroutine") = false) (args : Array Value) (w : World) : (callFunc f args).run P w = .ok (.enter f args) w := by
  have hnm' : ¬ fn.name = "runtime.NumGoroutine" := by simpa using hnm
  have hb' : ¬ fn.body = none := by intro h; simp [h] at hb
  simp [callFunc, hf, hb', hnm']
/-- What a call of function f wants: 'enters'. -/
def Enters (P : Program) (f : FuncId) : Prop := ∀ args w, (callFunc f args).run P w = .ok (.enter f args) w
theorem Wop.call {f : FuncId} {xs : Array Operand} {ar : Array TypeId} {args : List Value} {Φ : Value → World → Prop} (he : Enters P f) (hx : xs.toList.mapM (look σ) = some args)
    (hc : Calls P f args.toArray w (Ret Φ)) (hk : ∀ v w', Φ v w' → K v w') : Wop P Q N ⟨d, .call ⟨.value (.func f), xs, ar⟩, ty, ps, af, gd⟩ σ w K := by
  refine Wop.enter (fun ρ h => ?_) hc hk
  have key : ∀ (l : List Operand) (vs : List Value), l.mapM (look σ) = some vs → l.map ρ = vs := by
    intro l
    induction l with
    | nil => intro vs h; simp at h; simp [h]
    | cons x l ih =>
      intro vs hl
      simp only [List.mapM_cons, Option.bind_eq_bind, Option.pure_def] at hl
      obtain ⟨v, hv, hl⟩ := Option.bind_eq_some_iff.1 hl
      obtain ⟨r, hr, he⟩ := Option.bind_eq_some_iff.1 hl
      simp at he
      subst he
      simp [h x v hv, ih r hr]
  have h1 : xs.map ρ = args.toArray := by apply Array.ext'; rw [Array.toList_map]; exact key _ _ hx
  have h2 : ρ (.func f) = .func (.func f) #[] #[] := h _ _ rfl
  simp [execOp, resolve, Deferred.ofValue, invoke, h1, h2, he args.toArray w]
/-- A call of a function value. -/
theorem Wop.callV {f : FuncId} {g : Operand} {cap : List Value} {xs : Array Operand} {ar : Array TypeId} {args : List Value} {Φ : Value → World → Prop} (he : Enters P f) (hg : look σ g = some (.func (.func f) #[] cap.toArray)) (hx : xs.toList.mapM (look σ) = some args)
    (hc : Calls P f (args ++ cap).toArray w (Ret Φ)) (hk : ∀ v w', Φ v w' → K v w') : Wop P Q N ⟨d, .call ⟨.value g, xs, ar⟩, ty, ps, af, gd⟩ σ w K := by
  refine Wop.enter (fun ρ h => ?_) hc hk
  have key : ∀ (l : List Operand) (vs : List Value), l.mapM (look σ) = some vs → l.map ρ = vs := by
    intro l
    induction l with
    | nil => intro vs h; simp at h; simp [h]
    | cons x l ih =>
      intro vs hl
      simp only [List.mapM_cons, Option.bind_eq_bind, Option.pure_def] at hl
      obtain ⟨v, hv, hl⟩ := Option.bind_eq_some_iff.1 hl
      obtain ⟨r, hr, he⟩ := Option.bind_eq_some_iff.1 hl
      simp at he
      subst he
      simp [h x v hv, ih r hr]
  have h1 : xs.map ρ = args.toArray := by apply Array.ext'; rw [Array.toList_map]; exact key _ _ hx
  simp [execOp, resolve, Deferred.ofValue, invoke, h1, h _ _ hg, he (args ++ cap).toArray w]
end
end Go.Proofs.Ytbadjlhijbkbbaa.Sx
