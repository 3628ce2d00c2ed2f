/-
  Operations on texts and bytes, and classes of bytes.
-/
import Derived.Test.YtbadjlhijbkbbaaGram
set_option linter.unusedVariables false
namespace Go.Proofs.Ytbadjlhijbkbbaa.Sx
open Go Go.RowKit
/-- A byte of a text. -/
def byt (s : ByteArray) (i : Nat) : Int := match s[i]? with
  | some b => (b.toNat : Int)
  | none => 0
theorem byt_range (s : ByteArray) (i : Nat) : 0 ≤ byt s i ∧ byt s i < 256 := by
  unfold byt
  split
  · next b _ => have := b.toNat_lt; omega
  · omega
def or8 (m n : Int) : Int := IntKind.u8.wrap (((m % 256).toNat ||| (n % 256).toNat : Nat) : Int)
section
variable {P : Program} {Q : Exit → Act → World → Prop} {N : Nat} {σ : Sl} {w : World} {K : Value → World → Prop}
variable {d : Option Tmp} {ty : TypeId} {ps : String} {af : Array Edge} {gd : Option (Nat × Bool)}
theorem Wop.or8 {t t' : TypeId} {x y : Operand} {m n : Int} (hx : look σ x = some (.int .u8 m)) (hy : look σ y = some (.int .u8 n)) (hk : K (.int .u8 (or8 m n)) w) : Wop P Q N ⟨d, .binOp .or t x y t', ty, ps, af, gd⟩ σ w K :=
  Wop.val (fun ρ h => by
    simp [execOp, h x _ hx, h y _ hy, eqGuard, binOp, Op.intBits, IntKind.bits]
    show IntKind.u8.wrap ((BitVec.ofInt 8 m ||| BitVec.ofInt 8 n : BitVec 8).toNat : Int) = Sx.or8 m n
    rw [BitVec.toNat_or]
    simp [Sx.or8, BitVec.toNat_ofInt]) hk
/-- A byte by its index. -/
theorem Wop.byte (T : Tab P) {t : TypeId} {x y : Operand} {s : ByteArray} (i : Nat) {m : Int} (ht : nth T.kinds t = some 2) (hx : look σ x = some (.string s)) (hy : look σ y = some (.int .i64 m)) (hm : m = (i : Int)) (hi : i < s.size) (hk : K (.int .u8 (byt s i)) w) :
    Wop P Q N ⟨d, .index t x y, ty, ps, af, gd⟩ σ w K := by
  subst hm
  refine Wop.val (fun ρ h => ?_) hk
  have hs : s[i]? = some (s[i]'hi) := by simp [hi]
  simp [execOp, h x _ hx, h y _ hy, Instr.index, run_underlying (T.str t ht), byt, hs, asIntOf]
theorem Wop.rangeS (T : Tab P) {t : TypeId} {x : Operand} {s : ByteArray} (ht : nth T.kinds t = some 2) (hx : look σ x = some (.string s))
    (hk : ∀ w', Ext w w' → w'.heap[w.heap.size]? = some (.stringIter s 0) → w'.heap.size = w.heap.size + 1 → K (.pointer (some ⟨w.heap.size, 0, none⟩)) w') : Wop P Q N ⟨d, .range t x, ty, ps, af, gd⟩ σ w K :=
  Wop.val (fun ρ h => by simp [execOp, h x _ hx, run_range_string _ _ _ (T.str t ht), World.iter]) (hk _ (Ext.alloc _ _) (World.iter_heap _ _ _) (by simp))
theorem Wop.nextA {x : Operand} {b pos : Nat} {s : ByteArray} (hx : look σ x = some (.pointer (some ⟨b, 0, none⟩))) (hb : w.heap[b]? = some (.stringIter s pos)) (h : pos < s.size) (ha : byt s pos < 128)
    (hk : ∀ w' r, Below b w w' → w'.heap[b]? = some (.stringIter s (pos + 1)) → w'.heap.size = w.heap.size → K (.tuple #[.bool true, .int .i64 (pos : Int), r]) w') : Wop P Q N ⟨d, .next x true, ty, ps, af, gd⟩ σ w K := by
  have hlt := lt_of_block hb
  have hs : s[pos]? = some (s[pos]'h) := by simp [h]
  have ha' : (s[pos]'h).toNat < 128 := by
    unfold byt at ha
    rw [hs] at ha
    simp only at ha
    omega
  refine Wop.val (w' := { w with heap := w.heap.setIfInBounds b (.stringIter s (pos + 1)) }) (v := .tuple #[.bool true, .int .i64 (pos : Int), .int .i32 (s[pos]'h).toNat]) (fun ρ hr => ?_) (hk _ _ ?_ ?_ ?_)
  · simp [execOp, hr x _ hx, Instr.next, getObj, setObj, Sem.run, hb, h, decode_ascii s pos h ha', goInt]
  · exact ⟨rfl, rfl, rfl, by simp, fun k hk => by simp only [Array.getElem?_setIfInBounds]; rw [if_neg (by omega)]⟩
  · simp [hlt]
  · simp
theorem Wop.nextE {x : Operand} {b pos : Nat} {s : ByteArray} (hx : look σ x = some (.pointer (some ⟨b, 0, none⟩))) (hb : w.heap[b]? = some (.stringIter s pos)) (h : ¬ pos < s.size)
    (hk : K (.tuple #[.bool false]) w) : Wop P Q N ⟨d, .next x true, ty, ps, af, gd⟩ σ w K :=
  Wop.val (fun ρ hr => by simp [execOp, hr x _ hx, Instr.next, getObj, Sem.run, hb, h]) hk
end
end Go.Proofs.Ytbadjlhijbkbbaa.Sx
namespace Go.Proofs.Ytbadjlhijbkbbaa
open Go Go.RowKit Sx
def cls (n : Int) : Int := if n = 0 then 0 else if n = 32 ∨ n = 9 then 1 else if n = 10 then 2 else if 48 ≤ n ∧ n ≤ 57 then 3 else if (97 ≤ n ∧ n ≤ 122) ∨ (65 ≤ n ∧ n ≤ 90) ∨ n = 95 then 4 else
  if n = 38 ∨ n = 124 ∨ n = 59 ∨ n = 60 ∨ n = 62 ∨ n = 40 ∨ n = 41 then 5 else if n = 39 ∨ n = 34 ∨ n = 92 ∨ n = 96 then 6 else if n = 36 then 7 else 8
theorem cls0 {n : Int} (h : n = 0) : cls n = 0 := by rw [cls, if_pos h]
theorem cls1 {n : Int} (h : n = 32 ∨ n = 9) : cls n = 1 := by rw [cls, if_neg (by omega), if_pos h]
theorem cls2 {n : Int} (h : n = 10) : cls n = 2 := by rw [cls, if_neg (by omega), if_neg (by omega), if_pos h]
theorem cls3 {n : Int} (h : 48 ≤ n ∧ n ≤ 57) : cls n = 3 := by rw [cls, if_neg (by omega), if_neg (by omega), if_neg (by omega), if_pos h]
theorem cls4 {n : Int} (h : (97 ≤ n ∧ n ≤ 122) ∨ (65 ≤ n ∧ n ≤ 90) ∨ n = 95) : cls n = 4 := by rw [cls, if_neg (by omega), if_neg (by omega), if_neg (by omega), if_neg (by omega), if_pos h]
theorem cls5 {n : Int} (h : n = 38 ∨ n = 124 ∨ n = 59 ∨ n = 60 ∨ n = 62 ∨ n = 40 ∨ n = 41) : cls n = 5 := by rw [cls, if_neg (by omega), if_neg (by omega), if_neg (by omega), if_neg (by omega), if_neg (by omega), if_pos h]
theorem cls6 {n : Int} (h : n = 39 ∨ n = 34 ∨ n = 92 ∨ n = 96) : cls n = 6 := by rw [cls, if_neg (by omega), if_neg (by omega), if_neg (by omega), if_neg (by omega), if_neg (by omega), if_neg (by omega), if_pos h]
theorem cls7 {n : Int} (h : n = 36) : cls n = 7 := by subst h; decide
theorem cls8 {n : Int} (h0 : ¬ n = 0) (h1 : ¬ (n = 32 ∨ n = 9)) (h2 : ¬ n = 10) (h3 : ¬ (48 ≤ n ∧ n ≤ 57)) (h4 : ¬ ((97 ≤ n ∧ n ≤ 122) ∨ (65 ≤ n ∧ n ≤ 90) ∨ n = 95)) (h5 : ¬ (n = 38 ∨ n = 124 ∨ n = 59 ∨ n = 60 ∨ n = 62 ∨ n = 40 ∨ n = 41)) (h6 : ¬ (n = 39 ∨ n = 34 ∨ n = 92 ∨ n = 96)) (h7 : ¬ n = 36) : cls n = 8 := by
  rw [cls, if_neg h0, if_neg h1, if_neg h2, if_neg h3, if_neg h4, if_neg h5, if_neg h6, if_neg h7]
theorem or8_letter (n : Int) (h0 : 0 ≤ n) (h1 : n < 256) : (97 ≤ or8 n 32 ∧ or8 n 32 ≤ 122) ↔ ((97 ≤ n ∧ n ≤ 122) ∨ (65 ≤ n ∧ n ≤ 90)) := by
  have key : ∀ k : Fin 256, (97 ≤ or8 (k.val : Int) 32 ∧ or8 (k.val : Int) 32 ≤ 122) ↔ ((97 ≤ (k.val : Int) ∧ (k.val : Int) ≤ 122) ∨ (65 ≤ (k.val : Int) ∧ (k.val : Int) ≤ 90)) := by decide +kernel
  have := key ⟨n.toNat, by omega⟩
  simp only [Int.toNat_of_nonneg h0] at this
  exact this
section
variable {w : World}
end
end Go.Proofs.Ytbadjlhijbkbbaa
