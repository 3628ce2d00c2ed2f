/-
  slices.Grow and slices.Concat of texts.
-/
import Derived.Test.YtbadjlhijbkbbaaRow
set_option linter.unusedVariables false
namespace Go.Proofs.Ytbadjlhijbkbbaa.Sx
open Go Go.RowKit
section
variable {P : Program} {Q : Exit → Act → World → Prop} {N : Nat} {σ : Sl} {w : World} {K : Value → World → Prop}
variable {d : Option Tmp} {ty : TypeId} {ps : String} {af : Array Edge} {gd : Option (Nat × Bool)}
theorem Wop.cap (T : Tab P) {t : TypeId} {ar : Array TypeId} {x : Operand} {A : Option Addr} {n c e : Nat} (hx : look σ x = some (.slice A n c)) (har : ar = #[t]) (ht : nth T.kinds t = some 1) (he : nth T.elems t = some e) (hk : K (.int .i64 (c : Int)) w) :
    Wop P Q N ⟨d, .call ⟨.builtin .cap, #[x], ar⟩, ty, ps, af, gd⟩ σ w K := by
  subst har
  exact Wop.val (fun ρ h => by simp [execOp, resolve, invoke, builtin, h x _ hx, Builtin.cap_, run_underlying (T.slice t e ht he), goInt]) hk
/-- x[:h] -/
theorem Wop.sliceTo (T : Tab P) {t e sz : Nat} {x y : Operand} {A : Option Addr} {n c h : Nat} {m : Int} (ht : nth T.kinds t = some 1) (he : nth T.elems t = some e) (hs : nth T.sizes e = some sz) (hx : look σ x = some (.slice A n c)) (hy : look σ y = some (.int .i64 m)) (hm : m = (h : Int)) (hh : h ≤ c) (hk : K (.slice A h c) w) :
    Wop P Q N ⟨d, .slice t x none (some y) none, ty, ps, af, gd⟩ σ w K := by
  subst hm
  refine Wop.val (fun ρ hr => ?_) hk
  have hu := T.slice t e ht he
  have hA : (if c = 0 then A else A.map fun (a : Addr) => a.add 0) = A := by
    split
    · rfl
    · cases A with
      | none => rfl
      | some a => obtain ⟨b, o, pth⟩ := a; simp [Addr.add]
  simp [execOp, hr x _ hx, hr y _ hy, Instr.sliceAt, Instr.slice, run_underlying hu, Instr.sliceBounds, Instr.sliceBound, asIntOf, hh, T.size e sz hs, hA]
/-- append(nil, make([]T, m) ..) -/
theorem grow_nil_run {t ti r e : TypeId} {i : TypeInfo} {z : Value} {k kx : IntKind} (ht : P.underlying t = some (.slice e)) (hti : P.underlying ti = some (.int k)) (hi : P.info? e = some i) (hz : i.zero = some z) (hs1 : i.size = 1) (hzs : z.cells.size = 1) {m : Nat} (hm : 0 < m) (hb : m * i.bytes ≤ 140737488355328) (hb0 : 0 < i.bytes) :
    ∃ cur cap, (Builtin.append_ #[t, ti] r #[.slice none 0 0, .int kx m]).run P w = .ok (.slice (some ⟨w.heap.size, 0, none⟩) m cap) (w.drew.alloc (.cells cur e)) ∧ cur.size = cap ∧ m ≤ cap ∧ cap ≤ maxLen := by
  have hle : m ≤ 140737488355328 := Nat.le_trans (Nat.le_mul_of_pos_right _ hb0) hb
  have hw : IntKind.i64.wrap (m : Int) = m := by rw [IntKind.wrap_i64]; omega
  have hneg : ¬ ((m : Int) < 0) := by omega
  have hbig : ¬ (281474976710656 < (m : Int) * (i.bytes : Int)) := by
    rw [← Int.natCast_mul]
    omega
  have hn : ¬ (m ≤ 0) := by omega
  have h63' : ¬ (9223372036854775807 < (m : Int)) := by omega
  have hfit := growslice_fits (old := 0) (need := m) hm hb
  have h48' : ¬ (281474976710656 < Builtin.nextslicecap m 0 * i.bytes) := by omega
  have hm0 : ¬ m = 0 := by omega
  have hge := grownCap_ge w m 0 e
  have hcm : grownCap w m 0 e ≤ maxLen := grownCap_le_maxLen w m 0 e (by simp only [maxLen]; omega)
  refine ⟨Builtin.zeroCells z.cells m ++ Builtin.zeroCells z.cells (grownCap w m 0 e - m), grownCap w m 0 e, ?_, ?_, hge, hcm⟩
  · simp [Builtin.append_, run_underlying ht, run_underlying hti, sizeOf, typeInfo, zeroValue, hi, hz, asInt, asIntOf, hw, hneg, hbig, h63', h48', Question.forced, Builtin.firstCells, newRow, grownCap, hs1, hm0]
  · rw [Array.size_append, size_zeroCells, size_zeroCells, hzs]
    omega
theorem Wop.growNil (T : Tab P) {t ti e : TypeId} {x y : Operand} {z : Value} {bytes : Nat} {k kx : IntKind} {m : Nat} {mi : Int} (ht : nth T.kinds t = some 1) (he : nth T.elems t = some e) (hti : P.underlying ti = some (.int k)) (hinfo : (P.info? e).map (fun i => (i.zero, i.size, i.bytes)) = some (some z, 1, bytes)) (hz : z.cells.size = 1) (hb0 : 0 < bytes)
    (hx : look σ x = some (.slice none 0 0)) (hy : look σ y = some (.int kx mi)) (hmi : mi = (m : Int)) (hm : 0 < m) (hb : m * bytes ≤ 140737488355328)
    (hk : ∀ w' cur cap, Ext w w' → w'.heap[w.heap.size]? = some (.cells cur e (0, 0)) → cur.size = cap → m ≤ cap → cap ≤ maxLen → K (.slice (some ⟨w.heap.size, 0, none⟩) m cap) w') :
    Wop P Q N ⟨d, .call ⟨.builtin .append, #[x, y], #[t, ti]⟩, ty, ps, af, gd⟩ σ w K := by
  subst hmi
  obtain ⟨i0, hi, hzz⟩ := Option.map_eq_some_iff.1 hinfo
  simp only [Prod.mk.injEq] at hzz
  obtain ⟨hz0, hz1, hz2⟩ := hzz
  obtain ⟨cur, cap, hr, h1, h2, h3⟩ := grow_nil_run (P := P) (w := w) (r := ty) (kx := kx) (T.slice t e ht he) hti hi hz0 hz1 hz hm (by rw [hz2]; exact hb) (by omega)
  exact Wop.val (w' := w.drew.alloc (.cells cur e)) (fun ρ h => by simp [execOp, resolve, invoke, builtin, h x _ hx, h y _ hy, hr]) (hk _ cur cap ((Ext.drew w).trans (Ext.alloc w.drew _)) (heap_alloc_new w.drew _) h1 h2 h3)
end
end Go.Proofs.Ytbadjlhijbkbbaa.Sx
namespace Go.Proofs.Ytbadjlhijbkbbaa
open Go Go.RowKit Sx
variable {w : World}
theorem growS (m : Nat) (hm : m ≤ 2199023255552) : Calls Try.prog 163 [.slice none 0 0, .int .i64 (m : Int)].toArray w (Ret fun v w' => OwnS w' w.heap.size v [] ∧ Ext w w') := by
  refine enter Try.func163 rfl Try.ntmps163 rfl ?_
  refine wk ?_
  refine Wop.cap TT rfl rfl rfl rfl ?_
  refine wk ?_
  refine W.test rfl (fun hpos => ?_) (fun hz => ?_)
  · have hm0 : 0 < m := by omega
    refine wk ?_
    refine Wop.cap TT rfl rfl rfl rfl ?_
    refine wk ?_
    refine Wop.sliceTo TT (h := 0) rfl rfl rfl rfl rfl rfl (Nat.le_refl _) ?_
    refine wk ?_
    refine Wop.growNil (m := m) TT rfl rfl Try.underlying3 infoS rfl (by decide) rfl rfl (by omega) hm0 (by omega) (fun w1 cur cap e1 hc h1 h2 h3 => ?_)
    refine wk ?_
    refine Wop.sliceTo TT (h := 0) rfl rfl rfl rfl rfl rfl (Nat.zero_le _) ?_
    refine wk ?_
    refine Arr.ret1 rfl rfl ⟨⟨by simp, .inr ⟨w.heap.size, cap, cur, rfl, Nat.le_refl _, hc, Nat.zero_le _, h3, by simp [h1], by simp⟩⟩, e1⟩
  · refine wk ?_
    exact Arr.ret1 rfl rfl ⟨Own.nil _ _ _ _, Ext.refl w⟩
/-- Two rows of texts, one behind the other. -/
theorem concatS {S : Nat → Prop} {A B : Option Addr} {n m c c' b : Nat} {xs ys : List ByteArray} {u : TypeId} (hx : tS.Row S w A n xs) (hy : tS.Row S w B m ys) (hb : Blk w b #[.slice A n c, .slice B m c'] u) :
    Calls Try.prog 131 [.slice (some ⟨b, 0, none⟩) 2 2].toArray w (Ret fun v w' => OwnS w' w.heap.size v (xs ++ ys) ∧ Ext w w') := by
  have hm := hx.2.1
  have hm' := hy.2.1
  have hl := hx.1
  have hl' := hy.1
  refine enter Try.func131 rfl Try.ntmps131 rfl ?_
  refine wk ?_
  refine W.midB (ι := Unit) (fun _ => [(0, .slice (some ⟨b, 0, none⟩) 2 2), (3, .int .i64 ((n + m : Nat) : Int))]) (fun _ w' => w' = w) ?_ ?_
  · refine wk ?_
    refine W.loop (ι := Nat) (fun i => [(0, .slice (some ⟨b, 0, none⟩) 2 2), (9, .slice (some ⟨b, 0, none⟩) 2 2), (10, .int .i64 ((2 : Nat) : Int)), (11, .int .i64 (i : Int)), (3, .int .i64 ((if i = 0 then 0 else if i = 1 then n else n + m : Nat) : Int))])
      (fun i w' => w' = w ∧ i ≤ 2) (fun i => 2 - i) 0 has ⟨rfl, Nat.zero_le _⟩ ?_
    rintro i w' ⟨rfl, hi⟩
    have h012 : i = 0 ∨ i = 1 ∨ i = 2 := by omega
    rcases h012 with rfl | rfl | rfl
    · refine W.only [(0, .slice (some ⟨b, 0, none⟩) 2 2), (9, .slice (some ⟨b, 0, none⟩) 2 2), (10, .int .i64 ((2 : Nat) : Int)), (11, .int .i64 ((0 : Nat) : Int)), (3, .int .i64 0)] has ?_
      refine wk ?_
      refine Arr.again (i := 0) 1 (by exact Has.cons rfl (Has.cons rfl (Has.cons rfl (Has.cons rfl (Has.cons (v := .int .i64 _) (show some (Value.int .i64 (0 + (n : Int))) = some (Value.int .i64 ((n : Nat) : Int)) by rw [Int.zero_add]) Has.nil))))) ⟨rfl, by omega⟩ (by omega)
    · refine W.only [(0, .slice (some ⟨b, 0, none⟩) 2 2), (9, .slice (some ⟨b, 0, none⟩) 2 2), (10, .int .i64 ((2 : Nat) : Int)), (11, .int .i64 ((1 : Nat) : Int)), (3, .int .i64 (n : Int))] has ?_
      refine wk ?_
      refine Arr.again (i := 1) 2 (by exact Has.cons rfl (Has.cons rfl (Has.cons rfl (Has.cons rfl (Has.cons (v := .int .i64 _) (show some (Value.int .i64 ((n : Int) + (m : Int))) = some (Value.int .i64 ((n + m : Nat) : Int)) from rfl) Has.nil))))) ⟨rfl, by omega⟩ (by omega)
    · refine W.only [(0, .slice (some ⟨b, 0, none⟩) 2 2), (9, .slice (some ⟨b, 0, none⟩) 2 2), (10, .int .i64 ((2 : Nat) : Int)), (11, .int .i64 ((2 : Nat) : Int)), (3, .int .i64 ((n + m : Nat) : Int))] has ?_
      refine wk ?_
      exact Arr.mid () has rfl
  · rintro _ w' hw
    rw [hw]
    refine wk ?_
    refine Wop.fn en163 rfl (growS (n + m) (by omega)) ?_
    rintro v0 w1 ⟨h0, e1⟩
    have hb1 := hb.ext e1
    have hx1 := hx.ext (by decide) e1
    have hy1 := hy.ext (by decide) e1
    refine wk ?_
    refine W.loop (ι := Nat × Value) (fun i => [(25, .slice (some ⟨b, 0, none⟩) 2 2), (26, .int .i64 ((2 : Nat) : Int)), (27, .int .i64 (i.1 : Int)), (6, i.2)])
      (fun i w' => Below w.heap.size w w' ∧ i.1 ≤ 2 ∧ OwnS w' w.heap.size i.2 (if i.1 = 0 then [] else if i.1 = 1 then xs else xs ++ ys)) (fun i => 2 - i.1) (0, v0) has ⟨e1, Nat.zero_le _, h0⟩ ?_
    rintro ⟨i, v⟩ w2 ⟨e2, hi, ho⟩
    simp only at hi ho ⊢
    have hb2 := hb.ext e2
    have hx2 := hx.ext (by decide) e2
    have hy2 := hy.ext (by decide) e2
    refine wk ?_
    refine W.test rfl (fun hlt => ?_) (fun hge => ?_)
    · have h01 : i = 0 ∨ i = 1 := by omega
      rcases h01 with rfl | rfl
      · refine wk ?_
        refine Wop.appRowS rfl rfl hx2 ho e2.size (by simp; omega) (fun v' w3 ho' hb' _ _ => ?_)
        refine wk ?_
        exact Arr.again (i := (0, v)) (1, v') has ⟨hb' _ e2, by omega, by simpa using ho'⟩ (by omega)
      · refine wk ?_
        refine Wop.appRowS rfl rfl hy2 ho e2.size (by simp; omega) (fun v' w3 ho' hb' _ _ => ?_)
        refine wk ?_
        exact Arr.again (i := (1, v)) (2, v') has ⟨hb' _ e2, by omega, by simpa using ho'⟩ (by omega)
    · refine wk ?_
      have : i = 2 := by omega
      subst this
      exact Arr.ret1 rfl rfl ⟨by simpa using ho, e2⟩
end Go.Proofs.Ytbadjlhijbkbbaa
