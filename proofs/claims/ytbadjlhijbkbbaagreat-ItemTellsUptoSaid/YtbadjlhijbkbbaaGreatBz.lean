/-
  Joined by program out of the texts Read: lemmas for the proofs of this seat; no condition.
-/
import Derived.Test.YtbadjlhijbkbbaaGreatRows
import Derived.Test.YtbadjlhijbkbbaaGreatBb
import Derived.WalkKit
import Derived.ProofKit
import Derived.OpenShut
import Derived.JoinedCond
import Derived.Carry
import Derived.Deep.Slices
import Derived.Deep.Strs
import Derived.Lib.SmallJoins
/-
  From the rows' reading of the arguments to this proof's own, and back: what a law's frame wants.
-/
set_option linter.unusedVariables false
namespace Go.Proofs.YtbadjlhijbkbbaaGreat
open Go Go.RowKit Go.ChangeShapes Go.WideShapes Sx

/-! ### 1. Readings -/
/-- What is read at type t, where it is not too much, lies in memory as D says. -/
def Reads {α : Type} (t : TypeId) (D : Ty α) : Prop := ∀ {H : Type} {enc : TypeId × Value → H} {w : World} {base : Nat} {spare : Nat → Bool} {held : Bool} {fuel : Nat} {cs : List Value} {x : DataW H × List MemPlace},
  DataW.trod enc Tryz.prog w base spare held fuel t cs = some x → Rows.uptoBulk x.1 ≤ 1048576 → ∃ a, D.rd (fun _ => True) w a cs
theorem Reads.int {t : TypeId} {k : IntKind} (ht : Tryz.prog.underlying t = some (.int k)) : Reads t (Ty.int k) := by
  intro H enc w base spare held fuel cs x h _
  obtain ⟨n, rfl, _, hw⟩ := DataW.trod_int ht h
  refine ⟨n, rfl, ?_⟩
  simpa [Lit.wf, Ty.InK] using hw
theorem Reads.bool {t : TypeId} (ht : Tryz.prog.underlying t = some .bool) : Reads t Ty.bool := by
  intro H enc w base spare held fuel cs x h _
  obtain ⟨n, rfl, _⟩ := DataW.trod_bool ht h
  exact ⟨n, rfl⟩
theorem Reads.str {t : TypeId} (ht : Tryz.prog.underlying t = some .string) : Reads t Ty.str := by
  intro H enc w base spare held fuel cs x h hb
  obtain ⟨s, rfl, hx, hs⟩ := DataW.trod_string ht h
  refine ⟨s, rfl, ?_⟩
  subst hx
  simp [Rows.uptoBulk] at hb
  have : s.data.toList.length = s.size := by simp
  omega
theorem bulk_part {H : Type} {d : DataW H} : ∀ {l : List (DataW H)}, d ∈ l → Rows.uptoBulk d ≤ Rows.uptoBulkAll l
  | [], h => by cases h
  | x :: r, h => by
    simp only [Rows.uptoBulkAll]
    rcases List.mem_cons.1 h with rfl | h
    · omega
    · have := bulk_part h
      omega
theorem bulk_one {H : Type} (d : DataW H) : 1 ≤ Rows.uptoBulk d := by
  cases d with
  | lit l => cases l <;> simp [Rows.uptoBulk]
  | _ => simp [Rows.uptoBulk]
theorem bulk_length {H : Type} : ∀ (l : List (DataW H)), l.length ≤ Rows.uptoBulkAll l
  | [] => by simp
  | x :: r => by
    have := bulk_one x
    have := bulk_length r
    simp only [Rows.uptoBulkAll, List.length_cons]
    omega
theorem Reads.slice {α : Type} {t e : TypeId} {D : Ty α} (ht : Tryz.prog.underlying t = some (.slice e)) (h0 : 0 < D.sz) (hc : Tryz.prog.cellsOf e = D.sz) (hr : Reads e D) : Reads t (Ty.slice D h0) := by
  intro H enc w base spare held fuel cs x h hb
  rcases Deep.open_slice ht h with ⟨rfl, rfl⟩ | ⟨a, len, cap, m, n, E, Pl, rfl, hba, hl, hm, hmm, rfl, hx⟩
  · exact ⟨[], none, 0, 0, rfl, Nat.le_refl _, Ty.Row.nil_ _ _ _ _⟩
  · have hlm : len ≤ m := by rw [hmm]; split <;> omega
    simp only [Rows.uptoBulk] at hb
    have hlen := bulk_length ((List.range len).map E)
    simp only [List.length_map, List.length_range] at hlen
    have each : ∀ i, i < len → ∃ a', ∃ es, D.rd (fun _ => True) w a' es ∧ w.cells? base (a.add (i * D.sz)) D.sz = some es := by
      intro i hi
      obtain ⟨cs', h1, h2⟩ := hx i (by omega)
      rw [hc] at h1
      have hbi : Rows.uptoBulk (E i) ≤ 1048576 := by
        have := bulk_part (l := (List.range len).map E) (d := E i) (List.mem_map.2 ⟨i, List.mem_range.2 hi, rfl⟩)
        omega
      obtain ⟨a', ha'⟩ := hr h2 hbi
      exact ⟨a', cs', ha', h1⟩
    have : ∃ xs : List α, xs.length = len ∧ ∀ i y, xs[i]? = some y → ∃ es, D.rd (fun _ => True) w y es ∧ w.cells? base (a.add (i * D.sz)) D.sz = some es := by
      clear hx hb hlen hlm hmm hm hl h
      induction len with
      | zero => exact ⟨[], rfl, fun i y hy => by simp at hy⟩
      | succ k ih =>
        obtain ⟨xs, hl, hxs⟩ := ih (fun i hi => each i (by omega))
        obtain ⟨a', es, h1, h2⟩ := each k (by omega)
        refine ⟨xs ++ [a'], by simp [hl], fun i y hy => ?_⟩
        rcases Nat.lt_or_ge i xs.length with hi | hi
        · rw [List.getElem?_append_left hi] at hy
          exact hxs i y hy
        · have hi' := (List.getElem?_eq_some_iff.1 hy).1
          simp at hi'
          have : i = xs.length := by omega
          subst this
          simp at hy
          subst hy
          rw [hl]
          exact ⟨es, h1, h2⟩
    obtain ⟨xs, hxl, hxs⟩ := this
    refine ⟨xs, some a, len, cap, rfl, hl, hxl, by omega, fun hp => ?_⟩
    obtain ⟨b, off, spot⟩ := a
    have hspot : spot = none := by
      obtain ⟨es, h1, h2⟩ := hxs 0 (xs[0]'(by omega)) (List.getElem?_eq_getElem _)
      obtain ⟨_, hle, hcell⟩ := World.cells?_some h2
      have := hcell 0 h0
      rw [List.getElem?_eq_getElem (by omega)] at this
      have := World.cell?_spot this
      simpa [Addr.add] using this
    subst hspot
    refine ⟨b, off, rfl, trivial, fun j y hj => ?_⟩
    obtain ⟨es, h1, h2⟩ := hxs j y hj
    obtain ⟨_, hle, hcell⟩ := World.cells?_some h2
    refine ⟨es, h1, fun i v hv => ?_⟩
    have hi := (List.getElem?_eq_some_iff.1 hv).1
    have := hcell i (by omega)
    rw [add_at, add_at] at this
    exact this.trans hv
theorem Reads.via {α β : Type} {t : TypeId} {D : Ty α} {f : β → α} (g : α → β) (hfg : ∀ a, f (g a) = a) (h : Reads t D) : Reads t (D.via f) := by
  intro H enc w base spare held fuel cs x hx hb
  obtain ⟨a, ha⟩ := h hx hb
  refine ⟨g a, ?_⟩
  show D.rd _ w (f (g a)) cs
  rw [hfg]
  exact ha
theorem Reads.struct2 {α β : Type} {t : TypeId} {f0 f1 : Field} {D0 : Ty α} {D1 : Ty β} (ht : Tryz.prog.underlying t = some (.struct #[f0, f1]))
    (h : Tryz.prog.cellsOf t = D0.sz + D1.sz ∧ f0.offset = 0 ∧ Tryz.prog.cellsOf f0.type = D0.sz ∧ f1.offset = D0.sz ∧ Tryz.prog.cellsOf f1.type = D1.sz) (h0 : Reads f0.type D0) (h1 : Reads f1.type D1) : Reads t (D0.prod D1) := by
  intro H enc w base spare held fuel cs x hx hb
  obtain ⟨k, o0, c0, o1, c1⟩ := h
  obtain ⟨y0, y1, n, rfl, hl, g0, g1⟩ := trod_struct2 ht hx
  simp only [Rows.uptoBulk, Rows.uptoBulkAll] at hb
  rw [o0, c0] at g0
  rw [o1, c1, List.take_of_length_le (by rw [List.length_drop]; omega)] at g1
  obtain ⟨a0, r0⟩ := h0 g0 (by omega)
  obtain ⟨a1, r1⟩ := h1 g1 (by omega)
  exact ⟨(a0, a1), _, _, by rw [List.drop_zero, List.take_append_drop], r0, r1⟩
theorem split3 {α : Type} (cs : List α) (a b : Nat) : cs = (cs.drop 0).take a ++ ((cs.drop a).take b ++ cs.drop (a + b)) := by
  rw [← List.drop_drop, List.take_append_drop, List.drop_zero, List.take_append_drop]
theorem Reads.struct3 {α β γ : Type} {t : TypeId} {f0 f1 f2 : Field} {D0 : Ty α} {D1 : Ty β} {D2 : Ty γ} (ht : Tryz.prog.underlying t = some (.struct #[f0, f1, f2]))
    (h : Tryz.prog.cellsOf t = D0.sz + D1.sz + D2.sz ∧ f0.offset = 0 ∧ Tryz.prog.cellsOf f0.type = D0.sz ∧ f1.offset = D0.sz ∧ Tryz.prog.cellsOf f1.type = D1.sz ∧ f2.offset = D0.sz + D1.sz ∧ Tryz.prog.cellsOf f2.type = D2.sz) (h0 : Reads f0.type D0) (h1 : Reads f1.type D1) (h2 : Reads f2.type D2) : Reads t (D0.prod (D1.prod D2)) := by
  intro H enc w base spare held fuel cs x hx hb
  obtain ⟨k, o0, c0, o1, c1, o2, c2⟩ := h
  obtain ⟨y0, y1, y2, n, rfl, hl, g0, g1, g2⟩ := Deep.trod_struct3 ht hx
  simp only [Rows.uptoBulk, Rows.uptoBulkAll] at hb
  rw [o0, c0] at g0
  rw [o1, c1] at g1
  rw [o2, c2, List.take_of_length_le (by rw [List.length_drop]; omega)] at g2
  obtain ⟨a0, r0⟩ := h0 g0 (by omega)
  obtain ⟨a1, r1⟩ := h1 g1 (by omega)
  obtain ⟨a2, r2⟩ := h2 g2 (by omega)
  exact ⟨(a0, a1, a2), _, _, split3 cs D0.sz D1.sz, r0, _, _, rfl, r1, r2⟩
theorem split4 {α : Type} (cs : List α) (a b c : Nat) : cs = (cs.drop 0).take a ++ ((cs.drop a).take b ++ ((cs.drop (a + b)).take c ++ cs.drop (a + b + c))) := by
  rw [← List.drop_drop (i := c), List.take_append_drop]
  exact split3 cs a b
theorem Reads.struct4 {α β γ δ : Type} {t : TypeId} {f0 f1 f2 f3 : Field} {D0 : Ty α} {D1 : Ty β} {D2 : Ty γ} {D3 : Ty δ} (ht : Tryz.prog.underlying t = some (.struct #[f0, f1, f2, f3]))
    (h : Tryz.prog.cellsOf t = D0.sz + D1.sz + D2.sz + D3.sz ∧ f0.offset = 0 ∧ Tryz.prog.cellsOf f0.type = D0.sz ∧ f1.offset = D0.sz ∧ Tryz.prog.cellsOf f1.type = D1.sz ∧ f2.offset = D0.sz + D1.sz ∧ Tryz.prog.cellsOf f2.type = D2.sz ∧ f3.offset = D0.sz + D1.sz + D2.sz ∧ Tryz.prog.cellsOf f3.type = D3.sz)
    (h0 : Reads f0.type D0) (h1 : Reads f1.type D1) (h2 : Reads f2.type D2) (h3 : Reads f3.type D3) : Reads t (D0.prod (D1.prod (D2.prod D3))) := by
  intro H enc w base spare held fuel cs x hx hb
  obtain ⟨k, o0, c0, o1, c1, o2, c2, o3, c3⟩ := h
  obtain ⟨y0, y1, y2, y3, n, rfl, hl, g0, g1, g2, g3⟩ := Joins.trod_struct4 ht hx
  simp only [Rows.uptoBulk, Rows.uptoBulkAll] at hb
  rw [o0, c0] at g0
  rw [o1, c1] at g1
  rw [o2, c2] at g2
  rw [o3, c3, List.take_of_length_le (by rw [List.length_drop]; omega)] at g3
  obtain ⟨a0, r0⟩ := h0 g0 (by omega)
  obtain ⟨a1, r1⟩ := h1 g1 (by omega)
  obtain ⟨a2, r2⟩ := h2 g2 (by omega)
  obtain ⟨a3, r3⟩ := h3 g3 (by omega)
  exact ⟨(a0, a1, a2, a3), _, _, split4 cs D0.sz D1.sz D2.sz, r0, _, _, rfl, r1, _, _, rfl, r2, r3⟩

theorem readsI : Reads 3 tI := Reads.int Tryz.underlying3
theorem readsS : Reads 9 tS := Reads.str Tryz.underlying9
theorem readsIs : Reads 40 tIs := Reads.slice Tryz.underlying40 (by decide) (by kernel_rfl) readsI
theorem readsSs : Reads 22 tSs := Reads.slice Tryz.underlying22 (by decide) (by kernel_rfl) readsS
theorem readsRule : Reads 93 tRule := Reads.via (fun a => ⟨a.1, a.2⟩) (fun _ => rfl) (Reads.struct2 Tryz.underlying93 ⟨by kernel_rfl, rfl, by kernel_rfl, rfl, by kernel_rfl⟩ readsI readsIs)
theorem readsRules : Reads 23 tRules := Reads.slice Tryz.underlying23 tRule_sz (by kernel_rfl) readsRule
theorem readsGram : Reads 25 tGram := Reads.via (fun a => ⟨a.1, a.2.1, a.2.2.1, a.2.2.2⟩) (fun _ => rfl) (Reads.struct4 Tryz.underlying25 ⟨by kernel_rfl, rfl, by kernel_rfl, rfl, by kernel_rfl, rfl, by kernel_rfl, rfl, by kernel_rfl⟩ readsSs readsSs readsRules readsI)

/-! ### 2. Arguments -/
section
variable {H : Type} {enc : TypeId × Value → H} {W : World} {base : Nat} {spare : Nat → Bool} {held : Bool} {v : Value} {d : DataW H} {p : List MemPlace}
set_option maxRecDepth 100000 in
theorem argGram (hv : Value.okWide Tryz.prog W .any base 25 v) (h : DataW.Trod enc Tryz.prog W 0 spare held 25 v d p) (hb : Rows.uptoBulk d ≤ 1048576) : ∃ g A0 A1 A2 c0 c1 c2, v = .agg (gcells g A0 A1 A2 c0 c1 c2).toArray ∧ GramAt (fun _ => True) W g A0 A1 A2 c0 c1 c2 := by
  obtain ⟨cs, rfl, hsz⟩ := okWide_struct Tryz.underlying25 hv
  obtain ⟨fuel, hf⟩ := h
  obtain ⟨g, hg⟩ := readsGram hf hb
  obtain ⟨A0, A1, A2, c0, c1, c2, hcs, hat⟩ := tGram_open hg
  refine ⟨g, A0, A1, A2, c0, c1, c2, ?_, hat⟩
  have : cs.toList = gcells g A0 A1 A2 c0 c1 c2 := hcs
  rw [← this]
set_option maxRecDepth 100000 in
theorem argInt (hv : Value.okWide Tryz.prog W .any base 3 v) (h : DataW.Trod enc Tryz.prog W 0 spare held 3 v d p) : ∃ n, v = .int .i64 n ∧ I64 n := by
  obtain ⟨n, rfl, _, _, hw⟩ := open_int Tryz.underlying3 hv h
  exact ⟨n, rfl, (by simpa [Lit.wf, Ty.InK] using hw : Ty.InK .i64 n).i64⟩
set_option maxRecDepth 100000 in
theorem argStr (hv : Value.okWide Tryz.prog W .any base 9 v) (h : DataW.Trod enc Tryz.prog W 0 spare held 9 v d p) (hb : Rows.uptoBulk d ≤ 1048576) : ∃ s, v = .string s ∧ s.size ≤ 1048576 := by
  obtain ⟨s, rfl⟩ := okWide_string Tryz.underlying9 hv
  obtain ⟨fuel, hf⟩ := h
  obtain ⟨s', hs', hx, hm⟩ := DataW.trod_string Tryz.underlying9 hf
  have e : s' = s := by simpa [Value.cells] using hs'.symm
  subst e
  simp only [Prod.mk.injEq] at hx
  obtain ⟨rfl, _⟩ := hx
  simp [Rows.uptoBulk] at hb
  have : s'.data.toList.length = s'.size := by simp
  exact ⟨s', rfl, by omega⟩
set_option maxRecDepth 100000 in
theorem argInts (hv : Value.okWide Tryz.prog W .any base 40 v) (h : DataW.Trod enc Tryz.prog W 0 spare held 40 v d p) (hb : Rows.uptoBulk d ≤ 1048576) : ∃ (x : List Int) (B : Option Addr) (k : Nat), v = .slice B x.length k ∧ x.length ≤ k ∧ tI.Row (fun _ => True) W B x.length x := by
  obtain ⟨B, n, k, rfl⟩ := okWide_slice Tryz.underlying40 hv
  obtain ⟨fuel, hf⟩ := h
  obtain ⟨x, hx⟩ := readsIs hf hb
  obtain ⟨B', k', hcs, hk, hr⟩ := tIs_open hx
  simp only [Value.cells, List.cons.injEq, and_true] at hcs
  exact ⟨x, B', k', hcs, hk, hr⟩
set_option maxRecDepth 100000 in
theorem argU8 (hv : Value.okWide Tryz.prog W .any base 5 v) (h : DataW.Trod enc Tryz.prog W 0 spare held 5 v d p) : ∃ n, v = .int .u8 n ∧ 0 ≤ n ∧ n ≤ 255 := by
  obtain ⟨n, rfl, _, _, hw⟩ := open_int Tryz.underlying5 hv h
  refine ⟨n, rfl, ?_⟩
  simpa [Lit.wf, IntKind.min, IntKind.max, IntKind.signed, IntKind.bits] using hw
end

/-! ### 3. Behind the call -/
theorem laidOut : laidOutB Tryz.prog = true := by kernel_rfl
theorem trodAll_ext {P : Program} (hlaid : laidOutB P = true) {H : Type} {enc : TypeId × Value → H} {W W' : World} (he : Ext W W') {ts : List TypeId} {vs : List Value} {ds : List (DataW H)} {p : List MemPlace} (hts : (ts.all fun t => P.readableRec t && Nat.blt t P.types.size) = true)
    (h : DataW.TrodAll enc P W 0 (fun _ => true) true ts vs ds p) (hlt : ∀ x ∈ p, x.block < W.heap.size) : DataW.TrodAll enc P W' 0 (fun b => decide (b < W.heap.size)) true ts vs ds p := by
  induction ts generalizing vs ds p with
  | nil =>
    obtain ⟨rfl, rfl, rfl⟩ := trodAll_nil h
    exact trodAll_mk0
  | cons t ts ih =>
    obtain ⟨v0, vs0, d0, ds0, p0, q0, hargs, rfl, rfl, h0, r0⟩ := trodAll_cons h
    rw [hargs]
    simp only [List.all_cons, Bool.and_eq_true, Nat.blt_eq] at hts
    exact trodAll_cons_mk (Below.trod hlaid hts.1.1 hts.1.2 h0 he (fun x hx => hlt x (List.mem_append_left _ hx))) (ih hts.2 r0 (fun x hx => hlt x (List.mem_append_right _ hx)))
set_option maxRecDepth 100000 in
theorem post_true {H : Type} {enc : TypeId × Value → H} {f : Func} {s : ChangeSpec} {W W' : World} {args : Array Value} {ds gs : List (DataW H)} {before : List MemPlace} (hr : f.resultTypes = #[4]) (hv : s.vars = [])
    (hfn : s.fn H (ds ++ gs) = { results := [.lit (.bool true)], args := ds }) (hts : (f.params.toList.all fun t => Tryz.prog.readableRec t && Nat.blt t Tryz.prog.types.size) = true)
    (hW : DataW.Whole enc Tryz.prog f.params.toList s.vars false W args.toList ds gs before) (he : Ext W W') : s.post enc Tryz.prog f false true false false W args (.bool true) W' := by
  have hW' := hW
  obtain ⟨p, q, hA, hV, rfl, hfz, hnd⟩ := hW
  have hlt : ∀ x ∈ p ++ q, x.block < W.heap.size := fun x hx => hW'.lt x hx
  have hV' := hV
  rw [hv] at hV'
  obtain ⟨rfl, rfl⟩ := trodVars_none hV'
  refine ⟨ds, [], p ++ [], [], p, [], hW', ?_, ?_, ?_, Below.frame he _, fun h => by cases h⟩
  · rw [hfn, hr]
    exact trodAll_cons_mk (shut_bool Tryz.underlying4 _) trodAll_mk0
  · rw [hfn]
    exact trodAll_ext laidOut he hts hA (fun x hx => hlt x (by simpa using hx))
  · rw [hfn, hv]
    exact rfl
end Go.Proofs.YtbadjlhijbkbbaaGreat
