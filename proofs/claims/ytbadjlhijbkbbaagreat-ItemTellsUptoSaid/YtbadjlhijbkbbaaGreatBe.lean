/-
  Joined by program out of the texts G1 F1 G2 G3 G4 Once G5 G6: lemmas for the proofs of this seat; no condition.
-/
import Derived.Test.YtbadjlhijbkbbaaGreatBb
import Derived.Test.YtbadjlhijbkbbaaGreatBa
/-
  The program's and the reference's small functions on grammars.
-/
set_option linter.unusedVariables false
namespace Go.Proofs.YtbadjlhijbkbbaaGreat
open Go Go.RowKit Sx
variable {S : Nat → Prop} {w : World} {g : Gram} {A0 A1 A2 : Option Addr} {c0 c1 c2 : Nat}

theorem gTop (hg : GramAt S w g A0 A1 A2 c0 c1 c2) : Calls Tryz.prog 116 [.agg (gcells g A0 A1 A2 c0 c1 c2).toArray].toArray w (Ret fun v w' => v = .int .i64 g.top ∧ Ext w w') := by
  have h0 := hg.terms.2.1
  have h1 := hg.nons.2.1
  refine enter Tryz.func116 rfl Tryz.ntmps116 rfl ?_
  refine wk ?_; try (refine Wop.box rfl (fun w1 e1 b1 z1 => ?_); refine wk ?_)
  exact Arr.ret1 rfl rfl ⟨rfl, e1⟩
theorem gTerm (s : Int) : Calls Tryz.prog 120 [.agg (gcells g A0 A1 A2 c0 c1 c2).toArray, .int .i64 s].toArray w (Ret fun v w' => v = .bool (g.term s) ∧ Ext w w') := by
  refine enter Tryz.func120 rfl Tryz.ntmps120 rfl ?_
  repeat' (first | refine W.seq ?_ | refine W.region ?_ | refine Wl.step rfl ?_ | refine Wl.act ?_ | refine Wl.done ?_ | refine Arr.next ?_ | refine W.block ?_ | refine W.skip ?_ | refine W.ret ?_ | refine W.exit ?_ | refine Arr.then_ret ?_ | refine Arr.then_exit ?_ | refine Arr.block_ret ?_ | refine Arr.block_normal ?_ | refine Arr.block_exit ?_ | refine Arr.block_other rfl ?_ | refine W.yes rfl ?_ | refine W.no rfl ?_ | refine Wl.stepY rfl rfl rfl rfl ?_ | refine Wl.stepN rfl rfl rfl rfl rfl ?_ | refine Wl.stepU rfl rfl rfl rfl ?_ | refine Wop.pure TT rfl ?_ | refine Wop.ldB TT rfl rfl (by first | assumption | exact Blk.ext (by assumption) (by assumption)) rfl ?_ | refine Wop.ld TT rfl rfl (by first | assumption | exact Ext.cell (by assumption) (by assumption)) ?_ | refine Wop.ldA TT rfl rfl rfl (by first | assumption | exact Blk.ext (by assumption) (by assumption)) ?_ | refine Wop.ldR TT rfl rfl rfl (by first | assumption | exact cells_ext (by assumption) (by assumption)) ?_ | refine Wop.ix TT rfl rfl rfl rfl rfl (by first | assumption | omega) ?_ | refine Wop.inc rfl rfl (by omega) ?_ | refine Wop.add rfl rfl ⟨by omega, by omega⟩ ?_ | refine Wop.sub rfl rfl ⟨by omega, by omega⟩ ?_ | refine Wop.box rfl (fun w1 e1 b1 z1 => ?_) | refine Wl.part rfl rfl rfl (fun h_ => ?_) (fun h_ => ?_) | refine W.testR rfl (fun h_ => ?_) (fun h_ => ?_))
  · refine Arr.ret1 rfl rfl ⟨?_, e1⟩
    simp [Gram.term, h_]
  · refine Arr.ret1 rfl rfl ⟨?_, e1⟩
    simp [Gram.term, h_]
theorem gNon (hg : GramAt S w g A0 A1 A2 c0 c1 c2) (s : Int) : Calls Tryz.prog 105 [.agg (gcells g A0 A1 A2 c0 c1 c2).toArray, .int .i64 s].toArray w (Ret fun v w' => v = .bool (g.non s) ∧ Ext w w') := by
  refine enter Tryz.func105 rfl Tryz.ntmps105 rfl ?_
  refine wk ?_; try (refine Wop.box rfl (fun w1 e1 b1 z1 => ?_); refine wk ?_)
  refine Wl.part rfl rfl rfl (fun h_ => ?_) (fun h_ => ?_)
  · refine wk ?_; try (refine Wop.box rfl (fun w1 e1 b1 z1 => ?_); refine wk ?_)
    refine Wop.fn en116 rfl (gTop (hg.ext e1)) ?_
    rintro _ w2 ⟨rfl, e2⟩
    refine wk ?_; try (refine Wop.box rfl (fun w1 e1 b1 z1 => ?_); refine wk ?_)
    refine Arr.ret1 rfl rfl ⟨?_, e1.trans e2⟩
    simp [Gram.non, h_]
  · refine wk ?_; try (refine Wop.box rfl (fun w1 e1 b1 z1 => ?_); refine wk ?_)
    refine Arr.ret1 rfl rfl ⟨?_, e1⟩
    simp [Gram.non, h_]
theorem rTop (hg : GramAt S w g A0 A1 A2 c0 c1 c2) : Calls Tryz.prog 117 [.agg (gcells g A0 A1 A2 c0 c1 c2).toArray].toArray w (Ret fun v w' => v = .int .i64 g.top ∧ Ext w w') := by
  have h0 := hg.terms.2.1
  have h1 := hg.nons.2.1
  refine enter Tryz.func117 rfl Tryz.ntmps117 rfl ?_
  refine wk ?_; try (refine Wop.box rfl (fun w1 e1 b1 z1 => ?_); refine wk ?_)
  exact Arr.ret1 rfl rfl ⟨rfl, e1⟩
theorem rTerm (s : Int) : Calls Tryz.prog 146 [.agg (gcells g A0 A1 A2 c0 c1 c2).toArray, .int .i64 s].toArray w (Ret fun v w' => v = .bool (g.term s) ∧ Ext w w') := by
  refine enter Tryz.func146 rfl Tryz.ntmps146 rfl ?_
  repeat' (first | refine W.seq ?_ | refine W.region ?_ | refine Wl.step rfl ?_ | refine Wl.act ?_ | refine Wl.done ?_ | refine Arr.next ?_ | refine W.block ?_ | refine W.skip ?_ | refine W.ret ?_ | refine W.exit ?_ | refine Arr.then_ret ?_ | refine Arr.then_exit ?_ | refine Arr.block_ret ?_ | refine Arr.block_normal ?_ | refine Arr.block_exit ?_ | refine Arr.block_other rfl ?_ | refine W.yes rfl ?_ | refine W.no rfl ?_ | refine Wl.stepY rfl rfl rfl rfl ?_ | refine Wl.stepN rfl rfl rfl rfl rfl ?_ | refine Wl.stepU rfl rfl rfl rfl ?_ | refine Wop.pure TT rfl ?_ | refine Wop.ldB TT rfl rfl (by first | assumption | exact Blk.ext (by assumption) (by assumption)) rfl ?_ | refine Wop.ld TT rfl rfl (by first | assumption | exact Ext.cell (by assumption) (by assumption)) ?_ | refine Wop.ldA TT rfl rfl rfl (by first | assumption | exact Blk.ext (by assumption) (by assumption)) ?_ | refine Wop.ldR TT rfl rfl rfl (by first | assumption | exact cells_ext (by assumption) (by assumption)) ?_ | refine Wop.ix TT rfl rfl rfl rfl rfl (by first | assumption | omega) ?_ | refine Wop.inc rfl rfl (by omega) ?_ | refine Wop.add rfl rfl ⟨by omega, by omega⟩ ?_ | refine Wop.sub rfl rfl ⟨by omega, by omega⟩ ?_ | refine Wop.box rfl (fun w1 e1 b1 z1 => ?_) | refine Wl.part rfl rfl rfl (fun h_ => ?_) (fun h_ => ?_) | refine W.testR rfl (fun h_ => ?_) (fun h_ => ?_))
  · refine Arr.ret1 rfl rfl ⟨?_, e1⟩
    simp [Gram.term, h_]
  · refine Arr.ret1 rfl rfl ⟨?_, e1⟩
    simp [Gram.term, h_]
theorem rNon (hg : GramAt S w g A0 A1 A2 c0 c1 c2) (s : Int) : Calls Tryz.prog 150 [.agg (gcells g A0 A1 A2 c0 c1 c2).toArray, .int .i64 s].toArray w (Ret fun v w' => v = .bool (g.non s) ∧ Ext w w') := by
  refine enter Tryz.func150 rfl Tryz.ntmps150 rfl ?_
  refine wk ?_; try (refine Wop.box rfl (fun w1 e1 b1 z1 => ?_); refine wk ?_)
  refine Wl.part rfl rfl rfl (fun h_ => ?_) (fun h_ => ?_)
  · refine wk ?_; try (refine Wop.box rfl (fun w1 e1 b1 z1 => ?_); refine wk ?_)
    refine Wop.fn en117 rfl (rTop (hg.ext e1)) ?_
    rintro _ w2 ⟨rfl, e2⟩
    refine wk ?_; try (refine Wop.box rfl (fun w1 e1 b1 z1 => ?_); refine wk ?_)
    refine Arr.ret1 rfl rfl ⟨?_, e1.trans e2⟩
    simp [Gram.non, h_]
  · refine wk ?_; try (refine Wop.box rfl (fun w1 e1 b1 z1 => ?_); refine wk ?_)
    refine Arr.ret1 rfl rfl ⟨?_, e1⟩
    simp [Gram.non, h_]
end Go.Proofs.YtbadjlhijbkbbaaGreat

/-
  Functions that ask a function value: the library's, and all, ..
-/
set_option linter.unusedVariables false
namespace Go.Proofs.YtbadjlhijbkbbaaGreat
open Go Go.RowKit Sx

def idxI {α : Type} (p : α → Bool) (xs : List α) : Int := match xs.findIdx? p with
  | some i => (i : Int)
  | none => -1
theorem idxI_some {α : Type} {p : α → Bool} {xs : List α} {i : Nat} {x : α} (hx : xs[i]? = some x) (hp : p x = true) (h0 : ∀ j y, j < i → xs[j]? = some y → p y = false) : idxI p xs = i := by
  obtain ⟨hi, hxx⟩ := List.getElem?_eq_some_iff.1 hx
  have : xs.findIdx? p = some i := by
    rw [List.findIdx?_eq_some_iff_getElem]
    refine ⟨hi, by rw [hxx]; exact hp, fun j hj => ?_⟩
    have := h0 j xs[j] hj (List.getElem?_eq_getElem (by omega))
    simp [this]
  rw [idxI, this]
theorem idxI_none {α : Type} {p : α → Bool} {xs : List α} (h0 : ∀ (j : Nat) (y : α), xs[j]? = some y → p y = false) : idxI p xs = -1 := by
  have : xs.findIdx? p = none := by
    rw [List.findIdx?_eq_none_iff]
    intro x hx
    obtain ⟨j, hj⟩ := List.getElem?_of_mem hx
    exact h0 j x hj
  rw [idxI, this]
theorem idxI_bounds {α : Type} (p : α → Bool) (xs : List α) : -1 ≤ idxI p xs ∧ idxI p xs < xs.length := by
  unfold idxI
  split
  · next i h =>
    have := (List.findIdx?_eq_some_iff_getElem.1 h).1
    omega
  · omega
theorem idxI_any {α : Type} (p : α → Bool) (xs : List α) : (0 ≤ idxI p xs) ↔ xs.any p = true := by
  unfold idxI
  split
  · next i h =>
    obtain ⟨hi, hp, _⟩ := List.findIdx?_eq_some_iff_getElem.1 h
    simp only [List.any_eq_true]
    exact ⟨fun _ => ⟨xs[i], List.getElem_mem hi, hp⟩, fun _ => by omega⟩
  · next h =>
    rw [List.findIdx?_eq_none_iff] at h
    simp only [List.any_eq_true]
    constructor
    · intro; omega
    · rintro ⟨x, hx, hp⟩
      simp [h x hx] at hp
/-- How a value is handed on. -/
def VI (_w : World) (x : Int) (v : Value) : Prop := v = .int .i64 x ∧ I64 x
def VS (_w : World) (x : ByteArray) (v : Value) : Prop := v = .string x ∧ x.size ≤ 140737488355328
def VR (w : World) (x : Rule) (v : Value) : Prop := ∃ A c, v = .agg #[.int .i64 x.left, .slice A x.right.length c] ∧ x.right.length ≤ c ∧ I64 x.left ∧ tI.Row (fun _ => True) w A x.right.length x.right
theorem VR.ext {w w' : World} {x : Rule} {v : Value} (e : Ext w w') : VR w x v → VR w' x v := fun ⟨A, c, h1, h2, h3, h4⟩ => ⟨A, c, h1, h2, h3, h4.ext (by decide) e⟩
theorem VI_load {S : Nat → Prop} {w : World} {x : Int} {es : List Value} {b o : Nat} (hrd : tI.rd S w x es) (hc : ∀ k v, es[k]? = some v → w.cell? ⟨b, o + k, none⟩ = some v) : ∃ v, VI w x v ∧ ∀ {Q N d ty ps af gd x σ K}, Sx.look σ x = some (.pointer (some ⟨b, o, none⟩)) → K v w → Wop Tryz.prog Q N ⟨d, .load 3 x, ty, ps, af, gd⟩ σ w K := by
  obtain ⟨rfl, h⟩ := hrd
  exact ⟨_, ⟨rfl, h.i64⟩, fun hx hk => Wop.ld TT rfl hx (hc 0 _ rfl) hk⟩
theorem VS_load {S : Nat → Prop} {w : World} {x : ByteArray} {es : List Value} {b o : Nat} (hrd : tS.rd S w x es) (hc : ∀ k v, es[k]? = some v → w.cell? ⟨b, o + k, none⟩ = some v) : ∃ v, VS w x v ∧ ∀ {Q N d ty ps af gd x σ K}, Sx.look σ x = some (.pointer (some ⟨b, o, none⟩)) → K v w → Wop Tryz.prog Q N ⟨d, .load 9 x, ty, ps, af, gd⟩ σ w K := by
  obtain ⟨rfl, h⟩ := hrd
  exact ⟨_, ⟨rfl, h⟩, fun hx hk => Wop.ld TT rfl hx (hc 0 _ rfl) hk⟩
theorem VR_load {S : Nat → Prop} {w : World} {x : Rule} {es : List Value} {b o : Nat} (hrd : tRule.rd S w x es) (hc : ∀ k v, es[k]? = some v → w.cell? ⟨b, o + k, none⟩ = some v) : ∃ v, VR w x v ∧ ∀ {Q N d ty ps af gd x σ K}, Sx.look σ x = some (.pointer (some ⟨b, o, none⟩)) → K v w → Wop Tryz.prog Q N ⟨d, .load 93 x, ty, ps, af, gd⟩ σ w K := by
  obtain ⟨A, c, rfl, h1, h2, h3⟩ := tRule_open hrd
  exact ⟨_, ⟨A, c, rfl, h1, h2, h3.mono (fun _ _ => trivial)⟩, fun hx hk => Wop.ldR TT rfl rfl hx hc hk⟩

section
variable {S S' : Nat → Prop} {w : World} {A B : Option Addr} {n m c c' : Nat}
/-! ### the first that is equal -/
theorem indexI {xs : List Int} {y : Int} {vy : Value} (hx : tI.Row S w A n xs) (hy : tI.rd S' w y [vy]) : Calls Tryz.prog 179 [.slice A n c, vy].toArray w (Ret fun v w' => v = .int .i64 (idxI (fun x => decide (x = y)) xs) ∧ Ext w w') := by
  obtain ⟨hvy, _⟩ := hy
  cases hvy
  have hl := hx.1
  have hm := hx.2.1
  refine enter Tryz.func179 rfl Tryz.ntmps179 rfl ?_
  refine wk ?_
  refine W.loop (ι := Nat) (fun i => [(0, .slice A n c), (1, .int .i64 y), (7, .int .i64 (n : Int)), (8, .int .i64 (i : Int))])
    (fun i w' => Ext w w' ∧ i ≤ n ∧ ∀ j x, j < i → xs[j]? = some x → decide (x = y) = false) (fun i => n - i) 0 has ⟨Ext.refl w, Nat.zero_le _, fun j x hj => absurd hj (Nat.not_lt_zero j)⟩ ?_
  rintro i w1 ⟨hE, hi, hp0⟩
  refine wk ?_
  refine W.test rfl (fun hlt => ?_) (fun hge => ?_)
  · have hlt : i < n := by omega
    obtain ⟨b, o, rfl, es, ⟨rfl, hs⟩, hc⟩ := hx.at_ i (by omega)
    have hcell := hE.cell (hc 0 _ rfl)
    refine wk ?_
    refine W.test rfl (fun hq => ?_) (fun hq => ?_)
    · refine wk ?_
      refine Arr.ret1 rfl rfl ⟨?_, hE⟩
      rw [idxI_some (xs := xs) (i := i) (List.getElem?_eq_getElem (by omega)) (decide_eq_true hq.symm) hp0]
    · refine wk ?_
      refine Arr.again (i + 1) has ⟨hE, hlt, ?_⟩ (by omega)
      intro j x hj hx
      rcases Nat.lt_or_ge j i with h1 | h1
      · exact hp0 j x h1 hx
      · obtain rfl : j = i := by omega
        rw [List.getElem?_eq_getElem (by omega)] at hx
        cases hx
        exact decide_eq_false (fun h => hq h.symm)
  · refine wk ?_
    refine Arr.ret1 rfl rfl ⟨?_, hE⟩
    rw [idxI_none (fun j y hj => hp0 j y (by have := (List.getElem?_eq_some_iff.1 hj).1; omega) hj)]
theorem r4Place {xs : List ByteArray} {y : ByteArray} (hx : tS.Row S w A n xs) (_hy : y.size ≤ 140737488355328) : Calls Tryz.prog 149 [.slice A n c, .string y].toArray w (Ret fun v w' => v = .int .i64 (idxI (fun x => decide (x = y)) xs) ∧ Ext w w') := by
  have hl := hx.1
  have hm := hx.2.1
  refine enter Tryz.func149 rfl Tryz.ntmps149 rfl ?_
  refine wk ?_
  refine W.loop (ι := Nat) (fun i => [(0, .slice A n c), (1, .string y), (5, .int .i64 (i : Int))])
    (fun i w' => Ext w w' ∧ i ≤ n ∧ ∀ j x, j < i → xs[j]? = some x → decide (x = y) = false) (fun i => n - i) 0 has ⟨Ext.refl w, Nat.zero_le _, fun j x hj => absurd hj (Nat.not_lt_zero j)⟩ ?_
  rintro i w1 ⟨hE, hi, hp0⟩
  refine wk ?_
  refine W.test rfl (fun hlt => ?_) (fun hge => ?_)
  · have hlt : i < n := by omega
    obtain ⟨b, o, rfl, es, ⟨rfl, hs⟩, hc⟩ := hx.at_ i (by omega)
    have hcell := hE.cell (hc 0 _ rfl)
    refine wk ?_
    refine W.test rfl (fun hq => ?_) (fun hq => ?_)
    · refine wk ?_
      refine Arr.ret1 rfl rfl ⟨?_, hE⟩
      rw [idxI_some (xs := xs) (i := i) (List.getElem?_eq_getElem (by omega)) (decide_eq_true hq) hp0]
    · refine wk ?_
      refine Arr.again (i + 1) has ⟨hE, hlt, ?_⟩ (by omega)
      intro j x hj hx
      rcases Nat.lt_or_ge j i with h1 | h1
      · exact hp0 j x h1 hx
      · obtain rfl : j = i := by omega
        rw [List.getElem?_eq_getElem (by omega)] at hx
        cases hx
        exact decide_eq_false hq
  · refine wk ?_
    refine Arr.ret1 rfl rfl ⟨?_, hE⟩
    rw [idxI_none (fun j y hj => hp0 j y (by have := (List.getElem?_eq_some_iff.1 hj).1; omega) hj)]

/-! ### the first one that is so -/
/-- A predicate: a function with what it has captured. -/
def PredI (f : FuncId) (cap : List Value) (w0 : World) (p : Int → Bool) : Prop :=
  ∀ w, Ext w0 w → ∀ x v, VI w x v → Calls Tryz.prog f ([v] ++ cap).toArray w (Ret fun v w' => v = .bool (p x) ∧ Ext w w')
theorem PredI.ext {f : FuncId} {cap : List Value} {w0 w1 : World} {p : Int → Bool} (h : PredI f cap w0 p) (e : Ext w0 w1) : PredI f cap w1 p := fun w hw => h w (e.trans hw)

theorem indexFuncI {xs : List Int} {f : FuncId} {cap : List Value} {p : Int → Bool} (h : tI.Row S w A n xs) (he : Enters Tryz.prog f) (hp : PredI f cap w p) :
    Calls Tryz.prog 227 [.slice A n c, .func (.func f) #[] cap.toArray].toArray w (Ret fun v w' => v = .int .i64 (idxI p xs) ∧ Ext w w') := by
  refine enter Tryz.func227 rfl Tryz.ntmps227 rfl ?_
  refine wk ?_
  refine W.loop (ι := Nat) (fun i => [(0, .slice A n c), (1, .func (.func f) #[] cap.toArray), (7, .int .i64 (n : Int)), (8, .int .i64 (i : Int))])
    (fun i w' => Ext w w' ∧ i ≤ n ∧ ∀ j x, j < i → xs[j]? = some x → p x = false) (fun i => n - i) 0 has ⟨Ext.refl w, Nat.zero_le _, fun j x hj => absurd hj (Nat.not_lt_zero j)⟩ ?_
  rintro i w1 ⟨hE, hi, hp0⟩
  have hl := h.1
  have hm := h.2.1
  refine wk ?_
  refine W.test rfl (fun hlt => ?_) (fun hge => ?_)
  · have hlt : i < n := by omega
    obtain ⟨b, o, rfl, es, hrd, hc⟩ := (h.ext (by decide) hE).at_ i (by omega)
    have key : ∃ v, VI w1 xs[i] v ∧ ∀ {Q N d ty ps af gd x σ K}, Sx.look σ x = some (.pointer (some ⟨b, o + i * 1, none⟩)) → K v w1 → Wop Tryz.prog Q N ⟨d, .load 3 x, ty, ps, af, gd⟩ σ w1 K := VI_load hrd hc
    obtain ⟨v, hv, hk⟩ := key
    clear hc
    refine wk ?_
    refine hk rfl ?_
    refine wk ?_
    refine Wop.fnV he rfl rfl (hp w1 hE _ _ hv) ?_
    rintro _ w2 ⟨rfl, hE2⟩
    refine wk ?_
    refine W.cond rfl (fun hy => ?_) (fun hn => ?_)
    · refine wk ?_
      refine Arr.ret1 rfl rfl ⟨?_, hE.trans hE2⟩
      rw [idxI_some (xs := xs) (i := i) (List.getElem?_eq_getElem (by omega)) hy hp0]
    · refine wk ?_
      refine Arr.again (i + 1) has ⟨hE.trans hE2, hlt, ?_⟩ (by omega)
      intro j x hj hx
      rcases Nat.lt_or_ge j i with h1 | h1
      · exact hp0 j x h1 hx
      · obtain rfl : j = i := by omega
        rw [List.getElem?_eq_getElem (by omega)] at hx
        cases hx
        exact hn
  · refine wk ?_
    refine Arr.ret1 rfl rfl ⟨?_, hE⟩
    rw [idxI_none (fun j y hj => hp0 j y (by have := (List.getElem?_eq_some_iff.1 hj).1; omega) hj)]
theorem containsFuncI {xs : List Int} {f : FuncId} {cap : List Value} {p : Int → Bool} (h : tI.Row S w A n xs) (he : Enters Tryz.prog f) (hp : PredI f cap w p) :
    Calls Tryz.prog 213 [.slice A n c, .func (.func f) #[] cap.toArray].toArray w (Ret fun v w' => v = .bool (xs.any p) ∧ Ext w w') := by
  refine enter Tryz.func213 rfl Tryz.ntmps213 rfl ?_
  refine wk ?_
  refine Wop.fn en227 rfl (indexFuncI h he hp) ?_
  rintro _ w1 ⟨rfl, e1⟩
  refine wk ?_
  refine Arr.ret1 rfl rfl ⟨?_, e1⟩
  congr 1
  have := idxI_any p xs
  by_cases h : xs.any p = true
  · rw [h]; exact decide_eq_true (this.2 h)
  · rw [Bool.not_eq_true] at h
    rw [h]
    exact decide_eq_false (fun h1 => by have := this.1 h1; simp [h] at this)
/-- A predicate: a function with what it has captured. -/
def PredS (f : FuncId) (cap : List Value) (w0 : World) (p : ByteArray → Bool) : Prop :=
  ∀ w, Ext w0 w → ∀ x v, VS w x v → Calls Tryz.prog f ([v] ++ cap).toArray w (Ret fun v w' => v = .bool (p x) ∧ Ext w w')
theorem PredS.ext {f : FuncId} {cap : List Value} {w0 w1 : World} {p : ByteArray → Bool} (h : PredS f cap w0 p) (e : Ext w0 w1) : PredS f cap w1 p := fun w hw => h w (e.trans hw)

theorem indexFuncS {xs : List ByteArray} {f : FuncId} {cap : List Value} {p : ByteArray → Bool} (h : tS.Row S w A n xs) (he : Enters Tryz.prog f) (hp : PredS f cap w p) :
    Calls Tryz.prog 204 [.slice A n c, .func (.func f) #[] cap.toArray].toArray w (Ret fun v w' => v = .int .i64 (idxI p xs) ∧ Ext w w') := by
  refine enter Tryz.func204 rfl Tryz.ntmps204 rfl ?_
  refine wk ?_
  refine W.loop (ι := Nat) (fun i => [(0, .slice A n c), (1, .func (.func f) #[] cap.toArray), (7, .int .i64 (n : Int)), (8, .int .i64 (i : Int))])
    (fun i w' => Ext w w' ∧ i ≤ n ∧ ∀ j x, j < i → xs[j]? = some x → p x = false) (fun i => n - i) 0 has ⟨Ext.refl w, Nat.zero_le _, fun j x hj => absurd hj (Nat.not_lt_zero j)⟩ ?_
  rintro i w1 ⟨hE, hi, hp0⟩
  have hl := h.1
  have hm := h.2.1
  refine wk ?_
  refine W.test rfl (fun hlt => ?_) (fun hge => ?_)
  · have hlt : i < n := by omega
    obtain ⟨b, o, rfl, es, hrd, hc⟩ := (h.ext (by decide) hE).at_ i (by omega)
    have key : ∃ v, VS w1 xs[i] v ∧ ∀ {Q N d ty ps af gd x σ K}, Sx.look σ x = some (.pointer (some ⟨b, o + i * 1, none⟩)) → K v w1 → Wop Tryz.prog Q N ⟨d, .load 9 x, ty, ps, af, gd⟩ σ w1 K := VS_load hrd hc
    obtain ⟨v, hv, hk⟩ := key
    clear hc
    refine wk ?_
    refine hk rfl ?_
    refine wk ?_
    refine Wop.fnV he rfl rfl (hp w1 hE _ _ hv) ?_
    rintro _ w2 ⟨rfl, hE2⟩
    refine wk ?_
    refine W.cond rfl (fun hy => ?_) (fun hn => ?_)
    · refine wk ?_
      refine Arr.ret1 rfl rfl ⟨?_, hE.trans hE2⟩
      rw [idxI_some (xs := xs) (i := i) (List.getElem?_eq_getElem (by omega)) hy hp0]
    · refine wk ?_
      refine Arr.again (i + 1) has ⟨hE.trans hE2, hlt, ?_⟩ (by omega)
      intro j x hj hx
      rcases Nat.lt_or_ge j i with h1 | h1
      · exact hp0 j x h1 hx
      · obtain rfl : j = i := by omega
        rw [List.getElem?_eq_getElem (by omega)] at hx
        cases hx
        exact hn
  · refine wk ?_
    refine Arr.ret1 rfl rfl ⟨?_, hE⟩
    rw [idxI_none (fun j y hj => hp0 j y (by have := (List.getElem?_eq_some_iff.1 hj).1; omega) hj)]
theorem containsFuncS {xs : List ByteArray} {f : FuncId} {cap : List Value} {p : ByteArray → Bool} (h : tS.Row S w A n xs) (he : Enters Tryz.prog f) (hp : PredS f cap w p) :
    Calls Tryz.prog 183 [.slice A n c, .func (.func f) #[] cap.toArray].toArray w (Ret fun v w' => v = .bool (xs.any p) ∧ Ext w w') := by
  refine enter Tryz.func183 rfl Tryz.ntmps183 rfl ?_
  refine wk ?_
  refine Wop.fn en204 rfl (indexFuncS h he hp) ?_
  rintro _ w1 ⟨rfl, e1⟩
  refine wk ?_
  refine Arr.ret1 rfl rfl ⟨?_, e1⟩
  congr 1
  have := idxI_any p xs
  by_cases h : xs.any p = true
  · rw [h]; exact decide_eq_true (this.2 h)
  · rw [Bool.not_eq_true] at h
    rw [h]
    exact decide_eq_false (fun h1 => by have := this.1 h1; simp [h] at this)
/-- A predicate: a function with what it has captured. -/
def PredR (f : FuncId) (cap : List Value) (w0 : World) (p : Rule → Bool) : Prop :=
  ∀ w, Ext w0 w → ∀ x v, VR w x v → Calls Tryz.prog f ([v] ++ cap).toArray w (Ret fun v w' => v = .bool (p x) ∧ Ext w w')
theorem PredR.ext {f : FuncId} {cap : List Value} {w0 w1 : World} {p : Rule → Bool} (h : PredR f cap w0 p) (e : Ext w0 w1) : PredR f cap w1 p := fun w hw => h w (e.trans hw)

theorem indexFuncR {xs : List Rule} {f : FuncId} {cap : List Value} {p : Rule → Bool} (h : tRule.Row S w A n xs) (he : Enters Tryz.prog f) (hp : PredR f cap w p) :
    Calls Tryz.prog 203 [.slice A n c, .func (.func f) #[] cap.toArray].toArray w (Ret fun v w' => v = .int .i64 (idxI p xs) ∧ Ext w w') := by
  refine enter Tryz.func203 rfl Tryz.ntmps203 rfl ?_
  refine wk ?_
  refine W.loop (ι := Nat) (fun i => [(0, .slice A n c), (1, .func (.func f) #[] cap.toArray), (7, .int .i64 (n : Int)), (8, .int .i64 (i : Int))])
    (fun i w' => Ext w w' ∧ i ≤ n ∧ ∀ j x, j < i → xs[j]? = some x → p x = false) (fun i => n - i) 0 has ⟨Ext.refl w, Nat.zero_le _, fun j x hj => absurd hj (Nat.not_lt_zero j)⟩ ?_
  rintro i w1 ⟨hE, hi, hp0⟩
  have hl := h.1
  have hm := h.2.1
  refine wk ?_
  refine W.test rfl (fun hlt => ?_) (fun hge => ?_)
  · have hlt : i < n := by omega
    obtain ⟨b, o, rfl, es, hrd, hc⟩ := (h.ext (by decide) hE).at_ i (by omega)
    have key : ∃ v, VR w1 xs[i] v ∧ ∀ {Q N d ty ps af gd x σ K}, Sx.look σ x = some (.pointer (some ⟨b, o + i * 2, none⟩)) → K v w1 → Wop Tryz.prog Q N ⟨d, .load 93 x, ty, ps, af, gd⟩ σ w1 K := VR_load hrd hc
    obtain ⟨v, hv, hk⟩ := key
    clear hc
    refine wk ?_
    refine hk rfl ?_
    refine wk ?_
    refine Wop.fnV he rfl rfl (hp w1 hE _ _ hv) ?_
    rintro _ w2 ⟨rfl, hE2⟩
    refine wk ?_
    refine W.cond rfl (fun hy => ?_) (fun hn => ?_)
    · refine wk ?_
      refine Arr.ret1 rfl rfl ⟨?_, hE.trans hE2⟩
      rw [idxI_some (xs := xs) (i := i) (List.getElem?_eq_getElem (by omega)) hy hp0]
    · refine wk ?_
      refine Arr.again (i + 1) has ⟨hE.trans hE2, hlt, ?_⟩ (by omega)
      intro j x hj hx
      rcases Nat.lt_or_ge j i with h1 | h1
      · exact hp0 j x h1 hx
      · obtain rfl : j = i := by omega
        rw [List.getElem?_eq_getElem (by omega)] at hx
        cases hx
        exact hn
  · refine wk ?_
    refine Arr.ret1 rfl rfl ⟨?_, hE⟩
    rw [idxI_none (fun j y hj => hp0 j y (by have := (List.getElem?_eq_some_iff.1 hj).1; omega) hj)]
theorem containsFuncR {xs : List Rule} {f : FuncId} {cap : List Value} {p : Rule → Bool} (h : tRule.Row S w A n xs) (he : Enters Tryz.prog f) (hp : PredR f cap w p) :
    Calls Tryz.prog 181 [.slice A n c, .func (.func f) #[] cap.toArray].toArray w (Ret fun v w' => v = .bool (xs.any p) ∧ Ext w w') := by
  refine enter Tryz.func181 rfl Tryz.ntmps181 rfl ?_
  refine wk ?_
  refine Wop.fn en203 rfl (indexFuncR h he hp) ?_
  rintro _ w1 ⟨rfl, e1⟩
  refine wk ?_
  refine Arr.ret1 rfl rfl ⟨?_, e1⟩
  congr 1
  have := idxI_any p xs
  by_cases h : xs.any p = true
  · rw [h]; exact decide_eq_true (this.2 h)
  · rw [Bool.not_eq_true] at h
    rw [h]
    exact decide_eq_false (fun h1 => by have := this.1 h1; simp [h] at this)
theorem allCI {f : FuncId} {cap : List Value} {p : Int → Bool} {b : Nat} {u : TypeId} (he : Enters Tryz.prog f) (hp : PredI f cap w p) (hb : Blk w b #[.func (.func f) #[] cap.toArray] u) :
    PredI 214 [.pointer (some ⟨b, 0, none⟩)] w (fun x => !p x) := by
  intro w1 e1 x v hv
  have hb1 := hb.ext e1
  refine enter Tryz.func214 rfl Tryz.ntmps214 rfl ?_
  refine wk ?_
  refine Wop.fnV he rfl rfl (hp _ e1 _ _ hv) ?_
  rintro _ w2 ⟨rfl, e2⟩
  refine wk ?_
  exact Arr.ret1 rfl rfl ⟨rfl, e2⟩
theorem allCS {f : FuncId} {cap : List Value} {p : ByteArray → Bool} {b : Nat} {u : TypeId} (he : Enters Tryz.prog f) (hp : PredS f cap w p) (hb : Blk w b #[.func (.func f) #[] cap.toArray] u) :
    PredS 184 [.pointer (some ⟨b, 0, none⟩)] w (fun x => !p x) := by
  intro w1 e1 x v hv
  have hb1 := hb.ext e1
  refine enter Tryz.func184 rfl Tryz.ntmps184 rfl ?_
  refine wk ?_
  refine Wop.fnV he rfl rfl (hp _ e1 _ _ hv) ?_
  rintro _ w2 ⟨rfl, e2⟩
  refine wk ?_
  exact Arr.ret1 rfl rfl ⟨rfl, e2⟩
theorem allCR {f : FuncId} {cap : List Value} {p : Rule → Bool} {b : Nat} {u : TypeId} (he : Enters Tryz.prog f) (hp : PredR f cap w p) (hb : Blk w b #[.func (.func f) #[] cap.toArray] u) :
    PredR 182 [.pointer (some ⟨b, 0, none⟩)] w (fun x => !p x) := by
  intro w0 e0 x v hv
  have hb0 := hb.ext e0
  obtain ⟨A, c, rfl, h⟩ := hv
  refine enter Tryz.func182 rfl Tryz.ntmps182 rfl ?_
  refine wk ?_; try (refine Wop.box rfl (fun w1 e1 b1 z1 => ?_); refine wk ?_)
  refine Wop.fnV he rfl rfl (hp _ (e0.trans e1) x _ (VR.ext e1 ⟨A, c, rfl, h⟩)) ?_
  rintro _ w2 ⟨rfl, e2⟩
  refine wk ?_
  exact Arr.ret1 rfl rfl ⟨rfl, e1.trans e2⟩
theorem allI {xs : List Int} {f : FuncId} {cap : List Value} {p : Int → Bool} (h : tI.Row S w A n xs) (he : Enters Tryz.prog f) (hp : PredI f cap w p) :
    Calls Tryz.prog 188 [.slice A n c, .func (.func f) #[] cap.toArray].toArray w (Ret fun v w' => v = .bool (xs.all p) ∧ Ext w w') := by
  refine enter Tryz.func188 rfl Tryz.ntmps188 rfl ?_
  refine wk ?_; try (refine Wop.box rfl (fun w1 e1 b1 z1 => ?_); refine wk ?_)
  refine Wop.fn en213 rfl (containsFuncI (h.ext (by decide) e1) en214 (allCI he (hp.ext e1) b1)) ?_
  rintro _ w2 ⟨rfl, e2⟩
  refine wk ?_
  refine Arr.ret1 rfl rfl ⟨?_, e1.trans e2⟩
  rw [List.not_any_eq_all_not]
  simp
theorem allS {xs : List ByteArray} {f : FuncId} {cap : List Value} {p : ByteArray → Bool} (h : tS.Row S w A n xs) (he : Enters Tryz.prog f) (hp : PredS f cap w p) :
    Calls Tryz.prog 133 [.slice A n c, .func (.func f) #[] cap.toArray].toArray w (Ret fun v w' => v = .bool (xs.all p) ∧ Ext w w') := by
  refine enter Tryz.func133 rfl Tryz.ntmps133 rfl ?_
  refine wk ?_; try (refine Wop.box rfl (fun w1 e1 b1 z1 => ?_); refine wk ?_)
  refine Wop.fn en183 rfl (containsFuncS (h.ext (by decide) e1) en184 (allCS he (hp.ext e1) b1)) ?_
  rintro _ w2 ⟨rfl, e2⟩
  refine wk ?_
  refine Arr.ret1 rfl rfl ⟨?_, e1.trans e2⟩
  rw [List.not_any_eq_all_not]
  simp
theorem allR {xs : List Rule} {f : FuncId} {cap : List Value} {p : Rule → Bool} (h : tRule.Row S w A n xs) (he : Enters Tryz.prog f) (hp : PredR f cap w p) :
    Calls Tryz.prog 132 [.slice A n c, .func (.func f) #[] cap.toArray].toArray w (Ret fun v w' => v = .bool (xs.all p) ∧ Ext w w') := by
  refine enter Tryz.func132 rfl Tryz.ntmps132 rfl ?_
  refine wk ?_; try (refine Wop.box rfl (fun w1 e1 b1 z1 => ?_); refine wk ?_)
  refine Wop.fn en181 rfl (containsFuncR (h.ext (by decide) e1) en182 (allCR he (hp.ext e1) b1)) ?_
  rintro _ w2 ⟨rfl, e2⟩
  refine wk ?_
  refine Arr.ret1 rfl rfl ⟨?_, e1.trans e2⟩
  rw [List.not_any_eq_all_not]
  simp
end
end Go.Proofs.YtbadjlhijbkbbaaGreat

/-
  The rules of a left side; a rule by its number.
-/
set_option linter.unusedVariables false
namespace Go.Proofs.YtbadjlhijbkbbaaGreat
open Go Go.RowKit Sx
variable {S : Nat → Prop} {w : World} {g : Gram} {A0 A1 A2 : Option Addr} {c0 c1 c2 : Nat}

theorem gOf (hg : GramAt S w g A0 A1 A2 c0 c1 c2) (s : Int) : Calls Tryz.prog 106 [.agg (gcells g A0 A1 A2 c0 c1 c2).toArray, .int .i64 s].toArray w (Ret fun v w' => OwnI w' w.heap.size v (g.of s) ∧ Ext w w') := by
  have hm := hg.rules.2.1
  refine enter Tryz.func106 rfl Tryz.ntmps106 rfl ?_
  refine wk ?_; try (refine Wop.box rfl (fun w1 e1 b1 z1 => ?_); refine wk ?_)
  have hg1 := hg.ext e1
  refine W.loop (ι := Nat × Value) (fun i => [(1, .int .i64 s), (9, .slice A2 g.rules.length c2), (10, .int .i64 (g.rules.length : Int)), (11, .int .i64 (i.1 : Int)), (5, i.2)])
    (fun i w' => Ext w1 w' ∧ i.1 ≤ g.rules.length ∧ OwnI w' w1.heap.size i.2 (Gram.ofFrom s (g.rules.take i.1) 0)) (fun i => g.rules.length - i.1) (0, .slice none 0 0) has ⟨Ext.refl w1, Nat.zero_le _, Own.nil _ _ _ _⟩ ?_
  rintro ⟨i, v⟩ w' ⟨hE, hi, ho⟩
  simp only at hi ho ⊢
  refine wk ?_
  refine W.test rfl (fun hlt => ?_) (fun hge => ?_)
  · have hlt : i < g.rules.length := by omega
    obtain ⟨b, o, rfl, es, hrd, hc⟩ := (hg1.rules.ext (by decide) hE).at_ i hlt
    obtain ⟨A, c, rfl, hcap, hl64, hrow⟩ := tRule_open hrd
    refine wk ?_
    refine Wop.alloc (z := .agg #[.int .i64 0, .slice none 0 0]) Tryz.zeroValue93 (fun w2 e2 b2 z2 => ?_)
    refine wk ?_
    refine Wop.stB TT rfl rfl rfl (by simp [Value.oneCell']) b2 rfl (fun w3 h3 b3 z3 k3 => ?_)
    have e3 : Ext w' w3 := Below.trans e2 h3
    refine wk ?_
    have hof := ofFrom_length s (g.rules.take i) 0
    rw [List.length_take] at hof
    refine W.test rfl (fun heq => ?_) (fun hne => ?_)
    · refine wk ?_
      refine Wop.litI rfl (fun w4 e4 b4 z4 => ?_)
      refine wk ?_
      refine Wop.appI rfl rfl b4 (ho.ext (e3.trans e4)) (by have := (hE.trans (e3.trans e4)).size; omega) (by omega) (fun v' w5 ho' hb' _ _ => ?_)
      refine wk ?_
      refine Arr.again (i := (i, v)) (i + 1, v') has ⟨hb' _ (hE.trans (e3.trans e4)), hlt, ?_⟩ (by omega)
      rw [of_take g s i hlt, if_pos heq]
      exact ho'
    · refine wk ?_
      refine Arr.again (i := (i, v)) (i + 1, v) has ⟨hE.trans e3, hlt, ?_⟩ (by omega)
      rw [of_take g s i hlt, if_neg hne, List.append_nil]
      exact ho.ext e3
  · refine wk ?_
    have : i = g.rules.length := by omega
    subst this
    rw [List.take_length] at ho
    exact Arr.ret1 rfl rfl ⟨ho.lower (by omega), e1.trans hE⟩
end Go.Proofs.YtbadjlhijbkbbaaGreat

/-
  Lists that are compared and looked through.
-/
set_option linter.unusedVariables false
namespace Go.Proofs.YtbadjlhijbkbbaaGreat
open Go Go.RowKit Sx
variable {S S' : Nat → Prop} {w : World} {A B : Option Addr} {n m c c' : Nat}

theorem eq_of_takes {α : Type} {xs ys : List α} (h : xs.length = ys.length) (hp : ∀ j x, j < xs.length → xs[j]? = some x → ys[j]? = some x) : xs = ys := by
  apply List.ext_getElem h
  intro i h1 h2
  have := hp i xs[i] h1 (List.getElem?_eq_getElem h1)
  rw [List.getElem?_eq_getElem h2] at this
  exact (Option.some.inj this).symm

theorem equalI {xs ys : List Int} (hx : tI.Row S w A n xs) (hy : tI.Row S' w B m ys) : Calls Tryz.prog 191 [.slice A n c, .slice B m c'].toArray w (Ret fun v w' => v = .bool (decide (xs = ys)) ∧ Ext w w') := by
  have hl := hx.1
  have hm := hx.2.1
  have hl' := hy.1
  have hm' := hy.2.1
  refine enter Tryz.func191 rfl Tryz.ntmps191 rfl ?_
  refine wk ?_
  refine W.test rfl (fun hne => ?_) (fun heq => ?_)
  · refine wk ?_
    refine Arr.ret1 rfl rfl ⟨?_, Ext.refl w⟩
    rw [decide_eq_false]
    intro h
    rw [h] at hl
    omega
  · refine wk ?_
    refine W.loop (ι := Nat) (fun i => [(0, .slice A n c), (1, .slice B m c'), (12, .int .i64 (n : Int)), (13, .int .i64 (i : Int))])
      (fun i w' => Ext w w' ∧ i ≤ n ∧ ∀ j x, j < i → xs[j]? = some x → ys[j]? = some x) (fun i => n - i) 0 has ⟨Ext.refl w, Nat.zero_le _, fun j x hj => absurd hj (Nat.not_lt_zero j)⟩ ?_
    rintro i w1 ⟨hE, hi, hp⟩
    refine wk ?_
    refine W.test rfl (fun hlt => ?_) (fun hge => ?_)
    · have hlt : i < n := by omega
      obtain ⟨b, o, rfl, es, ⟨rfl, hs⟩, hc⟩ := hx.at_ i (by omega)
      obtain ⟨b', o', rfl, es', ⟨rfl, hs'⟩, hc'⟩ := hy.at_ i (by omega)
      have h1 := hE.cell (hc 0 _ rfl)
      have h2 := hE.cell (hc' 0 _ rfl)
      refine wk ?_
      refine W.any Ext [.eq _, .eq _, .eq _, .eq _, .eq _, .eq _, .eq _, .eq _, .eq _] [8] mixed rfl Ext.refl Ext.trans Ext.drew ⟨qs, qs, qs, qs, qs, qs, qs, qs, qs, trivial⟩ ?_
      rintro wq eq_ _ ⟨⟩
      refine wk ?_
      refine W.test rfl (fun hd => ?_) (fun hs => ?_)
      · refine wk ?_
        refine Arr.ret1 rfl rfl ⟨?_, hE.trans eq_⟩
        rw [decide_eq_false]
        intro h
        subst h
        exact hd rfl
      · refine wk ?_
        refine Arr.again (i + 1) has ⟨hE.trans eq_, hlt, ?_⟩ (by omega)
        intro j x hj hx'
        rcases Nat.lt_or_ge j i with h1 | h1
        · exact hp j x h1 hx'
        · obtain rfl : j = i := by omega
          rw [List.getElem?_eq_getElem (by omega)] at hx' ⊢
          cases hx'
          exact congrArg some (Decidable.not_not.1 hs).symm
    · refine wk ?_
      refine Arr.ret1 rfl rfl ⟨?_, hE⟩
      rw [decide_eq_true]
      exact eq_of_takes (by omega) (fun j x hj => hp j x (by omega))
theorem r6Ints {xs ys : List Int} (hx : tI.Row S w A n xs) (hy : tI.Row S' w B m ys) : Calls Tryz.prog 78 [.slice A n c, .slice B m c'].toArray w (Ret fun v w' => v = .bool (decide (xs = ys)) ∧ Ext w w') := by
  have hl := hx.1
  have hm := hx.2.1
  have hl' := hy.1
  have hm' := hy.2.1
  refine enter Tryz.func78 rfl Tryz.ntmps78 rfl ?_
  refine wk ?_
  refine W.test rfl (fun hne => ?_) (fun heq => ?_)
  · refine wk ?_
    refine Arr.ret1 rfl rfl ⟨?_, Ext.refl w⟩
    rw [decide_eq_false]
    intro h
    rw [h] at hl
    omega
  · refine wk ?_
    refine W.loop (ι := Nat) (fun i => [(0, .slice A n c), (1, .slice B m c'), (5, .int .i64 (i : Int))])
      (fun i w' => Ext w w' ∧ i ≤ n ∧ ∀ j x, j < i → xs[j]? = some x → ys[j]? = some x) (fun i => n - i) 0 has ⟨Ext.refl w, Nat.zero_le _, fun j x hj => absurd hj (Nat.not_lt_zero j)⟩ ?_
    rintro i w1 ⟨hE, hi, hp⟩
    refine wk ?_
    refine Wl.part rfl rfl rfl (fun hlt => ?_) (fun hge => ?_)
    · have hlt : i < n := by omega
      refine wk ?_
      refine W.test rfl (fun _ => ?_) (fun h => absurd h (by omega))
      obtain ⟨b, o, rfl, es, ⟨rfl, hs⟩, hc⟩ := hx.at_ i (by omega)
      obtain ⟨b', o', rfl, es', ⟨rfl, hs'⟩, hc'⟩ := hy.at_ i (by omega)
      have h1 := hE.cell (hc 0 _ rfl)
      have h2 := hE.cell (hc' 0 _ rfl)
      refine wk ?_
      refine W.any Ext [.eq _, .eq _, .eq _, .eq _, .eq _, .eq _, .eq _, .eq _, .eq _] [8] mixed rfl Ext.refl Ext.trans Ext.drew ⟨qs, qs, qs, qs, qs, qs, qs, qs, qs, trivial⟩ ?_
      rintro wq eq_ _ ⟨⟩
      refine wk ?_
      refine W.test rfl (fun hd => ?_) (fun hs => ?_)
      · refine wk ?_
        refine Arr.ret1 rfl rfl ⟨?_, hE.trans eq_⟩
        rw [decide_eq_false]
        intro h
        subst h
        exact hd rfl
      · refine wk ?_
        refine Arr.again (i + 1) has ⟨hE.trans eq_, hlt, ?_⟩ (by omega)
        intro j x hj hx'
        rcases Nat.lt_or_ge j i with h1 | h1
        · exact hp j x h1 hx'
        · obtain rfl : j = i := by omega
          rw [List.getElem?_eq_getElem (by omega)] at hx' ⊢
          cases hx'
          exact congrArg some (Decidable.not_not.1 hs).symm
    · refine wk ?_
      refine Arr.ret1 rfl rfl ⟨?_, hE⟩
      rw [decide_eq_true]
      exact eq_of_takes (by omega) (fun j x hj => hp j x (by omega))
theorem r3Ints {xs ys : List Int} (hx : tI.Row S w A n xs) (hy : tI.Row S' w B m ys) : Calls Tryz.prog 21 [.slice A n c, .slice B m c'].toArray w (Ret fun v w' => v = .bool (decide (xs = ys)) ∧ Ext w w') := by
  have hl := hx.1
  have hm := hx.2.1
  have hl' := hy.1
  have hm' := hy.2.1
  refine enter Tryz.func21 rfl Tryz.ntmps21 rfl ?_
  refine wk ?_
  refine W.test rfl (fun hne => ?_) (fun heq => ?_)
  · refine wk ?_
    refine Arr.ret1 rfl rfl ⟨?_, Ext.refl w⟩
    rw [decide_eq_false]
    intro h
    rw [h] at hl
    omega
  · refine wk ?_
    refine W.loop (ι := Nat) (fun i => [(0, .slice A n c), (1, .slice B m c'), (5, .int .i64 (i : Int))])
      (fun i w' => Ext w w' ∧ i ≤ n ∧ ∀ j x, j < i → xs[j]? = some x → ys[j]? = some x) (fun i => n - i) 0 has ⟨Ext.refl w, Nat.zero_le _, fun j x hj => absurd hj (Nat.not_lt_zero j)⟩ ?_
    rintro i w1 ⟨hE, hi, hp⟩
    refine wk ?_
    refine Wl.part rfl rfl rfl (fun hlt => ?_) (fun hge => ?_)
    · have hlt : i < n := by omega
      refine wk ?_
      refine W.test rfl (fun _ => ?_) (fun h => absurd h (by omega))
      obtain ⟨b, o, rfl, es, ⟨rfl, hs⟩, hc⟩ := hx.at_ i (by omega)
      obtain ⟨b', o', rfl, es', ⟨rfl, hs'⟩, hc'⟩ := hy.at_ i (by omega)
      have h1 := hE.cell (hc 0 _ rfl)
      have h2 := hE.cell (hc' 0 _ rfl)
      refine wk ?_
      refine W.any Ext [.eq _, .eq _, .eq _, .eq _, .eq _, .eq _, .eq _, .eq _, .eq _] [8] mixed rfl Ext.refl Ext.trans Ext.drew ⟨qs, qs, qs, qs, qs, qs, qs, qs, qs, trivial⟩ ?_
      rintro wq eq_ _ ⟨⟩
      refine wk ?_
      refine W.test rfl (fun hd => ?_) (fun hs => ?_)
      · refine wk ?_
        refine Arr.ret1 rfl rfl ⟨?_, hE.trans eq_⟩
        rw [decide_eq_false]
        intro h
        subst h
        exact hd rfl
      · refine wk ?_
        refine Arr.again (i + 1) has ⟨hE.trans eq_, hlt, ?_⟩ (by omega)
        intro j x hj hx'
        rcases Nat.lt_or_ge j i with h1 | h1
        · exact hp j x h1 hx'
        · obtain rfl : j = i := by omega
          rw [List.getElem?_eq_getElem (by omega)] at hx' ⊢
          cases hx'
          exact congrArg some (Decidable.not_not.1 hs).symm
    · refine wk ?_
      refine Arr.ret1 rfl rfl ⟨?_, hE⟩
      rw [decide_eq_true]
      exact eq_of_takes (by omega) (fun j x hj => hp j x (by omega))
end Go.Proofs.YtbadjlhijbkbbaaGreat

/-
  All names in a row.
-/
set_option linter.unusedVariables false
namespace Go.Proofs.YtbadjlhijbkbbaaGreat
open Go Go.RowKit Sx
variable {S : Nat → Prop} {w : World} {g : Gram} {A0 A1 A2 : Option Addr} {c0 c1 c2 : Nat}

theorem GramAt.strs (hg : GramAt S w g A0 A1 A2 c0 c1 c2) : ∀ x ∈ g.names, x.size ≤ 140737488355328 := by
  intro x hx
  rcases List.mem_append.1 hx with h | h
  · obtain ⟨_, _, h⟩ := hg.terms.all x h
    exact h
  · obtain ⟨_, _, h⟩ := hg.nons.all x h
    exact h
theorem r6names (hg : GramAt S w g A0 A1 A2 c0 c1 c2) (hs : g.names.length ≤ 1099511627776) : Calls Tryz.prog 97 [.agg (gcells g A0 A1 A2 c0 c1 c2).toArray].toArray w (Ret fun v w' => (∃ A c, v = .slice A g.names.length c ∧ g.names.length ≤ c ∧ tS.Row (fun _ => True) w' A g.names.length g.names) ∧ Ext w w') := by
  have h0 := hg.terms.2.1
  have h1 := hg.nons.2.1
  refine enter Tryz.func97 rfl Tryz.ntmps97 rfl ?_
  refine wk ?_; try (refine Wop.box rfl (fun w1 e1 b1 z1 => ?_); refine wk ?_)
  have hg1 := hg.ext e1
  refine W.anyK (Below w1.heap.size) [fun v w => OwnS w w1.heap.size v [], fun v _ => v = _, fun v _ => v = _, fun v w => OwnS w w1.heap.size v g.terms, fun v _ => v = _, fun v _ => v = _, fun v w => OwnS w w1.heap.size v g.names, fun v w => OwnS w w1.heap.size v g.names] [7] mixed rfl (Below.refl _) Below.trans (fun w => (Below.refl _ w).drew) ⟨?_, qk, qk, ?_, qk, qk, ?_, ?_, trivial⟩ ?_
  · intro w2 hG
    refine WopG.plain rfl (Wop.buildSlice0 TT rfl rfl rfl (fun w3 e3 b3 z3 => ⟨Below.mono e3 hG.size, Own.lit0 b3 hG.size, (by repeat (first | exact trivial | refine ⟨fun _ h => h, ?_⟩))⟩))
  · intro w2 hG v3 h3 v5 h5
    cases h5
    refine WopG.plain rfl (Wop.appRowS rfl rfl (hg1.terms.ext (by decide) hG) h3 hG.size (by simp; omega) (fun v' w' ho hb _ _ => ⟨hb _ (Below.refl _ _), ho, (by repeat (first | exact trivial | refine ⟨fun _ h => h, ?_⟩))⟩))
  · intro w2 hG v3 h3 v5 h5
    cases h5
    refine WopG.plain rfl (Wop.appRowS rfl rfl (hg1.nons.ext (by decide) hG) h3 hG.size (by omega) (fun v' w' ho hb _ _ => ⟨hb _ (Below.refl _ _), ho, (by repeat (first | exact trivial | refine ⟨fun _ h => h, ?_⟩))⟩))
  · intro w2 hG v6 h6
    refine WopG.plain rfl (Wop.pure TT rfl ⟨Below.refl _ _, h6, (by repeat (first | exact trivial | refine ⟨fun _ h => h, ?_⟩))⟩)
  · intro w2 hG v h
    refine wk ?_
    refine Arr.ret1 rfl rfl ⟨?_, e1.trans hG⟩
    exact OwnS.row h hs hg.strs (fun _ _ => trivial)

/-! ### a symbol's name -/
theorem gName (hg : GramAt S w g A0 A1 A2 c0 c1 c2) (s : Int) : Calls Tryz.prog 81 [.agg (gcells g A0 A1 A2 c0 c1 c2).toArray, .int .i64 s].toArray w (Ret fun v w' => v = .string (g.name s) ∧ Ext w w') := by
  have h0 := hg.terms.2.1
  have h1 := hg.nons.2.1
  refine enter Tryz.func81 rfl Tryz.ntmps81 rfl ?_
  refine wk ?_; try (refine Wop.box rfl (fun w1 e1 b1 z1 => ?_); refine wk ?_)
  have hg1 := hg.ext e1
  refine W.test rfl (fun hs => ?_) (fun hs => ?_)
  · refine wk ?_
    refine Arr.ret1 rfl rfl ⟨?_, e1⟩
    simp [Gram.name, hs]
    rfl
  refine wk ?_
  refine Wop.fn en120 rfl (gTerm s) ?_
  rintro _ w2 ⟨rfl, e2⟩
  refine wk ?_
  refine W.cond rfl (fun ht => ?_) (fun ht => ?_)
  · simp only [Gram.term, decide_eq_true_eq] at ht
    obtain ⟨b, o, rfl, es, ⟨rfl, hsz⟩, hc⟩ := ((hg1.ext e2).terms).at_ (s - 1).toNat (by omega)
    have hcell := hc 0 _ rfl
    refine wk ?_
    refine Wop.ixI TT (s - 1).toNat rfl rfl rfl rfl rfl (by omega) (by omega) ?_
    refine wk ?_
    refine Arr.ret1 rfl rfl ⟨?_, e1.trans e2⟩
    rw [Gram.name, if_neg hs, if_pos ht, Gram.names]
    rw [List.getElem?_append_left (by omega), List.getElem?_eq_getElem (by omega)]
    rfl
  · refine wk ?_
    refine Wop.fn en105 rfl (gNon (hg1.ext e2) s) ?_
    rintro _ w3 ⟨rfl, e3⟩
    have e13 := e2.trans e3
    refine wk ?_
    simp only [Gram.term, decide_eq_false_iff_not] at ht
    refine W.cond rfl (fun hn => ?_) (fun hn => ?_)
    · simp only [Gram.non, decide_eq_true_eq] at hn
      have hn2 := hn.2
      simp only [Gram.top] at hn2
      obtain ⟨b, o, rfl, es, ⟨rfl, hsz⟩, hc⟩ := ((hg1.ext (e2.trans e3)).nons).at_ (s - 1 - g.terms.length).toNat (by omega)
      have hcell := hc 0 _ rfl
      refine wk ?_
      refine Wop.ixI TT (s - 1 - g.terms.length).toNat rfl rfl rfl rfl rfl (by omega) (by omega) ?_
      refine wk ?_
      refine Arr.ret1 rfl rfl ⟨?_, e1.trans (e2.trans e3)⟩
      rw [Gram.name, if_neg hs, if_neg ht, if_pos hn, Gram.names]
      rw [List.getElem?_append_right (by omega), List.getElem?_eq_getElem (by omega)]
      simp only [Option.getD_some]
      congr 2
      omega
    · refine wk ?_
      refine Arr.ret1 rfl rfl ⟨?_, e1.trans (e2.trans e3)⟩
      simp only [Gram.non, decide_eq_false_iff_not] at hn
      rw [Gram.name, if_neg hs, if_neg ht, if_neg hn]
end Go.Proofs.YtbadjlhijbkbbaaGreat

/-
  Does no name stand twice?
-/
set_option linter.unusedVariables false
namespace Go.Proofs.YtbadjlhijbkbbaaGreat
open Go Go.RowKit Sx
variable {S : Nat → Prop} {w : World} {g : Gram} {A0 A1 A2 : Option Addr} {c0 c1 c2 : Nat}
theorem putM_keys (k : ByteArray) (u : Int) : ∀ m : List (ByteArray × Int), (putM k u m).map Prod.fst = if k ∈ m.map Prod.fst then m.map Prod.fst else m.map Prod.fst ++ [k]
  | [] => by simp [putM]
  | (x, v) :: m => by
    simp only [putM]
    by_cases h : k = x
    · subst h
      simp
    · rw [if_neg h]
      simp only [List.map_cons, putM_keys k u m, List.mem_cons, h, false_or]
      split <;> simp
theorem putM_vals (k : ByteArray) (u : Int) : ∀ (m : List (ByteArray × Int)) (p : ByteArray × Int), p ∈ putM k u m → p = (k, u) ∨ p ∈ m
  | [], p, h => by simp [putM] at h; exact .inl h
  | (x, v) :: m, p, h => by
    simp only [putM] at h
    by_cases hk : k = x
    · rw [if_pos hk] at h
      rcases List.mem_cons.1 h with h | h
      · exact .inl h
      · exact .inr (List.mem_cons_of_mem _ h)
    · rw [if_neg hk] at h
      rcases List.mem_cons.1 h with h | h
      · exact .inr (by rw [h]; exact List.mem_cons_self)
      · rcases putM_vals k u m p h with h | h
        · exact .inl h
        · exact .inr (List.mem_cons_of_mem _ h)
theorem getM_range (k : ByteArray) {n : Int} (hn : 0 ≤ n) : ∀ m : List (ByteArray × Int), (∀ p ∈ m, 0 ≤ p.2 ∧ p.2 ≤ n) → 0 ≤ getM k m ∧ getM k m ≤ n
  | [], _ => ⟨Int.le_refl _, hn⟩
  | (x, v) :: m, h => by
    simp only [getM]
    by_cases hk : k = x
    · rw [if_pos hk]
      exact h (x, v) List.mem_cons_self
    · rw [if_neg hk]
      exact getM_range k hn m (fun p hp => h p (List.mem_cons_of_mem _ hp))
/-- What the map holds behind so many names. -/
structure Met (m : List (ByteArray × Int)) (l : List ByteArray) : Prop where
  keys : ∀ x, x ∈ m.map Prod.fst ↔ x ∈ l
  le : m.length ≤ l.length
  once : m.length = l.length ↔ l.Nodup
  vals : ∀ p ∈ m, 0 ≤ p.2 ∧ p.2 ≤ (l.length : Int)
theorem Met.put {m : List (ByteArray × Int)} {l : List ByteArray} (h : Met m l) (x : ByteArray) : Met (putM x (getM x m + 1) m) (l ++ [x]) := by
  have hk := putM_keys x (getM x m + 1) m
  have hg := getM_range x (by omega : (0 : Int) ≤ l.length) m h.vals
  have hlen : (putM x (getM x m + 1) m).length = if x ∈ m.map Prod.fst then m.length else m.length + 1 := by
    have := congrArg List.length hk
    rw [List.length_map] at this
    rw [this]
    split <;> simp
  have h1 := h.le
  have h2 := h.once
  refine ⟨fun y => ?_, ?_, ?_, fun p hp => ?_⟩
  · rw [hk]
    by_cases hx : x ∈ m.map Prod.fst
    · rw [if_pos hx, h.keys y, List.mem_append, List.mem_singleton]
      exact ⟨.inl, fun hy => hy.elim id (fun e => by rw [e]; exact (h.keys x).1 hx)⟩
    · rw [if_neg hx, List.mem_append, List.mem_append, h.keys y]
  · rw [hlen, List.length_append, List.length_singleton]
    split <;> omega
  · rw [hlen, List.length_append, List.length_singleton, List.nodup_append]
    by_cases hx : x ∈ m.map Prod.fst
    · rw [if_pos hx]
      constructor
      · intro; omega
      · rintro ⟨_, _, h3⟩
        exact absurd rfl (h3 x ((h.keys x).1 hx) x (List.mem_singleton.2 rfl))
    · rw [if_neg hx]
      constructor
      · intro h3
        refine ⟨h2.1 (by omega), by simp, fun a ha b hb => ?_⟩
        rw [List.mem_singleton.1 hb]
        rintro rfl
        exact hx ((h.keys a).2 ha)
      · rintro ⟨h3, _, _⟩
        have := h2.2 h3
        omega
  · rw [List.length_append, List.length_singleton]
    rcases putM_vals _ _ _ _ hp with rfl | hp
    · simp only
      omega
    · have := h.vals p hp
      omega
theorem gOnce (hg : GramAt S w g A0 A1 A2 c0 c1 c2) (hs : g.names.length ≤ 1099511627776) : Calls Tryz.prog 137 [.agg (gcells g A0 A1 A2 c0 c1 c2).toArray].toArray w (Ret fun v w' => v = .bool (decide g.names.Nodup) ∧ Ext w w') := by
  have h0 := hg.terms.2.1
  have h1 := hg.nons.2.1
  have hlen : g.names.length = g.terms.length + g.nons.length := List.length_append
  refine enter Tryz.func137 rfl Tryz.ntmps137 rfl ?_
  refine wk ?_; try (refine Wop.box rfl (fun w1 e1 b1 z1 => ?_); refine wk ?_)
  refine Wop.mkMap (fun w2 e2 hm2 z2 => ?_)
  have e12 := e1.trans e2
  have hg2 := hg.ext e12
  refine wk ?_
  refine Wop.buildSlice (cs := #[.slice A0 g.terms.length c0, .slice A1 g.nons.length c1]) (z := .slice none 0 0) TT rfl rfl rfl Tryz.zeroValue22 rfl rfl ?_ rfl (fun w3 e3 b3 z3 => ?_)
  · rfl
  refine wk ?_
  refine Wop.fn en187 rfl (concatS (hg2.ext e3).terms (hg2.ext e3).nons b3) ?_
  rintro v w4 ⟨ho, e4⟩
  change OwnS w4 w3.heap.size v g.names at ho
  obtain ⟨A, c, rfl, hcap, hrow⟩ := OwnS.row (S := fun k => k ≠ w1.heap.size) ho hs hg.strs (fun k hk => by have := (World.ownsRow.lt ho k hk).1; have := e3.size; omega)
  have e24 := e3.trans e4
  have e14 := e2.trans e24
  have hm4 := hm2.ext e24
  have hb4 := b1.ext e14
  have hlt1 : w.heap.size < w1.heap.size := b1.lt
  refine wk ?_
  refine W.loop (ι := Nat) (fun i => [(1, .pointer (some ⟨w.heap.size, 0, none⟩)), (3, .map (some w1.heap.size)), (12, .slice A g.names.length c), (13, .int .i64 (g.names.length : Int)), (14, .int .i64 (i : Int))])
    (fun i w' => Below w1.heap.size w4 w' ∧ i ≤ g.names.length ∧ (∀ j, j ≠ w1.heap.size → w'.heap[j]? = w4.heap[j]?) ∧ w'.heap.size = w4.heap.size ∧ ∃ m, MapAt w' w1.heap.size m ∧ Met m (g.names.take i)) (fun i => g.names.length - i) 0 has ⟨Below.refl _ _, Nat.zero_le _, fun _ _ => rfl, rfl, [], hm4, ?_⟩ ?_
  · exact ⟨fun x => by simp, by simp, by simp, fun p hp => by simp at hp⟩
  rintro i w' ⟨hB, hi, hsame, hz, m, hm, hmet⟩
  have hbox : Blk w' w.heap.size _ _ := (hsame _ (by omega)).trans hb4
  refine wk ?_
  refine W.test rfl (fun hlt => ?_) (fun hge => ?_)
  · have hlt : i < g.names.length := by omega
    obtain ⟨b, o, rfl, es, ⟨rfl, hsz⟩, hc⟩ := (hrow.move hsame).at_ i hlt
    have hcell := hc 0 _ rfl
    refine wk ?_
    refine Wop.getMap Tryz.underlying147 Tryz.underlying9 Tryz.zeroValue3 rfl rfl hm ?_
    have hr := getM_range g.names[i] (by omega : (0 : Int) ≤ (g.names.take i).length) m hmet.vals
    rw [List.length_take] at hr
    refine wk ?_
    refine Wop.putMap Tryz.underlying147 Tryz.underlying9 rfl rfl rfl hm (fun w5 hB5 hm5 hz5 hs5 => ?_)
    refine wk ?_
    refine Arr.again (i + 1) has ⟨Below.trans hB hB5, hlt, fun j hj => (hs5 j hj).trans (hsame j hj), hz5.trans hz, _, hm5, ?_⟩ (by omega)
    rw [List.take_succ_eq_append_getElem hlt]
    exact hmet.put _
  · have : i = g.names.length := by omega
    subst this
    rw [List.take_length] at hmet
    refine wk ?_
    refine Wop.lenMap rfl rfl Tryz.underlying147 hm ?_
    refine wk ?_
    have eB : Ext w w' := Below.trans (e1.trans e14) (Below.mono hB (by omega))
    have hg' : GramAt S w' g A0 A1 A2 c0 c1 c2 := hg.ext eB
    refine Wop.fn en116 rfl (gTop hg') ?_
    rintro _ w5 ⟨rfl, e5⟩
    refine wk ?_
    refine Arr.ret1 rfl rfl ⟨congrArg Value.bool ?_, eB.trans e5⟩
    refine decide_eq_decide.2 ?_
    rw [← hmet.once]
    show _ = ((g.terms.length : Int) + g.nons.length) ↔ _
    omega
end Go.Proofs.YtbadjlhijbkbbaaGreat

/-
  A rule by its number; names and their symbols; rules compared.
-/
set_option linter.unusedVariables false
namespace Go.Proofs.YtbadjlhijbkbbaaGreat
open Go Go.RowKit Sx
variable {S S' : Nat → Prop} {w : World} {g : Gram} {A0 A1 A2 : Option Addr} {c0 c1 c2 : Nat}

theorem gRule (hg : GramAt S w g A0 A1 A2 c0 c1 c2) (i : Int) : Calls Tryz.prog 152 [.agg (gcells g A0 A1 A2 c0 c1 c2).toArray, .int .i64 i].toArray w (Ret fun v w' => (∃ u, v = .tuple #[u, .bool (g.rule i).1] ∧ VR w' (g.rule i).2 u) ∧ Ext w w') := by
  have h0 := hg.rules.2.1
  refine enter Tryz.func152 rfl Tryz.ntmps152 rfl ?_
  refine wk ?_; try (refine Wop.box rfl (fun w1 e1 b1 z1 => ?_); refine wk ?_)
  refine Wop.alloc (z := .agg #[.int .i64 0, .slice none 0 0]) Tryz.zeroValue93 (fun w2 e2 b2 z2 => ?_)
  refine wk ?_
  refine Wl.part rfl rfl rfl (fun h => ?_) (fun h => ?_)
  · refine wk ?_
    refine Wop.make pl93 rfl rfl ?_
    refine wk ?_
    refine Wop.stB TT rfl rfl rfl (by simp [Value.oneCell']) b2 rfl (fun w3 h3 b3 z3 k3 => ?_)
    refine wk ?_
    refine Arr.retCT TT rfl rfl b3 rfl rfl rfl ?_
    simp only [Gram.rule, if_pos (Or.inl h : i < 0 ∨ i > g.rules.length)]
    exact ⟨⟨_, rfl, none, 0, rfl, Nat.le_refl _, ⟨by decide, by decide⟩, Ty.Row.nil_ _ _ _ _⟩, e1.trans (Below.trans e2 h3)⟩
  refine wk ?_
  refine W.test rfl (fun h' => ?_) (fun h' => ?_)
  · refine wk ?_
    refine Wop.make pl93 rfl rfl ?_
    refine wk ?_
    refine Wop.stB TT rfl rfl rfl (by simp [Value.oneCell']) b2 rfl (fun w3 h3 b3 z3 k3 => ?_)
    refine wk ?_
    refine Arr.retCT TT rfl rfl b3 rfl rfl rfl ?_
    simp only [Gram.rule, if_pos (Or.inr h' : i < 0 ∨ i > g.rules.length)]
    exact ⟨⟨_, rfl, none, 0, rfl, Nat.le_refl _, ⟨by decide, by decide⟩, Ty.Row.nil_ _ _ _ _⟩, e1.trans (Below.trans e2 h3)⟩
  refine wk ?_
  refine W.test rfl (fun hq => ?_) (fun hq => ?_)
  · refine wk ?_
    refine Wop.litI rfl (fun w3 e3 b3 z3 => ?_)
    refine wk ?_
    refine Wop.make (cs := #[.int .i64 0, .slice (some ⟨w2.heap.size, 0, none⟩) 1 1]) pl93 rfl rfl ?_
    refine wk ?_
    refine Wop.stB TT rfl rfl rfl (by simp [Value.oneCell']) (b2.ext e3) rfl (fun w4 h4 b4 z4 k4 => ?_)
    refine wk ?_
    refine Arr.retCT TT rfl rfl b4 rfl rfl rfl ?_
    simp only [Gram.rule, if_neg (by omega : ¬ (i < 0 ∨ i > g.rules.length)), if_pos hq]
    have b3' : Blk w4 w2.heap.size #[.int .i64 g.start] 3 := by
      have hlt := b2.lt
      unfold Blk at b3 ⊢
      rw [k4 _ (by omega)]
      exact b3
    exact ⟨⟨_, rfl, some ⟨w2.heap.size, 0, none⟩, 1, rfl, Nat.le_refl _, ⟨by show (-9223372036854775808 : Int) ≤ 0; decide, by show (0 : Int) ≤ 9223372036854775807; decide⟩, Blk.rowI b3' hg.start⟩, e1.trans (Below.trans (Ext.trans e2 e3) h4)⟩
  · have hlt : i.toNat < g.rules.length := by omega
    obtain ⟨b, o, rfl, es, hrd, hc⟩ := hg.rules.at_ i.toNat hlt
    obtain ⟨A, c, rfl, hcap, hl64, hrow⟩ := tRule_open hrd
    refine wk ?_
    refine Wop.ixI TT i.toNat rfl rfl rfl rfl rfl (by omega) hlt ?_
    refine wk ?_
    refine Wop.ldR TT rfl rfl rfl (fun k v h => (e1.trans e2).cell (hc k v h)) ?_
    refine wk ?_
    refine Wop.stB TT rfl rfl rfl (by simp [Value.oneCell']) b2 rfl (fun w3 h3 b3 z3 k3 => ?_)
    refine wk ?_
    refine Arr.retCT TT rfl rfl b3 rfl rfl rfl ?_
    simp only [Gram.rule, if_neg (by omega : ¬ (i < 0 ∨ i > g.rules.length)), if_neg hq, List.getElem?_eq_getElem hlt, Option.getD_some]
    exact ⟨⟨_, rfl, A, c, rfl, hcap, hl64, (hrow.ext (by decide) (e1.trans (Below.trans e2 h3))).mono (fun _ _ => trivial)⟩, e1.trans (Below.trans e2 h3)⟩
theorem rRule (hg : GramAt S w g A0 A1 A2 c0 c1 c2) (i : Int) : Calls Tryz.prog 108 [.agg (gcells g A0 A1 A2 c0 c1 c2).toArray, .int .i64 i].toArray w (Ret fun v w' => (∃ u, v = .tuple #[u, .bool (g.rule i).1] ∧ VR w' (g.rule i).2 u) ∧ Ext w w') := by
  have h0 := hg.rules.2.1
  refine enter Tryz.func108 rfl Tryz.ntmps108 rfl ?_
  refine wk ?_; try (refine Wop.box rfl (fun w1 e1 b1 z1 => ?_); refine wk ?_)
  refine Wop.alloc (z := .agg #[.int .i64 0, .slice none 0 0]) Tryz.zeroValue93 (fun w2 e2 b2 z2 => ?_)
  refine wk ?_
  refine Wl.part rfl rfl rfl (fun h => ?_) (fun h => ?_)
  · refine wk ?_
    refine Wop.make pl93 rfl rfl ?_
    refine wk ?_
    refine Wop.stB TT rfl rfl rfl (by simp [Value.oneCell']) b2 rfl (fun w3 h3 b3 z3 k3 => ?_)
    refine wk ?_
    refine Arr.retCT TT rfl rfl b3 rfl rfl rfl ?_
    simp only [Gram.rule, if_pos (Or.inl h : i < 0 ∨ i > g.rules.length)]
    exact ⟨⟨_, rfl, none, 0, rfl, Nat.le_refl _, ⟨by decide, by decide⟩, Ty.Row.nil_ _ _ _ _⟩, e1.trans (Below.trans e2 h3)⟩
  refine wk ?_
  refine W.test rfl (fun h' => ?_) (fun h' => ?_)
  · refine wk ?_
    refine Wop.make pl93 rfl rfl ?_
    refine wk ?_
    refine Wop.stB TT rfl rfl rfl (by simp [Value.oneCell']) b2 rfl (fun w3 h3 b3 z3 k3 => ?_)
    refine wk ?_
    refine Arr.retCT TT rfl rfl b3 rfl rfl rfl ?_
    simp only [Gram.rule, if_pos (Or.inr h' : i < 0 ∨ i > g.rules.length)]
    exact ⟨⟨_, rfl, none, 0, rfl, Nat.le_refl _, ⟨by decide, by decide⟩, Ty.Row.nil_ _ _ _ _⟩, e1.trans (Below.trans e2 h3)⟩
  refine wk ?_
  refine W.test rfl (fun hq => ?_) (fun hq => ?_)
  · refine wk ?_
    refine Wop.litI rfl (fun w3 e3 b3 z3 => ?_)
    refine wk ?_
    refine Wop.make (cs := #[.int .i64 0, .slice (some ⟨w2.heap.size, 0, none⟩) 1 1]) pl93 rfl rfl ?_
    refine wk ?_
    refine Wop.stB TT rfl rfl rfl (by simp [Value.oneCell']) (b2.ext e3) rfl (fun w4 h4 b4 z4 k4 => ?_)
    refine wk ?_
    refine Arr.retCT TT rfl rfl b4 rfl rfl rfl ?_
    simp only [Gram.rule, if_neg (by omega : ¬ (i < 0 ∨ i > g.rules.length)), if_pos hq]
    have b3' : Blk w4 w2.heap.size #[.int .i64 g.start] 3 := by
      have hlt := b2.lt
      unfold Blk at b3 ⊢
      rw [k4 _ (by omega)]
      exact b3
    exact ⟨⟨_, rfl, some ⟨w2.heap.size, 0, none⟩, 1, rfl, Nat.le_refl _, ⟨by show (-9223372036854775808 : Int) ≤ 0; decide, by show (0 : Int) ≤ 9223372036854775807; decide⟩, Blk.rowI b3' hg.start⟩, e1.trans (Below.trans (Ext.trans e2 e3) h4)⟩
  · have hlt : i.toNat < g.rules.length := by omega
    obtain ⟨b, o, rfl, es, hrd, hc⟩ := hg.rules.at_ i.toNat hlt
    obtain ⟨A, c, rfl, hcap, hl64, hrow⟩ := tRule_open hrd
    refine wk ?_
    refine Wop.ixI TT i.toNat rfl rfl rfl rfl rfl (by omega) hlt ?_
    refine wk ?_
    refine Wop.ldR TT rfl rfl rfl (fun k v h => (e1.trans e2).cell (hc k v h)) ?_
    refine wk ?_
    refine Wop.stB TT rfl rfl rfl (by simp [Value.oneCell']) b2 rfl (fun w3 h3 b3 z3 k3 => ?_)
    refine wk ?_
    refine Arr.retCT TT rfl rfl b3 rfl rfl rfl ?_
    simp only [Gram.rule, if_neg (by omega : ¬ (i < 0 ∨ i > g.rules.length)), if_neg hq, List.getElem?_eq_getElem hlt, Option.getD_some]
    exact ⟨⟨_, rfl, A, c, rfl, hcap, hl64, (hrow.ext (by decide) (e1.trans (Below.trans e2 h3))).mono (fun _ _ => trivial)⟩, e1.trans (Below.trans e2 h3)⟩
end Go.Proofs.YtbadjlhijbkbbaaGreat

/-
  Grammars compared; names and their symbols, by the reference too.
-/
set_option linter.unusedVariables false
namespace Go.Proofs.YtbadjlhijbkbbaaGreat
open Go Go.RowKit Sx
variable {S S' : Nat → Prop} {w : World} {g : Gram} {A0 A1 A2 : Option Addr} {c0 c1 c2 : Nat}

theorem gSameRule {x y : Rule} {u v : Value} (hx : VR w x u) (hy : VR w y v) : Calls Tryz.prog 141 [u, v].toArray w (Ret fun v w' => v = .bool (decide (x = y)) ∧ Ext w w') := by
  obtain ⟨A, c, rfl, hc, hl, hr⟩ := hx
  obtain ⟨A', c', rfl, hc', hl', hr'⟩ := hy
  obtain ⟨l, r⟩ := x
  obtain ⟨l', r'⟩ := y
  refine enter Tryz.func141 rfl Tryz.ntmps141 rfl ?_
  refine wk ?_
  refine Wop.box rfl (fun w1 e1 b1 z1 => ?_)
  refine wk ?_
  refine Wop.box rfl (fun w2 e2 b2 z2 => ?_)
  have e12 := e1.trans e2
  refine wk ?_
  refine Wl.part rfl rfl rfl (fun h => ?_) (fun h => ?_)
  · refine wk ?_
    refine Wop.fn en191 rfl (equalI (hr.ext (by decide) e12) (hr'.ext (by decide) e12)) ?_
    rintro _ w3 ⟨rfl, e3⟩
    refine wk ?_
    refine Arr.ret1 rfl rfl ⟨?_, e12.trans e3⟩
    simp only at h
    simp [h]
  · refine wk ?_
    refine Arr.ret1 rfl rfl ⟨?_, e12⟩
    simp only at h
    simp [h]
theorem rSameRule {x y : Rule} {u v : Value} (hx : VR w x u) (hy : VR w y v) : Calls Tryz.prog 151 [u, v].toArray w (Ret fun v w' => v = .bool (decide (x = y)) ∧ Ext w w') := by
  obtain ⟨A, c, rfl, hc, hl, hr⟩ := hx
  obtain ⟨A', c', rfl, hc', hl', hr'⟩ := hy
  obtain ⟨l, r⟩ := x
  obtain ⟨l', r'⟩ := y
  refine enter Tryz.func151 rfl Tryz.ntmps151 rfl ?_
  refine wk ?_
  refine Wop.box rfl (fun w1 e1 b1 z1 => ?_)
  refine wk ?_
  refine Wop.box rfl (fun w2 e2 b2 z2 => ?_)
  have e12 := e1.trans e2
  refine wk ?_
  refine Wl.part rfl rfl rfl (fun h => ?_) (fun h => ?_)
  · refine wk ?_
    refine Wop.fn en78 rfl (r6Ints (hr.ext (by decide) e12) (hr'.ext (by decide) e12)) ?_
    rintro _ w3 ⟨rfl, e3⟩
    refine wk ?_
    refine Arr.ret1 rfl rfl ⟨?_, e12.trans e3⟩
    simp only at h
    simp [h]
  · refine wk ?_
    refine Arr.ret1 rfl rfl ⟨?_, e12⟩
    simp only at h
    simp [h]
/-! ### rows of rules -/
end Go.Proofs.YtbadjlhijbkbbaaGreat
