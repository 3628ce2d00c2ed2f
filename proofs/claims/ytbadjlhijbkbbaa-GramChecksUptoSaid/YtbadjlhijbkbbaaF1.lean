/-
  Functions that ask a function value: the library's, and all, ..
-/
import Derived.Test.YtbadjlhijbkbbaaGram
set_option linter.unusedVariables false
namespace Go.Proofs.Ytbadjlhijbkbbaa
open Go Go.RowKit Sx

def idxI {α : Type} (p : α → Bool) (xs : List α) : Int := match xs.findIdx? p with
  | some i => (i : Int)
  | none => -1
theorem idxI_some {α : Type} {p : α → Bool} {xs : List α} {i : Nat} {x : α} (hx : xs[i]? = some x) (hp : p x = true) (h0 : ∀ j y, j < i → xs[j]? = some y → p y = false) : idxI p xs = i := by
  obtain ⟨hi, hxx⟩ := List.getElem?_eq_some_iff.1 hx
  have : xs.findIdx? p = some i := by
    rw [List.findIdx?_eq_some_iff_getElem]
    refine ⟨hi, by rw [hxx]; exact hp, fun j hj => ?_⟩
    have := h0 j xs[j] hj (List.getElem?_eq_getElem (by omega))
    simp [this]
  rw [idxI, this]
theorem idxI_none {α : Type} {p : α → Bool} {xs : List α} (h0 : ∀ (j : Nat) (y : α), xs[j]? = some y → p y = false) : idxI p xs = -1 := by
  have : xs.findIdx? p = none := by
    rw [List.findIdx?_eq_none_iff]
    intro x hx
    obtain ⟨j, hj⟩ := List.getElem?_of_mem hx
    exact h0 j x hj
  rw [idxI, this]
theorem idxI_bounds {α : Type} (p : α → Bool) (xs : List α) : -1 ≤ idxI p xs ∧ idxI p xs < xs.length := by
  unfold idxI
  split
  · next i h =>
    have := (List.findIdx?_eq_some_iff_getElem.1 h).1
    omega
  · omega
theorem idxI_any {α : Type} (p : α → Bool) (xs : List α) : (0 ≤ idxI p xs) ↔ xs.any p = true := by
  unfold idxI
  split
  · next i h =>
    obtain ⟨hi, hp, _⟩ := List.findIdx?_eq_some_iff_getElem.1 h
    simp only [List.any_eq_true]
    exact ⟨fun _ => ⟨xs[i], List.getElem_mem hi, hp⟩, fun _ => by omega⟩
  · next h =>
    rw [List.findIdx?_eq_none_iff] at h
    simp only [List.any_eq_true]
    constructor
    · intro; omega
    · rintro ⟨x, hx, hp⟩
      simp [h x hx] at hp
/-- How a value is handed on. -/
def VI (_w : World) (x : Int) (v : Value) : Prop := v = .int .i64 x ∧ I64 x
def VS (_w : World) (x : ByteArray) (v : Value) : Prop := v = .string x ∧ x.size ≤ 140737488355328
def VR (w : World) (x : Rule) (v : Value) : Prop := ∃ A c, v = .agg #[.int .i64 x.left, .slice A x.right.length c] ∧ x.right.length ≤ c ∧ I64 x.left ∧ tI.Row (fun _ => True) w A x.right.length x.right
theorem VR.ext {w w' : World} {x : Rule} {v : Value} (e : Ext w w') : VR w x v → VR w' x v := fun ⟨A, c, h1, h2, h3, h4⟩ => ⟨A, c, h1, h2, h3, h4.ext (by decide) e⟩
theorem VI_load {S : Nat → Prop} {w : World} {x : Int} {es : List Value} {b o : Nat} (hrd : tI.rd S w x es) (hc : ∀ k v, es[k]? = some v → w.cell? ⟨b, o + k, none⟩ = some v) : ∃ v, VI w x v ∧ ∀ {Q N d ty ps af gd x σ K}, Sx.look σ x = some (.pointer (some ⟨b, o, none⟩)) → K v w → Wop Try.prog Q N ⟨d, .load 3 x, ty, ps, af, gd⟩ σ w K := by
  obtain ⟨rfl, h⟩ := hrd
  exact ⟨_, ⟨rfl, h.i64⟩, fun hx hk => Wop.ld TT rfl hx (hc 0 _ rfl) hk⟩
theorem VS_load {S : Nat → Prop} {w : World} {x : ByteArray} {es : List Value} {b o : Nat} (hrd : tS.rd S w x es) (hc : ∀ k v, es[k]? = some v → w.cell? ⟨b, o + k, none⟩ = some v) : ∃ v, VS w x v ∧ ∀ {Q N d ty ps af gd x σ K}, Sx.look σ x = some (.pointer (some ⟨b, o, none⟩)) → K v w → Wop Try.prog Q N ⟨d, .load 9 x, ty, ps, af, gd⟩ σ w K := by
  obtain ⟨rfl, h⟩ := hrd
  exact ⟨_, ⟨rfl, h⟩, fun hx hk => Wop.ld TT rfl hx (hc 0 _ rfl) hk⟩
theorem VR_load {S : Nat → Prop} {w : World} {x : Rule} {es : List Value} {b o : Nat} (hrd : tRule.rd S w x es) (hc : ∀ k v, es[k]? = some v → w.cell? ⟨b, o + k, none⟩ = some v) : ∃ v, VR w x v ∧ ∀ {Q N d ty ps af gd x σ K}, Sx.look σ x = some (.pointer (some ⟨b, o, none⟩)) → K v w → Wop Try.prog Q N ⟨d, .load 30 x, ty, ps, af, gd⟩ σ w K := by
  obtain ⟨A, c, rfl, h1, h2, h3⟩ := tRule_open hrd
  exact ⟨_, ⟨A, c, rfl, h1, h2, h3.mono (fun _ _ => trivial)⟩, fun hx hk => Wop.ldR TT rfl rfl hx hc hk⟩

section
variable {S S' : Nat → Prop} {w : World} {A B : Option Addr} {n m c c' : Nat}
/-! ### the first that is equal -/
theorem indexS {xs : List ByteArray} {y : ByteArray} {vy : Value} (hx : tS.Row S w A n xs) (hy : tS.rd S' w y [vy]) : Calls Try.prog 88 [.slice A n c, vy].toArray w (Ret fun v w' => v = .int .i64 (idxI (fun x => decide (x = y)) xs) ∧ Ext w w') := by
  obtain ⟨hvy, _⟩ := hy
  cases hvy
  have hl := hx.1
  have hm := hx.2.1
  refine enter Try.func88 rfl Try.ntmps88 rfl ?_
  refine wk ?_
  refine W.loop (ι := Nat) (fun i => [(0, .slice A n c), (1, .string y), (7, .int .i64 (n : Int)), (8, .int .i64 (i : Int))])
    (fun i w' => Ext w w' ∧ i ≤ n ∧ ∀ j x, j < i → xs[j]? = some x → decide (x = y) = false) (fun i => n - i) 0 has ⟨Ext.refl w, Nat.zero_le _, fun j x hj => absurd hj (Nat.not_lt_zero j)⟩ ?_
  rintro i w1 ⟨hE, hi, hp0⟩
  refine wk ?_
  refine W.test rfl (fun hlt => ?_) (fun hge => ?_)
  · have hlt : i < n := by omega
    obtain ⟨b, o, rfl, es, ⟨rfl, hs⟩, hc⟩ := hx.at_ i (by omega)
    have hcell := hE.cell (hc 0 _ rfl)
    refine wk ?_
    refine W.test rfl (fun hq => ?_) (fun hq => ?_)
    · refine wk ?_
      refine Arr.ret1 rfl rfl ⟨?_, hE⟩
      rw [idxI_some (xs := xs) (i := i) (List.getElem?_eq_getElem (by omega)) (decide_eq_true hq.symm) hp0]
    · refine wk ?_
      refine Arr.again (i + 1) has ⟨hE, hlt, ?_⟩ (by omega)
      intro j x hj hx
      rcases Nat.lt_or_ge j i with h1 | h1
      · exact hp0 j x h1 hx
      · obtain rfl : j = i := by omega
        rw [List.getElem?_eq_getElem (by omega)] at hx
        cases hx
        exact decide_eq_false (fun h => hq h.symm)
  · refine wk ?_
    refine Arr.ret1 rfl rfl ⟨?_, hE⟩
    rw [idxI_none (fun j y hj => hp0 j y (by have := (List.getElem?_eq_some_iff.1 hj).1; omega) hj)]
theorem indexI {xs : List Int} {y : Int} {vy : Value} (hx : tI.Row S w A n xs) (hy : tI.rd S' w y [vy]) : Calls Try.prog 142 [.slice A n c, vy].toArray w (Ret fun v w' => v = .int .i64 (idxI (fun x => decide (x = y)) xs) ∧ Ext w w') := by
  obtain ⟨hvy, _⟩ := hy
  cases hvy
  have hl := hx.1
  have hm := hx.2.1
  refine enter Try.func142 rfl Try.ntmps142 rfl ?_
  refine wk ?_
  refine W.loop (ι := Nat) (fun i => [(0, .slice A n c), (1, .int .i64 y), (7, .int .i64 (n : Int)), (8, .int .i64 (i : Int))])
    (fun i w' => Ext w w' ∧ i ≤ n ∧ ∀ j x, j < i → xs[j]? = some x → decide (x = y) = false) (fun i => n - i) 0 has ⟨Ext.refl w, Nat.zero_le _, fun j x hj => absurd hj (Nat.not_lt_zero j)⟩ ?_
  rintro i w1 ⟨hE, hi, hp0⟩
  refine wk ?_
  refine W.test rfl (fun hlt => ?_) (fun hge => ?_)
  · have hlt : i < n := by omega
    obtain ⟨b, o, rfl, es, ⟨rfl, hs⟩, hc⟩ := hx.at_ i (by omega)
    have hcell := hE.cell (hc 0 _ rfl)
    refine wk ?_
    refine W.test rfl (fun hq => ?_) (fun hq => ?_)
    · refine wk ?_
      refine Arr.ret1 rfl rfl ⟨?_, hE⟩
      rw [idxI_some (xs := xs) (i := i) (List.getElem?_eq_getElem (by omega)) (decide_eq_true hq.symm) hp0]
    · refine wk ?_
      refine Arr.again (i + 1) has ⟨hE, hlt, ?_⟩ (by omega)
      intro j x hj hx
      rcases Nat.lt_or_ge j i with h1 | h1
      · exact hp0 j x h1 hx
      · obtain rfl : j = i := by omega
        rw [List.getElem?_eq_getElem (by omega)] at hx
        cases hx
        exact decide_eq_false (fun h => hq h.symm)
  · refine wk ?_
    refine Arr.ret1 rfl rfl ⟨?_, hE⟩
    rw [idxI_none (fun j y hj => hp0 j y (by have := (List.getElem?_eq_some_iff.1 hj).1; omega) hj)]
theorem r4Place {xs : List ByteArray} {y : ByteArray} (hx : tS.Row S w A n xs) (_hy : y.size ≤ 140737488355328) : Calls Try.prog 89 [.slice A n c, .string y].toArray w (Ret fun v w' => v = .int .i64 (idxI (fun x => decide (x = y)) xs) ∧ Ext w w') := by
  have hl := hx.1
  have hm := hx.2.1
  refine enter Try.func89 rfl Try.ntmps89 rfl ?_
  refine wk ?_
  refine W.loop (ι := Nat) (fun i => [(0, .slice A n c), (1, .string y), (5, .int .i64 (i : Int))])
    (fun i w' => Ext w w' ∧ i ≤ n ∧ ∀ j x, j < i → xs[j]? = some x → decide (x = y) = false) (fun i => n - i) 0 has ⟨Ext.refl w, Nat.zero_le _, fun j x hj => absurd hj (Nat.not_lt_zero j)⟩ ?_
  rintro i w1 ⟨hE, hi, hp0⟩
  refine wk ?_
  refine W.test rfl (fun hlt => ?_) (fun hge => ?_)
  · have hlt : i < n := by omega
    obtain ⟨b, o, rfl, es, ⟨rfl, hs⟩, hc⟩ := hx.at_ i (by omega)
    have hcell := hE.cell (hc 0 _ rfl)
    refine wk ?_
    refine W.test rfl (fun hq => ?_) (fun hq => ?_)
    · refine wk ?_
      refine Arr.ret1 rfl rfl ⟨?_, hE⟩
      rw [idxI_some (xs := xs) (i := i) (List.getElem?_eq_getElem (by omega)) (decide_eq_true hq) hp0]
    · refine wk ?_
      refine Arr.again (i + 1) has ⟨hE, hlt, ?_⟩ (by omega)
      intro j x hj hx
      rcases Nat.lt_or_ge j i with h1 | h1
      · exact hp0 j x h1 hx
      · obtain rfl : j = i := by omega
        rw [List.getElem?_eq_getElem (by omega)] at hx
        cases hx
        exact decide_eq_false hq
  · refine wk ?_
    refine Arr.ret1 rfl rfl ⟨?_, hE⟩
    rw [idxI_none (fun j y hj => hp0 j y (by have := (List.getElem?_eq_some_iff.1 hj).1; omega) hj)]

/-! ### the first one that is so -/
/-- A predicate: a function with what it has captured. -/
def PredI (f : FuncId) (cap : List Value) (w0 : World) (p : Int → Bool) : Prop :=
  ∀ w, Ext w0 w → ∀ x v, VI w x v → Calls Try.prog f ([v] ++ cap).toArray w (Ret fun v w' => v = .bool (p x) ∧ Ext w w')
theorem PredI.ext {f : FuncId} {cap : List Value} {w0 w1 : World} {p : Int → Bool} (h : PredI f cap w0 p) (e : Ext w0 w1) : PredI f cap w1 p := fun w hw => h w (e.trans hw)

theorem indexFuncI {xs : List Int} {f : FuncId} {cap : List Value} {p : Int → Bool} (h : tI.Row S w A n xs) (he : Enters Try.prog f) (hp : PredI f cap w p) :
    Calls Try.prog 177 [.slice A n c, .func (.func f) #[] cap.toArray].toArray w (Ret fun v w' => v = .int .i64 (idxI p xs) ∧ Ext w w') := by
  refine enter Try.func177 rfl Try.ntmps177 rfl ?_
  refine wk ?_
  refine W.loop (ι := Nat) (fun i => [(0, .slice A n c), (1, .func (.func f) #[] cap.toArray), (7, .int .i64 (n : Int)), (8, .int .i64 (i : Int))])
    (fun i w' => Ext w w' ∧ i ≤ n ∧ ∀ j x, j < i → xs[j]? = some x → p x = false) (fun i => n - i) 0 has ⟨Ext.refl w, Nat.zero_le _, fun j x hj => absurd hj (Nat.not_lt_zero j)⟩ ?_
  rintro i w1 ⟨hE, hi, hp0⟩
  have hl := h.1
  have hm := h.2.1
  refine wk ?_
  refine W.test rfl (fun hlt => ?_) (fun hge => ?_)
  · have hlt : i < n := by omega
    obtain ⟨b, o, rfl, es, hrd, hc⟩ := (h.ext (by decide) hE).at_ i (by omega)
    have key : ∃ v, VI w1 xs[i] v ∧ ∀ {Q N d ty ps af gd x σ K}, Sx.look σ x = some (.pointer (some ⟨b, o + i * 1, none⟩)) → K v w1 → Wop Try.prog Q N ⟨d, .load 3 x, ty, ps, af, gd⟩ σ w1 K := VI_load hrd hc
    obtain ⟨v, hv, hk⟩ := key
    clear hc
    refine wk ?_
    refine hk rfl ?_
    refine wk ?_
    refine Wop.fnV he rfl rfl (hp w1 hE _ _ hv) ?_
    rintro _ w2 ⟨rfl, hE2⟩
    refine wk ?_
    refine W.cond rfl (fun hy => ?_) (fun hn => ?_)
    · refine wk ?_
      refine Arr.ret1 rfl rfl ⟨?_, hE.trans hE2⟩
      rw [idxI_some (xs := xs) (i := i) (List.getElem?_eq_getElem (by omega)) hy hp0]
    · refine wk ?_
      refine Arr.again (i + 1) has ⟨hE.trans hE2, hlt, ?_⟩ (by omega)
      intro j x hj hx
      rcases Nat.lt_or_ge j i with h1 | h1
      · exact hp0 j x h1 hx
      · obtain rfl : j = i := by omega
        rw [List.getElem?_eq_getElem (by omega)] at hx
        cases hx
        exact hn
  · refine wk ?_
    refine Arr.ret1 rfl rfl ⟨?_, hE⟩
    rw [idxI_none (fun j y hj => hp0 j y (by have := (List.getElem?_eq_some_iff.1 hj).1; omega) hj)]
theorem containsFuncI {xs : List Int} {f : FuncId} {cap : List Value} {p : Int → Bool} (h : tI.Row S w A n xs) (he : Enters Try.prog f) (hp : PredI f cap w p) :
    Calls Try.prog 164 [.slice A n c, .func (.func f) #[] cap.toArray].toArray w (Ret fun v w' => v = .bool (xs.any p) ∧ Ext w w') := by
  refine enter Try.func164 rfl Try.ntmps164 rfl ?_
  refine wk ?_
  refine Wop.fn en177 rfl (indexFuncI h he hp) ?_
  rintro _ w1 ⟨rfl, e1⟩
  refine wk ?_
  refine Arr.ret1 rfl rfl ⟨?_, e1⟩
  congr 1
  have := idxI_any p xs
  by_cases h : xs.any p = true
  · rw [h]; exact decide_eq_true (this.2 h)
  · rw [Bool.not_eq_true] at h
    rw [h]
    exact decide_eq_false (fun h1 => by have := this.1 h1; simp [h] at this)
/-- A predicate: a function with what it has captured. -/
def PredS (f : FuncId) (cap : List Value) (w0 : World) (p : ByteArray → Bool) : Prop :=
  ∀ w, Ext w0 w → ∀ x v, VS w x v → Calls Try.prog f ([v] ++ cap).toArray w (Ret fun v w' => v = .bool (p x) ∧ Ext w w')
theorem PredS.ext {f : FuncId} {cap : List Value} {w0 w1 : World} {p : ByteArray → Bool} (h : PredS f cap w0 p) (e : Ext w0 w1) : PredS f cap w1 p := fun w hw => h w (e.trans hw)

theorem indexFuncS {xs : List ByteArray} {f : FuncId} {cap : List Value} {p : ByteArray → Bool} (h : tS.Row S w A n xs) (he : Enters Try.prog f) (hp : PredS f cap w p) :
    Calls Try.prog 155 [.slice A n c, .func (.func f) #[] cap.toArray].toArray w (Ret fun v w' => v = .int .i64 (idxI p xs) ∧ Ext w w') := by
  refine enter Try.func155 rfl Try.ntmps155 rfl ?_
  refine wk ?_
  refine W.loop (ι := Nat) (fun i => [(0, .slice A n c), (1, .func (.func f) #[] cap.toArray), (7, .int .i64 (n : Int)), (8, .int .i64 (i : Int))])
    (fun i w' => Ext w w' ∧ i ≤ n ∧ ∀ j x, j < i → xs[j]? = some x → p x = false) (fun i => n - i) 0 has ⟨Ext.refl w, Nat.zero_le _, fun j x hj => absurd hj (Nat.not_lt_zero j)⟩ ?_
  rintro i w1 ⟨hE, hi, hp0⟩
  have hl := h.1
  have hm := h.2.1
  refine wk ?_
  refine W.test rfl (fun hlt => ?_) (fun hge => ?_)
  · have hlt : i < n := by omega
    obtain ⟨b, o, rfl, es, hrd, hc⟩ := (h.ext (by decide) hE).at_ i (by omega)
    have key : ∃ v, VS w1 xs[i] v ∧ ∀ {Q N d ty ps af gd x σ K}, Sx.look σ x = some (.pointer (some ⟨b, o + i * 1, none⟩)) → K v w1 → Wop Try.prog Q N ⟨d, .load 9 x, ty, ps, af, gd⟩ σ w1 K := VS_load hrd hc
    obtain ⟨v, hv, hk⟩ := key
    clear hc
    refine wk ?_
    refine hk rfl ?_
    refine wk ?_
    refine Wop.fnV he rfl rfl (hp w1 hE _ _ hv) ?_
    rintro _ w2 ⟨rfl, hE2⟩
    refine wk ?_
    refine W.cond rfl (fun hy => ?_) (fun hn => ?_)
    · refine wk ?_
      refine Arr.ret1 rfl rfl ⟨?_, hE.trans hE2⟩
      rw [idxI_some (xs := xs) (i := i) (List.getElem?_eq_getElem (by omega)) hy hp0]
    · refine wk ?_
      refine Arr.again (i + 1) has ⟨hE.trans hE2, hlt, ?_⟩ (by omega)
      intro j x hj hx
      rcases Nat.lt_or_ge j i with h1 | h1
      · exact hp0 j x h1 hx
      · obtain rfl : j = i := by omega
        rw [List.getElem?_eq_getElem (by omega)] at hx
        cases hx
        exact hn
  · refine wk ?_
    refine Arr.ret1 rfl rfl ⟨?_, hE⟩
    rw [idxI_none (fun j y hj => hp0 j y (by have := (List.getElem?_eq_some_iff.1 hj).1; omega) hj)]
theorem containsFuncS {xs : List ByteArray} {f : FuncId} {cap : List Value} {p : ByteArray → Bool} (h : tS.Row S w A n xs) (he : Enters Try.prog f) (hp : PredS f cap w p) :
    Calls Try.prog 127 [.slice A n c, .func (.func f) #[] cap.toArray].toArray w (Ret fun v w' => v = .bool (xs.any p) ∧ Ext w w') := by
  refine enter Try.func127 rfl Try.ntmps127 rfl ?_
  refine wk ?_
  refine Wop.fn en155 rfl (indexFuncS h he hp) ?_
  rintro _ w1 ⟨rfl, e1⟩
  refine wk ?_
  refine Arr.ret1 rfl rfl ⟨?_, e1⟩
  congr 1
  have := idxI_any p xs
  by_cases h : xs.any p = true
  · rw [h]; exact decide_eq_true (this.2 h)
  · rw [Bool.not_eq_true] at h
    rw [h]
    exact decide_eq_false (fun h1 => by have := this.1 h1; simp [h] at this)
/-- A predicate: a function with what it has captured. -/
def PredR (f : FuncId) (cap : List Value) (w0 : World) (p : Rule → Bool) : Prop :=
  ∀ w, Ext w0 w → ∀ x v, VR w x v → Calls Try.prog f ([v] ++ cap).toArray w (Ret fun v w' => v = .bool (p x) ∧ Ext w w')
theorem PredR.ext {f : FuncId} {cap : List Value} {w0 w1 : World} {p : Rule → Bool} (h : PredR f cap w0 p) (e : Ext w0 w1) : PredR f cap w1 p := fun w hw => h w (e.trans hw)

theorem indexFuncR {xs : List Rule} {f : FuncId} {cap : List Value} {p : Rule → Bool} (h : tRule.Row S w A n xs) (he : Enters Try.prog f) (hp : PredR f cap w p) :
    Calls Try.prog 90 [.slice A n c, .func (.func f) #[] cap.toArray].toArray w (Ret fun v w' => v = .int .i64 (idxI p xs) ∧ Ext w w') := by
  refine enter Try.func90 rfl Try.ntmps90 rfl ?_
  refine wk ?_
  refine W.loop (ι := Nat) (fun i => [(0, .slice A n c), (1, .func (.func f) #[] cap.toArray), (7, .int .i64 (n : Int)), (8, .int .i64 (i : Int))])
    (fun i w' => Ext w w' ∧ i ≤ n ∧ ∀ j x, j < i → xs[j]? = some x → p x = false) (fun i => n - i) 0 has ⟨Ext.refl w, Nat.zero_le _, fun j x hj => absurd hj (Nat.not_lt_zero j)⟩ ?_
  rintro i w1 ⟨hE, hi, hp0⟩
  have hl := h.1
  have hm := h.2.1
  refine wk ?_
  refine W.test rfl (fun hlt => ?_) (fun hge => ?_)
  · have hlt : i < n := by omega
    obtain ⟨b, o, rfl, es, hrd, hc⟩ := (h.ext (by decide) hE).at_ i (by omega)
    have key : ∃ v, VR w1 xs[i] v ∧ ∀ {Q N d ty ps af gd x σ K}, Sx.look σ x = some (.pointer (some ⟨b, o + i * 2, none⟩)) → K v w1 → Wop Try.prog Q N ⟨d, .load 30 x, ty, ps, af, gd⟩ σ w1 K := VR_load hrd hc
    obtain ⟨v, hv, hk⟩ := key
    clear hc
    refine wk ?_
    refine hk rfl ?_
    refine wk ?_
    refine Wop.fnV he rfl rfl (hp w1 hE _ _ hv) ?_
    rintro _ w2 ⟨rfl, hE2⟩
    refine wk ?_
    refine W.cond rfl (fun hy => ?_) (fun hn => ?_)
    · refine wk ?_
      refine Arr.ret1 rfl rfl ⟨?_, hE.trans hE2⟩
      rw [idxI_some (xs := xs) (i := i) (List.getElem?_eq_getElem (by omega)) hy hp0]
    · refine wk ?_
      refine Arr.again (i + 1) has ⟨hE.trans hE2, hlt, ?_⟩ (by omega)
      intro j x hj hx
      rcases Nat.lt_or_ge j i with h1 | h1
      · exact hp0 j x h1 hx
      · obtain rfl : j = i := by omega
        rw [List.getElem?_eq_getElem (by omega)] at hx
        cases hx
        exact hn
  · refine wk ?_
    refine Arr.ret1 rfl rfl ⟨?_, hE⟩
    rw [idxI_none (fun j y hj => hp0 j y (by have := (List.getElem?_eq_some_iff.1 hj).1; omega) hj)]
theorem containsFuncR {xs : List Rule} {f : FuncId} {cap : List Value} {p : Rule → Bool} (h : tRule.Row S w A n xs) (he : Enters Try.prog f) (hp : PredR f cap w p) :
    Calls Try.prog 125 [.slice A n c, .func (.func f) #[] cap.toArray].toArray w (Ret fun v w' => v = .bool (xs.any p) ∧ Ext w w') := by
  refine enter Try.func125 rfl Try.ntmps125 rfl ?_
  refine wk ?_
  refine Wop.fn en90 rfl (indexFuncR h he hp) ?_
  rintro _ w1 ⟨rfl, e1⟩
  refine wk ?_
  refine Arr.ret1 rfl rfl ⟨?_, e1⟩
  congr 1
  have := idxI_any p xs
  by_cases h : xs.any p = true
  · rw [h]; exact decide_eq_true (this.2 h)
  · rw [Bool.not_eq_true] at h
    rw [h]
    exact decide_eq_false (fun h1 => by have := this.1 h1; simp [h] at this)
theorem allCI {f : FuncId} {cap : List Value} {p : Int → Bool} {b : Nat} {u : TypeId} (he : Enters Try.prog f) (hp : PredI f cap w p) (hb : Blk w b #[.func (.func f) #[] cap.toArray] u) :
    PredI 165 [.pointer (some ⟨b, 0, none⟩)] w (fun x => !p x) := by
  intro w1 e1 x v hv
  have hb1 := hb.ext e1
  refine enter Try.func165 rfl Try.ntmps165 rfl ?_
  refine wk ?_
  refine Wop.fnV he rfl rfl (hp _ e1 _ _ hv) ?_
  rintro _ w2 ⟨rfl, e2⟩
  refine wk ?_
  exact Arr.ret1 rfl rfl ⟨rfl, e2⟩
theorem allCS {f : FuncId} {cap : List Value} {p : ByteArray → Bool} {b : Nat} {u : TypeId} (he : Enters Try.prog f) (hp : PredS f cap w p) (hb : Blk w b #[.func (.func f) #[] cap.toArray] u) :
    PredS 128 [.pointer (some ⟨b, 0, none⟩)] w (fun x => !p x) := by
  intro w1 e1 x v hv
  have hb1 := hb.ext e1
  refine enter Try.func128 rfl Try.ntmps128 rfl ?_
  refine wk ?_
  refine Wop.fnV he rfl rfl (hp _ e1 _ _ hv) ?_
  rintro _ w2 ⟨rfl, e2⟩
  refine wk ?_
  exact Arr.ret1 rfl rfl ⟨rfl, e2⟩
theorem allCR {f : FuncId} {cap : List Value} {p : Rule → Bool} {b : Nat} {u : TypeId} (he : Enters Try.prog f) (hp : PredR f cap w p) (hb : Blk w b #[.func (.func f) #[] cap.toArray] u) :
    PredR 126 [.pointer (some ⟨b, 0, none⟩)] w (fun x => !p x) := by
  intro w0 e0 x v hv
  have hb0 := hb.ext e0
  obtain ⟨A, c, rfl, h⟩ := hv
  refine enter Try.func126 rfl Try.ntmps126 rfl ?_
  refine wk ?_; try (refine Wop.box rfl (fun w1 e1 b1 z1 => ?_); refine wk ?_)
  refine Wop.fnV he rfl rfl (hp _ (e0.trans e1) x _ (VR.ext e1 ⟨A, c, rfl, h⟩)) ?_
  rintro _ w2 ⟨rfl, e2⟩
  refine wk ?_
  exact Arr.ret1 rfl rfl ⟨rfl, e1.trans e2⟩
theorem allI {xs : List Int} {f : FuncId} {cap : List Value} {p : Int → Bool} (h : tI.Row S w A n xs) (he : Enters Try.prog f) (hp : PredI f cap w p) :
    Calls Try.prog 132 [.slice A n c, .func (.func f) #[] cap.toArray].toArray w (Ret fun v w' => v = .bool (xs.all p) ∧ Ext w w') := by
  refine enter Try.func132 rfl Try.ntmps132 rfl ?_
  refine wk ?_; try (refine Wop.box rfl (fun w1 e1 b1 z1 => ?_); refine wk ?_)
  refine Wop.fn en164 rfl (containsFuncI (h.ext (by decide) e1) en165 (allCI he (hp.ext e1) b1)) ?_
  rintro _ w2 ⟨rfl, e2⟩
  refine wk ?_
  refine Arr.ret1 rfl rfl ⟨?_, e1.trans e2⟩
  rw [List.not_any_eq_all_not]
  simp
theorem allS {xs : List ByteArray} {f : FuncId} {cap : List Value} {p : ByteArray → Bool} (h : tS.Row S w A n xs) (he : Enters Try.prog f) (hp : PredS f cap w p) :
    Calls Try.prog 73 [.slice A n c, .func (.func f) #[] cap.toArray].toArray w (Ret fun v w' => v = .bool (xs.all p) ∧ Ext w w') := by
  refine enter Try.func73 rfl Try.ntmps73 rfl ?_
  refine wk ?_; try (refine Wop.box rfl (fun w1 e1 b1 z1 => ?_); refine wk ?_)
  refine Wop.fn en127 rfl (containsFuncS (h.ext (by decide) e1) en128 (allCS he (hp.ext e1) b1)) ?_
  rintro _ w2 ⟨rfl, e2⟩
  refine wk ?_
  refine Arr.ret1 rfl rfl ⟨?_, e1.trans e2⟩
  rw [List.not_any_eq_all_not]
  simp
theorem allR {xs : List Rule} {f : FuncId} {cap : List Value} {p : Rule → Bool} (h : tRule.Row S w A n xs) (he : Enters Try.prog f) (hp : PredR f cap w p) :
    Calls Try.prog 72 [.slice A n c, .func (.func f) #[] cap.toArray].toArray w (Ret fun v w' => v = .bool (xs.all p) ∧ Ext w w') := by
  refine enter Try.func72 rfl Try.ntmps72 rfl ?_
  refine wk ?_; try (refine Wop.box rfl (fun w1 e1 b1 z1 => ?_); refine wk ?_)
  refine Wop.fn en125 rfl (containsFuncR (h.ext (by decide) e1) en126 (allCR he (hp.ext e1) b1)) ?_
  rintro _ w2 ⟨rfl, e2⟩
  refine wk ?_
  refine Arr.ret1 rfl rfl ⟨?_, e1.trans e2⟩
  rw [List.not_any_eq_all_not]
  simp
end
end Go.Proofs.Ytbadjlhijbkbbaa
