/-
  Grammars compared; names and their symbols, by the reference too.
-/
import Derived.Test.YtbadjlhijbkbbaaG2
import Derived.Test.YtbadjlhijbkbbaaG5
set_option linter.unusedVariables false
namespace Go.Proofs.Ytbadjlhijbkbbaa
open Go Go.RowKit Sx
variable {S S' : Nat → Prop} {w : World} {g : Gram} {A0 A1 A2 : Option Addr} {c0 c1 c2 : Nat}

theorem gSameRule {x y : Rule} {u v : Value} (hx : VR w x u) (hy : VR w y v) : Calls Try.prog 81 [u, v].toArray w (Ret fun v w' => v = .bool (decide (x = y)) ∧ Ext w w') := by
  obtain ⟨A, c, rfl, hc, hl, hr⟩ := hx
  obtain ⟨A', c', rfl, hc', hl', hr'⟩ := hy
  obtain ⟨l, r⟩ := x
  obtain ⟨l', r'⟩ := y
  refine enter Try.func81 rfl Try.ntmps81 rfl ?_
  refine wk ?_
  refine Wop.box rfl (fun w1 e1 b1 z1 => ?_)
  refine wk ?_
  refine Wop.box rfl (fun w2 e2 b2 z2 => ?_)
  have e12 := e1.trans e2
  refine wk ?_
  refine Wl.part rfl rfl rfl (fun h => ?_) (fun h => ?_)
  · refine wk ?_
    refine Wop.fn en135 rfl (equalI (hr.ext (by decide) e12) (hr'.ext (by decide) e12)) ?_
    rintro _ w3 ⟨rfl, e3⟩
    refine wk ?_
    refine Arr.ret1 rfl rfl ⟨?_, e12.trans e3⟩
    simp only at h
    simp [h]
  · refine wk ?_
    refine Arr.ret1 rfl rfl ⟨?_, e12⟩
    simp only at h
    simp [h]
theorem rSameRule {x y : Rule} {u v : Value} (hx : VR w x u) (hy : VR w y v) : Calls Try.prog 26 [u, v].toArray w (Ret fun v w' => v = .bool (decide (x = y)) ∧ Ext w w') := by
  obtain ⟨A, c, rfl, hc, hl, hr⟩ := hx
  obtain ⟨A', c', rfl, hc', hl', hr'⟩ := hy
  obtain ⟨l, r⟩ := x
  obtain ⟨l', r'⟩ := y
  refine enter Try.func26 rfl Try.ntmps26 rfl ?_
  refine wk ?_
  refine Wop.box rfl (fun w1 e1 b1 z1 => ?_)
  refine wk ?_
  refine Wop.box rfl (fun w2 e2 b2 z2 => ?_)
  have e12 := e1.trans e2
  refine wk ?_
  refine Wl.part rfl rfl rfl (fun h => ?_) (fun h => ?_)
  · refine wk ?_
    refine Wop.fn en31 rfl (r6Ints (hr.ext (by decide) e12) (hr'.ext (by decide) e12)) ?_
    rintro _ w3 ⟨rfl, e3⟩
    refine wk ?_
    refine Arr.ret1 rfl rfl ⟨?_, e12.trans e3⟩
    simp only at h
    simp [h]
  · refine wk ?_
    refine Arr.ret1 rfl rfl ⟨?_, e12⟩
    simp only at h
    simp [h]
/-! ### rows of rules -/
theorem equalR {A B : Option Addr} {n m c c' : Nat} {xs ys : List Rule} (hx : tRule.Row S w A n xs) (hy : tRule.Row S' w B m ys) :
    Calls Try.prog 94 [.slice A n c, .slice B m c', .func (.func 81) #[] #[]].toArray w (Ret fun v w' => v = .bool (decide (xs = ys)) ∧ Ext w w') := by
  have hl := hx.1
  have hm := hx.2.1
  have hl' := hy.1
  have hm' := hy.2.1
  refine enter Try.func94 rfl Try.ntmps94 rfl ?_
  refine wk ?_
  refine W.test rfl (fun hne => ?_) (fun heq => ?_)
  · refine wk ?_
    refine Arr.ret1 rfl rfl ⟨?_, Ext.refl w⟩
    rw [decide_eq_false]
    intro h
    rw [h] at hl
    omega
  · refine wk ?_
    refine W.loop (ι := Nat) (fun i => [(1, .slice B m c'), (2, .func (.func 81) #[] #[]), (15, .slice A n c), (16, .int .i64 (n : Int)), (17, .int .i64 (i : Int))])
      (fun i w' => Ext w w' ∧ i ≤ n ∧ ∀ j x, j < i → xs[j]? = some x → ys[j]? = some x) (fun i => n - i) 0 has ⟨Ext.refl w, Nat.zero_le _, fun j x hj => absurd hj (Nat.not_lt_zero j)⟩ ?_
    rintro i w1 ⟨hE, hi, hp⟩
    refine wk ?_
    refine W.test rfl (fun hlt => ?_) (fun hge => ?_)
    · have hlt : i < n := by omega
      obtain ⟨b, o, rfl, es, hrd, hc⟩ := hx.at_ i (by omega)
      obtain ⟨P, cp, rfl, h1, h2, h3⟩ := tRule_open hrd
      obtain ⟨b', o', rfl, es', hrd', hc'⟩ := hy.at_ i (by omega)
      obtain ⟨P', cp', rfl, h1', h2', h3'⟩ := tRule_open hrd'
      refine wk ?_
      refine Wop.alloc (z := .agg #[.int .i64 0, .slice none 0 0]) Try.zeroValue30 (fun w2 e2 b2 z2 => ?_)
      refine wk ?_
      refine Wop.stB TT rfl rfl rfl (by simp [Value.oneCell']) b2 rfl (fun w3 g3 b3 z3 k3 => ?_)
      have e3 : Ext w1 w3 := Below.trans e2 g3
      have e3' := hE.trans e3
      refine wk ?_
      refine Wop.alloc (z := .agg #[.int .i64 0, .slice none 0 0]) Try.zeroValue30 (fun w4 e4 b4 z4 => ?_)
      refine wk ?_
      refine Wop.stB TT rfl rfl rfl (by simp [Value.oneCell']) b4 rfl (fun w5 g5 b5 z5 k5 => ?_)
      have e5 : Ext w3 w5 := Below.trans e4 g5
      have e5' := e3'.trans e5
      refine wk ?_
      refine Wop.fnV (cap := []) en81 rfl rfl (gSameRule (x := xs[i]) (y := ys[i]) ⟨P, cp, rfl, h1, h2, (h3.ext (by decide) e5').mono (fun _ _ => trivial)⟩ ⟨P', cp', rfl, h1', h2', (h3'.ext (by decide) e5').mono (fun _ _ => trivial)⟩) ?_
      rintro _ w6 ⟨rfl, e6⟩
      have e6' := e5'.trans e6
      refine wk ?_
      refine W.cond rfl (fun hd => ?_) (fun hs => ?_)
      · refine wk ?_
        refine Arr.ret1 rfl rfl ⟨?_, e6'⟩
        rw [decide_eq_false]
        intro h
        subst h
        simp at hd
      · refine wk ?_
        refine Arr.again (i + 1) has ⟨e6', hlt, ?_⟩ (by omega)
        intro j x hj hx'
        rcases Nat.lt_or_ge j i with h1 | h1
        · exact hp j x h1 hx'
        · obtain rfl : j = i := by omega
          rw [List.getElem?_eq_getElem (by omega)] at hx' ⊢
          cases hx'
          simp at hs
          rw [hs]
    · refine wk ?_
      refine Arr.ret1 rfl rfl ⟨?_, hE⟩
      rw [decide_eq_true]
      exact eq_of_takes (by omega) (fun j x hj => hp j x (by omega))
end Go.Proofs.Ytbadjlhijbkbbaa
