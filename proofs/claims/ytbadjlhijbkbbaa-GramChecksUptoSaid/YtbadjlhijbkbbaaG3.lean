/-
  Lists that are compared and looked through.
-/
import Derived.Test.YtbadjlhijbkbbaaGram
set_option linter.unusedVariables false
namespace Go.Proofs.Ytbadjlhijbkbbaa
open Go Go.RowKit Sx
variable {S S' : Nat → Prop} {w : World} {A B : Option Addr} {n m c c' : Nat}

theorem eq_of_takes {α : Type} {xs ys : List α} (h : xs.length = ys.length) (hp : ∀ j x, j < xs.length → xs[j]? = some x → ys[j]? = some x) : xs = ys := by
  apply List.ext_getElem h
  intro i h1 h2
  have := hp i xs[i] h1 (List.getElem?_eq_getElem h1)
  rw [List.getElem?_eq_getElem h2] at this
  exact (Option.some.inj this).symm

theorem equalI {xs ys : List Int} (hx : tI.Row S w A n xs) (hy : tI.Row S' w B m ys) : Calls Try.prog 135 [.slice A n c, .slice B m c'].toArray w (Ret fun v w' => v = .bool (decide (xs = ys)) ∧ Ext w w') := by
  have hl := hx.1
  have hm := hx.2.1
  have hl' := hy.1
  have hm' := hy.2.1
  refine enter Try.func135 rfl Try.ntmps135 rfl ?_
  refine wk ?_
  refine W.test rfl (fun hne => ?_) (fun heq => ?_)
  · refine wk ?_
    refine Arr.ret1 rfl rfl ⟨?_, Ext.refl w⟩
    rw [decide_eq_false]
    intro h
    rw [h] at hl
    omega
  · refine wk ?_
    refine W.loop (ι := Nat) (fun i => [(0, .slice A n c), (1, .slice B m c'), (12, .int .i64 (n : Int)), (13, .int .i64 (i : Int))])
      (fun i w' => Ext w w' ∧ i ≤ n ∧ ∀ j x, j < i → xs[j]? = some x → ys[j]? = some x) (fun i => n - i) 0 has ⟨Ext.refl w, Nat.zero_le _, fun j x hj => absurd hj (Nat.not_lt_zero j)⟩ ?_
    rintro i w1 ⟨hE, hi, hp⟩
    refine wk ?_
    refine W.test rfl (fun hlt => ?_) (fun hge => ?_)
    · have hlt : i < n := by omega
      obtain ⟨b, o, rfl, es, ⟨rfl, hs⟩, hc⟩ := hx.at_ i (by omega)
      obtain ⟨b', o', rfl, es', ⟨rfl, hs'⟩, hc'⟩ := hy.at_ i (by omega)
      have h1 := hE.cell (hc 0 _ rfl)
      have h2 := hE.cell (hc' 0 _ rfl)
      refine wk ?_
      refine W.any Ext [.eq _, .eq _, .eq _, .eq _, .eq _, .eq _, .eq _, .eq _, .eq _] [8] mixed rfl Ext.refl Ext.trans Ext.drew ⟨qs, qs, qs, qs, qs, qs, qs, qs, qs, trivial⟩ ?_
      rintro wq eq_ _ ⟨⟩
      refine wk ?_
      refine W.test rfl (fun hd => ?_) (fun hs => ?_)
      · refine wk ?_
        refine Arr.ret1 rfl rfl ⟨?_, hE.trans eq_⟩
        rw [decide_eq_false]
        intro h
        subst h
        exact hd rfl
      · refine wk ?_
        refine Arr.again (i + 1) has ⟨hE.trans eq_, hlt, ?_⟩ (by omega)
        intro j x hj hx'
        rcases Nat.lt_or_ge j i with h1 | h1
        · exact hp j x h1 hx'
        · obtain rfl : j = i := by omega
          rw [List.getElem?_eq_getElem (by omega)] at hx' ⊢
          cases hx'
          exact congrArg some (Decidable.not_not.1 hs).symm
    · refine wk ?_
      refine Arr.ret1 rfl rfl ⟨?_, hE⟩
      rw [decide_eq_true]
      exact eq_of_takes (by omega) (fun j x hj => hp j x (by omega))
theorem equalS {xs ys : List ByteArray} (hx : tS.Row S w A n xs) (hy : tS.Row S' w B m ys) : Calls Try.prog 93 [.slice A n c, .slice B m c'].toArray w (Ret fun v w' => v = .bool (decide (xs = ys)) ∧ Ext w w') := by
  have hl := hx.1
  have hm := hx.2.1
  have hl' := hy.1
  have hm' := hy.2.1
  refine enter Try.func93 rfl Try.ntmps93 rfl ?_
  refine wk ?_
  refine W.test rfl (fun hne => ?_) (fun heq => ?_)
  · refine wk ?_
    refine Arr.ret1 rfl rfl ⟨?_, Ext.refl w⟩
    rw [decide_eq_false]
    intro h
    rw [h] at hl
    omega
  · refine wk ?_
    refine W.loop (ι := Nat) (fun i => [(0, .slice A n c), (1, .slice B m c'), (12, .int .i64 (n : Int)), (13, .int .i64 (i : Int))])
      (fun i w' => Ext w w' ∧ i ≤ n ∧ ∀ j x, j < i → xs[j]? = some x → ys[j]? = some x) (fun i => n - i) 0 has ⟨Ext.refl w, Nat.zero_le _, fun j x hj => absurd hj (Nat.not_lt_zero j)⟩ ?_
    rintro i w1 ⟨hE, hi, hp⟩
    refine wk ?_
    refine W.test rfl (fun hlt => ?_) (fun hge => ?_)
    · have hlt : i < n := by omega
      obtain ⟨b, o, rfl, es, ⟨rfl, hs⟩, hc⟩ := hx.at_ i (by omega)
      obtain ⟨b', o', rfl, es', ⟨rfl, hs'⟩, hc'⟩ := hy.at_ i (by omega)
      have h1 := hE.cell (hc 0 _ rfl)
      have h2 := hE.cell (hc' 0 _ rfl)
      refine wk ?_
      refine W.any Ext [.eq _, .eq _, .eq _, .eq _, .eq _, .eq _, .eq _, .eq _, .eq _] [8] mixed rfl Ext.refl Ext.trans Ext.drew ⟨qs, qs, qs, qs, qs, qs, qs, qs, qs, trivial⟩ ?_
      rintro wq eq_ _ ⟨⟩
      refine wk ?_
      refine W.test rfl (fun hd => ?_) (fun hs => ?_)
      · refine wk ?_
        refine Arr.ret1 rfl rfl ⟨?_, hE.trans eq_⟩
        rw [decide_eq_false]
        intro h
        subst h
        exact hd rfl
      · refine wk ?_
        refine Arr.again (i + 1) has ⟨hE.trans eq_, hlt, ?_⟩ (by omega)
        intro j x hj hx'
        rcases Nat.lt_or_ge j i with h1 | h1
        · exact hp j x h1 hx'
        · obtain rfl : j = i := by omega
          rw [List.getElem?_eq_getElem (by omega)] at hx' ⊢
          cases hx'
          exact congrArg some (Decidable.not_not.1 hs).symm
    · refine wk ?_
      refine Arr.ret1 rfl rfl ⟨?_, hE⟩
      rw [decide_eq_true]
      exact eq_of_takes (by omega) (fun j x hj => hp j x (by omega))

theorem r6Ints {xs ys : List Int} (hx : tI.Row S w A n xs) (hy : tI.Row S' w B m ys) : Calls Try.prog 31 [.slice A n c, .slice B m c'].toArray w (Ret fun v w' => v = .bool (decide (xs = ys)) ∧ Ext w w') := by
  have hl := hx.1
  have hm := hx.2.1
  have hl' := hy.1
  have hm' := hy.2.1
  refine enter Try.func31 rfl Try.ntmps31 rfl ?_
  refine wk ?_
  refine W.test rfl (fun hne => ?_) (fun heq => ?_)
  · refine wk ?_
    refine Arr.ret1 rfl rfl ⟨?_, Ext.refl w⟩
    rw [decide_eq_false]
    intro h
    rw [h] at hl
    omega
  · refine wk ?_
    refine W.loop (ι := Nat) (fun i => [(0, .slice A n c), (1, .slice B m c'), (5, .int .i64 (i : Int))])
      (fun i w' => Ext w w' ∧ i ≤ n ∧ ∀ j x, j < i → xs[j]? = some x → ys[j]? = some x) (fun i => n - i) 0 has ⟨Ext.refl w, Nat.zero_le _, fun j x hj => absurd hj (Nat.not_lt_zero j)⟩ ?_
    rintro i w1 ⟨hE, hi, hp⟩
    refine wk ?_
    refine Wl.part rfl rfl rfl (fun hlt => ?_) (fun hge => ?_)
    · have hlt : i < n := by omega
      refine wk ?_
      refine W.test rfl (fun _ => ?_) (fun h => absurd h (by omega))
      obtain ⟨b, o, rfl, es, ⟨rfl, hs⟩, hc⟩ := hx.at_ i (by omega)
      obtain ⟨b', o', rfl, es', ⟨rfl, hs'⟩, hc'⟩ := hy.at_ i (by omega)
      have h1 := hE.cell (hc 0 _ rfl)
      have h2 := hE.cell (hc' 0 _ rfl)
      refine wk ?_
      refine W.any Ext [.eq _, .eq _, .eq _, .eq _, .eq _, .eq _, .eq _, .eq _, .eq _] [8] mixed rfl Ext.refl Ext.trans Ext.drew ⟨qs, qs, qs, qs, qs, qs, qs, qs, qs, trivial⟩ ?_
      rintro wq eq_ _ ⟨⟩
      refine wk ?_
      refine W.test rfl (fun hd => ?_) (fun hs => ?_)
      · refine wk ?_
        refine Arr.ret1 rfl rfl ⟨?_, hE.trans eq_⟩
        rw [decide_eq_false]
        intro h
        subst h
        exact hd rfl
      · refine wk ?_
        refine Arr.again (i + 1) has ⟨hE.trans eq_, hlt, ?_⟩ (by omega)
        intro j x hj hx'
        rcases Nat.lt_or_ge j i with h1 | h1
        · exact hp j x h1 hx'
        · obtain rfl : j = i := by omega
          rw [List.getElem?_eq_getElem (by omega)] at hx' ⊢
          cases hx'
          exact congrArg some (Decidable.not_not.1 hs).symm
    · refine wk ?_
      refine Arr.ret1 rfl rfl ⟨?_, hE⟩
      rw [decide_eq_true]
      exact eq_of_takes (by omega) (fun j x hj => hp j x (by omega))
theorem r3Ints {xs ys : List Int} (hx : tI.Row S w A n xs) (hy : tI.Row S' w B m ys) : Calls Try.prog 45 [.slice A n c, .slice B m c'].toArray w (Ret fun v w' => v = .bool (decide (xs = ys)) ∧ Ext w w') := by
  have hl := hx.1
  have hm := hx.2.1
  have hl' := hy.1
  have hm' := hy.2.1
  refine enter Try.func45 rfl Try.ntmps45 rfl ?_
  refine wk ?_
  refine W.test rfl (fun hne => ?_) (fun heq => ?_)
  · refine wk ?_
    refine Arr.ret1 rfl rfl ⟨?_, Ext.refl w⟩
    rw [decide_eq_false]
    intro h
    rw [h] at hl
    omega
  · refine wk ?_
    refine W.loop (ι := Nat) (fun i => [(0, .slice A n c), (1, .slice B m c'), (5, .int .i64 (i : Int))])
      (fun i w' => Ext w w' ∧ i ≤ n ∧ ∀ j x, j < i → xs[j]? = some x → ys[j]? = some x) (fun i => n - i) 0 has ⟨Ext.refl w, Nat.zero_le _, fun j x hj => absurd hj (Nat.not_lt_zero j)⟩ ?_
    rintro i w1 ⟨hE, hi, hp⟩
    refine wk ?_
    refine Wl.part rfl rfl rfl (fun hlt => ?_) (fun hge => ?_)
    · have hlt : i < n := by omega
      refine wk ?_
      refine W.test rfl (fun _ => ?_) (fun h => absurd h (by omega))
      obtain ⟨b, o, rfl, es, ⟨rfl, hs⟩, hc⟩ := hx.at_ i (by omega)
      obtain ⟨b', o', rfl, es', ⟨rfl, hs'⟩, hc'⟩ := hy.at_ i (by omega)
      have h1 := hE.cell (hc 0 _ rfl)
      have h2 := hE.cell (hc' 0 _ rfl)
      refine wk ?_
      refine W.any Ext [.eq _, .eq _, .eq _, .eq _, .eq _, .eq _, .eq _, .eq _, .eq _] [8] mixed rfl Ext.refl Ext.trans Ext.drew ⟨qs, qs, qs, qs, qs, qs, qs, qs, qs, trivial⟩ ?_
      rintro wq eq_ _ ⟨⟩
      refine wk ?_
      refine W.test rfl (fun hd => ?_) (fun hs => ?_)
      · refine wk ?_
        refine Arr.ret1 rfl rfl ⟨?_, hE.trans eq_⟩
        rw [decide_eq_false]
        intro h
        subst h
        exact hd rfl
      · refine wk ?_
        refine Arr.again (i + 1) has ⟨hE.trans eq_, hlt, ?_⟩ (by omega)
        intro j x hj hx'
        rcases Nat.lt_or_ge j i with h1 | h1
        · exact hp j x h1 hx'
        · obtain rfl : j = i := by omega
          rw [List.getElem?_eq_getElem (by omega)] at hx' ⊢
          cases hx'
          exact congrArg some (Decidable.not_not.1 hs).symm
    · refine wk ?_
      refine Arr.ret1 rfl rfl ⟨?_, hE⟩
      rw [decide_eq_true]
      exact eq_of_takes (by omega) (fun j x hj => hp j x (by omega))
theorem r4Same {xs ys : List ByteArray} (hx : tS.Row S w A n xs) (hy : tS.Row S' w B m ys) : Calls Try.prog 95 [.slice A n c, .slice B m c'].toArray w (Ret fun v w' => v = .bool (decide (xs = ys)) ∧ Ext w w') := by
  have hl := hx.1
  have hm := hx.2.1
  have hl' := hy.1
  have hm' := hy.2.1
  refine enter Try.func95 rfl Try.ntmps95 rfl ?_
  refine wk ?_
  refine W.test rfl (fun hne => ?_) (fun heq => ?_)
  · refine wk ?_
    refine Arr.ret1 rfl rfl ⟨?_, Ext.refl w⟩
    rw [decide_eq_false]
    intro h
    rw [h] at hl
    omega
  · refine wk ?_
    refine W.loop (ι := Nat) (fun i => [(0, .slice A n c), (1, .slice B m c'), (5, .int .i64 (i : Int))])
      (fun i w' => Ext w w' ∧ i ≤ n ∧ ∀ j x, j < i → xs[j]? = some x → ys[j]? = some x) (fun i => n - i) 0 has ⟨Ext.refl w, Nat.zero_le _, fun j x hj => absurd hj (Nat.not_lt_zero j)⟩ ?_
    rintro i w1 ⟨hE, hi, hp⟩
    refine wk ?_
    refine Wl.part rfl rfl rfl (fun hlt => ?_) (fun hge => ?_)
    · have hlt : i < n := by omega
      refine wk ?_
      refine W.test rfl (fun _ => ?_) (fun h => absurd h (by omega))
      obtain ⟨b, o, rfl, es, ⟨rfl, hs⟩, hc⟩ := hx.at_ i (by omega)
      obtain ⟨b', o', rfl, es', ⟨rfl, hs'⟩, hc'⟩ := hy.at_ i (by omega)
      have h1 := hE.cell (hc 0 _ rfl)
      have h2 := hE.cell (hc' 0 _ rfl)
      refine wk ?_
      refine W.any Ext [.eq _, .eq _, .eq _, .eq _, .eq _, .eq _, .eq _, .eq _, .eq _] [8] mixed rfl Ext.refl Ext.trans Ext.drew ⟨qs, qs, qs, qs, qs, qs, qs, qs, qs, trivial⟩ ?_
      rintro wq eq_ _ ⟨⟩
      refine wk ?_
      refine W.test rfl (fun hd => ?_) (fun hs => ?_)
      · refine wk ?_
        refine Arr.ret1 rfl rfl ⟨?_, hE.trans eq_⟩
        rw [decide_eq_false]
        intro h
        subst h
        exact hd rfl
      · refine wk ?_
        refine Arr.again (i + 1) has ⟨hE.trans eq_, hlt, ?_⟩ (by omega)
        intro j x hj hx'
        rcases Nat.lt_or_ge j i with h1 | h1
        · exact hp j x h1 hx'
        · obtain rfl : j = i := by omega
          rw [List.getElem?_eq_getElem (by omega)] at hx' ⊢
          cases hx'
          exact congrArg some (Decidable.not_not.1 hs).symm
    · refine wk ?_
      refine Arr.ret1 rfl rfl ⟨?_, hE⟩
      rw [decide_eq_true]
      exact eq_of_takes (by omega) (fun j x hj => hp j x (by omega))
end Go.Proofs.Ytbadjlhijbkbbaa
