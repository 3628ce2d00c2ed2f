/-
  Joined by program out of the texts Rb Ar5 Ar6: lemmas for the proofs of this seat; no condition.
-/
import Derived.Test.YtbadjlhijbkbbaaCa
import Derived.Test.YtbadjlhijbkbbaaCb
import Derived.Test.YtbadjlhijbkbbaaBb
set_option maxHeartbeats 1000000
/-
  slices.Backward over numbers: its iterator.
-/
set_option linter.unusedVariables false
namespace Go.Proofs.Ytbadjlhijbkbbaa
open Go Go.RowKit Sx
variable {S S' : Nat → Prop} {w w0 w' : World} {A : Option Addr} {c bx : Nat} {xs : List Int}
/-- From the last to the first, each with its place. -/
def backL (xs : List Int) : List (Int × Int) := (xs.zipIdx.map fun p => ((p.2 : Int), p.1)).reverse
theorem backL_length (xs : List Int) : (backL xs).length = xs.length := by simp [backL]
theorem backL_get (xs : List Int) (j : Nat) (hj : j < xs.length) : (backL xs)[j]? = some (((xs.length - 1 - j : Nat) : Int), xs[xs.length - 1 - j]) := by
  simp [backL, hj]
theorem prefix_take {α : Type} {l : List α} {j : Nat} {x : α} (h : l[j]? = some x) : l.take j ++ [x] = l.take (j + 1) := by
  obtain ⟨h1, h2⟩ := List.getElem?_eq_some_iff.1 h
  rw [List.take_succ_eq_append_getElem h1, h2]
theorem leaveEnd {P : Program} {fn : Func} {N : Nat} {bs : List Nat} {Φ : Value → World → Prop} {σ : Sl} (hr : fn.results = #[]) (ho : ∀ b ∈ bs, isOpen w b) (hd : bs.Nodup) (h : ∀ w', Keeps (fun k => k ∉ bs) w w' → Φ (.tuple #[]) w') (e : Exit) (he : e = .normal ∨ e = .ret) :
    ArrM (bs.map Sx.mark) (bodyPostM Fence.wide 0 P fn (Ret Φ)) N e σ w := ⟨fun a ha => by
  have hdef : (onto (bs.map Sx.mark) a).defers = bs.map Sx.mark := by simp [ha.defers]
  have key : LeavesInM Fence.wide 0 P fn (onto (bs.map Sx.mark) a).tmps (Ret Φ) (onto (bs.map Sx.mark) a).defers .returning w := by
    rw [hdef]
    exact leavesM bs w ho hd (fun w' hk => ⟨_, by simp [results, hr], _, rfl, h w' hk⟩)
  rcases he with rfl | rfl <;> exact key⟩
set_option maxRecDepth 20000 in
set_option maxHeartbeats 1000000 in
theorem back_iter (hb : Blk w0 bx #[.slice A xs.length c] 28) (hr : tI.Row S w0 A xs.length xs) : Iter Try.prog 170 #[.pointer (some ⟨bx, 0, none⟩)] (fun x : Int × Int => #[.int .i64 x.1, .int .i64 x.2]) (backL xs) (fun k => k = bx ∨ S k) w0 := by
  intro l J Jx W hk hJ hJx hY h0
  have hn := hr.2.1
  have hbW := hk.blk hb (.inl rfl)
  have hrW := hr.keep (by decide) hk (fun k hk => .inr hk)
  have hargs : (#[.func (.yield l) #[] #[]] ++ #[.pointer (some ⟨bx, 0, none⟩)] : Array Value) = [Value.func (.yield l) #[] #[], Value.pointer (some ⟨bx, 0, none⟩)].toArray := by simp
  rw [hargs]
  refine enterM Try.func170 rfl Try.ntmps170 rfl ?_
  refine WM.seq ?_
  refine WM.region rfl ?_
  refine wk ?_
  refine ArrM.arr (ArrM.next ?_)
  refine WM.block ?_
  refine WM.loop (ι := Nat) (fun j => [(0, .func (.yield l) #[] #[]), (1, .pointer (some ⟨bx, 0, none⟩)), (3, .int .i64 ((xs.length : Int) - 1 - (j : Int)))]) (fun _ => []) (fun j A' => j ≤ xs.length ∧ (∃ S', J ((backL xs).take j) S' A' ∧ ∀ k, S' k → W.heap.size ≤ k ∧ k < A'.heap.size) ∧ Keeps (fun k => k = bx ∨ S k) W A') (fun j => xs.length - j) 0 (Has.cons rfl (Has.cons rfl (Has.consI rfl (by omega) Has.nil))) ⟨Nat.zero_le _, ⟨_, h0, fun k h => h.elim⟩, Keeps.refl _ _⟩ ?_
  rintro j A' ⟨hj, ⟨S', hJ', hS'⟩, hkA⟩
  refine WM.seq ?_
  refine WM.seq ?_
  refine WM.region rfl ?_
  refine wk ?_
  refine ArrM.arr (ArrM.next ?_)
  refine WM.test rfl (fun hge => ?_) (fun hlt => ?_)
  · refine WM.skip (ArrM.next ?_)
    refine WM.seq (WM.block ?_)
    refine WM.seq ?_
    refine WM.regionM ?_
    have hjl : j < xs.length := by omega
    have hbA := hkA.blk hbW (.inl rfl)
    refine WlM.op rfl rfl rfl ?_
    refine wk ?_
    refine WlM.op rfl rfl rfl ?_
    refine wk ?_
    refine WlM.op rfl rfl rfl ?_
    refine wk ?_
    refine WlM.op rfl rfl rfl ?_
    refine wk ?_
    obtain ⟨b, o, rfl, es, ⟨rfl, hI⟩, hcc⟩ := (hrW.keep (by decide) hkA (fun k hk => .inr hk)).at_ (xs.length - 1 - j) (by omega)
    have hcell := hcc 0 _ rfl
    refine WlM.op rfl rfl rfl ?_
    refine Wop.ixI TT (xs.length - 1 - j) rfl rfl rfl rfl rfl (by omega) (by omega) ?_
    refine WlM.op rfl rfl rfl ?_
    refine wk ?_
    have hg := backL_get xs j hjl
    have hpre := prefix_take hg
    have hyy := hY _ _ S' A' hJ' (by rw [hpre]; exact List.take_prefix _ _)
    refine WlM.yield (l := l) (args := [.int .i64 ((xs.length - 1 - j : Nat) : Int), .int .i64 xs[xs.length - 1 - j]]) rfl rfl rfl ?_ hyy ?_
    · intro ρ h w2
      have h1 := h (.tmp 11) _ rfl
      have h2 : ρ (.tmp 12) = .int .i64 ((xs.length - 1 - j : Nat) : Int) := (h (.tmp 12) _ rfl).trans (by congr 1; omega)
      have h3 := h (.tmp 16) _ rfl
      simp [execOp, h1, h2, h3, resolve, invoke, go_sem]
    · rintro e w2 (⟨rfl, S2, hJ2, hS2, hk2⟩ | ⟨rfl, S2, hJ2, _⟩)
      · refine ⟨_, rfl, ?_⟩
        rw [hpre] at hJ2
        refine WlM.op rfl rfl rfl ?_
        refine wk ?_
        refine WlM.done (ArrM.next ?_)
        refine WM.no rfl ?_
        refine WM.skip (ArrM.block_normal (ArrM.next ?_))
        refine WM.region rfl ?_
        refine wk ?_
        refine ArrM.arr ?_
        refine ArrM.again (μ := fun _ => []) (i := j) (j + 1) (Has.cons rfl (Has.cons rfl (Has.consI rfl (by omega) Has.nil))) ⟨hjl, ⟨S2, hJ2, fun k hk => ?_⟩, hkA.trans (hk2.mono (fun k hk => .inl hk))⟩ (by omega)
        have := hkA.size
        have := hk2.size
        rcases hS2 k hk with h | h
        · have := hS' k h
          omega
        · omega
      · refine ⟨_, rfl, ?_⟩
        refine WlM.op rfl rfl rfl ?_
        refine wk ?_
        refine WlM.done (ArrM.next ?_)
        refine WM.yes rfl ?_
        refine WM.ret (ArrM.block_ret (ArrM.then_ret (ArrM.then_ret (ArrM.block_ret ?_))))
        exact leaveEnd (bs := []) rfl (by simp) List.nodup_nil (fun w' hk => .inr ⟨_, S2, by rw [hpre]; exact List.take_prefix _ _, hJx _ _ _ _ hJ2 (hk.mono (fun k hk => by simp))⟩) .ret (.inr rfl)
  · refine WM.exit (ArrM.then_exit (ArrM.then_exit (ArrM.block_exit ?_)))
    have hjl : j = xs.length := by omega
    subst hjl
    rw [List.take_of_length_le (by rw [backL_length]; exact Nat.le_refl _)] at hJ'
    exact leaveEnd (bs := []) rfl (by simp) List.nodup_nil (fun w' hk => .inl ⟨S', hJ _ _ _ _ hJ' (hk.mono (fun k hk => by simp))⟩) .normal (.inl rfl)
end Go.Proofs.Ytbadjlhijbkbbaa

/-
  What is under a node: the iterator.
-/
set_option linter.unusedVariables false
namespace Go.Proofs.Ytbadjlhijbkbbaa
open Go Go.RowKit Sx Arena
variable {S S' : Nat → Prop} {w w0 w' : World} {base p : Nat} {ns : List Nd} {A : Option Addr} {c : Nat}
theorem Sx.Own.cut {α : Type} {enc : α → Value} {e : TypeId} {xs : List α} {n : Nat} (h : Sx.Own e enc w base (.slice A n c) xs) {k : Nat} (hk : k ≤ xs.length) : Sx.Own e enc w base (.slice A k c) (xs.take k) := by
  have hl : (xs.take k).length = k := by simp; omega
  refine ⟨by simp, ?_⟩
  rw [hl]
  rcases h.2 with ⟨he, h0⟩ | ⟨g, cap, cur, he, hb, hh, hnc, hcm, hcs, ht⟩
  · cases he
    exact .inl ⟨by rw [show k = 0 by omega], by omega⟩
  · cases he
    refine .inr ⟨g, _, cur, rfl, hb, hh, by omega, hcm, hcs, ?_⟩
    rw [List.map_take, ← ht, List.take_take]
    congr 1
    omega
theorem Sx.Own.lit {α : Type} {enc : α → Value} {e : TypeId} {xs : List α} {g n : Nat} (hb : Blk w g (xs.map enc).toArray e) (h : base ≤ g) (hn : n = xs.length) (hm : n ≤ 1000000) : Sx.Own e enc w base (.slice (some ⟨g, 0, none⟩) n n) xs := by
  subst hn
  exact ⟨by simp, .inr ⟨g, _, (xs.map enc).toArray, rfl, h, hb, Nat.le_refl _, by simp only [maxLen]; omega, by simp, by simp [List.take_of_length_le]⟩⟩
theorem gLenB {n : Nat} (h : Blk w p #[.slice A n c] 121) : Calls Try.prog 55 [.pointer (some ⟨p, 0, none⟩)].toArray w (Ret fun v w' => v = .int .i64 (n : Int) ∧ Ext w w') := by
  refine enter Try.func55 rfl Try.ntmps55 rfl ?_
  refine wk ?_
  refine Wop.ptrSome Try.underlying56 rfl ?_
  refine wk ?_
  exact Arr.ret1 rfl rfl ⟨rfl, Ext.refl _⟩
theorem gInB (h : Blk w p #[.slice A ns.length c] 121) (i : Int) : Calls Try.prog 101 [.pointer (some ⟨p, 0, none⟩), .int .i64 i].toArray w (Ret fun v w' => v = .bool (isIn ns i) ∧ Ext w w') := by
  refine enter Try.func101 rfl Try.ntmps101 rfl ?_
  refine wk ?_
  refine Wl.part rfl rfl rfl (fun q => ?_) (fun q => ?_)
  · refine wk ?_
    refine Wop.fn en55 rfl (gLenB h) ?_
    rintro _ w1 ⟨rfl, e1⟩
    refine wk ?_
    exact Arr.ret1 rfl rfl ⟨by simp [isIn, q], e1⟩
  · refine wk ?_
    exact Arr.ret1 rfl rfl ⟨by simp [isIn]; omega, Ext.refl _⟩
theorem gUnder (i : Int) : Calls Try.prog 107 [.pointer (some ⟨p, 0, none⟩), .int .i64 i].toArray w (Ret fun v w' => v = .func (.func 143) #[] #[.pointer (some ⟨w.heap.size + 1, 0, none⟩), .pointer (some ⟨w.heap.size, 0, none⟩)] ∧ Blk w' w.heap.size #[.pointer (some ⟨p, 0, none⟩)] 56 ∧ Blk w' (w.heap.size + 1) #[.int .i64 i] 3 ∧ Ext w w') := by
  refine enter Try.func107 rfl Try.ntmps107 rfl ?_
  refine wk ?_
  refine Wop.box rfl (fun w1 e1 b1 z1 => ?_)
  refine wk ?_
  refine Wop.box rfl (fun w2 e2 b2 z2 => ?_)
  rw [z1] at b2 ⊢
  refine wk ?_
  exact Arr.ret1 rfl rfl ⟨rfl, b1.ext e2, b2, e1.trans e2⟩
theorem gBackward {n : Nat} : Calls Try.prog 144 [.slice A n c].toArray w (Ret fun v w' => v = .func (.func 170) #[] #[.pointer (some ⟨w.heap.size, 0, none⟩)] ∧ Blk w' w.heap.size #[.slice A n c] 28 ∧ w'.heap.size = w.heap.size + 1 ∧ Ext w w') := by
  refine enter Try.func144 rfl Try.ntmps144 rfl ?_
  refine wk ?_
  refine Wop.box rfl (fun w1 e1 b1 z1 => ?_)
  refine wk ?_
  exact Arr.ret1 rfl rfl ⟨rfl, b1, z1, e1⟩
/-- A node and what is under it, in order. -/
def pr (ns : List Nd) (k : Int) : List Int := pre ns (k.toNat + 1) k
theorem pr_cons (hd : Down ns) {k : Int} (h0 : 0 ≤ k) : pr ns k = k :: (nd ns k).kids.flatMap (pr ns) := by
  obtain ⟨j, rfl⟩ : ∃ j : Nat, k = j := ⟨k.toNat, by omega⟩
  rw [pr, pre]
  congr 1
  refine flatMap_same (fun x hx => ?_)
  have := hd j x hx
  exact pre_fuel hd _ _ x this.1 (by omega) (by omega)
theorem pr_pos (hd : Down ns) : ∀ {l : List Int}, (∀ k ∈ l, 0 ≤ k) → l.length ≤ (l.flatMap (pr ns)).length
  | [], _ => by simp
  | k :: l, h => by
    have ih := pr_pos hd (l := l) (fun x hx => h x (List.mem_cons_of_mem _ hx))
    rw [List.flatMap_cons, pr_cons hd (h k List.mem_cons_self)]
    simp only [List.length_cons, List.length_append]
    omega
theorem backL_snd (xs : List Int) : (backL xs).map Prod.snd = xs.reverse := by
  rw [backL, List.map_reverse, List.map_map]
  congr 1
  have : (Prod.snd ∘ fun p : Int × Nat => ((p.2 : Int), p.1)) = Prod.fst := rfl
  rw [this, List.zipIdx_map_fst]
/-- What the iterator holds: its stack, what has come, its marks. -/
structure Und (W : World) (b4 : Nat) (T : Nat → Prop) (J : List Int → (Nat → Prop) → World → Prop) (all : List Int) (ns : List Nd) (x : List Int × List Int × List Nat) (A : World) : Prop where
  keeps : Keeps T W A
  own : ∃ v S, Blk A b4 #[v] 28 ∧ OwnI A W.heap.size v x.1 ∧ v.ownBlock ≠ some b4 ∧ J x.2.1 S A ∧ (∀ k, S k → W.heap.size ≤ k ∧ k < A.heap.size ∧ k ≠ b4 ∧ v.ownBlock ≠ some k ∧ k ∉ x.2.2) ∧ ∀ b ∈ x.2.2, v.ownBlock ≠ some b
  marks : ∀ b ∈ x.2.2, isOpen A b ∧ W.heap.size ≤ b ∧ b ≠ b4
  nodup : x.2.2.Nodup
  rest : x.2.1 ++ x.1.reverse.flatMap (pr ns) = all
  inn : ∀ k ∈ x.1, 0 ≤ k ∧ k < ns.length
/-- The same while a node's kids are put on the stack. -/
structure UndIn (W : World) (b4 bx B : Nat) (T : Nat → Prop) (J : List Int → (Nat → Prop) → World → Prop) (pre st : List Int) (bs : List Nat) (S2 : Nat → Prop) (pre2 : List (Int × Int)) (S' : Nat → Prop) (A : World) : Prop where
  keeps : Keeps T W A
  own : ∃ v, Blk A b4 #[v] 28 ∧ OwnI A W.heap.size v (st ++ pre2.map Prod.snd) ∧ v.ownBlock ≠ some b4 ∧ v.ownBlock ≠ some bx ∧ v.ownBlock ≠ some B ∧ (∀ j, v.ownBlock = some j → j < B ∨ S' j) ∧ (∀ j, S2 j → v.ownBlock ≠ some j) ∧ (∀ b ∈ bs, v.ownBlock ≠ some b)
  J : J pre S2 A
  opened : ∀ b ∈ bs, isOpen A b
theorem ArrM.bound {Q : Exit → Act → World → Prop} {N : Nat} {σ τ : Sl} {w : World} (hτ : Has σ τ) : ArrM [] (Exit.then (fun a A1 => A1 = w ∧ St N τ a) Q) N .normal σ w := ⟨fun a ha => ⟨rfl, by
  have h := hτ.st a ha
  have hd := h.defers
  have : onto [] a = a := by cases a; simp_all
  rw [this]
  exact h⟩⟩
set_option maxRecDepth 20000 in
set_option maxHeartbeats 2000000 in
theorem under_iter {T0 : Nat → Prop} {bt bi : Nat} {i : Int} (hall : (under ns i).length ≤ 1000000000) (hd : Down ns) (hT0 : ∀ k, T0 k → k < w0.heap.size) (hbt : Blk w0 bt #[.pointer (some ⟨p, 0, none⟩)] 56) (hbi : Blk w0 bi #[.int .i64 i] 3)
    (hp : Blk w0 p #[.slice A ns.length c] 121) (hpT : T0 p) (hr : tNd.Row T0 w0 A ns.length ns) :
    Iter Try.prog 143 #[.pointer (some ⟨bi, 0, none⟩), .pointer (some ⟨bt, 0, none⟩)] (fun x : Int => #[.int .i64 x]) (under ns i) (fun k => k = bt ∨ k = bi ∨ T0 k) w0 := by
  intro l J Jx W hk hJ hJx hY h0
  have hbtW := hk.blk hbt (.inl rfl)
  have hbiW := hk.blk hbi (.inr (.inl rfl))
  have hpW := hk.blk hp (.inr (.inr hpT))
  have hrW := hr.keep (by decide) hk (fun k hk => .inr (.inr hk))
  have hTW : ∀ k, (k = bt ∨ k = bi ∨ T0 k) → k < W.heap.size := fun k h => by
    have h1 := hk.size
    have h2 := hbt.lt
    have h3 := hbi.lt
    rcases h with h | h | h
    · omega
    · omega
    · have := hT0 k h
      omega
  have hargs : (#[.func (.yield l) #[] #[]] ++ #[.pointer (some ⟨bi, 0, none⟩), .pointer (some ⟨bt, 0, none⟩)] : Array Value) = [Value.func (.yield l) #[] #[], Value.pointer (some ⟨bi, 0, none⟩), Value.pointer (some ⟨bt, 0, none⟩)].toArray := by simp
  rw [hargs]
  refine enterM Try.func143 rfl Try.ntmps143 rfl ?_
  refine WM.seq ?_
  refine wm ?_
  refine Wop.litI rfl (fun w1 e1 b1 z1 => ?_)
  refine wm ?_
  refine Wop.alloc (z := .slice none 0 0) Try.zeroValue28 (fun w2 e2 b2 z2 => ?_)
  refine wm ?_
  refine Wop.stC TT rfl rfl rfl rfl b2 rfl (fun w3 g3 b3 z3 k3 => ?_)
  have s1 := e1.size
  have s2 := e2.size
  have E3 : Ext W w3 := Below.trans (e1.trans e2) (Below.mono g3 (by omega))
  refine Wl.done ?_
  refine ArrM.arr (ArrM.next ?_)
  refine WM.mid (ι := List Int) (fun _ => [(0, .func (.yield l) #[] #[]), (1, .pointer (some ⟨bi, 0, none⟩)), (2, .pointer (some ⟨bt, 0, none⟩)), (4, .pointer (some ⟨w1.heap.size, 0, none⟩))]) (fun stk A => Und W w1.heap.size (fun k => k = bt ∨ k = bi ∨ T0 k) J (under ns i) ns (stk, [], []) A) ?_ ?_
  · refine wm ?_
    refine Wop.fn en101 rfl (gInB (hpW.ext E3) i) ?_
    rintro _ w4 ⟨rfl, e4⟩
    have E4 := E3.trans e4
    refine wm ?_
    refine WM.cond rfl (fun q => ?_) (fun q => ?_)
    · have q' : isIn ns i = false := by simpa using q
      refine wm ?_
      refine Wop.stC TT rfl rfl rfl rfl (b3.ext e4) rfl (fun w5 g5 b5 z5 k5 => ?_)
      have E5 : Ext W w5 := Below.trans E4 (Below.mono g5 (by omega))
      refine wm ?_
      refine ArrM.mid [] has ⟨Ext.keeps E5, ⟨_, fun _ => False, b5, Sx.Own.nil _ _ _ _, by simp [Value.ownBlock], hJ _ _ _ _ h0 (Ext.keeps E5), fun k h => h.elim, by simp⟩, by simp, List.nodup_nil, by simp [under, q'], by simp⟩
    · have q' : isIn ns i = true := by simpa using q
      have hi : 0 ≤ i ∧ i < ns.length := by simpa [isIn] using q'
      refine wm ?_
      have ho : OwnI w4 W.heap.size (.slice (some ⟨W.heap.size, 0, none⟩) 1 1) [i] := Sx.Own.lit (xs := [i]) (Blk.ext (w := w3) ((k3 _ (by omega)).trans (b1.ext e2)) e4) (Nat.le_refl _) rfl (by decide)
      refine ArrM.mid [i] has ⟨Ext.keeps E4, ⟨_, fun _ => False, b3.ext e4, ho, ?_, hJ _ _ _ _ h0 (Ext.keeps E4), fun k h => h.elim, by simp⟩, by simp, List.nodup_nil, ?_, ?_⟩
      · intro h
        have h' : W.heap.size = w1.heap.size := Option.some.inj h
        omega
      · simp [under, q', pr]
      · simpa using hi
  intro stk0 A0 hU0
  refine WM.block ?_
  refine WM.loop (ι := List Int × List Int × List Nat) (fun _ => [(0, .func (.yield l) #[] #[]), (1, .pointer (some ⟨bi, 0, none⟩)), (2, .pointer (some ⟨bt, 0, none⟩)), (4, .pointer (some ⟨w1.heap.size, 0, none⟩))]) (fun x => x.2.2.map Sx.mark) (fun x A => Und W w1.heap.size (fun k => k = bt ∨ k = bi ∨ T0 k) J (under ns i) ns x A) (fun x => (under ns i).length - x.2.1.length) (stk0, [], []) has hU0 ?_
  rintro ⟨stk, pre, bs⟩ A1 ⟨hkA, ⟨v, S, hb4, ho, hvb, hJ1, hS, hvm⟩, hmk, hnd, hrest, hin⟩
  simp only at ho hJ1 hS hvm hmk hnd hrest hin ⊢
  obtain ⟨Av, cv, rfl, hcv⟩ := ho.slice
  have hlen : stk.length ≤ 1000000000 := by
    have h1 := pr_pos hd (l := stk.reverse) (fun k hk => (hin k (by simpa using hk)).1)
    rw [← hrest, List.length_append] at hall
    rw [List.length_reverse] at h1
    omega
  have hbtA := hkA.blk hbtW (.inl rfl)
  have hpA := hkA.blk hpW (.inr (.inr hpT))
  have hb4W : W.heap.size ≤ w1.heap.size := s1
  refine wm ?_
  refine WM.test rfl (fun hlt => ?_) (fun hge => ?_)
  · obtain ⟨st, k, rfl⟩ : ∃ st k, stk = st ++ [k] := ⟨stk.dropLast, stk.getLast (by intro h; subst h; simp at hlt), (List.dropLast_concat_getLast _).symm⟩
    have hstl : (st ++ [k]).length = st.length + 1 := by simp
    have hk0 := hin k (by simp)
    obtain ⟨A', c', hA', _, hrow⟩ := OwnI.row (S := fun _ => True) ho (by omega) (fun x hx => ⟨by have := hin x hx; omega, by have := hin x hx; have := hr.2.1; omega⟩) (fun _ _ => trivial)
    cases hA'
    obtain ⟨b, o, rfl, es, ⟨rfl, hI⟩, hcc⟩ := hrow.at_ st.length (by omega)
    have hcell := hcc 0 _ rfl
    rw [List.getElem_concat_length rfl] at hcell
    refine wm ?_
    refine Wop.ixI TT st.length rfl rfl rfl rfl rfl (by omega) (by omega) ?_
    refine wm ?_
    refine Wop.sliceTo (h := st.length) TT rfl rfl rfl rfl rfl (by omega) (by omega) ?_
    refine wm ?_
    refine Wop.stC TT rfl rfl rfl rfl hb4 rfl (fun w5 g5 b5 z5 k5 => ?_)
    have K5 : Keeps (fun k => k ≠ w1.heap.size) A1 w5 := ⟨g5.os, g5.tape, g5.output, g5.size, fun k hk _ => k5 k hk⟩
    have hkr : st ++ [k] = st ++ [k] := rfl
    have hall' : under ns i = (pre ++ [k]) ++ ((nd ns k).kids.flatMap (pr ns) ++ st.reverse.flatMap (pr ns)) := by
      rw [← hrest, List.reverse_append, List.reverse_singleton, List.singleton_append, List.flatMap_cons, pr_cons hd hk0.1]
      simp
    have hprefix : pre ++ [k] <+: under ns i := by rw [hall']; exact List.prefix_append _ _
    have hJ5 : J pre S w5 := hJ _ _ _ _ hJ1 (K5.mono (fun j hj => by
      rcases hj with hj | hj
      · omega
      · exact (hS j hj).2.2.1))
    have hyy := hY pre k S w5 hJ5 hprefix
    refine Wl.done ?_
    refine ArrM.arr (ArrM.next ?_)
    refine WM.seq (WM.seq (WM.regionM ?_))
    refine WlM.op rfl rfl rfl ?_
    refine wk ?_
    refine WlM.op rfl rfl rfl ?_
    refine wk ?_
    refine WlM.yield (l := l) (args := [.int .i64 k]) rfl rfl rfl ?_ hyy ?_
    · intro ρ h w2
      have h1 := h (.tmp 28) _ rfl
      have h2 := h (.tmp 29) _ rfl
      simp [execOp, h1, h2, resolve, invoke, go_sem]
    rintro e w6 (⟨rfl, S2, hJ2, hS2, hk6⟩ | ⟨rfl, S2, hJ2, hS2, hk6⟩)
    · refine ⟨_, rfl, ?_⟩
      refine WlM.op rfl rfl rfl ?_
      refine wk ?_
      refine WlM.done (ArrM.next ?_)
      refine WM.no rfl ?_
      refine WM.skip (ArrM.next ?_)
      have hs5 := K5.size
      have hs6 := hk6.size
      have hsb := hb4.lt
      have hT5 : ∀ j, (j = bt ∨ j = bi ∨ T0 j) → j ≠ w1.heap.size := fun j hj => by have := hTW j hj; omega
      have hkW6 : Keeps (fun k => k = bt ∨ k = bi ∨ T0 k) W w6 := (hkA.trans (K5.mono hT5)).trans (hk6.mono (fun j hj => .inl hj))
      have hsW := hkW6.size
      have hb6 := hk6.blk b5 (.inr ⟨hb4W, fun h => (hS _ h).2.2.1 rfl⟩)
      have hbt6 := hkW6.blk hbtW (.inl rfl)
      have hp6 := hkW6.blk hpW (.inr (.inr hpT))
      have hbl := ho.lt b rfl
      have ho6 : OwnI w6 W.heap.size (.slice (some ⟨b, o, none⟩) st.length cv) st := by
        have h1 := Sx.Own.cut ho (k := st.length) (by omega)
        rw [List.take_left] at h1
        refine h1.move (fun j hj => ?_)
        have hj' : b = j := Option.some.inj hj
        subst hj'
        exact (hk6.block b (.inr ⟨hbl.1, fun h => (hS b h).2.2.2.1 rfl⟩) (by omega)).trans (k5 b (fun e => hvb (by rw [← e]; rfl)))
      have hS2b : ∀ j, S2 j → W.heap.size ≤ j ∧ j < w6.heap.size ∧ j ≠ w1.heap.size ∧ j ≠ b ∧ j ∉ bs := fun j hj => by
        rcases hS2 j hj with h | h
        · have h1 := hS j h
          refine ⟨h1.1, by omega, h1.2.2.1, fun e => h1.2.2.2.1 (by rw [e]; rfl), h1.2.2.2.2⟩
        · refine ⟨by omega, h.2, by omega, by omega, fun hb => ?_⟩
          have := lt_of_block (hmk j hb).1
          omega
      obtain ⟨b', o', rfl, es', hrd, hcc'⟩ := (hrW.keep (by decide) hkW6 (fun j hj => .inr (.inr hj))).at_ k.toNat (by omega)
      have hnk : nd ns k = ns[k.toNat] := by rw [nd_int hk0.1, nd_lt]
      rw [hnk] at hall'
      obtain ⟨A1', c1, rfl, hcap, _, _, _, hkids⟩ := tNd_open hrd
      have hcell3 := hcc' 3 _ rfl
      have hdk : ∀ x ∈ ns[k.toNat].kids, 0 ≤ x ∧ x < k := fun x hx => by
        have := hd k.toNat x (by rw [← nd_int hk0.1, hnk]; exact hx)
        omega
      refine wm ?_
      refine Wop.ixI TT k.toNat rfl rfl rfl rfl rfl (by omega) (by omega) ?_
      refine wm ?_
      generalize ns[k.toNat].kids = kids at *
      refine Wop.fn en144 rfl gBackward ?_
      rintro _ w7 ⟨rfl, b7, z7, e7⟩
      refine wm ?_
      have hkl : kids.length + st.length ≤ 1000000000 := by
        have h1 := pr_pos hd (l := kids) (fun x hx => (hdk x hx).1)
        have h2 := pr_pos hd (l := st.reverse) (fun x hx => (hin x (by simp at hx; simp [hx])).1)
        rw [hall'] at hall
        simp only [List.length_append, List.length_reverse] at hall h2
        omega
      have hbs7 : ∀ x ∈ bs, x < w6.heap.size := fun x hx => by have := lt_of_block (hmk x hx).1; omega
      have hop6 : ∀ x ∈ bs, isOpen w6 x := fun x hx =>
        (hk6.block x (.inr ⟨(hmk x hx).2.1, fun hSb => (hS x hSb).2.2.2.2 hx⟩) (by have := lt_of_block (hmk x hx).1; omega)).trans ((k5 x (hmk x hx).2.2).trans (hmk x hx).1)
      refine WM.range (encs := fun x : Int × Int => #[.int .i64 x.1, .int .i64 x.2]) (xs := backL kids) (T := fun j => j = w6.heap.size ∨ T0 j) (w0 := w7) rfl en170 (back_iter (S := T0) b7 (hkids.ext (by decide) e7)) ?_ (Keeps.refl _ _) (fun _ => rfl) ?_ (UndIn W w1.heap.size w6.heap.size w7.heap.size (fun k => k = bt ∨ k = bi ∨ T0 k) J (pre ++ [k]) st bs S2) (fun _ _ _ => False) ?_ (fun _ _ _ _ h _ => h) ?_
        (fun x => [(0, .func (.yield l) #[] #[]), (1, .pointer (some ⟨bi, 0, none⟩)), (2, .pointer (some ⟨bt, 0, none⟩)), (4, .pointer (some ⟨w1.heap.size, 0, none⟩)), (7, .int .i64 x.2)]) ?_ ?_ ?_ (fun _ _ _ _ h => h.elim)
      · intro j hj
        rcases hj with hj | hj
        · omega
        · have := hTW j (.inr (.inr hj))
          omega
      · simp
      · rintro pre2 S' A B' ⟨h1, ⟨v, h2, h3, h4, h5, h6, h7, h8, h9⟩, h10, h11⟩ hK
        refine ⟨h1.trans (hK.mono (fun j hj => .inl (by have := hTW j hj; omega))), ⟨v, hK.blk h2 (.inl (by omega)), h3.move (fun j hj => hK.block j (h7 j hj) (h3.lt j hj).2), h4, h5, h6, h7, h8, h9⟩, ?_, fun x hx => ?_⟩
        · exact hJ _ _ _ _ h10 (hK.mono (fun j hj => .inl (by
            rcases hj with hj | hj
            · omega
            · have := hS2b j hj
              omega)))
        · exact (hK.block x (.inl (by have := hbs7 x hx; omega)) (lt_of_block (h11 x hx))).trans (h11 x hx)
      · refine ⟨hkW6.trans (Ext.keeps e7), ⟨_, hb6.ext e7, by simpa using ho6.ext e7, ?_, ?_, ?_, fun j hj => .inl ?_, fun j hj hj' => ?_, fun x hx hj' => ?_⟩, hJ _ _ _ _ hJ2 (Ext.keeps e7), fun x hx => (e7.block (hbs7 x hx)).trans (hop6 x hx)⟩
        · exact fun h => hvb h
        · intro h
          have h' : b = w6.heap.size := Option.some.inj h
          omega
        · intro h
          have h' : b = w7.heap.size := Option.some.inj h
          omega
        · have h' : b = j := Option.some.inj hj
          omega
        · have h' : b = j := Option.some.inj hj'
          exact (hS2b j hj).2.2.2.1 h'.symm
        · exact hvm x hx hj'
      · intro l2 x A2
        have hz : ((#[42, 43] : Array Nat).zip #[Value.int .i64 x.1, Value.int .i64 x.2]).toList = [(42, .int .i64 x.1), (43, .int .i64 x.2)] := by simp
        rw [hz]
        refine wm ?_
        refine ArrM.bound ?_
        exact has
      · rintro l2 pre2 x S' A ⟨h1, ⟨v, h2, h3, h4, h5, h6, h7, h8, h9⟩, h10, h11⟩ hpx hsz hS'
        have hpl := hpx.length_le
        rw [backL_length, List.length_append, List.length_singleton] at hpl
        have hvl : (st ++ pre2.map Prod.snd).length ≤ 1000000000 := by simp; omega
        have hown := h3.lt
        refine wm ?_
        refine Wop.litI rfl (fun w8 e8 b8 z8 => ?_)
        have hs8 := e8.size
        refine wm ?_
        refine Wop.appI rfl rfl b8 (h3.ext e8) (by omega) (by omega) (fun v' w9 ho9 hb9 hg9 hat => ?_)
        have kg := keeps_grown hg9
        have hs9 := kg.size
        obtain ⟨Av', cv', rfl, _⟩ := ho9.slice
        have hb49 := kg.blk (h2.ext e8) h4
        refine wm ?_
        refine Wop.stC TT rfl rfl rfl rfl hb49 rfl (fun w10 g10 b10 z10 k10 => ?_)
        refine wm ?_
        have hl9 := fun j hj => (ho9.lt j hj)
        generalize hvv : (Value.slice Av' (st ++ pre2.map Prod.snd ++ [x.2]).length cv') = v' at *
        have K' : Keeps (fun j => j ≠ w1.heap.size ∧ v.ownBlock ≠ some j) A w10 := ((Ext.keeps e8).trans (kg.mono (fun j hj => hj.2))).trans ⟨g10.os, g10.tape, g10.output, g10.size, fun j hj _ => k10 j hj.1⟩
        have hat' : ∀ j, v'.ownBlock = some j → v.ownBlock = some j ∨ j = w8.heap.size := fun j hj => by
          rcases hat with h | h
          · exact .inl (h ▸ hj)
          · rw [h] at hj
            exact .inr (Option.some.inj hj).symm
        refine ⟨fun a ha => ⟨fun j => S' j ∨ (A.heap.size ≤ j ∧ j < w10.heap.size), ⟨h1.trans (K'.mono (fun j hj => ?_)), ⟨v', b10, ?_, fun h => ?_, fun h => ?_, fun h => ?_, fun j hj => ?_, fun j hj h => ?_, fun y hy h => ?_⟩, hJ _ _ _ _ h10 (K'.mono (fun j hj => ?_)), fun y hy => ?_⟩, fun j hj => hj, K'.mono (fun j hj => ?_)⟩⟩
        · have := hTW j hj
          exact ⟨by omega, fun h => by have := hown j h; omega⟩
        · have : st ++ (pre2 ++ [x]).map Prod.snd = st ++ pre2.map Prod.snd ++ [x.2] := by simp
          rw [this]
          refine ho9.move (fun j hj => k10 j (fun e => ?_))
          rcases hat' j hj with h | h
          · exact h4 (e ▸ h)
          · omega
        · rcases hat' _ h with h | h
          · exact h4 h
          · omega
        · rcases hat' _ h with h | h
          · exact h5 h
          · omega
        · rcases hat' _ h with h | h
          · exact h6 h
          · omega
        · rcases hat' j hj with h | h
          · rcases h7 j h with h | h
            · exact .inl h
            · exact .inr (.inl h)
          · exact .inr (.inr ⟨by omega, by have := (hl9 j hj).2; omega⟩)
        · rcases hat' j h with h | h
          · exact h8 j hj h
          · have := hS2b j hj
            omega
        · rcases hat' y h with h | h
          · exact h9 y hy h
          · have := hbs7 y hy
            omega
        · rcases hj with hj | hj
          · exact ⟨by omega, fun h => by have := hown j h; omega⟩
          · exact ⟨(hS2b j hj).2.2.1, h8 j hj⟩
        · exact (K'.block y ⟨(hmk y hy).2.2, h9 y hy⟩ (lt_of_block (h11 y hy))).trans (h11 y hy)
        · rcases hj with hj | hj
          · rcases hj with rfl | hj
            · exact ⟨by omega, h5⟩
            · have := hTW j (.inr (.inr hj))
              exact ⟨by omega, fun h => by have := hown j h; omega⟩
          · refine ⟨by omega, fun h => ?_⟩
            rcases h7 j h with h | h
            · omega
            · exact hj.2 h
      · rintro S' A ⟨h1, ⟨v, h2, h3, h4, h5, h6, h7, h8, h9⟩, h10, h11⟩ hop hlt'
        refine wm ?_
        refine ArrM.again (μ := fun x : List Int × List Int × List Nat => x.2.2.map Sx.mark) (i := (st ++ [k], pre, bs)) (st ++ kids.reverse, pre ++ [k], w7.heap.size :: bs) has ⟨h1, ⟨v, S2, h2, ?_, h4, h10, fun j hj => ?_, fun y hy => ?_⟩, fun y hy => ?_, ?_, ?_, fun y hy => ?_⟩ ?_
        · rw [backL_snd] at h3
          exact h3
        · have h := hS2b j hj
          refine ⟨h.1, by omega, h.2.2.1, h8 j hj, fun hy => ?_⟩
          rcases List.mem_cons.1 hy with hy | hy
          · omega
          · exact h.2.2.2.2 hy
        · rcases List.mem_cons.1 hy with rfl | hy
          · exact h6
          · exact h9 y hy
        · rcases List.mem_cons.1 hy with rfl | hy
          · exact ⟨hop, by omega, by omega⟩
          · exact ⟨h11 y hy, (hmk y hy).2⟩
        · exact List.nodup_cons.2 ⟨fun hy => by have := hbs7 _ hy; omega, hnd⟩
        · rw [hall', List.reverse_append, List.reverse_reverse, List.flatMap_append]
        · rcases List.mem_append.1 hy with hy | hy
          · exact hin y (List.mem_append_left _ hy)
          · have := hdk y (by simpa using hy)
            omega
        · have := hprefix.length_le
          simp only [List.length_append, List.length_singleton] at this ⊢
          omega
    · refine ⟨_, rfl, ?_⟩
      refine WlM.op rfl rfl rfl ?_
      refine wk ?_
      refine WlM.done (ArrM.next ?_)
      refine WM.yes rfl ?_
      refine wm ?_
      have hs6 := hk6.size
      refine leaveEnd (bs := bs) rfl (fun b hb => ?_) hnd (fun w' hk' => .inr ⟨_, S2, hprefix, hJx _ _ _ _ hJ2 (hk'.mono (fun j hj hjb => ?_))⟩) .ret (.inr rfl)
      · have h1 := hmk b hb
        have h2 := lt_of_block h1.1
        exact (hk6.block b (.inr ⟨h1.2.1, fun hSb => (hS b hSb).2.2.2.2 hb⟩) (by omega)).trans ((k5 b h1.2.2).trans h1.1)
      · have h1 := hmk j hjb
        have h2 := lt_of_block h1.1
        rcases hj with hj | hj
        · omega
        · rcases hS2 j hj with h | h
          · exact (hS j h).2.2.2.2 hjb
          · omega
  · have hst : stk = [] := List.eq_nil_of_length_eq_zero (by omega)
    subst hst
    refine wm ?_
    simp only [List.reverse_nil, List.flatMap_nil, List.append_nil] at hrest
    subst hrest
    refine leaveEnd (bs := bs) rfl (fun b hb => (hmk b hb).1) hnd (fun w' hk' => .inl ⟨S, hJ _ _ _ _ hJ1 (hk'.mono (fun j hj hjb => ?_))⟩) .normal (.inl rfl)
    rcases hj with hj | hj
    · have := (hmk j hjb).2.1
      omega
    · exact (hS j hj).2.2.2.2 hjb
end Go.Proofs.Ytbadjlhijbkbbaa

/-
  What is gathered of the leaves under a node.
-/
set_option linter.unusedVariables false
namespace Go.Proofs.Ytbadjlhijbkbbaa
open Go Go.RowKit Sx Arena
variable {S S' : Nat → Prop} {w w0 w' : World} {base p : Nat} {ns : List Nd} {A : Option Addr} {c : Nat}
/-- Something of each leaf. -/
def picks (ns : List Nd) (f : Nd → Int) (l : List Int) : List Int := (l.filter fun k => (nd ns k).leaf).map fun k => f (nd ns k)
theorem picks_snoc (ns : List Nd) (f : Nd → Int) (l : List Int) (k : Int) : picks ns f (l ++ [k]) = picks ns f l ++ if (nd ns k).leaf = true then [f (nd ns k)] else [] := by
  simp only [picks, List.filter_append, List.map_append]
  congr 1
  rw [List.filter_cons]
  split <;> rfl
theorem leaveRet {P : Program} {fn : Func} {N : Nat} {bs : List Nat} {Φ : Value → World → Prop} {σ : Sl} {t : Tmp} {v : Value} (hr : fn.results = #[.tmp t]) (hl : σ.lookup t = some v) (ho : ∀ b ∈ bs, isOpen w b) (hd : bs.Nodup) (h : ∀ w', Keeps (fun k => k ∉ bs) w w' → Φ v w') :
    ArrM (bs.map Sx.mark) (bodyPostM Fence.wide 0 P fn (Ret Φ)) N .ret σ w := ⟨fun a ha => by
  have hdef : (onto (bs.map Sx.mark) a).defers = bs.map Sx.mark := by simp [ha.defers]
  have key : LeavesInM Fence.wide 0 P fn (onto (bs.map Sx.mark) a).tmps (Ret Φ) (onto (bs.map Sx.mark) a).defers .returning w := by
    rw [hdef]
    refine leavesM bs w ho hd (fun w' hk => ⟨v, ?_, v, rfl, h w' hk⟩)
    rw [results_tmp hr, ha.get t v hl]
  exact key⟩
/-- A literal of one number. -/
def litF (y : Int) : Fact Ext := ⟨fun v w => ∃ b, v = .slice (some ⟨b, 0, none⟩) 1 1 ∧ Blk w b #[.int .i64 y] 3, fun e h => by
  obtain ⟨b, h1, h2⟩ := h
  exact ⟨b, h1, h2.ext e⟩⟩
structure Gat (b7 B : Nat) (W : World) (vals : List Int → List Int) (pre : List Int) (S : Nat → Prop) (A : World) : Prop where
  keeps : Keeps (fun k => k < B ∧ k ≠ b7) W A
  own : ∃ v, Blk A b7 #[v] 28 ∧ OwnI A (B + 2) v (vals pre) ∧ ∀ j, v.ownBlock = some j → S j
theorem picks_length (ns : List Nd) (f : Nd → Int) (l : List Int) : (picks ns f l).length ≤ l.length := by
  rw [picks, List.length_map]
  exact List.length_filter_le _ _
theorem under_in (hd : Down ns) {i : Int} : ∀ k ∈ under ns i, 0 ≤ k ∧ k < ns.length := by
  intro k hk
  rw [under] at hk
  split at hk
  · rename_i h
    simp only [isIn, decide_eq_true_eq] at h
    have key : ∀ (f : Nat) (i : Int), 0 ≤ i → i < ns.length → ∀ k ∈ pre ns f i, 0 ≤ k ∧ k < ns.length := by
      intro f
      induction f with
      | zero => intro i _ _ k hk; simp [pre] at hk
      | succ f ih =>
        intro i h0 h1 k hk
        rw [pre] at hk
        rcases List.mem_cons.1 hk with rfl | hk
        · exact ⟨h0, h1⟩
        · obtain ⟨x, hx, hk⟩ := List.mem_flatMap.1 hk
          rw [nd_int h0] at hx
          have := hd _ x hx
          exact ih x this.1 (by omega) k hk
    exact key _ i h.1 h.2 k hk
  · cases hk
set_option maxRecDepth 20000 in
set_option maxHeartbeats 2000000 in
theorem gGather (h : TreeAt w base p ns) (hb : base ≤ w.heap.size) (hn : ns.length ≤ 1000000000) (hd : Down ns) {i : Int} (hall : (under ns i).length ≤ 1000000000) {gf : Nat} {f : Nd → Int} (eg : Enters Try.prog gf)
    (hf : ∀ {x : Nd} {A : Option Addr} {c : Nat} {w : World}, Calls Try.prog gf [.agg #[.int .i64 x.sym, .int .i64 x.val, .int .i64 x.rule, .slice A x.kids.length c]].toArray w (Ret fun v w' => v = .int .i64 (f x) ∧ Ext w w')) :
    Calls Try.prog 104 [.pointer (some ⟨p, 0, none⟩), .int .i64 i, .func (.func gf) #[] #[]].toArray w (Ret fun v w' => OwnI w' w.heap.size v (picks ns f (under ns i)) ∧ Ext w w') := by
  obtain ⟨A, c, hp, hc, hbp, hr⟩ := h.row hn
  refine enterM Try.func104 rfl Try.ntmps104 rfl ?_
  refine wm ?_
  refine Wop.box rfl (fun w1 e1 b1 z1 => ?_)
  refine wm ?_
  refine Wop.box rfl (fun w2 e2 b2 z2 => ?_)
  refine wm ?_
  refine Wop.alloc (z := .slice none 0 0) Try.zeroValue28 (fun w3 e3 b3 z3 => ?_)
  have e23 := e2.trans e3
  have e13 := e1.trans e23
  have s1 := e1.size
  have s2 := e2.size
  have s3 := e3.size
  refine wm ?_
  refine Wop.fn en107 rfl (gUnder i) ?_
  rintro _ w4 ⟨rfl, h1, h2, e4⟩
  have e14 := e13.trans e4
  have s4 := e4.size
  have l1 := h1.lt
  have l2 := h2.lt
  refine wm ?_
  have hp4 := hp.ext e14
  have hplt := hp.lt
  have hr4 := (hr.lt (by decide)).ext (by decide) e14
  have hT : ∀ k, (k = w3.heap.size ∨ k = w3.heap.size + 1 ∨ (base ≤ k ∧ k < w.heap.size)) → k < w4.heap.size := fun k hk => by omega
  refine WM.range (encs := fun x : Int => #[.int .i64 x]) (xs := under ns i) (T := fun k => k = w3.heap.size ∨ k = w3.heap.size + 1 ∨ (base ≤ k ∧ k < w.heap.size)) (w0 := w4) rfl en143 (under_iter (T0 := fun k => base ≤ k ∧ k < w.heap.size) hall hd (fun k hk => by omega) h1 h2 hp4 ⟨hbp, hplt⟩ (hr4.mono (fun k hk => ⟨hk.1.1, hk.2⟩))) hT (Keeps.refl _ _) (fun _ => rfl) ?_
    (Gat w2.heap.size w4.heap.size w4 (picks ns f)) (fun _ _ _ => False) ?_ (fun _ _ _ _ h _ => h) ?_ (fun x => [(3, .pointer (some ⟨w.heap.size, 0, none⟩)), (5, .pointer (some ⟨w1.heap.size, 0, none⟩)), (7, .pointer (some ⟨w2.heap.size, 0, none⟩)), (8, .int .i64 x)]) ?_ ?_ ?_ (fun _ _ _ _ h => h.elim)
  · simp
  · rintro pre S A B ⟨g1, v, g2, g3, g4⟩ hK
    exact ⟨g1.trans (hK.mono (fun k hk => .inl hk.1)), v, hK.blk g2 (.inl (by omega)), g3.move (fun j hj => hK.block j (.inr (g4 j hj)) (g3.lt j hj).2), g4⟩
  · exact ⟨Keeps.refl _ _, _, b3.ext e4, Sx.Own.nil _ _ _ _, fun j hj => by cases hj⟩
  · intro l2 x A2
    have hz : ((#[12] : Array Nat).zip #[Value.int .i64 x]).toList = [(12, .int .i64 x)] := by simp
    rw [hz]
    refine wm ?_
    refine ArrM.bound ?_
    exact has
  · rintro l2 pre x S A1 ⟨g1, v, g2, g3, g4⟩ hpx hsz hS
    have hx : 0 ≤ x ∧ x < ns.length := under_in hd x (hpx.subset (by simp))
    have hpl := picks_length ns f pre
    have hpl2 := hpx.length_le
    rw [List.length_append, List.length_singleton] at hpl2
    have hb1 : Blk A1 w.heap.size #[.pointer (some ⟨p, 0, none⟩)] 56 := g1.blk ((b1.ext e23).ext e4) (by omega)
    have hb2 : Blk A1 w1.heap.size #[.func (.func gf) #[] #[]] 128 := g1.blk ((b2.ext e3).ext e4) (by omega)
    have hpA := g1.blk hp4 (show p < w4.heap.size ∧ p ≠ w2.heap.size by omega)
    have hrA := hr4.keep (by decide) g1 (fun k hk => (show k < w4.heap.size ∧ k ≠ w2.heap.size by have := hk.2; omega))
    have hsA := g1.size
    obtain ⟨b', o', rfl, es', hrd, hcc'⟩ := hrA.at_ x.toNat (by omega)
    obtain ⟨A1', c1, rfl, hcap, _, _, _, hkids⟩ := tNd_open hrd
    have hnx : nd ns x = ns[x.toNat] := by rw [nd_int hx.1, nd_lt]
    have hcell := hcc' 4 _ rfl
    refine wm ?_
    refine Wop.ixI TT x.toNat rfl rfl rfl rfl rfl (by omega) (by omega) ?_
    refine wm ?_
    have hown := g3.lt
    refine WM.cond rfl (fun q => ?_) (fun q => ?_)
    · have hcs : ∀ (k : Nat) (u : Value), [Value.int .i64 ns[x.toNat].sym, .int .i64 ns[x.toNat].val, .int .i64 ns[x.toNat].rule, .slice A1' ns[x.toNat].kids.length c1][k]? = some u → A1.cell? ⟨b', o' + x.toNat * 6 + 0 + k, none⟩ = some u := fun k u hk => by
        have h4 : k < 4 := by have := (List.getElem?_eq_some_iff.1 hk).1; simpa using this
        refine hcc' k u ?_
        rw [← hk]
        rcases k with _ | _ | _ | _ | k
        · rfl
        · rfl
        · rfl
        · rfl
        · omega
      refine WM.any mixed rfl ?_
      refine Wa.anyCut Ext [.eq _, .eq _, .eq _, .eq _, .eq _, .eq _, .eq _, .eq _, .eq _, .eq _, .eq _, (litF (f ns[x.toNat]))] 12 [0, 11] mixed rfl Ext.refl Ext.trans Ext.drew rfl rfl ⟨qs, qs, qs, qs, qs, qs, qs, by intro w_ hG; (repeat (intro v_ hv_; cases hv_)); refine WopG.plain rfl (Wop.ixI TT x.toNat rfl rfl rfl rfl rfl (by omega) (by omega) ?_); refine ⟨Ext.refl _, ?_⟩; show _ = _; exact rfl, qs, qs, by intro w_ hG; (repeat (intro v_ hv_; cases hv_)); exact WopG.plain rfl (Wop.fnV (cap := []) eg rfl rfl hf (fun v w' h => ⟨h.2, h.1⟩)), by intro w_ hG; (repeat (intro v_ hv_; cases hv_)); exact WopG.plain rfl (Wop.litI rfl (fun w' e1 b1 z1 => ⟨e1, _, rfl, b1⟩)), trivial⟩ ?_
      rintro wq eq_ _ ⟨⟩ v11 h11
      obtain ⟨bb, rfl, hbb⟩ := h11
      have hsq := eq_.size
      refine wk ?_
      refine Wop.appI rfl rfl hbb (g3.ext eq_) (by omega) (by omega) (fun v' w9 ho9 hb9 hg9 hat => ?_)
      have kg := keeps_grown hg9
      have hs9 := kg.size
      obtain ⟨Av', cv', rfl, _⟩ := ho9.slice
      have hb79 := kg.blk (g2.ext eq_) (fun h => by have := hS _ (g4 _ h); omega)
      refine wk ?_
      refine Wop.stC TT rfl rfl rfl rfl hb79 rfl (fun w10 g10 b10 z10 k10 => ?_)
      refine wm ?_
      have hl9 := fun j hj => (ho9.lt j hj)
      generalize hvv : (Value.slice Av' (picks ns f pre ++ [f ns[x.toNat]]).length cv') = v' at *
      have K' : Keeps (fun j => j ≠ w2.heap.size ∧ v.ownBlock ≠ some j) A1 w10 := ((Ext.keeps eq_).trans (kg.mono (fun j hj => hj.2))).trans ⟨g10.os, g10.tape, g10.output, g10.size, fun j hj _ => k10 j hj.1⟩
      have hat' : ∀ j, v'.ownBlock = some j → v.ownBlock = some j ∨ j = wq.heap.size := fun j hj => by
        rcases hat with h | h
        · exact .inl (h ▸ hj)
        · rw [h] at hj
          exact .inr (Option.some.inj hj).symm
      refine ⟨fun a ha => ⟨fun j => S j ∨ (A1.heap.size ≤ j ∧ j < w10.heap.size), ⟨g1.trans (K'.mono (fun j hj => ⟨hj.2, fun h => ?_⟩)), v', b10, ?_, fun j hj => ?_⟩, fun j hj => hj, K'.mono (fun j hj => ?_)⟩⟩
      · have := hS _ (g4 _ h)
        omega
      · rw [picks_snoc, hnx, if_pos q]
        refine ho9.move (fun j hj => k10 j (fun e => ?_))
        rcases hat' j hj with h | h
        · have := hS _ (g4 _ h)
          omega
        · omega
      · rcases hat' j hj with h | h
        · exact .inl (g4 _ h)
        · exact .inr ⟨by omega, by have := (hl9 j hj).2; omega⟩
      · rcases hj with hj | hj
        · exact ⟨by omega, fun h => by have := hS _ (g4 _ h); omega⟩
        · exact ⟨by omega, fun h => hj.2 (g4 _ h)⟩
    · refine wm ?_
      refine ⟨fun a ha => ⟨S, ⟨g1, v, g2, ?_, g4⟩, fun j hj => .inl hj, Keeps.refl _ _⟩⟩
      rw [picks_snoc, hnx, q]
      simpa using g3
  · rintro S A1 ⟨g1, v, g2, g3, g4⟩ hop hlt
    refine wm ?_
    refine leaveRet (bs := [w4.heap.size]) rfl rfl (by simpa using hop) (by simp) (fun w' hk => ⟨?_, ?_⟩)
    · refine (g3.move (fun j hj => hk.block j ?_ (g3.lt j hj).2)).lower (by omega)
      have := (g3.lt j hj).1
      simp
      omega
    · exact Below.trans (Below.trans e14 (Keeps.below g1 (by omega) (fun k hk => by omega))) (Keeps.below hk (by have := g1.size; omega) (fun k hk => by simp; omega))
theorem gLeaves1T (h : TreeAt w base p ns) (hb : base ≤ w.heap.size) (hn : ns.length ≤ 1000000000) (hd : Down ns) {i : Int} (hall : (under ns i).length ≤ 1000000000) :
    Calls Try.prog 52 [.pointer (some ⟨p, 0, none⟩), .int .i64 i].toArray w (Ret fun v w' => OwnI w' w.heap.size v (picks ns (·.val) (under ns i)) ∧ Ext w w') := by
  refine enter Try.func52 rfl Try.ntmps52 rfl ?_
  refine wk ?_
  refine Wop.fn en104 rfl (gGather h hb hn hd hall en105 (fun {x A c w} => gLeaves1)) ?_
  rintro v w1 ⟨ho, e1⟩
  refine wk ?_
  exact Arr.ret1 rfl rfl ⟨ho, e1⟩
theorem gYield1T (h : TreeAt w base p ns) (hb : base ≤ w.heap.size) (hn : ns.length ≤ 1000000000) (hd : Down ns) {i : Int} (hall : (under ns i).length ≤ 1000000000) :
    Calls Try.prog 56 [.pointer (some ⟨p, 0, none⟩), .int .i64 i].toArray w (Ret fun v w' => OwnI w' w.heap.size v (picks ns (·.sym) (under ns i)) ∧ Ext w w') := by
  refine enter Try.func56 rfl Try.ntmps56 rfl ?_
  refine wk ?_
  refine Wop.fn en104 rfl (gGather h hb hn hd hall en106 (fun {x A c w} => gYield1)) ?_
  rintro v w1 ⟨ho, e1⟩
  refine wk ?_
  exact Arr.ret1 rfl rfl ⟨ho, e1⟩
end Go.Proofs.Ytbadjlhijbkbbaa
