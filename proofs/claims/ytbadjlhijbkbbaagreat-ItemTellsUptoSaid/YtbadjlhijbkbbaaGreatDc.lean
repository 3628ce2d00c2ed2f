/-
  Joined by program out of the texts Srt Srt2 Cmp Ig1: lemmas for the proofs of this seat; no condition.
-/
import Derived.Shelf.SlSortCmp.NoneTotal
import Derived.Test.YtbadjlhijbkbbaaGreatDa
import Derived.Test.YtbadjlhijbkbbaaGreatBg
set_option maxHeartbeats 1000000
/-
  slices.SortFunc of items.
-/
set_option linter.unusedVariables false
namespace Go.Proofs.YtbadjlhijbkbbaaGreat
open Go Go.RowKit Sx
variable {S S' : Nat → Prop} {w w' : World}
def laySF_ren : Go.Shelf.Ren := ⟨fun | 6 => 153 | 15 => 125 | 14 => 195 | 28 => 175 | 29 => 176 | 20 => 217 | 21 => 218 | 22 => 219 | 23 => 220 | 24 => 221 | 25 => 222 | 26 => 223 | 27 => 224 | 46 => 228 | 47 => 199 | 48 => 200 | 49 => 229 | 50 => 230 | 57 => 231 | n => n, fun | 22 => 68 | 24 => 73 | 25 => 190 | 3 => 3 | 39 => 167 | 0 => 0 | 53 => 206 | 55 => 208 | 4 => 4 | 46 => 200 | 45 => 199 | 50 => 70 | 5 => 5 | 9 => 9 | 66 => 221 | 70 => 225 | 76 => 242 | 77 => 243 | n => n, fun | n => n⟩
theorem laySF : Go.Proofs.SlLaysF0.n6 Tryz.prog laySF_ren := {
  mixed := by kernel_rfl,
  f6 := ⟨Tryz.f153.name, by decide, Tryz.func153.trans (congrArg some (by kernel_rfl))⟩,
  f14 := ⟨Tryz.f195.name, by decide, Tryz.func195.trans (congrArg some (by kernel_rfl))⟩,
  f15 := Tryz.func125.trans (congrArg some (by kernel_rfl)),
  f20 := ⟨Tryz.f217.name, by decide, Tryz.func217.trans (congrArg some (by kernel_rfl))⟩,
  f21 := ⟨Tryz.f218.name, by decide, Tryz.func218.trans (congrArg some (by kernel_rfl))⟩,
  f22 := ⟨Tryz.f219.name, by decide, Tryz.func219.trans (congrArg some (by kernel_rfl))⟩,
  f23 := ⟨Tryz.f220.name, by decide, Tryz.func220.trans (congrArg some (by kernel_rfl))⟩,
  f24 := ⟨Tryz.f221.name, by decide, Tryz.func221.trans (congrArg some (by kernel_rfl))⟩,
  f25 := ⟨Tryz.f222.name, by decide, Tryz.func222.trans (congrArg some (by kernel_rfl))⟩,
  f26 := ⟨Tryz.f223.name, by decide, Tryz.func223.trans (congrArg some (by kernel_rfl))⟩,
  f27 := ⟨Tryz.f224.name, by decide, Tryz.func224.trans (congrArg some (by kernel_rfl))⟩,
  f28 := Tryz.func175.trans (congrArg some (by kernel_rfl)),
  f29 := Tryz.func176.trans (congrArg some (by kernel_rfl)),
  f46 := ⟨Tryz.f228.name, by decide, Tryz.func228.trans (congrArg some (by kernel_rfl))⟩,
  f47 := Tryz.func199.trans (congrArg some (by kernel_rfl)),
  f48 := Tryz.func200.trans (congrArg some (by kernel_rfl)),
  f49 := ⟨Tryz.f229.name, by decide, Tryz.func229.trans (congrArg some (by kernel_rfl))⟩,
  f50 := ⟨Tryz.f230.name, by decide, Tryz.func230.trans (congrArg some (by kernel_rfl))⟩,
  f57 := ⟨Tryz.f231.name, by decide, Tryz.func231.trans (congrArg some (by kernel_rfl))⟩,
  t0 := Tryz.underlying0,
  a0 := Tryz.isAgg0,
  z0 := Tryz.sizeOf0,
  v0 := Tryz.zeroValue0,
  t3 := Tryz.underlying3,
  a3 := Tryz.isAgg3,
  z3 := Tryz.sizeOf3,
  v3 := Tryz.zeroValue3,
  t4 := Tryz.underlying4,
  a4 := Tryz.isAgg4,
  z4 := Tryz.sizeOf4,
  v4 := Tryz.zeroValue4,
  t5 := Tryz.underlying5,
  a5 := Tryz.isAgg5,
  z5 := Tryz.sizeOf5,
  v5 := Tryz.zeroValue5,
  t9 := Tryz.underlying9,
  a9 := Tryz.isAgg9,
  z9 := Tryz.sizeOf9,
  v9 := Tryz.zeroValue9,
  t22 := Tryz.underlying68,
  a22 := Tryz.isAgg68,
  z22 := Tryz.sizeOf68,
  v22 := Tryz.zeroValue68,
  t25 := Tryz.underlying190,
  a25 := Tryz.isAgg190,
  z25 := Tryz.sizeOf190,
  v25 := Tryz.zeroValue190,
  t39 := Tryz.underlying167,
  a39 := Tryz.isAgg167,
  z39 := Tryz.sizeOf167,
  v39 := Tryz.zeroValue167,
  t45 := Tryz.underlying199,
  a45 := Tryz.isAgg199,
  z45 := Tryz.sizeOf199,
  v45 := Tryz.zeroValue199,
  t46 := Tryz.underlying200,
  a46 := Tryz.isAgg200,
  z46 := Tryz.sizeOf200,
  v46 := Tryz.zeroValue200,
  t50 := Tryz.underlying70,
  a50 := Tryz.isAgg70,
  z50 := Tryz.sizeOf70,
  v50 := Tryz.zeroValue70,
  t53 := Tryz.underlying206,
  a53 := Tryz.isAgg206,
  z53 := Tryz.sizeOf206,
  v53 := Tryz.zeroValue206,
  t55 := Tryz.underlying208,
  a55 := Tryz.isAgg208,
  z55 := Tryz.sizeOf208,
  v55 := Tryz.zeroValue208,
  t66 := Tryz.underlying221,
  a66 := Tryz.isAgg221,
  z66 := Tryz.sizeOf221,
  v66 := Tryz.zeroValue221,
  t70 := Tryz.underlying225,
  a70 := Tryz.isAgg225,
  z70 := Tryz.sizeOf225,
  v70 := Tryz.zeroValue225,
  t76 := Tryz.underlying242,
  a76 := Tryz.isAgg242,
  z76 := Tryz.sizeOf242,
  v76 := Tryz.zeroValue242,
  t77 := Tryz.underlying243,
  a77 := Tryz.isAgg243,
  z77 := Tryz.sizeOf243,
  v77 := Tryz.zeroValue243 }
/-- Draws, and blocks behind. -/
def Gro (a b : World) : Prop := ∃ q os, b = Sort.grow (a.drewN q) os
theorem Gro.refl (a : World) : Gro a a := ⟨0, #[], by rw [Sort.grow_empty]; rfl⟩
theorem Gro.trans {a b c : World} (h : Gro a b) (k : Gro b c) : Gro a c := by
  obtain ⟨q, os, rfl⟩ := h
  obtain ⟨q', os', rfl⟩ := k
  refine ⟨q + q', os ++ os', ?_⟩
  rw [show (Sort.grow (a.drewN q) os).drewN q' = Sort.grow (a.drewN (q + q')) os by simp [Sort.grow, World.drewN, Nat.add_assoc], Sort.grow_grow]
theorem Gro.drew (a : World) : Gro a { a with drawn := a.drawn + 1 } := ⟨1, #[], by rw [Sort.grow_empty]; rfl⟩
theorem Gro.alloc (a : World) (o : Obj) : Gro a (a.alloc o) := ⟨0, #[o], by rw [Sort.alloc_eq_grow]; rfl⟩
theorem Gro.ext {a b : World} (h : Gro a b) : Ext a b := by
  obtain ⟨q, os, rfl⟩ := h
  exact ⟨rfl, rfl, rfl, by simp [Sort.grow, World.drewN], fun k hk => Sort.heap_grow_old (a.drewN q) os hk⟩
def cmpI (x y : Int) : Int := if x < y then -1 else if x > y then 1 else 0
theorem kNaN (x : Int) : Calls Tryz.prog 177 [.int .i64 x].toArray w (Ret fun v w' => v = .bool false ∧ w' = w) := by
  refine enter Tryz.func177 rfl Tryz.ntmps177 rfl ?_
  refine wk ?_
  exact Arr.ret1 rfl rfl ⟨congrArg Value.bool (decide_eq_false (by simp)), rfl⟩
theorem kCompare (x y : Int) : Calls Tryz.prog 126 [.int .i64 x, .int .i64 y].toArray w (Ret fun v w' => v = .int .i64 (cmpI x y) ∧ w' = w) := by
  refine enter Tryz.func126 rfl Tryz.ntmps126 rfl ?_
  refine wk ?_
  refine Wop.fn en177 rfl (kNaN x) ?_
  rintro _ _ ⟨rfl, rfl⟩
  refine wk ?_
  refine Wop.fn en177 rfl (kNaN y) ?_
  rintro _ _ ⟨rfl, rfl⟩
  refine wk ?_
  unfold cmpI
  refine W.test rfl (fun h => ?_) (fun h => ?_)
  · refine wk ?_
    exact Arr.ret1 rfl rfl ⟨by rw [if_pos h], rfl⟩
  · refine wk ?_
    refine W.test rfl (fun h' => ?_) (fun h' => ?_)
    · refine wk ?_
      exact Arr.ret1 rfl rfl ⟨by rw [if_neg h, if_pos h'], rfl⟩
    · refine wk ?_
      exact Arr.ret1 rfl rfl ⟨by rw [if_neg h, if_neg h'], rfl⟩
theorem kOr2 {x y : Int} {b : Nat} {T : TypeId} (hb : Blk w b #[.int .i64 x, .int .i64 y] T) : Calls Tryz.prog 155 [.slice (some ⟨b, 0, none⟩) 2 2].toArray w (Ret fun v w' => v = .int .i64 (if x ≠ 0 then x else y) ∧ w' = w) := by
  refine enter Tryz.func155 rfl Tryz.ntmps155 rfl ?_
  refine wk ?_
  refine W.loop (ι := Nat) (fun i => [(3, .int .i64 0), (6, .slice (some ⟨b, 0, none⟩) 2 2), (7, .int .i64 2), (8, .int .i64 (i : Int))]) (fun i w' => w' = w ∧ i ≤ 2 ∧ (0 < i → x = 0) ∧ (1 < i → y = 0)) (fun i => 2 - i) 0 has ⟨rfl, by omega, by omega, by omega⟩ ?_
  rintro i _ ⟨rfl, hi, h1, h2⟩
  refine wk ?_
  refine W.test rfl (fun hlt => ?_) (fun hge => ?_)
  · have : i = 0 ∨ i = 1 := by omega
    rcases this with rfl | rfl
    · refine wk ?_
      refine W.test rfl (fun h => ?_) (fun h => ?_)
      · refine wk ?_
        exact Arr.ret1 rfl rfl ⟨by rw [if_pos h]; rfl, rfl⟩
      · refine wk ?_
        exact Arr.again 1 has ⟨rfl, by omega, fun _ => Decidable.not_not.1 h, by omega⟩ (by omega)
    · refine wk ?_
      refine W.test rfl (fun h => ?_) (fun h => ?_)
      · refine wk ?_
        exact Arr.ret1 rfl rfl ⟨by rw [if_neg (by simp [h1 (by omega)])]; rfl, rfl⟩
      · refine wk ?_
        exact Arr.again 2 has ⟨rfl, by omega, fun _ => h1 (by omega), fun _ => Decidable.not_not.1 h⟩ (by omega)
  · obtain rfl : i = 2 := by omega
    refine wk ?_
    exact Arr.ret1 rfl rfl ⟨by rw [if_neg (by simp [h1 (by omega)]), h2 (by omega)], rfl⟩
def cmpItm (a b : Itm) : Int := if cmpI a.rule b.rule ≠ 0 then cmpI a.rule b.rule else cmpI a.dot b.dot
theorem cmpI_neg {x y : Int} : cmpI x y < 0 ↔ x < y := by
  unfold cmpI
  split
  · simp [*]
  · split
    · simp; omega
    · simp; omega
theorem cmpI_zero {x y : Int} : cmpI x y = 0 ↔ x = y := by
  unfold cmpI
  split
  · simp; omega
  · split
    · simp; omega
    · simp; omega
theorem ltItm (a b : Itm) : ltOf cmpItm a b = Itm.less a b := by
  rw [ltOf, cmpItm, Itm.less]
  refine decide_eq_decide.2 ?_
  by_cases h : cmpI a.rule b.rule = 0
  · rw [if_neg (by simp [h]), cmpI_neg]
    have := cmpI_zero.1 h
    omega
  · rw [if_pos h, cmpI_neg]
    have : a.rule ≠ b.rule := fun e => h (cmpI_zero.2 e)
    omega
theorem swoItm : Sort.SWO (ltOf cmpItm) := by
  refine ⟨fun x => by rw [ltItm]; exact Itm.less_irrefl x, fun x y z => by rw [ltItm, ltItm, ltItm]; exact Itm.less_trans, fun x y z => ?_⟩
  rw [ltItm, ltItm, ltItm]
  simp only [Itm.less, decide_eq_false_iff_not]
  omega
def litF (cs : Array Value) (T : TypeId) (n : Nat) : Fact Gro := ⟨fun v w => ∃ b, v = .slice (some ⟨b, 0, none⟩) n n ∧ Blk w b cs T, fun e h => by obtain ⟨b, h1, h2⟩ := h; exact ⟨b, h1, h2.ext e.ext⟩⟩
theorem Wop.boxG {P : Program} {Q : Exit → Act → World → Prop} {N : Nat} {σ : Sl} {w : World} {K : Value → World → Prop} {d : Option Tmp} {ty : TypeId} {ps : String} {af : Array Edge} {gd : Option (Nat × Bool)} {t : TypeId} {x : Operand} {v : Value}
    (hx : Sx.look σ x = some v) (hk : ∀ w', Gro w w' → Blk w' w.heap.size v.cells t → w'.heap.size = w.heap.size + 1 → K (.pointer (some ⟨w.heap.size, 0, none⟩)) w') : Wop P Q N ⟨d, .box t x, ty, ps, af, gd⟩ σ w K :=
  Wop.val (w' := w.alloc (.cells v.cells t)) (fun ρ h => by simp [execOp, h x v hx, Instr.box, newVar, newRow]) (hk _ (Gro.alloc _ _) (Blk.alloc _ _ _) (by simp))
theorem Wop.buildG {P : Program} {Q : Exit → Act → World → Prop} {N : Nat} {σ : Sl} {w : World} {K : Value → World → Prop} {d : Option Tmp} {ty : TypeId} {ps : String} {af : Array Edge} {gd : Option (Nat × Bool)} (T : Tab P) {t e : TypeId} {len sz : Nat} {parts : Array (Nat × Operand)} {us : List Value} {z : Value} {cs : Array Value} (ht : nth T.kinds t = some 1) (he : nth T.elems t = some e) (hs : nth T.sizes e = some sz) (hz : ∀ w, (zeroValue e).run P w = .ok z w)
    (hx : lookL σ (parts.toList.map (·.2)) = some us) (hsm : Nat.ble (len * sz) 16777216 = true)
    (hf : Instr.fill (fun i => some (i * sz, sz)) ((List.range (len * sz)).map (z.cells[· % z.cells.size]!)).toArray ((parts.toList.map (·.1)).zip us) = some cs) (h0 : (len * sz == 0) = false)
    (hk : ∀ w', Gro w w' → Blk w' w.heap.size cs e → K (.slice (some ⟨w.heap.size, 0, none⟩) len len) w') : Wop P Q N ⟨d, .buildSlice t len parts, ty, ps, af, gd⟩ σ w K := by
  refine Wop.val (w' := w.alloc (.cells cs e)) (fun ρ h => ?_) (hk _ (Gro.alloc _ _) (Blk.alloc _ _ _))
  have h1 := zip_of h hx
  rw [← range_map] at hf
  have hsm' : ¬ (len * sz > 16777216) := by simpa using hsm
  have h0' : ¬ (len * sz = 0) := by simpa using h0
  simp [execOp, Instr.buildSlice, run_underlying (T.slice t e ht he), T.size e sz hs, hsm', h0', hz, h1, hf, newRow]
set_option maxHeartbeats 1000000 in
theorem kSorted1 (x y : Itm) : Calls Tryz.prog 154 [vItm x, vItm y].toArray w (Ret fun v w' => v = .int .i64 (cmpItm x y) ∧ Gro w w') := by
  refine enter Tryz.func154 rfl Tryz.ntmps154 rfl ?_
  refine wk ?_
  refine Wop.boxG rfl (fun w1 e1 b1 z1 => ?_)
  refine wk ?_
  refine Wop.boxG rfl (fun w2 e2 b2 z2 => ?_)
  have b12 := b1.ext e2.ext
  have e12 := e1.trans e2
  refine wk ?_
  refine W.any Gro [.eq _, .eq _, .eq _, .eq _, .eq _, .eq _, .eq _, .eq _, .eq _, .eq _, litF #[.int .i64 (cmpI x.rule y.rule), .int .i64 (cmpI x.dot y.dot)] 3 2, .eq _, .eq _] [12] mixed rfl Gro.refl Gro.trans Gro.drew ⟨by intro w_ hG; exact WopG.plain rfl (Wop.pure TT rfl ⟨Gro.refl _, rfl⟩), by intro w_ hG; rintro _ ⟨⟩; exact WopG.plain rfl (Wop.ldB TT rfl rfl (b12.ext hG.ext) rfl ⟨Gro.refl _, rfl⟩), by intro w_ hG; exact WopG.plain rfl (Wop.pure TT rfl ⟨Gro.refl _, rfl⟩), by intro w_ hG; rintro _ ⟨⟩; exact WopG.plain rfl (Wop.ldB TT rfl rfl (b2.ext hG.ext) rfl ⟨Gro.refl _, rfl⟩), by intro w_ hG; rintro _ ⟨⟩ _ ⟨⟩; exact WopG.plain rfl (Wop.fn en126 rfl (kCompare x.rule y.rule) (fun v w' h => by obtain ⟨rfl, rfl⟩ := h; exact ⟨Gro.refl _, rfl⟩)), by intro w_ hG; exact WopG.plain rfl (Wop.pure TT rfl ⟨Gro.refl _, rfl⟩), by intro w_ hG; rintro _ ⟨⟩; exact WopG.plain rfl (Wop.ldB TT rfl rfl (b12.ext hG.ext) rfl ⟨Gro.refl _, rfl⟩), by intro w_ hG; exact WopG.plain rfl (Wop.pure TT rfl ⟨Gro.refl _, rfl⟩), by intro w_ hG; rintro _ ⟨⟩; exact WopG.plain rfl (Wop.ldB TT rfl rfl (b2.ext hG.ext) rfl ⟨Gro.refl _, rfl⟩), by intro w_ hG; rintro _ ⟨⟩ _ ⟨⟩; exact WopG.plain rfl (Wop.fn en126 rfl (kCompare x.dot y.dot) (fun v w' h => by obtain ⟨rfl, rfl⟩ := h; exact ⟨Gro.refl _, rfl⟩)), by intro w_ hG; rintro _ ⟨⟩ _ ⟨⟩; exact WopG.plain rfl (Wop.buildG (cs := #[.int .i64 (cmpI x.rule y.rule), .int .i64 (cmpI x.dot y.dot)]) TT rfl rfl rfl Tryz.zeroValue3 rfl rfl rfl rfl (fun w' e b => ⟨e, ⟨_, rfl, b⟩⟩)), by intro w_ hG; rintro _ ⟨b, rfl, hb⟩; refine WopG.plain rfl (Wop.fn en155 rfl (kOr2 hb) (fun v w' h => ?_)); obtain ⟨rfl, rfl⟩ := h; exact ⟨Gro.refl _, rfl⟩, by intro w_ hG; rintro _ ⟨⟩; exact WopG.plain rfl (Wop.pure TT rfl ⟨Gro.refl _, rfl⟩), trivial⟩ ?_
  rintro wq hG _ ⟨⟩
  refine wk ?_
  exact Arr.ret1 rfl rfl ⟨rfl, e12.trans hG⟩
end Go.Proofs.YtbadjlhijbkbbaaGreat

/-
  slices.SortFunc of items, in a row of the call's own.
-/
set_option linter.unusedVariables false
namespace Go.Proofs.YtbadjlhijbkbbaaGreat
open Go Go.RowKit Sx
variable {S S' : Nat → Prop} {w w' : World}
def encT (x : Itm) : List Value := [.int .i64 x.rule, .int .i64 x.dot]
theorem rowT_flat : ∀ {xs : List Itm} {cs : List Value}, Ty.RowL tItm S w xs cs → cs = xs.flatMap encT ∧ ∀ x ∈ xs, I64 x.rule ∧ I64 x.dot
  | [], cs, h => ⟨h, fun x hx => by cases hx⟩
  | x :: xs, cs, ⟨es, r, h1, h2, h3⟩ => by
    obtain ⟨rfl, g1, g2⟩ := tItm_open h2
    obtain ⟨rfl, g3⟩ := rowT_flat h3
    exact ⟨h1, fun y hy => by
      rcases List.mem_cons.1 hy with rfl | hy
      · exact ⟨g1, g2⟩
      · exact g3 y hy⟩
theorem rowT_mk : ∀ {xs : List Itm}, (∀ x ∈ xs, I64 x.rule ∧ I64 x.dot) → Ty.RowL tItm S w xs (xs.flatMap encT)
  | [], _ => rfl
  | x :: xs, h => ⟨encT x, xs.flatMap encT, rfl, tItm_mk (h x List.mem_cons_self).1 (h x List.mem_cons_self).2, rowT_mk (fun y hy => h y (List.mem_cons_of_mem _ hy))⟩
theorem flatT_len (xs : List Itm) : (xs.flatMap encT).length = xs.length * 2 := by
  induction xs with
  | nil => rfl
  | cons x xs ih => simp only [List.flatMap_cons, List.length_append, List.length_cons, ih, encT, List.length_nil]; omega
theorem flatT_get : ∀ (xs : List Itm) (t : Nat), t < xs.length * 2 → (xs.flatMap encT)[t]? = some (encT xs.toArray[t / 2]!)[t % 2]!
  | x :: xs, 0, _ => rfl
  | x :: xs, 1, _ => rfl
  | x :: xs, t + 2, h => by
    have ih := flatT_get xs t (by simp only [List.length_cons] at h; omega)
    have e1 : (t + 2) / 2 = t / 2 + 1 := by omega
    have e2 : (t + 2) % 2 = t % 2 := by omega
    have e3 : ((x :: xs).toArray[t / 2 + 1]! : Itm) = xs.toArray[t / 2]! := by simp
    rw [e1, e2, e3, ← ih]
    rfl
theorem flatT_K (xs : List Itm) (t : Nat) (h : t < xs.length * 2) : (Sort.flatK encT 2 xs.toArray)[t]! = (encT xs.toArray[t / 2]!)[t % 2]! := Sort.get_flatK encT 2 xs.toArray t (by simpa using h)
theorem OwnT.own {base : Nat} {v : Value} {xs : List Itm} (h : OwnT w base v xs) : (v = .slice none 0 0 ∧ xs = []) ∨ ∃ g cap cur, v = .slice (some ⟨g, 0, none⟩) xs.length cap ∧ base ≤ g ∧ Blk w g cur 73 ∧ xs.length ≤ cap ∧ cap ≤ maxLen ∧ cur.size = cap * 2 ∧ cur.toList.take (xs.length * 2) = xs.flatMap encT ∧ ∀ x ∈ xs, I64 x.rule ∧ I64 x.dot := by
  obtain ⟨cs, h1, h2⟩ := h
  obtain ⟨rfl, hI⟩ := rowT_flat h2
  rcases h1.2 with ⟨rfl, h0⟩ | ⟨g, cap, cur, hv, hb, hh, hnc, hcm, hcs, htake⟩
  · exact .inl ⟨rfl, List.eq_nil_of_length_eq_zero h0⟩
  · exact .inr ⟨g, cap, cur, hv, hb, hh, hnc, hcm, hcs, htake, hI⟩
theorem OwnT.of_own {base g cap : Nat} {xs : List Itm} {cur : Array Value} (hb : base ≤ g) (hh : Blk w g cur 73) (hnc : xs.length ≤ cap) (hcm : cap ≤ maxLen) (hcs : cur.size = cap * 2) (ht : cur.toList.take (xs.length * 2) = xs.flatMap encT) (hI : ∀ x ∈ xs, I64 x.rule ∧ I64 x.dot) : OwnT w base (.slice (some ⟨g, 0, none⟩) xs.length cap) xs :=
  ⟨_, ⟨flatT_len xs, .inr ⟨g, cap, cur, rfl, hb, hh, hnc, hcm, hcs, ht⟩⟩, rowT_mk hI⟩
theorem sortW_keeps {α : Type} [Inhabited α] (enc : α → List Value) (k : Nat) (w : World) (g n : Nat) (d : Array α) (os : Array Obj) : Keeps (fun j => j ≠ g) w (sortWorldK enc k w g 0 n d os) := by
  refine ⟨rfl, rfl, rfl, by simp [sortWorldK, Sort.grow, Sort.putRowK, Sort.putRow, Sort.mapBlock, Sort.ahead], fun j hj hl => ?_⟩
  rw [sortWorldK, Sort.heap_grow_old _ _ (by simpa [Sort.putRowK, Sort.putRow, Sort.mapBlock, Sort.ahead] using hl)]
  simp [Sort.putRowK, Sort.putRow, Sort.mapBlock, Sort.ahead, Array.getElem?_modify, Ne.symm hj]
theorem sortW_blk {α : Type} [Inhabited α] (enc : α → List Value) (k : Nat) {w : World} {g : Nat} {cur : Array Value} {T : TypeId} (n : Nat) (d : Array α) (os : Array Obj) (hb : Blk w g cur T) : Blk (sortWorldK enc k w g 0 n d os) g (Sort.putCells id 0 (Sort.flatK enc k d) cur) T := by
  have hg : g < w.heap.size := hb.lt
  show (sortWorldK enc k w g 0 n d os).heap[g]? = _
  rw [sortWorldK, Sort.heap_grow_old _ _ (by simpa [Sort.putRowK, Sort.putRow, Sort.mapBlock, Sort.ahead] using hg)]
  have hb' : w.heap[g]? = some (.cells cur T (0, 0)) := hb
  simp [Sort.putRowK, Sort.putRow, Sort.mapBlock, Sort.ahead, Array.getElem?_modify, hb', Sort.onCells]
theorem Itm.sort_perm (xs : List Itm) : (xs.mergeSort fun a b => !Itm.less b a).Perm xs := List.mergeSort_perm _ _
set_option maxHeartbeats 1000000 in
theorem kSort {base : Nat} {v : Value} {xs : List Itm} (h : OwnT w base v xs) (hm : xs.length ≤ 1099511627776) : Calls Tryz.prog 153 [v, .func (.func 154) #[] #[]].toArray w (Ret fun _ w' => OwnT w' base v (xs.mergeSort fun a b => !Itm.less b a) ∧ Keeps (fun j => v.ownBlock ≠ some j) w w') := by
  rcases h.own with ⟨rfl, rfl⟩ | ⟨g, cap, cur, rfl, hb, hh, hnc, hcm, hcs, ht, hI⟩
  · refine (AnyF.slices_SortFunc_none laySF none 0 _ w).mono ?_
    rintro e w' ⟨rfl, rfl⟩
    exact ⟨_, rfl, by simpa using h, Keeps.refl _ _⟩
  · have hflat : ∀ t, t < xs.length * 2 → cur[t]? = some (Sort.flatK encT 2 xs.toArray)[t]! := fun t hlt => by
      have h1 := flatT_get xs t hlt
      rw [← ht, List.getElem?_take_of_lt hlt, Array.getElem?_toList] at h1
      rw [h1, flatT_K xs t hlt]
    have hH : Sort.HoldsK encT 2 w g 0 xs.toArray := fun j hj => by
      have hj' : j < xs.length * 2 := by simpa using hj
      refine ⟨?_, ?_⟩
      · rw [Nat.zero_add]
        exact hh.cell (hflat j hj')
      · have hb' : w.heap[g]? = some (.cells cur 73 (0, 0)) := hh
        simp [World.frozen?, hb']
    have hcmp : CmpLays Tryz.prog 154 #[] encT 2 cmpItm g 0 xs.toArray.size w := fun m os dk hs x y => by
      refine (kSorted1 x y).mono ?_
      rintro e w' ⟨v, rfl, rfl, q, os', rfl⟩
      exact ⟨rfl, q, os', rfl⟩
    have hc := AnyQ.slices_SortFunc_total laySF 2 Tryz.isAgg73 (TT.size 73 2 rfl) encT (fun _ => rfl) (fun x v hv => by
      rcases List.mem_cons.1 hv with rfl | hv
      · rfl
      · rcases List.mem_cons.1 hv with rfl | hv
        · rfl
        · cases hv) cmpItm swoItm 154 #[] g 0 cap xs.toArray w (en154) hcmp hH hh.lt (by simp; omega) (fun x y h1 h2 => by
        rw [ltItm] at h1 h2
        by_cases e : x = y
        · exact e
        · rcases Itm.less_or e with h | h
          · rw [h] at h1; cases h1
          · rw [h] at h2; cases h2)
    refine hc.mono ?_
    rintro e w' ⟨rfl, n, os, rfl⟩
    have hcf : (fun x y => !(ltOf cmpItm) y x) = fun a b => !Itm.less b a := by funext a b; rw [ltItm]
    have hl : (xs.toArray.toList.mergeSort fun x y => !(ltOf cmpItm) y x) = xs.mergeSort fun a b => !Itm.less b a := by rw [hcf]
    refine ⟨_, rfl, ?_, (sortW_keeps encT 2 w g n _ os).mono (fun j hj e => hj (by rw [e]; rfl))⟩
    rw [hl]
    generalize hys : (xs.mergeSort fun a b => !Itm.less b a) = ys
    have hp : ys.Perm xs := hys ▸ Itm.sort_perm xs
    have hlen : ys.length = xs.length := hp.length_eq
    have hbk := sortW_blk encT 2 n ys.toArray os hh
    rw [← hlen]
    refine OwnT.of_own hb hbk (by omega) hcm (by simp [Sort.putCells, hcs]) ?_ (fun x hx => hI x (hp.mem_iff.1 hx))
    refine List.ext_getElem? (fun t => ?_)
    rcases Nat.lt_or_ge t (ys.length * 2) with hlt | hge
    · rw [List.getElem?_take_of_lt hlt, Array.getElem?_toList, flatT_get ys t hlt, ← flatT_K ys t hlt]
      have : t < cur.size := by omega
      simp only [Sort.putCells, Array.getElem?_mapIdx, Array.getElem?_eq_getElem this, Option.map_some]
      rw [if_pos ⟨Nat.zero_le _, by simp; omega⟩]
      rfl
    · rw [List.getElem?_eq_none (by rw [List.length_take]; omega), List.getElem?_eq_none (by rw [flatT_len]; omega)]
end Go.Proofs.YtbadjlhijbkbbaaGreat

/-
  slices.Compact of items.
-/
set_option linter.unusedVariables false
namespace Go.Proofs.YtbadjlhijbkbbaaGreat
open Go Go.RowKit Sx
variable {S S' : Nat → Prop} {w w' : World}
namespace Itm
theorem compact_snoc (x y : Itm) : ∀ (l : List Itm), compact (l ++ [x, y]) = if x = y then compact (l ++ [x]) else compact (l ++ [x]) ++ [y]
  | [] => by
    by_cases h : x = y
    · subst h; simp [compact]
    · simp [compact, h]
  | [z] => by
    have ih := compact_snoc x y []
    simp only [List.nil_append] at ih
    by_cases hz : z = x
    · subst hz
      simp only [List.cons_append, List.nil_append, compact, if_true]
      split <;> simp_all
    · simp only [List.cons_append, List.nil_append, compact, if_neg hz]
      rw [show (if x = y then [y] else [x, y]) = if x = y then [x] else [x, y] by split <;> simp_all]
      split <;> simp
  | z :: z' :: l => by
    have ih := compact_snoc x y (z' :: l)
    simp only [List.cons_append] at ih ⊢
    rw [compact, ih, compact]
    by_cases hz : z = z'
    · simp only [if_pos hz]
    · simp only [if_neg hz]
      split <;> simp
theorem compact_step {xs : List Itm} {p : Nat} (h1 : 0 < p) (h : p < xs.length) : compact (xs.take (p + 1)) = if xs[p - 1] = xs[p] then compact (xs.take p) else compact (xs.take p) ++ [xs[p]] := by
  obtain ⟨q, rfl⟩ : ∃ q, p = q + 1 := ⟨p - 1, by omega⟩
  rw [List.take_succ_eq_append_getElem h, List.take_succ_eq_append_getElem (by omega : q < xs.length), List.append_assoc]
  exact compact_snoc _ _ _
theorem compact_one {xs : List Itm} (h : xs.length < 2) : compact xs = xs := by
  match xs, h with
  | [], _ => rfl
  | [x], _ => rfl
end Itm
/-- Items at the head of a block. -/
def Cap (w : World) (g cap : Nat) (ys : List Itm) : Prop := ∃ cur, Blk w g cur 73 ∧ cur.size = cap * 2 ∧ cur.toList.take (ys.length * 2) = ys.flatMap encT
theorem Cap.get {g cap : Nat} {ys : List Itm} {cur : Array Value} (ht : cur.toList.take (ys.length * 2) = ys.flatMap encT) {t : Nat} (h : t < ys.length * 2) : cur[t]? = some (encT ys.toArray[t / 2]!)[t % 2]! := by
  have h1 := flatT_get ys t h
  rw [← ht, List.getElem?_take_of_lt h, Array.getElem?_toList] at h1
  exact h1
theorem Cap.cell {g cap : Nat} {ys : List Itm} (h : Cap w g cap ys) {j : Nat} (hj : j < ys.length) : ∀ (k : Nat) (u : Value), [Value.int .i64 ys[j].rule, .int .i64 ys[j].dot][k]? = some u → w.cell? ⟨g, 0 + j * 2 + k, none⟩ = some u := by
  obtain ⟨cur, hb, hs, ht⟩ := h
  intro k u hu
  have hk : k < 2 := (List.getElem?_eq_some_iff.1 hu).1
  have := Cap.get (g := g) (cap := cap) ht (t := j * 2 + k) (by omega)
  rw [show (j * 2 + k) / 2 = j by omega, show (j * 2 + k) % 2 = k by omega] at this
  refine hb.cell ?_
  rw [Nat.zero_add, this]
  have e : (ys.toArray[j]! : Itm) = ys[j] := by simp [hj]
  rw [e, encT, ← hu]
  rcases (by omega : k = 0 ∨ k = 1) with rfl | rfl <;> rfl
theorem Cap.ext {g cap : Nat} {ys : List Itm} (h : Cap w g cap ys) (e : Ext w w') : Cap w' g cap ys := by
  obtain ⟨cur, hb, hs, ht⟩ := h
  exact ⟨cur, hb.ext e, hs, ht⟩
theorem Cap.lt {g cap : Nat} {ys : List Itm} (h : Cap w g cap ys) : g < w.heap.size := by
  obtain ⟨cur, hb, _⟩ := h
  exact hb.lt
theorem Cap.own {base g cap : Nat} {ys : List Itm} (h : Cap w g cap ys) (hb : base ≤ g) (m : Nat) (hm : m ≤ ys.length) (hc : ys.length ≤ cap) (hcm : cap ≤ maxLen) (hI : ∀ x ∈ ys, I64 x.rule ∧ I64 x.dot) : OwnT w base (.slice (some ⟨g, 0, none⟩) m cap) (ys.take m) := by
  obtain ⟨cur, hk, hs, ht⟩ := h
  have hl : (ys.take m).length = m := by rw [List.length_take]; omega
  have := OwnT.of_own (xs := ys.take m) hb hk (by omega) hcm hs (by
    rw [hl, show m * 2 = min (m * 2) (ys.length * 2) by omega, ← List.take_take, ht]
    refine List.ext_getElem? (fun t => ?_)
    rcases Nat.lt_or_ge t (m * 2) with hlt | hge
    · rw [List.getElem?_take_of_lt hlt, flatT_get ys t (by omega), flatT_get (ys.take m) t (by omega)]
      have e : (ys.toArray[t / 2]! : Itm) = (ys.take m).toArray[t / 2]! := by
        have h1 : t / 2 < m := by omega
        have h2 : t / 2 < ys.length := by omega
        simp [h1, h2]
      rw [e]
    · rw [List.getElem?_eq_none (by rw [List.length_take]; omega), List.getElem?_eq_none (by rw [flatT_len]; omega)]) (fun x hx => hI x (List.mem_of_mem_take hx))
  rwa [hl] at this
theorem setAll_lt : ∀ (vs : List Value) (cs : Array Value) (o i : Nat), i < o → (setAll cs o vs)[i]? = cs[i]?
  | [], _, _, _, _ => rfl
  | v :: r, cs, o, i, h => by rw [setAll, setAll_lt r _ (o + 1) i (by omega), Array.getElem?_setIfInBounds_ne (by omega)]
theorem setW_keeps {b o : Nat} (vs : List Value) (w : World) : Keeps (fun k => k ≠ b) w (setCellsW w b o vs) := by
  have h := setCellsW_below (Nat.le_refl b) vs w w o (Below.refl b w)
  exact ⟨h.os, h.tape, h.output, h.size, fun k hk _ => setCellsW_other hk vs w o⟩
theorem Cap.set {g cap : Nat} {ys : List Itm} (h : Cap w g cap ys) (hc : ys.length ≤ cap) {m : Nat} (hm : m < ys.length) (x : Itm) : Cap (setCellsW w g (m * 2) (encT x)) g cap (ys.set m x) := by
  obtain ⟨cur, hb, hs, ht⟩ := h
  refine ⟨_, setCellsW_blk _ _ _ _ hb, by rw [setAll_size, hs], ?_⟩
  rw [List.length_set]
  refine List.ext_getElem? (fun t => ?_)
  rcases Nat.lt_or_ge t (ys.length * 2) with hlt | hge
  · rw [List.getElem?_take_of_lt hlt, Array.getElem?_toList, flatT_get (ys.set m x) t (by rw [List.length_set]; exact hlt)]
    have hget := Cap.get (g := g) (cap := cap) ht hlt
    have h2 : t / 2 < ys.length := by omega
    simp only [encT, setAll]
    rcases Nat.lt_trichotomy (t / 2) m with hq | hq | hq
    · rw [Array.getElem?_setIfInBounds_ne (by omega), Array.getElem?_setIfInBounds_ne (by omega), hget]
      have e : ((ys.set m x).toArray[t / 2]! : Itm) = ys.toArray[t / 2]! := by simp [h2, show ¬ m = t / 2 by omega]
      rw [e, encT]
    · have e : ((ys.set m x).toArray[t / 2]! : Itm) = x := by simp [h2, hq.symm]
      rw [e]
      rcases (by omega : t = m * 2 ∨ t = m * 2 + 1) with rfl | rfl
      · rw [Array.getElem?_setIfInBounds_ne (by omega), Array.getElem?_setIfInBounds_self_of_lt (by omega), show m * 2 % 2 = 0 by omega]
        rfl
      · rw [Array.getElem?_setIfInBounds_self_of_lt (by rw [Array.size_setIfInBounds]; omega), show (m * 2 + 1) % 2 = 1 by omega]
        rfl
    · rw [Array.getElem?_setIfInBounds_ne (by omega), Array.getElem?_setIfInBounds_ne (by omega), hget]
      have e : ((ys.set m x).toArray[t / 2]! : Itm) = ys.toArray[t / 2]! := by simp [h2, show ¬ m = t / 2 by omega]
      rw [e, encT]
  · rw [List.getElem?_eq_none (by rw [List.length_take]; omega), List.getElem?_eq_none (by rw [flatT_len, List.length_set]; omega)]
/-- What lies behind is overwritten. -/
theorem Cap.cut {g cap : Nat} {ys : List Itm} (h : Cap w g cap ys) {m : Nat} (hm : m ≤ ys.length) (vs : List Value) : Cap (setCellsW w g (m * 2) vs) g cap (ys.take m) := by
  obtain ⟨cur, hb, hs, ht⟩ := h
  have hl : (ys.take m).length = m := by rw [List.length_take]; omega
  refine ⟨_, setCellsW_blk _ _ _ _ hb, by rw [setAll_size, hs], ?_⟩
  rw [hl]
  refine List.ext_getElem? (fun t => ?_)
  rcases Nat.lt_or_ge t (m * 2) with hlt | hge
  · rw [List.getElem?_take_of_lt hlt, Array.getElem?_toList, setAll_lt _ _ _ _ hlt, Cap.get (g := g) (cap := cap) ht (by omega), flatT_get (ys.take m) t (by omega)]
    have e : (ys.toArray[t / 2]! : Itm) = (ys.take m).toArray[t / 2]! := by
      have h1 : t / 2 < m := by omega
      have h2 : t / 2 < ys.length := by omega
      simp [h1, h2]
    rw [e]
  · rw [List.getElem?_eq_none (by rw [List.length_take]; omega), List.getElem?_eq_none (by rw [flatT_len]; omega)]
/-- clear(x), x of some elements. -/
theorem Wop.clearRow {P : Program} {Q : Exit → Act → World → Prop} {N : Nat} {σ : Sl} {w : World} {K : Value → World → Prop} {d : Option Tmp} {ty : TypeId} {ps : String} {af : Array Edge} {gd : Option (Nat × Bool)} (T : Tab P) {t e sz : Nat} {x : Operand} {b o n c u : Nat} {z : Value} {cs : Array Value}
    (ht : nth T.kinds t = some 1) (he : nth T.elems t = some e) (hz : ∀ w, (zeroValue e).run P w = .ok z w) (hzs : z.cells.size = sz) (h1 : ∀ v ∈ z.cells.toList, v.oneCell' = true) (hs0 : 0 < sz) (hx : Sx.look σ x = some (.slice (some ⟨b, o, none⟩) n c)) (hn : 0 < n) (hb : Blk w b cs u) (hl : o + n * sz ≤ cs.size)
    (hk : ∀ vs, K (.tuple #[]) (setCellsW w b o vs)) : Wop P Q N ⟨d, .call ⟨.builtin .clear, #[x], #[t]⟩, ty, ps, af, gd⟩ σ w K := by
  obtain ⟨m, rfl⟩ : ∃ m, n = m + 1 := ⟨n - 1, by omega⟩
  refine Wop.val (v := .tuple #[]) (w' := setCellsW w b o (Builtin.zeroCells z.cells (m + 1)).toList) (fun ρ h => ?_) (hk _)
  have hst := storeCells_run (P := P) (Builtin.zeroCells z.cells (m + 1)).toList w cs o 0 (by
    intro v hv
    simp only [Builtin.zeroCells, Array.toList_map, List.mem_map] at hv
    obtain ⟨i, _, rfl⟩ := hv
    have hi : i % z.cells.size < z.cells.size := Nat.mod_lt _ (by omega)
    rw [getElem!_pos z.cells _ hi]
    exact h1 _ (by simp)) hb (by simp only [Array.length_toList, Builtin.zeroCells, Array.size_map, Array.size_range, hzs]; omega)
  have hu := T.slice t e ht he
  simp [execOp, resolve, invoke, builtin, h x _ hx, Builtin.clear_, run_underlying hu, hz, hst]
/-- The row is turned: what is written, what is still to be read. -/
structure Half (xs ys : List Itm) (m p : Nat) : Prop where
  len : ys.length = xs.length
  mp : m < p
  pn : p ≤ xs.length
  head : ys.take m = Itm.compact (xs.take p)
  rest : ∀ j (h : j < xs.length) (h' : j < ys.length), m ≤ j → ys[j] = xs[j]
theorem Half.same {xs ys : List Itm} {m p : Nat} (h : Half xs ys m p) (hp : p < xs.length) (he : xs[p] = xs[p - 1]'(by omega)) : Half xs ys m (p + 1) :=
  ⟨h.len, by have := h.mp; omega, hp, by rw [Itm.compact_step (by have := h.mp; omega) hp, if_pos he.symm]; exact h.head, h.rest⟩
theorem Half.other {xs ys : List Itm} {m p : Nat} (h : Half xs ys m p) (hp : p < xs.length) (hne : xs[p] ≠ xs[p - 1]'(by omega)) : Half xs (ys.set m xs[p]) (m + 1) (p + 1) := by
  have hmp := h.mp
  have hl := h.len
  refine ⟨by rw [List.length_set, h.len], by omega, hp, ?_, fun j g1 g2 hj => ?_⟩
  · rw [Itm.compact_step (by omega) hp, if_neg (fun e => hne e.symm), ← h.head, List.take_succ_eq_append_getElem (by rw [List.length_set]; omega), List.getElem_set_self, List.take_set_of_le (Nat.le_refl _)]
  · rw [List.getElem_set_ne (by omega)]
    exact h.rest j g1 (by omega) (by omega)
/-- An item is written. -/
theorem Wop.stCap {P : Program} {Q : Exit → Act → World → Prop} {N : Nat} {σ : Sl} {w : World} {K : Value → World → Prop} {d : Option Tmp} {ty : TypeId} {ps : String} {af : Array Edge} {gd : Option (Nat × Bool)} (T : Tab P) {t : TypeId} {x y : Operand} {g o m cap : Nat} {ys : List Itm} {z : Itm}
    (hs : nth T.sizes t = some 2) (hx : Sx.look σ x = some (.pointer (some ⟨g, o, none⟩))) (ho : o = m * 2) (hy : Sx.look σ y = some (.agg #[.int .i64 z.rule, .int .i64 z.dot])) (hC : Cap w g cap ys) (hc : ys.length ≤ cap) (hm : m < ys.length)
    (hk : ∀ w', Keeps (fun k => k ≠ g) w w' → Cap w' g cap (ys.set m z) → K undef w') : Wop P Q N ⟨d, .store t x y, ty, ps, af, gd⟩ σ w K := by
  subst ho
  have hC0 := hC
  obtain ⟨cur, hb, hsz, _⟩ := hC
  exact Wop.stS T (vs := #[.int .i64 z.rule, .int .i64 z.dot]) hs hx hy (by simp [Value.oneCell']) hb (by show m * 2 + 2 ≤ cur.size; omega) (hk _ (setW_keeps _ _) (hC0.set hc hm z))
set_option maxRecDepth 20000 in
set_option maxHeartbeats 4000000 in
theorem kCompactI {base : Nat} {v : Value} {xs : List Itm} (h : OwnT w base v xs) (hm : xs.length ≤ 1000000000) : Calls Tryz.prog 156 [v].toArray w (Ret fun u w' => OwnT w' base u (Itm.compact xs) ∧ Keeps (fun j => v.ownBlock ≠ some j) w w') := by
  have h0 := h
  rcases h.own with ⟨rfl, rfl⟩ | ⟨g, cap, cur, rfl, hb, hh, hnc, hcm, hcs, ht, hI⟩
  · refine enter Tryz.func156 rfl Tryz.ntmps156 rfl ?_
    refine wk ?_
    exact Arr.ret1 rfl rfl ⟨h, Keeps.refl _ _⟩
  have hC : Cap w g cap xs := ⟨cur, hh, hcs, ht⟩
  have hkp : ∀ {a b : World}, Keeps (fun j => j ≠ g) a b → Keeps (fun j => (Value.slice (some ⟨g, 0, none⟩) xs.length cap).ownBlock ≠ some j) a b := fun k => k.mono (fun j hj e => hj (by rw [e]; rfl))
  refine enter Tryz.func156 rfl Tryz.ntmps156 rfl ?_
  refine wk ?_
  refine W.test rfl (fun h2 => ?_) (fun h2 => ?_)
  · refine wk ?_
    exact Arr.ret1 rfl rfl ⟨by rw [Itm.compact_one (by omega)]; exact h, Keeps.refl _ _⟩
  refine wk ?_
  refine W.midB (ι := Unit) (fun _ => [(0, .slice (some ⟨g, 0, none⟩) xs.length cap)]) (fun _ w' => Ext w w' ∧ Itm.compact xs = xs) ?_ ?_
  · refine W.loop (ι := Nat) (fun i => [(0, .slice (some ⟨g, 0, none⟩) xs.length cap), (3, .int .i64 (i : Int))]) (fun i w' => Ext w w' ∧ 1 ≤ i ∧ i ≤ xs.length ∧ Itm.compact (xs.take i) = xs.take i) (fun i => xs.length - i) 1 has ⟨Ext.refl _, Nat.le_refl _, by omega, Itm.compact_one (by rw [List.length_take]; omega)⟩ ?_
    rintro i w1 ⟨hE, h1, hi, hp⟩
    have hC1 := hC.ext hE
    refine wk ?_
    refine W.test rfl (fun hlt => ?_) (fun hge => ?_)
    · replace hlt : i < xs.length := by omega
      have hcs1 := hC1.cell hlt
      have hcs2 := hC1.cell (j := i - 1) (by omega)
      refine wk ?_
      refine W.any Ext [.eq _, .eq _, .eq _, .eq _, .eq _, .eq _, .eq _, .eq _, .eq _, .eq _] [9] mixed rfl Ext.refl Ext.trans Ext.drew ⟨qs, qs, qs, qs, qs, qs, by intro w_ hG; (repeat (intro v_ hv_; cases hv_)); refine WopG.plain rfl (Wop.sub rfl rfl ⟨by omega, by omega⟩ ?_); refine ⟨Ext.refl _, ?_⟩; show _ = _; exact rfl, by intro w_ hG; (repeat (intro v_ hv_; cases hv_)); refine WopG.plain rfl (Wop.ixI TT (i - 1) rfl rfl rfl rfl rfl (by omega) (by omega) ?_); refine ⟨Ext.refl _, ?_⟩; show _ = _; exact rfl, qs, by intro w_ hG; (repeat (intro v_ hv_; cases hv_)); refine WopG.plain rfl (Wop.eqlItm (x := xs[i]) (y := xs[i - 1]) rfl rfl ?_); refine ⟨Ext.refl _, ?_⟩; show _ = _; exact rfl, trivial⟩ ?_
      rintro wq eq_ _ ⟨⟩
      have hE2 := hE.trans eq_
      have hstep := Itm.compact_step (by omega) hlt
      have hCq := hC1.ext eq_
      refine wk ?_
      refine W.test rfl (fun he => ?_) (fun hne => ?_)
      · have hfa : fromA (some ⟨g, 0, none⟩) i cap 2 = some ⟨g, i * 2, none⟩ := by rw [fromA, if_neg (by omega)]; simp [add_at]
        refine wk ?_
        refine Wop.sliceFrom TT (l := i) rfl rfl rfl rfl rfl rfl (by omega) ?_
        rw [hfa]
        refine wk ?_
        refine W.midB (ι := Nat × List Itm) (fun q => [(0, .slice (some ⟨g, 0, none⟩) xs.length cap), (3, .int .i64 (q.1 : Int))]) (fun q w' => Keeps (fun j => j ≠ g) w w' ∧ Cap w' g cap q.2 ∧ Half xs q.2 q.1 xs.length) ?_ ?_
        · refine W.loop (ι := Nat × Nat × List Itm) (fun q => [(0, .slice (some ⟨g, 0, none⟩) xs.length cap), (3, .int .i64 (q.2.1 : Int)), (4, .slice (some ⟨g, i * 2, none⟩) (xs.length - i) (cap - i)), (5, .int .i64 (q.1 : Int))])
            (fun q w' => Keeps (fun j => j ≠ g) w w' ∧ Cap w' g cap q.2.2 ∧ Half xs q.2.2 q.2.1 (i + q.1) ∧ 1 ≤ q.1) (fun q => xs.length - (i + q.1)) (1, i, xs) has ⟨Ext.keeps hE2, hCq, ⟨rfl, Nat.lt_succ_self _, hlt, by rw [hstep, if_pos he.symm, hp], fun _ _ _ _ => rfl⟩, Nat.le_refl _⟩ ?_
          rintro ⟨k, m, ys⟩ w3 ⟨hK, hC3, hH, hk1⟩
          replace hC3 : Cap w3 g cap ys := hC3
          replace hH : Half xs ys m (i + k) := hH
          replace hk1 : 1 ≤ k := hk1
          have hl := hH.len
          have hmp := hH.mp
          dsimp only
          refine wk ?_
          refine W.test rfl (fun hlk => ?_) (fun hgk => ?_)
          · replace hlk : i + k < xs.length := by omega
            have hcsA : ∀ (j : Nat) (u : Value), [Value.int .i64 xs[i + k].rule, .int .i64 xs[i + k].dot][j]? = some u → w3.cell? ⟨g, i * 2 + k * 2 + j, none⟩ = some u := fun j u hu => by
              have := hC3.cell (j := i + k) (by omega) j u (by rw [hH.rest (i + k) hlk (by omega) (by omega)]; exact hu)
              rwa [show 0 + (i + k) * 2 + j = i * 2 + k * 2 + j by omega] at this
            have hcsB : ∀ (j : Nat) (u : Value), [Value.int .i64 (xs[i + k - 1]'(by omega)).rule, .int .i64 (xs[i + k - 1]'(by omega)).dot][j]? = some u → w3.cell? ⟨g, i * 2 + (k - 1) * 2 + j, none⟩ = some u := fun j u hu => by
              have := hC3.cell (j := i + k - 1) (by omega) j u (by rw [hH.rest (i + k - 1) (by omega) (by omega) (by omega)]; exact hu)
              rwa [show 0 + (i + k - 1) * 2 + j = i * 2 + (k - 1) * 2 + j by omega] at this
            refine wk ?_
            refine W.any Ext [.eq _, .eq _, .eq _, .eq _, .eq _, .eq _, .eq _, .eq _, .eq _, .eq _] [9] mixed rfl Ext.refl Ext.trans Ext.drew ⟨qs, qs, by intro w_ hG; (repeat (intro v_ hv_; cases hv_)); refine WopG.plain rfl (Wop.ixI TT k rfl rfl rfl rfl rfl rfl (by omega) ?_); refine ⟨Ext.refl _, ?_⟩; show _ = _; exact rfl, qs, qs, qs, by intro w_ hG; (repeat (intro v_ hv_; cases hv_)); refine WopG.plain rfl (Wop.sub rfl rfl ⟨by omega, by omega⟩ ?_); refine ⟨Ext.refl _, ?_⟩; show _ = _; exact rfl, by intro w_ hG; (repeat (intro v_ hv_; cases hv_)); refine WopG.plain rfl (Wop.ixI TT (k - 1) rfl rfl rfl rfl rfl (by omega) (by omega) ?_); refine ⟨Ext.refl _, ?_⟩; show _ = _; exact rfl, qs, by intro w_ hG; (repeat (intro v_ hv_; cases hv_)); refine WopG.plain rfl (Wop.neqItm (x := xs[i + k]) (y := xs[i + k - 1]'(by omega)) rfl rfl ?_); refine ⟨Ext.refl _, ?_⟩; show _ = _; exact rfl, trivial⟩ ?_
            rintro wq eq_ _ ⟨⟩
            have hKq := hK.trans (Ext.keeps eq_)
            have hCq3 := hC3.ext eq_
            have hcsQ : ∀ (j : Nat) (u : Value), [Value.int .i64 xs[i + k].rule, .int .i64 xs[i + k].dot][j]? = some u → wq.cell? ⟨g, i * 2 + k * 2 + j, none⟩ = some u := fun j u hu => eq_.cell (hcsA j u hu)
            refine wk ?_
            refine W.test rfl (fun hne => ?_) (fun heq => ?_)
            · refine wk ?_
              refine Wop.stCap TT (z := xs[i + k]) (m := m) rfl rfl (Nat.zero_add _) rfl hCq3 (by omega) (by omega) (fun w5 k5 hC5 => ?_)
              refine wk ?_
              exact Arr.again (i := (k, m, ys)) (k + 1, m + 1, _) has ⟨hKq.trans k5, hC5, hH.other hlk hne, by show 1 ≤ k + 1; omega⟩ (by show xs.length - (i + (k + 1)) < xs.length - (i + k); omega)
            · refine wk ?_
              exact Arr.again (i := (k, m, ys)) (k + 1, m, ys) has ⟨hKq, hCq3, hH.same hlk (Decidable.not_not.1 heq), by show 1 ≤ k + 1; omega⟩ (by show xs.length - (i + (k + 1)) < xs.length - (i + k); omega)
          · have hpn := hH.pn
            refine wk ?_
            refine Arr.mid (m, ys) has ⟨hK, hC3, ?_⟩
            rw [show (m, ys).2 = ys from rfl, show (m, ys).1 = m from rfl, show xs.length = i + k by omega]
            exact hH
        rintro ⟨m, ys⟩ w4 ⟨hK, hC4, hH⟩
        replace hC4 : Cap w4 g cap ys := hC4
        replace hH : Half xs ys m xs.length := hH
        have hl := hH.len
        have hmp := hH.mp
        have hfm : fromA (some ⟨g, 0, none⟩) m cap 2 = some ⟨g, m * 2, none⟩ := by rw [fromA, if_neg (by omega)]; simp [add_at]
        dsimp only
        have hC40 := hC4
        obtain ⟨cur4, hb4, hs4, _⟩ := hC4
        refine wk ?_
        refine Wop.sliceFrom TT (l := m) rfl rfl rfl rfl rfl rfl (by omega) ?_
        rw [hfm]
        refine wk ?_
        refine Wop.clearRow TT (sz := 2) rfl rfl Tryz.zeroValue73 rfl (by simp [Value.oneCell', Value.cells]) (by decide) rfl (by omega) hb4 (by omega) (fun vs => ?_)
        have hC5 := hC40.cut (by omega) (m := m) vs
        refine wk ?_
        refine Wop.sliceTo TT (h := m) rfl rfl rfl rfl rfl rfl (by omega) ?_
        refine wk ?_
        refine Arr.ret1 rfl rfl ⟨?_, hkp (hK.trans (setW_keeps _ _))⟩
        have hhd : ys.take m = Itm.compact xs := by have := hH.head; rwa [List.take_length] at this
        have hlm : (ys.take m).length = m := by rw [List.length_take]; omega
        have := hC5.own hb m (by omega) (by omega) hcm (fun x hx => hI x (Itm.mem_compact.1 (hhd ▸ hx)))
        rw [List.take_take, Nat.min_self, hhd] at this
        exact this
      · refine wk ?_
        refine Arr.again (i + 1) has ⟨hE2, by omega, hlt, ?_⟩ (by omega)
        rw [hstep, if_neg (fun e => hne e.symm), hp, List.take_succ_eq_append_getElem hlt]
    · obtain rfl : i = xs.length := by omega
      refine wk ?_
      exact Arr.mid () has ⟨hE, by rw [List.take_length] at hp; exact hp⟩
  rintro _ w1 ⟨hE, hp⟩
  refine wk ?_
  exact Arr.ret1 rfl rfl ⟨by rw [hp]; exact h.ext hE, Ext.keeps hE⟩
end Go.Proofs.YtbadjlhijbkbbaaGreat

/-
  item.sorted, item.may, Right, Behind, Begin.
-/
set_option linter.unusedVariables false
namespace Go.Proofs.YtbadjlhijbkbbaaGreat
open Go Go.RowKit Sx
variable {S S' : Nat → Prop} {w w' : World} {g : Gram} {A B A0 A1 A2 : Option Addr} {n m c c' c0 c1 c2 : Nat}
theorem kSorted {base : Nat} {v : Value} {xs : List Itm} (h : OwnT w base v xs) (hm : xs.length ≤ 1000000000) : Calls Tryz.prog 107 [v].toArray w (Ret fun u w' => OwnT w' base u (Itm.puts xs) ∧ Keeps (fun j => v.ownBlock ≠ some j) w w') := by
  refine enter Tryz.func107 rfl Tryz.ntmps107 rfl ?_
  refine wk ?_
  refine Wop.fn en153 rfl (kSort h (by omega)) ?_
  rintro _ w1 ⟨h1, k1⟩
  refine wk ?_
  refine Wop.fn en156 rfl (kCompactI h1 (by rw [(Itm.sort_perm xs).length_eq]; exact hm)) ?_
  rintro u w2 ⟨h2, k2⟩
  refine wk ?_
  refine Arr.ret1 rfl rfl ⟨?_, k1.trans k2⟩
  rw [← Itm.tidy_eq]
  exact h2
/-- The grammar may be. -/
abbrev Gram.good (g : Gram) : Prop := g.check = 0
theorem gMayI (hg : GramAt S w g A0 A1 A2 c0 c1 c2) : Calls Tryz.prog 101 [.agg (gcells g A0 A1 A2 c0 c1 c2).toArray].toArray w (Ret fun v w' => v = .bool (decide g.good) ∧ Ext w w') := by
  refine enter Tryz.func101 rfl Tryz.ntmps101 rfl ?_
  refine wk ?_
  refine Wop.box rfl (fun w1 e1 b1 z1 => ?_)
  refine wk ?_
  refine Wop.fn en85 rfl (gCheck (hg.ext e1)) ?_
  rintro _ w2 ⟨rfl, e2⟩
  refine wk ?_
  exact Arr.ret1 rfl rfl ⟨rfl, e1.trans e2⟩
theorem gRightItem (hg : GramAt S w g A0 A1 A2 c0 c1 c2) (x : Itm) : Calls Tryz.prog 45 [.agg (gcells g A0 A1 A2 c0 c1 c2).toArray, vItm x].toArray w (Ret fun v w' => v = .bool (decide g.good && g.iright x) ∧ Ext w w') := by
  refine enter Tryz.func45 rfl Tryz.ntmps45 rfl ?_
  refine wk ?_
  refine Wop.box rfl (fun w1 e1 b1 z1 => ?_)
  refine wk ?_
  refine Wop.box rfl (fun w2 e2 b2 z2 => ?_)
  have e12 := e1.trans e2
  refine wk ?_
  refine Wop.fn en101 rfl (gMayI (hg.ext e12)) ?_
  rintro _ w3 ⟨rfl, e3⟩
  have e13 := e12.trans e3
  have e23 := e2.trans e3
  rcases Decidable.em g.good with hm | hm
  · rw [decide_eq_true hm]
    refine wk ?_
    refine Wop.fn en103 rfl (gRightI (hg.ext e13) x) ?_
    rintro _ w4 ⟨rfl, e4⟩
    refine wk ?_
    exact Arr.ret1 rfl rfl ⟨by simp, e13.trans e4⟩
  · rw [decide_eq_false hm]
    refine wk ?_
    exact Arr.ret1 rfl rfl ⟨by simp, e13⟩
theorem gBehindItem (hg : GramAt S w g A0 A1 A2 c0 c1 c2) (x : Itm) : Calls Tryz.prog 44 [.agg (gcells g A0 A1 A2 c0 c1 c2).toArray, vItm x].toArray w (Ret fun v w' => v = (if g.good then .tuple #[.int .i64 (g.ibehind x).1, .bool (g.ibehind x).2] else .tuple #[.int .i64 0, .bool false]) ∧ Ext w w') := by
  refine enter Tryz.func44 rfl Tryz.ntmps44 rfl ?_
  refine wk ?_
  refine Wop.box rfl (fun w1 e1 b1 z1 => ?_)
  refine wk ?_
  refine Wop.box rfl (fun w2 e2 b2 z2 => ?_)
  have e12 := e1.trans e2
  refine wk ?_
  refine Wop.fn en101 rfl (gMayI (hg.ext e12)) ?_
  rintro _ w3 ⟨rfl, e3⟩
  have e13 := e12.trans e3
  have e23 := e2.trans e3
  rcases Decidable.em g.good with hm | hm
  · rw [decide_eq_true hm, if_pos hm]
    refine wk ?_
    refine Wop.fn en102 rfl (gBehindI (hg.ext e13) x) ?_
    rintro _ w4 ⟨rfl, e4⟩
    refine wk ?_
    exact Arr.ret2 rfl rfl rfl ⟨rfl, e13.trans e4⟩
  · rw [decide_eq_false hm, if_neg hm]
    refine wk ?_
    exact Arr.ret2 rfl rfl rfl ⟨rfl, e13⟩
def Gram.ibegin (g : Gram) : List Itm := if g.good then [⟨g.rules.length, 0⟩] else []
theorem gBeginItem (hg : GramAt S w g A0 A1 A2 c0 c1 c2) : Calls Tryz.prog 46 [.agg (gcells g A0 A1 A2 c0 c1 c2).toArray].toArray w (Ret fun v w' => OwnT w' w.heap.size v g.ibegin ∧ Ext w w') := by
  have hm := hg.rules.2.1
  refine enter Tryz.func46 rfl Tryz.ntmps46 rfl ?_
  refine wk ?_
  refine Wop.box rfl (fun w1 e1 b1 z1 => ?_)
  refine wk ?_
  refine Wop.fn en101 rfl (gMayI (hg.ext e1)) ?_
  rintro _ w3 ⟨rfl, e3⟩
  have e13 := e1.trans e3
  unfold Gram.ibegin
  rcases Decidable.em g.good with hm | hm
  · rw [decide_eq_true hm, if_pos hm]
    refine wk ?_
    refine Wop.make (cs := #[.int .i64 (g.rules.length : Int), .int .i64 0]) pl73 rfl rfl ?_
    refine wk ?_
    refine Wop.buildSlice (cs := #[.int .i64 (g.rules.length : Int), .int .i64 0]) TT rfl rfl rfl Tryz.zeroValue73 rfl rfl rfl rfl (fun w2 e2 b2 z2 => ?_)
    refine wk ?_
    exact Arr.ret1 rfl rfl ⟨OwnT.lit (x := ⟨g.rules.length, 0⟩) b2 e13.size ⟨by show (_ : Int) ≤ (g.rules.length : Int); omega, by show (g.rules.length : Int) ≤ _; omega⟩ ⟨by show (_ : Int) ≤ 0; omega, by show (0 : Int) ≤ _; omega⟩, e13.trans e2⟩
  · rw [decide_eq_false hm, if_neg hm]
    refine wk ?_
    exact Arr.ret1 rfl rfl ⟨OwnM.nil, e13⟩
end Go.Proofs.YtbadjlhijbkbbaaGreat
