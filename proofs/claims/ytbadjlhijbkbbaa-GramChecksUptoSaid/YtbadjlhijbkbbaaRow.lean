/-
  A row that is appended to a row.
-/
import Derived.Test.YtbadjlhijbkbbaaGram
set_option linter.unusedVariables false
namespace Go.Proofs.Ytbadjlhijbkbbaa.Sx
open Go Go.RowKit
section
variable {P : Program} {Q : Exit → Act → World → Prop} {N : Nat} {σ : Sl} {w : World} {K : Value → World → Prop}
variable {d : Option Tmp} {ty : TypeId} {ps : String} {af : Array Edge} {gd : Option (Nat × Bool)}
theorem append_nil_run {t e r : TypeId} {i : TypeInfo} (ht : P.underlying t = some (.slice e)) (hi : P.info? e = some i) {A B : Option Addr} {n c c' : Nat} (hn : n ≤ c) : (Builtin.append_ #[t, t] r #[.slice B n c, .slice A 0 c']).run P w = .ok (.slice B n c) w := by
  have hu := run_underlying (P := P) (w := w) ht
  have hs : (Go.sizeOf e).run P w = .ok i.size w := by simp [Go.sizeOf, typeInfo, hi]
  cases A <;> cases B <;> simp [Builtin.append_, hu, hs, Builtin.lenOf, hn, Builtin.firstCells, storeCells, loadCells, loadCellsFrom]

/-- The cells of a row's elements, each of one cell. -/
theorem Ty.Row.news {α : Type} {D : Ty α} {S : Nat → Prop} {b o n : Nat} {xs : List α} {enc : α → Value} (h : D.Row S w (some ⟨b, o, none⟩) n xs) (h1 : D.sz = 1) (henc : ∀ x es, D.rd S w x es → es = [enc x]) :
    ∀ (j : Nat) (u : Value), (xs.map enc)[j]? = some u → w.cell? ⟨b, o + j, none⟩ = some u := by
  intro j u hu
  rw [List.getElem?_map] at hu
  obtain ⟨x, hx, rfl⟩ := Option.map_eq_some_iff.1 hu
  have hj := (List.getElem?_eq_some_iff.1 hx).1
  have hp : 0 < n := by have := h.1; omega
  obtain ⟨b', o', hA, _, hc⟩ := h.2.2 hp
  cases hA
  obtain ⟨es, he, hcc⟩ := hc j x hx
  have := hcc 0 (enc x) (by rw [henc x es he]; rfl)
  rw [h1] at this
  simpa using this
/-- append(v, xs ..): v a row of the call's own, the elements of one cell each. -/
theorem Wop.appRow {α : Type} {D : Ty α} {S : Nat → Prop} (T : Tab P) {t e : TypeId} {x y : Operand} {z v : Value} {bytes n c : Nat} {A : Option Addr} {enc : α → Value} {xs ys : List α} {base : Nat} (ht : nth T.kinds t = some 1) (he : nth T.elems t = some e) (hinfo : (P.info? e).map (fun i => (i.zero, i.size, i.bytes)) = some (some z, 1, bytes)) (hz : z.cells.size = 1) (hb0 : 0 < bytes)
    (hD : D.sz = 1) (henc : ∀ S w x es, D.rd S w x es → es = [enc x])
    (hx : look σ x = some v) (hy : look σ y = some (.slice A n c)) (hr : D.Row S w A n ys) (HO : Own e enc w base v xs) (hbase : base ≤ w.heap.size) (hl : (xs.length + n) * bytes ≤ 140737488355328)
    (hk : ∀ v' w', Own e enc w' base v' (xs ++ ys) → (∀ w0, Below base w0 w → Below base w0 w') → w.grownBy w' v.ownBlock → (v'.ownBlock = v.ownBlock ∨ v'.ownBlock = some w.heap.size) → K v' w') :
    Wop P Q N ⟨d, .call ⟨.builtin .append, #[x, y], #[t, t]⟩, ty, ps, af, gd⟩ σ w K := by
  obtain ⟨i0, hi, hzz⟩ := Option.map_eq_some_iff.1 hinfo
  simp only [Prod.mk.injEq] at hzz
  obtain ⟨hz0, hz1, hz2⟩ := hzz
  have hn := hr.1
  rcases Nat.eq_zero_or_pos n with h0 | hp
  · subst h0
    have hys : ys = [] := List.eq_nil_of_length_eq_zero hn
    subst hys
    obtain ⟨B, cv, rfl, hcv⟩ := HO.slice
    refine Wop.val (fun ρ h => ?_) (hk _ w (by simpa using HO) (fun _ h => h) ?_ (.inl rfl))
    · simp [execOp, resolve, invoke, builtin, h x _ hx, h y _ hy, append_nil_run (w := w) (r := ty) (A := A) (c' := c) (T.slice t e ht he) hi (n := xs.length) (B := B) hcv]
    · exact ⟨rfl, rfl, rfl, Nat.le_refl _, fun _ _ _ => rfl⟩
  · obtain ⟨b, o, rfl, _⟩ := hr.2.2 hp
    have hlen : xs.length + n ≤ 140737488355328 := Nat.le_trans (Nat.le_mul_of_pos_right _ hb0) hl
    obtain ⟨v1, w1, hrun, hown, hg, _, hat⟩ := run_append_own_at (P := P) w base t ty e i0 z 1 bytes (T.slice t e ht he) hi hz0 hz1 hz2 hz (by decide) v xs.length (xs.map enc) HO ⟨b, o, none⟩ n c (ys.map enc) (by simp [hn])
      (fun j u hj => by rw [add_at]; exact hr.news hD (henc S w) j u hj) (fun u hu => by
        obtain ⟨q, hq, rfl⟩ := List.mem_map.1 hu
        obtain ⟨j, hj⟩ := List.getElem?_of_mem hq
        obtain ⟨_, _, _, _, hcc⟩ := hr.2.2 hp
        obtain ⟨es, he', _⟩ := hcc j q hj
        have := D.one he' (enc q)
        rw [henc S w q es he'] at this
        exact this (by simp)) (by simp only [maxLen]; omega) hl hbase
    refine Wop.val (fun ρ h => by simp [execOp, resolve, invoke, builtin, h x _ hx, h y _ hy, hrun]) (hk v1 w1 ?_ (fun w0 h0 => h0.grown hg hbase (fun k hk => (World.ownsRow.lt HO k hk).1)) hg hat)
    show w1.ownsRow base e 1 v1 (xs ++ ys).length _
    rw [List.length_append, List.map_append, hn]
    exact hown
end
section
variable {Q : Exit → Act → World → Prop} {N : Nat} {σ : Sl} {w : World} {K : Value → World → Prop}
variable {d : Option Tmp} {ty : TypeId} {ps : String} {af : Array Edge} {gd : Option (Nat × Bool)}
/-- append(v, xs ..) of texts, of numbers. -/
theorem Wop.appRowS {S : Nat → Prop} {x y : Operand} {v : Value} {n c : Nat} {A : Option Addr} {xs ys : List ByteArray} {base : Nat} (hx : look σ x = some v) (hy : look σ y = some (.slice A n c)) (hr : tS.Row S w A n ys) (HO : OwnS w base v xs) (hbase : base ≤ w.heap.size) (hl : xs.length + n ≤ 2199023255552)
    (hk : ∀ v' w', OwnS w' base v' (xs ++ ys) → (∀ w0, Below base w0 w → Below base w0 w') → w.grownBy w' v.ownBlock → (v'.ownBlock = v.ownBlock ∨ v'.ownBlock = some w.heap.size) → K v' w') :
    Wop Try.prog Q N ⟨d, .call ⟨.builtin .append, #[x, y], #[22, 22]⟩, ty, ps, af, gd⟩ σ w K :=
  Wop.appRow (D := tS) TT rfl rfl infoS rfl (by decide) rfl (fun _ _ _ _ h => h.1) hx hy hr HO hbase (by omega) hk
theorem Wop.appRowI {S : Nat → Prop} {x y : Operand} {v : Value} {n c : Nat} {A : Option Addr} {xs ys : List Int} {base : Nat} (hx : look σ x = some v) (hy : look σ y = some (.slice A n c)) (hr : tI.Row S w A n ys) (HO : OwnI w base v xs) (hbase : base ≤ w.heap.size) (hl : xs.length + n ≤ 2199023255552)
    (hk : ∀ v' w', OwnI w' base v' (xs ++ ys) → (∀ w0, Below base w0 w → Below base w0 w') → w.grownBy w' v.ownBlock → (v'.ownBlock = v.ownBlock ∨ v'.ownBlock = some w.heap.size) → K v' w') :
    Wop Try.prog Q N ⟨d, .call ⟨.builtin .append, #[x, y], #[28, 28]⟩, ty, ps, af, gd⟩ σ w K :=
  Wop.appRow (D := tI) TT rfl rfl infoI rfl (by decide) rfl (fun _ _ _ _ h => h.1) hx hy hr HO hbase (by omega) hk
end
/-! ### where ways meet again -/
section
variable {P : Program} {Q : Exit → Act → World → Prop} {N : Nat} {σ : Sl} {w : World}
theorem W.mid {x y : Code} {ι : Type} (τ : ι → Sl) (I : ι → World → Prop) (h : W P (Exit.then (fun a w => ∃ i, St N (τ i) a ∧ I i w) Q) N x σ w) (hy : ∀ i w', I i w' → W P Q N y (τ i) w') : W P Q N (.seq x y) σ w :=
  W.seq ⟨fun a ha => wp_mono (h.out a ha) (fun e a' w' hq => by
    cases e with
    | normal =>
      obtain ⟨i, hs, hI⟩ := hq
      exact (hy i w' hI).out a' hs
    | _ => exact hq)⟩
/-- As 'mid', from within a block. -/
theorem W.midB {id : Nat} {x y : Code} {ι : Type} (τ : ι → Sl) (I : ι → World → Prop) (h : W P (Exit.inBlock id (Exit.then (fun a w => ∃ i, St N (τ i) a ∧ I i w) Q)) N x σ w) (hy : ∀ i w', I i w' → W P Q N y (τ i) w') : W P (Exit.inBlock id (Exit.then (fun a w => y.wp P Q a w) Q)) N x σ w :=
  ⟨fun a ha => wp_mono (h.out a ha) (fun e a' w' hq => by
    have key : ∀ e, Exit.then (fun a w => ∃ i, St N (τ i) a ∧ I i w) Q e a' w' → Exit.then (fun a w => y.wp P Q a w) Q e a' w' := by
      intro e hq
      cases e with
      | normal =>
        obtain ⟨i, hs, hI⟩ := hq
        exact (hy i w' hI).out a' hs
      | _ => exact hq
    cases e with
    | exit id' =>
      simp only [Exit.inBlock] at hq ⊢
      by_cases hid : id' = id
      · rw [if_pos hid] at hq ⊢
        exact key _ hq
      · rw [if_neg hid] at hq ⊢
        exact key _ hq
    | normal => exact key .normal hq
    | ret => exact key .ret hq
    | goto l => exact key (.goto l) hq
    | panic c => exact key (.panic c) hq
    | outgrown => exact key .outgrown hq)⟩
theorem Arr.mid {ι : Type} {τ : ι → Sl} {I : ι → World → Prop} (i : ι) (hτ : Has σ (τ i)) (hI : I i w) : Arr (Exit.then (fun a w => ∃ i, St N (τ i) a ∧ I i w) Q) N .normal σ w := ⟨fun a ha => ⟨i, hτ.st a ha, hI⟩⟩
end
end Go.Proofs.Ytbadjlhijbkbbaa.Sx
