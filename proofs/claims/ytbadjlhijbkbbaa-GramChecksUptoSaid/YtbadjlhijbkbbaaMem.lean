/-
  Operations that make memory or write it, and a function's ends that read it. Nothing of the program is in it.
-/
import Derived.Test.YtbadjlhijbkbbaaTab
import Derived.Maps.AppendAt
set_option linter.unusedVariables false
namespace Go.Proofs.Ytbadjlhijbkbbaa.Sx
open Go Go.RowKit
section
variable {P : Program} {Q : Exit → Act → World → Prop} {N : Nat} {σ : Sl} {w : World} {K : Value → World → Prop} {ops : Array Oper} {rest : List Oper}
variable {d : Option Tmp} {ty : TypeId} {ps : String} {af : Array Edge} {gd : Option (Nat × Bool)}

theorem St.same {a : Act} (h : St N σ a) {t : Nat} {v : Value} (hl : σ.lookup t = some v) : St N ((t, v) :: σ) a := h.cons (h.get t v hl)
/-- An operation's guard, not decided yet: both ways. -/
theorem Wl.part {o : Oper} {t : Tmp} {p : Prop} [Decidable p] {j : Nat} {b : Bool} (_hg : o.guard = some (j, b)) (_hj : (ops[j]?).bind (·.dst) = some t) (hl : σ.lookup t = some (.bool (decide p)))
    (h1 : p → Wl P Q N ops (o :: rest) ((t, .bool true) :: σ) w) (h2 : ¬ p → Wl P Q N ops (o :: rest) ((t, .bool false) :: σ) w) : Wl P Q N ops (o :: rest) σ w :=
  ⟨fun a ha => by
    by_cases h : p
    · exact (h1 h).out a (by have := ha.same hl; rwa [decide_eq_true h] at this)
    · exact (h2 h).out a (by have := ha.same hl; rwa [decide_eq_false h] at this)⟩
theorem Wl.partB {o : Oper} {t : Tmp} {c : Bool} {j : Nat} {b : Bool} (_hg : o.guard = some (j, b)) (_hj : (ops[j]?).bind (·.dst) = some t) (hl : σ.lookup t = some (.bool c))
    (h1 : c = true → Wl P Q N ops (o :: rest) ((t, .bool true) :: σ) w) (h2 : c = false → Wl P Q N ops (o :: rest) ((t, .bool false) :: σ) w) : Wl P Q N ops (o :: rest) σ w :=
  ⟨fun a ha => by
    cases c with
    | true => exact (h1 rfl).out a (ha.same hl)
    | false => exact (h2 rfl).out a (ha.same hl)⟩
/-- A test whose slot is looked at again: what it was is kept. -/
theorem W.testR {t : Tmp} {p : Prop} [Decidable p] {x y : Code} (hc : σ.lookup t = some (.bool (decide p))) (h1 : p → W P Q N x ((t, .bool true) :: σ) w) (h2 : ¬ p → W P Q N y ((t, .bool false) :: σ) w) : W P Q N (.cond (.tmp t) x y) σ w :=
  W.test hc (fun h => ⟨fun a ha => (h1 h).out a (by have := ha.same hc; rwa [decide_eq_true h] at this)⟩) (fun h => ⟨fun a ha => (h2 h).out a (by have := ha.same hc; rwa [decide_eq_false h] at this)⟩)
/-- A slot's value, by another name. -/
theorem Wl.as {t : Tmp} {v v' : Value} (hl : σ.lookup t = some v) (he : v = v') (h : Wl P Q N ops rest ((t, v') :: σ) w) : Wl P Q N ops rest σ w := ⟨fun a ha => h.out a (by have := ha.same hl; rwa [he] at this)⟩
theorem W.as {c : Code} {t : Tmp} {v v' : Value} (hl : σ.lookup t = some v) (he : v = v') (h : W P Q N c ((t, v') :: σ) w) : W P Q N c σ w := ⟨fun a ha => h.out a (by have := ha.same hl; rwa [he] at this)⟩

/-! ### ends -/
section
variable {fn : Func} {Φ : Value → World → Prop}
theorem loadVar_blk (T : Tab P) {t u : TypeId} {b : Nat} {cs : Array Value} (ht : nth T.kinds t = some 0) (hs : nth T.sizes t = some cs.size) (hb : Blk w b cs u) : (loadVar t ⟨b, 0, none⟩).run P w = .ok (.agg cs) w := by
  have h := loadCells_run (P := P) (w := w) (a := ⟨b, 0, none⟩) cs.toList 0 #[] (fun j v hj => by rw [add_at, Nat.zero_add, Nat.zero_add]; exact hb.cell (by simpa using hj))
  simp at h
  simp [loadVar, T.agg t ht, T.size t _ hs, loadCells, h]
theorem loadVar_one (T : Tab P) {t u : TypeId} {b k : Nat} {cs : Array Value} {v : Value} (ht : nth T.kinds t = some (k + 1)) (hv : cs[0]? = some v) (hb : Blk w b cs u) : (loadVar t ⟨b, 0, none⟩).run P w = .ok v w := by
  simp [loadVar, T.plain t k ht, hb.cell hv]
/-- A struct result that lies in memory. -/
theorem Arr.retC (T : Tab P) {p : Tmp} {t u : TypeId} {b : Nat} {cs : Array Value} (hr : fn.results = #[.cell p t]) (hl : σ.lookup p = some (.pointer (some ⟨b, 0, none⟩))) (hb : Blk w b cs u) (ht : nth T.kinds t = some 0) (hs : nth T.sizes t = some cs.size) (hp : Φ (.agg cs) w) :
    Arr (bodyPost P fn (Ret Φ)) N .ret σ w := by
  refine ⟨fun a ha => ⟨ha.defers, _, ?_, _, rfl, hp⟩⟩
  have h1 := ha.get p _ hl
  rw [Array.getD_eq_getD_getElem?] at h1
  simp [results, hr, h1, asAddr, loadVar_blk T ht hs hb]
theorem Arr.retCT (T : Tab P) {p q : Tmp} {t u : TypeId} {b : Nat} {cs : Array Value} {v : Value} (hr : fn.results = #[.cell p t, .tmp q]) (hl : σ.lookup p = some (.pointer (some ⟨b, 0, none⟩))) (hb : Blk w b cs u) (ht : nth T.kinds t = some 0) (hs : nth T.sizes t = some cs.size)
    (hq : σ.lookup q = some v) (hp : Φ (.tuple #[.agg cs, v]) w) : Arr (bodyPost P fn (Ret Φ)) N .ret σ w := by
  refine ⟨fun a ha => ⟨ha.defers, _, ?_, _, rfl, hp⟩⟩
  have h1 := ha.get p _ hl
  have h2 := ha.get q _ hq
  rw [Array.getD_eq_getD_getElem?] at h1 h2
  simp [results, hr, h1, h2, asAddr, loadVar_blk T ht hs hb]
theorem Arr.retTC (T : Tab P) {p q : Tmp} {t u : TypeId} {b : Nat} {cs : Array Value} {v : Value} (hr : fn.results = #[.tmp q, .cell p t]) (hl : σ.lookup p = some (.pointer (some ⟨b, 0, none⟩))) (hb : Blk w b cs u) (ht : nth T.kinds t = some 0) (hs : nth T.sizes t = some cs.size)
    (hq : σ.lookup q = some v) (hp : Φ (.tuple #[v, .agg cs]) w) : Arr (bodyPost P fn (Ret Φ)) N .ret σ w := by
  refine ⟨fun a ha => ⟨ha.defers, _, ?_, _, rfl, hp⟩⟩
  have h1 := ha.get p _ hl
  have h2 := ha.get q _ hq
  rw [Array.getD_eq_getD_getElem?] at h1 h2
  simp [results, hr, h1, h2, asAddr, loadVar_blk T ht hs hb]
theorem Arr.ret0 (hr : fn.results = #[]) (hp : Φ (.tuple #[]) w) : Arr (bodyPost P fn (Ret Φ)) N .ret σ w :=
  ⟨fun a ha => ⟨ha.defers, _, results_none hr _ _ _, _, rfl, hp⟩⟩
theorem Arr.end0 (hr : fn.results = #[]) (hp : Φ (.tuple #[]) w) : Arr (bodyPost P fn (Ret Φ)) N .normal σ w :=
  ⟨fun a ha => ⟨ha.defers, _, results_none hr _ _ _, _, rfl, hp⟩⟩
theorem Arr.retT3 {t u x : Tmp} {v v' v'' : Value} (hr : fn.results = #[.tmp t, .tmp u, .tmp x]) (hl : σ.lookup t = some v) (hl' : σ.lookup u = some v') (hl'' : σ.lookup x = some v'') (hp : Φ (.tuple #[v, v', v'']) w) : Arr (bodyPost P fn (Ret Φ)) N .ret σ w := by
  refine ⟨fun a ha => ⟨ha.defers, _, ?_, _, rfl, hp⟩⟩
  have h1 := ha.get t _ hl
  have h2 := ha.get u _ hl'
  have h3 := ha.get x _ hl''
  rw [Array.getD_eq_getD_getElem?] at h1 h2 h3
  simp [results, hr, h1, h2, h3]
end

/-! ### what is made -/
theorem zip_of {ρ : Operand → Value} (h : ∀ x u, look σ x = some u → ρ x = u) : ∀ {l : List (Nat × Operand)} {us : List Value}, lookL σ (l.map (·.2)) = some us → l.map (fun x => (x.1, ρ x.2)) = (l.map (·.1)).zip us := by
  intro l us hx
  have := lookL_map h hx
  rw [← this]
  clear hx this
  induction l with
  | nil => rfl
  | cons x l ih => simp [ih]
theorem range_map {β : Type} (f : Nat → β) (n : Nat) : (Array.range n).map f = ((List.range n).map f).toArray := by
  apply Array.ext'
  simp
theorem Wop.buildSlice (T : Tab P) {t e : TypeId} {len sz : Nat} {parts : Array (Nat × Operand)} {us : List Value} {z : Value} {cs : Array Value} (ht : nth T.kinds t = some 1) (he : nth T.elems t = some e) (hs : nth T.sizes e = some sz) (hz : ∀ w, (zeroValue e).run P w = .ok z w)
    (hx : lookL σ (parts.toList.map (·.2)) = some us) (hsm : Nat.ble (len * sz) 16777216 = true)
    (hf : Instr.fill (fun i => some (i * sz, sz)) ((List.range (len * sz)).map (z.cells[· % z.cells.size]!)).toArray ((parts.toList.map (·.1)).zip us) = some cs) (h0 : (len * sz == 0) = false)
    (hk : ∀ w', Ext w w' → Blk w' w.heap.size cs e → w'.heap.size = w.heap.size + 1 → K (.slice (some ⟨w.heap.size, 0, none⟩) len len) w') : Wop P Q N ⟨d, .buildSlice t len parts, ty, ps, af, gd⟩ σ w K := by
  refine Wop.val (w' := w.alloc (.cells cs e)) (fun ρ h => ?_) (hk _ (Ext.alloc _ _) (Blk.alloc _ _ _) (by simp))
  have h1 := zip_of h hx
  rw [← range_map] at hf
  have hsm' : ¬ (len * sz > 16777216) := by simpa using hsm
  have h0' : ¬ (len * sz = 0) := by simpa using h0
  simp [execOp, Instr.buildSlice, run_underlying (T.slice t e ht he), T.size e sz hs, hsm', h0', hz, h1, hf, newRow]
/-- A literal of one element of one cell. -/
theorem Wop.lit1 (T : Tab P) {t e : TypeId} {x : Operand} {u z : Value} (ht : nth T.kinds t = some 1) (he : nth T.elems t = some e) (hs : nth T.sizes e = some 1) (hz : ∀ w, (zeroValue e).run P w = .ok z w) (hz1 : z.oneCell' = true)
    (hx : look σ x = some u) (hu : u.oneCell' = true)
    (hk : ∀ w', Ext w w' → Blk w' w.heap.size #[u] e → w'.heap.size = w.heap.size + 1 → K (.slice (some ⟨w.heap.size, 0, none⟩) 1 1) w') : Wop P Q N ⟨d, .buildSlice t 1 #[(0, x)], ty, ps, af, gd⟩ σ w K := by
  refine Wop.buildSlice T ht he hs hz (us := [u]) (by simp [lookL, hx]) rfl ?_ rfl hk
  cases u <;> simp_all [Instr.fill, Value.cells, List.range_succ, Value.oneCell', List.range_zero, Array.zipIdx]
/-- An empty literal. -/
theorem Wop.buildSlice0 (T : Tab P) {t e : TypeId} {sz : Nat} (ht : nth T.kinds t = some 1) (he : nth T.elems t = some e) (hs : nth T.sizes e = some sz)
    (hk : ∀ w', Ext w w' → Blk w' w.heap.size #[] e → w'.heap.size = w.heap.size + 1 → K (.slice (some ⟨w.heap.size, 0, none⟩) 0 0) w') : Wop P Q N ⟨d, .buildSlice t 0 #[], ty, ps, af, gd⟩ σ w K := by
  refine Wop.val (w' := w.alloc (.cells #[] e)) (fun ρ h => ?_) (hk _ (Ext.alloc _ _) (Blk.alloc _ _ _) (by simp))
  simp [execOp, Instr.buildSlice, run_underlying (T.slice t e ht he), T.size e sz hs, Instr.fill, newRow, range_map]
/-- A struct made of its parts. -/
theorem Wop.struct {t : TypeId} {parts : Array (Nat × Operand)} {us : List Value} {cs : Array Value} (hx : lookL σ (parts.toList.map (·.2)) = some us) (hb : P.built t ((parts.toList.map (·.1)).zip us) = some cs) (hk : K (.agg cs) w) :
    Wop P Q N ⟨d, .build t parts, ty, ps, af, gd⟩ σ w K := by
  refine Wop.val (fun ρ h => ?_) hk
  have h1 : (parts.map fun (i, x) => (i, ρ x)).toList = (parts.toList.map (·.1)).zip us := by
    rw [Array.toList_map]
    exact zip_of h hx
  have := run_build (P := P) w t (parts.map fun (i, x) => (i, ρ x)) cs (by rw [h1]; exact hb)
  simp [execOp, this]

/-- A struct type's zero cells and its fields' places. -/
def placesOf (P : Program) (t : TypeId) : Option (Array Value × Array (Nat × Nat)) := match P.info? t, P.underlying t with
  | some it, some (.struct fields) => match it.zero, fields.toList.mapM (fun f => (P.info? f.type).map fun i => (f.offset, i.size)) with
    | some z, some places => some (z.cells, places.toArray)
    | _, _ => none
  | _, _ => none
theorem built_of {t : TypeId} {z : Array Value} {pl : Array (Nat × Nat)} (h : placesOf P t = some (z, pl)) (parts : List (Nat × Value)) : P.built t parts = Instr.fill (pl[·]?) z parts := by
  unfold placesOf at h
  unfold Program.built
  cases hi : P.info? t with
  | none => rw [hi] at h; simp at h
  | some it =>
    cases hu : P.underlying t with
    | none => rw [hi, hu] at h; simp at h
    | some u =>
      rw [hi, hu] at h
      cases u <;> try (simp at h; done)
      rename_i fields
      simp only at h ⊢
      cases hz : it.zero with
      | none => rw [hz] at h; simp at h
      | some zz =>
        cases hm : fields.toList.mapM (fun f => (P.info? f.type).map fun i => (f.offset, i.size)) with
        | none => rw [hz, hm] at h; simp at h
        | some ps =>
          rw [hz, hm] at h
          simp only [Option.some.injEq, Prod.mk.injEq] at h
          simp [h.1, ← h.2]
/-- A struct made of its parts, by its type's places. -/
theorem Wop.make {t : TypeId} {z : Array Value} {pl : Array (Nat × Nat)} {parts : Array (Nat × Operand)} {us : List Value} {cs : Array Value} (hpl : placesOf P t = some (z, pl)) (hx : lookL σ (parts.toList.map (·.2)) = some us) (hf : Instr.fill (pl[·]?) z ((parts.toList.map (·.1)).zip us) = some cs) (hk : K (.agg cs) w) :
    Wop P Q N ⟨d, .build t parts, ty, ps, af, gd⟩ σ w K := Wop.struct hx (by rw [built_of hpl]; exact hf) hk
theorem fill_nil {p : Nat → Option (Nat × Nat)} {z : Array Value} : Instr.fill p z [] = some z := rfl

/-! ### stores of whole structs -/
def setAll (cs : Array Value) (o : Nat) : List Value → Array Value
  | [] => cs
  | v :: r => setAll (cs.setIfInBounds o v) (o + 1) r
theorem setAll_size : ∀ (vs : List Value) (cs : Array Value) (o : Nat), (setAll cs o vs).size = cs.size
  | [], _, _ => rfl
  | v :: r, cs, o => by simp [setAll, setAll_size r]
def setCellsW (w : World) (b o : Nat) : List Value → World
  | [] => w
  | v :: r => setCellsW (w.setCell ⟨b, o, none⟩ v) b (o + 1) r
theorem setCellsW_blk {u : TypeId} {b : Nat} : ∀ (vs : List Value) (w : World) (cs : Array Value) (o : Nat), Blk w b cs u → Blk (setCellsW w b o vs) b (setAll cs o vs) u
  | [], _, _, _, h => h
  | v :: r, w, cs, o, h => setCellsW_blk r _ _ _ (h.set o v)
theorem setCellsW_other {b k : Nat} (hk : k ≠ b) : ∀ (vs : List Value) (w : World) (o : Nat), (setCellsW w b o vs).heap[k]? = w.heap[k]?
  | [], _, _ => rfl
  | v :: r, w, o => by rw [setCellsW, setCellsW_other hk r]; exact Below.heap_setCell w _ _ _ hk
theorem setCellsW_below {b B : Nat} (hb : B ≤ b) : ∀ (vs : List Value) (w0 w : World) (o : Nat), Below B w0 w → Below B w0 (setCellsW w b o vs)
  | [], _, _, _, h => h
  | v :: r, w0, w, o, h => setCellsW_below hb r w0 _ _ (h.setCell hb v)
theorem setCellsW_size {b : Nat} : ∀ (vs : List Value) (w : World) (o : Nat), (setCellsW w b o vs).heap.size = w.heap.size
  | [], _, _ => rfl
  | v :: r, w, o => by rw [setCellsW, setCellsW_size r]; simp [World.setCell]
theorem storeCells_run {u : TypeId} {b : Nat} : ∀ (vs : List Value) (w : World) (cs : Array Value) (o i : Nat), (∀ v ∈ vs, v.oneCell' = true) → Blk w b cs u → o + i + vs.length ≤ cs.size → (storeCells ⟨b, o, none⟩ vs i).run P w = .ok () (setCellsW w b (o + i) vs)
  | [], _, _, _, _, _, _, _ => by simp [storeCells, setCellsW]
  | v :: r, w, cs, o, i, h1, hb, hl => by
    have hlt : o + i < cs.size := by simp at hl; omega
    have hc := hb.cell (i := o + i) (v := cs[o + i]) (by simp [hlt])
    have hst : (store ⟨b, o + i, none⟩ v).run P w = .ok () (w.setCell ⟨b, o + i, none⟩ v) := by rw [run_store P w _ v _ (h1 v List.mem_cons_self), hc]; simp [hb.frozen]
    have ih := storeCells_run r (w.setCell ⟨b, o + i, none⟩ v) _ o (i + 1) (fun x hx => h1 x (List.mem_cons_of_mem _ hx)) (hb.set (o + i) v) (by simp at hl ⊢; omega)
    rw [storeCells, add_at]
    simp only [Sem.run_bind, hst, Result.andThen_ok, ih, setCellsW]
    rfl
theorem Wop.stS (T : Tab P) {t : TypeId} {x y : Operand} {b o : Nat} {cs vs : Array Value} {u : TypeId} (hs : nth T.sizes t = some vs.size) (hx : look σ x = some (.pointer (some ⟨b, o, none⟩))) (hy : look σ y = some (.agg vs)) (h1 : ∀ v ∈ vs.toList, v.oneCell' = true) (hb : Blk w b cs u) (hl : o + vs.size ≤ cs.size)
    (hk : K undef (setCellsW w b o vs.toList)) : Wop P Q N ⟨d, .store t x y, ty, ps, af, gd⟩ σ w K := by
  refine Wop.skip (fun ρ h => ?_) hk
  have hst := storeCells_run (P := P) vs.toList w cs o 0 h1 hb (by simpa using hl)
  simp [execOp, h x _ hx, h y _ hy, Instr.storeAt, Instr.sureAddr, storeVar, Value.cells, T.size t _ hs, hst]
/-- A whole block that is a struct is written: the block then holds just this. -/
theorem setAll_whole : ∀ (vs : List Value) (pre : List Value) (cs : List Value), cs.length = vs.length → setAll (pre ++ cs).toArray pre.length vs = (pre ++ vs).toArray
  | [], pre, cs, h => by
    have : cs = [] := List.eq_nil_of_length_eq_zero (by simpa using h)
    simp [setAll, this]
  | v :: r, pre, c :: cs, h => by
    have ih := setAll_whole r (pre ++ [v]) cs (by simpa using h)
    simp only [List.append_assoc, List.singleton_append, List.length_append, List.length_singleton] at ih
    rw [setAll, ← ih]
    congr 1
    simp
  | v :: r, pre, [], h => by simp at h
theorem Wop.stB (T : Tab P) {t : TypeId} {x y : Operand} {b : Nat} {cs vs : Array Value} {u : TypeId} (hs : nth T.sizes t = some vs.size) (hx : look σ x = some (.pointer (some ⟨b, 0, none⟩))) (hy : look σ y = some (.agg vs)) (h1 : ∀ v ∈ vs.toList, v.oneCell' = true) (hb : Blk w b cs u) (hl : cs.size = vs.size)
    (hk : ∀ w', Below b w w' → Blk w' b vs u → w'.heap.size = w.heap.size → (∀ k, k ≠ b → w'.heap[k]? = w.heap[k]?) → K undef w') : Wop P Q N ⟨d, .store t x y, ty, ps, af, gd⟩ σ w K := by
  refine Wop.stS T hs hx hy h1 hb (by omega) (hk _ (setCellsW_below (Nat.le_refl _) _ _ _ _ (Below.refl _ _)) ?_ (setCellsW_size _ _ _) (fun k hk => setCellsW_other hk _ _ _))
  have h2 := setCellsW_blk vs.toList w cs 0 hb
  have h3 := setAll_whole vs.toList [] cs.toList (by simpa using hl)
  simp at h3
  rw [h3] at h2
  exact h2

/-- One cell of a block is written. -/
theorem Wop.stC (T : Tab P) {t : TypeId} {x y : Operand} {b i : Nat} {cs : Array Value} {u : TypeId} {v old : Value} (hs : nth T.sizes t = some 1) (hx : look σ x = some (.pointer (some ⟨b, i, none⟩))) (hy : look σ y = some v) (hv : v.oneCell' = true) (hb : Blk w b cs u) (hi : cs[i]? = some old)
    (hk : ∀ w', Below b w w' → Blk w' b (cs.setIfInBounds i v) u → w'.heap.size = w.heap.size → (∀ k, k ≠ b → w'.heap[k]? = w.heap[k]?) → K undef w') : Wop P Q N ⟨d, .store t x y, ty, ps, af, gd⟩ σ w K :=
  Wop.st T hs hx hy hv hb hi (hk _ ((Below.refl b w).setCell (show b ≤ (⟨b, i, none⟩ : Addr).block from Nat.le_refl b) v) (hb.set i v) (by simp [World.setCell]) (fun k hk => Below.heap_setCell w _ _ _ hk))

/-! ### append -/
/-- append(v, x): v a row of the call's own, x's cells in a block by themselves. -/
theorem Wop.app (T : Tab P) {t e : TypeId} {x y : Operand} {z v : Value} {sz bytes b n : Nat} {xs ys : List Value} {base : Nat} {u : TypeId} (ht : nth T.kinds t = some 1) (he : nth T.elems t = some e) (hinfo : (P.info? e).map (fun i => (i.zero, i.size, i.bytes)) = some (some z, sz, bytes)) (hz : z.cells.size = sz) (hs0 : 0 < sz) (hb0 : 0 < bytes)
    (hx : look σ x = some v) (hy : look σ y = some (.slice (some ⟨b, 0, none⟩) 1 1)) (hb : Blk w b ys.toArray u) (hys : ys.length = sz) (h1 : ∀ u ∈ ys, u.oneCell' = true) (HO : w.ownsRow base e sz v n xs) (hbase : base ≤ w.heap.size) (hl : (n + 1) * bytes ≤ 140737488355328)
    (hk : ∀ v' w', w'.ownsRow base e sz v' (n + 1) (xs ++ ys) → w.grownBy w' v.ownBlock → (v'.ownBlock = v.ownBlock ∨ v'.ownBlock = some w.heap.size) → K v' w') :
    Wop P Q N ⟨d, .call ⟨.builtin .append, #[x, y], #[t, t]⟩, ty, ps, af, gd⟩ σ w K := by
  obtain ⟨i0, hi, hzz⟩ := Option.map_eq_some_iff.1 hinfo
  simp only [Prod.mk.injEq] at hzz
  obtain ⟨hz0, hz1, hz2⟩ := hzz
  have hlen : n + 1 ≤ 140737488355328 := Nat.le_trans (Nat.le_mul_of_pos_right _ hb0) hl
  obtain ⟨v1, w1, hr, hown, hg, _, hat⟩ := run_append_own_at (P := P) w base t ty e i0 z sz bytes (T.slice t e ht he) hi hz0 hz1 hz2 hz hs0 v n xs HO ⟨b, 0, none⟩ 1 1 ys (by rw [hys]; simp)
    (fun j u hj => by rw [add_at, Nat.zero_add]; exact hb.cell (by simpa using hj)) h1 (by simp only [maxLen]; omega) hl hbase
  exact Wop.val (fun ρ h => by simp [execOp, resolve, invoke, builtin, h x _ hx, h y _ hy, hr]) (hk v1 w1 hown hg hat)
end

/-! ### rows of the call's own, of elements of one cell -/
section
variable {α : Type} {enc : α → Value} {e : TypeId} {w w' : World} {base : Nat} {v : Value} {xs : List α}
def Own (e : TypeId) (enc : α → Value) (w : World) (base : Nat) (v : Value) (xs : List α) : Prop := w.ownsRow base e 1 v xs.length (xs.map enc)
theorem own_move {size n : Nat} {cs : List Value} (h : w.ownsRow base e size v n cs) (hm : ∀ k, v.ownBlock = some k → w'.heap[k]? = w.heap[k]?) : w'.ownsRow base e size v n cs := by
  refine ⟨h.1, ?_⟩
  rcases h.2 with h2 | ⟨g, cap, cur, rfl, hb, hh, r⟩
  · exact .inl h2
  · exact .inr ⟨g, cap, cur, rfl, hb, (hm g rfl).trans hh, r⟩
theorem own_ext {size n : Nat} {cs : List Value} (h : w.ownsRow base e size v n cs) (x : Ext w w') : w'.ownsRow base e size v n cs := own_move h (fun k hk => x.block (h.lt k hk).2)
theorem Own.ext (h : Own e enc w base v xs) (x : Ext w w') : Own e enc w' base v xs := own_ext h x
theorem Own.move (h : Own e enc w base v xs) (hm : ∀ k, v.ownBlock = some k → w'.heap[k]? = w.heap[k]?) : Own e enc w' base v xs := own_move h hm
theorem Own.nil (e : TypeId) (enc : α → Value) (w : World) (base : Nat) : Own e enc w base (.slice none 0 0) [] := World.ownsRow_nil _ _ _ _
theorem Own.lower {base' : Nat} (h : Own e enc w base v xs) (hb : base' ≤ base) : Own e enc w base' v xs := by
  obtain ⟨h1, h2⟩ := h
  refine ⟨h1, ?_⟩
  rcases h2 with h2 | ⟨g, cap, cur, rfl, hg, r⟩
  · exact .inl h2
  · exact .inr ⟨g, cap, cur, rfl, Nat.le_trans hb hg, r⟩
theorem Own.slice (h : Own e enc w base v xs) : ∃ A c, v = .slice A xs.length c ∧ xs.length ≤ c := by
  rcases h.2 with ⟨rfl, h0⟩ | ⟨g, cap, cur, rfl, hb, hh, hnc, _⟩
  · exact ⟨none, 0, by rw [h0], by omega⟩
  · exact ⟨_, cap, rfl, hnc⟩
theorem Own.row {d : Ty α} (h : Own e enc w base v xs) (hsz : d.sz = 1) {S : Nat → Prop} (hm : xs.length ≤ 1099511627776) (hS : ∀ k, v.ownBlock = some k → S k) (hr : ∀ x ∈ xs, d.rd S w x [enc x]) : ∃ A c, v = .slice A xs.length c ∧ xs.length ≤ c ∧ d.Row S w A xs.length xs :=
  row_of_own hsz h hm hS hr
end
section
variable {P : Program} {Q : Exit → Act → World → Prop} {N : Nat} {σ : Sl} {w : World} {K : Value → World → Prop}
variable {d : Option Tmp} {ty : TypeId} {ps : String} {af : Array Edge} {gd : Option (Nat × Bool)}
/-- append(v, x) of one cell. -/
theorem Wop.app1 {α : Type} (T : Tab P) {t e : TypeId} {x y : Operand} {z v : Value} {bytes b : Nat} {enc : α → Value} {xs : List α} {a : α} {base : Nat} {u : TypeId} (ht : nth T.kinds t = some 1) (he : nth T.elems t = some e) (hinfo : (P.info? e).map (fun i => (i.zero, i.size, i.bytes)) = some (some z, 1, bytes)) (hz : z.cells.size = 1) (hb0 : 0 < bytes)
    (hx : look σ x = some v) (hy : look σ y = some (.slice (some ⟨b, 0, none⟩) 1 1)) (hb : Blk w b #[enc a] u) (h1 : (enc a).oneCell' = true) (HO : Own e enc w base v xs) (hbase : base ≤ w.heap.size) (hl : (xs.length + 1) * bytes ≤ 140737488355328)
    (hk : ∀ v' w', Own e enc w' base v' (xs ++ [a]) → (∀ w0, Below base w0 w → Below base w0 w') → w.grownBy w' v.ownBlock → (v'.ownBlock = v.ownBlock ∨ v'.ownBlock = some w.heap.size) → K v' w') :
    Wop P Q N ⟨d, .call ⟨.builtin .append, #[x, y], #[t, t]⟩, ty, ps, af, gd⟩ σ w K := by
  refine Wop.app T ht he hinfo hz (by decide) hb0 hx hy (ys := [enc a]) (by simpa using hb) rfl (by simpa using h1) HO hbase hl (fun v' w' ho hg hat => hk v' w' ?_ ?_ hg hat)
  · have : (xs ++ [a]).map enc = xs.map enc ++ [enc a] := by simp
    show w'.ownsRow base e 1 v' (xs ++ [a]).length _
    rw [this, List.length_append]
    exact ho
  · exact fun w0 h0 => h0.grown hg hbase (fun k hk => (HO.lt k hk).1)
end
end Go.Proofs.Ytbadjlhijbkbbaa.Sx
namespace Go.Proofs.Ytbadjlhijbkbbaa
open Go Go.RowKit Sx
theorem pl7 : placesOf Try.prog 7 = some (#[.int .i64 0, .int .i64 0, .bool false, .int .u8 0], #[(0, 1), (1, 1), (2, 1), (3, 1)]) := by kernel_rfl
theorem pl8 : placesOf Try.prog 8 = some (#[.int .i64 0, .int .i64 0, .bool false, .int .u8 0], #[(0, 1), (1, 1), (2, 1), (3, 1)]) := by kernel_rfl
theorem pl13 : placesOf Try.prog 13 = some (#[.string ⟨#[]⟩, .int .u64 0], #[(0, 1), (1, 1)]) := by kernel_rfl
theorem pl14 : placesOf Try.prog 14 = some (#[.string ⟨#[]⟩, .int .u64 0], #[(0, 1), (1, 1)]) := by kernel_rfl
theorem pl18 : placesOf Try.prog 18 = some (#[.pointer none], #[(0, 1)]) := by kernel_rfl
theorem pl19 : placesOf Try.prog 19 = some (#[.pointer none], #[(0, 1)]) := by kernel_rfl
theorem pl24 : placesOf Try.prog 24 = some (#[.slice none 0 0, .slice none 0 0, .slice none 0 0, .int .i64 0], #[(0, 1), (1, 1), (2, 1), (3, 1)]) := by kernel_rfl
theorem pl25 : placesOf Try.prog 25 = some (#[.slice none 0 0, .slice none 0 0, .slice none 0 0, .int .i64 0], #[(0, 1), (1, 1), (2, 1), (3, 1)]) := by kernel_rfl
theorem pl29 : placesOf Try.prog 29 = some (#[.int .i64 0, .slice none 0 0], #[(0, 1), (1, 1)]) := by kernel_rfl
theorem pl30 : placesOf Try.prog 30 = some (#[.int .i64 0, .slice none 0 0], #[(0, 1), (1, 1)]) := by kernel_rfl
theorem pl58 : placesOf Try.prog 58 = some (#[.bool false, .int .i64 0, .int .i64 0, .slice none 0 0], #[(0, 1), (1, 1), (2, 1), (3, 1)]) := by kernel_rfl
theorem pl59 : placesOf Try.prog 59 = some (#[.bool false, .int .i64 0, .int .i64 0, .slice none 0 0], #[(0, 1), (1, 1), (2, 1), (3, 1)]) := by kernel_rfl
theorem pl65 : placesOf Try.prog 65 = some (#[.int .i64 0, .int .i64 0, .int .i64 0, .slice none 0 0], #[(0, 1), (1, 1), (2, 1), (3, 1)]) := by kernel_rfl
theorem pl66 : placesOf Try.prog 66 = some (#[.int .i64 0, .int .i64 0, .int .i64 0, .slice none 0 0], #[(0, 1), (1, 1), (2, 1), (3, 1)]) := by kernel_rfl
theorem pl74 : placesOf Try.prog 74 = some (#[.slice none 0 0, .slice none 0 0], #[(0, 1), (1, 1)]) := by kernel_rfl
theorem pl75 : placesOf Try.prog 75 = some (#[.slice none 0 0, .slice none 0 0], #[(0, 1), (1, 1)]) := by kernel_rfl
theorem pl82 : placesOf Try.prog 82 = some (#[.int .i64 0, .int .i64 0], #[(0, 1), (1, 1)]) := by kernel_rfl
theorem pl83 : placesOf Try.prog 83 = some (#[.int .i64 0, .int .i64 0], #[(0, 1), (1, 1)]) := by kernel_rfl
theorem pl86 : placesOf Try.prog 86 = some (#[.int .i64 0, .int .i64 0], #[(0, 1), (1, 1)]) := by kernel_rfl
theorem pl87 : placesOf Try.prog 87 = some (#[.int .i64 0, .int .i64 0], #[(0, 1), (1, 1)]) := by kernel_rfl
theorem pl103 : placesOf Try.prog 103 = some (#[.slice none 0 0], #[(0, 1)]) := by kernel_rfl
theorem pl104 : placesOf Try.prog 104 = some (#[.slice none 0 0], #[(0, 1)]) := by kernel_rfl
theorem pl105 : placesOf Try.prog 105 = some (#[.bool false, .bool false, .slice none 0 0], #[(0, 1), (1, 1), (2, 1)]) := by kernel_rfl
theorem pl106 : placesOf Try.prog 106 = some (#[.bool false, .bool false, .slice none 0 0], #[(0, 1), (1, 1), (2, 1)]) := by kernel_rfl
theorem pl107 : placesOf Try.prog 107 = some (#[.nilFunc], #[(0, 1)]) := by kernel_rfl
theorem pl108 : placesOf Try.prog 108 = some (#[.nilFunc], #[(0, 1)]) := by kernel_rfl
theorem pl114 : placesOf Try.prog 114 = some (#[.slice none 0 0, .slice none 0 0, .slice none 0 0], #[(0, 1), (1, 1), (2, 1)]) := by kernel_rfl
theorem pl115 : placesOf Try.prog 115 = some (#[.slice none 0 0, .slice none 0 0, .slice none 0 0], #[(0, 1), (1, 1), (2, 1)]) := by kernel_rfl
theorem pl120 : placesOf Try.prog 120 = some (#[.slice none 0 0], #[(0, 1)]) := by kernel_rfl
theorem pl121 : placesOf Try.prog 121 = some (#[.slice none 0 0], #[(0, 1)]) := by kernel_rfl
theorem pl122 : placesOf Try.prog 122 = some (#[.int .i64 0, .int .i64 0, .int .i64 0, .slice none 0 0, .bool false, .bool false], #[(0, 4), (4, 1), (5, 1)]) := by kernel_rfl
theorem pl123 : placesOf Try.prog 123 = some (#[.int .i64 0, .int .i64 0, .int .i64 0, .slice none 0 0, .bool false, .bool false], #[(0, 4), (4, 1), (5, 1)]) := by kernel_rfl
theorem pl134 : placesOf Try.prog 134 = some (#[.pointer none, .slice none 0 0], #[(0, 1), (1, 1)]) := by kernel_rfl
theorem pl135 : placesOf Try.prog 135 = some (#[.pointer none, .slice none 0 0], #[(0, 1), (1, 1)]) := by kernel_rfl
theorem pl151 : placesOf Try.prog 151 = some (#[.slice none 0 0, .slice none 0 0, .slice none 0 0, .int .i64 0, .slice none 0 0, .slice none 0 0, .map none, .map none], #[(0, 4), (4, 1), (5, 1), (6, 1), (7, 1)]) := by kernel_rfl
theorem pl152 : placesOf Try.prog 152 = some (#[.slice none 0 0, .slice none 0 0, .slice none 0 0, .int .i64 0, .slice none 0 0, .slice none 0 0, .map none, .map none], #[(0, 4), (4, 1), (5, 1), (6, 1), (7, 1)]) := by kernel_rfl
theorem pl188 : placesOf Try.prog 188 = some (#[.int .i64 0, .int .i64 0], #[(0, 1), (1, 1)]) := by kernel_rfl
theorem pl189 : placesOf Try.prog 189 = some (#[.int .i64 0, .int .i64 0], #[(0, 1), (1, 1)]) := by kernel_rfl
theorem pl199 : placesOf Try.prog 199 = some (#[.int .i64 0, .int .i64 0], #[(0, 1), (1, 1)]) := by kernel_rfl
theorem pl200 : placesOf Try.prog 200 = some (#[.int .i64 0, .int .i64 0], #[(0, 1), (1, 1)]) := by kernel_rfl
theorem pl224 : placesOf Try.prog 224 = some (#[.pointer none, .pointer none, .pointer none, .string ⟨#[]⟩], #[(0, 1), (1, 1), (2, 1), (3, 1)]) := by kernel_rfl
theorem pl225 : placesOf Try.prog 225 = some (#[.pointer none, .pointer none, .pointer none, .string ⟨#[]⟩], #[(0, 1), (1, 1), (2, 1), (3, 1)]) := by kernel_rfl
theorem pl234 : placesOf Try.prog 234 = some (#[.int .u64 0, .int .u64 0, .int .u32 0, .int .u8 0, .int .u8 0, .int .u8 0, .int .u8 0, .nilFunc, .pointer none, .int .i32 0, .int .i32 0], #[(0, 1), (1, 1), (2, 1), (3, 1), (4, 1), (5, 1), (6, 1), (7, 1), (8, 1), (9, 1), (10, 1)]) := by kernel_rfl
theorem pl235 : placesOf Try.prog 235 = some (#[.int .u64 0, .int .u64 0, .int .u32 0, .int .u8 0, .int .u8 0, .int .u8 0, .int .u8 0, .nilFunc, .pointer none, .int .i32 0, .int .i32 0], #[(0, 1), (1, 1), (2, 1), (3, 1), (4, 1), (5, 1), (6, 1), (7, 1), (8, 1), (9, 1), (10, 1)]) := by kernel_rfl
end Go.Proofs.Ytbadjlhijbkbbaa
