/-
  Joined by program out of the texts Ar1 Ar2 Ar3 Ar4: lemmas for the proofs of this seat; no condition.
-/
import Derived.Test.YtbadjlhijbkbbaaBb
import Derived.Test.YtbadjlhijbkbbaaCa
set_option maxHeartbeats 1000000
/-
  The arena's trees, in plain Lean.
-/
set_option linter.unusedVariables false
namespace Go.Proofs.Ytbadjlhijbkbbaa
open Go
/-- A node. -/
structure Nd where
  sym : Int
  val : Int
  rule : Int
  kids : List Int
  leaf : Bool
  taken : Bool
deriving DecidableEq
namespace Arena
def none : Nd := ⟨0, 0, 0, [], false, false⟩
def nd (ns : List Nd) (i : Int) : Nd := ns[i.toNat]?.getD none
def isIn (ns : List Nd) (i : Int) : Bool := decide (0 ≤ i ∧ i < ns.length)
def leafNd (sym val : Int) : Nd := ⟨sym, val, -1, [], true, false⟩
def joinNd (sym rule : Int) (ks : List Int) : Nd := ⟨sym, -1, rule, ks, false, false⟩
def take1 (ns : List Nd) (k : Int) : List Nd := ns.modify k.toNat (fun x => { x with taken := true })
def takeAll (ns : List Nd) (ks : List Int) : List Nd := ks.foldl take1 ns
/-- May these be joined: each in, none taken, none twice. -/
def mayFrom (ns : List Nd) : List Int → List Int → Bool
  | _, [] => true
  | seen, k :: ks => isIn ns k && !(nd ns k).taken && !seen.contains k && mayFrom ns (seen ++ [k]) ks
def may (ns : List Nd) (ks : List Int) : Bool := mayFrom ns [] ks
def join (ns : List Nd) (sym rule : Int) (ks : List Int) : List Nd := if may ns ks then takeAll ns ks ++ [joinNd sym rule ks] else ns
def roots (ns : List Nd) : List Int := ((List.range ns.length).filter fun (i : Nat) => !(nd ns (i : Int)).taken).map fun (i : Nat) => (i : Int)
/-- A node and what is under it, in order. -/
def pre (ns : List Nd) : Nat → Int → List Int
  | 0, _ => []
  | f + 1, i => i :: (nd ns i).kids.flatMap (pre ns f)
def under (ns : List Nd) (i : Int) : List Int := if isIn ns i then pre ns (i.toNat + 1) i else []
/-- Kids lie ahead. -/
def Down (ns : List Nd) : Prop := ∀ i : Nat, ∀ k ∈ (nd ns i).kids, 0 ≤ k ∧ k < i
theorem flatMap_same {α β : Type} {f g : α → List β} : ∀ {l : List α}, (∀ x ∈ l, f x = g x) → l.flatMap f = l.flatMap g
  | [], _ => rfl
  | x :: l, h => by rw [List.flatMap_cons, List.flatMap_cons, h x List.mem_cons_self, flatMap_same (fun y hy => h y (List.mem_cons_of_mem _ hy))]
theorem pre_fuel {ns : List Nd} (h : Down ns) : ∀ (f g : Nat) (i : Int), 0 ≤ i → i < f → i < g → pre ns f i = pre ns g i
  | 0, _, i, h0, hf, _ => by omega
  | _, 0, i, h0, _, hg => by omega
  | f + 1, g + 1, i, h0, hf, hg => by
    rw [pre, pre]
    congr 1
    obtain ⟨j, rfl⟩ : ∃ j : Nat, i = j := ⟨i.toNat, by omega⟩
    have : ∀ k ∈ (nd ns j).kids, pre ns f k = pre ns g k := fun k hk => pre_fuel h f g k (h j k hk).1 (by have := (h j k hk).2; omega) (by have := (h j k hk).2; omega)
    exact flatMap_same this
theorem pre_congr {ns ms : List Nd} (h : Down ns) : ∀ (f : Nat) (i : Int), 0 ≤ i → (∀ j : Nat, (j : Int) ≤ i → (nd ms j).kids = (nd ns j).kids) → pre ms f i = pre ns f i
  | 0, _, _, _ => rfl
  | f + 1, i, h0, hk => by
    obtain ⟨j, rfl⟩ : ∃ j : Nat, i = j := ⟨i.toNat, by omega⟩
    rw [pre, pre, hk j (Int.le_refl _)]
    congr 1
    exact flatMap_same (fun k hkk => pre_congr h f k (h j k hkk).1 (fun l hl => hk l (by have := (h j k hkk).2; omega)))
theorem nd_lt {ns : List Nd} {i : Nat} (h : i < ns.length) : nd ns i = ns[i] := by simp [nd, h]
theorem nd_ge {ns : List Nd} {i : Nat} (h : ns.length ≤ i) : nd ns i = none := by simp [nd, h]
theorem nd_app {ns ms : List Nd} {i : Nat} (h : i < ns.length) : nd (ns ++ ms) i = nd ns i := by simp [nd, List.getElem?_append_left h]
theorem nd_new (ns : List Nd) (x : Nd) : nd (ns ++ [x]) (ns.length : Nat) = x := by simp [nd]
theorem take1_length (ns : List Nd) (k : Int) : (take1 ns k).length = ns.length := by simp [take1]
theorem takeAll_length : ∀ (ks : List Int) (ns : List Nd), (takeAll ns ks).length = ns.length
  | [], _ => rfl
  | k :: ks, ns => (takeAll_length ks (take1 ns k)).trans (take1_length ns k)
theorem take1_nd (ns : List Nd) (k : Int) (i : Nat) : nd (take1 ns k) i = if k.toNat = i ∧ i < ns.length then { nd ns i with taken := true } else nd ns i := by
  simp only [nd, take1, Int.toNat_natCast, List.getElem?_modify]
  by_cases h : i < ns.length
  · rw [List.getElem?_eq_getElem h]
    by_cases e : k.toNat = i
    · simp [e, h]
    · simp [e]
  · rw [List.getElem?_eq_none (by omega)]
    simp [h]
theorem takeAll_nd : ∀ (ks : List Int) (ns : List Nd) (i : Nat), (∀ k ∈ ks, 0 ≤ k) → nd (takeAll ns ks) i = if (i : Int) ∈ ks ∧ i < ns.length then { nd ns i with taken := true } else nd ns i
  | [], _, _, _ => by simp [takeAll]
  | k :: ks, ns, i, h0 => by
    have h := takeAll_nd ks (take1 ns k) i (fun k hk => h0 k (List.mem_cons_of_mem _ hk))
    have hk := h0 k List.mem_cons_self
    show nd (takeAll (take1 ns k) ks) i = _
    rw [h, take1_length, take1_nd]
    by_cases hl : i < ns.length
    · by_cases e : k.toNat = i
      · have e' : (i : Int) = k := by omega
        simp [e, e', hl]
      · have e' : ¬ (i : Int) = k := by omega
        simp [e, e', hl]
    · simp [hl]
theorem takeAll_kids (ks : List Int) (ns : List Nd) (i : Nat) (h0 : ∀ k ∈ ks, 0 ≤ k) : (nd (takeAll ns ks) i).kids = (nd ns i).kids := by
  rw [takeAll_nd ks ns i h0]
  split <;> rfl
/-- What may be joined, said otherwise. -/
theorem mayFrom_spec {ns : List Nd} : ∀ {ks seen : List Int}, mayFrom ns seen ks = true → (∀ k ∈ ks, (0 ≤ k ∧ k < ns.length) ∧ (nd ns k).taken = false ∧ k ∉ seen) ∧ ks.Nodup
  | [], _, _ => ⟨by simp, List.nodup_nil⟩
  | k :: ks, seen, h => by
    simp only [mayFrom, Bool.and_eq_true, Bool.not_eq_true', isIn, decide_eq_true_eq] at h
    obtain ⟨⟨⟨h1, h2⟩, h3⟩, h4⟩ := h
    obtain ⟨g1, g2⟩ := mayFrom_spec h4
    refine ⟨fun j hj => ?_, List.nodup_cons.2 ⟨fun hk => (g1 k hk).2.2 (by simp), g2⟩⟩
    rcases List.mem_cons.1 hj with rfl | hj
    · exact ⟨h1, h2, by simpa using h3⟩
    · exact ⟨(g1 j hj).1, (g1 j hj).2.1, fun hs => (g1 j hj).2.2 (List.mem_append_left _ hs)⟩
end Arena
end Go.Proofs.Ytbadjlhijbkbbaa

/-
  The arena's trees: each node lies under one root, once. Plain Lean.
-/
set_option linter.unusedVariables false
namespace Go.Proofs.Ytbadjlhijbkbbaa
open Go
namespace Arena
def ints (n : Nat) : List Int := (List.range n).map fun (i : Nat) => (i : Int)
theorem ints_succ (n : Nat) : ints (n + 1) = ints n ++ [(n : Int)] := by simp [ints, List.range_succ]
theorem ints_nodup (n : Nat) : (ints n).Nodup := List.Pairwise.map _ (fun _ _ h e => h (by omega)) List.nodup_range
theorem mem_ints {n : Nat} {k : Int} : k ∈ ints n ↔ 0 ≤ k ∧ k < n := by
  simp only [ints, List.mem_map, List.mem_range]
  exact ⟨fun ⟨i, h, e⟩ => by omega, fun h => ⟨k.toNat, by omega, by omega⟩⟩
theorem roots_eq (ns : List Nd) : roots ns = (ints ns.length).filter fun k => !(nd ns k).taken := by
  simp only [roots, ints, List.filter_map]
  rfl
theorem mem_roots {ns : List Nd} {k : Int} : k ∈ roots ns ↔ (0 ≤ k ∧ k < ns.length) ∧ (nd ns k).taken = false := by
  rw [roots_eq, List.mem_filter, mem_ints]
  simp
theorem roots_nodup (ns : List Nd) : (roots ns).Nodup := by
  rw [roots_eq]
  exact List.Pairwise.filter _ (ints_nodup _)
theorem perm_out {ks l : List Int} (hk : ks.Nodup) (hl : l.Nodup) (hs : ∀ k ∈ ks, k ∈ l) : (ks ++ l.filter (fun k => !ks.contains k)).Perm l := by
  rw [List.perm_iff_count]
  intro a
  rw [List.count_append, hk.count, hl.count]
  by_cases ha : a ∈ ks
  · have : List.count a (l.filter (fun k => !ks.contains k)) = 0 := List.count_eq_zero.2 (by simp [ha])
    rw [this, if_pos ha, if_pos (hs a ha)]
  · rw [List.count_filter (by simp [ha]), hl.count, if_neg ha]
    omega
/-- Each node lies under one root, once. -/
structure Wood (ns : List Nd) : Prop where
  down : Down ns
  perm : ((roots ns).flatMap (under ns)).Perm (ints ns.length)
/-- .. and the leaves are numbered. -/
structure Forest (ns : List Nd) (c : Nat) : Prop extends Wood ns where
  vals : (ns.filter (·.leaf)).map (·.val) = ints c
theorem Wood.nil : Wood [] := ⟨fun i k hk => by simp [nd, none] at hk, List.Perm.refl _⟩
theorem Forest.nil : Forest [] 0 := ⟨Wood.nil, rfl⟩
theorem nd_int {ns : List Nd} {k : Int} (h0 : 0 ≤ k) : nd ns k = nd ns (k.toNat : Nat) := by rw [show ((k.toNat : Nat) : Int) = k by omega]
/-- A node more, some of the elder taken. -/
theorem Wood.more {ns ms : List Nd} {ks : List Int} {x : Nd} (h : Wood ns) (hl : ms.length = ns.length + 1) (hn : nd ms (ns.length : Nat) = x) (hk : x.kids = ks)
    (ht : x.taken = false) (hkids : ∀ i : Nat, i < ns.length → (nd ms i).kids = (nd ns i).kids) (htak : ∀ i : Nat, i < ns.length → (nd ms i).taken = ((nd ns i).taken || ks.contains (i : Int)))
    (hks : ∀ k ∈ ks, (0 ≤ k ∧ k < ns.length) ∧ (nd ns k).taken = false) (hnd : ks.Nodup) : Wood ms := by
  have hd : Down ms := fun i k hk' => by
    by_cases h1 : i < ns.length
    · rw [hkids i h1] at hk'
      exact h.down i k hk'
    · by_cases h2 : i = ns.length
      · subst h2
        rw [hn, hk] at hk'
        exact (hks k hk').1
      · rw [nd_ge (by omega)] at hk'
        simp [none] at hk'
  have hu : ∀ k : Int, 0 ≤ k → k < ns.length → under ms k = under ns k := fun k h0 h1 => by
    rw [under, under, if_pos (by simp [isIn]; omega), if_pos (by simp [isIn]; omega)]
    exact pre_congr h.down _ _ h0 (fun j hj => hkids j (by omega))
  have hun : under ms (ns.length : Nat) = (ns.length : Int) :: ks.flatMap (under ns) := by
    rw [under, if_pos (by simp [isIn]; omega), Int.toNat_natCast, pre, hn, hk]
    congr 1
    refine flatMap_same (fun k hkk => ?_)
    have h1 := (hks k hkk).1
    rw [← hu k h1.1 h1.2, under, if_pos (by simp [isIn]; omega)]
    exact pre_fuel hd _ _ k h1.1 (by omega) (by omega)
  have hr : roots ms = (roots ns).filter (fun k => !ks.contains k) ++ [(ns.length : Int)] := by
    rw [roots_eq, roots_eq, hl, ints_succ, List.filter_append, List.filter_filter]
    congr 1
    · refine List.filter_congr (fun k hkk => ?_)
      obtain ⟨h0, h1⟩ := mem_ints.1 hkk
      have h2 := htak k.toNat (by omega)
      rw [← nd_int h0, ← nd_int h0, show ((k.toNat : Nat) : Int) = k by omega] at h2
      rw [h2]
      cases (nd ns k).taken <;> cases ks.contains k <;> rfl
    · simp [hn, ht]
  refine ⟨hd, ?_⟩
  rw [hr, List.flatMap_append, hl, ints_succ]
  have e1 : ((roots ns).filter (fun k => !ks.contains k)).flatMap (under ms) = ((roots ns).filter (fun k => !ks.contains k)).flatMap (under ns) :=
    flatMap_same (fun k hkk => hu k (mem_roots.1 (List.mem_filter.1 hkk).1).1.1 (mem_roots.1 (List.mem_filter.1 hkk).1).1.2)
  have e2 : [(ns.length : Int)].flatMap (under ms) = (ns.length : Int) :: ks.flatMap (under ns) := by
    rw [List.flatMap_cons, List.flatMap_nil, List.append_nil]
    exact hun
  rw [e1, e2]
  have p1 : (ks ++ (roots ns).filter (fun k => !ks.contains k)).Perm (roots ns) := perm_out hnd (roots_nodup ns) (fun k hkk => mem_roots.2 (hks k hkk))
  have p2 := (p1.flatMap_right (under ns)).trans h.perm
  rw [List.flatMap_append] at p2
  refine List.Perm.trans ?_ (p2.append_right [(ns.length : Int)])
  refine List.Perm.trans List.perm_append_comm ?_
  rw [List.cons_append]
  exact (List.perm_append_singleton _ _).symm
theorem Wood.leaf {ns : List Nd} (h : Wood ns) (sym val : Int) : Wood (ns ++ [leafNd sym val]) :=
  h.more (ks := []) (by simp) (nd_new _ _) rfl rfl (fun i hi => by rw [nd_app hi]) (fun i hi => by rw [nd_app hi]; simp) (by simp) List.nodup_nil
theorem Forest.leaf {ns : List Nd} {c : Nat} (h : Forest ns c) (sym : Int) : Forest (ns ++ [leafNd sym c]) (c + 1) :=
  ⟨h.toWood.leaf sym c, by rw [List.filter_append, List.map_append, h.vals, ints_succ]; rfl⟩
theorem takeAll_vals : ∀ (ks : List Int) (ns : List Nd), ((takeAll ns ks).filter (·.leaf)).map (·.val) = (ns.filter (·.leaf)).map (·.val)
  | [], _ => rfl
  | k :: ks, ns => by
    have h := takeAll_vals ks (take1 ns k)
    show ((takeAll (take1 ns k) ks).filter (·.leaf)).map (·.val) = _
    rw [h]
    have key : ∀ (ns : List Nd) (i : Nat), ((ns.modify i (fun x => { x with taken := true })).filter (·.leaf)).map (·.val) = (ns.filter (·.leaf)).map (·.val) := by
      intro ns
      induction ns with
      | nil => intro i; simp
      | cons x ns ih =>
        intro i
        cases i with
        | zero => rw [List.modify_zero_cons, List.filter_cons, List.filter_cons]; simp only; split <;> rfl
        | succ i =>
          rw [List.modify_succ_cons, List.filter_cons, List.filter_cons]
          split
          · rw [List.map_cons, List.map_cons, ih]
          · exact ih i
    exact key ns _
theorem Wood.join {ns : List Nd} (h : Wood ns) (sym rule : Int) (ks : List Int) : Wood (join ns sym rule ks) := by
  rw [Arena.join]
  split
  · rename_i hm
    obtain ⟨h1, h2⟩ := mayFrom_spec hm
    have h0 : ∀ k ∈ ks, 0 ≤ k := fun k hk => (h1 k hk).1.1
    have hl := takeAll_length ks ns
    refine h.more (ks := ks) (x := joinNd sym rule ks) (by simp [hl]) ?_ rfl rfl (fun i hi => ?_) (fun i hi => ?_) (fun k hk => ⟨(h1 k hk).1, (h1 k hk).2.1⟩) h2
    · have := nd_new (takeAll ns ks) (joinNd sym rule ks)
      rwa [hl] at this
    · rw [nd_app (by omega), takeAll_kids ks ns i h0]
    · rw [nd_app (by omega), takeAll_nd ks ns i h0]
      by_cases e : (i : Int) ∈ ks
      · simp [e, hi]
      · simp [e]
  · exact h
theorem Forest.join {ns : List Nd} {c : Nat} (h : Forest ns c) (sym rule : Int) (ks : List Int) : Forest (join ns sym rule ks) c :=
  ⟨h.toWood.join sym rule ks, by
    rw [Arena.join]
    split
    · rw [List.filter_append, List.map_append, takeAll_vals, h.vals]
      simp [joinNd]
    · exact h.vals⟩
theorem pre_sub (ns : List Nd) (h : Down ns) : ∀ (f : Nat) (r k : Int), 0 ≤ r → r < f → k ∈ pre ns f r → (pre ns (k.toNat + 1) k).Sublist (pre ns f r)
  | 0, r, k, _, _, hk => by simp [pre] at hk
  | f + 1, r, k, h0, hf, hk => by
    have hk' := hk
    rw [pre] at hk
    rcases List.mem_cons.1 hk with rfl | hk
    · rw [pre_fuel h (k.toNat + 1) (f + 1) k h0 (by omega) hf]
      exact List.Sublist.refl _
    · obtain ⟨x, hx, hk⟩ := List.mem_flatMap.1 hk
      have hxr : 0 ≤ x ∧ x < r := by
        rw [nd_int h0] at hx
        have := h _ x hx
        omega
      have ih := pre_sub ns h f x k hxr.1 (by omega) hk
      rw [show pre ns (f + 1) r = r :: (nd ns r).kids.flatMap (pre ns f) from rfl]
      refine List.Sublist.cons _ (ih.trans ?_)
      obtain ⟨a, b, e⟩ := List.append_of_mem hx
      rw [e, List.flatMap_append, List.flatMap_cons]
      exact (List.sublist_append_left _ _).trans (List.sublist_append_right _ _)
theorem Wood.under_le {ns : List Nd} (h : Wood ns) (i : Int) : (under ns i).length ≤ ns.length := by
  rw [under]
  split
  · rename_i hi
    simp only [isIn, decide_eq_true_eq] at hi
    have hm : i ∈ (roots ns).flatMap (under ns) := h.perm.mem_iff.2 (mem_ints.2 hi)
    obtain ⟨r, hr, hir⟩ := List.mem_flatMap.1 hm
    have hr' := (mem_roots.1 hr).1
    rw [under, if_pos (by simp [isIn]; omega)] at hir
    have h1 := (pre_sub ns h.down _ r i hr'.1 (by omega) hir).length_le
    have h2 : (under ns r).length ≤ ((roots ns).flatMap (under ns)).length := by
      obtain ⟨a, b, e⟩ := List.append_of_mem hr
      rw [e, List.flatMap_append, List.flatMap_cons]
      simp only [List.length_append]
      omega
    rw [under, if_pos (by simp [isIn]; omega)] at h2
    have h3 := h.perm.length_eq
    simp only [ints, List.length_map, List.length_range] at h3
    omega
  · simp
/-- The leaves under a node, their values in order. -/
def leaves (ns : List Nd) (i : Int) : List Int := ((under ns i).filter fun k => (nd ns k).leaf).map fun k => (nd ns k).val
theorem Forest.counts {ns : List Nd} {c : Nat} (h : Forest ns c) : ((roots ns).flatMap (leaves ns)).Perm (ints c) := by
  have e1 : (roots ns).flatMap (leaves ns) = (((roots ns).flatMap (under ns)).filter fun k => (nd ns k).leaf).map fun k => (nd ns k).val := by
    induction roots ns with
    | nil => rfl
    | cons k l ih => rw [List.flatMap_cons, List.flatMap_cons, List.filter_append, List.map_append, ih]; rfl
  rw [e1]
  refine ((h.perm.filter _).map _).trans ?_
  have e2 : ∀ (l : List Nd), ((ints l.length).filter fun k => (nd l k).leaf).map (fun k => (nd l k).val) = (l.filter (·.leaf)).map (·.val) := by
    intro l
    have hm : (ints l.length).map (fun k => nd l k) = l := by
      refine List.ext_getElem (by simp [ints]) (fun i h1 h2 => ?_)
      simp only [ints, List.getElem_map, List.getElem_range]
      exact nd_lt h2
    have h2 : (l.filter (·.leaf)).map (·.val) = (((ints l.length).map (fun k => nd l k)).filter (·.leaf)).map (·.val) := by rw [hm]
    rw [h2, List.filter_map, List.map_map]
    rfl
  rw [e2, h.vals]
end Arena
end Go.Proofs.Ytbadjlhijbkbbaa

/-
  The arena's trees in memory; New, Len, in, Leaf.
-/
set_option linter.unusedVariables false
namespace Go.Proofs.Ytbadjlhijbkbbaa
open Go Go.RowKit Sx Arena
variable {S S' : Nat → Prop} {w w' : World} {base p : Nat} {ns : List Nd}
abbrev tNd : Ty Nd := (tI.prod (tI.prod (tI.prod (tIs.prod (Ty.bool.prod Ty.bool))))).via fun x => (x.sym, x.val, x.rule, x.kids, x.leaf, x.taken)
theorem infoNd : (Try.prog.info? 123).map (fun i => (i.zero, i.size, i.bytes)) = some (some (.agg #[.int .i64 0, .int .i64 0, .int .i64 0, .slice none 0 0, .bool false, .bool false]), 6, 56) := by kernel_rfl
theorem tNd_mk {x : Nd} {A : Option Addr} {c : Nat} (h1 : I64 x.sym) (h2 : I64 x.val) (h3 : I64 x.rule) (hc : x.kids.length ≤ c) (hr : tI.Row S w A x.kids.length x.kids) :
    tNd.rd S w x [.int .i64 x.sym, .int .i64 x.val, .int .i64 x.rule, .slice A x.kids.length c, .bool x.leaf, .bool x.taken] :=
  ⟨[_], _, rfl, ⟨rfl, Ty.InK.of64 h1⟩, [_], _, rfl, ⟨rfl, Ty.InK.of64 h2⟩, [_], _, rfl, ⟨rfl, Ty.InK.of64 h3⟩, [_], _, rfl, ⟨A, _, c, rfl, hc, hr⟩, [_], _, rfl, rfl, rfl⟩
theorem i64m : I64 (-1) := ⟨by decide, by decide⟩
/-- A tree in a box of the call's own. -/
def TreeAt (w : World) (base p : Nat) (ns : List Nd) : Prop :=
  ∃ v, Blk w p #[v] 121 ∧ base ≤ p ∧ v.ownBlock ≠ some p ∧ OwnM tNd (fun k => base ≤ k ∧ k ≠ p ∧ v.ownBlock ≠ some k) w base 123 v ns
theorem TreeAt.ext (h : TreeAt w base p ns) (e : Ext w w') : TreeAt w' base p ns := by
  obtain ⟨v, h1, h2, h3, h4⟩ := h
  exact ⟨v, h1.ext e, h2, h3, h4.ext e⟩
theorem gNew : Calls Try.prog 48 [].toArray w (Ret fun v w' => v = .pointer (some ⟨w.heap.size, 0, none⟩) ∧ TreeAt w' w.heap.size w.heap.size [] ∧ Ext w w') := by
  refine enter Try.func48 rfl Try.ntmps48 rfl ?_
  refine wk ?_
  refine Wop.make (cs := #[.slice none 0 0]) pl121 rfl rfl ?_
  refine wk ?_
  refine Wop.box rfl (fun w1 e1 b1 z1 => ?_)
  refine wk ?_
  exact Arr.ret1 rfl rfl ⟨rfl, ⟨_, b1, Nat.le_refl _, by simp [Value.ownBlock], OwnM.nil⟩, e1⟩
theorem gLenT (h : TreeAt w base p ns) : Calls Try.prog 55 [.pointer (some ⟨p, 0, none⟩)].toArray w (Ret fun v w' => v = .int .i64 (ns.length : Int) ∧ Ext w w') := by
  obtain ⟨v, h1, h2, h3, h4⟩ := h
  obtain ⟨A, c, rfl, hc⟩ := h4.slice
  refine enter Try.func55 rfl Try.ntmps55 rfl ?_
  refine wk ?_
  refine Wop.ptrSome Try.underlying56 rfl ?_
  refine wk ?_
  exact Arr.ret1 rfl rfl ⟨rfl, Ext.refl _⟩
theorem gLenN : Calls Try.prog 55 [.pointer none].toArray w (Ret fun v w' => v = .int .i64 0 ∧ Ext w w') := by
  refine enter Try.func55 rfl Try.ntmps55 rfl ?_
  refine wk ?_
  refine Wop.ptrNil Try.underlying56 rfl ?_
  refine wk ?_
  exact Arr.ret1 rfl rfl ⟨rfl, Ext.refl _⟩
theorem gIn (h : TreeAt w base p ns) (i : Int) : Calls Try.prog 101 [.pointer (some ⟨p, 0, none⟩), .int .i64 i].toArray w (Ret fun v w' => v = .bool (isIn ns i) ∧ Ext w w') := by
  refine enter Try.func101 rfl Try.ntmps101 rfl ?_
  refine wk ?_
  refine Wl.part rfl rfl rfl (fun q => ?_) (fun q => ?_)
  · refine wk ?_
    refine Wop.fn en55 rfl (gLenT h) ?_
    rintro _ w1 ⟨rfl, e1⟩
    refine wk ?_
    exact Arr.ret1 rfl rfl ⟨by simp [isIn, q], e1⟩
  · refine wk ?_
    exact Arr.ret1 rfl rfl ⟨by simp [isIn]; omega, Ext.refl _⟩
set_option maxHeartbeats 1000000 in
theorem gLeaf (h : TreeAt w base p ns) (hb : base ≤ w.heap.size) (hn : ns.length ≤ 1000000000) {sym val : Int} (hs : I64 sym) (hv : I64 val) :
    Calls Try.prog 49 [.pointer (some ⟨p, 0, none⟩), .int .i64 sym, .int .i64 val].toArray w (Ret fun v w' => v = .int .i64 (ns.length : Int) ∧ TreeAt w' base p (ns ++ [leafNd sym val]) ∧ Below base w w') := by
  obtain ⟨v, h1, h2, h3, h4⟩ := h
  obtain ⟨A, c, rfl, hc⟩ := h4.slice
  refine enter Try.func49 rfl Try.ntmps49 rfl ?_
  refine wk ?_
  refine Wop.ptrSome Try.underlying56 rfl ?_
  refine wk ?_
  refine Wop.make (cs := #[.int .i64 sym, .int .i64 val, .int .i64 (-1), .slice none 0 0]) pl66 rfl rfl ?_
  refine wk ?_
  refine Wop.make (cs := #[.int .i64 sym, .int .i64 val, .int .i64 (-1), .slice none 0 0, .bool true, .bool false]) pl123 rfl rfl ?_
  refine wk ?_
  refine Wop.buildSlice (cs := #[.int .i64 sym, .int .i64 val, .int .i64 (-1), .slice none 0 0, .bool true, .bool false]) TT rfl rfl rfl Try.zeroValue123 rfl rfl rfl rfl (fun w1 e1 b1 z1 => ?_)
  refine wk ?_
  refine Wop.appM (D := tNd) (S' := fun _ => False) TT rfl rfl infoNd rfl (by decide) (by decide) rfl rfl (es := [.int .i64 sym, .int .i64 val, .int .i64 (-1), .slice none 0 0, .bool true, .bool false]) (a := leafNd sym val) b1 (tNd_mk (x := leafNd sym val) hs hv i64m (Nat.le_refl _) (Ty.Row.nil_ _ _ _ _)) (h4.ext e1) (by have := e1.size; omega) (by omega) (fun k hk => hk.2.2) (fun k hk => hk.elim) (fun v' w2 hm kk hat => ?_)
  have hlt := fun k hk => h4.lt k hk
  have hl1 := h1.lt
  have hs1 := e1.size
  have hb2 := kk.blk (h1.ext e1) h3
  obtain ⟨A', c', rfl, hc'⟩ := hm.slice
  have hlen : (ns ++ [leafNd sym val]).length = ns.length + 1 := by simp
  have hp' : (Value.slice A' (ns ++ [leafNd sym val]).length c').ownBlock ≠ some p := by
    rcases hat with e | e
    · rw [e]; exact h3
    · rw [e]; intro h; cases h; omega
  refine wk ?_
  refine Wop.stC TT rfl rfl rfl rfl hb2 rfl (fun w3 g3 b3 z3 k3 => ?_)
  refine wk ?_
  refine Arr.ret1 rfl rfl ⟨by rw [hlen]; simp, ⟨_, b3, h2, hp', (hm.keep (p := fun k => k ≠ p) ⟨g3.os, g3.tape, g3.output, g3.size, fun k hk _ => k3 k hk⟩ (fun k hk e => hp' (e ▸ hk)) (fun k hk => hk.1.elim (fun h => h.2.1) (fun h => h.elim))).mono (fun k hk _ => ?_)⟩, ?_⟩
  · rcases hk.1 with h | h
    · refine ⟨h.1, h.2.1, fun hk' => ?_⟩
      rcases hat with e | e
      · rw [e] at hk'; exact h.2.2 hk'
      · rw [e] at hk'; cases hk'; have := hk.2; omega
    · exact h.elim
  · exact ((e1.mono hb).trans (kk.below (by omega) (fun k hk h => by have := (hlt k h).1; omega))).trans (g3.mono h2)
end Go.Proofs.Ytbadjlhijbkbbaa

/-
  The arena's roots.
-/
set_option linter.unusedVariables false
namespace Go.Proofs.Ytbadjlhijbkbbaa
open Go Go.RowKit Sx Arena
variable {S S' : Nat → Prop} {w w' : World} {base p : Nat} {ns : List Nd}
theorem tNd_open {x : Nd} {cs : List Value} (h : tNd.rd S w x cs) : ∃ A c, cs = [.int .i64 x.sym, .int .i64 x.val, .int .i64 x.rule, .slice A x.kids.length c, .bool x.leaf, .bool x.taken] ∧ x.kids.length ≤ c ∧ I64 x.sym ∧ I64 x.val ∧ I64 x.rule ∧ tI.Row S w A x.kids.length x.kids := by
  obtain ⟨_, _, rfl, ⟨rfl, h1⟩, _, _, rfl, ⟨rfl, h2⟩, _, _, rfl, ⟨rfl, h3⟩, _, _, rfl, h4, _, _, rfl, rfl, rfl⟩ := h
  obtain ⟨A, c, rfl, hc, hr⟩ := tIs_open h4
  exact ⟨A, c, rfl, hc, h1.i64, h2.i64, h3.i64, hr⟩
theorem TreeAt.row (h : TreeAt w base p ns) (hn : ns.length ≤ 1000000000) : ∃ A c, Blk w p #[.slice A ns.length c] 121 ∧ ns.length ≤ c ∧ base ≤ p ∧ tNd.Row (fun k => base ≤ k ∧ k ≠ p) w A ns.length ns := by
  obtain ⟨v, h1, h2, h3, h4⟩ := h
  have hl := h4.lt
  obtain ⟨A, c, rfl, hc, hr⟩ := h4.row (S' := fun k => base ≤ k ∧ k ≠ p) (by omega) (fun k hk => ⟨hk.1, hk.2.1⟩) (fun k hk => ⟨(hl k hk).1, fun e => h3 (e ▸ hk)⟩)
  exact ⟨A, c, h1, hc, h2, hr⟩
theorem filter_ints (ns : List Nd) {i : Nat} (hi : i < ns.length) : (ints (i + 1)).filter (fun k => !(nd ns k).taken) = (ints i).filter (fun k => !(nd ns k).taken) ++ (if ns[i].taken = false then [(i : Int)] else []) := by
  rw [ints_succ, List.filter_append]
  congr 1
  rw [List.filter_cons, nd_lt hi]
  cases ns[i].taken <;> rfl
set_option maxHeartbeats 1000000 in
theorem gRoots (h : TreeAt w base p ns) (hn : ns.length ≤ 1000000000) : Calls Try.prog 51 [.pointer (some ⟨p, 0, none⟩)].toArray w (Ret fun v w' => OwnI w' w.heap.size v (roots ns) ∧ Ext w w') := by
  obtain ⟨A, c, hb, hc, hbp, hr⟩ := h.row hn
  refine enter Try.func51 rfl Try.ntmps51 rfl ?_
  refine wk ?_
  refine Wop.fn en55 rfl (gLenT h) ?_
  rintro _ w1 ⟨rfl, e1⟩
  refine wk ?_
  refine W.midB (ι := Value) (fun v => [(3, v)]) (fun v w' => Ext w w' ∧ OwnI w' w.heap.size v (roots ns)) ?_ ?_
  · refine W.loop (ι := Nat × Value) (fun i => [(0, .pointer (some ⟨p, 0, none⟩)), (6, .int .i64 (ns.length : Int)), (7, .int .i64 (i.1 : Int)), (3, i.2)])
      (fun i w' => Ext w w' ∧ i.1 ≤ ns.length ∧ OwnI w' w.heap.size i.2 ((ints i.1).filter (fun k => !(nd ns k).taken))) (fun i => ns.length - i.1) (0, .slice none 0 0) has ⟨e1, Nat.zero_le _, Own.nil _ _ _ _⟩ ?_
    rintro ⟨i, v⟩ w' ⟨hE, hi, ho⟩
    simp only at hi ho ⊢
    have hfl : ((ints i).filter (fun k => !(nd ns k).taken)).length ≤ i := by
      refine Nat.le_trans (List.length_filter_le _ _) ?_
      simp [ints]
    have hb' := hb.ext hE
    refine wk ?_
    refine W.test rfl (fun hlt => ?_) (fun hge => ?_)
    · have hlt : i < ns.length := by omega
      obtain ⟨b, o, rfl, es, hrd, hcc⟩ := (hr.ext (by decide) hE).at_ i hlt
      obtain ⟨A1, c1, rfl, hcap, _, _, _, hrow⟩ := tNd_open hrd
      have hcell := hcc 5 _ rfl
      refine wk ?_
      refine W.cond rfl (fun q => ?_) (fun q => ?_)
      · have q' : ns[i].taken = false := by simpa using q
        refine wk ?_
        refine Wop.litI rfl (fun w4 e4 b4 z4 => ?_)
        refine wk ?_
        refine Wop.appI rfl rfl b4 (ho.ext e4) (by have := (hE.trans e4).size; omega) (by omega) (fun v' w5 ho' hb5 _ _ => ?_)
        refine wk ?_
        refine Arr.again (i := (i, v)) (i + 1, v') has ⟨hb5 _ (hE.trans e4), hlt, ?_⟩ (by omega)
        rw [filter_ints ns hlt, if_pos q']
        exact ho'
      · have q' : ¬ ns[i].taken = false := by simpa using q
        refine wk ?_
        refine Arr.again (i := (i, v)) (i + 1, v) has ⟨hE, hlt, ?_⟩ (by omega)
        rw [filter_ints ns hlt, if_neg q', List.append_nil]
        exact ho
    · have : i = ns.length := by omega
      subst this
      refine wk ?_
      refine Arr.mid v has ⟨hE, ?_⟩
      rw [roots_eq]
      exact ho
  rintro v w2 ⟨hE, ho⟩
  refine wk ?_
  exact Arr.ret1 rfl rfl ⟨ho, hE⟩
theorem gRootsN : Calls Try.prog 51 [.pointer none].toArray w (Ret fun v w' => v = .slice none 0 0 ∧ Ext w w') := by
  refine enter Try.func51 rfl Try.ntmps51 rfl ?_
  refine wk ?_
  refine Wop.fn en55 rfl gLenN ?_
  rintro _ w1 ⟨rfl, e1⟩
  refine wk ?_
  refine W.midB (ι := Unit) (fun v => [(3, .slice none 0 0)]) (fun v w' => Ext w w') ?_ ?_
  · refine W.loop (ι := Unit) (fun i => [(6, .int .i64 0), (7, .int .i64 0), (3, .slice none 0 0)])
      (fun i w' => Ext w w') (fun i => 0) () has e1 ?_
    rintro _ w' hE
    refine wk ?_
    exact Arr.mid () has hE
  rintro _ w2 hE
  refine wk ?_
  exact Arr.ret1 rfl rfl ⟨rfl, hE⟩
theorem gLeaves1 {x : Nd} {A : Option Addr} {c : Nat} : Calls Try.prog 105 [.agg #[.int .i64 x.sym, .int .i64 x.val, .int .i64 x.rule, .slice A x.kids.length c]].toArray w (Ret fun v w' => v = .int .i64 x.val ∧ Ext w w') := by
  refine enter Try.func105 rfl Try.ntmps105 rfl ?_
  refine wk ?_; try (refine Wop.box rfl (fun w1 e1 b1 z1 => ?_); refine wk ?_)
  refine wk ?_
  exact Arr.ret1 rfl rfl ⟨rfl, e1⟩
theorem gYield1 {x : Nd} {A : Option Addr} {c : Nat} : Calls Try.prog 106 [.agg #[.int .i64 x.sym, .int .i64 x.val, .int .i64 x.rule, .slice A x.kids.length c]].toArray w (Ret fun v w' => v = .int .i64 x.sym ∧ Ext w w') := by
  refine enter Try.func106 rfl Try.ntmps106 rfl ?_
  refine wk ?_; try (refine Wop.box rfl (fun w1 e1 b1 z1 => ?_); refine wk ?_)
  refine wk ?_
  exact Arr.ret1 rfl rfl ⟨rfl, e1⟩
end Go.Proofs.Ytbadjlhijbkbbaa
