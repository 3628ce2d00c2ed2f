/-
  Joined by program out of the texts Ll1 Ll2 Ll3: lemmas for the proofs of this seat; no condition.
-/
import Derived.Test.YtbadjlhijbkbbaaBk
import Derived.Laws.IdiomStrings
set_option maxHeartbeats 1000000
/-
  Nonterminals, each of which is the next one so many times: plain functions, no program.
-/
set_option linter.unusedVariables false
namespace Go.Proofs.Ytbadjlhijbkbbaa
open Go Go.RowKit Sx Found
/-- The name of the i-th one. -/
def nameL (i : Nat) : ByteArray := ⟨#[110, UInt8.ofNat (97 + i)]⟩
/-- d of them, each the next one m times. -/
def ruleL (d m i : Nat) : Rule := ⟨2 + (i : Int), List.replicate m (if i + 1 = d then 1 else 3 + (i : Int))⟩
def gL (d m : Nat) : Gram := ⟨["A".toUTF8], (List.range d).map nameL, (List.range d).map (ruleL d m), 2⟩
theorem gL_check : ∀ d, d < 7 → ∀ m, m < 8 → (gL (d + 1) (m + 1)).check = 0 := by decide +kernel
/-- A symbol that is no rule's left side keeps its word. -/
theorem keep_step {ws : List Found} {r : Rule} {s : Nat} (h : r.left.toNat ≠ s) : (stepF ws r).1[s]?.getD no = ws[s]?.getD no := by
  unfold stepF
  split
  · simp only
    rw [List.getElem?_set, if_neg h]
  · rfl
theorem keep_passOn {s : Nat} : ∀ (rs : List Rule) (p : List Found × Bool), (∀ r ∈ rs, r.left.toNat ≠ s) → (passOn p rs).1[s]?.getD no = p.1[s]?.getD no
  | [], _, _ => rfl
  | r :: rs, p, h => by
    rw [passOn_cons, keep_passOn rs _ (fun x hx => h x (List.mem_cons_of_mem _ hx)), keep_step (h r List.mem_cons_self)]
theorem keep_iter {s : Nat} {rules : List Rule} (h : ∀ r ∈ rules, r.left.toNat ≠ s) : ∀ (n : Nat) (ws : List Found), (iter rules n ws)[s]?.getD no = ws[s]?.getD no
  | 0, _ => rfl
  | n + 1, ws => by
    rw [iter, keep_iter h n, pass, keep_passOn rules _ h]
/-- A symbol of one rule has that rule's word. -/
theorem one_rule {t n : Nat} {rules : List Rule} {ws : List Found} (hf : Fix rules (init t n) ws) (hok : WsOk t ws) {r : Rule} (hr : r ∈ rules) {s : Nat} (hs : t < s) (hl : r.left.toNat = s) (h1 : ∀ r' ∈ rules, r'.left.toNat = s → r' = r) (hi : (join ws r.right).is_ = true) : ws[s]?.getD no = join ws r.right := by
  obtain ⟨hfa, hfb⟩ := fix_rules hf hok hs
  obtain ⟨k, hk, hst⟩ := hf
  have hstill := (passOn_still rules ws hst).2 r hr
  have hb : better (join ws r.right) (ws[s]?.getD no) = false := by
    unfold stepF at hstill
    rw [hl] at hstill
    split at hstill
    · cases hstill
    · rename_i h
      simpa using h
  have hh := held_iter (rules := rules) k (init t n) (init_ok t n).1 (held_init t n rules)
  rw [← hk] at hh
  have hxok := hok.get s
  have hjok := join_ok hok r.right
  unfold better at hb
  rw [hi, if_neg (by simp)] at hb
  cases hx : (ws[s]?.getD no).is_ with
  | false => rw [hx, if_pos rfl] at hb; cases hb
  | true =>
    rw [hx, if_neg (by simp)] at hb
    obtain ⟨r', hr', e, hle⟩ := hh s hs hx
    rw [h1 r' hr' e] at hle
    obtain ⟨_, h3⟩ := hle hx
    cases hj : (join ws r.right).long with
    | true =>
      have hxl : (ws[s]?.getD no).long = true := by
        cases hc : (ws[s]?.getD no).long with
        | true => rfl
        | false => rw [hj] at h3; exact absurd (h3 hc).1 (by simp)
      have e1 := hxok.dead (.inr hxl)
      have e2 := hjok.dead (.inr hj)
      revert hx hxl e1 hi hj e2
      generalize ws[s]?.getD no = X
      generalize join ws r.right = J
      intro hx hxl e1 hi hj e2
      cases X
      cases J
      simp only at hx hxl e1 hi hj e2
      subst hx hxl e1 hi hj e2
      rfl
    | false =>
      obtain ⟨h4, _⟩ := hfa r hr hl (by simp [hi, hj])
      obtain ⟨r'', hr'', e'', _, h5⟩ := hfb h4
      rw [h1 r'' hr'' e''] at h5
      simp only [Bool.and_eq_true, Bool.not_eq_true'] at h4
      have hxl := h4.2
      revert hx hxl hi hj h5
      generalize ws[s]?.getD no = X
      generalize join ws r.right = J
      intro hi hj hx h5 hxl
      cases X
      cases J
      simp only at hx hxl h5 hi hj
      subst hx hxl h5 hi hj
      rfl
/-- So many of a word of so many letters. -/
def manyF (q : Nat) : Found := if q ≤ 4096 then ⟨true, false, List.replicate q 1⟩ else ⟨true, true, []⟩
theorem join_long {ws : List Found} {t : Int} (h0 : 0 ≤ t) (h1 : t < ws.length) (hi : (ws[t.toNat]?.getD no).is_ = true) : ∀ (m : Nat) (o : Found), o.long = true → joinFrom ws (List.replicate m t) o = ⟨true, true, []⟩
  | 0, o, h => by simp [joinFrom, h]
  | m + 1, o, h => by
    rw [List.replicate_succ, joinFrom, if_neg (by omega)]
    simp only
    rw [if_neg (by simp [hi])]
    exact join_long h0 h1 hi m _ (by simp [h])
theorem join_rep {ws : List Found} {t : Int} {q : Nat} (h0 : 0 ≤ t) (h1 : t < ws.length) (ht : ws[t.toNat]?.getD no = manyF q) : ∀ (m a : Nat), a ≤ 4096 → joinFrom ws (List.replicate m t) ⟨true, false, List.replicate a 1⟩ = manyF (a + m * q)
  | 0, a, ha => by
    simp only [List.replicate_zero, joinFrom, Nat.zero_mul, Nat.add_zero, Bool.false_eq_true, if_false]
    rw [manyF, if_pos ha]
  | m + 1, a, ha => by
    have hi : (ws[t.toNat]?.getD no).is_ = true := by rw [ht, manyF]; split <;> rfl
    have hmul : (m + 1) * q = q + m * q := by rw [Nat.add_mul]; omega
    rw [List.replicate_succ, joinFrom, if_neg (by omega)]
    simp only
    rw [if_neg (by simp [hi]), ht]
    by_cases hqq : q ≤ 4096
    · have hm : manyF q = ⟨true, false, List.replicate q 1⟩ := if_pos hqq
      rw [hm]
      simp only [Bool.false_or, List.length_replicate]
      by_cases hbig : 4096 < a + q
      · rw [decide_eq_true hbig]
        simp only [if_true]
        rw [join_long h0 h1 hi m _ rfl, manyF, if_neg (by omega)]
      · rw [decide_eq_false hbig]
        simp only [Bool.false_eq_true, if_false, List.replicate_append_replicate]
        rw [join_rep h0 h1 ht m (a + q) (by omega), hmul, Nat.add_assoc]
    · have hm : manyF q = ⟨true, true, []⟩ := if_neg hqq
      rw [hm]
      simp only [Bool.or_true, Bool.true_or, if_true]
      rw [join_long h0 h1 hi m _ rfl, manyF, if_neg (by omega)]
theorem ruleL_left (d m i : Nat) : (ruleL d m i).left.toNat = 2 + i := by simp [ruleL]; omega
/-- The words of these grammars. -/
theorem least_long {d m : Nat} (hm : 0 < m) {ws : List Found} (h : Fix (gL d m).rules (init 1 d) ws) (hok : WsOk 1 ws) (hlen : ws.length = d + 2) : ∀ k, k ≤ d → ws[if k = 0 then 1 else 2 + (d - k)]?.getD no = manyF (m ^ k)
  | 0, _ => by
    rw [if_pos rfl, Nat.pow_zero]
    obtain ⟨n, hn, _⟩ := h
    rw [hn, keep_iter (fun r hr => by
      obtain ⟨i, _, rfl⟩ := List.mem_map.1 hr
      rw [ruleL_left]
      omega)]
    rfl
  | k + 1, hk => by
    have ih := least_long hm h hok hlen k (by omega)
    rw [if_neg (by omega)]
    have hi : d - (k + 1) < d := by omega
    have hr : ruleL d m (d - (k + 1)) ∈ (gL d m).rules := List.mem_map.2 ⟨_, List.mem_range.2 hi, rfl⟩
    have hright : (ruleL d m (d - (k + 1))).right = List.replicate m ((if k = 0 then 1 else 2 + (d - k) : Nat) : Int) := by
      unfold ruleL
      simp only
      congr 1
      by_cases hk0 : k = 0
      · rw [if_pos (by omega), if_pos hk0]
        rfl
      · rw [if_neg (by omega), if_neg hk0]
        omega
    have hj : join ws (ruleL d m (d - (k + 1))).right = manyF (m ^ (k + 1)) := by
      rw [hright, join]
      have := join_rep (ws := ws) (t := ((if k = 0 then 1 else 2 + (d - k) : Nat) : Int)) (q := m ^ k) (by omega) (by rw [hlen]; split <;> omega) (by rw [Int.toNat_natCast]; exact ih) m 0 (by omega)
      rw [Nat.zero_add, Nat.mul_comm, ← Nat.pow_succ] at this
      exact this
    rw [← hj]
    refine one_rule h hok hr (by omega) (ruleL_left _ _ _) (fun r' hr' e => ?_) (by rw [hj, manyF]; split <;> rfl)
    obtain ⟨j, _, rfl⟩ := List.mem_map.1 hr'
    rw [ruleL_left] at e
    rw [show j = d - (k + 1) by omega]
theorem least_long2 {d m : Nat} (hd : 0 < d) (hm : 0 < m) {ws : List Found} (h : Fix (gL d m).rules (init 1 d) ws) (hok : WsOk 1 ws) (hlen : ws.length = d + 2) : ws[2]?.getD no = manyF (m ^ d) := by
  have := least_long hm h hok hlen d (Nat.le_refl d)
  rwa [if_neg (by omega), Nat.sub_self] at this
end Go.Proofs.Ytbadjlhijbkbbaa

/-
  Conversions; a row of the call's own of rules.
-/
set_option linter.unusedVariables false
namespace Go.Proofs.Ytbadjlhijbkbbaa.Sx
open Go Go.RowKit
section
variable {P : Program} {Q : Exit → Act → World → Prop} {N : Nat} {σ : Sl} {w : World} {K : Value → World → Prop}
variable {d : Option Tmp} {ty : TypeId} {ps : String} {af : Array Edge} {gd : Option (Nat × Bool)}
theorem conv_int {src dst : TypeId} {k k' : IntKind} {t : TypeDesc} {n : Int} (hs : P.underlying src = some t) (hd : P.underlying dst = some (.int k)) : (convert src dst (.int k' n)).run P w = .ok (.int k (k.wrap n)) w := by
  simp [convert, run_underlying hs, run_underlying hd, Conv.intToInt]
theorem Wop.convI {src dst : TypeId} {k k' : IntKind} {t : TypeDesc} {x : Operand} {n : Int} (hs : P.underlying src = some t) (hd : P.underlying dst = some (.int k)) (hx : look σ x = some (.int k' n)) (hw : k.wrap n = n) (hk : K (.int k n) w) : Wop P Q N ⟨d, .convert src dst x, ty, ps, af, gd⟩ σ w K :=
  Wop.val (fun ρ h => by simp [execOp, h x _ hx, conv_int (w := w) hs hd, hw]) hk
theorem Wop.bytesStr {src dst e : TypeId} {x : Operand} {b cap : Nat} {l : List UInt8} {cs : Array Value} {u : TypeId} (hs : P.underlying src = some (.slice e)) (he : P.underlying e = some (.int .u8)) (hd : P.underlying dst = some .string) (hx : look σ x = some (.slice (some ⟨b, 0, none⟩) l.length cap))
    (hb : Blk w b cs u) (hc : ∀ j (hj : j < l.length), cs[j]? = some (.int .u8 (l[j].toNat : Int))) (hk : K (.string ⟨l.toArray⟩) w) : Wop P Q N ⟨d, .convert src dst x, ty, ps, af, gd⟩ σ w K :=
  Wop.val (fun ρ h => by
    have := run_convert_bytes_back (P := P) w src dst e ⟨b, 0, none⟩ cap l hs he hd (fun j hj => by rw [add_at, Nat.zero_add]; exact hb.cell (hc j hj))
    simp [execOp, h x _ hx, this]) hk
end
theorem Ty.RowL.snoc {α : Type} {D : Ty α} {S : Nat → Prop} {w : World} {x : α} {es : List Value} (hx : D.rd S w x es) : ∀ {xs : List α} {cs : List Value}, Ty.RowL D S w xs cs → Ty.RowL D S w (xs ++ [x]) (cs ++ es)
  | [], cs, h => by
    rw [show cs = [] from h]
    exact ⟨es, [], by simp, hx, rfl⟩
  | y :: xs, _, ⟨e, r, rfl, he, hr⟩ => ⟨e, r ++ es, by simp, he, Ty.RowL.snoc hx hr⟩
theorem Ty.RowL.mono {α : Type} {D : Ty α} {S S' : Nat → Prop} {w : World} (hS : ∀ k, S k → S' k) : ∀ {xs : List α} {cs : List Value}, Ty.RowL D S w xs cs → Ty.RowL D S' w xs cs
  | [], _, h => h
  | _ :: _, _, ⟨e, r, h1, he, hr⟩ => ⟨e, r, h1, D.mono hS he, Ty.RowL.mono hS hr⟩
theorem Ty.RowL.under {α : Type} {D : Ty α} {S : Nat → Prop} {w : World} : ∀ {xs : List α} {cs : List Value}, Ty.RowL D S w xs cs → Ty.RowL D (fun k => S k ∧ k < w.heap.size) w xs cs
  | [], _, h => h
  | _ :: _, _, ⟨e, r, h1, he, hr⟩ => ⟨e, r, h1, D.lt he, Ty.RowL.under hr⟩
theorem Ty.RowL.keep {α : Type} {D : Ty α} {S p : Nat → Prop} {w w' : World} (e : Keeps p w w') (hS : ∀ k, S k → p k) {xs : List α} {cs : List Value} (h : Ty.RowL D S w xs cs) : Ty.RowL D S w' xs cs := h.move (fun _ _ hx => D.keep e hS hx)
/-- A row of the call's own whose elements have data elsewhere. -/
def OwnM {α : Type} (D : Ty α) (S : Nat → Prop) (w : World) (base : Nat) (e : TypeId) (v : Value) (xs : List α) : Prop := ∃ cs, w.ownsRow base e D.sz v xs.length cs ∧ Ty.RowL D S w xs cs
section
variable {α : Type} {D : Ty α} {S S' : Nat → Prop} {w w' : World} {base : Nat} {e : TypeId} {v : Value} {xs : List α}
theorem OwnM.nil : OwnM D S w base e (.slice none 0 0) ([] : List α) := ⟨[], World.ownsRow_nil _ _ _ _, rfl⟩
theorem OwnM.keep {p : Nat → Prop} (h : OwnM D S w base e v xs) (k : Keeps p w w') (hv : ∀ k, v.ownBlock = some k → p k) (hS : ∀ k, S k → p k) : OwnM D S w' base e v xs := by
  obtain ⟨cs, h1, h2⟩ := h
  exact ⟨cs, own_move h1 (fun j hj => k.block j (hv j hj) (h1.lt j hj).2), h2.keep k hS⟩
theorem OwnM.ext (h : OwnM D S w base e v xs) (k : Ext w w') : OwnM D S w' base e v xs := h.keep (p := fun _ => True) (Ext.keeps k) (fun _ _ => trivial) (fun _ _ => trivial)
theorem OwnM.mono (h : OwnM D S w base e v xs) (hS : ∀ k, S k → k < w.heap.size → S' k) : OwnM D S' w base e v xs := by
  obtain ⟨cs, h1, h2⟩ := h
  exact ⟨cs, h1, h2.under.mono (fun k hk => hS k hk.1 hk.2)⟩
theorem OwnM.lt (h : OwnM D S w base e v xs) : ∀ k, v.ownBlock = some k → base ≤ k ∧ k < w.heap.size := by
  obtain ⟨cs, h1, h2⟩ := h
  exact h1.lt
theorem OwnM.slice (h : OwnM D S w base e v xs) : ∃ A c, v = .slice A xs.length c ∧ xs.length ≤ c := by
  obtain ⟨cs, h1, _⟩ := h
  rcases h1.2 with ⟨rfl, h0⟩ | ⟨g, cap, cur, rfl, hb, hh, hnc, _⟩
  · exact ⟨none, 0, by rw [h0], by omega⟩
  · exact ⟨_, cap, rfl, hnc⟩
theorem OwnM.row (h : OwnM D S w base e v xs) (hm : xs.length ≤ 1099511627776) (hS : ∀ k, S k → S' k) (hv : ∀ k, v.ownBlock = some k → S' k) : ∃ A c, v = .slice A xs.length c ∧ xs.length ≤ c ∧ D.Row S' w A xs.length xs := by
  obtain ⟨cs, h1, h2⟩ := h
  have h1' := h1
  rcases h1.2 with ⟨rfl, h0⟩ | ⟨g, cap, cur, rfl, hb, hh, hnc, hcm, hcs, htake⟩
  · have hx : xs = [] := List.eq_nil_of_length_eq_zero h0
    subst hx
    exact ⟨none, 0, rfl, Nat.le_refl _, Ty.Row.nil_ _ _ _ _⟩
  · refine ⟨_, cap, rfl, hnc, rfl, hm, fun hp => ⟨g, 0, rfl, hv g rfl, fun j x hx => ?_⟩⟩
    obtain ⟨es, he, hc⟩ := h2.at_ j x hx
    refine ⟨es, D.mono hS he, fun i u hu => ?_⟩
    have := h1'.cells (g := g) rfl (j * D.sz + i) u (hc i u hu)
    rw [add_at] at this
    rw [Nat.add_assoc]
    exact this
theorem keeps_grown {row : Option Nat} (h : w.grownBy w' row) : Keeps (fun k => row ≠ some k) w w' := ⟨h.os, h.tape, h.output, h.size, fun k hk hl => h.block k hl (fun e => hk e.symm)⟩
end
section
variable {P : Program} {Q : Exit → Act → World → Prop} {N : Nat} {σ : Sl} {w : World} {K : Value → World → Prop}
variable {d : Option Tmp} {ty : TypeId} {ps : String} {af : Array Edge} {gd : Option (Nat × Bool)}
/-- append(v, x) of a struct. -/
theorem Wop.appM {α : Type} {D : Ty α} {S S' : Nat → Prop} (T : Tab P) {t e : TypeId} {x y : Operand} {z v : Value} {bytes b : Nat} {xs : List α} {a : α} {es : List Value} {base : Nat} {u : TypeId} (ht : nth T.kinds t = some 1) (he : nth T.elems t = some e) (hinfo : (P.info? e).map (fun i => (i.zero, i.size, i.bytes)) = some (some z, D.sz, bytes)) (hz : z.cells.size = D.sz) (h0 : 0 < D.sz) (hb0 : 0 < bytes)
    (hx : look σ x = some v) (hy : look σ y = some (.slice (some ⟨b, 0, none⟩) 1 1)) (hb : Blk w b es.toArray u) (hr : D.rd S' w a es) (HO : OwnM D S w base e v xs) (hbase : base ≤ w.heap.size) (hl : (xs.length + 1) * bytes ≤ 140737488355328)
    (hS : ∀ k, S k → v.ownBlock ≠ some k) (hS' : ∀ k, S' k → v.ownBlock ≠ some k)
    (hk : ∀ v' w', OwnM D (fun k => (S k ∨ S' k) ∧ k < w.heap.size) w' base e v' (xs ++ [a]) → Keeps (fun k => v.ownBlock ≠ some k) w w' → (v'.ownBlock = v.ownBlock ∨ v'.ownBlock = some w.heap.size) → K v' w') :
    Wop P Q N ⟨d, .call ⟨.builtin .append, #[x, y], #[t, t]⟩, ty, ps, af, gd⟩ σ w K := by
  obtain ⟨cs, h1, h2⟩ := HO
  refine Wop.app T ht he hinfo hz h0 hb0 hx hy hb (D.len hr) (D.one hr) h1 hbase hl (fun v' w' ho hg hat => hk v' w' ⟨cs ++ es, by simpa using ho, ?_⟩ (keeps_grown hg) hat)
  have hkk := keeps_grown hg
  have g1 : Ty.RowL D (fun k => (S k ∨ S' k) ∧ k < w.heap.size) w' xs cs := (h2.under.keep hkk (fun k hk => hS k hk.1)).mono (fun k hk => ⟨.inl hk.1, hk.2⟩)
  have g2 : D.rd (fun k => (S k ∨ S' k) ∧ k < w.heap.size) w' a es := D.mono (fun k hk => ⟨.inr hk.1, hk.2⟩) (D.keep hkk (fun k hk => hS' k hk.1) (D.lt hr))
  exact g1.snoc g2
end
end Go.Proofs.Ytbadjlhijbkbbaa.Sx

/-
  The walk of LeastLong.
-/
set_option linter.unusedVariables false
namespace Go.Proofs.Ytbadjlhijbkbbaa
open Go Go.RowKit Sx Found
variable {S S' : Nat → Prop} {w : World} {g : Gram} {A B A0 A1 A2 : Option Addr} {n m c c' c0 c1 c2 : Nat}
theorem infoRule : (Try.prog.info? 30).map (fun i => (i.zero, i.size, i.bytes)) = some (some (.agg #[.int .i64 0, .slice none 0 0]), 2, 32) := by kernel_rfl
theorem i64two : I64 2 := ⟨by decide, by decide⟩
theorem pow_small {m k : Nat} (hm : m ≤ 8) (hk : k ≤ 7) : m ^ k ≤ 2097152 :=
  Nat.le_trans (Nat.pow_le_pow_left hm k) (Nat.le_trans (Nat.pow_le_pow_right (by omega) hk) (by decide))
theorem u8_ofNat {i : Nat} (h : i < 7) : ((UInt8.ofNat (97 + i)).toNat : Int) = 97 + (i : Int) := by
  rw [UInt8.toNat_ofNat']
  omega
theorem wrap_u8 {n : Int} (h0 : 0 ≤ n) (h1 : n < 256) : IntKind.u8.wrap n = n := by
  have := IntKind.wrap_u8 n
  omega
def restS (base : Nat) (v1 v2 : Value) : Nat → Prop := fun k => base ≤ k ∧ v1.ownBlock ≠ some k ∧ v2.ownBlock ≠ some k
set_option maxRecDepth 20000 in
set_option maxHeartbeats 4000000 in
theorem lawLong {a b : Int} (ha0 : 0 ≤ a) (ha : a ≤ 255) (hb0 : 0 ≤ b) (hb : b ≤ 255) : Calls Try.prog 8 [.int .u8 a, .int .u8 b].toArray w (Ret fun v w' => v = .bool true ∧ Ext w w') := by
  obtain ⟨d, hd⟩ : ∃ d : Nat, a % 7 = (d : Int) := ⟨(a % 7).toNat, by omega⟩
  obtain ⟨m, hm⟩ : ∃ m : Nat, b % 8 = (m : Int) := ⟨(b % 8).toNat, by omega⟩
  have hd7 : d < 7 := by omega
  have hm8 : m < 8 := by omega
  have hck := gL_check d hd7 m hm8
  refine enter Try.func8 rfl Try.ntmps8 rfl ?_
  refine wk ?_
  refine Wop.convI (n := a) Try.underlying5 Try.underlying3 rfl (IntWalk.i64_in _ ⟨by omega, by omega⟩) ?_
  refine wk ?_
  refine Wop.rem rfl rfl ha0 (by omega) ?_
  rw [hd]
  refine wk ?_
  refine Wop.convI (n := b) Try.underlying5 Try.underlying3 rfl (IntWalk.i64_in _ ⟨by omega, by omega⟩) ?_
  refine wk ?_
  refine Wop.rem rfl rfl hb0 (by omega) ?_
  rw [hm]
  refine wk ?_
  refine Wop.buildSlice (cs := #[.string "A".toUTF8]) (z := .string ⟨#[]⟩) TT rfl rfl rfl Try.zeroValue9 rfl rfl rfl rfl (fun w1 e1 b1 z1 => ?_)
  refine wk ?_
  refine Wop.make (cs := #[.slice (some ⟨w.heap.size, 0, none⟩) 1 1, .slice none 0 0, .slice none 0 0, .int .i64 2]) pl25 rfl rfl ?_
  refine wk ?_
  refine Wop.alloc (z := .agg #[.slice none 0 0, .slice none 0 0, .slice none 0 0, .int .i64 0]) Try.zeroValue25 (fun w2 e2 b2 z2 => ?_)
  refine wk ?_
  refine Wop.stB TT rfl rfl rfl (by simp [Value.oneCell']) b2 rfl (fun w3 h3 b3 z3 k3 => ?_)
  have e13 : Ext w1 w3 := Below.trans e2 h3
  have e03 := e1.trans e13
  have b13 := b1.ext e13
  refine wk ?_
  refine W.midB (ι := Value × Value) (fun i => [(5, .int .i64 ((d + 1 : Nat) : Int)), (6, .int .i64 ((m + 1 : Nat) : Int)), (7, .pointer (some ⟨w1.heap.size, 0, none⟩))])
    (fun i w' => Ext w w' ∧ Blk w' w.heap.size #[.string "A".toUTF8] 9 ∧ Blk w' w1.heap.size #[.slice (some ⟨w.heap.size, 0, none⟩) 1 1, i.1, i.2, .int .i64 2] 25 ∧ OwnS w' w3.heap.size i.1 ((List.range (d + 1)).map nameL) ∧ OwnM tRule (restS w3.heap.size i.1 i.2) w' w3.heap.size 30 i.2 ((List.range (d + 1)).map (ruleL (d + 1) (m + 1)))) ?_ ?_
  · refine W.loop (ι := Nat × Value × Value) (fun i => [(5, .int .i64 ((d + 1 : Nat) : Int)), (6, .int .i64 ((m + 1 : Nat) : Int)), (7, .pointer (some ⟨w1.heap.size, 0, none⟩)), (8, .int .i64 (i.1 : Int))])
      (fun i w' => i.1 ≤ d + 1 ∧ w3.heap.size ≤ w'.heap.size ∧ (∀ k, i.2.1.ownBlock = some k → i.2.2.ownBlock ≠ some k) ∧ Ext w w' ∧ Blk w' w.heap.size #[.string "A".toUTF8] 9 ∧ Blk w' w1.heap.size #[.slice (some ⟨w.heap.size, 0, none⟩) 1 1, i.2.1, i.2.2, .int .i64 2] 25 ∧ OwnS w' w3.heap.size i.2.1 ((List.range i.1).map nameL) ∧ OwnM tRule (restS w3.heap.size i.2.1 i.2.2) w' w3.heap.size 30 i.2.2 ((List.range i.1).map (ruleL (d + 1) (m + 1))))
      (fun i => d + 1 - i.1) (0, .slice none 0 0, .slice none 0 0) (Has.cons rfl (Has.cons rfl (Has.cons rfl (Has.cons rfl Has.nil)))) ⟨Nat.zero_le _, Nat.le_refl _, fun k h => (by cases h), e03, b13, b3, Own.nil _ _ _ _, OwnM.nil⟩ ?_
    rintro ⟨i, v1, v2⟩ w' ⟨hi, hsz, hdis, hE, hbt, hbg, hn, hr⟩
    simp only at hi hdis hbg hn hr ⊢
    have hz1 := e1.size
    have hz2 := e2.size
    have hl1 := b1.lt
    have hl3 := b3.lt
    refine wk ?_
    refine W.test rfl (fun hlt => ?_) (fun hge => ?_)
    · have hlt : i < d + 1 := by omega
      obtain ⟨V1, vc1, rfl, hvc1⟩ := hn.slice
      obtain ⟨V2, vc2, rfl, hvc2⟩ := hr.slice
      refine wk ?_
      refine Wop.convI (n := 97 + (i : Int)) Try.underlying3 Try.underlying5 rfl (wrap_u8 (by omega) (by omega)) ?_
      refine wk ?_
      refine Wop.buildSlice (cs := #[.int .u8 110, .int .u8 (97 + (i : Int))]) (z := .int .u8 0) TT rfl rfl rfl Try.zeroValue5 rfl rfl rfl rfl (fun w4 e4 b4 z4 => ?_)
      refine wk ?_
      refine Wop.bytesStr (l := [110, UInt8.ofNat (97 + i)]) Try.underlying53 Try.underlying5 Try.underlying9 rfl b4 (fun j hj => ?_) ?_
      · rcases j with _ | _ | j
        · rfl
        · show some (Value.int .u8 (97 + (i : Int))) = some (.int .u8 ((UInt8.ofNat (97 + i)).toNat : Int))
          rw [u8_ofNat (by omega)]
        · exact absurd hj (by simp only [List.length_cons, List.length_nil]; omega)
      refine wk ?_
      refine Wop.lit1 (u := .string (nameL i)) TT rfl rfl rfl Try.zeroValue9 rfl rfl rfl (fun w5 e5 b5 z5 => ?_)
      have e45 := e4.trans e5
      have hs45 := e45.size
      refine wk ?_
      refine Wop.app1 (α := ByteArray) (enc := Value.string) TT rfl rfl infoS rfl (by decide) rfl rfl b5 rfl (hn.ext e45) (by omega) (by simp; omega) (fun v1' w6 ho6 hb6 hg6 hat6 => ?_)
      have kk6 := keeps_grown hg6
      obtain ⟨V1', vc1', rfl, hvc1'⟩ := ho6.slice
      have hbg6 := kk6.blk (hbg.ext e45) (fun h => by have := (World.ownsRow.lt hn _ h).1; omega)
      refine wk ?_
      refine Wop.stC TT rfl rfl rfl rfl hbg6 rfl (fun w7 h7 b7 z7 k7 => ?_)
      have hnl : ∀ k, (Value.slice V1 ((List.range i).map nameL).length vc1).ownBlock = some k → w3.heap.size ≤ k ∧ k < w'.heap.size := fun k hk => World.ownsRow.lt hn k hk
      have hrl : ∀ k, (Value.slice V2 ((List.range i).map (ruleL (d + 1) (m + 1))).length vc2).ownBlock = some k → w3.heap.size ≤ k ∧ k < w'.heap.size := fun k hk => hr.lt k hk
      have kp7 : Keeps (fun k => k ≠ w1.heap.size ∧ (Value.slice V1 ((List.range i).map nameL).length vc1).ownBlock ≠ some k) w' w7 :=
        ((Ext.keeps e45).trans (kk6.mono (fun k hk => hk.2))).trans ⟨h7.os, h7.tape, h7.output, h7.size, fun k hk _ => k7 k hk.1⟩
      have hs7 := kp7.size
      have hn7 : OwnS w7 w3.heap.size (.slice V1' (List.map nameL (List.range i) ++ [nameL i]).length vc1') ((List.range (i + 1)).map nameL) := by
        rw [List.range_succ, List.map_append]
        exact ho6.move (fun k hk => k7 k (by have := (World.ownsRow.lt ho6 k hk).1; omega))
      have hv1' : ∀ k, (Value.slice V1' (List.map nameL (List.range i) ++ [nameL i]).length vc1').ownBlock = some k → (Value.slice V1 ((List.range i).map nameL).length vc1).ownBlock = some k ∨ w'.heap.size ≤ k := by
        intro k hk
        rcases hat6 with h | h
        · exact .inl (h ▸ hk)
        · rw [h] at hk
          cases hk
          exact .inr (by omega)
      have hr7 : OwnM tRule (fun k => restS w3.heap.size (.slice V1 ((List.range i).map nameL).length vc1) (.slice V2 ((List.range i).map (ruleL (d + 1) (m + 1))).length vc2) k ∧ k < w'.heap.size) w7 w3.heap.size 30 (.slice V2 ((List.range i).map (ruleL (d + 1) (m + 1))).length vc2) ((List.range i).map (ruleL (d + 1) (m + 1))) :=
        (hr.mono (S' := fun k => restS w3.heap.size (.slice V1 ((List.range i).map nameL).length vc1) (.slice V2 ((List.range i).map (ruleL (d + 1) (m + 1))).length vc2) k ∧ k < w'.heap.size) (fun k h1 h2 => ⟨h1, h2⟩)).keep kp7 (fun k hk => ⟨by have := (hrl k hk).1; omega, fun h => hdis k h hk⟩) (fun k hk => ⟨by have := hk.1.1; omega, hk.1.2.1⟩)
      have hbt7 := kp7.blk hbt ⟨by omega, fun h => by have := (hnl _ h).1; omega⟩
      have hE7 : Ext w w7 := Below.trans hE (kp7.below (by have := hE.size; omega) (fun k hk => ⟨by omega, fun h => by have := (hnl _ h).1; omega⟩))
      refine wk ?_
      refine Wop.make (cs := #[.int .i64 (2 + (i : Int)), .slice none 0 0]) pl30 rfl rfl ?_
      refine wk ?_
      refine Wop.alloc (z := .agg #[.int .i64 0, .slice none 0 0]) Try.zeroValue30 (fun w8 e8 b8 z8 => ?_)
      refine wk ?_
      refine Wop.stB TT rfl rfl rfl (by simp [Value.oneCell']) b8 rfl (fun w9 h9 b9 z9 k9 => ?_)
      have e79 : Ext w7 w9 := Below.trans e8 h9
      refine wk ?_
      refine W.midB (ι := Value) (fun vr => [(5, .int .i64 ((d + 1 : Nat) : Int)), (6, .int .i64 ((m + 1 : Nat) : Int)), (7, .pointer (some ⟨w1.heap.size, 0, none⟩)), (8, .int .i64 (i : Int)), (9, .pointer (some ⟨w7.heap.size, 0, none⟩))])
        (fun vr w'' => Ext w7 w'' ∧ w9.heap.size ≤ w''.heap.size ∧ Blk w'' w7.heap.size #[.int .i64 (2 + (i : Int)), vr] 30 ∧ OwnI w'' w9.heap.size vr (ruleL (d + 1) (m + 1) i).right) ?_ ?_
      · refine W.loop (ι := Nat × Value) (fun j => [(5, .int .i64 ((d + 1 : Nat) : Int)), (6, .int .i64 ((m + 1 : Nat) : Int)), (7, .pointer (some ⟨w1.heap.size, 0, none⟩)), (8, .int .i64 (i : Int)), (9, .pointer (some ⟨w7.heap.size, 0, none⟩)), (10, .int .i64 (j.1 : Int))])
          (fun j w'' => j.1 ≤ m + 1 ∧ Ext w7 w'' ∧ w9.heap.size ≤ w''.heap.size ∧ Blk w'' w7.heap.size #[.int .i64 (2 + (i : Int)), j.2] 30 ∧ OwnI w'' w9.heap.size j.2 (List.replicate j.1 (if i + 1 = d + 1 then 1 else 3 + (i : Int)))) (fun j => m + 1 - j.1) (0, .slice none 0 0) has ⟨Nat.zero_le _, e79, Nat.le_refl _, b9, Own.nil _ _ _ _⟩ ?_
        rintro ⟨j, vr⟩ w'' ⟨hj, hE9, hsz9, hbr, hor⟩
        simp only at hj hbr hor ⊢
        have hl8 := b8.lt
        refine wk ?_
        refine W.test rfl (fun hlj => ?_) (fun hgj => ?_)
        · have hlj : j < m + 1 := by omega
          refine wk ?_
          refine W.test rfl (fun hq => ?_) (fun hq => ?_)
          · have hq' : i + 1 = d + 1 := by omega
            refine wk ?_
            refine Wop.litI rfl (fun u1 f1 d1 y1 => ?_)
            have hs1 := f1.size
            refine wk ?_
            refine Wop.appI rfl rfl d1 (hor.ext f1) (by omega) (by simp; omega) (fun vr' u2 ho2 hb2 _ _ => ?_)
            have g2 := hb2 u1 (Below.refl _ _)
            have hbr2 : Blk u2 w7.heap.size _ _ := (g2.block _ (by omega)).trans (hbr.ext f1)
            obtain ⟨RA, rc, rfl, hrc⟩ := ho2.slice
            refine wk ?_
            refine Wop.stC TT rfl rfl rfl rfl hbr2 rfl (fun u3 g3 d3 y3 j3 => ?_)
            refine wk ?_
            refine Arr.again (i := (j, vr)) (j + 1, _) has ⟨hlj, Below.trans hE9 (Below.trans (Below.mono f1 (by omega)) (Below.trans (Below.mono g2 (by omega)) (Below.mono g3 (Nat.le_refl _)))), by have := g2.size; omega, d3, ?_⟩ (by simp only; omega)
            rw [if_pos hq'] at ho2 ⊢
            rw [List.replicate_succ']
            exact ho2.move (fun k hk => j3 k (by have := (World.ownsRow.lt ho2 k hk).1; omega))
          · have hq' : ¬ i + 1 = d + 1 := by omega
            refine wk ?_
            refine Wop.litI rfl (fun u1 f1 d1 y1 => ?_)
            have hs1 := f1.size
            refine wk ?_
            refine Wop.appI rfl rfl d1 (hor.ext f1) (by omega) (by simp; omega) (fun vr' u2 ho2 hb2 _ _ => ?_)
            have g2 := hb2 u1 (Below.refl _ _)
            have hbr2 : Blk u2 w7.heap.size _ _ := (g2.block _ (by omega)).trans (hbr.ext f1)
            obtain ⟨RA, rc, rfl, hrc⟩ := ho2.slice
            refine wk ?_
            refine Wop.stC TT rfl rfl rfl rfl hbr2 rfl (fun u3 g3 d3 y3 j3 => ?_)
            refine wk ?_
            refine Arr.again (i := (j, vr)) (j + 1, _) has ⟨hlj, Below.trans hE9 (Below.trans (Below.mono f1 (by omega)) (Below.trans (Below.mono g2 (by omega)) (Below.mono g3 (Nat.le_refl _)))), by have := g2.size; omega, d3, ?_⟩ (by simp only; omega)
            rw [if_neg hq'] at ho2 ⊢
            rw [List.replicate_succ']
            exact ho2.move (fun k hk => j3 k (by have := (World.ownsRow.lt ho2 k hk).1; omega))
        · have : j = m + 1 := by omega
          subst this
          refine wk ?_
          exact Arr.mid vr has ⟨hE9, hsz9, hbr, hor⟩
      · rintro vr w10 ⟨hE10, hs10, hbr, hor⟩
        have hl8 := b8.lt
        have b710 := b7.ext hE10
        obtain ⟨RA, rc, rfl, hrcc, hrrow⟩ := OwnI.row (S := fun k => w9.heap.size ≤ k) hor (by simp [ruleL]; omega) (fun x hx => by
          simp only [ruleL, List.mem_replicate] at hx
          rw [hx.2]
          split <;> exact ⟨by omega, by omega⟩) (fun k hk => (World.ownsRow.lt hor k hk).1)
        refine wk ?_
        refine Wop.buildSlice (cs := #[.int .i64 (2 + (i : Int)), .slice RA (ruleL (d + 1) (m + 1) i).right.length rc]) (z := .agg #[.int .i64 0, .slice none 0 0]) TT rfl rfl rfl Try.zeroValue30 rfl rfl rfl rfl (fun w11 e11 b11 z11 => ?_)
        have e7b := hE10.trans e11
        refine wk ?_
        refine Wop.appM (D := tRule) (S' := fun k => w9.heap.size ≤ k) TT rfl rfl infoRule rfl (by decide) (by decide) rfl rfl (es := [.int .i64 (2 + (i : Int)), .slice RA (ruleL (d + 1) (m + 1) i).right.length rc]) (a := ruleL (d + 1) (m + 1) i) b11 (tRule_mk ⟨by simp only [ruleL]; omega, by simp only [ruleL]; omega⟩ hrcc (hrrow.ext (by decide) e11)) (hr7.ext e7b) (by have := e7b.size; omega) (by simp; omega) (fun k hk => hk.1.2.2) (fun k hk h => by have := (hrl k h).2; have := e79.size; omega) (fun v2' w12 hm12 kk12 hat12 => ?_)
        obtain ⟨V2', vc2', rfl, hvc2'⟩ := hm12.slice
        have hs9 := e79.size
        have hs10' := e7b.size
        have hs11 := e11.size
        have hs12 := kk12.size
        have hb12 := kk12.blk (b7.ext e7b) (fun h => by have := (hrl _ h).1; omega)
        refine wk ?_
        refine Wop.stC TT rfl rfl rfl rfl hb12 rfl (fun w13 h13 b13' z13 k13 => ?_)
        have kp13 : Keeps (fun k => k ≠ w1.heap.size ∧ (Value.slice V2 ((List.range i).map (ruleL (d + 1) (m + 1))).length vc2).ownBlock ≠ some k) w7 w13 :=
          ((Ext.keeps e7b).trans (kk12.mono (fun k hk => hk.2))).trans ⟨h13.os, h13.tape, h13.output, h13.size, fun k hk _ => k13 k hk.1⟩
        have hs13 := h13.size
        have hl1' : ∀ k, (Value.slice V1' (List.map nameL (List.range i) ++ [nameL i]).length vc1').ownBlock = some k → w3.heap.size ≤ k ∧ k < w7.heap.size := fun k hk => World.ownsRow.lt hn7 k hk
        have hd' : ∀ k, (Value.slice V1' (List.map nameL (List.range i) ++ [nameL i]).length vc1').ownBlock = some k → (Value.slice V2' (List.map (ruleL (d + 1) (m + 1)) (List.range i) ++ [ruleL (d + 1) (m + 1) i]).length vc2').ownBlock ≠ some k := by
          intro k hk h
          have hk7 := (hl1' k hk).2
          rcases hat12 with e | e
          · rw [e] at h
            rcases hv1' k hk with hh | hh
            · exact hdis k hh h
            · exact absurd (hrl k h).2 (by omega)
          · rw [e] at h
            cases h
            omega
        have hmem : ∀ k, (((restS w3.heap.size (.slice V1 ((List.range i).map nameL).length vc1) (.slice V2 ((List.range i).map (ruleL (d + 1) (m + 1))).length vc2) k ∧ k < w'.heap.size) ∨ w9.heap.size ≤ k) ∧ k < w11.heap.size) → restS w3.heap.size (.slice V1' (List.map nameL (List.range i) ++ [nameL i]).length vc1') (.slice V2' (List.map (ruleL (d + 1) (m + 1)) (List.range i) ++ [ruleL (d + 1) (m + 1) i]).length vc2') k := by
          rintro k ⟨hk, hk11⟩
          refine ⟨?_, fun h => ?_, fun h => ?_⟩
          · rcases hk with hk | hk
            · exact hk.1.1
            · omega
          · have hk7 := (hl1' k h).2
            rcases hk with hk | hk
            · rcases hv1' k h with hh | hh
              · exact hk.1.2.1 hh
              · omega
            · omega
          · rcases hat12 with e | e
            · rw [e] at h
              rcases hk with hk | hk
              · exact hk.1.2.2 h
              · have := (hrl k h).2
                omega
            · rw [e] at h
              cases h
              omega
        have hm13 := (hm12.keep (p := fun k => k ≠ w1.heap.size) ⟨h13.os, h13.tape, h13.output, h13.size, fun k hk _ => k13 k hk⟩ (fun k hk => by have := (hm12.lt k hk).1; omega) (fun k hk => ?_)).mono (fun k hk _ => hmem k hk)
        rotate_left
        · rcases hk.1 with h | h
          · have := h.1.1
            omega
          · omega
        refine wk ?_
        refine Arr.again (i := (i, Value.slice V1 ((List.range i).map nameL).length vc1, Value.slice V2 ((List.range i).map (ruleL (d + 1) (m + 1))).length vc2)) (i + 1, _, _) has ⟨Nat.succ_le_of_lt hlt, Nat.le_trans hsz (Nat.le_trans hs7 kp13.size), hd', Below.trans hE7 (kp13.below (by have := hE7.size; omega) (fun k hk => ⟨by omega, fun h => by have := (hrl _ h).1; omega⟩)), kp13.blk hbt7 ⟨by omega, fun h => by have := (hrl _ h).1; omega⟩, b13', ?_, ?_⟩ (by show d + 1 - (i + 1) < d + 1 - i; omega)
        · refine hn7.move (fun k hk => kp13.block k ⟨by have := (hl1' k hk).1; omega, fun h => ?_⟩ (hl1' k hk).2)
          rcases hv1' k hk with hh | hh
          · exact hdis k hh h
          · exact absurd (hrl k h).2 (by omega)
        · rw [List.range_succ, List.map_append]
          exact hm13
    · have : i = d + 1 := by omega
      subst this
      refine wk ?_
      exact Arr.mid (v1, v2) has ⟨hE, hbt, hbg, hn, hr⟩
  · rintro ⟨v1, v2⟩ w' ⟨hE, hbt, hbg, hn, hr⟩
    simp only at hbg hn hr ⊢
    obtain ⟨V1, vc1, rfl, hvc1, hrow1⟩ := OwnS.row (S := fun _ => True) hn (by simp; omega) (fun x hx => by
      obtain ⟨j, _, rfl⟩ := List.mem_map.1 hx
      exact (by decide : 2 ≤ 140737488355328)) (fun _ _ => trivial)
    obtain ⟨V2, vc2, rfl, hvc2, hrow2⟩ := OwnM.row (S' := fun _ => True) hr (by simp; omega) (fun _ _ => trivial) (fun _ _ => trivial)
    have hg : GramAt (fun _ => True) w' (gL (d + 1) (m + 1)) (some ⟨w.heap.size, 0, none⟩) V1 V2 1 vc1 vc2 :=
      ⟨Blk.rowL (D := tS) (xs := ["A".toUTF8]) hbt ⟨[_], _, rfl, ⟨rfl, by decide⟩, rfl⟩ trivial (by decide), hrow1, hrow2, i64two, Nat.le_refl _, hvc1, hvc2⟩
    have hq : (m + 1) ^ (d + 1) ≤ 2097152 := pow_small (by omega) (by omega)
    refine wk ?_
    refine W.midB (ι := Unit) (fun _ => [(7, .pointer (some ⟨w1.heap.size, 0, none⟩)), (11, .int .i64 (((m + 1) ^ (d + 1) : Nat) : Int))]) (fun _ w'' => Ext w' w'') ?_ ?_
    · refine W.loop (ι := Nat) (fun k => [(5, .int .i64 ((d + 1 : Nat) : Int)), (6, .int .i64 ((m + 1 : Nat) : Int)), (7, .pointer (some ⟨w1.heap.size, 0, none⟩)), (11, .int .i64 (((m + 1) ^ k : Nat) : Int)), (12, .int .i64 (k : Int))])
        (fun k w'' => Ext w' w'' ∧ k ≤ d + 1) (fun k => d + 1 - k) 0 has ⟨Ext.refl _, by omega⟩ ?_
      rintro k w'' ⟨hE2, hk⟩
      refine wk ?_
      refine W.test rfl (fun hlt => ?_) (fun hge => ?_)
      · have hlt : k < d + 1 := by omega
        have hp : (m + 1) ^ (k + 1) ≤ 2097152 := pow_small (by omega) (by omega)
        have hpe : (((m + 1) ^ k : Nat) : Int) * ((m + 1 : Nat) : Int) = (((m + 1) ^ (k + 1) : Nat) : Int) := by rw [Nat.pow_succ, Int.natCast_mul]
        refine wk ?_
        refine Wop.mul rfl rfl ⟨by rw [hpe]; omega, by rw [hpe]; omega⟩ ?_
        rw [hpe]
        refine wk ?_
        exact Arr.again (k + 1) has ⟨hE2, hlt⟩ (by omega)
      · have : k = d + 1 := by omega
        subst this
        refine wk ?_
        exact Arr.mid () has hE2
    rintro _ w2' hE2
    have hg2 := hg.ext hE2
    have hbg2 : Blk w2' w1.heap.size (gcells (gL (d + 1) (m + 1)) (some ⟨w.heap.size, 0, none⟩) V1 V2 1 vc1 vc2).toArray 25 := hbg.ext hE2
    refine wk ?_
    refine Wop.fn en39 rfl (gLeast hg2) ?_
    rintro v w8 ⟨hv, e8⟩
    rw [if_pos hck] at hv
    obtain ⟨p, ws, rfl, hp, hL⟩ := hv
    have ht1 : (gL (d + 1) (m + 1)).terms.length = 1 := rfl
    have hnn : (gL (d + 1) (m + 1)).nons.length = d + 1 := by simp [gL]
    have hfx := hL.fix
    have hok := hL.ok
    have hlw := hL.len
    rw [ht1, hnn] at hfx hlw
    rw [ht1] at hok
    have hw2 := least_long2 (by omega) (by omega) hfx hok (by omega)
    generalize (m + 1) ^ (d + 1) = q at hq hw2 ⊢
    have hjo : join ws [2] = manyF q := by rw [← hw2]; exact join_one hok (by omega) (by omega)
    have hln : line (some ws) [2] = (if q ≤ 4096 then List.replicate q 1 else [], decide (q ≤ 4096)) := by
      show ((join ws [2]).l, (join ws [2]).is_ && !(join ws [2]).long) = _
      rw [hjo, manyF]
      by_cases h : q ≤ 4096
      · simp [h]
      · simp [h]
    have hle : len (some ws) 2 = if q ≤ 4096 then (q : Int) else 4097 := by
      have h2 : (2 : Int).toNat = 2 := rfl
      rw [len, if_neg (by omega), h2, hw2, manyF]
      by_cases h : q ≤ 4096
      · simp [h]
      · simp [h]
    have pw : PW 1 w8 (.pointer (some ⟨p, 0, none⟩)) (some ws) := ⟨p, rfl, hp, hok⟩
    refine wk ?_
    refine Wop.fn en41 rfl (gWord pw (by decide) ⟨by decide, by decide⟩) ?_
    rintro _ w9 ⟨⟨X, xc, rfl, hxc, hxr⟩, e9⟩
    rw [hln] at hxc hxr ⊢
    refine wk ?_
    refine W.test rfl (fun hbig => ?_) (fun hsm => ?_)
    · have hb : ¬ q ≤ 4096 := by omega
      simp only [if_neg hb, decide_eq_false hb] at hxc hxr ⊢
      refine wk ?_
      refine Wop.fn en43 rfl (gLen (pw.ext e9)) ?_
      rintro _ w10 ⟨rfl, e10⟩
      rw [hle, if_neg hb]
      refine wk ?_
      refine Wop.fn en38 rfl awake10 ?_
      rintro _ w11 ⟨rfl, e11⟩
      refine wk ?_
      exact Arr.ret1 rfl rfl ⟨rfl, hE.trans (hE2.trans (e8.trans (e9.trans (e10.trans e11))))⟩
    · have hb : q ≤ 4096 := by omega
      simp only [if_pos hb, decide_eq_true hb] at hxc hxr ⊢
      refine wk ?_
      refine Wop.fn en43 rfl (gLen (pw.ext e9)) ?_
      rintro _ w10 ⟨rfl, e10⟩
      rw [hle, if_pos hb]
      refine wk ?_
      refine Wl.part rfl rfl rfl (fun _ => ?_) (fun h => absurd rfl h)
      refine wk ?_
      refine Wl.part rfl rfl rfl (fun _ => ?_) (fun h => absurd (by simp) h)
      refine wk ?_
      refine Wop.fn en38 rfl awake10 ?_
      rintro _ w11 ⟨rfl, e11⟩
      refine wk ?_
      exact Arr.ret1 rfl rfl ⟨rfl, hE.trans (hE2.trans (e8.trans (e9.trans (e10.trans e11))))⟩
end Go.Proofs.Ytbadjlhijbkbbaa
