/-
  Joined by program out of the texts Le1 Le2 Le3 Le4: lemmas for the proofs of this seat; no condition.
-/
import Derived.Test.YtbadjlhijbkbbaaBh
import Derived.Test.YtbadjlhijbkbbaaBb
import Derived.Test.YtbadjlhijbkbbaaBf
set_option maxHeartbeats 1000000
/-
  Least words: what is computed, and that it comes to an end. Plain functions, no program.
-/
set_option linter.unusedVariables false
namespace Go.Proofs.Ytbadjlhijbkbbaa
open Go Go.RowKit Sx
structure Found where
  is_ : Bool
  long : Bool
  l : List Int
  deriving DecidableEq
namespace Found
def no : Found := ⟨false, false, []⟩
def joinFrom (ws : List Found) : List Int → Found → Found
  | [], out => ⟨true, out.long, if out.long then [] else out.l⟩
  | s :: r, out => if s < 0 ∨ (ws.length : Int) ≤ s then no else
    let x := ws[s.toNat]?.getD no
    if x.is_ = false then no else
      let lg := out.long || x.long || decide (4096 < out.l.length + x.l.length)
      joinFrom ws r ⟨true, lg, if lg then out.l else out.l ++ x.l⟩
def join (ws : List Found) (l : List Int) : Found := joinFrom ws l ⟨true, false, []⟩
def lexLt : List Int → List Int → Bool
  | [], [] => false
  | [], _ :: _ => true
  | _ :: _, [] => false
  | a :: x, b :: y => if a = b then lexLt x y else decide (a < b)
def shortLt (a b : List Int) : Bool := if a.length = b.length then lexLt a b else decide (a.length < b.length)
def better (x than : Found) : Bool := if x.is_ = false then false else if than.is_ = false then true else if (x.long || than.long) = true then than.long && !x.long else shortLt x.l than.l
def stepF (ws : List Found) (r : Rule) : List Found × Bool :=
  if better (join ws r.right) (ws[r.left.toNat]?.getD no) = true then (ws.set r.left.toNat (join ws r.right), true) else (ws, false)
def passOn (p : List Found × Bool) (rules : List Rule) : List Found × Bool := rules.foldl (fun p r => ((stepF p.1 r).1, p.2 || (stepF p.1 r).2)) p
def pass (rules : List Rule) (ws : List Found) : List Found × Bool := passOn (ws, false) rules
def iter (rules : List Rule) : Nat → List Found → List Found
  | 0, ws => ws
  | n + 1, ws => iter rules n (pass rules ws).1
/-- ws is what ws0 comes to, pass by pass. -/
def Fix (rules : List Rule) (ws0 ws : List Found) : Prop := ∃ n, ws = iter rules n ws0 ∧ (pass rules ws).2 = false
def init (t n : Nat) : List Found := (⟨true, false, []⟩ :: (List.range t).map (fun (i : Nat) => ⟨true, false, [(i : Int) + 1]⟩)) ++ List.replicate n no
end Found
open Found

/-! ### a pass without a change -/
theorem step_still {ws : List Found} {r : Rule} (h : (stepF ws r).2 = false) : (stepF ws r).1 = ws := by
  unfold stepF at h ⊢
  split at h
  · cases h
  · rename_i hb
    rw [if_neg hb]
theorem passOn_cons (p : List Found × Bool) (r : Rule) (rs : List Rule) : passOn p (r :: rs) = passOn ((stepF p.1 r).1, p.2 || (stepF p.1 r).2) rs := rfl
theorem passOn_append (p : List Found × Bool) (rs qs : List Rule) : passOn p (rs ++ qs) = passOn (passOn p rs) qs := List.foldl_append
theorem passOn_true : ∀ (rs : List Rule) (ws : List Found), (passOn (ws, true) rs).2 = true
  | [], _ => rfl
  | r :: rs, ws => by rw [passOn_cons]; simpa using passOn_true rs _
theorem passOn_still : ∀ (rs : List Rule) (ws : List Found), (passOn (ws, false) rs).2 = false → (passOn (ws, false) rs).1 = ws ∧ ∀ r ∈ rs, (stepF ws r).2 = false
  | [], _, _ => ⟨rfl, fun r hr => by cases hr⟩
  | r :: rs, ws, h => by
    rw [passOn_cons] at h ⊢
    cases hs : (stepF ws r).2 with
    | true =>
      simp only [hs, Bool.or_true] at h
      rw [passOn_true] at h
      cases h
    | false =>
      have e := step_still hs
      simp only [hs, Bool.or_false, e] at h ⊢
      obtain ⟨h1, h2⟩ := passOn_still rs ws h
      refine ⟨h1, fun r' hr => ?_⟩
      rcases List.mem_cons.1 hr with rfl | hr
      · exact hs
      · exact h2 r' hr
theorem pass_still {rules : List Rule} {ws : List Found} (h : (pass rules ws).2 = false) : (pass rules ws).1 = ws := (passOn_still rules ws h).1
theorem iter_still {rules : List Rule} {ws : List Found} (h : (pass rules ws).2 = false) : ∀ n, iter rules n ws = ws
  | 0 => rfl
  | n + 1 => by rw [iter, pass_still h]; exact iter_still h n
theorem iter_add (rules : List Rule) : ∀ (n m : Nat) (ws : List Found), iter rules (n + m) ws = iter rules m (iter rules n ws)
  | 0, m, ws => by rw [Nat.zero_add]; rfl
  | n + 1, m, ws => by rw [show n + 1 + m = (n + m) + 1 by omega]; exact iter_add rules n m _
theorem Found.Fix.unique {rules : List Rule} {ws0 a b : List Found} (ha : Fix rules ws0 a) (hb : Fix rules ws0 b) : a = b := by
  obtain ⟨n, ha, sa⟩ := ha
  obtain ⟨m, hb, sb⟩ := hb
  rcases Nat.le_total n m with h | h
  · rw [hb, show m = n + (m - n) by omega, iter_add, ← ha, iter_still sa]
  · rw [ha, show n = m + (n - m) by omega, iter_add, ← hb, iter_still sb]

/-! ### what is so of all words -/
structure FOk (K : Nat) (f : Found) : Prop where
  dead : f.is_ = false ∨ f.long = true → f.l = []
  nolong : f.is_ = false → f.long = false
  range : ∀ x ∈ f.l, 1 ≤ x ∧ x ≤ (K : Int)
  len : f.l.length ≤ 4096
def WsOk (K : Nat) (ws : List Found) : Prop := ∀ f ∈ ws, FOk K f
theorem FOk.no (K : Nat) : FOk K no := ⟨fun _ => rfl, fun _ => rfl, fun x hx => (by cases hx), by simp [Found.no]⟩
theorem WsOk.get {K : Nat} {ws : List Found} (h : WsOk K ws) (i : Nat) : FOk K (ws[i]?.getD Found.no) := by
  cases hi : ws[i]? with
  | none => exact FOk.no K
  | some f => exact h f (List.mem_of_getElem? hi)
theorem WsOk.set {K : Nat} {ws : List Found} (h : WsOk K ws) {x : Found} (hx : FOk K x) (i : Nat) : WsOk K (ws.set i x) := by
  intro f hf
  rcases List.mem_or_eq_of_mem_set hf with hf | rfl
  · exact h f hf
  · exact hx
theorem joinFrom_ok {K : Nat} {ws : List Found} (hw : WsOk K ws) : ∀ (l : List Int) (out : Found), (∀ x ∈ out.l, 1 ≤ x ∧ x ≤ (K : Int)) → out.l.length ≤ 4096 → FOk K (joinFrom ws l out)
  | [], out, h1, h2 => by
    unfold joinFrom
    cases hl : out.long with
    | true => exact ⟨fun _ => rfl, fun h => (by cases h), fun x hx => (by simp at hx), by simp⟩
    | false => exact ⟨fun h => (by rcases h with h | h <;> cases h), fun h => (by cases h), by simpa using h1, by simpa using h2⟩
  | s :: r, out, h1, h2 => by
    unfold joinFrom
    split
    · exact FOk.no K
    · simp only
      split
      · exact FOk.no K
      · have hx := hw.get s.toNat
        refine joinFrom_ok hw r _ ?_ ?_
        · simp only
          split
          · exact h1
          · intro y hy
            rcases List.mem_append.1 hy with hy | hy
            · exact h1 y hy
            · exact hx.range y hy
        · simp only
          split
          · exact h2
          · rename_i hlg
            simp only [Bool.or_eq_true, decide_eq_true_eq, not_or] at hlg
            rw [List.length_append]
            omega
theorem join_ok {K : Nat} {ws : List Found} (hw : WsOk K ws) (l : List Int) : FOk K (join ws l) := joinFrom_ok hw l _ (fun x hx => by cases hx) (by simp)
theorem step_ok {K : Nat} {ws : List Found} (hw : WsOk K ws) (r : Rule) : WsOk K (stepF ws r).1 ∧ (stepF ws r).1.length = ws.length := by
  unfold stepF
  split
  · exact ⟨hw.set (join_ok hw _) _, by simp⟩
  · exact ⟨hw, rfl⟩
theorem passOn_ok {K : Nat} : ∀ (rs : List Rule) (p : List Found × Bool), WsOk K p.1 → WsOk K (passOn p rs).1 ∧ (passOn p rs).1.length = p.1.length
  | [], _, h => ⟨h, rfl⟩
  | r :: rs, p, h => by
    rw [passOn_cons]
    have h1 := step_ok h r
    have h2 := passOn_ok rs ((stepF p.1 r).1, p.2 || (stepF p.1 r).2) h1.1
    exact ⟨h2.1, h2.2.trans h1.2⟩
theorem init_ok (t n : Nat) : WsOk t (init t n) ∧ (init t n).length = t + n + 1 := by
  refine ⟨fun f hf => ?_, by simp [init]⟩
  simp only [init, List.cons_append, List.mem_cons, List.mem_append, List.mem_map, List.mem_range, List.mem_replicate] at hf
  rcases hf with rfl | ⟨i, hi, rfl⟩ | ⟨_, rfl⟩
  · exact ⟨fun _ => rfl, fun h => (by cases h), fun x hx => (by cases hx), by simp⟩
  · exact ⟨fun h => (by rcases h with h | h <;> cases h), fun h => (by cases h), fun x hx => (by simp at hx; subst hx; omega), by simp⟩
  · exact FOk.no t

/-! ### the measure -/
def val (B : Nat) : List Int → Nat
  | [] => 0
  | d :: r => d.toNat * B ^ r.length + val B r
theorem val_lt {K : Nat} : ∀ {l : List Int}, (∀ x ∈ l, 1 ≤ x ∧ x ≤ (K : Int)) → val (K + 1) l < (K + 1) ^ l.length
  | [], _ => by simp [val]
  | d :: r, h => by
    have ih := val_lt (K := K) (l := r) (fun x hx => h x (List.mem_cons_of_mem _ hx))
    have hd := h d List.mem_cons_self
    have h1 : d.toNat * (K + 1) ^ r.length ≤ K * (K + 1) ^ r.length := Nat.mul_le_mul_right _ (by omega)
    simp only [val, List.length_cons, Nat.pow_succ]
    rw [Nat.mul_comm ((K + 1) ^ r.length) (K + 1), Nat.add_mul]
    omega
theorem le_val {K : Nat} {d : Int} {r : List Int} (h : 1 ≤ d) : (K + 1) ^ r.length ≤ val (K + 1) (d :: r) := by
  have h1 : 1 * (K + 1) ^ r.length ≤ d.toNat * (K + 1) ^ r.length := Nat.mul_le_mul_right _ (by omega)
  simp only [val]
  omega
theorem val_short {K : Nat} {a b : List Int} (ha : ∀ x ∈ a, 1 ≤ x ∧ x ≤ (K : Int)) (hb : ∀ x ∈ b, 1 ≤ x ∧ x ≤ (K : Int)) (h : a.length < b.length) : val (K + 1) a < val (K + 1) b := by
  cases b with
  | nil => simp at h
  | cons d r =>
    have h1 := val_lt ha
    have h2 := le_val (K := K) (r := r) (hb d List.mem_cons_self).1
    have h3 : (K + 1) ^ a.length ≤ (K + 1) ^ r.length := Nat.pow_le_pow_right (by omega) (by simp at h; omega)
    omega
theorem val_lex {K : Nat} : ∀ {a b : List Int}, (∀ x ∈ a, 1 ≤ x ∧ x ≤ (K : Int)) → (∀ x ∈ b, 1 ≤ x ∧ x ≤ (K : Int)) → a.length = b.length → lexLt a b = true → val (K + 1) a < val (K + 1) b
  | [], [], _, _, _, h => by cases h
  | [], _ :: _, _, _, hl, _ => by simp at hl
  | _ :: _, [], _, _, hl, _ => by simp at hl
  | a :: x, b :: y, ha, hb, hl, h => by
    have hl' : x.length = y.length := by simpa using hl
    have hx := fun z hz => ha z (List.mem_cons_of_mem a hz)
    have hy := fun z hz => hb z (List.mem_cons_of_mem b hz)
    simp only [val]
    rw [hl']
    unfold lexLt at h
    split at h
    · rename_i e
      subst e
      have := val_lex hx hy hl' h
      omega
    · have hab := of_decide_eq_true h
      have h1 := val_lt hx
      rw [hl'] at h1
      have ha1 := ha a List.mem_cons_self
      have h2 : (a.toNat + 1) * (K + 1) ^ y.length ≤ b.toNat * (K + 1) ^ y.length := Nat.mul_le_mul_right _ (by omega)
      rw [Nat.add_mul] at h2
      omega
theorem val_shortLt {K : Nat} {a b : List Int} (ha : ∀ x ∈ a, 1 ≤ x ∧ x ≤ (K : Int)) (hb : ∀ x ∈ b, 1 ≤ x ∧ x ≤ (K : Int)) (h : shortLt a b = true) : val (K + 1) a < val (K + 1) b := by
  unfold shortLt at h
  split at h
  · rename_i e
    exact val_lex ha hb e h
  · exact val_short ha hb (of_decide_eq_true h)
def maxW : Nat := 4096
def rk (K : Nat) (f : Found) : Nat := if f.is_ = false then (K + 1) ^ maxW + 1 else if f.long = true then (K + 1) ^ maxW else val (K + 1) f.l
theorem rk_val {K : Nat} {f : Found} (h : FOk K f) : val (K + 1) f.l < (K + 1) ^ maxW :=
  Nat.lt_of_lt_of_le (val_lt h.range) (Nat.pow_le_pow_right (by omega) (show _ ≤ maxW from h.len))
theorem better_rk {K : Nat} {x y : Found} (hx : FOk K x) (hy : FOk K y) (h : better x y = true) : rk K x < rk K y := by
  have vx := rk_val hx
  have hs : shortLt x.l y.l = true → val (K + 1) x.l < val (K + 1) y.l := val_shortLt hx.range hy.range
  unfold better at h
  unfold rk
  generalize (K + 1) ^ maxW = R at vx ⊢
  cases h1 : x.is_ <;> cases h2 : y.is_ <;> cases h3 : x.long <;> cases h4 : y.long <;> simp [h1, h2, h3, h4] at h ⊢ <;> first | omega | exact hs h
def rank (K : Nat) (ws : List Found) : Nat := (ws.map (rk K)).sum
theorem rank_set {K : Nat} {x : Found} : ∀ {ws : List Found} {i : Nat} (hi : i < ws.length), rank K (ws.set i x) + rk K ws[i] = rank K ws + rk K x
  | y :: ws, 0, _ => by simp [rank]; omega
  | y :: ws, i + 1, hi => by
    have := rank_set (K := K) (x := x) (ws := ws) (i := i) (by simpa using hi)
    simp only [rank, List.set_cons_succ, List.map_cons, List.sum_cons, List.getElem_cons_succ] at this ⊢
    omega
theorem step_rank {K : Nat} {ws : List Found} (hw : WsOk K ws) {r : Rule} (hr : r.left.toNat < ws.length) : (if (stepF ws r).2 = true then rank K (stepF ws r).1 < rank K ws else rank K (stepF ws r).1 = rank K ws) := by
  unfold stepF
  by_cases h : better (join ws r.right) (ws[r.left.toNat]?.getD no) = true
  · rw [if_pos h, if_pos rfl]
    have h1 := better_rk (join_ok hw _) (hw.get _) h
    rw [List.getElem?_eq_getElem hr, Option.getD_some] at h1
    have := rank_set (K := K) (x := join ws r.right) hr
    simp only
    omega
  · rw [if_neg h]
    simp
theorem passOn_rank {K : Nat} : ∀ (rs : List Rule) (ws : List Found) (m : Bool), WsOk K ws → (∀ r ∈ rs, r.left.toNat < ws.length) →
    rank K (passOn (ws, m) rs).1 ≤ rank K ws ∧ (m = false → (passOn (ws, m) rs).2 = true → rank K (passOn (ws, m) rs).1 < rank K ws)
  | [], ws, m, _, _ => ⟨Nat.le_refl _, fun h1 h2 => by subst h1; cases h2⟩
  | r :: rs, ws, m, hw, hl => by
    rw [passOn_cons]
    have h0 := step_rank hw (hl r List.mem_cons_self)
    have h1 := step_ok hw r
    have ih := passOn_rank rs (stepF ws r).1 (m || (stepF ws r).2) h1.1 (fun r' hr => by rw [h1.2]; exact hl r' (List.mem_cons_of_mem _ hr))
    cases hs : (stepF ws r).2 with
    | true =>
      rw [hs] at ih h0
      simp only [if_true, Bool.or_true] at h0 ih ⊢
      exact ⟨by omega, fun _ _ => by omega⟩
    | false =>
      rw [hs] at ih h0
      simp only [Bool.false_eq_true, if_false, Bool.or_false] at h0 ih ⊢
      exact ⟨by omega, fun h2 h3 => by have := ih.2 h2 h3; omega⟩
end Go.Proofs.Ytbadjlhijbkbbaa

/-
  The program's least words: comparing, joining.
-/
set_option linter.unusedVariables false
namespace Go.Proofs.Ytbadjlhijbkbbaa
open Go Go.RowKit Sx Found
variable {S S' : Nat → Prop} {w : World} {A B : Option Addr} {n m c c' : Nat}
theorem gCompare1 (x y : Int) : Calls Try.prog 169 [.int .i64 x, .int .i64 y].toArray w (Ret fun v w' => v = .int .i64 (if x < y then -1 else if y < x then 1 else 0) ∧ Ext w w') := by
  refine enter Try.func169 rfl Try.ntmps169 rfl ?_
  refine wk ?_
  refine Wop.fn en168 rfl (isNaNI x) ?_
  rintro _ w1 ⟨rfl, e1⟩
  refine wk ?_
  refine Wop.fn en168 rfl (isNaNI y) ?_
  rintro _ w2 ⟨rfl, e2⟩
  refine wk ?_
  refine W.test rfl (fun h => ?_) (fun h => ?_)
  · refine wk ?_
    exact Arr.ret1 rfl rfl ⟨by rw [if_pos h], e1.trans e2⟩
  refine wk ?_
  refine W.test rfl (fun h' => ?_) (fun h' => ?_)
  · refine wk ?_
    exact Arr.ret1 rfl rfl ⟨by rw [if_neg h, if_pos h'], e1.trans e2⟩
  · refine wk ?_
    exact Arr.ret1 rfl rfl ⟨by rw [if_neg h, if_neg h'], e1.trans e2⟩
/-- Two rows compared from a place on, behind which they are alike. -/
theorem lexLt_drop : ∀ {a b : List Int} {i : Nat}, a.take i = b.take i → i ≤ a.length → i ≤ b.length → lexLt a b = lexLt (a.drop i) (b.drop i)
  | _, _, 0, _, _, _ => rfl
  | [], _, i + 1, _, h1, _ => by simp at h1
  | _ :: _, [], i + 1, _, _, h2 => by simp at h2
  | a :: x, b :: y, i + 1, h, h1, h2 => by
    simp only [List.take_succ_cons, List.cons.injEq] at h
    obtain ⟨rfl, h⟩ := h
    simp only [lexLt, if_pos, List.drop_succ_cons]
    exact lexLt_drop h (by simpa using h1) (by simpa using h2)
theorem take_alike {a b : List Int} {i : Nat} (h : a.take i = b.take i) (ha : i < a.length) (hb : i < b.length) (e : a[i] = b[i]) : a.take (i + 1) = b.take (i + 1) := by
  rw [List.take_succ_eq_append_getElem ha, List.take_succ_eq_append_getElem hb, h, e]
theorem gCompare {x y : List Int} (hx : tI.Row S w A n x) (hy : tI.Row S' w B m y) : Calls Try.prog 140 [.slice A n c, .slice B m c'].toArray w (Ret fun v w' => (∃ r : Int, v = .int .i64 r ∧ (decide (r < 0)) = lexLt x y) ∧ Ext w w') := by
  have hxl := hx.1
  have hxm := hx.2.1
  have hyl := hy.1
  have hym := hy.2.1
  refine enter Try.func140 rfl Try.ntmps140 rfl ?_
  refine wk ?_
  refine W.loop (ι := Nat) (fun i => [(0, .slice A n c), (1, .slice B m c'), (9, .slice A n c), (10, .int .i64 (n : Int)), (11, .int .i64 (i : Int))])
    (fun i w' => Ext w w' ∧ i ≤ n ∧ i ≤ m ∧ x.take i = y.take i) (fun i => n - i) 0 has ⟨Ext.refl w, Nat.zero_le _, Nat.zero_le _, by simp⟩ ?_
  rintro i w1 ⟨hE, hi, hj, ht⟩
  have hd := lexLt_drop ht (by omega) (by omega)
  refine wk ?_
  refine W.test rfl (fun hlt => ?_) (fun hge => ?_)
  · have hlt : i < n := by omega
    have hlx : i < x.length := by omega
    obtain ⟨b, o, rfl, es, ⟨rfl, hs⟩, hc⟩ := hx.at_ i hlx
    have hcell := hE.cell (hc 0 _ rfl)
    refine wk ?_
    refine W.test rfl (fun hm => ?_) (fun hm => ?_)
    · refine wk ?_
      refine Arr.ret1 rfl rfl ⟨⟨1, rfl, ?_⟩, hE⟩
      rw [hd, List.drop_eq_getElem_cons hlx, List.drop_of_length_le (by omega : y.length ≤ i)]
      rfl
    have hly : i < y.length := by omega
    obtain ⟨b', o', rfl, es', ⟨rfl, hs'⟩, hc'⟩ := hy.at_ i hly
    have hcell' := hE.cell (hc' 0 _ rfl)
    refine wk ?_
    refine Wop.fn en169 rfl (gCompare1 _ _) ?_
    rintro _ w2 ⟨rfl, e2⟩
    have e2' := hE.trans e2
    refine wk ?_
    rw [List.drop_eq_getElem_cons hlx, List.drop_eq_getElem_cons hly] at hd
    simp only [lexLt] at hd
    refine W.test rfl (fun hne => ?_) (fun heq => ?_)
    · refine wk ?_
      refine Arr.ret1 rfl rfl ⟨⟨_, rfl, ?_⟩, e2'⟩
      have hxy : x[i] ≠ y[i] := by
        intro e
        rw [if_neg (by omega), if_neg (by omega)] at hne
        exact hne rfl
      rw [hd, if_neg hxy]
      by_cases h1 : x[i] < y[i]
      · rw [if_pos h1, decide_eq_true h1]
        decide
      · rw [if_neg h1, if_pos (by omega), decide_eq_false h1]
        decide
    · have hxy : x[i] = y[i] := by
        rcases Int.lt_trichotomy x[i] y[i] with h | h | h
        · rw [if_pos h] at heq; simp at heq
        · exact h
        · rw [if_neg (by omega), if_pos h] at heq; simp at heq
      refine wk ?_
      exact Arr.again (i + 1) has ⟨e2', hlt, by omega, take_alike ht hlx hly hxy⟩ (by omega)
  · have : i = n := by omega
    subst this
    rw [List.drop_of_length_le (by omega : x.length ≤ i)] at hd
    refine wk ?_
    refine W.test rfl (fun hm => ?_) (fun hm => ?_)
    · refine wk ?_
      refine Arr.ret1 rfl rfl ⟨⟨-1, rfl, ?_⟩, hE⟩
      rw [hd, List.drop_eq_getElem_cons (by omega : i < y.length)]
      rfl
    · refine wk ?_
      refine Arr.ret1 rfl rfl ⟨⟨0, rfl, ?_⟩, hE⟩
      rw [hd, List.drop_of_length_le (by omega : y.length ≤ i)]
      rfl
theorem gShort {x y : List Int} (hx : tI.Row S w A n x) (hy : tI.Row S' w B m y) : Calls Try.prog 139 [.slice A n c, .slice B m c'].toArray w (Ret fun v w' => v = .bool (shortLt x y) ∧ Ext w w') := by
  have hxl := hx.1
  have hxm := hx.2.1
  have hyl := hy.1
  have hym := hy.2.1
  refine enter Try.func139 rfl Try.ntmps139 rfl ?_
  refine wk ?_
  refine W.test rfl (fun h => ?_) (fun h => ?_)
  · refine wk ?_
    refine Arr.ret1 rfl rfl ⟨congrArg Value.bool ?_, Ext.refl _⟩
    rw [shortLt, if_neg (by omega)]
    exact decide_eq_decide.2 (by omega)
  · refine wk ?_
    refine Wop.fn en140 rfl (gCompare hx hy) ?_
    rintro _ w1 ⟨⟨r, rfl, hr⟩, e1⟩
    refine wk ?_
    refine Arr.ret1 rfl rfl ⟨congrArg Value.bool ?_, e1⟩
    rw [shortLt, if_pos (by omega), hr]

/-! ### in memory -/
abbrev tFound : Ty Found := (Ty.bool.prod (Ty.bool.prod tIs)).via (fun f => (f.is_, f.long, f.l))
theorem tFound_open {S : Nat → Prop} {w : World} {f : Found} {cs : List Value} (h : tFound.rd S w f cs) : ∃ A c, cs = [.bool f.is_, .bool f.long, .slice A f.l.length c] ∧ f.l.length ≤ c ∧ tI.Row S w A f.l.length f.l := by
  obtain ⟨c1, c2, rfl, rfl, d1, d2, rfl, rfl, h3⟩ := h
  obtain ⟨A, c, rfl, hc, hr⟩ := tIs_open h3
  exact ⟨A, c, rfl, hc, hr⟩
theorem tFound_mk {S : Nat → Prop} {w : World} {f : Found} {A : Option Addr} {c : Nat} (hc : f.l.length ≤ c) (hr : tI.Row S w A f.l.length f.l) : tFound.rd S w f [.bool f.is_, .bool f.long, .slice A f.l.length c] :=
  ⟨[_], [_, _], rfl, rfl, [_], [_], rfl, rfl, A, _, c, rfl, hc, hr⟩
/-- A found word as a value. -/
def FoundV (S : Nat → Prop) (w : World) (f : Found) (v : Value) : Prop := ∃ A c, v = .agg #[.bool f.is_, .bool f.long, .slice A f.l.length c] ∧ f.l.length ≤ c ∧ tI.Row S w A f.l.length f.l
/-- The words behind a pointer. -/
def WordsAt (w : World) (p : Nat) (ws : List Found) : Prop := ∃ b c, Blk w p #[.slice (some ⟨b, 0, none⟩) ws.length c] 104 ∧ ws.length ≤ c ∧ ws.length ≤ 1000 ∧ p ≠ b ∧ Mut tFound (fun k => k ≠ b) w b 106 ws
theorem WordsAt.ext {w w' : World} {p : Nat} {ws : List Found} (h : WordsAt w p ws) (e : Ext w w') : WordsAt w' p ws := by
  obtain ⟨b, c, h1, h2, h3, h4, h5⟩ := h
  exact ⟨b, c, h1.ext e, h2, h3, h4, h5.ext e⟩
theorem FoundV.ext {S : Nat → Prop} {w w' : World} {f : Found} {v : Value} (h : FoundV S w f v) (e : Ext w w') : FoundV S w' f v := by
  obtain ⟨A, c, h1, h2, h3⟩ := h
  exact ⟨A, c, h1, h2, h3.ext (by decide) e⟩

theorem gBetter {x y : Found} {u v : Value} (hx : FoundV S w x u) (hy : FoundV S' w y v) : Calls Try.prog 98 [.agg #[.func (.func 139) #[] #[]], u, v].toArray w (Ret fun r w' => r = .bool (better x y) ∧ Ext w w') := by
  obtain ⟨A, c, rfl, hc, hr⟩ := hx
  obtain ⟨B, c', rfl, hc', hr'⟩ := hy
  have hm := hr.2.1
  have hm' := hr'.2.1
  refine enter Try.func98 rfl Try.ntmps98 rfl ?_
  refine wk ?_
  refine Wop.box rfl (fun w1 e1 b1 z1 => ?_)
  refine wk ?_
  refine Wop.box rfl (fun w2 e2 b2 z2 => ?_)
  refine wk ?_
  refine Wop.box rfl (fun w3 e3 b3 z3 => ?_)
  have e13 := e2.trans e3
  have e03 := e1.trans e13
  have k1 := b1.ext e13
  have k2 := b2.ext e3
  refine wk ?_
  refine W.cond rfl (fun q1 => ?_) (fun q1 => ?_)
  · refine wk ?_
    refine Arr.ret1 rfl rfl ⟨congrArg Value.bool ?_, e03⟩
    rw [better, if_pos (by simpa using q1)]
  simp only [Bool.not_eq_false'] at q1
  refine wk ?_
  refine W.cond rfl (fun q2 => ?_) (fun q2 => ?_)
  · refine wk ?_
    refine Arr.ret1 rfl rfl ⟨congrArg Value.bool ?_, e03⟩
    rw [better, if_neg (by simp [q1]), if_pos (by simpa using q2)]
  simp only [Bool.not_eq_false'] at q2
  have hb : better x y = if (x.long || y.long) = true then y.long && !x.long else shortLt x.l y.l := by
    rw [better, if_neg (by simp [q1]), if_neg (by simp [q2])]
  cases hxl : x.long with
  | true =>
    rw [hxl] at hb k2
    have hb' : better x y = false := by rw [hb]; simp
    refine wk ?_
    refine Wl.partB rfl rfl rfl (fun q3 => ?_) (fun q3 => ?_)
    · refine wk ?_
      exact Arr.ret1 rfl rfl ⟨congrArg Value.bool hb'.symm, e03⟩
    · refine wk ?_
      exact Arr.ret1 rfl rfl ⟨congrArg Value.bool hb'.symm, e03⟩
  | false =>
    rw [hxl] at hb k2
    refine wk ?_
    refine W.cond rfl (fun q3 => ?_) (fun q3 => ?_)
    · rw [q3] at b3
      refine wk ?_
      exact Arr.ret1 rfl rfl ⟨congrArg Value.bool (by rw [hb, q3]; rfl), e03⟩
    · refine wk ?_
      refine Wop.fnV (cap := []) en139 rfl rfl (gShort (hr.ext (by decide) e03) (hr'.ext (by decide) e03)) ?_
      rintro _ w4 ⟨rfl, e4⟩
      refine wk ?_
      exact Arr.ret1 rfl rfl ⟨congrArg Value.bool (by rw [hb, q3]; rfl), e03.trans e4⟩
end Go.Proofs.Ytbadjlhijbkbbaa

/-
  The program's least words: join.
-/
set_option linter.unusedVariables false
namespace Go.Proofs.Ytbadjlhijbkbbaa
open Go Go.RowKit Sx Found
variable {S S' : Nat → Prop} {w : World} {A B : Option Addr} {n m c c' : Nat}
theorem joinFrom_bad {ws : List Found} {s : Int} {r : List Int} {out : Found} (h : s < 0 ∨ (ws.length : Int) ≤ s ∨ (ws[s.toNat]?.getD no).is_ = false) : joinFrom ws (s :: r) out = no := by
  rw [joinFrom]
  split
  · rfl
  · rename_i h1
    rw [if_pos (by rcases h with h | h | h; exact absurd (.inl h) h1; exact absurd (.inr h) h1; exact h)]
theorem joinFrom_next {ws : List Found} {s : Int} {r : List Int} {out : Found} (h1 : ¬ s < 0) (h2 : ¬ (ws.length : Int) ≤ s) (h3 : (ws[s.toNat]?.getD no).is_ = true) (lg : Bool) (hlg : lg = (out.long || (ws[s.toNat]?.getD no).long || decide (4096 < out.l.length + (ws[s.toNat]?.getD no).l.length))) :
    joinFrom ws (s :: r) out = joinFrom ws r ⟨true, lg, if lg then out.l else out.l ++ (ws[s.toNat]?.getD no).l⟩ := by
  rw [joinFrom, if_neg (by omega)]
  simp only
  rw [if_neg (by simp [h3]), hlg]
set_option maxRecDepth 20000 in
theorem gJoin {K p : Nat} {ws : List Found} {l : List Int} (hw : WordsAt w p ws) (hK : WsOk K ws) (hKb : K ≤ 1000) (hl : tI.Row S w A n l) : Calls Try.prog 97 [.pointer (some ⟨p, 0, none⟩), .slice A n c].toArray w (Ret fun v w' => FoundV (fun k => w.heap.size ≤ k) w' (join ws l) v ∧ Ext w w') := by
  have hll := hl.1
  have hlm := hl.2.1
  obtain ⟨b, cw, wp, wc, w1000, wpb, wm⟩ := hw
  refine enter Try.func97 rfl Try.ntmps97 rfl ?_
  refine wk ?_
  refine Wop.alloc (z := .agg #[.bool false, .bool false, .slice none 0 0]) Try.zeroValue106 (fun w1 e1 b1 z1 => ?_)
  refine wk ?_
  refine Wop.make (cs := #[.bool true, .bool false, .slice none 0 0]) pl106 rfl rfl ?_
  refine wk ?_
  refine Wop.alloc (z := .agg #[.bool false, .bool false, .slice none 0 0]) Try.zeroValue106 (fun w2 e2 b2 z2 => ?_)
  refine wk ?_
  refine Wop.stB TT rfl rfl rfl (by simp [Value.oneCell']) b2 rfl (fun w3 h3 b3 z3 k3 => ?_)
  have b13 : Blk w3 w.heap.size _ _ := (k3 _ (by omega)).trans (b1.ext e2)
  have E3 : Below w.heap.size w w3 := e1.trans (Below.trans e2 (Below.mono h3 (by omega)))
  refine wk ?_
  refine W.loop (ι := Nat × Found × Value) (fun i => [(0, .pointer (some ⟨p, 0, none⟩)), (4, .pointer (some ⟨w.heap.size, 0, none⟩)), (5, .pointer (some ⟨w1.heap.size, 0, none⟩)), (10, .slice A n c), (11, .int .i64 (n : Int)), (12, .int .i64 (i.1 : Int))])
    (fun i w' => Below w.heap.size w w' ∧ i.1 ≤ n ∧ join ws l = joinFrom ws (l.drop i.1) i.2.1 ∧ i.2.1.is_ = true ∧ i.2.1.l.length ≤ 4096 ∧ (∀ x ∈ i.2.1.l, 1 ≤ x ∧ x ≤ (K : Int)) ∧ w3.heap.size ≤ w'.heap.size ∧ Blk w' w.heap.size #[.bool false, .bool false, .slice none 0 0] 106 ∧ Blk w' w1.heap.size #[.bool true, .bool i.2.1.long, i.2.2] 106 ∧ OwnI w' w3.heap.size i.2.2 i.2.1.l) (fun i => n - i.1)
    (0, ⟨true, false, []⟩, .slice none 0 0) has ⟨E3, Nat.zero_le _, rfl, rfl, by simp, fun x hx => (by cases hx), Nat.le_refl _, b13, b3, Own.nil _ _ _ _⟩ ?_
  rintro ⟨i, out, v⟩ w' ⟨hE, hi, hj, hois, hol, hor, hsz, hb4, hb5, ho⟩
  simp only at hi hj hois hol hor hb5 ho ⊢
  have wp' := wp.ext hE
  refine wk ?_
  refine W.test rfl (fun hlt => ?_) (fun hge => ?_)
  · have hlt : i < n := by omega
    have hli : i < l.length := by omega
    obtain ⟨lb, lo, rfl, es, ⟨rfl, hs64⟩, hc⟩ := (hl.ext (by decide) hE).at_ i hli
    have hcell := hc 0 _ rfl
    rw [List.drop_eq_getElem_cons hli] at hj
    have bad : (l[i] < 0 ∨ (ws.length : Int) ≤ l[i] ∨ (ws[l[i].toNat]?.getD no).is_ = false) → join ws l = no := fun h => hj.trans (joinFrom_bad h)
    refine wk ?_
    refine Wl.part rfl rfl rfl (fun q1 => ?_) (fun q1 => ?_)
    · refine wk ?_
      refine Wop.make pl106 rfl rfl ?_
      refine wk ?_
      refine Wop.stB TT rfl rfl rfl (by simp [Value.oneCell']) hb4 rfl (fun w5 h5 b5 z5 k5 => ?_)
      refine wk ?_
      refine Arr.retC TT rfl rfl b5 rfl rfl ⟨?_, hE.trans (Below.mono h5 (Nat.le_refl _))⟩
      rw [bad (.inl q1)]
      exact ⟨none, 0, rfl, Nat.le_refl _, Ty.Row.nil_ _ _ _ _⟩
    refine wk ?_
    refine Wl.part rfl rfl rfl (fun q2 => ?_) (fun q2 => ?_)
    · refine wk ?_
      refine Wop.make pl106 rfl rfl ?_
      refine wk ?_
      refine Wop.stB TT rfl rfl rfl (by simp [Value.oneCell']) hb4 rfl (fun w5 h5 b5 z5 k5 => ?_)
      refine wk ?_
      refine Arr.retC TT rfl rfl b5 rfl rfl ⟨?_, hE.trans (Below.mono h5 (Nat.le_refl _))⟩
      rw [bad (.inr (.inl q2))]
      exact ⟨none, 0, rfl, Nat.le_refl _, Ty.Row.nil_ _ _ _ _⟩
    have hin : l[i].toNat < ws.length := by omega
    have hget : ws[l[i].toNat]?.getD no = ws[l[i].toNat] := by rw [List.getElem?_eq_getElem hin]; rfl
    obtain ⟨es, hrd, hcw⟩ := wm.at_ l[i].toNat hin
    obtain ⟨X, xc, rfl, hxc, hxr⟩ := tFound_open hrd
    have hcw' : ∀ k v, _ → w'.cell? ⟨b, 0 + l[i].toNat * tFound.sz + k, none⟩ = some v := fun k v h => Ext.cell hE (hcw k v h)
    have hx0 := hcw' 0 _ rfl
    have hx1 := hcw' 1 _ rfl
    have hx2 := hcw' 2 _ rfl
    have hxm := hxr.2.1
    refine wk ?_
    refine Wop.ixI TT l[i].toNat rfl rfl rfl rfl rfl (by omega) hin ?_
    refine wk ?_
    refine W.cond rfl (fun q3 => ?_) (fun q3 => ?_)
    · refine wk ?_
      refine Wop.make pl106 rfl rfl ?_
      refine wk ?_
      refine Wop.stB TT rfl rfl rfl (by simp [Value.oneCell']) hb4 rfl (fun w5 h5 b5 z5 k5 => ?_)
      refine wk ?_
      refine Arr.retC TT rfl rfl b5 rfl rfl ⟨?_, hE.trans (Below.mono h5 (Nat.le_refl _))⟩
      rw [bad (.inr (.inr (by rw [hget]; simpa using q3)))]
      exact ⟨none, 0, rfl, Nat.le_refl _, Ty.Row.nil_ _ _ _ _⟩
    simp only [Bool.not_eq_false'] at q3
    have hfo := hK _ (List.getElem_mem hin)
    refine wk ?_
    refine Wop.ixI TT l[i].toNat rfl rfl rfl rfl rfl (by omega) hin ?_
    refine wk ?_
    refine Wop.alloc (z := .agg #[.bool false, .bool false, .slice none 0 0]) Try.zeroValue106 (fun w4 e4 b4 z4 => ?_)
    refine wk ?_
    refine Wop.stB TT rfl rfl rfl (by simp [Value.oneCell']) b4 rfl (fun w5 h5 b5 z5 k5 => ?_)
    have e5 : Ext w' w5 := Below.trans e4 h5
    have hb55 := hb5.ext e5
    have hb45 := hb4.ext e5
    have ho5 := ho.ext e5
    have hE5 : Below w.heap.size w w5 := hE.trans (Below.mono e5 hE.size)
    have hnext := joinFrom_next (ws := ws) (s := l[i]) (r := l.drop (i + 1)) (out := out) q1 q2 (by rw [hget]; exact q3)
    rw [hget] at hnext
    have hlo := ho.slice
    obtain ⟨vA, vc, rfl, hvc⟩ := hlo
    -- what is so when the word is too long
    have far : ∀ lg : Bool, lg = (out.long || ws[l[i].toNat].long || decide (4096 < out.l.length + ws[l[i].toNat].l.length)) → lg = true → join ws l = joinFrom ws (l.drop (i + 1)) ⟨true, true, out.l⟩ := by
      intro lg h1 h2
      rw [hj, hnext lg h1, h2]
      rfl
    refine wk ?_
    refine Wl.partB rfl rfl rfl (fun p1 => ?_) (fun p1 => ?_)
    · refine wk ?_
      refine Wop.stC TT rfl rfl rfl rfl hb55 rfl (fun w6 h6 b6 z6 k6 => ?_)
      refine wk ?_
      refine Arr.again (i := (i, out, .slice vA out.l.length vc)) (i + 1, ⟨true, true, out.l⟩, .slice vA out.l.length vc) has ⟨hE5.trans (Below.mono h6 (by have := e1.size; omega)), hlt, far true (by simp [p1]) rfl, rfl, hol, hor, by have := e5.size; omega, (k6 _ (by have := b1.lt; omega)).trans hb45, b6, ho5.move (fun k hk => k6 k (by have := (World.ownsRow.lt ho5 k hk).1; have := b3.lt; omega))⟩ (by simp only; omega)
    refine wk ?_
    refine Wl.partB rfl rfl rfl (fun p2 => ?_) (fun p2 => ?_)
    · refine wk ?_
      refine Wop.stC TT rfl rfl rfl rfl hb55 rfl (fun w6 h6 b6 z6 k6 => ?_)
      refine wk ?_
      refine Arr.again (i := (i, out, .slice vA out.l.length vc)) (i + 1, ⟨true, true, out.l⟩, .slice vA out.l.length vc) has ⟨hE5.trans (Below.mono h6 (by have := e1.size; omega)), hlt, far true (by simp [p2]) rfl, rfl, hol, hor, by have := e5.size; omega, (k6 _ (by have := b1.lt; omega)).trans hb45, b6, ho5.move (fun k hk => k6 k (by have := (World.ownsRow.lt ho5 k hk).1; have := b3.lt; omega))⟩ (by simp only; omega)
    by_cases hbig : 4096 < out.l.length + ws[l[i].toNat].l.length
    · refine wk ?_
      refine Wop.stC TT (v := .bool true) rfl rfl ?_ rfl hb55 rfl (fun w6 h6 b6 z6 k6 => ?_)
      · exact congrArg (fun b => some (Value.bool b)) (decide_eq_true (by omega))
      refine wk ?_
      refine Arr.again (i := (i, out, .slice vA out.l.length vc)) (i + 1, ⟨true, true, out.l⟩, .slice vA out.l.length vc) has ⟨hE5.trans (Below.mono h6 (by have := e1.size; omega)), hlt, far true (by simp [hbig]) rfl, rfl, hol, hor, by have := e5.size; omega, (k6 _ (by have := b1.lt; omega)).trans hb45, b6, ho5.move (fun k hk => k6 k (by have := (World.ownsRow.lt ho5 k hk).1; have := b3.lt; omega))⟩ (by simp only; omega)
    · have hlen := hfo.len
      refine wk ?_
      refine Wop.stC TT (v := .bool false) rfl rfl ?_ rfl hb55 rfl (fun w6 h6 b6 z6 k6 => ?_)
      · exact congrArg (fun b => some (Value.bool b)) (decide_eq_false (by omega))
      have b56 : Blk w6 w'.heap.size _ _ := (k6 _ (by have := hb5.lt; omega)).trans b5
      have ho6 : OwnI w6 w3.heap.size (.slice vA out.l.length vc) out.l := ho5.move (fun k hk => k6 k (by have := (World.ownsRow.lt ho5 k hk).1; have := b3.lt; omega))
      have hE6 : Below w.heap.size w w6 := hE5.trans (Below.mono h6 (by have := e1.size; omega))
      refine wk ?_
      refine Wop.appRowI rfl rfl (hxr.ext (by decide) hE6) ho6 (by have := e5.size; omega) (by omega) (fun v' w7 ho' hb' _ _ => ?_)
      have e67 := hb' w6 (Below.refl _ _)
      have b7 : Blk w7 w1.heap.size _ _ := (e67.block _ (by have := b3.lt; omega)).trans b6
      have hb47 : Blk w7 w.heap.size _ _ := (e67.block _ (by have := b1.lt; have := b3.lt; omega)).trans ((k6 _ (by have := b1.lt; omega)).trans hb45)
      have hE7 : Below w.heap.size w w7 := hE6.trans (Below.mono e67 (by have := b1.lt; have := b3.lt; omega))
      obtain ⟨vA', vc', rfl, hvc'⟩ := ho'.slice
      refine wk ?_
      refine Wop.stC TT rfl rfl rfl rfl b7 rfl (fun w8 h8 b8 z8 k8 => ?_)
      refine wk ?_
      refine Arr.again (i := (i, out, .slice vA out.l.length vc)) (i + 1, ⟨true, false, out.l ++ ws[l[i].toNat].l⟩, .slice vA' (out.l ++ ws[l[i].toNat].l).length vc') has ⟨hE7.trans (Below.mono h8 (by have := e1.size; omega)), hlt, ?_, rfl, ?_, ?_, ?_, (k8 _ (by have := b1.lt; omega)).trans hb47, b8, ho'.move (fun k hk => k8 k (by have := (World.ownsRow.lt ho' k hk).1; have := b3.lt; omega))⟩ (by simp only; omega)
      · rw [hj, hnext false (by simp [p1, p2, hbig])]
        rfl
      · simp only [List.length_append]
        omega
      · intro x hx
        rcases List.mem_append.1 hx with hx | hx
        · exact hor x hx
        · exact hfo.range x hx
      · have := e5.size
        have := e67.size
        omega
  · have : i = n := by omega
    subst this
    have hfin : join ws l = ⟨true, out.long, if out.long then [] else out.l⟩ := by
      rw [hj, List.drop_of_length_le (by omega), joinFrom]
    obtain ⟨vA, vc, rfl, hvc⟩ := ho.slice
    have hrow : ∀ w8, Below w.heap.size w w8 → (∀ k, (Value.slice vA out.l.length vc).ownBlock = some k → w8.heap[k]? = w'.heap[k]?) → tI.Row (fun k => w.heap.size ≤ k) w8 vA out.l.length out.l := by
      intro w8 h8 hm8
      obtain ⟨A1, c1, h1, h2, h3⟩ := OwnI.row (S := fun k => w.heap.size ≤ k) (ho.move hm8) (by omega) (fun x hx => by have := hor x hx; exact ⟨by omega, by omega⟩) (fun k hk => by have := (World.ownsRow.lt ho k hk).1; have := b3.lt; have := b1.lt; omega)
      cases h1
      exact h3
    refine wk ?_
    refine W.cond rfl (fun q => ?_) (fun q => ?_)
    · refine wk ?_
      refine Wop.stC TT rfl rfl rfl rfl hb5 rfl (fun w6 h6 b6 z6 k6 => ?_)
      have b46 : Blk w6 w.heap.size _ _ := (k6 _ (by have := b1.lt; omega)).trans hb4
      refine wk ?_
      refine Wop.stB TT rfl rfl rfl (by simp [Value.oneCell']) b46 rfl (fun w7 h7 b7 z7 k7 => ?_)
      refine wk ?_
      refine Arr.retC TT rfl rfl b7 rfl rfl ⟨?_, (hE.trans (Below.mono h6 (by have := e1.size; omega))).trans h7⟩
      rw [hfin, q]
      exact ⟨none, 0, rfl, Nat.le_refl _, Ty.Row.nil_ _ _ _ _⟩
    · refine wk ?_
      refine Wop.stB TT rfl rfl rfl (by simp [Value.oneCell']) hb4 rfl (fun w7 h7 b7 z7 k7 => ?_)
      refine wk ?_
      refine Arr.retC TT rfl rfl b7 rfl rfl ⟨?_, hE.trans h7⟩
      rw [hfin, q]
      exact ⟨vA, vc, rfl, hvc, hrow w7 (hE.trans h7) (fun k hk => k7 k (by have := (World.ownsRow.lt ho k hk).1; have := b3.lt; have := b1.lt; omega))⟩
end Go.Proofs.Ytbadjlhijbkbbaa

/-
  The program's least words of a grammar.
-/
set_option linter.unusedVariables false
namespace Go.Proofs.Ytbadjlhijbkbbaa
open Go Go.RowKit Sx Found
variable {S S' : Nat → Prop} {w : World} {g : Gram} {A B A0 A1 A2 : Option Addr} {n m c c' c0 c1 c2 : Nat}
theorem gShortlex : Calls Try.prog 96 [].toArray w (Ret fun v w' => v = .agg #[.func (.func 139) #[] #[]] ∧ Ext w w') := by
  refine enter Try.func96 rfl Try.ntmps96 rfl ?_
  refine wk ?_
  refine Wop.alloc (z := .agg #[.nilFunc]) Try.zeroValue108 (fun w1 e1 b1 z1 => ?_)
  refine wk ?_
  refine Wop.make (cs := #[.func (.func 139) #[] #[]]) pl108 rfl rfl ?_
  refine wk ?_
  refine Wop.stB TT rfl rfl rfl (by simp [Value.oneCell']) b1 rfl (fun w2 h2 b2 z2 k2 => ?_)
  refine wk ?_
  exact Arr.retC TT rfl rfl b2 rfl rfl ⟨rfl, Below.trans e1 h2⟩
/-- The first words, so many terminals set. -/
def initP (t n i : Nat) : List Found := (⟨true, false, []⟩ :: (List.range i).map (fun (j : Nat) => ⟨true, false, [(j : Int) + 1]⟩)) ++ List.replicate (t - i + n) no
theorem initP_length {t n i : Nat} (h : i ≤ t) : (initP t n i).length = t + n + 1 := by
  simp [initP]
  omega
theorem initP_step {t n i : Nat} (h : i < t) : (initP t n i).set (i + 1) ⟨true, false, [(i : Int) + 1]⟩ = initP t n (i + 1) := by
  unfold initP
  rw [List.set_append_right _ _ (by simp), show t - i + n = (t - (i + 1) + n) + 1 by omega, List.replicate_succ, List.range_succ, List.map_append]
  simp
theorem initP_end (t n : Nat) : initP t n t = init t n := by simp [initP, init]
theorem initP_zero (t n : Nat) : (List.replicate (t + n + 1) no).set 0 ⟨true, false, []⟩ = initP t n 0 := by
  rw [List.replicate_succ]
  simp [initP]
theorem infoFound : (Try.prog.info? 106).map (fun i => (i.zero, i.size, i.bytes)) = some (some (.agg #[.bool false, .bool false, .slice none 0 0]), 3, 32) := by kernel_rfl
theorem passOn_take {rules : List Rule} {p : List Found × Bool} {k : Nat} (h : k < rules.length) : passOn p (rules.take (k + 1)) = ((stepF (passOn p (rules.take k)).1 rules[k]).1, (passOn p (rules.take k)).2 || (stepF (passOn p (rules.take k)).1 rules[k]).2) := by
  rw [List.take_succ_eq_append_getElem h, passOn_append]
  rfl
/-- What the words of a grammar are. -/
structure Least (g : Gram) (ws : List Found) : Prop where
  fix : Fix g.rules (init g.terms.length g.nons.length) ws
  ok : WsOk g.terms.length ws
  len : ws.length = g.terms.length + g.nons.length + 1
set_option maxRecDepth 20000 in
set_option maxHeartbeats 2000000 in
theorem gLeast (hg : GramAt S w g A0 A1 A2 c0 c1 c2) : Calls Try.prog 39 [.agg (gcells g A0 A1 A2 c0 c1 c2).toArray].toArray w (Ret fun v w' => (if g.check = 0 then ∃ p ws, v = .pointer (some ⟨p, 0, none⟩) ∧ WordsAt w' p ws ∧ Least g ws else v = .pointer none) ∧ Ext w w') := by
  have h0 := hg.terms.2.1
  have h1 := hg.nons.2.1
  have h2 := hg.rules.2.1
  refine enter Try.func39 rfl Try.ntmps39 rfl ?_
  refine wk ?_
  refine Wop.box rfl (fun w1 e1 b1 z1 => ?_)
  have hg1 := hg.ext e1
  refine wk ?_
  refine Wop.fn en18 rfl (gCheck hg1) ?_
  rintro _ w2 ⟨rfl, e2⟩
  have e02 := e1.trans e2
  refine wk ?_
  refine W.test rfl (fun q => ?_) (fun q => ?_)
  · refine wk ?_
    refine Arr.ret1 rfl rfl ⟨?_, e02⟩
    rw [if_neg q]
  have hck : g.check = 0 := Decidable.not_not.1 q
  have may := Gram.may hck
  have t1 := may.fewT
  have t2 := may.fewN
  have t3 := may.fewR
  refine wk ?_
  refine Wop.fn en20 rfl (gTop (hg1.ext e2)) ?_
  rintro _ w3 ⟨rfl, e3⟩
  have e13 := e2.trans e3
  have htop : g.top = (g.terms.length : Int) + g.nons.length := rfl
  refine wk ?_
  refine Wop.makeMut (D := tFound) (S := fun k => k ≠ w3.heap.size) (x0 := no) (n := g.terms.length + g.nons.length + 1) TT rfl rfl infoFound rfl rfl rfl (by omega) (by omega) (by omega) (fun w => tFound_mk (f := no) (c := 0) (Nat.le_refl _) (Ty.Row.nil_ _ _ _ _)) (fun w4 e4 m4 z4 => ?_)
  refine wk ?_
  refine Wop.make (cs := #[.slice (some ⟨w3.heap.size, 0, none⟩) (g.terms.length + g.nons.length + 1) (g.terms.length + g.nons.length + 1)]) pl104 rfl rfl ?_
  refine wk ?_
  refine Wop.box rfl (fun w5 e5 b5 z5 => ?_)
  have e15 := e13.trans (e4.trans e5)
  have m5 := m4.ext e5
  refine wk ?_
  refine Wop.ixI TT 0 rfl rfl rfl rfl rfl rfl (by omega) ?_
  refine wk ?_
  refine Wop.stMutF (x' := ⟨true, false, []⟩) (j := 0) (k := 0) (D := tFound) TT rfl rfl rfl (by decide) rfl rfl m5 (by simp) (fun es he => ?_) (fun k hk => hk) (fun w6 k6 z6 m6 => ?_)
  · obtain ⟨A, c, rfl, hc, hr⟩ := tFound_open he
    simp only [List.getElem_replicate] at hc hr ⊢
    exact tFound_mk (f := ⟨true, false, []⟩) hc hr
  rw [initP_zero] at m6
  have E6 : Below w.heap.size w w6 := Below.trans (e1.trans e15) (k6.below (by have := (e1.trans e15).size; omega) (fun k hk => by have := e1.size; have := e13.size; omega))
  have b16 := k6.blk (b1.ext e15) (by have := e13.size; have := b1.lt; omega)
  have b56 := k6.blk b5 (by have := e4.size; omega)
  refine wk ?_
  refine W.midB (ι := Unit) (fun _ => [(1, .pointer (some ⟨w.heap.size, 0, none⟩)), (3, .pointer (some ⟨w4.heap.size, 0, none⟩))])
    (fun _ w' => Below w.heap.size w w' ∧ w6.heap.size ≤ w'.heap.size ∧ Blk w' w.heap.size (gcells g A0 A1 A2 c0 c1 c2).toArray 25 ∧ Blk w' w4.heap.size #[.slice (some ⟨w3.heap.size, 0, none⟩) (g.terms.length + g.nons.length + 1) (g.terms.length + g.nons.length + 1)] 104 ∧ Mut tFound (fun k => k ≠ w3.heap.size) w' w3.heap.size 106 (init g.terms.length g.nons.length)) ?_ ?_
  · refine W.loop (ι := Nat) (fun i => [(1, .pointer (some ⟨w.heap.size, 0, none⟩)), (3, .pointer (some ⟨w4.heap.size, 0, none⟩)), (4, .int .i64 ((i : Int) + 1))])
      (fun i w' => Below w.heap.size w w' ∧ w6.heap.size ≤ w'.heap.size ∧ i ≤ g.terms.length ∧ Blk w' w.heap.size (gcells g A0 A1 A2 c0 c1 c2).toArray 25 ∧ Blk w' w4.heap.size #[.slice (some ⟨w3.heap.size, 0, none⟩) (g.terms.length + g.nons.length + 1) (g.terms.length + g.nons.length + 1)] 104 ∧ Mut tFound (fun k => k ≠ w3.heap.size) w' w3.heap.size 106 (initP g.terms.length g.nons.length i)) (fun i => g.terms.length - i) 0 has ⟨E6, Nat.le_refl _, Nat.zero_le _, b16, b56, m6⟩ ?_
    rintro i w' ⟨hE, hsz, hi, hb1, hb5, hm⟩
    refine wk ?_
    refine Wop.fn en22 rfl (gTerm _) ?_
    rintro _ w7 ⟨rfl, e7⟩
    have hb17 := hb1.ext e7
    have hb57 := hb5.ext e7
    have hE7 := hE.trans (Below.mono e7 hE.size)
    refine wk ?_
    refine W.cond rfl (fun q => ?_) (fun q => ?_)
    · have hlt : i < g.terms.length := by
        have := Gram.term_iff.1 q
        omega
      refine wk ?_
      refine Wop.litI rfl (fun w8 e8 b8 z8 => ?_)
      refine wk ?_
      refine Wop.make (cs := #[.bool true, .bool false, .slice (some ⟨w7.heap.size, 0, none⟩) 1 1]) pl106 rfl rfl ?_
      refine wk ?_
      refine Wop.ixI TT (i + 1) rfl rfl rfl rfl rfl (by omega) (by omega) ?_
      refine wk ?_
      have hne : w7.heap.size ≠ w3.heap.size := by have := e7.size; have := e4.size; have := e5.size; omega
      refine Wop.stMut (x' := ⟨true, false, [(i : Int) + 1]⟩) (j := i + 1) (D := tFound) TT rfl rfl (by rw [Nat.zero_add]; rfl) rfl (by simp [Value.oneCell']) (hm.ext (e7.trans e8)) (by rw [initP_length hi]; omega) (tFound_mk (f := ⟨true, false, [(i : Int) + 1]⟩) (c := 1) (Nat.le_refl _) (Sx.Blk.rowI b8 ⟨by omega, by omega⟩ hne)) (fun k hk => hk) (fun w9 k9 z9 m9 => ?_)
      rw [initP_step hlt] at m9
      have e78 := e7.trans e8
      refine wk ?_
      refine Arr.again (i + 1) (Has.cons rfl (Has.cons rfl (Has.consI rfl (by omega) Has.nil))) ⟨Below.trans (hE.trans (Below.mono e78 hE.size)) (k9.below (by have := hE.size; have := e78.size; omega) (fun k hk => by have := e1.size; have := e13.size; omega)), by have := e78.size; omega, hlt, k9.blk (hb1.ext e78) (by have := e13.size; have := b1.lt; omega), k9.blk (hb5.ext e78) (by have := e4.size; omega), m9⟩ (by omega)
    · have : i = g.terms.length := by
        have h3 : ¬ (1 ≤ (i : Int) + 1 ∧ (i : Int) + 1 ≤ g.terms.length) := fun h => Bool.eq_false_iff.1 q (Gram.term_iff.2 h)
        omega
      subst this
      rw [initP_end] at hm
      refine wk ?_
      exact Arr.mid () has ⟨hE7, by have := e7.size; omega, hb17, hb57, hm.ext e7⟩
  rintro _ w7 ⟨hE7, hs7, hb17, hb57, hm7⟩
  refine wk ?_
  refine Wop.fn en96 rfl gShortlex ?_
  rintro _ w8 ⟨rfl, e8⟩
  refine wk ?_
  refine Wop.alloc (z := .agg #[.nilFunc]) Try.zeroValue108 (fun w9 e9 b9 z9 => ?_)
  refine wk ?_
  refine Wop.stB TT rfl rfl rfl (by simp [Value.oneCell']) b9 rfl (fun w10 h10 b10 z10 k10 => ?_)
  have e7x : Ext w7 w10 := e8.trans (Below.trans e9 h10)
  have hEx := hE7.trans (Below.mono e7x hE7.size)
  obtain ⟨iok, ilen⟩ := init_ok g.terms.length g.nons.length
  have hsz8 := e8.size
  have hl5 := hb57.lt
  have hb1x := hb17.ext e7x
  have hb5x := hb57.ext e7x
  have hmx := hm7.ext e7x
  have hsx := e7x.size
  refine wk ?_
  refine W.loop (ι := List Found × Bool) (fun i => [(1, .pointer (some ⟨w.heap.size, 0, none⟩)), (3, .pointer (some ⟨w4.heap.size, 0, none⟩)), (5, .pointer (some ⟨w8.heap.size, 0, none⟩)), (6, .bool i.2)])
    (fun i w' => Below w.heap.size w w' ∧ w10.heap.size ≤ w'.heap.size ∧ Blk w' w.heap.size (gcells g A0 A1 A2 c0 c1 c2).toArray 25 ∧ Blk w' w4.heap.size #[.slice (some ⟨w3.heap.size, 0, none⟩) (g.terms.length + g.nons.length + 1) (g.terms.length + g.nons.length + 1)] 104 ∧ Blk w' w8.heap.size #[.func (.func 139) #[] #[]] 108 ∧ Mut tFound (fun k => k ≠ w3.heap.size) w' w3.heap.size 106 i.1 ∧
      WsOk g.terms.length i.1 ∧ i.1.length = g.terms.length + g.nons.length + 1 ∧ (∃ k, i.1 = iter g.rules k (init g.terms.length g.nons.length)) ∧ (i.2 = false → (pass g.rules i.1).2 = false))
    (fun i => 2 * rank g.terms.length i.1 + if i.2 = true then 1 else 0) (init g.terms.length g.nons.length, true) has ⟨hEx, Nat.le_refl _, hb1x, hb5x, b10, hmx, iok, ilen, ⟨0, rfl⟩, fun h => by cases h⟩ ?_
  rintro ⟨ws, more⟩ w' ⟨hE, hsz, hb1, hb5, hbo, hm, hok, hlen, ⟨kk, hit⟩, hstill⟩
  simp only at hm hok hlen hit hstill ⊢
  refine wk ?_
  refine W.cond rfl (fun q => ?_) (fun q => ?_)
  · subst q
    refine wk ?_
    refine W.loop (ι := Nat × List Found × Bool) (fun i => [(1, .pointer (some ⟨w.heap.size, 0, none⟩)), (3, .pointer (some ⟨w4.heap.size, 0, none⟩)), (5, .pointer (some ⟨w8.heap.size, 0, none⟩)), (6, .bool i.2.2), (42, .slice A2 g.rules.length c2), (43, .int .i64 (g.rules.length : Int)), (44, .int .i64 (i.1 : Int))])
      (fun i w' => Below w.heap.size w w' ∧ w10.heap.size ≤ w'.heap.size ∧ i.1 ≤ g.rules.length ∧ Blk w' w.heap.size (gcells g A0 A1 A2 c0 c1 c2).toArray 25 ∧ Blk w' w4.heap.size #[.slice (some ⟨w3.heap.size, 0, none⟩) (g.terms.length + g.nons.length + 1) (g.terms.length + g.nons.length + 1)] 104 ∧ Blk w' w8.heap.size #[.func (.func 139) #[] #[]] 108 ∧ Mut tFound (fun k => k ≠ w3.heap.size) w' w3.heap.size 106 i.2.1 ∧ i.2 = passOn (ws, false) (g.rules.take i.1))
      (fun i => g.rules.length - i.1) (0, ws, false) has ⟨hE, hsz, Nat.zero_le _, hb1, hb5, hbo, hm, rfl⟩ ?_
    rintro ⟨k, wz, mk⟩ w1' ⟨hE1, hsz1, hk, hb11, hb51, hbo1, hm1, hpass⟩
    simp only at hk hm1 hpass ⊢
    have hwk : wz = (passOn (ws, false) (g.rules.take k)).1 := by rw [← hpass]
    obtain ⟨kok, klen⟩ := passOn_ok (g.rules.take k) (ws, false) hok
    rw [← hwk] at kok klen
    simp only [hlen] at klen
    refine wk ?_
    refine W.test rfl (fun hlt => ?_) (fun hge => ?_)
    · have hlt : k < g.rules.length := by omega
      obtain ⟨rb, ro, hA2, es, hrd, hc⟩ := hg.rules.at_ k hlt
      subst hA2
      obtain ⟨RA, rc, rfl, hrcap, hl64, hrrow⟩ := tRule_open hrd
      have hcw : ∀ k' v, _ → w1'.cell? ⟨rb, ro + k * tRule.sz + k', none⟩ = some v := fun k' v h => Ext.cell hE1 (hc k' v h)
      have hleft := may.left (List.getElem_mem hlt)
      refine wk ?_
      refine Wop.alloc (z := .agg #[.int .i64 0, .slice none 0 0]) Try.zeroValue30 (fun u1 f1 d1 y1 => ?_)
      refine wk ?_
      refine Wop.stB TT rfl rfl rfl (by simp [Value.oneCell']) d1 rfl (fun u2 g2 d2 y2 j2 => ?_)
      have f2 : Ext w1' u2 := Below.trans f1 g2
      have hE2 := hE1.trans (Below.mono f2 hE1.size)
      refine wk ?_
      refine Wop.fn en97 rfl (gJoin (p := w4.heap.size) (ws := wz) ⟨w3.heap.size, g.terms.length + g.nons.length + 1, by rw [klen]; exact hb51.ext f2, by omega, by omega, by have := e4.size; omega, hm1.ext f2⟩ kok (by omega) (hrrow.ext (by decide) hE2)) ?_
      rintro _ u3 ⟨⟨JA, jc, rfl, hjc, hjr⟩, f3⟩
      have f13 := f2.trans f3
      refine wk ?_
      refine Wop.alloc (z := .agg #[.bool false, .bool false, .slice none 0 0]) Try.zeroValue106 (fun u4 f4 d4 y4 => ?_)
      refine wk ?_
      refine Wop.stB TT rfl rfl rfl (by simp [Value.oneCell']) d4 rfl (fun u5 g5 d5 y5 j5 => ?_)
      have f35 : Ext u3 u5 := Below.trans f4 g5
      have f15 := f13.trans f35
      have k8 := d2.ext (f3.trans f35)
      have kp := hb51.ext f15
      have ko := hbo1.ext f15
      have m5' := hm1.ext f15
      have hin : g.rules[k].left.toNat < wz.length := by omega
      obtain ⟨es', hrd', hcx⟩ := m5'.at_ g.rules[k].left.toNat hin
      obtain ⟨XA, xc, rfl, hxc, hxr⟩ := tFound_open hrd'
      have vj : FoundV (fun k => u2.heap.size ≤ k) u5 (join wz g.rules[k].right) _ := ⟨JA, jc, rfl, hjc, hjr.ext (by decide) f35⟩
      have vx : FoundV (fun k => k ≠ w3.heap.size) u5 wz[g.rules[k].left.toNat] _ := ⟨XA, xc, rfl, hxc, hxr⟩
      refine wk ?_
      refine W.any Ext [.eq _, .eq _, .eq _, .eq _, .eq _, .eq _, .eq _, .eq _, .eq _, .eq _, .eq _] [10] mixed rfl Ext.refl Ext.trans Ext.drew ⟨qs, qs, qs, qs, qs, qs, qs, qs, by intro w_ hG; (repeat (intro v_ hv_; cases hv_)); refine WopG.plain rfl (Wop.ixI TT g.rules[k].left.toNat rfl rfl rfl rfl rfl (by omega) (by omega) ?_); refine ⟨Ext.refl _, ?_⟩; show _ = _; exact rfl, qs, by intro w_ hG; (repeat (intro v_ hv_; cases hv_)); exact WopG.plain rfl (Wop.fn en98 rfl (gBetter (vj.ext hG) (vx.ext hG)) (fun v w' h => ⟨h.2, h.1⟩)), trivial⟩ ?_
      rintro wq eq_ _ ⟨⟩
      have f1q := f15.trans eq_
      have hE6 := hE1.trans (Below.mono f1q hE1.size)
      have hb16 := hb11.ext f1q
      have kp6 := kp.ext eq_
      have ko6 := ko.ext eq_
      have k86 := k8.ext eq_
      have k96 := d5.ext eq_
      have m6' := m5'.ext eq_
      have hsq := f1q.size
      have htake := passOn_take (p := (ws, false)) hlt
      rw [← hpass] at htake
      simp only at htake
      have hstep : stepF wz g.rules[k] = if better (join wz g.rules[k].right) wz[g.rules[k].left.toNat] = true then (wz.set g.rules[k].left.toNat (join wz g.rules[k].right), true) else (wz, false) := by
        rw [stepF, List.getElem?_eq_getElem hin, Option.getD_some]
      refine wk ?_
      refine W.cond rfl (fun hb => ?_) (fun hb => ?_)
      · rw [hstep, if_pos hb] at htake
        have hst : Stable [(w3.heap.size, fun c => Mut tFound (fun k => k ≠ w3.heap.size) c w3.heap.size 106 (wz.set g.rules[k].left.toNat (join wz g.rules[k].right)))] := by
          intro q hq a c hT hK hs
          simp only [List.mem_singleton] at hq
          subst hq
          exact hT.same hK hs (fun k hk q hq => by simp only [List.mem_singleton] at hq; subst hq; exact hk)
        have gp : ∀ w_, Wr [(w3.heap.size, fun c => Mut tFound (fun k => k ≠ w3.heap.size) c w3.heap.size 106 (wz.set g.rules[k].left.toNat (join wz g.rules[k].right)))] wq w_ → Blk w_ w4.heap.size #[.slice (some ⟨w3.heap.size, 0, none⟩) (g.terms.length + g.nons.length + 1) (g.terms.length + g.nons.length + 1)] 104 := fun w_ h => h.keeps.blk kp6 (by simp; have := e4.size; omega)
        have g8 : ∀ w_, Wr [(w3.heap.size, fun c => Mut tFound (fun k => k ≠ w3.heap.size) c w3.heap.size 106 (wz.set g.rules[k].left.toNat (join wz g.rules[k].right)))] wq w_ → Blk w_ w1'.heap.size #[.int .i64 g.rules[k].left, .slice RA g.rules[k].right.length rc] 30 := fun w_ h => h.keeps.blk k86 (by simp; have := e4.size; omega)
        have g9 : ∀ w_, Wr [(w3.heap.size, fun c => Mut tFound (fun k => k ≠ w3.heap.size) c w3.heap.size 106 (wz.set g.rules[k].left.toNat (join wz g.rules[k].right)))] wq w_ → Blk w_ u3.heap.size #[.bool (join wz g.rules[k].right).is_, .bool (join wz g.rules[k].right).long, .slice JA (join wz g.rules[k].right).l.length jc] 106 := fun w_ h => h.keeps.blk k96 (by simp; have := e4.size; have := f13.size; omega)
        have hsu2 := f2.size
        refine wk ?_
        have hbu : w3.heap.size < u2.heap.size := by have := e4.size; omega
        have hcur : ∀ w_, Wr [(w3.heap.size, fun c => Mut tFound (fun k => k ≠ w3.heap.size) c w3.heap.size 106 (wz.set g.rules[k].left.toNat (join wz g.rules[k].right)))] wq w_ → ∃ cur, Mut tFound (fun k => k ≠ w3.heap.size) w_ w3.heap.size 106 cur ∧ cur.length = wz.length ∧ cur.set g.rules[k].left.toNat (join wz g.rules[k].right) = wz.set g.rules[k].left.toNat (join wz g.rules[k].right) := by
          intro w_ hG
          rcases hG.each _ (List.mem_singleton.2 rfl) with hs | hT
          · exact ⟨wz, m6'.same hG.keeps hs (fun k hk q hq => by simp only [List.mem_singleton] at hq; subst hq; exact hk), rfl, rfl⟩
          · exact ⟨_, hT, by simp, by simp⟩
        have hjrow : ∀ w_, Wr [(w3.heap.size, fun c => Mut tFound (fun k => k ≠ w3.heap.size) c w3.heap.size 106 (wz.set g.rules[k].left.toNat (join wz g.rules[k].right)))] wq w_ → tI.Row (fun k => k ≠ w3.heap.size) w_ JA (join wz g.rules[k].right).l.length (join wz g.rules[k].right).l := fun w_ hG =>
          ((hjr.ext (by decide) (f35.trans eq_)).keep (by decide) hG.keeps (fun k hk q hq => by simp only [List.mem_singleton] at hq; subst hq; simp only; have := f2.size; omega)).mono (fun k hk => by have := f2.size; omega)
        refine W.anyK (Wr [(w3.heap.size, fun c => Mut tFound (fun k => k ≠ w3.heap.size) c w3.heap.size 106 (wz.set g.rules[k].left.toNat (join wz g.rules[k].right)))]) [(fun v _ => v = _), (fun v _ => v = _), (fun v _ => v = _), (fun v _ => v = _), (fun v _ => v = _), (fun v _ => v = _), (fun v _ => v = _), (fun v _ => v = _), (fun _ w => Mut tFound (fun k => k ≠ w3.heap.size) w w3.heap.size 106 (wz.set g.rules[k].left.toNat (join wz g.rules[k].right)))] [8] mixed rfl (Wr.refl _) (Wr.trans hst) (Wr.drew _) ⟨qw, qw, qw, by intro w_ hG; (repeat (intro v_ hv_; cases hv_)); exact WopG.plain rfl (Wop.ldB TT rfl rfl (gp _ hG) rfl ⟨Wr.refl _ _, rfl, (by repeat (first | exact trivial | refine ⟨fun _ h => h, ?_⟩))⟩), qw, by intro w_ hG; (repeat (intro v_ hv_; cases hv_)); exact WopG.plain rfl (Wop.ldB TT rfl rfl (g8 _ hG) rfl ⟨Wr.refl _ _, rfl, (by repeat (first | exact trivial | refine ⟨fun _ h => h, ?_⟩))⟩), by intro w_ hG; (repeat (intro v_ hv_; cases hv_)); exact WopG.plain rfl (Wop.ldA TT rfl rfl rfl (g9 _ hG) ⟨Wr.refl _ _, rfl, (by repeat (first | exact trivial | refine ⟨fun _ h => h, ?_⟩))⟩), by intro w_ hG; (repeat (intro v_ hv_; cases hv_)); refine WopG.plain rfl (Wop.ixI TT g.rules[k].left.toNat rfl rfl rfl rfl rfl (by omega) (by omega) ?_); refine ⟨Wr.refl _ _, ?_, (by repeat (first | exact trivial | refine ⟨fun _ h => h, ?_⟩))⟩; show _ = _; exact rfl, by intro w_ hG; (repeat (intro v_ hv_; cases hv_)); obtain ⟨cur, mm, hcl, hcs⟩ := hcur _ hG; exact WopG.plain rfl (Wop.stMut (x' := join wz g.rules[k].right) (j := g.rules[k].left.toNat) (D := tFound) TT rfl rfl (Nat.zero_add _) rfl (by simp [Value.oneCell']) mm (by omega) (tFound_mk hjc (hjrow _ hG)) (fun k hk => hk) (fun w' kk zz mm' => ⟨⟨kk.mono (fun k hk => hk _ (List.mem_singleton.2 rfl)), fun q hq => .inr (by simp only [List.mem_singleton] at hq; subst hq; rw [← hcs]; exact mm')⟩, ⟨_, rfl, (by rw [← hcs]; exact mm')⟩, (by repeat (first | exact trivial | refine ⟨fun _ h => h, ?_⟩))⟩)), trivial⟩ ?_
        intro wr hGr v8 m8
        have kr := hGr.keeps
        have hpr : ∀ j, j ≠ w3.heap.size → ∀ q ∈ [(w3.heap.size, fun c => Mut tFound (fun k => k ≠ w3.heap.size) c w3.heap.size 106 (wz.set g.rules[k].left.toNat (join wz g.rules[k].right)))], j ≠ q.1 := fun k hk q hq => by simp only [List.mem_singleton] at hq; subst hq; exact hk
        have hsr := kr.size
        refine wk ?_
        refine Arr.again (i := (k, wz, mk)) (k + 1, wz.set g.rules[k].left.toNat (join wz g.rules[k].right), true) has ⟨Below.trans hE6 (kr.below (by have := hE6.size; omega) (fun k hk => hpr k (by have := e1.size; have := e13.size; omega))), by omega, hlt, kr.blk hb16 (hpr _ (by have := e13.size; have := b1.lt; omega)), kr.blk kp6 (hpr _ (by have := e4.size; omega)), kr.blk ko6 (hpr _ (by have := e4.size; omega)), m8, ?_⟩ (by simp only; omega)
        rw [htake]
        simp
      · rw [hstep, if_neg (by rw [hb]; exact Bool.false_ne_true)] at htake
        refine wk ?_
        simp only [Bool.or_false] at htake
        refine Arr.again (i := (k, wz, mk)) (k + 1, wz, mk) has ⟨hE6, by omega, hlt, hb16, kp6, ko6, m6', htake.symm⟩ (by simp only; omega)
    · have : k = g.rules.length := by omega
      subst this
      rw [List.take_length] at hpass
      change (wz, mk) = pass g.rules ws at hpass
      have hrk := passOn_rank (K := g.terms.length) g.rules ws false hok (fun r hr => by have := may.left hr; omega)
      change rank g.terms.length (pass g.rules ws).1 ≤ rank g.terms.length ws ∧ (false = false → (pass g.rules ws).2 = true → rank g.terms.length (pass g.rules ws).1 < rank g.terms.length ws) at hrk
      rw [← hpass] at hrk
      simp only at hrk
      refine wk ?_
      refine Arr.again (i := (ws, true)) (wz, mk) has ⟨hE1, hsz1, hb11, hb51, hbo1, hm1, kok, klen, ⟨kk + 1, ?_⟩, fun h => ?_⟩ ?_
      · rw [iter_add, ← hit, iter, ← hpass]
        rfl
      · subst h
        have h2 : (pass g.rules ws).2 = false := by rw [← hpass]
        have h1 := pass_still h2
        rw [← hpass] at h1
        simp only at h1
        rw [h1]
        exact h2
      · simp only [if_pos]
        cases mk with
        | true => have := hrk.2 trivial rfl; simp; omega
        | false => have := hrk.1; simp; omega
  · subst q
    refine wk ?_
    refine Arr.ret1 rfl rfl ⟨?_, hE⟩
    rw [if_pos hck]
    exact ⟨_, ws, rfl, ⟨w3.heap.size, _, by rw [hlen]; exact hb5, by omega, by omega, by have := e4.size; omega, hm⟩, ⟨⟨kk, hit, hstill rfl⟩, hok, hlen⟩⟩
end Go.Proofs.Ytbadjlhijbkbbaa
