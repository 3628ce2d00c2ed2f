/-
  Joined by program out of the texts Bld Ar11 Ar12: lemmas for the proofs of this seat; no condition.
-/
import Derived.Test.YtbadjlhijbkbbaaCa
import Derived.Shelf.Strings.BuilderK
import Derived.Test.YtbadjlhijbkbbaaCe
import Derived.Test.YtbadjlhijbkbbaaBf
set_option maxHeartbeats 1000000
/-
  strings.Builder: the shelf's contracts, laid here.
-/
set_option linter.unusedVariables false
namespace Go.Proofs.Ytbadjlhijbkbbaa
open Go Go.RowKit Sx
def layWS_ren : Go.Shelf.Ren := ⟨fun | 166 => 110 | 240 => 147 | 276 => 171 | n => n, fun | 70 => 133 | 9 => 9 | 3 => 3 | 75 => 138 | 0 => 0 | 72 => 135 | 37 => 53 | 4 => 4 | 164 => 192 | 80 => 142 | 5 => 5 | 20 => 20 | n => n, fun | n => n⟩
theorem layWS : Go.Proofs.Lays.n166 Try.prog layWS_ren := {
  mixed := by kernel_rfl,
  f166 := Try.func110.trans (congrArg some (by kernel_rfl)),
  f240 := Try.func147.trans (congrArg some (by kernel_rfl)),
  f276 := Try.func171.trans (congrArg some (by kernel_rfl)),
  t0 := Try.underlying0,
  a0 := Try.isAgg0,
  z0 := Try.sizeOf0,
  v0 := Try.zeroValue0,
  t3 := Try.underlying3,
  a3 := Try.isAgg3,
  z3 := Try.sizeOf3,
  v3 := Try.zeroValue3,
  t4 := Try.underlying4,
  a4 := Try.isAgg4,
  z4 := Try.sizeOf4,
  v4 := Try.zeroValue4,
  t9 := Try.underlying9,
  a9 := Try.isAgg9,
  z9 := Try.sizeOf9,
  v9 := Try.zeroValue9,
  t20 := Try.underlying20,
  a20 := Try.isAgg20,
  z20 := Try.sizeOf20,
  v20 := Try.zeroValue20,
  t37 := Try.underlying53,
  a37 := Try.isAgg53,
  z37 := Try.sizeOf53,
  v37 := Try.zeroValue53,
  t70 := Try.underlying133,
  a70 := Try.isAgg133,
  z70 := Try.sizeOf133,
  v70 := Try.zeroValue133,
  t72 := Try.underlying135,
  a72 := Try.isAgg135,
  z72 := Try.sizeOf135,
  v72 := Try.zeroValue135,
  t75 := Try.underlying138,
  a75 := Try.isAgg138,
  z75 := Try.sizeOf138,
  v75 := Try.zeroValue138,
  t164 := Try.underlying192,
  a164 := Try.isAgg192,
  z164 := Try.sizeOf192,
  v164 := Try.zeroValue192 }
def layWB_ren : Go.Shelf.Ren := ⟨fun | 167 => 111 | 240 => 147 | 276 => 171 | n => n, fun | 70 => 133 | 5 => 5 | 75 => 138 | 0 => 0 | 72 => 135 | 37 => 53 | 4 => 4 | 164 => 192 | 80 => 142 | 9 => 9 | 20 => 20 | n => n, fun | n => n⟩
theorem layWB : Go.Proofs.Lays.n167 Try.prog layWB_ren := {
  mixed := by kernel_rfl,
  f167 := Try.func111.trans (congrArg some (by kernel_rfl)),
  f240 := Try.func147.trans (congrArg some (by kernel_rfl)),
  f276 := Try.func171.trans (congrArg some (by kernel_rfl)),
  t0 := Try.underlying0,
  a0 := Try.isAgg0,
  z0 := Try.sizeOf0,
  v0 := Try.zeroValue0,
  t4 := Try.underlying4,
  a4 := Try.isAgg4,
  z4 := Try.sizeOf4,
  v4 := Try.zeroValue4,
  t5 := Try.underlying5,
  a5 := Try.isAgg5,
  z5 := Try.sizeOf5,
  v5 := Try.zeroValue5,
  t9 := Try.underlying9,
  a9 := Try.isAgg9,
  z9 := Try.sizeOf9,
  v9 := Try.zeroValue9,
  t20 := Try.underlying20,
  a20 := Try.isAgg20,
  z20 := Try.sizeOf20,
  v20 := Try.zeroValue20,
  t37 := Try.underlying53,
  a37 := Try.isAgg53,
  z37 := Try.sizeOf53,
  v37 := Try.zeroValue53,
  t70 := Try.underlying133,
  a70 := Try.isAgg133,
  z70 := Try.sizeOf133,
  v70 := Try.zeroValue133,
  t72 := Try.underlying135,
  a72 := Try.isAgg135,
  z72 := Try.sizeOf135,
  v72 := Try.zeroValue135,
  t75 := Try.underlying138,
  a75 := Try.isAgg138,
  z75 := Try.sizeOf138,
  v75 := Try.zeroValue138,
  t164 := Try.underlying192,
  a164 := Try.isAgg192,
  z164 := Try.sizeOf192,
  v164 := Try.zeroValue192 }
def layST_ren : Go.Shelf.Ren := ⟨fun | 169 => 112 | n => n, fun | 70 => 133 | 9 => 9 | 0 => 0 | 72 => 135 | 37 => 53 | 127 => 171 | 3 => 3 | 5 => 5 | n => n, fun | n => n⟩
theorem layST : Go.Proofs.Lays.n169 Try.prog layST_ren := {
  mixed := by kernel_rfl,
  f169 := Try.func112.trans (congrArg some (by kernel_rfl)),
  t0 := Try.underlying0,
  a0 := Try.isAgg0,
  z0 := Try.sizeOf0,
  v0 := Try.zeroValue0,
  t3 := Try.underlying3,
  a3 := Try.isAgg3,
  z3 := Try.sizeOf3,
  v3 := Try.zeroValue3,
  t9 := Try.underlying9,
  a9 := Try.isAgg9,
  z9 := Try.sizeOf9,
  v9 := Try.zeroValue9,
  t37 := Try.underlying53,
  a37 := Try.isAgg53,
  z37 := Try.sizeOf53,
  v37 := Try.zeroValue53,
  t70 := Try.underlying133,
  a70 := Try.isAgg133,
  z70 := Try.sizeOf133,
  v70 := Try.zeroValue133,
  t72 := Try.underlying135,
  a72 := Try.isAgg135,
  z72 := Try.sizeOf135,
  v72 := Try.zeroValue135,
  t127 := Try.underlying171,
  a127 := Try.isAgg171,
  z127 := Try.sizeOf171,
  v127 := Try.zeroValue171 }
theorem bldXWS : Builder.Extra Try.prog layWS_ren := { sizeBuilder := by kernel_rfl, liesBuilder := by kernel_rfl, t5 := Try.underlying5, a5 := Try.isAgg5, z5 := Try.sizeOf5, v5 := Try.zeroValue5, infoByte := by kernel_rfl, cellsByte := by kernel_rfl, sizeByte := by kernel_rfl, neB5 := by decide }
theorem bldXWB : Builder.Extra Try.prog layWB_ren := { sizeBuilder := by kernel_rfl, liesBuilder := by kernel_rfl, t5 := Try.underlying5, a5 := Try.isAgg5, z5 := Try.sizeOf5, v5 := Try.zeroValue5, infoByte := by kernel_rfl, cellsByte := by kernel_rfl, sizeByte := by kernel_rfl, neB5 := by decide }
theorem bldXST : Builder.Extra Try.prog layST_ren := { sizeBuilder := by kernel_rfl, liesBuilder := by kernel_rfl, t5 := Try.underlying5, a5 := Try.isAgg5, z5 := Try.sizeOf5, v5 := Try.zeroValue5, infoByte := by kernel_rfl, cellsByte := by kernel_rfl, sizeByte := by kernel_rfl, neB5 := by decide }
variable {w w' : World} {B b : Nat} {l : List UInt8}
/-- A builder of the call's own in block b, that holds these bytes. -/
def Bldr (B b : Nat) (l : List UInt8) (w : World) : Prop := Lib.IsBuilderF 135 5 B b (Lib.byteCells l) w
/-- What lies in blocks that are neither the builder's nor rows of bytes, lies as it lay. -/
def Oth (b : Nat) (w w' : World) : Prop := Lib.OthersKept 5 (some b) w w'
theorem Oth.refl : Oth b w w := Lib.OthersKept.refl _ _ _
theorem Oth.trans {a c d : World} (h : Oth b a c) (k : Oth b c d) : Oth b a d := Lib.OthersKept.trans h k
theorem Oth.ext (e : Ext w w') : Oth b w w' := fun k o hk _ _ => (e.block (lt_of_block hk)).trans hk
theorem Oth.blk (h : Oth b w w') {k : Nat} {cs : Array Value} {u : TypeId} (hb : Blk w k cs u) (hk : k ≠ b) (hu : u ≠ 5) : Blk w' k cs u :=
  h k _ hb (fun e => hk (Option.some.inj e)) (fun c fz e => hu (by injection e))
theorem Bldr.move (h : Bldr B b l w) (hm : ∀ k, B ≤ k → k < w.heap.size → w'.heap[k]? = w.heap[k]?) : Bldr B b l w' := by
  have key : ∀ p, Lib.BuilderAtF 135 5 B b p (Lib.byteCells l) w → Lib.BuilderAtF 135 5 B b p (Lib.byteCells l) w' := by
    rintro p ⟨hB, v, hb, hown, hne⟩
    refine ⟨hB, v, (hm b hB (lt_of_block hb)).trans hb, ⟨hown.1, ?_⟩, hne⟩
    rcases hown.2 with h | ⟨g, cap, cur, fz, hv, hg, hgg, rest⟩
    · exact .inl h
    · exact .inr ⟨g, cap, cur, fz, hv, hg, (hm g hg (lt_of_block hgg)).trans hgg, rest⟩
  exact h.elim (fun h => .inl (key _ h)) (fun h => .inr (key _ h))
theorem Bldr.ext (h : Bldr B b l w) (e : Ext w w') : Bldr B b l w' := h.move (fun k _ hk => e.block hk)
theorem Bldr.lt (h : Bldr B b l w) : B ≤ b ∧ b < w.heap.size := h.elim (fun h => ⟨h.1, h.lt⟩) (fun h => ⟨h.1, h.lt⟩)
theorem Bldr.new (hb : Blk w b #[.pointer none, .slice none 0 0] 135) : Bldr b b [] w := .inl ⟨Nat.le_refl _, _, hb, World.ownsRowF_nil _ _ _ _, by simp [Value.ownBlock]⟩
theorem byteCells_str (s : ByteArray) : Lib.strCells s = Lib.byteCells s.data.toList := rfl
theorem byteCells_app (l m : List UInt8) : Lib.byteCells (l ++ m) = Lib.byteCells l ++ Lib.byteCells m := by simp [Lib.byteCells]
theorem gWriteString (h : Bldr B b l w) (s : ByteArray) (hl : l.length + s.size ≤ 140737488355328) (hB : B ≤ w.heap.size) :
    Calls Try.prog 110 [.pointer (some ⟨b, 0, none⟩), .string s].toArray w (Ret fun v w' => Bldr B b (l ++ s.data.toList) w' ∧ Below B w w' ∧ Oth b w w') := by
  have h1 := Any.Builder_WriteString_k layWS bldXWS B b (Lib.byteCells l) s w h (by rw [Lib.byteCells_length]; exact hl) hB
  refine Calls.mono h1 ?_
  rintro e w' ⟨rfl, g1, g2, g3⟩
  refine ⟨_, rfl, .inr ?_, g2, g3⟩
  rw [byteCells_app]
  exact g1
theorem gWriteByte (h : Bldr B b l w) (c : UInt8) (hl : l.length + 1 ≤ 140737488355328) (hB : B ≤ w.heap.size) :
    Calls Try.prog 111 [.pointer (some ⟨b, 0, none⟩), .int .u8 (c.toNat : Int)].toArray w (Ret fun v w' => Bldr B b (l ++ [c]) w' ∧ Below B w w' ∧ Oth b w w') := by
  have h1 := Any.Builder_WriteByte_k layWB bldXWB B b (Lib.byteCells l) (c.toNat : Int) w h (by rw [Lib.byteCells_length]; exact hl) hB
  refine Calls.mono h1 ?_
  rintro e w' ⟨rfl, g1, g2, g3⟩
  refine ⟨_, rfl, .inr ?_, g2, g3⟩
  rw [byteCells_app]
  exact g1
theorem gString (h : Bldr B b l w) (hB : B ≤ w.heap.size) :
    Calls Try.prog 112 [.pointer (some ⟨b, 0, none⟩)].toArray w (Ret fun v w' => v = .string ⟨l.toArray⟩ ∧ Bldr B b l w' ∧ Below B w w' ∧ Oth b w w') := by
  have h1 := Any.Builder_String_any_k layST bldXST B b l w h hB
  refine Calls.mono h1 ?_
  rintro e w' ⟨rfl, g1, g2, g3⟩
  exact ⟨_, rfl, rfl, g1, g2, g3⟩
section
variable {P : Program} {Q : Exit → Act → World → Prop} {N : Nat} {σ : Sl} {w : World} {K : Value → World → Prop}
variable {d : Option Tmp} {ty : TypeId} {ps : String} {af : Array Edge} {gd : Option (Nat × Bool)}
/-- x + y, of texts. -/
theorem Wop.cat {t t' : TypeId} {x y : Operand} {a c : ByteArray} (hx : Sx.look σ x = some (.string a)) (hy : Sx.look σ y = some (.string c)) (hl : a.size + c.size ≤ 9223372036854775807) (hk : K (.string (a ++ c)) w) : Wop P Q N ⟨d, .binOp .add t x y t', ty, ps, af, gd⟩ σ w K :=
  Wop.val (v := .string (a ++ c)) (fun ρ h => by
    simp [execOp, h x _ hx, h y _ hy, eqGuard, binOp, Op.stringOp]
    omega) hk
end
end Go.Proofs.Ytbadjlhijbkbbaa

/-
  The arena's Show.
-/
set_option linter.unusedVariables false
namespace Go.Proofs.Ytbadjlhijbkbbaa
open Go Go.RowKit Sx Arena
variable {S S' : Nat → Prop} {w w0 w' : World} {base p : Nat} {ns : List Nd} {A : Option Addr} {c : Nat}
/-- A node's text; f: how deep. -/
def showL (g : Gram) (ns : List Nd) : Nat → Int → List UInt8
  | 0, _ => []
  | f + 1, i => if (nd ns i).leaf = true then (g.name (nd ns i).sym).data.toList else 40 :: ((g.name (nd ns i).sym).data.toList ++ ((nd ns i).kids.flatMap (fun k => 32 :: showL g ns f k) ++ [41]))
def showN (g : Gram) (ns : List Nd) (i : Int) : List UInt8 := showL g ns (i.toNat + 1) i
theorem showL_fuel (g : Gram) {ns : List Nd} (h : Down ns) : ∀ (f e : Nat) (i : Int), 0 ≤ i → i < f → i < e → showL g ns f i = showL g ns e i
  | 0, _, i, h0, hf, _ => by omega
  | _, 0, i, h0, _, he => by omega
  | f + 1, e + 1, i, h0, hf, he => by
    rw [showL, showL]
    split
    · rfl
    · congr 3
      obtain ⟨j, rfl⟩ : ∃ j : Nat, i = j := ⟨i.toNat, by omega⟩
      exact flatMap_same (fun k hk => by rw [showL_fuel g h f e k (h j k hk).1 (by have := (h j k hk).2; omega) (by have := (h j k hk).2; omega)])
theorem showN_eq (g : Gram) (hd : Down ns) {i : Int} (h0 : 0 ≤ i) : showN g ns i = if (nd ns i).leaf = true then (g.name (nd ns i).sym).data.toList else 40 :: ((g.name (nd ns i).sym).data.toList ++ ((nd ns i).kids.flatMap (fun k => 32 :: showN g ns k) ++ [41])) := by
  rw [showN, showL]
  split
  · rfl
  · congr 3
    obtain ⟨j, rfl⟩ : ∃ j : Nat, i = j := ⟨i.toNat, by omega⟩
    exact flatMap_same (fun k hk => by rw [showN, showL_fuel g hd _ (k.toNat + 1) k (hd j k hk).1 (by have := (hd j k hk).2; omega) (by have := (hd j k hk).1; omega)])
/-- What the text's function finds in memory. -/
structure ShowIn (w : World) (B b bt bg bs p : Nat) (A : Option Addr) (c : Nat) (ns : List Nd) (g : Gram) (A0 A1 A2 : Option Addr) (c0 c1 c2 : Nat) : Prop where
  tree : Blk w bt #[.pointer (some ⟨p, 0, none⟩)] 56
  gram : Blk w bg (gcells g A0 A1 A2 c0 c1 c2).toArray 25
  fn : Blk w bs #[.func (.func 109) #[] #[.pointer (some ⟨bt, 0, none⟩), .pointer (some ⟨b, 0, none⟩), .pointer (some ⟨bg, 0, none⟩), .pointer (some ⟨bs, 0, none⟩)]] 136
  at_ : Blk w p #[.slice A ns.length c] 121
  row : tNd.Row (fun k => k < B) w A ns.length ns
  g : GramAt (fun k => k < B) w g A0 A1 A2 c0 c1 c2
  lt : bt < B ∧ bg < B ∧ p < B
  ne : bs ≠ b
theorem ShowIn.ext {B b bt bg bs : Nat} {g : Gram} {A0 A1 A2 : Option Addr} {c0 c1 c2 : Nat} (h : ShowIn w B b bt bg bs p A c ns g A0 A1 A2 c0 c1 c2) (e : Ext w w') : ShowIn w' B b bt bg bs p A c ns g A0 A1 A2 c0 c1 c2 :=
  ⟨h.tree.ext e, h.gram.ext e, h.fn.ext e, h.at_.ext e, h.row.ext (by decide) e, h.g.ext e, h.lt, h.ne⟩
theorem ShowIn.go {B b bt bg bs : Nat} {g : Gram} {A0 A1 A2 : Option Addr} {c0 c1 c2 : Nat} (h : ShowIn w B b bt bg bs p A c ns g A0 A1 A2 c0 c1 c2) (e : Below B w w') (o : Oth b w w') (hB : B ≤ w.heap.size) : ShowIn w' B b bt bg bs p A c ns g A0 A1 A2 c0 c1 c2 := by
  have k : Keeps (fun k => k < B) w w' := ⟨e.os, e.tape, e.output, e.size, fun k hk _ => e.block k hk⟩
  exact ⟨k.blk h.tree h.lt.1, k.blk h.gram h.lt.2.1, o.blk h.fn h.ne (by decide), k.blk h.at_ h.lt.2.2, h.row.keep (by decide) k (fun _ hk => hk), h.g.keep k (fun _ hk => hk), h.lt, h.ne⟩
set_option maxRecDepth 20000 in
set_option maxHeartbeats 4000000 in
theorem gShow1 {B b bt bg bs : Nat} {g : Gram} {A0 A1 A2 : Option Addr} {c0 c1 c2 : Nat} (hd : Down ns) : ∀ (f : Nat) (i : Int) (w : World) (l : List UInt8), 0 ≤ i → i < f → i < ns.length → ShowIn w B b bt bg bs p A c ns g A0 A1 A2 c0 c1 c2 → Bldr B b l w → l.length + (showN g ns i).length ≤ 1099511627776 →
    Calls Try.prog 109 [.int .i64 i, .pointer (some ⟨bt, 0, none⟩), .pointer (some ⟨b, 0, none⟩), .pointer (some ⟨bg, 0, none⟩), .pointer (some ⟨bs, 0, none⟩)].toArray w (Ret fun v w' => Bldr B b (l ++ showN g ns i) w' ∧ Below B w w' ∧ Oth b w w') := by
  intro f
  induction f with
  | zero => intro i w l h0 hf; omega
  | succ f ih =>
    intro i w l h0 hf hi hin hl hlen
    obtain ⟨ht, hgb, hfn, hp, hr, hg, hlt, hne⟩ := id hin
    have hBb := hl.lt
    obtain ⟨b', o', rfl, es', hrd, hcc'⟩ := hr.at_ i.toNat (by omega)
    obtain ⟨A3, c3, rfl, hcap, _, _, hrI, hkids⟩ := tNd_open hrd
    have hnx : nd ns i = ns[i.toNat] := by rw [nd_int h0, nd_lt]
    have hcs : ∀ (k : Nat) (u : Value), [Value.int .i64 ns[i.toNat].sym, .int .i64 ns[i.toNat].val, .int .i64 ns[i.toNat].rule, .slice A3 ns[i.toNat].kids.length c3, .bool ns[i.toNat].leaf, .bool ns[i.toNat].taken][k]? = some u → w.cell? ⟨b', o' + i.toNat * 6 + k, none⟩ = some u := hcc'
    refine enter Try.func109 rfl Try.ntmps109 rfl ?_
    refine wk ?_
    refine Wop.ixI TT i.toNat rfl rfl rfl rfl rfl (by omega) (by omega) ?_
    refine wk ?_
    refine Wop.alloc (z := .agg #[.int .i64 0, .int .i64 0, .int .i64 0, .slice none 0 0, .bool false, .bool false]) Try.zeroValue123 (fun w1 e1 b1 z1 => ?_)
    refine wk ?_
    refine Wop.stB TT rfl rfl rfl (by simp [Value.oneCell']) b1 rfl (fun w2 g2 b2 z2 k2 => ?_)
    have E2 : Ext w w2 := Below.trans e1 (Below.mono g2 (by omega))
    have hin2 := hin.ext E2
    have hl2 := hl.ext E2
    have s2 := E2.size
    refine wk ?_
    rw [showN_eq g hd h0, hnx] at hlen ⊢
    have hnm : nd ns i = ns[i.toNat] := hnx
    refine W.cond rfl (fun q => ?_) (fun q => ?_)
    · rw [if_pos q] at hlen ⊢
      refine wk ?_
      refine Wop.fn en27 rfl (gName hin2.g _) ?_
      rintro _ w3 ⟨rfl, e3⟩
      have s3 := e3.size
      refine wk ?_
      refine Wop.fn en110 rfl (gWriteString (hl2.ext e3) _ (by simp at hlen; omega) (by omega)) ?_
      rintro v w4 ⟨h4, b4, o4⟩
      refine wk ?_
      exact Arr.ret0 rfl ⟨h4, Below.trans ((E2.trans e3).mono (by omega)) b4, (Oth.ext (E2.trans e3)).trans o4⟩
    · rw [if_neg (by simp [q])] at hlen ⊢
      have hsz : (g.name ns[i.toNat].sym).data.toList.length = (g.name ns[i.toNat].sym).size := by simp
      simp only [List.length_cons, List.length_append, hsz] at hlen
      refine wk ?_
      refine Wop.fn en27 rfl (gName hin2.g _) ?_
      rintro _ w3 ⟨rfl, e3⟩
      have s3 := e3.size
      have E3 := E2.trans e3
      refine wk ?_
      have h1s : (⟨#[40]⟩ : ByteArray).size = 1 := rfl
      refine Wop.cat rfl rfl (by omega) ?_
      refine wk ?_
      refine Wop.fn en110 rfl (gWriteString (hl2.ext e3) _ (by simp; omega) (by omega)) ?_
      rintro v w4 ⟨h4, b4, o4⟩
      have hcat : ((⟨#[40]⟩ : ByteArray) ++ g.name ns[i.toNat].sym).data.toList = 40 :: (g.name ns[i.toNat].sym).data.toList := by simp
      rw [hcat] at h4
      have hin4 := (hin.ext E3).go b4 o4 (by omega)
      have s4 := b4.size
      have B4 : Below B w w4 := Below.trans (E3.mono (by omega)) b4
      have O4 : Oth b w w4 := (Oth.ext E3).trans o4
      have hkm := hkids.2.1
      have hdk : ∀ x ∈ ns[i.toNat].kids, 0 ≤ x ∧ x < i := fun x hx => by
        have := hd i.toNat x (by rw [← nd_int h0, hnx]; exact hx)
        omega
      generalize ns[i.toNat].kids = kids at *
      have hk2 := g2.size
      -- the node's own box is as it was: its slot has been read
      have hb24 : Blk w4 w.heap.size #[.int .i64 ns[i.toNat].sym, .int .i64 ns[i.toNat].val, .int .i64 ns[i.toNat].rule, .slice A3 kids.length c3, .bool ns[i.toNat].leaf, .bool ns[i.toNat].taken] 123 := o4.blk (b2.ext e3) (by omega) (by decide)
      refine wk ?_
      refine W.midB (ι := Unit) (fun _ => [(2, .pointer (some ⟨b, 0, none⟩))]) (fun _ w' => Bldr B b (l ++ 40 :: (g.name ns[i.toNat].sym).data.toList ++ kids.flatMap (fun k => 32 :: showN g ns k)) w' ∧ B ≤ w'.heap.size ∧ Below B w w' ∧ Oth b w w') ?_ ?_
      · refine W.loop (ι := Nat) (fun j => [(1, .pointer (some ⟨bt, 0, none⟩)), (2, .pointer (some ⟨b, 0, none⟩)), (3, .pointer (some ⟨bg, 0, none⟩)), (4, .pointer (some ⟨bs, 0, none⟩)), (33, .slice A3 kids.length c3), (34, .int .i64 (kids.length : Int)), (35, .int .i64 (j : Int))])
          (fun j w' => Bldr B b (l ++ 40 :: (g.name ns[i.toNat].sym).data.toList ++ (kids.take j).flatMap (fun k => 32 :: showN g ns k)) w' ∧ ShowIn w' B b bt bg bs p (some ⟨b', o', none⟩) c ns g A0 A1 A2 c0 c1 c2 ∧ j ≤ kids.length ∧ B ≤ w'.heap.size ∧ Below B w w' ∧ Oth b w w') (fun j => kids.length - j) 0 has ⟨by simpa using h4, hin4, Nat.zero_le _, by omega, B4, O4⟩ ?_
        rintro j w5 ⟨hb5, hin5, hj, hB5, hBe, hOt⟩
        refine wk ?_
        refine W.test rfl (fun hlt => ?_) (fun hge => ?_)
        · have hlt : j < kids.length := by omega
          have kk : Keeps (fun k => k < B) w w5 := ⟨hBe.os, hBe.tape, hBe.output, hBe.size, fun k hk _ => hBe.block k hk⟩
          obtain ⟨bq, oq, rfl, es, ⟨rfl, hI⟩, hcc⟩ := (hkids.keep (by decide) kk (fun _ hk => hk)).at_ j hlt
          have hcell := hcc 0 _ rfl
          have hkj := hdk kids[j] (List.getElem_mem _)
          have hsum : kids.flatMap (fun k => 32 :: showN g ns k) = (kids.take j).flatMap (fun k => 32 :: showN g ns k) ++ (32 :: showN g ns kids[j] ++ (kids.drop (j + 1)).flatMap (fun k => 32 :: showN g ns k)) := by
            conv => lhs; rw [← List.take_append_drop j kids, List.flatMap_append, List.drop_eq_getElem_cons hlt, List.flatMap_cons]
          rw [hsum] at hlen
          simp only [List.length_cons, List.length_append] at hlen
          refine wk ?_
          refine Wop.fn en111 rfl (gWriteByte hb5 32 (by simp only [List.length_append, List.length_cons, hsz]; omega) hB5) ?_
          rintro v5 w6 ⟨h6, b6, o6⟩
          have hin6 := hin5.go b6 o6 hB5
          have hf6 := hin6.fn
          have s6 := b6.size
          refine wk ?_
          refine Wop.fnV (cap := [.pointer (some ⟨bt, 0, none⟩), .pointer (some ⟨b, 0, none⟩), .pointer (some ⟨bg, 0, none⟩), .pointer (some ⟨bs, 0, none⟩)]) en109 rfl rfl (ih kids[j] w6 _ hkj.1 (by omega) (by omega) hin6 h6 (by simp only [List.length_append, List.length_cons, List.length_nil, hsz]; omega)) ?_
          rintro v6 w7 ⟨h7, b7, o7⟩
          have hin7 := hin6.go b7 o7 (by omega)
          have s7 := b7.size
          refine wk ?_
          refine Arr.again (j + 1) has ⟨?_, hin7, hlt, by omega, (hBe.trans b6).trans b7, (hOt.trans o6).trans o7⟩ (by omega)
          rw [List.take_succ_eq_append_getElem hlt, List.flatMap_append, List.flatMap_cons, List.flatMap_nil]
          simpa using h7
        · refine wk ?_
          refine Arr.mid () has ⟨?_, hB5, hBe, hOt⟩
          rwa [List.take_of_length_le (by omega)] at hb5
      rintro _ w5 ⟨hb5, hB5, hBe, hOt⟩
      refine wk ?_
      refine Wop.fn en111 rfl (gWriteByte hb5 41 (by simp only [List.length_append, List.length_cons, hsz]; omega) hB5) ?_
      rintro v5 w6 ⟨h6, b6, o6⟩
      refine wk ?_
      exact Arr.end0 rfl ⟨by simpa using h6, hBe.trans b6, hOt.trans o6⟩
def showT (g : Gram) (ns : List Nd) (i : Int) : List UInt8 := if isIn ns i = true then showN g ns i else []
set_option maxRecDepth 20000 in
set_option maxHeartbeats 4000000 in
theorem gShowT (h : TreeAt w base p ns) (hn : ns.length ≤ 1000000000) (hd : Down ns) {i : Int} {g : Gram} {A0 A1 A2 : Option Addr} {c0 c1 c2 : Nat} (hg : GramAt S' w g A0 A1 A2 c0 c1 c2) (hlen : (showN g ns i).length ≤ 1099511627776) :
    Calls Try.prog 58 [.pointer (some ⟨p, 0, none⟩), .agg (gcells g A0 A1 A2 c0 c1 c2).toArray, .int .i64 i].toArray w (Ret fun v w' => v = .string ⟨(showT g ns i).toArray⟩ ∧ Ext w w') := by
  obtain ⟨A, c, hp, hc, hbp, hr⟩ := h.row hn
  have hplt := hp.lt
  refine enter Try.func58 rfl Try.ntmps58 rfl ?_
  refine wk ?_
  refine Wop.box rfl (fun w1 e1 b1 z1 => ?_)
  refine wk ?_
  refine Wop.box rfl (fun w2 e2 b2 z2 => ?_)
  have e12 := e1.trans e2
  refine wk ?_
  refine Wop.fn en101 rfl (gInB (hp.ext e12) i) ?_
  rintro _ w3 ⟨rfl, e3⟩
  have e13 := e12.trans e3
  have s1 := e1.size
  have s3 := e3.size
  refine wk ?_
  refine W.cond rfl (fun q => ?_) (fun q => ?_)
  · have q' : isIn ns i = false := by simpa using q
    refine wk ?_
    refine Arr.ret1 rfl rfl ⟨?_, e13⟩
    rw [showT, q']
    rfl
  · have q' : isIn ns i = true := by simpa using q
    have hi : 0 ≤ i ∧ i < ns.length := by simpa [isIn] using q'
    refine wk ?_
    refine Wop.alloc (z := .agg #[.pointer none, .slice none 0 0]) Try.zeroValue135 (fun w4 e4 b4 z4 => ?_)
    refine wk ?_
    refine Wop.alloc (z := .nilFunc) Try.zeroValue136 (fun w5 e5 b5 z5 => ?_)
    refine wk ?_
    refine Wop.stC TT rfl rfl rfl rfl b5 rfl (fun w6 g6 b6 z6 k6 => ?_)
    have e14 := e13.trans e4
    have e46 : Ext w4 w6 := Below.trans e5 g6
    have e36 := e4.trans e46
    have E6 := e13.trans e36
    have s4 := e4.size
    have s6 := E6.size
    have hin : ShowIn w6 w3.heap.size w3.heap.size w.heap.size w1.heap.size w4.heap.size p A c ns g A0 A1 A2 c0 c1 c2 :=
      ⟨(((b1.ext e2).ext e3).ext e36), ((b2.ext e3).ext e36), b6, hp.ext E6, ((hr.lt (by decide)).ext (by decide) E6).mono (fun k hk => by have := hk.2; omega), ⟨(hg.low.ext E6).terms.mono (fun k hk => by omega), (hg.low.ext E6).nons.mono (fun k hk => by omega), (hg.low.ext E6).rules.mono (fun k hk => by omega), hg.start, hg.cap0, hg.cap1, hg.cap2⟩, ⟨by omega, by omega, by omega⟩, by omega⟩
    have hbl : Bldr w3.heap.size w3.heap.size [] w6 := (Bldr.new b4).ext e46
    refine wk ?_
    refine Wop.fnV (cap := [.pointer (some ⟨w.heap.size, 0, none⟩), .pointer (some ⟨w3.heap.size, 0, none⟩), .pointer (some ⟨w1.heap.size, 0, none⟩), .pointer (some ⟨w4.heap.size, 0, none⟩)]) en109 rfl rfl (gShow1 hd (i.toNat + 1) i w6 [] hi.1 (by omega) hi.2 hin hbl (by simpa using hlen)) ?_
    rintro v w7 ⟨h7, b7, o7⟩
    have s7 := b7.size
    refine wk ?_
    refine Wop.fn en112 rfl (gString h7 (by omega)) ?_
    rintro _ w8 ⟨rfl, h8, b8, o8⟩
    refine wk ?_
    refine Arr.ret1 rfl rfl ⟨?_, Below.trans (Below.trans E6 (b7.mono (by omega))) (b8.mono (by omega))⟩
    rw [showT, if_pos q']
    rfl
end Go.Proofs.Ytbadjlhijbkbbaa

/-
  No tree: what each function answers.
-/
set_option linter.unusedVariables false
namespace Go.Proofs.Ytbadjlhijbkbbaa
open Go Go.RowKit Sx Arena
variable {S S' : Nat → Prop} {w w0 w' : World} {A : Option Addr} {n c : Nat}
theorem gInN (i : Int) : Calls Try.prog 101 [.pointer none, .int .i64 i].toArray w (Ret fun v w' => v = .bool false ∧ Ext w w') := by
  refine enter Try.func101 rfl Try.ntmps101 rfl ?_
  refine wk ?_
  refine Wl.part rfl rfl rfl (fun q => ?_) (fun q => ?_)
  · refine wk ?_
    refine Wop.fn en55 rfl gLenN ?_
    rintro _ w1 ⟨rfl, e1⟩
    refine wk ?_
    exact Arr.ret1 rfl rfl ⟨by rw [decide_eq_false (by omega)], e1⟩
  · refine wk ?_
    exact Arr.ret1 rfl rfl ⟨rfl, Ext.refl _⟩
theorem gLeafN (sym val : Int) : Calls Try.prog 49 [.pointer none, .int .i64 sym, .int .i64 val].toArray w (Ret fun v w' => v = .int .i64 (-1) ∧ Ext w w') := by
  refine enter Try.func49 rfl Try.ntmps49 rfl ?_
  refine wk ?_
  refine Wop.ptrNil Try.underlying56 rfl ?_
  refine wk ?_
  exact Arr.ret1 rfl rfl ⟨rfl, Ext.refl _⟩
theorem gJoinN (sym rule : Int) (v : Value) : Calls Try.prog 50 [.pointer none, .int .i64 sym, .int .i64 rule, v].toArray w (Ret fun v w' => v = .int .i64 (-1) ∧ Ext w w') := by
  refine enter Try.func50 rfl Try.ntmps50 rfl ?_
  refine wk ?_
  refine Wop.ptrNil Try.underlying56 rfl ?_
  refine wk ?_
  exact Arr.ret1 rfl rfl ⟨rfl, Ext.refl _⟩
theorem gTwinN : Calls Try.prog 59 [.pointer none].toArray w (Ret fun v w' => v = .pointer none ∧ Ext w w') := by
  refine enter Try.func59 rfl Try.ntmps59 rfl ?_
  refine wk ?_
  refine Wop.ptrNil Try.underlying56 rfl ?_
  refine wk ?_
  exact Arr.ret1 rfl rfl ⟨rfl, Ext.refl _⟩
theorem gNodeN (i : Int) : Calls Try.prog 54 [.pointer none, .int .i64 i].toArray w (Ret fun v w' => v = .tuple #[.agg #[.int .i64 0, .int .i64 0, .int .i64 0, .slice none 0 0], .bool false] ∧ Ext w w') := by
  refine enter Try.func54 rfl Try.ntmps54 rfl ?_
  refine wk ?_
  refine Wop.alloc (z := .agg #[.int .i64 0, .int .i64 0, .int .i64 0, .slice none 0 0]) Try.zeroValue66 (fun w1 e1 b1 z1 => ?_)
  refine wk ?_
  refine Wop.fn en101 rfl (gInN i) ?_
  rintro _ w2 ⟨rfl, e2⟩
  refine wk ?_
  refine Wop.make (cs := #[.int .i64 0, .int .i64 0, .int .i64 0, .slice none 0 0]) pl66 rfl rfl ?_
  refine wk ?_
  refine Wop.stB TT rfl rfl rfl (by simp [Value.oneCell']) (b1.ext e2) rfl (fun w3 g3 b3 z3 k3 => ?_)
  refine wk ?_
  exact Arr.retCT TT rfl rfl b3 rfl rfl rfl ⟨rfl, Below.trans (e1.trans e2) g3⟩
theorem gUnderN (i : Int) : Calls Try.prog 107 [.pointer none, .int .i64 i].toArray w (Ret fun v w' => v = .func (.func 143) #[] #[.pointer (some ⟨w.heap.size + 1, 0, none⟩), .pointer (some ⟨w.heap.size, 0, none⟩)] ∧ Blk w' w.heap.size #[.pointer none] 56 ∧ Blk w' (w.heap.size + 1) #[.int .i64 i] 3 ∧ Ext w w') := by
  refine enter Try.func107 rfl Try.ntmps107 rfl ?_
  refine wk ?_
  refine Wop.box rfl (fun w1 e1 b1 z1 => ?_)
  refine wk ?_
  refine Wop.box rfl (fun w2 e2 b2 z2 => ?_)
  rw [z1] at b2 ⊢
  refine wk ?_
  exact Arr.ret1 rfl rfl ⟨rfl, b1.ext e2, b2, e1.trans e2⟩
set_option maxRecDepth 20000 in
set_option maxHeartbeats 2000000 in
theorem under_iterN {bt bi : Nat} {i : Int} (hbt : Blk w0 bt #[.pointer none] 56) (hbi : Blk w0 bi #[.int .i64 i] 3) :
    Iter Try.prog 143 #[.pointer (some ⟨bi, 0, none⟩), .pointer (some ⟨bt, 0, none⟩)] (fun x : Int => #[.int .i64 x]) [] (fun k => k = bt ∨ k = bi) w0 := by
  intro l J Jx W hk hJ hJx hY h0
  have hbtW := hk.blk hbt (.inl rfl)
  have hbiW := hk.blk hbi (.inr rfl)
  have hargs : (#[.func (.yield l) #[] #[]] ++ #[.pointer (some ⟨bi, 0, none⟩), .pointer (some ⟨bt, 0, none⟩)] : Array Value) = [Value.func (.yield l) #[] #[], Value.pointer (some ⟨bi, 0, none⟩), Value.pointer (some ⟨bt, 0, none⟩)].toArray := by simp
  rw [hargs]
  refine enterM Try.func143 rfl Try.ntmps143 rfl ?_
  refine WM.seq ?_
  refine wm ?_
  refine Wop.litI rfl (fun w1 e1 b1 z1 => ?_)
  refine wm ?_
  refine Wop.alloc (z := .slice none 0 0) Try.zeroValue28 (fun w2 e2 b2 z2 => ?_)
  refine wm ?_
  refine Wop.stC TT rfl rfl rfl rfl b2 rfl (fun w3 g3 b3 z3 k3 => ?_)
  have s1 := e1.size
  have s2 := e2.size
  have E3 : Ext W w3 := Below.trans (e1.trans e2) (Below.mono g3 (by omega))
  refine wm ?_
  refine Wop.fn en101 rfl (gInN i) ?_
  rintro _ w4 ⟨rfl, e4⟩
  have E4 := E3.trans e4
  refine wm ?_
  refine Wop.stC TT rfl rfl rfl rfl (b3.ext e4) rfl (fun w5 g5 b5 z5 k5 => ?_)
  have E5 : Ext W w5 := Below.trans E4 (Below.mono g5 (by omega))
  refine wm ?_
  refine WM.loop (ι := Unit) (fun _ => [(4, .pointer (some ⟨w1.heap.size, 0, none⟩))]) (fun _ => []) (fun _ A' => A' = w5) (fun _ => 0) () has rfl ?_
  rintro _ _ rfl
  refine wm ?_
  refine leaveEnd (bs := []) rfl (by simp) List.nodup_nil (fun w' hk' => .inl ⟨fun _ => False, hJ _ _ _ _ h0 ((Ext.keeps E5).trans (hk'.mono (fun k hk => by simp)))⟩) .normal (.inl rfl)
set_option maxRecDepth 20000 in
set_option maxHeartbeats 2000000 in
theorem gGatherN (i : Int) {gf : Nat} : Calls Try.prog 104 [.pointer none, .int .i64 i, .func (.func gf) #[] #[]].toArray w (Ret fun v w' => v = .slice none 0 0 ∧ Ext w w') := by
  refine enterM Try.func104 rfl Try.ntmps104 rfl ?_
  refine wm ?_
  refine Wop.box rfl (fun w1 e1 b1 z1 => ?_)
  refine wm ?_
  refine Wop.box rfl (fun w2 e2 b2 z2 => ?_)
  refine wm ?_
  refine Wop.alloc (z := .slice none 0 0) Try.zeroValue28 (fun w3 e3 b3 z3 => ?_)
  have e23 := e2.trans e3
  have e13 := e1.trans e23
  have s1 := e1.size
  have s2 := e2.size
  have s3 := e3.size
  refine wm ?_
  refine Wop.fn en107 rfl (gUnderN i) ?_
  rintro _ w4 ⟨rfl, h1, h2, e4⟩
  have e14 := e13.trans e4
  have s4 := e4.size
  have l1 := h1.lt
  have l2 := h2.lt
  refine wm ?_
  refine WM.range (encs := fun x : Int => #[.int .i64 x]) (xs := []) (T := fun k => k = w3.heap.size ∨ k = w3.heap.size + 1) (w0 := w4) rfl en143 (under_iterN h1 h2) (fun k hk => by omega) (Keeps.refl _ _) (fun _ => rfl) ?_
    (fun _ _ A => Keeps (fun k => k < w4.heap.size) w4 A) (fun _ _ _ => False) ?_ (fun _ _ _ _ h _ => h) (Keeps.refl _ _) (fun x => [(8, .int .i64 x)]) ?_ ?_ ?_ (fun _ _ _ _ h => h.elim)
  · simp
  · intro pre S A B g1 hK
    exact g1.trans (hK.mono (fun k hk => .inl hk))
  · intro l2 x A2
    have hz : ((#[12] : Array Nat).zip #[Value.int .i64 x]).toList = [(12, .int .i64 x)] := by simp
    rw [hz]
    refine wm ?_
    refine ArrM.bound ?_
    exact has
  · intro l2 pre x S A1 g1 hpx
    have := hpx.length_le
    simp at this
  · intro S A1 g1 hop hlt
    have hb7 := g1.blk (b3.ext e4) (show w2.heap.size < w4.heap.size by omega)
    refine wm ?_
    refine leaveRet (bs := [w4.heap.size]) rfl rfl (by simpa using hop) (by simp) (fun w' hk => ⟨rfl, ?_⟩)
    exact Below.trans (Below.trans e14 (Keeps.below g1 (by omega) (fun k hk => by omega))) (Keeps.below hk (by have := g1.size; omega) (fun k hk => by simp; omega))
theorem gLeavesN (i : Int) : Calls Try.prog 52 [.pointer none, .int .i64 i].toArray w (Ret fun v w' => v = .slice none 0 0 ∧ Ext w w') := by
  refine enter Try.func52 rfl Try.ntmps52 rfl ?_
  refine wk ?_
  refine Wop.fn en104 rfl (gGatherN i) ?_
  rintro v w1 ⟨rfl, e1⟩
  refine wk ?_
  exact Arr.ret1 rfl rfl ⟨rfl, e1⟩
theorem gYieldN (i : Int) : Calls Try.prog 56 [.pointer none, .int .i64 i].toArray w (Ret fun v w' => v = .slice none 0 0 ∧ Ext w w') := by
  refine enter Try.func56 rfl Try.ntmps56 rfl ?_
  refine wk ?_
  refine Wop.fn en104 rfl (gGatherN i) ?_
  rintro v w1 ⟨rfl, e1⟩
  refine wk ?_
  exact Arr.ret1 rfl rfl ⟨rfl, e1⟩
set_option maxHeartbeats 2000000 in
theorem gCheckTN (i : Int) (g : Array Value) : Calls Try.prog 57 [.pointer none, .agg g, .int .i64 i].toArray w (Ret fun v w' => v = .bool false ∧ Ext w w') := by
  refine enterM Try.func57 rfl Try.ntmps57 rfl ?_
  refine wm ?_
  refine Wop.box rfl (fun w1 e1 b1 z1 => ?_)
  refine wm ?_
  refine Wop.box rfl (fun w2 e2 b2 z2 => ?_)
  refine wm ?_
  refine Wop.alloc (z := .bool false) Try.zeroValue4 (fun w3 e3 b3 z3 => ?_)
  have e23 := e2.trans e3
  have e13 := e1.trans e23
  have s1 := e1.size
  have s2 := e2.size
  have s3 := e3.size
  refine wm ?_
  refine Wop.fn en101 rfl (gInN i) ?_
  rintro _ w4 ⟨rfl, e4⟩
  have e14 := e13.trans e4
  refine wm ?_
  refine Wop.stC TT rfl rfl rfl rfl (b3.ext e4) rfl (fun w5 g5 b5 z5 k5 => ?_)
  refine wm ?_
  refine leaveCell TT (bs := []) rfl rfl rfl (by simp) List.nodup_nil (fun w' hk => ⟨_, _, hk.blk b5 (by simp), rfl, rfl, ?_⟩) (.inl rfl)
  exact Below.trans (Below.trans e14 (g5.mono (by omega))) (Keeps.below hk (by have := e14.size; omega) (fun k hk => by simp))
theorem gShowTN (i : Int) (g : Array Value) : Calls Try.prog 58 [.pointer none, .agg g, .int .i64 i].toArray w (Ret fun v w' => v = .string ⟨#[]⟩ ∧ Ext w w') := by
  refine enter Try.func58 rfl Try.ntmps58 rfl ?_
  refine wk ?_
  refine Wop.box rfl (fun w1 e1 b1 z1 => ?_)
  refine wk ?_
  refine Wop.box rfl (fun w2 e2 b2 z2 => ?_)
  have e12 := e1.trans e2
  refine wk ?_
  refine Wop.fn en101 rfl (gInN i) ?_
  rintro _ w3 ⟨rfl, e3⟩
  refine wk ?_
  exact Arr.ret1 rfl rfl ⟨rfl, e12.trans e3⟩
end Go.Proofs.Ytbadjlhijbkbbaa
