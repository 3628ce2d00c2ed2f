/-
  No cell of these rows narrows 'for every input' (looked for: loops, veiled, ifaces, maps, wideKeys, modest, calm, conditions, laid).
  DERIVED. THE GIVEN ROWS OF THIS SEAT. 11 by the template 'for every input the law returns true; each argument reads behind the call as it read before'; 0 by the template 'total and deterministic' (their statements: YtbadjlhijbkbbaaTotals.lean).
  GIVEN WITH THE SEED: the statements are not yours to turn. If you find one false, say at which input.
  Laid BY PROGRAM, IN A SANDBOX (cutbox-rows.mjs): the forced cells as the released guide's own fill.sh prints them over the translation b9220351e336154c… (all of the seat's roots in one cut). By AI agents, Wed Nov 11 2026. No macro, syntax, notation, axiom, sorry.
-/
import Derived.Test.YtbadjlhijbkbbaaChecked
import GoSem.Claim
import GoSem.ClaimJoined
import GoSem.ClaimMapViews
import Derived.JoinedTies
import Derived.KernelRfl
namespace Go.Proofs.Ytbadjlhijbkbbaa
/- THE CELL 'sum', in the pinned program and in every row, IS THE sha256 OF THE DUMP (.gsa) THAT YtbadjlhijbkbbaaProg.lean LOADS. Nothing in Lean hashes anything: it is a label: what it is worth is what the hold of that sum in a sandbox is worth. -/
noncomputable def Try.pinned : Pinned := { name := "ytbadjlhijbkbbaa", sum := "b9220351e336154c292ffefbad35f86bd02f1be29af2b184b1277ad461f03107", checked := Try.checked }
namespace Rows
def none {H : Type} : Left H := { results := [], args := [] }

/-- 'conchlaw06.GramChecks': WHATEVER THE INPUT: true; the input reads as it did. -/
def gramChecksSpec : ChangeSpec := { name := "gramChecks", fn := fun _ => fun
  | [d1, d2, d3, d4] => { results := [.lit (.bool true)], args := [d1, d2, d3, d4] }
  | _ => none }
def gramChecksRow : OpenClaim := { program := "ytbadjlhijbkbbaa", sum := "b9220351e336154c292ffefbad35f86bd02f1be29af2b184b1277ad461f03107", func := "conch/conchlaw06.GramChecks", spec := "gramChecks", unfollowed := true, recurses := true, plainKeys := false, apart := false }
def GramChecksSaid : Prop := gramChecksRow.holds Try.pinned (OpenSpec.ofChange gramChecksSpec)

/-- ITS FALSE NEIGHBOUR: 'it returns false'. Refute it at one input. -/
def gramChecksWrong : ChangeSpec := { name := "gramChecks", fn := fun _ => fun
  | [d1, d2, d3, d4] => { results := [.lit (.bool false)], args := [d1, d2, d3, d4] }
  | _ => none }
def GramChecksWrongFalsely : Prop := gramChecksRow.holds Try.pinned (OpenSpec.ofChange gramChecksWrong)

/-- 'conchlaw06.GramNames': WHATEVER THE INPUT: true; the input reads as it did. -/
def gramNamesSpec : ChangeSpec := { name := "gramNames", fn := fun _ => fun
  | [d] => { results := [.lit (.bool true)], args := [d] }
  | _ => none }
def gramNamesRow : OpenClaim := { program := "ytbadjlhijbkbbaa", sum := "b9220351e336154c292ffefbad35f86bd02f1be29af2b184b1277ad461f03107", func := "conch/conchlaw06.GramNames", spec := "gramNames", unfollowed := true, recurses := true, plainKeys := false, apart := false }
def GramNamesSaid : Prop := gramNamesRow.holds Try.pinned (OpenSpec.ofChange gramNamesSpec)

/-- ITS FALSE NEIGHBOUR: 'it returns false'. Refute it at one input. -/
def gramNamesWrong : ChangeSpec := { name := "gramNames", fn := fun _ => fun
  | [d] => { results := [.lit (.bool false)], args := [d] }
  | _ => none }
def GramNamesWrongFalsely : Prop := gramNamesRow.holds Try.pinned (OpenSpec.ofChange gramNamesWrong)

/-- 'conchlaw06.GramSame': WHATEVER THE INPUT: true; the input reads as it did. -/
def gramSameSpec : ChangeSpec := { name := "gramSame", fn := fun _ => fun
  | [d1, d2] => { results := [.lit (.bool true)], args := [d1, d2] }
  | _ => none }
def gramSameRow : OpenClaim := { program := "ytbadjlhijbkbbaa", sum := "b9220351e336154c292ffefbad35f86bd02f1be29af2b184b1277ad461f03107", func := "conch/conchlaw06.GramSame", spec := "gramSame", unfollowed := true, recurses := true, plainKeys := false, apart := false }
def GramSameSaid : Prop := gramSameRow.holds Try.pinned (OpenSpec.ofChange gramSameSpec)

/-- ITS FALSE NEIGHBOUR: 'it returns false'. Refute it at one input. -/
def gramSameWrong : ChangeSpec := { name := "gramSame", fn := fun _ => fun
  | [d1, d2] => { results := [.lit (.bool false)], args := [d1, d2] }
  | _ => none }
def GramSameWrongFalsely : Prop := gramSameRow.holds Try.pinned (OpenSpec.ofChange gramSameWrong)

/-- 'conchlaw10.LeastTells': WHATEVER THE INPUT: true; the input reads as it did. -/
def leastTellsSpec : ChangeSpec := { name := "leastTells", fn := fun _ => fun
  | [d1, d2] => { results := [.lit (.bool true)], args := [d1, d2] }
  | _ => none }
def leastTellsRow : OpenClaim := { program := "ytbadjlhijbkbbaa", sum := "b9220351e336154c292ffefbad35f86bd02f1be29af2b184b1277ad461f03107", func := "conch/conchlaw10.LeastTells", spec := "leastTells", unfollowed := true, recurses := true, plainKeys := false, apart := false }
def LeastTellsSaid : Prop := leastTellsRow.holds Try.pinned (OpenSpec.ofChange leastTellsSpec)

/-- ITS FALSE NEIGHBOUR: 'it returns false'. Refute it at one input. -/
def leastTellsWrong : ChangeSpec := { name := "leastTells", fn := fun _ => fun
  | [d1, d2] => { results := [.lit (.bool false)], args := [d1, d2] }
  | _ => none }
def LeastTellsWrongFalsely : Prop := leastTellsRow.holds Try.pinned (OpenSpec.ofChange leastTellsWrong)

/-- 'conchlaw10.LeastRules': WHATEVER THE INPUT: true; the input reads as it did. -/
def leastRulesSpec : ChangeSpec := { name := "leastRules", fn := fun _ => fun
  | [d] => { results := [.lit (.bool true)], args := [d] }
  | _ => none }
def leastRulesRow : OpenClaim := { program := "ytbadjlhijbkbbaa", sum := "b9220351e336154c292ffefbad35f86bd02f1be29af2b184b1277ad461f03107", func := "conch/conchlaw10.LeastRules", spec := "leastRules", unfollowed := true, recurses := true, plainKeys := false, apart := false }
def LeastRulesSaid : Prop := leastRulesRow.holds Try.pinned (OpenSpec.ofChange leastRulesSpec)

/-- ITS FALSE NEIGHBOUR: 'it returns false'. Refute it at one input. -/
def leastRulesWrong : ChangeSpec := { name := "leastRules", fn := fun _ => fun
  | [d] => { results := [.lit (.bool false)], args := [d] }
  | _ => none }
def LeastRulesWrongFalsely : Prop := leastRulesRow.holds Try.pinned (OpenSpec.ofChange leastRulesWrong)

/-- 'conchlaw10.LeastLong': WHATEVER THE INPUT: true; the input reads as it did. -/
def leastLongSpec : ChangeSpec := { name := "leastLong", fn := fun _ => fun
  | [d1, d2] => { results := [.lit (.bool true)], args := [d1, d2] }
  | _ => none }
def leastLongRow : OpenClaim := { program := "ytbadjlhijbkbbaa", sum := "b9220351e336154c292ffefbad35f86bd02f1be29af2b184b1277ad461f03107", func := "conch/conchlaw10.LeastLong", spec := "leastLong", unfollowed := true, recurses := true, plainKeys := false, apart := false }
def LeastLongSaid : Prop := leastLongRow.holds Try.pinned (OpenSpec.ofChange leastLongSpec)

/-- ITS FALSE NEIGHBOUR: 'it returns false'. Refute it at one input. -/
def leastLongWrong : ChangeSpec := { name := "leastLong", fn := fun _ => fun
  | [d1, d2] => { results := [.lit (.bool false)], args := [d1, d2] }
  | _ => none }
def LeastLongWrongFalsely : Prop := leastLongRow.holds Try.pinned (OpenSpec.ofChange leastLongWrong)

/-- 'conchlaw19.ArenaRoots': WHATEVER THE INPUT: true; the input reads as it did. -/
def arenaRootsSpec : ChangeSpec := { name := "arenaRoots", fn := fun _ => fun
  | [d] => { results := [.lit (.bool true)], args := [d] }
  | _ => none }
def arenaRootsRow : OpenClaim := { program := "ytbadjlhijbkbbaa", sum := "b9220351e336154c292ffefbad35f86bd02f1be29af2b184b1277ad461f03107", func := "conch/conchlaw19.ArenaRoots", spec := "arenaRoots", inPlace := ["internal/abi.NoEscape"], unfollowed := true, recurses := true, plainKeys := false, apart := false }
def ArenaRootsSaid : Prop := arenaRootsRow.holds Try.pinned (OpenSpec.ofChange arenaRootsSpec)

/-- ITS FALSE NEIGHBOUR: 'it returns false'. Refute it at one input. -/
def arenaRootsWrong : ChangeSpec := { name := "arenaRoots", fn := fun _ => fun
  | [d] => { results := [.lit (.bool false)], args := [d] }
  | _ => none }
def ArenaRootsWrongFalsely : Prop := arenaRootsRow.holds Try.pinned (OpenSpec.ofChange arenaRootsWrong)

/-- 'conchlaw19.ArenaNone': WHATEVER THE INPUT: true; the input reads as it did. -/
def arenaNoneSpec : ChangeSpec := { name := "arenaNone", fn := fun _ => fun
  | [d1, d2] => { results := [.lit (.bool true)], args := [d1, d2] }
  | _ => none }
def arenaNoneRow : OpenClaim := { program := "ytbadjlhijbkbbaa", sum := "b9220351e336154c292ffefbad35f86bd02f1be29af2b184b1277ad461f03107", func := "conch/conchlaw19.ArenaNone", spec := "arenaNone", inPlace := ["internal/abi.NoEscape"], unfollowed := true, recurses := true, plainKeys := false, apart := false }
def ArenaNoneSaid : Prop := arenaNoneRow.holds Try.pinned (OpenSpec.ofChange arenaNoneSpec)

/-- ITS FALSE NEIGHBOUR: 'it returns false'. Refute it at one input. -/
def arenaNoneWrong : ChangeSpec := { name := "arenaNone", fn := fun _ => fun
  | [d1, d2] => { results := [.lit (.bool false)], args := [d1, d2] }
  | _ => none }
def ArenaNoneWrongFalsely : Prop := arenaNoneRow.holds Try.pinned (OpenSpec.ofChange arenaNoneWrong)

/-- 'conchlaw13.AutoFinds': WHATEVER THE INPUT: true; the input reads as it did. -/
def autoFindsSpec : ChangeSpec := { name := "autoFinds", fn := fun _ => fun
  | [d1, d2, d3, d4, d5] => { results := [.lit (.bool true)], args := [d1, d2, d3, d4, d5] }
  | _ => none }
def autoFindsRow : OpenClaim := { program := "ytbadjlhijbkbbaa", sum := "b9220351e336154c292ffefbad35f86bd02f1be29af2b184b1277ad461f03107", func := "conch/conchlaw13.AutoFinds", spec := "autoFinds", inPlace := ["internal/abi.NoEscape"], unfollowed := true, recurses := true, plainKeys := false, apart := false }
def AutoFindsSaid : Prop := autoFindsRow.holds Try.pinned (OpenSpec.ofChange autoFindsSpec)

/-- ITS FALSE NEIGHBOUR: 'it returns false'. Refute it at one input. -/
def autoFindsWrong : ChangeSpec := { name := "autoFinds", fn := fun _ => fun
  | [d1, d2, d3, d4, d5] => { results := [.lit (.bool false)], args := [d1, d2, d3, d4, d5] }
  | _ => none }
def AutoFindsWrongFalsely : Prop := autoFindsRow.holds Try.pinned (OpenSpec.ofChange autoFindsWrong)

/-- 'conchlaw13.AutoEntered': WHATEVER THE INPUT: true; the input reads as it did. -/
def autoEnteredSpec : ChangeSpec := { name := "autoEntered", fn := fun _ => fun
  | [d] => { results := [.lit (.bool true)], args := [d] }
  | _ => none }
def autoEnteredRow : OpenClaim := { program := "ytbadjlhijbkbbaa", sum := "b9220351e336154c292ffefbad35f86bd02f1be29af2b184b1277ad461f03107", func := "conch/conchlaw13.AutoEntered", spec := "autoEntered", inPlace := ["internal/abi.NoEscape"], unfollowed := true, recurses := true, plainKeys := false, apart := false }
def AutoEnteredSaid : Prop := autoEnteredRow.holds Try.pinned (OpenSpec.ofChange autoEnteredSpec)

/-- ITS FALSE NEIGHBOUR: 'it returns false'. Refute it at one input. -/
def autoEnteredWrong : ChangeSpec := { name := "autoEntered", fn := fun _ => fun
  | [d] => { results := [.lit (.bool false)], args := [d] }
  | _ => none }
def AutoEnteredWrongFalsely : Prop := autoEnteredRow.holds Try.pinned (OpenSpec.ofChange autoEnteredWrong)

/-- 'conchlaw13.AutoSpells': WHATEVER THE INPUT: true; the input reads as it did. -/
def autoSpellsSpec : ChangeSpec := { name := "autoSpells", fn := fun _ => fun
  | [d] => { results := [.lit (.bool true)], args := [d] }
  | _ => none }
def autoSpellsRow : OpenClaim := { program := "ytbadjlhijbkbbaa", sum := "b9220351e336154c292ffefbad35f86bd02f1be29af2b184b1277ad461f03107", func := "conch/conchlaw13.AutoSpells", spec := "autoSpells", inPlace := ["internal/abi.NoEscape"], unfollowed := true, recurses := true, plainKeys := false, apart := false }
def AutoSpellsSaid : Prop := autoSpellsRow.holds Try.pinned (OpenSpec.ofChange autoSpellsSpec)

/-- ITS FALSE NEIGHBOUR: 'it returns false'. Refute it at one input. -/
def autoSpellsWrong : ChangeSpec := { name := "autoSpells", fn := fun _ => fun
  | [d] => { results := [.lit (.bool false)], args := [d] }
  | _ => none }
def AutoSpellsWrongFalsely : Prop := autoSpellsRow.holds Try.pinned (OpenSpec.ofChange autoSpellsWrong)

/- THE SECOND FORM. 'bulk': how many values and letters a reading holds, each counted each time it is reached (what is shared counts as often as it is met; a slice's spare places count too). A statement '..UptoSaid' is the law's where the arguments, and the package variables that the reading takes, are together of bulk at most 1048576: NARROWER than '..Said'. Prove '..Said' where nothing that the law and all that it calls make is longer than what came in: it says more and counts as full. Else prove '..UptoSaid'. A law counts once. -/
mutual
def uptoBulk {H : Type} : DataW H → Nat
  | .lit (.string bytes) => bytes.length + 1
  | .lit _ => 1
  | .nil => 1
  | .ptr d => uptoBulk d + 1
  | .slice elems spare => uptoBulkAll elems + uptoBulkAll spare + 1
  | .agg parts => uptoBulkAll parts + 1
  | .iface _ d => uptoBulk d + 1
  | .map entries => uptoBulkEntries entries + 1
  | .held _ => 1
def uptoBulkAll {H : Type} : List (DataW H) → Nat
  | [] => 0
  | d :: r => uptoBulk d + uptoBulkAll r
def uptoBulkEntries {H : Type} : List (Lit × DataW H) → Nat
  | [] => 0
  | x :: r => uptoBulkEntry x + uptoBulkEntries r
def uptoBulkEntry {H : Type} : Lit × DataW H → Nat
  | (.string bytes, d) => bytes.length + uptoBulk d + 1
  | (_, d) => uptoBulk d + 1
 end
def uptoSmall : (H : Type) → List (DataW H) → Bool := fun _ ds => decide (uptoBulkAll ds ≤ 1048576)
def OpenSpec.upto (s : _root_.Go.ChangeSpec) : _root_.Go.OpenSpec := { _root_.Go.OpenSpec.ofChange s with cond := some uptoSmall }

/-- 'conchlaw06.GramChecks', WHERE WHAT IT READS IS OF BULK AT MOST 1048576: true; the input reads as it did. -/
def gramChecksUptoRow : OpenClaim := { program := "ytbadjlhijbkbbaa", sum := "b9220351e336154c292ffefbad35f86bd02f1be29af2b184b1277ad461f03107", func := "conch/conchlaw06.GramChecks", spec := "gramChecks", unfollowed := true, recurses := true, plainKeys := false, apart := false, narrowed := true }
def GramChecksUptoSaid : Prop := gramChecksUptoRow.holds Try.pinned (OpenSpec.upto gramChecksSpec)

/-- 'conchlaw06.GramNames', WHERE WHAT IT READS IS OF BULK AT MOST 1048576: true; the input reads as it did. -/
def gramNamesUptoRow : OpenClaim := { program := "ytbadjlhijbkbbaa", sum := "b9220351e336154c292ffefbad35f86bd02f1be29af2b184b1277ad461f03107", func := "conch/conchlaw06.GramNames", spec := "gramNames", unfollowed := true, recurses := true, plainKeys := false, apart := false, narrowed := true }
def GramNamesUptoSaid : Prop := gramNamesUptoRow.holds Try.pinned (OpenSpec.upto gramNamesSpec)

/-- 'conchlaw06.GramSame', WHERE WHAT IT READS IS OF BULK AT MOST 1048576: true; the input reads as it did. -/
def gramSameUptoRow : OpenClaim := { program := "ytbadjlhijbkbbaa", sum := "b9220351e336154c292ffefbad35f86bd02f1be29af2b184b1277ad461f03107", func := "conch/conchlaw06.GramSame", spec := "gramSame", unfollowed := true, recurses := true, plainKeys := false, apart := false, narrowed := true }
def GramSameUptoSaid : Prop := gramSameUptoRow.holds Try.pinned (OpenSpec.upto gramSameSpec)

/-- 'conchlaw10.LeastTells', WHERE WHAT IT READS IS OF BULK AT MOST 1048576: true; the input reads as it did. -/
def leastTellsUptoRow : OpenClaim := { program := "ytbadjlhijbkbbaa", sum := "b9220351e336154c292ffefbad35f86bd02f1be29af2b184b1277ad461f03107", func := "conch/conchlaw10.LeastTells", spec := "leastTells", unfollowed := true, recurses := true, plainKeys := false, apart := false, narrowed := true }
def LeastTellsUptoSaid : Prop := leastTellsUptoRow.holds Try.pinned (OpenSpec.upto leastTellsSpec)

/-- 'conchlaw10.LeastRules', WHERE WHAT IT READS IS OF BULK AT MOST 1048576: true; the input reads as it did. -/
def leastRulesUptoRow : OpenClaim := { program := "ytbadjlhijbkbbaa", sum := "b9220351e336154c292ffefbad35f86bd02f1be29af2b184b1277ad461f03107", func := "conch/conchlaw10.LeastRules", spec := "leastRules", unfollowed := true, recurses := true, plainKeys := false, apart := false, narrowed := true }
def LeastRulesUptoSaid : Prop := leastRulesUptoRow.holds Try.pinned (OpenSpec.upto leastRulesSpec)

/-- 'conchlaw10.LeastLong', WHERE WHAT IT READS IS OF BULK AT MOST 1048576: true; the input reads as it did. -/
def leastLongUptoRow : OpenClaim := { program := "ytbadjlhijbkbbaa", sum := "b9220351e336154c292ffefbad35f86bd02f1be29af2b184b1277ad461f03107", func := "conch/conchlaw10.LeastLong", spec := "leastLong", unfollowed := true, recurses := true, plainKeys := false, apart := false, narrowed := true }
def LeastLongUptoSaid : Prop := leastLongUptoRow.holds Try.pinned (OpenSpec.upto leastLongSpec)

/-- 'conchlaw19.ArenaRoots', WHERE WHAT IT READS IS OF BULK AT MOST 1048576: true; the input reads as it did. -/
def arenaRootsUptoRow : OpenClaim := { program := "ytbadjlhijbkbbaa", sum := "b9220351e336154c292ffefbad35f86bd02f1be29af2b184b1277ad461f03107", func := "conch/conchlaw19.ArenaRoots", spec := "arenaRoots", inPlace := ["internal/abi.NoEscape"], unfollowed := true, recurses := true, plainKeys := false, apart := false, narrowed := true }
def ArenaRootsUptoSaid : Prop := arenaRootsUptoRow.holds Try.pinned (OpenSpec.upto arenaRootsSpec)

/-- 'conchlaw19.ArenaNone', WHERE WHAT IT READS IS OF BULK AT MOST 1048576: true; the input reads as it did. -/
def arenaNoneUptoRow : OpenClaim := { program := "ytbadjlhijbkbbaa", sum := "b9220351e336154c292ffefbad35f86bd02f1be29af2b184b1277ad461f03107", func := "conch/conchlaw19.ArenaNone", spec := "arenaNone", inPlace := ["internal/abi.NoEscape"], unfollowed := true, recurses := true, plainKeys := false, apart := false, narrowed := true }
def ArenaNoneUptoSaid : Prop := arenaNoneUptoRow.holds Try.pinned (OpenSpec.upto arenaNoneSpec)

/-- 'conchlaw13.AutoFinds', WHERE WHAT IT READS IS OF BULK AT MOST 1048576: true; the input reads as it did. -/
def autoFindsUptoRow : OpenClaim := { program := "ytbadjlhijbkbbaa", sum := "b9220351e336154c292ffefbad35f86bd02f1be29af2b184b1277ad461f03107", func := "conch/conchlaw13.AutoFinds", spec := "autoFinds", inPlace := ["internal/abi.NoEscape"], unfollowed := true, recurses := true, plainKeys := false, apart := false, narrowed := true }
def AutoFindsUptoSaid : Prop := autoFindsUptoRow.holds Try.pinned (OpenSpec.upto autoFindsSpec)

/-- 'conchlaw13.AutoEntered', WHERE WHAT IT READS IS OF BULK AT MOST 1048576: true; the input reads as it did. -/
def autoEnteredUptoRow : OpenClaim := { program := "ytbadjlhijbkbbaa", sum := "b9220351e336154c292ffefbad35f86bd02f1be29af2b184b1277ad461f03107", func := "conch/conchlaw13.AutoEntered", spec := "autoEntered", inPlace := ["internal/abi.NoEscape"], unfollowed := true, recurses := true, plainKeys := false, apart := false, narrowed := true }
def AutoEnteredUptoSaid : Prop := autoEnteredUptoRow.holds Try.pinned (OpenSpec.upto autoEnteredSpec)

/-- 'conchlaw13.AutoSpells', WHERE WHAT IT READS IS OF BULK AT MOST 1048576: true; the input reads as it did. -/
def autoSpellsUptoRow : OpenClaim := { program := "ytbadjlhijbkbbaa", sum := "b9220351e336154c292ffefbad35f86bd02f1be29af2b184b1277ad461f03107", func := "conch/conchlaw13.AutoSpells", spec := "autoSpells", inPlace := ["internal/abi.NoEscape"], unfollowed := true, recurses := true, plainKeys := false, apart := false, narrowed := true }
def AutoSpellsUptoSaid : Prop := autoSpellsUptoRow.holds Try.pinned (OpenSpec.upto autoSpellsSpec)

end Rows
end Go.Proofs.Ytbadjlhijbkbbaa
