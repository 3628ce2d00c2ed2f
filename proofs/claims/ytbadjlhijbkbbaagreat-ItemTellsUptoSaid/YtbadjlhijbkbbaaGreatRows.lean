/-
  No cell of these rows narrows 'for every input' (looked for: loops, veiled, ifaces, maps, wideKeys, modest, calm, conditions, laid).
  DERIVED. THE GIVEN ROWS OF THIS SEAT. 8 by the template 'for every input the law returns true; each argument reads behind the call as it read before'; 0 by the template 'total and deterministic' (their statements: YtbadjlhijbkbbaaGreatTotals.lean).
  GIVEN WITH THE SEED: the statements are not yours to turn. If you find one false, say at which input.
  Laid BY PROGRAM, IN A SANDBOX (cutbox-rows.mjs): the forced cells as the released guide's own fill.sh prints them over the translation ec2b5311abb7e973… (all of the seat's roots in one cut). By AI agents, Wed Nov 11 2026. No macro, syntax, notation, axiom, sorry.
-/
import Derived.Test.YtbadjlhijbkbbaaGreatChecked
import GoSem.Claim
import GoSem.ClaimJoined
import GoSem.ClaimMapViews
import Derived.JoinedTies
import Derived.KernelRfl
namespace Go.Proofs.YtbadjlhijbkbbaaGreat
/- THE CELL 'sum', in the pinned program and in every row, IS THE sha256 OF THE DUMP (.gsa) THAT YtbadjlhijbkbbaaGreatProg.lean LOADS. Nothing in Lean hashes anything: it is a label: what it is worth is what the hold of that sum in a sandbox is worth. -/
noncomputable def Tryz.pinned : Pinned := { name := "ytbadjlhijbkbbaagreat", sum := "ec2b5311abb7e9733ea75b4472f31fecb626e3baf2caa95e54994ed82102fc36", checked := Tryz.checked }
namespace Rows
def none {H : Type} : Left H := { results := [], args := [] }

/-- 'conchlaw16.RouteTells': WHATEVER THE INPUT: true; the input reads as it did. -/
def routeTellsSpec : ChangeSpec := { name := "routeTells", fn := fun _ => fun
  | [d1, d2] => { results := [.lit (.bool true)], args := [d1, d2] }
  | _ => none }
def routeTellsRow : OpenClaim := { program := "ytbadjlhijbkbbaagreat", sum := "ec2b5311abb7e9733ea75b4472f31fecb626e3baf2caa95e54994ed82102fc36", func := "conch/conchlaw16.RouteTells", spec := "routeTells", inPlace := ["internal/abi.NoEscape"], unfollowed := true, recurses := true, plainKeys := false, apart := false }
def RouteTellsSaid : Prop := routeTellsRow.holds Tryz.pinned (OpenSpec.ofChange routeTellsSpec)

/-- ITS FALSE NEIGHBOUR: 'it returns false'. Refute it at one input. -/
def routeTellsWrong : ChangeSpec := { name := "routeTells", fn := fun _ => fun
  | [d1, d2] => { results := [.lit (.bool false)], args := [d1, d2] }
  | _ => none }
def RouteTellsWrongFalsely : Prop := routeTellsRow.holds Tryz.pinned (OpenSpec.ofChange routeTellsWrong)

/-- 'conchlaw16.RouteNone': WHATEVER THE INPUT: true; the input reads as it did. -/
def routeNoneSpec : ChangeSpec := { name := "routeNone", fn := fun _ => fun
  | [d1, d2] => { results := [.lit (.bool true)], args := [d1, d2] }
  | _ => none }
def routeNoneRow : OpenClaim := { program := "ytbadjlhijbkbbaagreat", sum := "ec2b5311abb7e9733ea75b4472f31fecb626e3baf2caa95e54994ed82102fc36", func := "conch/conchlaw16.RouteNone", spec := "routeNone", inPlace := ["internal/abi.NoEscape"], unfollowed := true, recurses := true, plainKeys := false, apart := false }
def RouteNoneSaid : Prop := routeNoneRow.holds Tryz.pinned (OpenSpec.ofChange routeNoneSpec)

/-- ITS FALSE NEIGHBOUR: 'it returns false'. Refute it at one input. -/
def routeNoneWrong : ChangeSpec := { name := "routeNone", fn := fun _ => fun
  | [d1, d2] => { results := [.lit (.bool false)], args := [d1, d2] }
  | _ => none }
def RouteNoneWrongFalsely : Prop := routeNoneRow.holds Tryz.pinned (OpenSpec.ofChange routeNoneWrong)

/-- 'conchlaw19.ArenaDoes': WHATEVER THE INPUT: true; the input reads as it did. -/
def arenaDoesSpec : ChangeSpec := { name := "arenaDoes", fn := fun _ => fun
  | [d1, d2, d3] => { results := [.lit (.bool true)], args := [d1, d2, d3] }
  | _ => none }
def arenaDoesRow : OpenClaim := { program := "ytbadjlhijbkbbaagreat", sum := "ec2b5311abb7e9733ea75b4472f31fecb626e3baf2caa95e54994ed82102fc36", func := "conch/conchlaw19.ArenaDoes", spec := "arenaDoes", inPlace := ["internal/abi.NoEscape"], unfollowed := true, recurses := true, plainKeys := false, apart := false }
def ArenaDoesSaid : Prop := arenaDoesRow.holds Tryz.pinned (OpenSpec.ofChange arenaDoesSpec)

/-- ITS FALSE NEIGHBOUR: 'it returns false'. Refute it at one input. -/
def arenaDoesWrong : ChangeSpec := { name := "arenaDoes", fn := fun _ => fun
  | [d1, d2, d3] => { results := [.lit (.bool false)], args := [d1, d2, d3] }
  | _ => none }
def ArenaDoesWrongFalsely : Prop := arenaDoesRow.holds Tryz.pinned (OpenSpec.ofChange arenaDoesWrong)

/-- 'conchlaw12.ItemTells': WHATEVER THE INPUT: true; the input reads as it did. -/
def itemTellsSpec : ChangeSpec := { name := "itemTells", fn := fun _ => fun
  | [d1, d2, d3] => { results := [.lit (.bool true)], args := [d1, d2, d3] }
  | _ => none }
def itemTellsRow : OpenClaim := { program := "ytbadjlhijbkbbaagreat", sum := "ec2b5311abb7e9733ea75b4472f31fecb626e3baf2caa95e54994ed82102fc36", func := "conch/conchlaw12.ItemTells", spec := "itemTells", unfollowed := true, recurses := true, plainKeys := false, apart := false }
def ItemTellsSaid : Prop := itemTellsRow.holds Tryz.pinned (OpenSpec.ofChange itemTellsSpec)

/-- ITS FALSE NEIGHBOUR: 'it returns false'. Refute it at one input. -/
def itemTellsWrong : ChangeSpec := { name := "itemTells", fn := fun _ => fun
  | [d1, d2, d3] => { results := [.lit (.bool false)], args := [d1, d2, d3] }
  | _ => none }
def ItemTellsWrongFalsely : Prop := itemTellsRow.holds Tryz.pinned (OpenSpec.ofChange itemTellsWrong)

/-- 'conchlaw12.ItemCloses': WHATEVER THE INPUT: true; the input reads as it did. -/
def itemClosesSpec : ChangeSpec := { name := "itemCloses", fn := fun _ => fun
  | [d1, d2, d3] => { results := [.lit (.bool true)], args := [d1, d2, d3] }
  | _ => none }
def itemClosesRow : OpenClaim := { program := "ytbadjlhijbkbbaagreat", sum := "ec2b5311abb7e9733ea75b4472f31fecb626e3baf2caa95e54994ed82102fc36", func := "conch/conchlaw12.ItemCloses", spec := "itemCloses", unfollowed := true, recurses := true, plainKeys := false, apart := false }
def ItemClosesSaid : Prop := itemClosesRow.holds Tryz.pinned (OpenSpec.ofChange itemClosesSpec)

/-- ITS FALSE NEIGHBOUR: 'it returns false'. Refute it at one input. -/
def itemClosesWrong : ChangeSpec := { name := "itemCloses", fn := fun _ => fun
  | [d1, d2, d3] => { results := [.lit (.bool false)], args := [d1, d2, d3] }
  | _ => none }
def ItemClosesWrongFalsely : Prop := itemClosesRow.holds Tryz.pinned (OpenSpec.ofChange itemClosesWrong)

/-- 'conchlaw12.ItemOrder': WHATEVER THE INPUT: true; the input reads as it did. -/
def itemOrderSpec : ChangeSpec := { name := "itemOrder", fn := fun _ => fun
  | [d1, d2, d3, d4] => { results := [.lit (.bool true)], args := [d1, d2, d3, d4] }
  | _ => none }
def itemOrderRow : OpenClaim := { program := "ytbadjlhijbkbbaagreat", sum := "ec2b5311abb7e9733ea75b4472f31fecb626e3baf2caa95e54994ed82102fc36", func := "conch/conchlaw12.ItemOrder", spec := "itemOrder", unfollowed := true, recurses := true, plainKeys := false, apart := false }
def ItemOrderSaid : Prop := itemOrderRow.holds Tryz.pinned (OpenSpec.ofChange itemOrderSpec)

/-- ITS FALSE NEIGHBOUR: 'it returns false'. Refute it at one input. -/
def itemOrderWrong : ChangeSpec := { name := "itemOrder", fn := fun _ => fun
  | [d1, d2, d3, d4] => { results := [.lit (.bool false)], args := [d1, d2, d3, d4] }
  | _ => none }
def ItemOrderWrongFalsely : Prop := itemOrderRow.holds Tryz.pinned (OpenSpec.ofChange itemOrderWrong)

/-- 'conchlaw13.AutoBuilds': WHATEVER THE INPUT: true; the input reads as it did. -/
def autoBuildsSpec : ChangeSpec := { name := "autoBuilds", fn := fun _ => fun
  | [d] => { results := [.lit (.bool true)], args := [d] }
  | _ => none }
def autoBuildsRow : OpenClaim := { program := "ytbadjlhijbkbbaagreat", sum := "ec2b5311abb7e9733ea75b4472f31fecb626e3baf2caa95e54994ed82102fc36", func := "conch/conchlaw13.AutoBuilds", spec := "autoBuilds", inPlace := ["internal/abi.NoEscape"], unfollowed := true, recurses := true, plainKeys := false, apart := false }
def AutoBuildsSaid : Prop := autoBuildsRow.holds Tryz.pinned (OpenSpec.ofChange autoBuildsSpec)

/-- ITS FALSE NEIGHBOUR: 'it returns false'. Refute it at one input. -/
def autoBuildsWrong : ChangeSpec := { name := "autoBuilds", fn := fun _ => fun
  | [d] => { results := [.lit (.bool false)], args := [d] }
  | _ => none }
def AutoBuildsWrongFalsely : Prop := autoBuildsRow.holds Tryz.pinned (OpenSpec.ofChange autoBuildsWrong)

/-- 'conchlaw16.RouteWalks': WHATEVER THE INPUT: true; the input reads as it did. -/
def routeWalksSpec : ChangeSpec := { name := "routeWalks", fn := fun _ => fun
  | [d] => { results := [.lit (.bool true)], args := [d] }
  | _ => none }
def routeWalksRow : OpenClaim := { program := "ytbadjlhijbkbbaagreat", sum := "ec2b5311abb7e9733ea75b4472f31fecb626e3baf2caa95e54994ed82102fc36", func := "conch/conchlaw16.RouteWalks", spec := "routeWalks", inPlace := ["internal/abi.NoEscape"], unfollowed := true, recurses := true, plainKeys := false, apart := false }
def RouteWalksSaid : Prop := routeWalksRow.holds Tryz.pinned (OpenSpec.ofChange routeWalksSpec)

/-- ITS FALSE NEIGHBOUR: 'it returns false'. Refute it at one input. -/
def routeWalksWrong : ChangeSpec := { name := "routeWalks", fn := fun _ => fun
  | [d] => { results := [.lit (.bool false)], args := [d] }
  | _ => none }
def RouteWalksWrongFalsely : Prop := routeWalksRow.holds Tryz.pinned (OpenSpec.ofChange routeWalksWrong)

/- THE SECOND FORM. 'bulk': how many values and letters a reading holds, each counted each time it is reached (what is shared counts as often as it is met; a slice's spare places count too). A statement '..UptoSaid' is the law's where the arguments, and the package variables that the reading takes, are together of bulk at most 1048576: NARROWER than '..Said'. Prove '..Said' where nothing that the law and all that it calls make is longer than what came in: it says more and counts as full. Else prove '..UptoSaid'. A law counts once. -/
mutual
def uptoBulk {H : Type} : DataW H → Nat
  | .lit (.string bytes) => bytes.length + 1
  | .lit _ => 1
  | .nil => 1
  | .ptr d => uptoBulk d + 1
  | .slice elems spare => uptoBulkAll elems + uptoBulkAll spare + 1
  | .agg parts => uptoBulkAll parts + 1
  | .iface _ d => uptoBulk d + 1
  | .map entries => uptoBulkEntries entries + 1
  | .held _ => 1
def uptoBulkAll {H : Type} : List (DataW H) → Nat
  | [] => 0
  | d :: r => uptoBulk d + uptoBulkAll r
def uptoBulkEntries {H : Type} : List (Lit × DataW H) → Nat
  | [] => 0
  | x :: r => uptoBulkEntry x + uptoBulkEntries r
def uptoBulkEntry {H : Type} : Lit × DataW H → Nat
  | (.string bytes, d) => bytes.length + uptoBulk d + 1
  | (_, d) => uptoBulk d + 1
 end
def uptoSmall : (H : Type) → List (DataW H) → Bool := fun _ ds => decide (uptoBulkAll ds ≤ 1048576)
def OpenSpec.upto (s : _root_.Go.ChangeSpec) : _root_.Go.OpenSpec := { _root_.Go.OpenSpec.ofChange s with cond := some uptoSmall }

/-- 'conchlaw16.RouteTells', WHERE WHAT IT READS IS OF BULK AT MOST 1048576: true; the input reads as it did. -/
def routeTellsUptoRow : OpenClaim := { program := "ytbadjlhijbkbbaagreat", sum := "ec2b5311abb7e9733ea75b4472f31fecb626e3baf2caa95e54994ed82102fc36", func := "conch/conchlaw16.RouteTells", spec := "routeTells", inPlace := ["internal/abi.NoEscape"], unfollowed := true, recurses := true, plainKeys := false, apart := false, narrowed := true }
def RouteTellsUptoSaid : Prop := routeTellsUptoRow.holds Tryz.pinned (OpenSpec.upto routeTellsSpec)

/-- 'conchlaw16.RouteNone', WHERE WHAT IT READS IS OF BULK AT MOST 1048576: true; the input reads as it did. -/
def routeNoneUptoRow : OpenClaim := { program := "ytbadjlhijbkbbaagreat", sum := "ec2b5311abb7e9733ea75b4472f31fecb626e3baf2caa95e54994ed82102fc36", func := "conch/conchlaw16.RouteNone", spec := "routeNone", inPlace := ["internal/abi.NoEscape"], unfollowed := true, recurses := true, plainKeys := false, apart := false, narrowed := true }
def RouteNoneUptoSaid : Prop := routeNoneUptoRow.holds Tryz.pinned (OpenSpec.upto routeNoneSpec)

/-- 'conchlaw19.ArenaDoes', WHERE WHAT IT READS IS OF BULK AT MOST 1048576: true; the input reads as it did. -/
def arenaDoesUptoRow : OpenClaim := { program := "ytbadjlhijbkbbaagreat", sum := "ec2b5311abb7e9733ea75b4472f31fecb626e3baf2caa95e54994ed82102fc36", func := "conch/conchlaw19.ArenaDoes", spec := "arenaDoes", inPlace := ["internal/abi.NoEscape"], unfollowed := true, recurses := true, plainKeys := false, apart := false, narrowed := true }
def ArenaDoesUptoSaid : Prop := arenaDoesUptoRow.holds Tryz.pinned (OpenSpec.upto arenaDoesSpec)

/-- 'conchlaw12.ItemTells', WHERE WHAT IT READS IS OF BULK AT MOST 1048576: true; the input reads as it did. -/
def itemTellsUptoRow : OpenClaim := { program := "ytbadjlhijbkbbaagreat", sum := "ec2b5311abb7e9733ea75b4472f31fecb626e3baf2caa95e54994ed82102fc36", func := "conch/conchlaw12.ItemTells", spec := "itemTells", unfollowed := true, recurses := true, plainKeys := false, apart := false, narrowed := true }
def ItemTellsUptoSaid : Prop := itemTellsUptoRow.holds Tryz.pinned (OpenSpec.upto itemTellsSpec)

/-- 'conchlaw12.ItemCloses', WHERE WHAT IT READS IS OF BULK AT MOST 1048576: true; the input reads as it did. -/
def itemClosesUptoRow : OpenClaim := { program := "ytbadjlhijbkbbaagreat", sum := "ec2b5311abb7e9733ea75b4472f31fecb626e3baf2caa95e54994ed82102fc36", func := "conch/conchlaw12.ItemCloses", spec := "itemCloses", unfollowed := true, recurses := true, plainKeys := false, apart := false, narrowed := true }
def ItemClosesUptoSaid : Prop := itemClosesUptoRow.holds Tryz.pinned (OpenSpec.upto itemClosesSpec)

/-- 'conchlaw12.ItemOrder', WHERE WHAT IT READS IS OF BULK AT MOST 1048576: true; the input reads as it did. -/
def itemOrderUptoRow : OpenClaim := { program := "ytbadjlhijbkbbaagreat", sum := "ec2b5311abb7e9733ea75b4472f31fecb626e3baf2caa95e54994ed82102fc36", func := "conch/conchlaw12.ItemOrder", spec := "itemOrder", unfollowed := true, recurses := true, plainKeys := false, apart := false, narrowed := true }
def ItemOrderUptoSaid : Prop := itemOrderUptoRow.holds Tryz.pinned (OpenSpec.upto itemOrderSpec)

/-- 'conchlaw13.AutoBuilds', WHERE WHAT IT READS IS OF BULK AT MOST 1048576: true; the input reads as it did. -/
def autoBuildsUptoRow : OpenClaim := { program := "ytbadjlhijbkbbaagreat", sum := "ec2b5311abb7e9733ea75b4472f31fecb626e3baf2caa95e54994ed82102fc36", func := "conch/conchlaw13.AutoBuilds", spec := "autoBuilds", inPlace := ["internal/abi.NoEscape"], unfollowed := true, recurses := true, plainKeys := false, apart := false, narrowed := true }
def AutoBuildsUptoSaid : Prop := autoBuildsUptoRow.holds Tryz.pinned (OpenSpec.upto autoBuildsSpec)

/-- 'conchlaw16.RouteWalks', WHERE WHAT IT READS IS OF BULK AT MOST 1048576: true; the input reads as it did. -/
def routeWalksUptoRow : OpenClaim := { program := "ytbadjlhijbkbbaagreat", sum := "ec2b5311abb7e9733ea75b4472f31fecb626e3baf2caa95e54994ed82102fc36", func := "conch/conchlaw16.RouteWalks", spec := "routeWalks", inPlace := ["internal/abi.NoEscape"], unfollowed := true, recurses := true, plainKeys := false, apart := false, narrowed := true }
def RouteWalksUptoSaid : Prop := routeWalksUptoRow.holds Tryz.pinned (OpenSpec.upto routeWalksSpec)

end Rows
end Go.Proofs.YtbadjlhijbkbbaaGreat
