/-
  No cell of these rows narrows 'for every input' (looked for: loops, veiled, ifaces, maps, wideKeys, modest, calm, conditions, laid).
  DERIVED. THE GIVEN ROWS OF THIS SEAT. 6 by the template 'for every input the law returns true; each argument reads behind the call as it read before'; 0 by the template 'total and deterministic' (their statements: YtlkeplcadnlndaaTotals.lean).
  GIVEN WITH THE SEED: the statements are not yours to turn. If you find one false, say at which input.
  Laid BY PROGRAM, IN A SANDBOX (cutbox-rows.mjs): the forced cells as the released guide's own fill.sh prints them over the translation 24177138fd92b3d5… (all of the seat's roots in one cut). By AI agents, Wed Nov 11 2026. No macro, syntax, notation, axiom, sorry.
-/
import Derived.Test.YtlkeplcadnlndaaChecked
import GoSem.Claim
import GoSem.ClaimJoined
import GoSem.ClaimMapViews
import Derived.JoinedTies
import Derived.KernelRfl
namespace Go.Proofs.Ytlkeplcadnlndaa
/- THE CELL 'sum', in the pinned program and in every row, IS THE sha256 OF THE DUMP (.gsa) THAT YtlkeplcadnlndaaProg.lean LOADS. Nothing in Lean hashes anything: it is a label: what it is worth is what the hold of that sum in a sandbox is worth. -/
noncomputable def Try.pinned : Pinned := { name := "ytlkeplcadnlndaa", sum := "24177138fd92b3d5b20fb9eadb72d82f04c16b4044dfcbfe3678ce9f69bb6b9b", checked := Try.checked }
namespace Rows
def none {H : Type} : Left H := { results := [], args := [] }

/-- 'delphilaw3.DiskMoves': WHATEVER THE INPUT: true; the input reads as it did. -/
def diskMovesSpec : ChangeSpec := { name := "diskMoves", fn := fun _ => fun
  | [d1, d2, d3, d4] => { results := [.lit (.bool true)], args := [d1, d2, d3, d4] }
  | _ => none }
def diskMovesRow : OpenClaim := { program := "ytlkeplcadnlndaa", sum := "24177138fd92b3d5b20fb9eadb72d82f04c16b4044dfcbfe3678ce9f69bb6b9b", func := "delphi/delphilaw3.DiskMoves", spec := "diskMoves", inPlace := ["maps.clone"], unfollowed := true, recurses := true, apart := false }
def DiskMovesSaid : Prop := diskMovesRow.holds Try.pinned (OpenSpec.ofChange diskMovesSpec)

/-- ITS FALSE NEIGHBOUR: 'it returns false'. Refute it at one input. -/
def diskMovesWrong : ChangeSpec := { name := "diskMoves", fn := fun _ => fun
  | [d1, d2, d3, d4] => { results := [.lit (.bool false)], args := [d1, d2, d3, d4] }
  | _ => none }
def DiskMovesWrongFalsely : Prop := diskMovesRow.holds Try.pinned (OpenSpec.ofChange diskMovesWrong)

/-- 'delphilaw3.DiskNone': WHATEVER THE INPUT: true; the input reads as it did. -/
def diskNoneSpec : ChangeSpec := { name := "diskNone", fn := fun _ => fun
  | [] => { results := [.lit (.bool true)], args := [] }
  | _ => none }
def diskNoneRow : OpenClaim := { program := "ytlkeplcadnlndaa", sum := "24177138fd92b3d5b20fb9eadb72d82f04c16b4044dfcbfe3678ce9f69bb6b9b", func := "delphi/delphilaw3.DiskNone", spec := "diskNone", inPlace := ["maps.clone"], unfollowed := true, recurses := true, apart := false }
def DiskNoneSaid : Prop := diskNoneRow.holds Try.pinned (OpenSpec.ofChange diskNoneSpec)

/-- ITS FALSE NEIGHBOUR: 'it returns false'. Refute it at one input. -/
def diskNoneWrong : ChangeSpec := { name := "diskNone", fn := fun _ => fun
  | [] => { results := [.lit (.bool false)], args := [] }
  | _ => none }
def DiskNoneWrongFalsely : Prop := diskNoneRow.holds Try.pinned (OpenSpec.ofChange diskNoneWrong)

/-- 'delphilaw5.KeepVotes': WHATEVER THE INPUT: true; the input reads as it did. -/
def keepVotesSpec : ChangeSpec := { name := "keepVotes", fn := fun _ => fun
  | [d1, d2, d3] => { results := [.lit (.bool true)], args := [d1, d2, d3] }
  | _ => none }
def keepVotesRow : OpenClaim := { program := "ytlkeplcadnlndaa", sum := "24177138fd92b3d5b20fb9eadb72d82f04c16b4044dfcbfe3678ce9f69bb6b9b", func := "delphi/delphilaw5.KeepVotes", spec := "keepVotes", inPlace := ["maps.clone"], unfollowed := true, recurses := true, apart := false }
def KeepVotesSaid : Prop := keepVotesRow.holds Try.pinned (OpenSpec.ofChange keepVotesSpec)

/-- ITS FALSE NEIGHBOUR: 'it returns false'. Refute it at one input. -/
def keepVotesWrong : ChangeSpec := { name := "keepVotes", fn := fun _ => fun
  | [d1, d2, d3] => { results := [.lit (.bool false)], args := [d1, d2, d3] }
  | _ => none }
def KeepVotesWrongFalsely : Prop := keepVotesRow.holds Try.pinned (OpenSpec.ofChange keepVotesWrong)

/-- 'delphilaw5.KeepAll': WHATEVER THE INPUT: true; the input reads as it did. -/
def keepAllSpec : ChangeSpec := { name := "keepAll", fn := fun _ => fun
  | [d] => { results := [.lit (.bool true)], args := [d] }
  | _ => none }
def keepAllRow : OpenClaim := { program := "ytlkeplcadnlndaa", sum := "24177138fd92b3d5b20fb9eadb72d82f04c16b4044dfcbfe3678ce9f69bb6b9b", func := "delphi/delphilaw5.KeepAll", spec := "keepAll", inPlace := ["maps.clone"], unfollowed := true, recurses := true, apart := false }
def KeepAllSaid : Prop := keepAllRow.holds Try.pinned (OpenSpec.ofChange keepAllSpec)

/-- ITS FALSE NEIGHBOUR: 'it returns false'. Refute it at one input. -/
def keepAllWrong : ChangeSpec := { name := "keepAll", fn := fun _ => fun
  | [d] => { results := [.lit (.bool false)], args := [d] }
  | _ => none }
def KeepAllWrongFalsely : Prop := keepAllRow.holds Try.pinned (OpenSpec.ofChange keepAllWrong)

/-- 'delphilaw5.KeepGrows': WHATEVER THE INPUT: true; the input reads as it did. -/
def keepGrowsSpec : ChangeSpec := { name := "keepGrows", fn := fun _ => fun
  | [d1, d2] => { results := [.lit (.bool true)], args := [d1, d2] }
  | _ => none }
def keepGrowsRow : OpenClaim := { program := "ytlkeplcadnlndaa", sum := "24177138fd92b3d5b20fb9eadb72d82f04c16b4044dfcbfe3678ce9f69bb6b9b", func := "delphi/delphilaw5.KeepGrows", spec := "keepGrows", inPlace := ["maps.clone"], unfollowed := true, recurses := true, apart := false }
def KeepGrowsSaid : Prop := keepGrowsRow.holds Try.pinned (OpenSpec.ofChange keepGrowsSpec)

/-- ITS FALSE NEIGHBOUR: 'it returns false'. Refute it at one input. -/
def keepGrowsWrong : ChangeSpec := { name := "keepGrows", fn := fun _ => fun
  | [d1, d2] => { results := [.lit (.bool false)], args := [d1, d2] }
  | _ => none }
def KeepGrowsWrongFalsely : Prop := keepGrowsRow.holds Try.pinned (OpenSpec.ofChange keepGrowsWrong)

/-- 'delphilaw5.KeepCrash': WHATEVER THE INPUT: true; the input reads as it did. -/
def keepCrashSpec : ChangeSpec := { name := "keepCrash", fn := fun _ => fun
  | [d1, d2, d3, d4, d5] => { results := [.lit (.bool true)], args := [d1, d2, d3, d4, d5] }
  | _ => none }
def keepCrashRow : OpenClaim := { program := "ytlkeplcadnlndaa", sum := "24177138fd92b3d5b20fb9eadb72d82f04c16b4044dfcbfe3678ce9f69bb6b9b", func := "delphi/delphilaw5.KeepCrash", spec := "keepCrash", inPlace := ["maps.clone"], unfollowed := true, recurses := true, apart := false }
def KeepCrashSaid : Prop := keepCrashRow.holds Try.pinned (OpenSpec.ofChange keepCrashSpec)

/-- ITS FALSE NEIGHBOUR: 'it returns false'. Refute it at one input. -/
def keepCrashWrong : ChangeSpec := { name := "keepCrash", fn := fun _ => fun
  | [d1, d2, d3, d4, d5] => { results := [.lit (.bool false)], args := [d1, d2, d3, d4, d5] }
  | _ => none }
def KeepCrashWrongFalsely : Prop := keepCrashRow.holds Try.pinned (OpenSpec.ofChange keepCrashWrong)

/- THE SECOND FORM. 'bulk': how many values and letters a reading holds, each counted each time it is reached (what is shared counts as often as it is met; a slice's spare places count too). A statement '..UptoSaid' is the law's where the arguments, and the package variables that the reading takes, are together of bulk at most 1048576: NARROWER than '..Said'. Prove '..Said' where nothing that the law and all that it calls make is longer than what came in: it says more and counts as full. Else prove '..UptoSaid'. A law counts once. -/
mutual
def uptoBulk {H : Type} : DataW H → Nat
  | .lit (.string bytes) => bytes.length + 1
  | .lit _ => 1
  | .nil => 1
  | .ptr d => uptoBulk d + 1
  | .slice elems spare => uptoBulkAll elems + uptoBulkAll spare + 1
  | .agg parts => uptoBulkAll parts + 1
  | .iface _ d => uptoBulk d + 1
  | .map entries => uptoBulkEntries entries + 1
  | .held _ => 1
def uptoBulkAll {H : Type} : List (DataW H) → Nat
  | [] => 0
  | d :: r => uptoBulk d + uptoBulkAll r
def uptoBulkEntries {H : Type} : List (Lit × DataW H) → Nat
  | [] => 0
  | x :: r => uptoBulkEntry x + uptoBulkEntries r
def uptoBulkEntry {H : Type} : Lit × DataW H → Nat
  | (.string bytes, d) => bytes.length + uptoBulk d + 1
  | (_, d) => uptoBulk d + 1
 end
def uptoSmall : (H : Type) → List (DataW H) → Bool := fun _ ds => decide (uptoBulkAll ds ≤ 1048576)
def OpenSpec.upto (s : _root_.Go.ChangeSpec) : _root_.Go.OpenSpec := { _root_.Go.OpenSpec.ofChange s with cond := some uptoSmall }

/-- 'delphilaw3.DiskMoves', WHERE WHAT IT READS IS OF BULK AT MOST 1048576: true; the input reads as it did. -/
def diskMovesUptoRow : OpenClaim := { program := "ytlkeplcadnlndaa", sum := "24177138fd92b3d5b20fb9eadb72d82f04c16b4044dfcbfe3678ce9f69bb6b9b", func := "delphi/delphilaw3.DiskMoves", spec := "diskMoves", inPlace := ["maps.clone"], unfollowed := true, recurses := true, apart := false, narrowed := true }
def DiskMovesUptoSaid : Prop := diskMovesUptoRow.holds Try.pinned (OpenSpec.upto diskMovesSpec)

/-- 'delphilaw3.DiskNone', WHERE WHAT IT READS IS OF BULK AT MOST 1048576: true; the input reads as it did. -/
def diskNoneUptoRow : OpenClaim := { program := "ytlkeplcadnlndaa", sum := "24177138fd92b3d5b20fb9eadb72d82f04c16b4044dfcbfe3678ce9f69bb6b9b", func := "delphi/delphilaw3.DiskNone", spec := "diskNone", inPlace := ["maps.clone"], unfollowed := true, recurses := true, apart := false, narrowed := true }
def DiskNoneUptoSaid : Prop := diskNoneUptoRow.holds Try.pinned (OpenSpec.upto diskNoneSpec)

/-- 'delphilaw5.KeepVotes', WHERE WHAT IT READS IS OF BULK AT MOST 1048576: true; the input reads as it did. -/
def keepVotesUptoRow : OpenClaim := { program := "ytlkeplcadnlndaa", sum := "24177138fd92b3d5b20fb9eadb72d82f04c16b4044dfcbfe3678ce9f69bb6b9b", func := "delphi/delphilaw5.KeepVotes", spec := "keepVotes", inPlace := ["maps.clone"], unfollowed := true, recurses := true, apart := false, narrowed := true }
def KeepVotesUptoSaid : Prop := keepVotesUptoRow.holds Try.pinned (OpenSpec.upto keepVotesSpec)

/-- 'delphilaw5.KeepAll', WHERE WHAT IT READS IS OF BULK AT MOST 1048576: true; the input reads as it did. -/
def keepAllUptoRow : OpenClaim := { program := "ytlkeplcadnlndaa", sum := "24177138fd92b3d5b20fb9eadb72d82f04c16b4044dfcbfe3678ce9f69bb6b9b", func := "delphi/delphilaw5.KeepAll", spec := "keepAll", inPlace := ["maps.clone"], unfollowed := true, recurses := true, apart := false, narrowed := true }
def KeepAllUptoSaid : Prop := keepAllUptoRow.holds Try.pinned (OpenSpec.upto keepAllSpec)

/-- 'delphilaw5.KeepGrows', WHERE WHAT IT READS IS OF BULK AT MOST 1048576: true; the input reads as it did. -/
def keepGrowsUptoRow : OpenClaim := { program := "ytlkeplcadnlndaa", sum := "24177138fd92b3d5b20fb9eadb72d82f04c16b4044dfcbfe3678ce9f69bb6b9b", func := "delphi/delphilaw5.KeepGrows", spec := "keepGrows", inPlace := ["maps.clone"], unfollowed := true, recurses := true, apart := false, narrowed := true }
def KeepGrowsUptoSaid : Prop := keepGrowsUptoRow.holds Try.pinned (OpenSpec.upto keepGrowsSpec)

/-- 'delphilaw5.KeepCrash', WHERE WHAT IT READS IS OF BULK AT MOST 1048576: true; the input reads as it did. -/
def keepCrashUptoRow : OpenClaim := { program := "ytlkeplcadnlndaa", sum := "24177138fd92b3d5b20fb9eadb72d82f04c16b4044dfcbfe3678ce9f69bb6b9b", func := "delphi/delphilaw5.KeepCrash", spec := "keepCrash", inPlace := ["maps.clone"], unfollowed := true, recurses := true, apart := false, narrowed := true }
def KeepCrashUptoSaid : Prop := keepCrashUptoRow.holds Try.pinned (OpenSpec.upto keepCrashSpec)

end Rows
end Go.Proofs.Ytlkeplcadnlndaa
