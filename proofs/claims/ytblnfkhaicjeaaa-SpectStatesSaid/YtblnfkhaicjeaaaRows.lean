/-
  No cell of these rows narrows 'for every input' (looked for: loops, veiled, ifaces, maps, wideKeys, modest, calm, conditions, laid).
  DERIVED. THE GIVEN ROWS OF THIS SEAT. 12 by the template 'for every input the law returns true; each argument reads behind the call as it read before'; 0 by the template 'total and deterministic' (their statements: YtblnfkhaicjeaaaTotals.lean).
  GIVEN WITH THE SEED: the statements are not yours to turn. If you find one false, say at which input.
  Laid BY PROGRAM, IN A SANDBOX (cutbox-rows.mjs): the forced cells as the released guide's own fill.sh prints them over the translation 24f1ce1dda02faad… (all of the seat's roots in one cut). By AI agents, Wed Nov 11 2026. No macro, syntax, notation, axiom, sorry.
-/
import Derived.Test.YtblnfkhaicjeaaaChecked
import GoSem.Claim
import GoSem.ClaimJoined
import GoSem.ClaimMapViews
import Derived.JoinedTies
import Derived.KernelRfl
namespace Go.Proofs.Ytblnfkhaicjeaaa
/- THE CELL 'sum', in the pinned program and in every row, IS THE sha256 OF THE DUMP (.gsa) THAT YtblnfkhaicjeaaaProg.lean LOADS. Nothing in Lean hashes anything: it is a label: what it is worth is what the hold of that sum in a sandbox is worth. -/
noncomputable def Try.pinned : Pinned := { name := "ytblnfkhaicjeaaa", sum := "24f1ce1dda02faad49890676c723e995730335c0a398c13395f99f4a44caeac0", checked := Try.checked }
namespace Rows
def none {H : Type} : Left H := { results := [], args := [] }

/-- 'backstaylaw23.GamePlays': WHATEVER THE INPUT: true; the input reads as it did. -/
def gamePlaysSpec : ChangeSpec := { name := "gamePlays", fn := fun _ => fun
  | [d1, d2] => { results := [.lit (.bool true)], args := [d1, d2] }
  | _ => none }
def gamePlaysRow : OpenClaim := { program := "ytblnfkhaicjeaaa", sum := "24f1ce1dda02faad49890676c723e995730335c0a398c13395f99f4a44caeac0", func := "backstay/backstaylaw23.GamePlays", spec := "gamePlays", apart := false }
def GamePlaysSaid : Prop := gamePlaysRow.holds Try.pinned (OpenSpec.ofChange gamePlaysSpec)

/-- ITS FALSE NEIGHBOUR: 'it returns false'. Refute it at one input. -/
def gamePlaysWrong : ChangeSpec := { name := "gamePlays", fn := fun _ => fun
  | [d1, d2] => { results := [.lit (.bool false)], args := [d1, d2] }
  | _ => none }
def GamePlaysWrongFalsely : Prop := gamePlaysRow.holds Try.pinned (OpenSpec.ofChange gamePlaysWrong)

/-- 'backstaylaw23.GameSums': WHATEVER THE INPUT: true; the input reads as it did. -/
def gameSumsSpec : ChangeSpec := { name := "gameSums", fn := fun _ => fun
  | [d] => { results := [.lit (.bool true)], args := [d] }
  | _ => none }
def gameSumsRow : OpenClaim := { program := "ytblnfkhaicjeaaa", sum := "24f1ce1dda02faad49890676c723e995730335c0a398c13395f99f4a44caeac0", func := "backstay/backstaylaw23.GameSums", spec := "gameSums", apart := false }
def GameSumsSaid : Prop := gameSumsRow.holds Try.pinned (OpenSpec.ofChange gameSumsSpec)

/-- ITS FALSE NEIGHBOUR: 'it returns false'. Refute it at one input. -/
def gameSumsWrong : ChangeSpec := { name := "gameSums", fn := fun _ => fun
  | [d] => { results := [.lit (.bool false)], args := [d] }
  | _ => none }
def GameSumsWrongFalsely : Prop := gameSumsRow.holds Try.pinned (OpenSpec.ofChange gameSumsWrong)

/-- 'backstaylaw23.GameParts': WHATEVER THE INPUT: true; the input reads as it did. -/
def gamePartsSpec : ChangeSpec := { name := "gameParts", fn := fun _ => fun
  | [d1, d2, d3] => { results := [.lit (.bool true)], args := [d1, d2, d3] }
  | _ => none }
def gamePartsRow : OpenClaim := { program := "ytblnfkhaicjeaaa", sum := "24f1ce1dda02faad49890676c723e995730335c0a398c13395f99f4a44caeac0", func := "backstay/backstaylaw23.GameParts", spec := "gameParts", apart := false }
def GamePartsSaid : Prop := gamePartsRow.holds Try.pinned (OpenSpec.ofChange gamePartsSpec)

/-- ITS FALSE NEIGHBOUR: 'it returns false'. Refute it at one input. -/
def gamePartsWrong : ChangeSpec := { name := "gameParts", fn := fun _ => fun
  | [d1, d2, d3] => { results := [.lit (.bool false)], args := [d1, d2, d3] }
  | _ => none }
def GamePartsWrongFalsely : Prop := gamePartsRow.holds Try.pinned (OpenSpec.ofChange gamePartsWrong)

/-- 'backstaylaw23.GameHolds': WHATEVER THE INPUT: true; the input reads as it did. -/
def gameHoldsSpec : ChangeSpec := { name := "gameHolds", fn := fun _ => fun
  | [d1, d2] => { results := [.lit (.bool true)], args := [d1, d2] }
  | _ => none }
def gameHoldsRow : OpenClaim := { program := "ytblnfkhaicjeaaa", sum := "24f1ce1dda02faad49890676c723e995730335c0a398c13395f99f4a44caeac0", func := "backstay/backstaylaw23.GameHolds", spec := "gameHolds", apart := false }
def GameHoldsSaid : Prop := gameHoldsRow.holds Try.pinned (OpenSpec.ofChange gameHoldsSpec)

/-- ITS FALSE NEIGHBOUR: 'it returns false'. Refute it at one input. -/
def gameHoldsWrong : ChangeSpec := { name := "gameHolds", fn := fun _ => fun
  | [d1, d2] => { results := [.lit (.bool false)], args := [d1, d2] }
  | _ => none }
def GameHoldsWrongFalsely : Prop := gameHoldsRow.holds Try.pinned (OpenSpec.ofChange gameHoldsWrong)

/-- 'backstaylaw34.BotChooses': WHATEVER THE INPUT: true; the input reads as it did. -/
def botChoosesSpec : ChangeSpec := { name := "botChooses", fn := fun _ => fun
  | [d1, d2] => { results := [.lit (.bool true)], args := [d1, d2] }
  | _ => none }
def botChoosesRow : OpenClaim := { program := "ytblnfkhaicjeaaa", sum := "24f1ce1dda02faad49890676c723e995730335c0a398c13395f99f4a44caeac0", func := "backstay/backstaylaw34.BotChooses", spec := "botChooses", apart := false }
def BotChoosesSaid : Prop := botChoosesRow.holds Try.pinned (OpenSpec.ofChange botChoosesSpec)

/-- ITS FALSE NEIGHBOUR: 'it returns false'. Refute it at one input. -/
def botChoosesWrong : ChangeSpec := { name := "botChooses", fn := fun _ => fun
  | [d1, d2] => { results := [.lit (.bool false)], args := [d1, d2] }
  | _ => none }
def BotChoosesWrongFalsely : Prop := botChoosesRow.holds Try.pinned (OpenSpec.ofChange botChoosesWrong)

/-- 'backstaylaw34.BotMatches': WHATEVER THE INPUT: true; the input reads as it did. -/
def botMatchesSpec : ChangeSpec := { name := "botMatches", fn := fun _ => fun
  | [d1, d2, d3] => { results := [.lit (.bool true)], args := [d1, d2, d3] }
  | _ => none }
def botMatchesRow : OpenClaim := { program := "ytblnfkhaicjeaaa", sum := "24f1ce1dda02faad49890676c723e995730335c0a398c13395f99f4a44caeac0", func := "backstay/backstaylaw34.BotMatches", spec := "botMatches", apart := false }
def BotMatchesSaid : Prop := botMatchesRow.holds Try.pinned (OpenSpec.ofChange botMatchesSpec)

/-- ITS FALSE NEIGHBOUR: 'it returns false'. Refute it at one input. -/
def botMatchesWrong : ChangeSpec := { name := "botMatches", fn := fun _ => fun
  | [d1, d2, d3] => { results := [.lit (.bool false)], args := [d1, d2, d3] }
  | _ => none }
def BotMatchesWrongFalsely : Prop := botMatchesRow.holds Try.pinned (OpenSpec.ofChange botMatchesWrong)

/-- 'backstaylaw24.SavedPlays': WHATEVER THE INPUT: true; the input reads as it did. -/
def savedPlaysSpec : ChangeSpec := { name := "savedPlays", fn := fun _ => fun
  | [d1, d2] => { results := [.lit (.bool true)], args := [d1, d2] }
  | _ => none }
def savedPlaysRow : OpenClaim := { program := "ytblnfkhaicjeaaa", sum := "24f1ce1dda02faad49890676c723e995730335c0a398c13395f99f4a44caeac0", func := "backstay/backstaylaw24.SavedPlays", spec := "savedPlays", unfollowed := true, recurses := true, apart := false }
def SavedPlaysSaid : Prop := savedPlaysRow.holds Try.pinned (OpenSpec.ofChange savedPlaysSpec)

/-- ITS FALSE NEIGHBOUR: 'it returns false'. Refute it at one input. -/
def savedPlaysWrong : ChangeSpec := { name := "savedPlays", fn := fun _ => fun
  | [d1, d2] => { results := [.lit (.bool false)], args := [d1, d2] }
  | _ => none }
def SavedPlaysWrongFalsely : Prop := savedPlaysRow.holds Try.pinned (OpenSpec.ofChange savedPlaysWrong)

/-- 'backstaylaw24.SavedTells': WHATEVER THE INPUT: true; the input reads as it did. -/
def savedTellsSpec : ChangeSpec := { name := "savedTells", fn := fun _ => fun
  | [d1, d2, d3] => { results := [.lit (.bool true)], args := [d1, d2, d3] }
  | _ => none }
def savedTellsRow : OpenClaim := { program := "ytblnfkhaicjeaaa", sum := "24f1ce1dda02faad49890676c723e995730335c0a398c13395f99f4a44caeac0", func := "backstay/backstaylaw24.SavedTells", spec := "savedTells", unfollowed := true, recurses := true, apart := false }
def SavedTellsSaid : Prop := savedTellsRow.holds Try.pinned (OpenSpec.ofChange savedTellsSpec)

/-- ITS FALSE NEIGHBOUR: 'it returns false'. Refute it at one input. -/
def savedTellsWrong : ChangeSpec := { name := "savedTells", fn := fun _ => fun
  | [d1, d2, d3] => { results := [.lit (.bool false)], args := [d1, d2, d3] }
  | _ => none }
def SavedTellsWrongFalsely : Prop := savedTellsRow.holds Try.pinned (OpenSpec.ofChange savedTellsWrong)

/-- 'backstaylaw24.SavedDiffers': WHATEVER THE INPUT: true; the input reads as it did. -/
def savedDiffersSpec : ChangeSpec := { name := "savedDiffers", fn := fun _ => fun
  | [d1, d2] => { results := [.lit (.bool true)], args := [d1, d2] }
  | _ => none }
def savedDiffersRow : OpenClaim := { program := "ytblnfkhaicjeaaa", sum := "24f1ce1dda02faad49890676c723e995730335c0a398c13395f99f4a44caeac0", func := "backstay/backstaylaw24.SavedDiffers", spec := "savedDiffers", unfollowed := true, recurses := true, apart := false }
def SavedDiffersSaid : Prop := savedDiffersRow.holds Try.pinned (OpenSpec.ofChange savedDiffersSpec)

/-- ITS FALSE NEIGHBOUR: 'it returns false'. Refute it at one input. -/
def savedDiffersWrong : ChangeSpec := { name := "savedDiffers", fn := fun _ => fun
  | [d1, d2] => { results := [.lit (.bool false)], args := [d1, d2] }
  | _ => none }
def SavedDiffersWrongFalsely : Prop := savedDiffersRow.holds Try.pinned (OpenSpec.ofChange savedDiffersWrong)

/-- 'backstaylaw31.SpectBytes': WHATEVER THE INPUT: true; the input reads as it did. -/
def spectBytesSpec : ChangeSpec := { name := "spectBytes", fn := fun _ => fun
  | [d] => { results := [.lit (.bool true)], args := [d] }
  | _ => none }
def spectBytesRow : OpenClaim := { program := "ytblnfkhaicjeaaa", sum := "24f1ce1dda02faad49890676c723e995730335c0a398c13395f99f4a44caeac0", func := "backstay/backstaylaw31.SpectBytes", spec := "spectBytes", unfollowed := true, recurses := true, apart := false }
def SpectBytesSaid : Prop := spectBytesRow.holds Try.pinned (OpenSpec.ofChange spectBytesSpec)

/-- ITS FALSE NEIGHBOUR: 'it returns false'. Refute it at one input. -/
def spectBytesWrong : ChangeSpec := { name := "spectBytes", fn := fun _ => fun
  | [d] => { results := [.lit (.bool false)], args := [d] }
  | _ => none }
def SpectBytesWrongFalsely : Prop := spectBytesRow.holds Try.pinned (OpenSpec.ofChange spectBytesWrong)

/-- 'backstaylaw31.SpectReads': WHATEVER THE INPUT: true; the input reads as it did. -/
def spectReadsSpec : ChangeSpec := { name := "spectReads", fn := fun _ => fun
  | [d] => { results := [.lit (.bool true)], args := [d] }
  | _ => none }
def spectReadsRow : OpenClaim := { program := "ytblnfkhaicjeaaa", sum := "24f1ce1dda02faad49890676c723e995730335c0a398c13395f99f4a44caeac0", func := "backstay/backstaylaw31.SpectReads", spec := "spectReads", unfollowed := true, recurses := true, apart := false }
def SpectReadsSaid : Prop := spectReadsRow.holds Try.pinned (OpenSpec.ofChange spectReadsSpec)

/-- ITS FALSE NEIGHBOUR: 'it returns false'. Refute it at one input. -/
def spectReadsWrong : ChangeSpec := { name := "spectReads", fn := fun _ => fun
  | [d] => { results := [.lit (.bool false)], args := [d] }
  | _ => none }
def SpectReadsWrongFalsely : Prop := spectReadsRow.holds Try.pinned (OpenSpec.ofChange spectReadsWrong)

/-- 'backstaylaw31.SpectStates': WHATEVER THE INPUT: true; the input reads as it did. -/
def spectStatesSpec : ChangeSpec := { name := "spectStates", fn := fun _ => fun
  | [d1, d2, d3] => { results := [.lit (.bool true)], args := [d1, d2, d3] }
  | _ => none }
def spectStatesRow : OpenClaim := { program := "ytblnfkhaicjeaaa", sum := "24f1ce1dda02faad49890676c723e995730335c0a398c13395f99f4a44caeac0", func := "backstay/backstaylaw31.SpectStates", spec := "spectStates", unfollowed := true, recurses := true, apart := false }
def SpectStatesSaid : Prop := spectStatesRow.holds Try.pinned (OpenSpec.ofChange spectStatesSpec)

/-- ITS FALSE NEIGHBOUR: 'it returns false'. Refute it at one input. -/
def spectStatesWrong : ChangeSpec := { name := "spectStates", fn := fun _ => fun
  | [d1, d2, d3] => { results := [.lit (.bool false)], args := [d1, d2, d3] }
  | _ => none }
def SpectStatesWrongFalsely : Prop := spectStatesRow.holds Try.pinned (OpenSpec.ofChange spectStatesWrong)

/- THE SECOND FORM. 'bulk': how many values and letters a reading holds, each counted each time it is reached (what is shared counts as often as it is met; a slice's spare places count too). A statement '..UptoSaid' is the law's where the arguments, and the package variables that the reading takes, are together of bulk at most 1048576: NARROWER than '..Said'. Prove '..Said' where nothing that the law and all that it calls make is longer than what came in: it says more and counts as full. Else prove '..UptoSaid'. A law counts once. -/
mutual
def uptoBulk {H : Type} : DataW H → Nat
  | .lit (.string bytes) => bytes.length + 1
  | .lit _ => 1
  | .nil => 1
  | .ptr d => uptoBulk d + 1
  | .slice elems spare => uptoBulkAll elems + uptoBulkAll spare + 1
  | .agg parts => uptoBulkAll parts + 1
  | .iface _ d => uptoBulk d + 1
  | .map entries => uptoBulkEntries entries + 1
  | .held _ => 1
def uptoBulkAll {H : Type} : List (DataW H) → Nat
  | [] => 0
  | d :: r => uptoBulk d + uptoBulkAll r
def uptoBulkEntries {H : Type} : List (Lit × DataW H) → Nat
  | [] => 0
  | x :: r => uptoBulkEntry x + uptoBulkEntries r
def uptoBulkEntry {H : Type} : Lit × DataW H → Nat
  | (.string bytes, d) => bytes.length + uptoBulk d + 1
  | (_, d) => uptoBulk d + 1
 end
def uptoSmall : (H : Type) → List (DataW H) → Bool := fun _ ds => decide (uptoBulkAll ds ≤ 1048576)
def OpenSpec.upto (s : _root_.Go.ChangeSpec) : _root_.Go.OpenSpec := { _root_.Go.OpenSpec.ofChange s with cond := some uptoSmall }

/-- 'backstaylaw23.GamePlays', WHERE WHAT IT READS IS OF BULK AT MOST 1048576: true; the input reads as it did. -/
def gamePlaysUptoRow : OpenClaim := { program := "ytblnfkhaicjeaaa", sum := "24f1ce1dda02faad49890676c723e995730335c0a398c13395f99f4a44caeac0", func := "backstay/backstaylaw23.GamePlays", spec := "gamePlays", apart := false, narrowed := true }
def GamePlaysUptoSaid : Prop := gamePlaysUptoRow.holds Try.pinned (OpenSpec.upto gamePlaysSpec)

/-- 'backstaylaw23.GameSums', WHERE WHAT IT READS IS OF BULK AT MOST 1048576: true; the input reads as it did. -/
def gameSumsUptoRow : OpenClaim := { program := "ytblnfkhaicjeaaa", sum := "24f1ce1dda02faad49890676c723e995730335c0a398c13395f99f4a44caeac0", func := "backstay/backstaylaw23.GameSums", spec := "gameSums", apart := false, narrowed := true }
def GameSumsUptoSaid : Prop := gameSumsUptoRow.holds Try.pinned (OpenSpec.upto gameSumsSpec)

/-- 'backstaylaw23.GameParts', WHERE WHAT IT READS IS OF BULK AT MOST 1048576: true; the input reads as it did. -/
def gamePartsUptoRow : OpenClaim := { program := "ytblnfkhaicjeaaa", sum := "24f1ce1dda02faad49890676c723e995730335c0a398c13395f99f4a44caeac0", func := "backstay/backstaylaw23.GameParts", spec := "gameParts", apart := false, narrowed := true }
def GamePartsUptoSaid : Prop := gamePartsUptoRow.holds Try.pinned (OpenSpec.upto gamePartsSpec)

/-- 'backstaylaw23.GameHolds', WHERE WHAT IT READS IS OF BULK AT MOST 1048576: true; the input reads as it did. -/
def gameHoldsUptoRow : OpenClaim := { program := "ytblnfkhaicjeaaa", sum := "24f1ce1dda02faad49890676c723e995730335c0a398c13395f99f4a44caeac0", func := "backstay/backstaylaw23.GameHolds", spec := "gameHolds", apart := false, narrowed := true }
def GameHoldsUptoSaid : Prop := gameHoldsUptoRow.holds Try.pinned (OpenSpec.upto gameHoldsSpec)

/-- 'backstaylaw34.BotChooses', WHERE WHAT IT READS IS OF BULK AT MOST 1048576: true; the input reads as it did. -/
def botChoosesUptoRow : OpenClaim := { program := "ytblnfkhaicjeaaa", sum := "24f1ce1dda02faad49890676c723e995730335c0a398c13395f99f4a44caeac0", func := "backstay/backstaylaw34.BotChooses", spec := "botChooses", apart := false, narrowed := true }
def BotChoosesUptoSaid : Prop := botChoosesUptoRow.holds Try.pinned (OpenSpec.upto botChoosesSpec)

/-- 'backstaylaw34.BotMatches', WHERE WHAT IT READS IS OF BULK AT MOST 1048576: true; the input reads as it did. -/
def botMatchesUptoRow : OpenClaim := { program := "ytblnfkhaicjeaaa", sum := "24f1ce1dda02faad49890676c723e995730335c0a398c13395f99f4a44caeac0", func := "backstay/backstaylaw34.BotMatches", spec := "botMatches", apart := false, narrowed := true }
def BotMatchesUptoSaid : Prop := botMatchesUptoRow.holds Try.pinned (OpenSpec.upto botMatchesSpec)

/-- 'backstaylaw24.SavedPlays', WHERE WHAT IT READS IS OF BULK AT MOST 1048576: true; the input reads as it did. -/
def savedPlaysUptoRow : OpenClaim := { program := "ytblnfkhaicjeaaa", sum := "24f1ce1dda02faad49890676c723e995730335c0a398c13395f99f4a44caeac0", func := "backstay/backstaylaw24.SavedPlays", spec := "savedPlays", unfollowed := true, recurses := true, apart := false, narrowed := true }
def SavedPlaysUptoSaid : Prop := savedPlaysUptoRow.holds Try.pinned (OpenSpec.upto savedPlaysSpec)

/-- 'backstaylaw24.SavedTells', WHERE WHAT IT READS IS OF BULK AT MOST 1048576: true; the input reads as it did. -/
def savedTellsUptoRow : OpenClaim := { program := "ytblnfkhaicjeaaa", sum := "24f1ce1dda02faad49890676c723e995730335c0a398c13395f99f4a44caeac0", func := "backstay/backstaylaw24.SavedTells", spec := "savedTells", unfollowed := true, recurses := true, apart := false, narrowed := true }
def SavedTellsUptoSaid : Prop := savedTellsUptoRow.holds Try.pinned (OpenSpec.upto savedTellsSpec)

/-- 'backstaylaw24.SavedDiffers', WHERE WHAT IT READS IS OF BULK AT MOST 1048576: true; the input reads as it did. -/
def savedDiffersUptoRow : OpenClaim := { program := "ytblnfkhaicjeaaa", sum := "24f1ce1dda02faad49890676c723e995730335c0a398c13395f99f4a44caeac0", func := "backstay/backstaylaw24.SavedDiffers", spec := "savedDiffers", unfollowed := true, recurses := true, apart := false, narrowed := true }
def SavedDiffersUptoSaid : Prop := savedDiffersUptoRow.holds Try.pinned (OpenSpec.upto savedDiffersSpec)

/-- 'backstaylaw31.SpectBytes', WHERE WHAT IT READS IS OF BULK AT MOST 1048576: true; the input reads as it did. -/
def spectBytesUptoRow : OpenClaim := { program := "ytblnfkhaicjeaaa", sum := "24f1ce1dda02faad49890676c723e995730335c0a398c13395f99f4a44caeac0", func := "backstay/backstaylaw31.SpectBytes", spec := "spectBytes", unfollowed := true, recurses := true, apart := false, narrowed := true }
def SpectBytesUptoSaid : Prop := spectBytesUptoRow.holds Try.pinned (OpenSpec.upto spectBytesSpec)

/-- 'backstaylaw31.SpectReads', WHERE WHAT IT READS IS OF BULK AT MOST 1048576: true; the input reads as it did. -/
def spectReadsUptoRow : OpenClaim := { program := "ytblnfkhaicjeaaa", sum := "24f1ce1dda02faad49890676c723e995730335c0a398c13395f99f4a44caeac0", func := "backstay/backstaylaw31.SpectReads", spec := "spectReads", unfollowed := true, recurses := true, apart := false, narrowed := true }
def SpectReadsUptoSaid : Prop := spectReadsUptoRow.holds Try.pinned (OpenSpec.upto spectReadsSpec)

/-- 'backstaylaw31.SpectStates', WHERE WHAT IT READS IS OF BULK AT MOST 1048576: true; the input reads as it did. -/
def spectStatesUptoRow : OpenClaim := { program := "ytblnfkhaicjeaaa", sum := "24f1ce1dda02faad49890676c723e995730335c0a398c13395f99f4a44caeac0", func := "backstay/backstaylaw31.SpectStates", spec := "spectStates", unfollowed := true, recurses := true, apart := false, narrowed := true }
def SpectStatesUptoSaid : Prop := spectStatesUptoRow.holds Try.pinned (OpenSpec.upto spectStatesSpec)

end Rows
end Go.Proofs.Ytblnfkhaicjeaaa
