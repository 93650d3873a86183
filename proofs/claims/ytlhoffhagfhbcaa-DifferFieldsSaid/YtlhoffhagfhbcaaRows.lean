/-
  No cell of these rows narrows 'for every input' (looked for: loops, veiled, ifaces, maps, wideKeys, modest, calm, conditions, laid).
  DERIVED. THE GIVEN ROWS OF THIS SEAT. 11 by the template 'for every input the law returns true; each argument reads behind the call as it read before'; 0 by the template 'total and deterministic' (their statements: YtlhoffhagfhbcaaTotals.lean).
  GIVEN WITH THE SEED: the statements are not yours to turn. If you find one false, say at which input.
  Laid BY PROGRAM, IN A SANDBOX (cutbox-rows.mjs): the forced cells as the released guide's own fill.sh prints them over the translation a44c56be6fba3062… (all of the seat's roots in one cut). By AI agents, Wed Nov 11 2026. No macro, syntax, notation, axiom, sorry.
-/
import Derived.Test.YtlhoffhagfhbcaaChecked
import GoSem.Claim
import GoSem.ClaimJoined
import GoSem.ClaimMapViews
import Derived.JoinedTies
import Derived.KernelRfl
namespace Go.Proofs.Ytlhoffhagfhbcaa
/- THE CELL 'sum', in the pinned program and in every row, IS THE sha256 OF THE DUMP (.gsa) THAT YtlhoffhagfhbcaaProg.lean LOADS. Nothing in Lean hashes anything: it is a label: what it is worth is what the hold of that sum in a sandbox is worth. -/
noncomputable def Try.pinned : Pinned := { name := "ytlhoffhagfhbcaa", sum := "a44c56be6fba30628b343d1f4b4e2137a6c380d089cdcd59c9f6f3ae39fdaf0b", checked := Try.checked }
namespace Rows
def none {H : Type} : Left H := { results := [], args := [] }

/-- 'backstaylaw36.DifferFields': WHATEVER THE INPUT: true; the input reads as it did. -/
def differFieldsSpec : ChangeSpec := { name := "differFields", fn := fun _ => fun
  | [d1, d2] => { results := [.lit (.bool true)], args := [d1, d2] }
  | _ => none }
def differFieldsRow : OpenClaim := { program := "ytlhoffhagfhbcaa", sum := "a44c56be6fba30628b343d1f4b4e2137a6c380d089cdcd59c9f6f3ae39fdaf0b", func := "backstay/backstaylaw36.DifferFields", spec := "differFields", inPlace := ["internal/abi.NoEscape"], unfollowed := true, recurses := true, apart := false }
def DifferFieldsSaid : Prop := differFieldsRow.holds Try.pinned (OpenSpec.ofChange differFieldsSpec)

/-- ITS FALSE NEIGHBOUR: 'it returns false'. Refute it at one input. -/
def differFieldsWrong : ChangeSpec := { name := "differFields", fn := fun _ => fun
  | [d1, d2] => { results := [.lit (.bool false)], args := [d1, d2] }
  | _ => none }
def DifferFieldsWrongFalsely : Prop := differFieldsRow.holds Try.pinned (OpenSpec.ofChange differFieldsWrong)

/-- 'backstaylaw36.DifferTells': WHATEVER THE INPUT: true; the input reads as it did. -/
def differTellsSpec : ChangeSpec := { name := "differTells", fn := fun _ => fun
  | [d1, d2] => { results := [.lit (.bool true)], args := [d1, d2] }
  | _ => none }
def differTellsRow : OpenClaim := { program := "ytlhoffhagfhbcaa", sum := "a44c56be6fba30628b343d1f4b4e2137a6c380d089cdcd59c9f6f3ae39fdaf0b", func := "backstay/backstaylaw36.DifferTells", spec := "differTells", inPlace := ["internal/abi.NoEscape"], unfollowed := true, recurses := true, apart := false }
def DifferTellsSaid : Prop := differTellsRow.holds Try.pinned (OpenSpec.ofChange differTellsSpec)

/-- ITS FALSE NEIGHBOUR: 'it returns false'. Refute it at one input. -/
def differTellsWrong : ChangeSpec := { name := "differTells", fn := fun _ => fun
  | [d1, d2] => { results := [.lit (.bool false)], args := [d1, d2] }
  | _ => none }
def DifferTellsWrongFalsely : Prop := differTellsRow.holds Try.pinned (OpenSpec.ofChange differTellsWrong)

/-- 'backstaylaw36.DifferFinds': WHATEVER THE INPUT: true; the input reads as it did. -/
def differFindsSpec : ChangeSpec := { name := "differFinds", fn := fun _ => fun
  | [d1, d2, d3] => { results := [.lit (.bool true)], args := [d1, d2, d3] }
  | _ => none }
def differFindsRow : OpenClaim := { program := "ytlhoffhagfhbcaa", sum := "a44c56be6fba30628b343d1f4b4e2137a6c380d089cdcd59c9f6f3ae39fdaf0b", func := "backstay/backstaylaw36.DifferFinds", spec := "differFinds", inPlace := ["internal/abi.NoEscape"], unfollowed := true, recurses := true, apart := false }
def DifferFindsSaid : Prop := differFindsRow.holds Try.pinned (OpenSpec.ofChange differFindsSpec)

/-- ITS FALSE NEIGHBOUR: 'it returns false'. Refute it at one input. -/
def differFindsWrong : ChangeSpec := { name := "differFinds", fn := fun _ => fun
  | [d1, d2, d3] => { results := [.lit (.bool false)], args := [d1, d2, d3] }
  | _ => none }
def DifferFindsWrongFalsely : Prop := differFindsRow.holds Try.pinned (OpenSpec.ofChange differFindsWrong)

/-- 'backstaylaw36.DifferBehind': WHATEVER THE INPUT: true; the input reads as it did. -/
def differBehindSpec : ChangeSpec := { name := "differBehind", fn := fun _ => fun
  | [d1, d2] => { results := [.lit (.bool true)], args := [d1, d2] }
  | _ => none }
def differBehindRow : OpenClaim := { program := "ytlhoffhagfhbcaa", sum := "a44c56be6fba30628b343d1f4b4e2137a6c380d089cdcd59c9f6f3ae39fdaf0b", func := "backstay/backstaylaw36.DifferBehind", spec := "differBehind", inPlace := ["internal/abi.NoEscape"], unfollowed := true, recurses := true, apart := false }
def DifferBehindSaid : Prop := differBehindRow.holds Try.pinned (OpenSpec.ofChange differBehindSpec)

/-- ITS FALSE NEIGHBOUR: 'it returns false'. Refute it at one input. -/
def differBehindWrong : ChangeSpec := { name := "differBehind", fn := fun _ => fun
  | [d1, d2] => { results := [.lit (.bool false)], args := [d1, d2] }
  | _ => none }
def DifferBehindWrongFalsely : Prop := differBehindRow.holds Try.pinned (OpenSpec.ofChange differBehindWrong)

/-- 'backstaylaw23.GameSums': WHATEVER THE INPUT: true; the input reads as it did. -/
def gameSumsSpec : ChangeSpec := { name := "gameSums", fn := fun _ => fun
  | [d] => { results := [.lit (.bool true)], args := [d] }
  | _ => none }
def gameSumsRow : OpenClaim := { program := "ytlhoffhagfhbcaa", sum := "a44c56be6fba30628b343d1f4b4e2137a6c380d089cdcd59c9f6f3ae39fdaf0b", func := "backstay/backstaylaw23.GameSums", spec := "gameSums", apart := false }
def GameSumsSaid : Prop := gameSumsRow.holds Try.pinned (OpenSpec.ofChange gameSumsSpec)

/-- ITS FALSE NEIGHBOUR: 'it returns false'. Refute it at one input. -/
def gameSumsWrong : ChangeSpec := { name := "gameSums", fn := fun _ => fun
  | [d] => { results := [.lit (.bool false)], args := [d] }
  | _ => none }
def GameSumsWrongFalsely : Prop := gameSumsRow.holds Try.pinned (OpenSpec.ofChange gameSumsWrong)

/-- 'backstaylaw23.GameHolds': WHATEVER THE INPUT: true; the input reads as it did. -/
def gameHoldsSpec : ChangeSpec := { name := "gameHolds", fn := fun _ => fun
  | [d1, d2] => { results := [.lit (.bool true)], args := [d1, d2] }
  | _ => none }
def gameHoldsRow : OpenClaim := { program := "ytlhoffhagfhbcaa", sum := "a44c56be6fba30628b343d1f4b4e2137a6c380d089cdcd59c9f6f3ae39fdaf0b", func := "backstay/backstaylaw23.GameHolds", spec := "gameHolds", apart := false }
def GameHoldsSaid : Prop := gameHoldsRow.holds Try.pinned (OpenSpec.ofChange gameHoldsSpec)

/-- ITS FALSE NEIGHBOUR: 'it returns false'. Refute it at one input. -/
def gameHoldsWrong : ChangeSpec := { name := "gameHolds", fn := fun _ => fun
  | [d1, d2] => { results := [.lit (.bool false)], args := [d1, d2] }
  | _ => none }
def GameHoldsWrongFalsely : Prop := gameHoldsRow.holds Try.pinned (OpenSpec.ofChange gameHoldsWrong)

/-- 'backstaylaw23.GamePlays': WHATEVER THE INPUT: true; the input reads as it did. -/
def gamePlaysSpec : ChangeSpec := { name := "gamePlays", fn := fun _ => fun
  | [d1, d2] => { results := [.lit (.bool true)], args := [d1, d2] }
  | _ => none }
def gamePlaysRow : OpenClaim := { program := "ytlhoffhagfhbcaa", sum := "a44c56be6fba30628b343d1f4b4e2137a6c380d089cdcd59c9f6f3ae39fdaf0b", func := "backstay/backstaylaw23.GamePlays", spec := "gamePlays", apart := false }
def GamePlaysSaid : Prop := gamePlaysRow.holds Try.pinned (OpenSpec.ofChange gamePlaysSpec)

/-- ITS FALSE NEIGHBOUR: 'it returns false'. Refute it at one input. -/
def gamePlaysWrong : ChangeSpec := { name := "gamePlays", fn := fun _ => fun
  | [d1, d2] => { results := [.lit (.bool false)], args := [d1, d2] }
  | _ => none }
def GamePlaysWrongFalsely : Prop := gamePlaysRow.holds Try.pinned (OpenSpec.ofChange gamePlaysWrong)

/-- 'backstaylaw24.SavedPlays': WHATEVER THE INPUT: true; the input reads as it did. -/
def savedPlaysSpec : ChangeSpec := { name := "savedPlays", fn := fun _ => fun
  | [d1, d2] => { results := [.lit (.bool true)], args := [d1, d2] }
  | _ => none }
def savedPlaysRow : OpenClaim := { program := "ytlhoffhagfhbcaa", sum := "a44c56be6fba30628b343d1f4b4e2137a6c380d089cdcd59c9f6f3ae39fdaf0b", func := "backstay/backstaylaw24.SavedPlays", spec := "savedPlays", unfollowed := true, recurses := true, apart := false }
def SavedPlaysSaid : Prop := savedPlaysRow.holds Try.pinned (OpenSpec.ofChange savedPlaysSpec)

/-- ITS FALSE NEIGHBOUR: 'it returns false'. Refute it at one input. -/
def savedPlaysWrong : ChangeSpec := { name := "savedPlays", fn := fun _ => fun
  | [d1, d2] => { results := [.lit (.bool false)], args := [d1, d2] }
  | _ => none }
def SavedPlaysWrongFalsely : Prop := savedPlaysRow.holds Try.pinned (OpenSpec.ofChange savedPlaysWrong)

/-- 'backstaylaw31.SpectBytes': WHATEVER THE INPUT: true; the input reads as it did. -/
def spectBytesSpec : ChangeSpec := { name := "spectBytes", fn := fun _ => fun
  | [d] => { results := [.lit (.bool true)], args := [d] }
  | _ => none }
def spectBytesRow : OpenClaim := { program := "ytlhoffhagfhbcaa", sum := "a44c56be6fba30628b343d1f4b4e2137a6c380d089cdcd59c9f6f3ae39fdaf0b", func := "backstay/backstaylaw31.SpectBytes", spec := "spectBytes", unfollowed := true, recurses := true, apart := false }
def SpectBytesSaid : Prop := spectBytesRow.holds Try.pinned (OpenSpec.ofChange spectBytesSpec)

/-- ITS FALSE NEIGHBOUR: 'it returns false'. Refute it at one input. -/
def spectBytesWrong : ChangeSpec := { name := "spectBytes", fn := fun _ => fun
  | [d] => { results := [.lit (.bool false)], args := [d] }
  | _ => none }
def SpectBytesWrongFalsely : Prop := spectBytesRow.holds Try.pinned (OpenSpec.ofChange spectBytesWrong)

/-- 'backstaylaw31.SpectReads': WHATEVER THE INPUT: true; the input reads as it did. -/
def spectReadsSpec : ChangeSpec := { name := "spectReads", fn := fun _ => fun
  | [d] => { results := [.lit (.bool true)], args := [d] }
  | _ => none }
def spectReadsRow : OpenClaim := { program := "ytlhoffhagfhbcaa", sum := "a44c56be6fba30628b343d1f4b4e2137a6c380d089cdcd59c9f6f3ae39fdaf0b", func := "backstay/backstaylaw31.SpectReads", spec := "spectReads", unfollowed := true, recurses := true, apart := false }
def SpectReadsSaid : Prop := spectReadsRow.holds Try.pinned (OpenSpec.ofChange spectReadsSpec)

/-- ITS FALSE NEIGHBOUR: 'it returns false'. Refute it at one input. -/
def spectReadsWrong : ChangeSpec := { name := "spectReads", fn := fun _ => fun
  | [d] => { results := [.lit (.bool false)], args := [d] }
  | _ => none }
def SpectReadsWrongFalsely : Prop := spectReadsRow.holds Try.pinned (OpenSpec.ofChange spectReadsWrong)

/-- 'backstaylaw31.SpectStates': WHATEVER THE INPUT: true; the input reads as it did. -/
def spectStatesSpec : ChangeSpec := { name := "spectStates", fn := fun _ => fun
  | [d1, d2, d3] => { results := [.lit (.bool true)], args := [d1, d2, d3] }
  | _ => none }
def spectStatesRow : OpenClaim := { program := "ytlhoffhagfhbcaa", sum := "a44c56be6fba30628b343d1f4b4e2137a6c380d089cdcd59c9f6f3ae39fdaf0b", func := "backstay/backstaylaw31.SpectStates", spec := "spectStates", unfollowed := true, recurses := true, apart := false }
def SpectStatesSaid : Prop := spectStatesRow.holds Try.pinned (OpenSpec.ofChange spectStatesSpec)

/-- ITS FALSE NEIGHBOUR: 'it returns false'. Refute it at one input. -/
def spectStatesWrong : ChangeSpec := { name := "spectStates", fn := fun _ => fun
  | [d1, d2, d3] => { results := [.lit (.bool false)], args := [d1, d2, d3] }
  | _ => none }
def SpectStatesWrongFalsely : Prop := spectStatesRow.holds Try.pinned (OpenSpec.ofChange spectStatesWrong)

/- THE SECOND FORM. 'bulk': how many values and letters a reading holds, each counted each time it is reached (what is shared counts as often as it is met; a slice's spare places count too). A statement '..UptoSaid' is the law's where the arguments, and the package variables that the reading takes, are together of bulk at most 1048576: NARROWER than '..Said'. Prove '..Said' where nothing that the law and all that it calls make is longer than what came in: it says more and counts as full. Else prove '..UptoSaid'. A law counts once. -/
mutual
def uptoBulk {H : Type} : DataW H → Nat
  | .lit (.string bytes) => bytes.length + 1
  | .lit _ => 1
  | .nil => 1
  | .ptr d => uptoBulk d + 1
  | .slice elems spare => uptoBulkAll elems + uptoBulkAll spare + 1
  | .agg parts => uptoBulkAll parts + 1
  | .iface _ d => uptoBulk d + 1
  | .map entries => uptoBulkEntries entries + 1
  | .held _ => 1
def uptoBulkAll {H : Type} : List (DataW H) → Nat
  | [] => 0
  | d :: r => uptoBulk d + uptoBulkAll r
def uptoBulkEntries {H : Type} : List (Lit × DataW H) → Nat
  | [] => 0
  | x :: r => uptoBulkEntry x + uptoBulkEntries r
def uptoBulkEntry {H : Type} : Lit × DataW H → Nat
  | (.string bytes, d) => bytes.length + uptoBulk d + 1
  | (_, d) => uptoBulk d + 1
 end
def uptoSmall : (H : Type) → List (DataW H) → Bool := fun _ ds => decide (uptoBulkAll ds ≤ 1048576)
def OpenSpec.upto (s : _root_.Go.ChangeSpec) : _root_.Go.OpenSpec := { _root_.Go.OpenSpec.ofChange s with cond := some uptoSmall }

/-- 'backstaylaw36.DifferFields', WHERE WHAT IT READS IS OF BULK AT MOST 1048576: true; the input reads as it did. -/
def differFieldsUptoRow : OpenClaim := { program := "ytlhoffhagfhbcaa", sum := "a44c56be6fba30628b343d1f4b4e2137a6c380d089cdcd59c9f6f3ae39fdaf0b", func := "backstay/backstaylaw36.DifferFields", spec := "differFields", inPlace := ["internal/abi.NoEscape"], unfollowed := true, recurses := true, apart := false, narrowed := true }
def DifferFieldsUptoSaid : Prop := differFieldsUptoRow.holds Try.pinned (OpenSpec.upto differFieldsSpec)

/-- 'backstaylaw36.DifferTells', WHERE WHAT IT READS IS OF BULK AT MOST 1048576: true; the input reads as it did. -/
def differTellsUptoRow : OpenClaim := { program := "ytlhoffhagfhbcaa", sum := "a44c56be6fba30628b343d1f4b4e2137a6c380d089cdcd59c9f6f3ae39fdaf0b", func := "backstay/backstaylaw36.DifferTells", spec := "differTells", inPlace := ["internal/abi.NoEscape"], unfollowed := true, recurses := true, apart := false, narrowed := true }
def DifferTellsUptoSaid : Prop := differTellsUptoRow.holds Try.pinned (OpenSpec.upto differTellsSpec)

/-- 'backstaylaw36.DifferFinds', WHERE WHAT IT READS IS OF BULK AT MOST 1048576: true; the input reads as it did. -/
def differFindsUptoRow : OpenClaim := { program := "ytlhoffhagfhbcaa", sum := "a44c56be6fba30628b343d1f4b4e2137a6c380d089cdcd59c9f6f3ae39fdaf0b", func := "backstay/backstaylaw36.DifferFinds", spec := "differFinds", inPlace := ["internal/abi.NoEscape"], unfollowed := true, recurses := true, apart := false, narrowed := true }
def DifferFindsUptoSaid : Prop := differFindsUptoRow.holds Try.pinned (OpenSpec.upto differFindsSpec)

/-- 'backstaylaw36.DifferBehind', WHERE WHAT IT READS IS OF BULK AT MOST 1048576: true; the input reads as it did. -/
def differBehindUptoRow : OpenClaim := { program := "ytlhoffhagfhbcaa", sum := "a44c56be6fba30628b343d1f4b4e2137a6c380d089cdcd59c9f6f3ae39fdaf0b", func := "backstay/backstaylaw36.DifferBehind", spec := "differBehind", inPlace := ["internal/abi.NoEscape"], unfollowed := true, recurses := true, apart := false, narrowed := true }
def DifferBehindUptoSaid : Prop := differBehindUptoRow.holds Try.pinned (OpenSpec.upto differBehindSpec)

/-- 'backstaylaw23.GameSums', WHERE WHAT IT READS IS OF BULK AT MOST 1048576: true; the input reads as it did. -/
def gameSumsUptoRow : OpenClaim := { program := "ytlhoffhagfhbcaa", sum := "a44c56be6fba30628b343d1f4b4e2137a6c380d089cdcd59c9f6f3ae39fdaf0b", func := "backstay/backstaylaw23.GameSums", spec := "gameSums", apart := false, narrowed := true }
def GameSumsUptoSaid : Prop := gameSumsUptoRow.holds Try.pinned (OpenSpec.upto gameSumsSpec)

/-- 'backstaylaw23.GameHolds', WHERE WHAT IT READS IS OF BULK AT MOST 1048576: true; the input reads as it did. -/
def gameHoldsUptoRow : OpenClaim := { program := "ytlhoffhagfhbcaa", sum := "a44c56be6fba30628b343d1f4b4e2137a6c380d089cdcd59c9f6f3ae39fdaf0b", func := "backstay/backstaylaw23.GameHolds", spec := "gameHolds", apart := false, narrowed := true }
def GameHoldsUptoSaid : Prop := gameHoldsUptoRow.holds Try.pinned (OpenSpec.upto gameHoldsSpec)

/-- 'backstaylaw23.GamePlays', WHERE WHAT IT READS IS OF BULK AT MOST 1048576: true; the input reads as it did. -/
def gamePlaysUptoRow : OpenClaim := { program := "ytlhoffhagfhbcaa", sum := "a44c56be6fba30628b343d1f4b4e2137a6c380d089cdcd59c9f6f3ae39fdaf0b", func := "backstay/backstaylaw23.GamePlays", spec := "gamePlays", apart := false, narrowed := true }
def GamePlaysUptoSaid : Prop := gamePlaysUptoRow.holds Try.pinned (OpenSpec.upto gamePlaysSpec)

/-- 'backstaylaw24.SavedPlays', WHERE WHAT IT READS IS OF BULK AT MOST 1048576: true; the input reads as it did. -/
def savedPlaysUptoRow : OpenClaim := { program := "ytlhoffhagfhbcaa", sum := "a44c56be6fba30628b343d1f4b4e2137a6c380d089cdcd59c9f6f3ae39fdaf0b", func := "backstay/backstaylaw24.SavedPlays", spec := "savedPlays", unfollowed := true, recurses := true, apart := false, narrowed := true }
def SavedPlaysUptoSaid : Prop := savedPlaysUptoRow.holds Try.pinned (OpenSpec.upto savedPlaysSpec)

/-- 'backstaylaw31.SpectBytes', WHERE WHAT IT READS IS OF BULK AT MOST 1048576: true; the input reads as it did. -/
def spectBytesUptoRow : OpenClaim := { program := "ytlhoffhagfhbcaa", sum := "a44c56be6fba30628b343d1f4b4e2137a6c380d089cdcd59c9f6f3ae39fdaf0b", func := "backstay/backstaylaw31.SpectBytes", spec := "spectBytes", unfollowed := true, recurses := true, apart := false, narrowed := true }
def SpectBytesUptoSaid : Prop := spectBytesUptoRow.holds Try.pinned (OpenSpec.upto spectBytesSpec)

/-- 'backstaylaw31.SpectReads', WHERE WHAT IT READS IS OF BULK AT MOST 1048576: true; the input reads as it did. -/
def spectReadsUptoRow : OpenClaim := { program := "ytlhoffhagfhbcaa", sum := "a44c56be6fba30628b343d1f4b4e2137a6c380d089cdcd59c9f6f3ae39fdaf0b", func := "backstay/backstaylaw31.SpectReads", spec := "spectReads", unfollowed := true, recurses := true, apart := false, narrowed := true }
def SpectReadsUptoSaid : Prop := spectReadsUptoRow.holds Try.pinned (OpenSpec.upto spectReadsSpec)

/-- 'backstaylaw31.SpectStates', WHERE WHAT IT READS IS OF BULK AT MOST 1048576: true; the input reads as it did. -/
def spectStatesUptoRow : OpenClaim := { program := "ytlhoffhagfhbcaa", sum := "a44c56be6fba30628b343d1f4b4e2137a6c380d089cdcd59c9f6f3ae39fdaf0b", func := "backstay/backstaylaw31.SpectStates", spec := "spectStates", unfollowed := true, recurses := true, apart := false, narrowed := true }
def SpectStatesUptoSaid : Prop := spectStatesUptoRow.holds Try.pinned (OpenSpec.upto spectStatesSpec)

end Rows
end Go.Proofs.Ytlhoffhagfhbcaa
