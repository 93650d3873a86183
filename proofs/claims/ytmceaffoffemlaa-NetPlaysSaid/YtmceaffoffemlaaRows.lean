/-
  No cell of these rows narrows 'for every input' (looked for: loops, veiled, ifaces, maps, wideKeys, modest, calm, conditions, laid).
  DERIVED. THE GIVEN ROWS OF THIS SEAT. 7 by the template 'for every input the law returns true; each argument reads behind the call as it read before'; 0 by the template 'total and deterministic' (their statements: YtmceaffoffemlaaTotals.lean).
  GIVEN WITH THE SEED: the statements are not yours to turn. If you find one false, say at which input.
  Laid BY PROGRAM, IN A SANDBOX (cutbox-rows.mjs): the forced cells as the released guide's own fill.sh prints them over the translation a7b56887a677cab3… (all of the seat's roots in one cut). By AI agents, Wed Nov 11 2026. No macro, syntax, notation, axiom, sorry.
-/
import Derived.Test.YtmceaffoffemlaaChecked
import GoSem.Claim
import GoSem.ClaimJoined
import GoSem.ClaimMapViews
import Derived.JoinedTies
import Derived.KernelRfl
namespace Go.Proofs.Ytmceaffoffemlaa
/- THE CELL 'sum', in the pinned program and in every row, IS THE sha256 OF THE DUMP (.gsa) THAT YtmceaffoffemlaaProg.lean LOADS. Nothing in Lean hashes anything: it is a label: what it is worth is what the hold of that sum in a sandbox is worth. -/
noncomputable def Try.pinned : Pinned := { name := "ytmceaffoffemlaa", sum := "a7b56887a677cab3a6c3dbf580603be1bd6102a3714086b0d037adb6b06c53d4", checked := Try.checked }
namespace Rows
def none {H : Type} : Left H := { results := [], args := [] }

/-- 'backstaylaw29.NetKeeps': WHATEVER THE INPUT: true; the input reads as it did. -/
def netKeepsSpec : ChangeSpec := { name := "netKeeps", fn := fun _ => fun
  | [d1, d2] => { results := [.lit (.bool true)], args := [d1, d2] }
  | _ => none }
def netKeepsRow : OpenClaim := { program := "ytmceaffoffemlaa", sum := "a7b56887a677cab3a6c3dbf580603be1bd6102a3714086b0d037adb6b06c53d4", func := "backstay/backstaylaw29.NetKeeps", spec := "netKeeps", apart := false }
def NetKeepsSaid : Prop := netKeepsRow.holds Try.pinned (OpenSpec.ofChange netKeepsSpec)

/-- ITS FALSE NEIGHBOUR: 'it returns false'. Refute it at one input. -/
def netKeepsWrong : ChangeSpec := { name := "netKeeps", fn := fun _ => fun
  | [d1, d2] => { results := [.lit (.bool false)], args := [d1, d2] }
  | _ => none }
def NetKeepsWrongFalsely : Prop := netKeepsRow.holds Try.pinned (OpenSpec.ofChange netKeepsWrong)

/-- 'backstaylaw37.MeterParts': WHATEVER THE INPUT: true; the input reads as it did. -/
def meterPartsSpec : ChangeSpec := { name := "meterParts", fn := fun _ => fun
  | [d1, d2, d3] => { results := [.lit (.bool true)], args := [d1, d2, d3] }
  | _ => none }
def meterPartsRow : OpenClaim := { program := "ytmceaffoffemlaa", sum := "a7b56887a677cab3a6c3dbf580603be1bd6102a3714086b0d037adb6b06c53d4", func := "backstay/backstaylaw37.MeterParts", spec := "meterParts", apart := false }
def MeterPartsSaid : Prop := meterPartsRow.holds Try.pinned (OpenSpec.ofChange meterPartsSpec)

/-- ITS FALSE NEIGHBOUR: 'it returns false'. Refute it at one input. -/
def meterPartsWrong : ChangeSpec := { name := "meterParts", fn := fun _ => fun
  | [d1, d2, d3] => { results := [.lit (.bool false)], args := [d1, d2, d3] }
  | _ => none }
def MeterPartsWrongFalsely : Prop := meterPartsRow.holds Try.pinned (OpenSpec.ofChange meterPartsWrong)

/-- 'backstaylaw37.MeterCounts': WHATEVER THE INPUT: true; the input reads as it did. -/
def meterCountsSpec : ChangeSpec := { name := "meterCounts", fn := fun _ => fun
  | [d1, d2] => { results := [.lit (.bool true)], args := [d1, d2] }
  | _ => none }
def meterCountsRow : OpenClaim := { program := "ytmceaffoffemlaa", sum := "a7b56887a677cab3a6c3dbf580603be1bd6102a3714086b0d037adb6b06c53d4", func := "backstay/backstaylaw37.MeterCounts", spec := "meterCounts", unfollowed := true, recurses := true, apart := false }
def MeterCountsSaid : Prop := meterCountsRow.holds Try.pinned (OpenSpec.ofChange meterCountsSpec)

/-- ITS FALSE NEIGHBOUR: 'it returns false'. Refute it at one input. -/
def meterCountsWrong : ChangeSpec := { name := "meterCounts", fn := fun _ => fun
  | [d1, d2] => { results := [.lit (.bool false)], args := [d1, d2] }
  | _ => none }
def MeterCountsWrongFalsely : Prop := meterCountsRow.holds Try.pinned (OpenSpec.ofChange meterCountsWrong)

/-- 'backstaylaw37.MeterJoins': WHATEVER THE INPUT: true; the input reads as it did. -/
def meterJoinsSpec : ChangeSpec := { name := "meterJoins", fn := fun _ => fun
  | [d1, d2] => { results := [.lit (.bool true)], args := [d1, d2] }
  | _ => none }
def meterJoinsRow : OpenClaim := { program := "ytmceaffoffemlaa", sum := "a7b56887a677cab3a6c3dbf580603be1bd6102a3714086b0d037adb6b06c53d4", func := "backstay/backstaylaw37.MeterJoins", spec := "meterJoins", unfollowed := true, recurses := true, apart := false }
def MeterJoinsSaid : Prop := meterJoinsRow.holds Try.pinned (OpenSpec.ofChange meterJoinsSpec)

/-- ITS FALSE NEIGHBOUR: 'it returns false'. Refute it at one input. -/
def meterJoinsWrong : ChangeSpec := { name := "meterJoins", fn := fun _ => fun
  | [d1, d2] => { results := [.lit (.bool false)], args := [d1, d2] }
  | _ => none }
def MeterJoinsWrongFalsely : Prop := meterJoinsRow.holds Try.pinned (OpenSpec.ofChange meterJoinsWrong)

/-- 'backstaylaw37.MeterFlows': WHATEVER THE INPUT: true; the input reads as it did. -/
def meterFlowsSpec : ChangeSpec := { name := "meterFlows", fn := fun _ => fun
  | [d1, d2] => { results := [.lit (.bool true)], args := [d1, d2] }
  | _ => none }
def meterFlowsRow : OpenClaim := { program := "ytmceaffoffemlaa", sum := "a7b56887a677cab3a6c3dbf580603be1bd6102a3714086b0d037adb6b06c53d4", func := "backstay/backstaylaw37.MeterFlows", spec := "meterFlows", apart := false }
def MeterFlowsSaid : Prop := meterFlowsRow.holds Try.pinned (OpenSpec.ofChange meterFlowsSpec)

/-- ITS FALSE NEIGHBOUR: 'it returns false'. Refute it at one input. -/
def meterFlowsWrong : ChangeSpec := { name := "meterFlows", fn := fun _ => fun
  | [d1, d2] => { results := [.lit (.bool false)], args := [d1, d2] }
  | _ => none }
def MeterFlowsWrongFalsely : Prop := meterFlowsRow.holds Try.pinned (OpenSpec.ofChange meterFlowsWrong)

/-- 'backstaylaw29.NetPlays': WHATEVER THE INPUT: true; the input reads as it did. -/
def netPlaysSpec : ChangeSpec := { name := "netPlays", fn := fun _ => fun
  | [d] => { results := [.lit (.bool true)], args := [d] }
  | _ => none }
def netPlaysRow : OpenClaim := { program := "ytmceaffoffemlaa", sum := "a7b56887a677cab3a6c3dbf580603be1bd6102a3714086b0d037adb6b06c53d4", func := "backstay/backstaylaw29.NetPlays", spec := "netPlays", unfollowed := true, recurses := true, apart := false }
def NetPlaysSaid : Prop := netPlaysRow.holds Try.pinned (OpenSpec.ofChange netPlaysSpec)

/-- ITS FALSE NEIGHBOUR: 'it returns false'. Refute it at one input. -/
def netPlaysWrong : ChangeSpec := { name := "netPlays", fn := fun _ => fun
  | [d] => { results := [.lit (.bool false)], args := [d] }
  | _ => none }
def NetPlaysWrongFalsely : Prop := netPlaysRow.holds Try.pinned (OpenSpec.ofChange netPlaysWrong)

/-- 'backstaylaw29.NetStrange': WHATEVER THE INPUT: true; the input reads as it did. -/
def netStrangeSpec : ChangeSpec := { name := "netStrange", fn := fun _ => fun
  | [d1, d2, d3] => { results := [.lit (.bool true)], args := [d1, d2, d3] }
  | _ => none }
def netStrangeRow : OpenClaim := { program := "ytmceaffoffemlaa", sum := "a7b56887a677cab3a6c3dbf580603be1bd6102a3714086b0d037adb6b06c53d4", func := "backstay/backstaylaw29.NetStrange", spec := "netStrange", unfollowed := true, recurses := true, apart := false }
def NetStrangeSaid : Prop := netStrangeRow.holds Try.pinned (OpenSpec.ofChange netStrangeSpec)

/-- ITS FALSE NEIGHBOUR: 'it returns false'. Refute it at one input. -/
def netStrangeWrong : ChangeSpec := { name := "netStrange", fn := fun _ => fun
  | [d1, d2, d3] => { results := [.lit (.bool false)], args := [d1, d2, d3] }
  | _ => none }
def NetStrangeWrongFalsely : Prop := netStrangeRow.holds Try.pinned (OpenSpec.ofChange netStrangeWrong)

/- THE SECOND FORM. 'bulk': how many values and letters a reading holds, each counted each time it is reached (what is shared counts as often as it is met; a slice's spare places count too). A statement '..UptoSaid' is the law's where the arguments, and the package variables that the reading takes, are together of bulk at most 1048576: NARROWER than '..Said'. Prove '..Said' where nothing that the law and all that it calls make is longer than what came in: it says more and counts as full. Else prove '..UptoSaid'. A law counts once. -/
mutual
def uptoBulk {H : Type} : DataW H → Nat
  | .lit (.string bytes) => bytes.length + 1
  | .lit _ => 1
  | .nil => 1
  | .ptr d => uptoBulk d + 1
  | .slice elems spare => uptoBulkAll elems + uptoBulkAll spare + 1
  | .agg parts => uptoBulkAll parts + 1
  | .iface _ d => uptoBulk d + 1
  | .map entries => uptoBulkEntries entries + 1
  | .held _ => 1
def uptoBulkAll {H : Type} : List (DataW H) → Nat
  | [] => 0
  | d :: r => uptoBulk d + uptoBulkAll r
def uptoBulkEntries {H : Type} : List (Lit × DataW H) → Nat
  | [] => 0
  | x :: r => uptoBulkEntry x + uptoBulkEntries r
def uptoBulkEntry {H : Type} : Lit × DataW H → Nat
  | (.string bytes, d) => bytes.length + uptoBulk d + 1
  | (_, d) => uptoBulk d + 1
 end
def uptoSmall : (H : Type) → List (DataW H) → Bool := fun _ ds => decide (uptoBulkAll ds ≤ 1048576)
def OpenSpec.upto (s : _root_.Go.ChangeSpec) : _root_.Go.OpenSpec := { _root_.Go.OpenSpec.ofChange s with cond := some uptoSmall }

/-- 'backstaylaw29.NetKeeps', WHERE WHAT IT READS IS OF BULK AT MOST 1048576: true; the input reads as it did. -/
def netKeepsUptoRow : OpenClaim := { program := "ytmceaffoffemlaa", sum := "a7b56887a677cab3a6c3dbf580603be1bd6102a3714086b0d037adb6b06c53d4", func := "backstay/backstaylaw29.NetKeeps", spec := "netKeeps", apart := false, narrowed := true }
def NetKeepsUptoSaid : Prop := netKeepsUptoRow.holds Try.pinned (OpenSpec.upto netKeepsSpec)

/-- 'backstaylaw37.MeterParts', WHERE WHAT IT READS IS OF BULK AT MOST 1048576: true; the input reads as it did. -/
def meterPartsUptoRow : OpenClaim := { program := "ytmceaffoffemlaa", sum := "a7b56887a677cab3a6c3dbf580603be1bd6102a3714086b0d037adb6b06c53d4", func := "backstay/backstaylaw37.MeterParts", spec := "meterParts", apart := false, narrowed := true }
def MeterPartsUptoSaid : Prop := meterPartsUptoRow.holds Try.pinned (OpenSpec.upto meterPartsSpec)

/-- 'backstaylaw37.MeterCounts', WHERE WHAT IT READS IS OF BULK AT MOST 1048576: true; the input reads as it did. -/
def meterCountsUptoRow : OpenClaim := { program := "ytmceaffoffemlaa", sum := "a7b56887a677cab3a6c3dbf580603be1bd6102a3714086b0d037adb6b06c53d4", func := "backstay/backstaylaw37.MeterCounts", spec := "meterCounts", unfollowed := true, recurses := true, apart := false, narrowed := true }
def MeterCountsUptoSaid : Prop := meterCountsUptoRow.holds Try.pinned (OpenSpec.upto meterCountsSpec)

/-- 'backstaylaw37.MeterJoins', WHERE WHAT IT READS IS OF BULK AT MOST 1048576: true; the input reads as it did. -/
def meterJoinsUptoRow : OpenClaim := { program := "ytmceaffoffemlaa", sum := "a7b56887a677cab3a6c3dbf580603be1bd6102a3714086b0d037adb6b06c53d4", func := "backstay/backstaylaw37.MeterJoins", spec := "meterJoins", unfollowed := true, recurses := true, apart := false, narrowed := true }
def MeterJoinsUptoSaid : Prop := meterJoinsUptoRow.holds Try.pinned (OpenSpec.upto meterJoinsSpec)

/-- 'backstaylaw37.MeterFlows', WHERE WHAT IT READS IS OF BULK AT MOST 1048576: true; the input reads as it did. -/
def meterFlowsUptoRow : OpenClaim := { program := "ytmceaffoffemlaa", sum := "a7b56887a677cab3a6c3dbf580603be1bd6102a3714086b0d037adb6b06c53d4", func := "backstay/backstaylaw37.MeterFlows", spec := "meterFlows", apart := false, narrowed := true }
def MeterFlowsUptoSaid : Prop := meterFlowsUptoRow.holds Try.pinned (OpenSpec.upto meterFlowsSpec)

/-- 'backstaylaw29.NetPlays', WHERE WHAT IT READS IS OF BULK AT MOST 1048576: true; the input reads as it did. -/
def netPlaysUptoRow : OpenClaim := { program := "ytmceaffoffemlaa", sum := "a7b56887a677cab3a6c3dbf580603be1bd6102a3714086b0d037adb6b06c53d4", func := "backstay/backstaylaw29.NetPlays", spec := "netPlays", unfollowed := true, recurses := true, apart := false, narrowed := true }
def NetPlaysUptoSaid : Prop := netPlaysUptoRow.holds Try.pinned (OpenSpec.upto netPlaysSpec)

/-- 'backstaylaw29.NetStrange', WHERE WHAT IT READS IS OF BULK AT MOST 1048576: true; the input reads as it did. -/
def netStrangeUptoRow : OpenClaim := { program := "ytmceaffoffemlaa", sum := "a7b56887a677cab3a6c3dbf580603be1bd6102a3714086b0d037adb6b06c53d4", func := "backstay/backstaylaw29.NetStrange", spec := "netStrange", unfollowed := true, recurses := true, apart := false, narrowed := true }
def NetStrangeUptoSaid : Prop := netStrangeUptoRow.holds Try.pinned (OpenSpec.upto netStrangeSpec)

end Rows
end Go.Proofs.Ytmceaffoffemlaa
