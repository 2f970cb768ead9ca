/-
  No cell of these rows narrows 'for every input' (looked for: loops, veiled, ifaces, maps, wideKeys, modest, calm, conditions, laid).
  DERIVED. THE GIVEN ROWS OF THIS SEAT. 17 by the template 'for every input the law returns true; each argument reads behind the call as it read before'; 0 by the template 'total and deterministic' (their statements: YtgkegfgdpekehaaTotals.lean).
  GIVEN WITH THE SEED: the statements are not yours to turn. If you find one false, say at which input.
  Laid BY PROGRAM, IN A SANDBOX (cutbox-rows.mjs): the forced cells as the released guide's own fill.sh prints them over the translation 42081bea2b8fff93… (all of the seat's roots in one cut). By AI agents, Wed Nov 11 2026. No macro, syntax, notation, axiom, sorry.
-/
import Derived.Test.YtgkegfgdpekehaaChecked
import GoSem.Claim
import GoSem.ClaimJoined
import GoSem.ClaimMapViews
import Derived.JoinedTies
import Derived.KernelRfl
namespace Go.Proofs.Ytgkegfgdpekehaa
/- THE CELL 'sum', in the pinned program and in every row, IS THE sha256 OF THE DUMP (.gsa) THAT YtgkegfgdpekehaaProg.lean LOADS. Nothing in Lean hashes anything: it is a label: what it is worth is what the hold of that sum in a sandbox is worth. -/
noncomputable def Try.pinned : Pinned := { name := "ytgkegfgdpekehaa", sum := "42081bea2b8fff93b38a977d2b29ff3f077c60ecf4f0195f0fbbe503f339bd57", checked := Try.checked }
namespace Rows
def none {H : Type} : Left H := { results := [], args := [] }

/-- 'acreagelaw02.SealSums': WHATEVER THE INPUT: true; the input reads as it did. -/
def sealSumsSpec : ChangeSpec := { name := "sealSums", fn := fun _ => fun
  | [d1, d2] => { results := [.lit (.bool true)], args := [d1, d2] }
  | _ => none }
def sealSumsRow : OpenClaim := { program := "ytgkegfgdpekehaa", sum := "42081bea2b8fff93b38a977d2b29ff3f077c60ecf4f0195f0fbbe503f339bd57", func := "acreage/acreagelaw02.SealSums", spec := "sealSums", apart := false }
def SealSumsSaid : Prop := sealSumsRow.holds Try.pinned (OpenSpec.ofChange sealSumsSpec)

/-- ITS FALSE NEIGHBOUR: 'it returns false'. Refute it at one input. -/
def sealSumsWrong : ChangeSpec := { name := "sealSums", fn := fun _ => fun
  | [d1, d2] => { results := [.lit (.bool false)], args := [d1, d2] }
  | _ => none }
def SealSumsWrongFalsely : Prop := sealSumsRow.holds Try.pinned (OpenSpec.ofChange sealSumsWrong)

/-- 'acreagelaw02.SealOpens': WHATEVER THE INPUT: true; the input reads as it did. -/
def sealOpensSpec : ChangeSpec := { name := "sealOpens", fn := fun _ => fun
  | [d] => { results := [.lit (.bool true)], args := [d] }
  | _ => none }
def sealOpensRow : OpenClaim := { program := "ytgkegfgdpekehaa", sum := "42081bea2b8fff93b38a977d2b29ff3f077c60ecf4f0195f0fbbe503f339bd57", func := "acreage/acreagelaw02.SealOpens", spec := "sealOpens", apart := false }
def SealOpensSaid : Prop := sealOpensRow.holds Try.pinned (OpenSpec.ofChange sealOpensSpec)

/-- ITS FALSE NEIGHBOUR: 'it returns false'. Refute it at one input. -/
def sealOpensWrong : ChangeSpec := { name := "sealOpens", fn := fun _ => fun
  | [d] => { results := [.lit (.bool false)], args := [d] }
  | _ => none }
def SealOpensWrongFalsely : Prop := sealOpensRow.holds Try.pinned (OpenSpec.ofChange sealOpensWrong)

/-- 'acreagelaw02.SealParts': WHATEVER THE INPUT: true; the input reads as it did. -/
def sealPartsSpec : ChangeSpec := { name := "sealParts", fn := fun _ => fun
  | [d1, d2, d3] => { results := [.lit (.bool true)], args := [d1, d2, d3] }
  | _ => none }
def sealPartsRow : OpenClaim := { program := "ytgkegfgdpekehaa", sum := "42081bea2b8fff93b38a977d2b29ff3f077c60ecf4f0195f0fbbe503f339bd57", func := "acreage/acreagelaw02.SealParts", spec := "sealParts", apart := false }
def SealPartsSaid : Prop := sealPartsRow.holds Try.pinned (OpenSpec.ofChange sealPartsSpec)

/-- ITS FALSE NEIGHBOUR: 'it returns false'. Refute it at one input. -/
def sealPartsWrong : ChangeSpec := { name := "sealParts", fn := fun _ => fun
  | [d1, d2, d3] => { results := [.lit (.bool false)], args := [d1, d2, d3] }
  | _ => none }
def SealPartsWrongFalsely : Prop := sealPartsRow.holds Try.pinned (OpenSpec.ofChange sealPartsWrong)

/-- 'acreagelaw02.SealBack': WHATEVER THE INPUT: true; the input reads as it did. -/
def sealBackSpec : ChangeSpec := { name := "sealBack", fn := fun _ => fun
  | [d1, d2] => { results := [.lit (.bool true)], args := [d1, d2] }
  | _ => none }
def sealBackRow : OpenClaim := { program := "ytgkegfgdpekehaa", sum := "42081bea2b8fff93b38a977d2b29ff3f077c60ecf4f0195f0fbbe503f339bd57", func := "acreage/acreagelaw02.SealBack", spec := "sealBack", apart := false }
def SealBackSaid : Prop := sealBackRow.holds Try.pinned (OpenSpec.ofChange sealBackSpec)

/-- ITS FALSE NEIGHBOUR: 'it returns false'. Refute it at one input. -/
def sealBackWrong : ChangeSpec := { name := "sealBack", fn := fun _ => fun
  | [d1, d2] => { results := [.lit (.bool false)], args := [d1, d2] }
  | _ => none }
def SealBackWrongFalsely : Prop := sealBackRow.holds Try.pinned (OpenSpec.ofChange sealBackWrong)

/-- 'acreagelaw02.SealTurned': WHATEVER THE INPUT: true; the input reads as it did. -/
def sealTurnedSpec : ChangeSpec := { name := "sealTurned", fn := fun _ => fun
  | [d1, d2, d3] => { results := [.lit (.bool true)], args := [d1, d2, d3] }
  | _ => none }
def sealTurnedRow : OpenClaim := { program := "ytgkegfgdpekehaa", sum := "42081bea2b8fff93b38a977d2b29ff3f077c60ecf4f0195f0fbbe503f339bd57", func := "acreage/acreagelaw02.SealTurned", spec := "sealTurned", apart := false }
def SealTurnedSaid : Prop := sealTurnedRow.holds Try.pinned (OpenSpec.ofChange sealTurnedSpec)

/-- ITS FALSE NEIGHBOUR: 'it returns false'. Refute it at one input. -/
def sealTurnedWrong : ChangeSpec := { name := "sealTurned", fn := fun _ => fun
  | [d1, d2, d3] => { results := [.lit (.bool false)], args := [d1, d2, d3] }
  | _ => none }
def SealTurnedWrongFalsely : Prop := sealTurnedRow.holds Try.pinned (OpenSpec.ofChange sealTurnedWrong)

/-- 'acreagelaw02.SealScans': WHATEVER THE INPUT: true; the input reads as it did. -/
def sealScansSpec : ChangeSpec := { name := "sealScans", fn := fun _ => fun
  | [d] => { results := [.lit (.bool true)], args := [d] }
  | _ => none }
def sealScansRow : OpenClaim := { program := "ytgkegfgdpekehaa", sum := "42081bea2b8fff93b38a977d2b29ff3f077c60ecf4f0195f0fbbe503f339bd57", func := "acreage/acreagelaw02.SealScans", spec := "sealScans", apart := false }
def SealScansSaid : Prop := sealScansRow.holds Try.pinned (OpenSpec.ofChange sealScansSpec)

/-- ITS FALSE NEIGHBOUR: 'it returns false'. Refute it at one input. -/
def sealScansWrong : ChangeSpec := { name := "sealScans", fn := fun _ => fun
  | [d] => { results := [.lit (.bool false)], args := [d] }
  | _ => none }
def SealScansWrongFalsely : Prop := sealScansRow.holds Try.pinned (OpenSpec.ofChange sealScansWrong)

/-- 'acreagelaw02.SealRow': WHATEVER THE INPUT: true; the input reads as it did. -/
def sealRowSpec : ChangeSpec := { name := "sealRow", fn := fun _ => fun
  | [d1, d2, d3] => { results := [.lit (.bool true)], args := [d1, d2, d3] }
  | _ => none }
def sealRowRow : OpenClaim := { program := "ytgkegfgdpekehaa", sum := "42081bea2b8fff93b38a977d2b29ff3f077c60ecf4f0195f0fbbe503f339bd57", func := "acreage/acreagelaw02.SealRow", spec := "sealRow", apart := false }
def SealRowSaid : Prop := sealRowRow.holds Try.pinned (OpenSpec.ofChange sealRowSpec)

/-- ITS FALSE NEIGHBOUR: 'it returns false'. Refute it at one input. -/
def sealRowWrong : ChangeSpec := { name := "sealRow", fn := fun _ => fun
  | [d1, d2, d3] => { results := [.lit (.bool false)], args := [d1, d2, d3] }
  | _ => none }
def SealRowWrongFalsely : Prop := sealRowRow.holds Try.pinned (OpenSpec.ofChange sealRowWrong)

/-- 'acreagelaw02.SealKnown': WHATEVER THE INPUT: true; the input reads as it did. -/
def sealKnownSpec : ChangeSpec := { name := "sealKnown", fn := fun _ => fun
  | [] => { results := [.lit (.bool true)], args := [] }
  | _ => none }
def sealKnownRow : OpenClaim := { program := "ytgkegfgdpekehaa", sum := "42081bea2b8fff93b38a977d2b29ff3f077c60ecf4f0195f0fbbe503f339bd57", func := "acreage/acreagelaw02.SealKnown", spec := "sealKnown", apart := false }
def SealKnownSaid : Prop := sealKnownRow.holds Try.pinned (OpenSpec.ofChange sealKnownSpec)

/-- ITS FALSE NEIGHBOUR: 'it returns false'. Refute it at one input. -/
def sealKnownWrong : ChangeSpec := { name := "sealKnown", fn := fun _ => fun
  | [] => { results := [.lit (.bool false)], args := [] }
  | _ => none }
def SealKnownWrongFalsely : Prop := sealKnownRow.holds Try.pinned (OpenSpec.ofChange sealKnownWrong)

/-- 'acreagelaw13.ManifestLays': WHATEVER THE INPUT: true; the input reads as it did. -/
def manifestLaysSpec : ChangeSpec := { name := "manifestLays", fn := fun _ => fun
  | [d1, d2] => { results := [.lit (.bool true)], args := [d1, d2] }
  | _ => none }
def manifestLaysRow : OpenClaim := { program := "ytgkegfgdpekehaa", sum := "42081bea2b8fff93b38a977d2b29ff3f077c60ecf4f0195f0fbbe503f339bd57", func := "acreage/acreagelaw13.ManifestLays", spec := "manifestLays", unfollowed := true, recurses := true, apart := false }
def ManifestLaysSaid : Prop := manifestLaysRow.holds Try.pinned (OpenSpec.ofChange manifestLaysSpec)

/-- ITS FALSE NEIGHBOUR: 'it returns false'. Refute it at one input. -/
def manifestLaysWrong : ChangeSpec := { name := "manifestLays", fn := fun _ => fun
  | [d1, d2] => { results := [.lit (.bool false)], args := [d1, d2] }
  | _ => none }
def ManifestLaysWrongFalsely : Prop := manifestLaysRow.holds Try.pinned (OpenSpec.ofChange manifestLaysWrong)

/-- 'acreagelaw13.ManifestBack': WHATEVER THE INPUT: true; the input reads as it did. -/
def manifestBackSpec : ChangeSpec := { name := "manifestBack", fn := fun _ => fun
  | [d1, d2] => { results := [.lit (.bool true)], args := [d1, d2] }
  | _ => none }
def manifestBackRow : OpenClaim := { program := "ytgkegfgdpekehaa", sum := "42081bea2b8fff93b38a977d2b29ff3f077c60ecf4f0195f0fbbe503f339bd57", func := "acreage/acreagelaw13.ManifestBack", spec := "manifestBack", unfollowed := true, recurses := true, apart := false }
def ManifestBackSaid : Prop := manifestBackRow.holds Try.pinned (OpenSpec.ofChange manifestBackSpec)

/-- ITS FALSE NEIGHBOUR: 'it returns false'. Refute it at one input. -/
def manifestBackWrong : ChangeSpec := { name := "manifestBack", fn := fun _ => fun
  | [d1, d2] => { results := [.lit (.bool false)], args := [d1, d2] }
  | _ => none }
def ManifestBackWrongFalsely : Prop := manifestBackRow.holds Try.pinned (OpenSpec.ofChange manifestBackWrong)

/-- 'acreagelaw06.DiskKeeps': WHATEVER THE INPUT: true; the input reads as it did. -/
def diskKeepsSpec : ChangeSpec := { name := "diskKeeps", fn := fun _ => fun
  | [d1, d2, d3] => { results := [.lit (.bool true)], args := [d1, d2, d3] }
  | _ => none }
def diskKeepsRow : OpenClaim := { program := "ytgkegfgdpekehaa", sum := "42081bea2b8fff93b38a977d2b29ff3f077c60ecf4f0195f0fbbe503f339bd57", func := "acreage/acreagelaw06.DiskKeeps", spec := "diskKeeps", unfollowed := true, recurses := true, apart := false }
def DiskKeepsSaid : Prop := diskKeepsRow.holds Try.pinned (OpenSpec.ofChange diskKeepsSpec)

/-- ITS FALSE NEIGHBOUR: 'it returns false'. Refute it at one input. -/
def diskKeepsWrong : ChangeSpec := { name := "diskKeeps", fn := fun _ => fun
  | [d1, d2, d3] => { results := [.lit (.bool false)], args := [d1, d2, d3] }
  | _ => none }
def DiskKeepsWrongFalsely : Prop := diskKeepsRow.holds Try.pinned (OpenSpec.ofChange diskKeepsWrong)

/-- 'acreagelaw06.DiskMoved': WHATEVER THE INPUT: true; the input reads as it did. -/
def diskMovedSpec : ChangeSpec := { name := "diskMoved", fn := fun _ => fun
  | [d1, d2] => { results := [.lit (.bool true)], args := [d1, d2] }
  | _ => none }
def diskMovedRow : OpenClaim := { program := "ytgkegfgdpekehaa", sum := "42081bea2b8fff93b38a977d2b29ff3f077c60ecf4f0195f0fbbe503f339bd57", func := "acreage/acreagelaw06.DiskMoved", spec := "diskMoved", unfollowed := true, recurses := true, apart := false }
def DiskMovedSaid : Prop := diskMovedRow.holds Try.pinned (OpenSpec.ofChange diskMovedSpec)

/-- ITS FALSE NEIGHBOUR: 'it returns false'. Refute it at one input. -/
def diskMovedWrong : ChangeSpec := { name := "diskMoved", fn := fun _ => fun
  | [d1, d2] => { results := [.lit (.bool false)], args := [d1, d2] }
  | _ => none }
def DiskMovedWrongFalsely : Prop := diskMovedRow.holds Try.pinned (OpenSpec.ofChange diskMovedWrong)

/-- 'acreagelaw06.DiskPlays': WHATEVER THE INPUT: true; the input reads as it did. -/
def diskPlaysSpec : ChangeSpec := { name := "diskPlays", fn := fun _ => fun
  | [d1, d2] => { results := [.lit (.bool true)], args := [d1, d2] }
  | _ => none }
def diskPlaysRow : OpenClaim := { program := "ytgkegfgdpekehaa", sum := "42081bea2b8fff93b38a977d2b29ff3f077c60ecf4f0195f0fbbe503f339bd57", func := "acreage/acreagelaw06.DiskPlays", spec := "diskPlays", unfollowed := true, recurses := true, apart := false }
def DiskPlaysSaid : Prop := diskPlaysRow.holds Try.pinned (OpenSpec.ofChange diskPlaysSpec)

/-- ITS FALSE NEIGHBOUR: 'it returns false'. Refute it at one input. -/
def diskPlaysWrong : ChangeSpec := { name := "diskPlays", fn := fun _ => fun
  | [d1, d2] => { results := [.lit (.bool false)], args := [d1, d2] }
  | _ => none }
def DiskPlaysWrongFalsely : Prop := diskPlaysRow.holds Try.pinned (OpenSpec.ofChange diskPlaysWrong)

/-- 'acreagelaw06.DiskRefused': WHATEVER THE INPUT: true; the input reads as it did. -/
def diskRefusedSpec : ChangeSpec := { name := "diskRefused", fn := fun _ => fun
  | [d1, d2] => { results := [.lit (.bool true)], args := [d1, d2] }
  | _ => none }
def diskRefusedRow : OpenClaim := { program := "ytgkegfgdpekehaa", sum := "42081bea2b8fff93b38a977d2b29ff3f077c60ecf4f0195f0fbbe503f339bd57", func := "acreage/acreagelaw06.DiskRefused", spec := "diskRefused", unfollowed := true, recurses := true, apart := false }
def DiskRefusedSaid : Prop := diskRefusedRow.holds Try.pinned (OpenSpec.ofChange diskRefusedSpec)

/-- ITS FALSE NEIGHBOUR: 'it returns false'. Refute it at one input. -/
def diskRefusedWrong : ChangeSpec := { name := "diskRefused", fn := fun _ => fun
  | [d1, d2] => { results := [.lit (.bool false)], args := [d1, d2] }
  | _ => none }
def DiskRefusedWrongFalsely : Prop := diskRefusedRow.holds Try.pinned (OpenSpec.ofChange diskRefusedWrong)

/-- 'acreagelaw06.DiskKnown': WHATEVER THE INPUT: true; the input reads as it did. -/
def diskKnownSpec : ChangeSpec := { name := "diskKnown", fn := fun _ => fun
  | [] => { results := [.lit (.bool true)], args := [] }
  | _ => none }
def diskKnownRow : OpenClaim := { program := "ytgkegfgdpekehaa", sum := "42081bea2b8fff93b38a977d2b29ff3f077c60ecf4f0195f0fbbe503f339bd57", func := "acreage/acreagelaw06.DiskKnown", spec := "diskKnown", unfollowed := true, recurses := true, apart := false }
def DiskKnownSaid : Prop := diskKnownRow.holds Try.pinned (OpenSpec.ofChange diskKnownSpec)

/-- ITS FALSE NEIGHBOUR: 'it returns false'. Refute it at one input. -/
def diskKnownWrong : ChangeSpec := { name := "diskKnown", fn := fun _ => fun
  | [] => { results := [.lit (.bool false)], args := [] }
  | _ => none }
def DiskKnownWrongFalsely : Prop := diskKnownRow.holds Try.pinned (OpenSpec.ofChange diskKnownWrong)

/-- 'acreagelaw13.ManifestLasts': WHATEVER THE INPUT: true; the input reads as it did. -/
def manifestLastsSpec : ChangeSpec := { name := "manifestLasts", fn := fun _ => fun
  | [d1, d2] => { results := [.lit (.bool true)], args := [d1, d2] }
  | _ => none }
def manifestLastsRow : OpenClaim := { program := "ytgkegfgdpekehaa", sum := "42081bea2b8fff93b38a977d2b29ff3f077c60ecf4f0195f0fbbe503f339bd57", func := "acreage/acreagelaw13.ManifestLasts", spec := "manifestLasts", unfollowed := true, recurses := true, apart := false }
def ManifestLastsSaid : Prop := manifestLastsRow.holds Try.pinned (OpenSpec.ofChange manifestLastsSpec)

/-- ITS FALSE NEIGHBOUR: 'it returns false'. Refute it at one input. -/
def manifestLastsWrong : ChangeSpec := { name := "manifestLasts", fn := fun _ => fun
  | [d1, d2] => { results := [.lit (.bool false)], args := [d1, d2] }
  | _ => none }
def ManifestLastsWrongFalsely : Prop := manifestLastsRow.holds Try.pinned (OpenSpec.ofChange manifestLastsWrong)

/-- 'acreagelaw13.ManifestKnown': WHATEVER THE INPUT: true; the input reads as it did. -/
def manifestKnownSpec : ChangeSpec := { name := "manifestKnown", fn := fun _ => fun
  | [] => { results := [.lit (.bool true)], args := [] }
  | _ => none }
def manifestKnownRow : OpenClaim := { program := "ytgkegfgdpekehaa", sum := "42081bea2b8fff93b38a977d2b29ff3f077c60ecf4f0195f0fbbe503f339bd57", func := "acreage/acreagelaw13.ManifestKnown", spec := "manifestKnown", unfollowed := true, recurses := true, apart := false }
def ManifestKnownSaid : Prop := manifestKnownRow.holds Try.pinned (OpenSpec.ofChange manifestKnownSpec)

/-- ITS FALSE NEIGHBOUR: 'it returns false'. Refute it at one input. -/
def manifestKnownWrong : ChangeSpec := { name := "manifestKnown", fn := fun _ => fun
  | [] => { results := [.lit (.bool false)], args := [] }
  | _ => none }
def ManifestKnownWrongFalsely : Prop := manifestKnownRow.holds Try.pinned (OpenSpec.ofChange manifestKnownWrong)

/- THE SECOND FORM. 'bulk': how many values and letters a reading holds, each counted each time it is reached (what is shared counts as often as it is met; a slice's spare places count too). A statement '..UptoSaid' is the law's where the arguments, and the package variables that the reading takes, are together of bulk at most 1048576: NARROWER than '..Said'. Prove '..Said' where nothing that the law and all that it calls make is longer than what came in: it says more and counts as full. Else prove '..UptoSaid'. A law counts once. -/
mutual
def uptoBulk {H : Type} : DataW H → Nat
  | .lit (.string bytes) => bytes.length + 1
  | .lit _ => 1
  | .nil => 1
  | .ptr d => uptoBulk d + 1
  | .slice elems spare => uptoBulkAll elems + uptoBulkAll spare + 1
  | .agg parts => uptoBulkAll parts + 1
  | .iface _ d => uptoBulk d + 1
  | .map entries => uptoBulkEntries entries + 1
  | .held _ => 1
def uptoBulkAll {H : Type} : List (DataW H) → Nat
  | [] => 0
  | d :: r => uptoBulk d + uptoBulkAll r
def uptoBulkEntries {H : Type} : List (Lit × DataW H) → Nat
  | [] => 0
  | x :: r => uptoBulkEntry x + uptoBulkEntries r
def uptoBulkEntry {H : Type} : Lit × DataW H → Nat
  | (.string bytes, d) => bytes.length + uptoBulk d + 1
  | (_, d) => uptoBulk d + 1
 end
def uptoSmall : (H : Type) → List (DataW H) → Bool := fun _ ds => decide (uptoBulkAll ds ≤ 1048576)
def OpenSpec.upto (s : _root_.Go.ChangeSpec) : _root_.Go.OpenSpec := { _root_.Go.OpenSpec.ofChange s with cond := some uptoSmall }

/-- 'acreagelaw02.SealSums', WHERE WHAT IT READS IS OF BULK AT MOST 1048576: true; the input reads as it did. -/
def sealSumsUptoRow : OpenClaim := { program := "ytgkegfgdpekehaa", sum := "42081bea2b8fff93b38a977d2b29ff3f077c60ecf4f0195f0fbbe503f339bd57", func := "acreage/acreagelaw02.SealSums", spec := "sealSums", apart := false, narrowed := true }
def SealSumsUptoSaid : Prop := sealSumsUptoRow.holds Try.pinned (OpenSpec.upto sealSumsSpec)

/-- 'acreagelaw02.SealOpens', WHERE WHAT IT READS IS OF BULK AT MOST 1048576: true; the input reads as it did. -/
def sealOpensUptoRow : OpenClaim := { program := "ytgkegfgdpekehaa", sum := "42081bea2b8fff93b38a977d2b29ff3f077c60ecf4f0195f0fbbe503f339bd57", func := "acreage/acreagelaw02.SealOpens", spec := "sealOpens", apart := false, narrowed := true }
def SealOpensUptoSaid : Prop := sealOpensUptoRow.holds Try.pinned (OpenSpec.upto sealOpensSpec)

/-- 'acreagelaw02.SealParts', WHERE WHAT IT READS IS OF BULK AT MOST 1048576: true; the input reads as it did. -/
def sealPartsUptoRow : OpenClaim := { program := "ytgkegfgdpekehaa", sum := "42081bea2b8fff93b38a977d2b29ff3f077c60ecf4f0195f0fbbe503f339bd57", func := "acreage/acreagelaw02.SealParts", spec := "sealParts", apart := false, narrowed := true }
def SealPartsUptoSaid : Prop := sealPartsUptoRow.holds Try.pinned (OpenSpec.upto sealPartsSpec)

/-- 'acreagelaw02.SealBack', WHERE WHAT IT READS IS OF BULK AT MOST 1048576: true; the input reads as it did. -/
def sealBackUptoRow : OpenClaim := { program := "ytgkegfgdpekehaa", sum := "42081bea2b8fff93b38a977d2b29ff3f077c60ecf4f0195f0fbbe503f339bd57", func := "acreage/acreagelaw02.SealBack", spec := "sealBack", apart := false, narrowed := true }
def SealBackUptoSaid : Prop := sealBackUptoRow.holds Try.pinned (OpenSpec.upto sealBackSpec)

/-- 'acreagelaw02.SealTurned', WHERE WHAT IT READS IS OF BULK AT MOST 1048576: true; the input reads as it did. -/
def sealTurnedUptoRow : OpenClaim := { program := "ytgkegfgdpekehaa", sum := "42081bea2b8fff93b38a977d2b29ff3f077c60ecf4f0195f0fbbe503f339bd57", func := "acreage/acreagelaw02.SealTurned", spec := "sealTurned", apart := false, narrowed := true }
def SealTurnedUptoSaid : Prop := sealTurnedUptoRow.holds Try.pinned (OpenSpec.upto sealTurnedSpec)

/-- 'acreagelaw02.SealScans', WHERE WHAT IT READS IS OF BULK AT MOST 1048576: true; the input reads as it did. -/
def sealScansUptoRow : OpenClaim := { program := "ytgkegfgdpekehaa", sum := "42081bea2b8fff93b38a977d2b29ff3f077c60ecf4f0195f0fbbe503f339bd57", func := "acreage/acreagelaw02.SealScans", spec := "sealScans", apart := false, narrowed := true }
def SealScansUptoSaid : Prop := sealScansUptoRow.holds Try.pinned (OpenSpec.upto sealScansSpec)

/-- 'acreagelaw02.SealRow', WHERE WHAT IT READS IS OF BULK AT MOST 1048576: true; the input reads as it did. -/
def sealRowUptoRow : OpenClaim := { program := "ytgkegfgdpekehaa", sum := "42081bea2b8fff93b38a977d2b29ff3f077c60ecf4f0195f0fbbe503f339bd57", func := "acreage/acreagelaw02.SealRow", spec := "sealRow", apart := false, narrowed := true }
def SealRowUptoSaid : Prop := sealRowUptoRow.holds Try.pinned (OpenSpec.upto sealRowSpec)

/-- 'acreagelaw02.SealKnown', WHERE WHAT IT READS IS OF BULK AT MOST 1048576: true; the input reads as it did. -/
def sealKnownUptoRow : OpenClaim := { program := "ytgkegfgdpekehaa", sum := "42081bea2b8fff93b38a977d2b29ff3f077c60ecf4f0195f0fbbe503f339bd57", func := "acreage/acreagelaw02.SealKnown", spec := "sealKnown", apart := false, narrowed := true }
def SealKnownUptoSaid : Prop := sealKnownUptoRow.holds Try.pinned (OpenSpec.upto sealKnownSpec)

/-- 'acreagelaw13.ManifestLays', WHERE WHAT IT READS IS OF BULK AT MOST 1048576: true; the input reads as it did. -/
def manifestLaysUptoRow : OpenClaim := { program := "ytgkegfgdpekehaa", sum := "42081bea2b8fff93b38a977d2b29ff3f077c60ecf4f0195f0fbbe503f339bd57", func := "acreage/acreagelaw13.ManifestLays", spec := "manifestLays", unfollowed := true, recurses := true, apart := false, narrowed := true }
def ManifestLaysUptoSaid : Prop := manifestLaysUptoRow.holds Try.pinned (OpenSpec.upto manifestLaysSpec)

/-- 'acreagelaw13.ManifestBack', WHERE WHAT IT READS IS OF BULK AT MOST 1048576: true; the input reads as it did. -/
def manifestBackUptoRow : OpenClaim := { program := "ytgkegfgdpekehaa", sum := "42081bea2b8fff93b38a977d2b29ff3f077c60ecf4f0195f0fbbe503f339bd57", func := "acreage/acreagelaw13.ManifestBack", spec := "manifestBack", unfollowed := true, recurses := true, apart := false, narrowed := true }
def ManifestBackUptoSaid : Prop := manifestBackUptoRow.holds Try.pinned (OpenSpec.upto manifestBackSpec)

/-- 'acreagelaw06.DiskKeeps', WHERE WHAT IT READS IS OF BULK AT MOST 1048576: true; the input reads as it did. -/
def diskKeepsUptoRow : OpenClaim := { program := "ytgkegfgdpekehaa", sum := "42081bea2b8fff93b38a977d2b29ff3f077c60ecf4f0195f0fbbe503f339bd57", func := "acreage/acreagelaw06.DiskKeeps", spec := "diskKeeps", unfollowed := true, recurses := true, apart := false, narrowed := true }
def DiskKeepsUptoSaid : Prop := diskKeepsUptoRow.holds Try.pinned (OpenSpec.upto diskKeepsSpec)

/-- 'acreagelaw06.DiskMoved', WHERE WHAT IT READS IS OF BULK AT MOST 1048576: true; the input reads as it did. -/
def diskMovedUptoRow : OpenClaim := { program := "ytgkegfgdpekehaa", sum := "42081bea2b8fff93b38a977d2b29ff3f077c60ecf4f0195f0fbbe503f339bd57", func := "acreage/acreagelaw06.DiskMoved", spec := "diskMoved", unfollowed := true, recurses := true, apart := false, narrowed := true }
def DiskMovedUptoSaid : Prop := diskMovedUptoRow.holds Try.pinned (OpenSpec.upto diskMovedSpec)

/-- 'acreagelaw06.DiskPlays', WHERE WHAT IT READS IS OF BULK AT MOST 1048576: true; the input reads as it did. -/
def diskPlaysUptoRow : OpenClaim := { program := "ytgkegfgdpekehaa", sum := "42081bea2b8fff93b38a977d2b29ff3f077c60ecf4f0195f0fbbe503f339bd57", func := "acreage/acreagelaw06.DiskPlays", spec := "diskPlays", unfollowed := true, recurses := true, apart := false, narrowed := true }
def DiskPlaysUptoSaid : Prop := diskPlaysUptoRow.holds Try.pinned (OpenSpec.upto diskPlaysSpec)

/-- 'acreagelaw06.DiskRefused', WHERE WHAT IT READS IS OF BULK AT MOST 1048576: true; the input reads as it did. -/
def diskRefusedUptoRow : OpenClaim := { program := "ytgkegfgdpekehaa", sum := "42081bea2b8fff93b38a977d2b29ff3f077c60ecf4f0195f0fbbe503f339bd57", func := "acreage/acreagelaw06.DiskRefused", spec := "diskRefused", unfollowed := true, recurses := true, apart := false, narrowed := true }
def DiskRefusedUptoSaid : Prop := diskRefusedUptoRow.holds Try.pinned (OpenSpec.upto diskRefusedSpec)

/-- 'acreagelaw06.DiskKnown', WHERE WHAT IT READS IS OF BULK AT MOST 1048576: true; the input reads as it did. -/
def diskKnownUptoRow : OpenClaim := { program := "ytgkegfgdpekehaa", sum := "42081bea2b8fff93b38a977d2b29ff3f077c60ecf4f0195f0fbbe503f339bd57", func := "acreage/acreagelaw06.DiskKnown", spec := "diskKnown", unfollowed := true, recurses := true, apart := false, narrowed := true }
def DiskKnownUptoSaid : Prop := diskKnownUptoRow.holds Try.pinned (OpenSpec.upto diskKnownSpec)

/-- 'acreagelaw13.ManifestLasts', WHERE WHAT IT READS IS OF BULK AT MOST 1048576: true; the input reads as it did. -/
def manifestLastsUptoRow : OpenClaim := { program := "ytgkegfgdpekehaa", sum := "42081bea2b8fff93b38a977d2b29ff3f077c60ecf4f0195f0fbbe503f339bd57", func := "acreage/acreagelaw13.ManifestLasts", spec := "manifestLasts", unfollowed := true, recurses := true, apart := false, narrowed := true }
def ManifestLastsUptoSaid : Prop := manifestLastsUptoRow.holds Try.pinned (OpenSpec.upto manifestLastsSpec)

/-- 'acreagelaw13.ManifestKnown', WHERE WHAT IT READS IS OF BULK AT MOST 1048576: true; the input reads as it did. -/
def manifestKnownUptoRow : OpenClaim := { program := "ytgkegfgdpekehaa", sum := "42081bea2b8fff93b38a977d2b29ff3f077c60ecf4f0195f0fbbe503f339bd57", func := "acreage/acreagelaw13.ManifestKnown", spec := "manifestKnown", unfollowed := true, recurses := true, apart := false, narrowed := true }
def ManifestKnownUptoSaid : Prop := manifestKnownUptoRow.holds Try.pinned (OpenSpec.upto manifestKnownSpec)

end Rows
end Go.Proofs.Ytgkegfgdpekehaa
