/-
  No cell of these rows narrows 'for every input' (looked for: loops, veiled, ifaces, maps, wideKeys, modest, calm, conditions, laid).
  DERIVED. THE GIVEN ROWS OF THIS SEAT. 5 by the template 'for every input the law returns true; each argument reads behind the call as it read before'; 0 by the template 'total and deterministic' (their statements: YtilojboanilpbaaTotals.lean).
  GIVEN WITH THE SEED: the statements are not yours to turn. If you find one false, say at which input.
  Laid BY PROGRAM, IN A SANDBOX (cutbox-rows.mjs): the forced cells as the released guide's own fill.sh prints them over the translation 5ab2a0176afd1c75… (all of the seat's roots in one cut). By AI agents, Wed Nov 11 2026. No macro, syntax, notation, axiom, sorry.
-/
import Derived.Test.YtilojboanilpbaaChecked
import GoSem.Claim
import GoSem.ClaimJoined
import GoSem.ClaimMapViews
import Derived.JoinedTies
import Derived.KernelRfl
namespace Go.Proofs.Ytilojboanilpbaa
/- THE CELL 'sum', in the pinned program and in every row, IS THE sha256 OF THE DUMP (.gsa) THAT YtilojboanilpbaaProg.lean LOADS. Nothing in Lean hashes anything: it is a label: what it is worth is what the hold of that sum in a sandbox is worth. -/
noncomputable def Try.pinned : Pinned := { name := "ytilojboanilpbaa", sum := "5ab2a0176afd1c755b8b8e729b9ad86aeaafe84587c77f631f2dcdfa16c1d164", checked := Try.checked }
namespace Rows
def none {H : Type} : Left H := { results := [], args := [] }

/-- 'acreagelaw05.DiceWithin': WHATEVER THE INPUT: true; the input reads as it did. -/
def diceWithinSpec : ChangeSpec := { name := "diceWithin", fn := fun _ => fun
  | [d1, d2] => { results := [.lit (.bool true)], args := [d1, d2] }
  | _ => none }
def diceWithinRow : OpenClaim := { program := "ytilojboanilpbaa", sum := "5ab2a0176afd1c755b8b8e729b9ad86aeaafe84587c77f631f2dcdfa16c1d164", func := "acreage/acreagelaw05.DiceWithin", spec := "diceWithin", apart := false }
def DiceWithinSaid : Prop := diceWithinRow.holds Try.pinned (OpenSpec.ofChange diceWithinSpec)

/-- ITS FALSE NEIGHBOUR: 'it returns false'. Refute it at one input. -/
def diceWithinWrong : ChangeSpec := { name := "diceWithin", fn := fun _ => fun
  | [d1, d2] => { results := [.lit (.bool false)], args := [d1, d2] }
  | _ => none }
def DiceWithinWrongFalsely : Prop := diceWithinRow.holds Try.pinned (OpenSpec.ofChange diceWithinWrong)

/-- 'acreagelaw05.DicePlays': WHATEVER THE INPUT: true; the input reads as it did. -/
def dicePlaysSpec : ChangeSpec := { name := "dicePlays", fn := fun _ => fun
  | [d1, d2] => { results := [.lit (.bool true)], args := [d1, d2] }
  | _ => none }
def dicePlaysRow : OpenClaim := { program := "ytilojboanilpbaa", sum := "5ab2a0176afd1c755b8b8e729b9ad86aeaafe84587c77f631f2dcdfa16c1d164", func := "acreage/acreagelaw05.DicePlays", spec := "dicePlays", apart := false }
def DicePlaysSaid : Prop := dicePlaysRow.holds Try.pinned (OpenSpec.ofChange dicePlaysSpec)

/-- ITS FALSE NEIGHBOUR: 'it returns false'. Refute it at one input. -/
def dicePlaysWrong : ChangeSpec := { name := "dicePlays", fn := fun _ => fun
  | [d1, d2] => { results := [.lit (.bool false)], args := [d1, d2] }
  | _ => none }
def DicePlaysWrongFalsely : Prop := dicePlaysRow.holds Try.pinned (OpenSpec.ofChange dicePlaysWrong)

/-- 'acreagelaw05.DiceLays': WHATEVER THE INPUT: true; the input reads as it did. -/
def diceLaysSpec : ChangeSpec := { name := "diceLays", fn := fun _ => fun
  | [d] => { results := [.lit (.bool true)], args := [d] }
  | _ => none }
def diceLaysRow : OpenClaim := { program := "ytilojboanilpbaa", sum := "5ab2a0176afd1c755b8b8e729b9ad86aeaafe84587c77f631f2dcdfa16c1d164", func := "acreage/acreagelaw05.DiceLays", spec := "diceLays", apart := false }
def DiceLaysSaid : Prop := diceLaysRow.holds Try.pinned (OpenSpec.ofChange diceLaysSpec)

/-- ITS FALSE NEIGHBOUR: 'it returns false'. Refute it at one input. -/
def diceLaysWrong : ChangeSpec := { name := "diceLays", fn := fun _ => fun
  | [d] => { results := [.lit (.bool false)], args := [d] }
  | _ => none }
def DiceLaysWrongFalsely : Prop := diceLaysRow.holds Try.pinned (OpenSpec.ofChange diceLaysWrong)

/-- 'acreagelaw05.DiceBack': WHATEVER THE INPUT: true; the input reads as it did. -/
def diceBackSpec : ChangeSpec := { name := "diceBack", fn := fun _ => fun
  | [d1, d2] => { results := [.lit (.bool true)], args := [d1, d2] }
  | _ => none }
def diceBackRow : OpenClaim := { program := "ytilojboanilpbaa", sum := "5ab2a0176afd1c755b8b8e729b9ad86aeaafe84587c77f631f2dcdfa16c1d164", func := "acreage/acreagelaw05.DiceBack", spec := "diceBack", apart := false }
def DiceBackSaid : Prop := diceBackRow.holds Try.pinned (OpenSpec.ofChange diceBackSpec)

/-- ITS FALSE NEIGHBOUR: 'it returns false'. Refute it at one input. -/
def diceBackWrong : ChangeSpec := { name := "diceBack", fn := fun _ => fun
  | [d1, d2] => { results := [.lit (.bool false)], args := [d1, d2] }
  | _ => none }
def DiceBackWrongFalsely : Prop := diceBackRow.holds Try.pinned (OpenSpec.ofChange diceBackWrong)

/-- 'acreagelaw05.DiceKnown': WHATEVER THE INPUT: true; the input reads as it did. -/
def diceKnownSpec : ChangeSpec := { name := "diceKnown", fn := fun _ => fun
  | [] => { results := [.lit (.bool true)], args := [] }
  | _ => none }
def diceKnownRow : OpenClaim := { program := "ytilojboanilpbaa", sum := "5ab2a0176afd1c755b8b8e729b9ad86aeaafe84587c77f631f2dcdfa16c1d164", func := "acreage/acreagelaw05.DiceKnown", spec := "diceKnown", apart := false }
def DiceKnownSaid : Prop := diceKnownRow.holds Try.pinned (OpenSpec.ofChange diceKnownSpec)

/-- ITS FALSE NEIGHBOUR: 'it returns false'. Refute it at one input. -/
def diceKnownWrong : ChangeSpec := { name := "diceKnown", fn := fun _ => fun
  | [] => { results := [.lit (.bool false)], args := [] }
  | _ => none }
def DiceKnownWrongFalsely : Prop := diceKnownRow.holds Try.pinned (OpenSpec.ofChange diceKnownWrong)

/- THE SECOND FORM. 'bulk': how many values and letters a reading holds, each counted each time it is reached (what is shared counts as often as it is met; a slice's spare places count too). A statement '..UptoSaid' is the law's where the arguments, and the package variables that the reading takes, are together of bulk at most 1048576: NARROWER than '..Said'. Prove '..Said' where nothing that the law and all that it calls make is longer than what came in: it says more and counts as full. Else prove '..UptoSaid'. A law counts once. -/
mutual
def uptoBulk {H : Type} : DataW H → Nat
  | .lit (.string bytes) => bytes.length + 1
  | .lit _ => 1
  | .nil => 1
  | .ptr d => uptoBulk d + 1
  | .slice elems spare => uptoBulkAll elems + uptoBulkAll spare + 1
  | .agg parts => uptoBulkAll parts + 1
  | .iface _ d => uptoBulk d + 1
  | .map entries => uptoBulkEntries entries + 1
  | .held _ => 1
def uptoBulkAll {H : Type} : List (DataW H) → Nat
  | [] => 0
  | d :: r => uptoBulk d + uptoBulkAll r
def uptoBulkEntries {H : Type} : List (Lit × DataW H) → Nat
  | [] => 0
  | x :: r => uptoBulkEntry x + uptoBulkEntries r
def uptoBulkEntry {H : Type} : Lit × DataW H → Nat
  | (.string bytes, d) => bytes.length + uptoBulk d + 1
  | (_, d) => uptoBulk d + 1
 end
def uptoSmall : (H : Type) → List (DataW H) → Bool := fun _ ds => decide (uptoBulkAll ds ≤ 1048576)
def OpenSpec.upto (s : _root_.Go.ChangeSpec) : _root_.Go.OpenSpec := { _root_.Go.OpenSpec.ofChange s with cond := some uptoSmall }

/-- 'acreagelaw05.DiceWithin', WHERE WHAT IT READS IS OF BULK AT MOST 1048576: true; the input reads as it did. -/
def diceWithinUptoRow : OpenClaim := { program := "ytilojboanilpbaa", sum := "5ab2a0176afd1c755b8b8e729b9ad86aeaafe84587c77f631f2dcdfa16c1d164", func := "acreage/acreagelaw05.DiceWithin", spec := "diceWithin", apart := false, narrowed := true }
def DiceWithinUptoSaid : Prop := diceWithinUptoRow.holds Try.pinned (OpenSpec.upto diceWithinSpec)

/-- 'acreagelaw05.DicePlays', WHERE WHAT IT READS IS OF BULK AT MOST 1048576: true; the input reads as it did. -/
def dicePlaysUptoRow : OpenClaim := { program := "ytilojboanilpbaa", sum := "5ab2a0176afd1c755b8b8e729b9ad86aeaafe84587c77f631f2dcdfa16c1d164", func := "acreage/acreagelaw05.DicePlays", spec := "dicePlays", apart := false, narrowed := true }
def DicePlaysUptoSaid : Prop := dicePlaysUptoRow.holds Try.pinned (OpenSpec.upto dicePlaysSpec)

/-- 'acreagelaw05.DiceLays', WHERE WHAT IT READS IS OF BULK AT MOST 1048576: true; the input reads as it did. -/
def diceLaysUptoRow : OpenClaim := { program := "ytilojboanilpbaa", sum := "5ab2a0176afd1c755b8b8e729b9ad86aeaafe84587c77f631f2dcdfa16c1d164", func := "acreage/acreagelaw05.DiceLays", spec := "diceLays", apart := false, narrowed := true }
def DiceLaysUptoSaid : Prop := diceLaysUptoRow.holds Try.pinned (OpenSpec.upto diceLaysSpec)

/-- 'acreagelaw05.DiceBack', WHERE WHAT IT READS IS OF BULK AT MOST 1048576: true; the input reads as it did. -/
def diceBackUptoRow : OpenClaim := { program := "ytilojboanilpbaa", sum := "5ab2a0176afd1c755b8b8e729b9ad86aeaafe84587c77f631f2dcdfa16c1d164", func := "acreage/acreagelaw05.DiceBack", spec := "diceBack", apart := false, narrowed := true }
def DiceBackUptoSaid : Prop := diceBackUptoRow.holds Try.pinned (OpenSpec.upto diceBackSpec)

/-- 'acreagelaw05.DiceKnown', WHERE WHAT IT READS IS OF BULK AT MOST 1048576: true; the input reads as it did. -/
def diceKnownUptoRow : OpenClaim := { program := "ytilojboanilpbaa", sum := "5ab2a0176afd1c755b8b8e729b9ad86aeaafe84587c77f631f2dcdfa16c1d164", func := "acreage/acreagelaw05.DiceKnown", spec := "diceKnown", apart := false, narrowed := true }
def DiceKnownUptoSaid : Prop := diceKnownUptoRow.holds Try.pinned (OpenSpec.upto diceKnownSpec)

end Rows
end Go.Proofs.Ytilojboanilpbaa
