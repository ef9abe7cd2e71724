/-
  No cell of these rows narrows 'for every input' (looked for: loops, veiled, ifaces, maps, wideKeys, modest, calm, conditions, laid).
  DERIVED. THE GIVEN ROWS OF THIS SEAT. 4 by the template 'for every input the law returns true; each argument reads behind the call as it read before'; 0 by the template 'total and deterministic' (their statements: YtehagcggdepajaaTotals.lean).
  GIVEN WITH THE SEED: the statements are not yours to turn. If you find one false, say at which input.
  Laid BY PROGRAM, IN A SANDBOX (cutbox-rows.mjs): the forced cells as the released guide's own fill.sh prints them over the translation da9ec5e1c84fd792… (all of the seat's roots in one cut). By AI agents, Wed Nov 11 2026. No macro, syntax, notation, axiom, sorry.
-/
import Derived.Test.YtehagcggdepajaaChecked
import GoSem.Claim
import GoSem.ClaimJoined
import GoSem.ClaimMapViews
import Derived.JoinedTies
import Derived.KernelRfl
namespace Go.Proofs.Ytehagcggdepajaa
/- THE CELL 'sum', in the pinned program and in every row, IS THE sha256 OF THE DUMP (.gsa) THAT YtehagcggdepajaaProg.lean LOADS. Nothing in Lean hashes anything: it is a label: what it is worth is what the hold of that sum in a sandbox is worth. -/
noncomputable def Try.pinned : Pinned := { name := "ytehagcggdepajaa", sum := "da9ec5e1c84fd792063042a3003c9e07632a421be4358e69d2a1e3be757e8c16", checked := Try.checked }
namespace Rows
def none {H : Type} : Left H := { results := [], args := [] }

/-- 'gimmallaw22.HandleForms': WHATEVER THE INPUT: true; the input reads as it did. -/
def handleFormsSpec : ChangeSpec := { name := "handleForms", fn := fun _ => fun
  | [d1, d2] => { results := [.lit (.bool true)], args := [d1, d2] }
  | _ => none }
def handleFormsRow : OpenClaim := { program := "ytehagcggdepajaa", sum := "da9ec5e1c84fd792063042a3003c9e07632a421be4358e69d2a1e3be757e8c16", func := "gimmal/gimmallaw22.HandleForms", spec := "handleForms", inPlace := ["slices.overlaps[gimmal/api.Peer]", "slices.overlaps[gimmal/api.Item]"], unfollowed := true, recurses := true, apart := false }
def HandleFormsSaid : Prop := handleFormsRow.holds Try.pinned (OpenSpec.ofChange handleFormsSpec)

/-- ITS FALSE NEIGHBOUR: 'it returns false'. Refute it at one input. -/
def handleFormsWrong : ChangeSpec := { name := "handleForms", fn := fun _ => fun
  | [d1, d2] => { results := [.lit (.bool false)], args := [d1, d2] }
  | _ => none }
def HandleFormsWrongFalsely : Prop := handleFormsRow.holds Try.pinned (OpenSpec.ofChange handleFormsWrong)

/-- 'gimmallaw22.HandleOne': WHATEVER THE INPUT: true; the input reads as it did. -/
def handleOneSpec : ChangeSpec := { name := "handleOne", fn := fun _ => fun
  | [d1, d2] => { results := [.lit (.bool true)], args := [d1, d2] }
  | _ => none }
def handleOneRow : OpenClaim := { program := "ytehagcggdepajaa", sum := "da9ec5e1c84fd792063042a3003c9e07632a421be4358e69d2a1e3be757e8c16", func := "gimmal/gimmallaw22.HandleOne", spec := "handleOne", inPlace := ["slices.overlaps[gimmal/api.Peer]", "slices.overlaps[gimmal/api.Item]"], unfollowed := true, recurses := true, apart := false }
def HandleOneSaid : Prop := handleOneRow.holds Try.pinned (OpenSpec.ofChange handleOneSpec)

/-- ITS FALSE NEIGHBOUR: 'it returns false'. Refute it at one input. -/
def handleOneWrong : ChangeSpec := { name := "handleOne", fn := fun _ => fun
  | [d1, d2] => { results := [.lit (.bool false)], args := [d1, d2] }
  | _ => none }
def HandleOneWrongFalsely : Prop := handleOneRow.holds Try.pinned (OpenSpec.ofChange handleOneWrong)

/-- 'gimmallaw22.HandleTwice': WHATEVER THE INPUT: true; the input reads as it did. -/
def handleTwiceSpec : ChangeSpec := { name := "handleTwice", fn := fun _ => fun
  | [d1, d2] => { results := [.lit (.bool true)], args := [d1, d2] }
  | _ => none }
def handleTwiceRow : OpenClaim := { program := "ytehagcggdepajaa", sum := "da9ec5e1c84fd792063042a3003c9e07632a421be4358e69d2a1e3be757e8c16", func := "gimmal/gimmallaw22.HandleTwice", spec := "handleTwice", inPlace := ["slices.overlaps[gimmal/api.Peer]", "slices.overlaps[gimmal/api.Item]"], unfollowed := true, recurses := true, apart := false }
def HandleTwiceSaid : Prop := handleTwiceRow.holds Try.pinned (OpenSpec.ofChange handleTwiceSpec)

/-- ITS FALSE NEIGHBOUR: 'it returns false'. Refute it at one input. -/
def handleTwiceWrong : ChangeSpec := { name := "handleTwice", fn := fun _ => fun
  | [d1, d2] => { results := [.lit (.bool false)], args := [d1, d2] }
  | _ => none }
def HandleTwiceWrongFalsely : Prop := handleTwiceRow.holds Try.pinned (OpenSpec.ofChange handleTwiceWrong)

/-- 'gimmallaw22.HandleKnows': WHATEVER THE INPUT: true; the input reads as it did. -/
def handleKnowsSpec : ChangeSpec := { name := "handleKnows", fn := fun _ => fun
  | [d1, d2] => { results := [.lit (.bool true)], args := [d1, d2] }
  | _ => none }
def handleKnowsRow : OpenClaim := { program := "ytehagcggdepajaa", sum := "da9ec5e1c84fd792063042a3003c9e07632a421be4358e69d2a1e3be757e8c16", func := "gimmal/gimmallaw22.HandleKnows", spec := "handleKnows", inPlace := ["slices.overlaps[gimmal/api.Peer]", "slices.overlaps[gimmal/api.Item]"], unfollowed := true, recurses := true, apart := false }
def HandleKnowsSaid : Prop := handleKnowsRow.holds Try.pinned (OpenSpec.ofChange handleKnowsSpec)

/-- ITS FALSE NEIGHBOUR: 'it returns false'. Refute it at one input. -/
def handleKnowsWrong : ChangeSpec := { name := "handleKnows", fn := fun _ => fun
  | [d1, d2] => { results := [.lit (.bool false)], args := [d1, d2] }
  | _ => none }
def HandleKnowsWrongFalsely : Prop := handleKnowsRow.holds Try.pinned (OpenSpec.ofChange handleKnowsWrong)

/- THE SECOND FORM. 'bulk': how many values and letters a reading holds, each counted each time it is reached (what is shared counts as often as it is met; a slice's spare places count too). A statement '..UptoSaid' is the law's where the arguments, and the package variables that the reading takes, are together of bulk at most 1048576: NARROWER than '..Said'. Prove '..Said' where nothing that the law and all that it calls make is longer than what came in: it says more and counts as full. Else prove '..UptoSaid'. A law counts once. -/
mutual
def uptoBulk {H : Type} : DataW H → Nat
  | .lit (.string bytes) => bytes.length + 1
  | .lit _ => 1
  | .nil => 1
  | .ptr d => uptoBulk d + 1
  | .slice elems spare => uptoBulkAll elems + uptoBulkAll spare + 1
  | .agg parts => uptoBulkAll parts + 1
  | .iface _ d => uptoBulk d + 1
  | .map entries => uptoBulkEntries entries + 1
  | .held _ => 1
def uptoBulkAll {H : Type} : List (DataW H) → Nat
  | [] => 0
  | d :: r => uptoBulk d + uptoBulkAll r
def uptoBulkEntries {H : Type} : List (Lit × DataW H) → Nat
  | [] => 0
  | x :: r => uptoBulkEntry x + uptoBulkEntries r
def uptoBulkEntry {H : Type} : Lit × DataW H → Nat
  | (.string bytes, d) => bytes.length + uptoBulk d + 1
  | (_, d) => uptoBulk d + 1
 end
def uptoSmall : (H : Type) → List (DataW H) → Bool := fun _ ds => decide (uptoBulkAll ds ≤ 1048576)
def OpenSpec.upto (s : _root_.Go.ChangeSpec) : _root_.Go.OpenSpec := { _root_.Go.OpenSpec.ofChange s with cond := some uptoSmall }

/-- 'gimmallaw22.HandleForms', WHERE WHAT IT READS IS OF BULK AT MOST 1048576: true; the input reads as it did. -/
def handleFormsUptoRow : OpenClaim := { program := "ytehagcggdepajaa", sum := "da9ec5e1c84fd792063042a3003c9e07632a421be4358e69d2a1e3be757e8c16", func := "gimmal/gimmallaw22.HandleForms", spec := "handleForms", inPlace := ["slices.overlaps[gimmal/api.Peer]", "slices.overlaps[gimmal/api.Item]"], unfollowed := true, recurses := true, apart := false, narrowed := true }
def HandleFormsUptoSaid : Prop := handleFormsUptoRow.holds Try.pinned (OpenSpec.upto handleFormsSpec)

/-- 'gimmallaw22.HandleOne', WHERE WHAT IT READS IS OF BULK AT MOST 1048576: true; the input reads as it did. -/
def handleOneUptoRow : OpenClaim := { program := "ytehagcggdepajaa", sum := "da9ec5e1c84fd792063042a3003c9e07632a421be4358e69d2a1e3be757e8c16", func := "gimmal/gimmallaw22.HandleOne", spec := "handleOne", inPlace := ["slices.overlaps[gimmal/api.Peer]", "slices.overlaps[gimmal/api.Item]"], unfollowed := true, recurses := true, apart := false, narrowed := true }
def HandleOneUptoSaid : Prop := handleOneUptoRow.holds Try.pinned (OpenSpec.upto handleOneSpec)

/-- 'gimmallaw22.HandleTwice', WHERE WHAT IT READS IS OF BULK AT MOST 1048576: true; the input reads as it did. -/
def handleTwiceUptoRow : OpenClaim := { program := "ytehagcggdepajaa", sum := "da9ec5e1c84fd792063042a3003c9e07632a421be4358e69d2a1e3be757e8c16", func := "gimmal/gimmallaw22.HandleTwice", spec := "handleTwice", inPlace := ["slices.overlaps[gimmal/api.Peer]", "slices.overlaps[gimmal/api.Item]"], unfollowed := true, recurses := true, apart := false, narrowed := true }
def HandleTwiceUptoSaid : Prop := handleTwiceUptoRow.holds Try.pinned (OpenSpec.upto handleTwiceSpec)

/-- 'gimmallaw22.HandleKnows', WHERE WHAT IT READS IS OF BULK AT MOST 1048576: true; the input reads as it did. -/
def handleKnowsUptoRow : OpenClaim := { program := "ytehagcggdepajaa", sum := "da9ec5e1c84fd792063042a3003c9e07632a421be4358e69d2a1e3be757e8c16", func := "gimmal/gimmallaw22.HandleKnows", spec := "handleKnows", inPlace := ["slices.overlaps[gimmal/api.Peer]", "slices.overlaps[gimmal/api.Item]"], unfollowed := true, recurses := true, apart := false, narrowed := true }
def HandleKnowsUptoSaid : Prop := handleKnowsUptoRow.holds Try.pinned (OpenSpec.upto handleKnowsSpec)

end Rows
end Go.Proofs.Ytehagcggdepajaa
