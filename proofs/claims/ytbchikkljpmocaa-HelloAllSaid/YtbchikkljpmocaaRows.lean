/-
  No cell of these rows narrows 'for every input' (looked for: loops, veiled, ifaces, maps, wideKeys, modest, calm, conditions, laid).
  DERIVED. THE GIVEN ROWS OF THIS SEAT. 12 by the template 'for every input the law returns true; each argument reads behind the call as it read before'; 0 by the template 'total and deterministic' (their statements: YtbchikkljpmocaaTotals.lean).
  GIVEN WITH THE SEED: the statements are not yours to turn. If you find one false, say at which input.
  Laid BY PROGRAM, IN A SANDBOX (cutbox-rows.mjs): the forced cells as the released guide's own fill.sh prints them over the translation b7000989adf24d59… (all of the seat's roots in one cut). By AI agents, Wed Nov 11 2026. No macro, syntax, notation, axiom, sorry.
-/
import Derived.Test.YtbchikkljpmocaaChecked
import GoSem.Claim
import GoSem.ClaimJoined
import GoSem.ClaimMapViews
import Derived.JoinedTies
import Derived.KernelRfl
namespace Go.Proofs.Ytbchikkljpmocaa
/- THE CELL 'sum', in the pinned program and in every row, IS THE sha256 OF THE DUMP (.gsa) THAT YtbchikkljpmocaaProg.lean LOADS. Nothing in Lean hashes anything: it is a label: what it is worth is what the hold of that sum in a sandbox is worth. -/
noncomputable def Try.pinned : Pinned := { name := "ytbchikkljpmocaa", sum := "b7000989adf24d590d320389bbcb85c617ef76549b2169c4eb922570d4d28883", checked := Try.checked }
namespace Rows
def none {H : Type} : Left H := { results := [], args := [] }

/-- 'gimmallaw10.Hellos': WHATEVER THE INPUT: true; the input reads as it did. -/
def hellosSpec : ChangeSpec := { name := "hellos", fn := fun _ => fun
  | [d1, d2, d3] => { results := [.lit (.bool true)], args := [d1, d2, d3] }
  | _ => none }
def hellosRow : OpenClaim := { program := "ytbchikkljpmocaa", sum := "b7000989adf24d590d320389bbcb85c617ef76549b2169c4eb922570d4d28883", func := "gimmal/gimmallaw10.Hellos", spec := "hellos", inPlace := ["slices.overlaps[gimmal/api.Peer]"], unfollowed := true, recurses := true, apart := false }
def HellosSaid : Prop := hellosRow.holds Try.pinned (OpenSpec.ofChange hellosSpec)

/-- ITS FALSE NEIGHBOUR: 'it returns false'. Refute it at one input. -/
def hellosWrong : ChangeSpec := { name := "hellos", fn := fun _ => fun
  | [d1, d2, d3] => { results := [.lit (.bool false)], args := [d1, d2, d3] }
  | _ => none }
def HellosWrongFalsely : Prop := hellosRow.holds Try.pinned (OpenSpec.ofChange hellosWrong)

/-- 'gimmallaw10.HelloKeeps': WHATEVER THE INPUT: true; the input reads as it did. -/
def helloKeepsSpec : ChangeSpec := { name := "helloKeeps", fn := fun _ => fun
  | [d1, d2, d3] => { results := [.lit (.bool true)], args := [d1, d2, d3] }
  | _ => none }
def helloKeepsRow : OpenClaim := { program := "ytbchikkljpmocaa", sum := "b7000989adf24d590d320389bbcb85c617ef76549b2169c4eb922570d4d28883", func := "gimmal/gimmallaw10.HelloKeeps", spec := "helloKeeps", inPlace := ["slices.overlaps[gimmal/api.Peer]"], unfollowed := true, recurses := true, apart := false }
def HelloKeepsSaid : Prop := helloKeepsRow.holds Try.pinned (OpenSpec.ofChange helloKeepsSpec)

/-- ITS FALSE NEIGHBOUR: 'it returns false'. Refute it at one input. -/
def helloKeepsWrong : ChangeSpec := { name := "helloKeeps", fn := fun _ => fun
  | [d1, d2, d3] => { results := [.lit (.bool false)], args := [d1, d2, d3] }
  | _ => none }
def HelloKeepsWrongFalsely : Prop := helloKeepsRow.holds Try.pinned (OpenSpec.ofChange helloKeepsWrong)

/-- 'gimmallaw10.HelloForms': WHATEVER THE INPUT: true; the input reads as it did. -/
def helloFormsSpec : ChangeSpec := { name := "helloForms", fn := fun _ => fun
  | [d1, d2] => { results := [.lit (.bool true)], args := [d1, d2] }
  | _ => none }
def helloFormsRow : OpenClaim := { program := "ytbchikkljpmocaa", sum := "b7000989adf24d590d320389bbcb85c617ef76549b2169c4eb922570d4d28883", func := "gimmal/gimmallaw10.HelloForms", spec := "helloForms", inPlace := ["slices.overlaps[gimmal/api.Peer]"], unfollowed := true, recurses := true, apart := false }
def HelloFormsSaid : Prop := helloFormsRow.holds Try.pinned (OpenSpec.ofChange helloFormsSpec)

/-- ITS FALSE NEIGHBOUR: 'it returns false'. Refute it at one input. -/
def helloFormsWrong : ChangeSpec := { name := "helloForms", fn := fun _ => fun
  | [d1, d2] => { results := [.lit (.bool false)], args := [d1, d2] }
  | _ => none }
def HelloFormsWrongFalsely : Prop := helloFormsRow.holds Try.pinned (OpenSpec.ofChange helloFormsWrong)

/-- 'gimmallaw10.HelloFull': WHATEVER THE INPUT: true; the input reads as it did. -/
def helloFullSpec : ChangeSpec := { name := "helloFull", fn := fun _ => fun
  | [d1, d2] => { results := [.lit (.bool true)], args := [d1, d2] }
  | _ => none }
def helloFullRow : OpenClaim := { program := "ytbchikkljpmocaa", sum := "b7000989adf24d590d320389bbcb85c617ef76549b2169c4eb922570d4d28883", func := "gimmal/gimmallaw10.HelloFull", spec := "helloFull", inPlace := ["slices.overlaps[gimmal/api.Peer]"], unfollowed := true, recurses := true, apart := false }
def HelloFullSaid : Prop := helloFullRow.holds Try.pinned (OpenSpec.ofChange helloFullSpec)

/-- ITS FALSE NEIGHBOUR: 'it returns false'. Refute it at one input. -/
def helloFullWrong : ChangeSpec := { name := "helloFull", fn := fun _ => fun
  | [d1, d2] => { results := [.lit (.bool false)], args := [d1, d2] }
  | _ => none }
def HelloFullWrongFalsely : Prop := helloFullRow.holds Try.pinned (OpenSpec.ofChange helloFullWrong)

/-- 'gimmallaw10.HelloTwice': WHATEVER THE INPUT: true; the input reads as it did. -/
def helloTwiceSpec : ChangeSpec := { name := "helloTwice", fn := fun _ => fun
  | [d1, d2, d3] => { results := [.lit (.bool true)], args := [d1, d2, d3] }
  | _ => none }
def helloTwiceRow : OpenClaim := { program := "ytbchikkljpmocaa", sum := "b7000989adf24d590d320389bbcb85c617ef76549b2169c4eb922570d4d28883", func := "gimmal/gimmallaw10.HelloTwice", spec := "helloTwice", inPlace := ["slices.overlaps[gimmal/api.Peer]"], unfollowed := true, recurses := true, apart := false }
def HelloTwiceSaid : Prop := helloTwiceRow.holds Try.pinned (OpenSpec.ofChange helloTwiceSpec)

/-- ITS FALSE NEIGHBOUR: 'it returns false'. Refute it at one input. -/
def helloTwiceWrong : ChangeSpec := { name := "helloTwice", fn := fun _ => fun
  | [d1, d2, d3] => { results := [.lit (.bool false)], args := [d1, d2, d3] }
  | _ => none }
def HelloTwiceWrongFalsely : Prop := helloTwiceRow.holds Try.pinned (OpenSpec.ofChange helloTwiceWrong)

/-- 'gimmallaw10.HelloRow': WHATEVER THE INPUT: true; the input reads as it did. -/
def helloRowSpec : ChangeSpec := { name := "helloRow", fn := fun _ => fun
  | [d1, d2, d3, d4] => { results := [.lit (.bool true)], args := [d1, d2, d3, d4] }
  | _ => none }
def helloRowRow : OpenClaim := { program := "ytbchikkljpmocaa", sum := "b7000989adf24d590d320389bbcb85c617ef76549b2169c4eb922570d4d28883", func := "gimmal/gimmallaw10.HelloRow", spec := "helloRow", inPlace := ["slices.overlaps[gimmal/api.Peer]"], unfollowed := true, recurses := true, apart := false }
def HelloRowSaid : Prop := helloRowRow.holds Try.pinned (OpenSpec.ofChange helloRowSpec)

/-- ITS FALSE NEIGHBOUR: 'it returns false'. Refute it at one input. -/
def helloRowWrong : ChangeSpec := { name := "helloRow", fn := fun _ => fun
  | [d1, d2, d3, d4] => { results := [.lit (.bool false)], args := [d1, d2, d3, d4] }
  | _ => none }
def HelloRowWrongFalsely : Prop := helloRowRow.holds Try.pinned (OpenSpec.ofChange helloRowWrong)

/-- 'gimmallaw10.HelloAll': WHATEVER THE INPUT: true; the input reads as it did. -/
def helloAllSpec : ChangeSpec := { name := "helloAll", fn := fun _ => fun
  | [d] => { results := [.lit (.bool true)], args := [d] }
  | _ => none }
def helloAllRow : OpenClaim := { program := "ytbchikkljpmocaa", sum := "b7000989adf24d590d320389bbcb85c617ef76549b2169c4eb922570d4d28883", func := "gimmal/gimmallaw10.HelloAll", spec := "helloAll", inPlace := ["slices.overlaps[gimmal/api.Peer]"], unfollowed := true, recurses := true, apart := false }
def HelloAllSaid : Prop := helloAllRow.holds Try.pinned (OpenSpec.ofChange helloAllSpec)

/-- ITS FALSE NEIGHBOUR: 'it returns false'. Refute it at one input. -/
def helloAllWrong : ChangeSpec := { name := "helloAll", fn := fun _ => fun
  | [d] => { results := [.lit (.bool false)], args := [d] }
  | _ => none }
def HelloAllWrongFalsely : Prop := helloAllRow.holds Try.pinned (OpenSpec.ofChange helloAllWrong)

/-- 'gimmallaw17.Writes': WHATEVER THE INPUT: true; the input reads as it did. -/
def writesSpec : ChangeSpec := { name := "writes", fn := fun _ => fun
  | [d1, d2, d3] => { results := [.lit (.bool true)], args := [d1, d2, d3] }
  | _ => none }
def writesRow : OpenClaim := { program := "ytbchikkljpmocaa", sum := "b7000989adf24d590d320389bbcb85c617ef76549b2169c4eb922570d4d28883", func := "gimmal/gimmallaw17.Writes", spec := "writes", inPlace := ["slices.overlaps[gimmal/api.Item]"], unfollowed := true, recurses := true, apart := false }
def WritesSaid : Prop := writesRow.holds Try.pinned (OpenSpec.ofChange writesSpec)

/-- ITS FALSE NEIGHBOUR: 'it returns false'. Refute it at one input. -/
def writesWrong : ChangeSpec := { name := "writes", fn := fun _ => fun
  | [d1, d2, d3] => { results := [.lit (.bool false)], args := [d1, d2, d3] }
  | _ => none }
def WritesWrongFalsely : Prop := writesRow.holds Try.pinned (OpenSpec.ofChange writesWrong)

/-- 'gimmallaw17.WriteForms': WHATEVER THE INPUT: true; the input reads as it did. -/
def writeFormsSpec : ChangeSpec := { name := "writeForms", fn := fun _ => fun
  | [d1, d2] => { results := [.lit (.bool true)], args := [d1, d2] }
  | _ => none }
def writeFormsRow : OpenClaim := { program := "ytbchikkljpmocaa", sum := "b7000989adf24d590d320389bbcb85c617ef76549b2169c4eb922570d4d28883", func := "gimmal/gimmallaw17.WriteForms", spec := "writeForms", inPlace := ["slices.overlaps[gimmal/api.Item]"], unfollowed := true, recurses := true, apart := false }
def WriteFormsSaid : Prop := writeFormsRow.holds Try.pinned (OpenSpec.ofChange writeFormsSpec)

/-- ITS FALSE NEIGHBOUR: 'it returns false'. Refute it at one input. -/
def writeFormsWrong : ChangeSpec := { name := "writeForms", fn := fun _ => fun
  | [d1, d2] => { results := [.lit (.bool false)], args := [d1, d2] }
  | _ => none }
def WriteFormsWrongFalsely : Prop := writeFormsRow.holds Try.pinned (OpenSpec.ofChange writeFormsWrong)

/-- 'gimmallaw17.WriteNewer': WHATEVER THE INPUT: true; the input reads as it did. -/
def writeNewerSpec : ChangeSpec := { name := "writeNewer", fn := fun _ => fun
  | [d1, d2, d3, d4] => { results := [.lit (.bool true)], args := [d1, d2, d3, d4] }
  | _ => none }
def writeNewerRow : OpenClaim := { program := "ytbchikkljpmocaa", sum := "b7000989adf24d590d320389bbcb85c617ef76549b2169c4eb922570d4d28883", func := "gimmal/gimmallaw17.WriteNewer", spec := "writeNewer", inPlace := ["slices.overlaps[gimmal/api.Item]"], unfollowed := true, recurses := true, apart := false }
def WriteNewerSaid : Prop := writeNewerRow.holds Try.pinned (OpenSpec.ofChange writeNewerSpec)

/-- ITS FALSE NEIGHBOUR: 'it returns false'. Refute it at one input. -/
def writeNewerWrong : ChangeSpec := { name := "writeNewer", fn := fun _ => fun
  | [d1, d2, d3, d4] => { results := [.lit (.bool false)], args := [d1, d2, d3, d4] }
  | _ => none }
def WriteNewerWrongFalsely : Prop := writeNewerRow.holds Try.pinned (OpenSpec.ofChange writeNewerWrong)

/-- 'gimmallaw17.WriteOther': WHATEVER THE INPUT: true; the input reads as it did. -/
def writeOtherSpec : ChangeSpec := { name := "writeOther", fn := fun _ => fun
  | [d1, d2, d3, d4] => { results := [.lit (.bool true)], args := [d1, d2, d3, d4] }
  | _ => none }
def writeOtherRow : OpenClaim := { program := "ytbchikkljpmocaa", sum := "b7000989adf24d590d320389bbcb85c617ef76549b2169c4eb922570d4d28883", func := "gimmal/gimmallaw17.WriteOther", spec := "writeOther", inPlace := ["slices.overlaps[gimmal/api.Item]"], unfollowed := true, recurses := true, apart := false }
def WriteOtherSaid : Prop := writeOtherRow.holds Try.pinned (OpenSpec.ofChange writeOtherSpec)

/-- ITS FALSE NEIGHBOUR: 'it returns false'. Refute it at one input. -/
def writeOtherWrong : ChangeSpec := { name := "writeOther", fn := fun _ => fun
  | [d1, d2, d3, d4] => { results := [.lit (.bool false)], args := [d1, d2, d3, d4] }
  | _ => none }
def WriteOtherWrongFalsely : Prop := writeOtherRow.holds Try.pinned (OpenSpec.ofChange writeOtherWrong)

/-- 'gimmallaw17.WriteRow': WHATEVER THE INPUT: true; the input reads as it did. -/
def writeRowSpec : ChangeSpec := { name := "writeRow", fn := fun _ => fun
  | [d] => { results := [.lit (.bool true)], args := [d] }
  | _ => none }
def writeRowRow : OpenClaim := { program := "ytbchikkljpmocaa", sum := "b7000989adf24d590d320389bbcb85c617ef76549b2169c4eb922570d4d28883", func := "gimmal/gimmallaw17.WriteRow", spec := "writeRow", inPlace := ["slices.overlaps[gimmal/api.Item]"], unfollowed := true, recurses := true, apart := false }
def WriteRowSaid : Prop := writeRowRow.holds Try.pinned (OpenSpec.ofChange writeRowSpec)

/-- ITS FALSE NEIGHBOUR: 'it returns false'. Refute it at one input. -/
def writeRowWrong : ChangeSpec := { name := "writeRow", fn := fun _ => fun
  | [d] => { results := [.lit (.bool false)], args := [d] }
  | _ => none }
def WriteRowWrongFalsely : Prop := writeRowRow.holds Try.pinned (OpenSpec.ofChange writeRowWrong)

/- THE SECOND FORM. 'bulk': how many values and letters a reading holds, each counted each time it is reached (what is shared counts as often as it is met; a slice's spare places count too). A statement '..UptoSaid' is the law's where the arguments, and the package variables that the reading takes, are together of bulk at most 1048576: NARROWER than '..Said'. Prove '..Said' where nothing that the law and all that it calls make is longer than what came in: it says more and counts as full. Else prove '..UptoSaid'. A law counts once. -/
mutual
def uptoBulk {H : Type} : DataW H → Nat
  | .lit (.string bytes) => bytes.length + 1
  | .lit _ => 1
  | .nil => 1
  | .ptr d => uptoBulk d + 1
  | .slice elems spare => uptoBulkAll elems + uptoBulkAll spare + 1
  | .agg parts => uptoBulkAll parts + 1
  | .iface _ d => uptoBulk d + 1
  | .map entries => uptoBulkEntries entries + 1
  | .held _ => 1
def uptoBulkAll {H : Type} : List (DataW H) → Nat
  | [] => 0
  | d :: r => uptoBulk d + uptoBulkAll r
def uptoBulkEntries {H : Type} : List (Lit × DataW H) → Nat
  | [] => 0
  | x :: r => uptoBulkEntry x + uptoBulkEntries r
def uptoBulkEntry {H : Type} : Lit × DataW H → Nat
  | (.string bytes, d) => bytes.length + uptoBulk d + 1
  | (_, d) => uptoBulk d + 1
 end
def uptoSmall : (H : Type) → List (DataW H) → Bool := fun _ ds => decide (uptoBulkAll ds ≤ 1048576)
def OpenSpec.upto (s : _root_.Go.ChangeSpec) : _root_.Go.OpenSpec := { _root_.Go.OpenSpec.ofChange s with cond := some uptoSmall }

/-- 'gimmallaw10.Hellos', WHERE WHAT IT READS IS OF BULK AT MOST 1048576: true; the input reads as it did. -/
def hellosUptoRow : OpenClaim := { program := "ytbchikkljpmocaa", sum := "b7000989adf24d590d320389bbcb85c617ef76549b2169c4eb922570d4d28883", func := "gimmal/gimmallaw10.Hellos", spec := "hellos", inPlace := ["slices.overlaps[gimmal/api.Peer]"], unfollowed := true, recurses := true, apart := false, narrowed := true }
def HellosUptoSaid : Prop := hellosUptoRow.holds Try.pinned (OpenSpec.upto hellosSpec)

/-- 'gimmallaw10.HelloKeeps', WHERE WHAT IT READS IS OF BULK AT MOST 1048576: true; the input reads as it did. -/
def helloKeepsUptoRow : OpenClaim := { program := "ytbchikkljpmocaa", sum := "b7000989adf24d590d320389bbcb85c617ef76549b2169c4eb922570d4d28883", func := "gimmal/gimmallaw10.HelloKeeps", spec := "helloKeeps", inPlace := ["slices.overlaps[gimmal/api.Peer]"], unfollowed := true, recurses := true, apart := false, narrowed := true }
def HelloKeepsUptoSaid : Prop := helloKeepsUptoRow.holds Try.pinned (OpenSpec.upto helloKeepsSpec)

/-- 'gimmallaw10.HelloForms', WHERE WHAT IT READS IS OF BULK AT MOST 1048576: true; the input reads as it did. -/
def helloFormsUptoRow : OpenClaim := { program := "ytbchikkljpmocaa", sum := "b7000989adf24d590d320389bbcb85c617ef76549b2169c4eb922570d4d28883", func := "gimmal/gimmallaw10.HelloForms", spec := "helloForms", inPlace := ["slices.overlaps[gimmal/api.Peer]"], unfollowed := true, recurses := true, apart := false, narrowed := true }
def HelloFormsUptoSaid : Prop := helloFormsUptoRow.holds Try.pinned (OpenSpec.upto helloFormsSpec)

/-- 'gimmallaw10.HelloFull', WHERE WHAT IT READS IS OF BULK AT MOST 1048576: true; the input reads as it did. -/
def helloFullUptoRow : OpenClaim := { program := "ytbchikkljpmocaa", sum := "b7000989adf24d590d320389bbcb85c617ef76549b2169c4eb922570d4d28883", func := "gimmal/gimmallaw10.HelloFull", spec := "helloFull", inPlace := ["slices.overlaps[gimmal/api.Peer]"], unfollowed := true, recurses := true, apart := false, narrowed := true }
def HelloFullUptoSaid : Prop := helloFullUptoRow.holds Try.pinned (OpenSpec.upto helloFullSpec)

/-- 'gimmallaw10.HelloTwice', WHERE WHAT IT READS IS OF BULK AT MOST 1048576: true; the input reads as it did. -/
def helloTwiceUptoRow : OpenClaim := { program := "ytbchikkljpmocaa", sum := "b7000989adf24d590d320389bbcb85c617ef76549b2169c4eb922570d4d28883", func := "gimmal/gimmallaw10.HelloTwice", spec := "helloTwice", inPlace := ["slices.overlaps[gimmal/api.Peer]"], unfollowed := true, recurses := true, apart := false, narrowed := true }
def HelloTwiceUptoSaid : Prop := helloTwiceUptoRow.holds Try.pinned (OpenSpec.upto helloTwiceSpec)

/-- 'gimmallaw10.HelloRow', WHERE WHAT IT READS IS OF BULK AT MOST 1048576: true; the input reads as it did. -/
def helloRowUptoRow : OpenClaim := { program := "ytbchikkljpmocaa", sum := "b7000989adf24d590d320389bbcb85c617ef76549b2169c4eb922570d4d28883", func := "gimmal/gimmallaw10.HelloRow", spec := "helloRow", inPlace := ["slices.overlaps[gimmal/api.Peer]"], unfollowed := true, recurses := true, apart := false, narrowed := true }
def HelloRowUptoSaid : Prop := helloRowUptoRow.holds Try.pinned (OpenSpec.upto helloRowSpec)

/-- 'gimmallaw10.HelloAll', WHERE WHAT IT READS IS OF BULK AT MOST 1048576: true; the input reads as it did. -/
def helloAllUptoRow : OpenClaim := { program := "ytbchikkljpmocaa", sum := "b7000989adf24d590d320389bbcb85c617ef76549b2169c4eb922570d4d28883", func := "gimmal/gimmallaw10.HelloAll", spec := "helloAll", inPlace := ["slices.overlaps[gimmal/api.Peer]"], unfollowed := true, recurses := true, apart := false, narrowed := true }
def HelloAllUptoSaid : Prop := helloAllUptoRow.holds Try.pinned (OpenSpec.upto helloAllSpec)

/-- 'gimmallaw17.Writes', WHERE WHAT IT READS IS OF BULK AT MOST 1048576: true; the input reads as it did. -/
def writesUptoRow : OpenClaim := { program := "ytbchikkljpmocaa", sum := "b7000989adf24d590d320389bbcb85c617ef76549b2169c4eb922570d4d28883", func := "gimmal/gimmallaw17.Writes", spec := "writes", inPlace := ["slices.overlaps[gimmal/api.Item]"], unfollowed := true, recurses := true, apart := false, narrowed := true }
def WritesUptoSaid : Prop := writesUptoRow.holds Try.pinned (OpenSpec.upto writesSpec)

/-- 'gimmallaw17.WriteForms', WHERE WHAT IT READS IS OF BULK AT MOST 1048576: true; the input reads as it did. -/
def writeFormsUptoRow : OpenClaim := { program := "ytbchikkljpmocaa", sum := "b7000989adf24d590d320389bbcb85c617ef76549b2169c4eb922570d4d28883", func := "gimmal/gimmallaw17.WriteForms", spec := "writeForms", inPlace := ["slices.overlaps[gimmal/api.Item]"], unfollowed := true, recurses := true, apart := false, narrowed := true }
def WriteFormsUptoSaid : Prop := writeFormsUptoRow.holds Try.pinned (OpenSpec.upto writeFormsSpec)

/-- 'gimmallaw17.WriteNewer', WHERE WHAT IT READS IS OF BULK AT MOST 1048576: true; the input reads as it did. -/
def writeNewerUptoRow : OpenClaim := { program := "ytbchikkljpmocaa", sum := "b7000989adf24d590d320389bbcb85c617ef76549b2169c4eb922570d4d28883", func := "gimmal/gimmallaw17.WriteNewer", spec := "writeNewer", inPlace := ["slices.overlaps[gimmal/api.Item]"], unfollowed := true, recurses := true, apart := false, narrowed := true }
def WriteNewerUptoSaid : Prop := writeNewerUptoRow.holds Try.pinned (OpenSpec.upto writeNewerSpec)

/-- 'gimmallaw17.WriteOther', WHERE WHAT IT READS IS OF BULK AT MOST 1048576: true; the input reads as it did. -/
def writeOtherUptoRow : OpenClaim := { program := "ytbchikkljpmocaa", sum := "b7000989adf24d590d320389bbcb85c617ef76549b2169c4eb922570d4d28883", func := "gimmal/gimmallaw17.WriteOther", spec := "writeOther", inPlace := ["slices.overlaps[gimmal/api.Item]"], unfollowed := true, recurses := true, apart := false, narrowed := true }
def WriteOtherUptoSaid : Prop := writeOtherUptoRow.holds Try.pinned (OpenSpec.upto writeOtherSpec)

/-- 'gimmallaw17.WriteRow', WHERE WHAT IT READS IS OF BULK AT MOST 1048576: true; the input reads as it did. -/
def writeRowUptoRow : OpenClaim := { program := "ytbchikkljpmocaa", sum := "b7000989adf24d590d320389bbcb85c617ef76549b2169c4eb922570d4d28883", func := "gimmal/gimmallaw17.WriteRow", spec := "writeRow", inPlace := ["slices.overlaps[gimmal/api.Item]"], unfollowed := true, recurses := true, apart := false, narrowed := true }
def WriteRowUptoSaid : Prop := writeRowUptoRow.holds Try.pinned (OpenSpec.upto writeRowSpec)

end Rows
end Go.Proofs.Ytbchikkljpmocaa
