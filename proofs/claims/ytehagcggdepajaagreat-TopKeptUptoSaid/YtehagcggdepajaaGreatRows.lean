/-
  No cell of these rows narrows 'for every input' (looked for: loops, veiled, ifaces, maps, wideKeys, modest, calm, conditions, laid).
  DERIVED. THE GIVEN ROWS OF THIS SEAT. 8 by the template 'for every input the law returns true; each argument reads behind the call as it read before'; 0 by the template 'total and deterministic' (their statements: YtehagcggdepajaaGreatTotals.lean).
  GIVEN WITH THE SEED: the statements are not yours to turn. If you find one false, say at which input.
  Laid BY PROGRAM, IN A SANDBOX (cutbox-rows.mjs): the forced cells as the released guide's own fill.sh prints them over the translation c2ec2fe3804ab9d7… (all of the seat's roots in one cut). By AI agents, Wed Nov 11 2026. No macro, syntax, notation, axiom, sorry.
-/
import Derived.Test.YtehagcggdepajaaGreatChecked
import GoSem.Claim
import GoSem.ClaimJoined
import GoSem.ClaimMapViews
import Derived.JoinedTies
import Derived.KernelRfl
namespace Go.Proofs.YtehagcggdepajaaGreat
/- THE CELL 'sum', in the pinned program and in every row, IS THE sha256 OF THE DUMP (.gsa) THAT YtehagcggdepajaaGreatProg.lean LOADS. Nothing in Lean hashes anything: it is a label: what it is worth is what the hold of that sum in a sandbox is worth. -/
noncomputable def Tryz.pinned : Pinned := { name := "ytehagcggdepajaagreat", sum := "c2ec2fe3804ab9d726b61da838cbe3b873c6123f8256298a81249317d562c53d", checked := Tryz.checked }
namespace Rows
def none {H : Type} : Left H := { results := [], args := [] }

/-- 'gimmaltop.TopHealed': WHATEVER THE INPUT: true; the input reads as it did. -/
def topHealedSpec : ChangeSpec := { name := "topHealed", fn := fun _ => fun
  | [d] => { results := [.lit (.bool true)], args := [d] }
  | _ => none }
def topHealedRow : OpenClaim := { program := "ytehagcggdepajaagreat", sum := "c2ec2fe3804ab9d726b61da838cbe3b873c6123f8256298a81249317d562c53d", func := "gimmal/gimmaltop.TopHealed", spec := "topHealed", inPlace := ["slices.overlaps[int]", "slices.overlaps[gimmal/api.Peer]", "slices.overlaps[gimmal/api.Item]", "slices.overlaps[gimmal/api.Cut]"], unfollowed := true, recurses := true, apart := false }
def TopHealedSaid : Prop := topHealedRow.holds Tryz.pinned (OpenSpec.ofChange topHealedSpec)

/-- ITS FALSE NEIGHBOUR: 'it returns false'. Refute it at one input. -/
def topHealedWrong : ChangeSpec := { name := "topHealed", fn := fun _ => fun
  | [d] => { results := [.lit (.bool false)], args := [d] }
  | _ => none }
def TopHealedWrongFalsely : Prop := topHealedRow.holds Tryz.pinned (OpenSpec.ofChange topHealedWrong)

/-- 'gimmaltop.TopKept': WHATEVER THE INPUT: true; the input reads as it did. -/
def topKeptSpec : ChangeSpec := { name := "topKept", fn := fun _ => fun
  | [d1, d2, d3] => { results := [.lit (.bool true)], args := [d1, d2, d3] }
  | _ => none }
def topKeptRow : OpenClaim := { program := "ytehagcggdepajaagreat", sum := "c2ec2fe3804ab9d726b61da838cbe3b873c6123f8256298a81249317d562c53d", func := "gimmal/gimmaltop.TopKept", spec := "topKept", inPlace := ["slices.overlaps[int]", "slices.overlaps[gimmal/api.Peer]", "slices.overlaps[gimmal/api.Item]", "slices.overlaps[gimmal/api.Cut]"], unfollowed := true, recurses := true, apart := false }
def TopKeptSaid : Prop := topKeptRow.holds Tryz.pinned (OpenSpec.ofChange topKeptSpec)

/-- ITS FALSE NEIGHBOUR: 'it returns false'. Refute it at one input. -/
def topKeptWrong : ChangeSpec := { name := "topKept", fn := fun _ => fun
  | [d1, d2, d3] => { results := [.lit (.bool false)], args := [d1, d2, d3] }
  | _ => none }
def TopKeptWrongFalsely : Prop := topKeptRow.holds Tryz.pinned (OpenSpec.ofChange topKeptWrong)

/-- 'gimmaltop.TopKnown': WHATEVER THE INPUT: true; the input reads as it did. -/
def topKnownSpec : ChangeSpec := { name := "topKnown", fn := fun _ => fun
  | [d1, d2] => { results := [.lit (.bool true)], args := [d1, d2] }
  | _ => none }
def topKnownRow : OpenClaim := { program := "ytehagcggdepajaagreat", sum := "c2ec2fe3804ab9d726b61da838cbe3b873c6123f8256298a81249317d562c53d", func := "gimmal/gimmaltop.TopKnown", spec := "topKnown", inPlace := ["slices.overlaps[int]", "slices.overlaps[gimmal/api.Peer]", "slices.overlaps[gimmal/api.Item]", "slices.overlaps[gimmal/api.Cut]"], unfollowed := true, recurses := true, apart := false }
def TopKnownSaid : Prop := topKnownRow.holds Tryz.pinned (OpenSpec.ofChange topKnownSpec)

/-- ITS FALSE NEIGHBOUR: 'it returns false'. Refute it at one input. -/
def topKnownWrong : ChangeSpec := { name := "topKnown", fn := fun _ => fun
  | [d1, d2] => { results := [.lit (.bool false)], args := [d1, d2] }
  | _ => none }
def TopKnownWrongFalsely : Prop := topKnownRow.holds Tryz.pinned (OpenSpec.ofChange topKnownWrong)

/-- 'gimmallaw22.Handles': WHATEVER THE INPUT: true; the input reads as it did. -/
def handlesSpec : ChangeSpec := { name := "handles", fn := fun _ => fun
  | [d1, d2] => { results := [.lit (.bool true)], args := [d1, d2] }
  | _ => none }
def handlesRow : OpenClaim := { program := "ytehagcggdepajaagreat", sum := "c2ec2fe3804ab9d726b61da838cbe3b873c6123f8256298a81249317d562c53d", func := "gimmal/gimmallaw22.Handles", spec := "handles", inPlace := ["slices.overlaps[gimmal/api.Peer]", "slices.overlaps[gimmal/api.Item]"], unfollowed := true, recurses := true, apart := false }
def HandlesSaid : Prop := handlesRow.holds Tryz.pinned (OpenSpec.ofChange handlesSpec)

/-- ITS FALSE NEIGHBOUR: 'it returns false'. Refute it at one input. -/
def handlesWrong : ChangeSpec := { name := "handles", fn := fun _ => fun
  | [d1, d2] => { results := [.lit (.bool false)], args := [d1, d2] }
  | _ => none }
def HandlesWrongFalsely : Prop := handlesRow.holds Tryz.pinned (OpenSpec.ofChange handlesWrong)

/-- 'gimmaltop.TopNewest': WHATEVER THE INPUT: true; the input reads as it did. -/
def topNewestSpec : ChangeSpec := { name := "topNewest", fn := fun _ => fun
  | [d1, d2] => { results := [.lit (.bool true)], args := [d1, d2] }
  | _ => none }
def topNewestRow : OpenClaim := { program := "ytehagcggdepajaagreat", sum := "c2ec2fe3804ab9d726b61da838cbe3b873c6123f8256298a81249317d562c53d", func := "gimmal/gimmaltop.TopNewest", spec := "topNewest", inPlace := ["slices.overlaps[int]", "slices.overlaps[gimmal/api.Peer]", "slices.overlaps[gimmal/api.Item]", "slices.overlaps[gimmal/api.Cut]"], unfollowed := true, recurses := true, apart := false }
def TopNewestSaid : Prop := topNewestRow.holds Tryz.pinned (OpenSpec.ofChange topNewestSpec)

/-- ITS FALSE NEIGHBOUR: 'it returns false'. Refute it at one input. -/
def topNewestWrong : ChangeSpec := { name := "topNewest", fn := fun _ => fun
  | [d1, d2] => { results := [.lit (.bool false)], args := [d1, d2] }
  | _ => none }
def TopNewestWrongFalsely : Prop := topNewestRow.holds Tryz.pinned (OpenSpec.ofChange topNewestWrong)

/-- 'gimmaltop.TopTicks': WHATEVER THE INPUT: true; the input reads as it did. -/
def topTicksSpec : ChangeSpec := { name := "topTicks", fn := fun _ => fun
  | [d] => { results := [.lit (.bool true)], args := [d] }
  | _ => none }
def topTicksRow : OpenClaim := { program := "ytehagcggdepajaagreat", sum := "c2ec2fe3804ab9d726b61da838cbe3b873c6123f8256298a81249317d562c53d", func := "gimmal/gimmaltop.TopTicks", spec := "topTicks", inPlace := ["slices.overlaps[int]", "slices.overlaps[gimmal/api.Peer]", "slices.overlaps[gimmal/api.Item]", "slices.overlaps[gimmal/api.Cut]"], unfollowed := true, recurses := true, apart := false }
def TopTicksSaid : Prop := topTicksRow.holds Tryz.pinned (OpenSpec.ofChange topTicksSpec)

/-- ITS FALSE NEIGHBOUR: 'it returns false'. Refute it at one input. -/
def topTicksWrong : ChangeSpec := { name := "topTicks", fn := fun _ => fun
  | [d] => { results := [.lit (.bool false)], args := [d] }
  | _ => none }
def TopTicksWrongFalsely : Prop := topTicksRow.holds Tryz.pinned (OpenSpec.ofChange topTicksWrong)

/-- 'gimmaltop.TopHears': WHATEVER THE INPUT: true; the input reads as it did. -/
def topHearsSpec : ChangeSpec := { name := "topHears", fn := fun _ => fun
  | [d1, d2] => { results := [.lit (.bool true)], args := [d1, d2] }
  | _ => none }
def topHearsRow : OpenClaim := { program := "ytehagcggdepajaagreat", sum := "c2ec2fe3804ab9d726b61da838cbe3b873c6123f8256298a81249317d562c53d", func := "gimmal/gimmaltop.TopHears", spec := "topHears", inPlace := ["slices.overlaps[int]", "slices.overlaps[gimmal/api.Peer]", "slices.overlaps[gimmal/api.Item]", "slices.overlaps[gimmal/api.Cut]"], unfollowed := true, recurses := true, apart := false }
def TopHearsSaid : Prop := topHearsRow.holds Tryz.pinned (OpenSpec.ofChange topHearsSpec)

/-- ITS FALSE NEIGHBOUR: 'it returns false'. Refute it at one input. -/
def topHearsWrong : ChangeSpec := { name := "topHears", fn := fun _ => fun
  | [d1, d2] => { results := [.lit (.bool false)], args := [d1, d2] }
  | _ => none }
def TopHearsWrongFalsely : Prop := topHearsRow.holds Tryz.pinned (OpenSpec.ofChange topHearsWrong)

/-- 'gimmaltop.TopParts': WHATEVER THE INPUT: true; the input reads as it did. -/
def topPartsSpec : ChangeSpec := { name := "topParts", fn := fun _ => fun
  | [d1, d2, d3] => { results := [.lit (.bool true)], args := [d1, d2, d3] }
  | _ => none }
def topPartsRow : OpenClaim := { program := "ytehagcggdepajaagreat", sum := "c2ec2fe3804ab9d726b61da838cbe3b873c6123f8256298a81249317d562c53d", func := "gimmal/gimmaltop.TopParts", spec := "topParts", inPlace := ["slices.overlaps[int]", "slices.overlaps[gimmal/api.Peer]", "slices.overlaps[gimmal/api.Item]", "slices.overlaps[gimmal/api.Cut]"], unfollowed := true, recurses := true, apart := false }
def TopPartsSaid : Prop := topPartsRow.holds Tryz.pinned (OpenSpec.ofChange topPartsSpec)

/-- ITS FALSE NEIGHBOUR: 'it returns false'. Refute it at one input. -/
def topPartsWrong : ChangeSpec := { name := "topParts", fn := fun _ => fun
  | [d1, d2, d3] => { results := [.lit (.bool false)], args := [d1, d2, d3] }
  | _ => none }
def TopPartsWrongFalsely : Prop := topPartsRow.holds Tryz.pinned (OpenSpec.ofChange topPartsWrong)

/- THE SECOND FORM. 'bulk': how many values and letters a reading holds, each counted each time it is reached (what is shared counts as often as it is met; a slice's spare places count too). A statement '..UptoSaid' is the law's where the arguments, and the package variables that the reading takes, are together of bulk at most 1048576: NARROWER than '..Said'. Prove '..Said' where nothing that the law and all that it calls make is longer than what came in: it says more and counts as full. Else prove '..UptoSaid'. A law counts once. -/
mutual
def uptoBulk {H : Type} : DataW H → Nat
  | .lit (.string bytes) => bytes.length + 1
  | .lit _ => 1
  | .nil => 1
  | .ptr d => uptoBulk d + 1
  | .slice elems spare => uptoBulkAll elems + uptoBulkAll spare + 1
  | .agg parts => uptoBulkAll parts + 1
  | .iface _ d => uptoBulk d + 1
  | .map entries => uptoBulkEntries entries + 1
  | .held _ => 1
def uptoBulkAll {H : Type} : List (DataW H) → Nat
  | [] => 0
  | d :: r => uptoBulk d + uptoBulkAll r
def uptoBulkEntries {H : Type} : List (Lit × DataW H) → Nat
  | [] => 0
  | x :: r => uptoBulkEntry x + uptoBulkEntries r
def uptoBulkEntry {H : Type} : Lit × DataW H → Nat
  | (.string bytes, d) => bytes.length + uptoBulk d + 1
  | (_, d) => uptoBulk d + 1
 end
def uptoSmall : (H : Type) → List (DataW H) → Bool := fun _ ds => decide (uptoBulkAll ds ≤ 1048576)
def OpenSpec.upto (s : _root_.Go.ChangeSpec) : _root_.Go.OpenSpec := { _root_.Go.OpenSpec.ofChange s with cond := some uptoSmall }

/-- 'gimmaltop.TopHealed', WHERE WHAT IT READS IS OF BULK AT MOST 1048576: true; the input reads as it did. -/
def topHealedUptoRow : OpenClaim := { program := "ytehagcggdepajaagreat", sum := "c2ec2fe3804ab9d726b61da838cbe3b873c6123f8256298a81249317d562c53d", func := "gimmal/gimmaltop.TopHealed", spec := "topHealed", inPlace := ["slices.overlaps[int]", "slices.overlaps[gimmal/api.Peer]", "slices.overlaps[gimmal/api.Item]", "slices.overlaps[gimmal/api.Cut]"], unfollowed := true, recurses := true, apart := false, narrowed := true }
def TopHealedUptoSaid : Prop := topHealedUptoRow.holds Tryz.pinned (OpenSpec.upto topHealedSpec)

/-- 'gimmaltop.TopKept', WHERE WHAT IT READS IS OF BULK AT MOST 1048576: true; the input reads as it did. -/
def topKeptUptoRow : OpenClaim := { program := "ytehagcggdepajaagreat", sum := "c2ec2fe3804ab9d726b61da838cbe3b873c6123f8256298a81249317d562c53d", func := "gimmal/gimmaltop.TopKept", spec := "topKept", inPlace := ["slices.overlaps[int]", "slices.overlaps[gimmal/api.Peer]", "slices.overlaps[gimmal/api.Item]", "slices.overlaps[gimmal/api.Cut]"], unfollowed := true, recurses := true, apart := false, narrowed := true }
def TopKeptUptoSaid : Prop := topKeptUptoRow.holds Tryz.pinned (OpenSpec.upto topKeptSpec)

/-- 'gimmaltop.TopKnown', WHERE WHAT IT READS IS OF BULK AT MOST 1048576: true; the input reads as it did. -/
def topKnownUptoRow : OpenClaim := { program := "ytehagcggdepajaagreat", sum := "c2ec2fe3804ab9d726b61da838cbe3b873c6123f8256298a81249317d562c53d", func := "gimmal/gimmaltop.TopKnown", spec := "topKnown", inPlace := ["slices.overlaps[int]", "slices.overlaps[gimmal/api.Peer]", "slices.overlaps[gimmal/api.Item]", "slices.overlaps[gimmal/api.Cut]"], unfollowed := true, recurses := true, apart := false, narrowed := true }
def TopKnownUptoSaid : Prop := topKnownUptoRow.holds Tryz.pinned (OpenSpec.upto topKnownSpec)

/-- 'gimmallaw22.Handles', WHERE WHAT IT READS IS OF BULK AT MOST 1048576: true; the input reads as it did. -/
def handlesUptoRow : OpenClaim := { program := "ytehagcggdepajaagreat", sum := "c2ec2fe3804ab9d726b61da838cbe3b873c6123f8256298a81249317d562c53d", func := "gimmal/gimmallaw22.Handles", spec := "handles", inPlace := ["slices.overlaps[gimmal/api.Peer]", "slices.overlaps[gimmal/api.Item]"], unfollowed := true, recurses := true, apart := false, narrowed := true }
def HandlesUptoSaid : Prop := handlesUptoRow.holds Tryz.pinned (OpenSpec.upto handlesSpec)

/-- 'gimmaltop.TopNewest', WHERE WHAT IT READS IS OF BULK AT MOST 1048576: true; the input reads as it did. -/
def topNewestUptoRow : OpenClaim := { program := "ytehagcggdepajaagreat", sum := "c2ec2fe3804ab9d726b61da838cbe3b873c6123f8256298a81249317d562c53d", func := "gimmal/gimmaltop.TopNewest", spec := "topNewest", inPlace := ["slices.overlaps[int]", "slices.overlaps[gimmal/api.Peer]", "slices.overlaps[gimmal/api.Item]", "slices.overlaps[gimmal/api.Cut]"], unfollowed := true, recurses := true, apart := false, narrowed := true }
def TopNewestUptoSaid : Prop := topNewestUptoRow.holds Tryz.pinned (OpenSpec.upto topNewestSpec)

/-- 'gimmaltop.TopTicks', WHERE WHAT IT READS IS OF BULK AT MOST 1048576: true; the input reads as it did. -/
def topTicksUptoRow : OpenClaim := { program := "ytehagcggdepajaagreat", sum := "c2ec2fe3804ab9d726b61da838cbe3b873c6123f8256298a81249317d562c53d", func := "gimmal/gimmaltop.TopTicks", spec := "topTicks", inPlace := ["slices.overlaps[int]", "slices.overlaps[gimmal/api.Peer]", "slices.overlaps[gimmal/api.Item]", "slices.overlaps[gimmal/api.Cut]"], unfollowed := true, recurses := true, apart := false, narrowed := true }
def TopTicksUptoSaid : Prop := topTicksUptoRow.holds Tryz.pinned (OpenSpec.upto topTicksSpec)

/-- 'gimmaltop.TopHears', WHERE WHAT IT READS IS OF BULK AT MOST 1048576: true; the input reads as it did. -/
def topHearsUptoRow : OpenClaim := { program := "ytehagcggdepajaagreat", sum := "c2ec2fe3804ab9d726b61da838cbe3b873c6123f8256298a81249317d562c53d", func := "gimmal/gimmaltop.TopHears", spec := "topHears", inPlace := ["slices.overlaps[int]", "slices.overlaps[gimmal/api.Peer]", "slices.overlaps[gimmal/api.Item]", "slices.overlaps[gimmal/api.Cut]"], unfollowed := true, recurses := true, apart := false, narrowed := true }
def TopHearsUptoSaid : Prop := topHearsUptoRow.holds Tryz.pinned (OpenSpec.upto topHearsSpec)

/-- 'gimmaltop.TopParts', WHERE WHAT IT READS IS OF BULK AT MOST 1048576: true; the input reads as it did. -/
def topPartsUptoRow : OpenClaim := { program := "ytehagcggdepajaagreat", sum := "c2ec2fe3804ab9d726b61da838cbe3b873c6123f8256298a81249317d562c53d", func := "gimmal/gimmaltop.TopParts", spec := "topParts", inPlace := ["slices.overlaps[int]", "slices.overlaps[gimmal/api.Peer]", "slices.overlaps[gimmal/api.Item]", "slices.overlaps[gimmal/api.Cut]"], unfollowed := true, recurses := true, apart := false, narrowed := true }
def TopPartsUptoSaid : Prop := topPartsUptoRow.holds Tryz.pinned (OpenSpec.upto topPartsSpec)

end Rows
end Go.Proofs.YtehagcggdepajaaGreat
