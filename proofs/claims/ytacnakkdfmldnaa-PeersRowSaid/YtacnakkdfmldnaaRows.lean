/-
  No cell of these rows narrows 'for every input' (looked for: loops, veiled, ifaces, maps, wideKeys, modest, calm, conditions, laid).
  DERIVED. THE GIVEN ROWS OF THIS SEAT. 10 by the template 'for every input the law returns true; each argument reads behind the call as it read before'; 0 by the template 'total and deterministic' (their statements: YtacnakkdfmldnaaTotals.lean).
  GIVEN WITH THE SEED: the statements are not yours to turn. If you find one false, say at which input.
  Laid BY PROGRAM, IN A SANDBOX (cutbox-rows.mjs): the forced cells as the released guide's own fill.sh prints them over the translation 1951f030c7582438… (all of the seat's roots in one cut). By AI agents, Wed Nov 11 2026. No macro, syntax, notation, axiom, sorry.
-/
import Derived.Test.YtacnakkdfmldnaaChecked
import GoSem.Claim
import GoSem.ClaimJoined
import GoSem.ClaimMapViews
import Derived.JoinedTies
import Derived.KernelRfl
namespace Go.Proofs.Ytacnakkdfmldnaa
/- THE CELL 'sum', in the pinned program and in every row, IS THE sha256 OF THE DUMP (.gsa) THAT YtacnakkdfmldnaaProg.lean LOADS. Nothing in Lean hashes anything: it is a label: what it is worth is what the hold of that sum in a sandbox is worth. -/
noncomputable def Try.pinned : Pinned := { name := "ytacnakkdfmldnaa", sum := "1951f030c758243868744a7ca7182b0a89d6fb1019700e1c375feba855eb07d3", checked := Try.checked }
namespace Rows
def none {H : Type} : Left H := { results := [], args := [] }

/-- 'gimmallaw8.Passives': WHATEVER THE INPUT: true; the input reads as it did. -/
def passivesSpec : ChangeSpec := { name := "passives", fn := fun _ => fun
  | [d1, d2] => { results := [.lit (.bool true)], args := [d1, d2] }
  | _ => none }
def passivesRow : OpenClaim := { program := "ytacnakkdfmldnaa", sum := "1951f030c758243868744a7ca7182b0a89d6fb1019700e1c375feba855eb07d3", func := "gimmal/gimmallaw8.Passives", spec := "passives", inPlace := ["slices.overlaps[int]"], unfollowed := true, recurses := true, apart := false }
def PassivesSaid : Prop := passivesRow.holds Try.pinned (OpenSpec.ofChange passivesSpec)

/-- ITS FALSE NEIGHBOUR: 'it returns false'. Refute it at one input. -/
def passivesWrong : ChangeSpec := { name := "passives", fn := fun _ => fun
  | [d1, d2] => { results := [.lit (.bool false)], args := [d1, d2] }
  | _ => none }
def PassivesWrongFalsely : Prop := passivesRow.holds Try.pinned (OpenSpec.ofChange passivesWrong)

/-- 'gimmallaw8.PassiveForms': WHATEVER THE INPUT: true; the input reads as it did. -/
def passiveFormsSpec : ChangeSpec := { name := "passiveForms", fn := fun _ => fun
  | [d1, d2] => { results := [.lit (.bool true)], args := [d1, d2] }
  | _ => none }
def passiveFormsRow : OpenClaim := { program := "ytacnakkdfmldnaa", sum := "1951f030c758243868744a7ca7182b0a89d6fb1019700e1c375feba855eb07d3", func := "gimmal/gimmallaw8.PassiveForms", spec := "passiveForms", inPlace := ["slices.overlaps[int]"], unfollowed := true, recurses := true, apart := false }
def PassiveFormsSaid : Prop := passiveFormsRow.holds Try.pinned (OpenSpec.ofChange passiveFormsSpec)

/-- ITS FALSE NEIGHBOUR: 'it returns false'. Refute it at one input. -/
def passiveFormsWrong : ChangeSpec := { name := "passiveForms", fn := fun _ => fun
  | [d1, d2] => { results := [.lit (.bool false)], args := [d1, d2] }
  | _ => none }
def PassiveFormsWrongFalsely : Prop := passiveFormsRow.holds Try.pinned (OpenSpec.ofChange passiveFormsWrong)

/-- 'gimmallaw8.PassiveRow': WHATEVER THE INPUT: true; the input reads as it did. -/
def passiveRowSpec : ChangeSpec := { name := "passiveRow", fn := fun _ => fun
  | [d] => { results := [.lit (.bool true)], args := [d] }
  | _ => none }
def passiveRowRow : OpenClaim := { program := "ytacnakkdfmldnaa", sum := "1951f030c758243868744a7ca7182b0a89d6fb1019700e1c375feba855eb07d3", func := "gimmal/gimmallaw8.PassiveRow", spec := "passiveRow", inPlace := ["slices.overlaps[int]"], unfollowed := true, recurses := true, apart := false }
def PassiveRowSaid : Prop := passiveRowRow.holds Try.pinned (OpenSpec.ofChange passiveRowSpec)

/-- ITS FALSE NEIGHBOUR: 'it returns false'. Refute it at one input. -/
def passiveRowWrong : ChangeSpec := { name := "passiveRow", fn := fun _ => fun
  | [d] => { results := [.lit (.bool false)], args := [d] }
  | _ => none }
def PassiveRowWrongFalsely : Prop := passiveRowRow.holds Try.pinned (OpenSpec.ofChange passiveRowWrong)

/-- 'gimmallaw8.PassiveOther': WHATEVER THE INPUT: true; the input reads as it did. -/
def passiveOtherSpec : ChangeSpec := { name := "passiveOther", fn := fun _ => fun
  | [d1, d2] => { results := [.lit (.bool true)], args := [d1, d2] }
  | _ => none }
def passiveOtherRow : OpenClaim := { program := "ytacnakkdfmldnaa", sum := "1951f030c758243868744a7ca7182b0a89d6fb1019700e1c375feba855eb07d3", func := "gimmal/gimmallaw8.PassiveOther", spec := "passiveOther", inPlace := ["slices.overlaps[int]"], unfollowed := true, recurses := true, apart := false }
def PassiveOtherSaid : Prop := passiveOtherRow.holds Try.pinned (OpenSpec.ofChange passiveOtherSpec)

/-- ITS FALSE NEIGHBOUR: 'it returns false'. Refute it at one input. -/
def passiveOtherWrong : ChangeSpec := { name := "passiveOther", fn := fun _ => fun
  | [d1, d2] => { results := [.lit (.bool false)], args := [d1, d2] }
  | _ => none }
def PassiveOtherWrongFalsely : Prop := passiveOtherRow.holds Try.pinned (OpenSpec.ofChange passiveOtherWrong)

/-- 'gimmallaw7.Peers': WHATEVER THE INPUT: true; the input reads as it did. -/
def peersSpec : ChangeSpec := { name := "peers", fn := fun _ => fun
  | [d1, d2, d3] => { results := [.lit (.bool true)], args := [d1, d2, d3] }
  | _ => none }
def peersRow : OpenClaim := { program := "ytacnakkdfmldnaa", sum := "1951f030c758243868744a7ca7182b0a89d6fb1019700e1c375feba855eb07d3", func := "gimmal/gimmallaw7.Peers", spec := "peers", inPlace := ["slices.overlaps[gimmal/api.Peer]"], unfollowed := true, recurses := true, apart := false }
def PeersSaid : Prop := peersRow.holds Try.pinned (OpenSpec.ofChange peersSpec)

/-- ITS FALSE NEIGHBOUR: 'it returns false'. Refute it at one input. -/
def peersWrong : ChangeSpec := { name := "peers", fn := fun _ => fun
  | [d1, d2, d3] => { results := [.lit (.bool false)], args := [d1, d2, d3] }
  | _ => none }
def PeersWrongFalsely : Prop := peersRow.holds Try.pinned (OpenSpec.ofChange peersWrong)

/-- 'gimmallaw7.PeersForms': WHATEVER THE INPUT: true; the input reads as it did. -/
def peersFormsSpec : ChangeSpec := { name := "peersForms", fn := fun _ => fun
  | [d1, d2] => { results := [.lit (.bool true)], args := [d1, d2] }
  | _ => none }
def peersFormsRow : OpenClaim := { program := "ytacnakkdfmldnaa", sum := "1951f030c758243868744a7ca7182b0a89d6fb1019700e1c375feba855eb07d3", func := "gimmal/gimmallaw7.PeersForms", spec := "peersForms", inPlace := ["slices.overlaps[gimmal/api.Peer]"], unfollowed := true, recurses := true, apart := false }
def PeersFormsSaid : Prop := peersFormsRow.holds Try.pinned (OpenSpec.ofChange peersFormsSpec)

/-- ITS FALSE NEIGHBOUR: 'it returns false'. Refute it at one input. -/
def peersFormsWrong : ChangeSpec := { name := "peersForms", fn := fun _ => fun
  | [d1, d2] => { results := [.lit (.bool false)], args := [d1, d2] }
  | _ => none }
def PeersFormsWrongFalsely : Prop := peersFormsRow.holds Try.pinned (OpenSpec.ofChange peersFormsWrong)

/-- 'gimmallaw7.PeersLost': WHATEVER THE INPUT: true; the input reads as it did. -/
def peersLostSpec : ChangeSpec := { name := "peersLost", fn := fun _ => fun
  | [d1, d2, d3] => { results := [.lit (.bool true)], args := [d1, d2, d3] }
  | _ => none }
def peersLostRow : OpenClaim := { program := "ytacnakkdfmldnaa", sum := "1951f030c758243868744a7ca7182b0a89d6fb1019700e1c375feba855eb07d3", func := "gimmal/gimmallaw7.PeersLost", spec := "peersLost", inPlace := ["slices.overlaps[gimmal/api.Peer]"], unfollowed := true, recurses := true, apart := false }
def PeersLostSaid : Prop := peersLostRow.holds Try.pinned (OpenSpec.ofChange peersLostSpec)

/-- ITS FALSE NEIGHBOUR: 'it returns false'. Refute it at one input. -/
def peersLostWrong : ChangeSpec := { name := "peersLost", fn := fun _ => fun
  | [d1, d2, d3] => { results := [.lit (.bool false)], args := [d1, d2, d3] }
  | _ => none }
def PeersLostWrongFalsely : Prop := peersLostRow.holds Try.pinned (OpenSpec.ofChange peersLostWrong)

/-- 'gimmallaw7.PeersOther': WHATEVER THE INPUT: true; the input reads as it did. -/
def peersOtherSpec : ChangeSpec := { name := "peersOther", fn := fun _ => fun
  | [d1, d2, d3] => { results := [.lit (.bool true)], args := [d1, d2, d3] }
  | _ => none }
def peersOtherRow : OpenClaim := { program := "ytacnakkdfmldnaa", sum := "1951f030c758243868744a7ca7182b0a89d6fb1019700e1c375feba855eb07d3", func := "gimmal/gimmallaw7.PeersOther", spec := "peersOther", inPlace := ["slices.overlaps[gimmal/api.Peer]"], unfollowed := true, recurses := true, apart := false }
def PeersOtherSaid : Prop := peersOtherRow.holds Try.pinned (OpenSpec.ofChange peersOtherSpec)

/-- ITS FALSE NEIGHBOUR: 'it returns false'. Refute it at one input. -/
def peersOtherWrong : ChangeSpec := { name := "peersOther", fn := fun _ => fun
  | [d1, d2, d3] => { results := [.lit (.bool false)], args := [d1, d2, d3] }
  | _ => none }
def PeersOtherWrongFalsely : Prop := peersOtherRow.holds Try.pinned (OpenSpec.ofChange peersOtherWrong)

/-- 'gimmallaw7.PeersAge': WHATEVER THE INPUT: true; the input reads as it did. -/
def peersAgeSpec : ChangeSpec := { name := "peersAge", fn := fun _ => fun
  | [d1, d2] => { results := [.lit (.bool true)], args := [d1, d2] }
  | _ => none }
def peersAgeRow : OpenClaim := { program := "ytacnakkdfmldnaa", sum := "1951f030c758243868744a7ca7182b0a89d6fb1019700e1c375feba855eb07d3", func := "gimmal/gimmallaw7.PeersAge", spec := "peersAge", inPlace := ["slices.overlaps[gimmal/api.Peer]"], unfollowed := true, recurses := true, apart := false }
def PeersAgeSaid : Prop := peersAgeRow.holds Try.pinned (OpenSpec.ofChange peersAgeSpec)

/-- ITS FALSE NEIGHBOUR: 'it returns false'. Refute it at one input. -/
def peersAgeWrong : ChangeSpec := { name := "peersAge", fn := fun _ => fun
  | [d1, d2] => { results := [.lit (.bool false)], args := [d1, d2] }
  | _ => none }
def PeersAgeWrongFalsely : Prop := peersAgeRow.holds Try.pinned (OpenSpec.ofChange peersAgeWrong)

/-- 'gimmallaw7.PeersRow': WHATEVER THE INPUT: true; the input reads as it did. -/
def peersRowSpec : ChangeSpec := { name := "peersRow", fn := fun _ => fun
  | [d1, d2] => { results := [.lit (.bool true)], args := [d1, d2] }
  | _ => none }
def peersRowRow : OpenClaim := { program := "ytacnakkdfmldnaa", sum := "1951f030c758243868744a7ca7182b0a89d6fb1019700e1c375feba855eb07d3", func := "gimmal/gimmallaw7.PeersRow", spec := "peersRow", inPlace := ["slices.overlaps[gimmal/api.Peer]"], unfollowed := true, recurses := true, apart := false }
def PeersRowSaid : Prop := peersRowRow.holds Try.pinned (OpenSpec.ofChange peersRowSpec)

/-- ITS FALSE NEIGHBOUR: 'it returns false'. Refute it at one input. -/
def peersRowWrong : ChangeSpec := { name := "peersRow", fn := fun _ => fun
  | [d1, d2] => { results := [.lit (.bool false)], args := [d1, d2] }
  | _ => none }
def PeersRowWrongFalsely : Prop := peersRowRow.holds Try.pinned (OpenSpec.ofChange peersRowWrong)

/- THE SECOND FORM. 'bulk': how many values and letters a reading holds, each counted each time it is reached (what is shared counts as often as it is met; a slice's spare places count too). A statement '..UptoSaid' is the law's where the arguments, and the package variables that the reading takes, are together of bulk at most 1048576: NARROWER than '..Said'. Prove '..Said' where nothing that the law and all that it calls make is longer than what came in: it says more and counts as full. Else prove '..UptoSaid'. A law counts once. -/
mutual
def uptoBulk {H : Type} : DataW H → Nat
  | .lit (.string bytes) => bytes.length + 1
  | .lit _ => 1
  | .nil => 1
  | .ptr d => uptoBulk d + 1
  | .slice elems spare => uptoBulkAll elems + uptoBulkAll spare + 1
  | .agg parts => uptoBulkAll parts + 1
  | .iface _ d => uptoBulk d + 1
  | .map entries => uptoBulkEntries entries + 1
  | .held _ => 1
def uptoBulkAll {H : Type} : List (DataW H) → Nat
  | [] => 0
  | d :: r => uptoBulk d + uptoBulkAll r
def uptoBulkEntries {H : Type} : List (Lit × DataW H) → Nat
  | [] => 0
  | x :: r => uptoBulkEntry x + uptoBulkEntries r
def uptoBulkEntry {H : Type} : Lit × DataW H → Nat
  | (.string bytes, d) => bytes.length + uptoBulk d + 1
  | (_, d) => uptoBulk d + 1
 end
def uptoSmall : (H : Type) → List (DataW H) → Bool := fun _ ds => decide (uptoBulkAll ds ≤ 1048576)
def OpenSpec.upto (s : _root_.Go.ChangeSpec) : _root_.Go.OpenSpec := { _root_.Go.OpenSpec.ofChange s with cond := some uptoSmall }

/-- 'gimmallaw8.Passives', WHERE WHAT IT READS IS OF BULK AT MOST 1048576: true; the input reads as it did. -/
def passivesUptoRow : OpenClaim := { program := "ytacnakkdfmldnaa", sum := "1951f030c758243868744a7ca7182b0a89d6fb1019700e1c375feba855eb07d3", func := "gimmal/gimmallaw8.Passives", spec := "passives", inPlace := ["slices.overlaps[int]"], unfollowed := true, recurses := true, apart := false, narrowed := true }
def PassivesUptoSaid : Prop := passivesUptoRow.holds Try.pinned (OpenSpec.upto passivesSpec)

/-- 'gimmallaw8.PassiveForms', WHERE WHAT IT READS IS OF BULK AT MOST 1048576: true; the input reads as it did. -/
def passiveFormsUptoRow : OpenClaim := { program := "ytacnakkdfmldnaa", sum := "1951f030c758243868744a7ca7182b0a89d6fb1019700e1c375feba855eb07d3", func := "gimmal/gimmallaw8.PassiveForms", spec := "passiveForms", inPlace := ["slices.overlaps[int]"], unfollowed := true, recurses := true, apart := false, narrowed := true }
def PassiveFormsUptoSaid : Prop := passiveFormsUptoRow.holds Try.pinned (OpenSpec.upto passiveFormsSpec)

/-- 'gimmallaw8.PassiveRow', WHERE WHAT IT READS IS OF BULK AT MOST 1048576: true; the input reads as it did. -/
def passiveRowUptoRow : OpenClaim := { program := "ytacnakkdfmldnaa", sum := "1951f030c758243868744a7ca7182b0a89d6fb1019700e1c375feba855eb07d3", func := "gimmal/gimmallaw8.PassiveRow", spec := "passiveRow", inPlace := ["slices.overlaps[int]"], unfollowed := true, recurses := true, apart := false, narrowed := true }
def PassiveRowUptoSaid : Prop := passiveRowUptoRow.holds Try.pinned (OpenSpec.upto passiveRowSpec)

/-- 'gimmallaw8.PassiveOther', WHERE WHAT IT READS IS OF BULK AT MOST 1048576: true; the input reads as it did. -/
def passiveOtherUptoRow : OpenClaim := { program := "ytacnakkdfmldnaa", sum := "1951f030c758243868744a7ca7182b0a89d6fb1019700e1c375feba855eb07d3", func := "gimmal/gimmallaw8.PassiveOther", spec := "passiveOther", inPlace := ["slices.overlaps[int]"], unfollowed := true, recurses := true, apart := false, narrowed := true }
def PassiveOtherUptoSaid : Prop := passiveOtherUptoRow.holds Try.pinned (OpenSpec.upto passiveOtherSpec)

/-- 'gimmallaw7.Peers', WHERE WHAT IT READS IS OF BULK AT MOST 1048576: true; the input reads as it did. -/
def peersUptoRow : OpenClaim := { program := "ytacnakkdfmldnaa", sum := "1951f030c758243868744a7ca7182b0a89d6fb1019700e1c375feba855eb07d3", func := "gimmal/gimmallaw7.Peers", spec := "peers", inPlace := ["slices.overlaps[gimmal/api.Peer]"], unfollowed := true, recurses := true, apart := false, narrowed := true }
def PeersUptoSaid : Prop := peersUptoRow.holds Try.pinned (OpenSpec.upto peersSpec)

/-- 'gimmallaw7.PeersForms', WHERE WHAT IT READS IS OF BULK AT MOST 1048576: true; the input reads as it did. -/
def peersFormsUptoRow : OpenClaim := { program := "ytacnakkdfmldnaa", sum := "1951f030c758243868744a7ca7182b0a89d6fb1019700e1c375feba855eb07d3", func := "gimmal/gimmallaw7.PeersForms", spec := "peersForms", inPlace := ["slices.overlaps[gimmal/api.Peer]"], unfollowed := true, recurses := true, apart := false, narrowed := true }
def PeersFormsUptoSaid : Prop := peersFormsUptoRow.holds Try.pinned (OpenSpec.upto peersFormsSpec)

/-- 'gimmallaw7.PeersLost', WHERE WHAT IT READS IS OF BULK AT MOST 1048576: true; the input reads as it did. -/
def peersLostUptoRow : OpenClaim := { program := "ytacnakkdfmldnaa", sum := "1951f030c758243868744a7ca7182b0a89d6fb1019700e1c375feba855eb07d3", func := "gimmal/gimmallaw7.PeersLost", spec := "peersLost", inPlace := ["slices.overlaps[gimmal/api.Peer]"], unfollowed := true, recurses := true, apart := false, narrowed := true }
def PeersLostUptoSaid : Prop := peersLostUptoRow.holds Try.pinned (OpenSpec.upto peersLostSpec)

/-- 'gimmallaw7.PeersOther', WHERE WHAT IT READS IS OF BULK AT MOST 1048576: true; the input reads as it did. -/
def peersOtherUptoRow : OpenClaim := { program := "ytacnakkdfmldnaa", sum := "1951f030c758243868744a7ca7182b0a89d6fb1019700e1c375feba855eb07d3", func := "gimmal/gimmallaw7.PeersOther", spec := "peersOther", inPlace := ["slices.overlaps[gimmal/api.Peer]"], unfollowed := true, recurses := true, apart := false, narrowed := true }
def PeersOtherUptoSaid : Prop := peersOtherUptoRow.holds Try.pinned (OpenSpec.upto peersOtherSpec)

/-- 'gimmallaw7.PeersAge', WHERE WHAT IT READS IS OF BULK AT MOST 1048576: true; the input reads as it did. -/
def peersAgeUptoRow : OpenClaim := { program := "ytacnakkdfmldnaa", sum := "1951f030c758243868744a7ca7182b0a89d6fb1019700e1c375feba855eb07d3", func := "gimmal/gimmallaw7.PeersAge", spec := "peersAge", inPlace := ["slices.overlaps[gimmal/api.Peer]"], unfollowed := true, recurses := true, apart := false, narrowed := true }
def PeersAgeUptoSaid : Prop := peersAgeUptoRow.holds Try.pinned (OpenSpec.upto peersAgeSpec)

/-- 'gimmallaw7.PeersRow', WHERE WHAT IT READS IS OF BULK AT MOST 1048576: true; the input reads as it did. -/
def peersRowUptoRow : OpenClaim := { program := "ytacnakkdfmldnaa", sum := "1951f030c758243868744a7ca7182b0a89d6fb1019700e1c375feba855eb07d3", func := "gimmal/gimmallaw7.PeersRow", spec := "peersRow", inPlace := ["slices.overlaps[gimmal/api.Peer]"], unfollowed := true, recurses := true, apart := false, narrowed := true }
def PeersRowUptoSaid : Prop := peersRowUptoRow.holds Try.pinned (OpenSpec.upto peersRowSpec)

end Rows
end Go.Proofs.Ytacnakkdfmldnaa
