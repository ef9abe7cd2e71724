/-
  No cell of these rows narrows 'for every input' (looked for: loops, veiled, ifaces, maps, wideKeys, modest, calm, conditions, laid).
  DERIVED. THE GIVEN ROWS OF THIS SEAT. 10 by the template 'for every input the law returns true; each argument reads behind the call as it read before'; 0 by the template 'total and deterministic' (their statements: YtgcajdfmilhclaaTotals.lean).
  GIVEN WITH THE SEED: the statements are not yours to turn. If you find one false, say at which input.
  Laid BY PROGRAM, IN A SANDBOX (cutbox-rows.mjs): the forced cells as the released guide's own fill.sh prints them over the translation e835add974e15653… (all of the seat's roots in one cut). By AI agents, Wed Nov 11 2026. No macro, syntax, notation, axiom, sorry.
-/
import Derived.Test.YtgcajdfmilhclaaChecked
import GoSem.Claim
import GoSem.ClaimJoined
import GoSem.ClaimMapViews
import Derived.JoinedTies
import Derived.KernelRfl
namespace Go.Proofs.Ytgcajdfmilhclaa
/- THE CELL 'sum', in the pinned program and in every row, IS THE sha256 OF THE DUMP (.gsa) THAT YtgcajdfmilhclaaProg.lean LOADS. Nothing in Lean hashes anything: it is a label: what it is worth is what the hold of that sum in a sandbox is worth. -/
noncomputable def Try.pinned : Pinned := { name := "ytgcajdfmilhclaa", sum := "e835add974e15653e0dbf1693ffecab0f7b844160592cf1c1245df5d75316f88", checked := Try.checked }
namespace Rows
def none {H : Type} : Left H := { results := [], args := [] }

/-- 'gimmallaw5.Stores': WHATEVER THE INPUT: true; the input reads as it did. -/
def storesSpec : ChangeSpec := { name := "stores", fn := fun _ => fun
  | [d1, d2, d3] => { results := [.lit (.bool true)], args := [d1, d2, d3] }
  | _ => none }
def storesRow : OpenClaim := { program := "ytgcajdfmilhclaa", sum := "e835add974e15653e0dbf1693ffecab0f7b844160592cf1c1245df5d75316f88", func := "gimmal/gimmallaw5.Stores", spec := "stores", inPlace := ["slices.overlaps[gimmal/api.Item]"], unfollowed := true, recurses := true, apart := false }
def StoresSaid : Prop := storesRow.holds Try.pinned (OpenSpec.ofChange storesSpec)

/-- ITS FALSE NEIGHBOUR: 'it returns false'. Refute it at one input. -/
def storesWrong : ChangeSpec := { name := "stores", fn := fun _ => fun
  | [d1, d2, d3] => { results := [.lit (.bool false)], args := [d1, d2, d3] }
  | _ => none }
def StoresWrongFalsely : Prop := storesRow.holds Try.pinned (OpenSpec.ofChange storesWrong)

/-- 'gimmallaw5.StoreForms': WHATEVER THE INPUT: true; the input reads as it did. -/
def storeFormsSpec : ChangeSpec := { name := "storeForms", fn := fun _ => fun
  | [d1, d2] => { results := [.lit (.bool true)], args := [d1, d2] }
  | _ => none }
def storeFormsRow : OpenClaim := { program := "ytgcajdfmilhclaa", sum := "e835add974e15653e0dbf1693ffecab0f7b844160592cf1c1245df5d75316f88", func := "gimmal/gimmallaw5.StoreForms", spec := "storeForms", inPlace := ["slices.overlaps[gimmal/api.Item]"], unfollowed := true, recurses := true, apart := false }
def StoreFormsSaid : Prop := storeFormsRow.holds Try.pinned (OpenSpec.ofChange storeFormsSpec)

/-- ITS FALSE NEIGHBOUR: 'it returns false'. Refute it at one input. -/
def storeFormsWrong : ChangeSpec := { name := "storeForms", fn := fun _ => fun
  | [d1, d2] => { results := [.lit (.bool false)], args := [d1, d2] }
  | _ => none }
def StoreFormsWrongFalsely : Prop := storeFormsRow.holds Try.pinned (OpenSpec.ofChange storeFormsWrong)

/-- 'gimmallaw5.StoreBest': WHATEVER THE INPUT: true; the input reads as it did. -/
def storeBestSpec : ChangeSpec := { name := "storeBest", fn := fun _ => fun
  | [d1, d2] => { results := [.lit (.bool true)], args := [d1, d2] }
  | _ => none }
def storeBestRow : OpenClaim := { program := "ytgcajdfmilhclaa", sum := "e835add974e15653e0dbf1693ffecab0f7b844160592cf1c1245df5d75316f88", func := "gimmal/gimmallaw5.StoreBest", spec := "storeBest", inPlace := ["slices.overlaps[gimmal/api.Item]"], unfollowed := true, recurses := true, apart := false }
def StoreBestSaid : Prop := storeBestRow.holds Try.pinned (OpenSpec.ofChange storeBestSpec)

/-- ITS FALSE NEIGHBOUR: 'it returns false'. Refute it at one input. -/
def storeBestWrong : ChangeSpec := { name := "storeBest", fn := fun _ => fun
  | [d1, d2] => { results := [.lit (.bool false)], args := [d1, d2] }
  | _ => none }
def StoreBestWrongFalsely : Prop := storeBestRow.holds Try.pinned (OpenSpec.ofChange storeBestWrong)

/-- 'gimmallaw5.StoreOther': WHATEVER THE INPUT: true; the input reads as it did. -/
def storeOtherSpec : ChangeSpec := { name := "storeOther", fn := fun _ => fun
  | [d1, d2, d3] => { results := [.lit (.bool true)], args := [d1, d2, d3] }
  | _ => none }
def storeOtherRow : OpenClaim := { program := "ytgcajdfmilhclaa", sum := "e835add974e15653e0dbf1693ffecab0f7b844160592cf1c1245df5d75316f88", func := "gimmal/gimmallaw5.StoreOther", spec := "storeOther", inPlace := ["slices.overlaps[gimmal/api.Item]"], unfollowed := true, recurses := true, apart := false }
def StoreOtherSaid : Prop := storeOtherRow.holds Try.pinned (OpenSpec.ofChange storeOtherSpec)

/-- ITS FALSE NEIGHBOUR: 'it returns false'. Refute it at one input. -/
def storeOtherWrong : ChangeSpec := { name := "storeOther", fn := fun _ => fun
  | [d1, d2, d3] => { results := [.lit (.bool false)], args := [d1, d2, d3] }
  | _ => none }
def StoreOtherWrongFalsely : Prop := storeOtherRow.holds Try.pinned (OpenSpec.ofChange storeOtherWrong)

/-- 'gimmallaw5.StoreMerge': WHATEVER THE INPUT: true; the input reads as it did. -/
def storeMergeSpec : ChangeSpec := { name := "storeMerge", fn := fun _ => fun
  | [d1, d2] => { results := [.lit (.bool true)], args := [d1, d2] }
  | _ => none }
def storeMergeRow : OpenClaim := { program := "ytgcajdfmilhclaa", sum := "e835add974e15653e0dbf1693ffecab0f7b844160592cf1c1245df5d75316f88", func := "gimmal/gimmallaw5.StoreMerge", spec := "storeMerge", inPlace := ["slices.overlaps[gimmal/api.Item]"], unfollowed := true, recurses := true, apart := false }
def StoreMergeSaid : Prop := storeMergeRow.holds Try.pinned (OpenSpec.ofChange storeMergeSpec)

/-- ITS FALSE NEIGHBOUR: 'it returns false'. Refute it at one input. -/
def storeMergeWrong : ChangeSpec := { name := "storeMerge", fn := fun _ => fun
  | [d1, d2] => { results := [.lit (.bool false)], args := [d1, d2] }
  | _ => none }
def StoreMergeWrongFalsely : Prop := storeMergeRow.holds Try.pinned (OpenSpec.ofChange storeMergeWrong)

/-- 'gimmallaw5.StoreTwice': WHATEVER THE INPUT: true; the input reads as it did. -/
def storeTwiceSpec : ChangeSpec := { name := "storeTwice", fn := fun _ => fun
  | [d1, d2] => { results := [.lit (.bool true)], args := [d1, d2] }
  | _ => none }
def storeTwiceRow : OpenClaim := { program := "ytgcajdfmilhclaa", sum := "e835add974e15653e0dbf1693ffecab0f7b844160592cf1c1245df5d75316f88", func := "gimmal/gimmallaw5.StoreTwice", spec := "storeTwice", inPlace := ["slices.overlaps[gimmal/api.Item]"], unfollowed := true, recurses := true, apart := false }
def StoreTwiceSaid : Prop := storeTwiceRow.holds Try.pinned (OpenSpec.ofChange storeTwiceSpec)

/-- ITS FALSE NEIGHBOUR: 'it returns false'. Refute it at one input. -/
def storeTwiceWrong : ChangeSpec := { name := "storeTwice", fn := fun _ => fun
  | [d1, d2] => { results := [.lit (.bool false)], args := [d1, d2] }
  | _ => none }
def StoreTwiceWrongFalsely : Prop := storeTwiceRow.holds Try.pinned (OpenSpec.ofChange storeTwiceWrong)

/-- 'gimmallaw15.Cutses': WHATEVER THE INPUT: true; the input reads as it did. -/
def cutsesSpec : ChangeSpec := { name := "cutses", fn := fun _ => fun
  | [d1, d2, d3] => { results := [.lit (.bool true)], args := [d1, d2, d3] }
  | _ => none }
def cutsesRow : OpenClaim := { program := "ytgcajdfmilhclaa", sum := "e835add974e15653e0dbf1693ffecab0f7b844160592cf1c1245df5d75316f88", func := "gimmal/gimmallaw15.Cutses", spec := "cutses", inPlace := ["slices.overlaps[gimmal/api.Cut]"], unfollowed := true, recurses := true, apart := false }
def CutsesSaid : Prop := cutsesRow.holds Try.pinned (OpenSpec.ofChange cutsesSpec)

/-- ITS FALSE NEIGHBOUR: 'it returns false'. Refute it at one input. -/
def cutsesWrong : ChangeSpec := { name := "cutses", fn := fun _ => fun
  | [d1, d2, d3] => { results := [.lit (.bool false)], args := [d1, d2, d3] }
  | _ => none }
def CutsesWrongFalsely : Prop := cutsesRow.holds Try.pinned (OpenSpec.ofChange cutsesWrong)

/-- 'gimmallaw15.CutForms': WHATEVER THE INPUT: true; the input reads as it did. -/
def cutFormsSpec : ChangeSpec := { name := "cutForms", fn := fun _ => fun
  | [d1, d2] => { results := [.lit (.bool true)], args := [d1, d2] }
  | _ => none }
def cutFormsRow : OpenClaim := { program := "ytgcajdfmilhclaa", sum := "e835add974e15653e0dbf1693ffecab0f7b844160592cf1c1245df5d75316f88", func := "gimmal/gimmallaw15.CutForms", spec := "cutForms", inPlace := ["slices.overlaps[gimmal/api.Cut]"], unfollowed := true, recurses := true, apart := false }
def CutFormsSaid : Prop := cutFormsRow.holds Try.pinned (OpenSpec.ofChange cutFormsSpec)

/-- ITS FALSE NEIGHBOUR: 'it returns false'. Refute it at one input. -/
def cutFormsWrong : ChangeSpec := { name := "cutForms", fn := fun _ => fun
  | [d1, d2] => { results := [.lit (.bool false)], args := [d1, d2] }
  | _ => none }
def CutFormsWrongFalsely : Prop := cutFormsRow.holds Try.pinned (OpenSpec.ofChange cutFormsWrong)

/-- 'gimmallaw15.CutRow': WHATEVER THE INPUT: true; the input reads as it did. -/
def cutRowSpec : ChangeSpec := { name := "cutRow", fn := fun _ => fun
  | [d] => { results := [.lit (.bool true)], args := [d] }
  | _ => none }
def cutRowRow : OpenClaim := { program := "ytgcajdfmilhclaa", sum := "e835add974e15653e0dbf1693ffecab0f7b844160592cf1c1245df5d75316f88", func := "gimmal/gimmallaw15.CutRow", spec := "cutRow", inPlace := ["slices.overlaps[gimmal/api.Cut]"], unfollowed := true, recurses := true, apart := false }
def CutRowSaid : Prop := cutRowRow.holds Try.pinned (OpenSpec.ofChange cutRowSpec)

/-- ITS FALSE NEIGHBOUR: 'it returns false'. Refute it at one input. -/
def cutRowWrong : ChangeSpec := { name := "cutRow", fn := fun _ => fun
  | [d] => { results := [.lit (.bool false)], args := [d] }
  | _ => none }
def CutRowWrongFalsely : Prop := cutRowRow.holds Try.pinned (OpenSpec.ofChange cutRowWrong)

/-- 'gimmallaw15.CutOther': WHATEVER THE INPUT: true; the input reads as it did. -/
def cutOtherSpec : ChangeSpec := { name := "cutOther", fn := fun _ => fun
  | [d1, d2, d3, d4, d5] => { results := [.lit (.bool true)], args := [d1, d2, d3, d4, d5] }
  | _ => none }
def cutOtherRow : OpenClaim := { program := "ytgcajdfmilhclaa", sum := "e835add974e15653e0dbf1693ffecab0f7b844160592cf1c1245df5d75316f88", func := "gimmal/gimmallaw15.CutOther", spec := "cutOther", inPlace := ["slices.overlaps[gimmal/api.Cut]"], unfollowed := true, recurses := true, apart := false }
def CutOtherSaid : Prop := cutOtherRow.holds Try.pinned (OpenSpec.ofChange cutOtherSpec)

/-- ITS FALSE NEIGHBOUR: 'it returns false'. Refute it at one input. -/
def cutOtherWrong : ChangeSpec := { name := "cutOther", fn := fun _ => fun
  | [d1, d2, d3, d4, d5] => { results := [.lit (.bool false)], args := [d1, d2, d3, d4, d5] }
  | _ => none }
def CutOtherWrongFalsely : Prop := cutOtherRow.holds Try.pinned (OpenSpec.ofChange cutOtherWrong)

/- THE SECOND FORM. 'bulk': how many values and letters a reading holds, each counted each time it is reached (what is shared counts as often as it is met; a slice's spare places count too). A statement '..UptoSaid' is the law's where the arguments, and the package variables that the reading takes, are together of bulk at most 1048576: NARROWER than '..Said'. Prove '..Said' where nothing that the law and all that it calls make is longer than what came in: it says more and counts as full. Else prove '..UptoSaid'. A law counts once. -/
mutual
def uptoBulk {H : Type} : DataW H → Nat
  | .lit (.string bytes) => bytes.length + 1
  | .lit _ => 1
  | .nil => 1
  | .ptr d => uptoBulk d + 1
  | .slice elems spare => uptoBulkAll elems + uptoBulkAll spare + 1
  | .agg parts => uptoBulkAll parts + 1
  | .iface _ d => uptoBulk d + 1
  | .map entries => uptoBulkEntries entries + 1
  | .held _ => 1
def uptoBulkAll {H : Type} : List (DataW H) → Nat
  | [] => 0
  | d :: r => uptoBulk d + uptoBulkAll r
def uptoBulkEntries {H : Type} : List (Lit × DataW H) → Nat
  | [] => 0
  | x :: r => uptoBulkEntry x + uptoBulkEntries r
def uptoBulkEntry {H : Type} : Lit × DataW H → Nat
  | (.string bytes, d) => bytes.length + uptoBulk d + 1
  | (_, d) => uptoBulk d + 1
 end
def uptoSmall : (H : Type) → List (DataW H) → Bool := fun _ ds => decide (uptoBulkAll ds ≤ 1048576)
def OpenSpec.upto (s : _root_.Go.ChangeSpec) : _root_.Go.OpenSpec := { _root_.Go.OpenSpec.ofChange s with cond := some uptoSmall }

/-- 'gimmallaw5.Stores', WHERE WHAT IT READS IS OF BULK AT MOST 1048576: true; the input reads as it did. -/
def storesUptoRow : OpenClaim := { program := "ytgcajdfmilhclaa", sum := "e835add974e15653e0dbf1693ffecab0f7b844160592cf1c1245df5d75316f88", func := "gimmal/gimmallaw5.Stores", spec := "stores", inPlace := ["slices.overlaps[gimmal/api.Item]"], unfollowed := true, recurses := true, apart := false, narrowed := true }
def StoresUptoSaid : Prop := storesUptoRow.holds Try.pinned (OpenSpec.upto storesSpec)

/-- 'gimmallaw5.StoreForms', WHERE WHAT IT READS IS OF BULK AT MOST 1048576: true; the input reads as it did. -/
def storeFormsUptoRow : OpenClaim := { program := "ytgcajdfmilhclaa", sum := "e835add974e15653e0dbf1693ffecab0f7b844160592cf1c1245df5d75316f88", func := "gimmal/gimmallaw5.StoreForms", spec := "storeForms", inPlace := ["slices.overlaps[gimmal/api.Item]"], unfollowed := true, recurses := true, apart := false, narrowed := true }
def StoreFormsUptoSaid : Prop := storeFormsUptoRow.holds Try.pinned (OpenSpec.upto storeFormsSpec)

/-- 'gimmallaw5.StoreBest', WHERE WHAT IT READS IS OF BULK AT MOST 1048576: true; the input reads as it did. -/
def storeBestUptoRow : OpenClaim := { program := "ytgcajdfmilhclaa", sum := "e835add974e15653e0dbf1693ffecab0f7b844160592cf1c1245df5d75316f88", func := "gimmal/gimmallaw5.StoreBest", spec := "storeBest", inPlace := ["slices.overlaps[gimmal/api.Item]"], unfollowed := true, recurses := true, apart := false, narrowed := true }
def StoreBestUptoSaid : Prop := storeBestUptoRow.holds Try.pinned (OpenSpec.upto storeBestSpec)

/-- 'gimmallaw5.StoreOther', WHERE WHAT IT READS IS OF BULK AT MOST 1048576: true; the input reads as it did. -/
def storeOtherUptoRow : OpenClaim := { program := "ytgcajdfmilhclaa", sum := "e835add974e15653e0dbf1693ffecab0f7b844160592cf1c1245df5d75316f88", func := "gimmal/gimmallaw5.StoreOther", spec := "storeOther", inPlace := ["slices.overlaps[gimmal/api.Item]"], unfollowed := true, recurses := true, apart := false, narrowed := true }
def StoreOtherUptoSaid : Prop := storeOtherUptoRow.holds Try.pinned (OpenSpec.upto storeOtherSpec)

/-- 'gimmallaw5.StoreMerge', WHERE WHAT IT READS IS OF BULK AT MOST 1048576: true; the input reads as it did. -/
def storeMergeUptoRow : OpenClaim := { program := "ytgcajdfmilhclaa", sum := "e835add974e15653e0dbf1693ffecab0f7b844160592cf1c1245df5d75316f88", func := "gimmal/gimmallaw5.StoreMerge", spec := "storeMerge", inPlace := ["slices.overlaps[gimmal/api.Item]"], unfollowed := true, recurses := true, apart := false, narrowed := true }
def StoreMergeUptoSaid : Prop := storeMergeUptoRow.holds Try.pinned (OpenSpec.upto storeMergeSpec)

/-- 'gimmallaw5.StoreTwice', WHERE WHAT IT READS IS OF BULK AT MOST 1048576: true; the input reads as it did. -/
def storeTwiceUptoRow : OpenClaim := { program := "ytgcajdfmilhclaa", sum := "e835add974e15653e0dbf1693ffecab0f7b844160592cf1c1245df5d75316f88", func := "gimmal/gimmallaw5.StoreTwice", spec := "storeTwice", inPlace := ["slices.overlaps[gimmal/api.Item]"], unfollowed := true, recurses := true, apart := false, narrowed := true }
def StoreTwiceUptoSaid : Prop := storeTwiceUptoRow.holds Try.pinned (OpenSpec.upto storeTwiceSpec)

/-- 'gimmallaw15.Cutses', WHERE WHAT IT READS IS OF BULK AT MOST 1048576: true; the input reads as it did. -/
def cutsesUptoRow : OpenClaim := { program := "ytgcajdfmilhclaa", sum := "e835add974e15653e0dbf1693ffecab0f7b844160592cf1c1245df5d75316f88", func := "gimmal/gimmallaw15.Cutses", spec := "cutses", inPlace := ["slices.overlaps[gimmal/api.Cut]"], unfollowed := true, recurses := true, apart := false, narrowed := true }
def CutsesUptoSaid : Prop := cutsesUptoRow.holds Try.pinned (OpenSpec.upto cutsesSpec)

/-- 'gimmallaw15.CutForms', WHERE WHAT IT READS IS OF BULK AT MOST 1048576: true; the input reads as it did. -/
def cutFormsUptoRow : OpenClaim := { program := "ytgcajdfmilhclaa", sum := "e835add974e15653e0dbf1693ffecab0f7b844160592cf1c1245df5d75316f88", func := "gimmal/gimmallaw15.CutForms", spec := "cutForms", inPlace := ["slices.overlaps[gimmal/api.Cut]"], unfollowed := true, recurses := true, apart := false, narrowed := true }
def CutFormsUptoSaid : Prop := cutFormsUptoRow.holds Try.pinned (OpenSpec.upto cutFormsSpec)

/-- 'gimmallaw15.CutRow', WHERE WHAT IT READS IS OF BULK AT MOST 1048576: true; the input reads as it did. -/
def cutRowUptoRow : OpenClaim := { program := "ytgcajdfmilhclaa", sum := "e835add974e15653e0dbf1693ffecab0f7b844160592cf1c1245df5d75316f88", func := "gimmal/gimmallaw15.CutRow", spec := "cutRow", inPlace := ["slices.overlaps[gimmal/api.Cut]"], unfollowed := true, recurses := true, apart := false, narrowed := true }
def CutRowUptoSaid : Prop := cutRowUptoRow.holds Try.pinned (OpenSpec.upto cutRowSpec)

/-- 'gimmallaw15.CutOther', WHERE WHAT IT READS IS OF BULK AT MOST 1048576: true; the input reads as it did. -/
def cutOtherUptoRow : OpenClaim := { program := "ytgcajdfmilhclaa", sum := "e835add974e15653e0dbf1693ffecab0f7b844160592cf1c1245df5d75316f88", func := "gimmal/gimmallaw15.CutOther", spec := "cutOther", inPlace := ["slices.overlaps[gimmal/api.Cut]"], unfollowed := true, recurses := true, apart := false, narrowed := true }
def CutOtherUptoSaid : Prop := cutOtherUptoRow.holds Try.pinned (OpenSpec.upto cutOtherSpec)

end Rows
end Go.Proofs.Ytgcajdfmilhclaa
