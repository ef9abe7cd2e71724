/-
  No cell of these rows narrows 'for every input' (looked for: loops, veiled, ifaces, maps, wideKeys, modest, calm, conditions, laid).
  DERIVED. THE GIVEN ROWS OF THIS SEAT. 11 by the template 'for every input the law returns true; each argument reads behind the call as it read before'; 0 by the template 'total and deterministic' (their statements: YtinbocdlolkcgaaTotals.lean).
  GIVEN WITH THE SEED: the statements are not yours to turn. If you find one false, say at which input.
  Laid BY PROGRAM, IN A SANDBOX (cutbox-rows.mjs): the forced cells as the released guide's own fill.sh prints them over the translation 8489a24388a20ebe… (all of the seat's roots in one cut). By AI agents, Wed Nov 11 2026. No macro, syntax, notation, axiom, sorry.
-/
import Derived.Test.YtinbocdlolkcgaaChecked
import GoSem.Claim
import GoSem.ClaimJoined
import GoSem.ClaimMapViews
import Derived.JoinedTies
import Derived.KernelRfl
namespace Go.Proofs.Ytinbocdlolkcgaa
/- THE CELL 'sum', in the pinned program and in every row, IS THE sha256 OF THE DUMP (.gsa) THAT YtinbocdlolkcgaaProg.lean LOADS. Nothing in Lean hashes anything: it is a label: what it is worth is what the hold of that sum in a sandbox is worth. -/
noncomputable def Try.pinned : Pinned := { name := "ytinbocdlolkcgaa", sum := "8489a24388a20ebecb886ea5d9d00b44f62d8b9f8adea786316a87c373dea30c", checked := Try.checked }
namespace Rows
def none {H : Type} : Left H := { results := [], args := [] }

/-- 'gimmallaw9.Views': WHATEVER THE INPUT: true; the input reads as it did. -/
def viewsSpec : ChangeSpec := { name := "views", fn := fun _ => fun
  | [d1, d2] => { results := [.lit (.bool true)], args := [d1, d2] }
  | _ => none }
def viewsRow : OpenClaim := { program := "ytinbocdlolkcgaa", sum := "8489a24388a20ebecb886ea5d9d00b44f62d8b9f8adea786316a87c373dea30c", func := "gimmal/gimmallaw9.Views", spec := "views", unfollowed := true, recurses := true, apart := false }
def ViewsSaid : Prop := viewsRow.holds Try.pinned (OpenSpec.ofChange viewsSpec)

/-- ITS FALSE NEIGHBOUR: 'it returns false'. Refute it at one input. -/
def viewsWrong : ChangeSpec := { name := "views", fn := fun _ => fun
  | [d1, d2] => { results := [.lit (.bool false)], args := [d1, d2] }
  | _ => none }
def ViewsWrongFalsely : Prop := viewsRow.holds Try.pinned (OpenSpec.ofChange viewsWrong)

/-- 'gimmallaw9.ViewForms': WHATEVER THE INPUT: true; the input reads as it did. -/
def viewFormsSpec : ChangeSpec := { name := "viewForms", fn := fun _ => fun
  | [d1, d2] => { results := [.lit (.bool true)], args := [d1, d2] }
  | _ => none }
def viewFormsRow : OpenClaim := { program := "ytinbocdlolkcgaa", sum := "8489a24388a20ebecb886ea5d9d00b44f62d8b9f8adea786316a87c373dea30c", func := "gimmal/gimmallaw9.ViewForms", spec := "viewForms", unfollowed := true, recurses := true, apart := false }
def ViewFormsSaid : Prop := viewFormsRow.holds Try.pinned (OpenSpec.ofChange viewFormsSpec)

/-- ITS FALSE NEIGHBOUR: 'it returns false'. Refute it at one input. -/
def viewFormsWrong : ChangeSpec := { name := "viewForms", fn := fun _ => fun
  | [d1, d2] => { results := [.lit (.bool false)], args := [d1, d2] }
  | _ => none }
def ViewFormsWrongFalsely : Prop := viewFormsRow.holds Try.pinned (OpenSpec.ofChange viewFormsWrong)

/-- 'gimmallaw9.ViewOwns': WHATEVER THE INPUT: true; the input reads as it did. -/
def viewOwnsSpec : ChangeSpec := { name := "viewOwns", fn := fun _ => fun
  | [d1, d2] => { results := [.lit (.bool true)], args := [d1, d2] }
  | _ => none }
def viewOwnsRow : OpenClaim := { program := "ytinbocdlolkcgaa", sum := "8489a24388a20ebecb886ea5d9d00b44f62d8b9f8adea786316a87c373dea30c", func := "gimmal/gimmallaw9.ViewOwns", spec := "viewOwns", unfollowed := true, recurses := true, apart := false }
def ViewOwnsSaid : Prop := viewOwnsRow.holds Try.pinned (OpenSpec.ofChange viewOwnsSpec)

/-- ITS FALSE NEIGHBOUR: 'it returns false'. Refute it at one input. -/
def viewOwnsWrong : ChangeSpec := { name := "viewOwns", fn := fun _ => fun
  | [d1, d2] => { results := [.lit (.bool false)], args := [d1, d2] }
  | _ => none }
def ViewOwnsWrongFalsely : Prop := viewOwnsRow.holds Try.pinned (OpenSpec.ofChange viewOwnsWrong)

/-- 'gimmallaw9.ViewEnds': WHATEVER THE INPUT: true; the input reads as it did. -/
def viewEndsSpec : ChangeSpec := { name := "viewEnds", fn := fun _ => fun
  | [d] => { results := [.lit (.bool true)], args := [d] }
  | _ => none }
def viewEndsRow : OpenClaim := { program := "ytinbocdlolkcgaa", sum := "8489a24388a20ebecb886ea5d9d00b44f62d8b9f8adea786316a87c373dea30c", func := "gimmal/gimmallaw9.ViewEnds", spec := "viewEnds", unfollowed := true, recurses := true, apart := false }
def ViewEndsSaid : Prop := viewEndsRow.holds Try.pinned (OpenSpec.ofChange viewEndsSpec)

/-- ITS FALSE NEIGHBOUR: 'it returns false'. Refute it at one input. -/
def viewEndsWrong : ChangeSpec := { name := "viewEnds", fn := fun _ => fun
  | [d] => { results := [.lit (.bool false)], args := [d] }
  | _ => none }
def ViewEndsWrongFalsely : Prop := viewEndsRow.holds Try.pinned (OpenSpec.ofChange viewEndsWrong)

/-- 'gimmallaw9.ViewMore': WHATEVER THE INPUT: true; the input reads as it did. -/
def viewMoreSpec : ChangeSpec := { name := "viewMore", fn := fun _ => fun
  | [d1, d2, d3] => { results := [.lit (.bool true)], args := [d1, d2, d3] }
  | _ => none }
def viewMoreRow : OpenClaim := { program := "ytinbocdlolkcgaa", sum := "8489a24388a20ebecb886ea5d9d00b44f62d8b9f8adea786316a87c373dea30c", func := "gimmal/gimmallaw9.ViewMore", spec := "viewMore", unfollowed := true, recurses := true, apart := false }
def ViewMoreSaid : Prop := viewMoreRow.holds Try.pinned (OpenSpec.ofChange viewMoreSpec)

/-- ITS FALSE NEIGHBOUR: 'it returns false'. Refute it at one input. -/
def viewMoreWrong : ChangeSpec := { name := "viewMore", fn := fun _ => fun
  | [d1, d2, d3] => { results := [.lit (.bool false)], args := [d1, d2, d3] }
  | _ => none }
def ViewMoreWrongFalsely : Prop := viewMoreRow.holds Try.pinned (OpenSpec.ofChange viewMoreWrong)

/-- 'gimmallaw18.Shares': WHATEVER THE INPUT: true; the input reads as it did. -/
def sharesSpec : ChangeSpec := { name := "shares", fn := fun _ => fun
  | [d] => { results := [.lit (.bool true)], args := [d] }
  | _ => none }
def sharesRow : OpenClaim := { program := "ytinbocdlolkcgaa", sum := "8489a24388a20ebecb886ea5d9d00b44f62d8b9f8adea786316a87c373dea30c", func := "gimmal/gimmallaw18.Shares", spec := "shares", unfollowed := true, recurses := true, apart := false }
def SharesSaid : Prop := sharesRow.holds Try.pinned (OpenSpec.ofChange sharesSpec)

/-- ITS FALSE NEIGHBOUR: 'it returns false'. Refute it at one input. -/
def sharesWrong : ChangeSpec := { name := "shares", fn := fun _ => fun
  | [d] => { results := [.lit (.bool false)], args := [d] }
  | _ => none }
def SharesWrongFalsely : Prop := sharesRow.holds Try.pinned (OpenSpec.ofChange sharesWrong)

/-- 'gimmallaw18.ShareOnce': WHATEVER THE INPUT: true; the input reads as it did. -/
def shareOnceSpec : ChangeSpec := { name := "shareOnce", fn := fun _ => fun
  | [d] => { results := [.lit (.bool true)], args := [d] }
  | _ => none }
def shareOnceRow : OpenClaim := { program := "ytinbocdlolkcgaa", sum := "8489a24388a20ebecb886ea5d9d00b44f62d8b9f8adea786316a87c373dea30c", func := "gimmal/gimmallaw18.ShareOnce", spec := "shareOnce", unfollowed := true, recurses := true, apart := false }
def ShareOnceSaid : Prop := shareOnceRow.holds Try.pinned (OpenSpec.ofChange shareOnceSpec)

/-- ITS FALSE NEIGHBOUR: 'it returns false'. Refute it at one input. -/
def shareOnceWrong : ChangeSpec := { name := "shareOnce", fn := fun _ => fun
  | [d] => { results := [.lit (.bool false)], args := [d] }
  | _ => none }
def ShareOnceWrongFalsely : Prop := shareOnceRow.holds Try.pinned (OpenSpec.ofChange shareOnceWrong)

/-- 'gimmallaw18.ShareOwner': WHATEVER THE INPUT: true; the input reads as it did. -/
def shareOwnerSpec : ChangeSpec := { name := "shareOwner", fn := fun _ => fun
  | [d] => { results := [.lit (.bool true)], args := [d] }
  | _ => none }
def shareOwnerRow : OpenClaim := { program := "ytinbocdlolkcgaa", sum := "8489a24388a20ebecb886ea5d9d00b44f62d8b9f8adea786316a87c373dea30c", func := "gimmal/gimmallaw18.ShareOwner", spec := "shareOwner", unfollowed := true, recurses := true, apart := false }
def ShareOwnerSaid : Prop := shareOwnerRow.holds Try.pinned (OpenSpec.ofChange shareOwnerSpec)

/-- ITS FALSE NEIGHBOUR: 'it returns false'. Refute it at one input. -/
def shareOwnerWrong : ChangeSpec := { name := "shareOwner", fn := fun _ => fun
  | [d] => { results := [.lit (.bool false)], args := [d] }
  | _ => none }
def ShareOwnerWrongFalsely : Prop := shareOwnerRow.holds Try.pinned (OpenSpec.ofChange shareOwnerWrong)

/-- 'gimmallaw18.ShareForms': WHATEVER THE INPUT: true; the input reads as it did. -/
def shareFormsSpec : ChangeSpec := { name := "shareForms", fn := fun _ => fun
  | [d1, d2] => { results := [.lit (.bool true)], args := [d1, d2] }
  | _ => none }
def shareFormsRow : OpenClaim := { program := "ytinbocdlolkcgaa", sum := "8489a24388a20ebecb886ea5d9d00b44f62d8b9f8adea786316a87c373dea30c", func := "gimmal/gimmallaw18.ShareForms", spec := "shareForms", unfollowed := true, recurses := true, apart := false }
def ShareFormsSaid : Prop := shareFormsRow.holds Try.pinned (OpenSpec.ofChange shareFormsSpec)

/-- ITS FALSE NEIGHBOUR: 'it returns false'. Refute it at one input. -/
def shareFormsWrong : ChangeSpec := { name := "shareForms", fn := fun _ => fun
  | [d1, d2] => { results := [.lit (.bool false)], args := [d1, d2] }
  | _ => none }
def ShareFormsWrongFalsely : Prop := shareFormsRow.holds Try.pinned (OpenSpec.ofChange shareFormsWrong)

/-- 'gimmallaw18.ShareAll': WHATEVER THE INPUT: true; the input reads as it did. -/
def shareAllSpec : ChangeSpec := { name := "shareAll", fn := fun _ => fun
  | [d1, d2] => { results := [.lit (.bool true)], args := [d1, d2] }
  | _ => none }
def shareAllRow : OpenClaim := { program := "ytinbocdlolkcgaa", sum := "8489a24388a20ebecb886ea5d9d00b44f62d8b9f8adea786316a87c373dea30c", func := "gimmal/gimmallaw18.ShareAll", spec := "shareAll", unfollowed := true, recurses := true, apart := false }
def ShareAllSaid : Prop := shareAllRow.holds Try.pinned (OpenSpec.ofChange shareAllSpec)

/-- ITS FALSE NEIGHBOUR: 'it returns false'. Refute it at one input. -/
def shareAllWrong : ChangeSpec := { name := "shareAll", fn := fun _ => fun
  | [d1, d2] => { results := [.lit (.bool false)], args := [d1, d2] }
  | _ => none }
def ShareAllWrongFalsely : Prop := shareAllRow.holds Try.pinned (OpenSpec.ofChange shareAllWrong)

/-- 'gimmallaw18.ShareNone': WHATEVER THE INPUT: true; the input reads as it did. -/
def shareNoneSpec : ChangeSpec := { name := "shareNone", fn := fun _ => fun
  | [d1, d2] => { results := [.lit (.bool true)], args := [d1, d2] }
  | _ => none }
def shareNoneRow : OpenClaim := { program := "ytinbocdlolkcgaa", sum := "8489a24388a20ebecb886ea5d9d00b44f62d8b9f8adea786316a87c373dea30c", func := "gimmal/gimmallaw18.ShareNone", spec := "shareNone", unfollowed := true, recurses := true, apart := false }
def ShareNoneSaid : Prop := shareNoneRow.holds Try.pinned (OpenSpec.ofChange shareNoneSpec)

/-- ITS FALSE NEIGHBOUR: 'it returns false'. Refute it at one input. -/
def shareNoneWrong : ChangeSpec := { name := "shareNone", fn := fun _ => fun
  | [d1, d2] => { results := [.lit (.bool false)], args := [d1, d2] }
  | _ => none }
def ShareNoneWrongFalsely : Prop := shareNoneRow.holds Try.pinned (OpenSpec.ofChange shareNoneWrong)

/- THE SECOND FORM. 'bulk': how many values and letters a reading holds, each counted each time it is reached (what is shared counts as often as it is met; a slice's spare places count too). A statement '..UptoSaid' is the law's where the arguments, and the package variables that the reading takes, are together of bulk at most 1048576: NARROWER than '..Said'. Prove '..Said' where nothing that the law and all that it calls make is longer than what came in: it says more and counts as full. Else prove '..UptoSaid'. A law counts once. -/
mutual
def uptoBulk {H : Type} : DataW H → Nat
  | .lit (.string bytes) => bytes.length + 1
  | .lit _ => 1
  | .nil => 1
  | .ptr d => uptoBulk d + 1
  | .slice elems spare => uptoBulkAll elems + uptoBulkAll spare + 1
  | .agg parts => uptoBulkAll parts + 1
  | .iface _ d => uptoBulk d + 1
  | .map entries => uptoBulkEntries entries + 1
  | .held _ => 1
def uptoBulkAll {H : Type} : List (DataW H) → Nat
  | [] => 0
  | d :: r => uptoBulk d + uptoBulkAll r
def uptoBulkEntries {H : Type} : List (Lit × DataW H) → Nat
  | [] => 0
  | x :: r => uptoBulkEntry x + uptoBulkEntries r
def uptoBulkEntry {H : Type} : Lit × DataW H → Nat
  | (.string bytes, d) => bytes.length + uptoBulk d + 1
  | (_, d) => uptoBulk d + 1
 end
def uptoSmall : (H : Type) → List (DataW H) → Bool := fun _ ds => decide (uptoBulkAll ds ≤ 1048576)
def OpenSpec.upto (s : _root_.Go.ChangeSpec) : _root_.Go.OpenSpec := { _root_.Go.OpenSpec.ofChange s with cond := some uptoSmall }

/-- 'gimmallaw9.Views', WHERE WHAT IT READS IS OF BULK AT MOST 1048576: true; the input reads as it did. -/
def viewsUptoRow : OpenClaim := { program := "ytinbocdlolkcgaa", sum := "8489a24388a20ebecb886ea5d9d00b44f62d8b9f8adea786316a87c373dea30c", func := "gimmal/gimmallaw9.Views", spec := "views", unfollowed := true, recurses := true, apart := false, narrowed := true }
def ViewsUptoSaid : Prop := viewsUptoRow.holds Try.pinned (OpenSpec.upto viewsSpec)

/-- 'gimmallaw9.ViewForms', WHERE WHAT IT READS IS OF BULK AT MOST 1048576: true; the input reads as it did. -/
def viewFormsUptoRow : OpenClaim := { program := "ytinbocdlolkcgaa", sum := "8489a24388a20ebecb886ea5d9d00b44f62d8b9f8adea786316a87c373dea30c", func := "gimmal/gimmallaw9.ViewForms", spec := "viewForms", unfollowed := true, recurses := true, apart := false, narrowed := true }
def ViewFormsUptoSaid : Prop := viewFormsUptoRow.holds Try.pinned (OpenSpec.upto viewFormsSpec)

/-- 'gimmallaw9.ViewOwns', WHERE WHAT IT READS IS OF BULK AT MOST 1048576: true; the input reads as it did. -/
def viewOwnsUptoRow : OpenClaim := { program := "ytinbocdlolkcgaa", sum := "8489a24388a20ebecb886ea5d9d00b44f62d8b9f8adea786316a87c373dea30c", func := "gimmal/gimmallaw9.ViewOwns", spec := "viewOwns", unfollowed := true, recurses := true, apart := false, narrowed := true }
def ViewOwnsUptoSaid : Prop := viewOwnsUptoRow.holds Try.pinned (OpenSpec.upto viewOwnsSpec)

/-- 'gimmallaw9.ViewEnds', WHERE WHAT IT READS IS OF BULK AT MOST 1048576: true; the input reads as it did. -/
def viewEndsUptoRow : OpenClaim := { program := "ytinbocdlolkcgaa", sum := "8489a24388a20ebecb886ea5d9d00b44f62d8b9f8adea786316a87c373dea30c", func := "gimmal/gimmallaw9.ViewEnds", spec := "viewEnds", unfollowed := true, recurses := true, apart := false, narrowed := true }
def ViewEndsUptoSaid : Prop := viewEndsUptoRow.holds Try.pinned (OpenSpec.upto viewEndsSpec)

/-- 'gimmallaw9.ViewMore', WHERE WHAT IT READS IS OF BULK AT MOST 1048576: true; the input reads as it did. -/
def viewMoreUptoRow : OpenClaim := { program := "ytinbocdlolkcgaa", sum := "8489a24388a20ebecb886ea5d9d00b44f62d8b9f8adea786316a87c373dea30c", func := "gimmal/gimmallaw9.ViewMore", spec := "viewMore", unfollowed := true, recurses := true, apart := false, narrowed := true }
def ViewMoreUptoSaid : Prop := viewMoreUptoRow.holds Try.pinned (OpenSpec.upto viewMoreSpec)

/-- 'gimmallaw18.Shares', WHERE WHAT IT READS IS OF BULK AT MOST 1048576: true; the input reads as it did. -/
def sharesUptoRow : OpenClaim := { program := "ytinbocdlolkcgaa", sum := "8489a24388a20ebecb886ea5d9d00b44f62d8b9f8adea786316a87c373dea30c", func := "gimmal/gimmallaw18.Shares", spec := "shares", unfollowed := true, recurses := true, apart := false, narrowed := true }
def SharesUptoSaid : Prop := sharesUptoRow.holds Try.pinned (OpenSpec.upto sharesSpec)

/-- 'gimmallaw18.ShareOnce', WHERE WHAT IT READS IS OF BULK AT MOST 1048576: true; the input reads as it did. -/
def shareOnceUptoRow : OpenClaim := { program := "ytinbocdlolkcgaa", sum := "8489a24388a20ebecb886ea5d9d00b44f62d8b9f8adea786316a87c373dea30c", func := "gimmal/gimmallaw18.ShareOnce", spec := "shareOnce", unfollowed := true, recurses := true, apart := false, narrowed := true }
def ShareOnceUptoSaid : Prop := shareOnceUptoRow.holds Try.pinned (OpenSpec.upto shareOnceSpec)

/-- 'gimmallaw18.ShareOwner', WHERE WHAT IT READS IS OF BULK AT MOST 1048576: true; the input reads as it did. -/
def shareOwnerUptoRow : OpenClaim := { program := "ytinbocdlolkcgaa", sum := "8489a24388a20ebecb886ea5d9d00b44f62d8b9f8adea786316a87c373dea30c", func := "gimmal/gimmallaw18.ShareOwner", spec := "shareOwner", unfollowed := true, recurses := true, apart := false, narrowed := true }
def ShareOwnerUptoSaid : Prop := shareOwnerUptoRow.holds Try.pinned (OpenSpec.upto shareOwnerSpec)

/-- 'gimmallaw18.ShareForms', WHERE WHAT IT READS IS OF BULK AT MOST 1048576: true; the input reads as it did. -/
def shareFormsUptoRow : OpenClaim := { program := "ytinbocdlolkcgaa", sum := "8489a24388a20ebecb886ea5d9d00b44f62d8b9f8adea786316a87c373dea30c", func := "gimmal/gimmallaw18.ShareForms", spec := "shareForms", unfollowed := true, recurses := true, apart := false, narrowed := true }
def ShareFormsUptoSaid : Prop := shareFormsUptoRow.holds Try.pinned (OpenSpec.upto shareFormsSpec)

/-- 'gimmallaw18.ShareAll', WHERE WHAT IT READS IS OF BULK AT MOST 1048576: true; the input reads as it did. -/
def shareAllUptoRow : OpenClaim := { program := "ytinbocdlolkcgaa", sum := "8489a24388a20ebecb886ea5d9d00b44f62d8b9f8adea786316a87c373dea30c", func := "gimmal/gimmallaw18.ShareAll", spec := "shareAll", unfollowed := true, recurses := true, apart := false, narrowed := true }
def ShareAllUptoSaid : Prop := shareAllUptoRow.holds Try.pinned (OpenSpec.upto shareAllSpec)

/-- 'gimmallaw18.ShareNone', WHERE WHAT IT READS IS OF BULK AT MOST 1048576: true; the input reads as it did. -/
def shareNoneUptoRow : OpenClaim := { program := "ytinbocdlolkcgaa", sum := "8489a24388a20ebecb886ea5d9d00b44f62d8b9f8adea786316a87c373dea30c", func := "gimmal/gimmallaw18.ShareNone", spec := "shareNone", unfollowed := true, recurses := true, apart := false, narrowed := true }
def ShareNoneUptoSaid : Prop := shareNoneUptoRow.holds Try.pinned (OpenSpec.upto shareNoneSpec)

end Rows
end Go.Proofs.Ytinbocdlolkcgaa
