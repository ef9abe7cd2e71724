/-
  No cell of these rows narrows 'for every input' (looked for: loops, veiled, ifaces, maps, wideKeys, modest, calm, conditions, laid).
  DERIVED. THE GIVEN ROWS OF THIS SEAT. 11 by the template 'for every input the law returns true; each argument reads behind the call as it read before'; 0 by the template 'total and deterministic' (their statements: YtailjedmlkdcmaaTotals.lean).
  GIVEN WITH THE SEED: the statements are not yours to turn. If you find one false, say at which input.
  Laid BY PROGRAM, IN A SANDBOX (cutbox-rows.mjs): the forced cells as the released guide's own fill.sh prints them over the translation 90ccccec8d919a82… (all of the seat's roots in one cut). By AI agents, Wed Nov 11 2026. No macro, syntax, notation, axiom, sorry.
-/
import Derived.Test.YtailjedmlkdcmaaChecked
import GoSem.Claim
import GoSem.ClaimJoined
import GoSem.ClaimMapViews
import Derived.JoinedTies
import Derived.KernelRfl
namespace Go.Proofs.Ytailjedmlkdcmaa
/- THE CELL 'sum', in the pinned program and in every row, IS THE sha256 OF THE DUMP (.gsa) THAT YtailjedmlkdcmaaProg.lean LOADS. Nothing in Lean hashes anything: it is a label: what it is worth is what the hold of that sum in a sandbox is worth. -/
noncomputable def Try.pinned : Pinned := { name := "ytailjedmlkdcmaa", sum := "90ccccec8d919a823cdbfb3675ef4f830856280e5b6937bf339bdc9508c3b028", checked := Try.checked }
namespace Rows
def none {H : Type} : Left H := { results := [], args := [] }

/-- 'gimmallaw21.Asks': WHATEVER THE INPUT: true; the input reads as it did. -/
def asksSpec : ChangeSpec := { name := "asks", fn := fun _ => fun
  | [d1, d2, d3] => { results := [.lit (.bool true)], args := [d1, d2, d3] }
  | _ => none }
def asksRow : OpenClaim := { program := "ytailjedmlkdcmaa", sum := "90ccccec8d919a823cdbfb3675ef4f830856280e5b6937bf339bdc9508c3b028", func := "gimmal/gimmallaw21.Asks", spec := "asks", unfollowed := true, recurses := true, apart := false }
def AsksSaid : Prop := asksRow.holds Try.pinned (OpenSpec.ofChange asksSpec)

/-- ITS FALSE NEIGHBOUR: 'it returns false'. Refute it at one input. -/
def asksWrong : ChangeSpec := { name := "asks", fn := fun _ => fun
  | [d1, d2, d3] => { results := [.lit (.bool false)], args := [d1, d2, d3] }
  | _ => none }
def AsksWrongFalsely : Prop := asksRow.holds Try.pinned (OpenSpec.ofChange asksWrong)

/-- 'gimmallaw21.AskForms': WHATEVER THE INPUT: true; the input reads as it did. -/
def askFormsSpec : ChangeSpec := { name := "askForms", fn := fun _ => fun
  | [d1, d2] => { results := [.lit (.bool true)], args := [d1, d2] }
  | _ => none }
def askFormsRow : OpenClaim := { program := "ytailjedmlkdcmaa", sum := "90ccccec8d919a823cdbfb3675ef4f830856280e5b6937bf339bdc9508c3b028", func := "gimmal/gimmallaw21.AskForms", spec := "askForms", unfollowed := true, recurses := true, apart := false }
def AskFormsSaid : Prop := askFormsRow.holds Try.pinned (OpenSpec.ofChange askFormsSpec)

/-- ITS FALSE NEIGHBOUR: 'it returns false'. Refute it at one input. -/
def askFormsWrong : ChangeSpec := { name := "askForms", fn := fun _ => fun
  | [d1, d2] => { results := [.lit (.bool false)], args := [d1, d2] }
  | _ => none }
def AskFormsWrongFalsely : Prop := askFormsRow.holds Try.pinned (OpenSpec.ofChange askFormsWrong)

/-- 'gimmallaw21.AskThere': WHATEVER THE INPUT: true; the input reads as it did. -/
def askThereSpec : ChangeSpec := { name := "askThere", fn := fun _ => fun
  | [d1, d2, d3] => { results := [.lit (.bool true)], args := [d1, d2, d3] }
  | _ => none }
def askThereRow : OpenClaim := { program := "ytailjedmlkdcmaa", sum := "90ccccec8d919a823cdbfb3675ef4f830856280e5b6937bf339bdc9508c3b028", func := "gimmal/gimmallaw21.AskThere", spec := "askThere", unfollowed := true, recurses := true, apart := false }
def AskThereSaid : Prop := askThereRow.holds Try.pinned (OpenSpec.ofChange askThereSpec)

/-- ITS FALSE NEIGHBOUR: 'it returns false'. Refute it at one input. -/
def askThereWrong : ChangeSpec := { name := "askThere", fn := fun _ => fun
  | [d1, d2, d3] => { results := [.lit (.bool false)], args := [d1, d2, d3] }
  | _ => none }
def AskThereWrongFalsely : Prop := askThereRow.holds Try.pinned (OpenSpec.ofChange askThereWrong)

/-- 'gimmallaw21.AskLog': WHATEVER THE INPUT: true; the input reads as it did. -/
def askLogSpec : ChangeSpec := { name := "askLog", fn := fun _ => fun
  | [d] => { results := [.lit (.bool true)], args := [d] }
  | _ => none }
def askLogRow : OpenClaim := { program := "ytailjedmlkdcmaa", sum := "90ccccec8d919a823cdbfb3675ef4f830856280e5b6937bf339bdc9508c3b028", func := "gimmal/gimmallaw21.AskLog", spec := "askLog", unfollowed := true, recurses := true, apart := false }
def AskLogSaid : Prop := askLogRow.holds Try.pinned (OpenSpec.ofChange askLogSpec)

/-- ITS FALSE NEIGHBOUR: 'it returns false'. Refute it at one input. -/
def askLogWrong : ChangeSpec := { name := "askLog", fn := fun _ => fun
  | [d] => { results := [.lit (.bool false)], args := [d] }
  | _ => none }
def AskLogWrongFalsely : Prop := askLogRow.holds Try.pinned (OpenSpec.ofChange askLogWrong)

/-- 'gimmallaw21.AskHome': WHATEVER THE INPUT: true; the input reads as it did. -/
def askHomeSpec : ChangeSpec := { name := "askHome", fn := fun _ => fun
  | [d1, d2] => { results := [.lit (.bool true)], args := [d1, d2] }
  | _ => none }
def askHomeRow : OpenClaim := { program := "ytailjedmlkdcmaa", sum := "90ccccec8d919a823cdbfb3675ef4f830856280e5b6937bf339bdc9508c3b028", func := "gimmal/gimmallaw21.AskHome", spec := "askHome", unfollowed := true, recurses := true, apart := false }
def AskHomeSaid : Prop := askHomeRow.holds Try.pinned (OpenSpec.ofChange askHomeSpec)

/-- ITS FALSE NEIGHBOUR: 'it returns false'. Refute it at one input. -/
def askHomeWrong : ChangeSpec := { name := "askHome", fn := fun _ => fun
  | [d1, d2] => { results := [.lit (.bool false)], args := [d1, d2] }
  | _ => none }
def AskHomeWrongFalsely : Prop := askHomeRow.holds Try.pinned (OpenSpec.ofChange askHomeWrong)

/-- 'gimmallaw21.AskOwn': WHATEVER THE INPUT: true; the input reads as it did. -/
def askOwnSpec : ChangeSpec := { name := "askOwn", fn := fun _ => fun
  | [d1, d2] => { results := [.lit (.bool true)], args := [d1, d2] }
  | _ => none }
def askOwnRow : OpenClaim := { program := "ytailjedmlkdcmaa", sum := "90ccccec8d919a823cdbfb3675ef4f830856280e5b6937bf339bdc9508c3b028", func := "gimmal/gimmallaw21.AskOwn", spec := "askOwn", unfollowed := true, recurses := true, apart := false }
def AskOwnSaid : Prop := askOwnRow.holds Try.pinned (OpenSpec.ofChange askOwnSpec)

/-- ITS FALSE NEIGHBOUR: 'it returns false'. Refute it at one input. -/
def askOwnWrong : ChangeSpec := { name := "askOwn", fn := fun _ => fun
  | [d1, d2] => { results := [.lit (.bool false)], args := [d1, d2] }
  | _ => none }
def AskOwnWrongFalsely : Prop := askOwnRow.holds Try.pinned (OpenSpec.ofChange askOwnWrong)

/-- 'gimmallaw20.Takes': WHATEVER THE INPUT: true; the input reads as it did. -/
def takesSpec : ChangeSpec := { name := "takes", fn := fun _ => fun
  | [d1, d2] => { results := [.lit (.bool true)], args := [d1, d2] }
  | _ => none }
def takesRow : OpenClaim := { program := "ytailjedmlkdcmaa", sum := "90ccccec8d919a823cdbfb3675ef4f830856280e5b6937bf339bdc9508c3b028", func := "gimmal/gimmallaw20.Takes", spec := "takes", inPlace := ["slices.overlaps[gimmal/api.Item]"], unfollowed := true, recurses := true, apart := false }
def TakesSaid : Prop := takesRow.holds Try.pinned (OpenSpec.ofChange takesSpec)

/-- ITS FALSE NEIGHBOUR: 'it returns false'. Refute it at one input. -/
def takesWrong : ChangeSpec := { name := "takes", fn := fun _ => fun
  | [d1, d2] => { results := [.lit (.bool false)], args := [d1, d2] }
  | _ => none }
def TakesWrongFalsely : Prop := takesRow.holds Try.pinned (OpenSpec.ofChange takesWrong)

/-- 'gimmallaw20.TakeForms': WHATEVER THE INPUT: true; the input reads as it did. -/
def takeFormsSpec : ChangeSpec := { name := "takeForms", fn := fun _ => fun
  | [d1, d2] => { results := [.lit (.bool true)], args := [d1, d2] }
  | _ => none }
def takeFormsRow : OpenClaim := { program := "ytailjedmlkdcmaa", sum := "90ccccec8d919a823cdbfb3675ef4f830856280e5b6937bf339bdc9508c3b028", func := "gimmal/gimmallaw20.TakeForms", spec := "takeForms", inPlace := ["slices.overlaps[gimmal/api.Item]"], unfollowed := true, recurses := true, apart := false }
def TakeFormsSaid : Prop := takeFormsRow.holds Try.pinned (OpenSpec.ofChange takeFormsSpec)

/-- ITS FALSE NEIGHBOUR: 'it returns false'. Refute it at one input. -/
def takeFormsWrong : ChangeSpec := { name := "takeForms", fn := fun _ => fun
  | [d1, d2] => { results := [.lit (.bool false)], args := [d1, d2] }
  | _ => none }
def TakeFormsWrongFalsely : Prop := takeFormsRow.holds Try.pinned (OpenSpec.ofChange takeFormsWrong)

/-- 'gimmallaw20.TakeBest': WHATEVER THE INPUT: true; the input reads as it did. -/
def takeBestSpec : ChangeSpec := { name := "takeBest", fn := fun _ => fun
  | [d1, d2] => { results := [.lit (.bool true)], args := [d1, d2] }
  | _ => none }
def takeBestRow : OpenClaim := { program := "ytailjedmlkdcmaa", sum := "90ccccec8d919a823cdbfb3675ef4f830856280e5b6937bf339bdc9508c3b028", func := "gimmal/gimmallaw20.TakeBest", spec := "takeBest", inPlace := ["slices.overlaps[gimmal/api.Item]"], unfollowed := true, recurses := true, apart := false }
def TakeBestSaid : Prop := takeBestRow.holds Try.pinned (OpenSpec.ofChange takeBestSpec)

/-- ITS FALSE NEIGHBOUR: 'it returns false'. Refute it at one input. -/
def takeBestWrong : ChangeSpec := { name := "takeBest", fn := fun _ => fun
  | [d1, d2] => { results := [.lit (.bool false)], args := [d1, d2] }
  | _ => none }
def TakeBestWrongFalsely : Prop := takeBestRow.holds Try.pinned (OpenSpec.ofChange takeBestWrong)

/-- 'gimmallaw20.TakeTwice': WHATEVER THE INPUT: true; the input reads as it did. -/
def takeTwiceSpec : ChangeSpec := { name := "takeTwice", fn := fun _ => fun
  | [d1, d2, d3] => { results := [.lit (.bool true)], args := [d1, d2, d3] }
  | _ => none }
def takeTwiceRow : OpenClaim := { program := "ytailjedmlkdcmaa", sum := "90ccccec8d919a823cdbfb3675ef4f830856280e5b6937bf339bdc9508c3b028", func := "gimmal/gimmallaw20.TakeTwice", spec := "takeTwice", inPlace := ["slices.overlaps[gimmal/api.Item]"], unfollowed := true, recurses := true, apart := false }
def TakeTwiceSaid : Prop := takeTwiceRow.holds Try.pinned (OpenSpec.ofChange takeTwiceSpec)

/-- ITS FALSE NEIGHBOUR: 'it returns false'. Refute it at one input. -/
def takeTwiceWrong : ChangeSpec := { name := "takeTwice", fn := fun _ => fun
  | [d1, d2, d3] => { results := [.lit (.bool false)], args := [d1, d2, d3] }
  | _ => none }
def TakeTwiceWrongFalsely : Prop := takeTwiceRow.holds Try.pinned (OpenSpec.ofChange takeTwiceWrong)

/-- 'gimmallaw20.TakeRow': WHATEVER THE INPUT: true; the input reads as it did. -/
def takeRowSpec : ChangeSpec := { name := "takeRow", fn := fun _ => fun
  | [d1, d2, d3] => { results := [.lit (.bool true)], args := [d1, d2, d3] }
  | _ => none }
def takeRowRow : OpenClaim := { program := "ytailjedmlkdcmaa", sum := "90ccccec8d919a823cdbfb3675ef4f830856280e5b6937bf339bdc9508c3b028", func := "gimmal/gimmallaw20.TakeRow", spec := "takeRow", inPlace := ["slices.overlaps[gimmal/api.Item]"], unfollowed := true, recurses := true, apart := false }
def TakeRowSaid : Prop := takeRowRow.holds Try.pinned (OpenSpec.ofChange takeRowSpec)

/-- ITS FALSE NEIGHBOUR: 'it returns false'. Refute it at one input. -/
def takeRowWrong : ChangeSpec := { name := "takeRow", fn := fun _ => fun
  | [d1, d2, d3] => { results := [.lit (.bool false)], args := [d1, d2, d3] }
  | _ => none }
def TakeRowWrongFalsely : Prop := takeRowRow.holds Try.pinned (OpenSpec.ofChange takeRowWrong)

/- THE SECOND FORM. 'bulk': how many values and letters a reading holds, each counted each time it is reached (what is shared counts as often as it is met; a slice's spare places count too). A statement '..UptoSaid' is the law's where the arguments, and the package variables that the reading takes, are together of bulk at most 1048576: NARROWER than '..Said'. Prove '..Said' where nothing that the law and all that it calls make is longer than what came in: it says more and counts as full. Else prove '..UptoSaid'. A law counts once. -/
mutual
def uptoBulk {H : Type} : DataW H → Nat
  | .lit (.string bytes) => bytes.length + 1
  | .lit _ => 1
  | .nil => 1
  | .ptr d => uptoBulk d + 1
  | .slice elems spare => uptoBulkAll elems + uptoBulkAll spare + 1
  | .agg parts => uptoBulkAll parts + 1
  | .iface _ d => uptoBulk d + 1
  | .map entries => uptoBulkEntries entries + 1
  | .held _ => 1
def uptoBulkAll {H : Type} : List (DataW H) → Nat
  | [] => 0
  | d :: r => uptoBulk d + uptoBulkAll r
def uptoBulkEntries {H : Type} : List (Lit × DataW H) → Nat
  | [] => 0
  | x :: r => uptoBulkEntry x + uptoBulkEntries r
def uptoBulkEntry {H : Type} : Lit × DataW H → Nat
  | (.string bytes, d) => bytes.length + uptoBulk d + 1
  | (_, d) => uptoBulk d + 1
 end
def uptoSmall : (H : Type) → List (DataW H) → Bool := fun _ ds => decide (uptoBulkAll ds ≤ 1048576)
def OpenSpec.upto (s : _root_.Go.ChangeSpec) : _root_.Go.OpenSpec := { _root_.Go.OpenSpec.ofChange s with cond := some uptoSmall }

/-- 'gimmallaw21.Asks', WHERE WHAT IT READS IS OF BULK AT MOST 1048576: true; the input reads as it did. -/
def asksUptoRow : OpenClaim := { program := "ytailjedmlkdcmaa", sum := "90ccccec8d919a823cdbfb3675ef4f830856280e5b6937bf339bdc9508c3b028", func := "gimmal/gimmallaw21.Asks", spec := "asks", unfollowed := true, recurses := true, apart := false, narrowed := true }
def AsksUptoSaid : Prop := asksUptoRow.holds Try.pinned (OpenSpec.upto asksSpec)

/-- 'gimmallaw21.AskForms', WHERE WHAT IT READS IS OF BULK AT MOST 1048576: true; the input reads as it did. -/
def askFormsUptoRow : OpenClaim := { program := "ytailjedmlkdcmaa", sum := "90ccccec8d919a823cdbfb3675ef4f830856280e5b6937bf339bdc9508c3b028", func := "gimmal/gimmallaw21.AskForms", spec := "askForms", unfollowed := true, recurses := true, apart := false, narrowed := true }
def AskFormsUptoSaid : Prop := askFormsUptoRow.holds Try.pinned (OpenSpec.upto askFormsSpec)

/-- 'gimmallaw21.AskThere', WHERE WHAT IT READS IS OF BULK AT MOST 1048576: true; the input reads as it did. -/
def askThereUptoRow : OpenClaim := { program := "ytailjedmlkdcmaa", sum := "90ccccec8d919a823cdbfb3675ef4f830856280e5b6937bf339bdc9508c3b028", func := "gimmal/gimmallaw21.AskThere", spec := "askThere", unfollowed := true, recurses := true, apart := false, narrowed := true }
def AskThereUptoSaid : Prop := askThereUptoRow.holds Try.pinned (OpenSpec.upto askThereSpec)

/-- 'gimmallaw21.AskLog', WHERE WHAT IT READS IS OF BULK AT MOST 1048576: true; the input reads as it did. -/
def askLogUptoRow : OpenClaim := { program := "ytailjedmlkdcmaa", sum := "90ccccec8d919a823cdbfb3675ef4f830856280e5b6937bf339bdc9508c3b028", func := "gimmal/gimmallaw21.AskLog", spec := "askLog", unfollowed := true, recurses := true, apart := false, narrowed := true }
def AskLogUptoSaid : Prop := askLogUptoRow.holds Try.pinned (OpenSpec.upto askLogSpec)

/-- 'gimmallaw21.AskHome', WHERE WHAT IT READS IS OF BULK AT MOST 1048576: true; the input reads as it did. -/
def askHomeUptoRow : OpenClaim := { program := "ytailjedmlkdcmaa", sum := "90ccccec8d919a823cdbfb3675ef4f830856280e5b6937bf339bdc9508c3b028", func := "gimmal/gimmallaw21.AskHome", spec := "askHome", unfollowed := true, recurses := true, apart := false, narrowed := true }
def AskHomeUptoSaid : Prop := askHomeUptoRow.holds Try.pinned (OpenSpec.upto askHomeSpec)

/-- 'gimmallaw21.AskOwn', WHERE WHAT IT READS IS OF BULK AT MOST 1048576: true; the input reads as it did. -/
def askOwnUptoRow : OpenClaim := { program := "ytailjedmlkdcmaa", sum := "90ccccec8d919a823cdbfb3675ef4f830856280e5b6937bf339bdc9508c3b028", func := "gimmal/gimmallaw21.AskOwn", spec := "askOwn", unfollowed := true, recurses := true, apart := false, narrowed := true }
def AskOwnUptoSaid : Prop := askOwnUptoRow.holds Try.pinned (OpenSpec.upto askOwnSpec)

/-- 'gimmallaw20.Takes', WHERE WHAT IT READS IS OF BULK AT MOST 1048576: true; the input reads as it did. -/
def takesUptoRow : OpenClaim := { program := "ytailjedmlkdcmaa", sum := "90ccccec8d919a823cdbfb3675ef4f830856280e5b6937bf339bdc9508c3b028", func := "gimmal/gimmallaw20.Takes", spec := "takes", inPlace := ["slices.overlaps[gimmal/api.Item]"], unfollowed := true, recurses := true, apart := false, narrowed := true }
def TakesUptoSaid : Prop := takesUptoRow.holds Try.pinned (OpenSpec.upto takesSpec)

/-- 'gimmallaw20.TakeForms', WHERE WHAT IT READS IS OF BULK AT MOST 1048576: true; the input reads as it did. -/
def takeFormsUptoRow : OpenClaim := { program := "ytailjedmlkdcmaa", sum := "90ccccec8d919a823cdbfb3675ef4f830856280e5b6937bf339bdc9508c3b028", func := "gimmal/gimmallaw20.TakeForms", spec := "takeForms", inPlace := ["slices.overlaps[gimmal/api.Item]"], unfollowed := true, recurses := true, apart := false, narrowed := true }
def TakeFormsUptoSaid : Prop := takeFormsUptoRow.holds Try.pinned (OpenSpec.upto takeFormsSpec)

/-- 'gimmallaw20.TakeBest', WHERE WHAT IT READS IS OF BULK AT MOST 1048576: true; the input reads as it did. -/
def takeBestUptoRow : OpenClaim := { program := "ytailjedmlkdcmaa", sum := "90ccccec8d919a823cdbfb3675ef4f830856280e5b6937bf339bdc9508c3b028", func := "gimmal/gimmallaw20.TakeBest", spec := "takeBest", inPlace := ["slices.overlaps[gimmal/api.Item]"], unfollowed := true, recurses := true, apart := false, narrowed := true }
def TakeBestUptoSaid : Prop := takeBestUptoRow.holds Try.pinned (OpenSpec.upto takeBestSpec)

/-- 'gimmallaw20.TakeTwice', WHERE WHAT IT READS IS OF BULK AT MOST 1048576: true; the input reads as it did. -/
def takeTwiceUptoRow : OpenClaim := { program := "ytailjedmlkdcmaa", sum := "90ccccec8d919a823cdbfb3675ef4f830856280e5b6937bf339bdc9508c3b028", func := "gimmal/gimmallaw20.TakeTwice", spec := "takeTwice", inPlace := ["slices.overlaps[gimmal/api.Item]"], unfollowed := true, recurses := true, apart := false, narrowed := true }
def TakeTwiceUptoSaid : Prop := takeTwiceUptoRow.holds Try.pinned (OpenSpec.upto takeTwiceSpec)

/-- 'gimmallaw20.TakeRow', WHERE WHAT IT READS IS OF BULK AT MOST 1048576: true; the input reads as it did. -/
def takeRowUptoRow : OpenClaim := { program := "ytailjedmlkdcmaa", sum := "90ccccec8d919a823cdbfb3675ef4f830856280e5b6937bf339bdc9508c3b028", func := "gimmal/gimmallaw20.TakeRow", spec := "takeRow", inPlace := ["slices.overlaps[gimmal/api.Item]"], unfollowed := true, recurses := true, apart := false, narrowed := true }
def TakeRowUptoSaid : Prop := takeRowUptoRow.holds Try.pinned (OpenSpec.upto takeRowSpec)

end Rows
end Go.Proofs.Ytailjedmlkdcmaa
