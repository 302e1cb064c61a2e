/-
  No cell of these rows narrows 'for every input' (looked for: loops, veiled, ifaces, maps, wideKeys, modest, calm, conditions, laid).
  DERIVED. THE GIVEN ROWS OF THIS SEAT. 5 by the template 'for every input the law returns true; each argument reads behind the call as it read before'; 0 by the template 'total and deterministic' (their statements: YtonibdmoimgimaaTotals.lean).
  GIVEN WITH THE SEED: the statements are not yours to turn. If you find one false, say at which input.
  Laid BY PROGRAM, IN A SANDBOX (cutbox-rows.mjs): the forced cells as the released guide's own fill.sh prints them over the translation aaceda8fd698091e… (all of the seat's roots in one cut). By AI agents, Wed Nov 11 2026. No macro, syntax, notation, axiom, sorry.
-/
import Derived.Test.YtonibdmoimgimaaChecked
import GoSem.Claim
import GoSem.ClaimJoined
import GoSem.ClaimMapViews
import Derived.JoinedTies
import Derived.KernelRfl
namespace Go.Proofs.Ytonibdmoimgimaa
/- THE CELL 'sum', in the pinned program and in every row, IS THE sha256 OF THE DUMP (.gsa) THAT YtonibdmoimgimaaProg.lean LOADS. Nothing in Lean hashes anything: it is a label: what it is worth is what the hold of that sum in a sandbox is worth. -/
noncomputable def Try.pinned : Pinned := { name := "ytonibdmoimgimaa", sum := "aaceda8fd698091e13c0e0552b01bb58add094aff9f0fca5a52572aadd33faa8", checked := Try.checked }
namespace Rows
def none {H : Type} : Left H := { results := [], args := [] }

/-- 'hansomlaw21.TimesTell': WHATEVER THE INPUT: true; the input reads as it did. -/
def timesTellSpec : ChangeSpec := { name := "timesTell", fn := fun _ => fun
  | [d1, d2, d3] => { results := [.lit (.bool true)], args := [d1, d2, d3] }
  | _ => none }
def timesTellRow : OpenClaim := { program := "ytonibdmoimgimaa", sum := "aaceda8fd698091e13c0e0552b01bb58add094aff9f0fca5a52572aadd33faa8", func := "hansom/hansomlaw21.TimesTell", spec := "timesTell", unfollowed := true, recurses := true, apart := false }
def TimesTellSaid : Prop := timesTellRow.holds Try.pinned (OpenSpec.ofChange timesTellSpec)

/-- ITS FALSE NEIGHBOUR: 'it returns false'. Refute it at one input. -/
def timesTellWrong : ChangeSpec := { name := "timesTell", fn := fun _ => fun
  | [d1, d2, d3] => { results := [.lit (.bool false)], args := [d1, d2, d3] }
  | _ => none }
def TimesTellWrongFalsely : Prop := timesTellRow.holds Try.pinned (OpenSpec.ofChange timesTellWrong)

/-- 'hansomlaw21.TimesShift': WHATEVER THE INPUT: true; the input reads as it did. -/
def timesShiftSpec : ChangeSpec := { name := "timesShift", fn := fun _ => fun
  | [d1, d2, d3, d4] => { results := [.lit (.bool true)], args := [d1, d2, d3, d4] }
  | _ => none }
def timesShiftRow : OpenClaim := { program := "ytonibdmoimgimaa", sum := "aaceda8fd698091e13c0e0552b01bb58add094aff9f0fca5a52572aadd33faa8", func := "hansom/hansomlaw21.TimesShift", spec := "timesShift", unfollowed := true, recurses := true, apart := false }
def TimesShiftSaid : Prop := timesShiftRow.holds Try.pinned (OpenSpec.ofChange timesShiftSpec)

/-- ITS FALSE NEIGHBOUR: 'it returns false'. Refute it at one input. -/
def timesShiftWrong : ChangeSpec := { name := "timesShift", fn := fun _ => fun
  | [d1, d2, d3, d4] => { results := [.lit (.bool false)], args := [d1, d2, d3, d4] }
  | _ => none }
def TimesShiftWrongFalsely : Prop := timesShiftRow.holds Try.pinned (OpenSpec.ofChange timesShiftWrong)

/-- 'hansomlaw21.TimesParts': WHATEVER THE INPUT: true; the input reads as it did. -/
def timesPartsSpec : ChangeSpec := { name := "timesParts", fn := fun _ => fun
  | [d1, d2, d3, d4] => { results := [.lit (.bool true)], args := [d1, d2, d3, d4] }
  | _ => none }
def timesPartsRow : OpenClaim := { program := "ytonibdmoimgimaa", sum := "aaceda8fd698091e13c0e0552b01bb58add094aff9f0fca5a52572aadd33faa8", func := "hansom/hansomlaw21.TimesParts", spec := "timesParts", unfollowed := true, recurses := true, apart := false }
def TimesPartsSaid : Prop := timesPartsRow.holds Try.pinned (OpenSpec.ofChange timesPartsSpec)

/-- ITS FALSE NEIGHBOUR: 'it returns false'. Refute it at one input. -/
def timesPartsWrong : ChangeSpec := { name := "timesParts", fn := fun _ => fun
  | [d1, d2, d3, d4] => { results := [.lit (.bool false)], args := [d1, d2, d3, d4] }
  | _ => none }
def TimesPartsWrongFalsely : Prop := timesPartsRow.holds Try.pinned (OpenSpec.ofChange timesPartsWrong)

/-- 'hansomlaw21.TimesLatest': WHATEVER THE INPUT: true; the input reads as it did. -/
def timesLatestSpec : ChangeSpec := { name := "timesLatest", fn := fun _ => fun
  | [d1, d2, d3, d4] => { results := [.lit (.bool true)], args := [d1, d2, d3, d4] }
  | _ => none }
def timesLatestRow : OpenClaim := { program := "ytonibdmoimgimaa", sum := "aaceda8fd698091e13c0e0552b01bb58add094aff9f0fca5a52572aadd33faa8", func := "hansom/hansomlaw21.TimesLatest", spec := "timesLatest", unfollowed := true, recurses := true, apart := false }
def TimesLatestSaid : Prop := timesLatestRow.holds Try.pinned (OpenSpec.ofChange timesLatestSpec)

/-- ITS FALSE NEIGHBOUR: 'it returns false'. Refute it at one input. -/
def timesLatestWrong : ChangeSpec := { name := "timesLatest", fn := fun _ => fun
  | [d1, d2, d3, d4] => { results := [.lit (.bool false)], args := [d1, d2, d3, d4] }
  | _ => none }
def TimesLatestWrongFalsely : Prop := timesLatestRow.holds Try.pinned (OpenSpec.ofChange timesLatestWrong)

/-- 'hansomlaw21.TimesSlack': WHATEVER THE INPUT: true; the input reads as it did. -/
def timesSlackSpec : ChangeSpec := { name := "timesSlack", fn := fun _ => fun
  | [d1, d2, d3, d4, d5] => { results := [.lit (.bool true)], args := [d1, d2, d3, d4, d5] }
  | _ => none }
def timesSlackRow : OpenClaim := { program := "ytonibdmoimgimaa", sum := "aaceda8fd698091e13c0e0552b01bb58add094aff9f0fca5a52572aadd33faa8", func := "hansom/hansomlaw21.TimesSlack", spec := "timesSlack", unfollowed := true, recurses := true, apart := false }
def TimesSlackSaid : Prop := timesSlackRow.holds Try.pinned (OpenSpec.ofChange timesSlackSpec)

/-- ITS FALSE NEIGHBOUR: 'it returns false'. Refute it at one input. -/
def timesSlackWrong : ChangeSpec := { name := "timesSlack", fn := fun _ => fun
  | [d1, d2, d3, d4, d5] => { results := [.lit (.bool false)], args := [d1, d2, d3, d4, d5] }
  | _ => none }
def TimesSlackWrongFalsely : Prop := timesSlackRow.holds Try.pinned (OpenSpec.ofChange timesSlackWrong)

/- THE SECOND FORM. 'bulk': how many values and letters a reading holds, each counted each time it is reached (what is shared counts as often as it is met; a slice's spare places count too). A statement '..UptoSaid' is the law's where the arguments, and the package variables that the reading takes, are together of bulk at most 1048576: NARROWER than '..Said'. Prove '..Said' where nothing that the law and all that it calls make is longer than what came in: it says more and counts as full. Else prove '..UptoSaid'. A law counts once. -/
mutual
def uptoBulk {H : Type} : DataW H → Nat
  | .lit (.string bytes) => bytes.length + 1
  | .lit _ => 1
  | .nil => 1
  | .ptr d => uptoBulk d + 1
  | .slice elems spare => uptoBulkAll elems + uptoBulkAll spare + 1
  | .agg parts => uptoBulkAll parts + 1
  | .iface _ d => uptoBulk d + 1
  | .map entries => uptoBulkEntries entries + 1
  | .held _ => 1
def uptoBulkAll {H : Type} : List (DataW H) → Nat
  | [] => 0
  | d :: r => uptoBulk d + uptoBulkAll r
def uptoBulkEntries {H : Type} : List (Lit × DataW H) → Nat
  | [] => 0
  | x :: r => uptoBulkEntry x + uptoBulkEntries r
def uptoBulkEntry {H : Type} : Lit × DataW H → Nat
  | (.string bytes, d) => bytes.length + uptoBulk d + 1
  | (_, d) => uptoBulk d + 1
 end
def uptoSmall : (H : Type) → List (DataW H) → Bool := fun _ ds => decide (uptoBulkAll ds ≤ 1048576)
def OpenSpec.upto (s : _root_.Go.ChangeSpec) : _root_.Go.OpenSpec := { _root_.Go.OpenSpec.ofChange s with cond := some uptoSmall }

/-- 'hansomlaw21.TimesTell', WHERE WHAT IT READS IS OF BULK AT MOST 1048576: true; the input reads as it did. -/
def timesTellUptoRow : OpenClaim := { program := "ytonibdmoimgimaa", sum := "aaceda8fd698091e13c0e0552b01bb58add094aff9f0fca5a52572aadd33faa8", func := "hansom/hansomlaw21.TimesTell", spec := "timesTell", unfollowed := true, recurses := true, apart := false, narrowed := true }
def TimesTellUptoSaid : Prop := timesTellUptoRow.holds Try.pinned (OpenSpec.upto timesTellSpec)

/-- 'hansomlaw21.TimesShift', WHERE WHAT IT READS IS OF BULK AT MOST 1048576: true; the input reads as it did. -/
def timesShiftUptoRow : OpenClaim := { program := "ytonibdmoimgimaa", sum := "aaceda8fd698091e13c0e0552b01bb58add094aff9f0fca5a52572aadd33faa8", func := "hansom/hansomlaw21.TimesShift", spec := "timesShift", unfollowed := true, recurses := true, apart := false, narrowed := true }
def TimesShiftUptoSaid : Prop := timesShiftUptoRow.holds Try.pinned (OpenSpec.upto timesShiftSpec)

/-- 'hansomlaw21.TimesParts', WHERE WHAT IT READS IS OF BULK AT MOST 1048576: true; the input reads as it did. -/
def timesPartsUptoRow : OpenClaim := { program := "ytonibdmoimgimaa", sum := "aaceda8fd698091e13c0e0552b01bb58add094aff9f0fca5a52572aadd33faa8", func := "hansom/hansomlaw21.TimesParts", spec := "timesParts", unfollowed := true, recurses := true, apart := false, narrowed := true }
def TimesPartsUptoSaid : Prop := timesPartsUptoRow.holds Try.pinned (OpenSpec.upto timesPartsSpec)

/-- 'hansomlaw21.TimesLatest', WHERE WHAT IT READS IS OF BULK AT MOST 1048576: true; the input reads as it did. -/
def timesLatestUptoRow : OpenClaim := { program := "ytonibdmoimgimaa", sum := "aaceda8fd698091e13c0e0552b01bb58add094aff9f0fca5a52572aadd33faa8", func := "hansom/hansomlaw21.TimesLatest", spec := "timesLatest", unfollowed := true, recurses := true, apart := false, narrowed := true }
def TimesLatestUptoSaid : Prop := timesLatestUptoRow.holds Try.pinned (OpenSpec.upto timesLatestSpec)

/-- 'hansomlaw21.TimesSlack', WHERE WHAT IT READS IS OF BULK AT MOST 1048576: true; the input reads as it did. -/
def timesSlackUptoRow : OpenClaim := { program := "ytonibdmoimgimaa", sum := "aaceda8fd698091e13c0e0552b01bb58add094aff9f0fca5a52572aadd33faa8", func := "hansom/hansomlaw21.TimesSlack", spec := "timesSlack", unfollowed := true, recurses := true, apart := false, narrowed := true }
def TimesSlackUptoSaid : Prop := timesSlackUptoRow.holds Try.pinned (OpenSpec.upto timesSlackSpec)

end Rows
end Go.Proofs.Ytonibdmoimgimaa
