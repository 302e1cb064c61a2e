/-
  No cell of these rows narrows 'for every input' (looked for: loops, veiled, ifaces, maps, wideKeys, modest, calm, conditions, laid).
  DERIVED. THE GIVEN ROWS OF THIS SEAT. 9 by the template 'for every input the law returns true; each argument reads behind the call as it read before'; 0 by the template 'total and deterministic' (their statements: YtbpghlfmkbjjcaaTotals.lean).
  GIVEN WITH THE SEED: the statements are not yours to turn. If you find one false, say at which input.
  Laid BY PROGRAM, IN A SANDBOX (cutbox-rows.mjs): the forced cells as the released guide's own fill.sh prints them over the translation 12fc71f64f5407c4… (all of the seat's roots in one cut). By AI agents, Wed Nov 11 2026. No macro, syntax, notation, axiom, sorry.
-/
import Derived.Test.YtbpghlfmkbjjcaaChecked
import GoSem.Claim
import GoSem.ClaimJoined
import GoSem.ClaimMapViews
import Derived.JoinedTies
import Derived.KernelRfl
namespace Go.Proofs.Ytbpghlfmkbjjcaa
/- THE CELL 'sum', in the pinned program and in every row, IS THE sha256 OF THE DUMP (.gsa) THAT YtbpghlfmkbjjcaaProg.lean LOADS. Nothing in Lean hashes anything: it is a label: what it is worth is what the hold of that sum in a sandbox is worth. -/
noncomputable def Try.pinned : Pinned := { name := "ytbpghlfmkbjjcaa", sum := "12fc71f64f5407c47f4c6d90cc34d4f81c4c8fc43634d11c11907ab7ad59b6ec", checked := Try.checked }
namespace Rows
def none {H : Type} : Left H := { results := [], args := [] }

/-- 'hansomlaw01.NumPacks': WHATEVER THE INPUT: true; the input reads as it did. -/
def numPacksSpec : ChangeSpec := { name := "numPacks", fn := fun _ => fun
  | [d1, d2] => { results := [.lit (.bool true)], args := [d1, d2] }
  | _ => none }
def numPacksRow : OpenClaim := { program := "ytbpghlfmkbjjcaa", sum := "12fc71f64f5407c47f4c6d90cc34d4f81c4c8fc43634d11c11907ab7ad59b6ec", func := "hansom/hansomlaw01.NumPacks", spec := "numPacks", unfollowed := true, recurses := true, apart := false }
def NumPacksSaid : Prop := numPacksRow.holds Try.pinned (OpenSpec.ofChange numPacksSpec)

/-- ITS FALSE NEIGHBOUR: 'it returns false'. Refute it at one input. -/
def numPacksWrong : ChangeSpec := { name := "numPacks", fn := fun _ => fun
  | [d1, d2] => { results := [.lit (.bool false)], args := [d1, d2] }
  | _ => none }
def NumPacksWrongFalsely : Prop := numPacksRow.holds Try.pinned (OpenSpec.ofChange numPacksWrong)

/-- 'hansomlaw01.NumOrder': WHATEVER THE INPUT: true; the input reads as it did. -/
def numOrderSpec : ChangeSpec := { name := "numOrder", fn := fun _ => fun
  | [d1, d2, d3] => { results := [.lit (.bool true)], args := [d1, d2, d3] }
  | _ => none }
def numOrderRow : OpenClaim := { program := "ytbpghlfmkbjjcaa", sum := "12fc71f64f5407c47f4c6d90cc34d4f81c4c8fc43634d11c11907ab7ad59b6ec", func := "hansom/hansomlaw01.NumOrder", spec := "numOrder", apart := false }
def NumOrderSaid : Prop := numOrderRow.holds Try.pinned (OpenSpec.ofChange numOrderSpec)

/-- ITS FALSE NEIGHBOUR: 'it returns false'. Refute it at one input. -/
def numOrderWrong : ChangeSpec := { name := "numOrder", fn := fun _ => fun
  | [d1, d2, d3] => { results := [.lit (.bool false)], args := [d1, d2, d3] }
  | _ => none }
def NumOrderWrongFalsely : Prop := numOrderRow.holds Try.pinned (OpenSpec.ofChange numOrderWrong)

/-- 'hansomlaw01.NumFields': WHATEVER THE INPUT: true; the input reads as it did. -/
def numFieldsSpec : ChangeSpec := { name := "numFields", fn := fun _ => fun
  | [d1, d2, d3, d4, d5, d6] => { results := [.lit (.bool true)], args := [d1, d2, d3, d4, d5, d6] }
  | _ => none }
def numFieldsRow : OpenClaim := { program := "ytbpghlfmkbjjcaa", sum := "12fc71f64f5407c47f4c6d90cc34d4f81c4c8fc43634d11c11907ab7ad59b6ec", func := "hansom/hansomlaw01.NumFields", spec := "numFields", apart := false }
def NumFieldsSaid : Prop := numFieldsRow.holds Try.pinned (OpenSpec.ofChange numFieldsSpec)

/-- ITS FALSE NEIGHBOUR: 'it returns false'. Refute it at one input. -/
def numFieldsWrong : ChangeSpec := { name := "numFields", fn := fun _ => fun
  | [d1, d2, d3, d4, d5, d6] => { results := [.lit (.bool false)], args := [d1, d2, d3, d4, d5, d6] }
  | _ => none }
def NumFieldsWrongFalsely : Prop := numFieldsRow.holds Try.pinned (OpenSpec.ofChange numFieldsWrong)

/-- 'hansomlaw01.NumAdds': WHATEVER THE INPUT: true; the input reads as it did. -/
def numAddsSpec : ChangeSpec := { name := "numAdds", fn := fun _ => fun
  | [d1, d2] => { results := [.lit (.bool true)], args := [d1, d2] }
  | _ => none }
def numAddsRow : OpenClaim := { program := "ytbpghlfmkbjjcaa", sum := "12fc71f64f5407c47f4c6d90cc34d4f81c4c8fc43634d11c11907ab7ad59b6ec", func := "hansom/hansomlaw01.NumAdds", spec := "numAdds", apart := false }
def NumAddsSaid : Prop := numAddsRow.holds Try.pinned (OpenSpec.ofChange numAddsSpec)

/-- ITS FALSE NEIGHBOUR: 'it returns false'. Refute it at one input. -/
def numAddsWrong : ChangeSpec := { name := "numAdds", fn := fun _ => fun
  | [d1, d2] => { results := [.lit (.bool false)], args := [d1, d2] }
  | _ => none }
def NumAddsWrongFalsely : Prop := numAddsRow.holds Try.pinned (OpenSpec.ofChange numAddsWrong)

/-- 'hansomlaw01.NumGrows': WHATEVER THE INPUT: true; the input reads as it did. -/
def numGrowsSpec : ChangeSpec := { name := "numGrows", fn := fun _ => fun
  | [d1, d2, d3] => { results := [.lit (.bool true)], args := [d1, d2, d3] }
  | _ => none }
def numGrowsRow : OpenClaim := { program := "ytbpghlfmkbjjcaa", sum := "12fc71f64f5407c47f4c6d90cc34d4f81c4c8fc43634d11c11907ab7ad59b6ec", func := "hansom/hansomlaw01.NumGrows", spec := "numGrows", apart := false }
def NumGrowsSaid : Prop := numGrowsRow.holds Try.pinned (OpenSpec.ofChange numGrowsSpec)

/-- ITS FALSE NEIGHBOUR: 'it returns false'. Refute it at one input. -/
def numGrowsWrong : ChangeSpec := { name := "numGrows", fn := fun _ => fun
  | [d1, d2, d3] => { results := [.lit (.bool false)], args := [d1, d2, d3] }
  | _ => none }
def NumGrowsWrongFalsely : Prop := numGrowsRow.holds Try.pinned (OpenSpec.ofChange numGrowsWrong)

/-- 'hansomlaw01.NumUnpacks': WHATEVER THE INPUT: true; the input reads as it did. -/
def numUnpacksSpec : ChangeSpec := { name := "numUnpacks", fn := fun _ => fun
  | [d1, d2] => { results := [.lit (.bool true)], args := [d1, d2] }
  | _ => none }
def numUnpacksRow : OpenClaim := { program := "ytbpghlfmkbjjcaa", sum := "12fc71f64f5407c47f4c6d90cc34d4f81c4c8fc43634d11c11907ab7ad59b6ec", func := "hansom/hansomlaw01.NumUnpacks", spec := "numUnpacks", unfollowed := true, recurses := true, apart := false }
def NumUnpacksSaid : Prop := numUnpacksRow.holds Try.pinned (OpenSpec.ofChange numUnpacksSpec)

/-- ITS FALSE NEIGHBOUR: 'it returns false'. Refute it at one input. -/
def numUnpacksWrong : ChangeSpec := { name := "numUnpacks", fn := fun _ => fun
  | [d1, d2] => { results := [.lit (.bool false)], args := [d1, d2] }
  | _ => none }
def NumUnpacksWrongFalsely : Prop := numUnpacksRow.holds Try.pinned (OpenSpec.ofChange numUnpacksWrong)

/-- 'hansomlaw01.NumBack': WHATEVER THE INPUT: true; the input reads as it did. -/
def numBackSpec : ChangeSpec := { name := "numBack", fn := fun _ => fun
  | [d1, d2, d3] => { results := [.lit (.bool true)], args := [d1, d2, d3] }
  | _ => none }
def numBackRow : OpenClaim := { program := "ytbpghlfmkbjjcaa", sum := "12fc71f64f5407c47f4c6d90cc34d4f81c4c8fc43634d11c11907ab7ad59b6ec", func := "hansom/hansomlaw01.NumBack", spec := "numBack", unfollowed := true, recurses := true, apart := false }
def NumBackSaid : Prop := numBackRow.holds Try.pinned (OpenSpec.ofChange numBackSpec)

/-- ITS FALSE NEIGHBOUR: 'it returns false'. Refute it at one input. -/
def numBackWrong : ChangeSpec := { name := "numBack", fn := fun _ => fun
  | [d1, d2, d3] => { results := [.lit (.bool false)], args := [d1, d2, d3] }
  | _ => none }
def NumBackWrongFalsely : Prop := numBackRow.holds Try.pinned (OpenSpec.ofChange numBackWrong)

/-- 'hansomlaw01.NumShifts': WHATEVER THE INPUT: true; the input reads as it did. -/
def numShiftsSpec : ChangeSpec := { name := "numShifts", fn := fun _ => fun
  | [d1, d2, d3, d4] => { results := [.lit (.bool true)], args := [d1, d2, d3, d4] }
  | _ => none }
def numShiftsRow : OpenClaim := { program := "ytbpghlfmkbjjcaa", sum := "12fc71f64f5407c47f4c6d90cc34d4f81c4c8fc43634d11c11907ab7ad59b6ec", func := "hansom/hansomlaw01.NumShifts", spec := "numShifts", apart := false }
def NumShiftsSaid : Prop := numShiftsRow.holds Try.pinned (OpenSpec.ofChange numShiftsSpec)

/-- ITS FALSE NEIGHBOUR: 'it returns false'. Refute it at one input. -/
def numShiftsWrong : ChangeSpec := { name := "numShifts", fn := fun _ => fun
  | [d1, d2, d3, d4] => { results := [.lit (.bool false)], args := [d1, d2, d3, d4] }
  | _ => none }
def NumShiftsWrongFalsely : Prop := numShiftsRow.holds Try.pinned (OpenSpec.ofChange numShiftsWrong)

/-- 'hansomlaw01.NumNarrows': WHATEVER THE INPUT: true; the input reads as it did. -/
def numNarrowsSpec : ChangeSpec := { name := "numNarrows", fn := fun _ => fun
  | [d1, d2, d3, d4, d5] => { results := [.lit (.bool true)], args := [d1, d2, d3, d4, d5] }
  | _ => none }
def numNarrowsRow : OpenClaim := { program := "ytbpghlfmkbjjcaa", sum := "12fc71f64f5407c47f4c6d90cc34d4f81c4c8fc43634d11c11907ab7ad59b6ec", func := "hansom/hansomlaw01.NumNarrows", spec := "numNarrows", apart := false }
def NumNarrowsSaid : Prop := numNarrowsRow.holds Try.pinned (OpenSpec.ofChange numNarrowsSpec)

/-- ITS FALSE NEIGHBOUR: 'it returns false'. Refute it at one input. -/
def numNarrowsWrong : ChangeSpec := { name := "numNarrows", fn := fun _ => fun
  | [d1, d2, d3, d4, d5] => { results := [.lit (.bool false)], args := [d1, d2, d3, d4, d5] }
  | _ => none }
def NumNarrowsWrongFalsely : Prop := numNarrowsRow.holds Try.pinned (OpenSpec.ofChange numNarrowsWrong)

/- THE SECOND FORM. 'bulk': how many values and letters a reading holds, each counted each time it is reached (what is shared counts as often as it is met; a slice's spare places count too). A statement '..UptoSaid' is the law's where the arguments, and the package variables that the reading takes, are together of bulk at most 1048576: NARROWER than '..Said'. Prove '..Said' where nothing that the law and all that it calls make is longer than what came in: it says more and counts as full. Else prove '..UptoSaid'. A law counts once. -/
mutual
def uptoBulk {H : Type} : DataW H → Nat
  | .lit (.string bytes) => bytes.length + 1
  | .lit _ => 1
  | .nil => 1
  | .ptr d => uptoBulk d + 1
  | .slice elems spare => uptoBulkAll elems + uptoBulkAll spare + 1
  | .agg parts => uptoBulkAll parts + 1
  | .iface _ d => uptoBulk d + 1
  | .map entries => uptoBulkEntries entries + 1
  | .held _ => 1
def uptoBulkAll {H : Type} : List (DataW H) → Nat
  | [] => 0
  | d :: r => uptoBulk d + uptoBulkAll r
def uptoBulkEntries {H : Type} : List (Lit × DataW H) → Nat
  | [] => 0
  | x :: r => uptoBulkEntry x + uptoBulkEntries r
def uptoBulkEntry {H : Type} : Lit × DataW H → Nat
  | (.string bytes, d) => bytes.length + uptoBulk d + 1
  | (_, d) => uptoBulk d + 1
 end
def uptoSmall : (H : Type) → List (DataW H) → Bool := fun _ ds => decide (uptoBulkAll ds ≤ 1048576)
def OpenSpec.upto (s : _root_.Go.ChangeSpec) : _root_.Go.OpenSpec := { _root_.Go.OpenSpec.ofChange s with cond := some uptoSmall }

/-- 'hansomlaw01.NumPacks', WHERE WHAT IT READS IS OF BULK AT MOST 1048576: true; the input reads as it did. -/
def numPacksUptoRow : OpenClaim := { program := "ytbpghlfmkbjjcaa", sum := "12fc71f64f5407c47f4c6d90cc34d4f81c4c8fc43634d11c11907ab7ad59b6ec", func := "hansom/hansomlaw01.NumPacks", spec := "numPacks", unfollowed := true, recurses := true, apart := false, narrowed := true }
def NumPacksUptoSaid : Prop := numPacksUptoRow.holds Try.pinned (OpenSpec.upto numPacksSpec)

/-- 'hansomlaw01.NumOrder', WHERE WHAT IT READS IS OF BULK AT MOST 1048576: true; the input reads as it did. -/
def numOrderUptoRow : OpenClaim := { program := "ytbpghlfmkbjjcaa", sum := "12fc71f64f5407c47f4c6d90cc34d4f81c4c8fc43634d11c11907ab7ad59b6ec", func := "hansom/hansomlaw01.NumOrder", spec := "numOrder", apart := false, narrowed := true }
def NumOrderUptoSaid : Prop := numOrderUptoRow.holds Try.pinned (OpenSpec.upto numOrderSpec)

/-- 'hansomlaw01.NumFields', WHERE WHAT IT READS IS OF BULK AT MOST 1048576: true; the input reads as it did. -/
def numFieldsUptoRow : OpenClaim := { program := "ytbpghlfmkbjjcaa", sum := "12fc71f64f5407c47f4c6d90cc34d4f81c4c8fc43634d11c11907ab7ad59b6ec", func := "hansom/hansomlaw01.NumFields", spec := "numFields", apart := false, narrowed := true }
def NumFieldsUptoSaid : Prop := numFieldsUptoRow.holds Try.pinned (OpenSpec.upto numFieldsSpec)

/-- 'hansomlaw01.NumAdds', WHERE WHAT IT READS IS OF BULK AT MOST 1048576: true; the input reads as it did. -/
def numAddsUptoRow : OpenClaim := { program := "ytbpghlfmkbjjcaa", sum := "12fc71f64f5407c47f4c6d90cc34d4f81c4c8fc43634d11c11907ab7ad59b6ec", func := "hansom/hansomlaw01.NumAdds", spec := "numAdds", apart := false, narrowed := true }
def NumAddsUptoSaid : Prop := numAddsUptoRow.holds Try.pinned (OpenSpec.upto numAddsSpec)

/-- 'hansomlaw01.NumGrows', WHERE WHAT IT READS IS OF BULK AT MOST 1048576: true; the input reads as it did. -/
def numGrowsUptoRow : OpenClaim := { program := "ytbpghlfmkbjjcaa", sum := "12fc71f64f5407c47f4c6d90cc34d4f81c4c8fc43634d11c11907ab7ad59b6ec", func := "hansom/hansomlaw01.NumGrows", spec := "numGrows", apart := false, narrowed := true }
def NumGrowsUptoSaid : Prop := numGrowsUptoRow.holds Try.pinned (OpenSpec.upto numGrowsSpec)

/-- 'hansomlaw01.NumUnpacks', WHERE WHAT IT READS IS OF BULK AT MOST 1048576: true; the input reads as it did. -/
def numUnpacksUptoRow : OpenClaim := { program := "ytbpghlfmkbjjcaa", sum := "12fc71f64f5407c47f4c6d90cc34d4f81c4c8fc43634d11c11907ab7ad59b6ec", func := "hansom/hansomlaw01.NumUnpacks", spec := "numUnpacks", unfollowed := true, recurses := true, apart := false, narrowed := true }
def NumUnpacksUptoSaid : Prop := numUnpacksUptoRow.holds Try.pinned (OpenSpec.upto numUnpacksSpec)

/-- 'hansomlaw01.NumBack', WHERE WHAT IT READS IS OF BULK AT MOST 1048576: true; the input reads as it did. -/
def numBackUptoRow : OpenClaim := { program := "ytbpghlfmkbjjcaa", sum := "12fc71f64f5407c47f4c6d90cc34d4f81c4c8fc43634d11c11907ab7ad59b6ec", func := "hansom/hansomlaw01.NumBack", spec := "numBack", unfollowed := true, recurses := true, apart := false, narrowed := true }
def NumBackUptoSaid : Prop := numBackUptoRow.holds Try.pinned (OpenSpec.upto numBackSpec)

/-- 'hansomlaw01.NumShifts', WHERE WHAT IT READS IS OF BULK AT MOST 1048576: true; the input reads as it did. -/
def numShiftsUptoRow : OpenClaim := { program := "ytbpghlfmkbjjcaa", sum := "12fc71f64f5407c47f4c6d90cc34d4f81c4c8fc43634d11c11907ab7ad59b6ec", func := "hansom/hansomlaw01.NumShifts", spec := "numShifts", apart := false, narrowed := true }
def NumShiftsUptoSaid : Prop := numShiftsUptoRow.holds Try.pinned (OpenSpec.upto numShiftsSpec)

/-- 'hansomlaw01.NumNarrows', WHERE WHAT IT READS IS OF BULK AT MOST 1048576: true; the input reads as it did. -/
def numNarrowsUptoRow : OpenClaim := { program := "ytbpghlfmkbjjcaa", sum := "12fc71f64f5407c47f4c6d90cc34d4f81c4c8fc43634d11c11907ab7ad59b6ec", func := "hansom/hansomlaw01.NumNarrows", spec := "numNarrows", apart := false, narrowed := true }
def NumNarrowsUptoSaid : Prop := numNarrowsUptoRow.holds Try.pinned (OpenSpec.upto numNarrowsSpec)

end Rows
end Go.Proofs.Ytbpghlfmkbjjcaa
