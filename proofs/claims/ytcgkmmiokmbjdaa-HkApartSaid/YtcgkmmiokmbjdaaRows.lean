/-
  No cell of these rows narrows 'for every input' (looked for: loops, veiled, ifaces, maps, wideKeys, modest, calm, conditions, laid).
  DERIVED. THE GIVEN ROWS OF THIS SEAT. 5 by the template 'for every input the law returns true; each argument reads behind the call as it read before'; 0 by the template 'total and deterministic' (their statements: YtcgkmmiokmbjdaaTotals.lean).
  GIVEN WITH THE SEED: the statements are not yours to turn. If you find one false, say at which input.
  Laid BY PROGRAM, IN A SANDBOX (cutbox-rows.mjs): the forced cells as the released guide's own fill.sh prints them over the translation f220d42eb768d58d… (all of the seat's roots in one cut). By AI agents, Wed Nov 11 2026. No macro, syntax, notation, axiom, sorry.
-/
import Derived.Test.YtcgkmmiokmbjdaaChecked
import GoSem.Claim
import GoSem.ClaimJoined
import GoSem.ClaimMapViews
import Derived.JoinedTies
import Derived.KernelRfl
namespace Go.Proofs.Ytcgkmmiokmbjdaa
/- THE CELL 'sum', in the pinned program and in every row, IS THE sha256 OF THE DUMP (.gsa) THAT YtcgkmmiokmbjdaaProg.lean LOADS. Nothing in Lean hashes anything: it is a label: what it is worth is what the hold of that sum in a sandbox is worth. -/
noncomputable def Try.pinned : Pinned := { name := "ytcgkmmiokmbjdaa", sum := "f220d42eb768d58d4e01f5939cea3c7de493f84d6cdd67165f5b5b4bf17a392a", checked := Try.checked }
namespace Rows
def none {H : Type} : Left H := { results := [], args := [] }

/-- 'spacecraftlaw34.HkFull': WHATEVER THE INPUT: true; the input reads as it did. -/
def hkFullSpec : ChangeSpec := { name := "hkFull", fn := fun _ => fun
  | [d] => { results := [.lit (.bool true)], args := [d] }
  | _ => none }
def hkFullRow : OpenClaim := { program := "ytcgkmmiokmbjdaa", sum := "f220d42eb768d58d4e01f5939cea3c7de493f84d6cdd67165f5b5b4bf17a392a", func := "spacecraft/spacecraftlaw34.HkFull", spec := "hkFull", inPlace := ["slices.overlaps[spacecraft/hk.entry]"], unfollowed := true, recurses := true, apart := false }
def HkFullSaid : Prop := hkFullRow.holds Try.pinned (OpenSpec.ofChange hkFullSpec)

/-- ITS FALSE NEIGHBOUR: 'it returns false'. Refute it at one input. -/
def hkFullWrong : ChangeSpec := { name := "hkFull", fn := fun _ => fun
  | [d] => { results := [.lit (.bool false)], args := [d] }
  | _ => none }
def HkFullWrongFalsely : Prop := hkFullRow.holds Try.pinned (OpenSpec.ofChange hkFullWrong)

/-- 'spacecraftlaw34.HkPeriods': WHATEVER THE INPUT: true; the input reads as it did. -/
def hkPeriodsSpec : ChangeSpec := { name := "hkPeriods", fn := fun _ => fun
  | [d1, d2, d3] => { results := [.lit (.bool true)], args := [d1, d2, d3] }
  | _ => none }
def hkPeriodsRow : OpenClaim := { program := "ytcgkmmiokmbjdaa", sum := "f220d42eb768d58d4e01f5939cea3c7de493f84d6cdd67165f5b5b4bf17a392a", func := "spacecraft/spacecraftlaw34.HkPeriods", spec := "hkPeriods", inPlace := ["slices.overlaps[spacecraft/hk.entry]"], unfollowed := true, recurses := true, apart := false }
def HkPeriodsSaid : Prop := hkPeriodsRow.holds Try.pinned (OpenSpec.ofChange hkPeriodsSpec)

/-- ITS FALSE NEIGHBOUR: 'it returns false'. Refute it at one input. -/
def hkPeriodsWrong : ChangeSpec := { name := "hkPeriods", fn := fun _ => fun
  | [d1, d2, d3] => { results := [.lit (.bool false)], args := [d1, d2, d3] }
  | _ => none }
def HkPeriodsWrongFalsely : Prop := hkPeriodsRow.holds Try.pinned (OpenSpec.ofChange hkPeriodsWrong)

/-- 'spacecraftlaw34.HkApart': WHATEVER THE INPUT: true; the input reads as it did. -/
def hkApartSpec : ChangeSpec := { name := "hkApart", fn := fun _ => fun
  | [d1, d2] => { results := [.lit (.bool true)], args := [d1, d2] }
  | _ => none }
def hkApartRow : OpenClaim := { program := "ytcgkmmiokmbjdaa", sum := "f220d42eb768d58d4e01f5939cea3c7de493f84d6cdd67165f5b5b4bf17a392a", func := "spacecraft/spacecraftlaw34.HkApart", spec := "hkApart", inPlace := ["slices.overlaps[spacecraft/hk.entry]"], unfollowed := true, recurses := true, apart := false }
def HkApartSaid : Prop := hkApartRow.holds Try.pinned (OpenSpec.ofChange hkApartSpec)

/-- ITS FALSE NEIGHBOUR: 'it returns false'. Refute it at one input. -/
def hkApartWrong : ChangeSpec := { name := "hkApart", fn := fun _ => fun
  | [d1, d2] => { results := [.lit (.bool false)], args := [d1, d2] }
  | _ => none }
def HkApartWrongFalsely : Prop := hkApartRow.holds Try.pinned (OpenSpec.ofChange hkApartWrong)

/-- 'spacecraftlaw34.HkClones': WHATEVER THE INPUT: true; the input reads as it did. -/
def hkClonesSpec : ChangeSpec := { name := "hkClones", fn := fun _ => fun
  | [d] => { results := [.lit (.bool true)], args := [d] }
  | _ => none }
def hkClonesRow : OpenClaim := { program := "ytcgkmmiokmbjdaa", sum := "f220d42eb768d58d4e01f5939cea3c7de493f84d6cdd67165f5b5b4bf17a392a", func := "spacecraft/spacecraftlaw34.HkClones", spec := "hkClones", inPlace := ["slices.overlaps[spacecraft/hk.entry]"], unfollowed := true, recurses := true, apart := false }
def HkClonesSaid : Prop := hkClonesRow.holds Try.pinned (OpenSpec.ofChange hkClonesSpec)

/-- ITS FALSE NEIGHBOUR: 'it returns false'. Refute it at one input. -/
def hkClonesWrong : ChangeSpec := { name := "hkClones", fn := fun _ => fun
  | [d] => { results := [.lit (.bool false)], args := [d] }
  | _ => none }
def HkClonesWrongFalsely : Prop := hkClonesRow.holds Try.pinned (OpenSpec.ofChange hkClonesWrong)

/-- 'spacecraftlaw34.HkPlays': WHATEVER THE INPUT: true; the input reads as it did. -/
def hkPlaysSpec : ChangeSpec := { name := "hkPlays", fn := fun _ => fun
  | [d1, d2] => { results := [.lit (.bool true)], args := [d1, d2] }
  | _ => none }
def hkPlaysRow : OpenClaim := { program := "ytcgkmmiokmbjdaa", sum := "f220d42eb768d58d4e01f5939cea3c7de493f84d6cdd67165f5b5b4bf17a392a", func := "spacecraft/spacecraftlaw34.HkPlays", spec := "hkPlays", inPlace := ["slices.overlaps[spacecraft/hk.entry]"], unfollowed := true, recurses := true, apart := false }
def HkPlaysSaid : Prop := hkPlaysRow.holds Try.pinned (OpenSpec.ofChange hkPlaysSpec)

/-- ITS FALSE NEIGHBOUR: 'it returns false'. Refute it at one input. -/
def hkPlaysWrong : ChangeSpec := { name := "hkPlays", fn := fun _ => fun
  | [d1, d2] => { results := [.lit (.bool false)], args := [d1, d2] }
  | _ => none }
def HkPlaysWrongFalsely : Prop := hkPlaysRow.holds Try.pinned (OpenSpec.ofChange hkPlaysWrong)

/- THE SECOND FORM. 'bulk': how many values and letters a reading holds, each counted each time it is reached (what is shared counts as often as it is met; a slice's spare places count too). A statement '..UptoSaid' is the law's where the arguments, and the package variables that the reading takes, are together of bulk at most 1048576: NARROWER than '..Said'. Prove '..Said' where nothing that the law and all that it calls make is longer than what came in: it says more and counts as full. Else prove '..UptoSaid'. A law counts once. -/
mutual
def uptoBulk {H : Type} : DataW H → Nat
  | .lit (.string bytes) => bytes.length + 1
  | .lit _ => 1
  | .nil => 1
  | .ptr d => uptoBulk d + 1
  | .slice elems spare => uptoBulkAll elems + uptoBulkAll spare + 1
  | .agg parts => uptoBulkAll parts + 1
  | .iface _ d => uptoBulk d + 1
  | .map entries => uptoBulkEntries entries + 1
  | .held _ => 1
def uptoBulkAll {H : Type} : List (DataW H) → Nat
  | [] => 0
  | d :: r => uptoBulk d + uptoBulkAll r
def uptoBulkEntries {H : Type} : List (Lit × DataW H) → Nat
  | [] => 0
  | x :: r => uptoBulkEntry x + uptoBulkEntries r
def uptoBulkEntry {H : Type} : Lit × DataW H → Nat
  | (.string bytes, d) => bytes.length + uptoBulk d + 1
  | (_, d) => uptoBulk d + 1
 end
def uptoSmall : (H : Type) → List (DataW H) → Bool := fun _ ds => decide (uptoBulkAll ds ≤ 1048576)
def OpenSpec.upto (s : _root_.Go.ChangeSpec) : _root_.Go.OpenSpec := { _root_.Go.OpenSpec.ofChange s with cond := some uptoSmall }

/-- 'spacecraftlaw34.HkFull', WHERE WHAT IT READS IS OF BULK AT MOST 1048576: true; the input reads as it did. -/
def hkFullUptoRow : OpenClaim := { program := "ytcgkmmiokmbjdaa", sum := "f220d42eb768d58d4e01f5939cea3c7de493f84d6cdd67165f5b5b4bf17a392a", func := "spacecraft/spacecraftlaw34.HkFull", spec := "hkFull", inPlace := ["slices.overlaps[spacecraft/hk.entry]"], unfollowed := true, recurses := true, apart := false, narrowed := true }
def HkFullUptoSaid : Prop := hkFullUptoRow.holds Try.pinned (OpenSpec.upto hkFullSpec)

/-- 'spacecraftlaw34.HkPeriods', WHERE WHAT IT READS IS OF BULK AT MOST 1048576: true; the input reads as it did. -/
def hkPeriodsUptoRow : OpenClaim := { program := "ytcgkmmiokmbjdaa", sum := "f220d42eb768d58d4e01f5939cea3c7de493f84d6cdd67165f5b5b4bf17a392a", func := "spacecraft/spacecraftlaw34.HkPeriods", spec := "hkPeriods", inPlace := ["slices.overlaps[spacecraft/hk.entry]"], unfollowed := true, recurses := true, apart := false, narrowed := true }
def HkPeriodsUptoSaid : Prop := hkPeriodsUptoRow.holds Try.pinned (OpenSpec.upto hkPeriodsSpec)

/-- 'spacecraftlaw34.HkApart', WHERE WHAT IT READS IS OF BULK AT MOST 1048576: true; the input reads as it did. -/
def hkApartUptoRow : OpenClaim := { program := "ytcgkmmiokmbjdaa", sum := "f220d42eb768d58d4e01f5939cea3c7de493f84d6cdd67165f5b5b4bf17a392a", func := "spacecraft/spacecraftlaw34.HkApart", spec := "hkApart", inPlace := ["slices.overlaps[spacecraft/hk.entry]"], unfollowed := true, recurses := true, apart := false, narrowed := true }
def HkApartUptoSaid : Prop := hkApartUptoRow.holds Try.pinned (OpenSpec.upto hkApartSpec)

/-- 'spacecraftlaw34.HkClones', WHERE WHAT IT READS IS OF BULK AT MOST 1048576: true; the input reads as it did. -/
def hkClonesUptoRow : OpenClaim := { program := "ytcgkmmiokmbjdaa", sum := "f220d42eb768d58d4e01f5939cea3c7de493f84d6cdd67165f5b5b4bf17a392a", func := "spacecraft/spacecraftlaw34.HkClones", spec := "hkClones", inPlace := ["slices.overlaps[spacecraft/hk.entry]"], unfollowed := true, recurses := true, apart := false, narrowed := true }
def HkClonesUptoSaid : Prop := hkClonesUptoRow.holds Try.pinned (OpenSpec.upto hkClonesSpec)

/-- 'spacecraftlaw34.HkPlays', WHERE WHAT IT READS IS OF BULK AT MOST 1048576: true; the input reads as it did. -/
def hkPlaysUptoRow : OpenClaim := { program := "ytcgkmmiokmbjdaa", sum := "f220d42eb768d58d4e01f5939cea3c7de493f84d6cdd67165f5b5b4bf17a392a", func := "spacecraft/spacecraftlaw34.HkPlays", spec := "hkPlays", inPlace := ["slices.overlaps[spacecraft/hk.entry]"], unfollowed := true, recurses := true, apart := false, narrowed := true }
def HkPlaysUptoSaid : Prop := hkPlaysUptoRow.holds Try.pinned (OpenSpec.upto hkPlaysSpec)

end Rows
end Go.Proofs.Ytcgkmmiokmbjdaa
