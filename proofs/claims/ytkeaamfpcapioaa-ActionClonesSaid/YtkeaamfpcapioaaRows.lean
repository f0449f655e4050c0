/-
  No cell of these rows narrows 'for every input' (looked for: loops, veiled, ifaces, maps, wideKeys, modest, calm, conditions, laid).
  DERIVED. THE GIVEN ROWS OF THIS SEAT. 4 by the template 'for every input the law returns true; each argument reads behind the call as it read before'; 0 by the template 'total and deterministic' (their statements: YtkeaamfpcapioaaTotals.lean).
  GIVEN WITH THE SEED: the statements are not yours to turn. If you find one false, say at which input.
  Laid BY PROGRAM, IN A SANDBOX (cutbox-rows.mjs): the forced cells as the released guide's own fill.sh prints them over the translation 54a7ba5cf67960c6… (all of the seat's roots in one cut). By AI agents, Wed Nov 11 2026. No macro, syntax, notation, axiom, sorry.
-/
import Derived.Test.YtkeaamfpcapioaaChecked
import GoSem.Claim
import GoSem.ClaimJoined
import GoSem.ClaimMapViews
import Derived.JoinedTies
import Derived.KernelRfl
namespace Go.Proofs.Ytkeaamfpcapioaa
/- THE CELL 'sum', in the pinned program and in every row, IS THE sha256 OF THE DUMP (.gsa) THAT YtkeaamfpcapioaaProg.lean LOADS. Nothing in Lean hashes anything: it is a label: what it is worth is what the hold of that sum in a sandbox is worth. -/
noncomputable def Try.pinned : Pinned := { name := "ytkeaamfpcapioaa", sum := "54a7ba5cf67960c66493af76e240a8d6569d4ddc1d51bf2c3658d7e9d0eff225", checked := Try.checked }
namespace Rows
def none {H : Type} : Left H := { results := [], args := [] }

/-- 'spacecraftlaw37.ActionPlays': WHATEVER THE INPUT: true; the input reads as it did. -/
def actionPlaysSpec : ChangeSpec := { name := "actionPlays", fn := fun _ => fun
  | [d] => { results := [.lit (.bool true)], args := [d] }
  | _ => none }
def actionPlaysRow : OpenClaim := { program := "ytkeaamfpcapioaa", sum := "54a7ba5cf67960c66493af76e240a8d6569d4ddc1d51bf2c3658d7e9d0eff225", func := "spacecraft/spacecraftlaw37.ActionPlays", spec := "actionPlays", inPlace := ["slices.overlaps[spacecraft/action.entry]"], unfollowed := true, recurses := true, apart := false }
def ActionPlaysSaid : Prop := actionPlaysRow.holds Try.pinned (OpenSpec.ofChange actionPlaysSpec)

/-- ITS FALSE NEIGHBOUR: 'it returns false'. Refute it at one input. -/
def actionPlaysWrong : ChangeSpec := { name := "actionPlays", fn := fun _ => fun
  | [d] => { results := [.lit (.bool false)], args := [d] }
  | _ => none }
def ActionPlaysWrongFalsely : Prop := actionPlaysRow.holds Try.pinned (OpenSpec.ofChange actionPlaysWrong)

/-- 'spacecraftlaw37.ActionFull': WHATEVER THE INPUT: true; the input reads as it did. -/
def actionFullSpec : ChangeSpec := { name := "actionFull", fn := fun _ => fun
  | [d] => { results := [.lit (.bool true)], args := [d] }
  | _ => none }
def actionFullRow : OpenClaim := { program := "ytkeaamfpcapioaa", sum := "54a7ba5cf67960c66493af76e240a8d6569d4ddc1d51bf2c3658d7e9d0eff225", func := "spacecraft/spacecraftlaw37.ActionFull", spec := "actionFull", inPlace := ["slices.overlaps[spacecraft/action.entry]"], unfollowed := true, recurses := true, apart := false }
def ActionFullSaid : Prop := actionFullRow.holds Try.pinned (OpenSpec.ofChange actionFullSpec)

/-- ITS FALSE NEIGHBOUR: 'it returns false'. Refute it at one input. -/
def actionFullWrong : ChangeSpec := { name := "actionFull", fn := fun _ => fun
  | [d] => { results := [.lit (.bool false)], args := [d] }
  | _ => none }
def ActionFullWrongFalsely : Prop := actionFullRow.holds Try.pinned (OpenSpec.ofChange actionFullWrong)

/-- 'spacecraftlaw37.ActionTriggers': WHATEVER THE INPUT: true; the input reads as it did. -/
def actionTriggersSpec : ChangeSpec := { name := "actionTriggers", fn := fun _ => fun
  | [d] => { results := [.lit (.bool true)], args := [d] }
  | _ => none }
def actionTriggersRow : OpenClaim := { program := "ytkeaamfpcapioaa", sum := "54a7ba5cf67960c66493af76e240a8d6569d4ddc1d51bf2c3658d7e9d0eff225", func := "spacecraft/spacecraftlaw37.ActionTriggers", spec := "actionTriggers", inPlace := ["slices.overlaps[spacecraft/action.entry]"], unfollowed := true, recurses := true, apart := false }
def ActionTriggersSaid : Prop := actionTriggersRow.holds Try.pinned (OpenSpec.ofChange actionTriggersSpec)

/-- ITS FALSE NEIGHBOUR: 'it returns false'. Refute it at one input. -/
def actionTriggersWrong : ChangeSpec := { name := "actionTriggers", fn := fun _ => fun
  | [d] => { results := [.lit (.bool false)], args := [d] }
  | _ => none }
def ActionTriggersWrongFalsely : Prop := actionTriggersRow.holds Try.pinned (OpenSpec.ofChange actionTriggersWrong)

/-- 'spacecraftlaw37.ActionClones': WHATEVER THE INPUT: true; the input reads as it did. -/
def actionClonesSpec : ChangeSpec := { name := "actionClones", fn := fun _ => fun
  | [d] => { results := [.lit (.bool true)], args := [d] }
  | _ => none }
def actionClonesRow : OpenClaim := { program := "ytkeaamfpcapioaa", sum := "54a7ba5cf67960c66493af76e240a8d6569d4ddc1d51bf2c3658d7e9d0eff225", func := "spacecraft/spacecraftlaw37.ActionClones", spec := "actionClones", inPlace := ["slices.overlaps[spacecraft/action.entry]"], unfollowed := true, recurses := true, apart := false }
def ActionClonesSaid : Prop := actionClonesRow.holds Try.pinned (OpenSpec.ofChange actionClonesSpec)

/-- ITS FALSE NEIGHBOUR: 'it returns false'. Refute it at one input. -/
def actionClonesWrong : ChangeSpec := { name := "actionClones", fn := fun _ => fun
  | [d] => { results := [.lit (.bool false)], args := [d] }
  | _ => none }
def ActionClonesWrongFalsely : Prop := actionClonesRow.holds Try.pinned (OpenSpec.ofChange actionClonesWrong)

/- THE SECOND FORM. 'bulk': how many values and letters a reading holds, each counted each time it is reached (what is shared counts as often as it is met; a slice's spare places count too). A statement '..UptoSaid' is the law's where the arguments, and the package variables that the reading takes, are together of bulk at most 1048576: NARROWER than '..Said'. Prove '..Said' where nothing that the law and all that it calls make is longer than what came in: it says more and counts as full. Else prove '..UptoSaid'. A law counts once. -/
mutual
def uptoBulk {H : Type} : DataW H → Nat
  | .lit (.string bytes) => bytes.length + 1
  | .lit _ => 1
  | .nil => 1
  | .ptr d => uptoBulk d + 1
  | .slice elems spare => uptoBulkAll elems + uptoBulkAll spare + 1
  | .agg parts => uptoBulkAll parts + 1
  | .iface _ d => uptoBulk d + 1
  | .map entries => uptoBulkEntries entries + 1
  | .held _ => 1
def uptoBulkAll {H : Type} : List (DataW H) → Nat
  | [] => 0
  | d :: r => uptoBulk d + uptoBulkAll r
def uptoBulkEntries {H : Type} : List (Lit × DataW H) → Nat
  | [] => 0
  | x :: r => uptoBulkEntry x + uptoBulkEntries r
def uptoBulkEntry {H : Type} : Lit × DataW H → Nat
  | (.string bytes, d) => bytes.length + uptoBulk d + 1
  | (_, d) => uptoBulk d + 1
 end
def uptoSmall : (H : Type) → List (DataW H) → Bool := fun _ ds => decide (uptoBulkAll ds ≤ 1048576)
def OpenSpec.upto (s : _root_.Go.ChangeSpec) : _root_.Go.OpenSpec := { _root_.Go.OpenSpec.ofChange s with cond := some uptoSmall }

/-- 'spacecraftlaw37.ActionPlays', WHERE WHAT IT READS IS OF BULK AT MOST 1048576: true; the input reads as it did. -/
def actionPlaysUptoRow : OpenClaim := { program := "ytkeaamfpcapioaa", sum := "54a7ba5cf67960c66493af76e240a8d6569d4ddc1d51bf2c3658d7e9d0eff225", func := "spacecraft/spacecraftlaw37.ActionPlays", spec := "actionPlays", inPlace := ["slices.overlaps[spacecraft/action.entry]"], unfollowed := true, recurses := true, apart := false, narrowed := true }
def ActionPlaysUptoSaid : Prop := actionPlaysUptoRow.holds Try.pinned (OpenSpec.upto actionPlaysSpec)

/-- 'spacecraftlaw37.ActionFull', WHERE WHAT IT READS IS OF BULK AT MOST 1048576: true; the input reads as it did. -/
def actionFullUptoRow : OpenClaim := { program := "ytkeaamfpcapioaa", sum := "54a7ba5cf67960c66493af76e240a8d6569d4ddc1d51bf2c3658d7e9d0eff225", func := "spacecraft/spacecraftlaw37.ActionFull", spec := "actionFull", inPlace := ["slices.overlaps[spacecraft/action.entry]"], unfollowed := true, recurses := true, apart := false, narrowed := true }
def ActionFullUptoSaid : Prop := actionFullUptoRow.holds Try.pinned (OpenSpec.upto actionFullSpec)

/-- 'spacecraftlaw37.ActionTriggers', WHERE WHAT IT READS IS OF BULK AT MOST 1048576: true; the input reads as it did. -/
def actionTriggersUptoRow : OpenClaim := { program := "ytkeaamfpcapioaa", sum := "54a7ba5cf67960c66493af76e240a8d6569d4ddc1d51bf2c3658d7e9d0eff225", func := "spacecraft/spacecraftlaw37.ActionTriggers", spec := "actionTriggers", inPlace := ["slices.overlaps[spacecraft/action.entry]"], unfollowed := true, recurses := true, apart := false, narrowed := true }
def ActionTriggersUptoSaid : Prop := actionTriggersUptoRow.holds Try.pinned (OpenSpec.upto actionTriggersSpec)

/-- 'spacecraftlaw37.ActionClones', WHERE WHAT IT READS IS OF BULK AT MOST 1048576: true; the input reads as it did. -/
def actionClonesUptoRow : OpenClaim := { program := "ytkeaamfpcapioaa", sum := "54a7ba5cf67960c66493af76e240a8d6569d4ddc1d51bf2c3658d7e9d0eff225", func := "spacecraft/spacecraftlaw37.ActionClones", spec := "actionClones", inPlace := ["slices.overlaps[spacecraft/action.entry]"], unfollowed := true, recurses := true, apart := false, narrowed := true }
def ActionClonesUptoSaid : Prop := actionClonesUptoRow.holds Try.pinned (OpenSpec.upto actionClonesSpec)

end Rows
end Go.Proofs.Ytkeaamfpcapioaa
