/-
  No cell of these rows narrows 'for every input' (looked for: loops, veiled, ifaces, maps, wideKeys, modest, calm, conditions, laid).
  DERIVED. THE GIVEN ROWS OF THIS SEAT. 6 by the template 'for every input the law returns true; each argument reads behind the call as it read before'; 0 by the template 'total and deterministic' (their statements: YtfnlhonngacagaaTotals.lean).
  GIVEN WITH THE SEED: the statements are not yours to turn. If you find one false, say at which input.
  Laid BY PROGRAM, IN A SANDBOX (cutbox-rows.mjs): the forced cells as the released guide's own fill.sh prints them over the translation 2d527c9dce898187… (all of the seat's roots in one cut). By AI agents, Wed Nov 11 2026. No macro, syntax, notation, axiom, sorry.
-/
import Derived.Test.YtfnlhonngacagaaChecked
import GoSem.Claim
import GoSem.ClaimJoined
import GoSem.ClaimMapViews
import Derived.JoinedTies
import Derived.KernelRfl
namespace Go.Proofs.Ytfnlhonngacagaa
/- THE CELL 'sum', in the pinned program and in every row, IS THE sha256 OF THE DUMP (.gsa) THAT YtfnlhonngacagaaProg.lean LOADS. Nothing in Lean hashes anything: it is a label: what it is worth is what the hold of that sum in a sandbox is worth. -/
noncomputable def Try.pinned : Pinned := { name := "ytfnlhonngacagaa", sum := "2d527c9dce898187346f78288aab77e82f369e32a268c47e3d4bfb416ce53b4d", checked := Try.checked }
namespace Rows
def none {H : Type} : Left H := { results := [], args := [] }

/-- 'spacecraftlaw45.ModePlays': WHATEVER THE INPUT: true; the input reads as it did. -/
def modePlaysSpec : ChangeSpec := { name := "modePlays", fn := fun _ => fun
  | [d] => { results := [.lit (.bool true)], args := [d] }
  | _ => none }
def modePlaysRow : OpenClaim := { program := "ytfnlhonngacagaa", sum := "2d527c9dce898187346f78288aab77e82f369e32a268c47e3d4bfb416ce53b4d", func := "spacecraft/spacecraftlaw45.ModePlays", spec := "modePlays", apart := false }
def ModePlaysSaid : Prop := modePlaysRow.holds Try.pinned (OpenSpec.ofChange modePlaysSpec)

/-- ITS FALSE NEIGHBOUR: 'it returns false'. Refute it at one input. -/
def modePlaysWrong : ChangeSpec := { name := "modePlays", fn := fun _ => fun
  | [d] => { results := [.lit (.bool false)], args := [d] }
  | _ => none }
def ModePlaysWrongFalsely : Prop := modePlaysRow.holds Try.pinned (OpenSpec.ofChange modePlaysWrong)

/-- 'spacecraftlaw45.ModeMany': WHATEVER THE INPUT: true; the input reads as it did. -/
def modeManySpec : ChangeSpec := { name := "modeMany", fn := fun _ => fun
  | [d] => { results := [.lit (.bool true)], args := [d] }
  | _ => none }
def modeManyRow : OpenClaim := { program := "ytfnlhonngacagaa", sum := "2d527c9dce898187346f78288aab77e82f369e32a268c47e3d4bfb416ce53b4d", func := "spacecraft/spacecraftlaw45.ModeMany", spec := "modeMany", apart := false }
def ModeManySaid : Prop := modeManyRow.holds Try.pinned (OpenSpec.ofChange modeManySpec)

/-- ITS FALSE NEIGHBOUR: 'it returns false'. Refute it at one input. -/
def modeManyWrong : ChangeSpec := { name := "modeMany", fn := fun _ => fun
  | [d] => { results := [.lit (.bool false)], args := [d] }
  | _ => none }
def ModeManyWrongFalsely : Prop := modeManyRow.holds Try.pinned (OpenSpec.ofChange modeManyWrong)

/-- 'spacecraftlaw45.ModeCan': WHATEVER THE INPUT: true; the input reads as it did. -/
def modeCanSpec : ChangeSpec := { name := "modeCan", fn := fun _ => fun
  | [d1, d2] => { results := [.lit (.bool true)], args := [d1, d2] }
  | _ => none }
def modeCanRow : OpenClaim := { program := "ytfnlhonngacagaa", sum := "2d527c9dce898187346f78288aab77e82f369e32a268c47e3d4bfb416ce53b4d", func := "spacecraft/spacecraftlaw45.ModeCan", spec := "modeCan", apart := false }
def ModeCanSaid : Prop := modeCanRow.holds Try.pinned (OpenSpec.ofChange modeCanSpec)

/-- ITS FALSE NEIGHBOUR: 'it returns false'. Refute it at one input. -/
def modeCanWrong : ChangeSpec := { name := "modeCan", fn := fun _ => fun
  | [d1, d2] => { results := [.lit (.bool false)], args := [d1, d2] }
  | _ => none }
def ModeCanWrongFalsely : Prop := modeCanRow.holds Try.pinned (OpenSpec.ofChange modeCanWrong)

/-- 'spacecraftlaw45.ModePermits': WHATEVER THE INPUT: true; the input reads as it did. -/
def modePermitsSpec : ChangeSpec := { name := "modePermits", fn := fun _ => fun
  | [d1, d2] => { results := [.lit (.bool true)], args := [d1, d2] }
  | _ => none }
def modePermitsRow : OpenClaim := { program := "ytfnlhonngacagaa", sum := "2d527c9dce898187346f78288aab77e82f369e32a268c47e3d4bfb416ce53b4d", func := "spacecraft/spacecraftlaw45.ModePermits", spec := "modePermits", apart := false }
def ModePermitsSaid : Prop := modePermitsRow.holds Try.pinned (OpenSpec.ofChange modePermitsSpec)

/-- ITS FALSE NEIGHBOUR: 'it returns false'. Refute it at one input. -/
def modePermitsWrong : ChangeSpec := { name := "modePermits", fn := fun _ => fun
  | [d1, d2] => { results := [.lit (.bool false)], args := [d1, d2] }
  | _ => none }
def ModePermitsWrongFalsely : Prop := modePermitsRow.holds Try.pinned (OpenSpec.ofChange modePermitsWrong)

/-- 'spacecraftlaw45.ModeChain': WHATEVER THE INPUT: true; the input reads as it did. -/
def modeChainSpec : ChangeSpec := { name := "modeChain", fn := fun _ => fun
  | [d] => { results := [.lit (.bool true)], args := [d] }
  | _ => none }
def modeChainRow : OpenClaim := { program := "ytfnlhonngacagaa", sum := "2d527c9dce898187346f78288aab77e82f369e32a268c47e3d4bfb416ce53b4d", func := "spacecraft/spacecraftlaw45.ModeChain", spec := "modeChain", apart := false }
def ModeChainSaid : Prop := modeChainRow.holds Try.pinned (OpenSpec.ofChange modeChainSpec)

/-- ITS FALSE NEIGHBOUR: 'it returns false'. Refute it at one input. -/
def modeChainWrong : ChangeSpec := { name := "modeChain", fn := fun _ => fun
  | [d] => { results := [.lit (.bool false)], args := [d] }
  | _ => none }
def ModeChainWrongFalsely : Prop := modeChainRow.holds Try.pinned (OpenSpec.ofChange modeChainWrong)

/-- 'spacecraftlaw45.ModeClones': WHATEVER THE INPUT: true; the input reads as it did. -/
def modeClonesSpec : ChangeSpec := { name := "modeClones", fn := fun _ => fun
  | [d] => { results := [.lit (.bool true)], args := [d] }
  | _ => none }
def modeClonesRow : OpenClaim := { program := "ytfnlhonngacagaa", sum := "2d527c9dce898187346f78288aab77e82f369e32a268c47e3d4bfb416ce53b4d", func := "spacecraft/spacecraftlaw45.ModeClones", spec := "modeClones", apart := false }
def ModeClonesSaid : Prop := modeClonesRow.holds Try.pinned (OpenSpec.ofChange modeClonesSpec)

/-- ITS FALSE NEIGHBOUR: 'it returns false'. Refute it at one input. -/
def modeClonesWrong : ChangeSpec := { name := "modeClones", fn := fun _ => fun
  | [d] => { results := [.lit (.bool false)], args := [d] }
  | _ => none }
def ModeClonesWrongFalsely : Prop := modeClonesRow.holds Try.pinned (OpenSpec.ofChange modeClonesWrong)

/- THE SECOND FORM. 'bulk': how many values and letters a reading holds, each counted each time it is reached (what is shared counts as often as it is met; a slice's spare places count too). A statement '..UptoSaid' is the law's where the arguments, and the package variables that the reading takes, are together of bulk at most 1048576: NARROWER than '..Said'. Prove '..Said' where nothing that the law and all that it calls make is longer than what came in: it says more and counts as full. Else prove '..UptoSaid'. A law counts once. -/
mutual
def uptoBulk {H : Type} : DataW H → Nat
  | .lit (.string bytes) => bytes.length + 1
  | .lit _ => 1
  | .nil => 1
  | .ptr d => uptoBulk d + 1
  | .slice elems spare => uptoBulkAll elems + uptoBulkAll spare + 1
  | .agg parts => uptoBulkAll parts + 1
  | .iface _ d => uptoBulk d + 1
  | .map entries => uptoBulkEntries entries + 1
  | .held _ => 1
def uptoBulkAll {H : Type} : List (DataW H) → Nat
  | [] => 0
  | d :: r => uptoBulk d + uptoBulkAll r
def uptoBulkEntries {H : Type} : List (Lit × DataW H) → Nat
  | [] => 0
  | x :: r => uptoBulkEntry x + uptoBulkEntries r
def uptoBulkEntry {H : Type} : Lit × DataW H → Nat
  | (.string bytes, d) => bytes.length + uptoBulk d + 1
  | (_, d) => uptoBulk d + 1
 end
def uptoSmall : (H : Type) → List (DataW H) → Bool := fun _ ds => decide (uptoBulkAll ds ≤ 1048576)
def OpenSpec.upto (s : _root_.Go.ChangeSpec) : _root_.Go.OpenSpec := { _root_.Go.OpenSpec.ofChange s with cond := some uptoSmall }

/-- 'spacecraftlaw45.ModePlays', WHERE WHAT IT READS IS OF BULK AT MOST 1048576: true; the input reads as it did. -/
def modePlaysUptoRow : OpenClaim := { program := "ytfnlhonngacagaa", sum := "2d527c9dce898187346f78288aab77e82f369e32a268c47e3d4bfb416ce53b4d", func := "spacecraft/spacecraftlaw45.ModePlays", spec := "modePlays", apart := false, narrowed := true }
def ModePlaysUptoSaid : Prop := modePlaysUptoRow.holds Try.pinned (OpenSpec.upto modePlaysSpec)

/-- 'spacecraftlaw45.ModeMany', WHERE WHAT IT READS IS OF BULK AT MOST 1048576: true; the input reads as it did. -/
def modeManyUptoRow : OpenClaim := { program := "ytfnlhonngacagaa", sum := "2d527c9dce898187346f78288aab77e82f369e32a268c47e3d4bfb416ce53b4d", func := "spacecraft/spacecraftlaw45.ModeMany", spec := "modeMany", apart := false, narrowed := true }
def ModeManyUptoSaid : Prop := modeManyUptoRow.holds Try.pinned (OpenSpec.upto modeManySpec)

/-- 'spacecraftlaw45.ModeCan', WHERE WHAT IT READS IS OF BULK AT MOST 1048576: true; the input reads as it did. -/
def modeCanUptoRow : OpenClaim := { program := "ytfnlhonngacagaa", sum := "2d527c9dce898187346f78288aab77e82f369e32a268c47e3d4bfb416ce53b4d", func := "spacecraft/spacecraftlaw45.ModeCan", spec := "modeCan", apart := false, narrowed := true }
def ModeCanUptoSaid : Prop := modeCanUptoRow.holds Try.pinned (OpenSpec.upto modeCanSpec)

/-- 'spacecraftlaw45.ModePermits', WHERE WHAT IT READS IS OF BULK AT MOST 1048576: true; the input reads as it did. -/
def modePermitsUptoRow : OpenClaim := { program := "ytfnlhonngacagaa", sum := "2d527c9dce898187346f78288aab77e82f369e32a268c47e3d4bfb416ce53b4d", func := "spacecraft/spacecraftlaw45.ModePermits", spec := "modePermits", apart := false, narrowed := true }
def ModePermitsUptoSaid : Prop := modePermitsUptoRow.holds Try.pinned (OpenSpec.upto modePermitsSpec)

/-- 'spacecraftlaw45.ModeChain', WHERE WHAT IT READS IS OF BULK AT MOST 1048576: true; the input reads as it did. -/
def modeChainUptoRow : OpenClaim := { program := "ytfnlhonngacagaa", sum := "2d527c9dce898187346f78288aab77e82f369e32a268c47e3d4bfb416ce53b4d", func := "spacecraft/spacecraftlaw45.ModeChain", spec := "modeChain", apart := false, narrowed := true }
def ModeChainUptoSaid : Prop := modeChainUptoRow.holds Try.pinned (OpenSpec.upto modeChainSpec)

/-- 'spacecraftlaw45.ModeClones', WHERE WHAT IT READS IS OF BULK AT MOST 1048576: true; the input reads as it did. -/
def modeClonesUptoRow : OpenClaim := { program := "ytfnlhonngacagaa", sum := "2d527c9dce898187346f78288aab77e82f369e32a268c47e3d4bfb416ce53b4d", func := "spacecraft/spacecraftlaw45.ModeClones", spec := "modeClones", apart := false, narrowed := true }
def ModeClonesUptoSaid : Prop := modeClonesUptoRow.holds Try.pinned (OpenSpec.upto modeClonesSpec)

end Rows
end Go.Proofs.Ytfnlhonngacagaa
