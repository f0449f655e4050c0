/-
  No cell of these rows narrows 'for every input' (looked for: loops, veiled, ifaces, maps, wideKeys, modest, calm, conditions, laid).
  DERIVED. THE GIVEN ROWS OF THIS SEAT. 6 by the template 'for every input the law returns true; each argument reads behind the call as it read before'; 0 by the template 'total and deterministic' (their statements: YtcdnljibefpchaaTotals.lean).
  GIVEN WITH THE SEED: the statements are not yours to turn. If you find one false, say at which input.
  Laid BY PROGRAM, IN A SANDBOX (cutbox-rows.mjs): the forced cells as the released guide's own fill.sh prints them over the translation e221146ad342fa0f… (all of the seat's roots in one cut). By AI agents, Wed Nov 11 2026. No macro, syntax, notation, axiom, sorry.
-/
import Derived.Test.YtcdnljibefpchaaChecked
import GoSem.Claim
import GoSem.ClaimJoined
import GoSem.ClaimMapViews
import Derived.JoinedTies
import Derived.KernelRfl
namespace Go.Proofs.Ytcdnljibefpchaa
/- THE CELL 'sum', in the pinned program and in every row, IS THE sha256 OF THE DUMP (.gsa) THAT YtcdnljibefpchaaProg.lean LOADS. Nothing in Lean hashes anything: it is a label: what it is worth is what the hold of that sum in a sandbox is worth. -/
noncomputable def Try.pinned : Pinned := { name := "ytcdnljibefpchaa", sum := "e221146ad342fa0f4b77ccb5d7145c1439b4fd73cee68ce4c5907c8921fbac59", checked := Try.checked }
namespace Rows
def none {H : Type} : Left H := { results := [], args := [] }

/-- 'spacecraftlaw33.ParamsUnpacks': WHATEVER THE INPUT: true; the input reads as it did. -/
def paramsUnpacksSpec : ChangeSpec := { name := "paramsUnpacks", fn := fun _ => fun
  | [d1, d2, d3] => { results := [.lit (.bool true)], args := [d1, d2, d3] }
  | _ => none }
def paramsUnpacksRow : OpenClaim := { program := "ytcdnljibefpchaa", sum := "e221146ad342fa0f4b77ccb5d7145c1439b4fd73cee68ce4c5907c8921fbac59", func := "spacecraft/spacecraftlaw33.ParamsUnpacks", spec := "paramsUnpacks", apart := false }
def ParamsUnpacksSaid : Prop := paramsUnpacksRow.holds Try.pinned (OpenSpec.ofChange paramsUnpacksSpec)

/-- ITS FALSE NEIGHBOUR: 'it returns false'. Refute it at one input. -/
def paramsUnpacksWrong : ChangeSpec := { name := "paramsUnpacks", fn := fun _ => fun
  | [d1, d2, d3] => { results := [.lit (.bool false)], args := [d1, d2, d3] }
  | _ => none }
def ParamsUnpacksWrongFalsely : Prop := paramsUnpacksRow.holds Try.pinned (OpenSpec.ofChange paramsUnpacksWrong)

/-- 'spacecraftlaw33.ParamsBack': WHATEVER THE INPUT: true; the input reads as it did. -/
def paramsBackSpec : ChangeSpec := { name := "paramsBack", fn := fun _ => fun
  | [d1, d2] => { results := [.lit (.bool true)], args := [d1, d2] }
  | _ => none }
def paramsBackRow : OpenClaim := { program := "ytcdnljibefpchaa", sum := "e221146ad342fa0f4b77ccb5d7145c1439b4fd73cee68ce4c5907c8921fbac59", func := "spacecraft/spacecraftlaw33.ParamsBack", spec := "paramsBack", apart := false }
def ParamsBackSaid : Prop := paramsBackRow.holds Try.pinned (OpenSpec.ofChange paramsBackSpec)

/-- ITS FALSE NEIGHBOUR: 'it returns false'. Refute it at one input. -/
def paramsBackWrong : ChangeSpec := { name := "paramsBack", fn := fun _ => fun
  | [d1, d2] => { results := [.lit (.bool false)], args := [d1, d2] }
  | _ => none }
def ParamsBackWrongFalsely : Prop := paramsBackRow.holds Try.pinned (OpenSpec.ofChange paramsBackWrong)

/-- 'spacecraftlaw33.ParamsForms': WHATEVER THE INPUT: true; the input reads as it did. -/
def paramsFormsSpec : ChangeSpec := { name := "paramsForms", fn := fun _ => fun
  | [d1, d2] => { results := [.lit (.bool true)], args := [d1, d2] }
  | _ => none }
def paramsFormsRow : OpenClaim := { program := "ytcdnljibefpchaa", sum := "e221146ad342fa0f4b77ccb5d7145c1439b4fd73cee68ce4c5907c8921fbac59", func := "spacecraft/spacecraftlaw33.ParamsForms", spec := "paramsForms", apart := false }
def ParamsFormsSaid : Prop := paramsFormsRow.holds Try.pinned (OpenSpec.ofChange paramsFormsSpec)

/-- ITS FALSE NEIGHBOUR: 'it returns false'. Refute it at one input. -/
def paramsFormsWrong : ChangeSpec := { name := "paramsForms", fn := fun _ => fun
  | [d1, d2] => { results := [.lit (.bool false)], args := [d1, d2] }
  | _ => none }
def ParamsFormsWrongFalsely : Prop := paramsFormsRow.holds Try.pinned (OpenSpec.ofChange paramsFormsWrong)

/-- 'spacecraftlaw33.ParamsApart': WHATEVER THE INPUT: true; the input reads as it did. -/
def paramsApartSpec : ChangeSpec := { name := "paramsApart", fn := fun _ => fun
  | [d1, d2, d3] => { results := [.lit (.bool true)], args := [d1, d2, d3] }
  | _ => none }
def paramsApartRow : OpenClaim := { program := "ytcdnljibefpchaa", sum := "e221146ad342fa0f4b77ccb5d7145c1439b4fd73cee68ce4c5907c8921fbac59", func := "spacecraft/spacecraftlaw33.ParamsApart", spec := "paramsApart", apart := false }
def ParamsApartSaid : Prop := paramsApartRow.holds Try.pinned (OpenSpec.ofChange paramsApartSpec)

/-- ITS FALSE NEIGHBOUR: 'it returns false'. Refute it at one input. -/
def paramsApartWrong : ChangeSpec := { name := "paramsApart", fn := fun _ => fun
  | [d1, d2, d3] => { results := [.lit (.bool false)], args := [d1, d2, d3] }
  | _ => none }
def ParamsApartWrongFalsely : Prop := paramsApartRow.holds Try.pinned (OpenSpec.ofChange paramsApartWrong)

/-- 'spacecraftlaw33.ParamsPlays': WHATEVER THE INPUT: true; the input reads as it did. -/
def paramsPlaysSpec : ChangeSpec := { name := "paramsPlays", fn := fun _ => fun
  | [d1, d2] => { results := [.lit (.bool true)], args := [d1, d2] }
  | _ => none }
def paramsPlaysRow : OpenClaim := { program := "ytcdnljibefpchaa", sum := "e221146ad342fa0f4b77ccb5d7145c1439b4fd73cee68ce4c5907c8921fbac59", func := "spacecraft/spacecraftlaw33.ParamsPlays", spec := "paramsPlays", apart := false }
def ParamsPlaysSaid : Prop := paramsPlaysRow.holds Try.pinned (OpenSpec.ofChange paramsPlaysSpec)

/-- ITS FALSE NEIGHBOUR: 'it returns false'. Refute it at one input. -/
def paramsPlaysWrong : ChangeSpec := { name := "paramsPlays", fn := fun _ => fun
  | [d1, d2] => { results := [.lit (.bool false)], args := [d1, d2] }
  | _ => none }
def ParamsPlaysWrongFalsely : Prop := paramsPlaysRow.holds Try.pinned (OpenSpec.ofChange paramsPlaysWrong)

/-- 'spacecraftlaw33.ParamsNil': WHATEVER THE INPUT: true; the input reads as it did. -/
def paramsNilSpec : ChangeSpec := { name := "paramsNil", fn := fun _ => fun
  | [d1, d2] => { results := [.lit (.bool true)], args := [d1, d2] }
  | _ => none }
def paramsNilRow : OpenClaim := { program := "ytcdnljibefpchaa", sum := "e221146ad342fa0f4b77ccb5d7145c1439b4fd73cee68ce4c5907c8921fbac59", func := "spacecraft/spacecraftlaw33.ParamsNil", spec := "paramsNil", apart := false }
def ParamsNilSaid : Prop := paramsNilRow.holds Try.pinned (OpenSpec.ofChange paramsNilSpec)

/-- ITS FALSE NEIGHBOUR: 'it returns false'. Refute it at one input. -/
def paramsNilWrong : ChangeSpec := { name := "paramsNil", fn := fun _ => fun
  | [d1, d2] => { results := [.lit (.bool false)], args := [d1, d2] }
  | _ => none }
def ParamsNilWrongFalsely : Prop := paramsNilRow.holds Try.pinned (OpenSpec.ofChange paramsNilWrong)

/- THE SECOND FORM. 'bulk': how many values and letters a reading holds, each counted each time it is reached (what is shared counts as often as it is met; a slice's spare places count too). A statement '..UptoSaid' is the law's where the arguments, and the package variables that the reading takes, are together of bulk at most 1048576: NARROWER than '..Said'. Prove '..Said' where nothing that the law and all that it calls make is longer than what came in: it says more and counts as full. Else prove '..UptoSaid'. A law counts once. -/
mutual
def uptoBulk {H : Type} : DataW H → Nat
  | .lit (.string bytes) => bytes.length + 1
  | .lit _ => 1
  | .nil => 1
  | .ptr d => uptoBulk d + 1
  | .slice elems spare => uptoBulkAll elems + uptoBulkAll spare + 1
  | .agg parts => uptoBulkAll parts + 1
  | .iface _ d => uptoBulk d + 1
  | .map entries => uptoBulkEntries entries + 1
  | .held _ => 1
def uptoBulkAll {H : Type} : List (DataW H) → Nat
  | [] => 0
  | d :: r => uptoBulk d + uptoBulkAll r
def uptoBulkEntries {H : Type} : List (Lit × DataW H) → Nat
  | [] => 0
  | x :: r => uptoBulkEntry x + uptoBulkEntries r
def uptoBulkEntry {H : Type} : Lit × DataW H → Nat
  | (.string bytes, d) => bytes.length + uptoBulk d + 1
  | (_, d) => uptoBulk d + 1
 end
def uptoSmall : (H : Type) → List (DataW H) → Bool := fun _ ds => decide (uptoBulkAll ds ≤ 1048576)
def OpenSpec.upto (s : _root_.Go.ChangeSpec) : _root_.Go.OpenSpec := { _root_.Go.OpenSpec.ofChange s with cond := some uptoSmall }

/-- 'spacecraftlaw33.ParamsUnpacks', WHERE WHAT IT READS IS OF BULK AT MOST 1048576: true; the input reads as it did. -/
def paramsUnpacksUptoRow : OpenClaim := { program := "ytcdnljibefpchaa", sum := "e221146ad342fa0f4b77ccb5d7145c1439b4fd73cee68ce4c5907c8921fbac59", func := "spacecraft/spacecraftlaw33.ParamsUnpacks", spec := "paramsUnpacks", apart := false, narrowed := true }
def ParamsUnpacksUptoSaid : Prop := paramsUnpacksUptoRow.holds Try.pinned (OpenSpec.upto paramsUnpacksSpec)

/-- 'spacecraftlaw33.ParamsBack', WHERE WHAT IT READS IS OF BULK AT MOST 1048576: true; the input reads as it did. -/
def paramsBackUptoRow : OpenClaim := { program := "ytcdnljibefpchaa", sum := "e221146ad342fa0f4b77ccb5d7145c1439b4fd73cee68ce4c5907c8921fbac59", func := "spacecraft/spacecraftlaw33.ParamsBack", spec := "paramsBack", apart := false, narrowed := true }
def ParamsBackUptoSaid : Prop := paramsBackUptoRow.holds Try.pinned (OpenSpec.upto paramsBackSpec)

/-- 'spacecraftlaw33.ParamsForms', WHERE WHAT IT READS IS OF BULK AT MOST 1048576: true; the input reads as it did. -/
def paramsFormsUptoRow : OpenClaim := { program := "ytcdnljibefpchaa", sum := "e221146ad342fa0f4b77ccb5d7145c1439b4fd73cee68ce4c5907c8921fbac59", func := "spacecraft/spacecraftlaw33.ParamsForms", spec := "paramsForms", apart := false, narrowed := true }
def ParamsFormsUptoSaid : Prop := paramsFormsUptoRow.holds Try.pinned (OpenSpec.upto paramsFormsSpec)

/-- 'spacecraftlaw33.ParamsApart', WHERE WHAT IT READS IS OF BULK AT MOST 1048576: true; the input reads as it did. -/
def paramsApartUptoRow : OpenClaim := { program := "ytcdnljibefpchaa", sum := "e221146ad342fa0f4b77ccb5d7145c1439b4fd73cee68ce4c5907c8921fbac59", func := "spacecraft/spacecraftlaw33.ParamsApart", spec := "paramsApart", apart := false, narrowed := true }
def ParamsApartUptoSaid : Prop := paramsApartUptoRow.holds Try.pinned (OpenSpec.upto paramsApartSpec)

/-- 'spacecraftlaw33.ParamsPlays', WHERE WHAT IT READS IS OF BULK AT MOST 1048576: true; the input reads as it did. -/
def paramsPlaysUptoRow : OpenClaim := { program := "ytcdnljibefpchaa", sum := "e221146ad342fa0f4b77ccb5d7145c1439b4fd73cee68ce4c5907c8921fbac59", func := "spacecraft/spacecraftlaw33.ParamsPlays", spec := "paramsPlays", apart := false, narrowed := true }
def ParamsPlaysUptoSaid : Prop := paramsPlaysUptoRow.holds Try.pinned (OpenSpec.upto paramsPlaysSpec)

/-- 'spacecraftlaw33.ParamsNil', WHERE WHAT IT READS IS OF BULK AT MOST 1048576: true; the input reads as it did. -/
def paramsNilUptoRow : OpenClaim := { program := "ytcdnljibefpchaa", sum := "e221146ad342fa0f4b77ccb5d7145c1439b4fd73cee68ce4c5907c8921fbac59", func := "spacecraft/spacecraftlaw33.ParamsNil", spec := "paramsNil", apart := false, narrowed := true }
def ParamsNilUptoSaid : Prop := paramsNilUptoRow.holds Try.pinned (OpenSpec.upto paramsNilSpec)

end Rows
end Go.Proofs.Ytcdnljibefpchaa
