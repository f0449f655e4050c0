/-
  ActionClones: from the law's contract to the given statement.
-/
import Derived.Test.YtkeaamfpcapioaaClones
import Derived.Test.YtkeaamfpcapioaaOpen
import Derived.Test.YtkeaamfpcapioaaRows
import Derived.Below
namespace Go.Proofs.Ytkeaamfpcapioaa
open Go Go.Sh Go.ChangeShapes Go.WideShapes Go.ChangeAt Go.RowKit
set_option linter.unusedVariables false

theorem own : ownKnob Try.prog.godebug = none := by kernel_rfl
theorem laidOut : laidOutB Try.prog = true := by kernel_rfl

abbrev Tp := Nat × Int × Bool × (Int × Int × Int × (Option Addr × List Int × Nat) × (Option Addr × List UInt8 × Nat))
def tup (y : Tp) : St := ⟨(y.1 : Int), y.2.1, y.2.2.1, ⟨y.2.2.2.1, y.2.2.2.2.1, y.2.2.2.2.2.1, y.2.2.2.2.2.2.1.1, y.2.2.2.2.2.2.1.2.1, y.2.2.2.2.2.2.1.2.2, y.2.2.2.2.2.2.2.1, y.2.2.2.2.2.2.2.2.1, y.2.2.2.2.2.2.2.2.2⟩⟩
theorem actionClones_walk (a : Option Addr) (l : List Tp) (cap : Nat) (w : World) (hr : Rd w a (l.flatMap fun y => stv (tup y))) (h1 : l.length ≤ cap) (h2 : cap ≤ maxLen) (hq : ∀ y ∈ l, y.1 < 2 ^ 8 ∧ (Lit.int .i64 y.2.1).wf = true ∧ True ∧ ((Lit.int .i64 y.2.2.2.1).wf = true ∧ (Lit.int .i64 y.2.2.2.2.1).wf = true ∧ (Lit.int .i64 y.2.2.2.2.2.1).wf = true ∧ (Rd w y.2.2.2.2.2.2.1.1 (y.2.2.2.2.2.2.1.2.1.map (Value.int .i64)) ∧ y.2.2.2.2.2.2.1.2.1.length ≤ y.2.2.2.2.2.2.1.2.2 ∧ y.2.2.2.2.2.2.1.2.2 ≤ maxLen ∧ ∀ n ∈ y.2.2.2.2.2.2.1.2.1, (Lit.int .i64 n).wf = true) ∧ (Rd w y.2.2.2.2.2.2.2.1 (y.2.2.2.2.2.2.2.2.1.map bv) ∧ y.2.2.2.2.2.2.2.2.1.length ≤ y.2.2.2.2.2.2.2.2.2 ∧ y.2.2.2.2.2.2.2.2.2 ≤ maxLen))) :
    Does Try.prog 6 #[.slice a l.length cap] w fun v w' => v = .bool true ∧ Mod [] w w' := by
  have e : l.length = (l.map tup).length := by simp
  rw [e]
  refine actionClones_ok cap (by rw [List.flatMap_map]; exact hr) (by rw [← e]; exact Nat.le_trans h1 h2) (fun s hs => ?_)
  obtain ⟨y, hy, rfl⟩ := List.mem_map.1 hs
  obtain ⟨_, _, _, _, _, _, h5, h6⟩ := hq y hy
  exact ⟨h5.1, h6.1⟩

def cells36 (y : Int × Int × Int × (Option Addr × List Int × Nat) × (Option Addr × List UInt8 × Nat)) : List Value := [.int .i64 y.1, .int .i64 y.2.1, .int .i64 y.2.2.1, .slice y.2.2.2.1.1 y.2.2.2.1.2.1.length y.2.2.2.1.2.2, .slice y.2.2.2.2.1 y.2.2.2.2.2.1.length y.2.2.2.2.2.2]
def good36 (W : World) (y : Int × Int × Int × (Option Addr × List Int × Nat) × (Option Addr × List UInt8 × Nat)) : Prop := (Lit.int .i64 y.1).wf = true ∧ (Lit.int .i64 y.2.1).wf = true ∧ (Lit.int .i64 y.2.2.1).wf = true ∧ (Rd W y.2.2.2.1.1 (y.2.2.2.1.2.1.map (Value.int .i64)) ∧ y.2.2.2.1.2.1.length ≤ y.2.2.2.1.2.2 ∧ y.2.2.2.1.2.2 ≤ maxLen ∧ ∀ n ∈ y.2.2.2.1.2.1, (Lit.int .i64 n).wf = true) ∧ (Rd W y.2.2.2.2.1 (y.2.2.2.2.2.1.map bv) ∧ y.2.2.2.2.2.1.length ≤ y.2.2.2.2.2.2 ∧ y.2.2.2.2.2.2 ≤ maxLen)
theorem el36 {W : World} {H : Type} {enc : TypeId × Value → H} (n : Nat) (cs : List Value) (x : DataW H × List MemPlace) (hl : cs.length = 5) (h : DataW.trod enc Try.prog W 0 (fun _ => true) true n 36 cs = some x) : ∃ y : Int × Int × Int × (Option Addr × List Int × Nat) × (Option Addr × List UInt8 × Nat), cs = cells36 y ∧ good36 W y := by
  obtain ⟨xs, m, hk, hxy, _, hxl, hf⟩ := DataW.trod_struct Try.underlying36 h
  match xs, hxl, cs, hl with
  | [y0, y1, y2, y3, y4], _, [v0, v1, v2, v3, v4], _ =>
    have c3 : Try.prog.cellsOf 3 = 1 := by kernel_rfl
    have c27 : Try.prog.cellsOf 27 = 1 := by kernel_rfl
    have c34 : Try.prog.cellsOf 34 = 1 := by kernel_rfl
    have g0 := hf 0 _ rfl
    simp [c3] at g0
    obtain ⟨z0, e0, _, w0⟩ := DataW.trod_int Try.underlying3 g0
    simp at e0
    have g1 := hf 1 _ rfl
    simp [c3] at g1
    obtain ⟨z1, e1, _, w1⟩ := DataW.trod_int Try.underlying3 g1
    simp at e1
    have g2 := hf 2 _ rfl
    simp [c3] at g2
    obtain ⟨z2, e2, _, w2⟩ := DataW.trod_int Try.underlying3 g2
    simp at e2
    have g3 := hf 3 _ rfl
    simp [c27] at g3
    obtain ⟨a3, l3, q3, e3, r3⟩ := open_ints1 Try.underlying27 Try.underlying3 (by kernel_rfl) g3
    simp at e3
    have g4 := hf 4 _ rfl
    simp [c34] at g4
    obtain ⟨a4, l4, q4, e4, r4, u4, x4⟩ := open_bytes1 Try.underlying34 Try.underlying5 (by kernel_rfl) g4
    simp at e4
    exact ⟨(z0, z1, z2, (a3, l3, q3), (a4, l4, q4)), by simp [cells36, e0, e1, e2, e3, e4], ⟨w0, w1, w2, r3, ⟨r4, u4, x4⟩⟩⟩

def cells38 (y : Nat × Int × Bool × (Int × Int × Int × (Option Addr × List Int × Nat) × (Option Addr × List UInt8 × Nat))) : List Value := [.int .u8 (y.1 : Int), .int .i64 y.2.1, .bool y.2.2.1] ++ cells36 y.2.2.2
def good38 (W : World) (y : Nat × Int × Bool × (Int × Int × Int × (Option Addr × List Int × Nat) × (Option Addr × List UInt8 × Nat))) : Prop := y.1 < 2 ^ 8 ∧ (Lit.int .i64 y.2.1).wf = true ∧ True ∧ good36 W y.2.2.2
theorem el38 {W : World} {H : Type} {enc : TypeId × Value → H} (n : Nat) (cs : List Value) (x : DataW H × List MemPlace) (hl : cs.length = 8) (h : DataW.trod enc Try.prog W 0 (fun _ => true) true n 38 cs = some x) : ∃ y : Nat × Int × Bool × (Int × Int × Int × (Option Addr × List Int × Nat) × (Option Addr × List UInt8 × Nat)), cs = cells38 y ∧ good38 W y := by
  obtain ⟨xs, m, hk, hxy, _, hxl, hf⟩ := DataW.trod_struct Try.underlying38 h
  match xs, hxl, cs, hl with
  | [y0, y1, y2, y3], _, [v0, v1, v2, v3, v4, v5, v6, v7], _ =>
    have c3 : Try.prog.cellsOf 3 = 1 := by kernel_rfl
    have c4 : Try.prog.cellsOf 4 = 1 := by kernel_rfl
    have c5 : Try.prog.cellsOf 5 = 1 := by kernel_rfl
    have c36 : Try.prog.cellsOf 36 = 5 := by kernel_rfl
    have g0 := hf 0 _ rfl
    simp [c5] at g0
    obtain ⟨z0, e0, _, w0⟩ := DataW.trod_int Try.underlying5 g0
    obtain ⟨m0, rfl, b0⟩ := nat_of_wf rfl w0
    simp at e0
    have g1 := hf 1 _ rfl
    simp [c3] at g1
    obtain ⟨z1, e1, _, w1⟩ := DataW.trod_int Try.underlying3 g1
    simp at e1
    have g2 := hf 2 _ rfl
    simp [c4] at g2
    obtain ⟨z2, e2, _⟩ := DataW.trod_bool Try.underlying4 g2
    simp at e2
    have g3 := hf 3 _ rfl
    simp [c36] at g3
    obtain ⟨z3, e3, w3⟩ := el36 _ _ _ rfl g3
    exact ⟨(m0, z1, z2, z3), by simp [cells38, e0, e1, e2, ← e3], ⟨b0, w1, trivial, w3⟩⟩

set_option maxRecDepth 100000 in
theorem actionClones_lifted (os : Os) (started : os.Started) (H : Type) (enc : TypeId × Value → H) :
    ReturnsInHanded {} Try.checked os 6 .any (Rows.actionClonesSpec.pre6 enc Try.prog Try.f6 Rows.actionClonesRow.domain false) (Rows.actionClonesSpec.post enc Try.prog Try.f6 false true false false) := by
  refine returnsInHanded_of_change (C := Try.checked) own started (by kernel_rfl) Try.func6
    (ChangeSpec.witness6 (enc := enc) (C := Try.checked) false ⟨#[], #[.slice none 0 0], []⟩ 8 (by kernel_rfl) (by kernel_rfl) (by kernel_rfl) (by kernel_rfl)) ?_
  intro W base args ds gs before hval0 hW hcnd _
  have hval : ∀ (j : Nat) t v, Try.f6.params[j]? = some t → args[j]? = some v → Value.okWide Try.prog W .any base t v := hval0
  have hW' := hW
  obtain ⟨p, q, hA0, hV, rfl, hfz, hnd⟩ := hW
  have hA : DataW.TrodAll enc Try.prog W 0 (fun _ => true) true Try.f6.params.toList args.toList ds p := hA0
  rw [Try.params6] at hA hval
  obtain ⟨v0, vs0, d0, ds0, p0, q0, hargs, rfl, rfl, h0, r0⟩ := trodAll_cons hA
  obtain ⟨rfl, rfl, rfl⟩ := trodAll_nil r0
  obtain rfl : args = #[v0] := by cases args; simp_all
  obtain ⟨rfl, rfl⟩ := trodVars_none hV
  obtain ⟨a0, len0, cap0, rfl⟩ := okWide_slice Try.underlying22 (hval 0 22 v0 rfl rfl)
  have k0 := h0
  have lt0 : ∀ x ∈ p0, x.block < W.heap.size := by obtain ⟨m, hm⟩ := k0; exact DataW.trod_lt m _ _ _ hm
  obtain ⟨l0, rfl, rd0, le0, mx0, qs0⟩ := open_slice_of cells38 (good38 W) Try.underlying22 (by kernel_rfl) (fun n cs x hl h => el38 n cs x hl h) h0
  clear hA0 hval0
  refine Calls.mono (actionClones_walk a0 l0 cap0 W rd0 le0 mx0 (fun y hy => (qs0 y hy).1)) fun e W' he => ?_
  obtain ⟨v, rfl, rfl, hm⟩ := he
  have bel := hm.below
  exact ⟨_, rfl, _, _, _, [], _, [], hW', trodAll_mk1 (shut_bool Try.underlying4 _), (trodAll_cons_mk (Below.trod laidOut (by kernel_rfl) (of_decide_eq_true (by kernel_rfl)) k0 bel lt0) trodAll_mk0), rfl, bel.frame _, fun h => by cases h⟩

theorem actionClones_holds : Rows.ActionClonesSaid :=
  OpenClaim.holds_of_wide 6 Try.f6 rfl rfl rfl rfl rfl rfl rfl ⟨rfl, rfl, rfl, rfl, rfl⟩ rfl rfl rfl rfl rfl (by kernel_rfl) Try.func6 (by kernel_rfl)
    (of_decide_eq_true (by kernel_rfl)) (by unfold Func.isWrapper; rw [if_neg (of_decide_eq_false (by kernel_rfl))]; exact ⟨rfl, rfl⟩)
    (fun os started H enc _ => actionClones_lifted os started H enc)
#print axioms actionClones_holds
end Go.Proofs.Ytkeaamfpcapioaa
