import Derived.Test.YtmgolpbonleekaaHeap
import Derived.WalkKit
import Derived.ProofKit
import Derived.OpenShut
/-
  From an argument's reading to what the walks ask: numbers in range, slices of bytes and of numbers as lists.
-/
namespace Go.Sh
open Go Go.ChangeShapes Go.WideShapes Go.ChangeAt Go.RowKit
set_option linter.unusedVariables false

theorem nat_of_wf {k : IntKind} {n : Int} (hk : k.signed = false) (h : (Lit.int k n).wf = true) : ∃ m : Nat, n = (m : Int) ∧ m < 2 ^ k.bits := by
  simp only [Lit.wf, Bool.and_eq_true, decide_eq_true_eq, IntKind.min, IntKind.max, hk, Bool.false_eq_true, if_false] at h
  refine ⟨n.toNat, by omega, ?_⟩
  have : ((2 ^ k.bits : Nat) : Int) = 2 ^ k.bits := by norm_cast
  omega
theorem i64_of_wf {n : Int} (h : (Lit.int .i64 n).wf = true) : -9223372036854775808 ≤ n ∧ n ≤ 9223372036854775807 := by
  simp [Lit.wf, IntKind.min, IntKind.max, IntKind.signed, IntKind.bits] at h
  exact h

section
variable {P : Program} {W : World} {H : Type} {enc : TypeId × Value → H} {a : Option Addr} {len cap : Nat} {d : DataW H} {p : List MemPlace}

/-- A slice of integers that came in, as a list. -/
theorem open_slice_ints {t e : TypeId} {k : IntKind} (ht : P.underlying t = some (.slice e)) (he : P.underlying e = some (.int k)) (hc : P.cellsOf e = 1)
    (h : DataW.Trod enc P W 0 (fun _ => true) true t (.slice a len cap) d p) : ∃ zs : List Int, zs.length = len ∧ Rd W a (zs.map (Value.int k)) ∧ len ≤ cap ∧ cap ≤ maxLen ∧ ∀ n ∈ zs, (Lit.int k n).wf = true := by
  obtain ⟨fuel, hf⟩ := h
  rcases open_ints ht he hc hf with ⟨hcs, _⟩ | ⟨x, l, c, zs, hcs, _, hl, hm, hz, _, hcell, hwz⟩
  · simp [Value.cells] at hcs
    obtain ⟨rfl, rfl, rfl⟩ := hcs
    exact ⟨[], rfl, .inl rfl, Nat.le_refl _, by simp, by simp⟩
  · simp [Value.cells] at hcs
    obtain ⟨rfl, rfl, rfl⟩ := hcs
    simp only [if_true] at hz
    refine ⟨zs.take len, by simp; omega, .inr ⟨x, rfl, fun i v hv => ?_⟩, hl, hm, fun n hn => hwz n (List.mem_of_mem_take hn)⟩
    rw [List.getElem?_map, List.getElem?_take] at hv
    split at hv
    · rename_i hi
      have hi' : i < zs.length := by omega
      rw [hcell i hi', ← hv]
      simp [List.getD, List.getElem?_eq_getElem hi']
    · cases hv

/-- A slice of bytes that came in. -/
theorem open_bytes {t e : TypeId} (ht : P.underlying t = some (.slice e)) (he : P.underlying e = some (.int .u8)) (hc : P.cellsOf e = 1)
    (h : DataW.Trod enc P W 0 (fun _ => true) true t (.slice a len cap) d p) : ∃ l : List UInt8, len = l.length ∧ Rd W a (l.map bv) ∧ len ≤ cap ∧ cap ≤ maxLen := by
  obtain ⟨zs, hl, hr, h1, h2, hw⟩ := open_slice_ints ht he hc h
  refine ⟨zs.map fun z => UInt8.ofNat z.toNat, by simp [hl], ?_, h1, h2⟩
  have : (zs.map fun z => UInt8.ofNat z.toNat).map bv = zs.map (Value.int .u8) := by
    rw [List.map_map]
    apply List.map_congr_left
    intro z hz
    obtain ⟨m, rfl, hm⟩ := nat_of_wf (k := .u8) rfl (hw z hz)
    have : m < 256 := hm
    simp [bv, Nat.mod_eq_of_lt this]
  rw [this]
  exact hr
end
end Go.Sh
