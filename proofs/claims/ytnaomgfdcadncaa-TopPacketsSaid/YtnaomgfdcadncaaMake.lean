/-
  make([]T, n) for a type of one cell.
-/
import Derived.Test.YtnaomgfdcadncaaHeap
namespace Go.Proofs.Ytnaomgfdcadncaa
open Go Go.Sh Go.Proofs
set_option linter.unusedVariables false
theorem made_one (v : Value) (n : Nat) : (madeCells #[v] (n * 1)).toList = List.replicate n v := by
  apply List.ext_getElem
  · simp [madeCells]
  · intro i h1 h2
    have h0 : (0 : Nat) < (#[v] : Array Value).size := by simp
    simp [madeCells, Nat.mod_one]
theorem make_one {P : Program} {t e bytes : Nat} {zv : Value} (ht : P.underlying t = some (.slice e)) (hi : (P.info? e).map (fun i => (i.zero, i.size, i.bytes)) = some (some zv, 1, bytes)) (hz : zv.cells = #[zv]) (w : World) (n : Nat) (hb : bytes * n ≤ 281474976710656) (hm : n ≤ 9223372036854775807) :
    ∃ w', (Instr.makeSlice t (.int .i64 (n : Int)) (.int .i64 (n : Int))).run P w = .ok (.slice (some (base w.heap.size)) n n) w' ∧ Blk w' w.heap.size e (List.replicate n zv) ∧ Mod [] w w' ∧ w'.heap.size = w.heap.size + 1 := by
  cases hx : P.info? e with
  | none => rw [hx] at hi; cases hi
  | some i =>
    rw [hx] at hi
    simp at hi
    obtain ⟨h1, h2, h3⟩ := hi
    have hb' : (i.bytes : Int) * (n : Int) ≤ 281474976710656 := by
      have h : ((i.bytes * n : Nat) : Int) ≤ 281474976710656 := by rw [h3]; omega
      rwa [Int.natCast_mul] at h
    have hr := run_make (P := P) w t e i zv ht hx h1 .i64 .i64 n n (by omega) (Int.le_refl _) hb' (by omega)
    rw [Int.toNat_natCast, h2, hz] at hr
    have hp : w.alloc (.cells (madeCells #[zv] (n * 1)) e) = push w e (List.replicate n zv) := by
      rw [← made_one]
      rfl
    rw [hp] at hr
    exact ⟨_, hr, Blk.new w e _, Mod.push w e _, size_push w e _⟩
end Go.Proofs.Ytnaomgfdcadncaa
