/-
  slices.Insert of one element, for slices of hk.entry.
-/
import Derived.Test.YtcgkmmiokmbjdaaForms
import Derived.Test.YtcgkmmiokmbjdaaHeap
import Derived.Lib.Overlaps
namespace Go.Proofs.Ytcgkmmiokmbjdaa
open Go Go.Sh Go.Proofs
set_option linter.unusedVariables false
set_option linter.unusedSimpArgs false

theorem elemhkentry : Elem Try.prog 66 5 56 := Elem.of (v := (.agg #[.int .i64 0, .int .i64 0, .bool false, .slice none 0 0, .int .i64 0])) (by kernel_rfl) rfl (by decide)
theorem overlaps_hkentry {w : World} {gv g tv te o lb cb : Nat} {xs L : List Value} (hv : Blk w gv tv xs) (hb : Blk w g te L) (hne : gv ≠ g) (hL : L.length ≠ 0) :
    (callFunc 39 #[.slice (some (base gv)) 1 1, .slice (some ⟨g, o, none⟩) lb cb]).run Try.prog w = .ok (.value (.bool false)) w := by
  have hs : ∀ {g t : Nat} {vs : List Value}, Blk w g t vs → w.shape? g = some (t, vs.length) ∧ ∀ k, w.frozen? ⟨g, k, none⟩ = false := by
    intro g t vs h
    unfold Blk at h
    refine ⟨by simp [World.shape?, h], fun k => by simp [World.frozen?, h]⟩
  have hov := Lib.run_overlaps_apart (P := Try.prog) w 45 4 66 Try.underlying45 5 Try.sizeOf66 (base gv) ⟨g, o, none⟩ 1 1 lb cb hne tv te xs.length L.length (hs hv).1 (hs hb).1 hL ((hs hv).2 0) ((hs hv).2 _)
  rw [run_callFunc_extern (e := Extern.SlicesOverlaps.overlaps #[45, 45] #[4]) Try.func39 (by kernel_rfl) (by kernel_rfl) (by kernel_rfl) (by kernel_rfl), hov]
  rfl

theorem insert_hkentry {w : World} {a : Option Addr} {n c i gv tv : Nat} {vs xs : List Value} (ho : Win w 66 5 a n c vs) (h1 : ∀ u ∈ vs, one u = true) (hi : i ≤ n) (hn : n < 1000000) (hv : Blk w gv tv xs) (hgv : gv ∉ fp a) (hxl : xs.length = 5) (hx1 : ∀ u ∈ xs, one u = true) :
    Does Try.prog 24 #[.slice a n c, .int .i64 (i : Int), .slice (some (base gv)) 1 1] w fun v w' => ∃ a' c', v = .slice a' (n + 1) c' ∧ Win w' 66 5 a' (n + 1) c' (vs.take (i * 5) ++ xs ++ vs.drop (i * 5)) ∧ Mod (fp a) w w' ∧ ∀ x ∈ fp a', x ∈ fp a ∨ w.heap.size ≤ x := by
  apply w24
  unfold F24
  have hle := ho.2.1
  have ew : IntKind.i64.wrap ((n : Int) + ((1 : Nat) : Int)) = ((n + 1 : Nat) : Int) := by rw [wi64 (by omega)]; omega
  have ew2 : IntKind.i64.wrap (((n + 1 : Nat) : Int) - (i : Int)) = ((n + 1 - i : Nat) : Int) := by rw [wi64 (by omega)]; omega
  have ew3 : IntKind.i64.wrap ((i : Int) + ((1 : Nat) : Int)) = ((i + 1 : Nat) : Int) := by rw [wi64 (by omega)]; omega
  rw [ew, ew2, ew3]
  simp only [Int.toNat_natCast]
  refine ⟨by omega, by omega, ?_⟩
  rw [if_neg (by simp)]
  refine iteI (fun hin => ?_) (fun hin => ?_)
  · have hin : i = n := by omega
    subst hin
    obtain ⟨a', c', w', run, o', m', f'⟩ := win_append (d := 1) Try.underlying45 elemhkentry 45 ho (Rd.blk hv) (m := 1) (by omega) hx1 (by omega) (by omega)
    refine ⟨_, _, _, w', run, a', c', rfl, ?_, m', f'⟩
    rw [List.take_of_length_le (by rw [ho.1]; exact Nat.le_refl _), List.drop_of_length_le (by rw [ho.1]; exact Nat.le_refl _), List.append_nil]
    exact o'
  have hin : i < n := by omega
  refine iteI (fun hc => ?_) (fun hc => ?_)
  · refine ⟨by omega, by omega, ?_⟩
    obtain ⟨a', c', w1, run1, w2, run2, w3, run3, o3, m3, f3⟩ := win_insert_grow (ty := 45) (tyc := 3) (ti := 3) (zv := (.agg #[.int .i64 0, .int .i64 0, .bool false, .slice none 0 0, .int .i64 0])) Try.underlying45 Try.underlying3 elemhkentry (by kernel_rfl) (by simp [Value.cells, one]) rfl (by omega) ho h1 hin (by omega) hn hv hxl hx1
    refine ⟨_, _, _, w1, run1, by omega, by omega, _, w2, run2, by omega, by omega, by omega, by omega, _, w3, run3, a', c', rfl, o3, m3.weaken (by simp), fun x hx => .inr (f3 x hx)⟩
  · refine ⟨by omega, by omega, by omega, by omega, ?_⟩
    have hg : ∃ g pre r post, a = some ⟨g, List.length pre, none⟩ ∧ Blk w g 66 (pre ++ (vs ++ r) ++ post) ∧ (vs ++ r).length = c * 5 := by
      rcases ho.2.2.2 with ⟨_, h0⟩ | h
      · omega
      · exact h
    obtain ⟨g, pre, r, post, rfl, hB, hcl⟩ := hg
    have hne : gv ≠ g := by intro h; subst h; exact hgv (by simp [fp])
    have hov := overlaps_hkentry (o := pre.length + (i + 1) * 5) (lb := n + 1 - (i + 1)) (cb := c - (i + 1)) hv hB hne (by simp only [List.length_append] at hcl ⊢; omega)
    have hca : cutA (some ⟨g, pre.length, none⟩) c (i + 1) 5 = some ⟨g, pre.length + (i + 1) * 5, none⟩ := cut_addr (by omega)
    rw [← hca] at hov
    refine ⟨_, _, hov, ?_⟩
    rw [if_pos (by simp)]
    refine ⟨by omega, by omega, by omega, by omega, ?_⟩
    obtain ⟨w1, run1, w2, run2, o2, m2⟩ := win_insert_room (ty := 3) Try.underlying45 elemhkentry (ho.mod (Mod.drew (S := []) w) (by simp)) h1 hin (by omega) hv.drew hgv hxl hx1
    refine ⟨_, w1, run1, by omega, by omega, _, w2, run2, _, c, rfl, o2, (Mod.drew (S := []) w).weaken (by simp) |>.trans m2 (fun x hx => .inl hx), fun x hx => .inl hx⟩
end Go.Proofs.Ytcgkmmiokmbjdaa
