/-
  The examples of chapter 2, and the laws BitsPuts, BitsSplits, as contracts.
-/
import Derived.Test.YtifhloambieoiaaWalks3
namespace Go.Proofs.Ytifhloambieoiaa
open Go Go.Sh Go.Proofs
set_option linter.unusedVariables false

/-- The bits that a Put appends. -/
def fb (f : Nat × Int) : List Bool := if 0 ≤ f.2 ∧ f.2 ≤ 64 then field f.1 f.2.toNat else []
theorem fb_len (f : Nat × Int) : (fb f).length ≤ 64 := by
  unfold fb
  split
  · rw [field_len]; omega
  · simp
def fbs (fs : List (Nat × Int)) : List Bool := fs.flatMap fb
theorem fbs_snoc (fs : List (Nat × Int)) (f : Nat × Int) : fbs (fs ++ [f]) = fbs fs ++ fb f := by simp [fbs]
theorem fbs_len (fs : List (Nat × Int)) : (fbs fs).length ≤ 64 * fs.length := by
  induction fs using snoc_ind with
  | h0 => simp [fbs]
  | h1 l x ih => rw [fbs_snoc]; have := fb_len x; simp; omega

theorem put_any {w : World} {g : Nat} {S : List Nat} {L : List Bool} (h : Wr w g S L) {n : Nat} (wd : Int) (hn : n < 2 ^ 64) (hL : L.length ≤ 900000) :
    Does Try.prog 11 #[.pointer (some (base g)), .int .u64 (n : Int), .int .i64 wd] w fun v w' =>
      v = .pointer (some (base g)) ∧ ∃ S', Wr w' g S' (L ++ fb (n, wd)) ∧ Mod S w w' ∧ ∀ x ∈ S', x ∈ S ∨ w.heap.size ≤ x := by
  by_cases hw : 0 ≤ wd ∧ wd ≤ 64
  · obtain ⟨k, rfl⟩ : ∃ k : Nat, wd = (k : Int) := ⟨wd.toNat, by omega⟩
    have : fb (n, (k : Int)) = field n k := by unfold fb; rw [if_pos hw]; rfl
    rw [this]
    exact put_ok h hn (by omega) hL
  · have : fb (n, wd) = [] := by unfold fb; rw [if_neg hw]
    refine (put_bad h n wd (by omega)).mono ?_
    rintro _ _ ⟨rfl, rfl⟩
    exact ⟨rfl, S, by rw [this, List.append_nil]; exact h, Mod.refl _, fun x hx => .inl hx⟩
theorem refPut_any {w : World} {g : Nat} {S : List Nat} {L : List Bool} (h : Rw w g S L) {n : Nat} (wd : Int) (hL : L.length ≤ 900000) :
    Does Try.prog 12 #[.pointer (some (base g)), .int .u64 (n : Int), .int .i64 wd] w fun v w' =>
      v = .tuple #[] ∧ ∃ S', Rw w' g S' (L ++ fb (n, wd)) ∧ Mod S w w' ∧ ∀ x ∈ S', x ∈ S ∨ w.heap.size ≤ x := by
  by_cases hw : 0 ≤ wd ∧ wd ≤ 64
  · obtain ⟨k, rfl⟩ : ∃ k : Nat, wd = (k : Int) := ⟨wd.toNat, by omega⟩
    have : fb (n, (k : Int)) = field n k := by unfold fb; rw [if_pos hw]; rfl
    rw [this]
    exact refPut_ok h (by omega) hL
  · have : fb (n, wd) = [] := by unfold fb; rw [if_neg hw]
    refine (refPut_bad _ w n wd (by omega)).mono ?_
    rintro _ _ ⟨rfl, rfl⟩
    exact ⟨rfl, S, by rw [this, List.append_nil]; exact h, Mod.refl _, fun x hx => .inl hx⟩

/-! ### the examples -/
theorem ex_pack : pack ([] ++ field 5 3 ++ field 1 2 ++ field 255 4) = [0xAF, 0x80] := by decide +kernel

theorem lives_ok (w : World) : Does Try.prog 10 #[] w fun v w' => v = .bool true ∧ Mod [] w w' := by
  apply w10
  unfold F10
  refine (newWriter_ok w).mono ?_
  rintro _ w1 ⟨rfl, h1, m1⟩
  refine ⟨_, rfl, ?_⟩
  rw [if_neg (by simp)]
  refine (put_ok h1 (n := 5) (wd := 3) (by decide) (by decide) (by decide)).mono ?_
  rintro _ w2 ⟨rfl, S2, h2, m2, f2⟩
  have g2 : ∀ x ∈ S2, w.heap.size ≤ x := fun x hx => by rcases f2 x hx with h | h; simp at h; omega; have := m1.size; omega
  have M2 : Mod [] w w2 := m1.trans m2 (fun x hx => .inr (by simp at hx; omega))
  refine ⟨_, rfl, _, rfl, _, rfl, rfl, ?_⟩
  refine (put_ok h2 (n := 1) (wd := 2) (by decide) (by decide) (by decide)).mono ?_
  rintro _ w3 ⟨rfl, S3, h3, m3, f3⟩
  have g3 : ∀ x ∈ S3, w.heap.size ≤ x := fun x hx => by rcases f3 x hx with h | h; exact g2 x h; have := M2.size; omega
  have M3 : Mod [] w w3 := M2.trans m3 (fun x hx => .inr (g2 x hx))
  refine ⟨_, rfl, ?_⟩
  refine (put_ok h3 (n := 255) (wd := 4) (by decide) (by decide) (by decide)).mono ?_
  rintro _ w4 ⟨rfl, S4, h4, m4, f4⟩
  have g4 : ∀ x ∈ S4, w.heap.size ≤ x := fun x hx => by rcases f4 x hx with h | h; exact g3 x h; have := M3.size; omega
  have M4 : Mod [] w w4 := M3.trans m4 (fun x hx => .inr (g3 x hx))
  refine ⟨_, rfl, ?_⟩
  refine (put_bad h4 1 65 (by decide)).mono ?_
  rintro _ _ ⟨rfl, rfl⟩
  refine ⟨_, rfl, ?_⟩
  refine (put_bad h4 1 (-1) (by decide)).mono ?_
  rintro _ _ ⟨rfl, rfl⟩
  refine ⟨_, rfl, ?_⟩
  unfold New
  have hr : Rd (push w4 5 [.int .u8 175]) (some (fresh w4)) (([175] : List UInt8).map bv) := Rd.blk (Blk.new w4 5 _)
  refine (newReader_ok _ [175] 1 _ (by decide) hr).mono ?_
  rintro _ w5 ⟨g, T, rfl, hR, fT, m5⟩
  have m5' : Mod [] w4 w5 := (Mod.push w4 5 _).none m5
  have fT' : ∀ x ∈ T, w4.heap.size ≤ x := fun x hx => by have := fT x hx; rw [size_push] at this; omega
  have hW := h4.mod m5' (by simp)
  have hlt := h4.lt
  refine ⟨_, rfl, ?_⟩
  rw [if_neg (by simp)]
  have hgT : g ∈ T := by obtain ⟨_, _, rfl, _⟩ := hR; simp
  have hgW : w4.heap.size ≤ g := fT' g hgT
  refine (get_ok hR (by decide) 3).mono ?_
  rintro _ w6 ⟨rfl, m6, hR6⟩
  refine ⟨_, rfl, ?_⟩
  refine (get_ok hR6 (by decide) 2).mono ?_
  rintro _ w7 ⟨rfl, m7, hR7⟩
  refine ⟨_, rfl, ?_⟩
  refine (left_ok hR7 (by decide)).mono ?_
  rintro _ w8 ⟨rfl, m8⟩
  have hR8 := hR7.mod m8 (by simp)
  refine ⟨_, rfl, ?_⟩
  refine (failed_ok hR8).mono ?_
  rintro _ _ ⟨rfl, rfl⟩
  refine ⟨_, rfl, ?_⟩
  refine (get_ok hR8 (by decide) 4).mono ?_
  rintro _ w9 ⟨rfl, m9, hR9⟩
  refine ⟨_, rfl, ?_⟩
  rw [if_pos (by simp)]
  have m59 : Mod [g] w5 w9 := ((m6.same m7).none m8).same m9
  have hW9 := hW.mod m59 (fun x hx hx' => by simp at hx'; subst hx'; have := hlt x hx; omega)
  have M9 : Mod [] w w9 := (M4.none m5').trans m59 (fun x hx => .inr (by simp at hx; subst hx; have := M4.size; omega))
  refine (len_ok hW9).mono ?_
  rintro _ _ ⟨rfl, rfl⟩
  refine ⟨_, rfl, ?_⟩
  rw [if_pos (by simp [field_len])]
  refine (bytes_ok hW9 (by simp [field_len])).mono ?_
  rintro _ w10 ⟨a10, c10, rfl, ho10, m10, _⟩
  refine ⟨_, _, _, rfl, ?_⟩
  have hr1 : Rd (push w10 5 [.int .u8 175, .int .u8 128]) (some (fresh w10)) (([175, 128] : List UInt8).map bv) := Rd.blk (Blk.new w10 5 _)
  refine (same2_ok c10 2 (ho10.rd.mod (Mod.push (S := []) w10 5 _) (by simp)) hr1).mono ?_
  rintro _ _ ⟨rfl, rfl⟩
  refine ⟨_, rfl, ?_⟩
  rw [if_pos (by rw [ex_pack]; decide), if_pos (by decide +kernel), if_pos (by decide +kernel), if_pos (by decide +kernel), if_pos (by decide +kernel), if_pos (by decide +kernel)]
  have hR10 := (hR9.mod m10 (by simp)).mod (Mod.push (S := []) w10 5 [.int .u8 175, .int .u8 128]) (by simp)
  refine (failed_ok hR10).mono ?_
  rintro _ _ ⟨rfl, rfl⟩
  refine ⟨_, rfl, ?_⟩
  rw [if_pos (by decide +kernel)]
  refine (left_ok hR10 (by decide)).mono ?_
  rintro _ w11 ⟨rfl, m11⟩
  refine ⟨_, rfl, ?_⟩
  rw [if_pos (by decide +kernel)]
  have hR11 := hR10.mod m11 (by simp)
  refine (get_ok hR11 (by decide) 0).mono ?_
  rintro _ w12 ⟨rfl, m12, hR12⟩
  refine ⟨_, rfl, by congr 1, ?_⟩
  exact (((M9.none m10).none (Mod.push _ _ _)).none m11).trans m12 (fun x hx => .inr (by simp at hx; subst hx; have := M4.size; omega))
end Go.Proofs.Ytifhloambieoiaa
