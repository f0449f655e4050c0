/-
  The contracts of chapter 45: agrees, Clone; the reference's manager by value.
-/
import Derived.Test.YtfnlhonngacagaaWalks5
namespace Go.Proofs.Ytfnlhonngacagaa
open Go Go.Sh Go.Proofs
set_option linter.unusedVariables false

theorem agrees_ok {w : World} {g : Nat} {S : List Nat} {s : Ms} (h : Mg w g S s) (hg : s.good) {a : Option Addr} {c : Nat} (hr : Rd w a (s.l.flatMap cv)) :
    Does Try.prog 12 #[.pointer (some (base g)), .agg #[.int .i64 s.mode, .int .i64 s.time, .slice a s.l.length c]] w fun v w' => v = .bool true ∧ Mod [] w w' := by
  apply w12
  unfold F12 New
  have hg' := hg
  unfold Ms.good at hg'
  have m1 := Mod.push (S := []) w 28 [.int .i64 s.mode, .int .i64 s.time, .slice a s.l.length c]
  have hB := Blk.new w 28 [.int .i64 s.mode, .int .i64 s.time, .slice a s.l.length c]
  rw [fresh_base]
  dsimp only
  generalize push w 28 [.int .i64 s.mode, .int .i64 s.time, .slice a s.l.length c] = w1 at *
  have h1 := h.mod m1 (by simp)
  refine (changes_ok h1 hg).mono ?_
  rintro _ w2 ⟨a2, c2, rfl, o2, m2, _⟩
  have md := Mod.drew (S := []) w2
  have hB2 := (hB.mod m2 (by simp)).drew
  have h2 := (h1.mod m2 (by simp)).mod md (by simp)
  refine ⟨_, _, _, rfl, _, hB2.cell0, ?_⟩
  refine (mode_ok h2).mono ?_
  rintro _ _ ⟨rfl, rfl⟩
  refine ⟨_, rfl, hB2.cell0, ?_⟩
  rw [if_neg (by simp)]
  refine ⟨_, _, _, hB2.cell (i := 2) rfl, ?_⟩
  rw [if_neg (by simp)]
  have m12 := (m1.none m2).none md
  have ra := hr.mod m12 (by simp)
  have rb := o2.rd.drew
  refine LoopP.of (fun (x : Int) w' => ∃ k : Nat, k ≤ s.l.length ∧ x = (k : Int) ∧ Mod [] w2.drew w') (fun x _ => s.l.length - x.toNat) ⟨0, by omega, rfl, Mod.refl _⟩ ?_
  rintro _ w3 ⟨k, hk, rfl, m3⟩
  unfold F12_b1
  by_cases hlt : k < s.l.length
  · rw [if_pos (by omega)]
    have e1 : IntKind.i64.wrap ((k : Int) + 1) = ((k + 1 : Nat) : Int) := by rw [wi64 (by omega)]; omega
    obtain ⟨p, rfl, hc⟩ := ((rb.mod m3 (by simp)).drew).flat (cv_len s.l) (by decide) hlt
    obtain ⟨q, rfl, hc'⟩ := ((ra.mod m3 (by simp)).drew).flat (cv_len s.l) (by decide) hlt
    have hB3 := (hB2.mod m3 (by simp)).drew
    refine ⟨p, rfl, by omega, by omega, _, by simpa [add_zero] using hc 0 _ rfl, _, _, _, hB3.cell (i := 2) rfl, q, rfl, by omega, by omega, _, by simpa [add_zero] using hc' 0 _ rfl, ?_⟩
    rw [if_neg (by simp)]
    refine ⟨by omega, by omega, _, hc 1 _ rfl, _, _, _, hB3.cell (i := 2) rfl, q, rfl, by omega, by omega, _, hc' 1 _ rfl, ?_⟩
    rw [if_neg (by simp)]
    refine ⟨by omega, by omega, _, hc 2 _ rfl, _, _, _, hB3.cell (i := 2) rfl, q, rfl, by omega, by omega, _, hc' 2 _ rfl, ?_⟩
    rw [if_neg (by simp), e1]
    exact ⟨_, by omega, ⟨k + 1, by omega, rfl, m3.none (Mod.drew _)⟩, rfl⟩
  · rw [if_neg (by omega)]
    exact ⟨rfl, m12.none m3⟩

theorem clone_mg {w : World} {g : Nat} {S : List Nat} {s : Ms} (h : Mg w g S s) (hg : s.good) : Does Try.prog 19 #[.pointer (some (base g))] w fun v w' => ∃ g' S', v = .pointer (some (base g')) ∧ Mg w' g' S' s ∧ Mod [] w w' ∧ ∀ x ∈ S', w.heap.size ≤ x := by
  apply w19
  unfold F19
  refine (ok_ok h).mono ?_
  rintro _ _ ⟨rfl, rfl⟩
  obtain ⟨a, c, rfl, hb, ho⟩ := h
  unfold Ms.good at hg
  refine ⟨_, rfl, ?_⟩
  rw [if_neg (by simp)]
  have hB := Blk.new w 48 [.bool false, .int .i64 0, .int .i64 0, .slice none 0 0]
  refine ⟨_, rfl, true, _, _, _, _, _, ⟨hb.cell (i := 0) rfl, hb.cell (i := 1) rfl, hb.cell (i := 2) rfl, hb.cell (i := 3) rfl, trivial⟩, ?_⟩
  unfold New PutAll
  rw [fresh_base]
  refine ⟨⟨hB.can (i := 0) (by simp), hB.can (i := 1) (by simp), hB.can (i := 2) (by simp), hB.can (i := 3) (by simp), trivial⟩, ?_⟩
  have h1 : Blk (setAll (push w 48 [.bool false, .int .i64 0, .int .i64 0, .slice none 0 0]) (base w.heap.size) 0 [.bool true, .int .i64 s.time, .int .i64 s.mode, .slice a s.l.length c]) w.heap.size 48 [.bool true, .int .i64 s.time, .int .i64 s.mode, .slice a s.l.length c] :=
    (((hB.set 0 _).set 1 _).set 2 _).set 3 _
  have hm : Mod [w.heap.size] w (setAll (push w 48 [.bool false, .int .i64 0, .int .i64 0, .slice none 0 0]) (base w.heap.size) 0 [.bool true, .int .i64 s.time, .int .i64 s.mode, .slice a s.l.length c]) :=
    ((((Mod.push w _ _).same (Mod.setCell _ _ _ (by rw [add_block]; simp [base]))).same (Mod.setCell _ _ _ (by rw [add_block]; simp [base]))).same (Mod.setCell _ _ _ (by rw [add_block]; simp [base]))).same (Mod.setCell _ _ _ (by rw [add_block]; simp [base]))
  have hm := hm.weaken (S' := []) (fun g hg => .inr (by simp at hg; omega))
  dsimp only
  generalize setAll (push w 48 [.bool false, .int .i64 0, .int .i64 0, .slice none 0 0]) (base w.heap.size) 0 [.bool true, .int .i64 s.time, .int .i64 s.mode, .slice a s.l.length c] = w1 at *
  refine ⟨_, _, _, (hb.mod hm (by simp)).cell (i := 3) rfl, ?_⟩
  refine (clone_list c (by omega) (ho.rd.mod hm (by simp))).mono ?_
  rintro _ w2 ⟨a2, c2, rfl, ho2, hm2, hf2⟩
  have h2 := h1.mod hm2 (by simp)
  have hne := ho2.ne h2 (by decide)
  have hm3 : Mod [w.heap.size] w2 (w2.setCell ((base w.heap.size).add 3) (.slice a2 s.l.length c2)) := Mod.setCell _ _ _ (by rw [add_block]; simp [base])
  have hs1 := hm.size
  refine ⟨_, _, _, rfl, h2.can (i := 3) (by simp), w.heap.size, w.heap.size :: fp a2, rfl, ⟨a2, c2, rfl, h2.set 3 _, ho2.mod hm3 (fun x hx hx' => by simp at hx'; subst hx'; exact hne hx)⟩, (hm.none hm2).trans hm3 (fun x hx => .inr (by simp at hx; omega)), ?_⟩
  intro x hx
  rcases List.mem_cons.1 hx with rfl | hx
  · exact Nat.le_refl _
  · have := hf2 x hx; omega

theorem Rm.cells {w : World} {g : Nat} {S : List Nat} {s : Ms} (h : Rm w g S s) : ∃ a c, Cells w (base g) 0 [.int .i64 s.mode, .int .i64 s.time, .slice a s.l.length c] ∧ s.l.length ≤ c ∧ Rd w a (s.l.flatMap cv) ∧ S = g :: fpv a (s.l.flatMap cv) := by
  obtain ⟨a, c, rfl, hn, hc, hb, hr⟩ := h
  exact ⟨a, c, ⟨hb.cell (i := 0) rfl, hb.cell (i := 1) rfl, hb.cell (i := 2) rfl, trivial⟩, hc, hr, rfl⟩
end Go.Proofs.Ytfnlhonngacagaa
