/-
  The contracts of chapter 9: the history and the reference's.
-/
import Derived.Test.YthgmcidaphbibaaWalks
namespace Go.Proofs.Ythgmcidaphbibaa
open Go Go.Sh Go.Proofs
set_option linter.unusedVariables false

/-- The specification's state. -/
structure Hs where
  most : Nat
  lost : Int
  l : List Int
def Hs.add (s : Hs) (x : Int) : Hs := if s.l.length < s.most then ⟨s.most, s.lost, s.l ++ [x]⟩ else ⟨s.most, IntKind.i64.wrap (s.lost + 1), (s.l ++ [x]).drop 1⟩
def Hs.got (s : Hs) (x : Int) : Int := if s.l.length < s.most then 0 else (s.l ++ [x]).headD 0
def Hs.full (s : Hs) : Bool := !decide (s.l.length < s.most)
def Hs.good (s : Hs) : Prop := s.l.length ≤ s.most ∧ s.most ≤ 256
theorem Hs.add_good {s : Hs} (h : s.good) (x : Int) : (s.add x).good := by
  unfold Hs.add Hs.good at *
  split
  · simp; omega
  · simp; omega
def room (most : Int) : Nat := (min (max most 0) 256).toNat
theorem room_eq (most : Int) : min (max most 0) 256 = (room most : Int) := by unfold room; omega
def s0 (most : Int) : Hs := ⟨room most, 0, []⟩
theorem s0_good (most : Int) : (s0 most).good := by unfold s0 Hs.good room; simp; omega

/-- A history in block g; S: its blocks. -/
def Hi (w : World) (g : Nat) (S : List Nat) (s : Hs) : Prop :=
  ∃ a c, S = g :: fp a ∧ Blk w g 44 [.bool true, .int .i64 (s.most : Int), .slice a s.l.length c, .int .i64 s.lost] ∧ Own w 3 1 a s.l.length c (s.l.map iv)
theorem Hi.mod {w w' : World} {g : Nat} {S T : List Nat} {s : Hs} (h : Hi w g S s) (hm : Mod T w w') (hd : ∀ x ∈ S, x ∉ T) : Hi w' g S s := by
  obtain ⟨a, c, rfl, hb, ho⟩ := h
  exact ⟨a, c, rfl, hb.mod hm (hd g (by simp)), ho.mod hm (fun x hx => hd x (by simp [hx]))⟩
theorem Hi.lt {w : World} {g : Nat} {S : List Nat} {s : Hs} (h : Hi w g S s) : ∀ x ∈ S, x < w.heap.size := by
  obtain ⟨a, c, rfl, hb, ho⟩ := h
  intro x hx
  rcases List.mem_cons.1 hx with rfl | hx
  · exact hb.lt
  · exact ho.lt x hx
/-- The reference's history in block g; it shares its list. -/
def Rh (w : World) (g : Nat) (S : List Nat) (s : Hs) : Prop :=
  ∃ a c, S = g :: fpv a (s.l.map iv) ∧ g ∉ fpv a (s.l.map iv) ∧ s.l.length ≤ c ∧ Blk w g 27 [.int .i64 (s.most : Int), .int .i64 s.lost, .slice a s.l.length c] ∧ Rd w a (s.l.map iv)
theorem Rh.mod {w w' : World} {g : Nat} {S T : List Nat} {s : Hs} (h : Rh w g S s) (hm : Mod T w w') (hd : ∀ x ∈ S, x ∉ T) : Rh w' g S s := by
  obtain ⟨a, c, rfl, hn, hc, hb, ho⟩ := h
  exact ⟨a, c, rfl, hn, hc, hb.mod hm (hd g (by simp)), ho.modv hm (fun x hx => hd x (by simp [hx]))⟩
theorem Rh.lt {w : World} {g : Nat} {S : List Nat} {s : Hs} (h : Rh w g S s) : ∀ x ∈ S, x < w.heap.size := by
  obtain ⟨a, c, rfl, hn, hc, hb, ho⟩ := h
  intro x hx
  rcases List.mem_cons.1 hx with rfl | hx
  · exact hb.lt
  · exact ho.lt x hx

theorem new_ok (most : Int) (w : World) : Does Try.prog 7 #[.int .i64 most] w fun v w' => v = .pointer (some (base w.heap.size)) ∧ Hi w' w.heap.size [w.heap.size] (s0 most) ∧ Mod [] w w' := by
  apply w7
  unfold F7 New
  rw [room_eq]
  exact ⟨rfl, ⟨none, 0, rfl, Blk.new _ _ _, Own.nil⟩, Mod.push _ _ _⟩
theorem refNew_ok (most : Int) (w : World) : Does Try.prog 8 #[.int .i64 most] w fun v w' => v = .agg #[.int .i64 (room most : Int), .int .i64 0, .slice none 0 0] ∧ Mod [] w w' := by
  apply w8
  unfold F8 New
  have hB := Blk.new w 27 [.int .i64 0, .int .i64 0, .slice none 0 0]
  have hm : Mod [w.heap.size] w (push w 27 [.int .i64 0, .int .i64 0, .slice none 0 0]) := Mod.push _ _ _
  have fin : ∀ x : Int, PutAll (push w 27 [.int .i64 0, .int .i64 0, .slice none 0 0]) (fresh w) [.int .i64 x, .int .i64 0, .slice none 0 0] (fun w10 => ∃ (r12 r13 : Int) (r_a14 : Option Addr) (r_n15 r_c16 : Nat), Cells w10 (fresh w) 0 [.int .i64 r12, .int .i64 r13, .slice r_a14 r_n15 r_c16] ∧ (Value.agg #[.int .i64 r12, .int .i64 r13, .slice r_a14 r_n15 r_c16] = .agg #[.int .i64 x, .int .i64 0, .slice none 0 0] ∧ Mod [] w w10)) := by
    intro x
    rw [fresh_base]
    unfold PutAll
    have h1 := ((hB.set 0 (.int .i64 x)).set 1 (.int .i64 0)).set 2 (.slice none 0 0)
    refine ⟨⟨hB.can (i := 0) (by simp), hB.can (i := 1) (by simp), hB.can (i := 2) (by simp), trivial⟩, x, 0, none, 0, 0, ?_, rfl, ?_⟩
    · exact ⟨h1.cell (i := 0) rfl, h1.cell (i := 1) rfl, h1.cell (i := 2) rfl, trivial⟩
    · exact (((hm.same (Mod.setCell _ ((base w.heap.size).add 0) (.int .i64 x) (by rw [add_block]; simp [base]))).same (Mod.setCell _ ((base w.heap.size).add 1) (.int .i64 0) (by rw [add_block]; simp [base]))).same (Mod.setCell _ ((base w.heap.size).add 2) (.slice none 0 0) (by rw [add_block]; simp [base]))).weaken (fun g hg => .inr (by simp at hg; omega))
  unfold F8_j1
  dsimp only
  have hroom := room_eq most
  by_cases h0 : most < 0
  · rw [if_pos h0, if_neg (by decide)]
    have : (room most : Int) = 0 := by omega
    rw [this]
    exact fin 0
  · rw [if_neg h0]
    by_cases h2 : 256 < most
    · rw [if_pos h2]
      have : (room most : Int) = 256 := by omega
      rw [this]
      exact fin 256
    · rw [if_neg h2]
      have : (room most : Int) = most := by omega
      rw [this]
      exact fin most

theorem ok_nil (w : World) : Does Try.prog 20 #[.pointer none] w fun v w' => v = .bool false ∧ w = w' := by
  apply w20
  unfold F20
  rw [if_neg (by simp)]
  exact ⟨rfl, rfl⟩
theorem ok_zero {w : World} {g : Nat} {vs : List Value} (hb : Blk w g 44 (.bool false :: vs)) : Does Try.prog 20 #[.pointer (some (base g))] w fun v w' => v = .bool false ∧ w = w' := by
  apply w20
  unfold F20
  rw [if_pos (by simp)]
  exact ⟨_, rfl, false, hb.cell0, rfl, rfl⟩
section
variable {w : World} {g : Nat} {S : List Nat} {s : Hs} (h : Hi w g S s) (hg : s.good)
include h
theorem ok_ok : Does Try.prog 20 #[.pointer (some (base g))] w fun v w' => v = .bool true ∧ w = w' := by
  obtain ⟨a, c, rfl, hb, ho⟩ := h
  apply w20
  unfold F20
  rw [if_pos (by simp)]
  exact ⟨_, rfl, true, hb.cell0, rfl, rfl⟩
theorem len_ok : Does Try.prog 19 #[.pointer (some (base g))] w fun v w' => v = .int .i64 (s.l.length : Int) ∧ w = w' := by
  apply w19
  unfold F19
  refine (ok_ok h).mono ?_
  rintro _ _ ⟨rfl, rfl⟩
  obtain ⟨a, c, rfl, hb, ho⟩ := h
  refine ⟨_, rfl, ?_⟩
  rw [if_neg (by simp)]
  exact ⟨_, rfl, _, _, _, hb.cell (i := 2) rfl, rfl, rfl⟩
theorem dropped_ok : Does Try.prog 17 #[.pointer (some (base g))] w fun v w' => v = .int .i64 s.lost ∧ w = w' := by
  apply w17
  unfold F17
  refine (ok_ok h).mono ?_
  rintro _ _ ⟨rfl, rfl⟩
  obtain ⟨a, c, rfl, hb, ho⟩ := h
  refine ⟨_, rfl, ?_⟩
  rw [if_neg (by simp)]
  exact ⟨_, rfl, _, hb.cell (i := 3) rfl, rfl, rfl⟩
include hg
theorem has_ok (x : Int) : Does Try.prog 10 #[.pointer (some (base g)), .int .i64 x] w fun v w' => v = .bool (decide (x ∈ s.l)) ∧ w = w' := by
  apply w10
  unfold F10
  refine (ok_ok h).mono ?_
  rintro _ _ ⟨rfl, rfl⟩
  obtain ⟨a, c, rfl, hb, ho⟩ := h
  refine ⟨_, rfl, ?_⟩
  rw [if_pos rfl]
  refine ⟨_, rfl, _, _, _, hb.cell (i := 2) rfl, ?_⟩
  refine (contains_ok a s.l c w (by have := hg.1; have := hg.2; omega) ho.rd x).mono ?_
  rintro _ _ ⟨rfl, rfl⟩
  exact ⟨_, rfl, rfl, rfl⟩
theorem items_ok : Does Try.prog 16 #[.pointer (some (base g))] w fun v w' => ∃ a' c', v = .slice a' s.l.length c' ∧ Own w' 3 1 a' s.l.length c' (s.l.map iv) ∧ Mod [] w w' ∧ ∀ g ∈ fp a', w.heap.size ≤ g := by
  apply w16
  unfold F16
  refine (ok_ok h).mono ?_
  rintro _ _ ⟨rfl, rfl⟩
  obtain ⟨a, c, rfl, hb, ho⟩ := h
  refine ⟨_, rfl, ?_⟩
  rw [if_neg (by simp)]
  refine ⟨_, rfl, _, _, _, hb.cell (i := 2) rfl, ?_⟩
  refine (clone_ok a s.l c w (by have := hg.1; have := hg.2; omega) ho.rd).mono ?_
  rintro _ w1 ⟨a1, c1, rfl, h1⟩
  exact ⟨_, _, _, rfl, _, _, rfl, h1⟩
theorem clone_hist : Does Try.prog 18 #[.pointer (some (base g))] w fun v w' => ∃ g' S', v = .pointer (some (base g')) ∧ Hi w' g' S' s ∧ Mod [] w w' ∧ ∀ x ∈ S', w.heap.size ≤ x := by
  apply w18
  unfold F18
  refine (ok_ok h).mono ?_
  rintro _ _ ⟨rfl, rfl⟩
  obtain ⟨a, c, rfl, hb, ho⟩ := h
  refine ⟨_, rfl, ?_⟩
  rw [if_neg (by simp)]
  have hB := Blk.new w 44 [.bool false, .int .i64 0, .slice none 0 0, .int .i64 0]
  refine ⟨_, rfl, true, _, _, _, _, _, ⟨hb.cell (i := 0) rfl, hb.cell (i := 1) rfl, hb.cell (i := 2) rfl, hb.cell (i := 3) rfl, trivial⟩, ?_⟩
  unfold New PutAll
  rw [fresh_base]
  refine ⟨⟨hB.can (i := 0) (by simp), hB.can (i := 1) (by simp), hB.can (i := 2) (by simp), hB.can (i := 3) (by simp), trivial⟩, ?_⟩
  have h1 : Blk (setAll (push w 44 [.bool false, .int .i64 0, .slice none 0 0, .int .i64 0]) (base w.heap.size) 0 [.bool true, .int .i64 (s.most : Int), .slice a s.l.length c, .int .i64 s.lost]) w.heap.size 44 [.bool true, .int .i64 (s.most : Int), .slice a s.l.length c, .int .i64 s.lost] :=
    (((hB.set 0 _).set 1 _).set 2 _).set 3 _
  have hm : Mod [w.heap.size] w (setAll (push w 44 [.bool false, .int .i64 0, .slice none 0 0, .int .i64 0]) (base w.heap.size) 0 [.bool true, .int .i64 (s.most : Int), .slice a s.l.length c, .int .i64 s.lost]) :=
    ((((Mod.push w _ _).same (Mod.setCell _ _ _ (by rw [add_block]; simp [base]))).same (Mod.setCell _ _ _ (by rw [add_block]; simp [base]))).same (Mod.setCell _ _ _ (by rw [add_block]; simp [base]))).same (Mod.setCell _ _ _ (by rw [add_block]; simp [base]))
  have hm := hm.weaken (S' := []) (fun g hg => .inr (by simp at hg; omega))
  generalize setAll (push w 44 [.bool false, .int .i64 0, .slice none 0 0, .int .i64 0]) (base w.heap.size) 0 [.bool true, .int .i64 (s.most : Int), .slice a s.l.length c, .int .i64 s.lost] = w1 at *
  refine ⟨_, _, _, (hb.mod hm (by simp)).cell (i := 2) rfl, ?_⟩
  refine (clone_ok a s.l c w1 (by have := hg.1; have := hg.2; omega) (ho.rd.mod hm (by simp))).mono ?_
  rintro _ w2 ⟨a2, c2, rfl, ho2, hm2, hf2⟩
  have h2 := h1.mod hm2 (by simp)
  have hne := ho2.ne h2 (by decide)
  have hm3 : Mod [w.heap.size] w2 (w2.setCell ((base w.heap.size).add 2) (.slice a2 s.l.length c2)) := Mod.setCell _ _ _ (by rw [add_block]; simp [base])
  have hs1 := hm.size
  refine ⟨_, _, _, rfl, h2.can (i := 2) (by simp), w.heap.size, w.heap.size :: fp a2, rfl, ⟨a2, c2, rfl, h2.set 2 _, ho2.mod hm3 (fun x hx hx' => by simp at hx'; subst hx'; exact hne hx)⟩, (hm.none hm2).trans hm3 (fun x hx => .inr (by simp at hx; omega)), ?_⟩
  intro x hx
  rcases List.mem_cons.1 hx with rfl | hx
  · exact Nat.le_refl _
  · have := hf2 x hx; omega
theorem add_ok (x : Int) : Does Try.prog 12 #[.pointer (some (base g)), .int .i64 x] w fun v w' => v = .tuple #[.int .i64 (s.got x), .bool s.full] ∧ ∃ S', Hi w' g S' (s.add x) ∧ Mod S w w' ∧ ∀ y ∈ S', y ∈ S ∨ w.heap.size ≤ y := by
  apply w12
  unfold F12
  refine (ok_ok h).mono ?_
  rintro _ _ ⟨rfl, rfl⟩
  obtain ⟨a, c, rfl, hb, ho⟩ := h
  have hg1 := hg.1
  have hg2 := hg.2
  refine ⟨_, rfl, ?_⟩
  rw [if_neg (by simp)]
  refine ⟨_, rfl, _, _, _, hb.cell (i := 2) rfl, ?_⟩
  unfold New
  have hm1 := Mod.push (S := []) w 3 [.int .i64 x]
  obtain ⟨a2, c2, w2, hrun, ho2, hmod2, hfp2⟩ := append_own (d := 1) Try.underlying25 elem3 25 (ho.mod hm1 (by simp)) (Rd.blk (Blk.new w 3 [.int .i64 x])) (m := 1) rfl (by simp [one]) (by omega) (by omega)
  refine ⟨_, _, _, _, hrun, ?_⟩
  have hm12 : Mod (fp a) w w2 := (hm1.weaken (by simp)).trans hmod2 (fun x hx => .inl hx)
  have hne := ho.ne hb (by decide)
  have hb2 := hb.mod hm12 hne
  have hne2 := ho2.ne hb2 (by decide)
  refine ⟨hb2.can (i := 2) (by simp), ?_⟩
  have hm3 : Mod [g] w2 (w2.setCell ((base g).add 2) (.slice a2 (s.l.length + 1) c2)) := Mod.setCell _ _ _ (by rw [add_block]; simp [base])
  have hb3 := hb2.set 2 (.slice a2 (s.l.length + 1) c2)
  have ho3 : Own (w2.setCell ((base g).add 2) (.slice a2 (s.l.length + 1) c2)) 3 1 a2 (s.l ++ [x]).length c2 ((s.l ++ [x]).map iv) := by
    have := ho2.mod hm3 (fun x hx hx' => by simp at hx'; subst hx'; exact hne2 hx)
    simpa [iv] using this
  have hf2 : ∀ y ∈ fp a2, y ∈ g :: fp a ∨ w.heap.size ≤ y := by
    intro y hy
    rcases hfp2 with h | h
    · left; rw [h] at hy; simp [hy]
    · rw [h] at hy; simp [size_push] at hy; right; omega
  have hm13 : Mod (g :: fp a) w (w2.setCell ((base g).add 2) (.slice a2 (s.l.length + 1) c2)).drew :=
    ((hm12.weaken (fun y hy => .inl (by simp [hy]))).trans hm3 (fun y hy => .inl (by simp at hy; simp [hy]))).none (Mod.drew _)
  have hb3 := hb3.drew
  have ho3 := ho3.drew
  have hsz3 := hm13.size
  simp only [List.set_cons_succ, List.set_cons_zero] at hb3
  dsimp only
  generalize (w2.setCell ((base g).add 2) (.slice a2 (s.l.length + 1) c2)).drew = w3 at *
  refine ⟨_, _, _, hb3.cell (i := 2) rfl, _, hb3.cell (i := 1) rfl, ?_⟩
  by_cases hlt : s.l.length < s.most
  · rw [if_pos (by omega)]
    have e1 : s.got x = 0 := by unfold Hs.got; rw [if_pos hlt]
    have e2 : s.full = false := by unfold Hs.full; rw [decide_eq_true hlt]; rfl
    have e3 : s.add x = ⟨s.most, s.lost, s.l ++ [x]⟩ := by unfold Hs.add; rw [if_pos hlt]
    rw [e1, e2, e3]
    refine ⟨rfl, g :: fp a2, ⟨a2, c2, rfl, by simpa using hb3, ho3⟩, hm13, ?_⟩
    intro y hy
    rcases List.mem_cons.1 hy with rfl | hy
    · left; simp
    · exact hf2 y hy
  · rw [if_neg (by omega)]
    have hlen : (s.l ++ [x]).length = s.l.length + 1 := by simp
    obtain ⟨q, rfl, hc⟩ := rd_at ho3.rd (show 0 < (s.l ++ [x]).length by simp)
    have e1 : s.got x = (s.l ++ [x])[0]'(by simp) := by
      unfold Hs.got
      rw [if_neg hlt]
      cases h : s.l <;> simp
    have e2 : s.full = true := by unfold Hs.full; rw [decide_eq_false hlt]; rfl
    have e3 : s.add x = ⟨s.most, IntKind.i64.wrap (s.lost + 1), (s.l ++ [x]).drop 1⟩ := by unfold Hs.add; rw [if_neg hlt]
    refine ⟨_, _, _, hb3.cell (i := 2) rfl, q, rfl, by omega, by omega, _, hc, _, _, _, hb3.cell (i := 2) rfl, ?_⟩
    have hdel := delete_ok (i := 0) (j := 1) (by omega) ho3 (by decide) (by omega)
    rw [hlen] at hdel
    refine hdel.mono ?_
    rintro _ w4 ⟨rfl, ho4, hm4⟩
    rw [Nat.zero_add, Nat.add_sub_cancel] at ho4
    have hne3 := ho3.ne hb3 (by decide)
    have hb4 := hb3.mod hm4 hne3
    have hne4 := ho4.ne hb4 (by decide)
    refine ⟨_, _, _, rfl, hb4.can (i := 2) (by simp), ?_⟩
    rw [Nat.zero_add, Nat.add_sub_cancel]
    have hm5 : Mod [g] w4 (w4.setCell ((base g).add 2) (.slice (some q) s.l.length c2)) := Mod.setCell _ _ _ (by rw [add_block]; simp [base])
    have hb5 := hb4.set 2 (.slice (some q) s.l.length c2)
    refine ⟨_, hb5.cell (i := 3) rfl, hb5.can (i := 3) (by simp), ?_⟩
    rw [e1, e2, e3]
    have hm6 : Mod [g] (w4.setCell ((base g).add 2) (.slice (some q) s.l.length c2)) ((w4.setCell ((base g).add 2) (.slice (some q) s.l.length c2)).setCell ((base g).add 3) (.int .i64 (IntKind.i64.wrap (s.lost + 1)))) := Mod.setCell _ _ _ (by rw [add_block]; simp [base])
    have hb6 := hb5.set 3 (.int .i64 (IntKind.i64.wrap (s.lost + 1)))
    have ho6 := ho4.mod (hm5.same hm6) (fun x hx hx' => by simp at hx'; subst hx'; exact hne4 hx)
    have hdl : ((s.l ++ [x]).drop 1).length = s.l.length := by simp
    refine ⟨rfl, g :: fp (some q), ⟨some q, c2, rfl, ?_, ?_⟩, (hm13.trans hm4 hf2).trans (hm5.same hm6) (fun y hy => .inl (by simp at hy; simp [hy])), ?_⟩
    · simp only [hdl]; exact hb6
    · simp only [hdl]; simpa using ho6
    · intro y hy
      rcases List.mem_cons.1 hy with rfl | hy
      · left; simp
      · exact hf2 y hy
end
end Go.Proofs.Ythgmcidaphbibaa
