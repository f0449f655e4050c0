/-
  The laws of chapter 9, as contracts.
-/
import Derived.Test.YthgmcidaphbibaaWalks3
namespace Go.Proofs.Ythgmcidaphbibaa
open Go Go.Sh Go.Proofs
set_option linter.unusedVariables false

/-- A Step's cells. -/
def sv (f : Bool × Int) : List Value := [.bool f.1, .int .i64 f.2]
theorem sv_len (L : List (Bool × Int)) : ∀ x ∈ L, (sv x).length = 2 := fun _ _ => rfl

/-- A new block for the reference's history, filled by value. -/
theorem put_ref {w : World} {s : Hs} {a : Option Addr} {c : Nat} (hc : s.l.length ≤ c) (hr : Rd w a (s.l.map iv)) {k : World → Prop}
    (hk : ∀ w', Rh w' w.heap.size (w.heap.size :: fpv a (s.l.map iv)) s → Mod [] w w' → k w') :
    PutAll (push w 27 [.int .i64 0, .int .i64 0, .slice none 0 0]) (base w.heap.size) [.int .i64 (s.most : Int), .int .i64 s.lost, .slice a s.l.length c] k := by
  have hB := Blk.new w 27 [.int .i64 0, .int .i64 0, .slice none 0 0]
  unfold PutAll
  refine ⟨⟨hB.can (i := 0) (by simp), hB.can (i := 1) (by simp), hB.can (i := 2) (by simp), trivial⟩, ?_⟩
  have hlt := hr.lt
  have hm : Mod [w.heap.size] w (setAll (push w 27 [.int .i64 0, .int .i64 0, .slice none 0 0]) (base w.heap.size) 0 [.int .i64 (s.most : Int), .int .i64 s.lost, .slice a s.l.length c]) :=
    (((Mod.push w _ _).same (Mod.setCell _ _ _ (by rw [add_block]; simp [base]))).same (Mod.setCell _ _ _ (by rw [add_block]; simp [base]))).same (Mod.setCell _ _ _ (by rw [add_block]; simp [base]))
  have hm := hm.weaken (S' := []) (fun g hg => .inr (by simp at hg; omega))
  exact hk _ ⟨a, c, rfl, fun hx => by have := hlt _ hx; omega, hc, ((hB.set 0 _).set 1 _).set 2 _, hr.modv hm (by simp)⟩ hm
/-- Reading a reference's history by value. -/
theorem Rh.cells {w : World} {g : Nat} {S : List Nat} {s : Hs} (h : Rh w g S s) : ∃ a c, Cells w (base g) 0 [.int .i64 (s.most : Int), .int .i64 s.lost, .slice a s.l.length c] ∧ s.l.length ≤ c ∧ Rd w a (s.l.map iv) ∧ S = g :: fpv a (s.l.map iv) := by
  obtain ⟨a, c, rfl, hn, hc, hb, hr⟩ := h
  exact ⟨a, c, ⟨hb.cell (i := 0) rfl, hb.cell (i := 1) rfl, hb.cell (i := 2) rfl, trivial⟩, hc, hr, rfl⟩

def adds (s : Hs) (l : List Int) : Hs := l.foldl Hs.add s
theorem adds_snoc (s : Hs) (l : List Int) (x : Int) : adds s (l ++ [x]) = (adds s l).add x := by simp [adds]
theorem adds_good {s : Hs} (h : s.good) : ∀ l, (adds s l).good := by
  intro l
  have : ∀ m : List Int, (adds s m.reverse).good := by
    intro m
    induction m with
    | nil => exact h
    | cons x m ih =>
      rw [List.reverse_cons, adds_snoc]
      exact Hs.add_good ih x
  have := this l.reverse
  rwa [List.reverse_reverse] at this

/-! ### HistoryPlays -/
theorem historyPlays_ok (most : Int) (a : Option Addr) (fs : List (Bool × Int)) (c : Nat) (w : World) (hr : Rd w a (fs.flatMap sv)) :
    Does Try.prog 3 #[.int .i64 most, .slice a fs.length c] w fun v w' => v = .bool true ∧ Mod [] w w' := by
  apply w3
  unfold F3
  refine (new_ok most w).mono ?_
  rintro _ w1 ⟨rfl, h1, m1⟩
  refine ⟨_, rfl, ?_⟩
  refine (refNew_ok most w1).mono ?_
  rintro _ w2 ⟨rfl, m2⟩
  refine ⟨_, _, _, _, _, rfl, ?_⟩
  unfold New
  rw [fresh_base]
  have M2 := m1.none m2
  have hs1 := m1.size
  have hs2 := m2.size
  have h2 := h1.mod m2 (by simp)
  refine put_ref (s := s0 most) (a := none) (c := 0) (Nat.le_refl _) Rd.nil ?_
  intro w3 r3 m3
  have M3 := M2.none m3
  have h3 := h2.mod m3 (by simp)
  have hwlt := h1.lt w.heap.size (by simp)
  unfold F3_j1
  by_cases hf : 600 < fs.length
  · rw [if_pos (by omega), if_pos rfl, if_pos (by simp)]
    refine (lives_ok w3).mono ?_
    rintro _ w' ⟨rfl, hm'⟩
    exact ⟨_, rfl, rfl, M3.none hm'⟩
  rw [if_neg (by omega), if_neg (by simp)]
  refine LoopP.of (fun (x : Int) w' => ∃ (i : Nat) (S T : List Nat) (s : Hs), i ≤ fs.length ∧ x = (i : Int) ∧ Hi w' w.heap.size S s ∧ Rh w' w2.heap.size T s ∧ s.good ∧ Since w S ∧ Since w T ∧ Apart S T ∧ Mod [] w w') (fun x _ => fs.length - x.toNat)
    ⟨0, _, _, s0 most, by omega, rfl, h3, r3, s0_good most, by intro x hx; simp at hx; omega, by intro x hx; simp [s0, fpv] at hx; omega, by intro x hx; simp [s0, fpv] at hx ⊢; omega, M3⟩ ?_
  rintro _ w4 ⟨i, S, T, s, hi, rfl, h4, r4, G, sS, sT, ap, M4⟩
  have agree : ∀ {w5 : World} {T : List Nat} {s : Hs} {S : List Nat}, Hi w5 w.heap.size S s → Rh w5 w2.heap.size T s → s.good → ∃ a c, Cells w5 (base w2.heap.size) 0 [.int .i64 (s.most : Int), .int .i64 s.lost, .slice a s.l.length c] ∧
      Does Try.prog 14 #[.pointer (some (base w.heap.size)), .agg #[.int .i64 (s.most : Int), .int .i64 s.lost, .slice a s.l.length c]] w5 fun v w' => v = .bool true ∧ Mod [] w5 w' := by
    intro w5 T s S h5 r5 G5
    obtain ⟨ra, rc, hc, _, hrd, _⟩ := r5.cells
    exact ⟨ra, rc, hc, agrees_ok h5 G5 hrd⟩
  unfold F3_b2
  by_cases hlt : i < fs.length
  · rw [if_pos (by omega)]
    obtain ⟨p, rfl, hc⟩ := (hr.mod M4 (by simp)).flat (sv_len fs) (by decide) hlt
    have e1 : IntKind.i64.wrap ((i : Int) + 1) = ((i + 1 : Nat) : Int) := by rw [wi64 (by omega)]; omega
    rw [e1]
    refine ⟨p, rfl, by omega, by omega, fs[i].1, by simpa [add_zero] using hc 0 _ rfl, ?_⟩
    by_cases hb : fs[i].1 = true
    · rw [if_pos hb]
      obtain ⟨p1, hp1, hc1⟩ := ((hr.mod M4 (by simp)).drew).flat (sv_len fs) (by decide) hlt
      cases hp1
      have md := Mod.drew (S := []) w4
      refine ⟨by omega, by omega, _, hc1 1 _ rfl, by omega, by omega, _, hc1 1 _ rfl, ?_⟩
      refine (has_ok (h4.mod md (by simp)) G fs[i].2).mono ?_
      rintro _ _ ⟨rfl, rfl⟩
      refine ⟨_, rfl, hc1 1 _ rfl, ?_⟩
      refine (refHas_ok (r4.mod md (by simp)) G fs[i].2).mono ?_
      rintro _ _ ⟨rfl, rfl⟩
      refine ⟨_, rfl, ?_⟩
      rw [if_neg (by simp)]
      exact ⟨_, by omega, ⟨i + 1, S, T, s, by omega, rfl, h4.mod md (by simp), r4.mod md (by simp), G, sS, sT, ap, M4.none md⟩, rfl⟩
    · rw [if_neg hb]
      refine ⟨by omega, by omega, _, hc 1 _ rfl, ?_⟩
      refine (add_ok h4 G fs[i].2).mono ?_
      rintro _ w5 ⟨rfl, S5, h5, m5, f5⟩
      have M5 := M4.since m5 sS
      have s5 := sS.step M4.size f5
      have a5 := ap.step r4.lt f5
      have r5 := r4.mod m5 ap.symm
      obtain ⟨p1, hp1, hc1⟩ := (hr.mod M5 (by simp)).flat (sv_len fs) (by decide) hlt
      cases hp1
      refine ⟨_, _, rfl, by omega, by omega, _, hc1 1 _ rfl, ?_⟩
      refine (refAdd_ok r5 G fs[i].2).mono ?_
      rintro _ w6 ⟨rfl, T6, r6, m6, f6⟩
      have hgT : w2.heap.size ∈ T := by obtain ⟨_, _, rfl, _⟩ := r4; simp
      have sG : Since w [w2.heap.size] := by intro y hy; simp at hy; subst hy; exact sT _ hgT
      have M6 := M5.since m6 sG
      have hgS : ∀ y ∈ S5, y ∉ [w2.heap.size] := fun y hy hy' => by simp at hy'; subst hy'; exact a5 _ hy hgT
      have h6 := h5.mod m6 hgS
      have h5lt := h5.lt
      have a6 : Apart S5 T6 := fun y hy hy' => by
        rcases f6 y hy' with h | h
        · subst h; exact a5 _ hy hgT
        · have := h5lt y hy; omega
      have s6 : Since w T6 := fun y hy => by
        rcases f6 y hy with h | h
        · subst h; exact sT _ hgT
        · have := M5.size; omega
      have G6 := Hs.add_good G fs[i].2
      refine ⟨_, _, rfl, ?_⟩
      rw [if_neg (by simp), if_neg (by simp)]
      obtain ⟨ra, rc, hcells, hag⟩ := agree h6 r6 G6
      refine ⟨_, _, _, _, _, hcells, hag.mono ?_⟩
      rintro _ w7 ⟨rfl, m7⟩
      refine ⟨_, rfl, ?_⟩
      rw [if_neg (by simp)]
      exact ⟨_, by omega, ⟨i + 1, S5, T6, _, by omega, rfl, h6.mod m7 (by simp), r6.mod m7 (by simp), G6, s5, s6, a6, M6.none m7⟩, rfl⟩
  · rw [if_neg (by omega)]
    obtain ⟨ra, rc, hcells, hag⟩ := agree h4 r4 G
    refine ⟨_, _, _, _, _, hcells, hag.mono ?_⟩
    rintro _ w5 ⟨rfl, m5⟩
    refine ⟨_, rfl, ?_⟩
    rw [if_pos rfl]
    refine (lives_ok w5).mono ?_
    rintro _ w' ⟨rfl, hm'⟩
    exact ⟨_, rfl, rfl, (M4.none m5).none hm'⟩
end Go.Proofs.Ythgmcidaphbibaa
