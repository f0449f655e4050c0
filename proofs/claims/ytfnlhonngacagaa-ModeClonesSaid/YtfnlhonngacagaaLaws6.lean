/-
  The law ModeClones, as a contract: the loops.
-/
import Derived.Test.YtfnlhonngacagaaLaws5
namespace Go.Proofs.Ytfnlhonngacagaa
open Go Go.Sh Go.Proofs
set_option linter.unusedVariables false

theorem put_ref {w : World} {s : Ms} {a : Option Addr} {c : Nat} (hc : s.l.length ≤ c) (hr : Rd w a (s.l.flatMap cv)) {k : World → Prop}
    (hk : ∀ w', Rm w' w.heap.size (w.heap.size :: fpv a (s.l.flatMap cv)) s → Mod [] w w' → k w') :
    PutAll (push w 28 [.int .i64 0, .int .i64 0, .slice none 0 0]) (base w.heap.size) [.int .i64 s.mode, .int .i64 s.time, .slice a s.l.length c] k := by
  have hB := Blk.new w 28 [.int .i64 0, .int .i64 0, .slice none 0 0]
  unfold PutAll
  refine ⟨⟨hB.can (i := 0) (by simp), hB.can (i := 1) (by simp), hB.can (i := 2) (by simp), trivial⟩, ?_⟩
  have hlt := hr.lt
  have hm : Mod [w.heap.size] w (setAll (push w 28 [.int .i64 0, .int .i64 0, .slice none 0 0]) (base w.heap.size) 0 [.int .i64 s.mode, .int .i64 s.time, .slice a s.l.length c]) :=
    (((Mod.push w _ _).same (Mod.setCell _ _ _ (by rw [add_block]; simp [base]))).same (Mod.setCell _ _ _ (by rw [add_block]; simp [base]))).same (Mod.setCell _ _ _ (by rw [add_block]; simp [base]))
  have hm := hm.weaken (S' := []) (fun g hg => .inr (by simp at hg; omega))
  exact hk _ ⟨a, c, rfl, fun hx => by have := hlt _ hx; omega, hc, ((hB.set 0 _).set 1 _).set 2 _, hr.modv hm (by simp)⟩ hm

theorem Four.mod {w0 w w' : World} {g gx gc gy : Nat} {S T C Y : List Nat} {s t : Ms} (I : Four w0 w g gx gc gy S T C Y s t) (hm : Mod [] w w') : Four w0 w' g gx gc gy S T C Y s t :=
  { I with p := I.p.mod hm, q := I.q.mod hm }

theorem clones_b3 {w : World} {a : Option Addr} {fs : List (Bool × Int × Int)} (hr : Rd w a (fs.flatMap sv)) (hf : fs.length ≤ 60) {w1 : World} {g gx gc gy : Nat} {S T C Y : List Nat} {s t : Ms} (I : Four w w1 g gx gc gy S T C Y s t)
    {n : Nat} (hn : n ≤ fs.length) : LoopP (fun (s : Int) w' nx' => F8_b3 fs.length a (some (base g)) (base gx) (some (base gc)) (base gy) s w' (fun v w' => v = .bool true ∧ Mod [] w w') (fun x0 w => nx' x0 w)) (n : Int) w1 := by
  refine LoopP.of (fun (x : Int) w' => ∃ (i : Nat) (S T C Y : List Nat) (s t : Ms), i ≤ fs.length ∧ x = (i : Int) ∧ Four w w' g gx gc gy S T C Y s t) (fun x _ => fs.length - x.toNat) ⟨n, _, _, _, _, _, _, hn, rfl, I⟩ ?_
  clear I
  rintro _ w2 ⟨i, S, T, C, Y, s, t, hi, rfl, I⟩
  unfold F8_b3
  by_cases hlt : i < fs.length
  · rw [if_pos (by omega)]
    have e1 : IntKind.i64.wrap ((i : Int) + 1) = ((i + 1 : Nat) : Int) := by rw [wi64 (by omega)]; omega
    have e2 : Int.tmod (i : Int) 2 = ((i % 2 : Nat) : Int) := by rw [Int.tmod_eq_emod_of_nonneg (by omega)]; rfl
    rw [e1, e2, Int.toNat_natCast]
    obtain ⟨p, rfl, hc⟩ := (hr.mod I.p.m (by simp)).flat (sv_len fs) (by decide) hlt
    by_cases hev : i % 2 = 0
    · rw [if_pos (by omega)]
      refine ⟨p, rfl, by omega, by omega, _, _, _, ⟨hc 0 _ rfl, hc 1 _ rfl, hc 2 _ rfl, trivial⟩, ?_⟩
      refine (I.step fs[i]).mono ?_
      rintro _ w3 ⟨rfl, S3, T3, I3⟩
      refine ⟨_, rfl, ?_⟩
      rw [if_neg (by simp), if_neg (by omega)]
      exact ⟨_, by omega, ⟨i + 1, S3, T3, C, Y, _, _, by omega, rfl, I3⟩, rfl⟩
    · rw [if_neg (by omega), if_pos (by omega)]
      refine ⟨p, rfl, by omega, by omega, _, _, _, ⟨hc 0 _ rfl, hc 1 _ rfl, hc 2 _ rfl, trivial⟩, ?_⟩
      refine (I.swap.step fs[i]).mono ?_
      rintro _ w3 ⟨rfl, C3, Y3, I3⟩
      refine ⟨_, rfl, ?_⟩
      rw [if_neg (by simp)]
      exact ⟨_, by omega, ⟨i + 1, S, T, C3, Y3, _, _, by omega, rfl, I3.swap⟩, rfl⟩
  · rw [if_neg (by omega)]
    obtain ⟨ra, rc, hcells, hag⟩ := I.p.agrees
    have hm3 : Does Try.prog 12 #[.pointer (some (base g)), .agg #[.int .i64 s.mode, .int .i64 s.time, .slice ra s.l.length rc]] w2 fun v w' => v = .bool true ∧ Mod [] w2 w' := by
      obtain ⟨ra', rc', hc', _, hrd, _⟩ := I.p.r.cells
      have e := hcells.2.2.1.symm.trans hc'.2.2.1
      injection e with e
      injection e with e1 _ e2
      subst e1 e2
      exact agrees_ok I.p.h I.p.G hrd
    refine ⟨_, _, _, _, _, hcells, hm3.mono ?_⟩
    rintro _ w3 ⟨rfl, m3⟩
    have I3 := I.mod m3
    refine ⟨_, rfl, ?_⟩
    rw [if_pos rfl]
    obtain ⟨ra, rc, hcells, hag⟩ := I3.q.agrees
    refine ⟨_, _, _, _, _, hcells, hag.mono ?_⟩
    rintro _ w4 ⟨rfl, q4⟩
    refine ⟨_, rfl, ?_⟩
    rw [if_pos rfl]
    refine (lives_ok w4).mono ?_
    rintro _ w' ⟨rfl, hm'⟩
    exact ⟨_, rfl, rfl, q4.m.none hm'⟩

theorem clones_b2 {w : World} {a : Option Addr} {fs : List (Bool × Int × Int)} (hr : Rd w a (fs.flatMap sv)) (hf : fs.length ≤ 60) {w1 : World} {g gx : Nat} {S T : List Nat} {s : Ms} (I : Two w w1 g gx S T s) :
    LoopP (fun (s : Int) w' nx' => F8_b2 fs.length a (some (base g)) (base gx) s w' (fun v w' => v = .bool true ∧ Mod [] w w') (fun x0 w => nx' x0 w)) 0 w1 := by
  refine LoopP.of (fun (x : Int) w' => ∃ (i : Nat) (S T : List Nat) (s : Ms), i ≤ fs.length / 2 ∧ x = (i : Int) ∧ Two w w' g gx S T s) (fun x _ => fs.length / 2 - x.toNat) ⟨0, _, _, _, by omega, rfl, I⟩ ?_
  clear I
  rintro _ w2 ⟨i, S, T, s, hi, rfl, I⟩
  unfold F8_b2
  have en : IntKind.i64.wrap (Int.tdiv (fs.length : Int) 2) = ((fs.length / 2 : Nat) : Int) := by
    rw [Int.tdiv_eq_ediv_of_nonneg (by omega), wi64 (by omega)]; rfl
  rw [en]
  by_cases hlt : i < fs.length / 2
  · rw [if_pos (by omega)]
    have hlt' : i < fs.length := by omega
    have e1 : IntKind.i64.wrap ((i : Int) + 1) = ((i + 1 : Nat) : Int) := by rw [wi64 (by omega)]; omega
    rw [e1, Int.toNat_natCast]
    obtain ⟨p, rfl, hc⟩ := (hr.mod I.m (by simp)).flat (sv_len fs) (by decide) hlt'
    refine ⟨p, rfl, by omega, by omega, _, _, _, ⟨hc 0 _ rfl, hc 1 _ rfl, hc 2 _ rfl, trivial⟩, ?_⟩
    refine (I.step fs[i]).mono ?_
    rintro _ w3 ⟨rfl, S3, T3, I3⟩
    refine ⟨_, rfl, ?_⟩
    rw [if_neg (by simp)]
    exact ⟨_, by omega, ⟨i + 1, S3, T3, _, by omega, rfl, I3⟩, rfl⟩
  · rw [if_neg (by omega)]
    refine (clone_mg I.h I.G).mono ?_
    rintro _ w3 ⟨gc, C, rfl, h3, m3, f3⟩
    have I3 := I.mod m3
    refine ⟨_, rfl, ?_⟩
    obtain ⟨ra, rc, hcells, hcl, hrd, hT⟩ := I3.r.cells
    refine ⟨_, _, _, _, _, hcells, ?_⟩
    unfold New
    rw [fresh_base]
    refine put_ref (s := s) hcl hrd ?_
    intro w4 r4 m4
    rw [if_neg (by simp)]
    have s2 := I.m.size
    have s3 := m3.size
    have xT : gx ∈ T := by rw [hT]; simp
    have Slt := I.h.lt
    have Tlt := I.r.lt
    have Clt := h3.lt
    refine clones_b3 hr hf (n := fs.length / 2) (C := C) (S := S) (T := T) (Y := w3.heap.size :: fpv ra (s.l.flatMap cv)) (s := s) (t := s) ?_ (by omega)
    have sub : ∀ y ∈ fpv ra (s.l.flatMap cv), y ∈ T := fun y hy => by rw [hT]; simp [hy]
    refine ⟨I3.mod m4, ⟨h3.mod m4 (by simp), r4, I.G, ?_, ?_, ?_, I3.m.none m4⟩, ?_, ?_, ?_, ?_, ?_⟩
    · intro y hy hy'
      rcases List.mem_cons.1 hy' with rfl | hy'
      · have := Clt _ hy; omega
      · have := f3 y hy; have := Tlt y (sub y hy'); omega
    · intro y hy; have := f3 y hy; omega
    · intro y hy
      rcases List.mem_cons.1 hy with rfl | hy
      · omega
      · exact I.sT y (sub y hy)
    · intro y hy hy'; have := f3 y hy'; have := Slt y hy; omega
    · intro y hy hy'
      rcases List.mem_cons.1 hy' with rfl | hy'
      · have := Slt _ hy; omega
      · exact I.ap y hy (sub y hy')
    · intro y hy hy'; have := f3 y hy; have := Tlt y hy'; omega
    · intro hy
      rcases List.mem_cons.1 hy with h | hy
      · have := Tlt _ xT; omega
      · obtain ⟨a', c', hT', hn', _⟩ := I.r
        rw [hT] at hT'
        injection hT' with _ hT'
        exact hn' (hT' ▸ hy)
    · intro hy; have := Tlt _ hy; omega

theorem modeClones_ok (a : Option Addr) (fs : List (Bool × Int × Int)) (c : Nat) (w : World) (hr : Rd w a (fs.flatMap sv)) :
    Does Try.prog 8 #[.slice a fs.length c] w fun v w' => v = .bool true ∧ Mod [] w w' := by
  apply w8
  unfold F8 New
  have hB := Blk.new w 48 [.bool false, .int .i64 0, .int .i64 0, .slice none 0 0]
  have m0 := Mod.push (S := []) w 48 [.bool false, .int .i64 0, .int .i64 0, .slice none 0 0]
  rw [fresh_base]
  dsimp only
  generalize push w 48 [.bool false, .int .i64 0, .int .i64 0, .slice none 0 0] = w0 at *
  have z := ok_zero hB
  have n0 := ok_nil w0
  refine (reqN n0 1 1).mono ?_
  rintro _ _ ⟨rfl, rfl⟩
  refine ⟨_, rfl, ?_⟩
  rw [if_neg (by simp)]
  refine (reqN z 1 1).mono ?_
  rintro _ _ ⟨rfl, rfl⟩
  refine ⟨_, rfl, ?_⟩
  rw [if_neg (by simp)]
  refine (safeN n0 1).mono ?_
  rintro _ _ ⟨rfl, rfl⟩
  refine ⟨_, rfl, ?_⟩
  rw [if_neg (by simp)]
  refine (safeN z 1).mono ?_
  rintro _ _ ⟨rfl, rfl⟩
  refine ⟨_, rfl, ?_⟩
  rw [if_neg (by simp)]
  refine (modeN n0).mono ?_
  rintro _ _ ⟨rfl, rfl⟩
  refine ⟨_, rfl, ?_⟩
  refine (modeN z).mono ?_
  rintro _ _ ⟨rfl, rfl⟩
  refine ⟨_, rfl, ?_⟩
  refine (changesN n0).mono ?_
  rintro _ _ ⟨rfl, rfl⟩
  refine ⟨_, _, _, rfl, ?_⟩
  refine (changesN z).mono ?_
  rintro _ _ ⟨rfl, rfl⟩
  refine ⟨_, _, _, rfl, ?_⟩
  rw [if_neg (by decide)]
  refine (cloneN n0).mono ?_
  rintro _ _ ⟨rfl, rfl⟩
  refine ⟨_, rfl, ?_⟩
  rw [if_neg (by simp)]
  refine (cloneN z).mono ?_
  rintro _ _ ⟨rfl, rfl⟩
  refine ⟨_, rfl, ?_⟩
  rw [if_neg (by simp)]
  refine (new_ok w0).mono ?_
  rintro _ w1 ⟨rfl, h1, m1⟩
  have M1 := m0.none m1
  have hs0 := m0.size
  refine ⟨_, rfl, ?_⟩
  unfold F8_j1
  by_cases hf : 60 < fs.length
  · rw [if_pos (by omega), if_pos rfl, if_pos (by simp)]
    refine (lives_ok w1).mono ?_
    rintro _ w' ⟨rfl, hm'⟩
    exact ⟨_, rfl, rfl, M1.none hm'⟩
  rw [if_neg (by omega), if_neg (by simp)]
  unfold New
  rw [fresh_base]
  dsimp only
  exact clones_b2 hr (by omega) (Two.new h1 (by intro x hx; simp at hx; omega) M1)
end Go.Proofs.Ytfnlhonngacagaa
