/-
  The laws ModePlays and ModeMany, as contracts.
-/
import Derived.Test.YtfnlhonngacagaaWalks6
namespace Go.Proofs.Ytfnlhonngacagaa
open Go Go.Sh Go.Proofs
set_option linter.unusedVariables false

/-- A manager and the reference's, at one. -/
structure Two (w0 w : World) (g gx : Nat) (S T : List Nat) (s : Ms) : Prop where
  h : Mg w g S s
  r : Rm w gx T s
  G : s.good
  ap : Apart S T
  sS : Since w0 S
  sT : Since w0 T
  m : Mod [] w0 w
theorem Two.mod {w0 w w' : World} {g gx : Nat} {S T : List Nat} {s : Ms} (t : Two w0 w g gx S T s) (hm : Mod [] w w') : Two w0 w' g gx S T s :=
  { t with h := t.h.mod hm (by simp), r := t.r.mod hm (by simp), m := t.m.none hm }
theorem Two.step {w0 w : World} {g gx : Nat} {S T : List Nat} {s : Ms} (t : Two w0 w g gx S T s) (f : Bool × Int × Int) :
    Does Try.prog 11 #[.pointer (some (base g)), .pointer (some (base gx)), .agg #[.bool f.1, .int .i64 f.2.1, .int .i64 f.2.2]] w fun v w' => v = .bool true ∧ ∃ S' T', Two w0 w' g gx S' T' (s.step f) := by
  refine (step_ok t.h t.r t.G t.ap f).mono ?_
  rintro _ w' ⟨rfl, S', T', h', r', a', m', f1, f2⟩
  have hxT : gx ∈ T := by obtain ⟨_, _, e, _⟩ := t.r; rw [e]; simp
  exact ⟨rfl, S', T', h', r', Ms.step_good t.G f, a', t.sS.step t.m.size f1, t.sT.step t.m.size f2, t.m.trans m' (fun x hx => .inr (by
    rcases List.mem_cons.1 hx with rfl | hx
    · exact t.sT _ hxT
    · exact t.sS x hx))⟩
theorem Two.agrees {w0 w : World} {g gx : Nat} {S T : List Nat} {s : Ms} (t : Two w0 w g gx S T s) : ∃ a c, Cells w (base gx) 0 [.int .i64 s.mode, .int .i64 s.time, .slice a s.l.length c] ∧
    Does Try.prog 12 #[.pointer (some (base g)), .agg #[.int .i64 s.mode, .int .i64 s.time, .slice a s.l.length c]] w fun v w' => v = .bool true ∧ Two w0 w' g gx S T s := by
  obtain ⟨ra, rc, hc, _, hrd, _⟩ := t.r.cells
  refine ⟨ra, rc, hc, (agrees_ok t.h t.G hrd).mono ?_⟩
  rintro _ w' ⟨rfl, hm⟩
  exact ⟨rfl, t.mod hm⟩
/-- A new reference's manager. -/
theorem Two.new {w0 w : World} {g : Nat} {S : List Nat} (h : Mg w g S ⟨0, 0, []⟩) (sS : Since w0 S) (m : Mod [] w0 w) :
    Two w0 (push w 28 [.int .i64 0, .int .i64 0, .slice none 0 0]) g w.heap.size S [w.heap.size] ⟨0, 0, []⟩ := by
  have hlt := h.lt
  have hs := m.size
  exact ⟨h.mod (Mod.push (S := []) _ _ _) (by simp), ⟨none, 0, rfl, by simp [fpv], Nat.le_refl _, Blk.new _ _ _, Rd.nil⟩, by simp [Ms.good], fun y hy hy' => by simp at hy'; subst hy'; have := hlt _ hy; omega, sS, fun y hy => by simp at hy; omega, m.none (Mod.push _ _ _)⟩

theorem modePlays_ok (a : Option Addr) (fs : List (Bool × Int × Int)) (c : Nat) (w : World) (hr : Rd w a (fs.flatMap sv)) :
    Does Try.prog 3 #[.slice a fs.length c] w fun v w' => v = .bool true ∧ Mod [] w w' := by
  apply w3
  unfold F3
  refine (new_ok w).mono ?_
  rintro _ w1 ⟨rfl, h1, M1⟩
  have hs1 := M1.size
  refine ⟨_, rfl, ?_⟩
  unfold F3_j1
  by_cases hf : 60 < fs.length
  · rw [if_pos (by omega), if_pos rfl, if_pos (by simp)]
    refine (lives_ok w1).mono ?_
    rintro _ w' ⟨rfl, hm'⟩
    exact ⟨_, rfl, rfl, M1.none hm'⟩
  rw [if_neg (by omega), if_neg (by simp)]
  unfold New
  have t0 := Two.new h1 (by intro x hx; simp at hx; omega) M1
  rw [fresh_base]
  dsimp only
  refine LoopP.of (fun (x : Int) w' => ∃ (i : Nat) (S T : List Nat) (s : Ms), i ≤ fs.length ∧ x = (i : Int) ∧ Two w w' w.heap.size w1.heap.size S T s) (fun x _ => fs.length - x.toNat) ⟨0, _, _, _, by omega, rfl, t0⟩ ?_
  rintro _ w2 ⟨i, S, T, s, hi, rfl, t⟩
  unfold F3_b2
  by_cases hlt : i < fs.length
  · rw [if_pos (by omega)]
    obtain ⟨p, rfl, hc⟩ := (hr.mod t.m (by simp)).flat (sv_len fs) (by decide) hlt
    refine ⟨p, rfl, by omega, by omega, _, _, _, ⟨hc 0 _ rfl, hc 1 _ rfl, hc 2 _ rfl, trivial⟩, ?_⟩
    refine (t.step fs[i]).mono ?_
    rintro _ w3 ⟨rfl, S3, T3, t3⟩
    refine ⟨_, rfl, ?_⟩
    rw [if_neg (by simp)]
    obtain ⟨ra, rc, hcells, hag⟩ := t3.agrees
    refine ⟨_, _, _, _, _, hcells, hag.mono ?_⟩
    rintro _ w4 ⟨rfl, t4⟩
    refine ⟨_, rfl, ?_⟩
    rw [if_neg (by simp), wi64 (by omega)]
    exact ⟨_, by omega, ⟨i + 1, S3, T3, _, by omega, rfl, t4⟩, rfl⟩
  · rw [if_neg (by omega)]
    refine (lives_ok w2).mono ?_
    rintro _ w' ⟨rfl, hm'⟩
    exact ⟨_, rfl, rfl, t.m.none hm'⟩

theorem modeMany_ok (n : Nat) (hn : n < 65536) (w : World) : Does Try.prog 4 #[.int .u16 (n : Int)] w fun v w' => v = .bool true ∧ Mod [] w w' := by
  apply w4
  unfold F4
  refine (new_ok w).mono ?_
  rintro _ w1 ⟨rfl, h1, M1⟩
  have hs1 := M1.size
  refine ⟨_, rfl, ?_⟩
  rw [if_neg (by simp)]
  unfold New
  have t0 := Two.new h1 (by intro x hx; simp at hx; omega) M1
  rw [fresh_base]
  dsimp only
  have en : Int.tmod (IntKind.i64.wrap (n : Int)) 400 = ((n % 400 : Nat) : Int) := by rw [wi64 (by omega), Int.tmod_eq_emod_of_nonneg (by omega)]; rfl
  refine LoopP.of (fun (x : Int) w' => ∃ (i : Nat) (S T : List Nat) (s : Ms), i ≤ n % 400 ∧ x = (i : Int) ∧ Two w w' w.heap.size w1.heap.size S T s) (fun x _ => n % 400 - x.toNat) ⟨0, _, _, _, by omega, rfl, t0⟩ ?_
  rintro _ w2 ⟨i, S, T, s, hi, rfl, t⟩
  unfold F4_b1
  rw [en]
  by_cases hlt : i < n % 400
  · rw [if_pos (by omega)]
    have e1 : IntKind.i64.wrap ((i : Int) + 1) = ((i + 1 : Nat) : Int) := by rw [wi64 (by omega)]; omega
    rw [e1]
    have one : ∀ b : Bool, Does Try.prog 11 #[.pointer (some (base w.heap.size)), .pointer (some (base w1.heap.size)), .agg #[.bool b, .int .i64 (IntKind.i64.wrap (1 + Int.tmod (i : Int) 3)), .int .i64 (i : Int)]] w2 (fun v w17 => ∃ (x18 : Bool), v = .bool x18 ∧ if (!x18) = true then
        (Value.bool false = .bool true ∧ Mod [] w w17)
      else
        ∃ m, m < n % 400 - (i : Int).toNat ∧ ((∃ (j : Nat) (S T : List Nat) (s : Ms), j ≤ n % 400 ∧ ((i + 1 : Nat) : Int) = (j : Int) ∧ Two w w17 w.heap.size w1.heap.size S T s) ∧ n % 400 - ((i + 1 : Nat) : Int).toNat = m)) := by
      intro b
      refine (t.step (b, IntKind.i64.wrap (1 + Int.tmod (i : Int) 3), (i : Int))).mono ?_
      rintro _ w3 ⟨rfl, S3, T3, t3⟩
      refine ⟨_, rfl, ?_⟩
      rw [if_neg (by simp)]
      exact ⟨_, by omega, ⟨i + 1, S3, T3, _, by omega, rfl, t3⟩, rfl⟩
    split
    · exact one true
    · split
      · exact one _
      · exact one false
  · rw [if_neg (by omega)]
    obtain ⟨ra, rc, hcells, hag⟩ := t.agrees
    refine ⟨_, _, _, _, _, hcells, hag.mono ?_⟩
    rintro _ w3 ⟨rfl, t3⟩
    refine ⟨_, rfl, ?_⟩
    rw [if_pos rfl]
    refine (lives_ok w3).mono ?_
    rintro _ w' ⟨rfl, hm'⟩
    exact ⟨_, rfl, rfl, t3.m.none hm'⟩
end Go.Proofs.Ytfnlhonngacagaa
