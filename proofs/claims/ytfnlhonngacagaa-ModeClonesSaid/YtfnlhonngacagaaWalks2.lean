/-
  The contracts of chapter 45: Can, the manager.
-/
import Derived.Test.YtfnlhonngacagaaWalks
namespace Go.Proofs.Ytfnlhonngacagaa
open Go Go.Sh Go.Proofs
set_option linter.unusedVariables false

theorem can_bad (f t : Int) (h : isM f = false ∨ isM t = false) : can f t = false := by
  unfold isM at h
  unfold can
  simp only [decide_eq_false_iff_not] at h
  split
  · exact decide_eq_false (by omega)
  · split
    · exact decide_eq_false (by omega)
    · split
      · exact decide_eq_false (by omega)
      · split
        · exact decide_eq_false (by omega)
        · rfl
theorem can_ok (f t : Int) (w : World) : Does Try.prog 13 #[.int .i64 f, .int .i64 t] w fun v w' => v = .bool (can f t) ∧ Mod [] w w' := by
  apply w13
  unfold F13
  refine (is_ok f w).mono ?_
  rintro _ _ ⟨rfl, rfl⟩
  refine ⟨_, rfl, ?_⟩
  by_cases hf : isM f = true
  · rw [if_pos hf]
    refine (is_ok t w).mono ?_
    rintro _ _ ⟨rfl, rfl⟩
    refine ⟨_, rfl, ?_⟩
    by_cases ht : isM t = true
    · rw [if_pos ht]
      refine (table_ok w).mono ?_
      rintro _ w1 ⟨rfl, hm⟩
      unfold isM at hf ht
      simp only [decide_eq_true_eq] at hf ht
      have hf' : f = 0 ∨ f = 1 ∨ f = 2 ∨ f = 3 ∨ f = 4 := by omega
      have ht' : t = 0 ∨ t = 1 ∨ t = 2 ∨ t = 3 ∨ t = 4 := by omega
      refine ⟨_, _, _, _, _, _, _, _, _, _, _, _, _, _, _, _, _, _, _, _, _, _, _, _, _, rfl, ?_⟩
      rcases hf' with rfl | rfl | rfl | rfl | rfl <;> rcases ht' with rfl | rfl | rfl | rfl | rfl <;>
        exact ⟨_, _, _, _, _, fun w => rfl, _, fun w => rfl, rfl, hm⟩
    · rw [if_neg ht]
      refine ⟨?_, Mod.refl _⟩
      rw [can_bad f t (.inr (by simpa using ht))]
  · rw [if_neg hf]
    refine ⟨?_, Mod.refl _⟩
    rw [can_bad f t (.inl (by simpa using hf))]

/-! ### the manager -/
theorem elem46 : Elem Try.prog 46 3 24 := Elem.of (v := .agg #[.int .i64 0, .int .i64 0, .int .i64 0]) (by kernel_rfl) rfl (by decide)
/-- A change: its time, where from, where to. -/
abbrev Ch := Int × Int × Int
def cv (c : Ch) : List Value := [.int .i64 c.1, .int .i64 c.2.1, .int .i64 c.2.2]
theorem cv_len (L : List Ch) : ∀ x ∈ L, (cv x).length = 3 := fun _ _ => rfl
theorem cv_one (L : List Ch) : ∀ u ∈ L.flatMap cv, one u = true := flat_one cv L (by
  intro x u hu
  simp [cv] at hu
  rcases hu with rfl | rfl | rfl <;> rfl)
/-- The specification's state. -/
structure Ms where
  mode : Int
  time : Int
  l : List Ch
deriving DecidableEq
def Ms.pass (s : Ms) (now : Int) : Ms := if s.time < now ∧ now ≤ 1099511627776 then ⟨s.mode, now, s.l⟩ else s
def Ms.change (s : Ms) (to : Int) : Ms := ⟨to, s.time, if s.l.length < 256 then s.l ++ [(s.time, s.mode, to)] else (s.l ++ [(s.time, s.mode, to)]).drop 1⟩
def Ms.req (s : Ms) (to now : Int) : Int × Ms :=
  if isM to = false then (1, s.pass now) else if can (s.pass now).mode to = false then (11, s.pass now) else (0, (s.pass now).change to)
def Ms.safe (s : Ms) (now : Int) : Ms := if (s.pass now).mode = 1 then s.pass now else (s.pass now).change 1
def Ms.good (s : Ms) : Prop := s.l.length ≤ 256
theorem Ms.pass_good {s : Ms} (h : s.good) (now : Int) : (s.pass now).good := by
  unfold Ms.pass
  split <;> exact h
theorem Ms.change_good {s : Ms} (h : s.good) (to : Int) : (s.change to).good := by
  unfold Ms.change Ms.good at *
  simp only
  split <;> simp <;> omega
theorem Ms.req_good {s : Ms} (h : s.good) (to now : Int) : (s.req to now).2.good := by
  unfold Ms.req
  split
  · exact Ms.pass_good h now
  · split
    · exact Ms.pass_good h now
    · exact Ms.change_good (Ms.pass_good h now) to
theorem Ms.safe_good {s : Ms} (h : s.good) (now : Int) : (s.safe now).good := by
  unfold Ms.safe
  split
  · exact Ms.pass_good h now
  · exact Ms.change_good (Ms.pass_good h now) 1

/-- A manager in block g; S: its blocks. -/
def Mg (w : World) (g : Nat) (S : List Nat) (s : Ms) : Prop :=
  ∃ a c, S = g :: fp a ∧ Blk w g 48 [.bool true, .int .i64 s.time, .int .i64 s.mode, .slice a s.l.length c] ∧ Own w 46 3 a s.l.length c (s.l.flatMap cv)
theorem Mg.mod {w w' : World} {g : Nat} {S T : List Nat} {s : Ms} (h : Mg w g S s) (hm : Mod T w w') (hd : ∀ x ∈ S, x ∉ T) : Mg w' g S s := by
  obtain ⟨a, c, rfl, hb, ho⟩ := h
  exact ⟨a, c, rfl, hb.mod hm (hd g (by simp)), ho.mod hm (fun x hx => hd x (by simp [hx]))⟩
theorem Mg.lt {w : World} {g : Nat} {S : List Nat} {s : Ms} (h : Mg w g S s) : ∀ x ∈ S, x < w.heap.size := by
  obtain ⟨a, c, rfl, hb, ho⟩ := h
  intro x hx
  rcases List.mem_cons.1 hx with rfl | hx
  · exact hb.lt
  · exact ho.lt x hx
theorem new_ok (w : World) : Does Try.prog 9 #[] w fun v w' => v = .pointer (some (base w.heap.size)) ∧ Mg w' w.heap.size [w.heap.size] ⟨0, 0, []⟩ ∧ Mod [] w w' := by
  apply w9
  unfold F9 New
  exact ⟨rfl, ⟨none, 0, rfl, Blk.new _ _ _, Own.nil⟩, Mod.push _ _ _⟩
theorem ok_nil (w : World) : Does Try.prog 24 #[.pointer none] w fun v w' => v = .bool false ∧ w = w' := by
  apply w24
  unfold F24
  rw [if_neg (by simp)]
  exact ⟨rfl, rfl⟩
theorem ok_zero {w : World} {g : Nat} {vs : List Value} (hb : Blk w g 48 (.bool false :: vs)) : Does Try.prog 24 #[.pointer (some (base g))] w fun v w' => v = .bool false ∧ w = w' := by
  apply w24
  unfold F24
  rw [if_pos (by simp)]
  exact ⟨_, rfl, false, hb.cell0, rfl, rfl⟩
theorem clone_list {a : Option Addr} {l : List Ch} (c : Nat) {w : World} (hl : l.length ≤ 1000000) (hr : Rd w a (l.flatMap cv)) : Does Try.prog 27 #[.slice a l.length c] w fun v w' => ∃ a' c', v = .slice a' l.length c' ∧ Own w' 46 3 a' l.length c' (l.flatMap cv) ∧ Mod [] w w' ∧ ∀ g ∈ fp a', w.heap.size ≤ g := by
  apply w27
  unfold F27
  cases a with
  | none =>
    have : l = [] := by
      rcases hr with h | ⟨p, h, _⟩
      · cases l with
        | nil => rfl
        | cons x l => simp [cv] at h
      · cases h
    subst this
    rw [if_pos (show (none : Option Addr).isNone = true from rfl)]
    exact ⟨_, _, rfl, Own.nil, Mod.refl _, by simp [fp]⟩
  | some p =>
    rw [if_neg (by simp)]
    unfold New
    have hm := Mod.push (S := []) w 46 []
    have ho : Own (push w 46 []) 46 3 (some (fresh w)) 0 0 [] := Own.blk (Blk.new w 46 []) rfl (by decide)
    obtain ⟨a', c', w', hrun, hown, hmod, hfp⟩ := append_own (d := c) Try.underlying43 elem46 43 ho (hr.mod hm (by simp)) (m := l.length) (flat_len cv l (cv_len l)) (cv_one l) (by omega) (by omega)
    rw [Nat.zero_add] at hrun hown
    exact ⟨_, _, _, _, hrun, _, _, rfl, by simpa using hown, hm.trans hmod (by simp [fp, fresh]), by rcases hfp with h | h <;> rw [h] <;> simp [fp_fresh, size_push]⟩
theorem delete_list {a : Option Addr} {l : List Ch} {c i j : Nat} {w : World} (hl : l.length ≤ 1000000) (ho : Own w 46 3 a l.length c (l.flatMap cv)) (hij : i < j) (hj : j ≤ l.length) :
    Does Try.prog 30 #[.slice a l.length c, .int .i64 (i : Int), .int .i64 (j : Int)] w fun v w' => v = .slice a (i + (l.length - j)) c ∧ Own w' 46 3 a (i + (l.length - j)) c ((l.take i ++ l.drop j).flatMap cv) ∧ Mod (fp a) w w' := by
  apply w30
  unfold F30
  have hle := ho.le
  refine ⟨by omega, by omega, by omega, by omega, ?_⟩
  rw [if_neg (by omega)]
  obtain ⟨w1, h1, w2, h2, ho2, hm2⟩ := delete_run (ty := 43) Try.underlying43 elem46 Try.zeroValue46 rfl (by simp [Value.cells, one]) ho.drew (cv_one l) hij hj
  rw [Int.toNat_natCast, Int.toNat_natCast]
  refine ⟨by omega, by omega, by omega, by omega, _, _, _, _, h1, by omega, by omega, by omega, ?_⟩
  rw [Int.toNat_natCast, Int.toNat_natCast]
  refine ⟨w2, h2, rfl, ?_, (Mod.drew w).same hm2⟩
  rw [List.flatMap_append, ← flat_take cv l (cv_len l), ← flat_drop cv l (cv_len l)]
  exact ho2

section
variable {w : World} {g : Nat} {S : List Nat} {s : Ms} (h : Mg w g S s) (hg : s.good)
include h
theorem ok_ok : Does Try.prog 24 #[.pointer (some (base g))] w fun v w' => v = .bool true ∧ w = w' := by
  obtain ⟨a, c, rfl, hb, ho⟩ := h
  apply w24
  unfold F24
  rw [if_pos (by simp)]
  exact ⟨_, rfl, true, hb.cell0, rfl, rfl⟩
theorem mode_ok : Does Try.prog 17 #[.pointer (some (base g))] w fun v w' => v = .int .i64 s.mode ∧ w = w' := by
  apply w17
  unfold F17
  refine (ok_ok h).mono ?_
  rintro _ _ ⟨rfl, rfl⟩
  obtain ⟨a, c, rfl, hb, ho⟩ := h
  refine ⟨_, rfl, ?_⟩
  rw [if_neg (by simp)]
  exact ⟨_, rfl, _, hb.cell (i := 2) rfl, rfl, rfl⟩
theorem pass_ok (now : Int) : Does Try.prog 25 #[.pointer (some (base g)), .int .i64 now] w fun v w' => v = .tuple #[] ∧ Mg w' g S (s.pass now) ∧ Mod S w w' := by
  obtain ⟨a, c, rfl, hb, ho⟩ := h
  apply w25
  unfold F25 F25_j1
  refine ⟨_, rfl, _, hb.cell (i := 1) rfl, ?_⟩
  have same : (g :: fp a) = g :: fp a := rfl
  by_cases h1 : s.time < now
  · rw [if_pos h1]
    by_cases h2 : now ≤ 1099511627776
    · rw [if_pos (by simpa using h2)]
      have hm : Mod [g] w (w.setCell ((base g).add 1) (.int .i64 now)) := Mod.setCell _ _ _ (by rw [add_block]; simp [base])
      have e : s.pass now = ⟨s.mode, now, s.l⟩ := by unfold Ms.pass; rw [if_pos ⟨h1, h2⟩]
      rw [e]
      exact ⟨_, rfl, hb.can (i := 1) (by simp), rfl, ⟨a, c, rfl, hb.set 1 _, ho.mod hm (fun x hx hx' => by simp at hx'; subst hx'; exact ho.ne hb (by decide) hx)⟩, hm.weaken (fun x hx => .inl (by simp at hx; simp [hx]))⟩
    · rw [if_neg (by simpa using h2)]
      have e : s.pass now = s := by unfold Ms.pass; rw [if_neg (fun h => h2 h.2)]
      rw [e]
      exact ⟨rfl, ⟨a, c, rfl, hb, ho⟩, Mod.refl _⟩
  · rw [if_neg h1, if_neg (by simp)]
    have e : s.pass now = s := by unfold Ms.pass; rw [if_neg (fun h => h1 h.1)]
    rw [e]
    exact ⟨rfl, ⟨a, c, rfl, hb, ho⟩, Mod.refl _⟩
include hg
theorem changes_ok : Does Try.prog 18 #[.pointer (some (base g))] w fun v w' => ∃ a' c', v = .slice a' s.l.length c' ∧ Own w' 46 3 a' s.l.length c' (s.l.flatMap cv) ∧ Mod [] w w' ∧ ∀ g ∈ fp a', w.heap.size ≤ g := by
  apply w18
  unfold F18
  refine (ok_ok h).mono ?_
  rintro _ _ ⟨rfl, rfl⟩
  obtain ⟨a, c, rfl, hb, ho⟩ := h
  refine ⟨_, rfl, ?_⟩
  rw [if_neg (by simp)]
  unfold Ms.good at hg
  refine ⟨_, rfl, _, _, _, hb.cell (i := 3) rfl, ?_⟩
  refine (clone_list c (by omega) ho.rd).mono ?_
  rintro _ w1 ⟨a1, c1, rfl, h1⟩
  exact ⟨_, _, _, rfl, _, _, rfl, h1⟩
theorem change_ok (to : Int) : Does Try.prog 26 #[.pointer (some (base g)), .int .i64 to] w fun v w' => v = .tuple #[] ∧ ∃ S', Mg w' g S' (s.change to) ∧ Mod S w w' ∧ ∀ y ∈ S', y ∈ S ∨ w.heap.size ≤ y := by
  obtain ⟨a, c, rfl, hb, ho⟩ := h
  unfold Ms.good at hg
  apply w26
  unfold F26
  have hb0 := hb.drew
  have ho0 := ho.drew
  refine ⟨_, rfl, _, _, _, hb0.cell (i := 3) rfl, _, hb0.cell (i := 1) rfl, _, hb0.cell (i := 2) rfl, ?_⟩
  unfold New
  have hm1 := Mod.push (S := []) w.drew 46 [.int .i64 s.time, .int .i64 s.mode, .int .i64 to]
  have hb1 := hb0.mod hm1 (by simp)
  refine ⟨hb1.cell (i := 3) rfl, ?_⟩
  obtain ⟨a2, c2, w2, hrun, ho2, hmod2, hfp2⟩ := append_own (d := 1) Try.underlying43 elem46 43 (ho0.mod hm1 (by simp)) (Rd.blk (Blk.new w.drew 46 [.int .i64 s.time, .int .i64 s.mode, .int .i64 to])) (m := 1) rfl (by simp [one]) (by omega) (by omega)
  refine ⟨_, _, _, _, hrun, ?_⟩
  have hm12 : Mod (fp a) w w2 := (((Mod.drew (S := []) w).none hm1).weaken (by simp)).trans hmod2 (fun x hx => .inl hx)
  have hne := ho.ne hb (by decide)
  have hb2 := hb.mod hm12 hne
  have hne2 := ho2.ne hb2 (by decide)
  refine ⟨hb2.can (i := 3) (by simp), ?_⟩
  have hm3 : Mod [g] w2 (w2.setCell ((base g).add 3) (.slice a2 (s.l.length + 1) c2)) := Mod.setCell _ _ _ (by rw [add_block]; simp [base])
  have hb3 := hb2.set 3 (.slice a2 (s.l.length + 1) c2)
  have hcat : s.l.flatMap cv ++ [.int .i64 s.time, .int .i64 s.mode, .int .i64 to] = (s.l ++ [(s.time, s.mode, to)]).flatMap cv := by rw [List.flatMap_append]; simp [cv]
  have hlen : (s.l ++ [(s.time, s.mode, to)]).length = s.l.length + 1 := by simp
  have ho3 : Own (w2.setCell ((base g).add 3) (.slice a2 (s.l.length + 1) c2)) 46 3 a2 (s.l ++ [(s.time, s.mode, to)]).length c2 ((s.l ++ [(s.time, s.mode, to)]).flatMap cv) := by
    have := ho2.mod hm3 (fun x hx hx' => by simp at hx'; subst hx'; exact hne2 hx)
    rw [hcat] at this
    rw [hlen]
    exact this
  have hf2 : ∀ y ∈ fp a2, y ∈ g :: fp a ∨ w.heap.size ≤ y := by
    intro y hy
    rcases hfp2 with h | h
    · left; rw [h] at hy; simp [hy]
    · rw [h] at hy; simp [size_push] at hy; right; omega
  have hm13 : Mod (g :: fp a) w (w2.setCell ((base g).add 3) (.slice a2 (s.l.length + 1) c2)) :=
    (hm12.weaken (fun y hy => .inl (by simp [hy]))).trans hm3 (fun y hy => .inl (by simp at hy; simp [hy]))
  have hf2' : ∀ y ∈ g :: fp a2, y ∈ g :: fp a ∨ w.heap.size ≤ y := fun y hy => by
    rcases List.mem_cons.1 hy with rfl | hy
    · left; simp
    · exact hf2 y hy
  have hsz3 := hm13.size
  simp only [List.set_cons_succ, List.set_cons_zero] at hb3
  dsimp only
  generalize w2.setCell ((base g).add 3) (.slice a2 (s.l.length + 1) c2) = w3 at *
  refine ⟨_, _, _, hb3.cell (i := 3) rfl, ?_⟩
  unfold F26_j1
  by_cases hlt : s.l.length < 256
  · rw [if_neg (by omega)]
    have e3 : s.change to = ⟨to, s.time, s.l ++ [(s.time, s.mode, to)]⟩ := by unfold Ms.change; rw [if_pos hlt]
    rw [e3]
    have hm4 : Mod [g] w3 (w3.setCell ((base g).add 2) (.int .i64 to)) := Mod.setCell _ _ _ (by rw [add_block]; simp [base])
    refine ⟨hb3.can (i := 2) (by simp), rfl, g :: fp a2, ⟨a2, c2, rfl, ?_, ho3.mod hm4 (fun x hx hx' => by simp at hx'; subst hx'; exact hne2 hx)⟩, hm13.trans hm4 (fun y hy => .inl (by simp at hy; simp [hy])), hf2'⟩
    simp only [hlen]
    exact hb3.set 2 _
  · rw [if_pos (by omega)]
    have e3 : s.change to = ⟨to, s.time, (s.l ++ [(s.time, s.mode, to)]).drop 1⟩ := by unfold Ms.change; rw [if_neg hlt]
    rw [e3]
    refine ⟨_, _, _, hb3.cell (i := 3) rfl, ?_⟩
    have hdel := delete_list (i := 0) (j := 1) (by omega) ho3 (by decide) (by omega)
    rw [hlen] at hdel
    refine hdel.mono ?_
    rintro _ w4 ⟨rfl, ho4, hm4⟩
    rw [Nat.zero_add, Nat.add_sub_cancel] at ho4
    have hne3 := ho3.ne hb3 (by decide)
    have hb4 := hb3.mod hm4 hne3
    have hne4 := ho4.ne hb4 (by decide)
    refine ⟨_, _, _, rfl, hb4.can (i := 3) (by simp), ?_⟩
    rw [Nat.zero_add, Nat.add_sub_cancel]
    have hm5 : Mod [g] w4 (w4.setCell ((base g).add 3) (.slice a2 s.l.length c2)) := Mod.setCell _ _ _ (by rw [add_block]; simp [base])
    have hb5 := hb4.set 3 (.slice a2 s.l.length c2)
    have hm6 : Mod [g] (w4.setCell ((base g).add 3) (.slice a2 s.l.length c2)) ((w4.setCell ((base g).add 3) (.slice a2 s.l.length c2)).setCell ((base g).add 2) (.int .i64 to)) := Mod.setCell _ _ _ (by rw [add_block]; simp [base])
    have hb6 := hb5.set 2 (.int .i64 to)
    have ho6 := ho4.mod (hm5.same hm6) (fun x hx hx' => by simp at hx'; subst hx'; exact hne4 hx)
    have hdl : ((s.l ++ [(s.time, s.mode, to)]).drop 1).length = s.l.length := by simp
    refine ⟨hb5.can (i := 2) (by simp), rfl, g :: fp a2, ⟨a2, c2, rfl, ?_, ?_⟩, (hm13.trans hm4 hf2).trans (hm5.same hm6) (fun y hy => .inl (by simp at hy; simp [hy])), hf2'⟩
    · simp only [hdl]; exact hb6
    · simp only [hdl]; simpa using ho6
theorem request_ok (to now : Int) : Does Try.prog 16 #[.pointer (some (base g)), .int .i64 to, .int .i64 now] w fun v w' => v = .int .i64 (s.req to now).1 ∧ ∃ S', Mg w' g S' (s.req to now).2 ∧ Mod S w w' ∧ ∀ y ∈ S', y ∈ S ∨ w.heap.size ≤ y := by
  apply w16
  unfold F16
  refine (ok_ok h).mono ?_
  rintro _ _ ⟨rfl, rfl⟩
  refine ⟨_, rfl, ?_⟩
  rw [if_neg (by simp)]
  refine (pass_ok h now).mono ?_
  rintro _ w1 ⟨rfl, h1, m1⟩
  have G1 := Ms.pass_good hg now
  refine ⟨rfl, ?_⟩
  refine (is_ok to w1).mono ?_
  rintro _ _ ⟨rfl, rfl⟩
  refine ⟨_, rfl, ?_⟩
  unfold Ms.req
  cases hi : isM to with
  | false =>
    rw [if_pos (by simp), if_pos rfl]
    exact ⟨rfl, S, h1, m1, fun y hy => .inl hy⟩
  | true =>
    rw [if_neg (by simp), if_neg (by simp)]
    obtain ⟨a, c, rfl, hb, ho⟩ := h1
    refine ⟨_, rfl, _, hb.cell (i := 2) rfl, ?_⟩
    refine (can_ok _ to w1).mono ?_
    rintro _ w2 ⟨rfl, m2⟩
    have h2 : Mg w2 g (g :: fp a) (s.pass now) := Mg.mod ⟨a, c, rfl, hb, ho⟩ m2 (by simp)
    have m12 := m1.none m2
    refine ⟨_, rfl, ?_⟩
    cases hc : can (s.pass now).mode to with
    | false =>
      rw [if_pos (by simp), if_pos rfl]
      exact ⟨rfl, _, h2, m12, fun y hy => .inl hy⟩
    | true =>
      rw [if_neg (by simp), if_neg (by simp)]
      refine (change_ok h2 G1 to).mono ?_
      rintro _ w3 ⟨rfl, S3, h3, m3, f3⟩
      have := m12.size
      exact ⟨rfl, rfl, S3, h3, m12.same m3, fun y hy => by rcases f3 y hy with h | h; exact .inl h; right; omega⟩
theorem safe_ok (now : Int) : Does Try.prog 15 #[.pointer (some (base g)), .int .i64 now] w fun v w' => v = .int .i64 0 ∧ ∃ S', Mg w' g S' (s.safe now) ∧ Mod S w w' ∧ ∀ y ∈ S', y ∈ S ∨ w.heap.size ≤ y := by
  apply w15
  unfold F15
  refine (ok_ok h).mono ?_
  rintro _ _ ⟨rfl, rfl⟩
  refine ⟨_, rfl, ?_⟩
  rw [if_neg (by simp)]
  refine (pass_ok h now).mono ?_
  rintro _ w1 ⟨rfl, h1, m1⟩
  have G1 := Ms.pass_good hg now
  refine ⟨rfl, ?_⟩
  have h1' := h1
  obtain ⟨a, c, rfl, hb, ho⟩ := h1
  refine ⟨_, rfl, _, hb.cell (i := 2) rfl, ?_⟩
  unfold Ms.safe
  by_cases hm : (s.pass now).mode = 1
  · rw [if_neg (by simpa using hm), if_pos hm]
    exact ⟨rfl, _, h1', m1, fun y hy => .inl hy⟩
  · rw [if_pos hm, if_neg hm]
    refine (change_ok h1' G1 1).mono ?_
    rintro _ w3 ⟨rfl, S3, h3, m3, f3⟩
    have := m1.size
    exact ⟨rfl, rfl, S3, h3, m1.same m3, fun y hy => by rcases f3 y hy with h | h; exact .inl h; right; omega⟩
end
end Go.Proofs.Ytfnlhonngacagaa
