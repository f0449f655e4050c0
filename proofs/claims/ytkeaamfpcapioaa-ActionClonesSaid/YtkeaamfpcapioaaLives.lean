/-
  Chapter 37: the example; small.
-/
import Derived.Test.YtkeaamfpcapioaaTb
namespace Go.Proofs.Ytkeaamfpcapioaa
open Go Go.Sh Go.Proofs
set_option linter.unusedVariables false
set_option linter.unusedSimpArgs false
set_option linter.unusedSectionVars false

/-- A command without lists. -/
def bare (src num svc : Int) : Cc := ⟨src, num, svc, none, [], 0, none, [], 0⟩
theorem bare_fz (w0 w : World) (T : List Nat) (a b c : Int) : Fz w0 w T (bare a b c) := ⟨⟨Rd.nil, Rd.nil, by simp [bare, Cc.say, Cmd.small]⟩, by intro y hy; cases hy⟩
theorem lives_ok (w : World) : Does Try.prog 9 #[] w fun v w' => v = .bool true ∧ Mod [] w w' := by
  apply w9
  unfold F9
  refine (Tb.new w).mono ?_
  rintro _ w1 ⟨rfl, t1⟩
  refine ⟨_, rfl, ?_⟩
  rw [if_neg (by simp)]
  refine New.put rfl fun w2 h2 m2 z2 => ?_
  have hl1 := t1.m.size
  -- the block of the ping is guarded
  have t2 : Tb w w2 w.heap.size [] [w1.heap.size] := t1.re m2 (by simp) (fun y hy => .inr (by simp at hy; subst hy; exact ⟨Nat.le_refl _, h2.lt⟩))
  refine ⟨_, _, _, _, _, _, _, _, _, h2.cells, ?_⟩
  refine (t2.add 7 (bare_fz w w2 _ 1 5 1)).mono ?_
  rintro _ w3 ⟨rfl, k3, c3, T3, hs3, t3, sub3⟩
  have h3 := k3.blk h2 (by simp)
  have e3 : addL [] 7 c3 = [(7, false, c3)] := rfl
  rw [e3] at t3
  refine ⟨_, rfl, (t3.fnd 7).mono ?_⟩
  rintro _ w4 ⟨d4, rfl, _, _, _, m4⟩
  refine ⟨_, _, _, _, _, _, _, _, _, _, rfl, New.put rfl fun w5 h5 m5 z5 => ?_⟩
  have t5 := (t3.mod m4).mod m5
  have h35 := (h3.mod m4 (by simp)).mod m5 (by simp)
  refine (t5.en 7 true).mono ?_
  rintro _ w6 ⟨rfl, t6, k6⟩
  have e6 : enL [(7, false, c3)] 7 true = [(7, true, c3)] := rfl
  rw [e6] at t6
  have h6 := k6.blk h35 (sub3 _ (by simp))
  refine ⟨_, rfl, (t6.fnd 7).mono ?_⟩
  rintro _ w7 ⟨d7, rfl, hs7, hr7, hf7, m7⟩
  have z7 := m7.size
  have l7 := hr7.lt
  refine ⟨_, _, _, _, _, _, _, _, _, _, rfl, New.put rfl fun w8 h8 m8 z8 => ?_⟩
  have h68 := (h6.mod m7 (by simp)).mod m8 (by simp)
  have t8 : Tb w w8 w.heap.size [(7, true, c3)] (w7.heap.size :: (d7.fp ++ T3)) := t6.re (m7.none m8) (fun y hy => by simp [hy]) (fun y hy => by
    rcases List.mem_cons.1 hy with rfl | hy
    · right; exact ⟨z7, h8.lt⟩
    · rcases List.mem_append.1 hy with hy | hy
      · right; exact ⟨hf7 y hy, by have := l7 y hy; omega⟩
      · exact .inl hy)
  refine (t8.del 7).mono ?_
  rintro _ w9 ⟨rfl, t9, k9⟩
  have e9 : delL [(7, true, c3)] 7 = [(7, true, c3)] := rfl
  rw [e9] at t9
  have h69 := k9.blk h68 (by simp [sub3 w1.heap.size (by simp)])
  have h89 := k9.blk h8 (by simp)
  have f9 : Fz w w9 (w7.heap.size :: (d7.fp ++ T3)) d7 := k9.fz ⟨hr7.mod m8 (by simp), fun y hy => .inr (by simp [hy])⟩ (fun y hy => hy)
  refine ⟨_, rfl, New.use fun w10 h10 m10 z10 => ?_⟩
  have t10 : Tb w w10 w.heap.size [(7, true, c3)] (w9.heap.size :: w7.heap.size :: (d7.fp ++ T3)) := t9.re m10 (fun y hy => List.mem_cons_of_mem _ hy) (fun y hy => by
    rcases List.mem_cons.1 hy with rfl | hy
    · right; exact ⟨Nat.le_refl _, h10.lt⟩
    · exact .inl hy)
  have fA : Fz w w10 (w9.heap.size :: w7.heap.size :: (d7.fp ++ T3)) ⟨0, 0, 2, some (base w9.heap.size), [1], 1, none, [], 0⟩ := ⟨⟨Rd.blk h10, Rd.nil, by simp [Cc.say, Cmd.small]⟩, fun y hy => .inr (by simp [Cc.fp, fpv, fp, base] at hy; simp [hy])⟩
  refine (t10.add 7 fA).mono ?_
  rintro _ w11 ⟨rfl, k11, c11, T11, hs11, t11, sub11⟩
  have e11 : addL [(7, true, c3)] 7 c11 = [(7, true, c3)] := rfl
  rw [e11] at t11
  have h611 := k11.blk (h69.mod m10 (by simp)) (by simp [sub3 w1.heap.size (by simp)])
  have h811 := k11.blk (h89.mod m10 (by simp)) (by simp)
  have f11 : Fz w w11 T11 d7 := k11.fz (f9.mod m10 (by simp) (fun y hy => List.mem_cons_of_mem _ hy)) sub11
  refine ⟨_, rfl, ?_⟩
  rw [if_pos (by rfl), if_pos (by rfl), if_pos (by rfl), if_pos (by rfl)]
  refine ⟨_, _, _, _, _, _, _, _, _, h811.cells, _, _, _, _, _, _, _, _, _, h611.cells, ?_⟩
  refine (same_ok (d := bare 1 5 1) f11.rd (bare_fz w w11 [] 1 5 1).rd).mono ?_
  rintro _ w12 ⟨rfl, m12⟩
  have es : d7.say = (bare 1 5 1).say := by rw [hs7]; exact hs3
  refine ⟨_, rfl, ?_⟩
  rw [if_pos (decide_eq_true es), if_pos (by rfl), if_pos (by rfl)]
  have t12 := t11.mod m12
  have h612 := h611.mod m12 (by simp)
  refine ⟨_, _, _, _, _, _, _, _, _, h612.cells, (t12.add (-1) (bare_fz w w12 _ 1 5 1)).mono ?_⟩
  rintro _ w13 ⟨rfl, _, c13, T13, _, t13, _⟩
  have e13 : addL [(7, true, c3)] (-1) c13 = [(7, true, c3)] := rfl
  rw [e13] at t13
  refine ⟨_, rfl, ?_⟩
  rw [if_pos (by rfl)]
  refine (t13.add 8 (bare_fz w w13 _ 0 0 0)).mono ?_
  rintro _ w14 ⟨rfl, _, c14, T14, _, t14, _⟩
  have e14 : addL [(7, true, c3)] 8 c14 = [(7, true, c3), (8, false, c14)] := rfl
  rw [e14] at t14
  refine ⟨_, rfl, ?_⟩
  rw [if_pos (by rfl)]
  refine t14.events.mono ?_
  rintro _ w15 ⟨a, ca, rfl, ra, m15, _⟩
  have t15 := t14.mod m15
  refine ⟨_, _, _, rfl, New.use fun w16 h16 m16 z16 => ?_⟩
  have t16 := t15.mod m16
  refine (ints_ok (l := [7, 8]) (m := [7, 8]) ca 2 (by decide) (ra.mod m16 (by simp)) (Rd.blk h16)).mono ?_
  rintro _ w17 ⟨rfl, m17⟩
  refine ⟨_, rfl, ?_⟩
  rw [if_pos (by rfl)]
  refine ((t16.mod m17).en 9 true).mono ?_
  rintro _ w18 ⟨rfl, t18, _⟩
  exact ⟨_, rfl, by rfl, t18.m⟩
end Go.Proofs.Ytkeaamfpcapioaa
