/-
  The law ActionFull, as a contract.
-/
import Derived.Test.YtkeaamfpcapioaaMem
import Derived.Test.YtkeaamfpcapioaaLives
namespace Go.Proofs.Ytkeaamfpcapioaa
open Go Go.Sh Go.Proofs
set_option linter.unusedVariables false
set_option linter.unusedSimpArgs false
set_option linter.unusedSectionVars false

/-- After i calls: the even events below 2i, all of them off. -/
structure Evn (l : List En) (i : Nat) : Prop where
  len : l.length = i
  mem : ∀ e ∈ l, e.2.1 = false ∧ ∃ j < i, e.1 = ((2 * j : Nat) : Int)
  all : ∀ j < i, ∃ e ∈ l, e.1 = ((2 * j : Nat) : Int)
set_option maxRecDepth 100000 in
theorem actionFull_ok (n : Nat) (hn : n < 256) (w : World) : Does Try.prog 4 #[.int .u8 (n : Int)] w fun v w' => v = .bool true ∧ Mod [] w w' := by
  apply w4
  unfold F4
  refine (Tb.new w).mono ?_
  rintro _ w1 ⟨rfl, t1⟩
  refine ⟨_, rfl, ?_⟩
  rw [if_neg (by simp)]
  refine LoopP.of (fun (x : Int) w' => ∃ (i : Nat) (l : List En) (T : List Nat), i ≤ 256 ∧ x = (i : Int) ∧ Tb w w' w.heap.size l T ∧ Evn l i) (fun x _ => (256 - x).toNat) ⟨0, [], [], by omega, rfl, t1, ⟨rfl, by simp, by omega⟩⟩ ?_
  intro x w2 hJ
  obtain ⟨i, l, T, hi, hx, t2, hE⟩ := hJ
  subst hx
  unfold F4_b1
  refine iteI (fun hlt => ?_) (fun hlt => ?_)
  · have hlt : i < 256 := by omega
    have e1 : IntKind.i64.wrap (2 * (i : Int)) = ((2 * i : Nat) : Int) := by rw [wi64 (by omega)]; omega
    rw [e1]
    have h0 : addE l ((2 * i : Nat) : Int) = 0 := addE_0 (by omega) (by omega) (isE_not t2.srt (fun e he hh => by obtain ⟨_, j, hj, h2⟩ := hE.mem e he; omega)) (by have := hE.len; omega)
    refine (t2.add _ (bare_fz w w2 _ 0 i 1)).mono ?_
    rintro _ w3 ⟨rfl, k3, c3, T3, hs3, t3, sub3⟩
    rw [h0]
    refine ⟨_, rfl, ?_⟩
    rw [if_neg (by simp)]
    have e2 : IntKind.i64.wrap ((i : Int) + 1) = ((i + 1 : Nat) : Int) := by rw [wi64 (by omega)]; omega
    rw [e2]
    refine ⟨_, by omega, ⟨i + 1, _, T3, by omega, rfl, t3, ⟨by rw [addL_len _ h0, hE.len], fun e he => ?_, fun j hj => ?_⟩⟩, rfl⟩
    · rcases (add_iff t2.srt _ h0 e).1 he with h | rfl
      · obtain ⟨h1, j, hj, h2⟩ := hE.mem e h
        exact ⟨h1, j, by omega, h2⟩
      · exact ⟨rfl, i, by omega, rfl⟩
    · by_cases hji : j = i
      · subst hji
        exact ⟨_, (add_iff t2.srt _ h0 _).2 (.inr rfl), rfl⟩
      · obtain ⟨e, he, h⟩ := hE.all j (by omega)
        exact ⟨e, (add_iff t2.srt _ h0 _).2 (.inl he), h⟩
  have hi : i = 256 := by omega
  subst hi
  have eo : IntKind.i64.wrap (IntKind.i64.wrap (2 * (IntKind.i64.wrap (n : Int))) + 1) = ((2 * n + 1 : Nat) : Int) := by rw [wi64 (n := (n : Int)) (by omega), wi64 (n := 2 * (n : Int)) (by omega), wi64 (by omega)]; omega
  have ee : IntKind.i64.wrap (2 * (IntKind.i64.wrap (n : Int))) = ((2 * n : Nat) : Int) := by rw [wi64 (n := (n : Int)) (by omega), wi64 (by omega)]; omega
  rw [eo, ee]
  refine New.put rfl fun w3 h3 m3 z3 => ?_
  have t3 : Tb w w3 w.heap.size l (w2.heap.size :: T) := t2.re m3 (fun y hy => List.mem_cons_of_mem _ hy) (fun y hy => by
    rcases List.mem_cons.1 hy with rfl | hy
    · right; exact ⟨Nat.le_refl _, h3.lt⟩
    · exact .inl hy)
  have hod : isE ((2 * n + 1 : Nat) : Int) l = false := isE_not t3.srt (fun e he hh => by obtain ⟨_, j, hj, h2⟩ := hE.mem e he; omega)
  obtain ⟨ev0, hm0, he0⟩ := hE.all n hn
  have hev : isE ((2 * n : Nat) : Int) l = true := (isE_iff t3.srt _).2 ⟨ev0, hm0, he0⟩
  refine ⟨_, _, _, _, _, _, _, _, _, h3.cells, (t3.add _ (bare_fz w w3 _ 0 1000 1)).mono ?_⟩
  rintro _ w4 ⟨rfl, k4, c4, T4, hs4, t4, sub4⟩
  have a4 : addE l ((2 * n + 1 : Nat) : Int) = 7 := addE_7 (by omega) (by omega) hod hE.len
  have l4 : addL l ((2 * n + 1 : Nat) : Int) c4 = l := by unfold addL; rw [a4]; rfl
  rw [l4] at t4
  rw [a4]
  have h4 := k4.blk h3 (by simp)
  refine ⟨_, rfl, ?_⟩
  rw [if_neg (by simp)]
  refine ⟨_, _, _, _, _, _, _, _, _, h4.cells, (t4.add _ (bare_fz w w4 _ 0 1000 1)).mono ?_⟩
  rintro _ w5 ⟨rfl, k5, c5, T5, hs5, t5, sub5⟩
  have a5 : addE l ((2 * n : Nat) : Int) = 9 := addE_9 (by omega) (by omega) hev
  have l5 : addL l ((2 * n : Nat) : Int) c5 = l := by unfold addL; rw [a5]; rfl
  rw [l5] at t5
  rw [a5]
  have h5 := k5.blk h4 (sub4 _ (by simp))
  refine ⟨_, rfl, ?_⟩
  rw [if_neg (by simp)]
  refine (t5.del _).mono ?_
  rintro _ w6 ⟨rfl, t6, k6⟩
  have h6 := k6.blk h5 (sub5 _ (sub4 _ (by simp)))
  have d6 : delE l ((2 * n : Nat) : Int) = 0 := by rw [← he0]; exact delE_off t5.srt hm0 (hE.mem ev0 hm0).1
  rw [d6]
  refine ⟨_, rfl, ?_⟩
  rw [if_neg (by simp)]
  have di := del_iff t5.srt d6
  have l6 : (delL l ((2 * n : Nat) : Int)).length = 255 := by rw [delL_len d6, hE.len]
  have s6 := t6.srt
  refine ⟨_, _, _, _, _, _, _, _, _, h6.cells, (t6.add _ (bare_fz w w6 _ 0 1000 1)).mono ?_⟩
  rintro _ w7 ⟨rfl, k7, c7, T7, hs7, t7, sub7⟩
  have a7 : addE (delL l ((2 * n : Nat) : Int)) ((2 * n + 1 : Nat) : Int) = 0 := addE_0 (by omega) (by omega) (isE_not s6 (fun e he hh => by obtain ⟨_, j, hj, h2⟩ := hE.mem e ((di e).1 he).1; omega)) (by omega)
  have ai := add_iff s6 c7 a7
  have l7 := addL_len c7 a7
  rw [l6] at l7
  rw [a7]
  refine ⟨_, rfl, ?_⟩
  rw [if_neg (by simp)]
  have s7 := t7.srt
  generalize hL : addL (delL l ((2 * n : Nat) : Int)) ((2 * n + 1 : Nat) : Int) c7 = L at *
  have i7 : isE ((2 * n + 1 : Nat) : Int) L = true := (isE_iff s7 _).2 ⟨_, (ai _).2 (.inr rfl), rfl⟩
  refine (t7.en _ true).mono ?_
  rintro _ w8 ⟨rfl, t8, k8⟩
  rw [enE_0 i7]
  refine ⟨_, rfl, ?_⟩
  rw [if_neg (by simp)]
  have ei := en_iff s7 true i7
  have s8 := t8.srt
  have l8 := enL_len (l := L) ((2 * n + 1 : Nat) : Int) true
  generalize hM : enL L ((2 * n + 1 : Nat) : Int) true = M at *
  have hin : (((2 * n + 1 : Nat) : Int), true, c7) ∈ M := (ei _).2 ⟨_, (ai _).2 (.inr rfl), by rw [if_pos rfl]⟩
  have f1 : fndB M ((2 * n + 1 : Nat) : Int) = true := (fndB_iff s8 _).2 ⟨_, hin, rfl, rfl⟩
  have f2 : fndB M ((2 * n : Nat) : Int) = false := by
    cases hf : fndB M ((2 * n : Nat) : Int) with
    | false => rfl
    | true =>
      obtain ⟨e, he, h1, h2⟩ := (fndB_iff s8 _).1 hf
      obtain ⟨e0, h0, h3⟩ := (ei e).1 he
      rcases (ai e0).1 h0 with h4 | h4
      · have := ((di e0).1 h4).2
        subst h3
        split at h1
        · exact absurd h1 this
        · exact absurd h1 this
      · subst h4
        rw [if_pos rfl] at h3
        subst h3
        simp only at h1
        omega
  refine (t8.fnd _).mono ?_
  rintro _ w9 ⟨d9, rfl, hs9, hr9, hf9, m9⟩
  rw [f1]
  have t9 := t8.mod m9
  refine ⟨_, _, _, _, _, _, _, _, _, _, rfl, New.put rfl fun w10 h10 m10 z10 => ?_⟩
  refine ((t9.mod m10).fnd _).mono ?_
  rintro _ w11 ⟨d11, rfl, hs11, hr11, hf11, m11⟩
  rw [f2]
  refine ⟨_, _, _, _, _, _, _, _, _, _, rfl, New.put rfl fun w12 h12 m12 z12 => ?_⟩
  rw [if_pos rfl]
  have hnum : d9.num = 1000 := by
    have e1 : (fndC M ((2 * n + 1 : Nat) : Int)).say = c7.say := by
      unfold fndC
      rw [f1, if_pos rfl, cmd_mem s8 cz hin]
    have e2 : d9.say = (bare 0 1000 1).say := by rw [hs9, e1, hs7]
    exact congrArg Cmd.num e2
  refine ⟨_, ((h10.mod m11 (by simp)).mod m12 (by simp)).cell (i := 1) rfl, ?_⟩
  rw [if_pos hnum, if_pos (by simp)]
  have t12 := ((t9.mod m10).mod m11).mod m12
  refine t12.events.mono ?_
  rintro _ w13 ⟨a, ca, rfl, ra, m13, _⟩
  refine ⟨_, _, _, rfl, ?_⟩
  rw [if_pos (by simp [evs, l8, l7])]
  refine (lives_ok w13).mono ?_
  rintro _ w14 ⟨rfl, m14⟩
  exact ⟨_, rfl, rfl, (t12.mod m13).m.none m14⟩
end Go.Proofs.Ytkeaamfpcapioaa
