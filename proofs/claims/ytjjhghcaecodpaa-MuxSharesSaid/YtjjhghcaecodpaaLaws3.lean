/-
  The laws of chapter 22: MuxShares.
-/
import Derived.Test.YtjjhghcaecodpaaShares
namespace Go.Proofs.Ytjjhghcaecodpaa
open Go Go.Sh Go.Proofs
set_option linter.unusedVariables false
set_option linter.unusedSimpArgs false
set_option linter.unusedSectionVars false

theorem own_apart {w : World} {e e' : TypeId} {z z' n m c d : Nat} {a b : Option Addr} {vs us : List Value} (h : Own w e z a n c vs) (h' : Own w e' z' b m d us) (hne : e ≠ e') : ∀ y ∈ fp a, y ∉ fp b := by
  rcases h.2 with ⟨rfl, _⟩ | ⟨g, r, rfl, hb, _⟩
  · simp [fp]
  · intro y hy
    simp [fp, base] at hy
    subst hy
    exact h'.ne hb (Ne.symm hne)
def wtOf (x : Int) : Int := IntKind.i64.wrap (1 + (Int.tmod (IntKind.i64.wrap ((Int.tmod x 20) + 20)) 20))
theorem wtOf_ok (x : Int) : 1 ≤ wtOf x ∧ wtOf x ≤ 20 := by
  unfold wtOf
  have h1 := Int.tmod_lt_of_pos x (show (0 : Int) < 20 by omega)
  have h2 : -20 < Int.tmod x 20 := by
    have := Int.tmod_lt_of_pos (-x) (show (0 : Int) < 20 by omega)
    rw [Int.neg_tmod] at this
    omega
  rw [wi64 (n := Int.tmod x 20 + 20) (by omega), Int.tmod_eq_emod_of_nonneg (by omega)]
  have h3 := Int.emod_nonneg (Int.tmod x 20 + 20) (show (20 : Int) ≠ 0 by omega)
  have h4 := Int.emod_lt_of_pos (Int.tmod x 20 + 20) (show (0 : Int) < 20 by omega)
  rw [wi64 (by omega)]
  omega
def sL (L : List Ch) : List Ch := L.mapIdx fun i c => ⟨(i : Int), 2, wtOf c.wt, 0, 0⟩
theorem sL_len (L : List Ch) : (sL L).length = L.length := by unfold sL; rw [List.length_mapIdx]
theorem sL_at (L : List Ch) {i : Nat} (h : i < L.length) (h' : i < (sL L).length) : (sL L)[i] = ⟨(i : Int), 2, wtOf L[i].wt, 0, 0⟩ := by simp only [sL, List.getElem_mapIdx]
theorem sL_al (L : List Ch) : Al (sL L) := by
  refine ⟨fun i h => ?_, fun c hc => ?_, fun c hc => ?_⟩
  · rw [sL_at L (by rwa [sL_len] at h)]
  · obtain ⟨i, hi, rfl⟩ := List.getElem_of_mem hc
    rw [sL_at L (by rwa [sL_len] at hi)]
  · obtain ⟨i, hi, rfl⟩ := List.getElem_of_mem hc
    rw [sL_at L (by rwa [sL_len] at hi)]
    exact wtOf_ok _
theorem sL_new (L : List Ch) (hl : L.length ≤ 8) : newE [] (sL L) = 0 := by
  have ha := sL_al L
  refine newE_zero _ _ (fun c hc => ?_) ?_ (by simp)
  · obtain ⟨i, hi, rfl⟩ := List.getElem_of_mem hc
    have hi' : i < L.length := by rwa [sL_len] at hi
    rw [sL_at L hi']
    have := wtOf_ok L[i].wt
    exact ⟨by simp only; omega, by simp only; omega, by simp only; omega, by simp only; omega, by simp only; omega, by simp only; omega⟩
  · rw [List.pairwise_iff_getElem]
    intro i j hi hj hij
    rw [ha.id i hi, ha.id j hj]
    omega
theorem sL_new0 (L : List Ch) : (sL L).map new0 = sL L := by
  apply List.ext_getElem
  · simp
  · intro i h1 h2
    rw [List.getElem_map, sL_at L (by rwa [sL_len] at h2)]
    rfl
theorem ids_len (n : Nat) : (ids n).length = n := by simp [ids]
theorem ids_succ (n : Nat) : ids (n + 1) = ids n ++ [(n : Int)] := by unfold ids; rw [List.range_succ, List.map_append]; rfl
theorem sent_al {l : List Ch} (h : Al l) {i : Nat} (hi : i < l.length) : sentOf l (i : Int) = (gc l i).sn := by
  have e : Go.Proofs.Ytjjhghcaecodpaa.at_ l (i : Int) = i := fidx_at _ l i hi (decide_eq_true (h.id i hi)) (fun j hj => decide_eq_false (by rw [h.id j (by omega)]; omega))
  unfold sentOf
  rw [e, List.getElem?_eq_getElem hi, gc_at hi]

theorem muxShares_ok {w : World} {a : Option Addr} {L : List Ch} (c : Nat) (hr : Rd w a (L.flatMap chc)) (rounds : Int) : Does Try.prog 4 #[.slice a L.length c, .int .i64 rounds] w fun v w' => v = .bool true ∧ Mod [] w w' := by
  apply w4
  unfold F4
  have fin : ∀ w' : World, Mod [] w w' → Does Try.prog 7 #[] w' (fun v w14 => ∃ (t15 : Bool), v = .bool t15 ∧ ((fun v w' => v = Value.bool true ∧ Sh.Mod [] w w') (.bool t15) w14)) := fun w' m => alive m
  have j1 : ∀ t : Bool, (t = false → L.length ≤ 8 ∧ 0 < L.length ∧ 1 ≤ rounds ∧ rounds ≤ 3) → F4_j1 L.length a rounds t w (fun v w' => v = .bool true ∧ Mod [] w w') := by
    intro t ht
    unfold F4_j1
    refine iteI (fun h => fin w (Mod.refl _)) (fun h => ?_)
    obtain ⟨hl, hpos, hr1, hr3⟩ := ht (by simpa using h)
    have hsl := sL_len L
    have hal := sL_al L
    have hne : sL L ≠ [] := by intro hh; rw [hh] at hsl; simp only [List.length_nil] at hsl; omega
    have tk : ∀ i, i ≤ L.length → 0 ≤ tot (·.wt) ((sL L).take i) ∧ tot (·.wt) ((sL L).take i) ≤ 20 * i := by
      intro i
      induction i with
      | zero => intro _; simp [tot]
      | succ i ih =>
        intro hi
        have h1 := ih (by omega)
        have h2 := hal.wt (sL L)[i] (List.getElem_mem (by omega))
        have e : tot (·.wt) ((sL L).take (i + 1)) = tot (·.wt) ((sL L).take i) + (sL L)[i].wt := by
          rw [List.take_succ_eq_append_getElem (by omega)]
          unfold tot
          rw [List.map_append, List.sum_append]
          simp
        rw [e]
        omega
    refine LoopP.of (fun (x : Option Addr × Nat × Nat × Option Addr × Nat × Nat × Int × Int) w' => ∃ (i : Nat) (sa : Option Addr) (sc : Nat) (ia : Option Addr) (ic : Nat), i ≤ L.length ∧ x = (sa, i, sc, ia, i, ic, tot (·.wt) ((sL L).take i), (i : Int)) ∧ Own w' 35 3 sa i sc (((sL L).take i).flatMap chc) ∧ Own w' 3 1 ia i ic ((ids i).map iv) ∧ (∀ q ∈ fp sa, w.heap.size ≤ q) ∧ (∀ q ∈ fp ia, w.heap.size ≤ q) ∧ Mod [] w w') (fun x _ => L.length - x.2.2.2.2.2.2.2.toNat)
      ⟨0, none, 0, none, 0, by omega, rfl, Own.nil, Own.nil, by simp [fp], by simp [fp], Mod.refl _⟩ ?_
    rintro _ w1 ⟨i, sa, sc, ia, ic, hi, rfl, os, oi, fs, fi_, M1⟩
    unfold F4_b2
    dsimp only
    refine iteI (fun hlt => ?_) (fun hlt => ?_)
    · have hlt : i < L.length := by omega
      obtain ⟨p, rfl, hc⟩ := (hr.mod M1 (by simp)).flat (chc_len _) (by decide) hlt
      refine ⟨p, rfl, by omega, by omega, _, hc 2 _ rfl, ?_⟩
      refine New.put rfl fun w2 h2 m2 z2 => ?_
      refine ⟨_, _, _, h2.cells, New.use fun w3 h3 m3 z3 => ?_⟩
      have M3 := (M1.none m2).none m3
      have os3 := (os.mod m2 (by simp)).mod m3 (by simp)
      have oi3 := (oi.mod m2 (by simp)).mod m3 (by simp)
      have h23 := h2.mod m3 (by simp)
      obtain ⟨a', c', w4, run, o4, m4, f4⟩ := append_own (d := 1) Try.underlying22 elem35 22 os3 (Rd.blk h3) (m := 1) rfl (by intro u hu; simp at hu; rcases hu with rfl | rfl | rfl <;> rfl) (by omega) (by omega)
      refine ⟨a', _, c', w4, run, New.use fun w5 h5 m5 z5 => ?_⟩
      have oi4 := oi3.mod m4 (fun q hq hq' => own_apart oi3 os3 (by decide) q hq hq')
      have h24 : Blk w4 w1.heap.size 35 _ := h23.mod m4 (fun hq => by have := os.lt _ hq; omega)
      have z2' := m2.size
      have zM := M3.size
      have M4 : Mod [] w w4 := M3.trans m4 (fun q hq => .inr (fs q hq))
      have fs' : ∀ q ∈ fp a', w.heap.size ≤ q := fun q hq => by
        rcases f4 with f | f <;> rw [f] at hq
        · exact fs q hq
        · simp at hq; omega
      obtain ⟨b', d', w6, run6, o6, m6, f6⟩ := append_own (d := 1) Try.underlying28 elem3 28 (oi4.mod m5 (by simp)) (Rd.blk h5) (m := 1) rfl (by simp [one]) (by omega) (by omega)
      refine ⟨b', _, d', w6, run6, ?_⟩
      have z4 := M4.size
      have M5 := M4.none m5
      have z5' := M5.size
      have M6 : Mod [] w w6 := M5.trans m6 (fun q hq => .inr (fi_ q hq))
      have os6 := (o4.mod m5 (by simp)).mod m6 (fun q hq hq' => own_apart (o4.mod m5 (by simp)) (oi4.mod m5 (by simp)) (by decide) q hq hq')
      have h26 : Blk w6 w1.heap.size 35 _ := (h24.mod m5 (by simp)).mod m6 (fun hq => by have := oi.lt _ hq; omega)
      refine ⟨_, h26.cell (i := 2) rfl, ?_⟩
      have e1 : IntKind.i64.wrap ((i : Int) + 1) = ((i + 1 : Nat) : Int) := by rw [wi64 (by omega)]; omega
      have hw := wtOf_ok L[i].wt
      have htk := tk i (by omega)
      have eS : (sL L).take (i + 1) = (sL L).take i ++ [⟨(i : Int), 2, wtOf L[i].wt, 0, 0⟩] := by rw [List.take_succ_eq_append_getElem (by omega), sL_at L hlt]
      have e2 : tot (·.wt) ((sL L).take (i + 1)) = tot (·.wt) ((sL L).take i) + wtOf L[i].wt := by
        rw [eS]
        unfold tot
        rw [List.map_append, List.sum_append]
        simp
      have e3 : IntKind.i64.wrap (tot (·.wt) ((sL L).take i) + wtOf L[i].wt) = tot (·.wt) ((sL L).take (i + 1)) := by rw [wi64 (by omega), e2]
      rw [e1]
      refine ⟨_, by omega, ⟨i + 1, a', c', b', d', by omega, ?_, ?_, ?_, fs', fun q hq => ?_, M6⟩, rfl⟩
      · exact congrArg (fun z => (a', i + 1, c', b', i + 1, d', z, ((i + 1 : Nat) : Int))) e3
      · rw [eS, List.flatMap_append]; exact os6
      · rw [ids_succ, List.map_append]; exact o6
      · rcases f6 with f | f <;> rw [f] at hq
        · exact fi_ q hq
        · simp at hq; omega
    have hil : i = L.length := by omega
    subst hil
    have etk : (sL L).take L.length = sL L := List.take_of_length_le (by omega)
    rw [etk] at os ⊢
    have hW := tk L.length (Nat.le_refl _)
    rw [etk] at hW
    have hE := sL_new L hl
    have q := new_ok sc os.rd (by omega)
    rw [hsl] at q
    refine q.mono ?_
    rintro _ w2 ⟨m2, ⟨h0, _⟩ | ⟨_, g, S, rfl, X, hS⟩⟩
    · exact absurd hE h0
    rw [sL_new0] at X
    have z1 := M1.size
    refine ⟨_, _, rfl, ?_⟩
    have hWr : tot (·.wt) (sL L) * rounds = ((tot (·.wt) (sL L) * rounds).toNat : Int) ∧ (tot (·.wt) (sL L) * rounds).toNat ≤ 500 := by
      have h1 := Int.mul_nonneg hW.1 (show 0 ≤ rounds by omega)
      have h2 := Int.mul_le_mul hW.2 hr3 (by omega) (by omega)
      omega
    have hWw : IntKind.i64.wrap (tot (·.wt) (sL L) * rounds) = ((tot (·.wt) (sL L) * rounds).toNat : Int) := by rw [wi64 (by omega)]; exact hWr.1
    obtain ⟨N, hN⟩ : ∃ N, N = (tot (·.wt) (sL L) * rounds).toNat := ⟨_, rfl⟩
    rw [← hN] at hWr hWw
    have hSlt := X.lt
    have oi2 := oi.mod m2 (by simp)
    have os2 := os.mod m2 (by simp)
    have apS : ∀ q ∈ fp ia, q ∉ S := fun q hq hq' => by have := hS q hq'; have := oi.lt q hq; omega
    have apS2 : ∀ q ∈ fp sa, q ∉ S := fun q hq hq' => by have := hS q hq'; have := os.lt q hq; omega
    refine LoopP.of (fun (x : Int) w' => ∃ (t : Nat) (l : List Ch), t ≤ N ∧ x = (t : Int) ∧ Mx w' g S l ∧ Rnd (sL L) l t ∧ Mod S w2 w') (fun x _ => N - x.toNat) ⟨0, sL L, by omega, rfl, X, rnd_0 hal hne (fun c hc => by obtain ⟨i, hi, rfl⟩ := List.getElem_of_mem hc; rw [sL_at L (by rwa [sL_len] at hi)]; exact ⟨rfl, rfl⟩), Mod.refl _⟩ ?_
    rintro _ w3 ⟨t, l, ht, rfl, X3, R3, m3⟩
    have hl3 := R3.len
    unfold F4_b3
    rw [hWw]
    have eI : (ids L.length).length = L.length := ids_len _
    refine iteI (fun hlt => ?_) (fun hlt => ?_)
    · have q := next_ok X3 (R := ids L.length) ic ((oi2.rd).mod m3 apS) (by rw [eI]; omega) (by omega)
      rw [eI] at q
      refine q.mono ?_
      rintro _ w4 ⟨rfl, X4, m4⟩
      have e1 : IntKind.i64.wrap ((t : Int) + 1) = ((t + 1 : Nat) : Int) := by rw [wi64 (by omega)]; omega
      rw [e1]
      have R4 := R3.step hal hne (by omega) (by omega)
      rw [hsl] at R4
      exact ⟨_, _, rfl, _, by omega, ⟨t + 1, _, by omega, rfl, X4, R4, m3.same m4⟩, rfl⟩
    · have htN : t = N := by omega
      subst htN
      have hal3 := R3.al hal
      have hsh := R3.shares hal hne (r := rounds.toNat) (by rw [Int.toNat_of_nonneg (by omega)]; exact hWr.1.symm)
      refine LoopP.of (fun (x : Int) w' => ∃ (i : Nat), i ≤ L.length ∧ x = (i : Int) ∧ Mod [] w3 w') (fun x _ => L.length - x.toNat) ⟨0, by omega, rfl, Mod.refl _⟩ ?_
      rintro _ w4 ⟨i, hi, rfl, m4⟩
      have M3 : Mod [] w w3 := (M1.none m2).trans m3 (fun q hq => .inr (by have := hS q hq; omega))
      unfold F4_b4
      refine iteI (fun hlt => ?_) (fun hlt => ?_)
      · have hlt : i < L.length := by omega
        have e1 : IntKind.i64.wrap ((i : Int) + 1) = ((i + 1 : Nat) : Int) := by rw [wi64 (by omega)]; omega
        have md := m4.none (Mod.drew w4)
        have hsi : i < (sL L).length := by omega
        have rd3 := os2.rd.mod m3 apS2
        obtain ⟨p, rfl, hc⟩ := (rd3.mod md (by simp)).flat (chc_len _) (by decide) hsi
        refine ⟨p, rfl, by omega, by omega, _, hc 2 _ rfl, (sent_ok (X3.mod md (by simp)) (by omega) (i : Int)).mono ?_⟩
        rintro _ w5 ⟨rfl, m5⟩
        obtain ⟨p', hp', hc'⟩ := (rd3.mod (md.none m5) (by simp)).flat (chc_len _) (by decide) hsi
        cases hp'
        refine ⟨_, rfl, hc' 2 _ rfl, ?_⟩
        have hw := hal.wt _ (List.getElem_mem hsi)
        have e2 : sentOf l (i : Int) = IntKind.i64.wrap ((sL L)[i].wt * rounds) := by
          rw [sent_al hal3 (by omega), hsh i hsi, Int.toNat_of_nonneg (by omega)]
          have h1 := Int.mul_nonneg (show 0 ≤ (sL L)[i].wt by omega) (show 0 ≤ rounds by omega)
          have h2 := Int.mul_le_mul hw.2 hr3 (by omega) (by omega)
          rw [wi64 (by omega)]
        rw [if_neg (by rw [e2]; simp), e1]
        exact ⟨_, by omega, ⟨i + 1, by omega, rfl, md.none m5⟩, rfl⟩
      · rw [if_pos rfl]
        exact fin w4 (M3.none m4)
  refine iteI (fun h => j1 true (by simp)) (fun h => iteI (fun h1 => j1 true (by simp)) (fun h1 => iteI (fun h2 => j1 true (by simp)) (fun h2 => j1 _ (fun h3 => ?_))))
  have := of_decide_eq_false h3
  omega
end Go.Proofs.Ytjjhghcaecodpaa
