/-
  The law's comparison of what was received with what should be.
-/
import Derived.Test.YtnaomgfdcadncaaTakeAll
namespace Go.Proofs.Ytnaomgfdcadncaa
open Go Go.Sh Go.Proofs
set_option linter.unusedVariables false
set_option linter.unusedSimpArgs false
set_option linter.unusedSectionVars false

theorem has_ok {a : Option Addr} {bs : List Bool} (c : Nat) (t : Nat) {w : World} (hr : Rd w a (bs.map Value.bool)) : Does Try.prog 9 #[.slice a bs.length c, .int .i64 (t : Int)] w fun v w' => v = .bool (bs.getD t false) ∧ w = w' := by
  apply w9
  unfold F9
  rw [if_pos (by omega)]
  refine iteI (fun h => ?_) (fun h => ?_)
  · have h : t < bs.length := by omega
    obtain ⟨p, rfl, hc⟩ := rd_get hr h
    refine ⟨p, rfl, by omega, by omega, _, by rw [Int.toNat_natCast]; exact hc, ?_, rfl⟩
    rw [List.getD_eq_getElem?_getD, List.getElem?_eq_getElem h]
    rfl
  · refine ⟨?_, rfl⟩
    rw [List.getD_eq_getElem?_getD, List.getElem?_eq_none (by omega)]
    rfl
theorem tdivN (a b : Nat) : Int.tdiv (a : Int) (b : Int) = ((a / b : Nat) : Int) := by
  rw [Int.tdiv_eq_ediv_of_nonneg (by omega)]
  rfl
abbrev lf (ls : List Bool) (m : Nat) : Bool := ls.getD m false

open Classical in
theorem check_ok {w0 w : World} {gp sz lc ec ac gc : Nat} {ls : List Bool} {la ea aa ga : Option Addr} {A outs : List Dt} {L : List (Bool × List UInt8)} {W : List Dt} {wa : Option Addr} {r : Option Addr × Nat × Nat} {taken : Nat} (m0 : Mod [] w0 w) (hP : Pkr w gp sz 0 taken W wa r) (hsz : 20 ≤ sz ∧ sz ≤ 200)
    (hls : Rd w la (ls.map Value.bool)) (hea : Rd w ea ((List.range A.length).map fun i => iv (psum L (i + 1)))) (haa : Rd w aa (A.map Dt.val)) (hA : ∀ d ∈ A, Rd w d.a (d.l.map bv)) (hga : Rd w ga (outs.map Dt.val)) (hg : ∀ d ∈ outs, Rd w d.a (d.l.map bv))
    (hLA : ∀ i, (h : i < A.length) → ∃ h' : i < L.length, L[i].2 = A[i].l) (hpos : ∀ i, (h : i < A.length) → 1 ≤ A[i].l.length) (hT : (flat L).length ≤ 50000) (hN : A.length ≤ 1000) (ho : outs.map (·.l) = rcv sz (lf ls) L A.length A.length) :
    F3_j2 A.length ea A.length aa (sz : Int) la ls.length lc (some (base gp)) ga outs.length gc w (fun v w' => v = .bool true ∧ Mod [] w0 w') := by
  unfold F3_j2
  obtain ⟨rc, hrc⟩ : ∃ rc : Nat → List (List UInt8), rc = rcv sz (lf ls) L A.length := ⟨_, rfl⟩
  have hrcm : ∀ i j, i ≤ j → ∃ r, rc j = rc i ++ r := by
    intro i j hij
    induction j with
    | zero => exact ⟨[], by rw [Nat.le_zero.1 hij]; simp⟩
    | succ j ih =>
      rcases Nat.lt_or_ge i (j + 1) with h | h
      · obtain ⟨r, hr⟩ := ih (by omega)
        rw [hrc] at hr ⊢
        exact ⟨_, by rw [rcv_succ, hr, List.append_assoc]⟩
      · exact ⟨[], by rw [show i = j + 1 by omega]; simp⟩
  have hrl : ∀ i, (rc i).length ≤ i := by
    intro i
    induction i with
    | zero => rw [hrc]; exact Nat.le_refl _
    | succ i ih =>
      rw [hrc] at ih ⊢
      rw [rcv_succ, List.length_append]
      split <;> simp <;> omega
  rw [← hrc] at ho
  have hol : outs.length = (rc A.length).length := by rw [← ho, List.length_map]
  refine LoopP.of (fun (x : Int × Int) w' => ∃ i : Nat, i ≤ A.length ∧ x = (((rc i).length : Int), (i : Int)) ∧ Mod [] w w') (fun x _ => (A.length - x.2).toNat) ⟨0, by omega, by rw [hrc]; rfl, Mod.refl w⟩ ?_
  rintro _ w1 ⟨i, hi, rfl, m1⟩
  unfold F3_b3
  dsimp only
  have hrli := hrl i
  refine iteI (fun hlt => ?_) (fun hlt => ?_)
  · have hlt : i < A.length := by omega
    have md : Mod [] w w1.drew := m1.none (Mod.drew w1)
    obtain ⟨hiL, hLi⟩ := hLA i hlt
    have hps := psum_succ hiL
    have hpi := hpos i hlt
    have hpl := psum_le L (i + 1)
    rw [hLi] at hps
    have ce : ∀ {w'}, Mod [] w w' → ∃ p, ea = some p ∧ w'.cell? (p.add ((i : Int)).toNat) = some (.int .i64 (psum L (i + 1) : Int)) := fun m => by
      obtain ⟨p, hp, hc⟩ := rd_get (f := fun i => iv (psum L (i + 1))) (hea.mod m (by simp)) (i := i) (by simpa using hlt)
      refine ⟨p, hp, ?_⟩
      rw [Int.toNat_natCast]
      simpa using hc
    have ca : ∀ {w'}, Mod [] w w' → ∃ p, aa = some p ∧ w'.cell? (p.add ((i : Int)).toNat) = some (.slice A[i].a A[i].l.length A[i].c) := fun m => by
      obtain ⟨p, hp, hc⟩ := rd_get (haa.mod m (by simp)) hlt
      refine ⟨p, hp, ?_⟩
      rw [Int.toNat_natCast]
      exact hc
    obtain ⟨p, hp, hc⟩ := ce md
    obtain ⟨q, hq, hd⟩ := ca md
    refine ⟨p, hp, by omega, by omega, _, hc, q, hq, by omega, by omega, _, _, _, hd, by omega, ?_⟩
    have e1 : IntKind.i64.wrap ((psum L (i + 1) : Int) - (A[i].l.length : Int)) = (psum L i : Int) := by rw [wi64 (by omega)]; omega
    rw [e1, tdivN]
    have hdl : psum L i / sz ≤ psum L i := Nat.div_le_self _ _
    have hdl2 : (psum L (i + 1) - 1) / sz ≤ psum L (i + 1) - 1 := Nat.div_le_self _ _
    have hdd : psum L i / sz ≤ (psum L (i + 1) - 1) / sz := Nat.div_le_div_right (by omega)
    have hb : ∀ n : Nat, n ≤ 100000 → IntKind.i64.wrap (n : Int) = (n : Int) := fun n h => wi64 (by omega)
    rw [hb (psum L i / sz) (by omega)]
    refine LoopP.of (fun (x : Bool × Int) w' => ∃ k : Nat, psum L i / sz ≤ k ∧ k ≤ (psum L (i + 1) - 1) / sz + 1 ∧ x = (decide (good sz (lf ls) (psum L i) k), (k : Int)) ∧ Mod [] w w') (fun x _ => (psum L (i + 1) - 1) / sz + 1 - x.2.toNat) ⟨psum L i / sz, Nat.le_refl _, by omega, by rw [decide_eq_true (show good sz (lf ls) (psum L i) (psum L i / sz) from fun m a b => by omega)], md⟩ ?_
    rintro _ w2 ⟨k, hk1, hk2, rfl, m2⟩
    unfold F3_b4
    dsimp only
    obtain ⟨p', hp', hc'⟩ := ce m2
    rw [hp] at hp'
    cases hp'
    refine ⟨by omega, by omega, _, hc', by omega, ?_⟩
    have e2 : IntKind.i64.wrap (Int.tdiv (IntKind.i64.wrap ((psum L (i + 1) : Int) - 1)) (sz : Int)) = (((psum L (i + 1) - 1) / sz : Nat) : Int) := by
      rw [wi64 (n := (psum L (i + 1) : Int) - 1) (by omega), show (psum L (i + 1) : Int) - 1 = ((psum L (i + 1) - 1 : Nat) : Int) by omega, tdivN, hb _ (by omega)]
    rw [e2]
    refine iteI (fun hle => ?_) (fun hle => ?_)
    · have hle : k ≤ (psum L (i + 1) - 1) / sz := by omega
      rw [wi64 (by omega)]
      refine iteI (fun hw => ?_) (fun hw => ?_)
      · have hw := of_decide_eq_true hw
        refine (has_ok lc k (hls.mod m2 (by simp))).mono ?_
        rintro _ _ ⟨rfl, rfl⟩
        refine ⟨_, rfl, _, ?_, ⟨k + 1, by omega, by omega, ?_, m2⟩, rfl⟩
        · omega
        · have e : (!ls.getD k false) = decide (good sz (lf ls) (psum L i) (k + 1)) := by
            cases hv : ls.getD k false with
            | false =>
              refine (decide_eq_true (show good sz (lf ls) (psum L i) (k + 1) from fun m a b => ?_)).symm
              rcases Nat.lt_or_ge m k with h | h
              · exact hw m a h
              · rw [show m = k by omega]; exact hv
            | true =>
              refine (decide_eq_false (show ¬ good sz (lf ls) (psum L i) (k + 1) from fun hh => ?_)).symm
              have := hh k hk1 (by omega)
              have hv' : lf ls k = true := hv
              rw [hv'] at this
              cases this
          rw [e]
          congr 1
      · have hw : ¬ good sz (lf ls) (psum L i) k := fun hh => hw (decide_eq_true hh)
        refine ⟨_, ?_, ⟨k + 1, by omega, by omega, ?_, m2⟩, rfl⟩
        · omega
        · have e : false = decide (good sz (lf ls) (psum L i) (k + 1)) := (decide_eq_false (fun hh => hw fun m a b => hh m a (by omega))).symm
          rw [← e]
          congr 1
    · have hke : k = (psum L (i + 1) - 1) / sz + 1 := by omega
      have hgd : good sz (lf ls) (psum L i) k ↔ gd sz (lf ls) L i := by
        rw [hke]
        exact Iff.rfl
      have hsucc : rc (i + 1) = rc i ++ if gd sz (lf ls) L i then [A[i].l] else [] := by
        rw [hrc, rcv_succ]
        congr 1
        by_cases hh : gd sz (lf ls) L i
        · rw [if_pos ⟨hlt, hh⟩, if_pos hh, List.getElem?_eq_getElem hiL]
          show [L[i].2] = _
          rw [hLi]
        · rw [if_neg (fun h => hh h.2), if_neg hh]
      rw [wi64 (n := (i : Int) + 1) (by omega)]
      refine iteI (fun hw => ?_) (fun hw => ?_)
      · have hw := hgd.1 (of_decide_eq_true hw)
        rw [if_pos hw] at hsucc
        obtain ⟨rr, hrr⟩ := hrcm (i + 1) A.length (by omega)
        rw [hsucc, List.append_assoc] at hrr
        have hlt2 : (rc i).length < outs.length := by
          rw [hol, hrr, List.length_append]
          simp
        have hoi : outs[(rc i).length].l = A[i].l := by
          have h1 : (outs.map (·.l))[(rc i).length]? = some outs[(rc i).length].l := by rw [List.getElem?_map, List.getElem?_eq_getElem hlt2]; rfl
          rw [ho, hrr, List.getElem?_append_right (Nat.le_refl _), Nat.sub_self] at h1
          exact (Option.some.inj h1).symm
        rw [if_neg (by omega)]
        have m2d := m2.none (Mod.drew w2)
        obtain ⟨g, hg', hcg⟩ := rd_get (hga.mod m2d (by simp)) hlt2
        obtain ⟨q', hq', hd'⟩ := ca m2d
        rw [hq] at hq'
        cases hq'
        refine ⟨g, hg', by omega, by omega, _, _, _, by rw [Int.toNat_natCast]; exact hcg, _, toStr_ok _ ((hg _ (List.getElem_mem hlt2)).mod m2d (by simp)), by omega, by omega, _, _, _, hd', _, toStr_ok _ ((hA _ (List.getElem_mem hlt)).mod m2d (by simp)), ?_⟩
        rw [strEq, if_neg (by rw [hoi]; simp), wi64 (by omega)]
        refine ⟨_, ?_, ⟨i + 1, by omega, ?_, m2d⟩, rfl⟩
        · omega
        · rw [hsucc, List.length_append]
          rfl
      · have hw : ¬ gd sz (lf ls) L i := fun hh => hw (decide_eq_true (hgd.2 hh))
        rw [if_neg hw, List.append_nil] at hsucc
        refine ⟨_, ?_, ⟨i + 1, by omega, ?_, m2⟩, rfl⟩
        · omega
        · rw [hsucc]
          rfl
  · have hi : i = A.length := by omega
    subst hi
    rw [if_pos (by omega)]
    refine (left_ok (hP.none m1) (by omega)).mono ?_
    rintro _ _ ⟨rfl, rfl⟩
    exact ⟨_, rfl, by rw [decide_eq_true (by omega)], m0.none m1⟩
end Go.Proofs.Ytnaomgfdcadncaa
