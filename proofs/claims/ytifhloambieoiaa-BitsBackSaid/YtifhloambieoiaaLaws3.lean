/-
  The laws of chapter 2, as contracts: BitsBack, BitsGets, BitsNone.
-/
import Derived.Test.YtifhloambieoiaaLaws2
namespace Go.Proofs.Ytifhloambieoiaa
open Go Go.Sh Go.Proofs
set_option linter.unusedVariables false

/-! ### BitsBack -/
theorem fbs_split (fs : List (Nat × Int)) {i : Nat} (h : i < fs.length) : fbs fs = fbs (fs.take i) ++ fb fs[i] ++ fbs (fs.drop (i + 1)) := by
  have e : fs = fs.take i ++ fs[i] :: fs.drop (i + 1) := by rw [← List.drop_eq_getElem_cons h, List.take_append_drop]
  unfold fbs
  conv => lhs; rw [e]
  rw [List.flatMap_append, List.flatMap_cons, List.append_assoc]
theorem read_field (fs : List (Nat × Int)) {i : Nat} (h : i < fs.length) {k : Nat} (hk : fs[i].2 = (k : Int)) (h64 : k ≤ 64) : num (pack (fbs fs)) (fbs (fs.take i)).length k = fs[i].1 % 2 ^ k := by
  have hfb : fb fs[i] = field fs[i].1 k := by unfold fb; rw [hk, if_pos (by omega)]; rfl
  have := num_field (pack (fbs fs)) (fbs (fs.take i)).length fs[i].1 k (fun j hj => by
    rw [pack_bit, fbs_split fs h, hfb, List.append_assoc, List.getD, List.getElem?_append_right (by omega), Nat.add_sub_cancel_left, List.getElem?_append_left (by rw [field_len]; exact hj)]
    simp [field, hj]) k (Nat.le_refl _)
  rw [this]
  simp
theorem low_eq (n k : Nat) (hk : k ≤ 64) : n % 2 ^ k = n % 2 ^ k := rfl

theorem bitsBack_ok (a : Option Addr) (fs : List (Nat × Int)) (c : Nat) (w : World) (hq : ∀ f ∈ fs, f.1 < 2 ^ 64) (hr : Rd w a (fs.flatMap fv)) :
    Does Try.prog 4 #[.slice a fs.length c] w fun v w' => v = .bool true ∧ Mod [] w w' := by
  apply w4
  unfold F4
  refine (newWriter_ok w).mono ?_
  rintro _ w1 ⟨rfl, h1, m1⟩
  refine ⟨_, rfl, ?_⟩
  refine (few_ok a fs.length c w1).mono ?_
  rintro _ _ ⟨rfl, rfl⟩
  refine ⟨_, rfl, ?_⟩
  unfold F4_j1
  by_cases hf : fs.length ≤ 100
  · rw [if_neg (by simp [hf]), if_neg (by simp)]
    refine LoopP.of (fun (x : Int) w' => ∃ (i : Nat) (S : List Nat), i ≤ fs.length ∧ x = (i : Int) ∧ Wr w' w.heap.size S (fbs (fs.take i)) ∧ Since w S ∧ Mod [] w w') (fun x _ => fs.length - x.toNat)
      ⟨0, [w.heap.size], by omega, rfl, h1, by intro x hx; simp at hx; omega, m1⟩ ?_
    rintro _ w2 ⟨i, S, hi, rfl, hW, sS, hm⟩
    unfold F4_b2
    by_cases hlt : i < fs.length
    · rw [if_pos (by omega)]
      have hq' := hq fs[i] (List.getElem_mem hlt)
      have hsn : fbs (fs.take (i + 1)) = fbs (fs.take i) ++ fb fs[i] := by rw [List.take_succ_eq_append_getElem hlt, fbs_snoc]
      have hlen := fbs_len (fs.take i)
      have ht1 : (fs.take i).length ≤ 100 := by simp; omega
      obtain ⟨p, rfl, hc⟩ := (hr.mod hm (by simp)).drew.flat (fv_len fs) (by decide) hlt
      refine ⟨p, rfl, by omega, by omega, _, by simpa [add_zero] using hc 0 _ rfl, by omega, by omega, _, hc 1 _ rfl, ?_⟩
      refine (put_any (hW.mod (Mod.drew (S := []) w2) (by simp)) fs[i].2 hq' (by omega)).mono ?_
      rintro _ w3 ⟨rfl, S3, hW3, m3, f3⟩
      have hsz2 : w.heap.size ≤ w2.drew.heap.size := hm.size
      refine ⟨_, rfl, ?_⟩
      rw [wi64 (by omega)]
      rw [← hsn] at hW3
      exact ⟨_, by omega, ⟨i + 1, S3, by omega, rfl, hW3, sS.step hsz2 f3, (hm.none (Mod.drew _)).since m3 sS⟩, rfl⟩
    · have : i = fs.length := by omega
      subst this
      rw [if_neg (by omega)]
      rw [List.take_length] at hW
      have hlen := fbs_len fs
      have hpl := pack_len (fbs fs)
      refine (bytes_ok hW (by omega)).mono ?_
      rintro _ w3 ⟨a3, c3, rfl, ho3, m3, f3⟩
      refine ⟨_, _, _, rfl, ?_⟩
      refine (newReader_ok a3 _ c3 w3 (by omega) ho3.rd).mono ?_
      rintro _ w4 ⟨g, S4, rfl, hR4, s4, m4⟩
      have M4 : Mod [] w w4 := (hm.none m3).none m4
      have hsz3 : w.heap.size ≤ w3.heap.size := (hm.none m3).size
      have hg : w.heap.size ≤ g := by have := s4 g (by obtain ⟨_, _, rfl, _⟩ := hR4; simp); omega
      have sG : Since w [g] := by intro x hx; simp at hx; omega
      refine ⟨_, rfl, ?_⟩
      rw [if_neg (by simp)]
      refine LoopP.of (fun (x : Int) w' => ∃ (i : Nat), i ≤ fs.length ∧ x = (i : Int) ∧ Rdr w' g S4 (pack (fbs fs)) (fbs (fs.take i)).length false ∧ Mod [] w w') (fun x _ => fs.length - x.toNat) ⟨0, by omega, rfl, hR4, M4⟩ ?_
      rintro _ w5 ⟨i, hi, rfl, hR5, M5⟩
      unfold F4_b3
      by_cases hlt : i < fs.length
      · rw [if_pos (by omega)]
        have hq' := hq fs[i] (List.getElem_mem hlt)
        have hsn : fbs (fs.take (i + 1)) = fbs (fs.take i) ++ fb fs[i] := by rw [List.take_succ_eq_append_getElem hlt, fbs_snoc]
        obtain ⟨p, rfl, hc⟩ := (hr.mod M5 (by simp)).drew.flat (fv_len fs) (by decide) hlt
        have e1 : IntKind.i64.wrap ((i : Int) + 1) = ((i + 1 : Nat) : Int) := by rw [wi64 (by omega)]; omega
        have hR5' := hR5.mod (Mod.drew (S := []) w5) (by simp)
        rw [e1]
        have skip : ¬ (0 ≤ fs[i].2 ∧ fs[i].2 ≤ 64) → ∃ m, m < fs.length - (i : Int).toNat ∧ ((∃ (j : Nat), j ≤ fs.length ∧ ((i + 1 : Nat) : Int) = (j : Int) ∧ Rdr w5.drew g S4 (pack (fbs fs)) (fbs (fs.take j)).length false ∧ Mod [] w w5.drew) ∧ fs.length - ((i + 1 : Nat) : Int).toNat = m) := by
          intro hbad
          have hfb : fb fs[i] = [] := by unfold fb; rw [if_neg hbad]
          refine ⟨_, by omega, ⟨i + 1, by omega, rfl, ?_, M5.none (Mod.drew _)⟩, rfl⟩
          rw [hsn, hfb, List.append_nil]
          exact hR5'
        refine ⟨p, rfl, by omega, by omega, _, hc 1 _ rfl, ?_⟩
        by_cases h0 : 0 ≤ fs[i].2
        · rw [if_pos h0]
          refine ⟨by omega, by omega, _, hc 1 _ rfl, ?_⟩
          by_cases h64 : fs[i].2 ≤ 64
          · rw [if_pos h64]
            obtain ⟨k, hk⟩ : ∃ k : Nat, fs[i].2 = (k : Int) := ⟨fs[i].2.toNat, by omega⟩
            have hfb : fb fs[i] = field fs[i].1 k := by unfold fb; rw [hk, if_pos (by omega)]; rfl
            have htot : (fbs fs).length = (fbs (fs.take i)).length + k + (fbs (fs.drop (i + 1))).length := by
              conv => lhs; rw [fbs_split fs hlt, hfb]
              simp [field_len]
              omega
            have hg : good (pack (fbs fs)) (fbs (fs.take i)).length false (k : Int) = true := by unfold good; simp; omega
            refine ⟨by omega, by omega, _, hc 1 _ rfl, by omega, by omega, _, by simpa [add_zero] using hc 0 _ rfl, by omega, by omega, _, hc 1 _ rfl, ?_⟩
            refine (get_ok hR5' (by omega) fs[i].2).mono ?_
            rintro _ w6 ⟨rfl, m6, hR6⟩
            have M6 := (M5.none (Mod.drew w5)).since m6 sG
            obtain ⟨p', hp', hc'⟩ := (hr.mod M6 (by simp)).flat (fv_len fs) (by decide) hlt
            cases hp'
            refine ⟨_, rfl, by simpa [add_zero] using hc' 0 _ rfl, hc' 1 _ rfl, ?_⟩
            rw [hk]
            refine (low_ok fs[i].1 k hq' (by omega) w6).mono ?_
            rintro _ _ ⟨rfl, rfl⟩
            refine ⟨_, rfl, ?_⟩
            rw [hk] at hR6
            have hv : gval (pack (fbs fs)) (fbs (fs.take i)).length false (k : Int) = fs[i].1 % 2 ^ k := by
              unfold gval
              rw [hg, if_pos rfl]
              exact read_field fs hlt hk (by omega)
            rw [hv, if_neg (by simp)]
            unfold gat gbad at hR6
            rw [hg] at hR6
            refine ⟨_, by omega, ⟨i + 1, by omega, rfl, ?_, M6⟩, rfl⟩
            rw [hsn, hfb, List.length_append, field_len]
            exact hR6
          · rw [if_neg h64]
            exact skip (fun h => h64 h.2)
        · rw [if_neg h0]
          exact skip (fun h => h0 h.1)
      · have : i = fs.length := by omega
        subst this
        rw [if_neg (by omega)]
        rw [List.take_length] at hR5
        have hleft := left_ok hR5 (by omega)
        rw [if_neg (by simp)] at hleft
        refine hleft.mono ?_
        rintro _ w6 ⟨rfl, m6⟩
        have hR6 := hR5.mod m6 (by simp)
        refine ⟨_, rfl, ?_⟩
        rw [if_pos (by omega)]
        refine (failed_ok hR6).mono ?_
        rintro _ _ ⟨rfl, rfl⟩
        refine ⟨_, rfl, ?_⟩
        rw [if_pos (by simp)]
        have hg : good (pack (fbs fs)) (fbs fs).length false ((8 * (pack (fbs fs)).length - (fbs fs).length : Nat) : Int) = true := by unfold good; simp; omega
        refine (get_ok hR6 (by omega) ((8 * (pack (fbs fs)).length - (fbs fs).length : Nat) : Int)).mono ?_
        rintro _ w7 ⟨rfl, m7, hR7⟩
        refine ⟨_, rfl, ?_⟩
        have hv : gval (pack (fbs fs)) (fbs fs).length false ((8 * (pack (fbs fs)).length - (fbs fs).length : Nat) : Int) = 0 := by
          unfold gval
          rw [hg, if_pos rfl]
          exact num_zero _ _ (fun j hj => by rw [pack_bit, List.getD, List.getElem?_eq_none hj]; rfl) _
        rw [hv, if_pos (by simp)]
        unfold gbad at hR7
        rw [hg] at hR7
        refine (failed_ok hR7).mono ?_
        rintro _ _ ⟨rfl, rfl⟩
        refine ⟨_, rfl, ?_⟩
        rw [if_pos (by simp)]
        have M7 := (M5.none m6).since m7 sG
        refine (lives_ok w7).mono ?_
        rintro _ w' ⟨rfl, hm'⟩
        exact ⟨_, rfl, rfl, M7.none hm'⟩
  · rw [if_pos (by simp [hf])]
    rw [if_pos rfl, if_pos (by simp)]
    refine (lives_ok w1).mono ?_
    rintro _ w' ⟨rfl, hm'⟩
    exact ⟨_, rfl, rfl, m1.none hm'⟩

/-! ### BitsGets -/
/-- A Step's cells. -/
def sv (f : Bool × Int) : List Value := [.bool f.1, .int .i64 f.2]
theorem sv_len (L : List (Bool × Int)) : ∀ x ∈ L, (sv x).length = 2 := fun _ _ => rfl

theorem bitsGets_ok (a b : Option Addr) (l : List UInt8) (fs : List (Bool × Int)) (c d : Nat) (w : World) (hr : Rd w a (l.map bv)) (hr' : Rd w b (fs.flatMap sv)) :
    Does Try.prog 6 #[.slice a l.length c, .slice b fs.length d] w fun v w' => v = .bool true ∧ Mod [] w w' := by
  have hfa := hr.lt
  apply w6
  unfold F6
  have hdone : F6_j1 a l.length c fs.length b true w (fun v w' => v = .bool true ∧ Mod [] w w') := by
    unfold F6_j1
    rw [if_pos rfl]
    refine (lives_ok w).mono ?_
    rintro _ w' ⟨rfl, hm'⟩
    exact ⟨_, rfl, rfl, hm'⟩
  by_cases h4 : 400 < l.length
  · rw [if_pos (by omega)]
    exact hdone
  rw [if_neg (by omega)]
  by_cases h2 : 200 < fs.length
  · rw [decide_eq_true (by omega)]
    exact hdone
  rw [decide_eq_false (by omega)]
  unfold F6_j1
  rw [if_neg (by simp)]
  refine (newReader_ok a l c w (by omega) hr).mono ?_
  rintro _ w1 ⟨g, S, rfl, hR, s1, m1⟩
  refine ⟨_, rfl, ?_⟩
  rw [if_neg (by simp)]
  unfold New
  have hgS : g ∈ S := by obtain ⟨_, _, rfl, _⟩ := hR; simp
  have hltS := hR.lt
  have hB := Blk.new w1 47 [.slice none 0 0, .int .i64 0, .bool false]
  have hsz1 := m1.size
  have hcan : CanSet (push w1 47 [.slice none 0 0, .int .i64 0, .bool false]) (fresh w1) 0 3 := by
    rw [fresh_base]
    exact ⟨hB.can (i := 0) (by simp), hB.can (i := 1) (by simp), hB.can (i := 2) (by simp), trivial⟩
  unfold PutAll
  refine ⟨hcan, ?_⟩
  have hB2 : Blk (setAll (push w1 47 [.slice none 0 0, .int .i64 0, .bool false]) (fresh w1) 0 [.slice a l.length c, .int .i64 0, .bool false]) w1.heap.size 47 [.slice a l.length c, .int .i64 0, .bool false] := by
    rw [fresh_base]
    exact ((hB.set 0 _).set 1 _).set 2 _
  have m2 : Mod [w1.heap.size] w1 (setAll (push w1 47 [.slice none 0 0, .int .i64 0, .bool false]) (fresh w1) 0 [.slice a l.length c, .int .i64 0, .bool false]) := by
    rw [fresh_base]
    exact (((Mod.push w1 47 _).same (Mod.setCell _ _ _ (by rw [add_block]; simp [base]))).same (Mod.setCell _ _ _ (by rw [add_block]; simp [base]))).same (Mod.setCell _ _ _ (by rw [add_block]; simp [base]))
  generalize setAll (push w1 47 [.slice none 0 0, .int .i64 0, .bool false]) (fresh w1) 0 [.slice a l.length c, .int .i64 0, .bool false] = w2 at *
  have sS : Since w S := s1
  have sG : Since w [g] := by intro x hx; simp at hx; subst hx; exact s1 x hgS
  have sH : Since w [w1.heap.size] := by intro x hx; simp at hx; omega
  have M2 : Mod [] w w2 := m1.since m2 sH
  have hR2 := hR.mod m2 (fun x hx hx' => by simp at hx'; have := hltS x hx; omega)
  have hRr : Rr w2 w1.heap.size a l c 0 false := ⟨by omega, fun hx => by have := hfa _ hx; omega, hB2, hr.mod M2 (by simp)⟩
  rw [fresh_base]
  refine LoopP.of (fun (x : Int) w' => ∃ (i p : Nat) (bad : Bool), i ≤ fs.length ∧ x = (i : Int) ∧ Rdr w' g S l p bad ∧ Rr w' w1.heap.size a l c p bad ∧ Mod [] w w') (fun x _ => fs.length - x.toNat) ⟨0, 0, false, by omega, rfl, hR2, hRr, M2⟩ ?_
  rintro _ w3 ⟨i, p, bad, hi, rfl, hR3, hr3, M3⟩
  have apS : ∀ x ∈ S, x ∉ [w1.heap.size] := fun x hx hx' => by simp at hx'; have := hltS x hx; omega
  have apG : w1.heap.size ∉ [g] := fun hx => by simp at hx; have := hltS g hgS; omega
  have apA : ∀ x ∈ fpv a (l.map bv), x ∉ [g] := fun x hx hx' => by simp at hx'; subst hx'; have := hfa x hx; have := s1 x hgS; omega
  unfold F6_b2
  by_cases hlt : i < fs.length
  · rw [if_pos (by omega)]
    obtain ⟨q, rfl, hc⟩ := (hr'.mod M3 (by simp)).flat (sv_len fs) (by decide) hlt
    have e1 : IntKind.i64.wrap ((i : Int) + 1) = ((i + 1 : Nat) : Int) := by rw [wi64 (by omega)]; omega
    have join : ∀ (p : Nat) (bad : Bool) (w4 : World), Rdr w4 g S l p bad → Rr w4 w1.heap.size a l c p bad → Mod [] w w4 →
        F6_j3 (some (base g)) (base w1.heap.size) (i : Int) w4 (fun v w' => v = .bool true ∧ Mod [] w w') (fun x0 w' => ∃ m, m < fs.length - (i : Int).toNat ∧ ((∃ (i p : Nat) (bad : Bool), i ≤ fs.length ∧ x0 = (i : Int) ∧ Rdr w' g S l p bad ∧ Rr w' w1.heap.size a l c p bad ∧ Mod [] w w') ∧ fs.length - x0.toNat = m)) := by
      intro p bad w4 hR4 hr4 M4
      unfold F6_j3
      have hR4' := hR4.mod (Mod.drew (S := []) w4) (by simp)
      have hr4' := hr4.mod (Mod.drew (S := []) w4) (by simp) (by simp)
      refine (left_ok hR4' (by omega)).mono ?_
      rintro _ w5 ⟨rfl, m5⟩
      have hR5 := hR4'.mod m5 (by simp)
      have hr5 := hr4'.mod m5 (by simp) (by simp)
      refine ⟨_, rfl, ?_⟩
      refine (refLeft_ok hr5 (by omega)).mono ?_
      rintro _ w6 ⟨rfl, m6⟩
      have hR6 := hR5.mod m6 (by simp)
      have hr6 := hr5.mod m6 (by simp) (by simp)
      refine ⟨_, rfl, ?_⟩
      rw [if_neg (by simp)]
      refine ⟨_, hr6.2.2.1.cell (i := 2) rfl, ?_⟩
      refine (failed_ok hR6).mono ?_
      rintro _ _ ⟨rfl, rfl⟩
      refine ⟨_, rfl, hr6.2.2.1.cell (i := 2) rfl, ?_⟩
      rw [if_neg (by simp), e1]
      exact ⟨_, by omega, ⟨i + 1, p, bad, by omega, rfl, hR6, hr6, ((M4.none (Mod.drew _)).none m5).none m6⟩, rfl⟩
    refine ⟨q, rfl, by omega, by omega, fs[i].1, by simpa [add_zero] using hc 0 _ rfl, ?_⟩
    by_cases hb : fs[i].1 = true
    · rw [if_pos hb]
      refine ⟨by omega, by omega, _, hc 1 _ rfl, ?_⟩
      refine (skip_ok (by omega) hR3 fs[i].2).mono ?_
      rintro _ w4 ⟨rfl, m4, hR4⟩
      have M4 := M3.since m4 sG
      have hr4 := hr3.mod m4 apG apA
      obtain ⟨q', hq', hc'⟩ := (hr'.mod M4 (by simp)).flat (sv_len fs) (by decide) hlt
      cases hq'
      refine ⟨rfl, by omega, by omega, _, hc' 1 _ rfl, ?_⟩
      refine (refSkip_ok hr4 (by omega) fs[i].2).mono ?_
      rintro _ w5 ⟨rfl, m5, hr5⟩
      exact ⟨rfl, join _ _ w5 (hR4.mod m5 apS) hr5 (M4.since m5 sH)⟩
    · rw [if_neg hb]
      have hR3' := hR3.mod (Mod.drew (S := []) w3) (by simp)
      have hr3' := hr3.mod (Mod.drew (S := []) w3) (by simp) (by simp)
      obtain ⟨q1, hq1, hc1⟩ := (hr'.mod (M3.none (Mod.drew w3)) (by simp)).flat (sv_len fs) (by decide) hlt
      cases hq1
      refine ⟨by omega, by omega, _, hc1 1 _ rfl, by omega, by omega, _, hc1 1 _ rfl, ?_⟩
      refine (get_ok hR3' (by omega) fs[i].2).mono ?_
      rintro _ w4 ⟨rfl, m4, hR4⟩
      have M4 := (M3.none (Mod.drew w3)).since m4 sG
      have hr4 := hr3'.mod m4 apG apA
      obtain ⟨q', hq', hc'⟩ := (hr'.mod M4 (by simp)).flat (sv_len fs) (by decide) hlt
      cases hq'
      refine ⟨_, rfl, hc' 1 _ rfl, ?_⟩
      refine (refGet_ok (by omega) hr4 fs[i].2).mono ?_
      rintro _ w5 ⟨rfl, m5, hr5⟩
      refine ⟨_, rfl, ?_⟩
      rw [if_neg (by simp)]
      exact join _ _ w5 (hR4.mod m5 apS) hr5 (M4.since m5 sH)
  · rw [if_neg (by omega)]
    refine (lives_ok w3).mono ?_
    rintro _ w' ⟨rfl, hm'⟩
    exact ⟨_, rfl, rfl, M3.none hm'⟩
end Go.Proofs.Ytifhloambieoiaa
