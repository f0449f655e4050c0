/-
  Chapter 33, plain: what was packed is unpacked, what is unpacked is packed.
-/
import Derived.Test.YtcdnljibefpchaaLaws2
namespace Go.Proofs.Ytcdnljibefpchaa
open Go Go.Sh Go.Proofs
set_option linter.unusedVariables false
set_option linter.unusedSimpArgs false
set_option linter.unusedSectionVars false

theorem bits_pos (ds : List Pd) (i : Nat) (hi : i ≤ ds.length) : (bitsOf (ds.take i)).length = pos ds i := by
  induction i with
  | zero => simp [bitsOf, pos]
  | succ i ih => rw [bits_take ds (by omega), List.length_append, field_len, pos_succ ds (by omega), ih (by omega)]
theorem bits_all (ds : List Pd) : (bitsOf ds).length = pos ds ds.length := by
  have := bits_pos ds ds.length (Nat.le_refl _)
  rwa [List.take_length] at this
theorem bits_at (ds : List Pd) {i j : Nat} (hi : i < ds.length) (hj : j < wd ds[i]) : (bitsOf ds).getD (pos ds i + j) false = (enc ds[i]).testBit (wd ds[i] - 1 - j) := by
  have e : bitsOf ds = bitsOf (ds.take i) ++ (field (enc ds[i]) (wd ds[i]) ++ bitsOf (ds.drop (i + 1))) := by
    have h1 : ds = ds.take i ++ ds[i] :: ds.drop (i + 1) := by rw [← List.drop_eq_getElem_cons hi, List.take_append_drop]
    have h2 : bitsOf (ds.take i ++ ds[i] :: ds.drop (i + 1)) = bitsOf (ds.take i) ++ (field (enc ds[i]) (wd ds[i]) ++ bitsOf (ds.drop (i + 1))) := by
      unfold bitsOf
      rw [List.flatMap_append, List.flatMap_cons]
    rw [← h1] at h2
    exact h2
  have hp := bits_pos ds i (by omega)
  rw [e, List.getD_eq_getElem?_getD, List.getElem?_append_right (by omega), hp, Nat.add_sub_cancel_left, List.getElem?_append_left (by rw [field_len]; exact hj), List.getElem?_eq_getElem (by rw [field_len]; exact hj)]
  simp [field]
theorem num_enc (ds : List Pd) (hw : ∀ d ∈ ds, wOk d) {i : Nat} (hi : i < ds.length) : num (pack (bitsOf ds)) (pos ds i) (wd ds[i]) = enc ds[i] := by
  rw [num_field (pack (bitsOf ds)) (pos ds i) (enc ds[i]) (wd ds[i]) (fun j hj => by rw [pack_bit, bits_at ds hi hj]) (wd ds[i]) (Nat.le_refl _), Nat.sub_self, Nat.shiftRight_zero]
  exact Nat.mod_eq_of_lt (enc_lt _ (hw _ (List.getElem_mem hi)))
theorem two_pow_pred {n : Nat} (h : 1 ≤ n) : (2 : Int) ^ n = 2 * 2 ^ (n - 1) := by
  rw [← Int.pow_succ', show n - 1 + 1 = n by omega]
theorem sval_enc {d : Pd} (hw : wOk d) (hi : inR d d.2.2.2 = true) : sval d (enc d) = d.2.2.2 := by
  have h32 : 1 ≤ wd d ∧ wd d ≤ 32 := by unfold wOk at hw; unfold wd; omega
  have hp := pow_lt (n := wd d) (by omega)
  have hq := pow_lt (n := wd d - 1) (by omega)
  have h2 := two_pow_pred h32.1
  have hc := pow_cast (wd d - 1)
  have hl := enc_lt d hw
  have hc2 := pow_cast (wd d)
  have he : ((enc d : Nat) : Int) = (d.2.2.2 + 2 ^ wd d) % 2 ^ wd d := by
    unfold enc
    rw [Int.toNat_of_nonneg (Int.emod_nonneg _ (by omega))]
  unfold inR at hi
  unfold sval
  by_cases hs : d.2.2.1 = true
  · rw [if_pos hs] at hi
    have hi := of_decide_eq_true hi
    change -(2 ^ (wd d - 1) : Int) ≤ d.2.2.2 ∧ d.2.2.2 < 2 ^ (wd d - 1) at hi
    by_cases hn : 0 ≤ d.2.2.2
    · have : (d.2.2.2 + 2 ^ wd d) % 2 ^ wd d = d.2.2.2 := by rw [Int.add_emod_right]; exact Int.emod_eq_of_lt hn (by omega)
      rw [if_neg (fun h => by have := h.2; omega)]
      omega
    · have : (d.2.2.2 + 2 ^ wd d) % 2 ^ wd d = d.2.2.2 + 2 ^ wd d := Int.emod_eq_of_lt (by omega) (by omega)
      rw [if_pos ⟨hs, by omega⟩]
      omega
  · rw [if_neg hs] at hi
    have hi := of_decide_eq_true hi
    change 0 ≤ d.2.2.2 ∧ d.2.2.2 < 2 ^ wd d at hi
    have : (d.2.2.2 + 2 ^ wd d) % 2 ^ wd d = d.2.2.2 := by rw [Int.add_emod_right]; exact Int.emod_eq_of_lt hi.1 (by omega)
    rw [if_neg (fun h => hs h.1)]
    omega
theorem getD_at (ds : List Pd) {i : Nat} (h : i < ds.length) : ds.getD i pz = ds[i] := by rw [List.getD_eq_getElem?_getD, List.getElem?_eq_getElem h]; rfl
theorem decN_get (B : List UInt8) (ds : List Pd) (n : Nat) {i : Nat} (h : i < (decN B ds n).length) (hi : i < ds.length) : (decN B ds n)[i] = (ds[i].1, sval ds[i] (num B (pos ds i) (wd ds[i]))) := by
  simp only [decN]
  rw [List.getElem_map, List.getElem_range, getD_at ds hi]
/-- What was packed is unpacked. -/
theorem back {ds : List Pd} (hw : ∀ d ∈ ds, wOk d ∧ inR d d.2.2.2 = true) : unpD ds (pack (bitsOf ds)) = (vals ds, 0) := by
  have hl : (pack (bitsOf ds)).length = (pos ds ds.length + 7) / 8 := by rw [pack_len, bits_all]
  unfold unpD
  rw [if_neg (by omega), if_neg (by omega), if_neg]
  · congr 1
    apply List.ext_getElem
    · rw [decN_len, vals_len]
    · intro i h1 h2
      have hi : i < ds.length := by rwa [decN_len] at h1
      have h := hw _ (List.getElem_mem hi)
      rw [decN_get _ _ _ h1 hi, num_enc ds (fun d hd => (hw d hd).1) hi, sval_enc h.1 h.2]
      simp [vals]
  · simp only [ne_eq, Decidable.not_not]
    exact num_zero _ _ (fun i hi => by rw [pack_bit, List.getD_eq_getElem?_getD, List.getElem?_eq_none (by rw [bits_all]; omega)]; rfl) _

/-! ### The other way -/
theorem sval_in {d : Pd} (hw : wOk d) {n : Nat} (hn : n < 2 ^ wd d) : inR d (sval d n) = true ∧ enc (upd d (sval d n)) = n := by
  have h32 : 1 ≤ wd d ∧ wd d ≤ 32 := by unfold wOk at hw; unfold wd; omega
  have hp := pow_lt (n := wd d) (by omega)
  have hq := pow_lt (n := wd d - 1) (by omega)
  have h2 := two_pow_pred h32.1
  have hc := pow_cast (wd d - 1)
  have hc2 := pow_cast (wd d)
  have ee : (sval d n + 2 ^ wd d) % 2 ^ wd d = (n : Int) := by
    unfold sval
    split
    · rw [Int.sub_add_cancel]; exact Int.emod_eq_of_lt (by omega) (by omega)
    · rw [Int.add_emod_right]; exact Int.emod_eq_of_lt (by omega) (by omega)
  refine ⟨?_, ?_⟩
  · unfold inR
    by_cases hs : d.2.2.1 = true
    · rw [if_pos hs]
      refine decide_eq_true ?_
      change -(2 ^ (wd d - 1) : Int) ≤ sval d n ∧ sval d n < 2 ^ (wd d - 1)
      unfold sval
      by_cases hb : 2 ^ (wd d - 1) ≤ n
      · rw [if_pos ⟨hs, hb⟩]; omega
      · rw [if_neg (fun h => hb h.2)]; omega
    · rw [if_neg hs]
      refine decide_eq_true ?_
      change 0 ≤ sval d n ∧ sval d n < 2 ^ wd d
      unfold sval
      rw [if_neg (fun h => hs h.1)]
      omega
  · have : enc (upd d (sval d n)) = ((sval d n + 2 ^ wd d) % 2 ^ wd d).toNat := rfl
    rw [this, ee]
    rfl
theorem ext_bits {l m : List UInt8} (hl : l.length = m.length) (h : ∀ i, i < 8 * l.length → bit l i = bit m i) : l = m := by
  refine bits_ext hl ?_
  rw [val_of_bits l (val m) (fun i hi => by rw [h i hi, bit_ofval m i (by omega), hl]), hl]
  exact Nat.mod_eq_of_lt (val_lt m)
/-- The definitions, with the values that were unpacked. -/
def news (B : List UInt8) (ds : List Pd) : List Pd := (List.range ds.length).map fun j => upd (ds.getD j pz) (sval (ds.getD j pz) (num B (pos ds j) (wd (ds.getD j pz))))
theorem news_len (B : List UInt8) (ds : List Pd) : (news B ds).length = ds.length := by simp [news]
theorem news_get (B : List UInt8) (ds : List Pd) {i : Nat} (h : i < (news B ds).length) (hi : i < ds.length) : (news B ds)[i] = upd ds[i] (sval ds[i] (num B (pos ds i) (wd ds[i]))) := by
  simp only [news]
  rw [List.getElem_map, List.getElem_range, getD_at ds hi]
theorem news_pos (B : List UInt8) (ds : List Pd) (i : Nat) (hi : i ≤ ds.length) : pos (news B ds) i = pos ds i := by
  induction i with
  | zero => simp [pos]
  | succ i ih =>
    have h1 : i < (news B ds).length := by rw [news_len]; omega
    rw [pos_succ _ h1, pos_succ ds (by omega), ih (by omega), news_get B ds h1 (by omega)]
    rfl
theorem pos_find (ds : List Pd) (n : Nat) (h : n < pos ds ds.length) : ∃ i j, ∃ hi : i < ds.length, j < wd ds[i] ∧ n = pos ds i + j := by
  have : ∀ k, k ≤ ds.length → n < pos ds k → ∃ i j, ∃ hi : i < ds.length, j < wd ds[i] ∧ n = pos ds i + j := by
    intro k
    induction k with
    | zero => intro _ h; simp [pos] at h
    | succ k ih =>
      intro hk h
      by_cases h2 : n < pos ds k
      · exact ih (by omega) h2
      · rw [pos_succ ds (by omega)] at h
        exact ⟨k, n - pos ds k, by omega, by omega, by omega⟩
  exact this _ (Nat.le_refl _) h
theorem num_bit (l : List UInt8) (p : Nat) : ∀ (k j : Nat), j < k → (num l p k).testBit (k - 1 - j) = bit l (p + j)
  | 0, j, h => by omega
  | k + 1, j, h => by
    rw [num]
    have hb : (bit l (p + k)).toNat < 2 := by cases bit l (p + k) <;> simp
    by_cases hj : j = k
    · subst hj
      rw [show j + 1 - 1 - j = 0 by omega, Nat.testBit_zero]
      cases bit l (p + j) <;> simp
    · have ih := num_bit l p k j (by omega)
      rw [show k + 1 - 1 - j = (k - 1 - j) + 1 by omega, Nat.testBit_succ, ← ih]
      congr 1
      omega
theorem forth {ds : List Pd} {B : List UInt8} (hw : ∀ d ∈ ds, wOk d) (h : (unpD ds B).2 = 0) : unpD ds B = (decN B ds ds.length, 0) ∧ pack (bitsOf (news B ds)) = B := by
  unfold unpD at h ⊢
  by_cases h1 : B.length < (pos ds ds.length + 7) / 8
  · rw [if_pos h1] at h; cases h
  rw [if_neg h1] at h ⊢
  by_cases h2 : (pos ds ds.length + 7) / 8 < B.length
  · rw [if_pos h2] at h; cases h
  rw [if_neg h2] at h ⊢
  by_cases h3 : num B (pos ds ds.length) (8 * B.length - pos ds ds.length) ≠ 0
  · rw [if_pos h3] at h; cases h
  rw [if_neg h3]
  refine ⟨rfl, ?_⟩
  have hp := news_pos B ds ds.length (Nat.le_refl _)
  have hn := news_len B ds
  have hall : (bitsOf (news B ds)).length = pos ds ds.length := by rw [bits_all, hn, hp]
  refine ext_bits (by rw [pack_len, hall]; omega) (fun i hi => ?_)
  rw [pack_len, hall] at hi
  rw [pack_bit]
  by_cases hlt : i < pos ds ds.length
  · obtain ⟨k, j, hk, hj, rfl⟩ := pos_find ds i hlt
    have hk' : k < (news B ds).length := by omega
    have hg := news_get B ds hk' hk
    have hwk := hw _ (List.getElem_mem hk)
    have := bits_at (news B ds) (i := k) (j := j) hk' (by rw [hg]; exact hj)
    rw [news_pos B ds k (by omega)] at this
    rw [this, hg, (sval_in hwk (num_lt B (pos ds k) (wd ds[k]))).2]
    exact num_bit B (pos ds k) (wd ds[k]) j hj
  · rw [List.getD_eq_getElem?_getD, List.getElem?_eq_none (by omega)]
    simp only [ne_eq, Decidable.not_not] at h3
    cases hb : bit B i with
    | false => rfl
    | true =>
      exfalso
      exact num_some B (pos ds ds.length) (i - pos ds ds.length) (by rw [show pos ds ds.length + (i - pos ds ds.length) = i by omega]; exact hb) _ (by omega) h3
end Go.Proofs.Ytcdnljibefpchaa
