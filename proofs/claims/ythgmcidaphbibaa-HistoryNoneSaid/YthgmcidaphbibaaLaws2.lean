/-
  The laws of chapter 9, as contracts: HistoryNewest, HistoryClones, HistoryNone.
-/
import Derived.Test.YthgmcidaphbibaaLaws
namespace Go.Proofs.Ythgmcidaphbibaa
open Go Go.Sh Go.Proofs
set_option linter.unusedVariables false

/-! ### HistoryNewest -/
theorem adds_take (most : Int) (l : List Int) (h6 : l.length ≤ 600) : ∀ i, i ≤ l.length → adds (s0 most) (l.take i) = ⟨room most, ((i - room most : Nat) : Int), (l.take i).drop (i - room most)⟩ := by
  intro i
  induction i with
  | zero => intro _; simp [adds, s0]
  | succ i ih =>
    intro hi
    have hlt : i < l.length := by omega
    rw [List.take_succ_eq_append_getElem hlt, adds_snoc, ih (by omega)]
    have hlen : (l.take i).length = i := by simp; omega
    have hd : ((l.take i).drop (i - room most)).length = min i (room most) := by rw [List.length_drop, hlen]; omega
    unfold Hs.add
    simp only [hd]
    by_cases h : i < room most
    · rw [if_pos (by omega), show i + 1 - room most = 0 by omega, show i - room most = 0 by omega]
      simp
    · rw [if_neg (by omega), show i + 1 - room most = (i - room most) + 1 by omega, show IntKind.i64.wrap (((i - room most : Nat) : Int) + 1) = ((i - room most + 1 : Nat) : Int) by rw [wi64 (by omega)]; omega, ← List.drop_append_of_le_length (by omega), List.drop_drop]
theorem got_take (most : Int) (l : List Int) (h6 : l.length ≤ 600) {i : Nat} (hi : i < l.length) : (adds (s0 most) (l.take i)).full = decide (room most ≤ i) ∧ (room most ≤ i → (adds (s0 most) (l.take i)).got l[i] = l[i - room most]) := by
  rw [adds_take most l h6 i (by omega)]
  have hlen : (l.take i).length = i := by simp; omega
  have hd : ((l.take i).drop (i - room most)).length = min i (room most) := by rw [List.length_drop, hlen]; omega
  constructor
  · unfold Hs.full
    simp only [hd]
    by_cases h : i < room most
    · rw [decide_eq_true (by omega), decide_eq_false (by omega)]; rfl
    · rw [decide_eq_false (by omega), decide_eq_true (by omega)]; rfl
  · intro h
    unfold Hs.got
    simp only [hd]
    rw [if_neg (by omega), ← List.drop_append_of_le_length (by omega), ← List.take_succ_eq_append_getElem hi, List.headD_eq_head?_getD, List.head?_drop, List.getElem?_take]
    rw [if_pos (by omega), List.getElem?_eq_getElem (by omega)]
    rfl

theorem historyNewest_ok (most : Int) (a : Option Addr) (l : List Int) (c : Nat) (w : World) (hc : l.length ≤ c) (hr : Rd w a (l.map iv)) :
    Does Try.prog 4 #[.int .i64 most, .slice a l.length c] w fun v w' => v = .bool true ∧ Mod [] w w' := by
  apply w4
  unfold F4
  refine (new_ok most w).mono ?_
  rintro _ w1 ⟨rfl, h1, m1⟩
  refine ⟨_, rfl, ?_⟩
  unfold F4_j1
  by_cases hf : 600 < l.length
  · rw [if_pos (by omega), if_pos rfl, if_pos (by simp)]
    refine (lives_ok w1).mono ?_
    rintro _ w' ⟨rfl, hm'⟩
    exact ⟨_, rfl, rfl, m1.none hm'⟩
  rw [if_neg (by omega), if_neg (by simp)]
  obtain ⟨a2, c2, w2, hrun, ho2, m2, f2⟩ := make_own (P := Try.prog) Try.underlying25 elem3 w1 l.length (by omega) (by omega) (by unfold maxLen; omega)
  refine ⟨_, _, _, w2, hrun, ?_⟩
  have hs1 := m1.size
  have hroom := room_eq most
  refine LoopP.of (fun (s : Option Addr × Nat × Nat × Int) w' => ∃ (i : Nat) (S : List Nat) (b : Option Addr) (d : Nat), i ≤ l.length ∧ s = (b, i - room most, d, (i : Int)) ∧ Hi w' w.heap.size S (adds (s0 most) (l.take i)) ∧ Own w' 3 1 b (i - room most) d ((l.take (i - room most)).map iv) ∧ Since w S ∧ Since w (fp b) ∧ Apart S (fp b) ∧ Mod [] w w')
    (fun s _ => l.length - s.2.2.2.toNat) ⟨0, [w.heap.size], a2, c2, by omega, by simp, h1.mod m2 (by simp), by simpa using ho2, by intro x hx; simp at hx; omega, fun x hx => by have := f2 x hx; omega, fun x hx hx' => by simp at hx; subst hx; have := f2 _ hx'; have := h1.lt w.heap.size (by simp); omega, m1.none m2⟩ ?_
  rintro _ w3 ⟨i, S, b, d, hi, rfl, h3, o3, sS, sB, ap, M3⟩
  have hG := adds_good (s0_good most) (l.take i)
  have htl : (l.take i).length = i := by simp; omega
  unfold F4_b2
  dsimp only
  by_cases hlt : i < l.length
  · rw [if_pos (by omega)]
    obtain ⟨p, rfl, hcl⟩ := rd_at (hr.mod M3 (by simp)) hlt
    have e1 : IntKind.i64.wrap ((i : Int) + 1) = ((i + 1 : Nat) : Int) := by rw [wi64 (by omega)]; omega
    rw [Int.toNat_natCast, e1]
    refine ⟨p, rfl, by omega, by omega, _, hcl, ?_⟩
    refine (add_ok h3 hG l[i]).mono ?_
    rintro _ w4 ⟨rfl, S4, h4, m4, f4⟩
    have M4 := M3.since m4 sS
    have s4 := sS.step M3.size f4
    have a4 := ap.step o3.lt f4
    have o4 := o3.mod m4 ap.symm
    rw [← adds_snoc, ← List.take_succ_eq_append_getElem hlt] at h4
    obtain ⟨hfull, hgot⟩ := got_take most l (by omega) hlt
    refine ⟨_, _, rfl, ?_⟩
    by_cases hb : room most ≤ i
    · rw [hfull, decide_eq_true hb, if_pos rfl, hgot hb]
      unfold New
      have hm5 := Mod.push (S := []) w4 3 [.int .i64 l[i - room most]]
      obtain ⟨a6, c6, w6, hrun6, o6, m6, hfp6⟩ := append_own (d := 1) Try.underlying25 elem3 25 (o4.mod hm5 (by simp)) (Rd.blk (Blk.new w4 3 [.int .i64 l[i - room most]])) (m := 1) rfl (by simp [one]) (by omega) (by omega)
      have m46 : Mod (fp b) w4 w6 := (hm5.weaken (by simp)).trans m6 (fun x hx => .inl hx)
      have f6 : ∀ x ∈ fp a6, x ∈ fp b ∨ w4.heap.size ≤ x := by
        rcases hfp6 with h | h <;> rw [h]
        · exact fun x hx => .inl hx
        · intro x hx; simp [size_push] at hx; right; omega
      refine ⟨_, _, _, _, hrun6, _, by omega, ⟨i + 1, S4, a6, c6, by omega, ?_, h4.mod m46 a4, ?_, s4, sB.step M4.size f6, (a4.symm.step h4.lt f6).symm, M4.since m46 sB⟩, rfl⟩
      · rw [show i + 1 - room most = i - room most + 1 by omega]
      · rw [show i + 1 - room most = i - room most + 1 by omega, List.take_succ_eq_append_getElem (by omega), List.map_append]; exact o6
    · rw [hfull, decide_eq_false hb, if_neg (by simp)]
      refine ⟨_, by omega, ⟨i + 1, S4, b, d, by omega, ?_, h4, ?_, s4, sB, a4, M4⟩, rfl⟩
      · rw [show i + 1 - room most = i - room most by omega]
      · rw [show i + 1 - room most = i - room most by omega]; exact o4
  · have : i = l.length := by omega
    subst this
    rw [if_neg (by omega), hroom]
    have hn : max 0 (IntKind.i64.wrap ((l.length : Int) - (room most : Int))) = ((l.length - room most : Nat) : Int) := by rw [wi64 (by omega)]; omega
    rw [hn, Int.toNat_natCast]
    rw [List.take_length] at h3 hG
    have hst := adds_take most l (by omega) l.length (Nat.le_refl _)
    rw [List.take_length] at hst
    rw [hst] at h3 hG
    have md := Mod.drew (S := []) w3
    have hrd : Rd w3.drew a ((l.take (l.length - room most)).map iv) := by rw [List.map_take]; exact ((hr.mod M3 (by simp)).mod md (by simp)).take _
    have htk : (l.take (l.length - room most)).length = l.length - room most := by rw [List.length_take]; omega
    have hdk : (l.drop (l.length - room most)).length = l.length - (l.length - room most) := by simp
    refine ⟨by omega, by omega, ?_⟩
    have hsame := same_ok b a (l.take (l.length - room most)) (l.take (l.length - room most)) d c w3.drew (by omega) o3.rd.drew hrd
    rw [htk] at hsame
    refine hsame.mono ?_
    rintro _ w4 ⟨rfl, m4⟩
    have m34 := md.none m4
    refine ⟨_, rfl, ?_⟩
    rw [if_pos (by simp)]
    refine ⟨by omega, by omega, ?_⟩
    have h4 := h3.mod m34 (by simp)
    refine (items_ok h4 hG).mono ?_
    rintro _ w5 ⟨a5, c5, rfl, o5, m5, _⟩
    refine ⟨_, _, _, rfl, ?_⟩
    have hrd2 : Rd w5 (cutA a c (l.length - room most) 1) ((l.drop (l.length - room most)).map iv) := by
      have := (((hr.mod M3 (by simp)).mod m34 (by simp)).mod m5 (by simp)).cut (c := c) (l := l.length - room most) (z := 1) (by simpa using hc)
      rwa [Nat.mul_one, ← List.map_drop] at this
    have hsame2 := same_ok a5 (cutA a c (l.length - room most) 1) (l.drop (l.length - room most)) (l.drop (l.length - room most)) c5 (c - (l.length - room most)) w5 (by omega) o5.rd hrd2
    rw [hdk] at hsame2
    simp only [hdk]
    refine hsame2.mono ?_
    rintro _ w6 ⟨rfl, m6⟩
    refine ⟨_, rfl, ?_⟩
    rw [if_pos (by simp)]
    have h6 := (h4.mod m5 (by simp)).mod m6 (by simp)
    refine (dropped_ok h6).mono ?_
    rintro _ _ ⟨rfl, rfl⟩
    refine ⟨_, rfl, ?_⟩
    rw [if_pos rfl]
    refine (lives_ok w6).mono ?_
    rintro _ w' ⟨rfl, hm'⟩
    exact ⟨_, rfl, rfl, (((M3.none m34).none m5).none m6).none hm'⟩

/-! ### HistoryNone -/
section
variable {w : World} {a : Option Addr} (h : Does Try.prog 20 #[.pointer a] w fun v w' => v = .bool false ∧ w = w')
include h
theorem addN (x : Int) : Does Try.prog 12 #[.pointer a, .int .i64 x] w fun v w' => v = .tuple #[.int .i64 0, .bool false] ∧ w = w' := by
  apply w12
  unfold F12
  refine h.mono ?_
  rintro _ _ ⟨rfl, rfl⟩
  refine ⟨_, rfl, ?_⟩
  rw [if_pos (by simp)]
  exact ⟨rfl, rfl⟩
theorem hasN (x : Int) : Does Try.prog 10 #[.pointer a, .int .i64 x] w fun v w' => v = .bool false ∧ w = w' := by
  apply w10
  unfold F10
  refine h.mono ?_
  rintro _ _ ⟨rfl, rfl⟩
  refine ⟨_, rfl, ?_⟩
  rw [if_neg (by simp)]
  exact ⟨rfl, rfl⟩
theorem itemsN : Does Try.prog 16 #[.pointer a] w fun v w' => v = .slice none 0 0 ∧ w = w' := by
  apply w16
  unfold F16
  refine h.mono ?_
  rintro _ _ ⟨rfl, rfl⟩
  refine ⟨_, rfl, ?_⟩
  rw [if_pos (by simp)]
  exact ⟨rfl, rfl⟩
theorem lenN : Does Try.prog 19 #[.pointer a] w fun v w' => v = .int .i64 0 ∧ w = w' := by
  apply w19
  unfold F19
  refine h.mono ?_
  rintro _ _ ⟨rfl, rfl⟩
  refine ⟨_, rfl, ?_⟩
  rw [if_pos (by simp)]
  exact ⟨rfl, rfl⟩
theorem droppedN : Does Try.prog 17 #[.pointer a] w fun v w' => v = .int .i64 0 ∧ w = w' := by
  apply w17
  unfold F17
  refine h.mono ?_
  rintro _ _ ⟨rfl, rfl⟩
  refine ⟨_, rfl, ?_⟩
  rw [if_pos (by simp)]
  exact ⟨rfl, rfl⟩
theorem cloneN : Does Try.prog 18 #[.pointer a] w fun v w' => v = .pointer none ∧ w = w' := by
  apply w18
  unfold F18
  refine h.mono ?_
  rintro _ _ ⟨rfl, rfl⟩
  refine ⟨_, rfl, ?_⟩
  rw [if_pos (by simp)]
  exact ⟨rfl, rfl⟩
end
theorem historyNone_ok (x : Int) (w : World) : Does Try.prog 6 #[.int .i64 x] w fun v w' => v = .bool true ∧ Mod [] w w' := by
  apply w6
  unfold F6 New
  have hB := Blk.new w 44 [.bool false, .int .i64 0, .slice none 0 0, .int .i64 0]
  have hm := Mod.push (S := []) w 44 [.bool false, .int .i64 0, .slice none 0 0, .int .i64 0]
  rw [fresh_base]
  dsimp only
  generalize push w 44 [.bool false, .int .i64 0, .slice none 0 0, .int .i64 0] = w1 at *
  have n1 := ok_nil w1
  have z1 := ok_zero hB
  refine (addN n1 x).mono ?_
  rintro _ _ ⟨rfl, rfl⟩
  refine ⟨_, _, rfl, (addN z1 x).mono ?_⟩
  rintro _ _ ⟨rfl, rfl⟩
  refine ⟨_, _, rfl, ?_⟩
  rw [if_neg (by simp), if_neg (by simp), if_neg (by simp), if_neg (by simp)]
  refine (hasN n1 x).mono ?_
  rintro _ _ ⟨rfl, rfl⟩
  refine ⟨_, rfl, ?_⟩
  rw [if_neg (by simp)]
  refine (hasN z1 x).mono ?_
  rintro _ _ ⟨rfl, rfl⟩
  refine ⟨_, rfl, ?_⟩
  rw [if_neg (by simp)]
  refine (cloneN n1).mono ?_
  rintro _ _ ⟨rfl, rfl⟩
  refine ⟨_, rfl, ?_⟩
  rw [if_neg (by simp)]
  refine (cloneN z1).mono ?_
  rintro _ _ ⟨rfl, rfl⟩
  refine ⟨_, rfl, ?_⟩
  rw [if_neg (by simp)]
  refine (itemsN n1).mono ?_
  rintro _ _ ⟨rfl, rfl⟩
  refine ⟨_, _, _, rfl, (itemsN z1).mono ?_⟩
  rintro _ _ ⟨rfl, rfl⟩
  refine ⟨_, _, _, rfl, (lenN n1).mono ?_⟩
  rintro _ _ ⟨rfl, rfl⟩
  refine ⟨_, rfl, (lenN z1).mono ?_⟩
  rintro _ _ ⟨rfl, rfl⟩
  refine ⟨_, rfl, (droppedN n1).mono ?_⟩
  rintro _ _ ⟨rfl, rfl⟩
  refine ⟨_, rfl, (droppedN z1).mono ?_⟩
  rintro _ _ ⟨rfl, rfl⟩
  refine ⟨_, rfl, ?_⟩
  rw [if_pos (by decide)]
  refine (lives_ok w1).mono ?_
  rintro _ w' ⟨rfl, hm'⟩
  exact ⟨_, rfl, rfl, hm.none hm'⟩
end Go.Proofs.Ythgmcidaphbibaa
