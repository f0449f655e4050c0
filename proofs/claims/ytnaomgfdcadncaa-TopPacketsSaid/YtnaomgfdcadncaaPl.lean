/-
  The plain law: which packets lie completely in frames that were not lost.
-/
import Derived.Test.YtnaomgfdcadncaaTakeU
import Derived.Test.YtnaomgfdcadncaaPackNext
namespace Go.Proofs.Ytnaomgfdcadncaa
open Go Go.Sh Go.Proofs
set_option linter.unusedVariables false
set_option linter.unusedSimpArgs false
set_option linter.unusedSectionVars false

theorem psum_mono1 {L : List (Bool × List UInt8)} (c : Nat) : psum L c ≤ psum L (c + 1) := by
  rcases Nat.lt_or_ge c L.length with h | h
  · have := psum_succ h; omega
  · unfold psum
    rw [List.take_of_length_le h, List.take_of_length_le (by omega)]
    exact Nat.le_refl _
theorem psum_mono {L : List (Bool × List UInt8)} {c d : Nat} (h : c ≤ d) : psum L c ≤ psum L d := by
  induction d with
  | zero => rw [Nat.le_zero.1 h]; exact Nat.le_refl _
  | succ d ih =>
    rcases Nat.lt_or_ge c (d + 1) with h1 | h1
    · exact Nat.le_trans (ih (by omega)) (psum_mono1 d)
    · rw [show c = d + 1 by omega]; exact Nat.le_refl _
theorem psum_full (L : List (Bool × List UInt8)) {c : Nat} (h : L.length ≤ c) : psum L c = (flat L).length := by
  unfold psum
  rw [List.take_of_length_le h]
theorem psum_drop (L : List (Bool × List UInt8)) (c d : Nat) : psum L c + psum (L.drop c) d = psum L (c + d) := by
  unfold psum flat
  rw [← List.length_append, ← List.flatten_append, ← List.map_append]
  congr 3
  exact (List.take_add (l := L) (i := c) (j := d)).symm
theorem brk_succ {L : List (Bool × List UInt8)} {c m : Nat} (h : Brk L c m) (hc : c < L.length) : m < psum L (c + 1) := by
  rw [psum_succ hc]; exact h hc
/-- One place in the stream. -/
theorem idx_one {L : List (Bool × List UInt8)} {c d m : Nat} (hc : c ≤ L.length) (hd : d ≤ L.length) (h1 : psum L c ≤ m) (h2 : Brk L c m) (h3 : psum L d ≤ m) (h4 : Brk L d m) : c = d := by
  rcases Nat.lt_trichotomy c d with h | h | h
  · have := brk_succ h2 (by omega)
    have := psum_mono (L := L) (show c + 1 ≤ d by omega)
    omega
  · exact h
  · have := brk_succ h4 (by omega)
    have := psum_mono (L := L) (show d + 1 ≤ c by omega)
    omega
theorem idx_le {L : List (Bool × List UInt8)} {c d m m' : Nat} (hd : d ≤ L.length) (hc : c ≤ L.length) (h1 : psum L c ≤ m) (h4 : Brk L d m') (hm : m ≤ m') : c ≤ d := by
  rcases Nat.lt_or_ge d c with h | h
  · have := brk_succ h4 (by omega)
    have := psum_mono (L := L) (show d + 1 ≤ c by omega)
    omega
  · exact h
theorem idx_ex (L : List (Bool × List UInt8)) (m : Nat) : ∃ c, c ≤ L.length ∧ psum L c ≤ m ∧ Brk L c m := by
  have : ∀ n, n ≤ L.length → ∃ c, c ≤ L.length ∧ psum L c ≤ m ∧ (Brk L c m ∨ c = n) := by
    intro n
    induction n with
    | zero => intro _; exact ⟨0, by omega, Nat.zero_le _, .inr rfl⟩
    | succ n ih =>
      intro hn
      obtain ⟨c, h1, h2, h3⟩ := ih (by omega)
      rcases h3 with h3 | h3
      · exact ⟨c, h1, h2, .inl h3⟩
      · subst h3
        by_cases hh : m < psum L (c + 1)
        · exact ⟨c, h1, h2, .inl (fun h => by rw [← psum_succ h]; exact hh)⟩
        · exact ⟨c + 1, hn, by omega, .inr rfl⟩
  obtain ⟨c, h1, h2, h3⟩ := this L.length (Nat.le_refl _)
  refine ⟨c, h1, h2, ?_⟩
  rcases h3 with h3 | h3
  · exact h3
  · intro h; omega

section
variable (sz : Nat) (lost : Nat → Bool) (L : List (Bool × List UInt8)) (N : Nat)
def good (p k : Nat) : Prop := ∀ m, p / sz ≤ m → m < k → lost m = false
def gd (i : Nat) : Prop := good sz lost (psum L i) ((psum L (i + 1) - 1) / sz + 1)
open Classical in
noncomputable def rcv (c : Nat) : List (List UInt8) := (List.range c).flatMap fun i => if i < N ∧ gd sz lost L i then [((L[i]?).map (·.2)).getD []] else []
open Classical in
theorem rcv_succ (c : Nat) : rcv sz lost L N (c + 1) = rcv sz lost L N c ++ if c < N ∧ gd sz lost L c then [((L[c]?).map (·.2)).getD []] else [] := by
  unfold rcv
  rw [List.range_succ, List.flatMap_append]
  simp
theorem rcv_same {c c' : Nat} (h : c ≤ c') (hn : ∀ i, c ≤ i → i < c' → i < N → ¬ gd sz lost L i) : rcv sz lost L N c' = rcv sz lost L N c := by
  induction c' with
  | zero => rw [Nat.le_zero.1 h]
  | succ d ih =>
    rcases Nat.lt_or_ge c (d + 1) with h1 | h1
    · rw [rcv_succ, ih (by omega) (fun i h2 h3 => hn i h2 (by omega)), if_neg (fun hh => hn d (by omega) (by omega) hh.1 hh.2), List.append_nil]
    · rw [show c = d + 1 by omega]
theorem rcv_ext (hf : ∀ i, (h : i < L.length) → L[i].1 = decide (N ≤ i)) {c : Nat} (d : Nat) (hd : c + d ≤ L.length) (hg : ∀ i, c ≤ i → i < c + d → i < N → gd sz lost L i) : rcv sz lost L N (c + d) = rcv sz lost L N c ++ (((L.drop c).take d).filter (fun e => !e.1)).map (·.2) := by
  induction d with
  | zero => simp
  | succ d ih =>
    have hl : d < (L.drop c).length := by rw [List.length_drop]; omega
    rw [← Nat.add_assoc, rcv_succ, ih (by omega) (fun i h1 h2 => hg i h1 (by omega)), List.take_succ_eq_append_getElem hl, List.filter_append, List.map_append, List.append_assoc]
    congr 2
    have e : (L.drop c)[d] = L[c + d] := by rw [List.getElem_drop]
    rw [e]
    have hfd := hf (c + d) (by omega)
    by_cases hN : c + d < N
    · rw [if_pos ⟨hN, hg _ (by omega) (by omega) hN⟩]
      rw [decide_eq_false (by omega)] at hfd
      rw [List.getElem?_eq_getElem (by omega)]
      simp [hfd]
    · rw [if_neg (fun hh => hN hh.1)]
      rw [decide_eq_true (by omega)] at hfd
      simp [hfd]

/-- The unpacker before frame k. -/
structure Ui (k c : Nat) (begun st : Bool) (next : Nat) (R : List UInt8) (O : List (List UInt8)) : Prop where
  cl : c ≤ L.length
  p1 : psum L c ≤ k * sz
  br : Brk L c (k * sz)
  nx : next < 256
  bg : begun = true → ∃ m, m < k ∧ lost m = false ∧ (∀ m', m < m' → m' < k → lost m' = true) ∧ next = (m + 1) % 256
  nb : begun = false → st = false ∧ ∀ m, m < k → lost m = true
  u2 : ∀ k', k = k' + 1 → lost k' = false → st = true → R = (flat (L.drop c)).take (k * sz - psum L c) ∧ good sz lost (psum L c) k
  u3 : ∀ k', k = k' + 1 → lost k' = false → st = false → psum L c < k * sz → ¬ good sz lost (psum L c) k
  u4 : O = rcv sz lost L N c
end

section
variable {sz : Nat} {lost : Nat → Bool} {L : List (Bool × List UInt8)} {N k c next : Nat} {begun st : Bool} {R : List UInt8} {O : List (List UInt8)} (u : Ui sz lost L N k c begun st next R O)
include u
theorem Ui.step (hl : ∀ m, 255 ≤ m → lost m = false) : inStep begun st next (k % 256) = true ↔ ∃ k', k = k' + 1 ∧ lost k' = false ∧ st = true := by
  obtain ⟨cl, p1, br, nx, bg, nb, u2, u3, u4⟩ := u
  unfold inStep
  cases hb : begun with
  | false =>
    obtain ⟨h1, h2⟩ := nb hb
    rw [h1]
    simp
  | true =>
    obtain ⟨m, h1, h2, h3, h4⟩ := bg hb
    simp only [Bool.not_true, Bool.false_or, Bool.and_eq_true, decide_eq_true_eq]
    constructor
    · rintro ⟨hs, hz⟩
      refine ⟨m, ?_, h2, hs⟩
      rcases Nat.lt_or_ge (m + 1) k with h5 | h5
      · exfalso
        have h6 := h3 (k - 1) (by omega) (by omega)
        have h7 : k - 1 < 255 := by
          rcases Nat.lt_or_ge (k - 1) 255 with h | h
          · exact h
          · rw [hl _ h] at h6; cases h6
        omega
      · omega
    · rintro ⟨k', hk, hk', hs⟩
      refine ⟨hs, ?_⟩
      have : m = k' := by
        rcases Nat.lt_or_ge m k' with h5 | h5
        · have := h3 k' h5 (by omega); rw [hk'] at this; cases this
        · omega
      omega
/-- Not in step: the packet that is under way lost a frame. -/
theorem Ui.torn (hsz : 0 < sz) (h : ¬ ∃ k', k = k' + 1 ∧ lost k' = false ∧ st = true) (hp : psum L c < k * sz) : ¬ good sz lost (psum L c) k := by
  intro hg
  obtain ⟨k', rfl⟩ : ∃ k', k = k' + 1 := ⟨k - 1, by
    rcases Nat.eq_zero_or_pos k with h0 | h0
    · rw [h0] at hp; simp at hp
    · omega⟩
  have hd : psum L c / sz ≤ k' := by
    have := (Nat.div_lt_iff_lt_mul hsz).2 hp
    omega
  have h1 := hg k' hd (by omega)
  have h2 : st = false := by
    cases hs : st with
    | false => rfl
    | true => exact absurd ⟨k', rfl, h1, hs⟩ h
  exact u.u3 k' rfl h1 h2 hp hg
/-- Frame k is lost. -/
theorem Ui.gone (hk : lost k = true) (hsz : 0 < sz) (hpos : ∀ e ∈ L, 1 ≤ e.2.length) : ∃ c', Ui sz lost L N (k + 1) c' begun st next R O := by
  obtain ⟨cl, p1, br, nx, bg, nb, u2, u3, u4⟩ := u
  obtain ⟨c', h1, h2, h3⟩ := idx_ex L ((k + 1) * sz)
  have hcc : c ≤ c' := idx_le h1 cl p1 h3 (Nat.mul_le_mul_right sz (by omega))
  refine ⟨c', h1, h2, h3, nx, fun hb => ?_, fun hb => ⟨(nb hb).1, fun m hm => ?_⟩, fun k' hk' hl => ?_, fun k' hk' hl => ?_, ?_⟩
  · obtain ⟨m, a1, a2, a3, a4⟩ := bg hb
    refine ⟨m, by omega, a2, fun m' b1 b2 => ?_, a4⟩
    rcases Nat.lt_or_ge m' k with h | h
    · exact a3 m' b1 h
    · rw [show m' = k by omega]; exact hk
  · rcases Nat.lt_or_ge m k with h | h
    · exact (nb hb).2 m h
    · rw [show m = k by omega]; exact hk
  · rw [show k' = k by omega, hk] at hl; cases hl
  · rw [show k' = k by omega, hk] at hl; cases hl
  · rw [u4]
    refine (rcv_same sz lost L N hcc fun i b1 b2 b3 hg => ?_).symm
    have hi : i < L.length := by omega
    have c1 := brk_succ br (by omega)
    have c2 := psum_mono (L := L) (show c + 1 ≤ i + 1 by omega)
    have c3 := psum_mono (L := L) (show i + 1 ≤ c' by omega)
    have hlt : (psum L (i + 1) - 1) / sz = k := by
      have e1 : (psum L (i + 1) - 1) / sz < k + 1 := (Nat.div_lt_iff_lt_mul hsz).2 (by omega)
      have e2 : k ≤ (psum L (i + 1) - 1) / sz := (Nat.le_div_iff_mul_le hsz).2 (by omega)
      omega
    have c4 := psum_mono1 (L := L) i
    have hki : psum L i / sz ≤ k := by
      rw [← hlt]
      refine Nat.div_le_div_right ?_
      have e1 := psum_succ hi
      have e2 := hpos _ (List.getElem_mem hi)
      omega
    have := hg k hki (by rw [hlt]; omega)
    rw [hk] at this
    cases this
omit u in
/-- Frame k arrives, and what is read begins at packet c1. -/
theorem Ui.got (hk : lost k = false) (hsz : 0 < sz) (hf : ∀ i, (h : i < L.length) → L[i].1 = decide (N ≤ i)) {c1 d : Nat} (hc1 : c1 ≤ L.length) (hO : O = rcv sz lost L N c1) (hg : good sz lost (psum L c1) k) (hp : psum L c1 ≤ (k + 1) * sz) (hd : d ≤ (L.drop c1).length) (h1 : psum (L.drop c1) d ≤ (k + 1) * sz - psum L c1) (h2 : Brk (L.drop c1) d ((k + 1) * sz - psum L c1)) :
    Ui sz lost L N (k + 1) (c1 + d) true true ((k % 256 + 1) % 256) ((flat ((L.drop c1).drop d)).take ((k + 1) * sz - psum L c1 - psum (L.drop c1) d)) (O ++ (((L.drop c1).take d).filter (fun e => !e.1)).map (·.2)) := by
  have hpd := psum_drop L c1 d
  rw [List.length_drop] at hd
  have hgk : ∀ i, c1 ≤ i → ∀ m, psum L i / sz ≤ m → m < k + 1 → lost m = false := by
    intro i hi m h3 h4
    rcases Nat.lt_or_ge m k with h | h
    · exact hg m (Nat.le_trans (Nat.div_le_div_right (psum_mono hi)) h3) h
    · rw [show m = k by omega]; exact hk
  refine ⟨by omega, by omega, fun h => ?_, Nat.mod_lt _ (by decide), fun _ => ⟨k, by omega, hk, fun m' a b => by omega, by omega⟩, (by intro h; cases h), fun k' hk' hl hs => ⟨?_, hgk (c1 + d) (by omega)⟩, (by intro k' _ _ h; cases h), ?_⟩
  · have := h2 (by rw [List.length_drop]; omega)
    rw [List.getElem_drop] at this
    omega
  · rw [List.drop_drop]
    congr 1
    omega
  · rw [hO]
    refine (rcv_ext sz lost L N hf d (by omega) fun i a b _ => ?_).symm
    intro m h3 h4
    refine hgk i a m h3 ?_
    have c3 := psum_mono (L := L) (show i + 1 ≤ c1 + d by omega)
    have : (psum L (i + 1) - 1) / sz < k + 1 := (Nat.div_lt_iff_lt_mul hsz).2 (by have := Nat.mul_pos (show 0 < k + 1 by omega) hsz; omega)
    omega
/-- Frame k arrives, holds no beginning, and is of no use. -/
theorem Ui.none (hk : lost k = false) (hsz : 0 < sz) (hpos : ∀ e ∈ L, 1 ≤ e.2.length) (hc : c < L.length) (ht : ¬ good sz lost (psum L c) k) (hp : (k + 1) * sz ≤ psum L (c + 1)) : ∃ c', Ui sz lost L N (k + 1) c' true false ((k % 256 + 1) % 256) [] O := by
  obtain ⟨cl, p1, br, nx, bg, nb, u2, u3, u4⟩ := u
  have ht' : ¬ good sz lost (psum L c) (k + 1) := fun h => ht fun m a b => h m a (by omega)
  have hps := psum_succ hc
  have hbg : true = true → ∃ m, m < k + 1 ∧ lost m = false ∧ (∀ m', m < m' → m' < k + 1 → lost m' = true) ∧ (k % 256 + 1) % 256 = (m + 1) % 256 := fun _ => ⟨k, by omega, hk, fun m' a b => by omega, by omega⟩
  have hkk : k * sz ≤ (k + 1) * sz := Nat.mul_le_mul_right sz (by omega)
  rcases Nat.lt_or_ge ((k + 1) * sz) (psum L (c + 1)) with h | h
  · exact ⟨c, cl, by omega, fun h' => by omega, Nat.mod_lt _ (by decide), hbg, (by intro h; cases h), (by intro k' _ _ h; cases h), fun k' a b e f => ht', u4⟩
  · refine ⟨c + 1, by omega, h, fun h' => ?_, Nat.mod_lt _ (by decide), hbg, (by intro h; cases h), (by intro k' _ _ h; cases h), fun k' a b e f => by omega, ?_⟩
    · have := hpos _ (List.getElem_mem h')
      omega
    · rw [u4]
      refine (rcv_same sz lost L N (by omega) fun i a b _ hgd => ?_).symm
      have : i = c := by omega
      subst this
      have e : (psum L (i + 1) - 1) / sz = k := by
        have e1 : (psum L (i + 1) - 1) / sz < k + 1 := (Nat.div_lt_iff_lt_mul hsz).2 (by have := Nat.mul_pos (show 0 < k + 1 by omega) hsz; omega)
        have e2 : k ≤ (psum L (i + 1) - 1) / sz := (Nat.le_div_iff_mul_le hsz).2 (by rw [Nat.add_mul] at h hp; omega)
        omega
      unfold gd at hgd
      rw [e] at hgd
      exact ht' hgd
end

/-! ### The packer's side -/
def idl (n : Nat) : List UInt8 := pk true 0 (zeros (max n 7 - 6))
theorem qs_at (Ld : List (Bool × List UInt8)) (c taken : Nat) : qs taken ((Ld.drop c).map (·.2)) = (flat Ld).drop (psum Ld c + taken) := by
  unfold qs
  rw [flat_split Ld c, ← List.drop_drop]
  congr 1
  unfold psum
  rw [List.drop_left]
  rfl
theorem psum_app (Ld M : List (Bool × List UInt8)) {c : Nat} (h : c ≤ Ld.length) : psum (Ld ++ M) c = psum Ld c := by
  unfold psum
  rw [List.take_append_of_le_length h]
theorem fs_at {Ld : List (Bool × List UInt8)} {c p : Nat} (hc : c < Ld.length) (h1 : psum Ld c ≤ p) (h2 : p < psum Ld (c + 1)) : fs (p - psum Ld c) ((Ld.drop c).map (·.2)) = if psum Ld c = p then 0 else psum Ld (c + 1) - p := by
  have := psum_succ hc
  unfold fs
  rw [List.drop_eq_getElem_cons hc]
  split
  · rw [if_pos (by omega)]
  · rw [if_neg (by omega)]
    show Ld[c].2.length - (p - psum Ld c) = _
    omega
theorem flat_app (Ld : List (Bool × List UInt8)) (x : List UInt8) (b : Bool) : flat (Ld ++ [(b, x)]) = flat Ld ++ x := by
  unfold flat
  rw [List.map_append, List.flatten_append]
  simp
theorem frame_at (Ld : List (Bool × List UInt8)) {sz k n : Nat} (hk : k * sz < (flat Ld).length) (hn : (flat Ld).length < (k + 1) * sz → n = (k + 1) * sz - (flat Ld).length) : frame sz ((flat Ld).drop (k * sz)) = ((flat (Ld ++ [(true, idl n)])).drop (k * sz)).take sz := by
  unfold frame
  rw [flat_app, List.drop_append_of_le_length (by omega)]
  rw [Nat.add_mul] at hn
  rcases Nat.lt_or_ge (flat Ld).length (k * sz + sz) with h | h
  · have e := hn (by omega)
    have e2 : sz - ((flat Ld).drop (k * sz)).length = n := by rw [List.length_drop]; omega
    rw [e2]
    rfl
  · rw [List.take_append_of_le_length (by rw [List.length_drop]; omega), List.take_append_of_le_length (by rw [List.length_drop]; omega)]
end Go.Proofs.Ytnaomgfdcadncaa
