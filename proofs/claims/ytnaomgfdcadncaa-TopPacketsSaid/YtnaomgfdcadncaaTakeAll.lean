/-
  One frame that arrives, taken.
-/
import Derived.Test.YtnaomgfdcadncaaPl
namespace Go.Proofs.Ytnaomgfdcadncaa
open Go Go.Sh Go.Proofs
set_option linter.unusedVariables false
set_option linter.unusedSimpArgs false
set_option linter.unusedSectionVars false

theorem flat_at (L : List (Bool × List UInt8)) (c : Nat) : flat (L.drop c) = (flat L).drop (psum L c) := by
  rw [flat_split L c]
  unfold psum
  rw [List.drop_left]
/-- What the taking of frame k leaves. -/
def TU (w w' : World) (gu sz : Nat) (lost : Nat → Bool) (L : List (Bool × List UInt8)) (N k : Nat) (O : List (List UInt8)) (v : Value) : Prop :=
  Mod [gu] w w' ∧ ∃ oa oc, ∃ news : List Dt, ∃ c' st' next' R', v = .slice oa news.length oc ∧ Rd w' oa (news.map Dt.val) ∧ (∀ d ∈ news, d.ok w') ∧ Upk w' gu true st' next' R' ∧ Ui sz lost L N (k + 1) c' true st' next' R' (O ++ news.map (·.l))
theorem tu_of {w w' : World} {gu sz N k c1 : Nat} {lost : Nat → Bool} {L : List (Bool × List UInt8)} {O : List (List UInt8)} {v : Value} (hk : lost k = false) (hsz : 0 < sz) (hf : ∀ i, (h : i < L.length) → L[i].1 = decide (N ≤ i)) (hc1 : c1 ≤ L.length) (hO : O = rcv sz lost L N c1) (hg : good sz lost (psum L c1) k) (hp : psum L c1 ≤ (k + 1) * sz)
    (r : Res w w' gu true ((k % 256 + 1) % 256) (L.drop c1) ((k + 1) * sz - psum L c1) v) : TU w w' gu sz lost L N k O v := by
  obtain ⟨m, d, oa, oc, outs, hv, o, ok, e, hd, h1, h2, up, _⟩ := r
  refine ⟨m, oa, oc, outs, c1 + d, true, _, _, hv, o.rd, ok, up, ?_⟩
  rw [e]
  exact Ui.got hk hsz hf hc1 hO hg hp hd h1 h2

theorem takeAll_ok {w : World} {gu sz N k c next : Nat} {lost : Nat → Bool} {L : List (Bool × List UInt8)} {O : List (List UInt8)} {begun st : Bool} {R D : List UInt8} {da : Option Addr} {dc f : Nat} (u : Ui sz lost L N k c begun st next R O) (h : Upk w gu begun st next R) (hk : lost k = false) (hl : ∀ m, 255 ≤ m → lost m = false) (hsz : 20 ≤ sz ∧ sz ≤ 200) (hL : ∀ e ∈ L, isP e) (hf : ∀ i, (h : i < L.length) → L[i].1 = decide (N ≤ i)) (hc : c < L.length)
    (hT : (k + 1) * sz ≤ (flat L).length) (hTT : (flat L).length ≤ 50000) (hLl : L.length ≤ 1000) (hD : D = ((flat L).drop (k * sz)).take sz) (oD : Own w 5 1 da D.length dc (D.map bv)) {fz : Nat} (hfz : fz = if psum L c = k * sz then 0 else psum L (c + 1) - k * sz) (hff : f = if fz < sz then fz else 2047) :
    Does Try.prog 10 #[.pointer (some (base gu)), .int .i64 ((k % 256 : Nat) : Int), .int .i64 (f : Int), .slice da D.length dc] w fun v w' => TU w w' gu sz lost L N k O v := by
  have hm1 := Nat.add_mul k 1 sz
  rw [Nat.one_mul] at hm1
  have hDl : D.length = sz := by rw [hD, List.length_take, List.length_drop]; omega
  have hpos : ∀ e ∈ L, 1 ≤ e.2.length := fun e he => by
    obtain ⟨i, d, _, _, _, hp⟩ := hL e he
    rw [hp, pk_len]
    omega
  have hp1 := u.p1
  have hbr := brk_succ u.br hc
  have hps := psum_succ hc
  obtain ⟨i, d, hi, hd1, hd2, hpk⟩ := hL _ (List.getElem_mem hc)
  have hLcl : L[c].2.length = d.length + 6 := by rw [hpk, pk_len]; omega
  have hLd : ∀ c1, ∀ e ∈ L.drop c1, isP e := fun c1 e he => hL e (List.mem_of_mem_drop he)
  have hlen : ∀ c1, psum L c1 ≤ (k + 1) * sz → (k + 1) * sz - psum L c1 ≤ (flat (L.drop c1)).length := fun c1 h1 => by
    have := psum_le L c1
    omega
  have hLdl : ∀ c1, (L.drop c1).length ≤ 1000 := fun c1 => by rw [List.length_drop]; omega
  have hk256 : k % 256 < 256 := Nat.mod_lt _ (by decide)
  by_cases hs : inStep begun st next (k % 256) = true
  · obtain ⟨k', hkk, hk', hst⟩ := (u.step hl).1 hs
    obtain ⟨hR, hgood⟩ := u.u2 k' hkk hk' hst
    have hX : flat (L.drop c) = L[c].2 ++ flat (L.drop (c + 1)) := flat_drop hc
    have hXl := psum_le L c
    have hRl : R.length = k * sz - psum L c := by rw [hR, List.length_take]; omega
    have hDX : D = ((flat (L.drop c)).drop (k * sz - psum L c)).take sz := by
      rw [hD, flat_at, List.drop_drop]
      congr 2
      omega
    have hRD : R ++ D = (flat (L.drop c)).take ((k + 1) * sz - psum L c) := by
      rw [hR, hDX, show (k + 1) * sz - psum L c = (k * sz - psum L c) + sz by omega]
      exact List.take_add.symm
    have hh : R ≠ [] → Head (R ++ D.take 6) L[c].2.length ∧ R.length ≤ L[c].2.length := fun _ => by
      refine ⟨?_, by omega⟩
      rw [hLcl]
      refine head_of L[c].1 i d.length ?_ ⟨hd1, hd2⟩
      have e : R ++ D.take 6 = (flat (L.drop c)).take ((k * sz - psum L c) + 6) := by
        rw [hR, hDX, List.take_take, Nat.min_eq_left (by omega)]
        exact List.take_add.symm
      rw [e, List.take_take, Nat.min_eq_left (by omega), hX, hpk]
      exact pk_take _ _ _ _
    have hf2 : f = if R.length = 0 then 0 else if L[c].2.length - R.length < D.length then L[c].2.length - R.length else 2047 := by
      rw [hff, hfz, hRl, hDl]
      by_cases h0 : psum L c = k * sz
      · rw [if_pos h0, if_pos (by omega), if_pos (by omega)]
      · rw [if_neg h0, if_neg (by omega : ¬ k * sz - psum L c = 0)]
        have : psum L (c + 1) - k * sz = L[c].2.length - (k * sz - psum L c) := by omega
        rw [this]
    have hr5 : R.length ≤ 5000 := by omega
    rcases Nat.lt_or_ge fz sz with h1 | h1
    · rw [if_pos h1] at hff
      refine (takeA1 (L := L.drop c) (m := (k + 1) * sz - psum L c) (k % 256) L[c].2.length h hk256 u.nx hs oD (by omega) hr5 hh hf2 (by omega) hRD (hLd c) (hlen c (by omega)) (by omega) (hLdl c)).mono ?_
      intro v w' r
      exact tu_of hk (by omega) hf u.cl u.u4 hgood (by omega) r
    · rw [if_neg (by omega)] at hff
      refine (takeA5 (L := L.drop c) (m := (k + 1) * sz - psum L c) (k % 256) L[c].2.length h hk256 u.nx hs oD (by omega) hr5 hh hf2 hff hRD (hLd c) (hlen c (by omega)) (by omega) (hLdl c)).mono ?_
      intro v w' r
      exact tu_of hk (by omega) hf u.cl u.u4 hgood (by omega) r
  · have hs' : inStep begun st next (k % 256) = false := by cases hh : inStep begun st next (k % 256); rfl; exact absurd hh hs
    have hno : ¬ ∃ k', k = k' + 1 ∧ lost k' = false ∧ st = true := fun hh => hs ((u.step hl).2 hh)
    have torn : psum L c < k * sz → ¬ good sz lost (psum L c) k := u.torn (by omega) hno
    rcases Nat.lt_or_ge fz sz with h1 | h1
    · rw [if_pos h1] at hff
      subst hff
      have key : ∀ c1, c1 ≤ L.length → psum L c1 = k * sz + f → O = rcv sz lost L N c1 → Does Try.prog 10 #[.pointer (some (base gu)), .int .i64 ((k % 256 : Nat) : Int), .int .i64 (f : Int), .slice da D.length dc] w fun v w' => TU w w' gu sz lost L N k O v := by
        intro c1 hc1 hpc hO
        have hRD : D.drop f = (flat (L.drop c1)).take ((k + 1) * sz - psum L c1) := by
          rw [hD, flat_at, List.drop_take, List.drop_drop, hpc]
          congr 1
          omega
        refine (takeC (L := L.drop c1) (m := (k + 1) * sz - psum L c1) (k % 256) h hk256 u.nx hs' oD (by omega) (by omega) hRD (hLd c1) (hlen c1 (by omega)) (by omega) (hLdl c1)).mono ?_
        intro v w' r
        refine tu_of hk (by omega) hf hc1 hO (fun m a b => ?_) (by omega) r
        have : k ≤ psum L c1 / sz := (Nat.le_div_iff_mul_le (by omega)).2 (by omega)
        omega
      by_cases h0 : psum L c = k * sz
      · rw [if_pos h0] at hfz
        exact key c u.cl (by omega) u.u4
      · rw [if_neg h0] at hfz
        refine key (c + 1) (by omega) (by omega) ?_
        rw [u.u4]
        refine (rcv_same sz lost L N (by omega) fun i' a b _ hgd => ?_).symm
        have : i' = c := by omega
        subst this
        refine torn (by omega) fun m a' b' => hgd m a' ?_
        have : k ≤ (psum L (i' + 1) - 1) / sz := (Nat.le_div_iff_mul_le (by omega)).2 (by omega)
        omega
    · rw [if_neg (by omega)] at hff
      have h0 : ¬ psum L c = k * sz := fun h0 => by rw [if_pos h0] at hfz; omega
      rw [if_neg h0] at hfz
      refine (takeB (da := da) (D := D) (dc := dc) (k % 256) h hk256 u.nx hs' hff).mono ?_
      rintro _ w' ⟨rfl, m, up⟩
      obtain ⟨c', u'⟩ := u.none hk (by omega) hpos hc (torn (by omega)) (by omega)
      exact ⟨m, none, 0, [], c', false, _, _, rfl, Rd.nil, by simp, up, by simpa using u'⟩
end Go.Proofs.Ytnaomgfdcadncaa
