/-
  The two ends together: the plain law, and the law's contract.
-/
import Derived.Test.YthcebibacphblaaRep
namespace Go.Proofs.Ythcebibacphblaa
open Go Go.Sh Go.Proofs
set_option linter.unusedVariables false
set_option linter.unusedSimpArgs false
set_option linter.unusedSectionVars false

/-- Before tick t (and, with the tick's own clock, within it): A acknowledged, n delivered. -/
structure Core (U : List (List UInt8)) (s : Fs) (D : List Dt) (q : Gs) (n t : Nat) : Prop where
  dat : D.map (·.l) = U.drop s.A
  tot : s.A + D.length = U.length
  le1 : s.A ≤ n
  le2 : n ≤ s.A + s.H
  sh : s.S ≤ s.H
  h8 : s.H ≤ 8
  hd : s.H ≤ D.length
  st : s.st = 1
  lo : q.L = false
  wa : q.W = false
  vr : q.V = n
  no : s.now ≤ t
  la : s.last ≤ s.now
  tr : 3 * s.tries ≤ s.last
/-- How long it takes until all is delivered, once nothing is lost. -/
def rank (s : Fs) (k t : Nat) : Nat := k + (if s.S = 0 then 0 else if s.S < min 8 k then 1 else s.last + 3 - t)
def Live (s : Fs) (k n t : Nat) : Prop := 61 ≤ t → s.A = n ∧ (k = 0 ∨ rank s k t + t ≤ 84)
/-- The same before the report of a tick from 61 on. -/
def Mid (s : Fs) (k : Nat) (q : Gs) (n t : Nat) : Prop :=
  61 ≤ t → k = 0 ∨ (n = s.A + 1 ∧ s.S = 1 ∧ k + t ≤ 84) ∨ (n = s.A ∧ q.R = true ∧ k + (t + 1) ≤ 84) ∨ (n = s.A ∧ rank s k (t + 1) + (t + 1) ≤ 84)

theorem nx_some {s s' : Fs} {k t i : Nat} (h : nx s k t = some (i, s')) (h1 : s.last ≤ s.now) (h2 : 3 * s.tries ≤ s.last) : i < min 8 k ∧ s'.A = s.A ∧ s'.S = i + 1 ∧ s'.H = max s.H (i + 1) ∧ s'.st = s.st ∧ s'.now = max s.now t ∧ s'.last = max s.now t ∧ 3 * s'.tries ≤ max s.now t ∧ ((s.S < min 8 k ∧ i = s.S) ∨ (¬ s.S < min 8 k ∧ i = 0 ∧ s.last + 3 ≤ max s.now t)) := by
  unfold nx at h
  split at h
  · cases h
  split at h
  · cases h
    rename_i hz hs
    refine ⟨hs, rfl, rfl, rfl, rfl, rfl, rfl, ?_, .inl ⟨hs, rfl⟩⟩
    show 3 * s.tries ≤ max s.now t
    omega
  split at h
  · cases h
  · cases h
    rename_i hz hs hn
    refine ⟨by omega, rfl, rfl, rfl, rfl, rfl, rfl, ?_, .inr ⟨hs, rfl, by omega⟩⟩
    show 3 * (s.tries + 1) ≤ max s.now t
    omega
theorem nx_none {s : Fs} {k t : Nat} (h : nx s k t = none) : k = 0 ∨ (¬ s.S < min 8 k ∧ max s.now t < s.last + 3) := by
  unfold nx at h
  split at h
  · left; assumption
  split at h
  · cases h
  split at h
  · right; exact ⟨by assumption, by assumption⟩
  · cases h

section
variable {U : List (List UInt8)} {s s' : Fs} {D : List Dt} {q : Gs} {n t : Nat} (c : Core U s D q n t)
include c
theorem Core.none (h : nx s D.length t = none) (l : Live s D.length n t) : Core U (s.clk t) D q n t ∧ Mid (s.clk t) D.length q n t := by
  obtain ⟨dat, tot, le1, le2, sh, h8, hd, st, lo, wa, vr, no, la, tr⟩ := c
  refine ⟨⟨dat, tot, le1, le2, sh, h8, hd, st, lo, wa, vr, ?_, ?_, tr⟩, fun h61 => ?_⟩
  · show max s.now t ≤ t; omega
  · show s.last ≤ max s.now t; omega
  · rcases nx_none h with h0 | ⟨h1, h2⟩
    · exact .inl h0
    · obtain ⟨hA, h3⟩ := l h61
      rcases h3 with h3 | h3
      · exact .inl h3
      · by_cases hz : D.length = 0
        · exact .inl hz
        right; right; right
        refine ⟨hA.symm, ?_⟩
        unfold rank at h3 ⊢
        show D.length + (if s.S = 0 then 0 else if s.S < min 8 D.length then 1 else s.last + 3 - (t + 1)) + (t + 1) ≤ 84
        by_cases hS : s.S = 0
        · rw [if_pos hS] at h3 ⊢
          omega
        · rw [if_neg hS, if_neg h1] at h3 ⊢
          omega
/-- A frame, that is lost. -/
theorem Core.sent {i : Nat} (h : nx s D.length t = some (i, s')) : Core U s' D q n t := by
  obtain ⟨dat, tot, le1, le2, sh, h8, hd, st, lo, wa, vr, no, la, tr⟩ := c
  obtain ⟨h1, h2, h3, h4, h5, h6, h7, h9, h10⟩ := nx_some h la tr
  exact ⟨by rw [h2]; exact dat, by omega, by omega, by omega, by omega, by omega, by omega, by omega, lo, wa, vr, by omega, by omega, by omega⟩
/-- A frame, that arrives: the next one, one that comes too early, one that came already. -/
theorem Core.next {i : Nat} (h : nx s D.length t = some (i, s')) (l : Live s D.length n t) (hi : s.A + i = n) : Core U s' D ⟨false, false, false, n + 1⟩ (n + 1) t ∧ Mid s' D.length ⟨false, false, false, n + 1⟩ (n + 1) t := by
  obtain ⟨dat, tot, le1, le2, sh, h8, hd, st, lo, wa, vr, no, la, tr⟩ := c
  obtain ⟨h1, h2, h3, h4, h5, h6, h7, h9, h10⟩ := nx_some h la tr
  refine ⟨⟨by rw [h2]; exact dat, by omega, by omega, by omega, by omega, by omega, by omega, by omega, rfl, rfl, rfl, by omega, by omega, by omega⟩, fun h61 => ?_⟩
  obtain ⟨hA, hl⟩ := l h61
  right; left
  rcases hl with hl | hl
  · omega
  · refine ⟨by omega, by omega, ?_⟩
    unfold rank at hl
    omega
theorem Core.early {i : Nat} (h : nx s D.length t = some (i, s')) (l : Live s D.length n t) (hi : n < s.A + i) : Core U s' D { q with R := true } n t ∧ Mid s' D.length { q with R := true } n t := by
  obtain ⟨dat, tot, le1, le2, sh, h8, hd, st, lo, wa, vr, no, la, tr⟩ := c
  obtain ⟨h1, h2, h3, h4, h5, h6, h7, h9, h10⟩ := nx_some h la tr
  refine ⟨⟨by rw [h2]; exact dat, by omega, by omega, by omega, by omega, by omega, by omega, by omega, lo, wa, vr, by omega, by omega, by omega⟩, fun h61 => ?_⟩
  obtain ⟨hA, hl⟩ := l h61
  right; right; left
  rcases hl with hl | hl
  · omega
  · refine ⟨by omega, rfl, ?_⟩
    unfold rank at hl
    rcases h10 with ⟨h10, h11⟩ | ⟨h10, h11, h12⟩
    · rw [if_neg (by omega), if_pos h10] at hl
      omega
    · omega
theorem Core.late {i : Nat} (h : nx s D.length t = some (i, s')) (l : Live s D.length n t) (hi : s.A + i < n) : Core U s' D q n t ∧ Mid s' D.length q n t := by
  refine ⟨c.sent h, fun h61 => ?_⟩
  have := (l h61).1
  omega
theorem Core.up (h : t < 60) : Mid s D.length q n t := fun h61 => by omega
/-- The control word arrives. -/
theorem Core.told (h20 : U.length ≤ 20) (m : Mid s D.length q n t) : Core U (s.clk t |>.got (n - s.A) q.R) (D.drop (n - s.A)) q n (t + 1) ∧ Live ((s.clk t).got (n - s.A) q.R) (D.drop (n - s.A)).length n (t + 1) := by
  obtain ⟨dat, tot, le1, le2, sh, h8, hd, st, lo, wa, vr, no, la, tr⟩ := c
  obtain ⟨g, hg⟩ : ∃ g, g = (s.clk t).got (n - s.A) q.R := ⟨_, rfl⟩
  have f : g.A = s.A + (n - s.A) ∧ g.H = s.H - (n - s.A) ∧ g.st = s.st ∧ g.now = max s.now t ∧ (0 < n - s.A → g.last = max s.now t ∧ g.tries = 0) ∧ (¬ 0 < n - s.A → g.last = s.last ∧ g.tries = s.tries) ∧ (q.R = true → g.S = 0) ∧ (q.R = false → g.S = s.S - (n - s.A)) := by
    rw [hg]
    unfold Fs.got
    cases hR : q.R <;> by_cases h0 : 0 < n - s.A <;> simp [h0, Fs.rel, Fs.clk]
  rw [← hg]
  obtain ⟨f1, f2, f3, f4, f5, f6, f7, f8⟩ := f
  have fS : g.S ≤ s.S - (n - s.A) := by cases hR : q.R; exact Nat.le_of_eq (f8 hR); rw [f7 hR]; omega
  have hdl : (D.drop (n - s.A)).length = D.length - (n - s.A) := List.length_drop
  refine ⟨⟨?_, by omega, by omega, by omega, by omega, by omega, by omega, by omega, lo, wa, vr, by omega, ?_, ?_⟩, fun h61 => ?_⟩
  · rw [List.map_drop, dat, List.drop_drop, f1]
  · by_cases h0 : 0 < n - s.A
    · have := f5 h0; omega
    · have := f6 h0; omega
  · by_cases h0 : 0 < n - s.A
    · have := f5 h0; omega
    · have := f6 h0; omega
  refine ⟨by omega, ?_⟩
  rw [hdl]
  by_cases ht : 61 ≤ t
  · rcases m ht with m | ⟨m1, m2, m3⟩ | ⟨m1, m2, m3⟩ | ⟨m1, m2⟩
    · left; omega
    · right
      have : g.S = 0 := by omega
      unfold rank
      rw [if_pos this]
      omega
    · right
      unfold rank
      rw [if_pos (f7 m2)]
      omega
    · cases hR : q.R with
      | true =>
        right
        unfold rank at m2 ⊢
        rw [if_pos (f7 hR)]
        omega
      | false =>
        right
        have e1 := f8 hR
        have e2 := f6 (by omega)
        unfold rank at m2 ⊢
        rw [show n - s.A = 0 by omega, Nat.sub_zero] at e1 ⊢
        rw [e1, e2.1]
        exact m2
  · right
    have hlen : D.length ≤ U.length := by omega
    unfold rank
    have hl : g.last ≤ 60 := by
      by_cases h0 : 0 < n - s.A
      · have := f5 h0; omega
      · have := f6 h0; omega
    split
    · omega
    · split <;> omega
theorem Core.lost (h : t < 60) : Core U s D q n (t + 1) ∧ Live s D.length n (t + 1) := by
  obtain ⟨dat, tot, le1, le2, sh, h8, hd, st, lo, wa, vr, no, la, tr⟩ := c
  exact ⟨⟨dat, tot, le1, le2, sh, h8, hd, st, lo, wa, vr, by omega, la, tr⟩, fun h61 => by omega⟩
end

/-! ### The walk -/
def Us (w : World) (us : List Dt) : Prop := ∀ d ∈ us, Rd w d.a (d.l.map bv)
abbrev texts (us : List Dt) : List (List UInt8) := us.map (·.l)
theorem at_drop {U : List (List UInt8)} {D : List Dt} {A i : Nat} (h : D.map (·.l) = U.drop A) (hi : i < D.length) : ∃ h' : A + i < U.length, D[i].l = U[A + i] := by
  have h1 : (D.map (·.l))[i]? = some D[i].l := by rw [List.getElem?_map, List.getElem?_eq_getElem hi]; rfl
  rw [h, List.getElem?_drop] at h1
  obtain ⟨h2, h3⟩ := List.getElem?_eq_some_iff.1 h1
  exact ⟨h2, h3.symm⟩
set_option maxRecDepth 100000 in
theorem topSequence_ok {ua up dn : Option Addr} {us : List Dt} {ups dns : List Bool} (uc pc dc : Nat) {w : World} (hu : Rd w ua (us.map Dt.val)) (hus : Us w us) (hup : Rd w up (ups.map Value.bool)) (hdn : Rd w dn (dns.map Value.bool)) :
    Does Try.prog 3 #[.slice ua us.length uc, .slice up ups.length pc, .slice dn dns.length dc] w fun v w' => v = .bool true ∧ Mod [] w w' := by
  apply w3
  unfold F3
  refine iteI (fun _ => ⟨rfl, Mod.refl w⟩) (fun g1 => ?_)
  refine iteI (fun _ => ⟨rfl, Mod.refl w⟩) (fun g2 => ?_)
  refine iteI (fun _ => ⟨rfl, Mod.refl w⟩) (fun g3 => ?_)
  have g1 : us.length ≤ 20 := by omega
  have g2 : ups.length ≤ 60 := by omega
  have g3 : dns.length ≤ 60 := by omega
  refine (fnew_ok w).mono ?_
  rintro _ w1 ⟨rfl, m1, z1, b1⟩
  refine ⟨_, rfl, (gnew_ok w1).mono ?_⟩
  rintro _ w2 ⟨rfl, m2, z2, b2⟩
  refine ⟨_, rfl, ?_⟩
  rw [if_neg (by simp), if_neg (by simp)]
  obtain ⟨gf, hgf⟩ : ∃ gf, gf = w.heap.size := ⟨_, rfl⟩
  obtain ⟨gg, hgg⟩ : ∃ gg, gg = w1.heap.size := ⟨_, rfl⟩
  rw [← hgf] at b1 ⊢
  rw [← hgg] at b2 ⊢
  have B2 : Bun w gf gg w2 ⟨0, 0, 0, 1, 0, 0, 0⟩ [] ⟨false, false, false, 0⟩ := ⟨m1.none m2, by omega, by omega, b2, by simp, none, 0, b1.mod m2 (by simp), Win.nil, by simp [fp]⟩
  refine LoopP.of (fun (x : Int) w' => ∃ (i : Nat) (D : List Dt), i ≤ us.length ∧ x = (i : Int) ∧ Bun w gf gg w' ⟨0, 0, 0, 1, 0, 0, 0⟩ D ⟨false, false, false, 0⟩ ∧ D.map (·.l) = (texts us).take i) (fun x _ => (us.length - x).toNat) ⟨0, [], by omega, rfl, B2, by simp⟩ ?_
  rintro _ w3 ⟨i, D, hi, rfl, B3, e3⟩
  unfold F3_b1
  have hDl : D.length = i := by
    have := congrArg List.length e3
    rw [List.length_map, List.length_take, List.length_map] at this
    omega
  refine iteI (fun hlt => ?_) (fun hlt => ?_)
  · have hlt : i < us.length := by omega
    obtain ⟨p, rfl, hc⟩ := rd_get (hu.mod B3.1 (by simp)) hlt
    have hc' : w3.cell? (p.add ((i : Int)).toNat) = some (.slice us[i].a us[i].l.length us[i].c) := by rw [Int.toNat_natCast]; exact hc
    refine ⟨p, rfl, by omega, by omega, _, _, _, hc', iteI (fun _ => ⟨rfl, B3.1⟩) (fun g4 => ?_)⟩
    refine ⟨by omega, by omega, _, _, _, hc', iteI (fun _ => ⟨rfl, B3.1⟩) (fun g5 => ?_)⟩
    refine ⟨by omega, by omega, _, _, _, hc', ?_⟩
    refine (send_ok B3 us[i].c ((hus _ (List.getElem_mem hlt)).mod B3.1 (by simp)) (by omega) (by omega) (by omega)).mono ?_
    rintro _ w4 ⟨rfl, _, _, a', c', B4⟩
    refine ⟨_, rfl, ?_⟩
    rw [if_neg (by simp), wi64 (by omega)]
    refine ⟨_, ?_, ⟨i + 1, _, by omega, by omega, B4, ?_⟩, rfl⟩
    · omega
    · have hlt' : i < (texts us).length := by simp only [texts, List.length_map]; exact hlt
      rw [List.map_append, e3, List.take_succ_eq_append_getElem hlt']
      congr 1
      simp [texts]
  have hi : i = us.length := by omega
  subst hi
  have hul : (texts us).length = us.length := by simp [texts]
  have C0 : Core (texts us) ⟨0, 0, 0, 1, 0, 0, 0⟩ D ⟨false, false, false, 0⟩ 0 0 := by
    refine ⟨?_, ?_, ?_, ?_, ?_, ?_, ?_, rfl, rfl, rfl, rfl, ?_, ?_, ?_⟩ <;> dsimp only <;> try omega
    rw [e3, List.take_of_length_le (by omega)]
    rfl
  refine LoopP.of (fun (x : Int × Int) w' => ∃ (n t : Nat) (s : Fs) (D : List Dt) (q : Gs), x = ((n : Int), (t : Int)) ∧ t ≤ 260 ∧ Bun w gf gg w' s D q ∧ Core (texts us) s D q n t ∧ Live s D.length n t) (fun x _ => (260 - x.2).toNat) ⟨0, 0, _, D, _, rfl, by omega, B3, C0, fun h => by omega⟩ ?_
  rintro _ w4 ⟨n, t, s, D, q, rfl, ht, B4, C, L⟩
  unfold F3_b2
  dsimp only
  obtain ⟨dat, tot, le1, le2, sh, h8, hd, st, lo, wa, vr, no, la, tr⟩ := id C
  refine iteI (fun hlt => ?_) (fun hlt => ?_)
  · have hlt : t < 260 := by omega
    -- the report
    have j3 : ∀ {w' : World} {s : Fs} {q : Gs} {n : Nat}, Bun w gf gg w' s D q → Core (texts us) s D q n t → (60 ≤ t → Mid s D.length q n t) → F3_j3 dn dns.length dc (t : Int) (some (base gg)) (some (base gf)) (n : Int) w' (fun v w' => v = .bool true ∧ Mod [] w w') (fun x0 x1 w' => ∃ m, m < (260 - (t : Int)).toNat ∧ (∃ (n t : Nat) (s : Fs) (D : List Dt) (q : Gs), (x0, x1) = ((n : Int), (t : Int)) ∧ t ≤ 260 ∧ Bun w gf gg w' s D q ∧ Core (texts us) s D q n t ∧ Live s D.length n t) ∧ (260 - x1).toNat = m) := by
      intro w' s q n B C M
      unfold F3_j3
      refine (has_ok dc t (hdn.mod B.1 (by simp))).mono ?_
      rintro _ _ ⟨rfl, rfl⟩
      refine ⟨_, rfl, ?_⟩
      rw [wi64 (by omega)]
      obtain ⟨dat, tot, le1, le2, sh, h8, hd, st, lo, wa, vr, no, la, tr⟩ := id C
      refine iteI (fun hh => ?_) (fun hh => ?_)
      · refine (freport_ok B).mono ?_
        rintro _ w5 ⟨rfl, B5, b5⟩
        refine ⟨_, _, _, _, _, _, rfl, ?_⟩
        rw [lo, wa, vr]
        have e : (n + 256 - s.A % 256) % 256 = n - s.A := by omega
        have r := report_ok B5 q.R n t (by omega) (by omega) st (by omega) (by omega) (by omega) (by rw [e]; omega) (by rw [e]; omega)
        rw [e] at r
        refine r.mono ?_
        rintro _ w6 ⟨rfl, B6, b6⟩
        refine ⟨_, rfl, ?_⟩
        rw [if_neg (by simp)]
        have M' : Mid s D.length q n t := fun h61 => M (by omega) h61
        obtain ⟨C6, L6⟩ := C.told (by omega) M'
        exact ⟨_, by omega, ⟨n, t + 1, _, _, _, by simp, by omega, B6, C6, L6⟩, rfl⟩
      · have h60 : t < 60 := by
          rcases Nat.lt_or_ge t 60 with h | h
          · exact h
          · rw [List.getD_eq_getElem?_getD, List.getElem?_eq_none (by omega)] at hh
            simp at hh
        obtain ⟨C6, L6⟩ := C.lost h60
        exact ⟨_, by omega, ⟨n, t + 1, _, _, _, by simp, by omega, B, C6, L6⟩, rfl⟩
    refine (next_ok B4 t (by omega) st (by omega) (by omega) (by omega) (by omega)).mono ?_
    rintro v w5 ⟨b5, hcase⟩
    rcases hcase with ⟨hn, rfl, B5⟩ | ⟨i, s5, fa, fc, hi, hn, rfl, o5, B5⟩
    · refine ⟨_, _, _, _, _, _, _, _, _, rfl, New.put rfl fun w6 hb6 m6 z6 => ?_⟩
      rw [if_neg (by simp)]
      unfold F3_j4
      rw [if_neg (by simp)]
      obtain ⟨C5, M5⟩ := C.none hn L
      exact j3 (B5.none m6) C5 (fun _ => M5)
    · refine ⟨_, _, _, _, _, _, _, _, _, rfl, New.put rfl fun w6 hb6 m6 z6 => ?_⟩
      rw [if_pos rfl]
      have B6 := B5.none m6
      have o6 := o5.mod m6 (by simp)
      refine (has_ok pc t (hup.mod B6.1 (by simp))).mono ?_
      rintro _ _ ⟨rfl, rfl⟩
      refine ⟨_, rfl, ?_⟩
      unfold F3_j4
      refine iteI (fun hh => ?_) (fun hh => ?_)
      · refine ⟨_, _, _, _, _, _, _, _, hb6.cells, ?_⟩
        have Di : D[i].ok w4 := by
          obtain ⟨_, _, _, _, hD, _⟩ := B4
          exact hD _ (List.getElem_mem hi)
        obtain ⟨x1, x2, x3, x4, x5, x6, x7, x9, x10⟩ := nx_some hn la tr
        obtain ⟨hA, hDi⟩ := at_drop dat hi
        rw [hul] at hA
        have eA : (s.A + i) % 256 = s.A + i := by omega
        rw [eA]
        refine (take9_ok B6 (s.A + i) (by omega) (by omega) lo fc o6 Di.2.1 Di.2.2 (by omega)).mono ?_
        rintro v w7 ⟨b7, c1, c2, c3⟩
        rcases Nat.lt_trichotomy (s.A + i) n with hlt2 | heq | hgt
        · obtain ⟨rfl, B7⟩ := c3 (by omega)
          refine ⟨_, _, _, _, rfl, ?_⟩
          rw [if_neg (by simp)]
          obtain ⟨C7, M7⟩ := C.late hn L hlt2
          exact j3 B7 C7 (fun _ => M7)
        · obtain ⟨⟨a', c', rfl, o7⟩, B7⟩ := c1 (by omega)
          refine ⟨_, _, _, _, rfl, ?_⟩
          rw [if_pos rfl, if_neg (by omega)]
          refine ⟨_, toStr_ok c' o7.rd.drew, ?_⟩
          have hnu : n < us.length := by omega
          obtain ⟨p, rfl, hc⟩ := rd_get (hu.mod B7.drew.1 (by simp)) hnu
          refine ⟨p, rfl, by omega, by omega, _, _, _, by rw [Int.toNat_natCast]; exact hc, _, toStr_ok _ ((hus _ (List.getElem_mem hnu)).mod B7.drew.1 (by simp)), ?_⟩
          have eU : D[i].l = us[n].l := by
            rw [hDi]
            simp only [texts, List.getElem_map]
            congr 2
          rw [strEq, if_neg (by rw [eU]; simp), wi64 (by omega)]
          obtain ⟨C7, M7⟩ := C.next hn L heq
          have eq7 : q.dlv = ⟨false, false, false, n + 1⟩ := by
            unfold Gs.dlv
            rw [lo, vr, Nat.mod_eq_of_lt (by omega)]
          rw [eq7] at B7
          exact j3 (n := n + 1) B7.drew C7 (fun _ => M7)
        · obtain ⟨rfl, B7⟩ := c2 (by omega)
          refine ⟨_, _, _, _, rfl, ?_⟩
          rw [if_neg (by simp)]
          obtain ⟨C7, M7⟩ := C.early hn L hgt
          exact j3 B7 C7 (fun _ => M7)
      · have h60 : t < 60 := by
          rcases Nat.lt_or_ge t 60 with h | h
          · exact h
          · rw [List.getD_eq_getElem?_getD, List.getElem?_eq_none (by omega)] at hh
            simp at hh
        exact j3 B6 (C.sent hn) (fun h => by omega)
  · have h260 : t = 260 := by omega
    subst h260
    obtain ⟨hAn, hr⟩ := L (by omega)
    have hD0 : D.length = 0 := by
      rcases hr with h | h
      · exact h
      · unfold rank at h; omega
    rw [hul] at tot
    have hnN : n = us.length := by omega
    rw [if_pos (by omega)]
    refine (queued_ok B4).mono ?_
    rintro _ _ ⟨rfl, rfl⟩
    refine ⟨_, rfl, ?_⟩
    rw [if_pos (by omega)]
    refine (acked_ok B4).mono ?_
    rintro _ _ ⟨rfl, rfl⟩
    refine ⟨_, rfl, ?_⟩
    rw [if_pos (by omega)]
    refine (state_ok B4).mono ?_
    rintro _ _ ⟨rfl, rfl⟩
    refine ⟨_, rfl, ?_⟩
    rw [if_pos (by omega)]
    refine New.use fun w5 hb5 m5 z5 => ?_
    refine (send_ok (l := [1]) (B4.none m5) 1 (Rd.blk (vs := [1].map bv) hb5) (by decide) (by decide) (by omega)).mono ?_
    rintro _ w6 ⟨rfl, M6, _⟩
    exact ⟨_, rfl, rfl, M6⟩
end Go.Proofs.Ythcebibacphblaa
