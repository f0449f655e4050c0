/-
  The frames, one by one.
-/
import Derived.Test.YtnaomgfdcadncaaCheck
namespace Go.Proofs.Ytnaomgfdcadncaa
open Go Go.Sh Go.Proofs
set_option linter.unusedVariables false
set_option linter.unusedSimpArgs false
set_option linter.unusedSectionVars false

theorem pdone_ok {w : World} {gp size taken : Nat} {W : List Dt} {wa : Option Addr} {r : Option Addr × Nat × Nat} (h : Pkr w gp size 0 taken W wa r) (hs : 1 ≤ size) : Does Try.prog 8 #[.pointer (some (base gp))] w fun v w' => v = .tuple #[.slice none 0 0, .int .i64 0, .bool false] ∧ w = w' := by
  apply w8
  unfold F8
  refine (pnone_ok h hs).mono ?_
  rintro _ _ ⟨rfl, rfl⟩
  refine ⟨_, rfl, ?_⟩
  rw [if_neg (by simp)]
  obtain ⟨wc, b, o, kk⟩ := id h
  refine ⟨_, rfl, _, b.cell (i := 2) rfl, ?_⟩
  unfold F8_j1
  rw [if_pos (by simp)]
  exact ⟨rfl, rfl⟩

open Classical in
theorem rcv_len (sz : Nat) (lost : Nat → Bool) (L : List (Bool × List UInt8)) (N c : Nat) : (rcv sz lost L N c).length ≤ c := by
  induction c with
  | zero => exact Nat.le_refl _
  | succ c ih =>
    rw [rcv_succ, List.length_append]
    split <;> simp <;> omega
def ldt (A : List Dt) : List (Bool × List UInt8) := A.map fun d => (false, d.l)
theorem ldt_len (A : List Dt) : (ldt A).length = A.length := by simp [ldt]
theorem ldt_drop (A : List Dt) (c : Nat) : ((ldt A).drop c).map (·.2) = (A.drop c).map (·.l) := by
  unfold ldt
  rw [← List.map_drop, List.map_map]
  rfl
structure Mm (w0 w : World) (gp gu sz left taken : Nat) (W : List Dt) (wa : Option Addr) (r : Option Addr × Nat × Nat) (begun st : Bool) (next : Nat) (R : List UInt8) (aa : Option Addr) (ac : Nat) (A : List Dt) (ea : Option Addr) (ec : Nat) (E : List Value) (ga : Option Addr) (gc : Nat) (outs : List Dt) : Prop where
  m0 : Mod [] w0 w
  zp : w0.heap.size ≤ gp
  zu : w0.heap.size ≤ gu
  P : Pkr w gp sz left taken W wa r
  U : Upk w gu begun st next R
  zw : ∀ y ∈ fp wa, w0.heap.size ≤ y
  oa : Own w 29 1 aa A.length ac (A.map Dt.val)
  kA : ∀ d ∈ A, d.ok w
  oe : Own w 3 1 ea A.length ec E
  og : Own w 29 1 ga outs.length gc (outs.map Dt.val)
  kO : ∀ d ∈ outs, d.ok w
  zg : ∀ y ∈ fp ga, w0.heap.size ≤ y
  ga1 : ∀ y ∈ fp ga, y ∉ fp aa
  ga2 : ∀ y ∈ fp ga, y ∉ fp wa

def Case (T sz k left taken : Nat) (W : List Dt) (r : Option Addr × Nat × Nat) (ls : List Bool) (L : List (Bool × List UInt8)) (A : List Dt) (begun st : Bool) (next : Nat) (R : List UInt8) (O : List (List UInt8)) : Prop :=
  (k * sz < T ∧ r = (none, 0, 0) ∧ ∃ c, c ≤ A.length ∧ tx W = (A.drop c).map (·.l) ∧ taken = k * sz - psum L c ∧ left = T - k * sz ∧ Ui sz (lf ls) L A.length k c begun st next R O) ∨ (T ≤ k * sz ∧ left = 0 ∧ O = rcv sz (lf ls) L A.length A.length)

set_option maxRecDepth 100000 in
theorem five_ok {w0 w : World} {gp gu sz T : Nat} {W : List Dt} {wa aa ea la : Option Addr} {A : List Dt} {ac ec lc : Nat} {E : List Value} {ls : List Bool} {L : List (Bool × List UInt8)} (hsz : 20 ≤ sz ∧ sz ≤ 200)
    (hL : L = ldt A ++ [(true, idl ((T + sz - 1) / sz * sz - T))]) (hT : T = (flat (ldt A)).length) (hTT : T ≤ 7000) (hN : A.length ≤ 100) (hAp : ∀ d ∈ A, isP (false, d.l) ∧ d.l.length ≤ 5000) (hE : E = (List.range A.length).map fun i => iv (psum L (i + 1)))
    (M : Mm w0 w gp gu sz T 0 W wa (none, 0, 0) false false 0 [] aa ac A ea ec E none 0 []) (hW : tx W = A.map (·.l)) (hls : Rd w0 la (ls.map Value.bool)) (hlsl : ls.length ≤ 255) :
    LoopP (fun (s : Option Addr × Nat × Nat × Int) w' nx' => F3_b5 (some (base gp)) A.length ea A.length aa (sz : Int) la ls.length lc (some (base gu)) (s.1) (s.2.1) (s.2.2.1) (s.2.2.2) w' (fun v w' => v = .bool true ∧ Mod [] w0 w') (fun x0 x1 x2 x3 w => nx' (x0, x1, x2, x3) w)) (none, 0, 0, 0) w := by
  have hsz0 : 0 < sz := by omega
  obtain ⟨n, hn⟩ : ∃ n, n = (T + sz - 1) / sz * sz - T := ⟨_, rfl⟩
  rw [← hn] at hL
  have hns : n ≤ 200 := by
    have := Nat.div_mul_le_self (T + sz - 1) sz
    omega
  have hLl : L.length = A.length + 1 := by rw [hL, List.length_append, ldt_len]; rfl
  have hLA : ∀ i, (h : i < A.length) → ∃ h' : i < L.length, L[i] = (false, A[i].l) := fun i h => by
    refine ⟨by omega, ?_⟩
    subst hL
    rw [List.getElem_append_left (by rw [ldt_len]; exact h)]
    simp [ldt]
  have hflag : ∀ i, (h : i < L.length) → L[i].1 = decide (A.length ≤ i) := fun i h => by
    rcases Nat.lt_or_ge i A.length with h1 | h1
    · obtain ⟨h2, h3⟩ := hLA i h1
      rw [h3, decide_eq_false (by omega)]
    · have : i = A.length := by omega
      subst this
      rw [decide_eq_true (by omega)]
      subst hL
      rw [List.getElem_append_right (by rw [ldt_len]; omega)]
      simp [ldt_len]
  have hil : (zeros (max n 7 - 6)).length = max n 7 - 6 := zeros_len _
  have hisP : ∀ e ∈ L, isP e := fun e he => by
    rw [hL] at he
    rcases List.mem_append.1 he with he | he
    · obtain ⟨d, hd, rfl⟩ := List.mem_map.1 he
      exact (hAp d hd).1
    · have := List.mem_singleton.1 he
      subst this
      exact ⟨0, zeros (max n 7 - 6), by decide, by rw [hil]; omega, by rw [hil]; omega, rfl⟩
  have hTL : (flat L).length = T + max n 7 := by
    rw [hL, flat_app, List.length_append, ← hT]
    unfold idl
    rw [pk_len, hil]
    omega
  have hpos : ∀ e ∈ L, 1 ≤ e.2.length := fun e he => by
    obtain ⟨i, d, _, _, _, hp⟩ := hisP e he
    rw [hp, pk_len]
    omega
  have hpN : psum L A.length = T := by
    rw [hL, psum_app _ _ (by rw [ldt_len]; exact Nat.le_refl _), psum_full _ (by rw [ldt_len]; exact Nat.le_refl _), hT]
  have hFk : ∀ k, k * sz < T → T < (k + 1) * sz → n = (k + 1) * sz - T := fun k h1 h2 => by
    have e : (T + sz - 1) / sz = k + 1 := by
      have a1 : k + 1 ≤ (T + sz - 1) / sz := (Nat.le_div_iff_mul_le hsz0).2 (by rw [Nat.add_mul] at h2 ⊢; omega)
      have a2 : (T + sz - 1) / sz < k + 2 := (Nat.div_lt_iff_lt_mul hsz0).2 (by rw [Nat.add_mul] at h2 ⊢; omega)
      omega
    rw [hn, e]
  have hlo : ∀ m, 255 ≤ m → lf ls m = false := fun m hm => by
    unfold lf
    rw [List.getD_eq_getElem?_getD, List.getElem?_eq_none (by omega)]
    rfl
  have hA1 : ∀ i, (h : i < A.length) → 1 ≤ A[i].l.length := fun i h => by
    obtain ⟨h2, h3⟩ := hLA i h
    have := hpos _ (List.getElem_mem h2)
    rw [h3] at this
    exact this
  -- the end
  have fin : ∀ {w1 : World} {taken : Nat} {W : List Dt} {wa : Option Addr} {r : Option Addr × Nat × Nat} {begun st : Bool} {next : Nat} {R : List UInt8} {ga : Option Addr} {gc : Nat} {outs : List Dt}, Mm w0 w1 gp gu sz 0 taken W wa r begun st next R aa ac A ea ec E ga gc outs → outs.map (·.l) = rcv sz (lf ls) L A.length A.length →
      F3_j2 A.length ea A.length aa (sz : Int) la ls.length lc (some (base gp)) ga outs.length gc w1 (fun v w' => v = .bool true ∧ Mod [] w0 w') := by
    intro w1 taken W wa r begun st next R ga gc outs M1 ho
    refine check_ok (ac := 0) (ec := 0) M1.m0 M1.P hsz (hls.mod M1.m0 (by simp)) (by rw [← hE]; exact M1.oe.rd) M1.oa.rd (fun d hd => (M1.kA d hd).rd) M1.og.rd (fun d hd => (M1.kO d hd).rd) (fun i h => ?_) hA1 (by rw [hTL]; omega) (by omega) ho
    obtain ⟨h2, h3⟩ := hLA i h
    exact ⟨h2, by rw [h3]⟩
  have c0 : Case T sz 0 T 0 W (none, 0, 0) ls L A false false 0 [] (([] : List Dt).map (·.l)) := by
    rcases Nat.eq_zero_or_pos T with h0 | h0
    · right
      refine ⟨by omega, h0, ?_⟩
      have : A.length = 0 := by
        cases A with
        | nil => rfl
        | cons d A' =>
          have := hA1 0 (by simp)
          have h2 := psum_mono (L := L) (show 1 ≤ (d :: A').length by simp)
          have h3 := psum_succ (L := L) (c := 0) (by omega)
          obtain ⟨h4, h5⟩ := hLA 0 (by simp)
          rw [h5] at h3
          rw [hpN] at h2
          simp only [Nat.zero_add] at h3
          omega
      rw [this]
      rfl
    · left
      refine ⟨by omega, rfl, 0, by omega, hW, by omega, by omega, by omega, Nat.zero_le _, fun h => ?_, by omega, (by intro h; cases h), fun _ => ⟨rfl, by omega⟩, (by intro k' h; omega), (by intro k' h; omega), rfl⟩
      have := hpos _ (List.getElem_mem h)
      omega
  refine LoopP.of (fun (x : Option Addr × Nat × Nat × Int) w' => ∃ (k left taken : Nat) (W : List Dt) (wa : Option Addr) (r : Option Addr × Nat × Nat) (begun st : Bool) (next : Nat) (R : List UInt8) (ga : Option Addr) (gc : Nat) (outs : List Dt), x = (ga, outs.length, gc, (k : Int)) ∧ k ≤ 400 ∧ outs.length ≤ 100000 ∧ (∃ j, tx W = (A.drop j).map (·.l)) ∧ Mm w0 w' gp gu sz left taken W wa r begun st next R aa ac A ea ec E ga gc outs ∧ Case T sz k left taken W r ls L A begun st next R (outs.map (·.l))) (fun x _ => (400 - x.2.2.2).toNat)
    ⟨0, T, 0, W, wa, _, false, false, 0, [], none, 0, [], rfl, by omega, by simp, ⟨0, hW⟩, M, c0⟩ ?_
  rintro _ w1 ⟨k, left, taken, W1, wa1, r, begun, st, next, R, ga, gc, outs, rfl, hk4, hol, ⟨jj, hjj⟩, M1, hcase⟩
  unfold F3_b5
  dsimp only
  refine iteI (fun hlt => ?_) (fun hlt => ?_)
  · have hlt : k < 400 := by omega
    rcases hcase with ⟨hkT, hr, c, hcA, htx, htk, hleft, u⟩ | ⟨hkT, hleft, ho⟩
    · subst hr
      obtain ⟨hkk, hkp⟩ : (k + 1) * sz = k * sz + sz ∧ k * sz ≤ (k + 1) * sz := by rw [Nat.add_mul]; omega
      have hp1 := u.p1
      have hcN : c < A.length := by
        rcases Nat.lt_or_ge c A.length with h | h
        · exact h
        · have := psum_mono (L := L) h; omega
      have hcL : c < L.length := by omega
      have hbr := brk_succ u.br hcL
      have hpsd : ∀ c', c' ≤ A.length → psum L c' = psum (ldt A) c' := fun c' h => by rw [hL]; exact psum_app _ _ (by rw [ldt_len]; exact h)
      have hldt := ldt_drop A c
      rw [← htx] at hldt
      have hfl : (flat (ldt A)).length = T := hT.symm
      have hqs : qs taken (tx W1) = (flat (ldt A)).drop (k * sz) := by
        rw [← hldt, qs_at, ← hpsd c hcA]
        congr 1
        omega
      have hql : (qs taken (tx W1)).length = T - k * sz := by rw [hqs, List.length_drop, hfl]
      have hwl : W1.length = A.length - c := by
        have := congrArg List.length htx
        rw [List.length_map, List.length_map, List.length_drop] at this
        exact this
      have hwf : wf taken (tx W1) := by
        rw [htx, List.drop_eq_getElem_cons hcN]
        show taken < A[c].l.length
        have := psum_succ hcL
        obtain ⟨_, h5⟩ := hLA c hcN
        rw [h5] at this
        dsimp only at this
        omega
      have hWp : ∀ e ∈ W1, 1 ≤ e.l.length ∧ e.l.length ≤ 5000 := fun e he => by
        have : e.l ∈ tx W1 := List.mem_map.2 ⟨e, he, rfl⟩
        rw [htx] at this
        obtain ⟨d, hd, hde⟩ := List.mem_map.1 this
        have hd := List.mem_of_mem_drop hd
        obtain ⟨i, hi, hid⟩ := List.getElem_of_mem hd
        have h1 := hA1 i hi
        rw [hid] at h1
        rw [← hde]
        exact ⟨h1, (hAp d hd).2⟩
      have hfs : fs taken (tx W1) = if psum L c = k * sz then 0 else psum L (c + 1) - k * sz := by
        have := fs_at (Ld := ldt A) (c := c) (p := k * sz) (by rw [ldt_len]; exact hcN) (by rw [← hpsd c hcA]; exact hp1) (by rw [← hpsd (c + 1) (by omega)]; exact hbr)
        rw [hldt, ← hpsd c hcA, ← hpsd (c + 1) (by omega), ← htk] at this
        exact this
      have hfr : frame sz (qs taken (tx W1)) = ((flat L).drop (k * sz)).take sz := by
        rw [hqs, hL]
        exact frame_at (ldt A) (by rw [hfl]; exact hkT) (fun h => by rw [hfl] at h ⊢; exact hFk k hkT h)
      have hTk : (k + 1) * sz ≤ (flat L).length := by
        rw [hTL]
        rcases Nat.lt_or_ge T ((k + 1) * sz) with h | h
        · have := hFk k hkT h; omega
        · omega
      refine (pnext_ok M1.P (by omega) hwf (by rw [hql]; exact hleft) (by omega) (by omega) (by omega) hWp).mono ?_
      rintro _ w2 ⟨m2, x, xc, first, j, W2, taken2, left2, wa2, r2, rfl, ox, hfirst, P2, hW2, hwf2, hqs2, hl2, hr2, hw2⟩
      rw [hfr] at ox
      obtain ⟨wc1, bgp, _, _⟩ := id M1.P
      have typ : ∀ {t z n c : Nat} {a : Option Addr} {vs : List Value}, Own w1 t z a n c vs → t ≠ 43 → Own w2 t z a n c vs := fun o ht => o.mod m2 (fun y hy hy' => by have q := List.mem_singleton.1 hy'; subst q; exact o.ne bgp ht hy)
      have z1 := M1.m0.size
      have z2 := m2.size
      have M2 : Mm w0 w2 gp gu sz left2 taken2 W2 wa2 r2 begun st next R aa ac A ea ec E ga gc outs := ⟨M1.m0.trans m2 (fun y hy => .inr (by have q := List.mem_singleton.1 hy; subst q; exact M1.zp)), M1.zp, M1.zu, P2, M1.U.typ m2 bgp (by decide) (by decide), fun y hy => by
        rcases hw2 y hy with h | h
        · exact M1.zw y h
        · omega, typ M1.oa (by decide), fun d hd => typ (M1.kA d hd) (by decide), typ M1.oe (by decide), typ M1.og (by decide), fun d hd => typ (M1.kO d hd) (by decide), M1.zg, M1.ga1, fun y hy hy' => by
        rcases hw2 y hy' with h | h
        · exact M1.ga2 y hy h
        · have := M1.og.lt y hy; omega⟩
      have hjj2 : tx W2 = (A.drop (c + j)).map (·.l) := by
        rw [hW2]
        show (W1.drop j).map (·.l) = _
        rw [List.map_drop, show W1.map (·.l) = tx W1 from rfl, htx, ← List.map_drop, List.drop_drop]
      have step : ∀ {c' : Nat} {b' s' : Bool} {n' : Nat} {R' : List UInt8} {O' : List (List UInt8)}, Ui sz (lf ls) L A.length (k + 1) c' b' s' n' R' O' → Case T sz (k + 1) left2 taken2 W2 r2 ls L A b' s' n' R' O' := by
        intro c' b' s' n' R' O' u'
        have hl2' : left2 = T - (k + 1) * sz := by rw [hl2, hqs2, List.length_drop, hql]; omega
        rcases Nat.lt_or_ge ((k + 1) * sz) T with h | h
        · left
          have hl0 : 0 < left2 := by omega
          have hcj : c + j < A.length := by
            rcases Nat.lt_or_ge (c + j) A.length with h1 | h1
            · exact h1
            · rw [List.drop_of_length_le h1] at hjj2
              rw [hl2, hjj2] at hl0
              simp [qs] at hl0
          have hpt : psum (ldt A) (c + j) + taken2 = (k + 1) * sz := by
            have e1 : qs taken2 (tx W2) = (flat (ldt A)).drop (psum (ldt A) (c + j) + taken2) := by
              rw [← qs_at, ldt_drop, hjj2]
            have e2 := hl2
            rw [e1, List.length_drop, hfl] at e2
            omega
          rw [← hpsd _ (by omega)] at hpt
          have hbr2 : Brk L (c + j) ((k + 1) * sz) := fun hh => by
            rw [hjj2, List.drop_eq_getElem_cons hcj] at hwf2
            have hwf2 : taken2 < A[c + j].l.length := hwf2
            obtain ⟨_, h5⟩ := hLA (c + j) hcj
            rw [h5]
            dsimp only
            omega
          have hcc : c' = c + j := idx_one u'.cl (by omega) u'.p1 u'.br (by omega) hbr2
          refine ⟨h, hr2 hl0, c', by omega, by rw [hcc]; exact hjj2, by rw [hcc]; omega, hl2', u'⟩
        · right
          refine ⟨h, by omega, ?_⟩
          rw [u'.u4]
          have := idx_le u'.cl (c := A.length) (by omega) (by rw [hpN]; exact h) u'.br (Nat.le_refl _)
          exact rcv_same sz (lf ls) L A.length this fun i a b e => by omega
      refine ⟨_, _, _, _, _, rfl, ?_⟩
      rw [if_neg (by simp), if_neg (by simp)]
      refine (has_ok lc k (hls.mod M2.m0 (by simp))).mono ?_
      rintro _ _ ⟨rfl, rfl⟩
      refine ⟨_, rfl, ?_⟩
      rw [wi64 (n := (k : Int) + 1) (by omega)]
      refine iteI (fun hh => ?_) (fun hh => ?_)
      · have hk0 : lf ls k = false := by simpa using hh
        have ekm : Int.tmod (k : Int) 256 = ((k % 256 : Nat) : Int) := by
          rw [Int.tmod_eq_emod_of_nonneg (by omega)]
          omega
        rw [ekm]
        have hDl : (((flat L).drop (k * sz)).take sz).length = sz := by rw [List.length_take, List.length_drop]; omega
        have tk := takeAll_ok (D := ((flat L).drop (k * sz)).take sz) (f := first) (fz := fs taken (tx W1)) (da := x) (dc := xc) u M2.U hk0 hlo hsz hisP hflag hcL hTk (by rw [hTL]; omega) (by omega) rfl (by rw [hDl]; exact ox) hfs hfirst
        rw [hDl] at tk
        refine tk.mono ?_
        rintro _ w3 ⟨m3, oa, oc, news, c', st', next', R', rfl, rn, okn, U3, u'⟩
        obtain ⟨lo, ra, rc, bgu, _⟩ := id M2.U
        have typ3 : ∀ {t z n c : Nat} {a : Option Addr} {vs : List Value}, Own w2 t z a n c vs → t ≠ 45 → Own w3 t z a n c vs := fun o ht => o.mod m3 (fun y hy hy' => by have q := List.mem_singleton.1 hy'; subst q; exact o.ne bgu ht hy)
        have hnl : outs.length + news.length ≤ 101 := by
          have e1 := congrArg List.length u'.u4
          rw [List.length_append, List.length_map, List.length_map] at e1
          have e2 := rcv_len sz (lf ls) L A.length c'
          have e3 := u'.cl
          omega
        have og3 := typ3 M2.og (by decide)
        obtain ⟨ga', gc', w4, run, o4, m4, f4⟩ := append_own (m := news.length) (d := oc) Try.underlying28 elem29 28 og3 rn (by rw [List.length_map, Nat.mul_one]) (vals_one news) (by omega) (by omega)
        refine ⟨_, _, _, rfl, _, _, _, w4, run, ?_⟩
        have z3 := m3.size
        have P3 := M2.P.typ m3 bgu (by decide) (by decide) (by decide)
        have no4 : ∀ {t z n c : Nat} {a : Option Addr} {vs : List Value}, Own w3 t z a n c vs → t ≠ 29 → Own w4 t z a n c vs := fun o ht => o.mod m4 (own_apart og3 o (fun e => ht e.symm))
        have P4 : Pkr w4 gp sz left2 taken2 W2 wa2 r2 := by
          obtain ⟨wc3, b3, ow3, k3⟩ := id P3
          exact P3.mod m4 (og3.ne b3 (by decide)) (fun y hy hy' => M2.ga2 y hy' hy) (fun d hd => own_apart og3 (k3 d hd) (by decide))
        have M03 : Mod [] w0 w3 := M2.m0.trans m3 (fun y hy => .inr (by have q := List.mem_singleton.1 hy; subst q; exact M2.zu))
        have M4 : Mm w0 w4 gp gu sz left2 taken2 W2 wa2 r2 true st' next' R' aa ac A ea ec E ga' gc' (outs ++ news) := by
          refine ⟨M03.trans m4 (fun y hy => .inr (M2.zg y hy)), M2.zp, M2.zu, P4, U3.own og3 (by decide) (by decide) m4, M2.zw, ?_, fun d hd => no4 (typ3 (M2.kA d hd) (by decide)) (by decide), no4 (typ3 M2.oe (by decide)) (by decide), ?_, fun d hd => ?_, fun y hy => ?_, fun y hy hy' => ?_, fun y hy hy' => ?_⟩
          · exact (typ3 M2.oa (by decide)).mod m4 (fun y hy hy' => M2.ga1 y hy' hy)
          · rw [List.length_append, List.map_append]; exact o4
          · rcases List.mem_append.1 hd with hd | hd
            · exact no4 (typ3 (M2.kO d hd) (by decide)) (by decide)
            · exact no4 (okn d hd) (by decide)
          · rcases f4 with h | h <;> rw [h] at hy
            · exact M2.zg y hy
            · have q := List.mem_singleton.1 hy; omega
          · rcases f4 with h | h <;> rw [h] at hy
            · exact M2.ga1 y hy hy'
            · have q := List.mem_singleton.1 hy
              have := M2.oa.lt y hy'
              omega
          · rcases f4 with h | h <;> rw [h] at hy
            · exact M2.ga2 y hy hy'
            · have q := List.mem_singleton.1 hy
              obtain ⟨wc2, b2, ow2, k2⟩ := id M2.P
              have := ow2.lt y hy'
              omega
        refine ⟨_, ?_, ⟨k + 1, left2, taken2, W2, wa2, r2, true, st', next', R', ga', gc', outs ++ news, by rw [List.length_append]; rfl, by omega, by rw [List.length_append]; omega, ⟨c + j, hjj2⟩, M4, by rw [List.map_append]; exact step u'⟩, rfl⟩
        omega
      · have hk1 : lf ls k = true := by simpa using hh
        obtain ⟨c', u'⟩ := u.gone hk1 hsz0 hpos
        refine ⟨_, ?_, ⟨k + 1, left2, taken2, W2, wa2, r2, begun, st, next, R, ga, gc, outs, rfl, by omega, hol, ⟨c + j, hjj2⟩, M2, step u'⟩, rfl⟩
        omega
    · subst hleft
      refine (pdone_ok M1.P (by omega)).mono ?_
      rintro _ _ ⟨rfl, rfl⟩
      refine ⟨_, _, _, _, _, rfl, ?_⟩
      rw [if_pos (by simp)]
      exact fin M1 ho
  · have hk : k = 400 := by omega
    subst hk
    rcases hcase with ⟨hkT, _⟩ | ⟨hkT, hleft, ho⟩
    · have := Nat.mul_le_mul_left 400 hsz.1
      omega
    · subst hleft
      exact fin M1 ho
end Go.Proofs.Ytnaomgfdcadncaa
