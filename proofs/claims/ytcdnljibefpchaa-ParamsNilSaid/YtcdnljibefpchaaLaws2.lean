/-
  The laws of chapter 33, as contracts: ParamsPlays, ParamsApart.
-/
import Derived.Test.YtcdnljibefpchaaLaws
namespace Go.Proofs.Ytcdnljibefpchaa
open Go Go.Sh Go.Proofs
set_option linter.unusedVariables false
set_option linter.unusedSimpArgs false
set_option linter.unusedSectionVars false

/-- The pool at L1, the reference's in block r at L. -/
structure PS (w0 w : World) (g r : Nat) (L1 L : List Pd) (U : List Nat) (a : Option Addr) (c : Nat) : Prop where
  q : PN w0 w g L1 (r :: (fpv a (L.flatMap pv) ++ U))
  b : Blk w r 50 [.slice a L.length c]
  rd : Rd w a (L.flatMap pv)
  good : Good L
  hr : r ∉ fpv a (L.flatMap pv)
  h0 : w0.heap.size ≤ r
section
variable {w0 w : World} {g r : Nat} {L1 L : List Pd} {U : List Nat} {a : Option Addr} {c : Nat} (h : PS w0 w g r L1 L U a c)
include h
theorem PS.keep {w' : World} {g' : Nat} {L2 : List Pd} (k : Keep (r :: (fpv a (L.flatMap pv) ++ U)) w w') (q : PN w0 w' g' L2 (r :: (fpv a (L.flatMap pv) ++ U))) : PS w0 w' g' r L2 L U a c :=
  { h with q := q, b := k.blk h.b (by simp), rd := k.rd h.rd (fun y hy => by simp [hy]) }
theorem PS.mod {w' : World} (m : Mod [] w w') : PS w0 w' g r L1 L U a c :=
  { h with q := h.q.mod m, b := h.b.mod m (by simp), rd := h.rd.mod m (by simp) }
theorem PS.store {w' : World} {L2 : List Pd} {e : Int} {v : Value} (hg2 : Good L2) (hU : r ∉ U) (hq : RefS w a L L2 e v w') : ∃ a2 c2, v = .tuple #[.agg #[.slice a2 L2.length c2], .int .i64 e] ∧ Mod [] w w' ∧
    ∀ K : World → Prop, (∀ w3, PS w0 w3 g r L1 L2 U a2 c2 → Mod [r] w' w3 → K w3) →
      New w' 50 [.slice none 0 0] (fun p w1 => PutAll w1 p [.slice a2 L2.length c2] (fun w2 => ∃ (xa : Option Addr) (xn xc : Nat), Cells w2 p 0 [.slice xa xn xc] ∧ PutAll w2 (base r) [.slice xa xn xc] K)) := by
  obtain ⟨a2, c2, rfl, r2, m2, f2⟩ := hq
  refine ⟨a2, c2, rfl, m2, fun K hK => ?_⟩
  refine New.put rfl fun w4 h4 m4 z4 => ?_
  have m24 := m2.none m4
  have b4 := h.b.mod m24 (by simp)
  have hlt := h.b.lt
  have lt2 := r2.lt
  have hr2 : r ∉ fpv a2 (L2.flatMap pv) := fun hy => by
    rcases f2 r hy with h' | h'
    · exact h.hr h'
    · omega
  refine ⟨_, _, _, h4.cells, PutAll.use b4 rfl fun w5 h5 m5 => ?_⟩
  have q4 : PN w0 w4 g L1 (r :: (fpv a2 (L2.flatMap pv) ++ U)) := h.q.re m24 (fun y hy => by
    rcases List.mem_cons.1 hy with rfl | hy
    · left; simp
    · rcases List.mem_append.1 hy with hy | hy
      · rcases f2 y hy with h' | h'
        · left; simp [h']
        · right; have := lt2 y hy; have := m4.size; omega
      · left; simp [hy])
  refine hK w5 ⟨q4.store m5 (by simp) h.h0, h5, (r2.mod m4 (by simp)).modv m5 (fun y hy hy' => by simp at hy'; subst hy'; exact hr2 hy), hg2, hr2, h.h0⟩ ?_
  exact (m4.weaken (by simp)).trans m5 (fun y hy => .inl hy)
end

theorem plays_j3 {w0 w : World} {g r : Nat} {L : List Pd} {U : List Nat} {a : Option Addr} {c i : Nat} {n : Nat} (hn60 : n ≤ 60) (hi : i < n) (h : PS w0 w g r L L U a c) {K : Value → World → Prop} {nx : Option Addr → Int → World → Prop}
    (hn : ∀ w', PS w0 w' g r L L U a c → nx (some (base g)) ((i + 1 : Nat) : Int) w') : F7_j3 (base r) (i : Int) (some (base g)) w K nx := by
  unfold F7_j3
  have h1 := h.mod (Mod.drew w)
  refine ⟨_, _, _, h1.b.cells, h1.q.values.mono ?_⟩
  rintro _ w2 ⟨x, cx, rfl, rx, m2, sx⟩
  have h2 := h1.mod m2
  refine ⟨_, _, _, rfl, h2.b.cells, (rvals_ok c h2.rd h2.good).mono ?_⟩
  rintro _ w3 ⟨y, cy, rfl, ry, m3, sy⟩
  have hgl := h.good.len
  refine ⟨_, _, _, rfl, (same_ok cx cy (by rw [vals_len]; omega) (rx.mod m3 (by simp)) ry).mono ?_⟩
  rintro _ w4 ⟨rfl, m4⟩
  refine ⟨_, rfl, ?_⟩
  rw [if_neg (by simp), wi64 (by omega)]
  exact hn w4 ((h2.mod m3).mod m4)

def ov (y : Int × Int × Int × (Option Addr × List Int × Nat)) : List Value := [.int .i64 y.1, .int .i64 y.2.1, .int .i64 y.2.2.1, .slice y.2.2.2.1 y.2.2.2.2.1.length y.2.2.2.2.2]
theorem ov_len (L : List (Int × Int × Int × (Option Addr × List Int × Nat))) : ∀ x ∈ L, (ov x).length = 4 := fun _ _ => rfl
theorem paramsPlays_ok {a0 ao : Option Addr} {L0 : List Pd} {O : List (Int × Int × Int × (Option Addr × List Int × Nat))} (c0 co : Nat) {w : World} (hr : Rd w a0 (L0.flatMap pv)) (ho : Rd w ao (O.flatMap ov)) (hX : ∀ y ∈ O, Rd w y.2.2.2.1 (y.2.2.2.2.1.map iv)) :
    Does Try.prog 7 #[.slice a0 L0.length c0, .slice ao O.length co] w fun v w' => v = .bool true ∧ Mod [] w w' := by
  apply w7
  unfold F7
  have live : ∀ {w' : World}, Mod [] w w' → Does Try.prog 9 #[] w' (fun v w'' => ∃ (x : Bool), v = .bool x ∧ (Value.bool x = .bool true ∧ Mod [] w w'')) := fun M => (alive_ok _).mono fun v w' h => ⟨_, h.1, rfl, M.none h.2⟩
  unfold F7_j1
  refine iteI (fun hl => by rw [if_pos rfl]; exact live (Mod.refl _)) (fun hl => ?_)
  refine iteI (fun hl => live (Mod.refl _)) (fun hl2 => ?_)
  have hl2' : ¬ 60 < (O.length : Int) := by simpa using hl2
  refine (PN.new c0 hr).mono ?_
  rintro _ w1 ⟨p, e, rfl, he, m1, hbad, hgood⟩
  refine ⟨_, _, rfl, (rnew_ok c0 (hr.mod m1 (by simp))).mono ?_⟩
  rintro _ w2 ⟨e2, x, n, d, rfl, he2, m2, hg2⟩
  have e12 : e = e2 := by rw [he, errL_is he2]
  subst e12
  refine ⟨_, _, _, _, rfl, New.put rfl fun w3 h3 m3 z3 => ?_⟩
  have M3 := (m1.none m2).none m3
  rw [if_neg (by simp)]
  refine iteI (fun h0 => ?_) (fun h0 => ?_)
  · rw [hbad h0]
    rw [if_pos (by simp)]
    exact live M3
  have h0 : e = 0 := Classical.byContradiction h0
  obtain ⟨g, rfl, P1⟩ := hgood h0
  obtain ⟨rfl, rx, sx⟩ := hg2 h0
  have hGood := P1.good
  have z2 := m2.size
  have z12 := m1.size
  have P0 : PS w w3 g w2.heap.size L0 L0 [] x d := ⟨P1.re (m2.none m3) (fun y hy => by
    rcases List.mem_cons.1 hy with rfl | hy
    · right; omega
    · rw [List.append_nil] at hy; right; have := sx y (fpv_sub y hy); have := rx.lt y hy; omega), h3, rx.mod m3 (by simp), hGood, fun hy => by have := rx.lt _ hy; omega, by omega⟩
  refine LoopP.of (fun (x : Option Addr × Int) w' => ∃ (i g : Nat) (L : List Pd) (a : Option Addr) (c : Nat), i ≤ O.length ∧ x = (some (base g), (i : Int)) ∧ PS w w' g w2.heap.size L L [] a c) (fun x _ => O.length - x.2.toNat) ⟨0, _, _, _, _, by omega, rfl, P0⟩ ?_
  clear P0 P1 hgood
  rintro _ w4 ⟨i, g, L, a, c, hi, rfl, P⟩
  unfold F7_b2
  dsimp only
  refine iteI (fun hlt => ?_) (fun hlt => live P.q.m)
  have hlt : i < O.length := by omega
  obtain ⟨po, rfl, hc⟩ := (ho.mod P.q.m (by simp)).flat (ov_len _) (by decide) hlt
  have hXi := hX O[i] (List.getElem_mem hlt)
  generalize O[i] = y at hc hXi
  refine ⟨po, rfl, by omega, by omega, _, _, _, _, _, _, ⟨by simpa [add_zero] using hc 0 _ rfl, hc 1 _ rfl, hc 2 _ rfl, hc 3 _ rfl, trivial⟩, ?_⟩
  refine New.put rfl fun w5 h5 m5 z5 => ?_
  have blt := P.b.lt
  have q5 : PN w w5 g L (w2.heap.size :: (fpv a (L.flatMap pv) ++ [w4.heap.size])) := P.q.re m5 (fun y hy => by
    rcases List.mem_cons.1 hy with rfl | hy
    · left; simp
    · rcases List.mem_append.1 hy with hy | hy
      · left; simp [hy]
      · simp at hy; right; omega)
  have P5 : PS w w5 g w2.heap.size L L [w4.heap.size] a c := ⟨q5, P.b.mod m5 (by simp), P.rd.mod m5 (by simp), P.good, P.hr, P.h0⟩
  have hrU : w2.heap.size ∉ [w4.heap.size] := by simp; omega
  refine ⟨_, _, _, h5.cell (i := 3) rfl, iteI (fun hl => live P5.q.m) (fun hl => ?_)⟩
  have drop : ∀ {w' : World} {g' : Nat} {L' : List Pd} {a' : Option Addr} {c' : Nat}, PS w w' g' w2.heap.size L' L' [w4.heap.size] a' c' → PS w w' g' w2.heap.size L' L' [] a' c' := fun h => { h with q := h.q.re (Mod.refl _) (fun y hy => .inl (by
    rcases List.mem_cons.1 hy with rfl | hy
    · simp
    · simp at hy; simp [hy])) }
  have next : ∀ {w' : World} {g' : Nat} {L' : List Pd} {a' : Option Addr} {c' : Nat}, PS w w' g' w2.heap.size L' L' [w4.heap.size] a' c' → F7_j3 (base w2.heap.size) (i : Int) (some (base g')) w' (fun v w' => v = .bool true ∧ Mod [] w w') (fun x0 x1 w' => ∃ m, m < O.length - (i : Int).toNat ∧ ((∃ (i g : Nat) (L : List Pd) (a : Option Addr) (c : Nat), i ≤ O.length ∧ (x0, x1) = (some (base g), (i : Int)) ∧ PS w w' g w2.heap.size L L [] a c) ∧ O.length - x1.toNat = m)) := fun h =>
    plays_j3 (n := O.length) (by omega) hlt h (fun w' h' => ⟨_, by omega, ⟨i + 1, _, _, _, _, by omega, rfl, drop h'⟩, rfl⟩)
  refine ⟨_, h5.cell0, iteI (fun h1 => ?_) (fun h1 => ?_)⟩
  · refine ⟨_, h5.cell (i := 1) rfl, _, h5.cell (i := 2) rfl, (P5.q.set _ _).mono ?_⟩
    rintro _ w6 ⟨rfl, q6, k6⟩
    have P6 := P5.keep k6 q6
    have h6 := k6.blk h5 (by simp)
    refine ⟨_, rfl, _, _, _, P6.b.cells, _, h6.cell (i := 1) rfl, _, h6.cell (i := 2) rfl, ?_⟩
    refine (rset_ok c P6.rd P6.good _ _).mono ?_
    intro v w7 hq
    obtain ⟨a7, c7, rfl, m7, st⟩ := P6.store (setL_good P6.good _ _) hrU hq
    refine ⟨_, _, _, _, rfl, st _ fun w8 P8 m8 => ?_⟩
    rw [if_neg (by simp)]
    exact next P8
  refine iteI (fun h2 => ?_) (fun h2 => ?_)
  · refine ⟨_, h5.cell (i := 1) rfl, (P5.q.get _).mono ?_⟩
    rintro _ _ ⟨rfl, rfl⟩
    have hcase : ∃ r1 r2 : Int, (if h : fidx (isId y.2.1) L < L.length then Value.tuple #[.int .i64 L[fidx (isId y.2.1) L].2.2.2, .int .i64 0] else .tuple #[.int .i64 0, .int .i64 8]) = .tuple #[.int .i64 r1, .int .i64 r2] := by
      split <;> exact ⟨_, _, rfl⟩
    obtain ⟨r1, r2, hrr⟩ := hcase
    refine ⟨r1, r2, hrr, _, _, _, P5.b.cells, _, h5.cell (i := 1) rfl, (rget_ok c P5.rd P5.good _).mono ?_⟩
    rintro _ w6 ⟨m6, rfl⟩
    refine ⟨r1, r2, hrr, ?_⟩
    rw [if_neg (by simp), if_neg (by simp)]
    exact next (P5.mod m6)
  refine iteI (fun h3 => ?_) (fun h3 => ?_)
  · refine ⟨_, _, _, h5.cell (i := 3) rfl, (P5.q.pack _ (hXi.mod P5.q.m (by simp))).mono ?_⟩
    rintro _ w6 ⟨b6, c6, rfl, r6, m6, s6⟩
    have P6 := P5.mod m6
    refine ⟨_, _, _, _, rfl, _, _, _, P6.b.cells, _, _, _, (h5.mod m6 (by simp)).cell (i := 3) rfl, (rpack_ok c _ P6.rd P6.good (hXi.mod P6.q.m (by simp))).mono ?_⟩
    rintro _ w7 ⟨b7, c7, rfl, r7, m7, s7⟩
    refine ⟨_, _, _, _, rfl, _, toStr_ok c6 (r6.mod m7 (by simp)), _, toStr_ok c7 r7, ?_⟩
    rw [if_neg (by simp), if_neg (by simp)]
    exact next (P6.mod m7)
  refine iteI (fun h4 => ?_) (fun h4 => next P5)
  refine P5.q.clone.mono ?_
  rintro _ w6 ⟨g6, S6, rfl, hq6, m6, f6⟩
  have P6 := P5.mod m6
  have h6 := h5.mod m6 (by simp)
  have q6 : PN w w6 g L (S6 ++ (w2.heap.size :: (fpv a (L.flatMap pv) ++ [w4.heap.size]))) := P5.q.re m6 (fun y hy => by
    rcases List.mem_append.1 hy with h | h
    · right; exact ⟨f6 y h, hq6.lt y h⟩
    · left; exact h)
  refine ⟨_, rfl, _, h6.cell (i := 1) rfl, _, h6.cell (i := 2) rfl, (q6.set _ _).mono ?_⟩
  rintro _ w7 ⟨rfl, q7, k7⟩
  refine ⟨_, rfl, ?_⟩
  have hq7 : Po w7 g6 S6 L := by
    obtain ⟨A, ma, pa⟩ := k7
    exact hq6.mod ma (fun x hx hx' => pa x hx' (by simp [hx]))
  have kT : Keep (w2.heap.size :: (fpv a (L.flatMap pv) ++ [w4.heap.size])) w6 w7 := by
    obtain ⟨A, ma, pa⟩ := k7
    exact ⟨A, ma, fun x hx hx' => pa x hx (List.mem_append_right _ hx')⟩
  have z5' := P5.q.m.size
  have q9 : PN w w7 g6 L (w2.heap.size :: (fpv a (L.flatMap pv) ++ [w4.heap.size])) := ⟨⟨S6, hq7, fun x hx => by have := f6 x hx; omega, fun x hx hx' => by have := f6 x hx; have := P5.q.lt x hx'; omega⟩, P5.good, q7.m, fun y hy => q7.lt y (List.mem_append_right _ hy)⟩
  exact next (P6.keep kT q9)

/-! ### ParamsApart -/
theorem set_val {L : List Pd} {k : Nat} (hkl : k < L.length) (v : Int) {L2 : List Pd} (h : L2 = if inR L[k] v = true then L.set k (upd L[k] v) else L) (i : Nat) (hi : i < L.length) (h2 : i < L2.length) : L2[i].1 = L[i].1 ∧ L2[i].2.2.2 = if i = k ∧ inR L[k] v = true then v else L[i].2.2.2 := by
  by_cases hin : inR L[k] v = true
  · rw [if_pos hin] at h
    subst h
    rw [List.getElem_set]
    by_cases hik : k = i
    · subst hik; rw [if_pos rfl, if_pos ⟨rfl, hin⟩]; exact ⟨rfl, rfl⟩
    · rw [if_neg hik, if_neg (fun h => hik h.1.symm)]; exact ⟨rfl, rfl⟩
  · rw [if_neg hin] at h
    subst h
    rw [if_neg (fun h => hin h.2)]
    exact ⟨rfl, rfl⟩
theorem paramsApart_ok {a0 : Option Addr} {L : List Pd} (c0 : Nat) {at_ v : Int} (hat : 0 ≤ at_ ∧ at_ ≤ 255) {w : World} (hr : Rd w a0 (L.flatMap pv)) : Does Try.prog 6 #[.slice a0 L.length c0, .int .u8 at_, .int .i64 v] w fun x w' => x = .bool true ∧ Mod [] w w' := by
  apply w6
  unfold F6
  have live : ∀ {w' : World}, Mod [] w w' → Does Try.prog 9 #[] w' (fun v w'' => ∃ (x : Bool), v = .bool x ∧ (Value.bool x = .bool true ∧ Mod [] w w'')) := fun M => (alive_ok _).mono fun v w' h => ⟨_, h.1, rfl, M.none h.2⟩
  unfold F6_j1
  refine iteI (fun hl => by rw [if_pos rfl]; exact live (Mod.refl _)) (fun hl => ?_)
  refine iteI (fun hl => live (Mod.refl _)) (fun hl2 => ?_)
  have hn0 : L.length ≠ 0 := by simpa using hl2
  refine (PN.new c0 hr).mono ?_
  rintro _ w1 ⟨p, e, rfl, he, m1, hbad, hgood⟩
  refine ⟨_, _, rfl, iteI (fun h0 => ?_) (fun h0 => ?_)⟩
  · rw [hbad h0, if_pos (by simp)]
    exact live m1
  have h0 : e = 0 := Classical.byContradiction h0
  obtain ⟨g, rfl, P1⟩ := hgood h0
  have hg := P1.good
  rw [wi64 (by omega)]
  have hxd : ∃ k : Nat, Int.tmod at_ (L.length : Int) = (k : Int) ∧ k < L.length := by
    have h1 := Int.tmod_nonneg (L.length : Int) hat.1
    have h2 := Int.tmod_lt_of_pos at_ (b := (L.length : Int)) (by omega)
    exact ⟨(Int.tmod at_ (L.length : Int)).toNat, by omega, by omega⟩
  obtain ⟨k, hk, hkl⟩ := hxd
  rw [hk]
  have hr1 := hr.mod m1 (by simp)
  obtain ⟨pa, rfl, hcc⟩ := hr1.flat (pv_len _) (by decide) hkl
  refine ⟨by omega, pa, rfl, by omega, by omega, _, by simpa [add_zero] using hcc 0 _ rfl, (P1.set _ _).mono ?_⟩
  rintro _ w2 ⟨rfl, P2, k2⟩
  have hf : fidx (isId L[k].1) L = k := find_at hg hkl rfl
  have hE : setE L L[k].1 v = if inR L[k] v then 0 else 1 := by
    unfold setE
    rw [dif_pos (by omega)]
    simp only [hf]
  have hL : setL L L[k].1 v = if inR L[k] v then L.set k (upd L[k] v) else L := by
    unfold setL
    rw [dif_pos (by omega)]
    simp only [hf]
  rw [hE]
  rw [hL] at P2
  have hg2 := P2.good
  generalize hL2 : (if inR L[k] v = true then L.set k (upd L[k] v) else L) = L2 at P2 hg2
  have hlen : L2.length = L.length := by rw [← hL2]; split <;> simp
  have hval : ∀ i (hi : i < L.length), (L2[i]'(by omega)).1 = L[i].1 ∧ (L2[i]'(by omega)).2.2.2 = if i = k ∧ inR L[k] v = true then v else L[i].2.2.2 := fun i hi => set_val hkl v hL2.symm i hi (by omega)
  refine ⟨_, rfl, ?_⟩
  refine LoopP.of (fun (x : Int) w' => ∃ i : Nat, i ≤ L.length ∧ x = (i : Int) ∧ w2 = w') (fun x _ => L.length - x.toNat) ⟨0, by omega, rfl, rfl⟩ ?_
  rintro _ _ ⟨i, hi, rfl, rfl⟩
  unfold F6_b2
  rw [wi64 (n := at_) (by omega), hk]
  have hr2 := hr.mod P2.m (by simp)
  refine iteI (fun hlt => ?_) (fun hlt => ?_)
  · have hlt : i < L.length := by omega
    obtain ⟨pa', hpa', hci⟩ := hr2.flat (pv_len _) (by decide) hlt
    cases hpa'
    refine ⟨by omega, by omega, _, by simpa [add_zero] using hci 0 _ rfl, (P2.get _).mono ?_⟩
    rintro _ _ ⟨rfl, rfl⟩
    obtain ⟨hv1, hv2⟩ := hval i hlt
    have hfi : fidx (isId L[i].1) L2 = i := find_at hg2 (by omega) hv1
    have hget : (if h : fidx (isId L[i].1) L2 < L2.length then Value.tuple #[.int .i64 L2[fidx (isId L[i].1) L2].2.2.2, .int .i64 0] else .tuple #[.int .i64 0, .int .i64 8]) = .tuple #[.int .i64 (if i = k ∧ inR L[k] v = true then v else L[i].2.2.2), .int .i64 0] := by
      rw [dif_pos (by omega)]
      simp only [hfi, hv2]
    refine ⟨_, _, hget, ?_⟩
    rw [if_neg (by simp)]
    have e1 : IntKind.i64.wrap ((i : Int) + 1) = ((i + 1 : Nat) : Int) := by rw [wi64 (by omega)]; omega
    rw [e1]
    have nx : ∃ m, m < L.length - (i : Int).toNat ∧ ((∃ i' : Nat, i' ≤ L.length ∧ ((i + 1 : Nat) : Int) = (i' : Int) ∧ w2 = w2) ∧ L.length - ((i + 1 : Nat) : Int).toNat = m) := ⟨_, by omega, ⟨i + 1, by omega, rfl, rfl⟩, rfl⟩
    by_cases hik : i = k
    · subst hik
      rw [if_neg (by simp), if_pos rfl]
      by_cases hin : inR L[i] v = true
      · rw [if_pos hin, if_pos (show i = i ∧ inR L[i] v = true from ⟨rfl, hin⟩), if_pos rfl, if_neg (by simp), if_neg (by decide)]
        exact nx
      · rw [if_neg hin, if_neg (show ¬ (i = i ∧ inR L[i] v = true) from fun h => hin h.2), if_neg (by decide), if_pos (by decide)]
        refine ⟨by omega, by omega, _, hci 3 _ rfl, ?_⟩
        rw [if_neg (by simp)]
        exact nx
    · rw [if_pos (by omega), if_neg (fun h => hik h.1)]
      refine ⟨by omega, by omega, _, hci 3 _ rfl, ?_⟩
      rw [if_neg (by simp), if_neg (by omega)]
      exact nx
  · have fin : Does Try.prog 17 #[.pointer (some (base g))] w2 (fun v w87 => ∃ (x_a88 : Option Addr) (x_n89 x_c90 : Nat), v = .slice x_a88 x_n89 x_c90 ∧ if (x_n89 : Int) = (L.length : Int) then
      Does Try.prog 9 #[] w87 (fun v w92 => ∃ (x93 : Bool), v = .bool x93 ∧ (Value.bool x93 = .bool true ∧ Mod [] w w92))
    else
      (Value.bool false = .bool true ∧ Mod [] w w87)) := by
      refine P2.values.mono ?_
      rintro _ w3 ⟨x, cx, rfl, rx, m3, sx⟩
      refine ⟨_, _, _, rfl, ?_⟩
      rw [if_pos (by rw [vals_len, hlen])]
      exact live (P2.m.none m3)
    by_cases hin : inR L[k] v = true
    · rw [if_pos hin, if_pos rfl]
      exact fin
    · rw [if_neg hin, if_neg (by simp), if_pos rfl]
      exact fin
end Go.Proofs.Ytcdnljibefpchaa
