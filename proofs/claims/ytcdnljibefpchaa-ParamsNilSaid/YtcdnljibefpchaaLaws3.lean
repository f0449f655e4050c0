/-
  The laws of chapter 33, as contracts: ParamsBack, ParamsForms.
-/
import Derived.Test.YtcdnljibefpchaaPure
namespace Go.Proofs.Ytcdnljibefpchaa
open Go Go.Sh Go.Proofs
set_option linter.unusedVariables false
set_option linter.unusedSimpArgs false
set_option linter.unusedSectionVars false

theorem packR_err {L : List Pd} {X : List Int} (h : (packR L X).2 ≠ 0) : (packR L X).1 = [] := by
  unfold packR at h ⊢
  split
  · rfl
  · rename_i h2; rw [if_neg h2] at h; exact absurd rfl h
theorem packR_ok {L : List Pd} {X : List Int} (h : (packR L X).2 = 0) : chooseE L X = 0 ∧ (packR L X).1 = pack (bitsOf (X.map (pick L))) := by
  unfold packR at h ⊢
  by_cases h2 : chooseE L X ≠ 0
  · rw [if_pos h2] at h; exact absurd h h2
  · rw [if_neg h2]; exact ⟨Classical.byContradiction h2, rfl⟩
theorem unpD_err {ds : List Pd} {B : List UInt8} (h : (unpD ds B).2 ≠ 0) : (unpD ds B).1 = [] := by
  unfold unpD at h ⊢
  by_cases h1 : B.length < (pos ds ds.length + 7) / 8
  · rw [if_pos h1]
  rw [if_neg h1] at h ⊢
  by_cases h2 : (pos ds ds.length + 7) / 8 < B.length
  · rw [if_pos h2]
  rw [if_neg h2] at h ⊢
  by_cases h3 : num B (pos ds ds.length) (8 * B.length - pos ds ds.length) ≠ 0
  · rw [if_pos h3]
  · rw [if_neg h3] at h; exact absurd rfl h
theorem unpR_is {L : List Pd} {X : List Int} {B : List UInt8} (h1 : errL L = 0) (h2 : chooseE L X = 0) : unpR L X B = unpD (X.map (pick L)) B := by
  unfold unpR
  rw [if_neg (by simp [h1]), if_neg (by simp [h2])]
theorem get_at {L : List Pd} {id : Int} (h : has L id = true) : (if h : fidx (isId id) L < L.length then Value.tuple #[.int .i64 L[fidx (isId id) L].2.2.2, .int .i64 0] else .tuple #[.int .i64 0, .int .i64 8]) = .tuple #[.int .i64 (pick L id).2.2.2, .int .i64 0] := by
  rw [dif_pos (has_lt h), pick_at h]

theorem paramsBack_ok {a0 ax : Option Addr} {L : List Pd} {X : List Int} (c0 cx : Nat) {w : World} (hr : Rd w a0 (L.flatMap pv)) (hx : Rd w ax (X.map iv)) : Does Try.prog 4 #[.slice a0 L.length c0, .slice ax X.length cx] w fun x w' => x = .bool true ∧ Mod [] w w' := by
  apply w4
  unfold F4
  have live : ∀ {w' : World}, Mod [] w w' → Does Try.prog 9 #[] w' (fun v w'' => ∃ (x : Bool), v = .bool x ∧ (Value.bool x = .bool true ∧ Mod [] w w'')) := fun M => (alive_ok _).mono fun v w' h => ⟨_, h.1, rfl, M.none h.2⟩
  unfold F4_j1
  refine iteI (fun hl => by rw [if_pos rfl]; exact live (Mod.refl _)) (fun hl => ?_)
  refine iteI (fun hl => live (Mod.refl _)) (fun hl2 => ?_)
  refine (PN.new c0 hr).mono ?_
  rintro _ w1 ⟨p, e, rfl, he, m1, hbad, hgood⟩
  refine ⟨_, _, rfl, iteI (fun h0 => ?_) (fun h0 => ?_)⟩
  · rw [hbad h0, if_pos (by simp)]
    exact live m1
  have h0 : e = 0 := Classical.byContradiction h0
  obtain ⟨g, rfl, P1⟩ := hgood h0
  have hg := P1.good
  refine (P1.pack cx (hx.mod m1 (by simp))).mono ?_
  rintro _ w2 ⟨b, cb, rfl, rb, m2, sb⟩
  have P2 := P1.mod m2
  refine ⟨_, _, _, _, rfl, iteI (fun h1 => ?_) (fun h1 => ?_)⟩
  · rw [packR_err h1, if_pos (by simp)]
    exact live P2.m
  obtain ⟨hc, hB⟩ := packR_ok (Classical.byContradiction h1)
  have hX := chooseE_len hc
  have hw := picks_ok hg hc
  rw [hB] at rb ⊢
  have hlen : (pack (bitsOf (X.map (pick L)))).length ≤ 100000 := by
    have := bits_len (X.map (pick L)) (fun d hd => (hw d hd).1)
    rw [List.length_map] at this
    rw [pack_len]
    omega
  refine (unpack_ok c0 cx cb (hr.mod P2.m (by simp)) (hx.mod P2.m (by simp)) rb hlen).mono ?_
  rw [unpR_is (by rw [← he]; exact h0) hc, back hw]
  rintro _ w3 ⟨u, cu, rfl, ru, m3, su⟩
  dsimp only at ru ⊢
  have P3 := P2.mod m3
  refine ⟨_, _, _, _, rfl, ?_⟩
  rw [if_neg (by simp), if_neg (by simp [vals])]
  refine LoopP.of (fun (x : Int) w' => ∃ i : Nat, i ≤ X.length ∧ x = (i : Int) ∧ Mod [] w3 w') (fun x _ => X.length - x.toNat) ⟨0, by omega, rfl, Mod.refl _⟩ ?_
  rintro _ w4 ⟨i, hi, rfl, m4⟩
  unfold F4_b2
  have P4 := P3.mod m4
  have hvl : (vals (X.map (pick L))).length = X.length := by simp [vals]
  refine iteI (fun hlt => ?_) (fun hlt => live P4.m)
  have hlt : i < X.length := by omega
  have hh := chooseE_all hc hlt
  obtain ⟨px, hpx, hcx⟩ := rd_get (hx.mod P4.m (by simp)) hlt
  refine ⟨px, hpx, by omega, by omega, _, hcx, (P4.get _).mono ?_⟩
  rintro _ _ ⟨rfl, rfl⟩
  refine ⟨_, _, get_at hh, ?_⟩
  rw [if_neg (by simp)]
  have md : Mod [] w4 w4.drew := Mod.drew w4
  obtain ⟨pu, hpu, hcu⟩ := ((ru.mod m4 (by simp)).mod md (by simp)).flat (vv_len _) (by decide) (i := i) (by omega)
  have hvi : (vals (X.map (pick L)))[i]'(by omega) = ((pick L X[i]).1, (pick L X[i]).2.2.2) := by simp [vals]
  rw [hvi] at hcu
  obtain ⟨px', hpx', hcx'⟩ := rd_get ((hx.mod P4.m (by simp)).mod md (by simp)) hlt
  rw [hpx] at hpx'
  cases hpx'
  refine ⟨pu, hpu, by omega, by omega, _, by simpa [add_zero] using hcu 0 _ rfl, by omega, by omega, _, hcx', ?_⟩
  rw [if_neg (by rw [(pick_good hg hh).2.2.1]; simp)]
  refine ⟨by omega, by omega, _, hcu 1 _ rfl, ?_⟩
  rw [if_neg (by simp), wi64 (by omega)]
  exact ⟨_, by omega, ⟨i + 1, by omega, rfl, m4.none md⟩, rfl⟩

/-! ### ParamsForms -/
theorem append1 {w : World} {a : Option Addr} {c : Nat} {l : List Int} (hl : l.length ≤ 1000) (ho : Own w 3 1 a l.length c (l.map iv)) (x : Int) {q : Nat} (hq : Blk w q 3 [.int .i64 x]) :
    ∃ a' c' w', (Builtin.append_ #[23, 23] 23 #[.slice a l.length c, .slice (some (base q)) 1 1]).run Try.prog w = .ok (.slice a' (l ++ [x]).length c') w' ∧ Own w' 3 1 a' (l ++ [x]).length c' ((l ++ [x]).map iv) ∧ Mod (fp a) w w' ∧ (fp a' = fp a ∨ fp a' = [w.heap.size]) := by
  obtain ⟨a', c', w', run, o3, m3, f3⟩ := append_own (d := 1) Try.underlying23 elem3 23 ho (Rd.blk hq) (m := 1) rfl (by simp [one]) (by omega) (by omega)
  exact ⟨a', c', w', by rw [List.length_append]; exact run, by rw [List.length_append, List.map_append]; exact o3, m3, f3⟩
/-- The pool after the last k definitions got new values. -/
structure Nw (B : List UInt8) (L : List Pd) (i : Nat) (M : List Pd) : Prop where
  len : M.length = L.length
  at_ : ∀ k (h1 : k < M.length) (h2 : k < L.length) (h3 : L.length - 1 - k < (news B L.reverse).length), M[k] = if L.length - 1 - k < i then (news B L.reverse)[L.length - 1 - k] else L[k]
theorem rev_at (L : List Pd) {i : Nat} (h : i < L.reverse.length) (h2 : L.length - 1 - i < L.length) : L.reverse[i] = L[L.length - 1 - i] := List.getElem_reverse h
theorem Nw.step {B : List UInt8} {L M : List Pd} (hg : Good L) (hgM : Good M) {i : Nat} (h : Nw B L i M) (hi : i < L.length) (hr : i < L.reverse.length) :
    setE M L.reverse[i].1 (sval L.reverse[i] (num B (pos L.reverse i) (wd L.reverse[i]))) = 0 ∧ Nw B L (i + 1) (setL M L.reverse[i].1 (sval L.reverse[i] (num B (pos L.reverse i) (wd L.reverse[i])))) := by
  have hk : L.length - 1 - i < L.length := by omega
  have hkM : L.length - 1 - i < M.length := by have := h.len; omega
  have hnl := news_len B L.reverse
  have hM : M[L.length - 1 - i] = L[L.length - 1 - i] := by
    rw [h.at_ _ hkM hk (by omega), if_neg (by omega)]
  have hre := rev_at L hr hk
  have hf : fidx (isId L.reverse[i].1) M = L.length - 1 - i := find_at hgM hkM (by rw [hM, hre])
  have hwk : wOk L.reverse[i] := by rw [hre]; exact (hg.ok _ hk).2.2.1
  have hin := (sval_in hwk (num_lt B (pos L.reverse i) (wd L.reverse[i]))).1
  generalize hv : sval L.reverse[i] (num B (pos L.reverse i) (wd L.reverse[i])) = v at *
  have hin' : inR M[L.length - 1 - i] v = true := by rw [hM, ← hre]; exact hin
  have hE : setE M L.reverse[i].1 v = 0 := by
    unfold setE
    rw [dif_pos (by omega)]
    simp only [hf]
    rw [if_pos hin']
  have hL : setL M L.reverse[i].1 v = M.set (L.length - 1 - i) (upd M[L.length - 1 - i] v) := by
    unfold setL
    rw [dif_pos (by omega)]
    simp only [hf]
    rw [if_pos hin']
  refine ⟨hE, ?_⟩
  rw [hL]
  refine ⟨by rw [List.length_set]; exact h.len, fun k h1 h2 h3 => ?_⟩
  rw [List.getElem_set]
  by_cases hke : L.length - 1 - i = k
  · subst hke
    rw [if_pos rfl, if_pos (by omega), hM, ← hre]
    have e1 : L.length - 1 - (L.length - 1 - i) = i := by omega
    simp only [e1]
    rw [news_get B L.reverse (by omega) hr, hv]
  · rw [if_neg hke, h.at_ k (by rw [List.length_set] at h1; exact h1) h2 h3]
    by_cases hlt : L.length - 1 - k < i
    · rw [if_pos hlt, if_pos (by omega)]
    · rw [if_neg hlt, if_neg (by omega)]
theorem Nw.done {B : List UInt8} {L M : List Pd} (h : Nw B L L.length M) (hgM : Good M) (hg : Good L) : (ids L.reverse).map (pick M) = news B L.reverse := by
  have hnl := news_len B L.reverse
  have hrl : L.reverse.length = L.length := by simp
  apply List.ext_getElem
  · simp [ids, hnl]
  · intro i h1 h2
    have hi : i < L.length := by omega
    have hk : L.length - 1 - i < L.length := by omega
    have hkM : L.length - 1 - i < M.length := by have := h.len; omega
    have hM := h.at_ _ hkM hk (by omega)
    rw [if_pos (by omega)] at hM
    have e1 : L.length - 1 - (L.length - 1 - i) = i := by omega
    simp only [e1] at hM
    have hid : ((ids L.reverse)[i]'(by simp [ids]; omega)) = M[L.length - 1 - i].1 := by
      rw [hM, news_get B L.reverse h2 (by omega)]
      simp [ids, upd]
    have hf : fidx (isId ((ids L.reverse)[i]'(by simp [ids]; omega))) M = L.length - 1 - i := find_at hgM hkM hid.symm
    rw [List.getElem_map]
    unfold pick
    rw [hf, getD_at M hkM, hM]
theorem ids_has {L M : List Pd} (h : M.length = L.length) (hid : ∀ k (h1 : k < M.length) (h2 : k < L.length), M[k].1 = L[k].1) (hgM : Good M) (hl : L.length ≤ 256) : chooseE M (ids L.reverse) = 0 := by
  refine chooseE_ok (by simp [ids]; omega) (fun i hi => ?_)
  have hi' : i < L.length := by simpa [ids] using hi
  have hk : L.length - 1 - i < M.length := by omega
  have : fidx (isId ((ids L.reverse)[i])) M = L.length - 1 - i := find_at hgM hk (by rw [hid _ hk (by omega)]; simp [ids])
  unfold has
  rw [this]
  exact decide_eq_true hk
theorem Nw.ids {B : List UInt8} {L M : List Pd} {i : Nat} (h : Nw B L i M) : ∀ k (h1 : k < M.length) (h2 : k < L.length), M[k].1 = L[k].1 := by
  intro k h1 h2
  have hnl := news_len B L.reverse
  have hrl : L.reverse.length = L.length := by simp
  rw [h.at_ k h1 h2 (by omega)]
  split
  · rw [news_get B L.reverse (by omega) (by omega)]
    show L.reverse[L.length - 1 - k].1 = _
    rw [rev_at L (by omega) (by omega)]
    have e1 : L.length - 1 - (L.length - 1 - k) = k := by omega
    simp only [e1]
  · rfl

theorem paramsForms_ok {a0 ab : Option Addr} {L : List Pd} {B : List UInt8} (c0 cb : Nat) {w : World} (hr : Rd w a0 (L.flatMap pv)) (hb : Rd w ab (B.map bv)) : Does Try.prog 5 #[.slice a0 L.length c0, .slice ab B.length cb] w fun x w' => x = .bool true ∧ Mod [] w w' := by
  apply w5
  unfold F5
  have live : ∀ {w' : World}, Mod [] w w' → Does Try.prog 9 #[] w' (fun v w'' => ∃ (x : Bool), v = .bool x ∧ (Value.bool x = .bool true ∧ Mod [] w w'')) := fun M => (alive_ok _).mono fun v w' h => ⟨_, h.1, rfl, M.none h.2⟩
  unfold F5_j1
  refine iteI (fun hl => by rw [if_pos rfl]; exact live (Mod.refl _)) (fun hl => ?_)
  refine iteI (fun hl => live (Mod.refl _)) (fun hl2 => ?_)
  have hl2 : ¬ 1100 < (B.length : Int) := by simpa using hl2
  refine (PN.new c0 hr).mono ?_
  rintro _ w1 ⟨p, e, rfl, he, m1, hbad, hgood⟩
  refine ⟨_, _, rfl, iteI (fun h0 => ?_) (fun h0 => ?_)⟩
  · rw [hbad h0, if_pos (by simp)]
    exact live m1
  have h0 : e = 0 := Classical.byContradiction h0
  obtain ⟨g, rfl, P1⟩ := hgood h0
  have hg := P1.good
  have hrl : L.reverse.length = L.length := by simp
  have hil : (ids L.reverse).length = L.length := by simp [ids]
  refine LoopP.of (fun (x : Option Addr × Nat × Nat × Int) w' => ∃ (j : Nat) (o : Option Addr) (co : Nat), j ≤ L.length ∧ x = (o, ((ids L.reverse).take j).length, co, (L.length : Int) - 1 - (j : Int)) ∧ Own w' 3 1 o ((ids L.reverse).take j).length co (((ids L.reverse).take j).map iv) ∧ Since w1 (fp o) ∧ Mod [] w1 w') (fun x _ => (x.2.2.2 + 1).toNat) ⟨0, none, 0, by omega, by rw [wi64 (by omega)]; simp, by simpa using Own.nil, by intro y hy; simp [fp] at hy, Mod.refl _⟩ ?_
  rintro _ w2 ⟨j, o, co, hj, rfl, ho, so, m2⟩
  unfold F5_b2
  dsimp only
  have P2 := P1.mod m2
  refine iteI (fun hlt => ?_) (fun hlt => ?_)
  · have hlt : j < L.length := by omega
    have ek : (L.length : Int) - 1 - (j : Int) = ((L.length - 1 - j : Nat) : Int) := by omega
    rw [ek]
    obtain ⟨pa, hpa, hcc⟩ := (hr.mod P2.m (by simp)).flat (pv_len _) (by decide) (i := L.length - 1 - j) (by omega)
    refine ⟨pa, hpa, by omega, by omega, _, by simpa [add_zero] using hcc 0 _ rfl, ?_⟩
    refine New.use fun w3 h3 m3 z3 => ?_
    obtain ⟨o', co', w4, run, o4, m4, f4⟩ := append1 (by rw [List.length_take]; omega) (ho.mod m3 (by simp)) (L[L.length - 1 - j].1) h3
    have et : (ids L.reverse).take j ++ [L[L.length - 1 - j].1] = (ids L.reverse).take (j + 1) := by
      have hh : (ids L.reverse)[j]'(by omega) = L[L.length - 1 - j].1 := by simp [ids]
      rw [List.take_succ_eq_append_getElem (by omega), hh]
    rw [et] at run o4
    refine ⟨o', _, co', w4, run, ?_⟩
    have e2 : IntKind.i64.wrap (((L.length - 1 - j : Nat) : Int) - 1) = (L.length : Int) - 1 - ((j + 1 : Nat) : Int) := by rw [wi64 (by omega)]; omega
    rw [e2]
    refine ⟨_, by omega, ⟨j + 1, o', co', by omega, rfl, o4, fun y hy => ?_, (m2.none m3).since m4 so⟩, rfl⟩
    rcases f4 with f | f <;> rw [f] at hy
    · exact so y hy
    · have := m2.size; simp at hy; omega
  have hjn : j = L.length := by omega
  subst hjn
  have et : (ids L.reverse).take L.length = ids L.reverse := List.take_of_length_le (by omega)
  rw [et] at ho ⊢
  have hX := ho.rd
  have hc := ids_has (L := L) (M := L) rfl (fun _ _ _ => rfl) hg hg.len
  have hds : (ids L.reverse).map (pick L) = L.reverse := by
    apply List.ext_getElem
    · simp [ids]
    · intro i h1 h2
      rw [List.getElem_map]
      have hk : L.length - 1 - i < L.length := by omega
      have : fidx (isId ((ids L.reverse)[i]'(by omega))) L = L.length - 1 - i := find_at hg hk (by simp [ids])
      unfold pick
      rw [this, getD_at L hk, rev_at L h2 hk]
  refine (unpack_ok c0 co cb (hr.mod P2.m (by simp)) hX (hb.mod P2.m (by simp)) (by omega)).mono ?_
  rw [unpR_is (by rw [← he]; exact h0) hc, hds]
  rintro _ w3 ⟨u, cu, rfl, ru, m3, su⟩
  refine ⟨_, _, _, _, rfl, iteI (fun h1 => ?_) (fun h1 => ?_)⟩
  · rw [unpD_err h1, if_pos (by simp)]
    exact live (P2.m.none m3)
  obtain ⟨eU, eB⟩ := forth (ds := L.reverse) (B := B) (fun d hd => by
    obtain ⟨k, hk, rfl⟩ := List.getElem_of_mem (List.mem_reverse.1 hd)
    exact (hg.ok k hk).2.2.1) (Classical.byContradiction h1)
  rw [eU] at ru ⊢
  dsimp only at ru ⊢
  have hdl := decN_len B L.reverse L.reverse.length
  rw [if_neg (by omega)]
  have hgl := hg.len
  -- the pool, apart from the two lists
  generalize hT : fpv u ((decN B L.reverse L.reverse.length).flatMap vv) ++ fpv o ((ids L.reverse).map iv) = T
  have z12 := m2.size
  have Po3 : PN w w3 g L T := P1.re (m2.none m3) (fun y hy => by
    rw [← hT] at hy
    right
    rcases List.mem_append.1 hy with h | h
    · exact ⟨by have := su y (fpv_sub y h); omega, ru.lt y h⟩
    · exact ⟨so y (fpv_sub y h), by have := hX.lt y h; have := m3.size; omega⟩)
  refine LoopP.of (fun (x : Int) w' => ∃ (i : Nat) (M : List Pd), i ≤ L.length ∧ x = (i : Int) ∧ PN w w' g M T ∧ Nw B L i M ∧ Rd w' u ((decN B L.reverse L.reverse.length).flatMap vv) ∧ Rd w' o ((ids L.reverse).map iv)) (fun x _ => L.length - x.toNat) ⟨0, L, by omega, rfl, Po3, ⟨rfl, fun k h1 h2 h3 => by rw [if_neg (by omega)]⟩, ru, hX.mod m3 (by simp)⟩ ?_
  rintro _ w4 ⟨i, M, hi, rfl, P4, hN, ru4, rx4⟩
  unfold F5_b3
  refine iteI (fun hlt => ?_) (fun hlt => ?_)
  · have hlt : i < L.length := by omega
    have md : Mod [] w4 w4.drew := Mod.drew w4
    have P5 := P4.mod md
    have ru5 := ru4.mod md (by simp)
    have rx5 := rx4.mod md (by simp)
    have ru5' := ru5
    obtain ⟨pu, hpu, hcu⟩ := ru5.flat (vv_len _) (by decide) (i := i) (by omega)
    rw [decN_get B L.reverse _ (by omega) (by omega)] at hcu
    refine ⟨pu, hpu, by omega, by omega, L.reverse[i].1, by have := hcu 0 _ rfl; rw [add_zero] at this; exact this, by omega, by omega, sval L.reverse[i] (num B (pos L.reverse i) (wd L.reverse[i])), hcu 1 _ rfl, ?_⟩
    obtain ⟨hE, hN'⟩ := hN.step hg P4.good hlt (by omega)
    refine (P5.set _ _).mono ?_
    rintro _ w6 ⟨rfl, P6, k6⟩
    refine ⟨_, rfl, ?_⟩
    rw [if_neg (by rw [hE]; simp), wi64 (by omega)]
    exact ⟨_, by omega, ⟨i + 1, _, by omega, rfl, P6, hN', k6.rd ru5' (fun y hy => by rw [← hT]; exact List.mem_append_left _ hy), k6.rd rx5 (fun y hy => by rw [← hT]; exact List.mem_append_right _ hy)⟩, rfl⟩
  · have hin : i = L.length := by omega
    subst hin
    have hpk : packR M (ids L.reverse) = (B, 0) := by
      unfold packR
      rw [if_neg (by simp [ids_has hN.len hN.ids P4.good hg.len]), hN.done P4.good hg, eB]
    refine (P4.pack co rx4).mono ?_
    rw [hpk]
    rintro _ w5 ⟨b, cb5, rfl, rb, m5, sb⟩
    refine ⟨_, _, _, _, rfl, ?_⟩
    rw [if_pos rfl]
    refine ⟨_, toStr_ok cb5 rb, _, toStr_ok cb (hb.mod (P4.m.none m5) (by simp)), ?_⟩
    rw [if_pos (by simp)]
    exact live (P4.m.none m5)
end Go.Proofs.Ytcdnljibefpchaa
