/-
  The laws HkFull and HkPeriods, as contracts.
-/
import Derived.Test.YtcgkmmiokmbjdaaTb
namespace Go.Proofs.Ytcgkmmiokmbjdaa
open Go Go.Sh Go.Proofs
set_option linter.unusedVariables false
set_option linter.unusedSimpArgs false
set_option linter.unusedSectionVars false

theorem alive {w w' : World} (M : Mod [] w w') : Does Try.prog 12 #[] w' (fun v w'' => ∃ (x : Bool), v = .bool x ∧ (Value.bool x = .bool true ∧ Mod [] w w'')) := (lives_ok _).mono fun v w'' h => ⟨_, h.1, rfl, M.none h.2⟩

/-! ### HkFull -/
def ev (j : Nat) : Sa := ⟨((2 * j : Nat) : Int), ((1 + j : Nat) : Int), false, [(j : Int)], 0⟩
def evs (i : Nat) : List Sa := (List.range i).map ev
theorem evs_len (i : Nat) : (evs i).length = i := by simp [evs]
theorem evs_at {i j : Nat} (h : j < i) (h' : j < (evs i).length) : (evs i)[j] = ev j := by simp [evs]
theorem evs_succ (i : Nat) : evs (i + 1) = evs i ++ [ev i] := by unfold evs; rw [List.range_succ, List.map_append]; rfl
theorem kx_evs {i n : Nat} (h : n ≤ i) : kx ((2 * n : Nat) : Int) (evs i) = n :=
  fidx_cut _ _ n (by rw [evs_len]; exact h) (fun j hj => by rw [evs_at (by omega)]; exact decide_eq_false (by show ¬ ((2 * n : Nat) : Int) ≤ ((2 * j : Nat) : Int); omega)) (fun h' => by rw [evs_len] at h'; rw [evs_at h']; exact decide_eq_true (by show ((2 * n : Nat) : Int) ≤ ((2 * n : Nat) : Int); omega))
theorem bad_no (id ivl x : Int) (h1 : 0 ≤ id ∧ id ≤ 65535) (h2 : 1 ≤ ivl ∧ ivl ≤ 1048576) (h3 : 0 ≤ x ∧ x ≤ 65535) : ¬ badA id ivl [x] := by
  unfold badA
  rintro (hh | hh | hh | hh | hh | hh | ⟨y, hy, hh⟩)
  · omega
  · omega
  · omega
  · omega
  · simp at hh
  · simp at hh
  · simp at hy; subst hy; omega
theorem isI_evs {i n : Nat} (h : n < i) : isI ((2 * n : Nat) : Int) (evs i) = true := by
  unfold isI
  refine decide_eq_true ⟨by rw [kx_evs (by omega), evs_len]; exact h, ?_⟩
  simp only [kx_evs (show n ≤ i by omega)]
  rw [evs_at h]
  rfl
theorem isI_no {L : List Sa} {id : Int} (h : ∀ e ∈ L, e.id ≠ id) : isI id L = false := by
  unfold isI
  refine decide_eq_false ?_
  rintro ⟨h1, h2⟩
  exact h _ (List.getElem_mem h1) h2
theorem evs_id {i : Nat} {e : Sa} (h : e ∈ evs i) : ∃ j < i, e.id = ((2 * j : Nat) : Int) := by
  unfold evs at h
  obtain ⟨j, hj, rfl⟩ := List.mem_map.1 h
  exact ⟨j, List.mem_range.1 hj, rfl⟩
set_option maxRecDepth 100000 in
theorem hkFull_ok (n : Nat) (hn : n < 256) (w : World) : Does Try.prog 3 #[.int .u8 (n : Int)] w fun v w' => v = .bool true ∧ Mod [] w w' := by
  apply w3
  unfold F3
  refine (Tb.new w).mono ?_
  rintro _ w1 ⟨rfl, t1⟩
  refine ⟨_, rfl, ?_⟩
  rw [if_neg (by simp)]
  refine LoopP.of (fun (x : Int) w' => ∃ (i : Nat) (l : List En) (T : List Nat), i ≤ 256 ∧ x = (i : Int) ∧ Tb w w' w.heap.size 0 l T ∧ says l = evs i) (fun x _ => (256 - x).toNat) ⟨0, [], [], by omega, rfl, t1, rfl⟩ ?_
  intro x w2 hJ
  obtain ⟨i, l, T, hi, hx, t2, hE⟩ := hJ
  subst hx
  unfold F3_b1
  refine iteI (fun hlt => ?_) (fun hlt => ?_)
  · have hlt : i < 256 := by omega
    have e1 : IntKind.i64.wrap (2 * (i : Int)) = ((2 * i : Nat) : Int) := by rw [wi64 (by omega)]; omega
    have e2 : IntKind.i64.wrap (1 + (i : Int)) = ((1 + i : Nat) : Int) := by rw [wi64 (by omega)]; omega
    have e3 : IntKind.i64.wrap ((i : Int) + 1) = ((i + 1 : Nat) : Int) := by rw [wi64 (by omega)]; omega
    rw [e1, e2, e3]
    refine New.use fun w3 h3 m3 z3 => ?_
    refine ((t2.mod m3).def _ _ (by omega) 1 (Rd.blk (vs := [(i : Int)].map iv) h3) (by simp)).mono ?_
    rintro _ w4 ⟨rfl, k4, l4, T4, e4, t4, s4⟩
    rw [hE] at e4 ⊢
    have d0 : defE (evs i) ((2 * i : Nat) : Int) ((1 + i : Nat) : Int) [(i : Int)] = 0 := by
      unfold defE
      rw [if_neg (bad_no _ _ _ (by omega) (by omega) (by omega)), isI_no (fun e he hh => by obtain ⟨j, hj, h2⟩ := evs_id he; omega), if_neg (by simp), if_neg (by rw [evs_len]; omega)]
    have dl : defL (evs i) ((2 * i : Nat) : Int) ((1 + i : Nat) : Int) [(i : Int)] = evs (i + 1) := by
      unfold defL
      rw [if_pos d0, kx_evs (Nat.le_refl i), List.take_of_length_le (by rw [evs_len]; exact Nat.le_refl _), List.drop_of_length_le (by rw [evs_len]; exact Nat.le_refl _), evs_succ, List.append_nil]
      rfl
    rw [d0]
    refine ⟨_, rfl, ?_⟩
    rw [if_neg (by simp)]
    exact ⟨_, by omega, ⟨i + 1, l4, T4, by omega, rfl, t4, e4.trans dl⟩, rfl⟩
  have hi : i = 256 := by omega
  subst hi
  have eo : IntKind.i64.wrap (IntKind.i64.wrap (2 * (IntKind.i64.wrap (n : Int))) + 1) = ((2 * n + 1 : Nat) : Int) := by rw [wi64 (n := (n : Int)) (by omega), wi64 (n := 2 * (n : Int)) (by omega), wi64 (by omega)]; omega
  have ee : IntKind.i64.wrap (2 * (IntKind.i64.wrap (n : Int))) = ((2 * n : Nat) : Int) := by rw [wi64 (n := (n : Int)) (by omega), wi64 (by omega)]; omega
  rw [eo, ee]
  have hodd : isI ((2 * n + 1 : Nat) : Int) (evs 256) = false := isI_no (fun e he hh => by obtain ⟨j, hj, h2⟩ := evs_id he; omega)
  have b1 : ∀ id : Int, (0 ≤ id ∧ id ≤ 65535) → ¬ badA id 1 [1] := fun id h => bad_no id 1 1 h (by omega) (by omega)
  refine New.use fun w3 h3 m3 z3 => ?_
  refine ((t2.mod m3).def ((2 * n + 1 : Nat) : Int) 1 (by omega) 1 (Rd.blk (vs := [1].map iv) h3) (by simp)).mono ?_
  rintro _ w4 ⟨rfl, k4, l4, T4, e4, t4, s4⟩
  have d7 : defE (says l) ((2 * n + 1 : Nat) : Int) 1 [1] = 7 := by
    rw [hE]
    unfold defE
    rw [if_neg (b1 _ (by omega)), hodd, if_neg (by simp), if_pos (by rw [evs_len]; omega)]
  have e4 : says l4 = evs 256 := by rw [e4]; unfold defL; rw [if_neg (by rw [d7]; decide)]; exact hE
  rw [d7]
  refine ⟨_, rfl, ?_⟩
  rw [if_neg (by simp)]
  refine New.use fun w5 h5 m5 z5 => ?_
  refine ((t4.mod m5).def ((2 * n : Nat) : Int) 1 (by omega) 1 (Rd.blk (vs := [1].map iv) h5) (by simp)).mono ?_
  rintro _ w6 ⟨rfl, k6, l6, T6, e6, t6, s6⟩
  have d9 : defE (says l4) ((2 * n : Nat) : Int) 1 [1] = 9 := by
    rw [e4]
    unfold defE
    rw [if_neg (b1 _ (by omega)), isI_evs hn, if_pos rfl]
  have e6 : says l6 = evs 256 := by rw [e6]; unfold defL; rw [if_neg (by rw [d9]; decide)]; exact e4
  rw [d9]
  refine ⟨_, rfl, ?_⟩
  rw [if_neg (by simp)]
  refine (t6.del ((2 * n : Nat) : Int) (by omega)).mono ?_
  rintro _ w7 ⟨rfl, k7, l7, e7, t7⟩
  have kn : kx ((2 * n : Nat) : Int) (evs 256) = n := kx_evs (by omega)
  have d0 : delE (says l6) ((2 * n : Nat) : Int) = 0 := by
    rw [e6]
    unfold delE
    rw [isI_evs hn, if_pos rfl, kn, onAt_at (by rw [evs_len]; exact hn), evs_at hn]
    rfl
  have e7 : says l7 = (evs 256).take n ++ (evs 256).drop (n + 1) := by rw [e7]; unfold delL; rw [if_pos d0, e6, kn]
  rw [d0]
  refine ⟨_, rfl, ?_⟩
  rw [if_neg (by simp)]
  refine New.use fun w8 h8 m8 z8 => ?_
  refine ((t7.mod m8).def ((2 * n + 1 : Nat) : Int) 1 (by omega) 1 (Rd.blk (vs := [1].map iv) h8) (by simp)).mono ?_
  rintro _ w9 ⟨rfl, k9, l9, T9, e9, t9, s9⟩
  have hlen7 : (says l7).length = 255 := by rw [e7]; simp [evs_len]; omega
  have hat : ∀ j (h : j < (says l7).length), (says l7)[j] = ev (if j < n then j else j + 1) := by
    intro j h
    simp only [e7]
    by_cases hj : j < n
    · rw [if_pos hj, List.getElem_append_left (by rw [List.length_take, evs_len]; omega), List.getElem_take, evs_at (by omega)]
    · rw [if_neg hj, List.getElem_append_right (by rw [List.length_take, evs_len]; omega), List.getElem_drop, evs_at (by simp only [List.length_take, evs_len]; omega)]
      congr 1
      simp only [List.length_take, evs_len]
      omega
  have ko : kx ((2 * n + 1 : Nat) : Int) (says l7) = n := by
    refine fidx_cut _ _ n (by omega) (fun j hj => ?_) (fun h' => ?_)
    · rw [hat j (by omega), if_pos hj]
      exact decide_eq_false (by show ¬ ((2 * n + 1 : Nat) : Int) ≤ ((2 * j : Nat) : Int); omega)
    · rw [hat n h', if_neg (by omega)]
      exact decide_eq_true (by show ((2 * n + 1 : Nat) : Int) ≤ ((2 * (n + 1) : Nat) : Int); omega)
  have do0 : defE (says l7) ((2 * n + 1 : Nat) : Int) 1 [1] = 0 := by
    unfold defE
    rw [if_neg (b1 _ (by omega)), isI_no (fun e he hh => ?_), if_neg (by simp), if_neg (by omega)]
    obtain ⟨j, hj, rfl⟩ := List.getElem_of_mem he
    rw [hat j hj] at hh
    have hh : ((2 * (if j < n then j else j + 1) : Nat) : Int) = ((2 * n + 1 : Nat) : Int) := hh
    omega
  have e9 : says l9 = (says l7).take n ++ [⟨((2 * n + 1 : Nat) : Int), 1, false, [1], 0⟩] ++ (says l7).drop n := by rw [e9]; unfold defL; rw [if_pos do0, ko]
  rw [do0]
  refine ⟨_, rfl, ?_⟩
  rw [if_neg (by simp)]
  refine t9.struct.mono ?_
  rintro _ w10 ⟨o, es, c, rfl, d10, x10, y10, m10⟩
  have hes : es.length = 256 := by
    have h1 := congrArg List.length y10
    have h2 := congrArg List.length e9
    rw [List.length_map, List.length_map] at h1
    rw [says_len] at h2
    simp at h2
    rw [says_len] at hlen7
    simp [says_len] at h2
    omega
  refine ⟨_, _, _, rfl, ?_⟩
  rw [if_pos (by omega)]
  obtain ⟨p, hp, hc⟩ := d10.flat (svv_len _) (by decide) (i := n) (by omega)
  refine ⟨p, hp, by omega, by omega, _, by rw [Int.toNat_natCast]; exact (by have := hc 0 _ rfl; rw [add_zero] at this; exact this), ?_⟩
  have hid : (es[n]'(by omega)).id = ((2 * n + 1 : Nat) : Int) := by
    have hl9 : n < l9.length := by have h1 := congrArg List.length y10; simp at h1; omega
    have h1 : (es.map En.sy)[n]'(by simp; omega) = (l9.map En.sy)[n]'(by simpa using hl9) := by simp only [y10]
    rw [List.getElem_map, List.getElem_map] at h1
    have h2 : (es[n]'(by omega)).id = l9[n].id := congrArg (fun x => x.1) h1
    have h3 : (says l9)[n]? = some ⟨((2 * n + 1 : Nat) : Int), 1, false, [1], 0⟩ := by
      have hl : ((says l7).take n).length = n := by rw [List.length_take]; omega
      rw [e9, List.append_assoc, List.getElem?_append_right (by omega), hl, Nat.sub_self]
      rfl
    have h3' : (says l9)[n]? = some l9[n].say := by unfold says; rw [List.getElem?_map, List.getElem?_eq_getElem hl9]; rfl
    rw [h3'] at h3
    have h3 := Option.some.inj h3
    have h4 : l9[n].id = ((2 * n + 1 : Nat) : Int) := congrArg Sa.id h3
    rw [h2, h4]
  rw [if_pos hid]
  exact alive (t9.m.none m10)

/-! ### HkPeriods -/
def one (n : Nat) (on : Bool) (nx : Int) : List Sa := [⟨9, (n : Int), on, [1], nx⟩]
theorem due_one {n : Nat} {nx now : Int} (h : nx ≤ now) : dueO (one n true nx) now = one n true nx := by
  unfold dueO one
  rw [List.filter_cons, if_pos (by show (true && decide (nx ≤ now)) = true; rw [decide_eq_true h]; rfl)]
  rfl
theorem due_none {n : Nat} {on : Bool} {nx now : Int} (h : on = false ∨ now < nx) : dueO (one n on nx) now = [] := by
  unfold dueO one
  rw [List.filter_cons, if_neg]
  · rfl
  · show ¬ (on && decide (nx ≤ now)) = true
    rcases h with rfl | h
    · simp
    · rw [decide_eq_false (by omega)]; simp
theorem duS_one {n : Nat} {nx now : Int} (h : nx ≤ now) : (one n true nx).map (duS now) = one n true (wr (now + n)) := by
  have hd : isDue now ⟨9, (n : Int), true, [1], nx⟩ = true := by show (true && decide (nx ≤ now)) = true; rw [decide_eq_true h]; rfl
  unfold one duS
  rw [List.map_cons, if_pos hd]
  rfl
theorem duS_none {n : Nat} {on : Bool} {nx now : Int} (h : on = false ∨ now < nx) : (one n on nx).map (duS now) = one n on nx := by
  have hd : ¬ isDue now ⟨9, (n : Int), on, [1], nx⟩ = true := by
    show ¬ (on && decide (nx ≤ now)) = true
    rcases h with rfl | h
    · simp
    · rw [decide_eq_false (by omega)]; simp
  unfold one duS
  rw [List.map_cons, if_neg hd]
  rfl
theorem isI_one (n : Nat) (on : Bool) (nx : Int) : isI 9 (one n on nx) = true ∧ kx 9 (one n on nx) = 0 := by
  have h : kx 9 (one n on nx) = 0 := rfl
  refine ⟨decide_eq_true ⟨by rw [h]; show 0 < 1; omega, ?_⟩, h⟩
  simp only [h]
  rfl
theorem en_one {n : Nat} {on on' : Bool} {nx t : Int} : enL (one n on nx) 9 on' t = one n on' (if on' = true ∧ on = false then wr (t + n) else nx) := by
  obtain ⟨h1, h2⟩ := isI_one n on nx
  unfold enL
  rw [if_pos h1, h2]
  rfl
set_option maxRecDepth 100000 in
theorem hkPeriods_ok (a b c : Nat) (ha : a < 65536) (hb : b < 65536) (hc : c < 256) (w : World) : Does Try.prog 4 #[.int .u16 (a : Int), .int .u16 (b : Int), .int .u8 (c : Int)] w fun v w' => v = .bool true ∧ Mod [] w w' := by
  apply w4
  unfold F4
  have eb : IntKind.i64.wrap (b : Int) = (b : Int) := wi64 (by omega)
  have ec : IntKind.i64.wrap (c : Int) = (c : Int) := wi64 (by omega)
  obtain ⟨n, hn⟩ : ∃ n, n = 1 + a % 50 := ⟨_, rfl⟩
  have en : IntKind.i64.wrap (1 + (Int.tmod (IntKind.i64.wrap (a : Int)) 50)) = (n : Int) := by
    rw [wi64 (n := (a : Int)) (by omega), show (50 : Int) = ((50 : Nat) : Int) from rfl, ← Int.ofNat_tmod, wi64 (by omega)]
    omega
  have hn1 : 1 ≤ n ∧ n ≤ 50 := by omega
  rw [en, eb]
  refine (Tb.new w).mono ?_
  rintro _ w1 ⟨rfl, t1⟩
  refine ⟨_, rfl, ?_⟩
  rw [if_neg (by simp)]
  refine New.use fun w2 h2 m2 z2 => ?_
  refine ((t1.mod m2).def 9 (n : Int) (by decide) 1 (Rd.blk (vs := [1].map iv) h2) (by simp)).mono ?_
  rintro _ w3 ⟨rfl, k3, l3, T3, e3, t3, s3⟩
  have d0 : defE (says []) 9 (n : Int) [1] = 0 := by
    unfold defE
    rw [if_neg (bad_no _ _ _ (by omega) (by omega) (by omega)), if_neg (by decide), if_neg (by decide)]
  have e3 : says l3 = one n false 0 := by rw [e3]; unfold defL; rw [if_pos d0]; rfl
  rw [d0]
  refine ⟨_, rfl, ?_⟩
  rw [if_neg (by simp)]
  refine (t3.en 9 true (b : Int) (by decide)).mono ?_
  rintro _ w4 ⟨rfl, k4, l4, e4, t4⟩
  have eE : enE (says l3) 9 = 0 := by rw [e3]; unfold enE; rw [if_pos (isI_one _ _ _).1]
  have ep : passT 0 (b : Int) = (b : Int) := by
    unfold passT
    split
    · rfl
    · omega
  rw [ep] at e4 t4
  have e4 : says l4 = one n true ((b + n * 1 : Nat) : Int) := by
    rw [e4, e3, en_one, if_pos ⟨rfl, rfl⟩]
    unfold wr
    rw [wi64 (by omega)]
    congr 1
    omega
  rw [eE]
  refine ⟨_, rfl, ?_⟩
  rw [if_neg (by simp)]
  refine LoopP.of (fun (x : Int) w' => ∃ (i k : Nat) (l : List En) (T : List Nat) (t : Int), i ≤ c + 1 ∧ x = (i : Int) ∧ 1 ≤ k ∧ (k = 1 ∨ n * (k - 1) < i) ∧ i ≤ n * k ∧ Tb w w' w.heap.size t l T ∧ (0 ≤ t ∧ t ≤ ((b + i : Nat) : Int) ∧ (t = (b : Int) ∨ t + 1 = ((b + i : Nat) : Int))) ∧ says l = one n true ((b + n * k : Nat) : Int)) (fun x _ => (c + 1 - x).toNat) ⟨0, 1, l4, T3, (b : Int), by omega, rfl, by omega, .inl rfl, by omega, t4, by omega, e4⟩ ?_
  intro x w5 hJ
  obtain ⟨i, k, l, T, t, hi, hx, hk1, hk2, hik, t5, ht, e5⟩ := hJ
  subst hx
  unfold F4_b1
  rw [ec, eb, en]
  have hnk : n * k ≤ n * (k - 1) + n := by
    have : n * k = n * (k - 1) + n := by
      obtain ⟨j, rfl⟩ : ∃ j, k = j + 1 := ⟨k - 1, by omega⟩
      rw [Nat.add_sub_cancel, Nat.mul_succ]
    omega
  have hkb : n * k ≤ 500 := by
    rcases hk2 with rfl | hk2
    · omega
    · omega
  refine iteI (fun hlt => ?_) (fun hlt => ?_)
  · have hlt : i ≤ c := by omega
    have e1 : IntKind.i64.wrap ((b : Int) + (i : Int)) = ((b + i : Nat) : Int) := by rw [wi64 (by omega)]; omega
    have e2 : IntKind.i64.wrap ((i : Int) + 1) = ((i + 1 : Nat) : Int) := by rw [wi64 (by omega)]; omega
    rw [e1, e2]
    have ep2 : passT t ((b + i : Nat) : Int) = ((b + i : Nat) : Int) := by
      unfold passT
      split
      · rfl
      · omega
    have emod : Int.tmod (i : Int) (n : Int) = ((i % n : Nat) : Int) := by rw [← Int.ofNat_tmod]
    refine (t5.due ((b + i : Nat) : Int)).mono ?_
    rintro _ w6 ⟨k6, o, rs, oc, l6, rfl, q6, d6, e6, T6, s6, f6, t6⟩
    rw [ep2] at e6 t6 q6
    rw [e5] at e6 q6
    by_cases hdue : i = n * k
    · -- a report
      have hle : ((b + n * k : Nat) : Int) ≤ ((b + i : Nat) : Int) := by omega
      rw [due_one hle] at q6
      rw [duS_one hle] at e6
      have hrs : rs.length = 1 := by have := congrArg List.length q6; simpa [one] using this
      have hmod : i % n = 0 := by rw [hdue]; exact Nat.mul_mod_right n k
      have hpos : 0 < i := by
        have := Nat.mul_pos (show 0 < n by omega) (show 0 < k by omega)
        omega
      have hat : (rs[0]'(by omega)).t = ((b + i : Nat) : Int) := by
        have h1 : (rs.map Rp.say)[0]'(by simp; omega) = ((one n true ((b + n * k : Nat) : Int)).map (repS (fun _ => ([], 2)) ((b + i : Nat) : Int)))[0]'(by simp [one]) := by simp only [q6]
        rw [List.getElem_map] at h1
        exact congrArg (fun x => x.2.1) h1
      obtain ⟨p, hp, _, c61⟩ := rp_cells d6 (i := 0) (by omega)
      refine ⟨_, _, _, rfl, ?_⟩
      rw [if_neg (by omega), if_pos (by omega)]
      refine ⟨by omega, ?_⟩
      rw [emod, hmod, if_neg (by rw [hrs]; decide), if_pos (by omega)]
      refine ⟨p, hp, by omega, by omega, _, c61, ?_⟩
      rw [if_neg (by rw [hat]; simp)]
      have hnx : says l6 = one n true ((b + n * (k + 1) : Nat) : Int) := by
        rw [e6]
        unfold wr
        rw [wi64 (by omega)]
        congr 1
        rw [Nat.mul_succ]
        omega
      exact ⟨_, by omega, ⟨i + 1, k + 1, l6, T6, _, by omega, rfl, by omega, .inr (by rw [Nat.add_sub_cancel]; omega), by rw [Nat.mul_succ]; omega, t6, by omega, hnx⟩, rfl⟩
    · -- nothing
      have hgt : ((b + i : Nat) : Int) < ((b + n * k : Nat) : Int) := by omega
      rw [due_none (.inr hgt)] at q6
      rw [duS_none (.inr hgt)] at e6
      have hrs : rs.length = 0 := by have := congrArg List.length q6; simpa using this
      have nx : ∃ m, m < (c + 1 - (i : Int)).toNat ∧ (∃ (i' k : Nat) (l : List En) (T : List Nat) (t : Int), i' ≤ c + 1 ∧ ((i + 1 : Nat) : Int) = (i' : Int) ∧ 1 ≤ k ∧ (k = 1 ∨ n * (k - 1) < i') ∧ i' ≤ n * k ∧ Tb w w6 w.heap.size t l T ∧ (0 ≤ t ∧ t ≤ ((b + i' : Nat) : Int) ∧ (t = (b : Int) ∨ t + 1 = ((b + i' : Nat) : Int))) ∧ says l = one n true ((b + n * k : Nat) : Int)) ∧ (c + 1 - ((i + 1 : Nat) : Int)).toNat = m := by
        refine ⟨_, by omega, ⟨i + 1, k, l6, T6, _, by omega, rfl, hk1, ?_, by omega, t6, by omega, e6⟩, rfl⟩
        rcases hk2 with hk2 | hk2
        · exact .inl hk2
        · right; omega
      refine ⟨_, _, _, rfl, ?_⟩
      rw [if_neg (by omega)]
      refine iteI (fun hpos => ?_) (fun hpos => ?_)
      · refine ⟨by omega, ?_⟩
        have hmod : i % n ≠ 0 := by
          rcases hk2 with rfl | hk2
          · rw [Nat.mod_eq_of_lt (by omega)]; omega
          · have : i = n * (k - 1) + (i - n * (k - 1)) := by omega
            rw [this, Nat.mul_add_mod, Nat.mod_eq_of_lt (by omega)]
            omega
        rw [emod, if_neg (by rw [hrs, decide_eq_false (by decide), decide_eq_false (by omega)]; decide), if_neg (by omega)]
        exact nx
      · rw [if_neg (by rw [hrs]; decide), if_neg (by omega)]
        exact nx
  · have hic : i = c + 1 := by omega
    subst hic
    refine (t5.en 9 false (b : Int) (by decide)).mono ?_
    rintro _ w6 ⟨rfl, k6, l6, e6, t6⟩
    have eE : enE (says l) 9 = 0 := by rw [e5]; unfold enE; rw [if_pos (isI_one _ _ _).1]
    rw [e5, en_one, if_neg (by simp)] at e6
    rw [eE]
    refine ⟨_, rfl, ?_⟩
    rw [if_pos rfl]
    refine (t6.due _).mono ?_
    rintro _ w7 ⟨k7, o, rs, oc, l7, rfl, q7, d7, e7, T7, s7, f7, t7⟩
    rw [e6, due_none (.inl rfl)] at q7
    have hrs : rs.length = 0 := by have := congrArg List.length q7; simpa using this
    refine ⟨_, _, _, rfl, ?_⟩
    rw [if_pos (by omega)]
    exact alive t7.m
end Go.Proofs.Ytcgkmmiokmbjdaa
