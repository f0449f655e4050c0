/-
  The law HkApart, as a contract.
-/
import Derived.Test.YtcgkmmiokmbjdaaLaws2
namespace Go.Proofs.Ytcgkmmiokmbjdaa
open Go Go.Sh Go.Proofs
set_option linter.unusedVariables false
set_option linter.unusedSimpArgs false
set_option linter.unusedSectionVars false

section
variable {w0 w : World} {g : Nat} {t : Int} {l : List En} {T : List Nat} (h : Tb w0 w g t l T)
include h
/-- A store into a guarded block that no parameters lie in. -/
theorem Tb.put {x : Nat} (hx : x ∈ T) (h0 : w0.heap.size ≤ x) (hn : ∀ e ∈ l, x ∉ e.fp) {w' : World} (m : Mod [x] w w') : Tb w0 w' g t l T := by
  obtain ⟨⟨S, ta, sT, s0⟩, h2, h4, h5, h6⟩ := h
  refine ⟨⟨S, ta.mod m (fun y hy hy' => ?_), sT, s0⟩, h2, fun e he => ⟨(h4 e he).1.mod m (fun y hy hy' => ?_), (h4 e he).2⟩, fun y hy => by have := h5 y hy; have := m.size; omega, h6.trans m (fun y hy => .inr ?_)⟩
  · simp at hy'; subst hy'; exact sT y hy hx
  · simp at hy'; subst hy'; exact hn e he hy
  · simp at hy; subst hy; exact h0
theorem Tb.due2 (n : Int) : Does Try.prog 14 #[.pointer (some (base g)), .int .i64 n, .pointer none] w fun v w' => Keep T w0 w w' ∧ ∃ o rs c l', v = .slice o (List.length rs) c ∧ rs.map Rp.say = (dueO (says l) (passT t n)).map (repS (fun _ => ([], 2)) (passT t n)) ∧ Rd w' o (rs.flatMap rvv) ∧ (∀ y ∈ fpv o (rs.flatMap rvv), w.heap.size ≤ y) ∧ says l' = (says l).map (duS (passT t n)) ∧ (∀ e ∈ l', ∃ e0 ∈ l, e.fp = e0.fp) ∧ Tb w0 w' g (passT t n) l' T := by
  obtain ⟨⟨S, ta, sT, s0⟩, h2, h4, h5, h6⟩ := h
  refine (sdue_ok ta h2 (fun e he => ⟨(h4 e he).1, fun y hy hy' => sT y hy' ((h4 e he).2 y hy)⟩) n (pnil_ok w) (by simp) (fun _ _ => rfl)).mono ?_
  rintro _ w' ⟨⟨o, rs, c, rfl, rep, hrs⟩, ta', m⟩
  have z := h6.size
  have key : ∀ e0 : En, (duN (passT t n) e0).fp = e0.fp ∧ (e0.rd w → (duN (passT t n) e0).rd w) := by
    intro e0
    have e1 : (duN (passT t n) e0).a = e0.a ∧ (duN (passT t n) e0).l = e0.l := by unfold duN; split <;> exact ⟨rfl, rfl⟩
    exact ⟨by unfold En.fp; rw [e1.1, e1.2], fun hr => by unfold En.rd at hr ⊢; rw [e1.1, e1.2]; exact hr⟩
  refine ⟨⟨S, m, sT, s0⟩, o, rs, c, _, rfl, hrs, rep.rd, rep.fo, says_due _ _, fun e he => ?_, ⟨⟨S, ta', sT, s0⟩, ?_, fun e he => ?_, fun y hy => by have := h5 y hy; have := m.size; omega, h6.trans m (fun y hy => .inr (s0 y hy))⟩⟩
  · obtain ⟨e0, he0, rfl⟩ := List.mem_map.1 he
    exact ⟨e0, he0, (key e0).1⟩
  · rw [says_due]; exact gd_due h2 _
  · obtain ⟨e0, he0, rfl⟩ := List.mem_map.1 he
    have hh := h4 e0 he0
    exact ⟨((key e0).2 hh.1).mod m (fun y hy hy' => sT y hy' (hh.2 y ((key e0).1 ▸ hy))), fun y hy => hh.2 y ((key e0).1 ▸ hy)⟩
end

/-- The structures: numbers, intervals I, each due I after lf. -/
def bs (I : Nat → Nat) (lf : Nat → Int) (j : Nat) : Sa := ⟨(j : Int), (I j : Int), true, [(j : Int)], lf j + (I j : Int)⟩
def B (I : Nat → Nat) (lf : Nat → Int) (k : Nat) : List Sa := (List.range k).map (bs I lf)
theorem B_len (I : Nat → Nat) (lf : Nat → Int) (k : Nat) : (B I lf k).length = k := by simp [B]
theorem B_at {I : Nat → Nat} {lf : Nat → Int} {k j : Nat} (h : j < (B I lf k).length) : (B I lf k)[j] = bs I lf j := by simp [B]
theorem B_succ (I : Nat → Nat) (lf : Nat → Int) (k : Nat) : B I lf (k + 1) = B I lf k ++ [bs I lf k] := by unfold B; rw [List.range_succ, List.map_append]; rfl
theorem B_pw (I : Nat → Nat) (lf : Nat → Int) (k : Nat) : (B I lf k).Pairwise fun a b => a.id < b.id := by
  rw [List.pairwise_iff_getElem]
  intro i j hi hj hij
  rw [B_at hi, B_at hj]
  show (i : Int) < (j : Int)
  omega
theorem B_mem {I : Nat → Nat} {lf : Nat → Int} {k : Nat} {e : Sa} (h : e ∈ B I lf k) : ∃ j < k, e = bs I lf j := by
  unfold B at h
  obtain ⟨j, hj, rfl⟩ := List.mem_map.1 h
  exact ⟨j, List.mem_range.1 hj, rfl⟩
theorem kx_B (I : Nat → Nat) (lf : Nat → Int) (k : Nat) (r : List Sa) (hr : ∀ h : 0 < r.length, (k : Int) ≤ r[0].id) : kx (k : Int) (B I lf k ++ r) = k := by
  refine fidx_cut _ _ k (by rw [List.length_append, B_len]; omega) (fun j hj => ?_) (fun h => ?_)
  · rw [List.getElem_append_left (by rw [B_len]; exact hj), B_at]
    exact decide_eq_false (by show ¬ (k : Int) ≤ (j : Int); omega)
  · rw [List.length_append, B_len] at h
    have h0 := hr (by omega)
    rw [List.getElem_append_right (by rw [B_len]; exact Nat.le_refl _)]
    simp only [B_len, Nat.sub_self]
    exact decide_eq_true h0
def vl (f : Nat → Int) : List Value := (List.range 3).map fun j => iv (f j)
theorem vl_at (f : Nat → Int) {j : Nat} (h : j < 3) : (vl f)[j]? = some (iv (f j)) := by unfold vl; rw [List.getElem?_map, List.getElem?_range h]; rfl
theorem vl_set (f : Nat → Int) {j : Nat} (h : j < 3) (x : Int) : (vl f).set j (iv x) = vl (fun m => if m = j then x else f m) := by
  unfold vl
  apply List.ext_getElem
  · simp
  · intro i h1 h2
    rw [List.getElem_set, List.getElem_map, List.getElem_range]
    by_cases hij : j = i
    · subst hij; rw [if_pos rfl]; simp
    · rw [if_neg hij, List.getElem_map, List.getElem_range]
      have : ¬ i = j := fun hh => hij hh.symm
      show iv (f i) = iv (if i = j then x else f i)
      rw [if_neg this]

set_option maxRecDepth 100000 in
theorem hkApart_ok (a b c : Nat) (ha : a < 256) (hb : b < 256) (hc : c < 256) {ap : Option Addr} {zs : List Nat} (cap : Nat) (hz : ∀ z ∈ zs, z < 256) {w : World} (hr : Rd w ap (zs.map fun (z : Nat) => Value.int .u8 (z : Int))) : Does Try.prog 5 #[.agg #[.int .u8 (a : Int), .int .u8 (b : Int), .int .u8 (c : Int)], .slice ap zs.length cap] w fun v w' => v = .bool true ∧ Mod [] w w' := by
  apply w5
  unfold F5
  refine New.use fun w1 h1 m1 z1 => ?_
  refine (Tb.new w1).mono ?_
  rintro _ w2 ⟨rfl, t2⟩
  have M2 := m1.none t2.m
  have out : F5_j1 (some (base w1.heap.size)) (base w.heap.size) zs.length ap true w2 (fun v w' => v = .bool true ∧ Mod [] w w') := by
    unfold F5_j1
    rw [if_pos rfl, if_pos (by simp)]
    exact alive M2
  refine ⟨_, rfl, iteI (fun _ => out) (fun h100 => ?_)⟩
  unfold F5_j1
  rw [if_neg (by simp)]
  obtain ⟨J, hJ⟩ : ∃ J : Nat → Nat, J = fun j => if j = 0 then a else if j = 1 then b else c := ⟨_, rfl⟩
  have hJl : ∀ j, J j < 256 := fun j => by rw [hJ]; simp only; split; exact ha; split; exact hb; exact hc
  have hcell : ∀ {w' : World}, Mod [] w1 w' → ∀ j, j < 3 → w'.cell? ((base w.heap.size).add j) = some (.int .u8 (J j : Int)) := by
    intro w' m j hj
    refine (h1.mod m (by simp)).cell ?_
    rw [hJ]
    match j, hj with
    | 0, _ => rfl
    | 1, _ => rfl
    | 2, _ => rfl
  obtain ⟨I, hI⟩ : ∃ I : Nat → Nat, I = fun j => 1 + J j := ⟨_, rfl⟩
  have hIl : ∀ j, 1 ≤ I j ∧ I j ≤ 256 := fun j => by have := hJl j; rw [hI]; simp only; omega
  have eI : ∀ j, IntKind.i64.wrap (1 + IntKind.i64.wrap (J j : Int)) = (I j : Int) := fun j => by
    have := hJl j
    rw [wi64 (n := (J j : Int)) (by omega), wi64 (by omega), hI]
    simp only
    omega
  refine LoopP.of (fun (x : Int) w' => ∃ (k : Nat) (l : List En) (T : List Nat), k ≤ 3 ∧ x = (k : Int) ∧ Tb w1 w' w1.heap.size 0 l T ∧ says l = B I (fun _ => 0) k) (fun x _ => (3 - x).toNat) ⟨0, [], [], by omega, rfl, t2, rfl⟩ ?_
  intro x w3 hJ3
  obtain ⟨k, l, T, hk, hx, t3, e3⟩ := hJ3
  subst hx
  unfold F5_b2
  refine iteI (fun hlt => ?_) (fun hlt => ?_)
  · have hlt : k < 3 := by omega
    refine ⟨by omega, by omega, _, hcell t3.m k hlt, New.use fun w4 h4 m4 z4 => ?_⟩
    rw [eI k]
    have hIk := hIl k
    refine ((t3.mod m4).def (k : Int) (I k : Int) (by omega) 1 (Rd.blk (vs := [(k : Int)].map iv) h4) (by simp)).mono ?_
    rintro _ w5 ⟨rfl, k5, l5, T5, e5, t5, s5⟩
    have kk : kx (k : Int) (B I (fun _ => 0) k) = k := by have := kx_B I (fun _ => 0) k [] (by simp); rwa [List.append_nil] at this
    have d0 : defE (says l) (k : Int) (I k : Int) [(k : Int)] = 0 := by
      rw [e3]
      unfold defE
      rw [if_neg (bad_no _ _ _ (by omega) (by omega) (by omega)), isI_no (fun e he hh => by obtain ⟨j, hj, rfl⟩ := B_mem he; have hh : (j : Int) = (k : Int) := hh; omega), if_neg (by simp), if_neg (by rw [B_len]; omega)]
    have e5 : says l5 = B I (fun _ => 0) k ++ [⟨(k : Int), (I k : Int), false, [(k : Int)], 0⟩] := by
      rw [e5]
      unfold defL
      rw [if_pos d0, e3, kk, List.take_of_length_le (by rw [B_len]; exact Nat.le_refl _), List.drop_of_length_le (by rw [B_len]; exact Nat.le_refl _), List.append_nil]
    refine ⟨_, rfl, (t5.en (k : Int) true 0 (by omega)).mono ?_⟩
    rintro _ w6 ⟨rfl, k6, l6, e6, t6⟩
    have ep : passT 0 0 = 0 := by decide
    rw [ep] at e6 t6
    have k5' : kx (k : Int) (says l5) = k := by rw [e5]; exact kx_B I _ k _ (by intro _; exact Int.le_refl _)
    have i5 : isI (k : Int) (says l5) = true := by
      have hk5 : (says l5)[kx (k : Int) (says l5)]? = some ⟨(k : Int), (I k : Int), false, [(k : Int)], 0⟩ := by
        rw [k5', e5, List.getElem?_append_right (by rw [B_len]; exact Nat.le_refl _), B_len, Nat.sub_self]
        rfl
      obtain ⟨hlt5, heq5⟩ := List.getElem?_eq_some_iff.1 hk5
      unfold isI
      exact decide_eq_true ⟨hlt5, by rw [heq5]⟩
    have e6 : says l6 = B I (fun _ => 0) (k + 1) := by
      rw [e6]
      unfold enL
      rw [if_pos i5, k5', e5, modify_set _ _ (by simp [B_len]), List.set_append_right _ _ (by rw [B_len]; exact Nat.le_refl _), B_succ]
      simp only [B_len, Nat.sub_self, List.set_cons_zero]
      congr 1
      have hg : (B I (fun _ => 0) k ++ [(⟨(k : Int), (I k : Int), false, [(k : Int)], 0⟩ : Sa)])[k]'(by simp [B_len]) = ⟨(k : Int), (I k : Int), false, [(k : Int)], 0⟩ := by
        rw [List.getElem_append_right (by rw [B_len]; exact Nat.le_refl _)]
        simp only [B_len, Nat.sub_self]
        rfl
      rw [hg]
      unfold enS bs
      rw [if_pos ⟨rfl, rfl⟩]
      unfold wr
      dsimp only
      rw [wi64 (by omega)]
    refine ⟨_, rfl, ?_⟩
    rw [wi64 (by omega)]
    exact ⟨_, by omega, ⟨k + 1, l6, T5, by omega, by omega, t6, e6⟩, rfl⟩
  have hk3 : k = 3 := by omega
  subst hk3
  refine New.use fun w4 h4 m4 z4 => ?_
  have t4 : Tb w1 w4 w1.heap.size 0 l (w3.heap.size :: T) := t3.re m4 (fun y hy => List.mem_cons_of_mem _ hy) (fun y hy => by
    rcases List.mem_cons.1 hy with rfl | hy
    · right; exact ⟨Nat.le_refl _, h4.lt⟩
    · exact .inl hy)
  have z13 := t3.m.size
  have nofp : ∀ e ∈ l, w3.heap.size ∉ e.fp := fun e he hh => by have := t3.lt _ ((t3.cl e he).2 _ hh); omega
  have hvl : Blk w4 w3.heap.size 3 (vl fun _ => 0) := h4
  refine LoopP.of (fun (x : Int × Int) w' => ∃ (i now : Nat) (l : List En) (T : List Nat) (lf : Nat → Int), i ≤ zs.length ∧ now ≤ 255 * i ∧ x = ((now : Int), (i : Int)) ∧ Tb w1 w' w1.heap.size (now : Int) l T ∧ says l = B I lf 3 ∧ w3.heap.size ∈ T ∧ (∀ e ∈ l, w3.heap.size ∉ e.fp) ∧ Blk w' w3.heap.size 3 (vl lf) ∧ ∀ j, j < 3 → 0 ≤ lf j ∧ lf j ≤ (now : Int)) (fun x _ => zs.length - x.2.toNat) ⟨0, 0, l, _, fun _ => 0, by omega, by omega, rfl, t4, e3, by simp, nofp, hvl, fun _ _ => ⟨Int.le_refl _, Int.le_refl _⟩⟩ ?_
  rintro _ w5 ⟨i, now, l5, T5, lf, hi, hnow, rfl, t5, e5, hT5, nf5, b5, hlf⟩
  unfold F5_b3
  dsimp only
  refine iteI (fun hlt => ?_) (fun hlt => ?_)
  · have hlt : i < zs.length := by omega
    have hzi := hz zs[i] (List.getElem_mem hlt)
    have M5 := m1.none t5.m
    obtain ⟨p, rfl, hcs⟩ := rd_get (hr.mod M5 (by simp)) hlt
    obtain ⟨now', hn'⟩ : ∃ n : Nat, n = now + zs[i] := ⟨_, rfl⟩
    have en : IntKind.i64.wrap ((now : Int) + IntKind.i64.wrap ((zs[i] : Nat) : Int)) = (now' : Int) := by
      rw [wi64 (n := ((zs[i] : Nat) : Int)) (by omega), wi64 (by omega), hn']
      omega
    refine ⟨p, rfl, by omega, by omega, _, hcs, ?_⟩
    rw [en]
    have ep : passT (now : Int) (now' : Int) = (now' : Int) := by
      unfold passT
      split
      · rfl
      · omega
    refine (t5.due2 (now' : Int)).mono ?_
    rintro _ w6 ⟨k6, o, rs, oc, l6, rfl, q6, d6, f6, e6, fp6, t6⟩
    rw [ep] at e6 t6 q6
    rw [e5] at e6 q6
    obtain ⟨D, hD⟩ : ∃ D, D = dueO (B I lf 3) (now' : Int) := ⟨_, rfl⟩
    have hrl : rs.length = D.length := by rw [hD]; exact rp_len q6
    have hD3 : D.length ≤ 3 := by rw [hD]; have := List.length_filter_le (isDue (now' : Int)) (B I lf 3); rw [B_len] at this; exact this
    have b6 := k6.blk b5 hT5
    have hDm : ∀ e ∈ D, ∃ j, j < 3 ∧ e = bs I lf j ∧ lf j + (I j : Int) ≤ (now' : Int) := by
      intro e he
      rw [hD] at he
      obtain ⟨h1, h2⟩ := List.mem_filter.1 he
      obtain ⟨j, hj, rfl⟩ := B_mem h1
      refine ⟨j, hj, rfl, ?_⟩
      have h2 : (true && decide (lf j + (I j : Int) ≤ (now' : Int))) = true := h2
      simpa using h2
    have hDpw : D.Pairwise fun a b => a.id < b.id := by rw [hD]; exact (B_pw I lf 3).sublist List.filter_sublist
    have hp5 := b5.lt
    have nf6 : ∀ e ∈ l6, w3.heap.size ∉ e.fp := fun e he hh => by
      obtain ⟨e0, he0, hf⟩ := fp6 e he
      rw [hf] at hh
      exact nf5 e0 he0 hh
    refine ⟨_, _, _, rfl, ?_⟩
    -- the reports, one by one
    refine LoopP.of (fun (x : Int) w' => ∃ (k : Nat) (cf : Nat → Int), k ≤ rs.length ∧ x = (k : Int) ∧ Blk w' w3.heap.size 3 (vl cf) ∧ Mod [w3.heap.size] w6 w' ∧ ∀ m : Nat, m < 3 → ((∃ e ∈ D.take k, e.id = (m : Int)) → cf m = (now' : Int)) ∧ ((¬ ∃ e ∈ D.take k, e.id = (m : Int)) → cf m = lf m)) (fun x _ => rs.length - x.toNat) ⟨0, lf, by omega, rfl, b6, Mod.refl _, fun m hm => ⟨by simp, fun _ => rfl⟩⟩ ?_
    rintro _ w7 ⟨k, cf, hk, rfl, b7, m7, hcf⟩
    have t7 := t6.put hT5 z13 nf6 m7
    unfold F5_b4
    rw [en]
    refine iteI (fun hlk => ?_) (fun hlk => ?_)
    · have hlk : k < rs.length := by omega
      have hkD : k < D.length := by omega
      have d7 : Rd w7 o (rs.flatMap rvv) := d6.modv m7 (fun y hy hy' => by have := f6 y hy; simp only [List.mem_singleton] at hy'; omega)
      obtain ⟨pr, hpr, c0, _⟩ := rp_cells d7 hlk
      obtain ⟨j, hj, hDk, hdue⟩ := hDm D[k] (List.getElem_mem hkD)
      have hid : rs[k].id = (j : Int) := by
        have := (rp_at q6 hlk (by rw [← hD]; exact hkD)).1
        rw [this]
        have : (dueO (B I lf 3) (now' : Int))[k]'(by rw [← hD]; exact hkD) = D[k] := by simp only [hD]
        rw [this, hDk]
        rfl
      have md : Mod [] w7 w7.drew := Mod.drew w7
      have b7d : Blk w7.drew w3.heap.size 3 (vl cf) := b7.drew
      have e1 : IntKind.i64.wrap ((k : Int) + 1) = ((k + 1 : Nat) : Int) := by rw [wi64 (by omega)]; omega
      refine ⟨pr, hpr, by omega, by omega, _, c0, ?_⟩
      rw [hid, if_neg (by omega), if_neg (by omega)]
      -- not yet among those
      have hnot : ¬ ∃ e ∈ D.take k, e.id = (j : Int) := by
        rintro ⟨e, he, hh⟩
        obtain ⟨q, hq, rfl⟩ := List.getElem_of_mem he
        rw [List.length_take] at hq
        rw [List.getElem_take] at hh
        have h2 := List.pairwise_iff_getElem.1 hDpw q k (by omega) hkD (by omega)
        rw [hDk] at h2
        have h2 : D[q].id < (j : Int) := h2
        omega
      have hcj := (hcf j hj).2 hnot
      have hlj := hlf j hj
      have last : ∀ nx : Int → World → Prop, (∀ w', Blk w' w3.heap.size 3 (vl fun m => if m = j then (now' : Int) else cf m) → Mod [w3.heap.size] w7 w' → nx ((k + 1 : Nat) : Int) w') →
          ((0 : Int) ≤ (j : Int) ∧ (j : Int) < (3 : Int) ∧ ∃ (x91 : Int), w7.drew.cell? ((base w3.heap.size).add ((j : Int)).toNat) = some (.int .i64 x91) ∧ (0 : Int) ≤ (j : Int) ∧ (j : Int) < (3 : Int) ∧ ∃ (x95 : Int), w7.drew.cell? ((base w.heap.size).add ((j : Int)).toNat) = some (.int .u8 x95) ∧ if (IntKind.i64.wrap ((now' : Int) - x91)) < (IntKind.i64.wrap (1 + (IntKind.i64.wrap x95))) then
            ((fun v w' => v = Value.bool true ∧ Sh.Mod [] w w') (.bool false) w7.drew)
          else
            (0 : Int) ≤ (j : Int) ∧ (j : Int) < (3 : Int) ∧ Put w7.drew ((base w3.heap.size).add ((j : Int)).toNat) (.int .i64 (now' : Int)) (fun w100 => nx (IntKind.i64.wrap ((k : Int) + 1)) w100)) := by
        intro nx hnx
        refine ⟨by omega, by omega, _, by rw [Int.toNat_natCast]; exact b7d.cell (vl_at cf hj), by omega, by omega, _, by rw [Int.toNat_natCast]; exact hcell (t7.m.none md) j hj, ?_⟩
        rw [eI j, hcj, wi64 (n := (now' : Int) - lf j) (by omega), if_neg (by omega), e1, Int.toNat_natCast]
        refine ⟨by omega, by omega, Put.use b7d (by simp [vl]; omega) fun w8 h8 m8 => hnx w8 ?_ ((md.weaken (by simp)).trans m8 (fun y hy => .inl hy))⟩
        have := vl_set cf hj (now' : Int)
        rw [← this]
        exact h8
      have nxt : ∀ w', Blk w' w3.heap.size 3 (vl fun m => if m = j then (now' : Int) else cf m) → Mod [w3.heap.size] w7 w' → ∃ m, m < rs.length - ((k : Int)).toNat ∧ (∃ (k' : Nat) (cf : Nat → Int), k' ≤ rs.length ∧ ((k + 1 : Nat) : Int) = (k' : Int) ∧ Blk w' w3.heap.size 3 (vl cf) ∧ Mod [w3.heap.size] w6 w' ∧ ∀ m : Nat, m < 3 → ((∃ e ∈ D.take k', e.id = (m : Int)) → cf m = (now' : Int)) ∧ ((¬ ∃ e ∈ D.take k', e.id = (m : Int)) → cf m = lf m)) ∧ rs.length - (((k + 1 : Nat) : Int)).toNat = m := by
        intro w' hb8 m8
        refine ⟨_, by omega, ⟨k + 1, _, by omega, rfl, hb8, m7.same m8, fun m hm => ?_⟩, rfl⟩
        have etk : D.take (k + 1) = D.take k ++ [D[k]] := List.take_succ_eq_append_getElem hkD
        have hiff : (∃ e ∈ D.take (k + 1), e.id = (m : Int)) ↔ (∃ e ∈ D.take k, e.id = (m : Int)) ∨ m = j := by
          rw [etk]
          constructor
          · rintro ⟨e, he, hh⟩
            rcases List.mem_append.1 he with he | he
            · exact .inl ⟨e, he, hh⟩
            · right
              simp only [List.mem_singleton] at he
              rw [he, hDk] at hh
              have hh : (j : Int) = (m : Int) := hh
              omega
          · rintro (⟨e, he, hh⟩ | rfl)
            · exact ⟨e, List.mem_append.2 (.inl he), hh⟩
            · exact ⟨D[k], List.mem_append.2 (.inr (by simp)), by rw [hDk]; rfl⟩
        rw [hiff]
        by_cases hmj : m = j
        · rw [if_pos hmj]
          exact ⟨fun _ => rfl, fun h => absurd (.inr hmj) h⟩
        · rw [if_neg hmj]
          refine ⟨fun h => ?_, fun h => (hcf m hm).2 (fun hh => h (.inl hh))⟩
          rcases h with h | h
          · exact (hcf m hm).1 h
          · exact absurd h hmj
      refine iteI (fun h0k => ?_) (fun h0k => last (fun (x0 : Int) w' => ∃ m, m < rs.length - ((k : Int)).toNat ∧ (∃ (k' : Nat) (cf : Nat → Int), k' ≤ rs.length ∧ x0 = (k' : Int) ∧ Blk w' w3.heap.size 3 (vl cf) ∧ Mod [w3.heap.size] w6 w' ∧ ∀ m : Nat, m < 3 → ((∃ e ∈ D.take k', e.id = (m : Int)) → cf m = (now' : Int)) ∧ ((¬ ∃ e ∈ D.take k', e.id = (m : Int)) → cf m = lf m)) ∧ rs.length - x0.toNat = m) nxt)
      have e2 : IntKind.i64.wrap ((k : Int) - 1) = ((k - 1 : Nat) : Int) := by rw [wi64 (by omega)]; omega
      rw [e2]
      have d7' : Rd w7.drew o (rs.flatMap rvv) := d7.mod md (by simp)
      obtain ⟨pr', hpr', c0', _⟩ := rp_cells d7' (i := k - 1) (by omega)
      rw [hpr] at hpr'
      cases hpr'
      have hprev : (rs[k - 1]'(by omega)).id < (j : Int) := by
        have h1 := (rp_at q6 (i := k - 1) (by omega) (by rw [← hD]; omega)).1
        rw [h1]
        have h2 : (dueO (B I lf 3) (now' : Int))[k - 1]'(by rw [← hD]; omega) = D[k - 1]'(by omega) := by simp only [hD]
        rw [h2]
        have h3 := List.pairwise_iff_getElem.1 hDpw (k - 1) k (by omega) hkD (by omega)
        rw [hDk] at h3
        exact h3
      refine ⟨by omega, by omega, _, by rw [Int.toNat_natCast]; exact c0', ?_⟩
      rw [if_neg (by omega)]
      exact last (fun (x0 : Int) w' => ∃ m, m < rs.length - ((k : Int)).toNat ∧ (∃ (k' : Nat) (cf : Nat → Int), k' ≤ rs.length ∧ x0 = (k' : Int) ∧ Blk w' w3.heap.size 3 (vl cf) ∧ Mod [w3.heap.size] w6 w' ∧ ∀ m : Nat, m < 3 → ((∃ e ∈ D.take k', e.id = (m : Int)) → cf m = (now' : Int)) ∧ ((¬ ∃ e ∈ D.take k', e.id = (m : Int)) → cf m = lf m)) ∧ rs.length - x0.toNat = m) nxt
    · have hkl : k = rs.length := by omega
      subst hkl
      have e1 : IntKind.i64.wrap ((i : Int) + 1) = ((i + 1 : Nat) : Int) := by rw [wi64 (by omega)]; omega
      rw [e1]
      have etk : D.take rs.length = D := List.take_of_length_le (by omega)
      rw [etk] at hcf
      have hdm : ∀ m : Nat, m < 3 → ((∃ e ∈ D, e.id = (m : Int)) ↔ lf m + (I m : Int) ≤ (now' : Int)) := by
        intro m hm
        constructor
        · rintro ⟨e, he, hh⟩
          obtain ⟨j, hj, rfl, hd⟩ := hDm e he
          have hh : (j : Int) = (m : Int) := hh
          have : j = m := by omega
          subst this
          exact hd
        · intro hd
          refine ⟨bs I lf m, ?_, rfl⟩
          rw [hD]
          refine List.mem_filter.2 ⟨List.mem_map.2 ⟨m, List.mem_range.2 hm, rfl⟩, ?_⟩
          show (true && decide (lf m + (I m : Int) ≤ (now' : Int))) = true
          rw [decide_eq_true hd]
          rfl
      have eB : says l6 = B I cf 3 := by
        rw [e6]
        unfold B
        rw [List.map_map]
        refine List.map_congr_left (fun m hm => ?_)
        have hm := List.mem_range.1 hm
        show duS (now' : Int) (bs I lf m) = bs I cf m
        have hIm := hIl m
        by_cases hd : lf m + (I m : Int) ≤ (now' : Int)
        · have hdd : isDue (now' : Int) (bs I lf m) = true := by
            show (true && decide (lf m + (I m : Int) ≤ (now' : Int))) = true
            rw [decide_eq_true hd]
            rfl
          unfold duS
          rw [if_pos hdd]
          unfold bs wr
          rw [(hcf m hm).1 ((hdm m hm).2 hd), wi64 (by show _ ≤ (now' : Int) + (I m : Int) ∧ (now' : Int) + (I m : Int) ≤ _; omega)]
        · have hdd : ¬ isDue (now' : Int) (bs I lf m) = true := by
            show ¬ (true && decide (lf m + (I m : Int) ≤ (now' : Int))) = true
            rw [decide_eq_false hd]
            simp
          unfold duS
          rw [if_neg hdd]
          unfold bs
          rw [(hcf m hm).2 (fun hh => hd ((hdm m hm).1 hh))]
      refine ⟨_, by omega, ⟨i + 1, now', l6, T5, cf, by omega, by omega, rfl, t7, eB, hT5, nf6, b7, fun m hm => ?_⟩, rfl⟩
      have hlm := hlf m hm
      by_cases hd : lf m + (I m : Int) ≤ (now' : Int)
      · rw [(hcf m hm).1 ((hdm m hm).2 hd)]
        omega
      · rw [(hcf m hm).2 (fun hh => hd ((hdm m hm).1 hh))]
        omega
  · exact alive (m1.none t5.m)
end Go.Proofs.Ytcgkmmiokmbjdaa
