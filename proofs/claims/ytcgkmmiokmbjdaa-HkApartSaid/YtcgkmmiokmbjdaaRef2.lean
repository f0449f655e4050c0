/-
  The contracts of chapter 34: Delete, Enable, Due of the reference; Same.
-/
import Derived.Test.YtcgkmmiokmbjdaaRef
namespace Go.Proofs.Ytcgkmmiokmbjdaa
open Go Go.Sh Go.Proofs
set_option linter.unusedVariables false
set_option linter.unusedSimpArgs false
set_option linter.unusedSectionVars false

theorem own_put {w : World} {e : TypeId} {z n c : Nat} {a : Option Addr} {vs : List Value} (h : Own w e z a n c vs) {i : Nat} (hi : i < vs.length) {v : Value} {p : Addr} (hp : a = some p) {K : World → Prop} (hK : ∀ w', Own w' e z a n c (vs.set i v) → Mod (fp a) w w' → K w') : Put w (p.add i) v K := by
  obtain ⟨q, hq, hw, o, m⟩ := h.setAt hi v
  rw [hp] at hq
  cases hq
  exact ⟨hw, hK _ o m⟩
section
variable {w : World} {r : Nat} {t : Int} {l : List En} {T : List Nat} (h : Rf w r t l T) (hl : l.length ≤ 256)
include h hl
theorem RefR.same {w' : World} (m : Mod [] w w') : RefR w r T t l w' T := ⟨h.mod m (by simp) (by simp), m.weaken (by simp), fun y hy => hy, fun y hy => .inl hy⟩
theorem rdel_ok (id : Int) : Does Try.prog 31 #[.pointer (some (base r)), .int .i64 id] w fun v w' => v = .int .i64 (delE (says l) id) ∧ ∃ T', RefR w r T t (if delE (says l) id = 0 then l.take (kx id (says l)) ++ l.drop (kx id (says l) + 1) else l) w' T' := by
  apply w31
  unfold F31
  have same : ∀ (e : Int) (w3 : World), Mod [] w w3 → delE (says l) id = e → e ≠ 0 → (Value.int .i64 e) = .int .i64 (delE (says l) id) ∧ ∃ T', RefR w r T t (if delE (says l) id = 0 then l.take (kx id (says l)) ++ l.drop (kx id (says l) + 1) else l) w3 T' := by
    intro e w3 m3 he hne
    refine ⟨by rw [he], T, ?_⟩
    rw [if_neg (by rw [he]; exact hne)]
    exact RefR.same h hl m3
  refine (rat_ok h hl id).mono ?_
  rintro _ w2 ⟨rfl, M2⟩
  refine ⟨_, _, rfl, iteI (fun hi => ?_) (fun hi => ?_)⟩
  · have hi : isI id (says l) ≠ true := by simpa using hi
    exact same 8 w2 M2 (by unfold delE; rw [if_neg hi]) (by decide)
  have hi : isI id (says l) = true := by simpa using hi
  obtain ⟨hlt, _⟩ := isI_lt hi
  have hon' := onAt_at hlt
  rw [says_len] at hlt
  rw [says_at l hlt] at hon'
  have hon' : onAt (says l) (kx id (says l)) = l[kx id (says l)].on := hon'
  have hrw := h.rlt
  have h2 := h.mod M2 (by simp) (by simp)
  obtain ⟨⟨aL, cL, aN, cN, hb, r1, r2, l1, l2, t1, t2⟩, nr⟩ := h2
  obtain ⟨p, hp, hc⟩ := r1.flat (f := rowL.f) (z := 4) (fun _ _ => rfl) (by decide) hlt
  refine ⟨_, rfl, _, _, _, hb.cell0, p, hp, by omega, by omega, _, hc 2 _ rfl, ?_⟩
  rw [← hon']
  refine iteI (fun hon => ?_) (fun hon => ?_)
  · exact same 12 w2 M2 (by unfold delE; rw [if_pos hi, if_pos hon]) (by decide)
  have e0 : delE (says l) id = 0 := by unfold delE; rw [if_pos hi, if_neg hon]
  rw [e0]
  rw [if_pos rfl]
  clear hon hon' hc hi same
  generalize kx id (says l) = k at *
  have e1 : IntKind.i64.wrap ((k : Int) + 1) = ((k + 1 : Nat) : Int) := by rw [wi64 (by omega)]; omega
  rw [e1]
  simp only [Int.toNat_natCast]
  have z2 := M2.size
  have bd : Blk w2.drew r 50 _ := hb.drew
  have md : Mod [] w2 w2.drew := Mod.drew w2
  refine ⟨_, _, _, bd.cell0, by omega, by omega, _, _, _, bd.cell0, by omega, by omega, New.use fun w3 h3 m3 z3 => ?_⟩
  have M3 := md.none m3
  obtain ⟨a1, n1, c1, w4, run1, M4, a2, n2, c2, w5, run2, G⟩ := delG rowL r1 rfl (by omega) hlt l1 M3 h3 (Nat.le_refl _)
  refine ⟨(hb.mod M3 (by simp)).cell0, (hb.mod M3 (by simp)).cell0, a1, n1, c1, w4, run1, (hb.mod M4 (by simp)).cell0, a2, n2, c2, w5, run2, Put.use0 (hb.mod G.m (by simp)) (by simp) fun w6 b6 m6 => ?_⟩
  have m26 : Mod [r] w2 w6 := (G.m.weaken (by simp)).trans m6 (fun y hy => .inl hy)
  have GE := G.o.mod m6 (fun y hy hy' => by have := G.s y hy; simp at hy'; omega)
  have r2' := r2.modv m26 (fun y hy hy' => by simp at hy'; subst hy'; exact nr (t2 _ hy))
  have z6 := m26.size
  simp only [List.set] at b6
  have bd6 : Blk w6.drew r 50 _ := b6.drew
  have md6 : Mod [] w6 w6.drew := Mod.drew w6
  refine ⟨_, _, _, bd6.cell (i := 1) rfl, by omega, by omega, _, _, _, bd6.cell (i := 1) rfl, by omega, by omega, New.use fun w7 h7 m7 z7 => ?_⟩
  have M7 := md6.none m7
  obtain ⟨d1, p1, g1, w8, run3, M8, d2, p2, g2, w9, run4, H⟩ := delG rowI r2' (nxs_len l).symm (by omega) hlt l2 M7 h7 (Nat.le_refl _)
  refine ⟨(b6.mod M7 (by simp)).cell (i := 1) rfl, (b6.mod M7 (by simp)).cell (i := 1) rfl, d1, p1, g1, w8, run3, (b6.mod M8 (by simp)).cell (i := 1) rfl, d2, p2, g2, w9, run4, Put.use (b6.mod H.m (by simp)) (by simp) fun w10 b10 m10 => ?_⟩
  have m610 : Mod [r] w6 w10 := (H.m.weaken (by simp)).trans m10 (fun y hy => .inl hy)
  have HN := H.o.mod m10 (fun y hy hy' => by have := H.s y hy; simp at hy'; omega)
  have GE' := GE.mod m610 (fun y hy hy' => by have := G.s y hy; simp at hy'; omega)
  have z10 := m610.size
  simp only [List.set] at b10
  have nE := G.len
  have nN := H.len
  rw [nxs_del, nxs_len] at nN
  subst nE nN
  have RL := GE'.rd
  have RN := HN.rd
  rw [nxs_del] at RN
  refine ⟨trivial, fp a2 ++ fp d2 ++ T, ⟨⟨a2, c2, d2, g2, b10, RL, RN, G.o.le, H.o.le, fun y hy => ?_, fun y hy => ?_⟩, ?_⟩, ((M2.weaken (by simp)).trans m26 (fun y hy => .inl hy)).trans m610 (fun y hy => .inl hy), fun y hy => by simp [hy], fun y hy => ?_⟩
  · have := fpv_sub y hy; simp [this]
  · have := fpv_sub y hy; simp [this]
  · intro hh
    simp only [List.mem_append] at hh
    rcases hh with (hh | hh) | hh
    · have := G.s r hh; omega
    · have := H.s r hh; omega
    · exact nr hh
  · simp only [List.mem_append] at hy
    rcases hy with (hy | hy) | hy
    · right; have := G.s y hy; have := GE'.lt y hy; omega
    · right; have := H.s y hy; have := HN.lt y hy; omega
    · exact .inl hy
/-- The reference changes the clock, or its lists: then T grows. -/
theorem ren_ok (id : Int) (on : Bool) (n : Int) : Does Try.prog 30 #[.pointer (some (base r)), .int .i64 id, .bool on, .int .i64 n] w fun v w' => v = .int .i64 (enE (says l) id) ∧ ∃ T', RefR w r T (passT t n) (if isI id (says l) = true then l.modify (kx id (says l)) (enN on (passT t n)) else l) w' T' := by
  have hrw := h.rlt
  apply w30
  unfold F30
  refine (rclock_ok h hl n).mono ?_
  rintro _ w1 ⟨rfl, h1, m1⟩
  refine ⟨rfl, ?_⟩
  generalize passT t n = u at *
  refine (rat_ok h1 hl id).mono ?_
  rintro _ w2 ⟨rfl, M2⟩
  have M12 := m1.none M2
  have h2 := h1.mod M2 (by simp) (by simp)
  refine ⟨_, _, rfl, iteI (fun hi => ?_) (fun hi => ?_)⟩
  · have hi : isI id (says l) ≠ true := by simpa using hi
    unfold enE
    rw [if_neg hi, if_neg hi]
    exact ⟨rfl, T, h2, M12, fun y hy => hy, fun y hy => .inl hy⟩
  have hi : isI id (says l) = true := by simpa using hi
  obtain ⟨hlt, _⟩ := isI_lt hi
  rw [says_len] at hlt
  have eE : enE (says l) id = 0 := by unfold enE; rw [if_pos hi]
  rw [if_pos hi, eE]
  clear hi eE
  generalize kx id (says l) = k at *
  obtain ⟨⟨aL, cL, aN, cN, hb, r1, r2, l1, l2, t1, t2⟩, nr⟩ := h2
  have z12 := M12.size
  refine New.use fun w3 h3 m3 z3 => ?_
  obtain ⟨a4, n4, c4, w4, run4, G4, m4, _⟩ := (Gr.start (R := rowL) h3 m3 (Nat.le_refl _)).app (k := l.length) (d := cL) rfl (r1.mod m3 (by simp)) (by omega)
  rw [List.nil_append] at G4
  refine ⟨_, rfl, _, _, _, (hb.mod m3 (by simp)).cell0, a4, n4, c4, w4, run4, New.use fun w5 h5 m5 z5 => ?_⟩
  have z4 := G4.m.size
  have lt4 := G4.o.lt
  have G4 := G4.mod m5
  obtain ⟨a6, n6, c6, w6, run6, G6, m6, f6⟩ := (Gr.start (R := rowI) h5 G4.m z4).app (k := l.length) (d := cN) (nxs_len l).symm (r2.mod G4.m (by simp)) (by omega)
  rw [List.nil_append] at G6
  have G4 := G4.other m6 (fun y hy => by simp [fp, base] at hy; subst hy; exact ⟨z4, fun hh => by have := lt4 _ hh; omega⟩)
  refine ⟨_, _, _, (hb.mod (G4.m) (by simp)).cell (i := 1) rfl |> fun _ => (hb.mod ((m3.trans m4 (fun y hy => .inr (by simp [fp, base] at hy; omega))).none m5) (by simp)).cell (i := 1) rfl, a6, n6, c6, w6, run6, ?_⟩
  have e4 := G4.len
  have e6 := G6.len
  rw [nxs_len] at e6
  subst e4 e6
  -- the end: the switch and both lists
  have j1 : ∀ (w7 : World) (x : Int), x = (if on = true ∧ l[k].on = false then wr (u + l[k].iv) else l[k].nx) → Gr rowL w2 w7 a4 l.length c4 l → Gr rowI w2 w7 a6 l.length c6 ((nxs l).set k x) → F30_j1 a4 (k : Int) l.length on (base r) c4 a6 l.length c6 w7 (fun v w' => v = .int .i64 0 ∧ ∃ T', RefR w r T u (l.modify k (enN on u)) w' T') := by
    intro w7 x hx GL GN
    unfold F30_j1
    obtain ⟨q, hq, hw, o7, m7⟩ := GL.o.setAt (i := k * 4 + 2) (by rw [Row.len]; show _ < l.length * 4; omega) (.bool on)
    refine ⟨q, hq, by omega, by omega, ?_⟩
    rw [Int.toNat_natCast, add_add]
    refine ⟨hw, ?_⟩
    have ef : (rowL.cells l).set (k * 4 + 2) (.bool on) = rowL.cells (l.modify k (enN on u)) := by
      rw [modify_set l _ hlt]
      exact (flat_set1 svv l (svv_len l) hlt (y := enN on u l[k]) (j := 2) rfl (by decide)).symm
    rw [ef] at o7
    have en : (nxs l).set k x = nxs (l.modify k (enN on u)) := by
      rw [modify_set l _ hlt]
      unfold nxs
      rw [List.map_set, hx]
      rfl
    have sL := GL.s
    have GL' : Gr rowL w2 _ a4 l.length c4 (l.modify k (enN on u)) := ⟨by rw [List.length_modify], o7, sL, GL.m.trans m7 (fun y hy => .inr (sL y hy))⟩
    have GN' := GN.other m7 (fun y hy => ⟨sL y hy, own_apart GL.o GN.o (by decide) y hy⟩)
    rw [en] at GN'
    have b8 := hb.mod GL'.m (by simp)
    refine Put.use0 b8 (by simp) fun w9 h9 m9 => Put.use h9 (by simp) fun w10 h10 m10 => ⟨rfl, ?_⟩
    have fin := Rf.make (T := T) (t := u) GL' GN' (by omega) nr (by simpa using h10) (m9.same m10) (M := []) (GL'.m.weaken (by simp)) [] (by simp)
    obtain ⟨q1, q2, q3, q4⟩ := fin
    refine ⟨_, q1, M12.trans q2 (fun y hy => .inl hy), q3, fun y hy => ?_⟩
    rcases q4 y hy with hh | hh
    · exact .inl hh
    · right; omega
  have hself : (nxs l).set k l[k].nx = nxs l := by
    unfold nxs
    apply List.ext_getElem
    · simp
    · intro j h1 h2
      rw [List.getElem_set, List.getElem_map]
      split
      · rename_i e; subst e; rfl
      · rfl
  have no : ¬ (on = true ∧ l[k].on = false) → F30_j2 (base r) a4 (k : Int) l.length a6 l.length on c4 c6 false w6 (fun v w' => v = .int .i64 0 ∧ ∃ T', RefR w r T u (l.modify k (enN on u)) w' T') := by
    intro hn
    unfold F30_j2
    rw [if_neg (by simp)]
    exact j1 w6 l[k].nx (by rw [if_neg hn]) G4 (by rw [hself]; exact G6)
  obtain ⟨q, hq, hc⟩ := G4.o.rd.flat (f := rowL.f) (z := 4) (fun _ _ => rfl) (by decide) hlt
  refine iteI (fun hon => ?_) (fun hon => no (fun hh => hon hh.1))
  refine ⟨q, hq, by omega, by omega, _, hc 2 _ rfl, ?_⟩
  cases hold : l[k].on with
  | true => exact no (fun hh => by rw [hold] at hh; cases hh.2)
  | false =>
    unfold F30_j2
    rw [if_pos (by simp)]
    have md : Mod [] w6 w6.drew := Mod.drew w6
    have G4' := G4.mod md
    have G6' := G6.mod md
    have hb6 := hb.mod G4'.m (by simp)
    obtain ⟨q2, hq2, hw2, o7, m7⟩ := G6'.o.setAt (i := k) (by rw [Row.len, nxs_len]; show _ < l.length * 1; omega) (.int .i64 (wr (u + l[k].iv)))
    refine ⟨_, hb6.cell (i := 2) rfl, q, hq, by omega, by omega, _, hc 1 _ rfl, q2, hq2, by omega, by omega, ?_⟩
    rw [Int.toNat_natCast]
    refine ⟨hw2, ?_⟩
    have s6 := G6'.s
    refine j1 _ _ (by rw [if_pos ⟨hon, hold⟩]) (G4'.other m7 (fun y hy => ⟨s6 y hy, own_apart G6'.o G4'.o (by decide) y hy⟩)) ⟨by rw [List.length_set, nxs_len], ?_, s6, G6'.m.trans m7 (fun y hy => .inr (s6 y hy))⟩
    rw [rowI_cells] at o7 ⊢
    rw [List.map_set]
    exact o7
theorem rdue_ok (n : Int) : Does Try.prog 32 #[.pointer (some (base r)), .int .i64 n] w fun v w' => (∃ o c, v = .slice o (l.filter fun e => isDue (passT t n) e.say).length c ∧ Rd w' o ((l.filter fun e => isDue (passT t n) e.say).flatMap svv) ∧ ∀ y ∈ fp o, w.heap.size ≤ y) ∧ ∃ T', RefR w r T (passT t n) (l.map (duN (passT t n))) w' T' := by
  have hrw := h.rlt
  apply w32
  unfold F32
  refine (rclock_ok h hl n).mono ?_
  rintro _ w1 ⟨rfl, h1, m1⟩
  refine ⟨rfl, ?_⟩
  generalize passT t n = u at *
  obtain ⟨⟨aL, cL, aN, cN, hb, r1, r2, l1, l2, t1, t2⟩, nr⟩ := h1
  have z1 := m1.size
  refine New.use fun w3 h3 m3 z3 => ?_
  obtain ⟨a4, n4, c4, w4, run4, G4, m4, f4⟩ := (Gr.start (R := rowI) h3 m3 (Nat.le_refl _)).app (k := l.length) (d := cN) (nxs_len l).symm (r2.mod m3 (by simp)) (by omega)
  rw [List.nil_append] at G4
  refine ⟨_, rfl, _, _, _, (hb.mod m3 (by simp)).cell (i := 1) rfl, a4, n4, c4, w4, run4, ?_⟩
  have e4 := G4.len
  rw [nxs_len] at e4
  subst e4
  refine LoopP.of (fun (x : Option Addr × Nat × Nat × Int) w' => ∃ (i : Nat) (o : Option Addr) (oc : Nat), i ≤ l.length ∧ x = (o, ((l.take i).filter fun e => isDue u e.say).length, oc, (i : Int)) ∧ Gr rowL w1 w' o ((l.take i).filter fun e => isDue u e.say).length oc ((l.take i).filter fun e => isDue u e.say) ∧ Gr rowI w1 w' a4 l.length c4 (nxs ((l.take i).map (duN u) ++ l.drop i))) (fun x _ => l.length - x.2.2.2.toNat)
    ⟨0, none, 0, by omega, rfl, Gr.nil G4.m, by simpa using G4⟩ ?_
  rintro _ w5 ⟨i, o, oc, hi, rfl, GO, GN⟩
  unfold F32_b1
  dsimp only
  have b5 := hb.mod GN.m (by simp)
  refine ⟨_, _, _, b5.cell0, iteI (fun hlt => ?_) (fun hlt => ?_)⟩
  · have hlt : i < l.length := by omega
    have e1 : IntKind.i64.wrap ((i : Int) + 1) = ((i + 1 : Nat) : Int) := by rw [wi64 (by omega)]; omega
    have md : Mod [] w5 w5.drew := Mod.drew w5
    have GOd := GO.mod md
    have GNd := GN.mod md
    have b6 := hb.mod GNd.m (by simp)
    obtain ⟨p, hp, hc⟩ := (r1.mod GNd.m (by simp)).flat (f := rowL.f) (z := 4) (fun _ _ => rfl) (by decide) hlt
    have ltake : l.take (i + 1) = l.take i ++ [l[i]] := List.take_succ_eq_append_getElem hlt
    have hlen : ((l.take i).map (duN u) ++ l.drop i).length = l.length := by simp; omega
    have hat := duL_at (t := u) hlt (by omega)
    have hfl : ((l.take i).filter fun e => isDue u e.say).length ≤ i := Nat.le_trans (List.length_filter_le _ _) (by rw [List.length_take]; omega)
    -- nothing is due
    have skip : ∀ w' : World, Mod [] w5 w' → isDue u l[i].say = false → F32_j2 (base r) (i : Int) a4 l.length o ((l.take i).filter fun e => isDue u e.say).length oc false w' (fun x0 x1 x2 x3 w' => ∃ m, m < l.length - ((o, ((l.take i).filter fun e => isDue u e.say).length, oc, (i : Int)) : Option Addr × Nat × Nat × Int).2.2.2.toNat ∧ (∃ (i : Nat) (o : Option Addr) (oc : Nat), i ≤ l.length ∧ (x0, x1, x2, x3) = (o, ((l.take i).filter fun e => isDue u e.say).length, oc, (i : Int)) ∧ Gr rowL w1 w' o ((l.take i).filter fun e => isDue u e.say).length oc ((l.take i).filter fun e => isDue u e.say) ∧ Gr rowI w1 w' a4 l.length c4 (nxs ((l.take i).map (duN u) ++ l.drop i))) ∧ l.length - ((x0, x1, x2, x3) : Option Addr × Nat × Nat × Int).2.2.2.toNat = m) := by
      intro w' m hnd
      unfold F32_j2
      rw [if_neg (by simp), e1]
      have ef : (l.take (i + 1)).filter (fun e => isDue u e.say) = (l.take i).filter fun e => isDue u e.say := by
        rw [ltake, List.filter_append]
        simp [hnd]
      have en : (l.take (i + 1)).map (duN u) ++ l.drop (i + 1) = (l.take i).map (duN u) ++ l.drop i := by
        rw [duL_next hlt]
        have : duN u l[i] = l[i] := by unfold duN; rw [if_neg (by rw [hnd]; simp)]
        rw [this]
        apply List.ext_getElem
        · simp
        · intro j h1 h2
          rw [List.getElem_set]
          split
          · rename_i e; subst e; exact hat.symm
          · rfl
      exact ⟨_, by simp only; omega, ⟨i + 1, o, oc, by omega, by rw [ef], by rw [ef]; exact GO.mod m, by rw [en]; exact GN.mod m⟩, rfl⟩
    refine ⟨_, _, _, b6.cell0, p, hp, by omega, by omega, _, hc 2 _ rfl, iteI (fun hon => ?_) (fun hon => skip _ md ?_)⟩
    · obtain ⟨q, hq, hcn⟩ := GNd.o.rd.flat (f := rowI.f) (z := 1) (fun _ _ => rfl) (by decide) (i := i) (by rw [nxs_len]; omega)
      have hcn0 : w5.drew.cell? (q.add i) = some (.int .i64 l[i].nx) := by
        have hnat : (nxs ((l.take i).map (duN u) ++ l.drop i))[i]'(by rw [nxs_len]; omega) = l[i].nx := by simp only [nxs, List.getElem_map, hat]
        rw [hnat] at hcn
        have := hcn 0 _ rfl
        rw [Nat.mul_one, add_zero] at this
        exact this
      refine ⟨q, hq, by omega, by omega, _, hcn0, _, b6.cell (i := 2) rfl, ?_⟩
      by_cases hd : l[i].nx ≤ u
      · have hdue : isDue u l[i].say = true := by
          show (l[i].on && decide (l[i].nx ≤ u)) = true
          rw [decide_eq_true hd, hon]
          rfl
        rw [decide_eq_true hd]
        unfold F32_j2
        rw [if_pos rfl, e1]
        have md2 : Mod [] w5 w5.drew.drew := md.none (Mod.drew _)
        have GO2 := GO.mod md2
        have GN2 := GN.mod md2
        have b7 := hb.mod GN2.m (by simp)
        refine ⟨_, b7.cell (i := 2) rfl, _, _, _, b7.cell0, p, hp, by omega, by omega, _, hc 1 _ rfl, q, hq, by omega, by omega, ?_⟩
        rw [Int.toNat_natCast]
        refine own_put GN2.o (i := i) (by rw [Row.len, nxs_len]; show _ < _ * 1; omega) hq fun w7 o7 m7 => ?_
        have sN := GN2.s
        have sO := GO2.s
        have GO3 := GO2.other m7 (fun y hy => ⟨sN y hy, own_apart GN2.o GO2.o (by decide) y hy⟩)
        have hduN : duN u l[i] = ⟨l[i].id, l[i].iv, l[i].on, l[i].a, l[i].l, l[i].c, IntKind.i64.wrap (u + l[i].iv)⟩ := by unfold duN; rw [if_pos hdue]; rfl
        have en : (nxs ((l.take i).map (duN u) ++ l.drop i)).set i (IntKind.i64.wrap (u + l[i].iv)) = nxs ((l.take (i + 1)).map (duN u) ++ l.drop (i + 1)) := by
          rw [duL_next hlt, hduN]
          unfold nxs
          rw [List.map_set]
        have GN3 : Gr rowI w1 w7 a4 l.length c4 (nxs ((l.take (i + 1)).map (duN u) ++ l.drop (i + 1))) := ⟨by rw [nxs_len]; simp; omega, by
          rw [← en]
          rw [rowI_cells] at o7 ⊢
          rw [List.map_set]
          exact o7, sN, GN2.m.trans m7 (fun y hy => .inr (sN y hy))⟩
        have b8 := hb.mod GN3.m (by simp)
        obtain ⟨p8, hp8, hc8⟩ := (r1.mod GN3.m (by simp)).flat (f := rowL.f) (z := 4) (fun _ _ => rfl) (by decide) hlt
        refine ⟨_, _, _, b8.cell0, p8, hp8, by omega, by omega, _, _, _, _, _, _, ⟨hc8 0 _ rfl, hc8 1 _ rfl, hc8 2 _ rfl, hc8 3 _ rfl, trivial⟩, New.use fun w9 h9 m9 z9 => ?_⟩
        have GO4 := GO3.mod m9
        have GN4 := GN3.mod m9
        obtain ⟨a10, n10, c10, w10, run10, G10, m10, f10⟩ := GO4.app (m := [l[i]]) (k := 1) (d := 1) rfl (by simpa [Row.cells, svv] using Rd.blk h9) (by omega)
        have GN5 := GN4.other m10 (fun y hy => ⟨sO y hy, own_apart GO4.o GN4.o (by decide) y hy⟩)
        have ef : (l.take (i + 1)).filter (fun e => isDue u e.say) = ((l.take i).filter fun e => isDue u e.say) ++ [l[i]] := by
          rw [ltake, List.filter_append]
          simp [hdue]
        have e10 := G10.len
        rw [← ef] at e10 G10
        subst e10
        exact ⟨a10, _, c10, w10, run10, _, by omega, ⟨i + 1, a10, c10, by omega, rfl, G10, GN5⟩, rfl⟩
      · rw [decide_eq_false hd]
        refine skip _ md ?_
        show (l[i].on && decide (l[i].nx ≤ u)) = false
        rw [decide_eq_false hd, Bool.and_false]
    · show (l[i].on && decide (l[i].nx ≤ u)) = false
      have : l[i].on = false := by simpa using hon
      rw [this]
      rfl
  · have hil : i = l.length := by omega
    subst hil
    have e : (l.take l.length).map (duN u) ++ l.drop l.length = l.map (duN u) := by simp
    rw [e] at GN
    rw [List.take_length] at GO ⊢
    refine Put.use b5 (by simp) fun w6 h6 m6 => ?_
    have sO := GO.s
    have sN := GN.s
    have hrw1 : r < w1.heap.size := by omega
    have OO := GO.o.mod m6 (fun y hy hy' => by have := sO y hy; simp at hy'; omega)
    have ON := GN.o.mod m6 (fun y hy hy' => by have := sN y hy; simp at hy'; omega)
    have m16 : Mod [r] w1 w6 := (GN.m.weaken (by simp)).trans m6 (fun y hy => .inl hy)
    refine ⟨⟨o, oc, rfl, OO.rd, fun y hy => by have := sO y hy; omega⟩, fp a4 ++ T, ⟨⟨aL, cL, a4, c4, ?_, ?_, ON.rd, by simpa using l1, by simpa using GN.o.le, ?_, ?_⟩, ?_⟩, m1.trans m16 (fun y hy => .inl hy), fun y hy => by simp [hy], fun y hy => ?_⟩
    · rw [List.length_map]; exact h6
    · have es : rowL.cells (l.map (duN u)) = rowL.cells l := by
        unfold Row.cells
        rw [List.flatMap_map]
        have : (fun a => rowL.f (duN u a)) = rowL.f := by
          funext a
          show svv (duN u a) = svv a
          unfold duN
          split <;> rfl
        rw [this]
      rw [es]
      exact r1.modv m16 (fun y hy hy' => by simp at hy'; subst hy'; exact nr (t1 _ hy))
    · intro y hy
      have es : rowL.cells (l.map (duN u)) = rowL.cells l := by
        unfold Row.cells
        rw [List.flatMap_map]
        have : (fun a => rowL.f (duN u a)) = rowL.f := by
          funext a
          show svv (duN u a) = svv a
          unfold duN
          split <;> rfl
        rw [this]
      rw [es] at hy
      simp [t1 y hy]
    · intro y hy
      have := fpv_sub y hy
      simp [this]
    · intro hh
      rcases List.mem_append.1 hh with hh | hh
      · have := sN r hh; omega
      · exact nr hh
    · rcases List.mem_append.1 hy with hy | hy
      · right; have := sN y hy; have := ON.lt y hy; omega
      · exact .inl hy
end

/-! ### Same -/
theorem ints_ok {w : World} {a b : Option Addr} {l m : List Int} (c d : Nat) (hl : l.length ≤ 100000) (ha : Rd w a (l.map iv)) (hb : Rd w b (m.map iv)) : Does Try.prog 34 #[.slice a l.length c, .slice b m.length d] w fun v w' => v = .bool (decide (l = m)) ∧ Mod [] w w' := by
  apply w34
  unfold F34
  refine iteI (fun h => ⟨by rw [decide_eq_false (fun e => h (by rw [e]))], Mod.refl _⟩) (fun h => ?_)
  have hlen : l.length = m.length := by omega
  refine LoopP.of (fun (x : Int) w' => ∃ i : Nat, i ≤ l.length ∧ x = (i : Int) ∧ Mod [] w w' ∧ ∀ j (hj : j < i) (h1 : j < l.length) (h2 : j < m.length), l[j] = m[j]) (fun x _ => l.length - x.toNat) ⟨0, by omega, rfl, Mod.refl _, by omega⟩ ?_
  rintro _ w1 ⟨i, hi, rfl, m1, he⟩
  unfold F34_b1
  refine iteI (fun hlt => ?_) (fun hlt => ?_)
  · have hlt : i < l.length := by omega
    have md : Mod [] w w1.drew := m1.none (Mod.drew w1)
    obtain ⟨p, rfl, hc⟩ := rd_get (ha.mod md (by simp)) hlt
    obtain ⟨q, rfl, hd⟩ := rd_get (hb.mod md (by simp)) (show i < m.length by omega)
    refine ⟨p, rfl, by omega, by omega, _, hc, q, rfl, by omega, by omega, _, hd, iteI (fun hn => ?_) (fun hn => ?_)⟩
    · exact ⟨by rw [decide_eq_false (fun e => by subst e; exact hn rfl)], md⟩
    · rw [wi64 (by omega)]
      refine ⟨_, by omega, ⟨i + 1, by omega, rfl, md, fun j hj h1 h2 => ?_⟩, rfl⟩
      by_cases hji : j = i
      · subst hji; exact Classical.byContradiction hn
      · exact he j (by omega) h1 h2
  · have hiR : i = l.length := by omega
    subst hiR
    exact ⟨by rw [decide_eq_true (List.ext_getElem hlen (fun j h1 h2 => he j h1 h1 h2))], m1⟩
theorem same_ok {w : World} {a b : Option Addr} {L K : List En} (c d : Nat) (hl : L.length ≤ 1000) (ha : Rd w a (L.flatMap svv)) (hb : Rd w b (K.flatMap svv)) (hL : ∀ e ∈ L, e.rd w ∧ e.l.length ≤ 1000) (hK : ∀ e ∈ K, e.rd w) (hs : L.map En.sy = K.map En.sy) : Does Try.prog 18 #[.slice a L.length c, .slice b K.length d] w fun v w' => v = .bool true ∧ Mod [] w w' := by
  have hlen : L.length = K.length := by have := congrArg List.length hs; simpa using this
  apply w18
  unfold F18
  rw [if_neg (by omega)]
  refine LoopP.of (fun (x : Int) w' => ∃ i : Nat, i ≤ L.length ∧ x = (i : Int) ∧ Mod [] w w') (fun x _ => L.length - x.toNat) ⟨0, by omega, rfl, Mod.refl _⟩ ?_
  rintro _ w1 ⟨i, hi, rfl, m1⟩
  unfold F18_b1
  refine iteI (fun hlt => ?_) (fun hlt => ⟨rfl, m1⟩)
  have hlt : i < L.length := by omega
  have hlt2 : i < K.length := by omega
  have md : Mod [] w w1.drew := m1.none (Mod.drew w1)
  obtain ⟨p, hp, hc⟩ := (ha.mod md (by simp)).flat (svv_len _) (by decide) hlt
  obtain ⟨q, hq, hd⟩ := (hb.mod md (by simp)).flat (svv_len _) (by decide) hlt2
  have hsy : L[i].sy = K[i].sy := by
    have h1 : (L.map En.sy)[i]'(by simpa using hlt) = (K.map En.sy)[i]'(by simpa using hlt2) := by simp only [hs]
    rw [List.getElem_map, List.getElem_map] at h1
    exact h1
  have e1 : L[i].id = K[i].id := congrArg (fun x => x.1) hsy
  have e2 : L[i].iv = K[i].iv := congrArg (fun x => x.2.1) hsy
  have e3 : L[i].on = K[i].on := congrArg (fun x => x.2.2.1) hsy
  have e4 : L[i].l = K[i].l := congrArg (fun x => x.2.2.2) hsy
  obtain ⟨hr1, hr2⟩ := hL L[i] (List.getElem_mem hlt)
  have hr3 := hK K[i] (List.getElem_mem hlt2)
  refine ⟨p, hp, by omega, by omega, _, sc0 hc, q, hq, by omega, by omega, _, sc0 hd, ?_⟩
  rw [if_neg (by rw [e1]; simp)]
  refine ⟨by omega, by omega, _, hc 1 _ rfl, by omega, by omega, _, hd 1 _ rfl, ?_⟩
  rw [if_neg (by rw [e2]; simp)]
  refine ⟨by omega, by omega, _, hc 2 _ rfl, by omega, by omega, _, hd 2 _ rfl, ?_⟩
  rw [if_neg (by rw [e3]; simp)]
  refine ⟨by omega, by omega, _, _, _, hc 3 _ rfl, by omega, by omega, _, _, _, hd 3 _ rfl, ?_⟩
  refine (ints_ok (l := L[i].l) (m := K[i].l) L[i].c K[i].c (by omega) (Rd.mod hr1 md (by simp)) (Rd.mod hr3 md (by simp))).mono ?_
  rintro _ w2 ⟨rfl, m2⟩
  refine ⟨_, rfl, ?_⟩
  rw [decide_eq_true e4, if_neg (by simp), wi64 (by omega)]
  exact ⟨_, by omega, ⟨i + 1, by omega, rfl, md.none m2⟩, rfl⟩
end Go.Proofs.Ytcgkmmiokmbjdaa
