/-
  The contracts of chapter 37: Enable, Delete, Find of the reference.
-/
import Derived.Test.YtkeaamfpcapioaaRefOps
namespace Go.Proofs.Ytkeaamfpcapioaa
open Go Go.Sh Go.Proofs
set_option linter.unusedVariables false
set_option linter.unusedSimpArgs false
set_option linter.unusedSectionVars false

theorem Row.take {α : Type} (R : Row α) (l : List α) (k : Nat) : (R.cells l).take (k * R.z) = R.cells (l.take k) := flat_take R.f l (fun x _ => R.hz x) k
theorem Row.drop {α : Type} (R : Row α) (l : List α) (k : Nat) : (R.cells l).drop (k * R.z) = R.cells (l.drop k) := flat_drop R.f l (fun x _ => R.hz x) k
/-- One element left out, as the reference does it. -/
theorem delG {α : Type} (R : Row α) {w0 w1 : World} {q : Nat} {ao : Option Addr} {n co k : Nat} {l : List α} (hr : Rd w0 ao (R.cells l)) (hn : n = l.length) (hl : n ≤ 300) (hk : k < n) (hc : n ≤ co) (m1 : Mod [] w0 w1) (hq : Blk w1 q R.e []) (h0 : w0.heap.size ≤ q) :
    ∃ a1 n1 c1 w2, (Builtin.append_ #[R.t, R.t] R.t #[.slice (some (base q)) 0 0, .slice ao k co]).run Try.prog w1 = .ok (.slice a1 n1 c1) w2 ∧ Mod [] w0 w2 ∧
    ∃ a2 n2 c2 w3, (Builtin.append_ #[R.t, R.t] R.t #[.slice a1 n1 c1, .slice (cutA ao co (k + 1) R.z) (n - (k + 1)) (co - (k + 1))]).run Try.prog w2 = .ok (.slice a2 n2 c2) w3 ∧ Gr R w0 w3 a2 n2 c2 (l.take k ++ l.drop (k + 1)) := by
  subst hn
  have rt := (hr.mod m1 (by simp)).take (k * R.z)
  rw [R.take] at rt
  obtain ⟨a1, n1, c1, w2, run1, G1, m2⟩ := (Gr.start (R := R) hq m1 h0).app (k := k) (d := co) (by rw [List.length_take]; omega) rt (by omega)
  rw [List.nil_append] at G1
  have rd := (hr.mod G1.m (by simp)).cut (c := co) (l := k + 1) (z := R.z) (by rw [R.len]; exact Nat.mul_le_mul_right _ hc)
  rw [R.drop] at rd
  have e1 := G1.len
  rw [List.length_take] at e1
  obtain ⟨a2, n2, c2, w3, run2, G2, m3⟩ := G1.app (k := l.length - (k + 1)) (d := co - (k + 1)) (by rw [List.length_drop]) rd (by omega)
  exact ⟨a1, n1, c1, w2, run1, G1.m, a2, n2, c2, w3, run2, G2⟩
theorem map_del {α : Type} (f : En → α) (l : List En) (k : Nat) : (l.map f).take k ++ (l.map f).drop (k + 1) = (l.take k ++ l.drop (k + 1)).map f := by
  rw [List.map_append, List.map_take, List.map_drop]
theorem rdel_ok {w : World} {r : Nat} {l : List En} {T : List Nat} (h : Rf w r l T) (hl : l.length ≤ 256) (ev : Int) : Does Try.prog 22 #[.pointer (some (base r)), .int .i64 ev] w fun v w' => v = .int .i64 (delE l ev) ∧ RefR w r T (delL l ev) w' := by
  apply w22
  unfold F22
  have same : ∀ (e : Int) (w3 : World), Mod [] w w3 → delE l ev = e → e ≠ 0 → (Value.int .i64 e) = .int .i64 (delE l ev) ∧ RefR w r T (delL l ev) w3 := by
    intro e w3 m3 he hne
    refine ⟨by rw [he], ?_⟩
    unfold delL
    rw [if_neg (by rw [he]; exact hne)]
    exact RefR.same h m3
  refine (rat_ok h hl ev).mono ?_
  rintro _ w2 ⟨rfl, M2⟩
  refine ⟨_, _, rfl, iteI (fun hi => ?_) (fun hi => ?_)⟩
  · have hi : isE ev l ≠ true := by simpa using hi
    exact same 8 w2 M2 (by unfold delE; rw [if_neg hi]) (by decide)
  have hi : isE ev l = true := by simpa using hi
  obtain ⟨hlt, _⟩ := isE_lt hi
  have h2 := h.mod M2 (by simp) (by simp)
  obtain ⟨⟨ae, ce, ac, cc, ao, co, hb, r1, r2, r3, l1, l2, l3, t1, t2, t3⟩, nr⟩ := h2
  obtain ⟨po, hpo, hco⟩ := r3.flat (f := rowO.f) (L := l.map (·.2.1)) (z := 1) (fun _ _ => rfl) (by decide) (i := kx ev l) (by simpa using hlt)
  have hco0 := hco 0 (.bool l[kx ev l].2.1) (by simp)
  rw [add_zero, Nat.mul_one] at hco0
  refine ⟨_, rfl, _, _, _, hb.cell (i := 2) rfl, po, hpo, by omega, by omega, _, hco0, ?_⟩
  rw [← onAt_at hlt]
  refine iteI (fun hon => ?_) (fun hon => ?_)
  · exact same 12 w2 M2 (by unfold delE; rw [if_pos hi, if_pos hon]) (by decide)
  have e0 : delE l ev = 0 := by unfold delE; rw [if_pos hi, if_neg hon]
  have eL : delL l ev = l.take (kx ev l) ++ l.drop (kx ev l + 1) := by unfold delL; rw [if_pos e0]
  have hrw : r < w.heap.size := by
    obtain ⟨⟨_, _, _, _, _, _, hb0, _⟩, _⟩ := h
    exact hb0.lt
  have e1 : IntKind.i64.wrap ((kx ev l : Int) + 1) = ((kx ev l + 1 : Nat) : Int) := by rw [wi64 (by omega)]; omega
  rw [e1]
  simp only [Int.toNat_natCast]
  have z2 := M2.size
  -- the events
  have bd : Blk w2.drew r 31 _ := hb.drew
  have md : Mod [] w2 w2.drew := Mod.drew w2
  refine ⟨_, _, _, bd.cell0, by omega, by omega, _, _, _, bd.cell0, by omega, by omega, New.use fun w3 h3 m3 z3 => ?_⟩
  have M3 := md.none m3
  obtain ⟨a1, n1, c1, w4, run1, M4, a2, n2, c2, w5, run2, G⟩ := delG rowE r1 (by simp) (by omega) hlt l1 M3 h3 (Nat.le_refl _)
  refine ⟨(hb.mod M3 (by simp)).cell0, (hb.mod M3 (by simp)).cell0, a1, n1, c1, w4, run1, (hb.mod M4 (by simp)).cell0, a2, n2, c2, w5, run2, Put.use0 (hb.mod G.m (by simp)) (by simp) fun w6 b6 m6 => ?_⟩
  have m26 : Mod [r] w2 w6 := (G.m.weaken (by simp)).trans m6 (fun y hy => .inl hy)
  have GE := G.o.mod m6 (fun y hy hy' => by have := G.s y hy; simp at hy'; omega)
  have r2' := r2.modv m26 (fun y hy hy' => by simp at hy'; subst hy'; exact nr (t2 _ hy))
  have r3' := r3.modv m26 (fun y hy hy' => by simp at hy'; subst hy'; exact nr (t3 _ hy))
  have z6 := m26.size
  simp only [List.set] at b6
  -- the commands
  have bd6 : Blk w6.drew r 31 _ := b6.drew
  have md6 : Mod [] w6 w6.drew := Mod.drew w6
  refine ⟨_, _, _, bd6.cell (i := 1) rfl, by omega, by omega, _, _, _, bd6.cell (i := 1) rfl, by omega, by omega, New.use fun w7 h7 m7 z7 => ?_⟩
  have M7 := md6.none m7
  obtain ⟨d1, p1, g1, w8, run3, M8, d2, p2, g2, w9, run4, H⟩ := delG rowC r2' (by simp) (by omega) hlt l2 M7 h7 (Nat.le_refl _)
  refine ⟨(b6.mod M7 (by simp)).cell (i := 1) rfl, (b6.mod M7 (by simp)).cell (i := 1) rfl, d1, p1, g1, w8, run3, (b6.mod M8 (by simp)).cell (i := 1) rfl, d2, p2, g2, w9, run4, Put.use (b6.mod H.m (by simp)) (by simp) fun w10 b10 m10 => ?_⟩
  have m610 : Mod [r] w6 w10 := (H.m.weaken (by simp)).trans m10 (fun y hy => .inl hy)
  have HC := H.o.mod m10 (fun y hy hy' => by have := H.s y hy; simp at hy'; omega)
  have GE' := GE.mod m610 (fun y hy hy' => by have := G.s y hy; simp at hy'; omega)
  have r3'' := r3'.modv m610 (fun y hy hy' => by simp at hy'; subst hy'; exact nr (t3 _ hy))
  have z10 := m610.size
  simp only [List.set] at b10
  -- the switches
  have bd10 : Blk w10.drew r 31 _ := b10.drew
  have md10 : Mod [] w10 w10.drew := Mod.drew w10
  refine ⟨_, _, _, bd10.cell (i := 2) rfl, by omega, by omega, _, _, _, bd10.cell (i := 2) rfl, by omega, by omega, New.use fun w11 h11 m11 z11 => ?_⟩
  have M11 := md10.none m11
  obtain ⟨u1, q1, v1, w12, run5, M12, u2, q2, v2, w13, run6, I⟩ := delG rowO r3'' (by simp) (by omega) hlt l3 M11 h11 (Nat.le_refl _)
  refine ⟨(b10.mod M11 (by simp)).cell (i := 2) rfl, (b10.mod M11 (by simp)).cell (i := 2) rfl, u1, q1, v1, w12, run5, (b10.mod M12 (by simp)).cell (i := 2) rfl, u2, q2, v2, w13, run6, Put.use (b10.mod I.m (by simp)) (by simp) fun w14 b14 m14 => ?_⟩
  have m1014 : Mod [r] w10 w14 := (I.m.weaken (by simp)).trans m14 (fun y hy => .inl hy)
  have IO := I.o.mod m14 (fun y hy hy' => by have := I.s y hy; simp at hy'; omega)
  have HC' := HC.mod m1014 (fun y hy hy' => by have := H.s y hy; simp at hy'; omega)
  have GE'' := GE'.mod m1014 (fun y hy hy' => by have := G.s y hy; simp at hy'; omega)
  have z14 := m1014.size
  simp only [List.set] at b14
  have hlen : (delL l ev).length = (l.take (kx ev l) ++ l.drop (kx ev l + 1)).length := by rw [eL]
  have hm : Mod [r] w w14 := (((M2.weaken (by simp)).trans m26 (fun y hy => .inl hy)).trans m610 (fun y hy => .inl hy)).trans m1014 (fun y hy => .inl hy)
  have nE := G.len
  have nC := H.len
  have nO := I.len
  rw [map_del, List.length_map, ← hlen] at nE nC nO
  subst nE nC nO
  have RE := GE''.rd
  have RC := HC'.rd
  have RO := IO.rd
  rw [map_del, ← eL] at RE RC RO
  refine ⟨by rw [e0], fp a2 ++ fp d2 ++ fp u2 ++ T, ⟨⟨a2, c2, d2, g2, u2, v2, b14, RE, RC, RO, G.o.le, H.o.le, I.o.le, fun y hy => ?_, fun y hy => ?_, fun y hy => ?_⟩, ?_⟩, hm, fun y hy => by simp [hy], fun y hy => ?_⟩
  · have := fpv_sub y hy; simp [this]
  · have := fpv_sub y hy; simp [this]
  · have := fpv_sub y hy; simp [this]
  · intro hh
    simp only [List.mem_append] at hh
    rcases hh with ((hh | hh) | hh) | hh
    · have := G.s r hh; omega
    · have := H.s r hh; omega
    · have := I.s r hh; omega
    · exact nr hh
  · simp only [List.mem_append] at hy
    rcases hy with ((hy | hy) | hy) | hy
    · right; have := G.s y hy; have := GE''.lt y hy; omega
    · right; have := H.s y hy; have := HC'.lt y hy; omega
    · right; have := I.s y hy; have := IO.lt y hy; omega
    · exact .inl hy
end Go.Proofs.Ytkeaamfpcapioaa
