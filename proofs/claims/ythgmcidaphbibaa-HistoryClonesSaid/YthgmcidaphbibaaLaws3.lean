/-
  The law HistoryClones, as a contract.
-/
import Derived.Test.YthgmcidaphbibaaLaws2
namespace Go.Proofs.Ythgmcidaphbibaa
open Go Go.Sh Go.Proofs
set_option linter.unusedVariables false

/-- A history, the reference's, and their copies. -/
structure Inv (w0 w : World) (g gx gc gy : Nat) (S T C Y : List Nat) (sh sx sc sy : Hs) : Prop where
  hi : Hi w g S sh
  rx : Rh w gx T sx
  hc : Hi w gc C sc
  ry : Rh w gy Y sy
  Gh : sh.good
  Gx : sx.good
  Gc : sc.good
  Gy : sy.good
  sS : Since w0 S
  sT : Since w0 T
  sC : Since w0 C
  sY : Since w0 Y
  ST : Apart S T
  SC : Apart S C
  SY : Apart S Y
  CT : Apart C T
  CY : Apart C Y
  xY : gx ∉ Y
  yT : gy ∉ T
  m : Mod [] w0 w
section
variable {w0 w : World} {g gx gc gy : Nat} {S T C Y : List Nat} {sh sx sc sy : Hs}
theorem Inv.swap (I : Inv w0 w g gx gc gy S T C Y sh sx sc sy) : Inv w0 w gc gy g gx C Y S T sc sy sh sx :=
  ⟨I.hc, I.ry, I.hi, I.rx, I.Gc, I.Gy, I.Gh, I.Gx, I.sC, I.sY, I.sS, I.sT, I.CY, I.SC.symm, I.CT, I.SY, I.ST, I.yT, I.xY, I.m⟩
theorem Inv.mod (I : Inv w0 w g gx gc gy S T C Y sh sx sc sy) {w' : World} (hm : Mod [] w w') : Inv w0 w' g gx gc gy S T C Y sh sx sc sy :=
  { I with hi := I.hi.mod hm (by simp), rx := I.rx.mod hm (by simp), hc := I.hc.mod hm (by simp), ry := I.ry.mod hm (by simp), m := I.m.none hm }
theorem Inv.addH (I : Inv w0 w g gx gc gy S T C Y sh sx sc sy) (x : Int) : Does Try.prog 12 #[.pointer (some (base g)), .int .i64 x] w fun v w' =>
    (∃ r b, v = .tuple #[.int .i64 r, .bool b]) ∧ ∃ S', Inv w0 w' g gx gc gy S' T C Y (sh.add x) sx sc sy := by
  refine (add_ok I.hi I.Gh x).mono ?_
  rintro _ w' ⟨rfl, S', h', m', f'⟩
  exact ⟨⟨_, _, rfl⟩, S', { hi := h', rx := I.rx.mod m' I.ST.symm, hc := I.hc.mod m' I.SC.symm, ry := I.ry.mod m' I.SY.symm, Gh := Hs.add_good I.Gh x, Gx := I.Gx, Gc := I.Gc, Gy := I.Gy, sS := I.sS.step I.m.size f', sT := I.sT, sC := I.sC, sY := I.sY, ST := I.ST.step I.rx.lt f', SC := I.SC.step I.hc.lt f', SY := I.SY.step I.ry.lt f', CT := I.CT, CY := I.CY, xY := I.xY, yT := I.yT, m := I.m.since m' I.sS }⟩
theorem Inv.addX (I : Inv w0 w g gx gc gy S T C Y sh sx sc sy) (x : Int) : Does Try.prog 13 #[.pointer (some (base gx)), .int .i64 x] w fun v w' =>
    (∃ r b, v = .tuple #[.int .i64 r, .bool b]) ∧ ∃ T', Inv w0 w' g gx gc gy S T' C Y sh (sx.add x) sc sy := by
  refine (refAdd_ok I.rx I.Gx x).mono ?_
  rintro _ w' ⟨rfl, T', r', m', f'⟩
  have hgT : gx ∈ T := by obtain ⟨_, _, h, _⟩ := I.rx; rw [h]; simp
  have hg0 := I.sT gx hgT
  have s1 : Since w0 [gx] := by intro y hy; simp at hy; subst hy; exact hg0
  have one : ∀ {A : List Nat}, gx ∉ A → ∀ y ∈ A, y ∉ [gx] := fun h y hy hy' => by simp at hy'; subst hy'; exact h hy
  have gS : gx ∉ S := fun h => I.ST _ h hgT
  have gC : gx ∉ C := fun h => I.CT _ h hgT
  have apart : ∀ {A : List Nat}, gx ∉ A → (∀ y ∈ A, y < w.heap.size) → Apart A T' := fun hA hlt y hy hy' => by
    rcases f' y hy' with h | h
    · subst h; exact hA hy
    · have := hlt y hy; omega
  have hylt : gy < w.heap.size := I.ry.lt gy (by obtain ⟨_, _, h, _⟩ := I.ry; rw [h]; simp)
  have hgy : gy ≠ gx := fun e => I.yT (e ▸ hgT)
  have hsz := I.m.size
  have hsT : Since w0 T' := by
    intro y hy
    rcases f' y hy with h | h
    · subst h; exact hg0
    · omega
  have hyT : gy ∉ T' := by
    intro hy
    rcases f' gy hy with h | h
    · exact hgy h
    · omega
  exact ⟨⟨_, _, rfl⟩, T', { hi := I.hi.mod m' (one gS), rx := r', hc := I.hc.mod m' (one gC), ry := I.ry.mod m' (one I.xY), Gh := I.Gh, Gx := Hs.add_good I.Gx x, Gc := I.Gc, Gy := I.Gy, sS := I.sS, sT := hsT, sC := I.sC, sY := I.sY, ST := apart gS I.hi.lt, SC := I.SC, SY := I.SY, CT := apart gC I.hc.lt, CY := I.CY, xY := I.xY, yT := hyT, m := I.m.since m' s1 }⟩
end

theorem historyClones_ok (most : Int) (a b : Option Addr) (l m : List Int) (c d : Nat) (w : World) (h1c : l.length ≤ maxLen) (h2c : m.length ≤ maxLen) (hr : Rd w a (l.map iv)) (hr' : Rd w b (m.map iv)) :
    Does Try.prog 5 #[.int .i64 most, .slice a l.length c, .slice b m.length d] w fun v w' => v = .bool true ∧ Mod [] w w' := by
  apply w5
  unfold F5
  refine (new_ok most w).mono ?_
  rintro _ w1 ⟨rfl, h1, m1⟩
  refine ⟨_, rfl, ?_⟩
  refine (refNew_ok most w1).mono ?_
  rintro _ w2 ⟨rfl, m2⟩
  refine ⟨_, _, _, _, _, rfl, ?_⟩
  unfold New
  rw [fresh_base]
  have M2 := m1.none m2
  have hs1 := m1.size
  have hs2 := m2.size
  have h2 := h1.mod m2 (by simp)
  refine put_ref (s := s0 most) (a := none) (c := 0) (Nat.le_refl _) Rd.nil ?_
  intro w3 r3 m3
  have M3 := M2.none m3
  have h3 := h2.mod m3 (by simp)
  have hwlt := h1.lt w.heap.size (by simp)
  unfold maxLen at h1c h2c
  unfold F5_j1
  by_cases hf : 600 < IntKind.i64.wrap ((l.length : Int) + (m.length : Int))
  · rw [if_pos hf, if_pos rfl, if_pos (by simp)]
    refine (lives_ok w3).mono ?_
    rintro _ w' ⟨rfl, hm'⟩
    exact ⟨_, rfl, rfl, M3.none hm'⟩
  rw [if_neg hf, if_neg (by simp)]
  refine LoopP.of (fun (x : Int) w' => ∃ (i : Nat) (S T : List Nat) (s : Hs), i ≤ l.length ∧ x = (i : Int) ∧ Hi w' w.heap.size S s ∧ Rh w' w2.heap.size T s ∧ s.good ∧ Since w S ∧ Since w T ∧ Apart S T ∧ Mod [] w w') (fun x _ => l.length - x.toNat)
    ⟨0, _, _, s0 most, by omega, rfl, h3, r3, s0_good most, by intro x hx; simp at hx; omega, by intro x hx; simp [s0, fpv] at hx; omega, by intro x hx; simp [s0, fpv] at hx ⊢; omega, M3⟩ ?_
  rintro _ w4 ⟨i, S, T, s, hi, rfl, h4, r4, G, sS, sT, ap, M4⟩
  have hgT : w2.heap.size ∈ T := by obtain ⟨_, _, rfl, _⟩ := r4; simp
  have sG : Since w [w2.heap.size] := by intro y hy; simp at hy; subst hy; exact sT _ hgT
  unfold F5_b2
  by_cases hlt : i < l.length
  · rw [if_pos (by omega)]
    obtain ⟨p, rfl, hc⟩ := rd_at (hr.mod M4 (by simp)) hlt
    have e1 : IntKind.i64.wrap ((i : Int) + 1) = ((i + 1 : Nat) : Int) := by rw [wi64 (by omega)]; omega
    rw [e1, Int.toNat_natCast]
    refine ⟨p, rfl, by omega, by omega, _, hc, ?_⟩
    refine (add_ok h4 G l[i]).mono ?_
    rintro _ w5 ⟨rfl, S5, h5, m5, f5⟩
    have M5 := M4.since m5 sS
    have s5 := sS.step M4.size f5
    have a5 := ap.step r4.lt f5
    have r5 := r4.mod m5 ap.symm
    obtain ⟨p1, hp1, hc1⟩ := rd_at (hr.mod M5 (by simp)) hlt
    cases hp1
    refine ⟨_, _, rfl, by omega, by omega, _, hc1, ?_⟩
    refine (refAdd_ok r5 G l[i]).mono ?_
    rintro _ w6 ⟨rfl, T6, r6, m6, f6⟩
    have M6 := M5.since m6 sG
    have hgS : ∀ y ∈ S5, y ∉ [w2.heap.size] := fun y hy hy' => by simp at hy'; subst hy'; exact a5 _ hy hgT
    have h6 := h5.mod m6 hgS
    have h5lt := h5.lt
    have a6 : Apart S5 T6 := fun y hy hy' => by
      rcases f6 y hy' with h | h
      · subst h; exact a5 _ hy hgT
      · have := h5lt y hy; omega
    have s6 : Since w T6 := fun y hy => by
      rcases f6 y hy with h | h
      · subst h; exact sT _ hgT
      · have := M5.size; omega
    exact ⟨_, _, rfl, _, by omega, ⟨i + 1, S5, T6, _, by omega, rfl, h6, r6, Hs.add_good G l[i], s5, s6, a6, M6⟩, rfl⟩
  · rw [if_neg (by omega)]
    refine (clone_hist h4 G).mono ?_
    rintro _ w5 ⟨gc, C, rfl, h5, m5, f5⟩
    have M5 := M4.none m5
    refine ⟨_, rfl, ?_⟩
    rw [if_neg (by simp)]
    have r5 := r4.mod m5 (by simp)
    obtain ⟨ra, rc, hcells, hcl, hrd, hT⟩ := r5.cells
    refine ⟨_, _, _, _, _, hcells, ?_⟩
    unfold New
    rw [fresh_base]
    refine put_ref (s := s) hcl hrd ?_
    intro w6 r6 m6
    have s0' := M4.size
    have s5' := m5.size
    have hTlt := r5.lt
    have hSlt := h4.lt
    have hClt := h5.lt
    have hTlt4 := r4.lt
    have jC : Since w C := fun y hy => by have := f5 y hy; omega
    have jY : Since w (w5.heap.size :: fpv ra (s.l.map iv)) := fun y hy => by
      rcases List.mem_cons.1 hy with rfl | hy
      · omega
      · exact sT y (by rw [hT]; simp [hy])
    have jSC : Apart S C := fun y hy hy' => by have := f5 y hy'; have := hSlt y hy; omega
    have jSY : Apart S (w5.heap.size :: fpv ra (s.l.map iv)) := fun y hy hy' => by
      rcases List.mem_cons.1 hy' with rfl | hy'
      · have := hSlt _ hy; omega
      · exact ap y hy (by rw [hT]; simp [hy'])
    have jCT : Apart C T := fun y hy hy' => by have := f5 y hy; have := hTlt4 y hy'; omega
    have jCY : Apart C (w5.heap.size :: fpv ra (s.l.map iv)) := fun y hy hy' => by
      rcases List.mem_cons.1 hy' with rfl | hy'
      · have := hClt _ hy; omega
      · have := f5 y hy; have := hTlt4 y (by rw [hT]; simp [hy']); omega
    have jxY : w2.heap.size ∉ (w5.heap.size :: fpv ra (s.l.map iv)) := fun hy => by
      rcases List.mem_cons.1 hy with h | hy
      · have := hTlt _ hgT; omega
      · obtain ⟨a', c', hT', hn', _⟩ := r5
        rw [hT] at hT'
        injection hT' with _ hT'
        exact hn' (hT' ▸ hy)
    have jyT : w5.heap.size ∉ T := fun hy => by have := hTlt _ hy; omega
    have I : Inv w w6 w.heap.size w2.heap.size gc w5.heap.size S T C (w5.heap.size :: fpv ra (s.l.map iv)) s s s s :=
      ⟨(h4.mod m5 (by simp)).mod m6 (by simp), r5.mod m6 (by simp), h5.mod m6 (by simp), r6, G, G, G, G, sS, sT, jC, jY, ap, jSC, jSY, jCT, jCY, jxY, jyT, M5.none m6⟩
    refine LoopP.of (fun (x : Int) w' => ∃ (i : Nat) (S T C Y : List Nat) (sx sy : Hs), i ≤ m.length ∧ x = (i : Int) ∧ Inv w w' w.heap.size w2.heap.size gc w5.heap.size S T C Y sx sx sy sy) (fun x _ => m.length - x.toNat)
      ⟨0, _, _, _, _, _, _, by omega, rfl, I⟩ ?_
    clear I
    rintro _ w7 ⟨i, S, T, C, Y, sx, sy, hi, rfl, I⟩
    unfold F5_b3
    by_cases hlt : i < m.length
    · rw [if_pos (by omega)]
      have e1 : IntKind.i64.wrap ((i : Int) + 1) = ((i + 1 : Nat) : Int) := by rw [wi64 (by omega)]; omega
      rw [e1, Int.toNat_natCast]
      obtain ⟨p, rfl, hc⟩ := rd_at (hr'.mod I.m (by simp)) hlt
      refine ⟨p, rfl, by omega, by omega, _, hc, ?_⟩
      refine (I.swap.addH m[i]).mono ?_
      rintro _ w8 ⟨⟨_, _, rfl⟩, C8, I8⟩
      obtain ⟨p1, hp1, hc1⟩ := rd_at (hr'.mod I8.m (by simp)) hlt
      cases hp1
      refine ⟨_, _, rfl, by omega, by omega, _, hc1, ?_⟩
      refine (I8.addX m[i]).mono ?_
      rintro _ w9 ⟨⟨_, _, rfl⟩, Y9, I9⟩
      obtain ⟨p1, hp1, hc1⟩ := rd_at (hr'.mod I9.m (by simp)) hlt
      cases hp1
      refine ⟨_, _, rfl, by omega, by omega, _, hc1, ?_⟩
      refine (I9.swap.addH _).mono ?_
      rintro _ w10 ⟨⟨_, _, rfl⟩, S10, I10⟩
      obtain ⟨p1, hp1, hc1⟩ := rd_at (hr'.mod I10.m (by simp)) hlt
      cases hp1
      refine ⟨_, _, rfl, by omega, by omega, _, hc1, ?_⟩
      refine (I10.addX _).mono ?_
      rintro _ w11 ⟨⟨_, _, rfl⟩, T11, I11⟩
      exact ⟨_, _, rfl, _, by omega, ⟨i + 1, S10, T11, C8, Y9, _, _, by omega, rfl, I11⟩, rfl⟩
    · rw [if_neg (by omega)]
      obtain ⟨ra, rc, hcells, _, hrd, _⟩ := I.rx.cells
      refine ⟨_, _, _, _, _, hcells, (agrees_ok I.hi I.Gh hrd).mono ?_⟩
      rintro _ w8 ⟨rfl, m8⟩
      have I8 := I.mod m8
      refine ⟨_, rfl, ?_⟩
      rw [if_pos rfl]
      obtain ⟨ra, rc, hcells, _, hrd, _⟩ := I8.ry.cells
      refine ⟨_, _, _, _, _, hcells, (agrees_ok I8.hc I8.Gc hrd).mono ?_⟩
      rintro _ w9 ⟨rfl, m9⟩
      have I9 := I8.mod m9
      refine ⟨_, rfl, ?_⟩
      rw [if_pos rfl]
      refine (lives_ok w9).mono ?_
      rintro _ w' ⟨rfl, hm'⟩
      exact ⟨_, rfl, rfl, I9.m.none hm'⟩
end Go.Proofs.Ythgmcidaphbibaa
