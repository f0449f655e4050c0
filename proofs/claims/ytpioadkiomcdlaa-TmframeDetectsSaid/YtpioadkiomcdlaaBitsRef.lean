/-
  The contracts of chapter 2: the reference.
-/
import Derived.Test.YtpioadkiomcdlaaBitsR
namespace Go.Proofs.Ytpioadkiomcdlaa
open Go Go.Sh Go.Proofs
set_option linter.unusedVariables false

/-! ### the reference's reader -/
def Rr (w : World) (g : Nat) (a : Option Addr) (l : List UInt8) (c at_ : Nat) (bad : Bool) : Prop :=
  at_ ≤ 8 * l.length ∧ g ∉ fpv a (l.map bv) ∧ Blk w g 62 [.slice a l.length c, .int .i64 (at_ : Int), .bool bad] ∧ Rd w a (l.map bv)
theorem Rr.mod {w w' : World} {g c p : Nat} {T : List Nat} {a : Option Addr} {l : List UInt8} {b : Bool} (h : Rr w g a l c p b) (hm : Mod T w w') (h1 : g ∉ T) (h2 : ∀ x ∈ fpv a (l.map bv), x ∉ T) : Rr w' g a l c p b :=
  ⟨h.1, h.2.1, h.2.2.1.mod hm h1, h.2.2.2.modv hm h2⟩
theorem Rr.setAt {w : World} {g c p : Nat} {a : Option Addr} {l : List UInt8} {b : Bool} (h : Rr w g a l c p b) {q : Nat} (hq : q ≤ 8 * l.length) : Writable w ((base g).add 1) ∧ Rr (w.setCell ((base g).add 1) (.int .i64 (q : Int))) g a l c q b ∧ Mod [g] w (w.setCell ((base g).add 1) (.int .i64 (q : Int))) := by
  have hm : Mod [g] w (w.setCell ((base g).add 1) (.int .i64 (q : Int))) := Mod.setCell _ _ _ (by rw [add_block]; simp [base])
  exact ⟨h.2.2.1.can (i := 1) (by simp), ⟨hq, h.2.1, h.2.2.1.set 1 _, h.2.2.2.modv hm (fun x hx hx' => by simp at hx'; subst hx'; exact h.2.1 hx)⟩, hm⟩
theorem Rr.setBad {w : World} {g c p : Nat} {a : Option Addr} {l : List UInt8} {b : Bool} (h : Rr w g a l c p b) : Writable w ((base g).add 2) ∧ Rr (w.setCell ((base g).add 2) (.bool true)) g a l c p true ∧ Mod [g] w (w.setCell ((base g).add 2) (.bool true)) := by
  have hm : Mod [g] w (w.setCell ((base g).add 2) (.bool true)) := Mod.setCell _ _ _ (by rw [add_block]; simp [base])
  exact ⟨h.2.2.1.can (i := 2) (by simp), ⟨h.1, h.2.1, h.2.2.1.set 2 _, h.2.2.2.modv hm (fun x hx hx' => by simp at hx'; subst hx'; exact h.2.1 hx)⟩, hm⟩

section
variable {w : World} {g c p : Nat} {a : Option Addr} {l : List UInt8} {bad : Bool} (h : Rr w g a l c p bad) (hl : l.length ≤ 1000000)
include h hl
theorem refLeft_ok : Does Try.prog 48 #[.pointer (some (base g))] w fun v w' => v = .int .i64 (if bad = true then 0 else ((8 * l.length - p : Nat) : Int)) ∧ Mod [] w w' := by
  obtain ⟨hp, hn, hb, hr⟩ := h
  apply w48
  unfold F48
  refine ⟨_, rfl, bad, hb.cell (i := 2) rfl, ?_⟩
  cases bad with
  | true => rw [if_pos rfl, if_pos rfl]; exact ⟨rfl, Mod.refl _⟩
  | false =>
    rw [if_neg (by simp), if_neg (by simp)]
    refine ⟨_, _, _, hb.drew.cell0, _, hb.drew.cell (i := 1) rfl, ?_, Mod.drew _⟩
    rw [wi64 (n := 8 * (l.length : Int)) (by omega), wi64 (by omega)]
    congr 1
    omega
theorem refSkip_ok (wd : Int) : Does Try.prog 36 #[.pointer (some (base g)), .int .i64 wd] w fun v w' => v = .tuple #[] ∧ Mod [g] w w' ∧ Rr w' g a l c (sat l p bad wd) (!sgood l p bad wd) := by
  apply w36
  unfold F36
  have hp := h.1
  have hfail : ∀ w1, Mod [] w w1 → sgood l p bad wd = false → F36_j2 (some (base g)) wd true w1 (fun v w' => v = .tuple #[] ∧ Mod [g] w w' ∧ Rr w' g a l c (sat l p bad wd) (!sgood l p bad wd)) := by
    intro w1 hm1 hf
    unfold F36_j2 sat
    rw [if_pos rfl, hf]
    obtain ⟨k1, k2, k3⟩ := (h.mod hm1 (by simp) (by simp)).setBad
    refine ⟨_, rfl, k1, ?_⟩
    unfold F36_j1
    refine ⟨_, rfl, true, k2.2.2.1.cell (i := 2) rfl, ?_⟩
    rw [if_neg (by simp)]
    exact ⟨rfl, (hm1.weaken (by simp)).trans k3 (fun x hx => .inl hx), k2⟩
  by_cases h0 : wd < 0
  · rw [if_pos h0]
    exact hfail w (Mod.refl _) (by unfold sgood; simp; omega)
  · rw [if_neg h0]
    refine (refLeft_ok h hl).mono ?_
    rintro _ w1 ⟨rfl, hm1⟩
    refine ⟨_, rfl, ?_⟩
    by_cases hlt : (if bad = true then 0 else ((8 * l.length - p : Nat) : Int)) < wd
    · rw [decide_eq_true hlt]
      exact hfail w1 hm1 (by unfold sgood; cases bad <;> simp at hlt ⊢; omega)
    · rw [decide_eq_false hlt]
      have h1 := h.mod hm1 (by simp) (by simp)
      unfold F36_j2 F36_j1
      rw [if_neg (by simp)]
      refine ⟨_, rfl, bad, h1.2.2.1.cell (i := 2) rfl, ?_⟩
      cases bad with
      | true =>
        have hf : sgood l p true wd = false := by simp [sgood]
        rw [if_neg (by simp)]
        unfold sat
        rw [hf]
        exact ⟨rfl, hm1.weaken (by simp), h1⟩
      | false =>
        simp at hlt
        have hf : sgood l p false wd = true := by unfold sgood; simp; omega
        unfold sat
        rw [if_pos (by simp), hf]
        have hw : IntKind.i64.wrap ((p : Int) + wd) = ((p + wd.toNat : Nat) : Int) := by rw [wi64 (by omega)]; omega
        obtain ⟨k1, k2, k3⟩ := h1.setAt (q := p + wd.toNat) (by omega)
        refine ⟨_, h1.2.2.1.cell (i := 1) rfl, ?_⟩
        rw [hw]
        exact ⟨k1, rfl, (hm1.weaken (by simp)).trans k3 (fun x hx => .inl hx), k2⟩

omit h in
theorem refGet_ok (h : Rr w g a l c p bad) (wd : Int) : Does Try.prog 37 #[.pointer (some (base g)), .int .i64 wd] w fun v w' => v = .int .u64 (gval l p bad wd : Int) ∧ Mod [g] w w' ∧ Rr w' g a l c (gat l p bad wd) (gbad l p bad wd) := by
  apply w37
  unfold F37
  have hp := h.1
  have hfail : ∀ w1, Mod [] w w1 → good l p bad wd = false → F37_j3 (some (base g)) wd true w1 (fun v w' => v = .int .u64 (gval l p bad wd : Int) ∧ Mod [g] w w' ∧ Rr w' g a l c (gat l p bad wd) (gbad l p bad wd)) := by
    intro w1 hm1 hf
    unfold F37_j3 gval gat gbad
    rw [if_pos rfl, hf]
    obtain ⟨k1, k2, k3⟩ := (h.mod hm1 (by simp) (by simp)).setBad
    refine ⟨_, rfl, k1, ?_⟩
    unfold F37_j1
    refine ⟨_, rfl, true, k2.2.2.1.cell (i := 2) rfl, ?_⟩
    rw [if_pos rfl]
    exact ⟨rfl, (hm1.weaken (by simp)).trans k3 (fun x hx => .inl hx), k2⟩
  by_cases h0 : wd < 0
  · rw [if_pos h0]
    exact hfail w (Mod.refl _) (by unfold good; simp; omega)
  rw [if_neg h0]
  by_cases h64 : 64 < wd
  · rw [if_pos h64]
    exact hfail w (Mod.refl _) (by unfold good; simp; omega)
  rw [if_neg h64]
  refine (refLeft_ok h hl).mono ?_
  rintro _ w1 ⟨rfl, hm1⟩
  refine ⟨_, rfl, ?_⟩
  by_cases hlt : (if bad = true then 0 else ((8 * l.length - p : Nat) : Int)) < wd
  · rw [decide_eq_true hlt]
    exact hfail w1 hm1 (by unfold good; cases bad <;> simp at hlt ⊢; omega)
  · rw [decide_eq_false hlt]
    have h1 := h.mod hm1 (by simp) (by simp)
    unfold F37_j3 F37_j1
    rw [if_neg (by simp)]
    refine ⟨_, rfl, bad, h1.2.2.1.cell (i := 2) rfl, ?_⟩
    cases bad with
    | true =>
      have hf : good l p true wd = false := by simp [good]
      rw [if_pos rfl]
      unfold gval gat gbad
      rw [hf]
      exact ⟨rfl, hm1.weaken (by simp), h1⟩
    | false =>
      simp at hlt
      have hf : good l p false wd = true := by unfold good; simp; omega
      obtain ⟨k, rfl⟩ : ∃ k : Nat, wd = (k : Int) := ⟨wd.toNat, by omega⟩
      unfold gval gat gbad
      rw [if_neg (by simp), hf]
      refine LoopP.of (fun (s : Int × Int) w' => ∃ i : Nat, i ≤ k ∧ s = ((num l p i : Int), (i : Int)) ∧ Rr w' g a l c (p + i) false ∧ Mod [g] w w') (fun s _ => k - s.2.toNat) ⟨0, by omega, rfl, h1, hm1.weaken (by simp)⟩ ?_
      rintro _ w2 ⟨i, hi, rfl, hr2, hm2⟩
      unfold F37_b2
      dsimp only
      by_cases hik : i < k
      · rw [if_pos (by omega)]
        have hb2 := hr2.2.2.1
        have e2 : IntKind.i64.wrap (Int.tdiv ((p + i : Nat) : Int) 8) = (((p + i) / 8 : Nat) : Int) := by rw [Int.tdiv_eq_ediv_of_nonneg (by omega), wi64 (by omega)]; omega
        have e3 : IntKind.i64.wrap (7 - Int.tmod ((p + i : Nat) : Int) 8) = 7 - (((p + i) % 8 : Nat) : Int) := by rw [Int.tmod_eq_emod_of_nonneg (by omega), wi64 (by omega)]; omega
        have e3' : IntKind.u64.wrap (7 - (((p + i) % 8 : Nat) : Int)) = 7 - (((p + i) % 8 : Nat) : Int) := by rw [wu64]; omega
        have e4 : IntKind.i64.wrap (((p + i : Nat) : Int) + 1) = ((p + (i + 1) : Nat) : Int) := by rw [wi64 (by omega)]; omega
        have e5 : IntKind.i64.wrap ((i : Int) + 1) = ((i + 1 : Nat) : Int) := by rw [wi64 (by omega)]; omega
        obtain ⟨q, rfl, hc⟩ := rd_at hr2.2.2.2.drew (show (p + i) / 8 < l.length by omega)
        refine ⟨_, _, _, hb2.drew.cell0, _, hb2.drew.cell (i := 1) rfl, q, rfl, ?_⟩
        rw [e2, Int.toNat_natCast]
        refine ⟨by omega, by omega, _, hc, _, hb2.drew.cell (i := 1) rfl, ?_⟩
        rw [e3, e3']
        refine ⟨by omega, _, hb2.drew.cell (i := 1) rfl, ?_⟩
        have hnum : num l p i < 2 ^ 63 := Nat.lt_of_lt_of_le (num_lt l p i) (Nat.pow_le_pow_right (by decide) (by omega))
        rw [e4, e5, ref_val _ (by omega) hnum]
        have hr2' : Rr w2.drew g (some q) l c (p + i) false := ⟨hr2.1, hr2.2.1, hr2.2.2.1.drew, hr2.2.2.2.drew⟩
        obtain ⟨k1, k2, k3⟩ := hr2'.setAt (q := p + (i + 1)) (by omega)
        exact ⟨k1, _, by omega, ⟨i + 1, by omega, rfl, k2, (hm2.trans (Mod.drew w2) (fun x hx => .inl hx)).trans k3 (fun x hx => .inl hx)⟩, rfl⟩
      · have : i = k := by omega
        subst this
        rw [if_neg (by omega)]
        exact ⟨by simp, hm2, hr2⟩
end

/-! ### Low, Same, few -/
/-! ### the reference's writer -/
def b1 (b : Bool) : UInt8 := if b then 1 else 0
/-- The reference's writer in block g, that holds the bits L; S: its blocks. -/
def Rw (w : World) (g : Nat) (S : List Nat) (L : List Bool) : Prop :=
  ∃ a c, S = g :: fp a ∧ Blk w g 48 [.slice a L.length c] ∧ Own w 5 1 a L.length c ((L.map b1).map bv)
theorem Rw.mod {w w' : World} {g : Nat} {S T : List Nat} {L : List Bool} (h : Rw w g S L) (hm : Mod T w w') (hd : ∀ x ∈ S, x ∉ T) : Rw w' g S L := by
  obtain ⟨a, c, rfl, hb, ho⟩ := h
  exact ⟨a, c, rfl, hb.mod hm (hd g (by simp)), ho.mod hm (fun x hx => hd x (by simp [hx]))⟩
theorem Rw.lt {w : World} {g : Nat} {S : List Nat} {L : List Bool} (h : Rw w g S L) : ∀ x ∈ S, x < w.heap.size := by
  obtain ⟨a, c, rfl, hb, ho⟩ := h
  intro x hx
  rcases List.mem_cons.1 hx with rfl | hx
  · exact hb.lt
  · exact ho.lt x hx
theorem refbit_val {n : Nat} {k : Nat} (hk : k < 64) : Value.int .u8 (IntKind.u8.wrap (Int.tmod (shr .u64 (n : Int) (k : Int)) 2)) = bv (b1 (n.testBit k)) := by
  rw [shrN .u64 n k (by show _ ≤ 64; omega), Int.tmod_eq_emod_of_nonneg (Int.natCast_nonneg _), show ((n >>> k : Nat) : Int) % 2 = (((n >>> k) % 2 : Nat) : Int) from rfl]
  have h1 : n.testBit k = decide ((n >>> k) % 2 = 1) := by
    rw [Nat.testBit, Nat.and_comm, Nat.and_one_is_mod]
    have h6 : (n >>> k) % 2 = 0 ∨ (n >>> k) % 2 = 1 := by omega
    rcases h6 with h6 | h6 <;> simp [h6]
  rw [h1]
  have h6 : (n >>> k) % 2 = 0 ∨ (n >>> k) % 2 = 1 := by omega
  rcases h6 with h6 | h6 <;> rw [h6] <;> rfl
theorem refPut_ok {w : World} {g : Nat} {S : List Nat} {L : List Bool} (h : Rw w g S L) {n wd : Nat} (hwd : wd ≤ 64) (hL : L.length ≤ 900000) :
    Does Try.prog 22 #[.pointer (some (base g)), .int .u64 (n : Int), .int .i64 (wd : Int)] w fun v w' =>
      v = .tuple #[] ∧ ∃ S', Rw w' g S' (L ++ field n wd) ∧ Mod S w w' ∧ ∀ x ∈ S', x ∈ S ∨ w.heap.size ≤ x := by
  apply w22
  unfold F22
  rw [if_neg (by omega), if_neg (by omega), wi64 (n := (wd : Int) - 1) (by omega)]
  refine LoopP.of (fun (x : Int) w' => ∃ (i : Nat) (S' : List Nat), i ≤ wd ∧ x = (wd : Int) - 1 - i ∧ Rw w' g S' (L ++ (field n wd).take i) ∧ Mod S w w' ∧ ∀ h ∈ S', h ∈ S ∨ w.heap.size ≤ h) (fun x _ => (x + 1).toNat)
    ⟨0, S, by omega, by omega, by simpa using h, Mod.refl _, fun x hx => .inl hx⟩ ?_
  rintro _ w1 ⟨i, S1, hi, rfl, hw1, hm1, hs1⟩
  unfold F22_b1
  by_cases hlt : i < wd
  · rw [if_pos (by omega)]
    obtain ⟨a, c, rfl, hb, ho⟩ := hw1
    have hK : (L ++ (field n wd).take i).length = L.length + i := by simp [field_len]; omega
    have hK2 : (L ++ (field n wd).take (i + 1)).length = L.length + i + 1 := by simp [field_len]; omega
    have hsz := hm1.size
    have e1 : IntKind.u64.wrap ((wd : Int) - 1 - i) = ((wd - 1 - i : Nat) : Int) := by rw [wu64]; omega
    have e2 : IntKind.i64.wrap ((wd : Int) - 1 - i - 1) = (wd : Int) - 1 - ((i + 1 : Nat) : Int) := by rw [wi64 (by omega)]; omega
    refine ⟨_, rfl, _, _, _, hb.cell0, ?_⟩
    rw [e1, e2, refbit_val (by omega)]
    refine ⟨by omega, ?_⟩
    unfold New
    have hm2 := Mod.push (S := []) w1 5 [bv (b1 (n.testBit (wd - 1 - i)))]
    obtain ⟨a2, c2, w2, hrun, ho2, hmod2, hfp2⟩ := append_own (d := 1) Try.underlying22 elem5 22 (ho.mod hm2 (by simp)) (Rd.blk (Blk.new w1 5 [bv (b1 (n.testBit (wd - 1 - i)))])) (m := 1) rfl (by simp [bv, one]) (by omega) (by omega)
    refine ⟨_, _, _, _, hrun, ?_⟩
    have hm12 : Mod (fp a) w1 w2 := (hm2.weaken (by simp)).trans hmod2 (fun x hx => .inl hx)
    have hne := ho.ne hb (by decide)
    have hb2 := hb.mod hm12 hne
    have hne2 := ho2.ne hb2 (by decide)
    refine ⟨hb2.can0 (by simp), ?_⟩
    have hm3 : Mod [g] w2 (w2.setCell (base g) (.slice a2 ((L ++ (field n wd).take i).length + 1) c2)) := Mod.setCell _ _ _ (by simp [base])
    have hb3 := hb2.set0 (.slice a2 ((L ++ (field n wd).take i).length + 1) c2)
    have ho3 := ho2.mod hm3 (fun x hx hx' => by simp at hx'; subst hx'; exact hne2 hx)
    have hf2 : ∀ x ∈ fp a2, x ∈ S ∨ w.heap.size ≤ x := by
      intro x hx
      rcases hfp2 with h | h
      · exact hs1 x (by rw [h] at hx; simp [hx])
      · rw [h] at hx; simp [size_push] at hx; right; omega
    have hg : g ∈ S ∨ w.heap.size ≤ g := hs1 g (by simp)
    refine ⟨_, by omega, ⟨i + 1, g :: fp a2, by omega, rfl, ⟨a2, c2, rfl, ?_, ?_⟩, ?_, ?_⟩, rfl⟩
    · rw [hK2, ← hK]; exact hb3
    · rw [hK2, ← hK, field_take n wd hlt, ← List.append_assoc, List.map_append, List.map_append]; exact ho3
    · exact (hm1.trans hm12 (fun x hx => hs1 x (by simp [hx]))).trans hm3 (fun x hx => by simp at hx; subst hx; exact hg)
    · intro x hx
      rcases List.mem_cons.1 hx with rfl | hx
      · exact hg
      · exact hf2 x hx
  · have : i = wd := by omega
    subst this
    rw [if_neg (by omega)]
    rw [List.take_of_length_le (by rw [field_len]; exact Nat.le_refl _)] at hw1
    exact ⟨rfl, S1, hw1, hm1, hs1⟩
theorem refPut_bad (g : Option Addr) (w : World) (n wd : Int) (hwd : wd < 0 ∨ 64 < wd) :
    Does Try.prog 22 #[.pointer g, .int .u64 n, .int .i64 wd] w fun v w' => v = .tuple #[] ∧ w = w' := by
  apply w22
  unfold F22
  by_cases h0 : wd < 0
  · rw [if_pos h0]; exact ⟨rfl, rfl⟩
  · rw [if_neg h0, if_pos (by omega)]; exact ⟨rfl, rfl⟩
theorem addBit_false (l : List UInt8) (n : Nat) : addBit l n false = room l n := by
  unfold addBit
  rw [setB_false]
  apply List.ext_getElem
  · simp
  · intro i h1 h2
    rw [List.getElem_set]
    split
    · rename_i h
      subst h
      simp [List.getD, List.getElem?_eq_getElem h2]
    · rfl
theorem add_val (x : UInt8) {r : Nat} (hr : r < 8) (hz : x.toBitVec.getMsbD r = false) : Value.int .u8 (IntKind.u8.wrap ((x.toNat : Int) + shr .u8 128 (r : Int))) = bv (setB x r true) := by
  have h1 := setB_add x hr hz
  have h2 := u8lt (setB x r true)
  have h3 : shr .u8 128 (r : Int) = ((2 ^ (7 - r) : Nat) : Int) := by
    have hd : ∀ a : Fin 8, shr .u8 128 ((a.1 : Nat) : Int) = ((2 ^ (7 - a.1) : Nat) : Int) := by decide
    exact hd ⟨r, hr⟩
  rw [h3, bv, h1]
  rw [h1] at h2
  generalize 2 ^ (7 - r) = q at *
  rw [wu8]
  congr 1
  omega

theorem refBytes_ok {w : World} {g : Nat} {S : List Nat} {L : List Bool} (h : Rw w g S L) (hL : L.length ≤ 1000000) :
    Does Try.prog 24 #[.pointer (some (base g))] w fun v w' => ∃ a c, v = .slice a (pack L).length c ∧ Own w' 5 1 a (pack L).length c ((pack L).map bv) ∧ Mod [] w w' ∧ ∀ x ∈ fp a, w.heap.size ≤ x := by
  obtain ⟨b, d, rfl, hb, hob⟩ := h
  apply w24
  unfold F24
  refine LoopP.of (fun (s : Option Addr × Nat × Nat × Int) w' => ∃ (a : Option Addr) (c i : Nat), i ≤ L.length ∧ s = (a, (pack (L.take i)).length, c, (i : Int)) ∧ Own w' 5 1 a (pack (L.take i)).length c ((pack (L.take i)).map bv) ∧ Mod [] w w' ∧ ∀ x ∈ fp a, w.heap.size ≤ x) (fun s _ => L.length - s.2.2.2.toNat)
    ⟨none, 0, 0, Nat.zero_le _, rfl, Own.nil, Mod.refl _, by simp [fp]⟩ ?_
  rintro _ w1 ⟨a, c, i, hi, rfl, ho, hm, hf⟩
  unfold F24_b1
  dsimp only
  have hb1 := hb.mod hm (by simp)
  refine ⟨_, rfl, _, _, _, hb1.cell0, ?_⟩
  by_cases hlt : i < L.length
  · rw [if_pos (by omega)]
    have hlen : (L.take i).length = i := by simp; omega
    have hpl := pack_len (L.take i)
    rw [hlen] at hpl
    have hsn : pack (L.take (i + 1)) = addBit (pack (L.take i)) i (L.getD i false) := by
      rw [List.take_succ_eq_append_getElem hlt, pack_snoc, hlen]
      simp [List.getD, List.getElem?_eq_getElem hlt]
    have hmod8 : Int.tmod (i : Int) 8 = ((i % 8 : Nat) : Int) := by rw [Int.tmod_eq_emod_of_nonneg (by omega)]; rfl
    have hsz := hm.size
    have step : ∀ (a2 : Option Addr) (c2 : Nat) (w2 : World), Own w2 5 1 a2 (room (pack (L.take i)) i).length c2 ((room (pack (L.take i)) i).map bv) → Mod [] w w2 → (∀ x ∈ fp a2, w.heap.size ≤ x) →
        F24_j2 (base g) (i : Int) a2 (room (pack (L.take i)) i).length c2 w2 (fun x0 x1 x2 x3 w' => ∃ m, m < L.length - (i : Int).toNat ∧ ((∃ (a : Option Addr) (c i : Nat), i ≤ L.length ∧ (x0, x1, x2, x3) = (a, (pack (L.take i)).length, c, (i : Int)) ∧ Own w' 5 1 a (pack (L.take i)).length c ((pack (L.take i)).map bv) ∧ Mod [] w w' ∧ ∀ x ∈ fp a, w.heap.size ≤ x) ∧ L.length - x3.toNat = m)) := by
      intro a2 c2 w2 ho2 hm2 hf2
      have hr := room_len (pack (L.take i)) i hpl
      have hb2 := hb.mod hm2 (by simp)
      obtain ⟨q, rfl, hc⟩ := rd_at (hob.mod hm2 (by simp)).rd (show i < (L.map b1).length by simpa using hlt)
      have e5 : IntKind.i64.wrap ((i : Int) + 1) = ((i + 1 : Nat) : Int) := by rw [wi64 (by omega)]; omega
      have hget : (L.map b1).getD i 0 = b1 (L.getD i false) := by simp [List.getD, List.getElem?_eq_getElem hlt]
      have hl1 : (addBit (pack (L.take i)) i (L.getD i false)).length = (room (pack (L.take i)) i).length := by simp [addBit]
      unfold F24_j2
      refine ⟨_, _, _, hb2.cell0, q, rfl, ?_⟩
      rw [Int.toNat_natCast]
      refine ⟨by omega, by omega, _, hc, ?_⟩
      rw [hget, e5]
      cases hbit : L.getD i false with
      | true =>
        rw [if_pos (by rfl)]
        have hin : i / 8 < (room (pack (L.take i)) i).length := by omega
        have e6 : IntKind.i64.wrap (((room (pack (L.take i)) i).length : Int) - 1) = ((i / 8 : Nat) : Int) := by rw [wi64 (by omega)]; omega
        have e7 : IntKind.u64.wrap (Int.tmod (i : Int) 8) = ((i % 8 : Nat) : Int) := by rw [hmod8, wu64]; omega
        obtain ⟨q2, rfl, hc2⟩ := rd_at ho2.rd hin
        refine ⟨_, rfl, ?_⟩
        rw [e6, e7, Int.toNat_natCast]
        have hz : ((room (pack (L.take i)) i).getD (i / 8) 0).toBitVec.getMsbD (i % 8) = false := by
          have := pack_bit (L.take i) i
          rw [← room_bit (pack (L.take i)) i i, List.getD, List.getElem?_eq_none (by omega)] at this
          exact this
        obtain ⟨q3, hq3, hwr, ho3, hm3⟩ := ho2.setAt (i := i / 8) (by simpa using hin) (bv (setB ((room (pack (L.take i)) i).getD (i / 8) 0) (i % 8) true))
        cases hq3
        refine ⟨by omega, by omega, _, hc2, by omega, by omega, by omega, ?_⟩
        rw [add_val _ (by omega) hz]
        refine ⟨hwr, _, by omega, ⟨some q2, c2, i + 1, by omega, ?_, ?_, hm2.trans hm3 (fun x hx => .inr (hf2 x hx)), hf2⟩, rfl⟩
        · rw [hsn, hl1]
        · rw [hsn, hl1, hbit, addBit, List.map_set]; exact ho3
      | false =>
        rw [if_neg (by decide)]
        refine ⟨_, by omega, ⟨a2, c2, i + 1, by omega, ?_, ?_, hm2, hf2⟩, rfl⟩
        · rw [hsn, hl1]
        · rw [hsn, hl1, hbit, addBit_false]; exact ho2
    rw [hmod8]
    by_cases h8 : i % 8 = 0
    · rw [if_pos (by omega)]
      have hroom : room (pack (L.take i)) i = pack (L.take i) ++ [0] := by unfold room; rw [if_pos h8]
      unfold New
      have hm2 := Mod.push (S := []) w1 5 [bv 0]
      obtain ⟨a2, c2, w2, hrun, ho2, hmod2, hfp2⟩ := append_own (d := 1) Try.underlying22 elem5 22 (ho.mod hm2 (by simp)) (Rd.blk (Blk.new w1 5 [bv 0])) (m := 1) rfl (by simp [bv, one]) (by omega) (by omega)
      refine ⟨_, _, _, _, hrun, ?_⟩
      have := step a2 c2 w2 (by rw [hroom]; simpa using ho2) ((hm.none hm2).trans hmod2 (fun x hx => .inr (hf x hx))) (by
        intro x hx
        rcases hfp2 with h | h
        · exact hf x (by rw [h] at hx; exact hx)
        · rw [h] at hx; simp [size_push] at hx; omega)
      rw [hroom, List.length_append] at this
      exact this
    · rw [if_neg (by omega)]
      have hroom : room (pack (L.take i)) i = pack (L.take i) := by unfold room; rw [if_neg h8]
      have := step a c w1 (by rw [hroom]; exact ho) hm hf
      rw [hroom] at this
      exact this
  · have : i = L.length := by omega
    subst this
    rw [if_neg (by omega)]
    rw [List.take_length] at *
    exact ⟨_, _, rfl, ho, hm, hf⟩
end Go.Proofs.Ytpioadkiomcdlaa
