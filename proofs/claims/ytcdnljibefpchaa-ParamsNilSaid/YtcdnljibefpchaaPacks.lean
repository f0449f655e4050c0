/-
  The contracts of chapter 33: Pack, of the program and of the reference.
-/
import Derived.Test.YtcdnljibefpchaaRefP
namespace Go.Proofs.Ytcdnljibefpchaa
open Go Go.Sh Go.Proofs
set_option linter.unusedVariables false
set_option linter.unusedSimpArgs false
set_option linter.unusedSectionVars false

def wd (d : Pd) : Nat := d.2.1.toNat
/-- The number that stands in a parameter's field. -/
def enc (d : Pd) : Nat := ((d.2.2.2 + 2 ^ wd d) % 2 ^ wd d).toNat
def bitsOf (ds : List Pd) : List Bool := ds.flatMap fun d => field (enc d) (wd d)
theorem field_low {n m w : Nat} (h : n % 2 ^ w = m % 2 ^ w) : field n w = field m w := by
  unfold field
  refine List.map_congr_left (fun i hi => ?_)
  have hi := List.mem_range.1 hi
  have h1 : (n % 2 ^ w).testBit (w - 1 - i) = n.testBit (w - 1 - i) := by rw [Nat.testBit_mod_two_pow]; simp; omega
  have h2 : (m % 2 ^ w).testBit (w - 1 - i) = m.testBit (w - 1 - i) := by rw [Nat.testBit_mod_two_pow]; simp; omega
  rw [← h1, ← h2, h]
theorem pow_cast (n : Nat) : ((2 : Int) ^ n) = ((2 ^ n : Nat) : Int) := by norm_cast
/-- The program's number has the same low bits. -/
theorem enc_u64 (d : Pd) (h : wOk d) : ∃ n : Nat, IntKind.u64.wrap d.2.2.2 = (n : Int) ∧ n < 2 ^ 64 ∧ field n (wd d) = field (enc d) (wd d) := by
  have hw : wd d ≤ 32 := by have := h.2; unfold wd; omega
  have hp : (0 : Int) < 2 ^ wd d := by have := (pow_lt (n := wd d) (by omega)).2; omega
  refine ⟨(d.2.2.2 % 18446744073709551616).toNat, by rw [wu64]; omega, by omega, field_low ?_⟩
  have hd : ((2 : Int) ^ wd d) ∣ 18446744073709551616 := by
    have : (18446744073709551616 : Int) = 2 ^ wd d * 2 ^ (64 - wd d) := by rw [← Int.pow_add, show wd d + (64 - wd d) = 64 by omega]; rfl
    exact ⟨_, this⟩
  have e1 : (((d.2.2.2 % 18446744073709551616).toNat % 2 ^ wd d : Nat) : Int) = d.2.2.2 % 2 ^ wd d := by
    rw [Int.natCast_emod, ← pow_cast, Int.toNat_of_nonneg (by omega), Int.emod_emod_of_dvd _ hd]
  have e2 : ((enc d % 2 ^ wd d : Nat) : Int) = d.2.2.2 % 2 ^ wd d := by
    unfold enc
    rw [Int.natCast_emod, ← pow_cast, Int.toNat_of_nonneg (Int.emod_nonneg _ (by omega)), Int.emod_emod_of_dvd _ (Int.dvd_refl _), Int.add_emod_right]
  omega
theorem enc_lt (d : Pd) (h : wOk d) : enc d < 2 ^ wd d := by
  have hw : wd d ≤ 32 := by have := h.2; unfold wd; omega
  have hp : (0 : Int) < 2 ^ wd d := by have := (pow_lt (n := wd d) (by omega)).2; omega
  have h1 := Int.emod_lt_of_pos (d.2.2.2 + 2 ^ wd d) hp
  have h2 := Int.emod_nonneg (d.2.2.2 + 2 ^ wd d) (show (2 : Int) ^ wd d ≠ 0 by omega)
  have h3 := pow_cast (wd d)
  unfold enc
  omega
theorem bits_take (ds : List Pd) {i : Nat} (h : i < ds.length) : bitsOf (ds.take (i + 1)) = bitsOf (ds.take i) ++ field (enc ds[i]) (wd ds[i]) := by
  unfold bitsOf
  rw [List.take_succ_eq_append_getElem h, List.flatMap_append]
  simp
theorem bits_len (ds : List Pd) (h : ∀ d ∈ ds, wOk d) : (bitsOf ds).length ≤ 32 * ds.length := by
  induction ds with
  | nil => simp [bitsOf]
  | cons d ds ih =>
    have := ih (fun e he => h e (by simp [he]))
    have h1 : wd d ≤ 32 := by have := (h d (by simp)).2; unfold wd; omega
    unfold bitsOf at this ⊢
    rw [List.flatMap_cons, List.length_append, field_len]
    simp only [List.length_cons]
    omega
/-- What Pack returns. -/
def packR (L : List Pd) (X : List Int) : List UInt8 × Int := if chooseE L X ≠ 0 then ([], chooseE L X) else (pack (bitsOf (X.map (pick L))), 0)
def GivesB (w : World) (R : List UInt8 × Int) (v : Value) (w' : World) : Prop := ∃ a c, v = .tuple #[.slice a R.1.length c, .int .i64 R.2] ∧ Rd w' a (R.1.map bv) ∧ Mod [] w w' ∧ Since w (fp a)
theorem picks_ok {L : List Pd} {X : List Int} (hg : Good L) (h0 : chooseE L X = 0) : ∀ d ∈ X.map (pick L), wOk d ∧ inR d d.2.2.2 = true := by
  intro d hd
  obtain ⟨x, hx, rfl⟩ := List.mem_map.1 hd
  obtain ⟨i, hi, rfl⟩ := List.getElem_of_mem hx
  have := pick_good hg (chooseE_all h0 hi)
  exact ⟨this.1, this.2.1⟩

theorem pack_ok {w : World} {g : Nat} {S : List Nat} {L : List Pd} (h : Po w g S L) (hg : Good L) {ax : Option Addr} {X : List Int} (cx : Nat) (hx : Rd w ax (X.map iv)) : Does Try.prog 14 #[.pointer (some (base g)), .slice ax X.length cx] w (GivesB w (packR L X)) := by
  apply w14
  unfold F14
  refine (choose_ok h hg cx hx).mono ?_
  rintro _ w1 ⟨m1, ⟨he, rfl⟩ | ⟨he, a, c, rfl, hr, hs⟩⟩
  · refine ⟨_, _, _, _, rfl, ?_⟩
    rw [if_pos he]
    have e : packR L X = ([], chooseE L X) := by unfold packR; rw [if_pos he]
    rw [e]
    exact ⟨none, 0, rfl, Rd.nil, m1, by intro y hy; simp [fp] at hy⟩
  · have hX := chooseE_len he
    have hw := picks_ok hg he
    have e : packR L X = (pack (bitsOf (X.map (pick L))), 0) := by unfold packR; rw [if_neg (by simp [he])]
    rw [e]
    refine ⟨_, _, _, _, rfl, ?_⟩
    rw [if_neg (by simp)]
    refine (Wn.new w1).mono ?_
    rintro _ w2 ⟨rfl, W⟩
    refine ⟨_, rfl, ?_⟩
    have hl : X.length = (X.map (pick L)).length := by simp
    generalize hds : X.map (pick L) = ds at *
    refine LoopP.of (fun (x : Int) w' => ∃ i : Nat, i ≤ ds.length ∧ x = (i : Int) ∧ Wn w1 w' w1.heap.size (bitsOf (ds.take i))) (fun x _ => ds.length - x.toNat) ⟨0, by omega, rfl, by simpa [bitsOf] using W⟩ ?_
    rintro _ w3 ⟨i, hi, rfl, W3⟩
    unfold F14_b1
    refine iteI (fun hlt => ?_) (fun hlt => ?_)
    · have hlt : i < ds.length := by omega
      obtain ⟨p, rfl, hc⟩ := (hr.mod W3.m (by simp)).flat (pv_len _) (by decide) hlt
      refine ⟨p, rfl, by omega, by omega, _, _, _, _, ⟨by simpa [add_zero] using hc 0 _ rfl, hc 1 _ rfl, hc 2 _ rfl, hc 3 _ rfl, trivial⟩, ?_⟩
      refine New.put rfl fun w4 h4 m4 z4 => ?_
      refine ⟨_, h4.cell (i := 3) rfl, _, h4.cell (i := 1) rfl, ?_⟩
      have hwd := (hw ds[i] (List.getElem_mem hlt)).1
      obtain ⟨n, hn, hn64, hf⟩ := enc_u64 ds[i] hwd
      have hb := bits_len (ds.take i) (fun d hd => (hw d (List.mem_of_mem_take hd)).1)
      rw [List.length_take] at hb
      have ew : ds[i].2.1 = ((wd ds[i] : Nat) : Int) := by have := hwd.1; unfold wd; omega
      rw [ew]
      refine ((W3.mod m4).putAt n (wd ds[i]) hn hn64 (by have := hwd.2; unfold wd; omega) (by omega)).mono ?_
      rintro _ w5 ⟨rfl, W5⟩
      rw [hf, ← bits_take ds hlt] at W5
      refine ⟨_, rfl, ?_⟩
      rw [wi64 (by omega)]
      exact ⟨_, by omega, ⟨i + 1, by omega, rfl, W5⟩, rfl⟩
    · have hiX : i = ds.length := by omega
      subst hiX
      rw [List.take_length] at W3
      have hb := bits_len ds (fun d hd => (hw d hd).1)
      refine (W3.bytes (by omega)).mono ?_
      rintro _ w4 ⟨o, co, rfl, ho, m4, s4⟩
      exact ⟨_, _, _, rfl, o, co, rfl, ho.rd, m1.none m4, fun y hy => by have := s4 y hy; have := m1.size; omega⟩

/-! ### The reference's Pack -/
theorem addBit_no (l : List UInt8) (n : Nat) : addBit l n false = room l n := by
  unfold addBit
  rw [setB_false]
  apply List.ext_getElem
  · simp
  · intro i h1 h2
    rw [List.getElem_set]
    split
    · rename_i e; subst e; rw [List.getD_eq_getElem?_getD, List.getElem?_eq_getElem h2]; rfl
    · rfl
theorem add_bit (x : UInt8) {r : Nat} (hr : r < 8) (hz : x.toBitVec.getMsbD r = false) : Value.int .u8 (IntKind.u8.wrap ((x.toNat : Int) + IntKind.u8.wrap (2 ^ (7 - r)))) = bv (setB x r true) := by
  have h1 := setB_add x hr hz
  have h2 := u8lt (setB x r true)
  have h3 := pow_cast (7 - r)
  have h4 : 2 ^ (7 - r) < 256 := by have := Nat.pow_le_pow_right (n := 2) (by decide) (show 7 - r ≤ 7 by omega); omega
  rw [h3, bv, h1]
  rw [h1] at h2
  generalize 2 ^ (7 - r) = q at *
  rw [wu8, wu8]
  congr 1
  omega
theorem app5 {w : World} {a : Option Addr} {n c : Nat} {l : List UInt8} (ho : Own w 5 1 a l.length c (l.map bv)) {q : Nat} (hq : Blk w q 5 [.int .u8 0]) (hl : l.length ≤ 100000) :
    ∃ a' c' w', (Builtin.append_ #[24, 24] 24 #[.slice a l.length c, .slice (some (base q)) 1 1]).run Try.prog w = .ok (.slice a' (l ++ [0]).length c') w' ∧ Own w' 5 1 a' (l ++ [0]).length c' ((l ++ [0]).map bv) ∧ Mod (fp a) w w' ∧ (fp a' = fp a ∨ fp a' = [w.heap.size]) := by
  obtain ⟨a', c', w', run, o2, m2, f2⟩ := append_own (d := 1) Try.underlying24 elem5 24 ho (Rd.blk hq) (m := 1) rfl (by simp [one]) (by omega) (by omega)
  exact ⟨a', c', w', by rw [List.length_append]; exact run, by rw [List.length_append, List.map_append]; exact o2, m2, f2⟩
/-- Bytes under way: new since w0. -/
def Bl (w0 : World) (L : List Bool) (a : Option Addr) (n c : Nat) (w : World) : Prop := n = (pack L).length ∧ Own w 5 1 a n c ((pack L).map bv) ∧ Since w0 (fp a) ∧ Mod [] w0 w

theorem rpack_bit {w0 w : World} {B : List Bool} {out : Option Addr} {on oc v k : Nat} {x40 p : Int} (hB : B.length ≤ 100000) (hk : k ≤ 62) (hv : v < 2 ^ 62) (hx : Int.tmod (IntKind.i64.wrap (x40 + p)) p = (v : Int)) (h : Bl w0 B out on oc w) {nx : Option Addr → Nat → Nat → Int → Int → World → Prop} {nx2 : Option Addr → Nat → Nat → Int → Int → World → Prop} {i : Int}
    (hn : ∀ o n c w', Bl w0 (B ++ [v.testBit k]) o n c w' → nx o n c ((B.length + 1 : Nat) : Int) ((k : Int) - 1) w') : F21_b3 x40 p p i out on oc (B.length : Int) (k : Int) w nx nx2 := by
  obtain ⟨rfl, ho, hs, m0⟩ := h
  unfold F21_b3
  rw [if_pos (by omega)]
  have hpl := pack_len B
  have j4 : ∀ (o : Option Addr) (c : Nat) (w1 : World), Own w1 5 1 o (room (pack B) B.length).length c ((room (pack B) B.length).map bv) → Since w0 (fp o) → Mod [] w0 w1 → F21_j4 (k : Int) x40 p p (B.length : Int) o (room (pack B) B.length).length c w1 nx := by
    intro o c w1 o1 s1 m1
    unfold F21_j4
    refine (power_ok k hk w1).mono ?_
    rintro _ _ ⟨rfl, rfl⟩
    have hp := pow_lt hk
    refine ⟨_, rfl, by omega, ?_⟩
    rw [hx]
    have e1 : Int.tdiv (v : Int) (2 ^ k) = ((v / 2 ^ k : Nat) : Int) := by rw [pow_cast, ← Int.ofNat_tdiv]
    have hd : v / 2 ^ k ≤ v := Nat.div_le_self _ _
    have hv63 : v < 2 ^ 62 := hv
    have htb : v.testBit k = decide (v / 2 ^ k % 2 = 1) := Nat.testBit_eq_decide_div_mod_eq
    rw [e1]
    generalize v / 2 ^ k = u at hd htb ⊢
    rw [wi64 (by omega)]
    have e2 : Int.tmod ((u : Nat) : Int) 2 = ((u % 2 : Nat) : Int) := by rw [show (2 : Int) = ((2 : Nat) : Int) from rfl, ← Int.ofNat_tmod]
    rw [e2]
    have en : IntKind.i64.wrap ((B.length : Int) + 1) = ((B.length + 1 : Nat) : Int) := by rw [wi64 (by omega)]; omega
    rw [en, wi64 (n := (k : Int) - 1) (by omega)]
    have hrl := room_len (pack B) B.length hpl
    refine iteI (fun hb => ?_) (fun hb => ?_)
    · have hbt : v.testBit k = true := by rw [htb]; exact decide_eq_true (by omega)
      have hq8 : IntKind.i64.wrap (Int.tdiv (B.length : Int) 8) = ((B.length / 8 : Nat) : Int) := by rw [show (8 : Int) = ((8 : Nat) : Int) from rfl, ← Int.ofNat_tdiv, wi64 (by omega)]
      have hr8 : IntKind.i64.wrap (7 - Int.tmod (B.length : Int) 8) = ((7 - B.length % 8 : Nat) : Int) := by rw [show (8 : Int) = ((8 : Nat) : Int) from rfl, ← Int.ofNat_tmod, wi64 (by omega)]; omega
      rw [hq8, hr8]
      have hlt : B.length / 8 < (room (pack B) B.length).length := by omega
      obtain ⟨q, hq, hc⟩ := rd_at o1.rd hlt
      subst hq
      refine ⟨q, rfl, by omega, by omega, _, hc, ?_⟩
      refine (power_ok _ (by omega) w1.drew).mono ?_
      rintro _ _ ⟨rfl, rfl⟩
      refine ⟨_, rfl, hc, by omega, by omega, ?_⟩
      obtain ⟨q', hq', hw, o2, m2⟩ := o1.drew.setAt (i := B.length / 8) (by simp; omega) (bv (setB ((room (pack B) B.length).getD (B.length / 8) 0) (B.length % 8) true))
      cases hq'
      have hz : ((room (pack B) B.length).getD (B.length / 8) 0).toBitVec.getMsbD (B.length % 8) = false := by
        have h1 := room_bit (pack B) B.length B.length
        rw [pack_bit] at h1
        unfold bit at h1
        rw [h1]
        simp
      rw [add_bit _ (by omega) hz]
      refine ⟨hw, hn _ _ _ _ ⟨?_, ?_, s1, (m1.none (Mod.drew w1)).since m2 s1⟩⟩
      · rw [hbt, pack_snoc]; unfold addBit; rw [List.length_set]
      · rw [hbt, pack_snoc]; unfold addBit; rw [List.map_set]; exact o2
    · have hbt : v.testBit k = false := by rw [htb]; exact decide_eq_false (by omega)
      refine hn _ _ _ _ ⟨?_, ?_, s1, m1⟩
      · rw [hbt, pack_snoc, addBit_no]
      · rw [hbt, pack_snoc, addBit_no]; exact o1
  have e8 : Int.tmod (B.length : Int) 8 = ((B.length % 8 : Nat) : Int) := by rw [show (8 : Int) = ((8 : Nat) : Int) from rfl, ← Int.ofNat_tmod]
  rw [e8]
  refine iteI (fun h8 => ?_) (fun h8 => ?_)
  · have er : room (pack B) B.length = pack B ++ [0] := by unfold room; rw [if_pos (by omega)]
    refine New.use fun w1 h1 m1 z1 => ?_
    obtain ⟨a', c', w2, run, o2, m2, f2⟩ := app5 (n := 0) (ho.mod m1 (by simp)) h1 (by omega)
    rw [← er] at o2 run
    refine ⟨a', _, c', w2, run, j4 a' c' w2 o2 (fun y hy => ?_) ((m0.none m1).since m2 hs)⟩
    rcases f2 with f | f <;> rw [f] at hy
    · exact hs y hy
    · have := m0.size; simp at hy; omega
  · have er : room (pack B) B.length = pack B := by unfold room; rw [if_neg (by omega)]
    have := j4 out oc w (by rw [er]; exact ho) hs m0
    rw [er] at this
    exact this

theorem rpack_ok {w : World} {a ax : Option Addr} {L : List Pd} {X : List Int} (c cx : Nat) (hr : Rd w a (L.flatMap pv)) (hg : Good L) (hx : Rd w ax (X.map iv)) : Does Try.prog 21 #[.agg #[.slice a L.length c], .slice ax X.length cx] w (GivesB w (packR L X)) := by
  have hgl := hg.len
  apply w21
  unfold F21
  refine New.use fun w0 h0 m0 z0 => ?_
  refine ⟨_, _, _, h0.cell0, ?_⟩
  refine (known_ok c cx (hr.mod m0 (by simp)) (hx.mod m0 (by simp)) (by omega)).mono ?_
  rintro _ _ ⟨rfl, rfl⟩
  refine ⟨_, rfl, iteI (fun he => ?_) (fun he => ?_)⟩
  · have e : packR L X = ([], chooseE L X) := by unfold packR; rw [if_pos he]
    rw [e]
    exact ⟨none, 0, rfl, Rd.nil, m0, by intro y hy; simp [fp] at hy⟩
  have he : chooseE L X = 0 := Classical.byContradiction he
  have hX := chooseE_len he
  have hw := picks_ok hg he
  have e : packR L X = (pack (bitsOf (X.map (pick L))), 0) := by unfold packR; rw [if_neg (by simp [he])]
  rw [e]
  refine LoopP.of (fun (x : Option Addr × Nat × Nat × Int × Int) w' => ∃ (i : Nat) (o : Option Addr) (n oc : Nat), i ≤ X.length ∧ x = (o, n, oc, ((bitsOf ((X.map (pick L)).take i)).length : Int), (i : Int)) ∧ Bl w0 (bitsOf ((X.map (pick L)).take i)) o n oc w') (fun x _ => X.length - x.2.2.2.2.toNat) ⟨0, none, 0, 0, by omega, rfl, rfl, Own.nil, by intro y hy; simp [fp] at hy, Mod.refl _⟩ ?_
  rintro _ w1 ⟨i, o, n, oc, hi, rfl, B⟩
  unfold F21_b1
  dsimp only
  refine iteI (fun hlt => ?_) (fun hlt => ?_)
  · have hlt : i < X.length := by omega
    have md : Mod [] w0 w1.drew := B.2.2.2.none (Mod.drew w1)
    have h1 := h0.mod md (by simp)
    obtain ⟨p, hp, hc⟩ := rd_get ((hx.mod m0 (by simp)).mod md (by simp)) hlt
    have hh := chooseE_all he hlt
    have hf := has_lt hh
    have hpick := pick_at hh
    have hlt' : i < (X.map (pick L)).length := by simpa using hlt
    have hdw := hw ((X.map (pick L))[i]) (List.getElem_mem hlt')
    have hbl := bits_len ((X.map (pick L)).take i) (fun d hd => (hw d (List.mem_of_mem_take hd)).1)
    rw [List.length_take, List.length_map] at hbl
    have htk := bits_take (X.map (pick L)) hlt'
    have hpx : (X.map (pick L))[i] = pick L X[i] := by simp
    rw [hpx] at hdw htk
    generalize hd : pick L X[i] = d at hdw htk hpick
    have hrd := (hr.mod m0 (by simp)).mod md (by simp)
    have j2 : ∀ (q : Nat) (w2 : World), Blk w2 q 43 (pv d) → Mod [] w1.drew w2 → ∀ nx : Option Addr → Nat → Nat → Int → Int → World → Prop, (∀ o n c w', Bl w0 (bitsOf ((X.map (pick L)).take (i + 1))) o n c w' → nx o n c ((bitsOf ((X.map (pick L)).take (i + 1))).length : Int) ((i + 1 : Nat) : Int) w') → F21_j2 (i : Int) o n oc ((bitsOf ((X.map (pick L)).take i)).length : Int) (some (base q)) w2 nx := by
      intro q w2 h2 m2 nx hnx
      unfold F21_j2
      have h3 : Blk w2.drew q 43 (pv d) := h2.drew
      have ew : d.2.1 = ((wd d : Nat) : Int) := by have := hdw.1.1; unfold wd; omega
      have hw32 : 1 ≤ wd d ∧ wd d ≤ 32 := by have := hdw.1; unfold wOk at this; unfold wd; omega
      refine ⟨_, rfl, _, h3.cell (i := 3) rfl, _, h3.cell (i := 1) rfl, _, h3.cell (i := 1) rfl, ?_⟩
      rw [ew]
      refine (power_ok _ (by omega) _).mono ?_
      rintro _ _ ⟨rfl, rfl⟩
      refine ⟨_, rfl, h3.cell (i := 3) rfl, by rw [← ew]; exact h3.cell (i := 1) rfl, ?_⟩
      refine (power_ok _ (by omega) _).mono ?_
      rintro _ _ ⟨rfl, rfl⟩
      have hp := pow_lt (n := wd d) (by omega)
      refine ⟨_, rfl, h3.cell (i := 3) rfl, by omega, _, h3.cell (i := 1) rfl, ?_⟩
      rw [ew, wi64 (n := ((wd d : Nat) : Int) - 1) (by omega)]
      have hin : -(2 ^ wd d : Int) ≤ d.2.2.2 ∧ d.2.2.2 < 2 ^ wd d := by
        have h := hdw.2
        unfold inR at h
        have hm : (2 : Int) ^ (d.2.1.toNat - 1) ≤ 2 ^ wd d := by
          rw [pow_cast, pow_cast]
          have : 2 ^ (d.2.1.toNat - 1) ≤ 2 ^ wd d := Nat.pow_le_pow_right (by decide) (by unfold wd; omega)
          omega
        split at h
        · have := of_decide_eq_true h; omega
        · have := of_decide_eq_true h; unfold wd; unfold wd at hp; omega
      have hp32 : (2 : Int) ^ wd d ≤ 4294967296 := by
        have : 2 ^ wd d ≤ 2 ^ 32 := Nat.pow_le_pow_right (by decide) hw32.2
        rw [pow_cast]; omega
      have hx : Int.tmod (IntKind.i64.wrap (d.2.2.2 + 2 ^ wd d)) (2 ^ wd d) = (enc d : Int) := by
        rw [wi64 (by omega), Int.tmod_eq_emod_of_nonneg (by omega)]
        unfold enc
        rw [Int.toNat_of_nonneg (Int.emod_nonneg _ (by omega))]
      have hv := enc_lt d hdw.1
      have hv62 : enc d < 2 ^ 62 := Nat.lt_of_lt_of_le hv (Nat.pow_le_pow_right (by decide) (by omega))
      have B2 : Bl w0 (bitsOf ((X.map (pick L)).take i)) o n oc w2.drew := by
        obtain ⟨b1, b2, b3, b4⟩ := B
        exact ⟨b1, ((b2.mod (Mod.drew (S := []) w1) (by simp)).mod m2 (by simp)).mod (Mod.drew (S := []) w2) (by simp), b3, (md.none m2).none (Mod.drew w2)⟩
      refine LoopP.of (fun (x : Option Addr × Nat × Nat × Int × Int) w' => ∃ (j : Nat) (o : Option Addr) (n oc : Nat), j ≤ wd d ∧ x = (o, n, oc, ((bitsOf ((X.map (pick L)).take i) ++ (field (enc d) (wd d)).take j).length : Int), (((wd d : Nat) : Int) - 1 - (j : Int))) ∧ Bl w0 (bitsOf ((X.map (pick L)).take i) ++ (field (enc d) (wd d)).take j) o n oc w') (fun x _ => (x.2.2.2.2 + 1).toNat) ⟨0, o, n, oc, by omega, by simp, by simpa using B2⟩ ?_
      rintro _ w3 ⟨j, o, n, oc, hj, rfl, B3⟩
      dsimp only
      have hfl : ((field (enc d) (wd d)).take j).length = j := by rw [List.length_take, field_len]; omega
      by_cases hjw : j < wd d
      · have ek : ((wd d : Nat) : Int) - 1 - (j : Int) = ((wd d - 1 - j : Nat) : Int) := by omega
        rw [ek]
        refine rpack_bit (by rw [List.length_append, hfl]; omega) (by omega) hv62 hx B3 (fun o n c w' B4 => ?_)
        rw [List.append_assoc, ← field_take _ _ hjw] at B4
        refine ⟨_, by omega, ⟨j + 1, o, n, c, by omega, ?_, B4⟩, rfl⟩
        have hfl' : ((field (enc d) (wd d)).take (j + 1)).length = j + 1 := by rw [List.length_take, field_len]; omega
        have a2 : ((wd d - 1 - j : Nat) : Int) - 1 = ((wd d : Nat) : Int) - 1 - ((j + 1 : Nat) : Int) := by omega
        rw [List.length_append, List.length_append, hfl, hfl', a2, Nat.add_assoc]
      · have hjw : j = wd d := by omega
        subst hjw
        have etk : (field (enc d) (wd d)).take (wd d) = field (enc d) (wd d) := List.take_of_length_le (by rw [field_len]; exact Nat.le_refl _)
        rw [etk, ← htk] at B3
        rw [etk, ← htk]
        unfold F21_b3
        rw [if_neg (by omega)]
        have e1 : IntKind.i64.wrap ((i : Int) + 1) = ((i + 1 : Nat) : Int) := by rw [wi64 (by omega)]; omega
        rw [e1]
        exact hnx _ _ _ _ B3
    refine ⟨_, _, _, h1.cell0, _, _, _, h1.cell0, p, hp, by omega, by omega, _, hc, ?_, ?_⟩
    · refine (rfind_ok c X[i] hrd (by omega)).mono ?_
      rintro _ _ ⟨rfl, rfl⟩
      obtain ⟨q, hq, hcc⟩ := hrd.flat (pv_len _) (by decide) hf
      unfold rf
      rw [if_pos hh]
      refine ⟨_, rfl, h1.cell0, q, hq, by omega, by omega, _, _, _, _, ⟨by simpa [add_zero] using hcc 0 _ rfl, hcc 1 _ rfl, hcc 2 _ rfl, hcc 3 _ rfl, trivial⟩, ?_⟩
      refine New.use fun w2 h2 m2 z2 => ?_
      obtain ⟨q', hq', hcc'⟩ := (hrd.mod m2 (by simp)).flat (pv_len _) (by decide) hf
      rw [hq] at hq'
      cases hq'
      obtain ⟨p', hp', hc'⟩ := rd_get (((hx.mod m0 (by simp)).mod md (by simp)).mod m2 (by simp)) hlt
      rw [hp] at hp'
      cases hp'
      have h12 := h1.mod m2 (by simp)
      refine ⟨h12.cell0, h12.cell0, hc', ⟨by simpa [add_zero] using hcc' 0 _ rfl, hcc' 1 _ rfl, hcc' 2 _ rfl, hcc' 3 _ rfl, trivial⟩, PutAll.use h2 rfl fun w3 h3 m3 => ?_⟩
      refine j2 _ w3 (by rw [hpick]; exact h3) (m2.trans m3 (fun y hy => .inr (by simp only [List.mem_singleton] at hy; omega))) _ (fun o n c w' B' => ?_)
      exact ⟨_, by omega, ⟨i + 1, o, n, c, by omega, rfl, B'⟩, rfl⟩
    · refine New.use fun w2 h2 m2 z2 => ?_
      obtain ⟨p', hp', hc'⟩ := rd_get (((hx.mod m0 (by simp)).mod md (by simp)).mod m2 (by simp)) hlt
      rw [hp] at hp'
      cases hp'
      have h12 := h1.mod m2 (by simp)
      refine ⟨h12.cell0, h12.cell0, hc', ?_⟩
      have hrd2 := hrd.mod m2 (by simp)
      refine (rfind_ok c X[i] hrd2 (by omega)).mono ?_
      rintro _ _ ⟨rfl, rfl⟩
      obtain ⟨q, hq, hcc⟩ := hrd2.flat (pv_len _) (by decide) hf
      unfold rf
      rw [if_pos hh]
      refine ⟨_, rfl, h12.cell0, q, hq, by omega, by omega, _, _, _, _, ⟨by simpa [add_zero] using hcc 0 _ rfl, hcc 1 _ rfl, hcc 2 _ rfl, hcc 3 _ rfl, trivial⟩, PutAll.use h2 rfl fun w3 h3 m3 => ?_⟩
      refine j2 _ w3 (by rw [hpick]; exact h3) (m2.trans m3 (fun y hy => .inr (by simp only [List.mem_singleton] at hy; omega))) _ (fun o n c w' B' => ?_)
      exact ⟨_, by omega, ⟨i + 1, o, n, c, by omega, rfl, B'⟩, rfl⟩
  · have hiX : i = X.length := by omega
    subst hiX
    obtain ⟨rfl, b2, b3, b4⟩ := B
    have et : (X.map (pick L)).take X.length = X.map (pick L) := List.take_of_length_le (by simp)
    rw [et] at b2 ⊢
    exact ⟨o, oc, rfl, b2.rd, m0.none b4, fun y hy => by have := b3 y hy; omega⟩
end Go.Proofs.Ytcdnljibefpchaa
