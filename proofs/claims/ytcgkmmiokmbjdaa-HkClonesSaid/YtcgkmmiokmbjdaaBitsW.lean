/-
  The contracts of chapter 2: the writer.
-/
import Derived.Test.YtcgkmmiokmbjdaaForms
import Derived.Test.YtcgkmmiokmbjdaaBits
import Derived.Test.YtcgkmmiokmbjdaaHeap
namespace Go.Proofs.Ytcgkmmiokmbjdaa
open Go Go.Sh Go.Proofs
set_option linter.unusedVariables false

theorem elem5 : Elem Try.prog 5 1 1 := Elem.of (v := .int .u8 0) (by kernel_rfl) rfl (by decide)
theorem rd_at {w : World} {a : Option Addr} {l : List UInt8} (h : Rd w a (l.map bv)) {i : Nat} (hi : i < l.length) : ∃ p, a = some p ∧ w.cell? (p.add i) = some (.int .u8 ((l.getD i 0).toNat : Int)) := by
  refine h.at_ ?_
  rw [List.getElem?_map, List.getElem?_eq_getElem hi]
  simp [bv, List.getD, List.getElem?_eq_getElem hi]
theorem u8lt (b : UInt8) : b.toNat < 256 := b.toNat_lt

/-- A writer in block g, that holds the bits L; S: its blocks. -/
def Wr (w : World) (g : Nat) (S : List Nat) (L : List Bool) : Prop :=
  ∃ a c, S = g :: fp a ∧ Blk w g 103 [.bool true, .slice a (pack L).length c, .int .i64 (L.length : Int)] ∧ Own w 5 1 a (pack L).length c ((pack L).map bv)
theorem Wr.mod {w w' : World} {g : Nat} {S T : List Nat} {L : List Bool} (h : Wr w g S L) (hm : Mod T w w') (hd : ∀ x ∈ S, x ∉ T) : Wr w' g S L := by
  obtain ⟨a, c, rfl, hb, ho⟩ := h
  exact ⟨a, c, rfl, hb.mod hm (hd g (by simp)), ho.mod hm (fun x hx => hd x (by simp [hx]))⟩
theorem Wr.lt {w : World} {g : Nat} {S : List Nat} {L : List Bool} (h : Wr w g S L) : ∀ x ∈ S, x < w.heap.size := by
  obtain ⟨a, c, rfl, hb, ho⟩ := h
  intro x hx
  rcases List.mem_cons.1 hx with rfl | hx
  · exact hb.lt
  · exact ho.lt x hx

theorem newWriter_ok (w : World) : Does Try.prog 42 #[] w fun v w' => v = .pointer (some (base w.heap.size)) ∧ Wr w' w.heap.size [w.heap.size] [] ∧ Mod [] w w' := by
  apply w42
  unfold F42 New
  exact ⟨rfl, ⟨none, 0, rfl, Blk.new _ _ _, Own.nil⟩, Mod.push _ _ _⟩
theorem okW_ok {w : World} {g : Nat} {S : List Nat} {L : List Bool} (h : Wr w g S L) : Does Try.prog 51 #[.pointer (some (base g))] w fun v w' => v = .bool true ∧ w = w' := by
  obtain ⟨a, c, rfl, hb, ho⟩ := h
  apply w51
  unfold F51
  rw [if_pos (by simp)]
  exact ⟨_, rfl, true, hb.cell0, rfl, rfl⟩
theorem okW_nil (w : World) : Does Try.prog 51 #[.pointer none] w fun v w' => v = .bool false ∧ w = w' := by
  apply w51
  unfold F51
  rw [if_neg (by simp)]
  exact ⟨rfl, rfl⟩
theorem okW_zero {w : World} {g : Nat} {vs : List Value} (hb : Blk w g 103 (.bool false :: vs)) : Does Try.prog 51 #[.pointer (some (base g))] w fun v w' => v = .bool false ∧ w = w' := by
  apply w51
  unfold F51
  rw [if_pos (by simp)]
  exact ⟨_, rfl, false, hb.cell0, rfl, rfl⟩
theorem bytes_ok {w : World} {g : Nat} {S : List Nat} {L : List Bool} (h : Wr w g S L) (hL : L.length ≤ 1000000) : Does Try.prog 44 #[.pointer (some (base g))] w fun v w' =>
    ∃ a c, v = .slice a (pack L).length c ∧ Own w' 5 1 a (pack L).length c ((pack L).map bv) ∧ Mod [] w w' ∧ ∀ x ∈ fp a, w.heap.size ≤ x := by
  apply w44
  unfold F44
  refine (okW_ok h).mono ?_
  rintro _ _ ⟨rfl, rfl⟩
  obtain ⟨a, c, rfl, hb, ho⟩ := h
  refine ⟨_, rfl, ?_⟩
  rw [if_neg (by simp)]
  unfold New
  have hpl := pack_len L
  have hm := Mod.push (S := []) w 5 []
  have ho0 : Own (push w 5 []) 5 1 (some (fresh w)) 0 0 [] := Own.blk (Blk.new w 5 []) rfl (by decide)
  obtain ⟨a', c', w', hrun, hown, hmod, hfp⟩ := append_own (d := c) Try.underlying38 elem5 38 ho0 (ho.rd.mod hm (by simp)) (m := (pack L).length) (by simp) (bv_one _) (by omega) (by omega)
  rw [Nat.zero_add] at hrun hown
  refine ⟨_, rfl, _, _, _, (hb.push _ _).cell (i := 1) rfl, _, _, _, _, hrun, _, _, rfl, hown, hm.trans hmod (by simp [fp, fresh]), ?_⟩
  rcases hfp with h | h <;> rw [h] <;> simp [fp_fresh, size_push]

/-! ### Put -/
theorem bit_val {n : Nat} (hn : n < 2 ^ 64) {k : Nat} (hk : k < 64) : IntKind.u8.wrap (band .u64 (shr .u64 (n : Int) (k : Int)) 1) = ((n.testBit k).toNat : Int) := by
  have hlt : n >>> k < 2 ^ 64 := by rw [Nat.shiftRight_eq_div_pow]; exact Nat.lt_of_le_of_lt (Nat.div_le_self _ _) hn
  rw [shrN .u64 n k (by show _ ≤ 64; omega), show (1 : Int) = ((1 : Nat) : Int) from rfl, bandU rfl (by exact hlt) (by decide), Nat.testBit, Nat.and_comm 1]
  rw [Nat.and_one_is_mod]
  have h6 : (n >>> k) % 2 = 0 ∨ (n >>> k) % 2 = 1 := by omega
  rcases h6 with h6 | h6 <;> rw [h6] <;> rfl
theorem or_val (x : UInt8) (b : Bool) {r : Nat} (hr : r < 8) : Value.int .u8 (bor .u8 (x.toNat : Int) (shl .u8 (b.toNat : Int) (7 - (r : Int)))) = bv (setB x r b) := by
  have hx := u8lt x
  have hb : b.toNat ≤ 1 := by cases b <;> simp
  rw [show (7 : Int) - (r : Int) = ((7 - r : Nat) : Int) by omega, shlU rfl _ _ (by show _ ≤ 8; omega), borU rfl (by exact hx) (Nat.mod_lt _ (by decide)), bv, setB]
  rw [show (UInt8.ofBitVec (x.toBitVec ||| ((if b = true then 1#8 else 0#8) <<< (7 - r)))).toNat = (x.toBitVec ||| ((if b = true then 1#8 else 0#8) <<< (7 - r))).toNat from rfl, BitVec.toNat_or, BitVec.toNat_shiftLeft]
  cases b <;> rfl

def Pt (L : List Bool) (n wd : Nat) (g : Nat) (S : List Nat) (w0 : World) (x : Int) (w : World) : Prop :=
  ∃ (i : Nat) (S' : List Nat), i ≤ wd ∧ x = (i : Int) ∧ Wr w g S' (L ++ (field n wd).take i) ∧ Mod S w0 w ∧ ∀ h ∈ S', h ∈ S ∨ w0.heap.size ≤ h

theorem put_bit {n wd i N g c : Nat} {l : List UInt8} {a : Option Addr} {w : World} {nx : Int → World → Prop} (hi : i < wd) (hwd : wd ≤ 64) (hn : n < 2 ^ 64) (hN : N ≤ 1000000) (hl : l.length = (N + 7) / 8)
    (hb : Blk w g 103 [.bool true, .slice a (room l N).length c, .int .i64 (N : Int)]) (ho : Own w 5 1 a (room l N).length c ((room l N).map bv))
    (hx : ∀ w', Blk w' g 103 [.bool true, .slice a (addBit l N (n.testBit (wd - 1 - i))).length c, .int .i64 ((N + 1 : Nat) : Int)] → Own w' 5 1 a (addBit l N (n.testBit (wd - 1 - i))).length c ((addBit l N (n.testBit (wd - 1 - i))).map bv) → Mod (g :: fp a) w w' → nx ((i + 1 : Nat) : Int) w') :
    F43_j3 (wd : Int) (i : Int) (some (base g)) (n : Int) w nx := by
  have hr := room_len l N hl
  have hlen : (addBit l N (n.testBit (wd - 1 - i))).length = (room l N).length := by simp [addBit]
  have hin : N / 8 < (room l N).length := by omega
  rw [hlen] at hx
  unfold F43_j3
  have e1 : IntKind.i64.wrap (IntKind.i64.wrap ((wd : Int) - 1) - (i : Int)) = ((wd - 1 - i : Nat) : Int) := by rw [wi64 (n := (wd : Int) - 1) (by omega), wi64 (by omega)]; omega
  have e2 : IntKind.i64.wrap (Int.tdiv (N : Int) 8) = ((N / 8 : Nat) : Int) := by rw [Int.tdiv_eq_ediv_of_nonneg (by omega), wi64 (by omega)]; omega
  have e3 : IntKind.i64.wrap (7 - Int.tmod (N : Int) 8) = 7 - ((N % 8 : Nat) : Int) := by rw [Int.tmod_eq_emod_of_nonneg (by omega), wi64 (by omega)]; omega
  have e4 : IntKind.i64.wrap ((N : Int) + 1) = ((N + 1 : Nat) : Int) := by rw [wi64 (by omega)]; omega
  have e5 : IntKind.i64.wrap ((i : Int) + 1) = ((i + 1 : Nat) : Int) := by rw [wi64 (by omega)]; omega
  rw [e1]
  obtain ⟨q, rfl, hc⟩ := rd_at ho.drew.rd hin
  refine ⟨by omega, _, rfl, _, _, _, hb.drew.cell (i := 1) rfl, _, hb.drew.cell (i := 2) rfl, q, rfl, ?_⟩
  rw [e2, Int.toNat_natCast]
  refine ⟨by omega, by omega, _, hc, _, hb.drew.cell (i := 2) rfl, ?_⟩
  rw [e3, bit_val hn (by omega), or_val _ _ (by omega)]
  obtain ⟨q', hq, hwr, ho2, hm2⟩ := ho.drew.setAt (i := N / 8) (by simpa using hin) (bv (setB ((room l N).getD (N / 8) 0) (N % 8) (n.testBit (wd - 1 - i))))
  cases hq
  have hne := ho.ne hb (by decide)
  refine ⟨by omega, by omega, by omega, hwr, ?_⟩
  have hb2 := hb.drew.mod hm2 hne
  refine ⟨_, hb2.cell (i := 2) rfl, hb2.can (i := 2) (by simp), ?_⟩
  rw [e4, e5]
  have hm3 : Mod [g] _ _ := Mod.setCell (w.drew.setCell (q.add (N / 8)) (bv (setB ((room l N).getD (N / 8) 0) (N % 8) (n.testBit (wd - 1 - i))))) ((base g).add 2) (.int .i64 ((N + 1 : Nat) : Int)) (by rw [add_block]; simp [base])
  refine hx _ (hb2.set 2 _) ?_ ?_
  · have := ho2.mod hm3 (fun x hx1 hx' => by simp at hx'; subst hx'; exact hne hx1)
    rw [addBit, List.map_set]
    exact this
  · exact ((Mod.drew w).trans hm2 (fun x hx => .inl (by simp [hx]))).trans hm3 (fun x hx => .inl (by simp at hx; simp [hx]))

theorem put_ok {w : World} {g : Nat} {S : List Nat} {L : List Bool} (h : Wr w g S L) {n wd : Nat} (hn : n < 2 ^ 64) (hwd : wd ≤ 64) (hL : L.length ≤ 900000) :
    Does Try.prog 43 #[.pointer (some (base g)), .int .u64 (n : Int), .int .i64 (wd : Int)] w fun v w' =>
      v = .pointer (some (base g)) ∧ ∃ S', Wr w' g S' (L ++ field n wd) ∧ Mod S w w' ∧ ∀ x ∈ S', x ∈ S ∨ w.heap.size ≤ x := by
  apply w43
  unfold F43
  refine (okW_ok h).mono ?_
  rintro _ _ ⟨rfl, rfl⟩
  refine ⟨_, rfl, ?_⟩
  rw [if_neg (by simp), if_neg (by omega), decide_eq_false (by omega)]
  unfold F43_j1
  rw [if_neg (by simp)]
  refine LoopP.of (Pt L n wd g S w) (fun x _ => wd - x.toNat) ⟨0, S, by omega, rfl, by simpa using h, Mod.refl _, fun x hx => .inl hx⟩ ?_
  rintro _ w1 ⟨i, S1, hi, rfl, hw1, hm1, hs1⟩
  unfold F43_b2
  by_cases hlt : i < wd
  · rw [if_pos (by omega)]
    obtain ⟨a, c, rfl, hb, ho⟩ := hw1
    have hK : (L ++ (field n wd).take i).length = L.length + i := by simp [field_len]; omega
    have hpl := pack_len (L ++ (field n wd).take i)
    have hsn : pack (L ++ (field n wd).take (i + 1)) = addBit (pack (L ++ (field n wd).take i)) (L.length + i) (n.testBit (wd - 1 - i)) := by
      rw [field_take n wd hlt, ← List.append_assoc, pack_snoc, hK]
    have hK2 : (L ++ (field n wd).take (i + 1)).length = L.length + i + 1 := by simp [field_len]; omega
    rw [hK] at hb hpl
    have hsz := hm1.size
    have hmod8 : Int.tmod ((L.length + i : Nat) : Int) 8 = (((L.length + i) % 8 : Nat) : Int) := by rw [Int.tmod_eq_emod_of_nonneg (by omega)]; rfl
    refine ⟨_, rfl, _, hb.cell (i := 2) rfl, ?_⟩
    rw [hmod8]
    by_cases h8 : (L.length + i) % 8 = 0
    · rw [if_pos (by omega)]
      refine ⟨_, _, _, hb.cell (i := 1) rfl, ?_⟩
      unfold New
      have hm2 := Mod.push (S := []) w1 5 [bv 0]
      obtain ⟨a2, c2, w2, hrun, ho2, hmod2, hfp2⟩ := append_own (d := 1) Try.underlying38 elem5 38 (ho.mod hm2 (by simp)) (Rd.blk (Blk.new w1 5 [bv 0])) (m := 1) rfl (by simp [bv, one]) (by omega) (by omega)
      refine ⟨_, _, _, _, hrun, ?_⟩
      have hm12 : Mod (fp a) w1 w2 := (hm2.weaken (by simp)).trans hmod2 (fun x hx => .inl hx)
      have hne := ho.ne hb (by decide)
      have hb2 := hb.mod hm12 hne
      have hne2 := ho2.ne hb2 (by decide)
      refine ⟨hb2.can (i := 1) (by simp), ?_⟩
      have hm3 : Mod [g] _ _ := Mod.setCell w2 ((base g).add 1) (.slice a2 ((pack (L ++ (field n wd).take i)).length + 1) c2) (by rw [add_block]; simp [base])
      have hb3 := hb2.set 1 (.slice a2 ((pack (L ++ (field n wd).take i)).length + 1) c2)
      have ho3 := ho2.mod hm3 (fun x hx hx' => by simp at hx'; subst hx'; exact hne2 hx)
      have hroom : room (pack (L ++ (field n wd).take i)) (L.length + i) = pack (L ++ (field n wd).take i) ++ [0] := by unfold room; rw [if_pos h8]
      have hf2 : ∀ x ∈ fp a2, x ∈ S ∨ w.heap.size ≤ x := by
        intro x hx
        rcases hfp2 with h | h
        · exact hs1 x (by rw [h] at hx; simp [hx])
        · rw [h] at hx; simp [size_push] at hx; right; omega
      have hg : g ∈ S ∨ w.heap.size ≤ g := hs1 g (by simp)
      have hmm : Mod S w (w2.setCell ((base g).add 1) (.slice a2 ((pack (L ++ (field n wd).take i)).length + 1) c2)) :=
        (hm1.trans hm12 (fun x hx => hs1 x (by simp [hx]))).trans hm3 (fun x hx => by simp at hx; subst hx; exact hg)
      refine put_bit (l := pack (L ++ (field n wd).take i)) (N := L.length + i) (a := a2) (c := c2) hlt hwd hn (by omega) hpl (by rw [hroom]; simpa using hb3) (by rw [hroom]; simpa using ho3) ?_
      intro w' hb' ho' hm'
      refine ⟨_, by omega, ⟨i + 1, g :: fp a2, by omega, rfl, ⟨a2, c2, rfl, by rw [hK2, hsn]; exact hb', by rw [hsn]; exact ho'⟩, ?_, ?_⟩, rfl⟩
      · exact hmm.trans hm' (fun x hx => by rcases List.mem_cons.1 hx with rfl | hx; exact hg; exact hf2 x hx)
      · intro x hx
        rcases List.mem_cons.1 hx with rfl | hx
        · exact hg
        · exact hf2 x hx
    · rw [if_neg (by omega)]
      have hroom : room (pack (L ++ (field n wd).take i)) (L.length + i) = pack (L ++ (field n wd).take i) := by unfold room; rw [if_neg h8]
      refine put_bit (l := pack (L ++ (field n wd).take i)) (N := L.length + i) (a := a) (c := c) hlt hwd hn (by omega) hpl (by rw [hroom]; exact hb) (by rw [hroom]; exact ho) ?_
      intro w' hb' ho' hm'
      exact ⟨_, by omega, ⟨i + 1, g :: fp a, by omega, rfl, ⟨a, c, rfl, by rw [hK2, hsn]; exact hb', by rw [hsn]; exact ho'⟩, hm1.trans hm' hs1, hs1⟩, rfl⟩
  · have : i = wd := by omega
    subst this
    rw [if_neg (by omega)]
    rw [List.take_of_length_le (by rw [field_len]; exact Nat.le_refl _)] at hw1
    exact ⟨rfl, S1, hw1, hm1, hs1⟩
theorem put_bad {w : World} {g : Nat} {S : List Nat} {L : List Bool} (h : Wr w g S L) (n wd : Int) (hwd : wd < 0 ∨ 64 < wd) :
    Does Try.prog 43 #[.pointer (some (base g)), .int .u64 n, .int .i64 wd] w fun v w' => v = .pointer (some (base g)) ∧ w = w' := by
  apply w43
  unfold F43
  refine (okW_ok h).mono ?_
  rintro _ _ ⟨rfl, rfl⟩
  refine ⟨_, rfl, ?_⟩
  rw [if_neg (by simp)]
  unfold F43_j1
  by_cases h0 : wd < 0
  · rw [if_pos h0, if_pos rfl]; exact ⟨rfl, rfl⟩
  · rw [if_neg h0, decide_eq_true (by omega), if_pos rfl]; exact ⟨rfl, rfl⟩
end Go.Proofs.Ytcgkmmiokmbjdaa
