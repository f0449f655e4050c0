/-
  The laws of chapter 14, as contracts: TcframeBack, TcframeOnly.
-/
import Derived.Test.YtdbckjadafpenaaLaws
namespace Go.Proofs.Ytdbckjadafpenaa
open Go Go.Sh Go.Proofs
set_option linter.unusedVariables false
set_option linter.unusedSimpArgs false

theorem tc_detect {s x : List UInt8} (h8 : 8 ≤ s.length) (h24 : s.length ≤ 1024) (hx : x.length = s.length) (h : chk16 x = false) : (tcDec x).2 = 5 := by
  unfold tcDec
  rw [if_neg (by omega), if_neg (by omega), if_pos h]

theorem tcframeBack_ok (f : Tf) {a : Option Addr} {c t : Nat} {p : BitVec 16} {w : World} (ht : t < 65536) (hr : Rd w a (f.d.map bv)) : Does Try.prog 6 #[f.val a c, .int .u16 (t : Int), .int .u16 (p.toNat : Int)] w fun v w' => v = .bool true ∧ Mod [] w w' := by
  apply w6
  unfold F6
  refine New.use fun w1 h1 m1 _ => ?_
  have live : ∀ {w' : World}, Mod [] w w' → Does Try.prog 8 #[] w' (fun v w'' => ∃ (x : Bool), v = .bool x ∧ (Value.bool x = .bool true ∧ Mod [] w w'')) := fun M => (alive_ok _).mono fun v w' h => ⟨_, h.1, rfl, M.none h.2⟩
  refine ⟨_, _, _, h1.cell (i := 5) rfl, iteI (fun hl => live m1) (fun hl => ?_)⟩
  have r1 := hr.mod m1 (by simp)
  refine ⟨_, _, _, _, _, _, _, _, h1.cells, ?_⟩
  refine (tcEncode_ok f a c r1).mono ?_
  rintro _ w2 ⟨x2, k2, rfl, o2, m2, s2⟩
  have M2 := m1.none m2
  have h2 := h1.mod m2 (by simp)
  refine ⟨_, _, _, _, rfl, ?_⟩
  unfold Tf.out Tf.err at *
  by_cases hok : f.ok = true
  · rw [if_pos hok] at o2 ⊢
    rw [if_pos hok, if_neg (by simp)]
    have hlen : f.enc.length = f.d.length + 7 := by simp [Tf.enc, app16, be_len]; omega
    have hrr := hok
    simp only [Tf.ok, decide_eq_true_eq] at hrr
    refine ⟨_, _, _, h2.cell (i := 5) rfl, ?_⟩
    rw [if_neg (by rw [hlen, wi64 (by omega)]; simp)]
    have hle := o2.le
    refine (tcDecode_ok hle o2.rd).mono ?_
    rintro _ w3 ⟨x3, k3, rfl, o3, m3, s3⟩
    rw [tc_back f hok] at o3 ⊢
    refine ⟨_, _, _, _, _, _, _, _, _, rfl, ?_⟩
    refine New.put rfl fun w4 h4 m4 z4 => ?_
    have e8 : IntKind.i64.wrap (8 * (f.enc.length : Int)) = ((8 * f.enc.length : Nat) : Int) := by rw [wi64 (by omega)]; omega
    have et : Int.tmod (IntKind.i64.wrap (t : Int)) (IntKind.i64.wrap (8 * (f.enc.length : Int))) = ((t % (8 * f.enc.length) : Nat) : Int) := by
      rw [e8, wi64 (by omega), Int.tmod_eq_emod_of_nonneg (by omega)]; rfl
    rw [et, e8]
    refine ⟨by omega, ?_⟩
    have hi : t % (8 * f.enc.length) < 8 * f.enc.length := Nat.mod_lt _ (by omega)
    generalize t % (8 * f.enc.length) = i at *
    refine (changed_ok x2 f.enc k2 i p w4 (by omega) hi (o2.rd.mod (m3.none m4) (by simp))).mono ?_
    rintro _ w5 ⟨x5, k5, rfl, o5, m5⟩
    have hcl := chg_len f.enc i p 16
    rw [← hcl] at o5 ⊢
    refine ⟨_, _, _, rfl, ?_⟩
    refine (tcDecode_ok o5.le o5.rd).mono ?_
    rintro _ w6 ⟨x6, k6, rfl, o6, m6, s6⟩
    refine ⟨_, _, _, _, _, _, _, _, _, rfl, ?_⟩
    refine New.put rfl fun w7 h7 m7 z7 => ?_
    rw [if_pos rfl]
    have N7 : Mod [] w2 w7 := (((m3.none m4).none m5).none m6).none m7
    refine ⟨_, _, _, _, _, _, _, _, (h2.mod N7 (by simp)).cells, _, _, _, _, _, _, _, _, (((h4.mod m5 (by simp)).mod m6 (by simp)).mod m7 (by simp)).cells, ?_⟩
    refine (tcSame_ok f f ((r1.mod m2 (by simp)).mod N7 (by simp)) ((((o3.rd.mod m4 (by simp)).mod m5 (by simp)).mod m6 (by simp)).mod m7 (by simp))).mono ?_
    rintro _ w8 ⟨rfl, m8⟩
    have M8 : Mod [] w w8 := (M2.none N7).none m8
    refine ⟨_, rfl, ?_⟩
    rw [if_pos (by simp)]
    refine ⟨_, toStr_ok k5 (o5.rd.mod ((m6.none m7).none m8) (by simp)), _, by rw [hcl]; exact toStr_ok k2 (o2.rd.mod (N7.none m8) (by simp)), ?_⟩
    refine iteI (fun _ => live M8) (fun hne => ?_)
    have hch : chk16 (chg f.enc i p 16) = false := by
      cases hc : chk16 (chg f.enc i p 16) with
      | false => rfl
      | true =>
        have := burst16 f.enc i p (by omega) hi (chk16_app _) hc
        rw [strEq, this] at hne
        simp at hne
    rw [if_pos (tc_detect (s := f.enc) (by omega) (by omega) hcl hch)]
    exact live M8
  · rw [if_neg hok] at o2 ⊢
    rw [if_neg hok, if_pos (by simp), if_pos (by simp)]
    refine ⟨_, _, _, _, _, _, _, _, h2.cells, ?_⟩
    refine (tcValid_ok f a c w2).mono ?_
    rintro _ w3 ⟨rfl, m3⟩
    refine ⟨_, rfl, ?_⟩
    rw [if_pos (by simp [hok])]
    exact live (M2.none m3)

theorem tcframeOnly_ok {a : Option Addr} {l : List UInt8} {c : Nat} {w : World} (hc : l.length ≤ c) (hr : Rd w a (l.map bv)) : Does Try.prog 7 #[.slice a l.length c] w fun v w' => v = .bool true ∧ Mod [] w w' := by
  apply w7
  unfold F7
  have live : ∀ {w' : World}, Mod [] w w' → Does Try.prog 8 #[] w' (fun v w'' => ∃ (x : Bool), v = .bool x ∧ (Value.bool x = .bool true ∧ Mod [] w w'')) := fun M => (alive_ok _).mono fun v w' h => ⟨_, h.1, rfl, M.none h.2⟩
  refine iteI (fun hl => live (Mod.refl _)) (fun hl => ?_)
  refine (tcDecode_ok hc hr).mono ?_
  rintro _ w1 ⟨x1, k1, rfl, o1, m1, s1⟩
  refine ⟨_, _, _, _, _, _, _, _, _, rfl, ?_⟩
  refine New.put rfl fun w2 h2 m2 z2 => ?_
  have M2 := m1.none m2
  have o2 := o1.mod m2 (by simp)
  have cases_ : (tcDec l).2 ≠ 0 ∧ (tcDec l).1 = Tf.zero ∨ (tcDec l).2 = 0 ∧ (tcDec l).1 = tfOf l ∧ tfOk l = true := by
    unfold tcDec
    split; simp
    split; simp
    split; simp
    split
    · rename_i h; right; exact ⟨rfl, rfl, h⟩
    · simp
  rcases cases_ with ⟨h0, hz⟩ | ⟨h0, hz, hk⟩
  · rw [if_pos h0]
    rw [hz] at h2 o2
    refine ⟨_, _, _, _, _, _, _, _, h2.cells, ?_⟩
    refine (tcSame_ok Tf.zero Tf.zero o2.rd Rd.nil (d := 0) (b := none)).mono ?_
    rintro _ w3 ⟨rfl, m3⟩
    refine ⟨_, rfl, ?_⟩
    rw [if_pos (by simp)]
    exact live (M2.none m3)
  · rw [if_neg (by simp [h0])]
    rw [hz] at h2 o2
    unfold tfOk at hk
    rw [Bool.and_eq_true, beq_iff_eq] at hk
    refine ⟨_, _, _, _, _, _, _, _, h2.cells, ?_⟩
    refine (tcEncode_ok (tfOf l) x1 k1 o2.rd).mono ?_
    rintro _ w3 ⟨x3, k3, rfl, o3, m3, s3⟩
    refine ⟨_, _, _, _, rfl, _, _, _, _, _, _, _, _, (h2.mod m3 (by simp)).cells, ?_⟩
    refine (tcValid_ok (tfOf l) x1 k1 w3).mono ?_
    rintro _ w4 ⟨rfl, m4⟩
    refine ⟨_, rfl, ?_⟩
    unfold Tf.out Tf.err at *
    rw [if_pos hk.1, hk.2] at o3
    rw [if_pos hk.1, if_pos hk.1, if_pos rfl, if_pos hk.1, hk.2]
    have M4 := (M2.none m3).none m4
    refine ⟨_, toStr_ok k3 (o3.rd.mod m4 (by simp)), _, toStr_ok c (hr.mod M4 (by simp)), ?_⟩
    rw [if_pos (by simp)]
    exact live M4
end Go.Proofs.Ytdbckjadafpenaa
