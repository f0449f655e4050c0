/-
  Clones, the concatenation of two, the count of zero bytes, serial numbers.
-/
import Derived.Test.YtnaomgfdcadncaaForms
import Derived.Test.YtnaomgfdcadncaaHeap
import Derived.Lib.Bytealg
import Derived.Lib.BytesEntry
import Derived.Laws.Externs
namespace Go.Proofs.Ytnaomgfdcadncaa
open Go Go.Sh Go.Proofs
set_option linter.unusedVariables false
set_option linter.unusedSimpArgs false
set_option linter.unusedSectionVars false

theorem elem5 : Elem Try.prog 5 1 1 := Elem.of (v := .int .u8 0) (by kernel_rfl) rfl (by decide)
theorem elem29 : Elem Try.prog 29 1 24 := Elem.of (v := .slice none 0 0) (by kernel_rfl) rfl (by decide)
theorem elem3 : Elem Try.prog 3 1 8 := Elem.of (v := .int .i64 0) (by kernel_rfl) rfl (by decide)
structure Dt where
  a : Option Addr
  l : List UInt8
  c : Nat
def Dt.val (d : Dt) : Value := .slice d.a d.l.length d.c
def Dt.rd (w : World) (d : Dt) : Prop := Rd w d.a (d.l.map bv)
theorem vals_one (L : List Dt) : ∀ u ∈ L.map Dt.val, one u = true := by
  intro u hu
  obtain ⟨b, _, rfl⟩ := List.mem_map.1 hu
  rfl
abbrev iv (n : Nat) : Value := .int .i64 (n : Int)

theorem clone16 {w : World} {a : Option Addr} {l : List UInt8} (c : Nat) (hr : Rd w a (l.map bv)) (hn : l.length ≤ 1000000) :
    Does Try.prog 16 #[.slice a l.length c] w fun v w' => ∃ a' c', v = .slice a' l.length c' ∧ Own w' 5 1 a' l.length c' (l.map bv) ∧ Mod [] w w' ∧ (∀ x ∈ fp a', w.heap.size ≤ x) ∧ (a = none → a' = none ∧ c' = 0) := by
  apply w16
  unfold F16
  refine iteI (fun h => ?_) (fun h => ?_)
  · have ha : a = none := by cases a; rfl; simp at h
    subst ha
    have hv : l = [] := by rcases hr with h | ⟨p, h, _⟩; exact List.map_eq_nil_iff.1 h; cases h
    subst hv
    exact ⟨none, 0, rfl, Own.nil, Mod.refl _, by simp [fp], fun _ => ⟨rfl, rfl⟩⟩
  · refine New.use fun w1 h1' m1 z1 => ?_
    obtain ⟨a', c', w2, run, o2, m2, f2⟩ := append_own (m := l.length) (d := c) Try.underlying29 elem5 29 (Own.blk (n := 0) h1' rfl (by decide)) (hr.mod m1 (by simp)) (by simp) (bv_one l) (by omega) (by omega)
    rw [Nat.zero_add] at run o2
    rw [List.nil_append] at o2
    refine ⟨_, _, _, w2, run, a', c', rfl, o2, m1.trans m2 (fun x hx => .inr (by simp [fp, base] at hx; omega)), fun x hx => ?_, fun ha => by rw [ha] at h; simp at h⟩
    rcases f2 with h | h <;> rw [h] at hx <;> simp [fp, base] at hx <;> omega
theorem clone22 {w : World} {a : Option Addr} {l : List UInt8} (c : Nat) (hr : Rd w a (l.map bv)) (hn : l.length ≤ 1000000) :
    Does Try.prog 22 #[.slice a l.length c] w fun v w' => ∃ a' c', v = .slice a' l.length c' ∧ Own w' 5 1 a' l.length c' (l.map bv) ∧ Mod [] w w' ∧ (∀ x ∈ fp a', w.heap.size ≤ x) := by
  apply w22
  unfold F22
  refine iteI (fun h => ?_) (fun h => ?_)
  · have ha : a = none := by cases a; rfl; simp at h
    subst ha
    have hv : l = [] := by rcases hr with h | ⟨p, h, _⟩; exact List.map_eq_nil_iff.1 h; cases h
    subst hv
    exact ⟨none, 0, rfl, Own.nil, Mod.refl _, by simp [fp]⟩
  · refine New.use fun w1 h1' m1 z1 => ?_
    obtain ⟨a', c', w2, run, o2, m2, f2⟩ := append_own (m := l.length) (d := c) Try.underlying29 elem5 29 (Own.blk (n := 0) h1' rfl (by decide)) (hr.mod m1 (by simp)) (by simp) (bv_one l) (by omega) (by omega)
    rw [Nat.zero_add] at run o2
    rw [List.nil_append] at o2
    refine ⟨_, _, _, w2, run, a', c', rfl, o2, m1.trans m2 (fun x hx => .inr (by simp [fp, base] at hx; omega)), fun x hx => ?_⟩
    rcases f2 with h | h <;> rw [h] at hx <;> simp [fp, base] at hx <;> omega
theorem clone27 {w : World} {a : Option Addr} {n : Nat} {vs : List Value} (c : Nat) (hr : Rd w a vs) (hl : vs.length = n) (h1 : ∀ u ∈ vs, one u = true) (hn : n ≤ 1000000) :
    Does Try.prog 27 #[.slice a n c] w fun v w' => ∃ a' c', v = .slice a' n c' ∧ Own w' 29 1 a' n c' vs ∧ Mod [] w w' ∧ (∀ x ∈ fp a', w.heap.size ≤ x) := by
  apply w27
  unfold F27
  refine iteI (fun h => ?_) (fun h => ?_)
  · have ha : a = none := by cases a; rfl; simp at h
    subst ha
    have hv : vs = [] := by rcases hr with h | ⟨p, h, _⟩; exact h; cases h
    subst hv
    have hn0 : n = 0 := by simpa using hl.symm
    subst hn0
    exact ⟨none, 0, rfl, Own.nil, Mod.refl _, by simp [fp]⟩
  · refine New.use fun w1 h1' m1 z1 => ?_
    obtain ⟨a', c', w2, run, o2, m2, f2⟩ := append_own (m := n) (d := c) Try.underlying28 elem29 28 (Own.blk (n := 0) h1' rfl (by decide)) (hr.mod m1 (by simp)) (by omega) h1 (by omega) (by omega)
    rw [Nat.zero_add] at run o2
    rw [List.nil_append] at o2
    refine ⟨_, _, _, w2, run, a', c', rfl, o2, m1.trans m2 (fun x hx => .inr (by simp [fp, base] at hx; omega)), fun x hx => ?_⟩
    rcases f2 with h | h <;> rw [h] at hx <;> simp [fp, base] at hx <;> omega

/-! ### Concat -/
theorem grow_ok (n : Nat) (hn : n ≤ 100000) (w : World) : Does Try.prog 31 #[.slice none 0 0, .int .i64 (n : Int)] w fun v w' => ∃ a c, v = .slice a 0 c ∧ Own w' 5 1 a 0 c [] ∧ Mod [] w w' ∧ ∀ x ∈ fp a, w.heap.size ≤ x := by
  apply w31
  unfold F31
  rw [if_neg (by omega)]
  unfold F31_j1
  have e : IntKind.i64.wrap ((n : Int) - IntKind.i64.wrap (((0 : Nat) : Int) - ((0 : Nat) : Int))) = (n : Int) := by
    rw [wi64 (n := ((0 : Nat) : Int) - ((0 : Nat) : Int)) (by omega), wi64 (by omega)]
    omega
  rw [e]
  refine iteI (fun h => ?_) (fun h => ?_)
  · obtain ⟨c', L, w', run, hb, hl, h1, h2, m⟩ := append_make (ty := 29) (zv := .int .u8 0) Try.underlying29 Try.underlying3 elem5 (by kernel_rfl) (by decide) rfl (w := w) (a := none) (i := 0) (c := 0) (k := n) (us := []) Rd.nil rfl (by omega) (by omega) (by omega) (by omega) (by omega)
    refine ⟨by omega, by omega, _, _, _, w', run, by omega, by omega, _, c', rfl, ⟨rfl, .inr ⟨w.heap.size, [] ++ L, rfl, ?_, by omega, h2, ?_⟩⟩, m, by simp [fp, base]⟩
    · exact hb
    · exact hl
  · exact ⟨none, 0, rfl, Own.nil, Mod.refl _, by simp [fp]⟩

theorem concat_ok {w : World} {p : Option Addr} (c : Nat) {L : List Dt} (hp : Rd w p (L.map Dt.val)) (hd : ∀ d ∈ L, d.rd w) (hl : L.length ≤ 1000) (hs : (L.flatMap (·.l)).length ≤ 100000) :
    Does Try.prog 21 #[.slice p L.length c] w fun v w' => ∃ a c', v = .slice a (L.flatMap (·.l)).length c' ∧ Own w' 5 1 a (L.flatMap (·.l)).length c' ((L.flatMap (·.l)).map bv) ∧ Mod [] w w' ∧ ∀ x ∈ fp a, w.heap.size ≤ x := by
  have sums : ∀ i (hi : i < L.length), ((L.take (i + 1)).flatMap (·.l)) = ((L.take i).flatMap (·.l)) ++ L[i].l := by
    intro i hi
    rw [List.take_succ_eq_append_getElem hi, List.flatMap_append]
    simp
  have mono : ∀ i, ((L.take i).flatMap (·.l)).length ≤ (L.flatMap (·.l)).length := by
    intro i
    have : L.flatMap (·.l) = (L.take i).flatMap (·.l) ++ (L.drop i).flatMap (·.l) := by rw [← List.flatMap_append, List.take_append_drop]
    rw [this, List.length_append]
    omega
  apply w21
  unfold F21
  refine LoopP.of (fun (x : Int × Int) w' => w = w' ∧ ∃ i : Nat, i ≤ L.length ∧ x = ((((L.take i).flatMap (·.l)).length : Int), (i : Int))) (fun x _ => (L.length - x.2).toNat) ⟨rfl, 0, by omega, rfl⟩ ?_
  rintro _ _ ⟨rfl, i, hi, rfl⟩
  unfold F21_b1
  dsimp only
  refine iteI (fun hlt => ?_) (fun hlt => ?_)
  · have hlt : i < L.length := by omega
    obtain ⟨q, rfl, hc⟩ := rd_get hp hlt
    refine ⟨q, rfl, by omega, by omega, _, _, _, by rw [Int.toNat_natCast]; exact hc, ?_⟩
    have m1 := mono (i + 1)
    have e1 := congrArg List.length (sums i hlt)
    rw [List.length_append] at e1
    rw [wi64 (n := (((L.take i).flatMap (·.l)).length : Int) + (L[i].l.length : Int)) (by omega), if_neg (by omega), wi64 (by omega)]
    exact ⟨_, by omega, ⟨rfl, i + 1, by omega, by rw [e1]; simp⟩, rfl⟩
  · have hi : i = L.length := by omega
    subst hi
    rw [List.take_length]
    refine (grow_ok _ hs w).mono ?_
    rintro _ w1 ⟨a0, c0, rfl, o1, m1, f1⟩
    refine ⟨_, _, _, rfl, ?_⟩
    refine LoopP.of (fun (x : Option Addr × Nat × Nat × Int) w' => ∃ (i : Nat) (a : Option Addr) (c : Nat), i ≤ L.length ∧ x = (a, ((L.take i).flatMap (·.l)).length, c, (i : Int)) ∧ Own w' 5 1 a ((L.take i).flatMap (·.l)).length c (((L.take i).flatMap (·.l)).map bv) ∧ Mod [] w w' ∧ ∀ x ∈ fp a, w.heap.size ≤ x) (fun x _ => (L.length - x.2.2.2).toNat) ⟨0, a0, c0, by omega, rfl, o1, m1, f1⟩ ?_
    rintro _ w2 ⟨i, a, c, hi, rfl, o2, m2, f2⟩
    unfold F21_b2
    dsimp only
    refine iteI (fun hlt => ?_) (fun hlt => ?_)
    · have hlt : i < L.length := by omega
      obtain ⟨q, hq, hc⟩ := rd_get (hp.mod m2 (by simp)) hlt
      have e1 := congrArg List.length (sums i hlt)
      rw [List.length_append] at e1
      have mm := mono (i + 1)
      obtain ⟨a', c', w3, run, o3, m3, f3⟩ := append_own (m := L[i].l.length) (d := L[i].c) Try.underlying29 elem5 29 o2 ((hd _ (List.getElem_mem hlt)).mod m2 (by simp)) (by simp) (bv_one _) (by omega) (by omega)
      refine ⟨q, hq, by omega, by omega, _, _, _, by rw [Int.toNat_natCast]; exact hc, _, _, _, w3, run, ?_⟩
      rw [wi64 (by omega)]
      refine ⟨_, by omega, ⟨i + 1, a', c', by omega, by rw [e1]; simp, ?_, m2.trans m3 (fun x hx => .inr (f2 x hx)), fun x hx => ?_⟩, rfl⟩
      · rw [e1, sums i hlt, List.map_append]; exact o3
      · have := m2.size
        rcases f3 with h | h <;> rw [h] at hx
        · exact f2 x hx
        · simp at hx; omega
    · have hi : i = L.length := by omega
      subst hi
      rw [List.take_length] at *
      exact ⟨a, c, rfl, o2, m2, f2⟩

/-! ### Count -/
theorem countZ {w : World} {a : Option Addr} (m c : Nat) (hr : Rd w a ((List.replicate m (0 : UInt8)).map bv)) : (callFunc 35 #[.slice a m c, .int .u8 0]).run Try.prog w = .ok (.value (.int .i64 (m : Int))) w := by
  have hb : ∃ s : ByteArray, (Extern.Bytes.bytesOf (.slice a m c)).run Try.prog w = .ok s w ∧ Lib.countByte s.data.toList (0 : Int).toNat.toUInt8 = m := by
    rcases hr with h | ⟨p, rfl, hc⟩
    · have : m = 0 := by simpa using h
      subst this
      cases a with
      | none => exact ⟨.empty, rfl, rfl⟩
      | some p => exact ⟨.empty, rfl, rfl⟩
    · have hl := Lib.run_loadBytesX (P := Try.prog) w (List.replicate m (0 : Int)) p .empty (fun j x hj => by
        obtain ⟨h2, h3⟩ := List.getElem?_eq_some_iff.1 hj
        rw [List.length_replicate] at h2
        have : x = 0 := by rw [← h3]; simp
        subst this
        exact hc j _ (by rw [List.getElem?_map, List.getElem?_replicate, if_pos h2]; rfl))
      rw [List.length_replicate] at hl
      refine ⟨_, hl, ?_⟩
      have e : (ByteArray.empty.data ++ (Lib.bytesOf (List.replicate m (0 : Int))).toArray).toList = List.replicate m (0 : UInt8) := by
        show ((#[] : Array UInt8) ++ (Lib.bytesOf (List.replicate m (0 : Int))).toArray).toList = _
        simp [Lib.bytesOf]
      show Lib.countByte (ByteArray.empty.data ++ (Lib.bytesOf (List.replicate m (0 : Int))).toArray).toList (0 : Int).toNat.toUInt8 = m
      rw [e]
      unfold Lib.countByte
      show List.count (0 : UInt8) _ = m
      simp
  obtain ⟨s, hs, hcnt⟩ := hb
  have hz : (Extern.BytealgCount.count #[.slice a m c, .int .u8 0]).run Try.prog w = .ok (.int .i64 (m : Int)) w := by
    have hh := Lib.run_countString (P := Try.prog) s 0 w
    rw [hcnt] at hh
    change Sem.run Try.prog (do
      let b ← Extern.Bytes.bytesOf (.slice a m c)
      let c' ← Extern.Bytes.asByte (.int .u8 0)
      pure (goInt (b.foldl (fun n x => if x == c' then n + 1 else n) (0 : Nat)))) w = _
    change Sem.run Try.prog (do
      let b ← Extern.Bytes.bytesOf (.string s)
      let c' ← Extern.Bytes.asByte (.int .u8 0)
      pure (goInt (b.foldl (fun n x => if x == c' then n + 1 else n) (0 : Nat)))) w = _ at hh
    simp only [Sem.run_bind, hs, Result.andThen]
    simp only [Extern.Bytes.bytesOf, Sem.run_bind, Sem.run_pure, Result.andThen] at hh
    exact hh
  rw [run_callFunc_extern (e := Extern.BytealgCount.count) Try.func35 (by kernel_rfl) (by kernel_rfl) (by kernel_rfl) (by kernel_rfl), hz]
  rfl
end Go.Proofs.Ytnaomgfdcadncaa
