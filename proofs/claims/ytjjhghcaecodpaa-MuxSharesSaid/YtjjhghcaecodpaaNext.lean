/-
  The contracts of chapter 22: Next of the multiplexer.
-/
import Derived.Test.YtjjhghcaecodpaaMinA
import Derived.Test.YtjjhghcaecodpaaMinB
import Derived.Test.YtjjhghcaecodpaaFlat
namespace Go.Proofs.Ytjjhghcaecodpaa
open Go Go.Sh Go.Proofs
set_option linter.unusedVariables false
set_option linter.unusedSimpArgs false
set_option linter.unusedSectionVars false

def wr (n : Int) : Int := IntKind.i64.wrap n
def gc (l : List Ch) (i : Nat) : Ch := (l[i]?).getD ⟨0, 0, 0, 0, 0⟩
theorem gc_at {l : List Ch} {i : Nat} (h : i < l.length) : gc l i = l[i] := by unfold gc; rw [List.getElem?_eq_getElem h]; rfl
def rdy (R : List Int) (c : Ch) : Bool := decide (c.id ∈ R)
/-- The places of the first t channels that are ready. -/
def upto (l : List Ch) (R : List Int) (t : Nat) : List Nat := (List.range t).filter fun i => rdy R (gc l i)
def rix (l : List Ch) (R : List Int) : List Nat := upto l R l.length
def prB (l : List Ch) (i k : Nat) : Bool := decide ((gc l i).pr < (gc l k).pr)
def best (l : List Ch) (R : List Int) : Int := (gc l (minF (prB l) (rix l R))).pr
def aix (l : List Ch) (R : List Int) : List Nat := (rix l R).filter fun i => !decide ((gc l i).pr ≠ best l R)
def up (c : Ch) : Ch := { c with cr := wr (c.cr + c.wt) }
def bump (A : List Nat) (l : List Ch) : List Ch := l.mapIdx fun j c => if j ∈ A then up c else c
def crB (l : List Ch) (i k : Nat) : Bool := decide ((gc l k).cr < (gc l i).cr ∨ ((gc l k).cr = (gc l i).cr ∧ (gc l i).id < (gc l k).id))
def sumW (l : List Ch) (A : List Nat) : Int := A.foldl (fun s i => wr (s + (gc l i).wt)) 0
def pay (n : Int) (c : Ch) : Ch := { c with cr := wr (c.cr - n), sn := wr (c.sn + 1) }
def sel (l : List Ch) (R : List Int) : Nat := minF (crB (bump (aix l R) l)) (aix l R)
def nxtL (l : List Ch) (R : List Int) : List Ch := if rix l R = [] then l else (bump (aix l R) l).modify (sel l R) (pay (sumW l (aix l R)))
def nxtI (l : List Ch) (R : List Int) : Int := if rix l R = [] then 0 else (gc l (sel l R)).id
def nxtB (l : List Ch) (R : List Int) : Bool := !decide (rix l R = [])

theorem upto_succ (l : List Ch) (R : List Int) (t : Nat) : upto l R (t + 1) = if rdy R (gc l t) = true then upto l R t ++ [t] else upto l R t := by
  unfold upto
  rw [List.range_succ, List.filter_append]
  split
  · rename_i h; simp [h]
  · rename_i h; simp [h]
theorem upto_lt {l : List Ch} {R : List Int} {t i : Nat} (h : i ∈ upto l R t) : i < t := by
  unfold upto at h
  have := (List.mem_filter.1 h).1
  exact List.mem_range.1 this
theorem aix_mem {l : List Ch} {R : List Int} {i : Nat} (h : i ∈ aix l R) : i ∈ rix l R := (List.mem_filter.1 h).1
theorem aix_lt {l : List Ch} {R : List Int} {i : Nat} (h : i ∈ aix l R) : i < l.length := upto_lt (aix_mem h)
theorem rix_nodup (l : List Ch) (R : List Int) (t : Nat) : (upto l R t).Nodup := List.Nodup.sublist List.filter_sublist List.nodup_range
theorem aix_nodup (l : List Ch) (R : List Int) : (aix l R).Nodup := List.Nodup.sublist List.filter_sublist (rix_nodup l R _)
theorem aix_ne {l : List Ch} {R : List Int} (h : rix l R ≠ []) : aix l R ≠ [] := by
  have hm := minF_mem (prB l) (rix l R) h
  have : minF (prB l) (rix l R) ∈ aix l R := List.mem_filter.2 ⟨hm, by unfold best; simp⟩
  intro h0
  rw [h0] at this
  cases this
theorem bump_len (A : List Nat) (l : List Ch) : (bump A l).length = l.length := by unfold bump; rw [List.length_mapIdx]
theorem bump_gc (A : List Nat) {l : List Ch} {i : Nat} (h : i < l.length) : gc (bump A l) i = if i ∈ A then up (gc l i) else gc l i := by
  rw [gc_at (by rw [bump_len]; exact h), gc_at h]
  simp only [bump, List.getElem_mapIdx]
theorem bump_snoc (A : List Nat) {l : List Ch} {i : Nat} (h : i < l.length) (hn : i ∉ A) : bump (A ++ [i]) l = (bump A l).set i (up (gc l i)) := by
  apply List.ext_getElem
  · rw [List.length_set, bump_len, bump_len]
  · intro j h1 h2
    rw [bump_len] at h1
    rw [List.getElem_set]
    simp only [bump, List.getElem_mapIdx]
    by_cases hij : i = j
    · subst hij
      rw [if_pos rfl, if_pos (by simp), gc_at h]
    · rw [if_neg hij]
      have : j ∈ A ++ [i] ↔ j ∈ A := by simp; omega
      simp only [this]

/-! ### Comparisons -/
theorem cmp_ok (x y : Int) (w : World) : Does Try.prog 20 #[.int .i64 x, .int .i64 y] w fun v w' => v = .int .i64 (if x < y then -1 else if y < x then 1 else 0) ∧ w = w' := by
  have nn : ∀ x : Int, Does Try.prog 29 #[.int .i64 x] w fun v w' => v = .bool false ∧ w = w' := by
    intro x
    apply w29
    unfold F29
    exact ⟨by rw [decide_eq_false (by simp)], rfl⟩
  apply w20
  unfold F20
  refine (nn x).mono ?_
  rintro _ _ ⟨rfl, rfl⟩
  refine ⟨_, rfl, (nn y).mono ?_⟩
  rintro _ _ ⟨rfl, rfl⟩
  refine ⟨_, rfl, ?_⟩
  rw [if_neg (by simp), if_neg (by simp)]
  exact iteI (fun h => ⟨by rw [if_pos h], rfl⟩) (fun h => iteI (fun h2 => ⟨by rw [if_neg h, if_pos h2], rfl⟩) (fun h2 => ⟨by rw [if_neg h, if_neg h2], rfl⟩))
theorem or_ok {w : World} {q : Nat} {x y : Int} (h : Blk w q 3 [.int .i64 x, .int .i64 y]) : Does Try.prog 24 #[.slice (some (base q)) 2 2] w fun v w' => v = .int .i64 (if x ≠ 0 then x else y) ∧ w = w' := by
  apply w24
  unfold F24
  refine LoopP.of (fun (t : Int) w' => w' = w ∧ (t = 0 ∨ (t = 1 ∧ x = 0) ∨ (t = 2 ∧ x = 0 ∧ y = 0))) (fun t _ => (2 - t).toNat) ⟨rfl, .inl rfl⟩ ?_
  rintro t _ ⟨rfl, ht⟩
  unfold F24_b1
  rcases ht with rfl | ⟨rfl, rfl⟩ | ⟨rfl, rfl, rfl⟩
  · rw [if_pos (by decide)]
    refine ⟨_, rfl, by omega, by decide, _, h.cell (i := 0) rfl, iteI (fun hx => ⟨by rw [if_pos hx], rfl⟩) (fun hx => ⟨_, by decide, ⟨rfl, .inr (.inl ⟨rfl, by omega⟩)⟩, rfl⟩)⟩
  · rw [if_pos (by decide)]
    refine ⟨_, rfl, by omega, by decide, _, h.cell (i := 1) rfl, iteI (fun hx => ⟨by simp, rfl⟩) (fun hx => ⟨_, by decide, ⟨rfl, .inr (.inr ⟨rfl, rfl, by omega⟩)⟩, rfl⟩)⟩
  · rw [if_neg (by decide)]
    exact ⟨by simp, rfl⟩

/-! ### The closures -/
section
variable {w : World} {g q : Nat} {S : List Nat} {l : List Ch} (h : Mx w g S l) (hq : Blk w q 24 [.pointer (some (base g))])
include h hq
theorem c19_ok {i k : Nat} (hi : i < l.length) (hk : k < l.length) : Does Try.prog 19 #[.int .i64 (i : Int), .int .i64 (k : Int), .pointer (some (base q))] w fun v w' => (∃ n : Int, v = .int .i64 n ∧ (n < 0 ↔ prB l i k = true)) ∧ Mod [] w w' := by
  have md : Mod [] w w.drew := Mod.drew w
  obtain ⟨b, c, rfl, hb, ho⟩ := h.mod md (by simp)
  have hq' : Blk w.drew q 24 _ := hq.drew
  obtain ⟨p, hp, hc⟩ := ho.rd.flat (chv_len _) (by decide) hi
  obtain ⟨p', hp', hd⟩ := ho.rd.flat (chv_len _) (by decide) hk
  apply w19
  unfold F19
  refine ⟨_, rfl, _, hq'.cell0, _, rfl, _, _, _, hb.cell0, p, hp, by omega, by omega, _, hc 1 _ rfl, _, hq'.cell0, _, rfl, _, _, _, hb.cell0, p', hp', by omega, by omega, _, hd 1 _ rfl, (cmp_ok _ _ _).mono ?_⟩
  rintro _ _ ⟨rfl, rfl⟩
  refine ⟨_, rfl, ⟨_, rfl, ?_⟩, md⟩
  unfold prB
  rw [gc_at hi, gc_at hk, decide_eq_true_iff]
  split
  · rename_i h1; exact ⟨fun _ => h1, fun _ => by decide⟩
  · rename_i h1
    split
    · exact ⟨fun h => absurd h (by decide), fun h => absurd h h1⟩
    · exact ⟨fun h => absurd h (by decide), fun h => absurd h h1⟩
theorem c23_ok {i k : Nat} (hi : i < l.length) (hk : k < l.length) : Does Try.prog 23 #[.int .i64 (i : Int), .int .i64 (k : Int), .pointer (some (base q))] w fun v w' => (∃ n : Int, v = .int .i64 n ∧ (n < 0 ↔ crB l i k = true)) ∧ Mod [] w w' := by
  have md : Mod [] w w.drew := Mod.drew w
  obtain ⟨b, c, rfl, hb, ho⟩ := h.mod md (by simp)
  have hq' : Blk w.drew q 24 _ := hq.drew
  obtain ⟨p, hp, hc⟩ := ho.rd.flat (chv_len _) (by decide) hi
  obtain ⟨p', hp', hd⟩ := ho.rd.flat (chv_len _) (by decide) hk
  apply w23
  unfold F23
  refine ⟨_, rfl, _, hq'.cell0, _, rfl, _, _, _, hb.cell0, p', hp', by omega, by omega, _, hd 3 _ rfl, _, hq'.cell0, _, rfl, _, _, _, hb.cell0, p, hp, by omega, by omega, _, hc 3 _ rfl,
    _, hq'.cell0, _, rfl, _, _, _, hb.cell0, p, hp, by omega, by omega, _, rd0 hc, _, hq'.cell0, _, rfl, _, _, _, hb.cell0, p', hp', by omega, by omega, _, rd0 hd, (cmp_ok _ _ _).mono ?_⟩
  rintro _ _ ⟨rfl, rfl⟩
  refine ⟨_, rfl, hq'.cell0, hb.cell0, rd0 hc, hq'.cell0, hb.cell0, rd0 hd, (cmp_ok _ _ _).mono ?_⟩
  rintro _ _ ⟨rfl, rfl⟩
  refine ⟨_, rfl, New.use fun w1 h1 m1 z1 => ?_⟩
  refine (or_ok h1).mono ?_
  rintro _ _ ⟨rfl, rfl⟩
  refine ⟨_, rfl, ⟨_, rfl, ?_⟩, md.none m1⟩
  unfold crB
  rw [gc_at hi, gc_at hk, decide_eq_true_iff]
  generalize l[k].cr = a
  generalize l[i].cr = a'
  generalize l[i].id = d
  generalize l[k].id = d'
  constructor
  · intro hn
    by_cases h1 : a < a'
    · exact .inl h1
    · right
      rw [if_neg h1] at hn
      by_cases h2 : a' < a
      · rw [if_pos h2] at hn
        simp at hn
      · rw [if_neg h2] at hn
        simp only [ne_eq, not_true_eq_false, if_false] at hn
        refine ⟨by omega, ?_⟩
        split at hn
        · assumption
        · split at hn <;> simp at hn
  · intro hh
    rcases hh with h1 | ⟨h1, h2⟩
    · rw [if_pos h1]
      simp
    · rw [if_neg (show ¬ a < a' by omega), if_neg (show ¬ a' < a by omega)]
      simp [h2]
theorem c22_ok {i : Nat} (hi : i < l.length) {q2 : Nat} {pr : Int} (hp : Blk w q2 3 [.int .i64 pr]) : Does Try.prog 22 #[.int .i64 (i : Int), .pointer (some (base q)), .pointer (some (base q2))] w fun v w' => v = .bool (decide ((gc l i).pr ≠ pr)) ∧ Mod [] w w' := by
  have md : Mod [] w w.drew := Mod.drew w
  obtain ⟨b, c, rfl, hb, ho⟩ := h.mod md (by simp)
  have hq' : Blk w.drew q 24 _ := hq.drew
  have hp' : Blk w.drew q2 3 _ := hp.drew
  obtain ⟨p, hpp, hc⟩ := ho.rd.flat (chv_len _) (by decide) hi
  apply w22
  unfold F22
  exact ⟨_, rfl, _, hq'.cell0, _, rfl, _, _, _, hb.cell0, p, hpp, by omega, by omega, _, hc 1 _ rfl, _, rfl, _, hp'.cell0, by rw [gc_at hi], md⟩
end

/-! ### Lists of places -/
theorem contains_ok {w : World} {a : Option Addr} {R : List Int} (c : Nat) (hr : Rd w a (R.map iv)) (hn : R.length ≤ 9223372036854775807) (x : Int) : Does Try.prog 17 #[.slice a R.length c, .int .i64 x] w fun v w' => v = .bool (decide (x ∈ R)) ∧ w = w' := by
  apply w17
  unfold F17
  have q : Does Try.prog 28 #[.slice a R.length c, .int .i64 x] w fun v w' => (∃ n : Int, v = .int .i64 n ∧ (0 ≤ n ↔ x ∈ R)) ∧ w = w' := by
    apply w28
    unfold F28
    refine LoopP.of (fun (t : Int) w' => w' = w ∧ ∃ i : Nat, i ≤ R.length ∧ t = (i : Int) ∧ ∀ j (hj : j < i) (h : j < R.length), x ≠ R[j]) (fun t _ => R.length - t.toNat) ⟨rfl, 0, by omega, rfl, by omega⟩ ?_
    rintro _ _ ⟨rfl, i, hi, rfl, hb⟩
    unfold F28_b1
    refine iteI (fun hlt => ?_) (fun hlt => ?_)
    · have hlt : i < R.length := by omega
      obtain ⟨p, rfl, hc⟩ := rd_get hr hlt
      refine ⟨p, rfl, by omega, by omega, _, hc, iteI (fun hh => ⟨⟨_, rfl, fun _ => by rw [hh]; exact List.getElem_mem hlt, fun _ => by omega⟩, rfl⟩) (fun hh => ?_)⟩
      rw [wi64 (by omega)]
      refine ⟨_, by omega, ⟨rfl, i + 1, by omega, rfl, fun j hj h => ?_⟩, rfl⟩
      by_cases hji : j = i
      · subst hji; exact hh
      · exact hb j (by omega) h
    · refine ⟨⟨_, rfl, fun h => absurd h (by decide), fun h => ?_⟩, rfl⟩
      obtain ⟨j, hj, h2⟩ := List.getElem_of_mem h
      exact absurd h2.symm (hb j (by omega) hj)
  refine q.mono ?_
  rintro _ _ ⟨⟨n, rfl, hn2⟩, rfl⟩
  refine ⟨_, rfl, ?_, rfl⟩
  congr 1
  rw [decide_eq_decide]
  exact hn2

theorem fi_take {α : Type} (p : α → Bool) (A : List α) {i : Nat} (h : ∀ j (hj : j < i) (hl : j < A.length), p A[j] = false) : (A.take i).filter p = [] := by
  rw [List.filter_eq_nil_iff]
  intro x hx
  obtain ⟨j, hj, rfl⟩ := List.getElem_of_mem hx
  rw [List.length_take] at hj
  rw [List.getElem_take]
  rw [h j (by omega) (by omega)]
  simp
theorem keep_take {α : Type} (p : α → Bool) (A : List α) {i : Nat} (h : ∀ j (hj : j < i) (hl : j < A.length), p A[j] = true) : (A.take i).filter p = A.take i := by
  rw [List.filter_eq_self]
  intro x hx
  obtain ⟨j, hj, rfl⟩ := List.getElem_of_mem hx
  rw [List.length_take] at hj
  rw [List.getElem_take]
  exact h j (by omega) (by omega)
theorem del_ok {w : World} {a : Option Addr} {A : List Nat} {c : Nat} (q4 q5 : Option Addr) (del : Nat → Bool) (ho : Own w 3 1 a A.length c (A.map nv)) (hl : A.length ≤ 1000)
    (hc : ∀ w', Mod (fp a) w w' → ∀ i ∈ A, Does Try.prog 22 #[.int .i64 (i : Int), .pointer q4, .pointer q5] w' fun v w'' => v = .bool (del i) ∧ Mod [] w' w'') :
    Does Try.prog 21 #[.slice a A.length c, .func (.func 22) #[] #[.pointer q4, .pointer q5]] w fun v w' => ∃ c', v = .slice a (A.filter fun i => !del i).length c' ∧ Rd w' a ((A.filter fun i => !del i).map nv) ∧ Mod (fp a) w w' := by
  apply w21c22
  unfold F21c22
  have q : Does Try.prog 30 #[.slice a A.length c, .func (.func 22) #[] #[.pointer q4, .pointer q5]] w fun v w' => Mod [] w w' ∧ ((v = .int .i64 (-1) ∧ ∀ i ∈ A, del i = false) ∨ ∃ i : Nat, ∃ h : i < A.length, v = .int .i64 (i : Int) ∧ del A[i] = true ∧ ∀ j (hj : j < i), del (A[j]'(by omega)) = false) := by
    apply w30c22
    unfold F30c22
    refine LoopP.of (fun (t : Int) w' => Mod [] w w' ∧ ∃ i : Nat, i ≤ A.length ∧ t = (i : Int) ∧ ∀ j (hj : j < i) (h : j < A.length), del A[j] = false) (fun t _ => A.length - t.toNat) ⟨Mod.refl _, 0, by omega, rfl, by omega⟩ ?_
    rintro _ w1 ⟨m1, i, hi, rfl, hb⟩
    unfold F30c22_b1
    refine iteI (fun hlt => ?_) (fun hlt => ?_)
    · have hlt : i < A.length := by omega
      obtain ⟨p, rfl, hcl⟩ := rd_get (ho.rd.mod m1 (by simp)) hlt
      refine ⟨p, rfl, by omega, by omega, _, hcl, (hc w1 (m1.weaken (by simp)) A[i] (List.getElem_mem hlt)).mono ?_⟩
      rintro _ w2 ⟨rfl, m2⟩
      refine ⟨_, rfl, iteI (fun hh => ⟨m1.none m2, .inr ⟨i, hlt, rfl, hh, fun j hj => hb j hj (by omega)⟩⟩) (fun hh => ?_)⟩
      rw [wi64 (by omega)]
      refine ⟨_, by omega, ⟨m1.none m2, i + 1, by omega, rfl, fun j hj h => ?_⟩, rfl⟩
      by_cases hji : j = i
      · subst hji; simpa using hh
      · exact hb j (by omega) h
    · refine ⟨m1, .inl ⟨rfl, fun x hx => ?_⟩⟩
      obtain ⟨j, hj, rfl⟩ := List.getElem_of_mem hx
      exact hb j (by omega) hj
  refine q.mono ?_
  rintro _ w1 ⟨m1, ⟨rfl, hall⟩ | ⟨i, hi, rfl, hdi, hbefore⟩⟩
  · refine ⟨_, rfl, ?_⟩
    rw [if_pos rfl]
    have e : (A.filter fun i => !del i) = A := List.filter_eq_self.2 (fun x hx => by simp [hall x hx])
    rw [e]
    exact ⟨c, rfl, ho.rd.mod m1 (by simp), m1.weaken (by simp)⟩
  · refine ⟨_, rfl, ?_⟩
    rw [if_neg (by omega)]
    have e1 : IntKind.i64.wrap ((i : Int) + 1) = ((i + 1 : Nat) : Int) := by rw [wi64 (by omega)]; omega
    rw [e1]
    have hk0 : (A.take (i + 1)).filter (fun i => !del i) = A.take i := by
      rw [List.take_succ_eq_append_getElem hi, List.filter_append, keep_take _ A (fun j hj hl => by simp [hbefore j hj])]
      simp [hdi]
    refine LoopP.of (fun (x : Int × Int) w' => ∃ (i j : Nat) (vs : List Nat), i < j ∧ j ≤ A.length ∧ x = ((i : Int), (j : Int)) ∧ vs.length = A.length ∧ vs.take i = (A.take j).filter (fun i => !del i) ∧ vs.drop j = A.drop j ∧ Own w' 3 1 a A.length c (vs.map nv) ∧ Mod (fp a) w w') (fun x _ => A.length - x.2.toNat) ⟨i, i + 1, A, by omega, by omega, rfl, rfl, hk0.symm, rfl, ho.mod m1 (by simp), m1.weaken (by simp)⟩ ?_
    rintro _ w2 ⟨i, j, vs, hij, hj, rfl, hvl, ht, hd, o2, m2⟩
    unfold F21c22_b1
    dsimp only
    refine iteI (fun hlt => ?_) (fun hlt => ?_)
    · have hlt : j < A.length := by omega
      obtain ⟨p, rfl, hcl⟩ := rd_get o2.rd (i := j) (by omega)
      have hvj : vs[j]'(by omega) = A[j] := by
        have h1 : (vs.drop j)[0]'(by rw [List.length_drop]; omega) = (A.drop j)[0]'(by rw [List.length_drop]; omega) := by simp only [hd]
        rw [List.getElem_drop, List.getElem_drop] at h1
        simpa using h1
      rw [hvj] at hcl
      refine ⟨p, rfl, by omega, by omega, _, hcl, (hc w2 m2 A[j] (List.getElem_mem hlt)).mono ?_⟩
      rintro _ w3 ⟨rfl, m3⟩
      have e1 : IntKind.i64.wrap ((i : Int) + 1) = ((i + 1 : Nat) : Int) := by rw [wi64 (by omega)]; omega
      have e2 : IntKind.i64.wrap ((j : Int) + 1) = ((j + 1 : Nat) : Int) := by rw [wi64 (by omega)]; omega
      rw [e1, e2]
      have htk : A.take (j + 1) = A.take j ++ [A[j]] := List.take_succ_eq_append_getElem hlt
      have hdr : vs.drop (j + 1) = A.drop (j + 1) := by
        have := congrArg (List.drop 1) hd
        rwa [List.drop_drop, List.drop_drop] at this
      refine ⟨_, rfl, iteI (fun hk => ?_) (fun hk => ?_)⟩
      · obtain ⟨p', hp', hw, o3, m3'⟩ := (o2.mod m3 (by simp)).setAt (i := i) (by simp; omega) (nv A[j])
        cases hp'
        refine ⟨by omega, by omega, hw, ?_⟩
        refine ⟨_, by omega, ⟨i + 1, j + 1, vs.set i A[j], by omega, by omega, rfl, by rw [List.length_set, hvl], ?_, ?_, by rw [List.map_set]; exact o3, (m2.trans m3 (by simp)).same m3'⟩, rfl⟩
        · rw [htk, List.filter_append, ← ht, List.take_succ_eq_append_getElem (by rw [List.length_set]; omega), List.getElem_set_self, List.take_set_of_le (Nat.le_refl i)]
          congr 1
          simp [show del A[j] = false by simpa using hk]
        · rw [List.drop_set_of_lt (by omega)]
          exact hdr
      · refine ⟨_, by omega, ⟨i, j + 1, vs, by omega, by omega, rfl, hvl, ?_, hdr, o2.mod m3 (by simp), m2.trans m3 (by simp)⟩, rfl⟩
        rw [htk, List.filter_append, ← ht]
        have : del A[j] = true := by simpa using hk
        simp [this]
    · have hjl : j = A.length := by omega
      subst hjl
      rw [List.take_length] at ht
      have hle := o2.le
      have win := (Win.of_own o2).take (l := i) (by omega)
      rw [Nat.mul_one, ← List.map_take, ht] at win
      obtain ⟨w3, run, win3, m3⟩ := win_clear (P := Try.prog) (t := 28) Try.underlying28 elem3 Try.zeroValue3 rfl (by simp [Value.cells, one]) win (show i ≤ A.length by omega) hle
      rw [Int.toNat_natCast]
      have hfl : (A.filter fun i => !del i).length = i := by rw [← ht, List.length_take]; omega
      refine ⟨by omega, by omega, w3, run, by omega, by omega, c, by rw [hfl], win3.rd, m2.same m3⟩
end Go.Proofs.Ytjjhghcaecodpaa
