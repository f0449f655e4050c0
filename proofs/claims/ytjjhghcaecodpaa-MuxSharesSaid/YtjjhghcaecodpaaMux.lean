/-
  The contracts of chapter 22: channels; the multiplexer: New, find, Sent, Clone.
-/
import Derived.Test.YtjjhghcaecodpaaForms
import Derived.Test.YtjjhghcaecodpaaHeap
import Derived.Test.YtjjhghcaecodpaaFidx
import Derived.Test.YtjjhghcaecodpaaMake
namespace Go.Proofs.Ytjjhghcaecodpaa
open Go Go.Sh Go.Proofs
set_option linter.unusedVariables false
set_option linter.unusedSimpArgs false
set_option linter.unusedSectionVars false

def iv (n : Int) : Value := .int .i64 n
def nv (n : Nat) : Value := .int .i64 (n : Int)
theorem nv_one (l : List Nat) : ∀ u ∈ l.map nv, one u = true := by
  intro u hu
  obtain ⟨b, _, rfl⟩ := List.mem_map.1 hu
  rfl
theorem fpv_sub {a : Option Addr} {vs : List Value} : ∀ x ∈ fpv a vs, x ∈ fp a := by
  cases vs with
  | nil => intro x hx; cases hx
  | cons v vs => intro x hx; exact hx
/-- The first minimum of a list. -/
def minF (lt : Nat → Nat → Bool) : List Nat → Nat
  | [] => 0
  | x :: A => A.foldl (fun m i => if lt i m = true then i else m) x
theorem minF_snoc (lt : Nat → Nat → Bool) (A : List Nat) (i : Nat) (h : A ≠ []) : minF lt (A ++ [i]) = if lt i (minF lt A) = true then i else minF lt A := by
  cases A with
  | nil => exact absurd rfl h
  | cons x A =>
    show (A ++ [i]).foldl _ x = _
    rw [List.foldl_append]
    rfl
theorem foldl_mem (lt : Nat → Nat → Bool) : ∀ (A : List Nat) (x : Nat), A.foldl (fun m i => if lt i m = true then i else m) x ∈ x :: A
  | [], x => by simp
  | y :: A, x => by
    rw [List.foldl_cons]
    have := foldl_mem lt A (if lt y x = true then y else x)
    rcases List.mem_cons.1 this with h | h
    · rw [h]; split <;> simp
    · simp [h]
theorem minF_mem (lt : Nat → Nat → Bool) (A : List Nat) (h : A ≠ []) : minF lt A ∈ A := by
  cases A with
  | nil => exact absurd rfl h
  | cons x A => exact foldl_mem lt A x

/-- A channel with its credit, and how often it was selected. -/
structure Ch where
  id : Int
  pr : Int
  wt : Int
  cr : Int
  sn : Int
deriving DecidableEq
def chv (c : Ch) : List Value := [.int .i64 c.id, .int .i64 c.pr, .int .i64 c.wt, .int .i64 c.cr, .int .i64 c.sn]
def chc (c : Ch) : List Value := [.int .i64 c.id, .int .i64 c.pr, .int .i64 c.wt]
def new0 (c : Ch) : Ch := ⟨c.id, c.pr, c.wt, 0, 0⟩
theorem chv_len (L : List Ch) : ∀ x ∈ L, (chv x).length = 5 := fun _ _ => rfl
theorem chc_len (L : List Ch) : ∀ x ∈ L, (chc x).length = 3 := fun _ _ => rfl
theorem chv_one (L : List Ch) : ∀ u ∈ L.flatMap chv, one u = true := flat_one chv L (by intro x u hu; simp [chv] at hu; rcases hu with rfl | rfl | rfl | rfl | rfl <;> rfl)
theorem chc_one (L : List Ch) : ∀ u ∈ L.flatMap chc, one u = true := flat_one chc L (by intro x u hu; simp [chc] at hu; rcases hu with rfl | rfl | rfl <;> rfl)
theorem chv_flen (L : List Ch) : (L.flatMap chv).length = L.length * 5 := flat_len chv L (chv_len L)
theorem chc_flen (L : List Ch) : (L.flatMap chc).length = L.length * 3 := flat_len chc L (chc_len L)
theorem elem52 : Elem Try.prog 52 5 40 := Elem.of (v := .agg #[.int .i64 0, .int .i64 0, .int .i64 0, .int .i64 0, .int .i64 0]) (by kernel_rfl) rfl (by decide)
theorem elem35 : Elem Try.prog 35 3 24 := Elem.of (v := .agg #[.int .i64 0, .int .i64 0, .int .i64 0]) (by kernel_rfl) rfl (by decide)
theorem elem3 : Elem Try.prog 3 1 8 := Elem.of (v := .int .i64 0) (by kernel_rfl) rfl (by decide)

def okC (c : Ch) : Prop := 0 ≤ c.id ∧ c.id ≤ 7 ∧ 0 ≤ c.pr ∧ c.pr ≤ 15 ∧ 1 ≤ c.wt ∧ c.wt ≤ 100
instance (c : Ch) : Decidable (okC c) := by unfold okC; infer_instance
def hasId (l : List Ch) (id : Int) : Bool := l.any fun c => decide (c.id = id)
/-- What New answers to the rest of a list, once the first ones were taken. -/
def newE : List Ch → List Ch → Int
  | _, [] => 0
  | pre, c :: r => if ¬ okC c then 1 else if hasId pre c.id = true then 9 else newE (pre ++ [c]) r
theorem newE_step {L : List Ch} {i : Nat} (h : i < L.length) : newE (L.take i) (L.drop i) = if ¬ okC L[i] then 1 else if hasId (L.take i) L[i].id = true then 9 else newE (L.take (i + 1)) (L.drop (i + 1)) := by
  rw [List.drop_eq_getElem_cons h, List.take_succ_eq_append_getElem h]
  rfl

/-- The place of a channel, or -1. -/
def at_ (l : List Ch) (id : Int) : Nat := fidx (fun c => decide (c.id = id)) l
def fi (l : List Ch) (id : Int) : Int := if at_ l id < l.length then (at_ l id : Int) else -1
theorem hasId_iff (l : List Ch) (id : Int) : hasId l id = true ↔ at_ l id < l.length := by
  unfold hasId at_
  rw [List.any_eq_true]
  constructor
  · rintro ⟨c, hc, h⟩
    refine Classical.byContradiction fun hn => ?_
    obtain ⟨j, hj, rfl⟩ := List.getElem_of_mem hc
    have := fidx_before (fun c : Ch => decide (c.id = id)) l j hj (by omega)
    rw [h] at this
    cases this
  · intro h
    exact ⟨_, List.getElem_mem h, fidx_here (fun c : Ch => decide (c.id = id)) l h⟩
theorem hasId_map (l : List Ch) (id : Int) : hasId (l.map new0) id = hasId l id := by
  unfold hasId
  rw [List.any_map]
  rfl
/-- The multiplexer in block g. -/
def Mx (w : World) (g : Nat) (S : List Nat) (l : List Ch) : Prop := ∃ b c, S = [g, b] ∧ Blk w g 50 [.slice (some (base b)) l.length c] ∧ Own w 52 5 (some (base b)) l.length c (l.flatMap chv)
section
variable {w w' : World} {g : Nat} {S : List Nat} {l : List Ch}
theorem Mx.mod {T : List Nat} (h : Mx w g S l) (hm : Mod T w w') (hd : ∀ x ∈ S, x ∉ T) : Mx w' g S l := by
  obtain ⟨b, c, rfl, hb, ho⟩ := h
  exact ⟨b, c, rfl, hb.mod hm (hd g (by simp)), ho.mod hm (fun x hx => hd x (by simp [fp, base] at hx; simp [hx]))⟩
theorem Mx.lt (h : Mx w g S l) : ∀ x ∈ S, x < w.heap.size := by
  obtain ⟨b, c, rfl, hb, ho⟩ := h
  intro x hx
  simp at hx
  rcases hx with rfl | rfl
  · exact hb.lt
  · exact ho.lt _ (by simp [fp, base])
theorem Mx.nil (h : Mx w g S l) : l.length ≤ 1000000 ∨ True := .inr trivial
end
theorem rd0 {w : World} {p : Addr} {c : Ch} {i : Nat} (hc : ∀ j v, (chv c)[j]? = some v → w.cell? ((p.add (i * 5)).add j) = some v) : w.cell? (p.add (i * 5)) = some (.int .i64 c.id) := by
  have := hc 0 _ rfl; rw [add_zero] at this; exact this
section
variable {w : World} {g : Nat} {S : List Nat} {l : List Ch} (h : Mx w g S l)
include h
theorem find_ok (hl : l.length ≤ 1000) (id : Int) : Does Try.prog 16 #[.pointer (some (base g)), .int .i64 id] w fun v w' => v = .int .i64 (fi l id) ∧ Mod [] w w' := by
  obtain ⟨b, c, rfl, hb, ho⟩ := h
  apply w16
  unfold F16
  refine New.use fun w1 h1 m1 z1 => ?_
  rw [if_neg (by simp)]
  have q : Does Try.prog 26 #[.slice (some (base b)) l.length c, .func (.func 27) #[] #[.pointer (some (base w.heap.size))]] w1 fun v w' => v = .int .i64 (fi l id) ∧ Mod [] w w' := by
    apply w26c27
    unfold F26c27
    refine LoopP.of (fun (x : Int) w' => ∃ i : Nat, i ≤ l.length ∧ x = (i : Int) ∧ Mod [] w1 w' ∧ ∀ j (hj : j < i) (hjl : j < l.length), l[j].id ≠ id) (fun x _ => l.length - x.toNat) ⟨0, by omega, rfl, Mod.refl _, by omega⟩ ?_
    rintro _ w2 ⟨i, hi, rfl, m2, hb2⟩
    unfold F26c27_b1
    refine iteI (fun hlt => ?_) (fun hlt => ?_)
    · have hlt : i < l.length := by omega
      obtain ⟨p, hp, hc⟩ := (ho.rd.mod (m1.none m2) (by simp)).flat (chv_len _) (by decide) hlt
      refine ⟨p, hp, by omega, by omega, _, _, _, _, _, ⟨by have := hc 0 _ rfl; rw [add_zero] at this; rw [Int.toNat_natCast, add_zero]; exact this, hc 1 _ rfl, hc 2 _ rfl, hc 3 _ rfl, hc 4 _ rfl, trivial⟩, ?_⟩
      apply w27
      unfold F27
      refine New.use fun w3 h3 m3 z3 => ?_
      refine ⟨_, h3.cell0, _, rfl, _, ((h1.mod m2 (by simp)).mod m3 (by simp)).cell0, _, rfl, iteI (fun hh => ?_) (fun hh => ?_)⟩
      · have hid : l[i].id = id := of_decide_eq_true hh
        have e : at_ l id = i := fidx_at _ l i hlt hh (fun j hj => decide_eq_false (hb2 j hj (by omega)))
        refine ⟨?_, (m1.none m2).none m3⟩
        unfold fi
        rw [e, if_pos hlt]
      · have hid : l[i].id ≠ id := by simpa using hh
        rw [wi64 (by omega)]
        refine ⟨_, by omega, ⟨i + 1, by omega, by omega, m2.none m3, fun j hj hjl => ?_⟩, rfl⟩
        by_cases hji : j = i
        · subst hji; exact hid
        · exact hb2 j (by omega) hjl
    · have : i = l.length := by omega
      subst this
      have e : at_ l id = l.length := fidx_none _ l (fun j hj => decide_eq_false (hb2 j hj hj))
      refine ⟨?_, m1.none m2⟩
      unfold fi
      rw [e, if_neg (by omega)]
  refine ⟨_, rfl, _, _, _, (hb.mod m1 (by simp)).cell0, q.mono ?_⟩
  rintro _ w2 ⟨rfl, m2⟩
  exact ⟨_, rfl, rfl, m2⟩
/-- How often a channel was selected. -/
def sentOf (l : List Ch) (id : Int) : Int := match l[at_ l id]? with | some c => c.sn | none => 0
theorem sent_ok (hl : l.length ≤ 1000) (id : Int) : Does Try.prog 11 #[.pointer (some (base g)), .int .i64 id] w fun v w' => v = .int .i64 (sentOf l id) ∧ Mod [] w w' := by
  apply w11
  unfold F11
  refine (find_ok h hl id).mono ?_
  rintro _ w1 ⟨rfl, m1⟩
  refine ⟨_, rfl, ?_⟩
  unfold fi sentOf
  by_cases hlt : at_ l id < l.length
  · rw [if_pos hlt, if_neg (by omega), List.getElem?_eq_getElem hlt]
    obtain ⟨b, c, rfl, hb, ho⟩ := h.mod m1 (by simp)
    obtain ⟨p, hp, hc⟩ := ho.rd.flat (chv_len _) (by decide) hlt
    exact ⟨_, rfl, _, _, _, hb.cell0, p, hp, by omega, by omega, _, hc 4 _ rfl, rfl, m1⟩
  · rw [if_neg hlt, if_pos (by omega), List.getElem?_eq_none (by omega)]
    exact ⟨rfl, m1⟩
theorem clone_ok (hl : l.length ≤ 1000) : Does Try.prog 13 #[.pointer (some (base g))] w fun v w' => ∃ g' S', v = .pointer (some (base g')) ∧ Mx w' g' S' l ∧ Mod [] w w' ∧ ∀ y ∈ S', w.heap.size ≤ y := by
  obtain ⟨b, c, rfl, hb, ho⟩ := h
  apply w13
  unfold F13
  rw [if_neg (by simp)]
  refine ⟨_, rfl, _, _, _, hb.cell0, ?_⟩
  rw [if_neg (by simp)]
  refine New.use fun w1 h1 m1 z1 => ?_
  obtain ⟨a', c', w2, run, o2, m2, f2⟩ := append_own (d := c) Try.underlying48 elem52 48 (Own.blk (n := 0) h1 rfl (by decide)) (ho.rd.mod m1 (by simp)) (m := l.length) (chv_flen l) (chv_one l) (by omega) (by omega)
  rw [Nat.zero_add] at run o2
  rw [List.nil_append] at o2
  refine ⟨_, _, _, (hb.mod m1 (by simp)).cell0, _, _, _, w2, run, New.use fun w3 h3 m3 z3 => ?_⟩
  have z2 := m2.size
  have hb2 : ∃ b', a' = some (base b') ∧ w.heap.size ≤ b' := by
    rcases o2.2 with ⟨ha, _⟩ | ⟨b', r, ha, _⟩
    · exfalso
      subst ha
      rcases f2 with f | f <;> simp [fp] at f
    · refine ⟨b', ha, ?_⟩
      subst ha
      rcases f2 with f | f <;> simp [fp, base] at f <;> omega
  obtain ⟨b', rfl, hb'⟩ := hb2
  refine ⟨w2.heap.size, [w2.heap.size, b'], rfl, ⟨b', c', rfl, h3, o2.mod m3 (by simp)⟩, (m1.trans m2 (fun y hy => .inr (by simp [fp, base] at hy; omega))).none m3, fun y hy => ?_⟩
  simp at hy
  rcases hy with rfl | rfl <;> omega
end
/-- New: a multiplexer, or an error. -/
def NewR (L : List Ch) (w : World) (v : Value) (w' : World) : Prop := Mod [] w w' ∧ ((newE [] L ≠ 0 ∧ v = .tuple #[.pointer none, .int .i64 (newE [] L)]) ∨ (newE [] L = 0 ∧ ∃ g S, v = .tuple #[.pointer (some (base g)), .int .i64 0] ∧ Mx w' g S (L.map new0) ∧ ∀ y ∈ S, w.heap.size ≤ y))
theorem new_ok {w : World} {a : Option Addr} {L : List Ch} (c : Nat) (hr : Rd w a (L.flatMap chc)) (hl : L.length ≤ 1000) : Does Try.prog 8 #[.slice a L.length c] w (NewR L w) := by
  apply w8
  unfold F8
  refine New.use fun w1 h1 m1 z1 => ?_
  refine New.use fun w2 h2 m2 z2 => ?_
  have M2 := m1.none m2
  have h12 := h1.mod m2 (by simp)
  refine LoopP.of (fun (x : Int) w' => ∃ (i : Nat) (b : Nat), i ≤ L.length ∧ x = (i : Int) ∧ Mod [] w w' ∧ w.heap.size ≤ b ∧ Mx w' w1.heap.size [w1.heap.size, b] ((L.take i).map new0) ∧ newE [] L = newE (L.take i) (L.drop i)) (fun x _ => L.length - x.toNat) ⟨0, w.heap.size, by omega, rfl, M2, Nat.le_refl _, ⟨_, 0, rfl, h2, Own.blk (n := 0) h12 rfl (by decide)⟩, rfl⟩ ?_
  rintro _ w3 ⟨i, b, hi, rfl, M3, hb, X, hE⟩
  unfold F8_b1
  refine iteI (fun hlt => ?_) (fun hlt => ?_)
  · have hlt : i < L.length := by omega
    obtain ⟨p, rfl, hc⟩ := (hr.mod M3 (by simp)).flat (chc_len _) (by decide) hlt
    refine ⟨p, rfl, by omega, by omega, _, _, _, ⟨by have := hc 0 _ rfl; rw [add_zero] at this; rw [Int.toNat_natCast, add_zero]; exact this, hc 1 _ rfl, hc 2 _ rfl, trivial⟩, ?_⟩
    refine New.put rfl fun w4 h4 m4 z4 => ?_
    have M4 := M3.none m4
    have X4 := X.mod m4 (by simp)
    rw [newE_step hlt] at hE
    have bad : ∀ (nx : Int → World → Prop), ¬ okC L[i] → F8_j2 (base w3.heap.size) (base w1.heap.size) (i : Int) true w4 (NewR L w) nx := by
      intro nx hbad
      unfold F8_j2
      rw [if_pos rfl]
      rw [if_pos hbad] at hE
      exact ⟨M4, .inl ⟨by rw [hE]; decide, by rw [hE]⟩⟩
    have e1 : IntKind.i64.wrap ((i : Int) + 1) = ((i + 1 : Nat) : Int) := by rw [wi64 (by omega)]; omega
    refine ⟨_, h4.cell0, iteI (fun hh => bad _ (fun ok => by have := ok.1; omega)) (fun k1 => ?_)⟩
    refine ⟨_, h4.cell0, iteI (fun hh => bad _ (fun ok => by have := ok.2.1; omega)) (fun k2 => ?_)⟩
    refine ⟨_, h4.cell (i := 1) rfl, iteI (fun hh => bad _ (fun ok => by have := ok.2.2.1; omega)) (fun k3 => ?_)⟩
    refine ⟨_, h4.cell (i := 1) rfl, iteI (fun hh => bad _ (fun ok => by have := ok.2.2.2.1; omega)) (fun k4 => ?_)⟩
    refine ⟨_, h4.cell (i := 2) rfl, iteI (fun hh => bad _ (fun ok => by have := ok.2.2.2.2.1; omega)) (fun k5 => ?_)⟩
    refine ⟨_, h4.cell (i := 2) rfl, ?_⟩
    by_cases k6 : 100 < L[i].wt
    · rw [decide_eq_true k6]
      exact bad _ (fun ok => by have := ok.2.2.2.2.2; omega)
    · rw [decide_eq_false k6]
      have ok : okC L[i] := ⟨by omega, by omega, by omega, by omega, by omega, by omega⟩
      rw [if_neg (fun h => h ok)] at hE
      unfold F8_j2
      rw [if_neg (by simp)]
      refine ⟨_, h4.cell0, (find_ok X4 (by simp; omega) L[i].id).mono ?_⟩
      rintro _ w5 ⟨rfl, m5⟩
      have M5 := M4.none m5
      refine ⟨_, rfl, ?_⟩
      have hfi : (0 ≤ fi ((L.take i).map new0) L[i].id) ↔ hasId (L.take i) L[i].id = true := by
        rw [← hasId_map, hasId_iff]
        unfold fi
        split
        · exact ⟨fun _ => by assumption, fun _ => by omega⟩
        · exact ⟨fun h => by omega, fun h => by contradiction⟩
      refine iteI (fun hh => ?_) (fun hh => ?_)
      · rw [if_pos (hfi.1 hh)] at hE
        exact ⟨M5, .inl ⟨by rw [hE]; decide, by rw [hE]⟩⟩
      · rw [if_neg (fun h => hh (hfi.2 h))] at hE
        have X5 := X4.mod m5 (by simp)
        have md : Mod [] w5 w5.drew := Mod.drew w5
        obtain ⟨b', cc, hS, hb5, ho5⟩ := X5.mod md (by simp)
        cases hS
        have h5 : Blk w5.drew w3.heap.size 35 _ := h4.mod (m5.none md) (by simp)
        refine ⟨_, _, _, hb5.cell0, _, _, _, h5.cells, New.use fun w6 h6 m6 z6 => ?_⟩
        have hb6 := hb5.mod m6 (by simp)
        have M6 := (M5.none md).none m6
        have hln : ((L.take i).map new0).length = i := by simp; omega
        obtain ⟨a', c', w7, run, o7, m7, f7⟩ := append_own (d := 1) Try.underlying48 elem52 48 (ho5.mod m6 (by simp)) (Rd.blk h6) (m := 1) rfl (by intro u hu; simp at hu; rcases hu with rfl | rfl | rfl | rfl <;> rfl) (by rw [hln]; omega) (by rw [hln]; omega)
        refine ⟨hb6.cell0, a', _, c', w7, run, ?_⟩
        have hgb : w1.heap.size ∉ fp (some (base b)) := (ho5.ne hb5 (by decide))
        have hb7 := hb6.mod m7 hgb
        have z3 := M3.size
        have zz : w.heap.size ≤ w6.heap.size := M6.size
        have hbb : ∃ b', a' = some (base b') ∧ w.heap.size ≤ b' := by
          rcases o7.2 with ⟨ha, h0, _⟩ | ⟨b', r, ha, _⟩
          · omega
          · refine ⟨b', ha, ?_⟩
            subst ha
            rcases f7 with f | f <;> simp [fp, base] at f <;> omega
        obtain ⟨b', rfl, hb'⟩ := hbb
        have hgb' : w1.heap.size ∉ fp (some (base b')) := o7.ne hb7 (by decide)
        refine Put.use0 hb7 (by simp) fun w8 h8 m8 => ?_
        have o8 := o7.mod m8 (fun y hy hy' => by simp only [List.mem_singleton] at hy'; subst hy'; exact hgb' hy)
        rw [e1]
        have etk : (L.take (i + 1)).map new0 = (L.take i).map new0 ++ [new0 L[i]] := by rw [List.take_succ_eq_append_getElem hlt, List.map_append]; rfl
        refine ⟨_, by omega, ⟨i + 1, b', by omega, rfl, ?_, hb', ⟨b', c', rfl, ?_, ?_⟩, hE⟩, rfl⟩
        · refine (M6.trans m7 (fun y hy => .inr (by simp [fp, base] at hy; omega))).trans m8 (fun y hy => .inr ?_)
          simp only [List.mem_singleton] at hy
          have := m1.size
          omega
        · rw [etk, List.length_append]; exact h8
        · rw [etk, List.length_append, List.flatMap_append]; exact o8
  · have : i = L.length := by omega
    subst this
    rw [List.take_length] at X hE
    rw [List.drop_length] at hE
    refine ⟨M3, .inr ⟨hE, _, _, rfl, X, fun y hy => ?_⟩⟩
    have := m1.size
    simp at hy
    rcases hy with rfl | rfl <;> omega
end Go.Proofs.Ytjjhghcaecodpaa
