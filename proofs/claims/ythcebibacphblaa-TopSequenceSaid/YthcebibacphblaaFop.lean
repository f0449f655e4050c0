/-
  The sending and the receiving end: their memory, and the contracts of their functions.
-/
import Derived.Test.YthcebibacphblaaForms
import Derived.Test.YthcebibacphblaaHeap
namespace Go.Proofs.Ythcebibacphblaa
open Go Go.Sh Go.Proofs
set_option linter.unusedVariables false
set_option linter.unusedSimpArgs false
set_option linter.unusedSectionVars false

theorem elem5 : Elem Try.prog 5 1 1 := Elem.of (v := .int .u8 0) (by kernel_rfl) rfl (by decide)
theorem elem28 : Elem Try.prog 28 1 24 := Elem.of (v := .slice none 0 0) (by kernel_rfl) rfl (by decide)
theorem clone17 {w : World} {a : Option Addr} {l : List UInt8} (c : Nat) (hr : Rd w a (l.map bv)) (hn : l.length ≤ 1000000) :
    Does Try.prog 17 #[.slice a l.length c] w fun v w' => ∃ a' c', v = .slice a' l.length c' ∧ Own w' 5 1 a' l.length c' (l.map bv) ∧ Mod [] w w' := by
  apply w17
  unfold F17
  refine iteI (fun h => ?_) (fun h => ?_)
  · have ha : a = none := by cases a; rfl; simp at h
    subst ha
    have hv : l = [] := by rcases hr with h | ⟨p, h, _⟩; exact List.map_eq_nil_iff.1 h; cases h
    subst hv
    exact ⟨none, 0, rfl, Own.nil, Mod.refl _⟩
  · refine New.use fun w1 h1' m1 z1 => ?_
    obtain ⟨a', c', w2, run, o2, m2, f2⟩ := append_own (m := l.length) (d := c) Try.underlying28 elem5 28 (Own.blk (n := 0) h1' rfl (by decide)) (hr.mod m1 (by simp)) (by simp) (bv_one l) (by omega) (by omega)
    rw [Nat.zero_add] at run o2
    rw [List.nil_append] at o2
    exact ⟨_, _, _, w2, run, a', c', rfl, o2, m1.trans m2 (fun x hx => .inr (by simp [fp, base] at hx; omega))⟩
theorem clone27 {w : World} {a : Option Addr} {l : List UInt8} (c : Nat) (hr : Rd w a (l.map bv)) (hn : l.length ≤ 1000000) :
    Does Try.prog 27 #[.slice a l.length c] w fun v w' => ∃ a' c', v = .slice a' l.length c' ∧ Own w' 5 1 a' l.length c' (l.map bv) ∧ Mod [] w w' := by
  apply w27
  unfold F27
  refine iteI (fun h => ?_) (fun h => ?_)
  · have ha : a = none := by cases a; rfl; simp at h
    subst ha
    have hv : l = [] := by rcases hr with h | ⟨p, h, _⟩; exact List.map_eq_nil_iff.1 h; cases h
    subst hv
    exact ⟨none, 0, rfl, Own.nil, Mod.refl _⟩
  · refine New.use fun w1 h1' m1 z1 => ?_
    obtain ⟨a', c', w2, run, o2, m2, f2⟩ := append_own (m := l.length) (d := c) Try.underlying28 elem5 28 (Own.blk (n := 0) h1' rfl (by decide)) (hr.mod m1 (by simp)) (by simp) (bv_one l) (by omega) (by omega)
    rw [Nat.zero_add] at run o2
    rw [List.nil_append] at o2
    exact ⟨_, _, _, w2, run, a', c', rfl, o2, m1.trans m2 (fun x hx => .inr (by simp [fp, base] at hx; omega))⟩

/-! ### Numbers -/
theorem serialOk (n : Nat) (h : n < 256) (w : World) : Does Try.prog 33 #[.int .i64 (n : Int), .int .i64 8] w fun v w' => v = .bool true ∧ w = w' := by
  apply w33
  unfold F33
  rw [if_pos (by decide), if_pos (by decide), if_pos (by omega)]
  refine ⟨by decide, ?_, rfl⟩
  have e : shl .i64 1 8 = 256 := by decide
  rw [e, decide_eq_true (by omega)]
theorem add_ok (n : Nat) (h : n < 256) (x : Int) (w : World) : Does Try.prog 32 #[.int .i64 (n : Int), .int .i64 x, .int .i64 8] w fun v w' => v = .int .i64 (((n : Int) + x) % 256) ∧ w = w' := by
  apply w32
  unfold F32
  refine (serialOk n h w).mono ?_
  rintro _ _ ⟨rfl, rfl⟩
  refine ⟨_, rfl, ?_⟩
  rw [if_neg (by simp)]
  have e : shl .u64 1 8 = 256 := by decide
  rw [e]
  refine ⟨by decide, by decide, ?_, rfl⟩
  rw [wu64, wu64, wu64, Int.tmod_eq_emod_of_nonneg (by omega), wi64 (by omega)]
  congr 1
  omega
theorem dist_ok (a b : Nat) (ha : a < 256) (hb : b < 256) (w : World) : Does Try.prog 29 #[.int .i64 (a : Int), .int .i64 (b : Int), .int .i64 8] w fun v w' => v = .int .i64 (((b + 256 - a) % 256 : Nat) : Int) ∧ w = w' := by
  apply w29
  unfold F29
  refine (serialOk a ha w).mono ?_
  rintro _ _ ⟨rfl, rfl⟩
  refine ⟨_, rfl, ?_⟩
  rw [if_neg (by simp)]
  refine (serialOk b hb _).mono ?_
  rintro _ _ ⟨rfl, rfl⟩
  refine ⟨_, rfl, ?_⟩
  rw [if_neg (by simp), wi64 (by omega)]
  refine (add_ok b hb _ _).mono ?_
  rintro _ _ ⟨rfl, rfl⟩
  refine ⟨_, rfl, ?_, rfl⟩
  congr 1
  omega

/-! ### Memory -/
structure Dt where
  a : Option Addr
  l : List UInt8
  c : Nat
def Dt.val (d : Dt) : Value := .slice d.a d.l.length d.c
def Dt.ok (w : World) (d : Dt) : Prop := Own w 5 1 d.a d.l.length d.c (d.l.map bv) ∧ 1 ≤ d.l.length ∧ d.l.length ≤ 1017
structure Fs where
  A : Nat
  S : Nat
  H : Nat
  st : Nat
  now : Nat
  last : Nat
  tries : Nat
structure Gs where
  L : Bool
  W : Bool
  R : Bool
  V : Nat
abbrev iv (n : Nat) : Value := .int .i64 (n : Int)
abbrev Fc (s : Fs) (ua : Option Addr) (un uc : Nat) : List Value := [.int .i64 8, .slice ua un uc, iv s.A, iv s.S, iv s.H, .bool true, .int .i64 5, .int .i64 1, .int .i64 3, .int .i64 255, iv s.st, .slice none 0 0, iv s.now, iv s.last, iv s.tries]
abbrev Gc (q : Gs) : List Value := [.int .i64 5, .int .i64 8, .int .i64 1, .bool q.L, .bool q.W, .bool q.R, .int .i64 0, iv q.V]

/-- What a call of either end leaves alone. -/
def Bk (w w' : World) : Prop := w.heap.size ≤ w'.heap.size ∧ ∀ x t vs, t ≠ 49 → t ≠ 28 → t ≠ 51 → Blk w x t vs → Blk w' x t vs
theorem Bk.refl (w : World) : Bk w w := ⟨Nat.le_refl _, fun _ _ _ _ _ _ h => h⟩
theorem Bk.trans {w w' w'' : World} (h : Bk w w') (h' : Bk w' w'') : Bk w w'' := ⟨Nat.le_trans h.1 h'.1, fun x t vs a b c hb => h'.2 x t vs a b c (h.2 x t vs a b c hb)⟩
theorem Bk.of {w w' : World} (m : Mod [] w w') : Bk w w' := ⟨m.size, fun x t vs _ _ _ h => h.mod m (by simp)⟩
theorem Bk.loc {w w' w'' : World} (h : Bk w w') {x : Nat} (hx : w.heap.size ≤ x) (m : Mod [x] w' w'') : Bk w w'' :=
  ⟨Nat.le_trans h.1 m.size, fun y t vs a b c hb => (h.2 y t vs a b c hb).mod m (by have := hb.lt; simp; omega)⟩
theorem Bk.own {w w' : World} (h : Bk w w') {a : Option Addr} {n c : Nat} {vs : List Value} (o : Own w 5 1 a n c vs) : Own w' 5 1 a n c vs := by
  refine ⟨o.1, ?_⟩
  rcases o.2 with h' | ⟨g, r, rfl, hb, h'⟩
  · exact .inl h'
  · exact .inr ⟨g, r, rfl, h.2 _ _ _ (by decide) (by decide) (by decide) hb, h'⟩

def Bun (w0 : World) (gf gg : Nat) (w : World) (s : Fs) (D : List Dt) (q : Gs) : Prop :=
  Mod [] w0 w ∧ w0.heap.size ≤ gf ∧ w0.heap.size ≤ gg ∧ Blk w gg 51 (Gc q) ∧ (∀ d ∈ D, d.ok w) ∧ ∃ ua uc, Blk w gf 49 (Fc s ua D.length uc) ∧ Win w 28 1 ua D.length uc (D.map Dt.val) ∧ ∀ x ∈ fp ua, w0.heap.size ≤ x

section
variable {w0 w : World} {gf gg : Nat} {s : Fs} {D : List Dt} {q : Gs} (h : Bun w0 gf gg w s D q)
include h
theorem Bun.mod {S : List Nat} {w' : World} (m : Mod S w w') (hS : ∀ x ∈ S, w0.heap.size ≤ x ∧ ∃ t vs, Blk w x t vs ∧ t ≠ 49 ∧ t ≠ 28 ∧ t ≠ 5 ∧ t ≠ 51) : Bun w0 gf gg w' s D q := by
  obtain ⟨m0, z1, z2, hg, hD, ua, uc, hf, hw, hu⟩ := h
  have no : ∀ {g t vs}, Blk w g t vs → t = 49 ∨ t = 51 → g ∉ S := by
    intro g t vs hb ht hx
    obtain ⟨_, t', vs', hb', h1, h2, h3, h4⟩ := hS g hx
    rcases ht with e | e
    · exact Blk.ne hb hb' (fun e' => h1 (by rw [← e', e])) rfl
    · exact Blk.ne hb hb' (fun e' => h4 (by rw [← e', e])) rfl
  refine ⟨m0.trans m (fun x hx => .inr (hS x hx).1), z1, z2, hg.mod m (no hg (.inr rfl)), fun d hd => ⟨(hD d hd).1.mod m (fun x hx hx' => ?_), (hD d hd).2⟩, ua, uc, hf.mod m (no hf (.inl rfl)), hw.mod m (fun x hx hx' => ?_), hu⟩
  · obtain ⟨_, t', vs', hb', h1, h2, h3, h4⟩ := hS x hx'
    exact (hD d hd).1.ne hb' (fun e => h3 e.symm) hx
  · obtain ⟨_, t', vs', hb', h1, h2, h3, h4⟩ := hS x hx'
    exact hw.ne hb' (fun e => h2 e.symm) hx
theorem Bun.none {w' : World} (m : Mod [] w w') : Bun w0 gf gg w' s D q := h.mod m (by simp)
theorem Bun.drew : Bun w0 gf gg w.drew s D q := h.none (Mod.drew w)
theorem Bun.cell {i : Nat} {v : Value} (he : ∀ ua uc, (Fc s ua D.length uc)[i]? = some v) : w.cell? ((base gf).add i) = some v := by
  obtain ⟨m0, z1, z2, hg, hD, ua, uc, hf, hw, hu⟩ := h
  exact hf.cell (he ua uc)
theorem Bun.cell0 : w.cell? (base gf) = some (.int .i64 8) := by
  obtain ⟨m0, z1, z2, hg, hD, ua, uc, hf, hw, hu⟩ := h
  exact hf.cell0
theorem Bun.gcell {i : Nat} {v : Value} (he : (Gc q)[i]? = some v) : w.cell? ((base gg).add i) = some v := by
  obtain ⟨m0, z1, z2, hg, hD, ua, uc, hf, hw, hu⟩ := h
  exact hg.cell he
theorem Bun.gcell0 : w.cell? (base gg) = some (.int .i64 5) := by
  obtain ⟨m0, z1, z2, hg, hD, ua, uc, hf, hw, hu⟩ := h
  exact hg.cell0
theorem Bun.put {s' : Fs} {i : Nat} {v : Value} {k : World → Prop} (hi : i < 15) (he : ∀ ua uc, (Fc s ua D.length uc).set i v = Fc s' ua D.length uc) (hk : ∀ w', Bun w0 gf gg w' s' D q → Bk w w' → k w') : Put w ((base gf).add i) v k := by
  obtain ⟨m0, z1, z2, hg, hD, ua, uc, hf, hw, hu⟩ := h
  refine Put.use hf (by simpa using hi) fun w' hf' m => hk w' ?_ ?_
  · rw [he] at hf'
    refine ⟨m0.trans m (fun x hx => .inr (by simp at hx; omega)), z1, z2, hg.mod m ?_, fun d hd => ⟨(hD d hd).1.mod m ?_, (hD d hd).2⟩, ua, uc, hf', hw.mod m ?_, hu⟩
    · simp; exact Blk.ne hg hf (by decide)
    · intro x hx hx'; simp at hx'; subst hx'; exact (hD d hd).1.ne hf (by decide) hx
    · intro x hx hx'; simp at hx'; subst hx'; exact hw.ne hf (by decide) hx
  · exact ⟨m.size, fun x t vs h1 h2 h3 hb => hb.mod m (by simp; exact Blk.ne hb hf h1)⟩
theorem Bun.gput {q' : Gs} {i : Nat} {v : Value} {k : World → Prop} (hi : i < 8) (he : (Gc q).set i v = Gc q') (hk : ∀ w', Bun w0 gf gg w' s D q' → Bk w w' → k w') : Put w ((base gg).add i) v k := by
  obtain ⟨m0, z1, z2, hg, hD, ua, uc, hf, hw, hu⟩ := h
  refine Put.use hg (by simpa using hi) fun w' hg' m => hk w' ?_ ?_
  · rw [he] at hg'
    refine ⟨m0.trans m (fun x hx => .inr (by simp at hx; omega)), z1, z2, hg', fun d hd => ⟨(hD d hd).1.mod m ?_, (hD d hd).2⟩, ua, uc, hf.mod m ?_, hw.mod m ?_, hu⟩
    · intro x hx hx'; simp at hx'; subst hx'; exact (hD d hd).1.ne hg (by decide) hx
    · simp; exact Blk.ne hf hg (by decide)
    · intro x hx hx'; simp at hx'; subst hx'; exact hw.ne hg (by decide) hx
  · exact ⟨m.size, fun x t vs h1 h2 h3 hb => hb.mod m (by simp; exact Blk.ne hb hg h3)⟩
/-- A store into a local block. -/
theorem Bun.loc {x t : Nat} {vs : List Value} {w' : World} (hb : Blk w x t vs) (ht : t ≠ 49 ∧ t ≠ 28 ∧ t ≠ 5 ∧ t ≠ 51) (hx : w0.heap.size ≤ x) (m : Mod [x] w w') : Bun w0 gf gg w' s D q :=
  h.mod m (fun y hy => by have e := List.mem_singleton.1 hy; subst e; exact ⟨hx, t, vs, hb, ht.1, ht.2.1, ht.2.2.1, ht.2.2.2⟩)
theorem Bun.size : w0.heap.size ≤ w.heap.size := h.1.size

/-! ### The small functions -/
theorem usable_ok : Does Try.prog 16 #[.pointer (some (base gf))] w fun v w' => v = .bool true ∧ w = w' := by
  apply w16
  unfold F16
  rw [if_pos (by simp)]
  exact ⟨_, rfl, _, h.cell (i := 5) (fun _ _ => rfl), rfl, rfl⟩
omit h in
def Fs.clk (s : Fs) (t : Nat) : Fs := { s with now := max s.now t }
theorem clock_ok (t : Nat) (ht : t ≤ 1000) : Does Try.prog 18 #[.pointer (some (base gf)), .int .i64 (t : Int)] w fun v w' => v = .tuple #[] ∧ Bun w0 gf gg w' (s.clk t) D q ∧ Bk w w' := by
  apply w18
  unfold F18
  rw [if_pos (by omega)]
  refine ⟨_, rfl, _, h.cell (i := 12) (fun _ _ => rfl), h.put (s' := s.clk t) (by decide) (fun ua uc => ?_) fun w' h' b' => ⟨rfl, h', b'⟩⟩
  have e : max (s.now : Int) (t : Int) = ((max s.now t : Nat) : Int) := by omega
  rw [e]
  rfl
theorem waiting_ok : Does Try.prog 19 #[.pointer (some (base gf))] w fun v w' => v = .bool (decide (s.S < min 8 D.length)) ∧ Bun w0 gf gg w' s D q ∧ Bk w w' := by
  apply w19
  unfold F19
  have hd := h.drew
  obtain ⟨m0, z1, z2, hg, hD, ua, uc, hf, hw, hu⟩ := h.drew
  refine ⟨_, rfl, _, hf.cell (i := 3) rfl, _, hf.cell0, _, _, _, hf.cell (i := 1) rfl, ?_, hd, Bk.of (Mod.drew w)⟩
  congr 1
  rw [decide_eq_decide]
  omega
omit h in
def Fs.rep (s : Fs) : Fs := { s with S := 0 }
theorem repeat_ok : Does Try.prog 20 #[.pointer (some (base gf))] w fun v w' => v = .tuple #[] ∧ Bun w0 gf gg w' s.rep D q ∧ Bk w w' := by
  apply w20
  unfold F20
  exact ⟨_, rfl, h.put (s' := s.rep) (by decide) (fun ua uc => rfl) fun w' h' b' => ⟨rfl, h', b'⟩⟩
theorem none_ok : Does Try.prog 22 #[.pointer (some (base gg))] w fun v w' => v = .bool false ∧ w = w' := by
  apply w22
  unfold F22
  rw [if_neg (by simp)]
  refine ⟨_, rfl, _, h.gcell (i := 1) rfl, ?_, rfl⟩
  simp
theorem queued_ok : Does Try.prog 12 #[.pointer (some (base gf))] w fun v w' => v = .int .i64 (D.length : Int) ∧ w = w' := by
  apply w12
  unfold F12
  refine (usable_ok h).mono ?_
  rintro _ _ ⟨rfl, rfl⟩
  refine ⟨_, rfl, ?_⟩
  rw [if_neg (by simp)]
  obtain ⟨m0, z1, z2, hg, hD, ua, uc, hf, hw, hu⟩ := h
  exact ⟨_, rfl, _, _, _, hf.cell (i := 1) rfl, rfl, rfl⟩
theorem acked_ok : Does Try.prog 13 #[.pointer (some (base gf))] w fun v w' => v = .int .i64 (s.A : Int) ∧ w = w' := by
  apply w13
  unfold F13
  refine (usable_ok h).mono ?_
  rintro _ _ ⟨rfl, rfl⟩
  refine ⟨_, rfl, ?_⟩
  rw [if_neg (by simp)]
  exact ⟨_, rfl, _, h.cell (i := 2) (fun _ _ => rfl), rfl, rfl⟩
theorem state_ok : Does Try.prog 14 #[.pointer (some (base gf))] w fun v w' => v = .int .i64 (s.st : Int) ∧ w = w' := by
  apply w14
  unfold F14
  refine (usable_ok h).mono ?_
  rintro _ _ ⟨rfl, rfl⟩
  refine ⟨_, rfl, ?_⟩
  rw [if_neg (by simp)]
  exact ⟨_, rfl, _, h.cell (i := 10) (fun _ _ => rfl), rfl, rfl⟩
end
end Go.Proofs.Ythcebibacphblaa
