import Derived.Test.YtnaomgfdcadncaaBase
import Derived.Maps.AppendAt
import Derived.Below
import Derived.Laws.IdiomStrings
import Derived.Laws.Strings
import Derived.Laws.AppendOwn
import Derived.Laws.CopyRow
import Derived.Laws.MakeOwn
import Derived.Laws.StructEq
import Derived.ArgAppend
import Derived.Lib.Overlaps
/-
  Words for memory, for the second step (no frame, no code): what a block holds, what a slice reads as, which blocks a call may have changed, what append does to a slice of the call's own.
-/
namespace Go.Sh
open Go
set_option linter.unusedVariables false

def base (g : Nat) : Addr := ⟨g, 0, none⟩
theorem base_block (g : Nat) : (base g).block = g := rfl
theorem fresh_base (w : World) : fresh w = base w.heap.size := rfl
theorem add_zero (a : Addr) : a.add 0 = a := by simp [Addr.add]
theorem add_block (a : Addr) (n : Nat) : (a.add n).block = a.block := by unfold Addr.add; split <;> rfl
theorem add_add (a : Addr) (i j : Nat) : (a.add i).add j = a.add (i + j) := by
  unfold Addr.add
  by_cases hi : i = 0 <;> by_cases hj : j = 0 <;> simp [hi, hj, Nat.add_assoc]
theorem base_add (g i : Nat) : (base g).add i = ⟨g, i, none⟩ := by
  unfold base Addr.add
  by_cases h : i = 0 <;> simp [h]
theorem base_inj {g h : Nat} (e : base g = base h) : g = h := congrArg Addr.block e

/-! ### A block known whole -/
def Blk (w : World) (g : Nat) (t : TypeId) (vs : List Value) : Prop := w.heap[g]? = some (.cells vs.toArray t (0, 0))

section
variable {w w' : World} {g g' : Nat} {t t' : TypeId} {vs vs' : List Value}
theorem Blk.lt (h : Blk w g t vs) : g < w.heap.size := (Array.getElem?_eq_some_iff.1 h).1
theorem Blk.cellAt (h : Blk w g t vs) (i : Nat) : w.cell? ((base g).add i) = vs[i]? := by
  rw [base_add]
  unfold Blk at h
  simp [World.cell?, h]
theorem Blk.cell0 (h : Blk w g t vs) : w.cell? (base g) = vs[0]? := by
  have := h.cellAt 0
  rwa [add_zero] at this
theorem Blk.cell (h : Blk w g t vs) {i : Nat} {v : Value} (hv : vs[i]? = some v) : w.cell? ((base g).add i) = some v := by rw [h.cellAt, hv]
theorem Blk.free (h : Blk w g t vs) (i : Nat) : w.frozen? ((base g).add i) = false := by
  rw [base_add]
  unfold Blk at h
  simp [World.frozen?, h]
theorem Blk.can (h : Blk w g t vs) {i : Nat} (hi : i < vs.length) : Writable w ((base g).add i) := ⟨⟨vs[i], h.cell (List.getElem?_eq_getElem hi)⟩, h.free i⟩
theorem Blk.can0 (h : Blk w g t vs) (hi : 0 < vs.length) : Writable w (base g) := by have := h.can hi; rwa [add_zero] at this
theorem Blk.set (h : Blk w g t vs) (i : Nat) (v : Value) : Blk (w.setCell ((base g).add i) v) g t (vs.set i v) := by
  rw [base_add]
  unfold Blk at h ⊢
  simp [World.setCell, Array.getElem?_modify, h]
theorem Blk.set0 (h : Blk w g t vs) (v : Value) : Blk (w.setCell (base g) v) g t (vs.set 0 v) := by have := h.set 0 v; rwa [add_zero] at this
theorem Blk.far (h : Blk w g t vs) {p : Addr} (hp : p.block ≠ g) (v : Value) : Blk (w.setCell p v) g t vs := by
  unfold Blk at h ⊢
  simp [World.setCell, Array.getElem?_modify, h, hp]
theorem Blk.new (w : World) (t : TypeId) (cs : List Value) : Blk (push w t cs) w.heap.size t cs := heap_alloc_new w _
theorem Blk.push (h : Blk w g t vs) (t' : TypeId) (cs : List Value) : Blk (push w t' cs) g t vs := (RowKit.Below.heap_alloc w _ g h.lt).trans h
theorem Blk.ne (h : Blk w g t vs) (h' : Blk w g' t' vs') (hne : t ≠ t') : g ≠ g' := by
  rintro rfl
  unfold Blk at h h'
  rw [h] at h'
  injection h' with h'
  injection h' with _ ht
  exact hne ht
theorem size_push (w : World) (t : TypeId) (cs : List Value) : (push w t cs).heap.size = w.heap.size + 1 := by
  show (w.heap.push _).size = _
  simp
theorem size_setCell (w : World) (a : Addr) (v : Value) : (w.setCell a v).heap.size = w.heap.size := by simp [World.setCell]
theorem size_drew (w : World) : w.drew.heap.size = w.heap.size := rfl
end

/-! ### What may have changed -/
/-- Of the blocks that were there, only those in S may have changed. -/
structure Mod (S : List Nat) (w w' : World) : Prop where
  os : w'.os = w.os
  tape : w'.tape = w.tape
  output : w'.output = w.output
  size : w.heap.size ≤ w'.heap.size
  keep : ∀ g, g < w.heap.size → g ∉ S → w'.heap[g]? = w.heap[g]?

section
variable {S S' : List Nat} {w w' w'' : World}
theorem Mod.refl (w : World) : Mod S w w := ⟨rfl, rfl, rfl, Nat.le_refl _, fun _ _ _ => rfl⟩
theorem Mod.trans (h : Mod S w w') (h' : Mod S' w' w'') (hs : ∀ g ∈ S', g ∈ S ∨ w.heap.size ≤ g) : Mod S w w'' :=
  ⟨h'.os.trans h.os, h'.tape.trans h.tape, h'.output.trans h.output, Nat.le_trans h.size h'.size, fun g hg hn =>
    (h'.keep g (Nat.lt_of_lt_of_le hg h.size) (fun he => by rcases hs g he with h1 | h1; exact hn h1; omega)).trans (h.keep g hg hn)⟩
theorem Mod.same (h : Mod S w w') (h' : Mod S w' w'') : Mod S w w'' := h.trans h' fun g hg => .inl hg
theorem Mod.none (h : Mod S w w') (h' : Mod [] w' w'') : Mod S w w'' := h.trans h' (by simp)
theorem Mod.weaken (h : Mod S w w') (hs : ∀ g ∈ S, g ∈ S' ∨ w.heap.size ≤ g) : Mod S' w w' :=
  ⟨h.os, h.tape, h.output, h.size, fun g hg hn => h.keep g hg fun he => by rcases hs g he with h1 | h1; exact hn h1; omega⟩
theorem Mod.push (w : World) (t : TypeId) (cs : List Value) : Mod S w (push w t cs) :=
  ⟨rfl, rfl, rfl, by rw [size_push]; omega, fun g hg _ => RowKit.Below.heap_alloc w _ g hg⟩
theorem Mod.setCell (w : World) (a : Addr) (v : Value) (hs : a.block ∈ S) : Mod S w (w.setCell a v) :=
  ⟨rfl, rfl, rfl, by rw [size_setCell]; omega, fun g hg hn => by
    have : g ≠ a.block := fun e => hn (e ▸ hs)
    exact RowKit.Below.heap_setCell w a v g this⟩
theorem Mod.drew (w : World) : Mod S w w.drew := ⟨rfl, rfl, rfl, Nat.le_refl _, fun _ _ _ => rfl⟩
theorem Mod.grown {row : Option Nat} (h : w.grownBy w' row) (hs : ∀ g, row = some g → g ∈ S) : Mod S w w' :=
  ⟨h.os, h.tape, h.output, h.size, fun g hg hn => h.block g hg fun e => hn (hs g e.symm)⟩
theorem Mod.below (h : Mod [] w w') : RowKit.Below w.heap.size w w' := ⟨h.os, h.tape, h.output, h.size, fun k hk => h.keep k hk (by simp)⟩
theorem Mod.cell (h : Mod S w w') {p : Addr} {v : Value} (hc : w.cell? p = some v) (hn : p.block ∉ S) : w'.cell? p = some v :=
  (World.cell?_of_block (h.keep p.block (World.block_lt_of_cell? w p hc) hn)).trans hc
theorem Blk.mod {g : Nat} {t : TypeId} {vs : List Value} (h : Blk w g t vs) (hm : Mod S w w') (hn : g ∉ S) : Blk w' g t vs := (hm.keep g h.lt hn).trans h
theorem Blk.drew {g : Nat} {t : TypeId} {vs : List Value} (h : Blk w g t vs) : Blk w.drew g t vs := h
end

/-! ### What a slice reads as -/
def Rd (w : World) (a : Option Addr) (vs : List Value) : Prop := vs = [] ∨ ∃ p, a = some p ∧ ∀ i v, vs[i]? = some v → w.cell? (p.add i) = some v

/-- The blocks that a slice's value names. -/
def fp (a : Option Addr) : List Nat := match a with | some p => [p.block] | none => []
theorem fp_some (p : Addr) : fp (some p) = [p.block] := rfl
theorem fp_fresh (w : World) : fp (some (fresh w)) = [w.heap.size] := rfl
theorem fp_base (g : Nat) : fp (some (base g)) = [g] := rfl
theorem fp_none : fp none = [] := rfl

section
variable {S : List Nat} {w w' : World} {a : Option Addr} {vs : List Value}
theorem Rd.nil : Rd w a [] := .inl rfl
theorem Rd.at_ (h : Rd w a vs) {i : Nat} {v : Value} (hv : vs[i]? = some v) : ∃ p, a = some p ∧ w.cell? (p.add i) = some v := by
  rcases h with rfl | ⟨p, hp, hc⟩
  · simp at hv
  · exact ⟨p, hp, hc i v hv⟩
theorem Rd.mod (h : Rd w a vs) (hm : Mod S w w') (hn : ∀ g ∈ fp a, g ∉ S) : Rd w' a vs := by
  rcases h with rfl | ⟨p, rfl, hc⟩
  · exact .inl rfl
  · refine .inr ⟨p, rfl, fun i v hv => hm.cell (hc i v hv) (by rw [add_block]; exact hn _ (by simp [fp]))⟩
theorem Rd.drew (h : Rd w a vs) : Rd w.drew a vs := h
theorem Rd.blk {g : Nat} {t : TypeId} (h : Blk w g t vs) : Rd w (some (base g)) vs := .inr ⟨base g, rfl, fun i v hv => h.cell hv⟩
theorem Rd.blkTake {g : Nat} {t : TypeId} {r : List Value} (h : Blk w g t (vs ++ r)) : Rd w (some (base g)) vs :=
  .inr ⟨base g, rfl, fun i v hv => h.cell (by rw [List.getElem?_append_left (List.getElem?_eq_some_iff.1 hv).1]; exact hv)⟩
theorem Rd.take (h : Rd w a vs) (n : Nat) : Rd w a (vs.take n) := by
  rcases h with rfl | ⟨p, rfl, hc⟩
  · exact .inl (by simp)
  · exact .inr ⟨p, rfl, fun i v hv => hc i v (by rw [List.getElem?_take] at hv; split at hv; exact hv; cases hv)⟩
/-- The blocks that a slice's reading needs: none, where it is empty. -/
def fpv (a : Option Addr) (vs : List Value) : List Nat := match vs with | [] => [] | _ :: _ => fp a
theorem Rd.modv (h : Rd w a vs) (hm : Mod S w w') (hn : ∀ g ∈ fpv a vs, g ∉ S) : Rd w' a vs := by
  cases vs with
  | nil => exact .inl rfl
  | cons v vs => exact h.mod hm hn
theorem Rd.lt (h : Rd w a vs) : ∀ g ∈ fpv a vs, g < w.heap.size := by
  cases vs with
  | nil => intro g hg; cases hg
  | cons v vs =>
    intro g hg
    obtain ⟨p, rfl, hc⟩ := h.at_ (i := 0) (v := v) rfl
    have hg' : g = p.block := by simpa [fpv, fp] using hg
    subst hg'
    have := World.block_lt_of_cell? w _ hc
    rwa [add_block] at this
/-- A slice cut at its l-th element (z cells each). -/
theorem Rd.cut (h : Rd w a vs) {c l z : Nat} (hl : vs.length ≤ c * z) : Rd w (cutA a c l z) (vs.drop (l * z)) := by
  rcases h with rfl | ⟨p, rfl, hc⟩
  · exact .inl (by simp)
  · unfold cutA
    split
    · rename_i he
      subst he
      exact .inl (List.drop_eq_nil_of_le hl)
    · refine .inr ⟨p.add (l * z), rfl, fun i v hv => ?_⟩
      rw [add_add]
      exact hc _ _ (by rw [List.getElem?_drop] at hv; exact hv)
end

/-! ### A slice of the call's own -/
/-- The slice (a, n, c) of element type e, z cells each, begins a block that no one else holds, and reads as vs. -/
def Own (w : World) (e : TypeId) (z : Nat) (a : Option Addr) (n c : Nat) (vs : List Value) : Prop :=
  vs.length = n * z ∧ ((a = none ∧ n = 0 ∧ c = 0) ∨ ∃ g r, a = some (base g) ∧ Blk w g e (vs ++ r) ∧ n ≤ c ∧ c ≤ maxLen ∧ (vs ++ r).length = c * z)

section
variable {S : List Nat} {w w' : World} {e : TypeId} {z n c : Nat} {a : Option Addr} {vs : List Value}
theorem Own.nil : Own w e z none 0 0 [] := ⟨by simp, .inl ⟨rfl, rfl, rfl⟩⟩
theorem Own.rd (h : Own w e z a n c vs) : Rd w a vs := by
  rcases h.2 with ⟨rfl, rfl, rfl⟩ | ⟨g, r, rfl, hb, _⟩
  · exact .inl (List.eq_nil_of_length_eq_zero (by simpa using h.1))
  · exact .blkTake hb
theorem Own.lt (h : Own w e z a n c vs) : ∀ g ∈ fp a, g < w.heap.size := by
  rcases h.2 with ⟨rfl, rfl, rfl⟩ | ⟨g, r, rfl, hb, _⟩
  · simp [fp]
  · intro g' hg
    simp [fp, base] at hg
    subst hg
    exact hb.lt
theorem Own.ne (h : Own w e z a n c vs) {g : Nat} {t : TypeId} {us : List Value} (hb : Blk w g t us) (hne : e ≠ t) : g ∉ fp a := by
  rcases h.2 with ⟨rfl, rfl, rfl⟩ | ⟨g', r, rfl, hb', _⟩
  · simp [fp]
  · simp [fp, base]
    intro he
    subst he
    exact Blk.ne hb' hb hne rfl
theorem Own.mod (h : Own w e z a n c vs) (hm : Mod S w w') (hn : ∀ g ∈ fp a, g ∉ S) : Own w' e z a n c vs := by
  refine ⟨h.1, ?_⟩
  rcases h.2 with h' | ⟨g, r, rfl, hb, h'⟩
  · exact .inl h'
  · exact .inr ⟨g, r, rfl, hb.mod hm (hn g (by simp [fp, base])), h'⟩
theorem Own.push (h : Own w e z a n c vs) (t : TypeId) (cs : List Value) : Own (Sh.push w t cs) e z a n c vs := h.mod (Mod.push (S := []) w t cs) (by simp)
theorem Own.drew (h : Own w e z a n c vs) : Own w.drew e z a n c vs := h
theorem Own.le (h : Own w e z a n c vs) : n ≤ c := by
  rcases h.2 with ⟨_, rfl, rfl⟩ | ⟨_, _, _, _, h', _⟩
  · exact Nat.le_refl _
  · exact h'
theorem Own.blk {g : Nat} (hb : Blk w g e vs) (hl : vs.length = n * z) (hn : n ≤ maxLen) : Own w e z (some (base g)) n n vs :=
  ⟨hl, .inr ⟨g, [], rfl, by simpa using hb, Nat.le_refl _, hn, by simpa using hl⟩⟩

theorem Own.setAt (h : Own w e z a n c vs) {i : Nat} (hi : i < vs.length) (v : Value) :
    ∃ p, a = some p ∧ Writable w (p.add i) ∧ Own (w.setCell (p.add i) v) e z a n c (vs.set i v) ∧ Mod (fp a) w (w.setCell (p.add i) v) := by
  rcases h.2 with ⟨_, h1, h2⟩ | ⟨g, r, rfl, hb, h1, h2, h3⟩
  · have := h.1; subst h1; simp at this; subst this; simp at hi
  · refine ⟨base g, rfl, hb.can (by simp; omega), ⟨by simpa using h.1, .inr ⟨g, r, rfl, ?_, h1, h2, by simpa using h3⟩⟩, Mod.setCell _ _ _ (by rw [add_block]; simp [fp])⟩
    have := hb.set i v
    rwa [List.set_append_left _ _ hi] at this

theorem Own.row (h : Own w e z a n c vs) : w.ownsRow 0 e z (.slice a n c) n vs := by
  refine ⟨h.1, ?_⟩
  rcases h.2 with ⟨rfl, rfl, rfl⟩ | ⟨g, r, rfl, hb, hc, hm, hl⟩
  · exact .inl ⟨rfl, rfl⟩
  · exact .inr ⟨g, c, _, rfl, Nat.zero_le _, hb, hc, hm, by simpa using hl, by simp [← h.1]⟩
theorem Own.of_row {v : Value} (h : w.ownsRow 0 e z v n vs) : ∃ a c, v = .slice a n c ∧ Own w e z a n c vs := by
  obtain ⟨hl, hc⟩ := h
  rcases hc with ⟨rfl, rfl⟩ | ⟨g, cap, cur, rfl, _, hb, hn, hm, hs, ht⟩
  · exact ⟨none, 0, rfl, hl, .inl ⟨rfl, rfl, rfl⟩⟩
  · refine ⟨_, cap, rfl, hl, .inr ⟨g, cur.toList.drop (n * z), rfl, ?_, hn, hm, ?_⟩⟩
    · unfold Blk
      rw [hb, ← ht, List.take_append_drop]
    · rw [← ht, List.take_append_drop]; simpa using hs
end

/-! ### Footprints -/
/-- Blocks of two things are apart. -/
def Apart (S T : List Nat) : Prop := ∀ x ∈ S, x ∉ T
/-- All blocks are new since w0. -/
def Since (w0 : World) (S : List Nat) : Prop := ∀ x ∈ S, w0.heap.size ≤ x
theorem Since.step {w0 w : World} {S S' : List Nat} (h : Since w0 S) (hs : w0.heap.size ≤ w.heap.size) (f : ∀ x ∈ S', x ∈ S ∨ w.heap.size ≤ x) : Since w0 S' :=
  fun x hx => by rcases f x hx with h1 | h1; exact h x h1; omega
theorem Apart.step {w : World} {S S' T : List Nat} (h : Apart S T) (hT : ∀ x ∈ T, x < w.heap.size) (f : ∀ x ∈ S', x ∈ S ∨ w.heap.size ≤ x) : Apart S' T :=
  fun x hx ht => by rcases f x hx with h1 | h1; exact h x h1 ht; have := hT x ht; omega
theorem Apart.symm {S T : List Nat} (h : Apart S T) : Apart T S := fun x hx hs => h x hs hx
theorem Mod.since {w0 w w' : World} {S : List Nat} (hm : Mod [] w0 w) (h : Mod S w w') (hs : Since w0 S) : Mod [] w0 w' := hm.trans h (fun x hx => .inr (hs x hx))

/-! ### Rows of structs -/
theorem flat_get {α : Type} (f : α → List Value) {z : Nat} : ∀ (L : List α), (∀ x ∈ L, (f x).length = z) → ∀ i j, j < z → (L.flatMap f)[i * z + j]? = (L[i]?).bind fun x => (f x)[j]?
  | [], _, i, j, _ => by simp
  | x :: L, hz, i, j, hj => by
    have hx := hz x (by simp)
    rw [List.flatMap_cons]
    cases i with
    | zero => rw [Nat.zero_mul, Nat.zero_add, List.getElem?_append_left (by omega)]; simp
    | succ i =>
      rw [List.getElem?_append_right (by rw [hx, Nat.succ_mul]; omega), hx, show (i + 1) * z + j - z = i * z + j by rw [Nat.succ_mul]; omega, flat_get f L (fun y hy => hz y (by simp [hy])) i j hj]
      simp
theorem flat_len {α : Type} (f : α → List Value) {z : Nat} (L : List α) (hz : ∀ x ∈ L, (f x).length = z) : (L.flatMap f).length = L.length * z := by
  induction L with
  | nil => simp
  | cons x L ih => rw [List.flatMap_cons, List.length_append, ih (fun y hy => hz y (by simp [hy])), hz x (by simp), List.length_cons, Nat.succ_mul]; omega
/-- A cell of the i-th struct of a row. -/
theorem Rd.flat {w : World} {a : Option Addr} {α : Type} {f : α → List Value} {z : Nat} {L : List α} (h : Rd w a (L.flatMap f)) (hz : ∀ x ∈ L, (f x).length = z) (hpos : 0 < z) {i : Nat} (hi : i < L.length) :
    ∃ p, a = some p ∧ ∀ j v, (f L[i])[j]? = some v → w.cell? ((p.add (i * z)).add j) = some v := by
  rcases h with h0 | ⟨p, rfl, hc⟩
  · have h1 := flat_len f L hz
    rw [h0] at h1
    have := Nat.mul_pos (show 0 < L.length by omega) hpos
    simp at h1
    omega
  · refine ⟨p, rfl, fun j v hv => ?_⟩
    have hj : j < z := by
      have := (List.getElem?_eq_some_iff.1 hv).1
      rwa [hz L[i] (List.getElem_mem hi)] at this
    rw [add_add]
    exact hc _ _ (by rw [flat_get f L hz i j hj, List.getElem?_eq_getElem hi]; exact hv)

/-! ### Bytes -/
def bv (b : UInt8) : Value := .int .u8 (b.toNat : Int)
theorem bv_one (l : List UInt8) : ∀ u ∈ l.map bv, one u = true := by
  intro u hu
  obtain ⟨b, _, rfl⟩ := List.mem_map.1 hu
  rfl

theorem str_list (l : List UInt8) : (ByteArray.mk l.toArray).toList = l := Go.ByteArray.toList_mk l

/-- A slice of bytes, made a string. -/
theorem toStr_ok {P : Program} {w : World} {a : Option Addr} {l : List UInt8} (c : Nat) (h : Rd w a (l.map bv)) : (Conv.bytesToString (.slice a l.length c)).run P w = .ok (.string ⟨l.toArray⟩) w := by
  rcases h with h | ⟨p, rfl, hc⟩
  · have : l = [] := by simpa using h
    subst this
    cases a with
    | none => simp [Conv.bytesToString]; rfl
    | some p => simp [Conv.bytesToString, loadCells, loadCellsFrom]; rfl
  · have hl := run_loadCells_list (P := P) w p ((l.map (fun b => (b.toNat : Int))).map (Value.int .u8)) (fun j v hj => hc j v (by rw [← hj]; simp; rfl))
    simp only [List.length_map] at hl
    rw [run_bytesToString w p l.length c _ hl, foldl_push_byteCells]
    rw [show ByteArray.empty.data = #[] from rfl]
    simp

/-! ### append -/
/-- What is asked of an element type's row of the table. -/
structure Elem (P : Program) (e : TypeId) (z bytes : Nat) : Prop where
  ex : ∃ i v, P.info? e = some i ∧ i.zero = some v ∧ i.size = z ∧ i.bytes = bytes ∧ v.cells.size = z
  pos : 0 < z

theorem Elem.of {P : Program} {e : TypeId} {z bytes : Nat} {v : Value} (h : (P.info? e).map (fun i => (i.zero, i.size, i.bytes)) = some (some v, z, bytes)) (hv : v.cells.size = z) (hz : 0 < z) : Elem P e z bytes := by
  cases hi : P.info? e with
  | none => rw [hi] at h; cases h
  | some i =>
    rw [hi] at h
    simp at h
    exact ⟨⟨i, v, hi, h.1, h.2.1, h.2.2, hv⟩, hz⟩

theorem append_own {P : Program} {t e z bytes : Nat} (ht : P.underlying t = some (.slice e)) (he : Elem P e z bytes) (ty : TypeId) {w : World} {a b : Option Addr} {n c m d : Nat} {vs us : List Value}
    (ho : Own w e z a n c vs) (hr : Rd w b us) (hl : us.length = m * z) (h1 : ∀ u ∈ us, one u = true) (hb : (n + m) * bytes ≤ 140737488355328) (h63 : n + m ≤ 9223372036854775807) :
    ∃ a' c' w', (Builtin.append_ #[t, t] ty #[.slice a n c, .slice b m d]).run P w = .ok (.slice a' (n + m) c') w' ∧ Own w' e z a' (n + m) c' (vs ++ us) ∧ Mod (fp a) w w' ∧ (fp a' = fp a ∨ fp a' = [w.heap.size]) := by
  obtain ⟨⟨i, zv, hi, hz, hs, hby, hzs⟩, hpos⟩ := he
  have h1' : ∀ u ∈ us, u.oneCell' = true := fun u hu => by have := h1 u hu; cases u <;> first | rfl | (simp [one] at this)
  rcases hr with rfl | ⟨p, rfl, hc⟩
  · -- nothing is appended
    have hm : m = 0 := by
      rcases Nat.eq_zero_or_pos m with h | h
      · exact h
      · have := Nat.mul_pos h hpos
        simp at hl
        omega
    subst hm
    refine ⟨a, c, w, ?_, by simpa using ho, Mod.refl w, .inl rfl⟩
    have hle := ho.le
    rcases ho.2 with ⟨rfl, rfl, rfl⟩ | ⟨g, r, rfl, hg, hn, _⟩
    · cases b <;> simp [Builtin.append_, run_underlying ht, sizeOf, typeInfo, hi, Builtin.lenOf, Builtin.firstCells, loadCells, loadCellsFrom]
    · cases b <;> simp [Builtin.append_, run_underlying ht, sizeOf, typeInfo, hi, Builtin.lenOf, Builtin.firstCells, hle, loadCells, loadCellsFrom, storeCells]
  · obtain ⟨v', w', hrun, hown, hg, _, hat⟩ := run_append_own_at (P := P) w 0 t ty e i zv z bytes ht hi hz hs hby hzs hpos (.slice a n c) n vs ho.row p m d us hl hc h1' (by simp [maxLen]; omega) hb (Nat.zero_le _)
    obtain ⟨a', c', rfl, ho'⟩ := Own.of_row hown
    have hfp : ∀ (x : Option Addr) (n c : Nat), (Value.slice x n c).ownBlock = x.map (·.block) := fun x n c => by cases x <;> rfl
    rw [hfp, hfp] at hat
    refine ⟨a', c', w', hrun, ho', Mod.grown hg fun g hg' => ?_, ?_⟩
    · rw [hfp] at hg'
      cases a with
      | none => cases hg'
      | some q => simp at hg'; simp [fp, hg']
    · rcases hat with h | h
      · left
        cases a <;> cases a' <;> simp_all [fp]
      · right
        cases a' with
        | none => cases h
        | some q => simp at h; simp [fp, h]
end Go.Sh

/-
  Go's integer operations on numbers that are known to fit.
-/
namespace Go.Sh
open Go
set_option linter.unusedVariables false

theorem wu8 (n : Int) : IntKind.u8.wrap n = n % 256 := by simp [IntKind.wrap, IntKind.bits, IntKind.signed]
theorem wu16 (n : Int) : IntKind.u16.wrap n = n % 65536 := by simp [IntKind.wrap, IntKind.bits, IntKind.signed]
theorem wu32 (n : Int) : IntKind.u32.wrap n = n % 4294967296 := by simp [IntKind.wrap, IntKind.bits, IntKind.signed]
theorem wu64 (n : Int) : IntKind.u64.wrap n = n % 18446744073709551616 := by simp [IntKind.wrap, IntKind.bits, IntKind.signed]
theorem wi64 {n : Int} (h : -9223372036854775808 ≤ n ∧ n ≤ 9223372036854775807) : IntKind.i64.wrap n = n := IntWalk.i64_in n h

theorem wrapU {k : IntKind} (hk : k.signed = false) (n : Nat) : k.wrap (n : Int) = ((n % 2 ^ k.bits : Nat) : Int) := by
  cases k <;> first | (cases hk; done) | (simp [IntKind.wrap, IntKind.bits, IntKind.signed])
theorem wrapU_lt {k : IntKind} (hk : k.signed = false) {n : Nat} (h : n < 2 ^ k.bits) : k.wrap (n : Int) = (n : Int) := by rw [wrapU hk, Nat.mod_eq_of_lt h]

theorem bxorU {k : IntKind} (hk : k.signed = false) {x y : Nat} (hx : x < 2 ^ k.bits) (hy : y < 2 ^ k.bits) : bxor k (x : Int) (y : Int) = ((x ^^^ y : Nat) : Int) := by
  unfold bxor
  rw [BitVec.ofInt_natCast, BitVec.ofInt_natCast, BitVec.toNat_xor, BitVec.toNat_ofNat, BitVec.toNat_ofNat, Nat.mod_eq_of_lt hx, Nat.mod_eq_of_lt hy, wrapU_lt hk (Nat.xor_lt_two_pow hx hy)]
theorem borU {k : IntKind} (hk : k.signed = false) {x y : Nat} (hx : x < 2 ^ k.bits) (hy : y < 2 ^ k.bits) : bor k (x : Int) (y : Int) = ((x ||| y : Nat) : Int) := by
  unfold bor
  rw [BitVec.ofInt_natCast, BitVec.ofInt_natCast, BitVec.toNat_or, BitVec.toNat_ofNat, BitVec.toNat_ofNat, Nat.mod_eq_of_lt hx, Nat.mod_eq_of_lt hy, wrapU_lt hk (Nat.or_lt_two_pow hx hy)]
theorem bandU {k : IntKind} (hk : k.signed = false) {x y : Nat} (hx : x < 2 ^ k.bits) (hy : y < 2 ^ k.bits) : band k (x : Int) (y : Int) = ((x &&& y : Nat) : Int) := by
  unfold band
  rw [BitVec.ofInt_natCast, BitVec.ofInt_natCast, BitVec.toNat_and, BitVec.toNat_ofNat, BitVec.toNat_ofNat, Nat.mod_eq_of_lt hx, Nat.mod_eq_of_lt hy, wrapU_lt hk (Nat.and_lt_two_pow x hy)]

theorem wrapI_lt {n : Nat} (h : n < 2 ^ 63) : IntKind.i64.wrap (n : Int) = (n : Int) := wi64 (by omega)
theorem bxorI {x y : Nat} (hx : x < 2 ^ 63) (hy : y < 2 ^ 63) : bxor .i64 (x : Int) (y : Int) = ((x ^^^ y : Nat) : Int) := by
  unfold bxor
  have hb : IntKind.i64.bits = 64 := rfl
  rw [hb, BitVec.ofInt_natCast, BitVec.ofInt_natCast, BitVec.toNat_xor, BitVec.toNat_ofNat, BitVec.toNat_ofNat, Nat.mod_eq_of_lt (by omega), Nat.mod_eq_of_lt (by omega), wrapI_lt (Nat.xor_lt_two_pow hx hy)]
theorem borI {x y : Nat} (hx : x < 2 ^ 63) (hy : y < 2 ^ 63) : bor .i64 (x : Int) (y : Int) = ((x ||| y : Nat) : Int) := by
  unfold bor
  have hb : IntKind.i64.bits = 64 := rfl
  rw [hb, BitVec.ofInt_natCast, BitVec.ofInt_natCast, BitVec.toNat_or, BitVec.toNat_ofNat, BitVec.toNat_ofNat, Nat.mod_eq_of_lt (by omega), Nat.mod_eq_of_lt (by omega), wrapI_lt (Nat.or_lt_two_pow hx hy)]
theorem bandI {x y : Nat} (hx : x < 2 ^ 63) (hy : y < 2 ^ 63) : band .i64 (x : Int) (y : Int) = ((x &&& y : Nat) : Int) := by
  unfold band
  have hb : IntKind.i64.bits = 64 := rfl
  rw [hb, BitVec.ofInt_natCast, BitVec.ofInt_natCast, BitVec.toNat_and, BitVec.toNat_ofNat, BitVec.toNat_ofNat, Nat.mod_eq_of_lt (by omega), Nat.mod_eq_of_lt (by omega), wrapI_lt (Nat.and_lt_two_pow x hy)]

theorem shlU {k : IntKind} (hk : k.signed = false) (x n : Nat) (hn : n ≤ k.bits) : shl k (x : Int) (n : Int) = ((x <<< n % 2 ^ k.bits : Nat) : Int) := by
  unfold shl
  rw [Int.toNat_natCast, Nat.min_eq_left hn, Nat.shiftLeft_eq, ← wrapU hk]
  norm_cast
theorem shrN (k : IntKind) (x n : Nat) (hn : n ≤ k.bits) : shr k (x : Int) (n : Int) = ((x >>> n : Nat) : Int) := by
  unfold shr
  rw [Int.toNat_natCast, Nat.min_eq_left hn, Nat.shiftRight_eq_div_pow, show ((2 : Int) ^ n) = ((2 ^ n : Nat) : Int) by norm_cast, Int.fdiv_eq_ediv_of_nonneg _ (Int.natCast_nonneg _)]
  rfl
end Go.Sh

/-
  What slices.Delete does to a slice of the call's own: it appends the elements behind the gap onto those before it, in place, and clears the tail.
-/
namespace Go.Sh
open Go
set_option linter.unusedVariables false
set_option linter.unusedSimpArgs false

theorem one_cell {u : Value} (h : one u = true) : u.oneCell' = true := by cases u <;> first | rfl | (simp [one] at h)
theorem zeroCells_one {zs : Array Value} (h : ∀ u ∈ zs.toList, one u = true) (n : Nat) : ∀ u ∈ (Builtin.zeroCells zs n).toList, u.oneCell' = true := by
  intro u hu
  simp [Builtin.zeroCells] at hu
  obtain ⟨i, hi, rfl⟩ := hu
  rcases Nat.eq_zero_or_pos zs.size with h0 | h0
  · rw [h0] at hi; simp at hi
  · have hlt := Nat.mod_lt i h0
    apply one_cell
    apply h
    rw [getElem!_pos zs _ hlt]
    exact Array.getElem_mem_toList hlt

theorem delete_run {P : Program} {t e z bytes ty : Nat} {zv : Value} {w : World} {a : Option Addr} {n c i j : Nat} {vs : List Value} (ht : P.underlying t = some (.slice e)) (he : Elem P e z bytes)
    (hz : ∀ w, (zeroValue e).run P w = .ok zv w) (hzs : zv.cells.size = z) (hz1 : ∀ u ∈ zv.cells.toList, one u = true) (ho : Own w e z a n c vs) (h1 : ∀ u ∈ vs, one u = true) (hij : i < j) (hjn : j ≤ n) :
    ∃ w1, (Builtin.append_ #[t, t] ty #[.slice a i c, .slice (cutA a c j z) (n - j) (c - j)]).run P w = .ok (.slice a (i + (n - j)) c) w1 ∧
      ∃ w2, (Builtin.clear_ #[t] 0 #[.slice (cutA a c (i + (n - j)) z) (n - (i + (n - j))) (c - (i + (n - j)))]).run P w1 = .ok (.tuple #[]) w2 ∧
        Own w2 e z a (i + (n - j)) c (vs.take (i * z) ++ vs.drop (j * z)) ∧ Mod (fp a) w w2 := by
  obtain ⟨⟨inf, zv', hi, _, hs, _, _⟩, hpos⟩ := he
  rcases ho.2 with ⟨_, h2, _⟩ | ⟨g, r, rfl, hb, hnc, hcm, hlen⟩
  · omega
  have hvl := ho.1
  have hjz : j * z ≤ n * z := Nat.mul_le_mul_right z hjn
  have hiz : i * z ≤ n * z := Nat.mul_le_mul_right z (by omega)
  have hncz : n * z ≤ c * z := Nat.mul_le_mul_right z hnc
  have hsub : (n - j) * z = n * z - j * z := Nat.sub_mul _ _ _
  have hKz : (i + (n - j)) * z = i * z + (n * z - j * z) := by rw [Nat.add_mul, hsub]
  have hKn : (i + (n - j)) * z ≤ n * z := Nat.mul_le_mul_right z (by omega)
  -- the append
  have happ : ∃ q : Addr, cutA (some (base g)) c j z = some q ∧ ∀ k u, (vs.drop (j * z))[k]? = some u → w.cell? (q.add k) = some u := by
    unfold cutA
    split
    · rename_i h
      have hj : j = n := by omega
      refine ⟨_, rfl, fun k u hu => ?_⟩
      rw [List.drop_eq_nil_of_le (by rw [hvl, hj]; exact Nat.le_refl _)] at hu
      simp at hu
    · refine ⟨_, rfl, fun k u hu => ?_⟩
      rw [add_add]
      rw [List.getElem?_drop] at hu
      exact hb.cell (by rw [List.getElem?_append_left (List.getElem?_eq_some_iff.1 hu).1]; exact hu)
  obtain ⟨q, hq, hnews⟩ := happ
  have hnl : (vs.drop (j * z)).length = (n - j) * inf.size := by rw [List.length_drop, hvl, hs, hsub]
  have hb' : w.heap[g]? = some (.cells (vs ++ r).toArray e (0, 0)) := hb
  have hrun := run_append_room (P := P) w t ty e inf ht hi g i c (vs ++ r).toArray hb' q (n - j) (c - j) (vs.drop (j * z)) hnl hnews (fun u hu => one_cell (h1 u (List.mem_of_mem_drop hu))) (by omega)
    (by rw [hnl, hs, ← Nat.add_mul, List.size_toArray, hlen]; exact Nat.mul_le_mul_right z (by omega))
  rw [hs] at hrun
  simp only [List.toList_toArray] at hrun
  rw [show (vs ++ r).take (i * z) = vs.take (i * z) from List.take_append_of_le_length (by omega)] at hrun
  have hb1 := setRow_heap w g (vs ++ r).toArray (vs.take (i * z) ++ vs.drop (j * z) ++ (vs ++ r).drop (i * z + (vs.drop (j * z)).length)).toArray e (0, 0) hb'
  have hother := fun k (hk : k ≠ g) => setRow_other w g k (vs.take (i * z) ++ vs.drop (j * z) ++ (vs ++ r).drop (i * z + (vs.drop (j * z)).length)).toArray hk
  have hrl : (vs ++ r).length = c * z := hlen
  have hPl : (vs.take (i * z) ++ vs.drop (j * z)).length = (i + (n - j)) * z := by rw [List.length_append, List.length_take, List.length_drop, hvl, hKz]; omega
  have hdl : i * z + (vs.drop (j * z)).length = (i + (n - j)) * z := by rw [List.length_drop, hvl, hKz]
  have hm1 : Mod [g] w (w.setRow g (vs.take (i * z) ++ vs.drop (j * z) ++ (vs ++ r).drop (i * z + (vs.drop (j * z)).length)).toArray) :=
    ⟨rfl, rfl, rfl, by simp [World.setRow], fun k _ hk => hother k (by simpa using hk)⟩
  rw [hdl] at hrun hb1 hm1
  clear hother
  refine ⟨_, by rw [hq]; exact hrun, ?_⟩
  generalize hw1 : w.setRow g (vs.take (i * z) ++ vs.drop (j * z) ++ (vs ++ r).drop ((i + (n - j)) * z)).toArray = w1 at *
  -- the clear
  have hcut : cutA (some (base g)) c (i + (n - j)) z = some ⟨g, (i + (n - j)) * z, none⟩ := by
    unfold cutA
    rw [if_neg (by omega)]
    simp [base_add]
  have hzl : (Builtin.zeroCells zv.cells (n - (i + (n - j)))).toList.length = (n - (i + (n - j))) * z := by rw [Array.length_toList, size_zeroCells, hzs]
  have hsub2 : (n - (i + (n - j))) * z = n * z - (i + (n - j)) * z := Nat.sub_mul _ _ _
  have hst := run_storeCells_at P g ((i + (n - j)) * z) e (Builtin.zeroCells zv.cells (n - (i + (n - j)))).toList 0 _ w1 hb1 (by
    rw [hzl, List.size_toArray, List.length_append, hPl, List.length_drop, hrl, hsub2]; omega) (zeroCells_one hz1 _)
  simp only [Nat.add_zero, List.toList_toArray] at hst
  have hb2 := setRow_heap w1 g _ ((vs.take (i * z) ++ vs.drop (j * z) ++ (vs ++ r).drop ((i + (n - j)) * z)).take ((i + (n - j)) * z) ++ (Builtin.zeroCells zv.cells (n - (i + (n - j)))).toList ++ (vs.take (i * z) ++ vs.drop (j * z) ++ (vs ++ r).drop ((i + (n - j)) * z)).drop ((i + (n - j)) * z + (Builtin.zeroCells zv.cells (n - (i + (n - j)))).toList.length)).toArray e (0, 0) hb1
  have hother2 := fun k (hk : k ≠ g) => setRow_other w1 g k ((vs.take (i * z) ++ vs.drop (j * z) ++ (vs ++ r).drop ((i + (n - j)) * z)).take ((i + (n - j)) * z) ++ (Builtin.zeroCells zv.cells (n - (i + (n - j)))).toList ++ (vs.take (i * z) ++ vs.drop (j * z) ++ (vs ++ r).drop ((i + (n - j)) * z)).drop ((i + (n - j)) * z + (Builtin.zeroCells zv.cells (n - (i + (n - j)))).toList.length)).toArray hk
  have hsz2 : w1.heap.size ≤ (w1.setRow g ((vs.take (i * z) ++ vs.drop (j * z) ++ (vs ++ r).drop ((i + (n - j)) * z)).take ((i + (n - j)) * z) ++ (Builtin.zeroCells zv.cells (n - (i + (n - j)))).toList ++ (vs.take (i * z) ++ vs.drop (j * z) ++ (vs ++ r).drop ((i + (n - j)) * z)).drop ((i + (n - j)) * z + (Builtin.zeroCells zv.cells (n - (i + (n - j)))).toList.length)).toArray).heap.size := by simp [World.setRow]
  have hos2 : (w1.setRow g ((vs.take (i * z) ++ vs.drop (j * z) ++ (vs ++ r).drop ((i + (n - j)) * z)).take ((i + (n - j)) * z) ++ (Builtin.zeroCells zv.cells (n - (i + (n - j)))).toList ++ (vs.take (i * z) ++ vs.drop (j * z) ++ (vs ++ r).drop ((i + (n - j)) * z)).drop ((i + (n - j)) * z + (Builtin.zeroCells zv.cells (n - (i + (n - j)))).toList.length)).toArray).os = w1.os ∧ (w1.setRow g ((vs.take (i * z) ++ vs.drop (j * z) ++ (vs ++ r).drop ((i + (n - j)) * z)).take ((i + (n - j)) * z) ++ (Builtin.zeroCells zv.cells (n - (i + (n - j)))).toList ++ (vs.take (i * z) ++ vs.drop (j * z) ++ (vs ++ r).drop ((i + (n - j)) * z)).drop ((i + (n - j)) * z + (Builtin.zeroCells zv.cells (n - (i + (n - j)))).toList.length)).toArray).tape = w1.tape ∧ (w1.setRow g ((vs.take (i * z) ++ vs.drop (j * z) ++ (vs ++ r).drop ((i + (n - j)) * z)).take ((i + (n - j)) * z) ++ (Builtin.zeroCells zv.cells (n - (i + (n - j)))).toList ++ (vs.take (i * z) ++ vs.drop (j * z) ++ (vs ++ r).drop ((i + (n - j)) * z)).drop ((i + (n - j)) * z + (Builtin.zeroCells zv.cells (n - (i + (n - j)))).toList.length)).toArray).output = w1.output := ⟨rfl, rfl, rfl⟩
  generalize hw2 : w1.setRow g ((vs.take (i * z) ++ vs.drop (j * z) ++ (vs ++ r).drop ((i + (n - j)) * z)).take ((i + (n - j)) * z) ++ (Builtin.zeroCells zv.cells (n - (i + (n - j)))).toList ++ (vs.take (i * z) ++ vs.drop (j * z) ++ (vs ++ r).drop ((i + (n - j)) * z)).drop ((i + (n - j)) * z + (Builtin.zeroCells zv.cells (n - (i + (n - j)))).toList.length)).toArray = w2 at *
  refine ⟨w2, ?_, ⟨hPl, .inr ⟨g, (Builtin.zeroCells zv.cells (n - (i + (n - j)))).toList ++ (vs.take (i * z) ++ vs.drop (j * z) ++ (vs ++ r).drop ((i + (n - j)) * z)).drop ((i + (n - j)) * z + (Builtin.zeroCells zv.cells (n - (i + (n - j)))).toList.length), rfl, ?_, by omega, hcm, ?_⟩⟩, ?_⟩
  · rw [hcut]
    obtain ⟨m, hm⟩ : ∃ m, n - (i + (n - j)) = m + 1 := ⟨n - (i + (n - j)) - 1, by omega⟩
    rw [hm] at hst ⊢
    simp [Builtin.clear_, run_underlying ht, hz, hst]
  · unfold Blk
    rw [hb2, List.take_append_of_le_length (by rw [hPl]; exact Nat.le_refl _), List.take_of_length_le (by rw [hPl]; exact Nat.le_refl _), List.append_assoc]
  · rw [List.length_append, hPl, List.length_append, hzl, List.length_drop, List.length_append, hPl, List.length_drop, hrl, hsub2]
    omega
  · refine hm1.same ⟨hos2.1, hos2.2.1, hos2.2.2, hsz2, fun k _ hk => hother2 k (by simpa [fp, base] using hk)⟩

/-- make([]T, 0, c) -/
theorem make_own {P : Program} {t e z bytes : Nat} (ht : P.underlying t = some (.slice e)) (he : Elem P e z bytes) (w : World) (c : Nat) (hc : c * z ≤ 16777216) (hb : bytes * c ≤ 281474976710656) (hm : c ≤ maxLen) :
    ∃ a c' w', (Instr.makeSlice t (.int .i64 0) (.int .i64 (c : Int))).run P w = .ok (.slice a 0 c') w' ∧ Own w' e z a 0 c' [] ∧ Mod [] w w' ∧ ∀ g ∈ fp a, w.heap.size ≤ g := by
  obtain ⟨⟨inf, zv, hi, hz, hs, hby, hzs⟩, hpos⟩ := he
  obtain ⟨w', h1, h2, h3⟩ := run_makeSlice_owned (P := P) w 0 t e inf zv z ht hi hz hs .i64 .i64 c hc (by rw [hby]; exact hb) hm (Nat.zero_le _)
  obtain ⟨a, c', hv, ho⟩ := Own.of_row h2
  injection hv with e1 e2 e3
  subst e1
  subst e3
  exact ⟨_, _, w', h1, ho, Mod.grown h3 (by simp), by simp [fp]⟩

theorem flat_take {α : Type} (f : α → List Value) {z : Nat} : ∀ (L : List α), (∀ x ∈ L, (f x).length = z) → ∀ i, (L.flatMap f).take (i * z) = (L.take i).flatMap f
  | [], _, i => by simp
  | x :: L, hz, i => by
    have hx := hz x (by simp)
    cases i with
    | zero => simp
    | succ i =>
      rw [List.flatMap_cons, List.take_succ_cons, List.flatMap_cons, List.take_append, hx, Nat.succ_mul, Nat.add_sub_cancel, List.take_of_length_le (by omega), flat_take f L (fun y hy => hz y (by simp [hy])) i]
theorem flat_drop {α : Type} (f : α → List Value) {z : Nat} : ∀ (L : List α), (∀ x ∈ L, (f x).length = z) → ∀ i, (L.flatMap f).drop (i * z) = (L.drop i).flatMap f
  | [], _, i => by simp
  | x :: L, hz, i => by
    have hx := hz x (by simp)
    cases i with
    | zero => simp
    | succ i =>
      rw [List.flatMap_cons, List.drop_succ_cons, List.drop_append, hx, Nat.succ_mul, Nat.add_sub_cancel, List.drop_of_length_le (by omega), List.nil_append, flat_drop f L (fun y hy => hz y (by simp [hy])) i]
theorem flat_one {α : Type} (f : α → List Value) (L : List α) (h : ∀ x, ∀ u ∈ f x, one u = true) : ∀ u ∈ L.flatMap f, one u = true := by
  intro u hu
  obtain ⟨x, _, hx⟩ := List.mem_flatMap.1 hu
  exact h x u hx
end Go.Sh

/-
  Blocks read and written whole; new blocks, and stores, as steps that name only what is known of the new world.
-/
namespace Go.Sh
open Go
set_option linter.unusedVariables false
section
variable {w : World} {g t i : Nat} {vs us : List Value} {v : Value}
theorem Blk.cellsAt (h : Blk w g t vs) : ∀ (us ls : List Value) (i : Nat), (∃ r, vs = ls ++ us ++ r) → ls.length = i → Cells w (base g) i us := by
  intro us
  induction us with
  | nil => intro _ _ _ _; trivial
  | cons u us ih =>
    intro ls i ⟨r, h1⟩ h2
    refine ⟨h.cell ?_, ih (ls ++ [u]) (i + 1) ⟨r, by simp [h1]⟩ (by simp [h2])⟩
    rw [h1, List.append_assoc, List.getElem?_append_right (by omega), h2, Nat.sub_self]; rfl
theorem Blk.cells (h : Blk w g t vs) : Cells w (base g) 0 vs := h.cellsAt vs [] 0 ⟨[], by simp⟩ rfl
theorem Cells.shift {a : Addr} {n : Nat} : ∀ {us : List Value} {i : Nat}, Cells w a (n + i) us → Cells w (a.add n) i us
  | [], _, _ => trivial
  | u :: us, i, h => ⟨by rw [add_add]; exact h.1, Cells.shift (us := us) (i := i + 1) (by rw [← Nat.add_assoc]; exact h.2)⟩
theorem Blk.cellsFrom (h : Blk w g t vs) {i n : Nat} (hl : i + n ≤ vs.length) : Cells w ((base g).add i) 0 ((vs.drop i).take n) :=
  Cells.shift (h.cellsAt _ (vs.take i) (i + 0) ⟨(vs.drop i).drop n, by rw [List.append_assoc, List.take_append_drop, List.take_append_drop]⟩ (by simp; omega))
theorem setAll_blk : ∀ (us : List Value) (i : Nat) (w : World) (vs : List Value), Blk w g t vs → i + us.length ≤ vs.length →
    CanSet w (base g) i us.length ∧ Blk (setAll w (base g) i us) g t (vs.take i ++ us ++ vs.drop (i + us.length)) ∧ Mod [g] w (setAll w (base g) i us) := by
  intro us
  induction us with
  | nil => intro i w vs hb hl; exact ⟨trivial, by simpa [setAll] using hb, Mod.refl _⟩
  | cons u us ih =>
    intro i w vs hb hl
    simp only [List.length_cons] at hl
    have hm : Mod [g] w (w.setCell ((base g).add i) u) := Mod.setCell _ _ _ (by rw [add_block]; simp [base])
    obtain ⟨h1, h2, h3⟩ := ih (i + 1) _ _ (hb.set i u) (by simp; omega)
    refine ⟨⟨hb.can (by omega), ?_⟩, ?_, hm.same h3⟩
    · have : ∀ n j, j + n ≤ vs.length → CanSet w (base g) j n := by
        intro n
        induction n with
        | zero => intro _ _; trivial
        | succ n ih' => intro j hj; exact ⟨hb.can (by omega), ih' (j + 1) (by omega)⟩
      exact this _ _ (by omega)
    · rw [setAll]
      have e : (vs.set i u).take (i + 1) ++ us ++ (vs.set i u).drop (i + 1 + us.length) = vs.take i ++ u :: us ++ vs.drop (i + (us.length + 1)) := by
        rw [List.take_add_one, List.take_set_of_le (Nat.le_refl i), List.getElem?_set_self (by omega), List.drop_set_of_lt (by omega), show i + 1 + us.length = i + (us.length + 1) by omega]
        simp
      rw [e] at h2
      exact h2
theorem setAll_shift (a : Addr) (n : Nat) : ∀ (us : List Value) (i : Nat) (w : World), setAll w (a.add n) i us = setAll w a (n + i) us
  | [], _, _ => rfl
  | u :: us, i, w => by rw [setAll, setAll, add_add, setAll_shift a n us (i + 1)]; rfl
theorem canSet_shift (a : Addr) (n : Nat) (w : World) : ∀ (k i : Nat), CanSet w a (n + i) k → CanSet w (a.add n) i k
  | 0, _, _ => trivial
  | k + 1, i, h => ⟨by rw [add_add]; exact h.1, canSet_shift a n w k (i + 1) (by rw [← Nat.add_assoc]; exact h.2)⟩
theorem PutAll.at {k : World → Prop} (hb : Blk w g t vs) (hl : i + us.length ≤ vs.length) (hk : ∀ w', Blk w' g t (vs.take i ++ us ++ vs.drop (i + us.length)) → Mod [g] w w' → k w') : PutAll w ((base g).add i) us k := by
  obtain ⟨h1, h2, h3⟩ := setAll_blk us i w vs hb hl
  refine ⟨canSet_shift _ _ _ _ _ h1, ?_⟩
  rw [setAll_shift]
  exact hk _ h2 h3
theorem PutAll.use {k : World → Prop} (hb : Blk w g t vs) (hl : us.length = vs.length) (hk : ∀ w', Blk w' g t us → Mod [g] w w' → k w') : PutAll w (base g) us k := by
  obtain ⟨h1, h2, h3⟩ := setAll_blk us 0 w vs hb (by omega)
  refine ⟨h1, hk _ ?_ h3⟩
  rw [List.take_zero, List.nil_append, List.drop_of_length_le (by omega), List.append_nil] at h2
  exact h2
theorem Put.use {k : World → Prop} (hb : Blk w g t vs) (hi : i < vs.length) (hk : ∀ w', Blk w' g t (vs.set i v) → Mod [g] w w' → k w') : Put w ((base g).add i) v k :=
  ⟨hb.can hi, hk _ (hb.set i v) (Mod.setCell _ _ _ (by rw [add_block]; simp [base]))⟩
theorem Put.use0 {k : World → Prop} (hb : Blk w g t vs) (hi : 0 < vs.length) (hk : ∀ w', Blk w' g t (vs.set 0 v) → Mod [g] w w' → k w') : Put w (base g) v k := by
  have := Put.use (i := 0) (v := v) hb hi hk
  rwa [add_zero] at this
theorem New.use {cs : List Value} {k : Addr → World → Prop} (hk : ∀ w', Blk w' w.heap.size t cs → Mod [] w w' → w'.heap.size = w.heap.size + 1 → k (base w.heap.size) w') : New w t cs k :=
  hk _ (Blk.new w t cs) (Mod.push w t cs) (size_push w t cs)
theorem New.put {cs us : List Value} {k : Addr → World → Prop} (hl : us.length = cs.length) (hk : ∀ w', Blk w' w.heap.size t us → Mod [] w w' → w.heap.size < w'.heap.size → k (base w.heap.size) w') : New w t cs (fun p w1 => PutAll w1 p us (fun w2 => k p w2)) :=
  New.use fun w1 h1 m1 z1 => PutAll.use h1 hl fun w2 h2 m2 => hk w2 h2 (m1.trans m2 (fun x hx => .inr (by simp at hx; omega))) (by have := m2.size; omega)
end

theorem iteI {c : Prop} [Decidable c] {p q : Prop} (h1 : c → p) (h2 : ¬ c → q) : if c then p else q := by split <;> rename_i h; exact h1 h; exact h2 h
theorem rd_get {w : World} {a : Option Addr} {α : Type} {f : α → Value} {l : List α} (h : Rd w a (l.map f)) {i : Nat} (hi : i < l.length) : ∃ p, a = some p ∧ w.cell? (p.add i) = some (f l[i]) := by
  refine h.at_ ?_
  rw [List.getElem?_map, List.getElem?_eq_getElem hi]
  rfl
theorem strEq (l m : List UInt8) : ((ByteArray.mk l.toArray).toList == (ByteArray.mk m.toArray).toList) = (l == m) := by rw [str_list, str_list]
end Go.Sh

/-
  Two structs of plain fields held against each other.
-/
namespace Go.Sh
open Go
set_option linter.unusedVariables false
/-- The fields' comparisons. -/
def eqRow (P : Program) (xs ys : Array Value) : List Field → Option (List Bool)
  | [] => some []
  | f :: fs =>
    if f.name = "_" then none else
    match P.underlying f.type, xs[f.offset]?, ys[f.offset]? with
    | some .bool, some (.bool a), some (.bool b) => (eqRow P xs ys fs).map fun l => (a == b) :: l
    | some (.int _), some (.int k a), some (.int k' b) => if k = k' then (eqRow P xs ys fs).map fun l => (a == b) :: l else none
    | some .string, some (.string a), some (.string b) => (eqRow P xs ys fs).map fun l => (a.toList == b.toList) :: l
    | _, _, _ => none
theorem run_part1 {P : Program} {w : World} {e : TypeId} {xs : Array Value} {off : Nat} {v : Value} (he : (match P.underlying e with | some .bool | some (.int _) | some .string => true | _ => false) = true) (hx : xs[off]? = some v) : (part e xs off).run P w = .ok v w := by
  cases hu : P.underlying e with
  | none => simp [hu] at he
  | some d => cases d <;> simp [hu] at he <;> simp [part, isAgg, run_underlying hu, hx]
theorem eqRow_run {P : Program} {w : World} {d : Nat} {xs ys : Array Value} : ∀ (fs : List Field) (bs : List Bool), eqRow P xs ys fs = some bs → (Op.eqFields (d + 1) xs ys fs).run P w = .ok (bs.all id) w
  | [], bs, h => by simp [eqRow] at h; subst h; simp [Op.eqFields]
  | f :: fs, bs, h => by
    unfold eqRow at h
    split at h
    · cases h
    rename_i hn
    unfold Op.eqFields
    rw [if_pos hn]
    split at h
    · rename_i a b hu hx hy
      obtain ⟨l, hl, rfl⟩ := Option.map_eq_some_iff.1 h
      have ih := eqRow_run (w := w) (d := d) fs l hl
      simp only [Sem.run_bind, run_part1 (by rw [hu]) hx, run_part1 (by rw [hu]) hy, run_equalIn_bool w d _ _ _ hu, Result.andThen_ok]
      cases a == b <;> simp [ih]
    · rename_i k a k' b hu hx hy
      split at h
      · rename_i hk
        subst hk
        obtain ⟨l, hl, rfl⟩ := Option.map_eq_some_iff.1 h
        have ih := eqRow_run (w := w) (d := d) fs l hl
        simp only [Sem.run_bind, run_part1 (by rw [hu]) hx, run_part1 (by rw [hu]) hy, run_equalIn_int w d _ _ _ _ _ hu, Result.andThen_ok]
        cases a == b <;> simp [ih]
      · cases h
    · rename_i a b hu hx hy
      obtain ⟨l, hl, rfl⟩ := Option.map_eq_some_iff.1 h
      have ih := eqRow_run (w := w) (d := d) fs l hl
      simp only [Sem.run_bind, run_part1 (by rw [hu]) hx, run_part1 (by rw [hu]) hy, run_equalIn_string w d _ _ _ hu, Result.andThen_ok]
      cases a.toList == b.toList <;> simp [ih]
    · cases h
theorem eq_struct {P : Program} {t : TypeId} {xs ys : Array Value} {bs : List Bool} (ht : P.underlying t = some (.struct (P.fieldsOf t))) (hp : P.stoodInHeld t = false) (h : eqRow P xs ys (P.fieldsOf t).toList = some bs)
    (r : Bool) (hr : r = bs.all id) : ∀ w d, (Op.equalIn (d + 5) t (.agg xs) (.agg ys)).run P w = .ok r w := by
  intro w d
  rw [run_equalIn_struct w (d + 4) t xs ys ht hp, hr]
  exact eqRow_run _ _ h
end Go.Sh

/-
  copy into a block of the call's own.
-/
namespace Go.Sh
open Go
set_option linter.unusedVariables false
theorem copy_cut {P : Program} {t t' ty e bytes : Nat} (ht : P.underlying t = some (.slice e)) (he : Elem P e 1 bytes) {w : World} {g N o n c' d m te : Nat} {b : Option Addr} {vs us : List Value} (hb : Blk w g te vs) (hN : N ≤ vs.length) (hn : n = N - o) (ho : o + m ≤ N)
    (hr : Rd w b us) (hl : us.length = m) (h1 : ∀ u ∈ us, one u = true) :
    ∃ w', (Builtin.copy_ #[t, t'] ty #[.slice (cutA (some (base g)) N o 1) n c', .slice b m d]).run P w = .ok (.int .i64 (m : Int)) w' ∧ Blk w' g te (vs.take o ++ us ++ vs.drop (o + m)) ∧ Mod [g] w w' := by
  obtain ⟨⟨inf, zv', hi, _, hs, _, _⟩, _⟩ := he
  have hmin : Nat.min m n = m := Nat.min_eq_left (by omega)
  cases b with
  | none =>
    have hus : us = [] := by
      rcases hr with h | ⟨p, h, _⟩
      · exact h
      · cases h
    subst hus
    simp at hl
    subst hl
    refine ⟨w, ?_, by simpa using hb, Mod.refl _⟩
    unfold cutA
    split <;> simp [Builtin.copy_, run_underlying ht, Builtin.lenOf, Builtin.firstCells, sizeOf, typeInfo, hi, storeCells, goInt]
  | some p =>
    have hsrc : ∀ j v, us[j]? = some v → w.cell? (p.add j) = some v := by
      rcases hr with h | ⟨p', h, hc⟩
      · subst h; simp
      · cases h; exact hc
    have h1' : ∀ u ∈ us, u.oneCell' = true := fun u hu => one_cell (h1 u hu)
    by_cases hNo : N = o
    · have hm : m = 0 := by omega
      subst hm
      have hus : us = [] := List.eq_nil_of_length_eq_zero hl
      subst hus
      refine ⟨w, ?_, by simpa using hb, Mod.refl _⟩
      have hz : ∀ w : World, (loadCells p 0).run P w = .ok #[] w := fun w => by simpa using run_loadCells_list (P := P) w p [] (by simp)
      unfold cutA
      rw [if_pos hNo]
      simp [Builtin.copy_, run_underlying ht, Builtin.lenOf, Builtin.firstCells, sizeOf, typeInfo, hi, storeCells, goInt, hz]
    · have hcut : cutA (some (base g)) N o 1 = some ⟨g, o, none⟩ := by
        unfold cutA
        rw [if_neg hNo]
        simp [base_add]
      rw [hcut]
      have hb' : w.heap[g]? = some (.cells vs.toArray te (0, 0)) := hb
      have hrun := run_copy_row (P := P) w t t' ty e g o n c' p m d vs.toArray te us ht (by rw [hi]; simp [hs]) hb' (by rw [hmin]; exact hl) hsrc (by simp; omega) h1'
      simp only at hrun
      refine ⟨w.setRow g (vs.take o ++ us ++ vs.drop (o + us.length)).toArray, by rw [hrun, hl]; rfl, ?_, ⟨rfl, rfl, rfl, by simp [World.setRow], fun k _ hk => setRow_other w g k _ (by simpa using hk)⟩⟩
      have := setRow_heap w g vs.toArray (vs.take o ++ us ++ vs.drop (o + us.length)).toArray te (0, 0) hb'
      unfold Blk
      rw [this, hl]
end Go.Sh

/-
  Windows: a slice that lies anywhere in a block of the call's own; what append, copy, slices.Delete and slices.Insert do to it.
-/
namespace Go.Sh
open Go
set_option linter.unusedVariables false
set_option linter.unusedSimpArgs false

def Win (w : World) (e z : Nat) (a : Option Addr) (n c : Nat) (vs : List Value) : Prop :=
  vs.length = n * z ∧ n ≤ c ∧ c ≤ maxLen ∧ ((a = none ∧ c = 0) ∨ ∃ g pre r post, a = some ⟨g, List.length pre, none⟩ ∧ Blk w g e (pre ++ (vs ++ r) ++ post) ∧ (vs ++ r).length = c * z)

section
variable {w w' : World} {e z n c : Nat} {a : Option Addr} {vs : List Value}
theorem Win.of_own (h : Own w e z a n c vs) : Win w e z a n c vs := by
  rcases h.2 with ⟨rfl, rfl, rfl⟩ | ⟨g, r, rfl, hb, h1, h2, h3⟩
  · exact ⟨h.1, Nat.le_refl _, by simp [maxLen], .inl ⟨rfl, rfl⟩⟩
  · exact ⟨h.1, h1, h2, .inr ⟨g, [], r, [], rfl, by simpa using hb, h3⟩⟩
theorem Win.nil : Win w e z none 0 0 [] := Win.of_own Own.nil
theorem cell_at {g o : Nat} {t : TypeId} {L : List Value} (h : Blk w g t L) (j : Nat) : w.cell? ((⟨g, o, none⟩ : Addr).add j) = L[o + j]? := by
  have := h.cellAt (o + j)
  rw [base_add] at this
  rw [← this]
  congr 1
  unfold Addr.add
  by_cases hj : j = 0 <;> simp [hj]
theorem Win.rd (h : Win w e z a n c vs) : Rd w a vs := by
  rcases h.2.2.2 with ⟨rfl, h0⟩ | ⟨g, pre, r, post, rfl, hb, hl⟩
  · left
    have := h.1
    have h1 := h.2.1
    subst h0
    have : n = 0 := by omega
    subst this
    exact List.eq_nil_of_length_eq_zero (by simpa using h.1)
  · refine .inr ⟨_, rfl, fun i v hv => ?_⟩
    rw [cell_at hb]
    have hi := (List.getElem?_eq_some_iff.1 hv).1
    rw [List.append_assoc, List.getElem?_append_right (by omega), Nat.add_sub_cancel_left, List.append_assoc, List.getElem?_append_left hi]
    exact hv
theorem Win.lt (h : Win w e z a n c vs) : ∀ g ∈ fp a, g < w.heap.size := by
  rcases h.2.2.2 with ⟨rfl, _⟩ | ⟨g, pre, r, post, rfl, hb, _⟩
  · simp [fp]
  · intro y hy
    simp [fp] at hy
    subst hy
    exact hb.lt
theorem Win.mod {S : List Nat} (h : Win w e z a n c vs) (hm : Mod S w w') (hn : ∀ g ∈ fp a, g ∉ S) : Win w' e z a n c vs := by
  refine ⟨h.1, h.2.1, h.2.2.1, ?_⟩
  rcases h.2.2.2 with h' | ⟨g, pre, r, post, rfl, hb, hl⟩
  · exact .inl h'
  · exact .inr ⟨g, pre, r, post, rfl, hb.mod hm (hn g (by simp [fp])), hl⟩
theorem Win.ne (h : Win w e z a n c vs) {g : Nat} {t : TypeId} {us : List Value} (hb : Blk w g t us) (hne : e ≠ t) : g ∉ fp a := by
  rcases h.2.2.2 with ⟨rfl, _⟩ | ⟨g', pre, r, post, rfl, hb', _⟩
  · simp [fp]
  · simp [fp]
    intro he
    subst he
    exact Blk.ne hb' hb hne rfl
theorem Win.le (h : Win w e z a n c vs) : n ≤ c := h.2.1
theorem fp_cut (a : Option Addr) (c l z : Nat) : fp (cutA a c l z) = fp a := by
  unfold cutA
  split
  · rfl
  · cases a with
    | none => rfl
    | some p => simp [fp, add_block]
/-- The rest of a window. -/
theorem Win.cut (h : Win w e z a n c vs) {l : Nat} (hl : l ≤ n) : Win w e z (cutA a c l z) (n - l) (c - l) (vs.drop (l * z)) := by
  have h1 := h.1
  have h2 := h.2.1
  have hlz : l * z ≤ n * z := Nat.mul_le_mul_right z hl
  refine ⟨by rw [List.length_drop, h1, Nat.sub_mul], by omega, by have := h.2.2.1; omega, ?_⟩
  rcases h.2.2.2 with ⟨rfl, h0⟩ | ⟨g, pre, r, post, rfl, hb, hc⟩
  · subst h0
    left
    exact ⟨by unfold cutA; split <;> rfl, by omega⟩
  · right
    by_cases hcl : c = l
    · subst hcl
      refine ⟨g, pre, [], (vs ++ r) ++ post, by unfold cutA; rw [if_pos rfl], ?_, ?_⟩
      · rw [List.drop_of_length_le (by rw [h1]; exact Nat.mul_le_mul_right z h2)]
        simpa [List.append_assoc] using hb
      · rw [List.drop_of_length_le (by rw [h1]; exact Nat.mul_le_mul_right z h2)]
        simp
    · refine ⟨g, pre ++ vs.take (l * z), r, post, ?_, ?_, ?_⟩
      · unfold cutA
        rw [if_neg hcl]
        simp only [Option.map_some]
        congr 1
        rw [List.length_append, List.length_take, h1, Nat.min_eq_left hlz]
        unfold Addr.add
        by_cases h0 : l * z = 0 <;> simp [h0]
      · have : pre ++ vs.take (l * z) ++ (vs.drop (l * z) ++ r) ++ post = pre ++ (vs ++ r) ++ post := by
          rw [List.append_assoc pre, ← List.append_assoc (vs.take _), List.take_append_drop]
        rw [this]
        exact hb
      · rw [List.length_append, List.length_drop]
        rw [List.length_append] at hc
        rw [Nat.sub_mul]
        omega
/-- Its first elements. -/
theorem Win.take (h : Win w e z a n c vs) {l : Nat} (hl : l ≤ n) : Win w e z a l c (vs.take (l * z)) := by
  have h1 := h.1
  have hlz : l * z ≤ n * z := Nat.mul_le_mul_right z hl
  refine ⟨by rw [List.length_take, h1]; omega, Nat.le_trans hl h.2.1, h.2.2.1, ?_⟩
  rcases h.2.2.2 with h0 | ⟨g, pre, r, post, rfl, hb, hc⟩
  · exact .inl h0
  · refine .inr ⟨g, pre, vs.drop (l * z) ++ r, post, rfl, ?_, ?_⟩
    · rw [← List.append_assoc (vs.take _), List.take_append_drop]; exact hb
    · rw [← List.append_assoc (vs.take _), List.take_append_drop]; exact hc
end

/-! ### stores into a block -/
theorem store_blk {P : Program} {w : World} {g o te : Nat} {L us : List Value} (hb : Blk w g te L) (ho : o + us.length ≤ L.length) (h1 : ∀ u ∈ us, one u = true) :
    ∃ w', (storeCells ⟨g, o, none⟩ us 0).run P w = .ok () w' ∧ Blk w' g te (L.take o ++ us ++ L.drop (o + us.length)) ∧ Mod [g] w w' := by
  have hb' : w.heap[g]? = some (.cells L.toArray te (0, 0)) := hb
  have hst := run_storeCells_at P g o te us 0 L.toArray w hb' (by simp; omega) (fun u hu => one_cell (h1 u hu))
  simp only [Nat.add_zero] at hst
  refine ⟨_, hst, setRow_heap w g L.toArray _ te (0, 0) hb', ⟨rfl, rfl, rfl, by simp [World.setRow], fun k _ hk => setRow_other w g k _ (by simpa using hk)⟩⟩

theorem zeroCells_one' {zs : Array Value} (h : ∀ u ∈ zs.toList, one u = true) (n : Nat) : ∀ u ∈ (Builtin.zeroCells zs n).toList, one u = true := by
  intro u hu
  simp [Builtin.zeroCells] at hu
  obtain ⟨i, hi, rfl⟩ := hu
  rcases Nat.eq_zero_or_pos zs.size with h0 | h0
  · rw [h0] at hi; simp at hi
  · have hlt := Nat.mod_lt i h0
    apply h
    rw [getElem!_pos zs _ hlt]
    exact Array.getElem_mem_toList hlt
theorem copy_blk {P : Program} {t t' ty e z bytes : Nat} (ht : P.underlying t = some (.slice e)) (he : Elem P e z bytes) {w : World} {g o n c' d m te k : Nat} {b : Option Addr} {L us : List Value} (hb : Blk w g te L) (hk : Nat.min m n = k)
    (hr : Rd w b us) (hl : us.length = k * z) (ho : o + us.length ≤ L.length) (h1 : ∀ u ∈ us, one u = true) :
    ∃ w', (Builtin.copy_ #[t, t'] ty #[.slice (some ⟨g, o, none⟩) n c', .slice b m d]).run P w = .ok (.int .i64 (k : Int)) w' ∧ Blk w' g te (L.take o ++ us ++ L.drop (o + us.length)) ∧ Mod [g] w w' := by
  obtain ⟨⟨inf, zv', hi, _, hs, _, _⟩, _⟩ := he
  obtain ⟨w', hst, hb2, hm⟩ := store_blk (P := P) hb ho h1
  have hfc : (Builtin.firstCells z k (.slice b m d)).run P w = .ok us.toArray w := by
    rcases hr with h | ⟨p, rfl, hc⟩
    · subst h
      cases b with
      | none => simp [Builtin.firstCells]
      | some p => exact run_firstCells_some (P := P) w z k p m d [] hl (by simp)
    · exact run_firstCells_some (P := P) w z k p m d us hl hc
  refine ⟨w', ?_, hb2, hm⟩
  simp [Builtin.copy_, run_underlying ht, Builtin.lenOf, sizeOf, typeInfo, hi, hs, hk, hfc, hst, goInt]

/-! ### append -/
theorem firstCells_rd {P : Program} {w : World} {z m d : Nat} {b : Option Addr} {us : List Value} (hr : Rd w b us) (hl : us.length = m * z) : (Builtin.firstCells z m (.slice b m d)).run P w = .ok us.toArray w := by
  rcases hr with h | ⟨p, rfl, hcc⟩
  · subst h
    cases b with
    | none => simp [Builtin.firstCells]
    | some p => exact run_firstCells_some (P := P) w z m p m d [] hl (by simp)
  · exact run_firstCells_some (P := P) w z m p m d us hl hcc
theorem addr_add (g o k : Nat) : (⟨g, o, none⟩ : Addr).add k = ⟨g, o + k, none⟩ := by
  unfold Addr.add
  by_cases h0 : k = 0 <;> simp [h0]
/-- In place. -/
theorem win_append_room {P : Program} {t e z bytes : Nat} (ht : P.underlying t = some (.slice e)) (he : Elem P e z bytes) (ty : TypeId) {w : World} {a b : Option Addr} {n c m d : Nat} {vs us : List Value}
    (ho : Win w e z a n c vs) (hr : Rd w b us) (hl : us.length = m * z) (h1 : ∀ u ∈ us, one u = true) (hroom : n + m ≤ c) :
    ∃ w', (Builtin.append_ #[t, t] ty #[.slice a n c, .slice b m d]).run P w = .ok (.slice a (n + m) c) w' ∧ Win w' e z a (n + m) c (vs ++ us) ∧ Mod (fp a) w w' := by
  have hvl := ho.1
  obtain ⟨⟨inf, zv, hi, hz, hs, hby, hzs⟩, hpos⟩ := he
  have hfc := firstCells_rd (P := P) (d := d) hr hl
  rcases ho.2.2.2 with ⟨rfl, h0⟩ | ⟨g, pre, r, post, rfl, hB, hc⟩
  · have hn : n = 0 ∧ m = 0 := by omega
    obtain ⟨hn, hm⟩ := hn
    subst h0 hn hm
    have hv : vs = [] := List.eq_nil_of_length_eq_zero (by simpa using hvl)
    have hu : us = [] := List.eq_nil_of_length_eq_zero (by simpa using hl)
    subst hv hu
    refine ⟨w, ?_, Win.nil, Mod.refl _⟩
    simp [Builtin.append_, run_underlying ht, sizeOf, typeInfo, hi, hs, Builtin.lenOf, hfc]
  have hmul : (n + m) * z ≤ c * z := Nat.mul_le_mul_right z hroom
  rw [Nat.add_mul] at hmul
  have hlen : pre.length + n * z + us.length ≤ (pre ++ (vs ++ r) ++ post).length := by
    simp only [List.length_append] at hc ⊢
    omega
  obtain ⟨w', hst, hb2, hm⟩ := store_blk (P := P) (o := pre.length + n * z) hB hlen h1
  refine ⟨w', ?_, ⟨by rw [List.length_append, hvl, hl, Nat.add_mul], hroom, ho.2.2.1, .inr ⟨g, pre, r.drop us.length, post, rfl, ?_, ?_⟩⟩, hm⟩
  · simp [Builtin.append_, run_underlying ht, sizeOf, typeInfo, hi, hs, Builtin.lenOf, hroom, hfc, addr_add, hst]
  · have hr' : us.length ≤ r.length := by
      simp only [List.length_append] at hc
      omega
    have e1 : (pre ++ (vs ++ r) ++ post).take (pre.length + n * z) = pre ++ vs := by
      rw [List.append_assoc, List.take_append, List.take_of_length_le (by omega), Nat.add_sub_cancel_left, List.append_assoc, ← hvl, List.take_left]
    have e2 : (pre ++ (vs ++ r) ++ post).drop (pre.length + n * z + us.length) = r.drop us.length ++ post := by
      rw [List.append_assoc, List.drop_append, List.drop_of_length_le (by omega), List.nil_append, show pre.length + n * z + us.length - pre.length = n * z + us.length by omega, List.append_assoc, List.drop_append, List.drop_of_length_le (by omega), List.nil_append, hvl, Nat.add_sub_cancel_left, List.drop_append_of_le_length hr']
    rw [e1, e2] at hb2
    simpa [List.append_assoc] using hb2
  · simp only [List.length_append, List.length_drop] at hc ⊢
    omega
theorem win_append {P : Program} {t e z bytes : Nat} (ht : P.underlying t = some (.slice e)) (he : Elem P e z bytes) (ty : TypeId) {w : World} {a b : Option Addr} {n c m d : Nat} {vs us : List Value}
    (ho : Win w e z a n c vs) (hr : Rd w b us) (hl : us.length = m * z) (h1 : ∀ u ∈ us, one u = true) (hb : (n + m) * bytes ≤ 140737488355328) (h63 : n + m ≤ 9223372036854775807) :
    ∃ a' c' w', (Builtin.append_ #[t, t] ty #[.slice a n c, .slice b m d]).run P w = .ok (.slice a' (n + m) c') w' ∧ Win w' e z a' (n + m) c' (vs ++ us) ∧ Mod (fp a) w w' ∧ ∀ x ∈ fp a', x ∈ fp a ∨ w.heap.size ≤ x := by
  have hvl := ho.1
  by_cases hroom : n + m ≤ c
  · obtain ⟨w', h1, h2, h3⟩ := win_append_room (d := d) ht he ty ho hr hl h1 hroom
    exact ⟨a, c, w', h1, h2, h3, fun x hx => .inl hx⟩
  rcases ho.2.2.2 with ⟨rfl, h0⟩ | ⟨g, pre, r, post, rfl, hB, hc⟩
  · have hn : n = 0 := by have := ho.2.1; omega
    subst h0 hn
    have hv : vs = [] := List.eq_nil_of_length_eq_zero (by simpa using hvl)
    subst hv
    obtain ⟨a', c', w', h1, h2, h3, h4⟩ := append_own (d := d) ht he ty (Own.nil (w := w)) hr hl h1 hb h63
    exact ⟨a', c', w', h1, Win.of_own h2, h3, fun x hx => by rcases h4 with h | h <;> rw [h] at hx <;> simp [fp] at hx; omega⟩
  obtain ⟨⟨inf, zv, hi, hz, hs, hby, hzs⟩, hpos⟩ := he
  have holds : ∀ j u, vs[j]? = some u → w.cell? ((⟨g, pre.length, none⟩ : Addr).add j) = some u := by
    rcases ho.rd with h | ⟨p, hp, hcc⟩
    · subst h; simp
    · cases hp; exact hcc
  obtain ⟨q, hq, hnews⟩ : ∃ q : Addr, (b = some q) ∧ ∀ j u, us[j]? = some u → w.cell? (q.add j) = some u := by
    rcases hr with h | ⟨q, hq, hcc⟩
    · subst h
      have : m = 0 := by
        rcases Nat.eq_zero_or_pos m with h | h
        · exact h
        · have := Nat.mul_pos h hpos; simp at hl; omega
      have := ho.2.1
      omega
    · exact ⟨q, hq, hcc⟩
  subst hq
  obtain ⟨v', w', hrun, hown, hg⟩ := run_append_arg_grows (P := P) w t ty e inf zv z bytes ht hi hz hs hby hzs hpos ⟨g, pre.length, none⟩ n c vs hvl holds q m d us hl hnews (by omega) (by simp [maxLen]; omega) hb
  obtain ⟨hl2, hcase⟩ := hown
  rcases hcase with ⟨_, h0⟩ | ⟨g', cap, cur, rfl, hge, hb2, hn2, hm2, hs2, ht2⟩
  · have := ho.2.1; omega
  · refine ⟨_, cap, w', hrun, ?_, (Mod.grown (S := []) hg (by simp)).weaken (by simp), fun x hx => .inr (by simp [fp] at hx; omega)⟩
    refine ⟨hl2, hn2, hm2, .inr ⟨g', [], cur.toList.drop ((n + m) * z), [], rfl, ?_, ?_⟩⟩
    · unfold Blk
      rw [hb2, ← ht2]
      simp [List.take_append_drop]
    · rw [← ht2, List.take_append_drop]; simpa using hs2

/-! ### clear behind the end, Delete -/
theorem win_clear {P : Program} {t e z bytes : Nat} {zv : Value} (ht : P.underlying t = some (.slice e)) (he : Elem P e z bytes) (hz : ∀ w, (zeroValue e).run P w = .ok zv w) (hzs : zv.cells.size = z) (hz1 : ∀ u ∈ zv.cells.toList, one u = true)
    {w : World} {a : Option Addr} {k n c : Nat} {vs : List Value} (ho : Win w e z a k c vs) (hkn : k ≤ n) (hnc : n ≤ c) :
    ∃ w', (Builtin.clear_ #[t] 0 #[.slice (cutA a c k z) (n - k) (c - k)]).run P w = .ok (.tuple #[]) w' ∧ Win w' e z a k c vs ∧ Mod (fp a) w w' := by
  have hvl := ho.1
  have hzl : (Builtin.zeroCells zv.cells (n - k)).toList.length = (n - k) * z := by rw [Array.length_toList, size_zeroCells, hzs]
  rcases ho.2.2.2 with ⟨rfl, h0⟩ | ⟨g, pre, r, post, rfl, hB, hc⟩
  · have h1 : n - k = 0 := by omega
    refine ⟨w, ?_, ho, Mod.refl _⟩
    rw [h1]
    have : cutA none c k z = none := by unfold cutA; split <;> rfl
    rw [this]
    simp [Builtin.clear_, run_underlying ht, hz]
  · have hmul : n * z ≤ c * z := Nat.mul_le_mul_right z hnc
    have hsub : (n - k) * z = n * z - k * z := Nat.sub_mul _ _ _
    have hkz : k * z ≤ n * z := Nat.mul_le_mul_right z hkn
    have hlen : pre.length + k * z + (Builtin.zeroCells zv.cells (n - k)).toList.length ≤ (pre ++ (vs ++ r) ++ post).length := by
      rw [hzl]
      simp only [List.length_append] at hc ⊢
      omega
    by_cases h0 : n - k = 0
    · refine ⟨w, ?_, ho, Mod.refl _⟩
      rw [h0]
      unfold cutA
      split <;> simp [Builtin.clear_, run_underlying ht, hz]
    obtain ⟨w', hst, hb2, hm⟩ := store_blk (P := P) (o := pre.length + k * z) hB hlen (zeroCells_one' hz1 _)
    have hcut : cutA (some ⟨g, pre.length, none⟩) c k z = some ⟨g, pre.length + k * z, none⟩ := by
      unfold cutA
      rw [if_neg (by omega)]
      simp [addr_add]
    refine ⟨w', ?_, ⟨hvl, ho.2.1, ho.2.2.1, .inr ⟨g, pre, (Builtin.zeroCells zv.cells (n - k)).toList ++ r.drop ((n - k) * z), post, rfl, ?_, ?_⟩⟩, hm⟩
    · rw [hcut]
      obtain ⟨m, hmm⟩ : ∃ m, n - k = m + 1 := ⟨n - k - 1, by omega⟩
      rw [hmm] at hst ⊢
      simp [Builtin.clear_, run_underlying ht, hz, hst]
    · have hr' : (n - k) * z ≤ r.length := by
        simp only [List.length_append] at hc
        omega
      have e1 : (pre ++ (vs ++ r) ++ post).take (pre.length + k * z) = pre ++ vs := by
        rw [List.append_assoc, List.take_append, List.take_of_length_le (by omega), Nat.add_sub_cancel_left, List.append_assoc, ← hvl, List.take_left]
      have e2 : (pre ++ (vs ++ r) ++ post).drop (pre.length + k * z + (Builtin.zeroCells zv.cells (n - k)).toList.length) = r.drop ((n - k) * z) ++ post := by
        rw [hzl, List.append_assoc, List.drop_append, List.drop_of_length_le (by omega), List.nil_append, show pre.length + k * z + (n - k) * z - pre.length = k * z + (n - k) * z by omega, List.append_assoc, List.drop_append, List.drop_of_length_le (by omega), List.nil_append, hvl, Nat.add_sub_cancel_left, List.drop_append_of_le_length hr']
      rw [e1, e2] at hb2
      simpa [List.append_assoc] using hb2
    · simp only [List.length_append, List.length_drop, hzl] at hc ⊢
      omega
/-- slices.Delete behind its bounds. -/
theorem win_delete {P : Program} {t e z bytes ty : Nat} {zv : Value} (ht : P.underlying t = some (.slice e)) (he : Elem P e z bytes) (hz : ∀ w, (zeroValue e).run P w = .ok zv w) (hzs : zv.cells.size = z) (hz1 : ∀ u ∈ zv.cells.toList, one u = true)
    {w : World} {a : Option Addr} {n c i j : Nat} {vs : List Value} (ho : Win w e z a n c vs) (h1 : ∀ u ∈ vs, one u = true) (hij : i ≤ j) (hjn : j ≤ n) :
    ∃ w1, (Builtin.append_ #[t, t] ty #[.slice a i c, .slice (cutA a c j z) (n - j) (c - j)]).run P w = .ok (.slice a (i + (n - j)) c) w1 ∧
      ∃ w2, (Builtin.clear_ #[t] 0 #[.slice (cutA a c (i + (n - j)) z) (n - (i + (n - j))) (c - (i + (n - j)))]).run P w1 = .ok (.tuple #[]) w2 ∧
        Win w2 e z a (i + (n - j)) c (vs.take (i * z) ++ vs.drop (j * z)) ∧ Mod (fp a) w w2 := by
  have hle := ho.2.1
  have hcut := ho.cut hjn
  obtain ⟨w1, r1, o1, m1⟩ := win_append_room (d := c - j) ht he ty (ho.take (show i ≤ n by omega)) hcut.rd hcut.1 (fun u hu => h1 u (List.mem_of_mem_drop hu)) (by omega)
  obtain ⟨w2, r2, o2, m2⟩ := win_clear ht he hz hzs hz1 o1 (n := n) (by omega) hle
  exact ⟨w1, r1, w2, r2, o2, m1.same m2⟩

/-! ### Insert of one element -/
theorem cut_addr {g o c l z : Nat} (h : c ≠ l) : cutA (some ⟨g, o, none⟩) c l z = some ⟨g, o + l * z, none⟩ := by
  unfold cutA
  rw [if_neg h]
  simp [addr_add]
theorem win_insert_room {P : Program} {t e z bytes ty tv : Nat} (ht : P.underlying t = some (.slice e)) (he : Elem P e z bytes) {w : World} {a : Option Addr} {n c i gv : Nat} {vs xs : List Value} (ho : Win w e z a n c vs) (h1 : ∀ u ∈ vs, one u = true) (hi : i < n) (hc : n + 1 ≤ c)
    (hv : Blk w gv tv xs) (hgv : gv ∉ fp a) (hxl : xs.length = z) (hx1 : ∀ u ∈ xs, one u = true) :
    ∃ w1, (Builtin.copy_ #[t, t] ty #[.slice (cutA a c (i + 1) z) (n + 1 - (i + 1)) (c - (i + 1)), .slice (cutA a c i z) (n + 1 - i) (c - i)]).run P w = .ok (.int .i64 ((n - i : Nat) : Int)) w1 ∧
      ∃ w2, (Builtin.copy_ #[t, t] ty #[.slice (cutA a c i z) (n + 1 - i) (c - i), .slice (some (base gv)) 1 1]).run P w1 = .ok (.int .i64 1) w2 ∧ Win w2 e z a (n + 1) c (vs.take (i * z) ++ xs ++ vs.drop (i * z)) ∧ Mod (fp a) w w2 := by
  have hvl := ho.1
  have hpos := he.pos
  rcases ho.2.2.2 with ⟨rfl, h0⟩ | ⟨g, pre, r, post, rfl, hB, hcl⟩
  · omega
  have hiz : (i + 1) * z ≤ n * z := Nat.mul_le_mul_right z hi
  have hcz : (n + 1) * z ≤ c * z := Nat.mul_le_mul_right z hc
  have e1 : (i + 1) * z = i * z + z := Nat.succ_mul i z
  have e2 : (n + 1) * z = n * z + z := Nat.succ_mul n z
  have hsub : (n - i) * z = n * z - i * z := Nat.sub_mul _ _ _
  rw [List.length_append] at hcl
  have hrl : z ≤ r.length := by omega
  have hcut := (ho.cut (l := i) (by omega)).rd
  rw [cut_addr (by omega), cut_addr (by omega)]
  rw [cut_addr (by omega)] at hcut
  obtain ⟨w1, run1, b1, m1⟩ := copy_blk (P := P) (t' := t) (ty := ty) (o := pre.length + (i + 1) * z) (n := n + 1 - (i + 1)) (c' := c - (i + 1)) (m := n + 1 - i) (d := c - i) (k := n - i) ht he hB (by show min _ _ = _; omega) hcut
    (by rw [List.length_drop, hvl, hsub]) (by simp only [List.length_append, List.length_drop]; omega) (fun u hu => h1 u (List.mem_of_mem_drop hu))
  refine ⟨w1, run1, ?_⟩
  have ev1 : (pre ++ (vs ++ r) ++ post).take (pre.length + (i + 1) * z) = pre ++ vs.take ((i + 1) * z) := by
    rw [List.append_assoc, List.take_append, List.take_of_length_le (by omega), Nat.add_sub_cancel_left, List.append_assoc, List.take_append_of_le_length (by omega)]
  have ev2 : (pre ++ (vs ++ r) ++ post).drop (pre.length + (i + 1) * z + (vs.drop (i * z)).length) = r.drop z ++ post := by
    rw [List.length_drop, hvl, List.append_assoc, List.drop_append, List.drop_of_length_le (by omega), List.nil_append, show pre.length + (i + 1) * z + (n * z - i * z) - pre.length = n * z + z by omega, List.append_assoc, List.drop_append, List.drop_of_length_le (by omega), List.nil_append, hvl, Nat.add_sub_cancel_left, List.drop_append_of_le_length hrl]
  rw [ev1, ev2] at b1
  have hgne : gv ≠ g := by intro h; subst h; exact hgv (by simp [fp])
  have hv1 := hv.mod m1 (by simpa using hgne)
  obtain ⟨w2, run2, b2, m2⟩ := copy_blk (P := P) (t' := t) (ty := ty) (o := pre.length + i * z) (n := n + 1 - i) (c' := c - i) (m := 1) (d := 1) (k := 1) ht he b1 (by show min _ _ = _; omega) (Rd.blk hv1) (by omega)
    (by simp only [List.length_append, List.length_take, List.length_drop]; omega) hx1
  refine ⟨w2, run2, ⟨?_, hc, ho.2.2.1, .inr ⟨g, pre, r.drop z, post, rfl, ?_, ?_⟩⟩, m1.same m2⟩
  · simp only [List.length_append, List.length_take, List.length_drop]; omega
  · have ew1 : (pre ++ vs.take ((i + 1) * z) ++ vs.drop (i * z) ++ (r.drop z ++ post)).take (pre.length + i * z) = pre ++ vs.take (i * z) := by
      rw [List.append_assoc, List.append_assoc, List.take_append, List.take_of_length_le (by omega), Nat.add_sub_cancel_left, List.take_append_of_le_length (by rw [List.length_take]; omega), List.take_take, Nat.min_eq_left (by omega)]
    have ew2 : (pre ++ vs.take ((i + 1) * z) ++ vs.drop (i * z) ++ (r.drop z ++ post)).drop (pre.length + i * z + xs.length) = vs.drop (i * z) ++ (r.drop z ++ post) := by
      rw [hxl, List.append_assoc, List.append_assoc, List.drop_append, List.drop_of_length_le (by omega), List.nil_append, List.drop_append, List.drop_of_length_le (by rw [List.length_take]; omega), List.nil_append]
      rw [show pre.length + i * z + z - pre.length - (vs.take ((i + 1) * z)).length = 0 by rw [List.length_take]; omega, List.drop_zero]
    rw [ew1, ew2] at b2
    simpa [List.append_assoc] using b2
  · simp only [List.length_append, List.length_take, List.length_drop]; omega

theorem append_make {P : Program} {t ti ty e z bytes : Nat} {zv : Value} (ht : P.underlying t = some (.slice e)) (hti : P.underlying ti = some (.int .i64)) (he : Elem P e z bytes) (hzv : (P.info? e).bind (·.zero) = some zv) (hz1 : ∀ u ∈ zv.cells.toList, one u = true) (hzs : zv.cells.size = z)
    {w : World} {a : Option Addr} {i c k : Nat} {us : List Value} (hr : Rd w a us) (hl : us.length = i * z) (hg : c < i + k) (hk : k ≤ 1000000) (hi : i ≤ 1000000) (hby : bytes ≤ 1000000) (hpos : 0 < k) :
    ∃ c' L w', (Builtin.append_ #[t, ti] ty #[.slice a i c, .int .i64 (k : Int)]).run P w = .ok (.slice (some (base w.heap.size)) (i + k) c') w' ∧ Blk w' w.heap.size e (us ++ L) ∧ (us ++ L).length = c' * z ∧ i + k ≤ c' ∧ c' ≤ maxLen ∧ Mod [] w w' := by
  obtain ⟨⟨inf, zv', hinf, hz, hs, hb, hzs'⟩, hzpos⟩ := he
  rw [hinf] at hzv
  simp only [Option.bind_some] at hzv
  have hn : ¬ (i + k ≤ c) := by omega
  have hge := grownCap_ge w (i + k) c e
  have hcm : grownCap w (i + k) c e ≤ maxLen := grownCap_le_maxLen w (i + k) c e (by simp [maxLen]; omega)
  have hwrap : IntKind.i64.wrap (k : Int) = (k : Int) := IntWalk.i64_in _ (by omega)
  have hkb : k * bytes ≤ 1000000 * 1000000 := Nat.mul_le_mul hk hby
  have hikb : (i + k) * bytes ≤ 2000000 * 1000000 := Nat.mul_le_mul (by omega) hby
  have hfit := growslice_fits (need := i + k) (old := c) (bytes := bytes) hg (by omega)
  have h48 : ¬ ((281474976710656 : Int) < (k : Int) * (bytes : Int)) := by
    have : (k : Int) * (bytes : Int) = ((k * bytes : Nat) : Int) := by push_cast; rfl
    omega
  have hf : (Builtin.firstCells z i (.slice a i c)).run P w.drew = .ok us.toArray w.drew := firstCells_rd (hr.drew) hl
  have hk0 : ¬ ((k : Int) < 0) := by omega
  have h63 : ¬ ((9223372036854775807 : Int) < (i : Int) + (k : Int)) := by omega
  have hfit' : ¬ (281474976710656 < Builtin.nextslicecap (i + k) c * bytes) := by omega
  have hkz : ¬ (k * z = 0) := by have := Nat.mul_pos hpos hzpos; omega
  refine ⟨grownCap w (i + k) c e, (Builtin.zeroCells zv.cells k).toList ++ (Builtin.zeroCells zv.cells (grownCap w (i + k) c e - (i + k))).toList, push w.drew e (us ++ ((Builtin.zeroCells zv.cells k).toList ++ (Builtin.zeroCells zv.cells (grownCap w (i + k) c e - (i + k))).toList)), ?_, ?_, ?_, hge, hcm, ?_⟩
  · simp [Builtin.append_, run_underlying ht, run_underlying hti, sizeOf, typeInfo, zeroValue, hinf, hzv, hs, hb, hn, asInt, asIntOf, hwrap, h48, Question.forced, hf, hkz, hk0, h63, hfit', newRow, grownCap, push, base]
    congr 2
    apply Array.ext'
    simp
  · exact Blk.new w.drew e _
  · simp only [List.length_append, Array.length_toList, size_zeroCells, hzs, hl]
    rw [← Nat.add_mul, ← Nat.add_mul]
    congr 1
    omega
  · exact (Mod.drew w).none (Mod.push _ _ _)

theorem win_insert_grow {P : Program} {t ti e z bytes ty tyc tv : Nat} {zv : Value} (ht : P.underlying t = some (.slice e)) (hti : P.underlying ti = some (.int .i64)) (he : Elem P e z bytes) (hzv : (P.info? e).bind (·.zero) = some zv) (hz1 : ∀ u ∈ zv.cells.toList, one u = true) (hzs : zv.cells.size = z) (hby : bytes ≤ 1000000)
    {w : World} {a : Option Addr} {n c i gv : Nat} {vs xs : List Value} (ho : Win w e z a n c vs) (h1 : ∀ u ∈ vs, one u = true) (hi : i < n) (hc : c < n + 1) (hn : n < 1000000)
    (hv : Blk w gv tv xs) (hxl : xs.length = z) (hx1 : ∀ u ∈ xs, one u = true) :
    ∃ a' c' w1, (Builtin.append_ #[t, ti] ty #[.slice a i c, .int .i64 ((n + 1 - i : Nat) : Int)]).run P w = .ok (.slice a' (n + 1) c') w1 ∧
      ∃ w2, (Builtin.copy_ #[t, t] tyc #[.slice (cutA a' c' i z) (n + 1 - i) (c' - i), .slice (some (base gv)) 1 1]).run P w1 = .ok (.int .i64 1) w2 ∧
        ∃ w3, (Builtin.copy_ #[t, t] tyc #[.slice (cutA a' c' (i + 1) z) (n + 1 - (i + 1)) (c' - (i + 1)), .slice (cutA a c i z) (n - i) (c - i)]).run P w2.drew = .ok (.int .i64 ((n - i : Nat) : Int)) w3 ∧
          Win w3 e z a' (n + 1) c' (vs.take (i * z) ++ xs ++ vs.drop (i * z)) ∧ Mod [] w w3 ∧ ∀ x ∈ fp a', w.heap.size ≤ x := by
  have hvl := ho.1
  have hpos := he.pos
  have hiz : i * z ≤ n * z := Nat.mul_le_mul_right z (by omega)
  have hsub : (n - i) * z = n * z - i * z := Nat.sub_mul _ _ _
  have e1 : (i + 1) * z = i * z + z := Nat.succ_mul i z
  have e2 : (n + 1) * z = n * z + z := Nat.succ_mul n z
  have e3 : (n + 1 - i) * z = n * z + z - i * z := by rw [Nat.sub_mul, e2]
  obtain ⟨c', L, w1, run1, b1, hL, hge, hmx, m1⟩ := append_make (P := P) (ty := ty) (i := i) ht hti he hzv hz1 hzs (ho.take (show i ≤ n by omega)).rd (by rw [List.length_take, hvl]; omega) (c := c) (k := n + 1 - i) (by omega) (by omega) (by omega) hby (by omega)
  rw [show i + (n + 1 - i) = n + 1 by omega] at run1 hge
  have hL' : (vs.take (i * z)).length = i * z := by rw [List.length_take]; omega
  rw [List.length_append, hL'] at hL
  have hcz : (n + 1) * z ≤ c' * z := Nat.mul_le_mul_right z hge
  refine ⟨_, c', w1, run1, ?_⟩
  have hb : (base w.heap.size) = ⟨w.heap.size, 0, none⟩ := rfl
  rw [hb, cut_addr (by omega), cut_addr (by omega), Nat.zero_add, Nat.zero_add]
  obtain ⟨w2, run2, b2, m2⟩ := copy_blk (P := P) (t' := t) (ty := tyc) (o := i * z) (n := n + 1 - i) (c' := c' - i) (m := 1) (d := 1) (k := 1) ht he b1 (by show min _ _ = _; omega) (Rd.blk (hv.mod m1 (by simp))) (by omega)
    (by rw [List.length_append, hL']; omega) hx1
  refine ⟨w2, run2, ?_⟩
  have ev1 : (vs.take (i * z) ++ L).take (i * z) = vs.take (i * z) := by rw [List.take_append_of_le_length (by omega), List.take_of_length_le (by omega)]
  have ev2 : (vs.take (i * z) ++ L).drop (i * z + xs.length) = L.drop z := by rw [List.drop_append, List.drop_of_length_le (by omega), List.nil_append, hL', hxl]; congr 1; omega
  rw [ev1, ev2] at b2
  have M2 : Mod [] w w2 := m1.trans m2 (fun x hx => .inr (by simp at hx; omega))
  have hcut := ((ho.cut (l := i) (by omega)).rd.mod M2 (by simp)).drew
  obtain ⟨w3, run3, b3, m3⟩ := copy_blk (P := P) (t' := t) (ty := tyc) (o := (i + 1) * z) (n := n + 1 - (i + 1)) (c' := c' - (i + 1)) (m := n - i) (d := c - i) (k := n - i) ht he b2.drew (by show min _ _ = _; omega) hcut
    (by rw [List.length_drop, hvl, hsub]) (by simp only [List.length_append, List.length_take, List.length_drop]; omega) (fun u hu => h1 u (List.mem_of_mem_drop hu))
  refine ⟨w3, run3, ⟨?_, hge, hmx, .inr ⟨w.heap.size, [], L.drop ((n + 1 - i) * z), [], rfl, ?_, ?_⟩⟩, (M2.none (Mod.drew w2)).trans m3 (fun x hx => .inr (by simp at hx; omega)), fun x hx => by simp [fp] at hx; omega⟩
  · simp only [List.length_append, List.length_take, List.length_drop]; omega
  · have ew1 : (vs.take (i * z) ++ xs ++ L.drop z).take ((i + 1) * z) = vs.take (i * z) ++ xs := by
      rw [List.take_append_of_le_length (by rw [List.length_append]; omega), List.take_of_length_le (by rw [List.length_append]; omega)]
    have ew2 : (vs.take (i * z) ++ xs ++ L.drop z).drop ((i + 1) * z + (vs.drop (i * z)).length) = L.drop ((n + 1 - i) * z) := by
      rw [List.length_drop, hvl, List.drop_append, List.drop_of_length_le (by rw [List.length_append]; omega), List.nil_append, List.drop_drop]
      congr 1
      rw [List.length_append]
      omega
    rw [ew1, ew2] at b3
    simpa [List.append_assoc] using b3
  · simp only [List.length_append, List.length_take, List.length_drop]; omega
end Go.Sh
