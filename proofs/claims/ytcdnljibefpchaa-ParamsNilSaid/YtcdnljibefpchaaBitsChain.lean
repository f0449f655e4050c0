/-
  Chains of calls on a writer or a reader of the call's own.
-/
import Derived.Test.YtcdnljibefpchaaBitsW
import Derived.Test.YtcdnljibefpchaaBitsR
namespace Go.Proofs.Ytcdnljibefpchaa
open Go Go.Sh Go.Proofs
set_option linter.unusedVariables false

/-- A writer that is new since w0, nothing of which has changed. -/
def Wn (w0 w : World) (g : Nat) (L : List Bool) : Prop := ∃ S, Wr w g S L ∧ Since w0 S ∧ Mod [] w0 w
section
variable {w0 w : World} {g : Nat} {L : List Bool}
theorem Wn.new (w0 : World) : Does Try.prog 36 #[] w0 fun v w' => v = .pointer (some (base w0.heap.size)) ∧ Wn w0 w' w0.heap.size [] := by
  refine (newWriter_ok w0).mono ?_
  rintro _ w' ⟨rfl, h, m⟩
  exact ⟨rfl, _, h, by intro x hx; simp at hx; omega, m⟩
theorem Wn.m (h : Wn w0 w g L) : Mod [] w0 w := by obtain ⟨_, _, _, m⟩ := h; exact m
theorem Wn.mod (h : Wn w0 w g L) {w' : World} (m : Mod [] w w') : Wn w0 w' g L := by
  obtain ⟨S, h1, h2, h3⟩ := h
  exact ⟨S, h1.mod m (by simp), h2, h3.none m⟩
theorem Wn.drew (h : Wn w0 w g L) : Wn w0 w.drew g L := h.mod (Mod.drew w)
theorem Wn.put (h : Wn w0 w g L) {n : Nat} (wd : Nat) (hn : n < 2 ^ 64) (hwd : wd ≤ 64) (hL : L.length ≤ 900000) :
    Does Try.prog 37 #[.pointer (some (base g)), .int .u64 (n : Int), .int .i64 (wd : Int)] w fun v w' => v = .pointer (some (base g)) ∧ Wn w0 w' g (L ++ field n wd) := by
  obtain ⟨S, h1, h2, h3⟩ := h
  refine (put_ok h1 hn hwd hL).mono ?_
  rintro _ w' ⟨rfl, S', h', m', f⟩
  exact ⟨rfl, S', h', h2.step h3.size f, h3.since m' h2⟩
theorem Wn.putAt (h : Wn w0 w g L) {x : Int} (n wd : Nat) (hx : x = (n : Int)) (hn : n < 2 ^ 64) (hwd : wd ≤ 64) (hL : L.length ≤ 900000) :
    Does Try.prog 37 #[.pointer (some (base g)), .int .u64 x, .int .i64 (wd : Int)] w fun v w' => v = .pointer (some (base g)) ∧ Wn w0 w' g (L ++ field n wd) := by
  subst hx
  exact h.put wd hn hwd hL
theorem Wn.bytes (h : Wn w0 w g L) (hL : L.length ≤ 1000000) : Does Try.prog 38 #[.pointer (some (base g))] w fun v w' =>
    ∃ a c, v = .slice a (pack L).length c ∧ Own w' 5 1 a (pack L).length c ((pack L).map bv) ∧ Mod [] w0 w' ∧ Since w0 (fp a) := by
  obtain ⟨S, h1, h2, h3⟩ := h
  refine (bytes_ok h1 hL).mono ?_
  rintro _ w' ⟨a, c, rfl, ho, m, f⟩
  have := h3.size
  exact ⟨a, c, rfl, ho, h3.none m, fun x hx => by have := f x hx; omega⟩
theorem Wn.bytes2 (h : Wn w0 w g L) (hL : L.length ≤ 1000000) : Does Try.prog 38 #[.pointer (some (base g))] w fun v w' =>
    ∃ a c, v = .slice a (pack L).length c ∧ Own w' 5 1 a (pack L).length c ((pack L).map bv) ∧ Mod [] w w' ∧ Since w (fp a) := by
  obtain ⟨S, h1, h2, h3⟩ := h
  refine (bytes_ok h1 hL).mono ?_
  rintro _ w' ⟨a, c, rfl, ho, m, f⟩
  exact ⟨a, c, rfl, ho, m, f⟩
end

/-- A reader, and a block beside it; both are new since w0. -/
structure RB (w0 w : World) (g : Nat) (S : List Nat) (l : List UInt8) (p q t : Nat) (vs : List Value) : Prop where
  r : Rdr w g S l p false
  b : Blk w q t vs
  ne : q ∉ S
  s : Since w0 (q :: S)
  m : Mod [] w0 w
section
variable {w0 w : World} {g p q t : Nat} {S : List Nat} {l : List UInt8} {vs : List Value}
theorem RB.gS (h : RB w0 w g S l p q t vs) : g ∈ S := by obtain ⟨_, _, e, _⟩ := h.r; rw [e]; simp
theorem RB.mod (h : RB w0 w g S l p q t vs) {w' : World} (m : Mod [] w w') : RB w0 w' g S l p q t vs := { h with r := h.r.mod m (by simp), b := h.b.mod m (by simp), m := h.m.none m }
theorem RB.drew (h : RB w0 w g S l p q t vs) : RB w0 w.drew g S l p q t vs := h.mod (Mod.drew w)
theorem RB.step (h : RB w0 w g S l p q t vs) {w' : World} {p' : Nat} (m : Mod [g] w w') (r : Rdr w' g S l p' false) : RB w0 w' g S l p' q t vs :=
  { h with r := r, b := h.b.mod m (by simp; intro e; exact h.ne (e ▸ h.gS)), m := h.m.since m (by intro x hx; simp at hx; subst hx; exact h.s _ (by simp [h.gS])) }
theorem Rdr.getN {w : World} {g p : Nat} {S : List Nat} {l : List UInt8} (h : Rdr w g S l p false) (hl : l.length ≤ 1000000) (wd : Nat) (h64 : wd ≤ 64) (hp : p + wd ≤ 8 * l.length) :
    Does Try.prog 28 #[.pointer (some (base g)), .int .i64 (wd : Int)] w fun v w' => v = .int .u64 (num l p wd : Int) ∧ Mod [g] w w' ∧ Rdr w' g S l (p + wd) false := by
  refine (get_ok h hl (wd : Int)).mono ?_
  rintro _ w' ⟨rfl, m, r⟩
  have hg : good l p false (wd : Int) = true := by simp [good]; omega
  unfold gval gat gbad at *
  rw [if_pos hg] at r ⊢
  rw [hg] at r
  exact ⟨rfl, m, r⟩
theorem RB.get (h : RB w0 w g S l p q t vs) (hl : l.length ≤ 1000000) (wd : Nat) (h64 : wd ≤ 64) (hp : p + wd ≤ 8 * l.length) :
    Does Try.prog 28 #[.pointer (some (base g)), .int .i64 (wd : Int)] w fun v w' => v = .int .u64 (num l p wd : Int) ∧ RB w0 w' g S l (p + wd) q t vs := by
  refine (h.r.getN hl wd h64 hp).mono ?_
  rintro _ w' ⟨rfl, m, r⟩
  exact ⟨rfl, h.step m r⟩
theorem RB.put (h : RB w0 w g S l p q t vs) {i : Nat} {v : Value} (hi : i < vs.length) {k : World → Prop} (hk : ∀ w', RB w0 w' g S l p q t (vs.set i v) → k w') : Put w ((base q).add i) v k := by
  refine Put.use h.b hi fun w' b m => hk w' ?_
  exact { h with r := h.r.mod m (fun x hx hx' => by simp at hx'; subst hx'; exact h.ne hx), b := b, m := h.m.since m (by intro x hx; simp at hx; subst hx; exact h.s _ (by simp)) }
end
end Go.Proofs.Ytcdnljibefpchaa
