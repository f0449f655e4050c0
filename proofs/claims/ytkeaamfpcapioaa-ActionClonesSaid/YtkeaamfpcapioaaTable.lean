/-
  The contracts of chapter 37: commands; the table.
-/
import Derived.Test.YtkeaamfpcapioaaInsertE
import Derived.Test.YtkeaamfpcapioaaDeleteE
import Derived.Test.YtkeaamfpcapioaaCloneE
import Derived.Test.YtkeaamfpcapioaaCloneI
import Derived.Test.YtkeaamfpcapioaaFidx
namespace Go.Proofs.Ytkeaamfpcapioaa
open Go Go.Sh Go.Proofs
set_option linter.unusedVariables false
set_option linter.unusedSimpArgs false
set_option linter.unusedSectionVars false

def iv (n : Int) : Value := .int .i64 n
theorem iv_one (l : List Int) : ∀ u ∈ l.map iv, one u = true := by
  intro u hu
  obtain ⟨b, _, rfl⟩ := List.mem_map.1 hu
  rfl
theorem fpv_sub {a : Option Addr} {vs : List Value} : ∀ x ∈ fpv a vs, x ∈ fp a := by
  cases vs with
  | nil => intro x hx; cases hx
  | cons v vs => intro x hx; exact hx
theorem elem3 : Elem Try.prog 3 1 8 := Elem.of (v := .int .i64 0) (by kernel_rfl) rfl (by decide)
theorem elem5 : Elem Try.prog 5 1 1 := Elem.of (v := .int .u8 0) (by kernel_rfl) rfl (by decide)

/-- A command, with the places of its lists. -/
structure Cc where
  src : Int
  num : Int
  svc : Int
  aa : Option Addr
  al : List Int
  ac : Nat
  ba : Option Addr
  bl : List UInt8
  bc : Nat
/-- What a command says. -/
structure Cmd where
  src : Int
  num : Int
  svc : Int
  al : List Int
  bl : List UInt8
deriving DecidableEq
abbrev Cc.cells (c : Cc) : List Value := [.int .i64 c.src, .int .i64 c.num, .int .i64 c.svc, .slice c.aa c.al.length c.ac, .slice c.ba c.bl.length c.bc]
abbrev Cc.val (c : Cc) : Value := .agg #[.int .i64 c.src, .int .i64 c.num, .int .i64 c.svc, .slice c.aa c.al.length c.ac, .slice c.ba c.bl.length c.bc]
def Cc.say (c : Cc) : Cmd := ⟨c.src, c.num, c.svc, c.al, c.bl⟩
def Cc.fp (c : Cc) : List Nat := fpv c.aa (c.al.map iv) ++ fpv c.ba (c.bl.map bv)
def Cmd.small (c : Cmd) : Prop := c.al.length ≤ 1000 ∧ c.bl.length ≤ 1000
structure Cc.rd (c : Cc) (w : World) : Prop where
  a : Rd w c.aa (c.al.map iv)
  b : Rd w c.ba (c.bl.map bv)
  s : c.say.small
theorem Cc.rd.mod {c : Cc} {w w' : World} {S : List Nat} (h : c.rd w) (m : Mod S w w') (hd : ∀ y ∈ c.fp, y ∉ S) : c.rd w' :=
  ⟨h.a.modv m (fun y hy => hd y (by unfold Cc.fp; simp [hy])), h.b.modv m (fun y hy => hd y (by unfold Cc.fp; simp [hy])), h.s⟩
theorem Cc.rd.lt {c : Cc} {w : World} (h : c.rd w) : ∀ y ∈ c.fp, y < w.heap.size := by
  intro y hy
  unfold Cc.fp at hy
  rcases List.mem_append.1 hy with hy | hy
  · exact h.a.lt y hy
  · exact h.b.lt y hy
def cz : Cc := ⟨0, 0, 0, none, [], 0, none, [], 0⟩
theorem cz_rd (w : World) : cz.rd w := ⟨Rd.nil, Rd.nil, by simp [cz, Cc.say, Cmd.small]⟩
theorem cz_fp : cz.fp = [] := rfl

theorem cloneB_ok {w : World} {a : Option Addr} {l : List UInt8} (c : Nat) (hr : Rd w a (l.map bv)) (hn : l.length ≤ 1000000) :
    Does Try.prog 36 #[.slice a l.length c] w fun v w' => ∃ a' c', v = .slice a' l.length c' ∧ Own w' 5 1 a' l.length c' (l.map bv) ∧ Mod [] w w' ∧ ∀ x ∈ fp a', w.heap.size ≤ x := by
  apply w36
  unfold F36
  refine iteI (fun h => ?_) (fun h => ?_)
  · have ha : a = none := by cases a; rfl; simp at h
    subst ha
    have hv : l.map bv = [] := by rcases hr with h | ⟨p, h, _⟩; exact h; cases h
    have hl : l = [] := List.map_eq_nil_iff.1 hv
    subst hl
    exact ⟨none, 0, rfl, Own.nil, Mod.refl _, by simp [fp]⟩
  · refine New.use fun w1 h1' m1 z1 => ?_
    obtain ⟨a', c', w2, run, o2, m2, f2⟩ := append_own (d := c) Try.underlying34 elem5 34 (Own.blk (n := 0) h1' rfl (by decide)) (hr.mod m1 (by simp)) (m := l.length) (by simp) (bv_one l) (by omega) (by omega)
    rw [Nat.zero_add] at run o2
    rw [List.nil_append] at o2
    refine ⟨_, _, _, w2, run, a', c', rfl, o2, m1.trans m2 (fun x hx => .inr (by simp [fp, base] at hx; omega)), fun x hx => ?_⟩
    rcases f2 with h | h <;> rw [h] at hx <;> simp [fp, base] at hx <;> omega

/-- A copy of a command. -/
theorem cloneC_ok {w : World} {c : Cc} (h : c.rd w) : Does Try.prog 27 #[c.val] w fun v w' => ∃ c' : Cc, v = c'.val ∧ c'.say = c.say ∧ c'.rd w' ∧ Mod [] w w' ∧ ∀ y ∈ c'.fp, w.heap.size ≤ y := by
  have hs := h.s
  unfold Cmd.small Cc.say at hs
  simp only at hs
  apply w27
  unfold F27
  refine New.use fun w1 h1 m1 z1 => ?_
  refine New.use fun w2 h2 m2 z2 => ?_
  have M2 := m1.none m2
  have h12 := h1.mod m2 (by simp)
  refine ⟨_, _, _, h12.cell (i := 3) rfl, ?_⟩
  refine (clone_int c.ac (h.a.mod M2 (by simp)) (by simp) (iv_one _) (by omega)).mono ?_
  rintro _ w3 ⟨a3, c3, rfl, o3, m3, f3⟩
  have M3 := M2.none m3
  have h13 := h12.mod m3 (by simp)
  have h23 := h2.mod m3 (by simp)
  have z3 := m3.size
  refine ⟨_, _, _, rfl, Put.use h13 (by simp) fun w4 h4 m4 => ?_⟩
  have M4 : Mod [] w w4 := M3.trans m4 (fun y hy => .inr (by simp at hy; omega))
  have o4 := o3.mod m4 (fun y hy hy' => by have := f3 y hy; simp at hy'; omega)
  have h24 := h23.mod m4 (by simp; omega)
  refine ⟨_, _, _, h4.cell (i := 4) rfl, ?_⟩
  refine (cloneB_ok c.bc (h.b.mod M4 (by simp)) (by omega)).mono ?_
  rintro _ w5 ⟨a5, c5, rfl, o5, m5, f5⟩
  have M5 := M4.none m5
  have h15 := h4.mod m5 (by simp)
  have h25 := h24.mod m5 (by simp)
  have o35 := o4.mod m5 (by simp)
  have z4 := m4.size
  refine ⟨_, _, _, rfl, Put.use h15 (by simp) fun w6 h6 m6 => ?_⟩
  have o36 := o35.mod m6 (fun y hy hy' => by have := f3 y hy; simp at hy'; omega)
  have o56 := o5.mod m6 (fun y hy hy' => by have := f5 y hy; simp at hy'; omega)
  have h26 := h25.mod m6 (by simp; omega)
  refine ⟨_, _, _, _, _, _, _, _, _, h6.cells, PutAll.use h26 rfl fun w7 h7 m7 => ?_⟩
  refine ⟨_, _, _, _, _, _, _, _, _, h7.cells, ⟨c.src, c.num, c.svc, a3, c.al, c3, a5, c.bl, c5⟩, rfl, rfl, ⟨?_, ?_, h.s⟩, ?_, ?_⟩
  · exact (o36.mod m7 (fun y hy hy' => by have := f3 y hy; simp at hy'; omega)).rd
  · exact (o56.mod m7 (fun y hy hy' => by have := f5 y hy; simp at hy'; omega)).rd
  · exact (M5.trans m6 (fun y hy => .inr (by simp at hy; omega))).trans m7 (fun y hy => .inr (by simp at hy; omega))
  · intro y hy
    unfold Cc.fp at hy
    rcases List.mem_append.1 hy with hy | hy
    · have := f3 y (fpv_sub y hy); omega
    · have := f5 y (fpv_sub y hy); omega

/-! ### Lists of entries -/
abbrev Ent (α : Type) := Int × Bool × α
abbrev En := Ent Cc
def evv (e : En) : List Value := [.int .i64 e.1, .bool e.2.1, .int .i64 e.2.2.src, .int .i64 e.2.2.num, .int .i64 e.2.2.svc, .slice e.2.2.aa e.2.2.al.length e.2.2.ac, .slice e.2.2.ba e.2.2.bl.length e.2.2.bc]
theorem evv_len (L : List En) : ∀ x ∈ L, (evv x).length = 7 := fun _ _ => rfl
theorem evv_one (L : List En) : ∀ u ∈ L.flatMap evv, one u = true := flat_one evv L (by intro x u hu; simp [evv] at hu; rcases hu with rfl | rfl | rfl | rfl | rfl | rfl | rfl <;> rfl)
theorem evv_flen (L : List En) : (L.flatMap evv).length = L.length * 7 := flat_len evv L (evv_len L)
section
variable {α : Type}
def geE (ev : Int) (e : Ent α) : Bool := decide (ev ≤ e.1)
def kx (ev : Int) (l : List (Ent α)) : Nat := fidx (geE ev) l
def isE (ev : Int) (l : List (Ent α)) : Bool := decide (∃ h : kx ev l < l.length, l[kx ev l].1 = ev)
def addE (l : List (Ent α)) (ev : Int) : Int := if ev < 0 ∨ 65535 < ev then 1 else if isE ev l = true then 9 else if 256 ≤ l.length then 7 else 0
def addL (l : List (Ent α)) (ev : Int) (c : α) : List (Ent α) := if addE l ev = 0 then l.take (kx ev l) ++ [(ev, false, c)] ++ l.drop (kx ev l) else l
def onAt (l : List (Ent α)) (k : Nat) : Bool := match l[k]? with | some e => e.2.1 | none => false
def delE (l : List (Ent α)) (ev : Int) : Int := if isE ev l = true then (if onAt l (kx ev l) = true then 12 else 0) else 8
def delL (l : List (Ent α)) (ev : Int) : List (Ent α) := if delE l ev = 0 then l.take (kx ev l) ++ l.drop (kx ev l + 1) else l
def enE (l : List (Ent α)) (ev : Int) : Int := if isE ev l = true then 0 else 8
def enL (l : List (Ent α)) (ev : Int) (on : Bool) : List (Ent α) := if isE ev l = true then l.modify (kx ev l) (fun e => (e.1, on, e.2.2)) else l
theorem kx_le (ev : Int) (l : List (Ent α)) : kx ev l ≤ l.length := fidx_le _ _
theorem isE_lt {ev : Int} {l : List (Ent α)} (h : isE ev l = true) : ∃ h : kx ev l < l.length, l[kx ev l].1 = ev := by unfold isE at h; exact of_decide_eq_true h
end
def srt {α : Type} (l : List (Ent α)) : Prop := l.Pairwise fun a b => a.1 < b.1
end Go.Proofs.Ytkeaamfpcapioaa
