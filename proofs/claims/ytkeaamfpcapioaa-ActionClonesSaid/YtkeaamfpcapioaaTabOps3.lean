/-
  The contracts of chapter 37: Find, Events, Clone of the table; Same.
-/
import Derived.Test.YtkeaamfpcapioaaTabOps2
namespace Go.Proofs.Ytkeaamfpcapioaa
open Go Go.Sh Go.Proofs
set_option linter.unusedVariables false
set_option linter.unusedSimpArgs false
set_option linter.unusedSectionVars false

section
variable {α : Type}
def fndB (l : List (Ent α)) (ev : Int) : Bool := isE ev l && onAt l (kx ev l)
def cmdAt (d : α) (l : List (Ent α)) (k : Nat) : α := match l[k]? with | some e => e.2.2 | none => d
theorem cmdAt_at {d : α} {l : List (Ent α)} {k : Nat} (h : k < l.length) : cmdAt d l k = l[k].2.2 := by unfold cmdAt; rw [List.getElem?_eq_getElem h]
def evs (l : List (Ent α)) : List Int := l.map (·.1)
end
/-- What Find returns. -/
def fndC (l : List En) (ev : Int) : Cc := if fndB l ev = true then cmdAt cz l (kx ev l) else cz

section
variable {w : World} {g : Nat} {S : List Nat} {l : List En} (h : Ta w g S l) (hs : srt l) (hl : l.length ≤ 256)
include h hs hl
theorem tfnd_ok (ev : Int) (hc : ∀ e ∈ l, e.2.2.rd w) : Does Try.prog 16 #[.pointer (some (base g)), .int .i64 ev] w fun v w' => ∃ c' : Cc, v = .tuple #[c'.val, .bool (fndB l ev)] ∧ c'.say = (fndC l ev).say ∧ c'.rd w' ∧ (∀ y ∈ c'.fp, w.heap.size ≤ y) ∧ Mod [] w w' := by
  apply w16
  unfold F16
  refine New.use fun w1 h1 m1 z1 => ?_
  refine (tok_ok (h.mod m1 (by simp))).mono ?_
  rintro _ _ ⟨rfl, rfl⟩
  refine ⟨_, rfl, ?_⟩
  rw [if_neg (by simp)]
  refine (tfind_ok (h.mod m1 (by simp)) hs hl ev).mono ?_
  rintro _ w2 ⟨rfl, m2⟩
  have M2 := m1.none m2
  have h12 := h1.mod m2 (by simp)
  have no : fndB l ev = false → F16_j1 (base w.heap.size) (some (base g)) (kx ev l : Int) true w2 (fun v w' => ∃ c' : Cc, v = .tuple #[c'.val, .bool (fndB l ev)] ∧ c'.say = (fndC l ev).say ∧ c'.rd w' ∧ (∀ y ∈ c'.fp, w.heap.size ≤ y) ∧ Mod [] w w') := by
    intro hf
    unfold F16_j1
    rw [if_pos rfl]
    refine PutAll.use h12 rfl fun w3 h3 m3 => ⟨_, _, _, _, _, _, _, _, _, h3.cells, cz, by rw [hf]; rfl, ?_, cz_rd _, by rw [cz_fp]; simp, M2.trans m3 (fun y hy => .inr (by simp at hy; omega))⟩
    unfold fndC
    rw [hf]
    rfl
  refine ⟨_, _, rfl, iteI (fun hi => ?_) (fun hi => ?_)⟩
  · have hi : isE ev l = false := by simpa using hi
    exact no (by unfold fndB; rw [hi]; rfl)
  have hi : isE ev l = true := by simpa using hi
  obtain ⟨hlt, _⟩ := isE_lt hi
  obtain ⟨a, ca, rfl, hb2, ho2⟩ := h.mod M2 (by simp)
  have ho2' := ho2
  obtain ⟨p, hp, hcc⟩ := ho2.rd.flat (evv_len _) (by decide) hlt
  refine ⟨_, rfl, _, _, _, hb2.cell (i := 1) rfl, p, hp, by omega, by omega, _, hcc 1 _ rfl, ?_⟩
  have eon : fndB l ev = l[kx ev l].2.1 := by unfold fndB; rw [hi, onAt_at hlt]; simp
  cases hon : l[kx ev l].2.1 with
  | false => exact no (by rw [eon, hon])
  | true =>
    unfold F16_j1
    rw [if_neg (by simp)]
    have hcr := (hc _ (List.getElem_mem hlt)).mod M2 (by simp)
    have ec : fndC l ev = l[kx ev l].2.2 := by unfold fndC; rw [if_pos (by rw [eon, hon]), cmdAt_at hlt]
    rw [ec]
    generalize l[kx ev l] = e at hcc hcr
    refine ⟨_, rfl, _, _, _, hb2.cell (i := 1) rfl, p, hp, by omega, by omega, e.2.2.src, e.2.2.num, e.2.2.svc, e.2.2.aa, e.2.2.al.length, e.2.2.ac, e.2.2.ba, e.2.2.bl.length, e.2.2.bc, ⟨?_, ?_, ?_, ?_, ?_, trivial⟩, ?_⟩
    · have := hcc 2 _ rfl; rw [Int.toNat_natCast, add_zero]; exact this
    · have := hcc 3 _ rfl; rw [Int.toNat_natCast, add_add]; exact this
    · have := hcc 4 _ rfl; rw [Int.toNat_natCast, add_add]; exact this
    · have := hcc 5 _ rfl; rw [Int.toNat_natCast, add_add]; exact this
    · have := hcc 6 _ rfl; rw [Int.toNat_natCast, add_add]; exact this
    refine (cloneC_ok hcr).mono ?_
    rintro _ w4 ⟨c', rfl, hsay, hc', m4, f4⟩
    have M4 := M2.none m4
    have z2 := M2.size
    have zl := h12.lt
    refine ⟨_, _, _, _, _, _, _, _, _, rfl, PutAll.use (h12.mod m4 (by simp)) rfl fun w5 h5 m5 => ⟨_, _, _, _, _, _, _, _, _, h5.cells, c', by rw [eon, hon], hsay, hc'.mod m5 (fun y hy hy' => by have := f4 y hy; simp at hy'; omega), fun y hy => by have := f4 y hy; omega, M4.trans m5 (fun y hy => .inr (by simp at hy; omega))⟩⟩
end
def GivesL (w : World) (l : List Int) (v : Value) (w' : World) : Prop := ∃ a c, v = .slice a l.length c ∧ Rd w' a (l.map iv) ∧ Mod [] w w' ∧ ∀ y ∈ fp a, w.heap.size ≤ y
theorem evs_take (l : List En) {t : Nat} (ht : t < l.length) : (evs (l.take (t + 1))).map iv = (evs (l.take t)).map iv ++ [iv l[t].1] := by
  unfold evs
  rw [List.take_succ_eq_append_getElem ht, List.map_append, List.map_append]
  rfl
theorem events_ok {w : World} {g : Nat} {S : List Nat} {l : List En} (h : Ta w g S l) (hl : l.length ≤ 256) : Does Try.prog 12 #[.pointer (some (base g))] w (GivesL w (evs l)) := by
  apply w12
  unfold F12
  refine (tok_ok h).mono ?_
  rintro _ _ ⟨rfl, rfl⟩
  refine ⟨_, rfl, ?_⟩
  rw [if_neg (by simp)]
  obtain ⟨a, ca, rfl, hb, ho⟩ := h
  refine ⟨_, rfl, _, _, _, hb.cell (i := 1) rfl, ?_⟩
  refine LoopP.of (fun (x : Option Addr × Nat × Nat × Int) w' => ∃ (t : Nat) (o : Option Addr) (e : Nat), t ≤ l.length ∧ x = (o, t, e, (t : Int)) ∧ Own w' 3 1 o t e ((evs (l.take t)).map iv) ∧ (∀ y ∈ fp o, w.heap.size ≤ y) ∧ Mod [] w w') (fun x _ => l.length - x.2.2.2.toNat) ⟨0, none, 0, by omega, rfl, Own.nil, by simp [fp], Mod.refl _⟩ ?_
  rintro _ w1 ⟨t, o, e, ht, rfl, oo, so, m1⟩
  unfold F12_b1
  dsimp only
  refine iteI (fun hlt => ?_) (fun hlt => ?_)
  · have hlt : t < l.length := by omega
    obtain ⟨p, rfl, hc⟩ := (ho.rd.mod m1 (by simp)).flat (evv_len _) (by decide) hlt
    refine ⟨p, rfl, by omega, by omega, _, _, _, _, _, _, _, _, _, _, _, ⟨by have := hc 0 _ rfl; rw [add_zero] at this; exact this, hc 1 _ rfl, hc 2 _ rfl, hc 3 _ rfl, hc 4 _ rfl, hc 5 _ rfl, hc 6 _ rfl, trivial⟩, ?_⟩
    refine New.put rfl fun w2 h2 m2 z2 => ?_
    refine ⟨_, h2.cell0, New.use fun w3 h3 m3 z3 => ?_⟩
    obtain ⟨o', e', w4, run, o4, m4, f4⟩ := append_own (d := 1) Try.underlying27 elem3 27 ((oo.mod m2 (by simp)).mod m3 (by simp)) (Rd.blk h3) (m := 1) rfl (by simp [one]) (by omega) (by omega)
    have e1 : IntKind.i64.wrap ((t : Int) + 1) = ((t + 1 : Nat) : Int) := by rw [wi64 (by omega)]; omega
    rw [e1]
    refine ⟨o', _, e', w4, run, _, by omega, ⟨t + 1, o', e', by omega, rfl, by rw [evs_take l hlt]; exact o4, fun y hy => ?_, ((m1.none m2).none m3).trans m4 (fun y hy => .inr (so y hy))⟩, rfl⟩
    rcases f4 with f | f <;> rw [f] at hy
    · exact so y hy
    · have := ((m1.none m2).none m3).size; simp at hy; omega
  · have htl : t = l.length := by omega
    subst htl
    rw [List.take_length] at oo
    exact ⟨o, e, by simp [evs], oo.rd, m1, so⟩
theorem tclone_ok {w : World} {g : Nat} {S : List Nat} {l : List En} (h : Ta w g S l) (hl : l.length ≤ 256) : Does Try.prog 18 #[.pointer (some (base g))] w fun v w' => ∃ g' S', v = .pointer (some (base g')) ∧ Ta w' g' S' l ∧ Mod [] w w' ∧ ∀ y ∈ S', w.heap.size ≤ y := by
  apply w18
  unfold F18
  refine (tok_ok h).mono ?_
  rintro _ _ ⟨rfl, rfl⟩
  refine ⟨_, rfl, ?_⟩
  rw [if_neg (by simp)]
  obtain ⟨a, ca, rfl, hb, ho⟩ := h
  refine ⟨_, rfl, _, _, _, hb.cell (i := 1) rfl, ?_⟩
  refine (clone_actionentry ca ho.rd (evv_flen _) (evv_one _) (by omega)).mono ?_
  rintro _ w1 ⟨a', c', rfl, o1, m1, f1⟩
  refine ⟨_, _, _, rfl, New.use fun w2 h2 m2 z2 => ?_⟩
  have z1 := m1.size
  refine ⟨w1.heap.size, w1.heap.size :: fp a', rfl, ⟨a', c', rfl, h2, Win.of_own (o1.mod m2 (by simp))⟩, m1.none m2, fun y hy => ?_⟩
  rcases List.mem_cons.1 hy with rfl | hy
  · exact z1
  · exact f1 y hy

/-! ### Same -/
theorem ints_ok {w : World} {a b : Option Addr} {l m : List Int} (c d : Nat) (hl : l.length ≤ 100000) (ha : Rd w a (l.map iv)) (hb : Rd w b (m.map iv)) : Does Try.prog 11 #[.slice a l.length c, .slice b m.length d] w fun v w' => v = .bool (decide (l = m)) ∧ Mod [] w w' := by
  apply w11
  unfold F11
  refine iteI (fun h => ⟨by rw [decide_eq_false (fun e => h (by rw [e]))], Mod.refl _⟩) (fun h => ?_)
  have hlen : l.length = m.length := by omega
  refine LoopP.of (fun (x : Int) w' => ∃ i : Nat, i ≤ l.length ∧ x = (i : Int) ∧ Mod [] w w' ∧ ∀ j (hj : j < i) (h1 : j < l.length) (h2 : j < m.length), l[j] = m[j]) (fun x _ => l.length - x.toNat) ⟨0, by omega, rfl, Mod.refl _, by omega⟩ ?_
  rintro _ w1 ⟨i, hi, rfl, m1, he⟩
  unfold F11_b1
  refine iteI (fun hlt => ?_) (fun hlt => ?_)
  · have hlt : i < l.length := by omega
    have md : Mod [] w w1.drew := m1.none (Mod.drew w1)
    obtain ⟨p, rfl, hc⟩ := rd_get (ha.mod md (by simp)) hlt
    obtain ⟨q, rfl, hd⟩ := rd_get (hb.mod md (by simp)) (show i < m.length by omega)
    refine ⟨p, rfl, by omega, by omega, _, hc, q, rfl, by omega, by omega, _, hd, iteI (fun hn => ?_) (fun hn => ?_)⟩
    · exact ⟨by rw [decide_eq_false (fun e => by subst e; exact hn rfl)], md⟩
    · rw [wi64 (by omega)]
      refine ⟨_, by omega, ⟨i + 1, by omega, rfl, md, fun j hj h1 h2 => ?_⟩, rfl⟩
      by_cases hji : j = i
      · subst hji; exact Classical.byContradiction hn
      · exact he j (by omega) h1 h2
  · have hiR : i = l.length := by omega
    subst hiR
    exact ⟨by rw [decide_eq_true (List.ext_getElem hlen (fun j h1 h2 => he j h1 h1 h2))], m1⟩
theorem same_ok {w : World} {c d : Cc} (hc : c.rd w) (hd : d.rd w) : Does Try.prog 17 #[c.val, d.val] w fun v w' => v = .bool (decide (c.say = d.say)) ∧ Mod [] w w' := by
  have hsm := hc.s
  unfold Cmd.small Cc.say at hsm
  simp only at hsm
  have heq : (c.say = d.say) ↔ (c.src = d.src ∧ c.num = d.num ∧ c.svc = d.svc ∧ c.al = d.al ∧ c.bl = d.bl) := by unfold Cc.say; rw [Cmd.mk.injEq]
  apply w17
  unfold F17
  refine New.use fun w1 h1 m1 z1 => ?_
  refine New.use fun w2 h2 m2 z2 => ?_
  have M2 := m1.none m2
  have h12 := h1.mod m2 (by simp)
  have no : ∀ {w' : World}, ¬ (c.src = d.src ∧ c.num = d.num ∧ c.svc = d.svc ∧ c.al = d.al ∧ c.bl = d.bl) → Mod [] w w' → Value.bool false = .bool (decide (c.say = d.say)) ∧ Mod [] w w' := fun hh m => ⟨by rw [decide_eq_false (fun e => hh (heq.1 e))], m⟩
  refine ⟨_, h12.cell0, _, h2.cell0, iteI (fun e1 => ?_) (fun e1 => no (fun hh => e1 hh.1) M2)⟩
  refine ⟨_, h12.cell (i := 1) rfl, _, h2.cell (i := 1) rfl, iteI (fun e2 => ?_) (fun e2 => no (fun hh => e2 hh.2.1) M2)⟩
  refine ⟨_, h12.cell (i := 2) rfl, _, h2.cell (i := 2) rfl, iteI (fun e3 => ?_) (fun e3 => no (fun hh => e3 hh.2.2.1) M2)⟩
  refine ⟨_, _, _, h12.cell (i := 3) rfl, _, _, _, h2.cell (i := 3) rfl, ?_⟩
  refine (ints_ok c.ac d.ac (by omega) (hc.a.mod M2 (by simp)) (hd.a.mod M2 (by simp))).mono ?_
  rintro _ w3 ⟨rfl, m3⟩
  have M3 := M2.none m3
  refine ⟨_, rfl, iteI (fun e4 => ?_) (fun e4 => no (fun hh => e4 (decide_eq_true hh.2.2.2.1)) M3)⟩
  refine ⟨_, _, _, (h12.mod m3 (by simp)).cell (i := 4) rfl, _, toStr_ok c.bc (hc.b.mod M3 (by simp)), _, _, _, (h2.mod m3 (by simp)).cell (i := 4) rfl, _, toStr_ok d.bc (hd.b.mod M3 (by simp)), ?_, M3⟩
  rw [strEq]
  congr 1
  rw [Bool.eq_iff_iff, beq_iff_eq, decide_eq_true_iff, heq]
  exact ⟨fun hb => ⟨e1, e2, e3, of_decide_eq_true e4, hb⟩, fun hh => hh.2.2.2.2⟩
end Go.Proofs.Ytkeaamfpcapioaa
