/-
  The contracts of chapter 34: Enable, Due, Structures, Clone of the service.
-/
import Derived.Test.YtcgkmmiokmbjdaaServ
namespace Go.Proofs.Ytcgkmmiokmbjdaa
open Go Go.Sh Go.Proofs
set_option linter.unusedVariables false
set_option linter.unusedSimpArgs false
set_option linter.unusedSectionVars false

theorem win_setAt {w : World} {e : TypeId} {z n c : Nat} {a : Option Addr} {vs : List Value} (h : Win w e z a n c vs) {i : Nat} (hi : i < vs.length) (v : Value) :
    ∃ p, a = some p ∧ Writable w (p.add i) ∧ Win (w.setCell (p.add i) v) e z a n c (vs.set i v) ∧ Mod (fp a) w (w.setCell (p.add i) v) := by
  obtain ⟨h1, h2, h3, h4⟩ := h
  rcases h4 with ⟨rfl, h0⟩ | ⟨g, pre, r, post, rfl, hb, hl⟩
  · exfalso
    subst h0
    have : n = 0 := by omega
    subst this
    simp at h1
    subst h1
    simp at hi
  · refine ⟨_, rfl, ?_, ⟨by rw [List.length_set]; exact h1, h2, h3, .inr ⟨g, pre, r, post, rfl, ?_, by simpa using hl⟩⟩, Mod.setCell _ _ _ (by rw [add_block]; simp [fp])⟩
    · rw [addr_add, ← base_add]
      exact hb.can (by simp; omega)
    · have := hb.set (pre.length + i) v
      rw [base_add] at this
      rw [addr_add]
      rwa [List.append_assoc, List.set_append_right _ _ (by omega), Nat.add_sub_cancel_left, List.append_assoc, List.set_append_left _ _ hi, ← List.append_assoc, ← List.append_assoc, List.append_assoc pre] at this
/-- A cell of an entry is stored. -/
theorem Sv.put {w : World} {g : Nat} {now : Int} {a : Option Addr} {c : Nat} {l : List En} (hb : Blk w g 47 [.bool true, .int .i64 now, .slice a l.length c]) (ho : Win w 66 5 a l.length c (l.flatMap evv)) {k j : Nat} (hk : k < l.length) (hj : j < 5) {y : En} {v : Value} (hy : evv y = (evv l[k]).set j v)
    {p : Addr} (hp : a = some p) {K : World → Prop} (hK : ∀ w', Blk w' g 47 [.bool true, .int .i64 now, .slice a (l.set k y).length c] → Win w' 66 5 a (l.set k y).length c ((l.set k y).flatMap evv) → Mod (fp a) w w' → K w') : Put w ((p.add (k * 5)).add j) v K := by
  have hgb := ho.ne hb (by decide)
  have hfl := evv_flen l
  obtain ⟨p', hp', hw, o2, m2⟩ := win_setAt ho (i := k * 5 + j) (by omega) v
  rw [hp] at hp'
  cases hp'
  rw [add_add]
  refine ⟨hw, hK _ ?_ ?_ m2⟩
  · rw [List.length_set]; exact hb.mod m2 hgb
  · rw [List.length_set, flat_set1 evv l (evv_len l) hk hy hj]; exact o2
def enN (on : Bool) (now : Int) (e : En) : En := ⟨e.id, e.iv, on, e.a, e.l, e.c, if on = true ∧ e.on = false then wr (now + e.iv) else e.nx⟩
theorem enN_say (on : Bool) (now : Int) (e : En) : (enN on now e).say = enS on now e.say := rfl
theorem says_set (l : List En) (k : Nat) (y : En) : says (l.set k y) = (says l).set k y.say := by unfold says; rw [List.map_set]
theorem modify_set {α : Type} (l : List α) (f : α → α) {k : Nat} (h : k < l.length) : l.modify k f = l.set k (f l[k]) := by
  apply List.ext_getElem
  · rw [List.length_set, List.length_modify]
  · intro j h1 h2
    rw [List.getElem_set, List.getElem_modify]
    by_cases hkj : k = j
    · subst hkj; simp
    · rw [if_neg hkj, if_neg hkj]
section
variable {w : World} {g : Nat} {S : List Nat} {now : Int} {l : List En} (h : Sv w g S now l) (hs : Gd (says l))
include h hs
theorem sen_ok (id : Int) (on : Bool) (n : Int) (hid : -9223372036854775808 ≤ id ∧ id ≤ 9223372036854775807) : Does Try.prog 13 #[.pointer (some (base g)), .int .i64 id, .bool on, .int .i64 n] w fun v w' => v = .int .i64 (enE (says l) id) ∧
    Sv w' g S (passT now n) (if isI id (says l) = true then l.modify (kx id (says l)) (enN on (passT now n)) else l) ∧ Mod S w w' := by
  have hl := hs.len
  rw [says_len] at hl
  have hgS : g ∈ S := by obtain ⟨a, c, rfl, _⟩ := h; simp
  apply w13
  unfold F13
  refine (sok_ok h).mono ?_
  rintro _ _ ⟨rfl, rfl⟩
  refine ⟨_, rfl, ?_⟩
  rw [if_neg (by simp)]
  refine (spass_ok h n).mono ?_
  rintro _ w1 ⟨rfl, h1, m1⟩
  refine ⟨rfl, ?_⟩
  generalize passT now n = t at *
  have m1' : Mod S _ w1 := m1.weaken (fun y hy => .inl (by simp at hy; subst hy; exact hgS))
  refine (sfind_ok h1 hs id hid).mono ?_
  rintro _ w2 ⟨⟨k, rfl, hk⟩, m2⟩
  have h2 := h1.mod m2 (by simp)
  refine ⟨_, _, rfl, iteI (fun hi => ?_) (fun hi => ?_)⟩
  · have hi : isI id (says l) ≠ true := by simpa using hi
    unfold enE
    rw [if_neg hi, if_neg hi]
    exact ⟨rfl, h2, m1'.none m2⟩
  have hi : isI id (says l) = true := by simpa using hi
  have hp : 0 ≤ id := by
    refine Classical.byContradiction fun hn => ?_
    rw [isI_neg hs (by omega)] at hi
    cases hi
  have hk := hk hp
  subst hk
  obtain ⟨hlt, _⟩ := isI_lt hi
  rw [says_len] at hlt
  have eE : enE (says l) id = 0 := by unfold enE; rw [if_pos hi]
  rw [if_pos hi, eE]
  generalize kx id (says l) = k at *
  have M2 := m1'.none m2
  obtain ⟨a, ca, rfl, hb2, ho2⟩ := h2
  obtain ⟨p, hp, hc⟩ := ho2.rd.flat (evv_len _) (by decide) hlt
  refine ⟨_, rfl, _, _, _, hb2.cell (i := 2) rfl, p, hp, by omega, by omega, ?_⟩
  have hfg : ∀ y ∈ fp a, y ∈ g :: fp a := fun y hy => by simp [hy]
  -- the switch itself
  have j1 : ∀ (w3 : World) (l3 : List En) (hk3 : k < l3.length) (x : Int), l3 = l.set k ⟨l[k].id, l[k].iv, l[k].on, l[k].a, l[k].l, l[k].c, x⟩ → x = (if on = true ∧ l[k].on = false then wr (t + l[k].iv) else l[k].nx) → Blk w3 g 47 [.bool true, .int .i64 t, .slice a l3.length ca] → Win w3 66 5 a l3.length ca (l3.flatMap evv) → Mod (g :: fp a) w w3 →
      F13_j1 p (k : Int) on w3 (fun v w' => v = .int .i64 0 ∧ Sv w' g (g :: fp a) t (l.modify k (enN on t)) ∧ Mod (g :: fp a) w w') := by
    intro w3 l3 hk3 x e3 hx hb3 ho3 m3
    unfold F13_j1
    have hv : l3[k] = ⟨l[k].id, l[k].iv, l[k].on, l[k].a, l[k].l, l[k].c, x⟩ := by subst e3; rw [List.getElem_set_self]
    refine Sv.put (y := enN on t l[k]) hb3 ho3 hk3 (by decide) (by rw [hv]; unfold enN; rw [← hx]; rfl) hp fun w4 b4 o4 m4 => ⟨rfl, ?_, m3.trans m4 (fun y hy => .inl (hfg y hy))⟩
    rw [modify_set l _ hlt]
    subst e3
    rw [List.set_set] at b4 o4
    exact ⟨a, ca, rfl, b4, o4⟩
  have hself : l = l.set k ⟨l[k].id, l[k].iv, l[k].on, l[k].a, l[k].l, l[k].c, l[k].nx⟩ := (List.set_getElem_self hlt).symm
  have no : ¬ (on = true ∧ l[k].on = false) → F13_j2 (base g) p (k : Int) on false w2 (fun v w' => v = .int .i64 0 ∧ Sv w' g (g :: fp a) t (l.modify k (enN on t)) ∧ Mod (g :: fp a) w w') := by
    intro hn
    unfold F13_j2
    rw [if_neg (by simp)]
    exact j1 w2 l hlt l[k].nx hself (by rw [if_neg hn]) hb2 ho2 M2
  refine iteI (fun hon => ?_) (fun hon => no (fun hh => hon hh.1))
  refine ⟨_, hc 2 _ rfl, ?_⟩
  cases hold : l[k].on with
  | true => exact no (fun hh => by rw [hold] at hh; cases hh.2)
  | false =>
    unfold F13_j2
    rw [if_pos (by simp)]
    have md : Mod [] w2 w2.drew := Mod.drew w2
    have hb3 := hb2.mod md (by simp)
    refine ⟨_, hb3.cell (i := 1) rfl, _, hc 1 _ rfl, ?_⟩
    refine Sv.put (y := ⟨l[k].id, l[k].iv, l[k].on, l[k].a, l[k].l, l[k].c, wr (t + l[k].iv)⟩) hb3 (ho2.mod md (by simp)) hlt (by decide) rfl hp fun w4 b4 o4 m4 => ?_
    refine j1 w4 _ (by rw [List.length_set]; exact hlt) _ rfl (by rw [if_pos ⟨hon, hold⟩]) b4 o4 ((M2.none md).trans m4 (fun y hy => .inl (hfg y hy)))
theorem sclone_ok : Does Try.prog 15 #[.pointer (some (base g))] w fun v w' => ∃ g' S', v = .pointer (some (base g')) ∧ Sv w' g' S' now l ∧ Mod [] w w' ∧ ∀ y ∈ S', w.heap.size ≤ y := by
  have hl := hs.len
  rw [says_len] at hl
  apply w15
  unfold F15
  refine (sok_ok h).mono ?_
  rintro _ _ ⟨rfl, rfl⟩
  refine ⟨_, rfl, ?_⟩
  rw [if_neg (by simp)]
  obtain ⟨a, ca, rfl, hb, ho⟩ := h
  refine ⟨_, rfl, _, _, _, _, _, hb.cells, New.put rfl fun w1 h1 m1 z1 => ?_⟩
  refine ⟨_, _, _, (hb.mod m1 (by simp)).cell (i := 2) rfl, (clone_hkentry ca (ho.mod m1 (by simp)).rd (evv_flen _) (evv_one _) (by omega)).mono ?_⟩
  rintro _ w2 ⟨a', c', rfl, o2, m2, f2⟩
  have zz := m1.size
  refine ⟨_, _, _, rfl, Put.use (h1.mod m2 (by simp)) (by simp) fun w3 h3 m3 => ?_⟩
  have z2 := m2.size
  refine ⟨_, _ :: fp a', rfl, ⟨a', c', rfl, h3, Win.of_own (o2.mod m3 (fun y hy hy' => by have := f2 y hy; simp only [List.mem_singleton] at hy'; omega))⟩, (m1.none m2).trans m3 (fun y hy => .inr (by simp only [List.mem_singleton] at hy; omega)), fun y hy => ?_⟩
  rcases List.mem_cons.1 hy with rfl | hy
  · exact Nat.le_refl _
  · have := f2 y hy; omega
end

/-! ### Reports -/
/-- A way to pack parameters: nil, or a pool that stays as it is. -/
def Pl (p : Option Addr) (P : List Nat) (R : List Int → List UInt8 × Int) (w : World) : Prop := ∀ M w', Mod M w w' → (∀ y ∈ P, y ∉ M) → ∀ a X c, Rd w' a (X.map iv) → X.length ≤ 1000 → Does Try.prog 27 #[.pointer p, .slice a X.length c] w' fun v w'' => ∃ b d, v = .tuple #[.slice b (R X).1.length d, .int .i64 (R X).2] ∧ Rd w'' b ((R X).1.map bv) ∧ Mod [] w' w'' ∧ ∀ y ∈ fpv b ((R X).1.map bv), w'.heap.size ≤ y
theorem Pl.mod {p : Option Addr} {P : List Nat} {R : List Int → List UInt8 × Int} {w w' : World} {M : List Nat} (h : Pl p P R w) (m : Mod M w w') (hd : ∀ y ∈ P, y ∉ M) : Pl p P R w' := by
  intro M' w'' m' hd'
  refine h (M ++ M') w'' ((m.weaken (fun y hy => .inl (by simp [hy]))).trans m' (fun y hy => .inl (by simp [hy]))) (fun y hy hy' => ?_)
  rcases List.mem_append.1 hy' with hh | hh
  · exact hd y hy hh
  · exact hd' y hy hh
structure Rp where
  id : Int
  t : Int
  a : Option Addr
  d : List UInt8
  c : Nat
def rvv (r : Rp) : List Value := [.int .i64 r.id, .int .i64 r.t, .slice r.a r.d.length r.c]
def Rp.say (r : Rp) : Int × Int × List UInt8 := (r.id, r.t, r.d)
theorem rvv_len (L : List Rp) : ∀ x ∈ L, (rvv x).length = 3 := fun _ _ => rfl
def duN (now : Int) (e : En) : En := if isDue now e.say = true then ⟨e.id, e.iv, e.on, e.a, e.l, e.c, wr (now + e.iv)⟩ else e
theorem duN_say (now : Int) (e : En) : (duN now e).say = duS now e.say := by
  unfold duN duS
  split <;> rfl
def repS (R : List Int → List UInt8 × Int) (t : Int) (e : Sa) : Int × Int × List UInt8 := (e.id, t, (R e.l).1)
/-- Reports that are made: all in blocks that are new since w. -/
structure Reps (w0 w : World) (o : Option Addr) (rs : List Rp) : Prop where
  rd : Rd w o (rs.flatMap rvv)
  fo : ∀ y ∈ fpv o (rs.flatMap rvv), w0.heap.size ≤ y
  ds : ∀ r ∈ rs, Rd w r.a (r.d.map bv) ∧ ∀ y ∈ fpv r.a (r.d.map bv), w0.heap.size ≤ y
theorem duL_next {l : List En} {t : Int} {i : Nat} (h : i < l.length) : (l.take (i + 1)).map (duN t) ++ l.drop (i + 1) = ((l.take i).map (duN t) ++ l.drop i).set i (duN t l[i]) := by
  rw [List.take_succ_eq_append_getElem h, List.map_append, List.set_append_right _ _ (by rw [List.length_map, List.length_take]; omega)]
  have e : i - (List.map (duN t) (List.take i l)).length = 0 := by simp; omega
  rw [e, List.drop_eq_getElem_cons h, List.set_cons_zero]
  simp
theorem duL_at {l : List En} {t : Int} {i : Nat} (h : i < l.length) (h' : i < ((l.take i).map (duN t) ++ l.drop i).length) : ((l.take i).map (duN t) ++ l.drop i)[i] = l[i] := by
  rw [List.getElem_append_right (by rw [List.length_map, List.length_take]; omega)]
  simp only [List.length_map, List.length_take, List.getElem_drop]
  congr 1
  omega
theorem sdue_ok {w : World} {g : Nat} {S : List Nat} {now : Int} {l : List En} (h : Sv w g S now l) (hs : Gd (says l)) (hrd : ∀ e ∈ l, e.rd w ∧ ∀ y ∈ e.fp, y ∉ S) (n : Int) {p : Option Addr} {P : List Nat} {R : List Int → List UInt8 × Int} (hP : Pl p P R w) (hPS : ∀ y ∈ P, y ∉ S) (hz : ∀ X, (R X).2 ≠ 0 → (R X).1 = []) :
    Does Try.prog 14 #[.pointer (some (base g)), .int .i64 n, .pointer p] w fun v w' => (∃ o rs c, v = .slice o (rs.length) c ∧ Reps w w' o rs ∧ rs.map Rp.say = (dueO (says l) (passT now n)).map (repS R (passT now n))) ∧ Sv w' g S (passT now n) (l.map (duN (passT now n))) ∧ Mod S w w' := by
  have hl := hs.len
  rw [says_len] at hl
  have hgS : g ∈ S := by obtain ⟨a, c, rfl, _⟩ := h; simp
  have hSlt := h.lt
  apply w14
  unfold F14
  refine (sok_ok h).mono ?_
  rintro _ _ ⟨rfl, rfl⟩
  refine ⟨_, rfl, ?_⟩
  rw [if_neg (by simp)]
  refine (spass_ok h n).mono ?_
  rintro _ w1 ⟨rfl, h1, m1⟩
  refine ⟨rfl, ?_⟩
  generalize passT now n = t at *
  have m1' : Mod S _ w1 := m1.weaken (fun y hy => .inl (by simp at hy; subst hy; exact hgS))
  obtain ⟨a, ca, rfl, hb1, ho1⟩ := h1
  refine ⟨_, rfl, _, _, _, hb1.cell (i := 2) rfl, ?_⟩
  have hfg : ∀ y ∈ fp a, y ∈ g :: fp a := fun y hy => by simp [hy]
  refine LoopP.of (fun (x : Option Addr × Nat × Nat × Int) w' => ∃ (i : Nat) (o : Option Addr) (rs : List Rp) (oc : Nat), i ≤ l.length ∧ x = (o, rs.length, oc, (i : Int)) ∧ rs.length ≤ i ∧ Own w' 40 3 o rs.length oc (rs.flatMap rvv) ∧ (∀ y ∈ fp o, w.heap.size ≤ y) ∧ (∀ r ∈ rs, Rd w' r.a (r.d.map bv) ∧ ∀ y ∈ fpv r.a (r.d.map bv), w.heap.size ≤ y ∧ y ∉ fp o) ∧ rs.map Rp.say = (dueO (says (l.take i)) t).map (repS R t) ∧ Sv w' g (g :: fp a) t ((l.take i).map (duN t) ++ l.drop i) ∧ Mod (g :: fp a) w w') (fun x _ => l.length - x.2.2.2.toNat)
    ⟨0, none, [], 0, by omega, rfl, by simp, Own.nil, by simp [fp], by simp, rfl, by simpa using ⟨a, ca, rfl, hb1, ho1⟩, m1'⟩ ?_
  rintro _ w2 ⟨i, o, rs, oc, hi, rfl, hrs, O2, fo, D2, E2, S2, M2⟩
  unfold F14_b1
  dsimp only
  obtain ⟨a2, c2, hS, hb2, ho2⟩ := S2
  refine iteI (fun hlt => ?_) (fun hlt => ?_)
  · have hlt : i < l.length := by omega
    have e1 : IntKind.i64.wrap ((i : Int) + 1) = ((i + 1 : Nat) : Int) := by rw [wi64 (by omega)]; omega
    rw [e1]
    have hlen : ((l.take i).map (duN t) ++ l.drop i).length = l.length := by simp; omega
    have hlt' : i < ((l.take i).map (duN t) ++ l.drop i).length := by omega
    have hat := duL_at (t := t) hlt hlt'
    have etk : says (l.take (i + 1)) = says (l.take i) ++ [l[i].say] := by rw [List.take_succ_eq_append_getElem hlt]; unfold says; rw [List.map_append]; rfl
    have hfp2 : fp a2 = fp a := by simpa using hS.symm
    obtain ⟨q, hq, hc⟩ := ho2.rd.flat (evv_len _) (by decide) hlt'
    rw [hat] at hc
    -- a round that makes nothing
    have skip : ∀ w' : World, Mod [] w2 w' → isDue t l[i].say = false → ∃ m, m < l.length - (((o, rs.length, oc, (i : Int)) : Option Addr × Nat × Nat × Int)).2.2.2.toNat ∧ (∃ (i' : Nat) (o' : Option Addr) (rs' : List Rp) (oc' : Nat), i' ≤ l.length ∧ ((o, rs.length, oc, ((i + 1 : Nat) : Int)) : Option Addr × Nat × Nat × Int) = (o', rs'.length, oc', (i' : Int)) ∧ rs'.length ≤ i' ∧ Own w' 40 3 o' rs'.length oc' (rs'.flatMap rvv) ∧ (∀ y ∈ fp o', w.heap.size ≤ y) ∧ (∀ r ∈ rs', Rd w' r.a (r.d.map bv) ∧ ∀ y ∈ fpv r.a (r.d.map bv), w.heap.size ≤ y ∧ y ∉ fp o') ∧ rs'.map Rp.say = (dueO (says (l.take i')) t).map (repS R t) ∧ Sv w' g (g :: fp a) t ((l.take i').map (duN t) ++ l.drop i') ∧ Mod (g :: fp a) w w') ∧ l.length - (((o, rs.length, oc, ((i + 1 : Nat) : Int)) : Option Addr × Nat × Nat × Int)).2.2.2.toNat = m := by
      intro w' m hnd
      refine ⟨_, by simp only; omega, ⟨i + 1, o, rs, oc, by omega, rfl, by omega, O2.mod m (by simp), fo, fun r hr => ⟨(D2 r hr).1.mod m (by simp), (D2 r hr).2⟩, ?_, ?_, M2.none m⟩, rfl⟩
      · rw [etk]
        unfold dueO
        rw [List.filter_append]
        simp only [List.filter_cons, hnd, List.filter_nil]
        simpa [dueO] using E2
      · have e : (l.take (i + 1)).map (duN t) ++ l.drop (i + 1) = (l.take i).map (duN t) ++ l.drop i := by
          rw [duL_next hlt]
          have : duN t l[i] = l[i] := by unfold duN; rw [if_neg (by rw [hnd]; simp)]
          rw [this, ← hat, List.set_getElem_self]
        rw [e]
        exact ⟨a2, c2, hS, hb2.mod m (by simp), ho2.mod m (by simp)⟩
    have noff : l[i].on = false → isDue t l[i].say = false := fun hf => by
      show (l[i].on && decide (l[i].nx ≤ t)) = false
      rw [hf]
      rfl
    have nlate : ¬ l[i].nx ≤ t → isDue t l[i].say = false := fun hf => by
      show (l[i].on && decide (l[i].nx ≤ t)) = false
      rw [decide_eq_false hf, Bool.and_false]
    have md : Mod [] w2 w2.drew := Mod.drew w2
    have hb3 := hb2.mod md (by simp)
    refine ⟨_, _, _, hb2.cell (i := 2) rfl, q, hq, by omega, by omega, _, hc 2 _ rfl, iteI (fun hh => skip _ md (noff (by simpa using hh))) (fun hon => ?_)⟩
    refine ⟨_, hc 4 _ rfl, _, hb3.cell (i := 1) rfl, iteI (fun hh => skip _ md (nlate (by omega))) (fun hnx => ?_)⟩
    have hdue : isDue t l[i].say = true := by
      unfold isDue
      show (l[i].on && decide (l[i].nx ≤ t)) = true
      rw [decide_eq_true (by omega)]
      simpa using hon
    have hduN : duN t l[i] = ⟨l[i].id, l[i].iv, l[i].on, l[i].a, l[i].l, l[i].c, wr (t + l[i].iv)⟩ := by unfold duN; rw [if_pos hdue]
    have md2 : Mod [] w2 w2.drew.drew := md.none (Mod.drew _)
    have hb4 := hb2.mod md2 (by simp)
    have ho4 := ho2.mod md2 (by simp)
    refine ⟨_, hb4.cell (i := 1) rfl, _, hc 1 _ rfl, ?_⟩
    refine Sv.put (y := duN t l[i]) hb4 ho4 hlt' (by decide) (by rw [hat, hduN]; rfl) hq fun w5 b5 o5 m5 => ?_
    rw [← duL_next hlt] at b5 o5
    have m25 : Mod (fp a) w2 w5 := by rw [← hfp2]; exact (md2.weaken (by simp)).trans m5 (fun y hy => .inl hy)
    have M5 := M2.trans m25 (fun y hy => .inl (hfg y hy))
    have hlen5 : ((l.take (i + 1)).map (duN t) ++ l.drop (i + 1)).length = l.length := by simp; omega
    have hlt5 : i < ((l.take (i + 1)).map (duN t) ++ l.drop (i + 1)).length := by omega
    have hat5 : ((l.take (i + 1)).map (duN t) ++ l.drop (i + 1))[i] = duN t l[i] := by
      simp only [duL_next hlt, List.getElem_set_self]
    obtain ⟨q5, hq5, hc5⟩ := o5.rd.flat (evv_len _) (by decide) hlt5
    rw [hq] at hq5
    cases hq5
    rw [hat5, hduN] at hc5
    obtain ⟨hre, hfe⟩ := hrd l[i] (List.getElem_mem hlt)
    have hre5 : Rd w5 l[i].a (l[i].l.map iv) := hre.mod M5 hfe
    have hrl : l[i].l.length ≤ 1000 := by
      have := (hs.rng l[i].say (List.mem_map.2 ⟨l[i], List.getElem_mem hlt, rfl⟩)).2.2.2.2
      have : l[i].l.length ≤ 256 := this
      omega
    refine ⟨_, _, _, hc5 3 _ rfl, (hP.mod M5 hPS [] w5 (Mod.refl _) (by simp) l[i].a l[i].l l[i].c hre5 hrl).mono ?_⟩
    rintro _ w6 ⟨b, d, rfl, rb, m6, fb⟩
    have zM5 := M5.size
    have fa : ∀ y ∈ fp a, y < w.heap.size := fun y hy => hSlt y (hfg y hy)
    have O6 := (O2.mod m25 (fun y hy hy' => by have := fo y hy; have := fa y hy'; omega)).mod m6 (by simp)
    have b6 := b5.mod m6 (by simp)
    have o6 := o5.mod m6 (by simp)
    have D6 : ∀ r ∈ rs, Rd w6 r.a (r.d.map bv) ∧ ∀ y ∈ fpv r.a (r.d.map bv), w.heap.size ≤ y ∧ y ∉ fp o := fun r hr => ⟨((D2 r hr).1.modv m25 (fun y hy hy' => by have := ((D2 r hr).2 y hy).1; have := fa y hy'; omega)).mod m6 (by simp), (D2 r hr).2⟩
    have O2lt := O2.lt
    have z25 := m25.size
    -- the report is appended
    have j2 : ∀ (bb : Option Addr) (bc : Nat), Rd w6 bb ((R l[i].l).1.map bv) → (∀ y ∈ fpv bb ((R l[i].l).1.map bv), w5.heap.size ≤ y) → F14_j2 q (i : Int) (base g) o rs.length oc bb (R l[i].l).1.length bc w6 (fun x0 x1 x2 x3 w' => ∃ m, m < l.length - (((o, rs.length, oc, (i : Int)) : Option Addr × Nat × Nat × Int)).2.2.2.toNat ∧ (∃ (i' : Nat) (o' : Option Addr) (rs' : List Rp) (oc' : Nat), i' ≤ l.length ∧ (x0, x1, x2, x3) = (o', rs'.length, oc', (i' : Int)) ∧ rs'.length ≤ i' ∧ Own w' 40 3 o' rs'.length oc' (rs'.flatMap rvv) ∧ (∀ y ∈ fp o', w.heap.size ≤ y) ∧ (∀ r ∈ rs', Rd w' r.a (r.d.map bv) ∧ ∀ y ∈ fpv r.a (r.d.map bv), w.heap.size ≤ y ∧ y ∉ fp o') ∧ rs'.map Rp.say = (dueO (says (l.take i')) t).map (repS R t) ∧ Sv w' g (g :: fp a) t ((l.take i').map (duN t) ++ l.drop i') ∧ Mod (g :: fp a) w w') ∧ l.length - (((x0, x1, x2, x3) : Option Addr × Nat × Nat × Int)).2.2.2.toNat = m) := by
      intro bb bc hbb fbb
      unfold F14_j2
      have md6 : Mod [] w6 w6.drew := Mod.drew w6
      have b7 := b6.mod md6 (by simp)
      obtain ⟨q7, hq7, hc7⟩ := (o6.mod md6 (by simp)).rd.flat (evv_len _) (by decide) hlt5
      rw [hq] at hq7
      cases hq7
      rw [hat5, hduN] at hc7
      refine ⟨_, rd0 hc7, _, b7.cell (i := 1) rfl, New.use fun w8 h8 m8 z8 => ?_⟩
      have m68 := md6.none m8
      have O8 := O6.mod m68 (by simp)
      obtain ⟨o9, oc9, w9, run, O9, m9, f9⟩ := append_own (d := 1) Try.underlying36 elem40 36 O8 (Rd.blk h8) (m := 1) rfl (by intro u hu; simp at hu; rcases hu with rfl | rfl | rfl <;> rfl) (by omega) (by omega)
      rw [e1]
      have z6 := m6.size
      have z68 := m68.size
      refine ⟨o9, _, oc9, w9, run, _, by simp only; omega, ⟨i + 1, o9, rs ++ [⟨l[i].id, t, bb, (R l[i].l).1, bc⟩], oc9, by omega, by simp, by simp; omega, ?_, ?_, ?_, ?_, ?_, ?_⟩, rfl⟩
      · rw [List.length_append, List.flatMap_append]; exact O9
      · intro y hy
        rcases f9 with f | f <;> rw [f] at hy
        · exact fo y hy
        · simp at hy; omega
      · intro r hr
        have nn : ∀ y, y < w8.heap.size → y ∉ fp o → y ∉ fp o9 := by
          intro y hy1 hy2 hy3
          rcases f9 with f | f <;> rw [f] at hy3
          · exact hy2 hy3
          · simp at hy3; omega
        rcases List.mem_append.1 hr with hr | hr
        · obtain ⟨h1, h2⟩ := D6 r hr
          have h1' := h1.mod m68 (by simp)
          exact ⟨h1'.modv m9 (fun y hy => (h2 y hy).2), fun y hy => ⟨(h2 y hy).1, nn y (h1'.lt y hy) (h2 y hy).2⟩⟩
        · simp at hr
          subst hr
          have h1' := hbb.mod m68 (by simp)
          have h3 : ∀ y ∈ fpv bb ((R l[i].l).1.map bv), y ∉ fp o := fun y hy hy' => by have := fbb y hy; have := O2lt y hy'; omega
          exact ⟨h1'.modv m9 h3, fun y hy => ⟨by have := fbb y hy; omega, nn y (h1'.lt y hy) (h3 y hy)⟩⟩
      · rw [etk]
        unfold dueO at E2 ⊢
        rw [List.filter_append, List.map_append, List.map_append, E2]
        simp only [List.filter_cons, hdue, List.filter_nil]
        rfl
      · have apo : ∀ y ∈ g :: fp a, y ∉ fp o := fun y hy hy' => by have := fo y hy'; have := hSlt y hy; omega
        refine Sv.mod ⟨a2, c2, hS, b6, o6⟩ ((m68.weaken (by simp)).trans m9 (fun y hy => .inl hy)) apo
      · exact ((M5.none m6).none m68).trans m9 (fun y hy => .inr (fo y hy))
    refine ⟨_, _, _, _, rfl, iteI (fun hne => ?_) (fun hne => j2 b d rb fb)⟩
    have h0 := hz _ hne
    have := j2 none 0 (by rw [h0]; exact Rd.nil) (by rw [h0]; simp [fpv])
    rw [h0] at this
    exact this
  · have hil : i = l.length := by omega
    subst hil
    rw [List.take_length] at E2
    have e : (l.take l.length).map (duN t) ++ l.drop l.length = l.map (duN t) := by simp
    rw [e] at hb2 ho2
    exact ⟨⟨o, rs, oc, rfl, ⟨O2.rd, fun y hy => fo y (fpv_sub y hy), fun r hr => ⟨(D2 r hr).1, fun y hy => ((D2 r hr).2 y hy).1⟩⟩, E2⟩, ⟨a2, c2, hS, hb2, ho2⟩, M2⟩

/-! ### Structures -/
def En.sy (e : En) : Int × Int × Bool × List Int := (e.id, e.iv, e.on, e.l)
def Sa.sy (e : Sa) : Int × Int × Bool × List Int := (e.id, e.iv, e.on, e.l)
theorem says_sy (l : List En) : (says l).map Sa.sy = l.map En.sy := by unfold says; rw [List.map_map]; rfl
theorem struct_ok {w : World} {g : Nat} {S : List Nat} {now : Int} {l : List En} (h : Sv w g S now l) (hs : Gd (says l)) (hrd : ∀ e ∈ l, e.rd w) :
    Does Try.prog 11 #[.pointer (some (base g))] w fun v w' => ∃ o es c, v = .slice o (List.length es) c ∧ Rd w' o (es.flatMap svv) ∧ (∀ e ∈ es, e.rd w') ∧ es.map En.sy = l.map En.sy ∧ Mod [] w w' := by
  have hl := hs.len
  rw [says_len] at hl
  apply w11
  unfold F11
  refine (sok_ok h).mono ?_
  rintro _ _ ⟨rfl, rfl⟩
  refine ⟨_, rfl, ?_⟩
  rw [if_neg (by simp)]
  obtain ⟨a, ca, rfl, hb, ho⟩ := h
  refine ⟨_, rfl, _, _, _, hb.cell (i := 2) rfl, ?_⟩
  refine LoopP.of (fun (x : Option Addr × Nat × Nat × Int) w' => ∃ (i : Nat) (o : Option Addr) (es : List En) (oc : Nat), i ≤ l.length ∧ x = (o, es.length, oc, (i : Int)) ∧ es.length = i ∧ Own w' 31 4 o es.length oc (es.flatMap svv) ∧ (∀ y ∈ fp o, w.heap.size ≤ y) ∧ (∀ e ∈ es, e.rd w' ∧ ∀ y ∈ e.fp, y ∉ fp o) ∧ es.map En.sy = (l.take i).map En.sy ∧ Mod [] w w') (fun x _ => l.length - x.2.2.2.toNat)
    ⟨0, none, [], 0, by omega, rfl, rfl, Own.nil, by simp [fp], by simp, rfl, Mod.refl _⟩ ?_
  rintro _ w1 ⟨i, o, es, oc, hi, rfl, hes, O1, fo, D1, E1, M1⟩
  unfold F11_b1
  dsimp only
  refine iteI (fun hlt => ?_) (fun hlt => ?_)
  · have hlt : i < l.length := by omega
    have e1 : IntKind.i64.wrap ((i : Int) + 1) = ((i + 1 : Nat) : Int) := by rw [wi64 (by omega)]; omega
    rw [e1]
    obtain ⟨p, hp, hc⟩ := (ho.rd.mod M1 (by simp)).flat (evv_len _) (by decide) hlt
    refine ⟨p, hp, by omega, by omega, _, _, _, _, _, _, _, ⟨by rw [Int.toNat_natCast, add_zero]; exact rd0 hc, hc 1 _ rfl, hc 2 _ rfl, hc 3 _ rfl, hc 4 _ rfl, trivial⟩, New.put rfl fun w2 h2 m2 z2 => ?_⟩
    have M2 := M1.none m2
    have hre : Rd w2 l[i].a (l[i].l.map iv) := (hrd l[i] (List.getElem_mem hlt)).mod M2 (by simp)
    have hrl : l[i].l.length ≤ 256 := (hs.rng l[i].say (List.mem_map.2 ⟨l[i], List.getElem_mem hlt, rfl⟩)).2.2.2.2
    refine ⟨_, _, _, h2.cell (i := 3) rfl, (clone_int l[i].c hre (by simp) (iv_one _) (by omega)).mono ?_⟩
    rintro _ w3 ⟨a3, c3, rfl, o3, m3, f3⟩
    have z12 := m2.size
    have z23 := m3.size
    refine ⟨_, _, _, rfl, Put.use (h2.mod m3 (by simp)) (by simp) fun w4 h4 m4 => ?_⟩
    have M4 : Mod [] w1 w4 := (m2.none m3).trans m4 (fun y hy => .inr (by simp only [List.mem_singleton] at hy; omega))
    refine ⟨_, _, _, _, _, _, ⟨h4.cell0, h4.cell (i := 1) rfl, h4.cell (i := 2) rfl, h4.cell (i := 3) rfl, trivial⟩, New.use fun w5 h5 m5 z5 => ?_⟩
    have M5 := M4.none m5
    have O5 := O1.mod M5 (by simp)
    obtain ⟨o6, c6, w6, run, O6, m6, f6⟩ := append_own (d := 1) Try.underlying28 elem31 28 O5 (Rd.blk h5) (m := 1) rfl (by intro u hu; simp at hu; rcases hu with rfl | rfl | rfl | rfl <;> rfl) (by omega) (by omega)
    have z15 := M5.size
    have zw := M1.size
    have O1lt := O1.lt
    have o4 : Own w5 3 1 a3 l[i].l.length c3 (l[i].l.map iv) := (o3.mod m4 (fun y hy hy' => by have := f3 y hy; simp only [List.mem_singleton] at hy'; omega)).mod m5 (by simp)
    have nn : ∀ y, y < w5.heap.size → y ∉ fp o → y ∉ fp o6 := by
      intro y hy1 hy2 hy3
      rcases f6 with f | f <;> rw [f] at hy3
      · exact hy2 hy3
      · simp at hy3; omega
    refine ⟨o6, _, c6, w6, run, _, by omega, ⟨i + 1, o6, es ++ [⟨l[i].id, l[i].iv, l[i].on, a3, l[i].l, c3, 0⟩], c6, by omega, by simp, by simp; omega, ?_, ?_, ?_, ?_, (M1.none M5).trans m6 (fun y hy => .inr (fo y hy))⟩, rfl⟩
    · rw [List.length_append, List.flatMap_append]; exact O6
    · intro y hy
      rcases f6 with f | f <;> rw [f] at hy
      · exact fo y hy
      · simp at hy; omega
    · intro e he
      rcases List.mem_append.1 he with he | he
      · obtain ⟨h1, h2⟩ := D1 e he
        have h1' := h1.mod M5 (by simp)
        exact ⟨h1'.mod m6 h2, fun y hy => nn y (h1'.lt y hy) (h2 y hy)⟩
      · simp at he
        subst he
        have h3 : ∀ y ∈ fpv a3 (l[i].l.map iv), y ∉ fp o := fun y hy hy' => by have := f3 y (fpv_sub y hy); have := O1lt y hy'; omega
        exact ⟨o4.rd.modv m6 h3, fun y hy => nn y (o4.rd.lt y hy) (h3 y hy)⟩
    · rw [List.take_succ_eq_append_getElem hlt, List.map_append, List.map_append, E1]
      rfl
  · have hil : i = l.length := by omega
    subst hil
    rw [List.take_length] at E1
    exact ⟨o, es, oc, rfl, O1.rd, fun e he => (D1 e he).1, E1, M1⟩
end Go.Proofs.Ytcgkmmiokmbjdaa
