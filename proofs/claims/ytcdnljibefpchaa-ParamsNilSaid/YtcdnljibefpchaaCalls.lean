/-
  The contracts of chapter 33: def, Get, Set, Values, Clone, choose.
-/
import Derived.Test.YtcdnljibefpchaaPool
import Derived.Test.YtcdnljibefpchaaBsearch
namespace Go.Proofs.Ytcdnljibefpchaa
open Go Go.Sh Go.Proofs
set_option linter.unusedVariables false
set_option linter.unusedSimpArgs false
set_option linter.unusedSectionVars false

def isId (id : Int) (d : Pd) : Bool := decide (d.1 = id)
theorem good_lt {L : List Pd} (h : Good L) : ∀ (i j : Nat) (hi : i < L.length) (hj : j < L.length), i < j → L[i].1 < L[j].1 := by
  intro i j hi hj hij
  induction j with
  | zero => omega
  | succ j ih =>
    have h1 := (h.ok (j + 1) hj).2.1 (by omega)
    simp only [Nat.add_sub_cancel] at h1
    by_cases he : i = j
    · subst he; exact h1
    · have := ih (by omega) (by omega); omega
theorem good_sorted {L : List Pd} (h : Good L) : (ids L).Pairwise (· ≤ ·) := by
  unfold ids
  rw [List.pairwise_map]
  exact List.pairwise_iff_getElem.2 (fun i j hi hj hij => by have := good_lt h i j hi hj hij; omega)
theorem find_at {L : List Pd} (h : Good L) {id : Int} {k : Nat} (hk : k < L.length) (he : L[k].1 = id) : fidx (isId id) L = k :=
  fidx_at _ L k hk (by simp [isId, he]) (fun j hj => by have := good_lt h j k (by omega) hk hj; simp [isId]; omega)
/-- The index that the search finds is that of the first with the number. -/
theorem search_is {L : List Pd} (h : Good L) (id : Int) : (decide (∃ h : fidx (geq id) (ids L) < (ids L).length, (ids L)[fidx (geq id) (ids L)] = id)) = decide (fidx (isId id) L < L.length) ∧ (fidx (isId id) L < L.length → fidx (geq id) (ids L) = fidx (isId id) L) := by
  have e : fidx (isId id) L < L.length → fidx (geq id) (ids L) = fidx (isId id) L := by
    intro hlt
    have h1 : L[fidx (isId id) L].1 = id := by have := fidx_here (isId id) L hlt; simpa [isId] using this
    refine fidx_at _ _ _ (by rw [ids_len]; exact hlt) (by simp [geq, ids, h1]) (fun j hj => ?_)
    have := good_lt h j _ (by omega) hlt hj
    simp [geq, ids]
    omega
  refine ⟨?_, e⟩
  rw [decide_eq_decide]
  constructor
  · rintro ⟨h1, h2⟩
    rw [ids_len] at h1
    have : L[fidx (geq id) (ids L)].1 = id := by simpa [ids] using h2
    rw [find_at h h1 this]
    exact h1
  · intro hlt
    rw [e hlt]
    refine ⟨by rw [ids_len]; exact hlt, ?_⟩
    have := fidx_here (isId id) L hlt
    simpa [isId, ids] using this

theorem usable_ok {w : World} {g : Nat} {S : List Nat} {L : List Pd} (h : Po w g S L) : Does Try.prog 40 #[.pointer (some (base g))] w fun v w' => v = .bool true ∧ w = w' := by
  obtain ⟨a, c, b, d, rfl, hb, oa, ob⟩ := h
  apply w40
  unfold F40
  rw [if_pos (by simp)]
  exact ⟨_, rfl, _, hb.cell0, rfl, rfl⟩

section
variable {w : World} {g : Nat} {S : List Nat} {L : List Pd} (h : Po w g S L) (hg : Good L)
include h hg
/-- def: the place of a parameter's cells. -/
theorem def_ok (id : Int) : Does Try.prog 39 #[.pointer (some (base g)), .int .i64 id] w fun v w' => w = w' ∧ ((fidx (isId id) L < L.length ∧ ∃ b d p, b = some p ∧ v = .tuple #[.pointer (some (p.add (fidx (isId id) L * 4))), .int .i64 0] ∧ ∃ a c, S = g :: (fp a ++ fp b) ∧ Blk w g 64 [.bool true, .slice a L.length c, .slice b L.length d] ∧ Own w 3 1 a L.length c ((ids L).map iv) ∧ Own w 43 4 b L.length d (L.flatMap pv)) ∨
      (¬ fidx (isId id) L < L.length ∧ v = .tuple #[.pointer none, .int .i64 8])) := by
  apply w39
  unfold F39
  refine (usable_ok h).mono ?_
  rintro _ _ ⟨rfl, rfl⟩
  refine ⟨_, rfl, ?_⟩
  rw [if_neg (by simp)]
  obtain ⟨a, c, b, d, rfl, hb, oa, ob⟩ := h
  refine ⟨_, rfl, ?_⟩
  have hgl := hg.len
  have find : Does Try.prog 45 #[.pointer (some ((base g).add 1)), .int .i64 id] w fun v w' => v = .tuple #[.int .i64 (fidx (geq id) (ids L) : Int), .bool (decide (fidx (isId id) L < L.length))] ∧ w = w' := by
    apply w45
    unfold F45
    refine ⟨_, rfl, _, _, _, hb.cell (i := 1) rfl, ?_⟩
    have hs := bsearch_ok (l := ids L) c id oa.rd (by rw [ids_len]; omega) (good_sorted hg)
    rw [(search_is hg id).1, ids_len] at hs
    refine hs.mono ?_
    rintro _ _ ⟨rfl, rfl⟩
    exact ⟨_, _, rfl, rfl, rfl⟩
  refine find.mono ?_
  rintro _ _ ⟨rfl, rfl⟩
  refine ⟨_, _, rfl, iteI (fun hf => ?_) (fun hf => ?_)⟩
  · exact ⟨rfl, .inr ⟨by simpa using hf, rfl⟩⟩
  · have hlt : fidx (isId id) L < L.length := by simpa using hf
    obtain ⟨p, hp, _⟩ := ob.rd.flat (pv_len _) (by decide) hlt
    subst hp
    rw [(search_is hg id).2 hlt, add_add]
    refine ⟨_, _, _, hb.cell (i := 2) rfl, p, rfl, by omega, by omega, rfl, .inl ⟨hlt, some p, d, p, rfl, ?_, a, c, rfl, hb, oa, ob⟩⟩
    simp
theorem pget_ok (id : Int) : Does Try.prog 15 #[.pointer (some (base g)), .int .i64 id] w fun v w' => w = w' ∧ v = (if h : fidx (isId id) L < L.length then .tuple #[.int .i64 L[fidx (isId id) L].2.2.2, .int .i64 0] else .tuple #[.int .i64 0, .int .i64 8]) := by
  apply w15
  unfold F15
  refine (def_ok h hg id).mono ?_
  rintro _ _ ⟨rfl, ⟨hlt, b, d, p, rfl, rfl, a, c, rfl, hb, oa, ob⟩ | ⟨hlt, rfl⟩⟩
  · refine ⟨_, _, rfl, ?_⟩
    rw [if_neg (by simp), dif_pos hlt]
    obtain ⟨p', hp', hc⟩ := ob.rd.flat (pv_len _) (by decide) hlt
    cases hp'
    exact ⟨_, rfl, _, hc 3 _ rfl, rfl, rfl⟩
  · refine ⟨_, _, rfl, ?_⟩
    rw [if_pos (by simp), dif_neg hlt]
    exact ⟨rfl, rfl⟩
end

def upd (d : Pd) (v : Int) : Pd := (d.1, d.2.1, d.2.2.1, v)
/-- Set: the error, and the pool after it. -/
def setE (L : List Pd) (id v : Int) : Int := if h : fidx (isId id) L < L.length then (if inR L[fidx (isId id) L] v then 0 else 1) else 8
def setL (L : List Pd) (id v : Int) : List Pd := if h : fidx (isId id) L < L.length then (if inR L[fidx (isId id) L] v then L.set (fidx (isId id) L) (upd L[fidx (isId id) L] v) else L) else L
theorem setL_len (L : List Pd) (id v : Int) : (setL L id v).length = L.length := by unfold setL; split; split; simp; rfl; rfl
theorem set_ids (L : List Pd) (k : Nat) (h : k < L.length) (v : Int) : ids (L.set k (upd L[k] v)) = ids L := by
  unfold ids
  apply List.ext_getElem
  · simp
  · intro i h1 h2
    rw [List.getElem_map, List.getElem_map, List.getElem_set]
    split
    · rename_i e; subst e; rfl
    · rfl
theorem flat_set (L : List Pd) (k : Nat) (h : k < L.length) (v : Int) : (L.set k (upd L[k] v)).flatMap pv = (L.flatMap pv).set (k * 4 + 3) (.int .i64 v) := by
  have e1 : L = L.take k ++ L[k] :: L.drop (k + 1) := by rw [← List.drop_eq_getElem_cons h, List.take_append_drop]
  have e2 : L.set k (upd L[k] v) = L.take k ++ upd L[k] v :: L.drop (k + 1) := List.set_eq_take_append_cons_drop .. |>.trans (by rw [if_pos h])
  have e3 : (L.flatMap pv) = (L.take k).flatMap pv ++ (pv L[k] ++ (L.drop (k + 1)).flatMap pv) := by
    conv => lhs; rw [e1]
    rw [List.flatMap_append, List.flatMap_cons]
  have e4 : ((L.take k).flatMap pv).length = k * 4 := by rw [pv_flen, List.length_take]; congr 1; omega
  rw [e2, e3, List.flatMap_append, List.flatMap_cons, List.set_append_right _ _ (by omega), e4, show k * 4 + 3 - k * 4 = 3 by omega]
  rfl
theorem upd_good {L : List Pd} (h : Good L) {k : Nat} (hk : k < L.length) {v : Int} (hv : inR L[k] v = true) : Good (L.set k (upd L[k] v)) := by
  have hid : ∀ (i : Nat) (hi : i < L.length), (L.set k (upd L[k] v))[i]'(by simpa using hi) = if k = i then upd L[k] v else L[i] := fun i hi => by rw [List.getElem_set]
  have hid1 : ∀ (i : Nat) (hi : i < L.length), ((L.set k (upd L[k] v))[i]'(by simpa using hi)).1 = L[i].1 := fun i hi => by
    rw [hid i hi]
    split
    · rename_i e; subst e; rfl
    · rfl
  refine ⟨by simpa using h.len, fun i hi => ?_⟩
  have hi' : i < L.length := by simpa using hi
  obtain ⟨h1, h2, h3, h4⟩ := h.ok i hi'
  refine ⟨by rw [hid1 i hi']; exact h1, fun h0 => by rw [hid1 i hi', hid1 (i - 1) (by omega)]; exact h2 h0, ?_, ?_⟩
  · rw [hid i hi']
    split
    · rename_i e; subst e; exact h3
    · exact h3
  · rw [hid i hi']
    split
    · rename_i e; subst e; exact hv
    · exact h4
theorem setL_good {L : List Pd} (h : Good L) (id v : Int) : Good (setL L id v) := by
  unfold setL
  split
  · split
    · exact upd_good h _ (by assumption)
    · exact h
  · exact h

theorem pset_ok {w : World} {g : Nat} {S : List Nat} {L : List Pd} (h : Po w g S L) (hg : Good L) (id v : Int) : Does Try.prog 16 #[.pointer (some (base g)), .int .i64 id, .int .i64 v] w fun x w' => x = .int .i64 (setE L id v) ∧ Po w' g S (setL L id v) ∧ Mod S w w' := by
  apply w16
  unfold F16
  refine (def_ok h hg id).mono ?_
  rintro _ _ ⟨rfl, ⟨hlt, b, d, p, rfl, rfl, a, c, rfl, hb, oa, ob⟩ | ⟨hlt, rfl⟩⟩
  · refine ⟨_, _, rfl, ?_⟩
    rw [if_neg (by simp)]
    obtain ⟨p', hp', hc⟩ := ob.rd.flat (pv_len _) (by decide) hlt
    cases hp'
    refine ⟨_, rfl, _, _, _, _, ⟨by simpa [add_zero] using hc 0 _ rfl, hc 1 _ rfl, hc 2 _ rfl, hc 3 _ rfl, trivial⟩, ?_⟩
    refine (inRange_ok (hg.ok _ hlt).2.2.1 v w).mono ?_
    rintro _ w1 ⟨rfl, m1⟩
    refine ⟨_, rfl, ?_⟩
    unfold setE setL
    rw [dif_pos hlt, dif_pos hlt]
    have hb1 := hb.mod m1 (by simp)
    have oa1 := oa.mod m1 (by simp)
    have ob1 := ob.mod m1 (by simp)
    cases hin : inR L[fidx (isId id) L] v with
    | false =>
      rw [if_pos (by simp), if_neg (by simp), if_neg (by simp)]
      exact ⟨rfl, ⟨a, c, some p, d, rfl, hb1, oa1, ob1⟩, m1.weaken (by simp)⟩
    | true =>
      rw [if_neg (by simp), if_pos rfl, if_pos rfl]
      obtain ⟨p', hp', hw, o2, m2⟩ := ob1.setAt (i := fidx (isId id) L * 4 + 3) (by rw [pv_flen]; omega) (.int .i64 v)
      cases hp'
      rw [add_add]
      refine ⟨hw, rfl, ⟨a, c, some p, d, rfl, ?_, ?_, ?_⟩, ?_⟩
      · rw [List.length_set]; exact hb1.mod m2 (ob1.ne hb1 (by decide))
      · rw [List.length_set, set_ids _ _ hlt]; exact oa1.mod m2 (own_apart oa1 ob1 (by decide))
      · rw [List.length_set, flat_set _ _ hlt]; exact o2
      · exact (m1.weaken (by simp)).trans m2 (fun y hy => .inl (by simp [hy]))
  · refine ⟨_, _, rfl, ?_⟩
    rw [if_pos (by simp)]
    unfold setE setL
    rw [dif_neg hlt, dif_neg hlt]
    exact ⟨rfl, h, Mod.refl _⟩
end Go.Proofs.Ytcdnljibefpchaa
