/-
  The contracts of chapter 33: Values, Clone, choose, Pack.
-/
import Derived.Test.YtcdnljibefpchaaCalls
namespace Go.Proofs.Ytcdnljibefpchaa
open Go Go.Sh Go.Proofs
set_option linter.unusedVariables false
set_option linter.unusedSimpArgs false
set_option linter.unusedSectionVars false

def vals (L : List Pd) : List (Int × Int) := L.map fun d => (d.1, d.2.2.2)
theorem vals_len (L : List Pd) : (vals L).length = L.length := by simp [vals]
def vv (x : Int × Int) : List Value := [.int .i64 x.1, .int .i64 x.2]
theorem vv_len (L : List (Int × Int)) : ∀ x ∈ L, (vv x).length = 2 := fun _ _ => rfl
theorem vv_flen (L : List (Int × Int)) : (L.flatMap vv).length = L.length * 2 := flat_len vv L (vv_len L)
theorem elem40 : Elem Try.prog 40 2 16 := Elem.of (v := .agg #[.int .i64 0, .int .i64 0]) (by kernel_rfl) rfl (by decide)

/-- A list of values under way: new since w0. -/
def Vl (w0 : World) (R : List (Int × Int)) (a : Option Addr) (n c : Nat) (w : World) : Prop := n = R.length ∧ Own w 40 2 a n c (R.flatMap vv) ∧ Since w0 (fp a)
theorem Vl.nil (w0 w : World) : Vl w0 [] none 0 0 w := ⟨rfl, Own.nil, by intro y hy; simp [fp] at hy⟩
theorem Vl.mod {w0 w w' : World} {R : List (Int × Int)} {a : Option Addr} {n c : Nat} {T : List Nat} (h : Vl w0 R a n c w) (m : Mod T w w') (hd : ∀ y ∈ fp a, y ∉ T) : Vl w0 R a n c w' := ⟨h.1, h.2.1.mod m hd, h.2.2⟩
theorem Vl.add {w0 w w1 : World} {R : List (Int × Int)} {a : Option Addr} {n c : Nat} (h : Vl w0 R a n c w) (h0 : w0.heap.size ≤ w.heap.size) (hn : n ≤ 100000) (m1 : Mod [] w w1) (x : Int × Int) {q : Nat} (hq : Blk w1 q 40 [.int .i64 x.1, .int .i64 x.2]) :
    ∃ a' c' w', (Builtin.append_ #[26, 26] 26 #[.slice a n c, .slice (some (base q)) 1 1]).run Try.prog w1 = .ok (.slice a' (n + 1) c') w' ∧ Vl w0 (R ++ [x]) a' (n + 1) c' w' ∧ Mod (fp a) w1 w' := by
  obtain ⟨rfl, ho, hs⟩ := h
  obtain ⟨a', c', w', run, o2, m2, f2⟩ := append_own (d := 1) Try.underlying26 elem40 26 (ho.mod m1 (by simp)) (Rd.blk hq) (m := 1) rfl (by simp [one]) (by omega) (by omega)
  refine ⟨a', c', w', run, ⟨by simp, by rw [List.flatMap_append]; simpa [vv] using o2, fun y hy => ?_⟩, m2⟩
  rcases f2 with f | f <;> rw [f] at hy
  · exact hs y hy
  · have := m1.size; simp at hy; omega

def GivesV (w : World) (R : List (Int × Int)) (v : Value) (w' : World) : Prop := ∃ a c, v = .slice a R.length c ∧ Rd w' a (R.flatMap vv) ∧ Mod [] w w' ∧ Since w (fp a)
theorem vals_take (L : List Pd) {i : Nat} (h : i < L.length) : vals (L.take (i + 1)) = vals (L.take i) ++ [(L[i].1, L[i].2.2.2)] := by
  unfold vals
  rw [List.take_succ_eq_append_getElem h, List.map_append]
  rfl

theorem values_ok {w : World} {g : Nat} {S : List Nat} {L : List Pd} (h : Po w g S L) (hg : Good L) : Does Try.prog 17 #[.pointer (some (base g))] w (GivesV w (vals L)) := by
  apply w17
  unfold F17
  refine (usable_ok h).mono ?_
  rintro _ _ ⟨rfl, rfl⟩
  refine ⟨_, rfl, ?_⟩
  rw [if_neg (by simp)]
  obtain ⟨a, c, b, d, rfl, hb, oa, ob⟩ := h
  have hgl := hg.len
  refine ⟨_, rfl, _, _, _, by rw [add_add]; exact hb.cell (i := 2) rfl, ?_⟩
  refine LoopP.of (fun (x : Option Addr × Nat × Nat × Int) w' => ∃ (i : Nat) (o : Option Addr) (n e : Nat), i ≤ L.length ∧ x = (o, n, e, (i : Int)) ∧ Vl w (vals (L.take i)) o n e w' ∧ Mod [] w w') (fun x _ => L.length - x.2.2.2.toNat) ⟨0, _, _, _, by omega, rfl, Vl.nil _ _, Mod.refl _⟩ ?_
  rintro _ w1 ⟨i, o, n, e, hi, rfl, V, m1⟩
  unfold F17_b1
  dsimp only
  refine iteI (fun hlt => ?_) (fun hlt => ?_)
  · have hlt : i < L.length := by omega
    obtain ⟨p, rfl, hc⟩ := (ob.rd.mod m1 (by simp)).flat (pv_len _) (by decide) hlt
    refine ⟨p, rfl, by omega, by omega, _, _, _, _, ⟨by simpa [add_zero] using hc 0 _ rfl, hc 1 _ rfl, hc 2 _ rfl, hc 3 _ rfl, trivial⟩, ?_⟩
    refine New.put rfl fun w2 h2 m2 z2 => ?_
    refine ⟨_, h2.cell0, _, h2.cell (i := 3) rfl, ?_⟩
    refine New.use fun w3 h3 m3 z3 => ?_
    have hn : n = i := by rw [V.1, vals_len, List.length_take]; omega
    obtain ⟨a', c', w4, run, V', m4⟩ := V.add m1.size (by omega) (m2.none m3) (L[i].1, L[i].2.2.2) h3
    rw [← vals_take L hlt] at V'
    refine ⟨a', _, c', w4, run, ?_⟩
    have e1 : IntKind.i64.wrap ((i : Int) + 1) = ((i + 1 : Nat) : Int) := by rw [wi64 (by omega)]; omega
    rw [e1]
    exact ⟨_, by omega, ⟨i + 1, a', _, c', by omega, rfl, V', ((m1.none m2).none m3).since m4 V.2.2⟩, rfl⟩
  · have hiL : i = L.length := by omega
    subst hiL
    rw [List.take_length] at V
    obtain ⟨hn, ho, hs⟩ := V
    subst hn
    exact ⟨o, e, rfl, ho.rd, m1, hs⟩

theorem clone_ok {w : World} {g : Nat} {S : List Nat} {L : List Pd} (h : Po w g S L) (hg : Good L) : Does Try.prog 22 #[.pointer (some (base g))] w fun v w' => ∃ g' S', v = .pointer (some (base g')) ∧ Po w' g' S' L ∧ Mod [] w w' ∧ Since w S' := by
  apply w22
  unfold F22
  refine (usable_ok h).mono ?_
  rintro _ _ ⟨rfl, rfl⟩
  refine ⟨_, rfl, ?_⟩
  rw [if_neg (by simp)]
  obtain ⟨a, c, b, d, rfl, hb, oa, ob⟩ := h
  have hgl := hg.len
  refine ⟨_, rfl, ?_⟩
  have q : Does Try.prog 42 #[.pointer (some ((base g).add 1))] w fun v w' => ∃ a' c' b' d', v = .agg #[.slice a' L.length c', .slice b' L.length d'] ∧ Own w' 3 1 a' L.length c' ((ids L).map iv) ∧ Own w' 43 4 b' L.length d' (L.flatMap pv) ∧ Mod [] w w' ∧ Since w (fp a') ∧ Since w (fp b') := by
    apply w42
    unfold F42
    refine New.use fun w1 h1 m1 z1 => ?_
    have md : Mod [] w w1.drew := m1.none (Mod.drew w1)
    have h1' : Blk w1.drew _ _ _ := h1.drew
    have hb1 := hb.mod md (by simp)
    refine ⟨_, rfl, _, _, _, hb1.cell (i := 1) rfl, _, _, _, by rw [add_add]; exact hb1.cell (i := 2) rfl, ?_⟩
    refine (clone_int c (oa.rd.mod md (by simp)) (by simp [ids]) (iv_one _) (by omega)).mono ?_
    rintro _ w2 ⟨a2, c2, rfl, o2, m2, f2⟩
    have M2 := md.none m2
    refine ⟨_, _, _, rfl, by rw [add_add]; exact (hb1.mod m2 (by simp)).cell (i := 2) rfl, ?_⟩
    refine (clone_apiParamDef d (ob.rd.mod M2 (by simp)) (pv_flen _) (pv_one _) (by omega)).mono ?_
    rintro _ w3 ⟨b3, d3, rfl, o3, m3, f3⟩
    have M3 := M2.none m3
    have h3 := (h1'.mod m2 (by simp)).mod m3 (by simp)
    have e1 : w1.drew.heap.size = w1.heap.size := rfl
    have z2 := M2.size
    refine ⟨_, _, _, rfl, PutAll.use h3 rfl fun w4 h4 m4 => ⟨_, _, _, _, _, _, h4.cells, _, _, _, _, rfl, ?_, ?_, M3.trans m4 (fun y hy => .inr (by simp at hy; omega)), ?_, ?_⟩⟩
    · exact (o2.mod m3 (by simp)).mod m4 (fun y hy hy' => by have := f2 y hy; simp at hy'; omega)
    · exact o3.mod m4 (fun y hy hy' => by have := f3 y hy; have := M2.size; have := m2.size; simp at hy'; omega)
    · intro y hy; have := f2 y hy; omega
    · intro y hy; have := f3 y hy; omega
  refine q.mono ?_
  rintro _ w1 ⟨a', c', b', d', rfl, o1, o2, m1, s1, s2⟩
  refine ⟨_, _, _, _, _, _, rfl, New.use fun w2 h2 m2 z2 => ?_⟩
  have z1 := m1.size
  refine ⟨w1.heap.size, _, rfl, ⟨a', c', b', d', rfl, h2, o1.mod m2 (by simp), o2.mod m2 (by simp)⟩, m1.none m2, fun y hy => ?_⟩
  rcases List.mem_cons.1 hy with rfl | hy
  · exact z1
  · rcases List.mem_append.1 hy with h | h
    · exact s1 y h
    · exact s2 y h

/-! ### choose -/
def pz : Pd := (0, 0, false, 0)
def has (L : List Pd) (id : Int) : Bool := decide (fidx (isId id) L < L.length)
def pick (L : List Pd) (id : Int) : Pd := L.getD (fidx (isId id) L) pz
def chooseE (L : List Pd) (X : List Int) : Int := if 256 < X.length then 6 else if X.all (has L) then 0 else 8
theorem has_lt {L : List Pd} {id : Int} (h : has L id = true) : fidx (isId id) L < L.length := by unfold has at h; exact of_decide_eq_true h
theorem pick_at {L : List Pd} {id : Int} (h : has L id = true) : pick L id = L[fidx (isId id) L]'(has_lt h) := by
  unfold pick
  rw [List.getD_eq_getElem?_getD, List.getElem?_eq_getElem (has_lt h)]
  rfl
theorem chooseE_bad {L : List Pd} {X : List Int} (h : ¬ 256 < X.length) {i : Nat} (hi : i < X.length) (hb : has L X[i] = false) : chooseE L X = 8 := by
  unfold chooseE
  rw [if_neg h, if_neg]
  intro h2
  have := List.all_eq_true.1 h2 _ (List.getElem_mem hi)
  rw [hb] at this
  cases this
theorem chooseE_ok {L : List Pd} {X : List Int} (h : ¬ 256 < X.length) (hb : ∀ i (hi : i < X.length), has L X[i] = true) : chooseE L X = 0 := by
  unfold chooseE
  rw [if_neg h, if_pos]
  rw [List.all_eq_true]
  intro x hx
  obtain ⟨i, hi, rfl⟩ := List.getElem_of_mem hx
  exact hb i hi
theorem chooseE_len {L : List Pd} {X : List Int} (h : chooseE L X = 0) : X.length ≤ 256 := by
  unfold chooseE at h
  split at h
  · cases h
  · omega
theorem chooseE_all {L : List Pd} {X : List Int} (h : chooseE L X = 0) {i : Nat} (hi : i < X.length) : has L X[i] = true := by
  unfold chooseE at h
  split at h
  · cases h
  · split at h
    · rename_i h2; exact List.all_eq_true.1 h2 _ (List.getElem_mem hi)
    · cases h
def GivesD (w : World) (L : List Pd) (X : List Int) (v : Value) (w' : World) : Prop :=
  Mod [] w w' ∧ ((chooseE L X ≠ 0 ∧ v = .tuple #[.slice none 0 0, .int .i64 (chooseE L X)]) ∨ (chooseE L X = 0 ∧ ∃ a c, v = .tuple #[.slice a X.length c, .int .i64 0] ∧ Rd w' a ((X.map (pick L)).flatMap pv) ∧ Since w (fp a)))
theorem choose_ok {w : World} {g : Nat} {S : List Nat} {L : List Pd} (h : Po w g S L) (hg : Good L) {ax : Option Addr} {X : List Int} (cx : Nat) (hx : Rd w ax (X.map iv)) : Does Try.prog 25 #[.pointer (some (base g)), .slice ax X.length cx] w (GivesD w L X) := by
  apply w25
  unfold F25
  refine (usable_ok h).mono ?_
  rintro _ _ ⟨rfl, rfl⟩
  refine ⟨_, rfl, ?_⟩
  rw [if_neg (by simp)]
  refine iteI (fun hl => ?_) (fun hl => ?_)
  · have e : chooseE L X = 6 := by unfold chooseE; rw [if_pos (by omega)]
    exact ⟨Mod.refl _, .inl (by rw [e]; exact ⟨by decide, rfl⟩)⟩
  have hgl := hg.len
  refine LoopP.of (fun (x : Option Addr × Nat × Nat × Int) w' => ∃ (i : Nat) (o : Option Addr) (e : Nat), i ≤ X.length ∧ x = (o, i, e, (i : Int)) ∧ Own w' 43 4 o i e (((X.take i).map (pick L)).flatMap pv) ∧ Since w (fp o) ∧ (∀ j (hj : j < i) (hjl : j < X.length), has L X[j] = true) ∧ Mod [] w w') (fun x _ => X.length - x.2.2.2.toNat) ⟨0, _, _, by omega, rfl, by simpa using Own.nil, by intro y hy; simp [fp] at hy, by omega, Mod.refl _⟩ ?_
  rintro _ w1 ⟨i, o, e, hi, rfl, ho, so, hb, m1⟩
  unfold F25_b1
  dsimp only
  refine iteI (fun hlt => ?_) (fun hlt => ?_)
  · have hlt : i < X.length := by omega
    obtain ⟨p, rfl, hc⟩ := rd_get (hx.mod m1 (by simp)) hlt
    refine ⟨p, rfl, by omega, by omega, _, hc, ?_⟩
    refine (def_ok (h.mod m1 (by simp)) hg X[i]).mono ?_
    rintro _ _ ⟨rfl, ⟨hf, b, d, q, rfl, rfl, a, c, rfl, hbk, oa, ob⟩ | ⟨hf, rfl⟩⟩
    · refine ⟨_, _, rfl, ?_⟩
      rw [if_neg (by simp)]
      have hh : has L X[i] = true := decide_eq_true hf
      obtain ⟨q', hq', hcc⟩ := ob.rd.flat (pv_len _) (by decide) hf
      cases hq'
      refine ⟨_, rfl, _, _, _, _, ⟨by simpa [add_zero] using hcc 0 _ rfl, hcc 1 _ rfl, hcc 2 _ rfl, hcc 3 _ rfl, trivial⟩, ?_⟩
      refine New.use fun w2 h2 m2 z2 => ?_
      obtain ⟨o', e', w3, run, o3, m3, f3⟩ := append_own (d := 1) Try.underlying22 elem43 22 (ho.mod m2 (by simp)) (Rd.blk h2) (m := 1) rfl (by intro u hu; simp at hu; rcases hu with rfl | rfl | rfl | rfl <;> rfl) (by omega) (by omega)
      refine ⟨o', _, e', w3, run, ?_⟩
      have e1 : IntKind.i64.wrap ((i : Int) + 1) = ((i + 1 : Nat) : Int) := by rw [wi64 (by omega)]; omega
      rw [e1]
      refine ⟨_, by omega, ⟨i + 1, o', e', by omega, rfl, ?_, ?_, ?_, (m1.none m2).since m3 so⟩, rfl⟩
      · rw [List.take_succ_eq_append_getElem hlt, List.map_append, List.flatMap_append, List.map_singleton, pick_at hh]
        simpa [pv] using o3
      · intro y hy
        rcases f3 with f | f <;> rw [f] at hy
        · exact so y hy
        · have := m1.size; simp at hy; omega
      · intro j hj hjl
        by_cases hji : j = i
        · subst hji; exact hh
        · exact hb j (by omega) hjl
    · refine ⟨_, _, rfl, ?_⟩
      rw [if_pos (by simp)]
      have e8 := chooseE_bad (L := L) (by omega) hlt (decide_eq_false hf)
      exact ⟨m1, .inl (by rw [e8]; exact ⟨by decide, rfl⟩)⟩
  · have hiX : i = X.length := by omega
    subst hiX
    rw [List.take_length] at ho
    exact ⟨m1, .inr ⟨chooseE_ok (by omega) (fun j hj => hb j hj hj), o, e, rfl, ho.rd, so⟩⟩
theorem pick_good {L : List Pd} (hg : Good L) {id : Int} (h : has L id = true) : wOk (pick L id) ∧ inR (pick L id) (pick L id).2.2.2 = true ∧ (pick L id).1 = id ∧ pick L id ∈ L := by
  rw [pick_at h]
  have hlt : fidx (isId id) L < L.length := has_lt h
  obtain ⟨_, _, h3, h4⟩ := hg.ok _ hlt
  have := fidx_here (isId id) L hlt
  exact ⟨h3, h4, by simpa [isId] using this, List.getElem_mem _⟩
end Go.Proofs.Ytcdnljibefpchaa
