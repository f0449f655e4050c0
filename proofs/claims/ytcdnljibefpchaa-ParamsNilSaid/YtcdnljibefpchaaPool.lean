/-
  The contracts of chapter 33: the pool; New, def, Get, Set.
-/
import Derived.Test.YtcdnljibefpchaaRange
namespace Go.Proofs.Ytcdnljibefpchaa
open Go Go.Sh Go.Proofs
set_option linter.unusedVariables false
set_option linter.unusedSimpArgs false

theorem elem3 : Elem Try.prog 3 1 8 := Elem.of (v := .int .i64 0) (by kernel_rfl) rfl (by decide)
theorem elem43 : Elem Try.prog 43 4 32 := Elem.of (v := .agg #[.int .i64 0, .int .i64 0, .bool false, .int .i64 0]) (by kernel_rfl) rfl (by decide)
theorem own_apart {w : World} {e e' : TypeId} {z z' n m c d : Nat} {a b : Option Addr} {vs us : List Value} (h : Own w e z a n c vs) (h' : Own w e' z' b m d us) (hne : e ≠ e') : ∀ y ∈ fp a, y ∉ fp b := by
  rcases h.2 with ⟨rfl, _⟩ | ⟨g, r, rfl, hb, _⟩
  · simp [fp]
  · intro y hy
    simp [fp, base] at hy
    subst hy
    exact h'.ne hb (Ne.symm hne)

def ids (L : List Pd) : List Int := L.map (·.1)
theorem ids_len (L : List Pd) : (ids L).length = L.length := by simp [ids]
/-- The pool in block g. -/
def Po (w : World) (g : Nat) (S : List Nat) (L : List Pd) : Prop :=
  ∃ a c b d, S = g :: (fp a ++ fp b) ∧ Blk w g 64 [.bool true, .slice a L.length c, .slice b L.length d] ∧ Own w 3 1 a L.length c ((ids L).map iv) ∧ Own w 43 4 b L.length d (L.flatMap pv)
theorem Po.mod {w w' : World} {g : Nat} {S T : List Nat} {L : List Pd} (h : Po w g S L) (hm : Mod T w w') (hd : ∀ x ∈ S, x ∉ T) : Po w' g S L := by
  obtain ⟨a, c, b, d, rfl, hb, oa, ob⟩ := h
  exact ⟨a, c, b, d, rfl, hb.mod hm (hd g (by simp)), oa.mod hm (fun x hx => hd x (by simp [hx])), ob.mod hm (fun x hx => hd x (by simp [hx]))⟩
theorem Po.lt {w : World} {g : Nat} {S : List Nat} {L : List Pd} (h : Po w g S L) : ∀ x ∈ S, x < w.heap.size := by
  obtain ⟨a, c, b, d, rfl, hb, oa, ob⟩ := h
  intro x hx
  rcases List.mem_cons.1 hx with rfl | hx
  · exact hb.lt
  · rcases List.mem_append.1 hx with hx | hx
    · exact oa.lt x hx
    · exact ob.lt x hx

theorem append_ok {w : World} {g : Nat} {S : List Nat} {L : List Pd} (h : Po w g S L) (hL : L.length ≤ 1000) (x : Pd) : Does Try.prog 35 #[.pointer (some ((base g).add 1)), .int .i64 x.1, pval x] w fun v w' => v = .tuple #[] ∧ ∃ S', Po w' g S' (L ++ [x]) ∧ Mod S w w' ∧ ∀ y ∈ S', y ∈ S ∨ w.heap.size ≤ y := by
  obtain ⟨a, c, b, d, rfl, hb, oa, ob⟩ := h
  have hga := oa.ne hb (by decide)
  have hgb := ob.ne hb (by decide)
  have hab := own_apart oa ob (by decide)
  have apI : ∀ w1, Mod [] w w1 → ∀ q, Blk w1 q 3 [.int .i64 x.1] → ∃ a' c' w2, (Builtin.append_ #[23, 23] 23 #[.slice a L.length c, .slice (some (base q)) 1 1]).run Try.prog w1 = .ok (.slice a' (L.length + 1) c') w2 ∧ Own w2 3 1 a' (L.length + 1) c' ((ids (L ++ [x])).map iv) ∧ Mod (fp a) w1 w2 ∧ ∀ y ∈ fp a', y ∈ fp a ∨ w.heap.size ≤ y := by
    intro w1 m1 q hq
    obtain ⟨a', c', w2, run, o2, m2, f2⟩ := append_own (d := 1) Try.underlying23 elem3 23 (oa.mod m1 (by simp)) (Rd.blk hq) (m := 1) rfl (by simp [one]) (by omega) (by omega)
    refine ⟨a', c', w2, run, by simpa [ids, iv] using o2, m2, fun y hy => ?_⟩
    rcases f2 with f | f <;> rw [f] at hy
    · exact .inl hy
    · right; have := m1.size; simp at hy; omega
  have apD : ∀ w2, Mod (fp a) w w2 → ∀ q, Blk w2 q 43 (pv x) → ∃ b' d' w3, (Builtin.append_ #[22, 22] 22 #[.slice b L.length d, .slice (some (base q)) 1 1]).run Try.prog w2 = .ok (.slice b' (L.length + 1) d') w3 ∧ ∀ (a' : Option Addr) (c' : Nat) (k : World → Prop), Own w2 3 1 a' (L.length + 1) c' ((ids (L ++ [x])).map iv) → (∀ y ∈ fp a', y ∈ fp a ∨ w.heap.size ≤ y) →
      (∀ w5 S', Po w5 g S' (L ++ [x]) → Mod (g :: (fp a ++ fp b)) w w5 → (∀ y ∈ S', y ∈ g :: (fp a ++ fp b) ∨ w.heap.size ≤ y) → k w5) → Put w3 ((base g).add 1) (.slice a' (L.length + 1) c') (fun w4 => Put w4 (((base g).add 1).add 1) (.slice b' (L.length + 1) d') k) := by
    intro w2 m2 q hq
    have ob2 := ob.mod m2 (fun y hy hy' => hab y hy' hy)
    obtain ⟨b', d', w3, run, o3, m3, f3⟩ := append_own (d := 1) Try.underlying22 elem43 22 ob2 (Rd.blk hq) (m := 1) rfl (by intro u hu; simp [pv] at hu; rcases hu with rfl | rfl | rfl | rfl <;> rfl) (by omega) (by omega)
    refine ⟨b', d', w3, run, fun a' c' k o2 f2 hk => ?_⟩
    have o3' : Own w3 43 4 b' (L.length + 1) d' ((L ++ [x]).flatMap pv) := by rw [List.flatMap_append]; simpa using o3
    have oa3 := o2.mod m3 (fun y hy hy' => own_apart o2 ob2 (by decide) y hy hy')
    have hb2 := hb.mod m2 hga
    have hb3 := hb2.mod m3 (ob2.ne hb2 (by decide))
    have z2 := m2.size
    refine Put.use hb3 (by simp) fun w4 h4 m4 => ?_
    rw [add_add]
    refine Put.use h4 (by simp) fun w5 h5 m5 => ?_
    have na := oa3.ne hb3 (by decide)
    have nb := o3'.ne hb3 (by decide)
    refine hk w5 (g :: (fp a' ++ fp b')) ⟨a', c', b', d', rfl, by simpa using h5, ?_, ?_⟩ ?_ ?_
    · rw [show (L ++ [x]).length = L.length + 1 by simp]
      exact (oa3.mod m4 (fun y hy hy' => by simp at hy'; subst hy'; exact na hy)).mod m5 (fun y hy hy' => by simp at hy'; subst hy'; exact na hy)
    · rw [show (L ++ [x]).length = L.length + 1 by simp]
      exact (o3'.mod m4 (fun y hy hy' => by simp at hy'; subst hy'; exact nb hy)).mod m5 (fun y hy hy' => by simp at hy'; subst hy'; exact nb hy)
    · exact (((m2.weaken (fun y hy => .inl (by simp [hy]))).trans m3 (fun y hy => .inl (by simp [hy]))).trans m4 (fun y hy => .inl (by simp at hy; simp [hy]))).trans m5 (fun y hy => .inl (by simp at hy; simp [hy]))
    · intro y hy
      rcases List.mem_cons.1 hy with rfl | hy
      · left; simp
      · rcases List.mem_append.1 hy with hy | hy
        · rcases f2 y hy with h | h
          · left; simp [h]
          · right; exact h
        · rcases f3 with f | f <;> rw [f] at hy
          · left; simp [hy]
          · right; simp at hy; omega
  apply w35
  unfold F35
  refine New.use fun w1 h1 m1 z1 => ?_
  have md : Mod [] w w1.drew := m1.none (Mod.drew w1)
  have hb1 := hb.mod md (by simp)
  have h1' : Blk w1.drew _ _ _ := h1.drew
  refine ⟨_, rfl, _, _, _, hb1.cell (i := 1) rfl, _, _, _, by rw [add_add]; exact hb1.cell (i := 2) rfl, _, _, _, _, h1'.cells, ?_⟩
  have put := fun (w5 : World) (S' : List Nat) (p : Po w5 g S' (L ++ [x])) (m : Mod (g :: (fp a ++ fp b)) w w5) (f : ∀ y ∈ S', y ∈ g :: (fp a ++ fp b) ∨ w.heap.size ≤ y) => (show Value.tuple #[] = .tuple #[] ∧ ∃ S', Po w5 g S' (L ++ [x]) ∧ Mod (g :: (fp a ++ fp b)) w w5 ∧ ∀ y ∈ S', y ∈ g :: (fp a ++ fp b) ∨ w.heap.size ≤ y from ⟨rfl, S', p, m, f⟩)
  have cc : ∀ {w' : World}, Mod [] w w' → w'.cell? ((base g).add 1) = some (.slice a L.length c) ∧ w'.cell? (((base g).add 1).add 1) = some (.slice b L.length d) := fun m => ⟨(hb.mod m (by simp)).cell (i := 1) rfl, by rw [add_add]; exact (hb.mod m (by simp)).cell (i := 2) rfl⟩
  have cb : ∀ {w' : World}, Mod (fp a) w w' → w'.cell? ((base g).add 1) = some (.slice a L.length c) ∧ w'.cell? (((base g).add 1).add 1) = some (.slice b L.length d) := fun m => ⟨(hb.mod m hga).cell (i := 1) rfl, by rw [add_add]; exact (hb.mod m hga).cell (i := 2) rfl⟩
  have hl1 := h1'.lt
  have n1 : w.heap.size ∉ fp a := fun hh => by have := oa.lt _ hh; omega
  refine ⟨?_, ?_⟩
  · refine New.use fun w2 h2 m2 z2 => ?_
    have M2 := md.none m2
    have h12 := h1'.mod m2 (by simp)
    refine ⟨(cc M2).1, (cc M2).2, h12.cells, ?_, ?_⟩
    · obtain ⟨a', c', w3, run, o3, m3, f3⟩ := apI w2 M2 _ h2
      have M3 : Mod (fp a) w w3 := (M2.weaken (by simp)).trans m3 (fun y hy => .inl hy)
      refine ⟨a', _, c', w3, run, (cb M3).2, (h12.mod m3 n1).cells, ?_⟩
      refine New.use fun w4 h4 m4 z4 => ?_
      obtain ⟨b', d', w5, run5, st⟩ := apD w4 (M3.none m4) _ h4
      exact ⟨(cb (M3.none m4)).1, (cb (M3.none m4)).2, b', _, d', w5, run5, st a' c' _ (o3.mod m4 (by simp)) f3 put⟩
    · refine New.use fun w4 h4 m4 z4 => ?_
      have M4 := M2.none m4
      obtain ⟨a', c', w3, run, o3, m3, f3⟩ := apI w4 M4 _ (h2.mod m4 (by simp))
      have M3 : Mod (fp a) w w3 := (M4.weaken (by simp)).trans m3 (fun y hy => .inl hy)
      have nd : w2.heap.size ∉ fp a := fun hh => by have := oa.lt _ hh; have := M2.size; omega
      obtain ⟨b', d', w5, run5, st⟩ := apD w3 M3 _ (h4.mod m3 nd)
      exact ⟨(cc M4).1, (cc M4).2, a', _, c', w3, run, (cb M3).2, ((h12.mod m4 (by simp)).mod m3 n1).cells, b', _, d', w5, run5, st a' c' _ o3 f3 put⟩
  · refine New.use fun w2 h2 m2 z2 => ?_
    have M2 := md.none m2
    have h12 := h1'.mod m2 (by simp)
    refine ⟨(cc M2).1, (cc M2).2, ?_⟩
    refine New.use fun w4 h4 m4 z4 => ?_
    have M4 := M2.none m4
    obtain ⟨a', c', w3, run, o3, m3, f3⟩ := apI w4 M4 _ h4
    have M3 : Mod (fp a) w w3 := (M4.weaken (by simp)).trans m3 (fun y hy => .inl hy)
    have nd : w1.drew.heap.size ∉ fp a := fun hh => by have := oa.lt _ hh; have := md.size; omega
    obtain ⟨b', d', w5, run5, st⟩ := apD w3 M3 _ ((h2.mod m4 (by simp)).mod m3 nd)
    exact ⟨(cc M4).1, (cc M4).2, (h12.mod m4 (by simp)).cells, a', _, c', w3, run, (cb M3).2, ((h12.mod m4 (by simp)).mod m3 n1).cells, b', _, d', w5, run5, st a' c' _ o3 f3 put⟩

theorem okAt_take {L : List Pd} {i : Nat} (hi : i < L.length) : (L.take (i + 1)) = L.take i ++ [L[i]] := List.take_succ_eq_append_getElem hi
/-- What New returns. -/
def Made (w : World) (L : List Pd) (v : Value) (w' : World) : Prop :=
  ∃ p e, v = .tuple #[.pointer p, .int .i64 e] ∧ ErrL L e ∧ Mod [] w w' ∧ (e ≠ 0 → p = none) ∧ (e = 0 → ∃ g S, p = some (base g) ∧ Po w' g S L ∧ Since w S)
theorem new_ok {w : World} {a : Option Addr} {L : List Pd} (c : Nat) (hr : Rd w a (L.flatMap pv)) : Does Try.prog 13 #[.slice a L.length c] w (Made w L) := by
  apply w13
  unfold F13
  refine iteI (fun hl => ⟨_, _, rfl, .inr (.inl ⟨rfl, by omega⟩), Mod.refl _, fun _ => rfl, fun h => by cases h⟩) (fun hl => ?_)
  refine New.use fun w0 h0 m0 z0 => ?_
  refine LoopP.of (fun (x : Int) w' => ∃ (i : Nat) (S : List Nat), i ≤ L.length ∧ x = (i : Int) ∧ (∀ j, j < i → okAt L j) ∧ Mod [] w w' ∧ Po w' w.heap.size S (L.take i) ∧ Since w S) (fun x _ => L.length - x.toNat) ⟨0, [w.heap.size], by omega, rfl, by omega, m0, ⟨none, 0, none, 0, by simp [fp], by simpa using h0, by simpa [ids] using Own.nil, by simpa using Own.nil⟩, by intro y hy; simp at hy; omega⟩ ?_
  rintro _ w1 ⟨i, S, hi, rfl, hb, m1, P, sS⟩
  unfold F13_b1
  refine iteI (fun hlt => ?_) (fun hlt => ?_)
  · have hlt : i < L.length := by omega
    have hr1 := hr.mod m1 (by simp)
    obtain ⟨p, rfl, hcc⟩ := hr1.flat (pv_len _) (by decide) hlt
    refine ⟨p, rfl, by omega, by omega, _, _, _, _, ⟨by simpa [add_zero] using hcc 0 _ rfl, hcc 1 _ rfl, hcc 2 _ rfl, hcc 3 _ rfl, trivial⟩, ?_⟩
    refine New.put rfl fun w2 h2 m2 z2 => ?_
    have M2 := m1.none m2
    have b2 : Blk w2.drew _ _ _ := h2.drew
    have md : Mod [] w w2.drew := M2.none (Mod.drew w2)
    have md1 : Mod [] w1 w2.drew := m2.none (Mod.drew w2)
    have z1 := m1.size
    have P2 := P.mod md1 (by simp)
    have Plt := P.lt
    have bad : ∀ {w' : World} {nx : Int → World → Prop}, Mod [] w w' → ¬ okAt L i → F13_j2 (base w1.heap.size) (base w.heap.size) (i : Int) true w' (Made w L) nx := fun m h => by
      unfold F13_j2
      rw [if_pos rfl]
      exact ⟨_, _, rfl, .inr (.inr ⟨rfl, by omega, fun g => h (g.ok i)⟩), m, fun _ => rfl, fun h => by cases h⟩
    generalize hnx : (fun x0 w' => ∃ m, m < L.length - (i : Int).toNat ∧ ((∃ (i : Nat) (S : List Nat), i ≤ L.length ∧ x0 = (i : Int) ∧ (∀ j, j < i → okAt L j) ∧ Mod [] w w' ∧ Po w' w.heap.size S (L.take i) ∧ Since w S) ∧ L.length - x0.toNat = m)) = nx
    have rest : (∀ h0 : 0 < i, L[i - 1].1 < L[i].1) → (0 ≤ L[i].1 ∧ L[i].1 ≤ 65535) → ∃ (x39 : Int), w2.drew.cell? ((base w1.heap.size).add 1) = some (.int .i64 x39) ∧ if x39 < 1 then F13_j2 (base w1.heap.size) (base w.heap.size) (i : Int) true w2.drew (Made w L) nx else ∃ (x42 : Int), w2.drew.cell? ((base w1.heap.size).add 1) = some (.int .i64 x42) ∧ if 32 < x42 then F13_j2 (base w1.heap.size) (base w.heap.size) (i : Int) true w2.drew (Made w L) nx else
        ∃ (x45 x46 : Int) (x47 : Bool) (x48 : Int), Cells w2.drew (base w1.heap.size) 0 [.int .i64 x45, .int .i64 x46, .bool x47, .int .i64 x48] ∧ ∃ (x50 : Int), w2.drew.cell? ((base w1.heap.size).add 3) = some (.int .i64 x50) ∧ Does Try.prog 34 #[.agg #[.int .i64 x45, .int .i64 x46, .bool x47, .int .i64 x48], .int .i64 x50] w2.drew (fun v w52 => ∃ (x53 : Bool), v = .bool x53 ∧ F13_j2 (base w1.heap.size) (base w.heap.size) (i : Int) (!x53) w52 (Made w L) nx) := by
      intro hs hid
      refine ⟨_, b2.cell (i := 1) rfl, iteI (fun h => bad md fun g => by have := (g hlt).2.2.1.1; omega) (fun h3 => ?_)⟩
      refine ⟨_, b2.cell (i := 1) rfl, iteI (fun h => bad md fun g => by have := (g hlt).2.2.1.2; omega) (fun h4 => ?_)⟩
      refine ⟨_, _, _, _, b2.cells, _, b2.cell (i := 3) rfl, ?_⟩
      have hw : wOk L[i] := ⟨by omega, by omega⟩
      refine (inRange_ok hw L[i].2.2.2 w2.drew).mono ?_
      rintro _ w3 ⟨rfl, m3⟩
      refine ⟨_, rfl, ?_⟩
      cases hin : inR L[i] L[i].2.2.2 with
      | false => exact bad (md.none m3) (fun g => by have := (g hlt).2.2.2; rw [hin] at this; cases this)
      | true =>
        unfold F13_j2
        rw [if_neg (by simp)]
        have b3 : Blk w3.drew _ _ _ := (b2.mod m3 (by simp)).drew
        have md3 : Mod [] w w3.drew := (md.none m3).none (Mod.drew w3)
        have P3 := P2.mod (m3.none (Mod.drew w3)) (by simp)
        refine ⟨_, b3.cell0, _, _, _, _, b3.cells, ?_⟩
        refine (append_ok P3 (by simp; omega) L[i]).mono ?_
        rintro _ w4 ⟨rfl, S', P4, m4, f4⟩
        refine ⟨rfl, ?_⟩
        rw [← okAt_take hlt] at P4
        rw [← hnx]
        have e1 : IntKind.i64.wrap ((i : Int) + 1) = ((i + 1 : Nat) : Int) := by rw [wi64 (by omega)]; omega
        rw [e1]
        refine ⟨_, by omega, ⟨i + 1, S', by omega, rfl, fun j hj => ?_, md3.since m4 sS, P4, sS.step md3.size f4⟩, rfl⟩
        by_cases hji : j = i
        · subst hji
          exact fun _ => ⟨hid, hs, hw, hin⟩
        · exact hb j (by omega)
    refine ⟨_, b2.cell0, iteI (fun h => bad md fun g => by have := (g hlt).1; omega) (fun h1 => ?_)⟩
    refine ⟨_, b2.cell0, iteI (fun h => bad md fun g => by have := (g hlt).1; omega) (fun h2' => ?_)⟩
    refine iteI (fun h0 => ?_) (fun h0 => rest (fun h => by omega) ⟨by omega, by omega⟩)
    have hi1 : IntKind.i64.wrap ((i : Int) - 1) = ((i - 1 : Nat) : Int) := by rw [wi64 (by omega)]; omega
    rw [hi1]
    obtain ⟨p', hp', hcc'⟩ := (hr.mod md (by simp)).flat (pv_len _) (by decide) (i := i - 1) (by omega)
    cases hp'
    refine ⟨by omega, by omega, _, by simpa [add_zero] using hcc' 0 _ rfl, _, b2.cell0, iteI (fun h => bad md fun g => by have := (g hlt).2.1 (by omega); omega) (fun h => rest (fun _ => by omega) ⟨by omega, by omega⟩)⟩
  · have hiL : i = L.length := by omega
    subst hiL
    rw [List.take_length] at P
    exact ⟨_, _, rfl, .inl ⟨rfl, by omega, fun j h => hb j (by omega) h⟩, m1, fun h => absurd rfl h, fun _ => ⟨_, S, rfl, P, sS⟩⟩
end Go.Proofs.Ytcdnljibefpchaa
