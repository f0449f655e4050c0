/-
  The contracts of chapter 34: the reference's service.
-/
import Derived.Test.YtcgkmmiokmbjdaaServ2
namespace Go.Proofs.Ytcgkmmiokmbjdaa
open Go Go.Sh Go.Proofs
set_option linter.unusedVariables false
set_option linter.unusedSimpArgs false
set_option linter.unusedSectionVars false

/-- How the elements of a list lie in cells. -/
structure Row (α : Type) where
  t : Nat
  e : Nat
  z : Nat
  bytes : Nat
  f : α → List Value
  ht : Try.prog.underlying t = some (.slice e)
  he : Elem Try.prog e z bytes
  hz : ∀ x, (f x).length = z
  h1 : ∀ x, ∀ u ∈ f x, one u = true
  hb : bytes ≤ 1000
abbrev rowI : Row Int := ⟨26, 3, 1, 8, fun n => [.int .i64 n], Try.underlying26, elem3, fun _ => rfl, by intro x u hu; simp at hu; subst hu; rfl, by decide⟩
abbrev rowL : Row En := ⟨28, 31, 4, 48, svv, Try.underlying28, elem31, fun _ => rfl, by intro x u hu; simp [svv] at hu; rcases hu with rfl | rfl | rfl | rfl <;> rfl, by decide⟩
section
variable {α : Type}
def Row.cells (R : Row α) (l : List α) : List Value := l.flatMap R.f
theorem Row.len (R : Row α) (l : List α) : (R.cells l).length = l.length * R.z := flat_len R.f l (fun x _ => R.hz x)
theorem Row.take (R : Row α) (l : List α) (k : Nat) : (R.cells l).take (k * R.z) = R.cells (l.take k) := flat_take R.f l (fun x _ => R.hz x) k
theorem Row.drop (R : Row α) (l : List α) (k : Nat) : (R.cells l).drop (k * R.z) = R.cells (l.drop k) := flat_drop R.f l (fun x _ => R.hz x) k
/-- A list that is made anew since w0. -/
structure Gr (R : Row α) (w0 w : World) (a : Option Addr) (n c : Nat) (l : List α) : Prop where
  len : n = l.length
  o : Own w R.e R.z a n c (R.cells l)
  s : Since w0 (fp a)
  m : Mod [] w0 w
theorem Gr.mod {R : Row α} {w0 w w' : World} {a : Option Addr} {n c : Nat} {l : List α} (h : Gr R w0 w a n c l) (m : Mod [] w w') : Gr R w0 w' a n c l := ⟨h.len, h.o.mod m (by simp), h.s, h.m.none m⟩
/-- Something else that is new was changed. -/
theorem Gr.other {R : Row α} {w0 w w' : World} {a : Option Addr} {n c : Nat} {l : List α} (h : Gr R w0 w a n c l) {M : List Nat} (m : Mod M w w') (hM : ∀ y ∈ M, w0.heap.size ≤ y ∧ y ∉ fp a) : Gr R w0 w' a n c l :=
  ⟨h.len, h.o.mod m (fun y hy hy' => (hM y hy').2 hy), h.s, h.m.trans m (fun y hy => .inr (hM y hy).1)⟩
theorem Gr.nil {R : Row α} {w0 w : World} (m : Mod [] w0 w) : Gr R w0 w none 0 0 [] := ⟨rfl, Own.nil, by intro y hy; simp [fp] at hy, m⟩
theorem Gr.start {R : Row α} {w0 w : World} {q : Nat} (hq : Blk w q R.e []) (m : Mod [] w0 w) (h0 : w0.heap.size ≤ q) : Gr R w0 w (some (base q)) 0 0 [] :=
  ⟨rfl, Own.blk hq (by simp [Row.cells]) (by decide), by intro y hy; simp [fp, base] at hy; omega, m⟩
theorem Gr.app {R : Row α} {w0 w : World} {a : Option Addr} {n c : Nat} {l : List α} (h : Gr R w0 w a n c l) {y : Option Addr} {k d : Nat} {m : List α} (hk : k = m.length) (hr : Rd w y (R.cells m)) (hl : n + k ≤ 100000) :
    ∃ a' n' c' w', (Builtin.append_ #[R.t, R.t] R.t #[.slice a n c, .slice y k d]).run Try.prog w = .ok (.slice a' n' c') w' ∧ Gr R w0 w' a' n' c' (l ++ m) ∧ Mod (fp a) w w' ∧ (∀ q ∈ fp a', q ∈ fp a ∨ w.heap.size ≤ q) := by
  subst hk
  have hb := R.hb
  have hbl : (n + m.length) * R.bytes ≤ 100000 * 1000 := Nat.mul_le_mul hl hb
  obtain ⟨a', c', w', run, o2, m2, f2⟩ := append_own (d := d) R.ht R.he R.t h.o hr (m := m.length) (R.len m) (flat_one R.f m R.h1) (by omega) (by omega)
  refine ⟨a', n + m.length, c', w', run, ⟨by rw [h.len, List.length_append], by unfold Row.cells at o2 ⊢; rw [List.flatMap_append]; exact o2, fun y hy => ?_, h.m.since m2 h.s⟩, m2, fun y hy => ?_⟩
  · rcases f2 with f | f <;> rw [f] at hy
    · exact h.s y hy
    · have := h.m.size; simp at hy; omega
  · rcases f2 with f | f <;> rw [f] at hy
    · exact .inl hy
    · simp at hy; right; omega
end
theorem own_apart {w : World} {e e' : TypeId} {z z' n m c d : Nat} {a b : Option Addr} {vs us : List Value} (h : Own w e z a n c vs) (h' : Own w e' z' b m d us) (hne : e ≠ e') : ∀ y ∈ fp a, y ∉ fp b := by
  rcases h.2 with ⟨rfl, _⟩ | ⟨g, r, rfl, hb, _⟩
  · simp [fp]
  · intro y hy
    simp [fp, base] at hy
    subst hy
    exact h'.ne hb (Ne.symm hne)
theorem rowI_cells (l : List Int) : rowI.cells l = l.map iv := by
  unfold Row.cells
  induction l with
  | nil => rfl
  | cons x l ih => rw [List.flatMap_cons, ih]; rfl
def nxs (l : List En) : List Int := l.map (·.nx)
theorem nxs_len (l : List En) : (nxs l).length = l.length := by simp [nxs]
/-- The reference's service in block r, its lists in the frozen blocks T. -/
structure Rf (w : World) (r : Nat) (t : Int) (l : List En) (T : List Nat) : Prop where
  blk : ∃ aL cL aN cN, Blk w r 50 [.slice aL l.length cL, .slice aN l.length cN, .int .i64 t] ∧ Rd w aL (rowL.cells l) ∧ Rd w aN (rowI.cells (nxs l)) ∧ l.length ≤ cL ∧ l.length ≤ cN ∧
    (∀ y ∈ fpv aL (rowL.cells l), y ∈ T) ∧ (∀ y ∈ fpv aN (rowI.cells (nxs l)), y ∈ T)
  nr : r ∉ T
theorem Rf.mod {w w' : World} {r : Nat} {t : Int} {l : List En} {T S : List Nat} (h : Rf w r t l T) (m : Mod S w w') (hr : r ∉ S) (hT : ∀ y ∈ T, y ∉ S) : Rf w' r t l T := by
  obtain ⟨⟨aL, cL, aN, cN, hb, h1, h2, l1, l2, t1, t2⟩, nr⟩ := h
  exact ⟨⟨aL, cL, aN, cN, hb.mod m hr, h1.modv m (fun y hy => hT y (t1 y hy)), h2.modv m (fun y hy => hT y (t2 y hy)), l1, l2, t1, t2⟩, nr⟩
theorem Rf.more {w : World} {r : Nat} {t : Int} {l : List En} {T T' : List Nat} (h : Rf w r t l T) (hT : ∀ y ∈ T, y ∈ T') (hr : r ∉ T') : Rf w r t l T' := by
  obtain ⟨⟨aL, cL, aN, cN, hb, h1, h2, l1, l2, t1, t2⟩, nr⟩ := h
  exact ⟨⟨aL, cL, aN, cN, hb, h1, h2, l1, l2, fun y hy => hT y (t1 y hy), fun y hy => hT y (t2 y hy)⟩, hr⟩
theorem Rf.rlt {w : World} {r : Nat} {t : Int} {l : List En} {T : List Nat} (h : Rf w r t l T) : r < w.heap.size := by
  obtain ⟨⟨_, _, _, _, hb, _⟩, _⟩ := h
  exact hb.lt
/-- What a call of the reference leaves. -/
def RefR (w : World) (r : Nat) (T : List Nat) (t : Int) (l : List En) (w' : World) (T' : List Nat) : Prop := Rf w' r t l T' ∧ Mod [r] w w' ∧ (∀ y ∈ T, y ∈ T') ∧ ∀ y ∈ T', y ∈ T ∨ (w.heap.size ≤ y ∧ y < w'.heap.size)
theorem sc0 {w : World} {p : Addr} {e : En} {i : Nat} (hc : ∀ j v, (svv e)[j]? = some v → w.cell? ((p.add (i * 4)).add j) = some v) : w.cell? (p.add (i * 4)) = some (.int .i64 e.id) := by
  have := hc 0 _ rfl; rw [add_zero] at this; exact this
theorem inside_ok {w : World} {a : Option Addr} {p : List Int} (c : Nat) (hp : Rd w a (p.map iv)) (hl : p.length ≤ 1000) : Does Try.prog 45 #[.slice a p.length c] w fun v w' => v = .bool (decide (∀ x ∈ p, 0 ≤ x ∧ x ≤ 65535)) ∧ w = w' := by
  apply w45
  unfold F45
  refine LoopP.of (fun (x : Int) w' => w' = w ∧ ∃ i : Nat, i ≤ p.length ∧ x = (i : Int) ∧ ∀ j (hj : j < i) (hjl : j < p.length), 0 ≤ p[j] ∧ p[j] ≤ 65535) (fun x _ => p.length - x.toNat) ⟨rfl, 0, by omega, rfl, by omega⟩ ?_
  rintro _ w0 ⟨e0, i, hi, rfl, hb⟩
  rw [e0]
  clear e0 w0
  unfold F45_b1
  refine iteI (fun hlt => ?_) (fun hlt => ?_)
  · have hlt : i < p.length := by omega
    obtain ⟨q, rfl, hc⟩ := rd_get hp hlt
    have no : ¬ (0 ≤ p[i] ∧ p[i] ≤ 65535) → Value.bool false = .bool (decide (∀ x ∈ p, 0 ≤ x ∧ x ≤ 65535)) ∧ w = w := fun h => ⟨by rw [decide_eq_false (fun hh => h (hh _ (List.getElem_mem hlt)))], rfl⟩
    refine ⟨q, rfl, by omega, by omega, _, hc, iteI (fun hh => no (by omega)) (fun h1 => ⟨by omega, by omega, _, hc, iteI (fun hh => no (by omega)) (fun h2 => ?_)⟩)⟩
    rw [wi64 (by omega)]
    refine ⟨_, by omega, ⟨rfl, i + 1, by omega, rfl, fun j hj hjl => ?_⟩, rfl⟩
    by_cases hji : j = i
    · subst hji; omega
    · exact hb j (by omega) hjl
  · have hil : i = p.length := by omega
    subst hil
    have hall : ∀ x ∈ p, 0 ≤ x ∧ x ≤ 65535 := by
      intro x hx
      obtain ⟨j, hj, rfl⟩ := List.getElem_of_mem hx
      exact hb j hj hj
    exact ⟨by rw [decide_eq_true hall], rfl⟩
section
variable {w : World} {r : Nat} {t : Int} {l : List En} {T : List Nat} (h : Rf w r t l T) (hl : l.length ≤ 256)
include h hl
theorem rat_ok (id : Int) : Does Try.prog 46 #[.pointer (some (base r)), .int .i64 id] w fun v w' => v = .tuple #[.int .i64 (kx id (says l) : Int), .bool (isI id (says l))] ∧ Mod [] w w' := by
  obtain ⟨⟨aL, cL, aN, cN, hb, h1, h2, l1, l2, t1, t2⟩, nr⟩ := h
  apply w46
  unfold F46
  refine LoopP.of (fun (x : Int) w' => ∃ i : Nat, i ≤ l.length ∧ x = (i : Int) ∧ Mod [] w w' ∧ ∀ j (hj : j < i) (hjl : j < l.length), l[j].id < id) (fun x _ => l.length - x.toNat) ⟨0, by omega, rfl, Mod.refl _, by omega⟩ ?_
  rintro _ w1 ⟨i, hi, rfl, m1, hb1⟩
  unfold F46_b1
  have b1 := hb.mod m1 (by simp)
  have md : Mod [] w1 w1.drew := Mod.drew w1
  have M1 := m1.none md
  have b2 := hb.mod M1 (by simp)
  have rL := h1.mod m1 (by simp)
  refine ⟨_, rfl, _, _, _, b1.cell0, iteI (fun hlt => ?_) (fun hlt => ?_)⟩
  · have hlt : i < l.length := by omega
    obtain ⟨p, hp, hc⟩ := rL.flat (f := rowL.f) (z := 4) (fun _ _ => rfl) (by decide) hlt
    refine ⟨_, _, _, b1.cell0, p, hp, by omega, by omega, _, sc0 hc, iteI (fun hh => ?_) (fun hh => ?_)⟩
    · rw [wi64 (by omega)]
      refine ⟨_, by omega, ⟨i + 1, by omega, rfl, m1, fun j hj hjl => ?_⟩, rfl⟩
      by_cases hji : j = i
      · subst hji; exact hh
      · exact hb1 j (by omega) hjl
    · have e : kx id (says l) = i := fidx_cut _ _ i (by rw [says_len]; exact hi) (fun k hk => by have := hb1 k hk (by omega); rw [says_at l (by omega)]; exact decide_eq_false (by show ¬ id ≤ l[k].id; omega)) (fun h => by rw [says_at l hlt]; exact decide_eq_true (by show id ≤ l[i].id; omega))
      have hc2 : ∀ j v, (svv l[i])[j]? = some v → w1.drew.cell? ((p.add (i * 4)).add j) = some v := hc
      refine ⟨_, _, _, b2.cell0, ?_⟩
      rw [if_pos (by omega)]
      refine ⟨_, _, _, b2.cell0, p, hp, by omega, by omega, _, sc0 hc2, ?_, M1⟩
      have e2 : isI id (says l) = decide (l[i].id = id) := by
        unfold isI
        rw [decide_eq_decide]
        constructor
        · rintro ⟨_, h0⟩
          simp only [e] at h0
          rw [says_at l hlt] at h0
          exact h0
        · intro h0
          refine ⟨by rw [e, says_len]; exact hlt, ?_⟩
          simp only [e]
          rw [says_at l hlt]
          exact h0
      rw [e, e2]
  · have e : kx id (says l) = i := fidx_cut _ _ i (by rw [says_len]; exact hi) (fun k hk => by have := hb1 k hk (by omega); rw [says_at l (by omega)]; exact decide_eq_false (by show ¬ id ≤ l[k].id; omega)) (fun h => by rw [says_len] at h; omega)
    refine ⟨_, _, _, b2.cell0, ?_⟩
    rw [if_neg (by omega)]
    have e2 : isI id (says l) = false := by
      unfold isI
      refine decide_eq_false ?_
      rintro ⟨h0, _⟩
      rw [e, says_len] at h0
      omega
    exact ⟨by rw [e, e2], M1⟩
theorem rclock_ok (n : Int) : Does Try.prog 47 #[.pointer (some (base r)), .int .i64 n] w fun v w' => v = .tuple #[] ∧ Rf w' r (passT t n) l T ∧ Mod [r] w w' := by
  have hrT := h
  obtain ⟨⟨aL, cL, aN, cN, hb, h1, h2, l1, l2, t1, t2⟩, nr⟩ := h
  apply w47
  unfold F47
  refine ⟨_, rfl, _, hb.cell (i := 2) rfl, ?_⟩
  have j1 : ∀ b : Bool, b = decide (t < n ∧ n ≤ 1099511627776) → F47_j1 (some (base r)) n b w (fun v w' => v = .tuple #[] ∧ Rf w' r (passT t n) l T ∧ Mod [r] w w') := by
    intro b hbd
    unfold F47_j1
    refine iteI (fun hh => ?_) (fun hh => ?_)
    · have hc : t < n ∧ n ≤ 1099511627776 := by subst hbd; exact of_decide_eq_true hh
      refine ⟨_, rfl, Put.use hb (by simp) fun w1 h1' m1 => ⟨rfl, ⟨⟨aL, cL, aN, cN, ?_, h1.modv m1 (fun y hy hy' => by simp at hy'; subst hy'; exact nr (t1 _ hy)), h2.modv m1 (fun y hy hy' => by simp at hy'; subst hy'; exact nr (t2 _ hy)), l1, l2, t1, t2⟩, nr⟩, m1⟩⟩
      unfold passT
      rw [if_pos hc]
      exact h1'
    · have hc : ¬ (t < n ∧ n ≤ 1099511627776) := by subst hbd; simpa using hh
      refine ⟨rfl, ?_, Mod.refl _⟩
      unfold passT
      rw [if_neg hc]
      exact hrT
  refine iteI (fun hh => j1 _ ?_) (fun hh => j1 false ?_)
  · rw [decide_eq_decide]; omega
  · rw [decide_eq_false (by omega)]
end
/-- One element left out, as the reference does it. -/
theorem delG {α : Type} (R : Row α) {w0 w1 : World} {q : Nat} {ao : Option Addr} {n co k : Nat} {l : List α} (hr : Rd w0 ao (R.cells l)) (hn : n = l.length) (hl : n ≤ 300) (hk : k < n) (hc : n ≤ co) (m1 : Mod [] w0 w1) (hq : Blk w1 q R.e []) (h0 : w0.heap.size ≤ q) :
    ∃ a1 n1 c1 w2, (Builtin.append_ #[R.t, R.t] R.t #[.slice (some (base q)) 0 0, .slice ao k co]).run Try.prog w1 = .ok (.slice a1 n1 c1) w2 ∧ Mod [] w0 w2 ∧
    ∃ a2 n2 c2 w3, (Builtin.append_ #[R.t, R.t] R.t #[.slice a1 n1 c1, .slice (cutA ao co (k + 1) R.z) (n - (k + 1)) (co - (k + 1))]).run Try.prog w2 = .ok (.slice a2 n2 c2) w3 ∧ Gr R w0 w3 a2 n2 c2 (l.take k ++ l.drop (k + 1)) := by
  subst hn
  have rt := (hr.mod m1 (by simp)).take (k * R.z)
  rw [R.take] at rt
  obtain ⟨a1, n1, c1, w2, run1, G1, m2, _⟩ := (Gr.start (R := R) hq m1 h0).app (k := k) (d := co) (by rw [List.length_take]; omega) rt (by omega)
  rw [List.nil_append] at G1
  have rd := (hr.mod G1.m (by simp)).cut (c := co) (l := k + 1) (z := R.z) (by rw [R.len]; exact Nat.mul_le_mul_right _ hc)
  rw [R.drop] at rd
  have e1 := G1.len
  rw [List.length_take] at e1
  obtain ⟨a2, n2, c2, w3, run2, G2, m3, _⟩ := G1.app (k := l.length - (k + 1)) (d := co - (k + 1)) (by rw [List.length_drop]) rd (by omega)
  exact ⟨a1, n1, c1, w2, run1, G1.m, a2, n2, c2, w3, run2, G2⟩
theorem nxs_ins (l : List En) (k : Nat) (x : En) : (nxs l).take k ++ [x.nx] ++ (nxs l).drop k = nxs (l.take k ++ [x] ++ l.drop k) := by
  unfold nxs
  rw [List.map_append, List.map_append, List.map_take, List.map_drop]
  rfl
theorem nxs_del (l : List En) (k : Nat) : (nxs l).take k ++ (nxs l).drop (k + 1) = nxs (l.take k ++ l.drop (k + 1)) := by
  unfold nxs
  rw [List.map_append, List.map_take, List.map_drop]
/-- The end of a call that makes both lists anew. -/
theorem Rf.make {w w1 w2 : World} {r : Nat} {t : Int} {T : List Nat} {l' : List En} {aL aN : Option Addr} {nL cL nN cN : Nat} (GL : Gr rowL w w1 aL nL cL l') (GN : Gr rowI w w1 aN nN cN (nxs l')) (hr : r < w.heap.size) (nr : r ∉ T) (hb : Blk w2 r 50 [.slice aL nL cL, .slice aN nN cN, .int .i64 t]) (m : Mod [r] w1 w2) {M : List Nat} (m0 : Mod [r] w w1) (E : List Nat) (hE : ∀ y ∈ E, w.heap.size ≤ y ∧ y < w2.heap.size) :
    RefR w r T t l' w2 (E ++ fp aL ++ fp aN ++ T) := by
  have sL := GL.s
  have sN := GN.s
  have OL := GL.o.mod m (fun y hy hy' => by have := sL y hy; simp at hy'; omega)
  have ON := GN.o.mod m (fun y hy hy' => by have := sN y hy; simp at hy'; omega)
  have eL := GL.len
  have eN := GN.len
  rw [nxs_len] at eN
  subst eL eN
  refine ⟨⟨⟨aL, cL, aN, cN, hb, OL.rd, ON.rd, GL.o.le, GN.o.le, fun y hy => ?_, fun y hy => ?_⟩, fun hh => ?_⟩, m0.trans m (fun y hy => .inl hy), fun y hy => by simp [hy], fun y hy => ?_⟩
  · have := fpv_sub y hy; simp [this]
  · have := fpv_sub y hy; simp [this]
  · simp only [List.mem_append] at hh
    rcases hh with ((hh | hh) | hh) | hh
    · have := hE r hh; omega
    · have := sL r hh; omega
    · have := sN r hh; omega
    · exact nr hh
  · simp only [List.mem_append] at hy
    rcases hy with ((hy | hy) | hy) | hy
    · exact .inr (hE y hy)
    · right; exact ⟨sL y hy, OL.lt y hy⟩
    · right; exact ⟨sN y hy, ON.lt y hy⟩
    · exact .inl hy
section
variable {w : World} {r : Nat} {t : Int} {l : List En} {T : List Nat} (h : Rf w r t l T) (hl : l.length ≤ 256)
include h hl
set_option maxRecDepth 100000 in
theorem rdef_ok (id ivl : Int) {a : Option Addr} {p : List Int} (c : Nat) (hp : Rd w a (p.map iv)) (hpl : p.length ≤ 1000) : Does Try.prog 29 #[.pointer (some (base r)), .int .i64 id, .int .i64 ivl, .slice a p.length c] w fun v w' => v = .int .i64 (defE (says l) id ivl p) ∧
    ((defE (says l) id ivl p ≠ 0 ∧ Mod [] w w') ∨ (defE (says l) id ivl p = 0 ∧ ∃ T' e, e.say = ⟨id, ivl, false, p, 0⟩ ∧ RefR w r T t (l.take (kx id (says l)) ++ [e] ++ l.drop (kx id (says l))) w' T' ∧ e.rd w' ∧ ∀ y ∈ e.fp, y ∈ T')) := by
  apply w29
  unfold F29
  have bad : ∀ (e : Int) (w3 : World), Mod [] w w3 → defE (says l) id ivl p = e → e ≠ 0 → (Value.int .i64 e) = .int .i64 (defE (says l) id ivl p) ∧ ((defE (says l) id ivl p ≠ 0 ∧ Mod [] w w3) ∨ (defE (says l) id ivl p = 0 ∧ ∃ T' e, e.say = ⟨id, ivl, false, p, 0⟩ ∧ RefR w r T t (l.take (kx id (says l)) ++ [e] ++ l.drop (kx id (says l))) w3 T' ∧ e.rd w3 ∧ ∀ y ∈ e.fp, y ∈ T')) :=
    fun e w3 m3 he hne => ⟨by rw [he], .inl ⟨by rw [he]; exact hne, m3⟩⟩
  have b1 : badA id ivl p → defE (says l) id ivl p = 1 := fun hb => by unfold defE; rw [if_pos hb]
  refine New.use fun w1 hq m1 z1 => ?_
  refine (inside_ok (p := [id]) 1 (Rd.blk hq) (by simp)).mono ?_
  rintro _ _ ⟨rfl, rfl⟩
  refine ⟨_, rfl, iteI (fun hh => ?_) (fun hh => ?_)⟩
  · have : ¬ (0 ≤ id ∧ id ≤ 65535) := fun h2 => by rw [decide_eq_true (by intro x hx; simp at hx; subst hx; exact h2)] at hh; simp at hh
    exact bad 1 _ m1 (b1 (by unfold badA; omega)) (by decide)
  have hidr : 0 ≤ id ∧ id ≤ 65535 := by
    have : ∀ x ∈ [id], 0 ≤ x ∧ x ≤ 65535 := by simpa using hh
    exact this id (by simp)
  refine iteI (fun hh => bad 1 _ m1 (b1 (by unfold badA; omega)) (by decide)) (fun h1 => ?_)
  refine iteI (fun hh => bad 1 _ m1 (b1 (by unfold badA; omega)) (by decide)) (fun h2 => ?_)
  refine iteI (fun hh => bad 1 _ m1 (b1 (by unfold badA; omega)) (by decide)) (fun h3 => ?_)
  refine iteI (fun hh => bad 1 _ m1 (b1 (by unfold badA; omega)) (by decide)) (fun h4 => ?_)
  refine (inside_ok c (hp.mod m1 (by simp)) hpl).mono ?_
  rintro _ _ ⟨rfl, rfl⟩
  refine ⟨_, rfl, iteI (fun hh => ?_) (fun hh => ?_)⟩
  · have hn : ¬ ∀ x ∈ p, 0 ≤ x ∧ x ≤ 65535 := fun h2 => by rw [decide_eq_true h2] at hh; simp at hh
    refine bad 1 _ m1 (b1 ?_) (by decide)
    refine Classical.byContradiction fun hnb => hn (fun x hx => ?_)
    refine Classical.byContradiction fun hx2 => hnb ?_
    unfold badA
    exact .inr (.inr (.inr (.inr (.inr (.inr ⟨x, hx, by omega⟩)))))
  have hall : ∀ x ∈ p, 0 ≤ x ∧ x ≤ 65535 := by simpa using hh
  have nbad : ¬ badA id ivl p := by
    unfold badA
    rintro (hh | hh | hh | hh | hh | hh | ⟨x, hx, hh⟩) <;> try omega
    have := hall x hx
    omega
  refine (rat_ok (h.mod m1 (by simp) (by simp)) hl id).mono ?_
  rintro _ w2 ⟨rfl, m2⟩
  have M2 := m1.none m2
  refine ⟨_, _, rfl, iteI (fun hi => ?_) (fun hi => ?_)⟩
  · exact bad 9 w2 M2 (by unfold defE; rw [if_neg nbad, if_pos hi]) (by decide)
  have hrw := h.rlt
  have hkx := kx_le id (says l)
  rw [says_len] at hkx
  have h2' := h.mod M2 (by simp) (by simp)
  obtain ⟨⟨aL, cL, aN, cN, hb, r1, r2, l1, l2, t1, t2⟩, nr⟩ := h2'
  refine ⟨_, rfl, _, _, _, hb.cell0, iteI (fun hf => ?_) (fun hf => ?_)⟩
  · exact bad 7 w2 M2 (by unfold defE; rw [if_neg nbad, if_neg hi, if_pos (by rw [says_len]; omega)]) (by decide)
  have e0 : defE (says l) id ivl p = 0 := by unfold defE; rw [if_neg nbad, if_neg hi, if_neg (by rw [says_len]; omega)]
  generalize kx id (says l) = k at *
  have rtL : ∀ {w' : World}, Mod [] w2 w' → Rd w' aL (rowL.cells (l.take k)) := fun m => by have := (r1.mod m (by simp)).take (k * rowL.z); rwa [Row.take] at this
  have rtN : ∀ {w' : World}, Mod [] w2 w' → Rd w' aN (rowI.cells ((nxs l).take k)) := fun m => by have := (r2.mod m (by simp)).take (k * rowI.z); rwa [Row.take] at this
  have rdL : ∀ {w' : World}, Mod [] w2 w' → Rd w' (cutA aL cL k 4) (rowL.cells (l.drop k)) := fun m => by have := (r1.mod m (by simp)).cut (c := cL) (l := k) (z := rowL.z) (by rw [Row.len]; exact Nat.mul_le_mul_right _ l1); rwa [Row.drop] at this
  have rdN : ∀ {w' : World}, Mod [] w2 w' → Rd w' (cutA aN cN k 1) (rowI.cells ((nxs l).drop k)) := fun m => by have := (r2.mod m (by simp)).cut (c := cN) (l := k) (z := rowI.z) (by rw [Row.len, nxs_len]; exact Nat.mul_le_mul_right _ l2); rwa [Row.drop] at this
  simp only [Int.toNat_natCast]
  have hLl : (l.take k).length = k := by rw [List.length_take]; omega
  have hNl : ((nxs l).take k).length = k := by rw [List.length_take, nxs_len]; omega
  obtain ⟨a3, n3, c3, w3, run3, G3, _, _⟩ := (Gr.nil (R := rowL) (Mod.refl w2)).app (k := k) (d := cL) hLl.symm (rtL (Mod.refl _)) (by omega)
  rw [List.nil_append] at G3
  refine ⟨_, _, _, hb.cell0, by omega, by omega, a3, n3, c3, w3, run3, _, _, _, (hb.mod G3.m (by simp)).cell (i := 1) rfl, by omega, by omega, ?_⟩
  obtain ⟨a4, n4, c4, w4, run4, G4, m4, _⟩ := (Gr.nil (R := rowI) G3.m).app (k := k) (d := cN) hNl.symm (rtN G3.m) (by omega)
  rw [List.nil_append] at G4
  have G3 := G3.mod m4
  have lt3 := G3.o.lt
  have lt4 := G4.o.lt
  have z4 := G4.m.size
  refine ⟨a4, n4, c4, w4, run4, New.use fun w5 h5 m5 z5 => ?_⟩
  have G3 := G3.mod m5
  have G4 := G4.mod m5
  have hpp : Rd w5 a (rowI.cells p) := by rw [rowI_cells]; exact hp.mod (M2.none G4.m) (by simp)
  obtain ⟨a6, n6, c6, w6, run6, G6, m6, f6⟩ := (Gr.start (R := rowI) h5 G4.m z4).app (k := p.length) (d := c) rfl hpp (by omega)
  rw [List.nil_append] at G6
  have en6 := G6.len
  subst en6
  have z6 := m6.size
  have hf6 : ∀ q ∈ fp a6, w4.heap.size ≤ q := fun q hq => by
    rcases f6 q hq with hh | hh
    · simp [fp, base] at hh; omega
    · omega
  have lt6 := G6.o.lt
  have G3 := G3.other m6 (fun y hy => by simp [fp, base] at hy; subst hy; exact ⟨z4, fun hh => by have := lt3 _ hh; omega⟩)
  have G4 := G4.other m6 (fun y hy => by simp [fp, base] at hy; subst hy; exact ⟨z4, fun hh => by have := lt4 _ hh; omega⟩)
  refine ⟨a6, p.length, c6, w6, run6, New.use fun w7 h7 m7 z7 => ?_⟩
  have G3 := G3.mod m7
  have G4 := G4.mod m7
  have G6 := G6.mod m7
  have he7 : Rd w7 (some (base w6.heap.size)) (rowL.cells [(⟨id, ivl, false, a6, p, c6, 0⟩ : En)]) := by simpa [Row.cells, svv] using Rd.blk h7
  have e3 := G3.len
  rw [hLl] at e3
  obtain ⟨a8, n8, c8, w8, run8, G8, m8, f8⟩ := G3.app (k := 1) (d := 1) rfl he7 (by omega)
  have s3 := G3.s
  have s4 := G4.s
  have G4 := G4.other m8 (fun y hy => ⟨s3 y hy, own_apart G3.o G4.o (by decide) y hy⟩)
  have G6 := G6.other m8 (fun y hy => ⟨s3 y hy, own_apart G3.o G6.o (by decide) y hy⟩)
  refine ⟨a8, n8, c8, w8, run8, New.use fun w9 h9 m9 z9 => ?_⟩
  have G4 := G4.mod m9
  have G6 := G6.mod m9
  have G8 := G8.mod m9
  have z8 := m8.size
  have h09 : Rd w9 (some (base w8.heap.size)) (rowI.cells [0]) := by simpa [Row.cells] using Rd.blk h9
  have e4 := G4.len
  rw [hNl] at e4
  obtain ⟨a10, n10, c10, w10, run10, G10, m10, f10⟩ := G4.app (k := 1) (d := 1) rfl h09 (by omega)
  have s8 := G8.s
  have G8 := G8.other m10 (fun y hy => ⟨s4 y hy, own_apart G4.o G8.o (by decide) y hy⟩)
  have G6 := G6.other m10 (fun y hy => ⟨s4 y hy, fun hh => by have := hf6 y hh; have := lt4 y hy; omega⟩)
  have b10 := hb.mod G10.m (by simp)
  have e8 := G8.len
  rw [List.length_append, hLl] at e8
  have ldL : l.length - k = (l.drop k).length := by rw [List.length_drop]
  have ldN : l.length - k = ((nxs l).drop k).length := by rw [List.length_drop, nxs_len]
  obtain ⟨a11, n11, c11, w11, run11, G11, m11, f11⟩ := G8.app (k := l.length - k) (d := cL - k) ldL (rdL G8.m) (by simp at e8; omega)
  have G10' := G10.other m11 (fun y hy => ⟨s8 y hy, own_apart G8.o G10.o (by decide) y hy⟩)
  have G6 := G6.other m11 (fun y hy => ⟨s8 y hy, own_apart G8.o G6.o (by decide) y hy⟩)
  have b11 := hb.mod G11.m (by simp)
  have e10 := G10'.len
  rw [List.length_append, hNl] at e10
  obtain ⟨a12, n12, c12, w12, run12, G12, m12, f12⟩ := G10'.app (k := l.length - k) (d := cN - k) ldN (rdN G10'.m) (by simp at e10; omega)
  have s10 := G10'.s
  have G11 := G11.other m12 (fun y hy => ⟨s10 y hy, own_apart G10'.o G11.o (by decide) y hy⟩)
  have G6 := G6.other m12 (fun y hy => ⟨s10 y hy, fun hh => by
    have h1 := hf6 y hh
    have h2 := lt6 y hh
    rcases f10 y hy with h3 | h3
    · have := lt4 y h3; omega
    · omega⟩)
  have b12 := hb.mod G12.m (by simp)
  refine ⟨a10, n10, c10, w10, run10, _, _, _, b10.cell0, by omega, by omega, a11, n11, c11, w11, run11, _, _, _, b11.cell (i := 1) rfl, by omega, by omega, a12, n12, c12, w12, run12, Put.use0 b12 (by simp) fun w13 h13 m13 => Put.use h13 (by simp) fun w14 h14 m14 => ?_⟩
  have m1214 : Mod [r] w12 w14 := m13.same m14
  have z2 := M2.size
  have z12 := G12.m.size
  have GN : Gr rowI w2 w12 a12 n12 c12 (nxs (l.take k ++ [(⟨id, ivl, false, a6, p, c6, 0⟩ : En)] ++ l.drop k)) := by rw [← nxs_ins]; exact G12
  have fin := Rf.make (T := T) (t := t) G11 GN (by omega) nr (by simpa using h14) m1214 (M := []) (G12.m.weaken (by simp)) (⟨id, ivl, false, a6, p, c6, 0⟩ : En).fp (fun y hy => by
    have h1 := hf6 y (fpv_sub y hy)
    have h2 := lt6 y (fpv_sub y hy)
    have := m1214.size
    have := (m8.size)
    have := m7.size
    have := m9.size
    have := m10.size
    have := m11.size
    have := m12.size
    omega)
  obtain ⟨q1, q2, q3, q4⟩ := fin
  refine ⟨by rw [e0], .inr ⟨e0, _, ⟨id, ivl, false, a6, p, c6, 0⟩, rfl, ⟨q1, (M2.weaken (by simp)).trans q2 (fun y hy => .inl hy), q3, fun y hy => ?_⟩, ?_, fun y hy => by simp [hy]⟩⟩
  · rcases q4 y hy with hh | hh
    · exact .inl hh
    · right; omega
  · have := (G6.o.mod m1214 (fun y hy hy' => by have := hf6 y hy; simp at hy'; omega)).rd
    rw [rowI_cells] at this
    exact this
end
end Go.Proofs.Ytcgkmmiokmbjdaa
