/-
  The laws of chapter 33, as contracts: the example, ParamsUnpacks, ParamsNil.
-/
import Derived.Test.YtcdnljibefpchaaRefU
namespace Go.Proofs.Ytcdnljibefpchaa
open Go Go.Sh Go.Proofs
set_option linter.unusedVariables false
set_option linter.unusedSimpArgs false
set_option linter.unusedSectionVars false

def Keep (T : List Nat) (w w' : World) : Prop := ∃ S, Mod S w w' ∧ Apart S T
theorem Keep.rd {T : List Nat} {w w' : World} (k : Keep T w w') {a : Option Addr} {vs : List Value} (h : Rd w a vs) (hT : ∀ y ∈ fpv a vs, y ∈ T) : Rd w' a vs := by
  obtain ⟨S, m, ap⟩ := k
  exact h.modv m (fun y hy hy' => ap y hy' (hT y hy))
theorem Keep.blk {T : List Nat} {w w' : World} (k : Keep T w w') {g t : Nat} {vs : List Value} (h : Blk w g t vs) (hT : g ∈ T) : Blk w' g t vs := by
  obtain ⟨S, m, ap⟩ := k
  exact h.mod m (fun hg => ap g hg hT)

/-- A pool that is new since w0, apart from the blocks T. -/
structure PN (w0 w : World) (g : Nat) (L : List Pd) (T : List Nat) : Prop where
  ex : ∃ S, Po w g S L ∧ Since w0 S ∧ Apart S T
  good : Good L
  m : Mod [] w0 w
  lt : ∀ y ∈ T, y < w.heap.size
section
variable {w0 w : World} {g : Nat} {L : List Pd} {T : List Nat}
theorem PN.new {a : Option Addr} {L : List Pd} (c : Nat) {w : World} (hr : Rd w a (L.flatMap pv)) : Does Try.prog 13 #[.slice a L.length c] w fun v w' => ∃ p e, v = .tuple #[.pointer p, .int .i64 e] ∧ e = errL L ∧ Mod [] w w' ∧ (e ≠ 0 → p = none) ∧ (e = 0 → ∃ g, p = some (base g) ∧ PN w w' g L []) := by
  refine (new_ok c hr).mono ?_
  rintro _ w' ⟨p, e, rfl, he, m, h1, h2⟩
  refine ⟨p, e, rfl, errL_is he, m, h1, fun h0 => ?_⟩
  obtain ⟨g, S, rfl, P, s⟩ := h2 h0
  subst h0
  exact ⟨g, rfl, ⟨S, P, s, by intro x hx; simp⟩, errL_good he, m, by simp⟩
variable (h : PN w0 w g L T)
include h
theorem PN.re {w' : World} (m : Mod [] w w') {T' : List Nat} (hT : ∀ y ∈ T', y ∈ T ∨ (w.heap.size ≤ y ∧ y < w'.heap.size)) : PN w0 w' g L T' := by
  obtain ⟨⟨S, h1, h2, h3⟩, h4, h5, h6⟩ := h
  have hlt := h1.lt
  refine ⟨⟨S, h1.mod m (by simp), h2, fun y hy hy' => ?_⟩, h4, h5.none m, fun y hy => ?_⟩
  · rcases hT y hy' with h | h
    · exact h3 y hy h
    · have := hlt y hy; omega
  · rcases hT y hy with h | h
    · have := h6 y h; have := m.size; omega
    · exact h.2
theorem PN.mod {w' : World} (m : Mod [] w w') : PN w0 w' g L T := h.re m (fun y hy => .inl hy)
theorem PN.store {w' : World} {r : Nat} (m : Mod [r] w w') (hr : r ∈ T) (h0 : w0.heap.size ≤ r) : PN w0 w' g L T := by
  obtain ⟨⟨S, h1, h2, h3⟩, h4, h5, h6⟩ := h
  exact ⟨⟨S, h1.mod m (fun y hy hy' => by simp at hy'; subst hy'; exact h3 _ hy hr), h2, h3⟩, h4, h5.trans m (fun y hy => .inr (by simp at hy; omega)), fun y hy => by have := h6 y hy; have := m.size; omega⟩
theorem PN.set (id v : Int) : Does Try.prog 16 #[.pointer (some (base g)), .int .i64 id, .int .i64 v] w fun x w' => x = .int .i64 (setE L id v) ∧ PN w0 w' g (setL L id v) T ∧ Keep T w w' := by
  obtain ⟨⟨S, h1, h2, h3⟩, h4, h5, h6⟩ := h
  refine (pset_ok h1 h4 id v).mono ?_
  rintro _ w' ⟨rfl, P, m⟩
  exact ⟨rfl, ⟨⟨S, P, h2, h3⟩, setL_good h4 id v, h5.since m h2, fun y hy => by have := h6 y hy; have := m.size; omega⟩, S, m, h3⟩
theorem PN.get (id : Int) : Does Try.prog 15 #[.pointer (some (base g)), .int .i64 id] w fun v w' => w = w' ∧ v = (if h : fidx (isId id) L < L.length then .tuple #[.int .i64 L[fidx (isId id) L].2.2.2, .int .i64 0] else .tuple #[.int .i64 0, .int .i64 8]) := by
  obtain ⟨⟨S, h1, h2, h3⟩, h4, h5, h6⟩ := h
  exact pget_ok h1 h4 id
theorem PN.pack {ax : Option Addr} {X : List Int} (cx : Nat) (hx : Rd w ax (X.map iv)) : Does Try.prog 14 #[.pointer (some (base g)), .slice ax X.length cx] w (GivesB w (packR L X)) := by
  obtain ⟨⟨S, h1, h2, h3⟩, h4, h5, h6⟩ := h
  exact pack_ok h1 h4 cx hx
theorem PN.values : Does Try.prog 17 #[.pointer (some (base g))] w (GivesV w (vals L)) := by
  obtain ⟨⟨S, h1, h2, h3⟩, h4, h5, h6⟩ := h
  exact values_ok h1 h4
theorem PN.clone : Does Try.prog 22 #[.pointer (some (base g))] w fun v w' => ∃ g' S', v = .pointer (some (base g')) ∧ Po w' g' S' L ∧ Mod [] w w' ∧ Since w S' := by
  obtain ⟨⟨S, h1, h2, h3⟩, h4, h5, h6⟩ := h
  exact clone_ok h1 h4
end

/-! ### The example -/
def two : List Pd := [(1, 3, false, 5), (2, 7, true, -2)]
theorem two_good : Good two := by
  refine ⟨by decide, fun i hi => ?_⟩
  have : i = 0 ∨ i = 1 := by have : i < 2 := hi; omega
  rcases this with rfl | rfl
  · exact ⟨by simp [two], fun h => by omega, by simp [two, wOk], by simp [two, inR]⟩
  · exact ⟨by simp [two], fun _ => by simp [two], by simp [two, wOk], by simp [two, inR]⟩
theorem two_err : errL two = 0 := (errL_is (.inl ⟨rfl, two_good⟩)).symm
theorem two_ok (w : World) : Does Try.prog 24 #[] w fun v w' => ∃ a, v = .slice a 2 2 ∧ Rd w' a (two.flatMap pv) ∧ Mod [] w w' := by
  apply w24
  unfold F24
  exact New.use fun w1 h1 m1 z1 => ⟨_, rfl, Rd.blk h1, m1⟩
theorem alive_ok (w : World) : Does Try.prog 9 #[] w fun v w' => v = .bool true ∧ Mod [] w w' := by
  apply w9
  unfold F9
  refine (two_ok w).mono ?_
  rintro _ w1 ⟨a, rfl, ra, m1⟩
  refine ⟨_, _, _, rfl, (PN.new (L := two) 2 ra).mono ?_⟩
  rintro _ w2 ⟨p, e, rfl, rfl, m2, _, hg⟩
  rw [two_err] at hg ⊢
  obtain ⟨g, rfl, P2⟩ := hg rfl
  refine ⟨_, _, rfl, ?_⟩
  rw [if_neg (by simp)]
  refine New.use fun w3 h3 m3 z3 => ?_
  have P3 := P2.mod m3
  have hp : packR two [1, 2] = ([191, 128], 0) := by decide
  refine (P3.pack (X := [1, 2]) 2 (Rd.blk h3)).mono ?_
  rintro _ w4 ⟨b, cb, rfl, rb, m4, sb⟩
  rw [hp] at rb ⊢
  dsimp only at rb ⊢
  have P4 : PN w1 w4 g two (fpv b (([191, 128] : List UInt8).map bv)) := P3.re m4 (fun y hy => .inr ⟨sb y (fpv_sub y hy), rb.lt y hy⟩)
  refine ⟨_, _, _, _, rfl, (two_ok w4).mono ?_⟩
  rintro _ w5 ⟨a5, rfl, r5, m5⟩
  refine ⟨_, _, _, rfl, New.use fun w6 h6 m6 z6 => ?_⟩
  have M6 := m5.none m6
  have hu : unpR two [1, 2] [191, 128] = ([(1, 5), (2, -2)], 0) := by unfold unpR; rw [two_err, if_neg (by simp)]; decide
  refine (unpack_ok (L := two) (X := [1, 2]) (B := [191, 128]) 2 2 cb (r5.mod m6 (by simp)) (Rd.blk h6) (rb.mod M6 (by simp)) (by decide)).mono ?_
  rintro _ w7 ⟨u, cu, rfl, ru, m7, su⟩
  rw [hu] at ru ⊢
  dsimp only at ru ⊢
  have M7 := M6.none m7
  have P7 : PN w1 w7 g two (fpv u ([(1, 5), (2, -2)].flatMap vv) ++ fpv b (([191, 128] : List UInt8).map bv)) := P4.re M7 (fun y hy => by
    rcases List.mem_append.1 hy with h | h
    · exact .inr ⟨by have := su y (fpv_sub y h); have := M6.size; omega, ru.lt y h⟩
    · exact .inl h)
  refine ⟨_, _, _, _, rfl, (P7.set 2 63).mono ?_⟩
  rintro _ w8 ⟨rfl, P8, k8⟩
  refine ⟨_, rfl, (P8.set 2 64).mono ?_⟩
  rintro _ w9 ⟨rfl, P9, k9⟩
  refine ⟨_, rfl, (P9.get 2).mono ?_⟩
  rintro _ _ ⟨rfl, rfl⟩
  have rb9 := k9.rd (k8.rd (rb.mod M7 (by simp)) (fun y hy => List.mem_append_right _ hy)) (fun y hy => List.mem_append_right _ hy)
  have ru9 := k9.rd (k8.rd ru (fun y hy => List.mem_append_left _ hy)) (fun y hy => List.mem_append_left _ hy)
  refine ⟨63, 0, by rfl, (P9.get 3).mono ?_⟩
  rintro _ _ ⟨rfl, rfl⟩
  refine ⟨0, 8, by rfl, ?_⟩
  rw [if_pos rfl, if_pos rfl]
  refine ⟨_, toStr_ok cb rb9, ?_⟩
  rw [str_list, if_pos (by decide)]
  refine New.use fun w10 h10 m10 z10 => ?_
  refine (same_ok (R := [(1, 5), (2, -2)]) (Q := [(1, 5), (2, -2)]) cu 2 (by decide) (ru9.mod m10 (by simp)) (Rd.blk h10)).mono ?_
  rintro _ w11 ⟨rfl, m11⟩
  refine ⟨_, rfl, ?_⟩
  rw [if_pos (by decide), if_pos (by decide), if_pos (by decide), if_pos (by decide), if_pos (by decide)]
  exact ⟨by congr 1, m1.none ((P9.m.none m10).none m11)⟩

theorem paramsUnpacks_ok {w : World} {a ax ab : Option Addr} {L : List Pd} {X : List Int} {B : List UInt8} (c cx cb : Nat) (hr : Rd w a (L.flatMap pv)) (hx : Rd w ax (X.map iv)) (hb : Rd w ab (B.map bv)) :
    Does Try.prog 3 #[.slice a L.length c, .slice ax X.length cx, .slice ab B.length cb] w fun v w' => v = .bool true ∧ Mod [] w w' := by
  apply w3
  unfold F3 F3_j1
  have live : ∀ {w' : World}, Mod [] w w' → Does Try.prog 9 #[] w' (fun v w'' => ∃ (x : Bool), v = .bool x ∧ (Value.bool x = .bool true ∧ Mod [] w w'')) := fun M => (alive_ok _).mono fun v w' h => ⟨_, h.1, rfl, M.none h.2⟩
  refine iteI (fun hl => by rw [if_pos rfl]; exact live (Mod.refl _)) (fun hl => ?_)
  refine iteI (fun hl => by rw [if_pos rfl]; exact live (Mod.refl _)) (fun hl2 => ?_)
  refine iteI (fun hl => live (Mod.refl _)) (fun hl3 => ?_)
  have hl3 : ¬ 300 < (B.length : Int) := by simpa using hl3
  refine (unpack_ok c cx cb hr hx hb (by omega)).mono ?_
  rintro _ w1 ⟨u, cu, rfl, ru, m1, su⟩
  refine ⟨_, _, _, _, rfl, (runpack_ok c cx cb (hr.mod m1 (by simp)) (hx.mod m1 (by simp)) (hb.mod m1 (by simp)) (by omega)).mono ?_⟩
  rintro _ w2 ⟨q, cq, rfl, rq, m2, sq⟩
  have hlen : (unpR L X B).1.length ≤ 100000 := by
    unfold unpR
    split
    · simp
    · split
      · simp
      · rename_i hc
        have hc : chooseE L X = 0 := Classical.byContradiction hc
        have := chooseE_len hc
        unfold unpD
        split
        · simp
        · split
          · simp
          · split
            · simp
            · simp [decN_len]; omega
  refine ⟨_, _, _, _, rfl, (same_ok cu cq hlen (ru.mod m2 (by simp)) rq).mono ?_⟩
  rintro _ w3 ⟨rfl, m3⟩
  refine ⟨_, rfl, ?_⟩
  rw [if_pos (by simp), if_pos rfl]
  exact live ((m1.none m2).none m3)

/-! ### Nil and the zero value -/
section
variable {w : World} {a : Option Addr} (h : ∀ w', Mod [] w w' → Does Try.prog 40 #[.pointer a] w' fun v w'' => v = .bool false ∧ w' = w'')
include h
theorem defN (id : Int) {w' : World} (m : Mod [] w w') : Does Try.prog 39 #[.pointer a, .int .i64 id] w' fun v w'' => v = .tuple #[.pointer none, .int .i64 2] ∧ w' = w'' := by
  apply w39
  unfold F39
  refine (h w' m).mono ?_
  rintro _ _ ⟨rfl, rfl⟩
  refine ⟨_, rfl, ?_⟩
  rw [if_pos (by simp)]
  exact ⟨rfl, rfl⟩
theorem getN (id : Int) {w' : World} (m : Mod [] w w') : Does Try.prog 15 #[.pointer a, .int .i64 id] w' fun v w'' => v = .tuple #[.int .i64 0, .int .i64 2] ∧ w' = w'' := by
  apply w15
  unfold F15
  refine (defN h id m).mono ?_
  rintro _ _ ⟨rfl, rfl⟩
  refine ⟨_, _, rfl, ?_⟩
  rw [if_pos (by simp)]
  exact ⟨rfl, rfl⟩
theorem setN (id v : Int) {w' : World} (m : Mod [] w w') : Does Try.prog 16 #[.pointer a, .int .i64 id, .int .i64 v] w' fun v w'' => v = .int .i64 2 ∧ w' = w'' := by
  apply w16
  unfold F16
  refine (defN h id m).mono ?_
  rintro _ _ ⟨rfl, rfl⟩
  refine ⟨_, _, rfl, ?_⟩
  rw [if_pos (by simp)]
  exact ⟨rfl, rfl⟩
theorem packN (x : Option Addr) (n c : Nat) {w' : World} (m : Mod [] w w') : Does Try.prog 14 #[.pointer a, .slice x n c] w' fun v w'' => v = .tuple #[.slice none 0 0, .int .i64 2] ∧ w' = w'' := by
  apply w14
  unfold F14
  have q : Does Try.prog 25 #[.pointer a, .slice x n c] w' fun v w'' => v = .tuple #[.slice none 0 0, .int .i64 2] ∧ w' = w'' := by
    apply w25
    unfold F25
    refine (h w' m).mono ?_
    rintro _ _ ⟨rfl, rfl⟩
    refine ⟨_, rfl, ?_⟩
    rw [if_pos (by simp)]
    exact ⟨rfl, rfl⟩
  refine q.mono ?_
  rintro _ _ ⟨rfl, rfl⟩
  refine ⟨_, _, _, _, rfl, ?_⟩
  rw [if_pos (by simp)]
  exact ⟨rfl, rfl⟩
theorem valuesN {w' : World} (m : Mod [] w w') : Does Try.prog 17 #[.pointer a] w' fun v w'' => v = .slice none 0 0 ∧ w' = w'' := by
  apply w17
  unfold F17
  refine (h w' m).mono ?_
  rintro _ _ ⟨rfl, rfl⟩
  refine ⟨_, rfl, ?_⟩
  rw [if_pos (by simp)]
  exact ⟨rfl, rfl⟩
theorem cloneN {w' : World} (m : Mod [] w w') : Does Try.prog 22 #[.pointer a] w' fun v w'' => v = .pointer none ∧ w' = w'' := by
  apply w22
  unfold F22
  refine (h w' m).mono ?_
  rintro _ _ ⟨rfl, rfl⟩
  refine ⟨_, rfl, ?_⟩
  rw [if_pos (by simp)]
  exact ⟨rfl, rfl⟩
end
theorem paramsNil_ok (id v : Int) (w : World) : Does Try.prog 8 #[.int .i64 id, .int .i64 v] w fun v w' => v = .bool true ∧ Mod [] w w' := by
  apply w8
  unfold F8
  refine New.use fun w1 h1 m1 z1 => ?_
  have n : ∀ w', Mod [] w1 w' → Does Try.prog 40 #[.pointer none] w' fun v w'' => v = .bool false ∧ w' = w'' := by
    intro w' m
    apply w40
    unfold F40
    rw [if_neg (by simp)]
    exact ⟨rfl, rfl⟩
  have z : ∀ w', Mod [] w1 w' → Does Try.prog 40 #[.pointer (some (base w.heap.size))] w' fun v w'' => v = .bool false ∧ w' = w'' := by
    intro w' m
    apply w40
    unfold F40
    rw [if_pos (by simp)]
    exact ⟨_, rfl, _, (h1.mod m (by simp)).cell0, rfl, rfl⟩
  refine (getN n id (Mod.refl _)).mono ?_
  rintro _ _ ⟨rfl, rfl⟩
  refine ⟨_, _, rfl, New.use fun w2 h2 m2 z2 => ?_⟩
  refine (packN z _ 1 1 m2).mono ?_
  rintro _ _ ⟨rfl, rfl⟩
  refine ⟨_, _, _, _, rfl, ?_⟩
  rw [if_pos rfl, if_pos rfl]
  refine (setN n id v m2).mono ?_
  rintro _ _ ⟨rfl, rfl⟩
  refine ⟨_, rfl, ?_⟩
  rw [if_pos rfl]
  refine (setN z id v m2).mono ?_
  rintro _ _ ⟨rfl, rfl⟩
  refine ⟨_, rfl, ?_⟩
  rw [if_pos rfl]
  refine (valuesN n m2).mono ?_
  rintro _ _ ⟨rfl, rfl⟩
  refine ⟨_, _, _, rfl, ?_⟩
  rw [if_pos (by simp)]
  refine (valuesN z m2).mono ?_
  rintro _ _ ⟨rfl, rfl⟩
  refine ⟨_, _, _, rfl, ?_⟩
  rw [if_pos (by simp)]
  refine (cloneN n m2).mono ?_
  rintro _ _ ⟨rfl, rfl⟩
  refine ⟨_, rfl, ?_⟩
  rw [if_pos (by simp)]
  refine (cloneN z m2).mono ?_
  rintro _ _ ⟨rfl, rfl⟩
  refine ⟨_, rfl, ?_⟩
  rw [if_pos (by simp)]
  refine (alive_ok _).mono ?_
  rintro _ w3 ⟨rfl, m3⟩
  exact ⟨_, rfl, rfl, (m1.none m2).none m3⟩
end Go.Proofs.Ytcdnljibefpchaa
