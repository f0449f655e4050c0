/-
  The contracts of chapter 37: the table's calls.
-/
import Derived.Test.YtkeaamfpcapioaaTable
namespace Go.Proofs.Ytkeaamfpcapioaa
open Go Go.Sh Go.Proofs
set_option linter.unusedVariables false
set_option linter.unusedSimpArgs false
set_option linter.unusedSectionVars false

theorem win_setAt {w : World} {e : TypeId} {z n c : Nat} {a : Option Addr} {vs : List Value} (h : Win w e z a n c vs) {i : Nat} (hi : i < vs.length) (v : Value) :
    ∃ p, a = some p ∧ Writable w (p.add i) ∧ Win (w.setCell (p.add i) v) e z a n c (vs.set i v) ∧ Mod (fp a) w (w.setCell (p.add i) v) := by
  obtain ⟨h1, h2, h3, h4⟩ := h
  rcases h4 with ⟨rfl, h0⟩ | ⟨g, pre, r, post, rfl, hb, hl⟩
  · exfalso
    subst h0
    have : n = 0 := by omega
    subst this
    simp at h1
    subst h1
    simp at hi
  · refine ⟨_, rfl, ?_, ⟨by rw [List.length_set]; exact h1, h2, h3, .inr ⟨g, pre, r, post, rfl, ?_, by simpa using hl⟩⟩, Mod.setCell _ _ _ (by rw [add_block]; simp [fp])⟩
    · rw [addr_add, ← base_add]
      exact hb.can (by simp; omega)
    · have := hb.set (pre.length + i) v
      rw [base_add] at this
      rw [addr_add]
      rwa [List.append_assoc, List.set_append_right _ _ (by omega), Nat.add_sub_cancel_left, List.append_assoc, List.set_append_left _ _ hi, ← List.append_assoc, ← List.append_assoc, List.append_assoc pre] at this

/-- The table in block g. -/
def Ta (w : World) (g : Nat) (S : List Nat) (l : List En) : Prop := ∃ a c, S = g :: fp a ∧ Blk w g 51 [.bool true, .slice a l.length c] ∧ Win w 54 7 a l.length c (l.flatMap evv)
theorem Ta.mod {w w' : World} {g : Nat} {S T : List Nat} {l : List En} (h : Ta w g S l) (hm : Mod T w w') (hd : ∀ x ∈ S, x ∉ T) : Ta w' g S l := by
  obtain ⟨a, c, rfl, hb, ho⟩ := h
  exact ⟨a, c, rfl, hb.mod hm (hd g (by simp)), ho.mod hm (fun x hx => hd x (by simp [hx]))⟩
theorem Ta.lt {w : World} {g : Nat} {S : List Nat} {l : List En} (h : Ta w g S l) : ∀ x ∈ S, x < w.heap.size := by
  obtain ⟨a, c, rfl, hb, ho⟩ := h
  intro x hx
  rcases List.mem_cons.1 hx with rfl | hx
  · exact hb.lt
  · exact ho.lt x hx
theorem tnew_ok (w : World) : Does Try.prog 7 #[] w fun v w' => v = .pointer (some (base w.heap.size)) ∧ Ta w' w.heap.size [w.heap.size] [] ∧ Mod [] w w' := by
  apply w7
  unfold F7
  exact New.use fun w1 h1 m1 z1 => ⟨rfl, ⟨none, 0, rfl, h1, Win.nil⟩, m1⟩

theorem halfA {i j : Nat} (h : i + j < 2 ^ 62) : IntKind.i64.wrap (shr .u64 (IntKind.u64.wrap (IntKind.i64.wrap ((i : Int) + (j : Int)))) 1) = (((i + j) / 2 : Nat) : Int) := by
  have e1 : IntKind.i64.wrap ((i : Int) + (j : Int)) = ((i + j : Nat) : Int) := by rw [wi64 (by omega)]; omega
  rw [e1, wrapU_lt rfl (by show _ < 2 ^ 64; omega), show (1 : Int) = ((1 : Nat) : Int) from rfl, shrN .u64 _ 1 (by decide), Nat.shiftRight_eq_div_pow, wi64 (by omega)]
theorem fidx_cut {α : Type} (p : α → Bool) (l : List α) (i : Nat) (hi : i ≤ l.length) (h1 : ∀ j (hj : j < i), p (l[j]'(by omega)) = false) (h2 : ∀ h : i < l.length, p l[i] = true) : fidx p l = i := by
  by_cases h : i < l.length
  · exact fidx_at p l i h (h2 h) h1
  · have : i = l.length := by omega
    subst this
    exact fidx_none p l (fun j hj => h1 j hj)
section
variable {w : World} {g : Nat} {S : List Nat} {l : List En} (h : Ta w g S l)
include h
theorem tok_ok : Does Try.prog 24 #[.pointer (some (base g))] w fun v w' => v = .bool true ∧ w = w' := by
  obtain ⟨a, c, rfl, hb, ho⟩ := h
  apply w24
  unfold F24
  rw [if_pos (by simp)]
  exact ⟨_, rfl, _, hb.cell0, rfl, rfl⟩
theorem tfind_ok (hs : srt l) (hl : l.length ≤ 256) (ev : Int) : Does Try.prog 25 #[.pointer (some (base g)), .int .i64 ev] w fun v w' => v = .tuple #[.int .i64 (kx ev l : Int), .bool (isE ev l)] ∧ Mod [] w w' := by
  obtain ⟨a, c, rfl, hb, ho⟩ := h
  apply w25
  unfold F25
  refine ⟨_, rfl, _, _, _, hb.cell (i := 1) rfl, ?_⟩
  have cmp : ∀ (e : En) (w : World), Does Try.prog 32 #[.agg #[.int .i64 e.1, .bool e.2.1, .int .i64 e.2.2.src, .int .i64 e.2.2.num, .int .i64 e.2.2.svc, .slice e.2.2.aa e.2.2.al.length e.2.2.ac, .slice e.2.2.ba e.2.2.bl.length e.2.2.bc], .int .i64 ev] w fun v w' => v = .int .i64 (if e.1 < ev then -1 else if ev < e.1 then 1 else 0) ∧ Mod [] w w' := by
    intro e w
    apply w32
    unfold F32
    refine New.use fun w1 h1 m1 z1 => ?_
    refine ⟨_, h1.cell0, iteI (fun hh => ⟨by rw [if_pos hh], m1⟩) (fun hh => ?_)⟩
    rw [if_neg hh]
    exact ⟨_, h1.cell0, iteI (fun h2 => ⟨by rw [if_pos h2], m1⟩) (fun h2 => ⟨by rw [if_neg h2], m1⟩)⟩
  have hmono : ∀ (i j : Nat) (hi : i < l.length) (hj : j < l.length), i < j → l[i].1 < l[j].1 := fun i j hi hj hij => List.pairwise_iff_getElem.1 hs i j hi hj hij
  have q : Does Try.prog 31 #[.slice a l.length c, .int .i64 ev, .func (.func 32) #[] #[]] w fun v w' => v = .tuple #[.int .i64 (kx ev l : Int), .bool (isE ev l)] ∧ Mod [] w w' := by
    apply w31c32
    unfold F31c32
    refine LoopP.of (fun (x : Int × Int) w' => ∃ i j : Nat, i ≤ j ∧ j ≤ l.length ∧ x = ((i : Int), (j : Int)) ∧ Mod [] w w' ∧ (∀ k (hk : k < i) (hkl : k < l.length), l[k].1 < ev) ∧ (∀ k (hk : j ≤ k) (hkl : k < l.length), ev ≤ l[k].1)) (fun x _ => (x.2 - x.1).toNat) ⟨0, l.length, by omega, by omega, rfl, Mod.refl _, by omega, fun k hk hkl => by omega⟩ ?_
    rintro _ w1 ⟨i, j, hij, hj, rfl, m1, h1, h2⟩
    unfold F31c32_b1
    dsimp only
    have r1 := ho.rd.mod m1 (by simp)
    refine iteI (fun hlt => ?_) (fun hlt => ?_)
    · rw [halfA (by omega)]
      have hm : (i + j) / 2 < l.length := by omega
      obtain ⟨p, rfl, hc⟩ := r1.flat (evv_len _) (by decide) hm
      refine ⟨p, rfl, by omega, by omega, _, _, _, _, _, _, _, _, _, _, _, ⟨by have := hc 0 _ rfl; rw [add_zero] at this; exact this, hc 1 _ rfl, hc 2 _ rfl, hc 3 _ rfl, hc 4 _ rfl, hc 5 _ rfl, hc 6 _ rfl, trivial⟩, ?_⟩
      refine (cmp l[(i + j) / 2] w1).mono ?_
      rintro _ w2 ⟨rfl, m2⟩
      refine ⟨_, rfl, ?_⟩
      by_cases hlt2 : l[(i + j) / 2].1 < ev
      · rw [if_pos hlt2, if_pos (by decide)]
        have e1 : IntKind.i64.wrap ((((i + j) / 2 : Nat) : Int) + 1) = (((i + j) / 2 + 1 : Nat) : Int) := by rw [wi64 (by omega)]; omega
        rw [e1]
        refine ⟨_, by omega, ⟨(i + j) / 2 + 1, j, by omega, hj, rfl, m1.none m2, fun k hk hkl => ?_, h2⟩, rfl⟩
        by_cases hke : k = (i + j) / 2
        · subst hke; exact hlt2
        · have := hmono k _ hkl hm (by omega)
          omega
      · rw [if_neg hlt2, if_neg (by split <;> decide)]
        refine ⟨_, by omega, ⟨i, (i + j) / 2, by omega, by omega, rfl, m1.none m2, h1, fun k hk hkl => ?_⟩, rfl⟩
        by_cases hke : k = (i + j) / 2
        · subst hke; omega
        · have := hmono _ k hm hkl (by omega)
          omega
    · have hij : i = j := by omega
      subst hij
      have e : kx ev l = i := fidx_cut _ l i hj (fun k hk => by have := h1 k hk (by omega); simp [geE]; omega) (fun h => by have := h2 i (Nat.le_refl _) h; simp [geE]; omega)
      refine iteI (fun hlt => ?_) (fun hlt => ?_)
      · have hlt : i < l.length := by omega
        obtain ⟨p, rfl, hc⟩ := r1.flat (evv_len _) (by decide) hlt
        refine ⟨p, rfl, by omega, by omega, _, _, _, _, _, _, _, _, _, _, _, ⟨by have := hc 0 _ rfl; rw [add_zero] at this; exact this, hc 1 _ rfl, hc 2 _ rfl, hc 3 _ rfl, hc 4 _ rfl, hc 5 _ rfl, hc 6 _ rfl, trivial⟩, ?_⟩
        refine (cmp l[i] w1).mono ?_
        rintro _ w2 ⟨rfl, m2⟩
        refine ⟨_, rfl, ?_, m1.none m2⟩
        have hge := h2 i (Nat.le_refl _) hlt
        rw [if_neg (by omega)]
        unfold isE
        rw [e]
        congr 4
        by_cases hb2 : ev < l[i].1
        · rw [if_pos hb2, decide_eq_false (by decide), decide_eq_false (fun ⟨_, h⟩ => by omega)]
        · rw [if_neg hb2, decide_eq_true (by decide), decide_eq_true ⟨hlt, by omega⟩]
      · refine ⟨?_, m1⟩
        unfold isE
        rw [e]
        congr 4
        rw [decide_eq_false (fun ⟨h, _⟩ => by omega)]
  refine q.mono ?_
  rintro _ w1 ⟨rfl, m1⟩
  exact ⟨_, _, rfl, rfl, m1⟩
end
end Go.Proofs.Ytkeaamfpcapioaa
