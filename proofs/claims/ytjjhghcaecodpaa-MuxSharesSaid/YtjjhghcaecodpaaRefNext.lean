/-
  The contracts of chapter 22: Next and Sent of the reference.
-/
import Derived.Test.YtjjhghcaecodpaaRefNew
namespace Go.Proofs.Ytjjhghcaecodpaa
open Go Go.Sh Go.Proofs
set_option linter.unusedVariables false
set_option linter.unusedSimpArgs false
set_option linter.unusedSectionVars false

/-- The reference's multiplexer in block r, its credits in x, its counts in y. -/
structure Rm (w : World) (r x y : Nat) (l : List Ch) : Prop where
  blk : ∃ a c, Blk w r 30 [.slice a l.length c, .slice (some (base x)) l.length l.length, .slice (some (base y)) l.length l.length] ∧ Own w 35 3 a l.length c (l.flatMap chc)
  cr : Blk w x 3 (l.map fun c => .int .i64 c.cr)
  sn : Blk w y 3 (l.map fun c => .int .i64 c.sn)
  ne : x ≠ y
theorem Rm.mod {w w' : World} {r x y : Nat} {l : List Ch} {S : List Nat} (h : Rm w r x y l) (m : Mod S w w') (hr : r ∉ S) (hx : x ∉ S) (hy : y ∉ S) (ha : ∀ a c, Blk w r 30 [.slice a l.length c, .slice (some (base x)) l.length l.length, .slice (some (base y)) l.length l.length] → Own w 35 3 a l.length c (l.flatMap chc) → ∀ q ∈ fp a, q ∉ S) : Rm w' r x y l := by
  obtain ⟨⟨a, c, hb, ho⟩, h1, h2, h3⟩ := h
  exact ⟨⟨a, c, hb.mod m hr, ho.mod m (ha a c hb ho)⟩, h1.mod m hx, h2.mod m hy, h3⟩
theorem Rm.mod0 {w w' : World} {r x y : Nat} {l : List Ch} (h : Rm w r x y l) (m : Mod [] w w') : Rm w' r x y l := h.mod m (by simp) (by simp) (by simp) (by simp)
theorem has_ok {w : World} {a : Option Addr} {R : List Int} (c : Nat) (hr : Rd w a (R.map iv)) (hn : R.length ≤ 9223372036854775807) (x : Int) : Does Try.prog 25 #[.slice a R.length c, .int .i64 x] w fun v w' => v = .bool (decide (x ∈ R)) ∧ w = w' := by
  apply w25
  unfold F25
  refine LoopP.of (fun (t : Int) w' => w' = w ∧ ∃ i : Nat, i ≤ R.length ∧ t = (i : Int) ∧ ∀ j (hj : j < i) (h : j < R.length), R[j] ≠ x) (fun t _ => R.length - t.toNat) ⟨rfl, 0, by omega, rfl, by omega⟩ ?_
  rintro _ _ ⟨rfl, i, hi, rfl, hb⟩
  unfold F25_b1
  refine iteI (fun hlt => ?_) (fun hlt => ?_)
  · have hlt : i < R.length := by omega
    obtain ⟨p, rfl, hc⟩ := rd_get hr hlt
    refine ⟨p, rfl, by omega, by omega, _, hc, iteI (fun hh => ⟨by rw [decide_eq_true (by rw [← hh]; exact List.getElem_mem hlt)], rfl⟩) (fun hh => ?_)⟩
    rw [wi64 (by omega)]
    refine ⟨_, by omega, ⟨rfl, i + 1, by omega, rfl, fun j hj h => ?_⟩, rfl⟩
    by_cases hji : j = i
    · subst hji; exact hh
    · exact hb j (by omega) h
  · have hno : x ∉ R := by
      intro h
      obtain ⟨j, hj, h2⟩ := List.getElem_of_mem h
      exact absurd h2 (hb j (by omega) hj)
    exact ⟨by rw [decide_eq_false hno], rfl⟩

/-! ### Plain: the reference's way to the same channel -/
/-- The smallest priority of the first t channels that are ready. -/
def fst (l : List Ch) (R : List Int) (t : Nat) : Int := (upto l R t).foldl (fun m i => min m (gc l i).pr) 16
theorem fst_succ (l : List Ch) (R : List Int) (t : Nat) : fst l R (t + 1) = if rdy R (gc l t) = true then min (fst l R t) (gc l t).pr else fst l R t := by
  unfold fst
  rw [upto_succ]
  split
  · rw [List.foldl_append]; rfl
  · rfl
theorem foldl_min (f : Nat → Int) : ∀ (A : List Nat) (m : Int), (∀ i ∈ A, A.foldl (fun m i => min m (f i)) m ≤ f i) ∧ A.foldl (fun m i => min m (f i)) m ≤ m ∧ (A.foldl (fun m i => min m (f i)) m = m ∨ ∃ i ∈ A, A.foldl (fun m i => min m (f i)) m = f i)
  | [], m => ⟨by simp, by simp, .inl rfl⟩
  | x :: A, m => by
    rw [List.foldl_cons]
    obtain ⟨h1, h2, h3⟩ := foldl_min f A (min m (f x))
    refine ⟨fun i hi => ?_, by omega, ?_⟩
    · rcases List.mem_cons.1 hi with rfl | hi
      · omega
      · exact h1 i hi
    · rcases h3 with h | ⟨i, hi, h⟩
      · rw [h]
        by_cases hm : m ≤ f x
        · left; omega
        · right; exact ⟨x, by simp, by omega⟩
      · right; exact ⟨i, by simp [hi], h⟩
theorem foldl_least (f : Nat → Int) : ∀ (A : List Nat) (x : Nat), f (A.foldl (fun m i => if decide (f i < f m) = true then i else m) x) ≤ f x ∧ ∀ i ∈ A, f (A.foldl (fun m i => if decide (f i < f m) = true then i else m) x) ≤ f i
  | [], x => ⟨by simp, by simp⟩
  | y :: A, x => by
    rw [List.foldl_cons]
    obtain ⟨h1, h2⟩ := foldl_least f A (if decide (f y < f x) = true then y else x)
    by_cases h : f y < f x
    · rw [if_pos (decide_eq_true h)] at h1 h2 ⊢
      refine ⟨by omega, fun i hi => ?_⟩
      rcases List.mem_cons.1 hi with rfl | hi
      · omega
      · exact h2 i hi
    · rw [if_neg (by simpa using h)] at h1 h2 ⊢
      refine ⟨h1, fun i hi => ?_⟩
      rcases List.mem_cons.1 hi with rfl | hi
      · omega
      · exact h2 i hi
theorem best_le {l : List Ch} {R : List Int} {i : Nat} (h : i ∈ rix l R) : best l R ≤ (gc l i).pr := by
  unfold best
  cases hA : rix l R with
  | nil => rw [hA] at h; cases h
  | cons x A =>
    rw [hA] at h
    have := foldl_least (fun i => (gc l i).pr) A x
    show (gc l (A.foldl (fun m i => if prB l i m = true then i else m) x)).pr ≤ _
    rcases List.mem_cons.1 h with rfl | h
    · exact this.1
    · exact this.2 i h
theorem best_at {l : List Ch} {R : List Int} (h : rix l R ≠ []) : ∃ i ∈ rix l R, best l R = (gc l i).pr := ⟨_, minF_mem (prB l) _ h, rfl⟩
theorem fst_best {l : List Ch} {R : List Int} (hp : ∀ c ∈ l, c.pr ≤ 15) (h : rix l R ≠ []) : fst l R l.length = best l R := by
  obtain ⟨i, hi, hb⟩ := best_at h
  have hf := foldl_min (fun i => (gc l i).pr) (rix l R) 16
  have h1 := hf.1 i hi
  have hil : i < l.length := upto_lt hi
  have hpi : (gc l i).pr ≤ 15 := by rw [gc_at hil]; exact hp _ (List.getElem_mem hil)
  have e : fst l R l.length = (rix l R).foldl (fun m i => min m (gc l i).pr) 16 := rfl
  rw [e]
  rcases hf.2.2 with h2 | ⟨j, hj, h2⟩
  · omega
  · have := best_le hj
    omega
/-- The places, below t, of the channels that are ready and have the smallest priority. -/
def ato (l : List Ch) (R : List Int) (f : Int) (t : Nat) : List Nat := (upto l R t).filter fun i => !decide ((gc l i).pr ≠ f)
theorem ato_succ (l : List Ch) (R : List Int) (f : Int) (t : Nat) : ato l R f (t + 1) = if (gc l t).pr = f ∧ rdy R (gc l t) = true then ato l R f t ++ [t] else ato l R f t := by
  unfold ato
  rw [upto_succ]
  by_cases h : rdy R (gc l t) = true
  · rw [if_pos h, List.filter_append]
    by_cases h2 : (gc l t).pr = f
    · rw [if_pos ⟨h2, h⟩]; simp [h2]
    · rw [if_neg (fun hh => h2 hh.1)]; simp [h2]
  · rw [if_neg h, if_neg (fun hh => h hh.2)]
theorem ato_all (l : List Ch) (R : List Int) : ato l R (best l R) l.length = aix l R := rfl
theorem ato_lt {l : List Ch} {R : List Int} {f : Int} {t i : Nat} (h : i ∈ ato l R f t) : i < t := upto_lt (List.mem_filter.1 h).1
/-- The best place so far, or -1. -/
def bst (l : List Ch) (A : List Nat) : Int := match A with | [] => -1 | x :: A' => (minF (crB (bump (x :: A') l)) (x :: A') : Nat)
theorem crB_bump {l : List Ch} {A B : List Nat} {i k : Nat} (hi : i < l.length) (hk : k < l.length) (h1 : i ∈ A) (h2 : k ∈ A) (h3 : i ∈ B) (h4 : k ∈ B) : crB (bump A l) i k = crB (bump B l) i k := by
  unfold crB
  rw [bump_gc A hi, bump_gc A hk, bump_gc B hi, bump_gc B hk, if_pos h1, if_pos h2, if_pos h3, if_pos h4]
theorem minF_congr {f g : Nat → Nat → Bool} : ∀ (A : List Nat) (x : Nat), (∀ i ∈ x :: A, ∀ k ∈ x :: A, f i k = g i k) → A.foldl (fun m i => if f i m = true then i else m) x = A.foldl (fun m i => if g i m = true then i else m) x
  | [], _, _ => rfl
  | y :: A, x, h => by
    rw [List.foldl_cons, List.foldl_cons, h y (by simp) x (by simp)]
    exact minF_congr A _ (fun i hi k hk => h i (by
      rcases List.mem_cons.1 hi with rfl | hi
      · split <;> simp
      · simp [hi]) k (by
      rcases List.mem_cons.1 hk with rfl | hk
      · split <;> simp
      · simp [hk]))
theorem bst_snoc {l : List Ch} {A : List Nat} {i : Nat} (hA : ∀ j ∈ A, j < l.length) (hi : i < l.length) : bst l (A ++ [i]) = if bst l A < 0 ∨ crB (bump (A ++ [i]) l) i (bst l A).toNat = true then (i : Int) else bst l A := by
  cases A with
  | nil => rfl
  | cons x A =>
    have e1 : bst l (x :: A ++ [i]) = ((minF (crB (bump (x :: A ++ [i]) l)) (x :: A ++ [i]) : Nat) : Int) := rfl
    have e2 : bst l (x :: A) = ((minF (crB (bump (x :: A) l)) (x :: A) : Nat) : Int) := rfl
    have e3 : minF (crB (bump (x :: A) l)) (x :: A) = minF (crB (bump (x :: A ++ [i]) l)) (x :: A) := by
      refine minF_congr A x (fun a ha b hb => crB_bump (hA a ha) (hA b hb) ha hb (by simp at ha ⊢; rcases ha with h | h <;> simp [h]) (by simp at hb ⊢; rcases hb with h | h <;> simp [h]))
    rw [e1, e2, e3, minF_snoc _ _ _ (by simp), Int.toNat_natCast]
    by_cases hc : crB (bump (x :: A ++ [i]) l) i (minF (crB (bump (x :: A ++ [i]) l)) (x :: A)) = true
    · rw [if_pos hc, if_pos (.inr hc)]
    · rw [if_neg hc, if_neg (fun hh => by rcases hh with h | h; omega; exact hc h)]
theorem bst_ok {l : List Ch} {A : List Nat} (hA : ∀ j ∈ A, j < l.length) : bst l A = -1 ∨ ∃ k ∈ A, bst l A = (k : Int) := by
  cases A with
  | nil => exact .inl rfl
  | cons x A => exact .inr ⟨_, minF_mem _ _ (by simp), rfl⟩

/-! ### The reference's Next -/
theorem flat_same {α : Type} (f : α → List Value) {l : List α} {i : Nat} (h : i < l.length) {y : α} (hy : f y = f l[i]) : (l.set i y).flatMap f = l.flatMap f := by
  have e6 : l.set i y = l.take i ++ y :: l.drop (i + 1) := List.set_eq_take_append_cons_drop .. |>.trans (by rw [if_pos h])
  have e3 : l.flatMap f = (l.take i).flatMap f ++ (f l[i] ++ (l.drop (i + 1)).flatMap f) := by
    conv => lhs; rw [← List.take_append_drop i l, List.drop_eq_getElem_cons h]
    rw [List.flatMap_append, List.flatMap_cons]
  rw [e6, e3, List.flatMap_append, List.flatMap_cons, hy]
theorem map_same {α : Type} (f : α → Value) {l : List α} {i : Nat} (h : i < l.length) {y : α} (hy : f y = f l[i]) : (l.set i y).map f = l.map f := by
  rw [List.map_set, hy]
  apply List.ext_getElem
  · simp
  · intro j h1 h2
    rw [List.getElem_set]
    split
    · rename_i e; subst e; rw [List.getElem_map]
    · rfl
def Ch.wcr (c : Ch) (v : Int) : Ch := ⟨c.id, c.pr, c.wt, v, c.sn⟩
def Ch.wsn (c : Ch) (v : Int) : Ch := ⟨c.id, c.pr, c.wt, c.cr, v⟩
section
variable {w : World} {r x y : Nat} {l : List Ch} (h : Rm w r x y l)
include h
theorem Rm.ap : r ≠ x ∧ r ≠ y ∧ ∃ a c, Blk w r 30 [.slice a l.length c, .slice (some (base x)) l.length l.length, .slice (some (base y)) l.length l.length] ∧ Own w 35 3 a l.length c (l.flatMap chc) ∧ x ∉ fp a ∧ y ∉ fp a := by
  obtain ⟨⟨a, c, hb, ho⟩, h1, h2, h3⟩ := h
  exact ⟨Blk.ne hb h1 (by decide), Blk.ne hb h2 (by decide), a, c, hb, ho, ho.ne h1 (by decide), ho.ne h2 (by decide)⟩
theorem Rm.putCr {i : Nat} (hi : i < l.length) (v : Int) {K : World → Prop} (hK : ∀ w', Rm w' r x y (l.set i (l[i].wcr v)) → Mod [x] w w' → K w') : Put w ((base x).add i) (.int .i64 v) K := by
  obtain ⟨n1, n2, a, c, hb, ho, f1, f2⟩ := h.ap
  refine Put.use h.cr (by simpa using hi) fun w' h' m => hK w' ⟨⟨a, c, ?_, ?_⟩, ?_, ?_, h.ne⟩ m
  · rw [List.length_set]; exact hb.mod m (by simpa using n1)
  · rw [List.length_set, flat_same chc hi (y := l[i].wcr v) rfl]; exact ho.mod m (fun q hq hq' => by simp at hq'; subst hq'; exact f1 hq)
  · rw [List.map_set]; exact h'
  · rw [map_same (fun c : Ch => .int .i64 c.sn) hi (y := l[i].wcr v) rfl]; exact h.sn.mod m (by simpa using h.ne.symm)
theorem Rm.putSn {i : Nat} (hi : i < l.length) (v : Int) {K : World → Prop} (hK : ∀ w', Rm w' r x y (l.set i (l[i].wsn v)) → Mod [y] w w' → K w') : Put w ((base y).add i) (.int .i64 v) K := by
  obtain ⟨n1, n2, a, c, hb, ho, f1, f2⟩ := h.ap
  refine Put.use h.sn (by simpa using hi) fun w' h' m => hK w' ⟨⟨a, c, ?_, ?_⟩, ?_, ?_, h.ne⟩ m
  · rw [List.length_set]; exact hb.mod m (by simpa using n2)
  · rw [List.length_set, flat_same chc hi (y := l[i].wsn v) rfl]; exact ho.mod m (fun q hq hq' => by simp at hq'; subst hq'; exact f2 hq)
  · rw [map_same (fun c : Ch => .int .i64 c.cr) hi (y := l[i].wsn v) rfl]; exact h.cr.mod m (by simpa using h.ne)
  · rw [List.map_set]; exact h'
end
theorem rc0 {w : World} {p : Addr} {c : Ch} {i : Nat} (hc : ∀ j v, (chc c)[j]? = some v → w.cell? ((p.add (i * 3)).add j) = some v) : w.cell? (p.add (i * 3)) = some (.int .i64 c.id) := by
  have := hc 0 _ rfl; rw [add_zero] at this; exact this
theorem rnext_ok {w : World} {r x y : Nat} {l : List Ch} (h : Rm w r x y l) {ra : Option Addr} {R : List Int} (rc : Nat) (hr : Rd w ra (R.map iv)) (hR : R.length ≤ 9223372036854775807) (hl : l.length ≤ 1000) (hp : ∀ c ∈ l, c.pr ≤ 15) (hxr : ∀ q ∈ fpv ra (R.map iv), q ≠ x ∧ q ≠ y) :
    Does Try.prog 14 #[.pointer (some (base r)), .slice ra R.length rc] w fun v w' => v = .int .i64 (if rix l R = [] then -1 else (sel l R : Int)) ∧ Rm w' r x y (nxtL l R) ∧ Mod [x, y] w w' := by
  apply w14
  unfold F14
  refine LoopP.of (fun (s : Int × Int) w' => w' = w ∧ ∃ t : Nat, t ≤ l.length ∧ s = (fst l R t, (t : Int))) (fun s _ => l.length - s.2.toNat) ⟨rfl, 0, by omega, rfl⟩ ?_
  rintro _ w0 ⟨e0, t, ht, rfl⟩
  rw [e0]
  clear e0 w0
  obtain ⟨n1, n2, a, c, hb, ho, f1, f2⟩ := h.ap
  unfold F14_b1
  dsimp only
  refine ⟨_, rfl, _, _, _, hb.cell0, iteI (fun hlt => ?_) (fun hlt => ?_)⟩
  · have hlt : t < l.length := by omega
    have e1 : IntKind.i64.wrap ((t : Int) + 1) = ((t + 1 : Nat) : Int) := by rw [wi64 (by omega)]; omega
    rw [e1]
    obtain ⟨p, hpp, hc⟩ := ho.rd.flat (chc_len _) (by decide) hlt
    refine ⟨_, _, _, hb.cell0, p, hpp, by omega, by omega, _, rc0 hc, (has_ok rc hr hR _).mono ?_⟩
    rintro _ _ ⟨rfl, rfl⟩
    refine ⟨_, rfl, iteI (fun hh => ?_) (fun hh => ?_)⟩
    · refine ⟨_, _, _, hb.cell0, p, hpp, by omega, by omega, _, hc 1 _ rfl, _, by omega, ⟨rfl, t + 1, by omega, ?_⟩, rfl⟩
      rw [fst_succ, if_pos (by unfold rdy; rw [gc_at hlt]; exact hh), gc_at hlt]
    · refine ⟨_, by omega, ⟨rfl, t + 1, by omega, ?_⟩, rfl⟩
      rw [fst_succ, if_neg (by unfold rdy; rw [gc_at hlt]; exact hh)]
  have htl : t = l.length := by omega
  subst htl
  clear hlt ht
  generalize hf : fst l R l.length = f
  have hA : ato l R f l.length = aix l R := by
    by_cases h0 : rix l R = []
    · have e1 : aix l R = [] := by unfold aix; rw [h0]; rfl
      have e2 : ato l R f l.length = [] := by unfold ato; rw [show upto l R l.length = rix l R from rfl, h0]; rfl
      rw [e1, e2]
    · rw [← hf, fst_best hp h0]; rfl
  have hlt' : ∀ {t i : Nat}, t ≤ l.length → i ∈ ato l R f t → i < l.length := fun ht hi => by have := ato_lt hi; omega
  refine LoopP.of (fun (s : Int × Int × Int) w' => ∃ t : Nat, t ≤ l.length ∧ s = (bst l (ato l R f t), sumW l (ato l R f t), (t : Int)) ∧ Rm w' r x y (bump (ato l R f t) l) ∧ Mod [x] w w') (fun s _ => l.length - s.2.2.toNat) ⟨0, by omega, rfl, ?_, Mod.refl _⟩ ?_
  · show Rm w r x y (bump [] l)
    rw [bump_nil]; exact h
  rintro _ w1 ⟨t, ht, rfl, X, m1⟩
  have hr1 : ∀ {w'}, Mod [x] w w' → Rd w' ra (R.map iv) := fun m => hr.modv m (fun q hq hq' => by simp at hq'; exact (hxr q hq).1 hq')
  generalize hAt : ato l R f t = A at *
  have hbl := bump_len A l
  have hAm : ∀ i ∈ A, i < t ∧ i < l.length := fun i hi => by have := ato_lt (hAt ▸ hi); omega
  obtain ⟨n1', n2', a', c', hb1, ho1, f1', f2'⟩ := X.ap
  rw [hbl] at hb1 ho1
  unfold F14_b2
  dsimp only
  refine ⟨_, _, _, hb1.cell0, iteI (fun hlt => ?_) (fun hlt => ?_)⟩
  · have hlt : t < l.length := by omega
    have e1 : IntKind.i64.wrap ((t : Int) + 1) = ((t + 1 : Nat) : Int) := by rw [wi64 (by omega)]; omega
    rw [e1]
    have hltb : t < (bump A l).length := by omega
    have htn : t ∉ A := fun hh => by have := (hAm t hh).1; omega
    have hval : (bump A l)[t] = gc l t := by rw [← gc_at hltb, bump_gc _ hlt, if_neg htn]
    obtain ⟨p, hpp, hc⟩ := ho1.rd.flat (chc_len _) (by decide) hltb
    rw [hval] at hc
    have skip : ¬ ((gc l t).pr = f ∧ rdy R (gc l t) = true) → ∀ w' : World, Rm w' r x y (bump A l) → Mod [x] w w' → ∃ m, m < l.length - ((bst l A, sumW l A, (t : Int)) : Int × Int × Int).2.2.toNat ∧ (∃ t' : Nat, t' ≤ l.length ∧ (bst l A, sumW l A, ((t + 1 : Nat) : Int)) = (bst l (ato l R f t'), sumW l (ato l R f t'), (t' : Int)) ∧ Rm w' r x y (bump (ato l R f t') l) ∧ Mod [x] w w') ∧ l.length - ((bst l A, sumW l A, ((t + 1 : Nat) : Int)) : Int × Int × Int).2.2.toNat = m := by
      intro hn w' X' m'
      have e : ato l R f (t + 1) = A := by rw [ato_succ, if_neg hn, hAt]
      exact ⟨_, by simp only; omega, ⟨t + 1, by omega, by rw [e], by rw [e]; exact X', m'⟩, rfl⟩
    refine ⟨_, _, _, hb1.cell0, p, hpp, by omega, by omega, _, hc 1 _ rfl, iteI (fun hpr => skip (fun hh => hpr hh.1) w1 X m1) (fun hpr => ?_)⟩
    refine ⟨_, _, _, hb1.cell0, p, hpp, by omega, by omega, _, rc0 hc, (has_ok rc (hr1 m1) hR _).mono ?_⟩
    rintro _ _ ⟨rfl, rfl⟩
    refine ⟨_, rfl, iteI (fun hh => skip (fun h2 => by have := h2.2; unfold rdy at this; rw [this] at hh; simp at hh) w1 X m1) (fun hh => ?_)⟩
    have hrd : rdy R (gc l t) = true := by unfold rdy; simpa using hh
    have hpf : (gc l t).pr = f := Classical.byContradiction hpr
    have eA : ato l R f (t + 1) = A ++ [t] := by rw [ato_succ, if_pos ⟨hpf, hrd⟩, hAt]
    have md : Mod [] w1 w1.drew := Mod.drew w1
    have X2 := X.mod0 md
    have hb2 := hb1.mod md (by simp)
    have hc2 : ∀ j v, (chc (gc l t))[j]? = some v → w1.drew.cell? ((p.add (t * 3)).add j) = some v := hc
    have hcr : w1.drew.cell? ((base x).add t) = some (.int .i64 (gc l t).cr) := by
      refine X2.cr.cell ?_
      rw [List.getElem?_map, List.getElem?_eq_getElem hltb, hval]
      rfl
    refine ⟨_, _, _, hb2.cell (i := 1) rfl, _, _, _, hb2.cell (i := 1) rfl, _, rfl, by omega, by omega, _, hcr, _, _, _, hb2.cell0, p, hpp, by omega, by omega, _, hc2 2 _ rfl, _, rfl, by omega, by omega, ?_⟩
    refine X2.putCr hltb _ fun w3 X3 m3 => ?_
    have ebump : (bump A l).set t ((bump A l)[t].wcr (IntKind.i64.wrap ((gc l t).cr + (gc l t).wt))) = bump (A ++ [t]) l := by
      rw [bump_snoc A hlt htn, hval]; rfl
    rw [ebump] at X3
    have M3 : Mod [x] w w3 := (m1.none md).same m3
    have hbl3 := bump_len (A ++ [t]) l
    have hltb3 : t < (bump (A ++ [t]) l).length := by omega
    obtain ⟨_, _, a3, c3, hb3, ho3, _, _⟩ := X3.ap
    rw [hbl3] at hb3 ho3
    obtain ⟨p3, hp3, hc3⟩ := ho3.rd.flat (chc_len _) (by decide) hltb3
    have hval3 : (bump (A ++ [t]) l)[t] = up (gc l t) := by rw [← gc_at hltb3, bump_gc _ hlt, if_pos (by simp)]
    rw [hval3] at hc3
    refine ⟨_, _, _, hb3.cell0, p3, hp3, by omega, by omega, _, hc3 2 _ rfl, ?_⟩
    -- the step's end
    have fin : ∀ (w' : World), Mod [] w3 w' → ∀ b : Bool, b = decide (bst l A < 0 ∨ crB (bump (A ++ [t]) l) t (bst l A).toNat = true) → F14_j3 (t : Int) (sumW l A) (up (gc l t)).wt (bst l A) b w' (fun x0 x1 x2 w => ∃ m, m < l.length - ((bst l A, sumW l A, (t : Int)) : Int × Int × Int).2.2.toNat ∧ (∃ t' : Nat, t' ≤ l.length ∧ (x0, x1, x2) = (bst l (ato l R f t'), sumW l (ato l R f t'), (t' : Int)) ∧ Rm w r x y (bump (ato l R f t') l) ∧ Mod [x] w1 w) ∧ l.length - (x0, x1, x2).2.2.toNat = m) → True := by
      intros; trivial
    have fin2 : ∀ (w' : World), Mod [] w3 w' → ∀ b : Bool, b = decide (bst l A < 0 ∨ crB (bump (A ++ [t]) l) t (bst l A).toNat = true) → ∀ nx : Int → Int → Int → World → Prop, (nx (bst l (ato l R f (t + 1))) (sumW l (ato l R f (t + 1))) ((t + 1 : Nat) : Int) w') → F14_j3 (t : Int) (sumW l A) (up (gc l t)).wt (bst l A) b w' nx := by
      intro w' m' b hbd nx hnx
      unfold F14_j3
      have hs : IntKind.i64.wrap (sumW l A + (up (gc l t)).wt) = sumW l (ato l R f (t + 1)) := by rw [eA, sumW_snoc]; rfl
      have hbs : bst l (ato l R f (t + 1)) = if bst l A < 0 ∨ crB (bump (A ++ [t]) l) t (bst l A).toNat = true then (t : Int) else bst l A := by rw [eA]; exact bst_snoc (fun j hj => (hAm j hj).2) hlt
      rw [hs, e1]
      rw [hbs] at hnx
      subst hbd
      refine iteI (fun hd => ?_) (fun hd => ?_)
      · rw [if_pos (of_decide_eq_true hd)] at hnx; exact hnx
      · rw [if_neg (fun hh => hd (decide_eq_true hh))] at hnx; exact hnx
    have goalnx : ∀ w' : World, Mod [] w3 w' → ∃ m, m < l.length - ((bst l A, sumW l A, (t : Int)) : Int × Int × Int).2.2.toNat ∧ (∃ t' : Nat, t' ≤ l.length ∧ (bst l (ato l R f (t + 1)), sumW l (ato l R f (t + 1)), ((t + 1 : Nat) : Int)) = (bst l (ato l R f t'), sumW l (ato l R f t'), (t' : Int)) ∧ Rm w' r x y (bump (ato l R f t') l) ∧ Mod [x] w w') ∧ l.length - ((bst l (ato l R f (t + 1)), sumW l (ato l R f (t + 1)), ((t + 1 : Nat) : Int)) : Int × Int × Int).2.2.toNat = m := by
      intro w' m'
      refine ⟨_, by simp only; omega, ⟨t + 1, by omega, rfl, by rw [eA]; exact X3.mod0 m', M3.none m'⟩, rfl⟩
    have md3 : Mod [] w3 w3.drew := Mod.drew w3
    refine iteI (fun hneg => fin2 _ md3 true (by rw [decide_eq_true (Or.inl hneg)]) _ (goalnx _ md3)) (fun hneg => ?_)
    obtain ⟨k, hkA, hk⟩ : ∃ k ∈ A, bst l A = (k : Int) := by
      rcases bst_ok (l := l) (A := A) (fun j hj => (hAm j hj).2) with h0 | h0
      · omega
      · exact h0
    have hkl := (hAm k hkA).2
    have X4 := X3.mod0 md3
    have hb4 := hb3.mod md3 (by simp)
    have hkb : k < (bump (A ++ [t]) l).length := by omega
    have hc4 : ∀ j v, (chc (up (gc l t)))[j]? = some v → w3.drew.cell? ((p3.add (t * 3)).add j) = some v := hc3
    have hcrt : w3.drew.cell? ((base x).add t) = some (.int .i64 (gc (bump (A ++ [t]) l) t).cr) := by
      refine X4.cr.cell ?_
      rw [List.getElem?_map, List.getElem?_eq_getElem hltb3, gc_at hltb3]
      rfl
    have hcrk : w3.drew.cell? ((base x).add k) = some (.int .i64 (gc (bump (A ++ [t]) l) k).cr) := by
      refine X4.cr.cell ?_
      rw [List.getElem?_map, List.getElem?_eq_getElem hkb, gc_at hkb]
      rfl
    obtain ⟨p4, hp4, hd4⟩ := (ho3.rd.mod md3 (by simp)).flat (chc_len _) (by decide) hkb
    rw [hp3] at hp4
    cases hp4
    have hdec : ∀ b : Bool, (b = true ↔ crB (bump (A ++ [t]) l) t k = true) → b = decide (bst l A < 0 ∨ crB (bump (A ++ [t]) l) t (bst l A).toNat = true) := by
      intro b hb
      rw [hk, Int.toNat_natCast]
      cases b with
      | true => rw [decide_eq_true (Or.inr (hb.1 rfl))]
      | false => rw [decide_eq_false (fun hh => by rcases hh with h | h; omega; have := hb.2 h; cases this)]
    have hcB : crB (bump (A ++ [t]) l) t k = true ↔ ((gc (bump (A ++ [t]) l) k).cr < (gc (bump (A ++ [t]) l) t).cr ∨ ((gc (bump (A ++ [t]) l) k).cr = (gc (bump (A ++ [t]) l) t).cr ∧ (gc (bump (A ++ [t]) l) t).id < (gc (bump (A ++ [t]) l) k).id)) := by unfold crB; rw [decide_eq_true_iff]
    have hidt : (gc (bump (A ++ [t]) l) t).id = (up (gc l t)).id := by rw [gc_at hltb3, hval3]
    have hidk : (gc (bump (A ++ [t]) l) k).id = (bump (A ++ [t]) l)[k].id := by rw [gc_at hkb]
    refine ⟨_, _, _, hb4.cell (i := 1) rfl, _, rfl, by omega, by omega, _, hcrt, _, _, _, hb4.cell (i := 1) rfl, _, rfl, by omega, by omega, _, by rw [hk, Int.toNat_natCast]; exact hcrk, iteI (fun hgt => ?_) (fun hgt => ?_)⟩
    · exact fin2 _ md3 true (hdec true ⟨fun _ => hcB.2 (.inl hgt), fun _ => rfl⟩) _ (goalnx _ md3)
    · refine ⟨_, _, _, hb4.cell (i := 1) rfl, _, rfl, by omega, by omega, _, hcrt, _, _, _, hb4.cell (i := 1) rfl, _, rfl, by omega, by omega, _, by rw [hk, Int.toNat_natCast]; exact hcrk, iteI (fun heq => ?_) (fun heq => ?_)⟩
      · refine ⟨_, _, _, hb4.cell0, p3, hp3, by omega, by omega, _, rc0 hc4, _, _, _, hb4.cell0, p3, hp3, by omega, by omega, _, by rw [hk, Int.toNat_natCast]; exact rc0 hd4, ?_⟩
        refine fin2 _ md3 _ (hdec _ ?_) _ (goalnx _ md3)
        rw [hcB, hidt, hidk, decide_eq_true_iff]
        exact ⟨fun h => .inr ⟨heq.symm, h⟩, fun h => by rcases h with h | h; omega; exact h.2⟩
      · refine fin2 _ md3 false (hdec false ⟨fun h => (by cases h), fun h => ?_⟩) _ (goalnx _ md3)
        rcases hcB.1 h with h | h
        · omega
        · omega
  · have htl : t = l.length := by omega
    subst htl
    rw [hA] at hAt
    subst hAt
    by_cases h0 : rix l R = []
    · have e1 : aix l R = [] := by unfold aix; rw [h0]; rfl
      rw [e1]
      rw [if_neg (by show ¬ (0 : Int) ≤ -1; omega), if_pos h0]
      rw [e1, bump_nil] at X
      refine ⟨rfl, ?_, m1.weaken (by simp)⟩
      unfold nxtL
      rw [if_pos h0]
      exact X
    · have hne := aix_ne h0
      have hb : bst l (aix l R) = (sel l R : Int) := by
        unfold sel
        cases hAA : aix l R with
        | nil => exact absurd hAA hne
        | cons a A => rfl
      have hsl : sel l R < l.length := aix_lt (minF_mem _ _ hne)
      rw [hb, if_pos (by omega), if_neg h0]
      have hnL : nxtL l R = (bump (aix l R) l).modify (sel l R) (pay (sumW l (aix l R))) := by unfold nxtL; rw [if_neg h0]
      rw [hnL]
      generalize sel l R = k at *
      have md : Mod [] w1 w1.drew := Mod.drew w1
      have X2 := X.mod0 md
      have hb2 := hb1.mod md (by simp)
      have hkb : k < (bump (aix l R) l).length := by omega
      have hcr : w1.drew.cell? ((base x).add k) = some (.int .i64 (bump (aix l R) l)[k].cr) := by
        refine X2.cr.cell ?_
        rw [List.getElem?_map, List.getElem?_eq_getElem hkb]
        rfl
      refine ⟨_, _, _, hb2.cell (i := 1) rfl, _, _, _, hb2.cell (i := 1) rfl, _, rfl, by omega, by omega, _, hcr, _, rfl, by omega, by omega, ?_⟩
      refine X2.putCr hkb _ fun w3 X3 m3 => ?_
      have md3 : Mod [] w3 w3.drew := Mod.drew w3
      have X4 := X3.mod0 md3
      obtain ⟨_, _, a4, c4, hb4, ho4, _, _⟩ := X4.ap
      rw [List.length_set, hbl] at hb4
      have hk4 : k < ((bump (aix l R) l).set k ((bump (aix l R) l)[k].wcr (IntKind.i64.wrap ((bump (aix l R) l)[k].cr - sumW l (aix l R))))).length := by rw [List.length_set]; exact hkb
      have hsn : w3.drew.cell? ((base y).add k) = some (.int .i64 (bump (aix l R) l)[k].sn) := by
        refine X4.sn.cell ?_
        rw [List.getElem?_map, List.getElem?_eq_getElem hk4, List.getElem_set_self]
        rfl
      refine ⟨_, _, _, hb4.cell (i := 2) rfl, _, _, _, hb4.cell (i := 2) rfl, _, rfl, by omega, by omega, _, hsn, _, rfl, by omega, by omega, ?_⟩
      refine X4.putSn hk4 _ fun w5 X5 m5 => ⟨rfl, ?_, ?_⟩
      · rw [List.set_set] at X5
        have efin : (bump (aix l R) l).modify k (pay (sumW l (aix l R))) = (bump (aix l R) l).set k (pay (sumW l (aix l R)) (bump (aix l R) l)[k]) := by
          apply List.ext_getElem
          · rw [List.length_set, List.length_modify]
          · intro j h1 h2
            rw [List.getElem_set, List.getElem_modify]
            by_cases hkj : k = j
            · subst hkj; simp
            · rw [if_neg hkj, if_neg hkj]
        rw [efin]
        simp only [List.getElem_set_self] at X5
        exact X5
      · exact (((m1.none md).same m3).none md3).weaken (S' := [x, y]) (fun q hq => .inl (by simp at hq; simp [hq])) |>.trans m5 (fun q hq => .inl (by simp at hq; simp [hq]))
end Go.Proofs.Ytjjhghcaecodpaa
