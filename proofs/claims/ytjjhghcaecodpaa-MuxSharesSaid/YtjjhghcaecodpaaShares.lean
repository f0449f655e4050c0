/-
  Chapter 22, plain: channels of one priority that are always ready are selected as often as their weights say.
-/
import Derived.Test.YtjjhghcaecodpaaLaws
namespace Go.Proofs.Ytjjhghcaecodpaa
open Go Go.Sh Go.Proofs
set_option linter.unusedVariables false
set_option linter.unusedSimpArgs false
set_option linter.unusedSectionVars false

theorem newE_zero : ∀ (L pre : List Ch), (∀ c ∈ L, okC c) → (L.Pairwise fun a b => a.id ≠ b.id) → (∀ a ∈ pre, ∀ b ∈ L, a.id ≠ b.id) → newE pre L = 0
  | [], _, _, _, _ => rfl
  | c :: r, pre, h1, h2, h3 => by
    rw [List.pairwise_cons] at h2
    unfold newE
    rw [if_neg (fun h => h (h1 c (by simp))), if_neg]
    · exact newE_zero r (pre ++ [c]) (fun x hx => h1 x (by simp [hx])) h2.2 (fun a ha b hb => by
        rcases List.mem_append.1 ha with ha | ha
        · exact h3 a ha b (by simp [hb])
        · simp at ha; subst ha; exact h2.1 b hb)
    · intro h
      unfold hasId at h
      rw [List.any_eq_true] at h
      obtain ⟨a, ha, he⟩ := h
      exact h3 a ha c (by simp) (of_decide_eq_true he)

/-! ### Sums -/
def tot (f : Ch → Int) (l : List Ch) : Int := (l.map f).sum
theorem tot_lin (f g h : Ch → Int) (a b : Int) : ∀ l : List Ch, (∀ c ∈ l, f c = a * g c + b * h c) → tot f l = a * tot g l + b * tot h l
  | [], _ => by simp [tot]
  | c :: l, hf => by
    have ih := tot_lin f g h a b l (fun x hx => hf x (by simp [hx]))
    have hc := hf c (by simp)
    unfold tot at ih ⊢
    rw [List.map_cons, List.sum_cons, List.map_cons, List.sum_cons, List.map_cons, List.sum_cons, ih, hc, Int.mul_add, Int.mul_add]
    omega
theorem tot_le (f g : Ch → Int) : ∀ l : List Ch, (∀ c ∈ l, f c ≤ g c) → tot f l ≤ tot g l
  | [], _ => by simp [tot]
  | c :: l, h => by
    have ih := tot_le f g l (fun x hx => h x (by simp [hx]))
    have hc := h c (by simp)
    unfold tot at ih ⊢
    rw [List.map_cons, List.sum_cons, List.map_cons, List.sum_cons]
    omega
theorem tot_eq (f g : Ch → Int) : ∀ l : List Ch, (∀ c ∈ l, f c ≤ g c) → tot f l = tot g l → ∀ c ∈ l, f c = g c
  | [], _, _, c, hc => by cases hc
  | x :: l, h, he, c, hc => by
    have h1 := tot_le f g l (fun y hy => h y (by simp [hy]))
    have h2 := h x (by simp)
    have he' : f x + tot f l = g x + tot g l := he
    rcases List.mem_cons.1 hc with rfl | hc
    · omega
    · exact tot_eq f g l (fun y hy => h y (by simp [hy])) (by omega) c hc
theorem tot_modify (f : Ch → Int) (g : Ch → Ch) : ∀ (l : List Ch) (k : Nat) (h : k < l.length), tot f (l.modify k g) = tot f l + (f (g l[k]) - f l[k])
  | [], _, h => by simp at h
  | c :: l, 0, _ => by
    unfold tot
    simp
    omega
  | c :: l, k + 1, h => by
    have ih := tot_modify f g l k (by simpa using h)
    unfold tot at ih ⊢
    rw [List.modify_succ_cons, List.map_cons, List.sum_cons, ih, List.map_cons, List.sum_cons]
    simp only [List.getElem_cons_succ]
    omega
theorem tot_map (f : Ch → Int) (g : Ch → Ch) (l : List Ch) : tot f (l.map g) = tot (fun c => f (g c)) l := by
  unfold tot
  rw [List.map_map]
  rfl

theorem tot_zero (l : List Ch) : tot (fun _ => 0) l = 0 := by
  induction l with
  | nil => rfl
  | cons c l ih =>
    unfold tot at ih ⊢
    rw [List.map_cons, List.sum_cons, ih]
    rfl

/-! ### One round -/
/-- All of one priority, each at the place of its number, weights from 1 to 20. -/
structure Al (l : List Ch) : Prop where
  id : ∀ i (h : i < l.length), l[i].id = (i : Int)
  pr : ∀ c ∈ l, c.pr = 2
  wt : ∀ c ∈ l, 1 ≤ c.wt ∧ c.wt ≤ 20
def ids (n : Nat) : List Int := (List.range n).map fun (i : Nat) => (i : Int)
section
variable {l : List Ch} (h : Al l)
include h
theorem Al.rix : rix l (ids l.length) = List.range l.length := by
  unfold Go.Proofs.Ytjjhghcaecodpaa.rix upto
  rw [List.filter_eq_self]
  intro i hi
  have hi := List.mem_range.1 hi
  unfold rdy
  rw [gc_at hi, h.id i hi]
  exact decide_eq_true (List.mem_map.2 ⟨i, List.mem_range.2 hi, rfl⟩)
theorem Al.aix (hne : l ≠ []) : aix l (ids l.length) = List.range l.length := by
  have hr := h.rix
  have hlen : 0 < l.length := List.length_pos_iff.2 hne
  have hrne : Go.Proofs.Ytjjhghcaecodpaa.rix l (ids l.length) ≠ [] := by rw [hr]; intro hh; have := congrArg List.length hh; simp at this; exact hne this
  obtain ⟨i, hi, hb⟩ := best_at hrne
  rw [hr] at hi
  have hi := List.mem_range.1 hi
  have hb2 : best l (ids l.length) = 2 := by rw [hb, gc_at hi]; exact h.pr _ (List.getElem_mem hi)
  unfold Go.Proofs.Ytjjhghcaecodpaa.aix
  rw [hr, List.filter_eq_self, hb2]
  intro j hj
  have hj := List.mem_range.1 hj
  rw [gc_at hj, h.pr _ (List.getElem_mem hj)]
  rfl
theorem Al.bump : bump (List.range l.length) l = l.map up := by
  apply List.ext_getElem
  · rw [bump_len, List.length_map]
  · intro i h1 h2
    rw [bump_len] at h1
    simp only [Go.Proofs.Ytjjhghcaecodpaa.bump, List.getElem_mapIdx, List.getElem_map]
    rw [if_pos (List.mem_range.2 h1)]
theorem Al.sum (hl : l.length ≤ 8) : sumW l (List.range l.length) = tot (·.wt) l := by
  have key : ∀ t, t ≤ l.length → sumW l (List.range t) = tot (·.wt) (l.take t) ∧ 0 ≤ tot (·.wt) (l.take t) ∧ tot (·.wt) (l.take t) ≤ 20 * t := by
    intro t
    induction t with
    | zero => intro _; exact ⟨rfl, by simp [tot], by simp [tot]⟩
    | succ t ih =>
      intro ht
      obtain ⟨e1, e2, e3⟩ := ih (by omega)
      have hw := h.wt l[t] (List.getElem_mem (by omega))
      have et : tot (·.wt) (l.take (t + 1)) = tot (·.wt) (l.take t) + l[t].wt := by
        rw [List.take_succ_eq_append_getElem (by omega)]
        unfold tot
        rw [List.map_append, List.sum_append]
        simp
      rw [List.range_succ, sumW_snoc, e1, et, gc_at (by omega)]
      unfold wr
      rw [wi64 (by omega)]
      exact ⟨rfl, by omega, by omega⟩
  have := (key l.length (Nat.le_refl _)).1
  rwa [List.take_length] at this
end
theorem foldl_max (l : List Ch) : ∀ (A : List Nat) (x : Nat), (gc l x).cr ≤ (gc l (A.foldl (fun m i => if crB l i m = true then i else m) x)).cr ∧ ∀ i ∈ A, (gc l i).cr ≤ (gc l (A.foldl (fun m i => if crB l i m = true then i else m) x)).cr
  | [], x => ⟨by simp, by simp⟩
  | y :: A, x => by
    rw [List.foldl_cons]
    obtain ⟨h1, h2⟩ := foldl_max l A (if crB l y x = true then y else x)
    have hc : crB l y x = true ↔ ((gc l x).cr < (gc l y).cr ∨ ((gc l x).cr = (gc l y).cr ∧ (gc l y).id < (gc l x).id)) := by unfold crB; rw [decide_eq_true_iff]
    by_cases h : crB l y x = true
    · rw [if_pos h] at h1 h2 ⊢
      have := hc.1 h
      refine ⟨by omega, fun i hi => ?_⟩
      rcases List.mem_cons.1 hi with rfl | hi
      · omega
      · exact h2 i hi
    · rw [if_neg h] at h1 h2 ⊢
      have h3 : ¬ (gc l x).cr < (gc l y).cr := fun hh => h (hc.2 (.inl hh))
      refine ⟨h1, fun i hi => ?_⟩
      rcases List.mem_cons.1 hi with rfl | hi
      · omega
      · exact h2 i hi
theorem minF_max (l : List Ch) (A : List Nat) : ∀ i ∈ A, (gc l i).cr ≤ (gc l (minF (crB l) A)).cr := by
  cases A with
  | nil => intro i hi; cases hi
  | cons x A =>
    intro i hi
    rcases List.mem_cons.1 hi with rfl | hi
    · exact (foldl_max l A i).1
    · exact (foldl_max l A x).2 i hi

/-- After t rounds. -/
structure Rnd (s l : List Ch) (t : Nat) : Prop where
  len : l.length = s.length
  at_ : ∀ i (h : i < s.length), (gc l i).id = s[i].id ∧ (gc l i).pr = s[i].pr ∧ (gc l i).wt = s[i].wt
  cr : ∀ c ∈ l, c.cr = (t : Int) * c.wt - tot (·.wt) s * c.sn ∧ - tot (·.wt) s < c.cr ∧ 0 ≤ c.sn
  sn : tot (·.sn) l = (t : Int)
theorem tot_bound {s : List Ch} (h : Al s) : (s.length : Int) ≤ tot (·.wt) s ∧ tot (·.wt) s ≤ 20 * s.length := by
  have key : ∀ l : List Ch, (∀ c ∈ l, 1 ≤ c.wt ∧ c.wt ≤ 20) → (l.length : Int) ≤ tot (·.wt) l ∧ tot (·.wt) l ≤ 20 * l.length := by
    intro l
    induction l with
    | nil => intro _; simp [tot]
    | cons c l ih =>
      intro hc
      have h1 := ih (fun x hx => hc x (by simp [hx]))
      have h2 := hc c (by simp)
      unfold tot at h1 ⊢
      rw [List.map_cons, List.sum_cons, List.length_cons]
      omega
  exact key s h.wt
theorem Rnd.al {s l : List Ch} {t : Nat} (h : Rnd s l t) (hs : Al s) : Al l := by
  have e := h.len
  refine ⟨fun i hi => ?_, fun c hc => ?_, fun c hc => ?_⟩
  · rw [← gc_at hi, (h.at_ i (by omega)).1, hs.id i (by omega)]
  · obtain ⟨i, hi, rfl⟩ := List.getElem_of_mem hc
    rw [← gc_at hi, (h.at_ i (by omega)).2.1]
    exact hs.pr _ (List.getElem_mem _)
  · obtain ⟨i, hi, rfl⟩ := List.getElem_of_mem hc
    rw [← gc_at hi, (h.at_ i (by omega)).2.2]
    exact hs.wt _ (List.getElem_mem _)
theorem Rnd.wts {s l : List Ch} {t : Nat} (h : Rnd s l t) : tot (·.wt) l = tot (·.wt) s := by
  have e : l.map (·.wt) = s.map (·.wt) := by
    apply List.ext_getElem
    · simp [h.len]
    · intro i h1 h2
      rw [List.getElem_map, List.getElem_map]
      have hi : i < s.length := by simpa using h2
      rw [← (h.at_ i hi).2.2, gc_at (by rw [h.len]; exact hi)]
  unfold tot
  rw [e]
theorem rnd_0 {s : List Ch} (hs : Al s) (hne : s ≠ []) (hz : ∀ c ∈ s, c.cr = 0 ∧ c.sn = 0) : Rnd s s 0 := by
  have hb := tot_bound hs
  have hlen : 0 < s.length := List.length_pos_iff.2 hne
  refine ⟨rfl, fun i h => by rw [gc_at h]; exact ⟨rfl, rfl, rfl⟩, fun c hc => ?_, ?_⟩
  · obtain ⟨h1, h2⟩ := hz c hc
    rw [h1, h2]
    simp
    omega
  · have : s.map (·.sn) = s.map (fun _ => (0 : Int)) := List.map_congr_left (fun c hc => (hz c hc).2)
    have h0 := tot_zero s
    unfold tot at h0 ⊢
    rw [this, h0]
    rfl
theorem Rnd.step {s l : List Ch} {t : Nat} (h : Rnd s l t) (hs : Al s) (hne : s ≠ []) (hl : s.length ≤ 8) (ht : t ≤ 1000) : Rnd s (nxtL l (ids s.length)) (t + 1) := by
  have ha := h.al hs
  have hlen := h.len
  have hln : 0 < l.length := by rw [hlen]; exact List.length_pos_iff.2 hne
  have hlne : l ≠ [] := List.length_pos_iff.1 hln
  have hb := tot_bound hs
  have hw := h.wts
  rw [← hlen]
  have hrne : Go.Proofs.Ytjjhghcaecodpaa.rix l (ids l.length) ≠ [] := by rw [ha.rix]; intro hh; have := congrArg List.length hh; simp at this; exact hlne this
  have hx := ha.aix hlne
  unfold nxtL
  rw [if_neg hrne, hx, ha.bump, ha.sum (by omega), hw]
  obtain ⟨W, hW⟩ : ∃ W, W = tot (·.wt) s := ⟨_, rfl⟩
  rw [← hW] at hb hw ⊢
  have hcr : ∀ c ∈ l, c.cr = (t : Int) * c.wt - W * c.sn ∧ - W < c.cr ∧ 0 ≤ c.sn := by rw [hW]; exact h.cr
  have hkm : sel l (ids l.length) ∈ List.range l.length := by
    unfold sel
    rw [hx]
    exact minF_mem _ _ (by rw [← ha.rix]; exact hrne)
  have hmax : ∀ i ∈ List.range l.length, (gc (l.map up) i).cr ≤ (gc (l.map up) (sel l (ids l.length))).cr := by
    unfold sel
    rw [hx, ha.bump]
    exact minF_max _ _
  generalize sel l (ids l.length) = k at *
  have hk := List.mem_range.1 hkm
  -- the numbers are small
  have hup : ∀ c ∈ l, (up c).cr = c.cr + c.wt ∧ c.cr ≤ 20000 ∧ -200 < c.cr := by
    intro c hc
    obtain ⟨h1, h2, h3⟩ := hcr c hc
    have hwt := ha.wt c hc
    have h4 : (t : Int) * c.wt ≤ 20000 := by
      have := Int.mul_le_mul (show (t : Int) ≤ 1000 by omega) hwt.2 (by omega) (by omega)
      omega
    have h5 : 0 ≤ W * c.sn := Int.mul_nonneg (by omega) h3
    refine ⟨?_, by omega, by omega⟩
    show IntKind.i64.wrap (c.cr + c.wt) = _
    rw [wi64 (by omega)]
  -- the greatest credit is positive
  have hpos : 0 < l[k].cr + l[k].wt := by
    have hsum : tot (fun c => c.cr + c.wt) l = W := by
      have e1 : tot (·.cr) l = (t : Int) * tot (·.wt) l + (-W) * tot (·.sn) l := tot_lin _ _ _ _ _ l (fun c hc => by rw [(hcr c hc).1, Int.neg_mul]; omega)
      have e2 : tot (fun c => c.cr + c.wt) l = 1 * tot (·.cr) l + 1 * tot (·.wt) l := tot_lin _ _ _ _ _ l (fun c _ => by simp)
      rw [e2, e1, hw, h.sn]
      rw [Int.neg_mul, Int.mul_comm W]
      omega
    refine Classical.byContradiction fun hn => ?_
    have hle : tot (fun c => c.cr + c.wt) l ≤ tot (fun _ => 0) l := by
      refine tot_le _ _ l (fun c hc => ?_)
      obtain ⟨i, hi, rfl⟩ := List.getElem_of_mem hc
      have := hmax i (List.mem_range.2 hi)
      rw [gc_at (by rw [List.length_map]; exact hi), gc_at (by rw [List.length_map]; exact hk), List.getElem_map, List.getElem_map, (hup _ (List.getElem_mem hi)).1, (hup _ (List.getElem_mem hk)).1] at this
      omega
    have h0 : tot (fun _ => 0) l = 0 := tot_zero _
    omega
  have hkl : k < (l.map up).length := by rw [List.length_map]; exact hk
  have hget : ∀ i (hi : i < l.length), ((l.map up).modify k (pay W))[i]'(by rw [List.length_modify, List.length_map]; exact hi) = if k = i then pay W (up l[i]) else up l[i] := by
    intro i hi
    rw [List.getElem_modify, List.getElem_map]
  have hpay : (pay W (up l[k])).cr = l[k].cr + l[k].wt - W ∧ (pay W (up l[k])).sn = l[k].sn + 1 := by
    obtain ⟨h1, h2, h3⟩ := hup _ (List.getElem_mem hk)
    obtain ⟨h4, h5, h6⟩ := hcr _ (List.getElem_mem hk)
    have hwt := ha.wt _ (List.getElem_mem hk)
    have hsn : l[k].sn ≤ 1000 := by
      refine Classical.byContradiction fun hn => ?_
      have h7 : (t : Int) * l[k].wt ≤ 20000 := by
        have := Int.mul_le_mul (show (t : Int) ≤ 1000 by omega) hwt.2 (by omega) (by omega)
        omega
      -- W * sn ≤ t * wt + W
      have h8 : W * 1 ≤ W * (l[k].sn - 1000) := Int.mul_le_mul_of_nonneg_left (by omega) (by omega)
      rw [Int.mul_sub] at h8
      have h9 : (t : Int) * l[k].wt ≤ (t : Int) * W := by
        have hone : l[k].wt ≤ W := by
          rw [← hw]
          have : ∀ (m : List Ch), (∀ c ∈ m, 1 ≤ c.wt) → ∀ c ∈ m, c.wt ≤ tot (·.wt) m := by
            intro m
            induction m with
            | nil => intro _ c hc; cases hc
            | cons a m ih =>
              intro hm c hc
              have hnn : 0 ≤ tot (·.wt) m := by
                have := tot_le (fun _ => 0) (·.wt) m (fun x hx => by have := hm x (by simp [hx]); omega)
                have h0 : tot (fun _ => 0) m = 0 := tot_zero _
                omega
              have ea : tot (·.wt) (a :: m) = a.wt + tot (·.wt) m := rfl
              rcases List.mem_cons.1 hc with rfl | hc
              · omega
              · have := ih (fun x hx => hm x (by simp [hx])) c hc
                have := hm a (by simp)
                omega
          exact this l (fun c hc => (ha.wt c hc).1) _ (List.getElem_mem hk)
        exact Int.mul_le_mul_of_nonneg_left hone (by omega)
      have h10 : (t : Int) * W ≤ 1000 * W := Int.mul_le_mul_of_nonneg_right (by omega) (by omega)
      omega
    constructor
    · show IntKind.i64.wrap ((up l[k]).cr - W) = _
      rw [h1, wi64 (by omega)]
    · show IntKind.i64.wrap (l[k].sn + 1) = _
      rw [wi64 (by omega)]
  refine ⟨by rw [List.length_modify, List.length_map, hlen], fun i hi => ?_, fun c hc => ?_, ?_⟩
  · have hi' : i < l.length := by omega
    rw [gc_at (by rw [List.length_modify, List.length_map]; exact hi'), hget i hi']
    obtain ⟨e1, e2, e3⟩ := h.at_ i hi
    rw [gc_at hi'] at e1 e2 e3
    split
    · exact ⟨e1, e2, e3⟩
    · exact ⟨e1, e2, e3⟩
  · obtain ⟨i, hi, rfl⟩ := List.getElem_of_mem hc
    rw [List.length_modify, List.length_map] at hi
    rw [hget i hi, ← hW]
    obtain ⟨h4, h5, h6⟩ := hcr _ (List.getElem_mem hi)
    have hwt := ha.wt _ (List.getElem_mem hi)
    have e1 : ((t + 1 : Nat) : Int) * l[i].wt = (t : Int) * l[i].wt + l[i].wt := by
      rw [show ((t + 1 : Nat) : Int) = (t : Int) + 1 by omega, Int.add_mul, Int.one_mul]
    split
    · rename_i hki
      subst hki
      have e2 : W * (l[k].sn + 1) = W * l[k].sn + W := by rw [Int.mul_add, Int.mul_one]
      have e3 : (pay W (up l[k])).wt = l[k].wt := rfl
      rw [hpay.1, hpay.2, e3, e1, e2]
      exact ⟨by omega, by omega, by omega⟩
    · have e3 : (up l[i]).wt = l[i].wt := rfl
      have e4 : (up l[i]).sn = l[i].sn := rfl
      rw [(hup _ (List.getElem_mem hi)).1, e3, e4, e1]
      exact ⟨by omega, by omega, h6⟩
  · rw [tot_modify _ _ _ _ hkl, List.getElem_map, hpay.2, tot_map]
    have e1 : tot (fun c => (up c).sn) l = tot (·.sn) l := rfl
    have e2 : (up l[k]).sn = l[k].sn := rfl
    rw [e1, e2, h.sn]
    omega
/-- The shares. -/
theorem Rnd.shares {s l : List Ch} {r : Nat} (hs : Al s) (hne : s ≠ []) {t : Nat} (ht : (t : Int) = tot (·.wt) s * r) (h : Rnd s l t) : ∀ i (hi : i < s.length), (gc l i).sn = s[i].wt * r := by
  have hb := tot_bound hs
  have hlen : 0 < s.length := List.length_pos_iff.2 hne
  have hle : ∀ c ∈ l, c.sn ≤ (fun c : Ch => c.wt * (r : Int)) c := by
    intro c hc
    obtain ⟨h1, h2, h3⟩ := h.cr c hc
    refine Classical.byContradiction fun hn => ?_
    have hn : c.wt * r + 1 ≤ c.sn := by simp only at hn; omega
    have h4 := Int.mul_le_mul_of_nonneg_left hn (show 0 ≤ tot (·.wt) s by omega)
    rw [Int.mul_add, Int.mul_one] at h4
    have h5 : (t : Int) * c.wt = tot (·.wt) s * (c.wt * r) := by rw [ht, Int.mul_assoc, Int.mul_comm (r : Int)]
    omega
  have he : tot (·.sn) l = tot (fun c => c.wt * (r : Int)) l := by
    have e1 : tot (fun c => c.wt * (r : Int)) l = (r : Int) * tot (·.wt) l + 0 * tot (·.wt) l := tot_lin _ _ _ _ _ l (fun c _ => by rw [Int.mul_comm]; omega)
    rw [h.sn, e1, h.wts, ht, Int.mul_comm]
    omega
  have key := tot_eq (·.sn) (fun c => c.wt * (r : Int)) l hle he
  intro i hi
  have hil : i < l.length := by rw [h.len]; exact hi
  have := key l[i] (List.getElem_mem hil)
  rw [gc_at hil, this, ← (h.at_ i hi).2.2, gc_at hil]
end Go.Proofs.Ytjjhghcaecodpaa
