/-
  The contracts of chapter 22: Next of the multiplexer, put together.
-/
import Derived.Test.YtjjhghcaecodpaaNext
namespace Go.Proofs.Ytjjhghcaecodpaa
open Go Go.Sh Go.Proofs
set_option linter.unusedVariables false
set_option linter.unusedSimpArgs false
set_option linter.unusedSectionVars false

theorem Mx.put {w : World} {g b c : Nat} {l : List Ch} (hb : Blk w g 50 [.slice (some (base b)) l.length c]) (ho : Own w 52 5 (some (base b)) l.length c (l.flatMap chv)) {k j : Nat} (hk : k < l.length) (hj : j < 5) {y : Ch} {v : Value} (hy : chv y = (chv l[k]).set j v)
    {K : World → Prop} (hK : ∀ w', Mx w' g [g, b] (l.set k y) → Mod [b] w w' → K w') : Put w (((base b).add (k * 5)).add j) v K := by
  have hgb := ho.ne hb (by decide)
  have hfl := chv_flen l
  obtain ⟨p, hp, hw, o2, m2⟩ := ho.setAt (i := k * 5 + j) (by omega) v
  cases hp
  rw [add_add]
  refine ⟨hw, hK _ ⟨b, c, rfl, ?_, ?_⟩ m2⟩
  · rw [List.length_set]; exact hb.mod m2 hgb
  · rw [List.length_set, flat_set1 chv l (chv_len l) hk hy hj]; exact o2
theorem sumW_snoc (l : List Ch) (A : List Nat) (i : Nat) : sumW l (A ++ [i]) = wr (sumW l A + (gc l i).wt) := by
  unfold sumW
  rw [List.foldl_append]
  rfl
theorem bump_nil (l : List Ch) : bump [] l = l := by
  apply List.ext_getElem
  · rw [bump_len]
  · intro i h1 h2
    simp only [bump, List.getElem_mapIdx]
    rw [if_neg (by simp)]
theorem upto_le {l : List Ch} {R : List Int} {t : Nat} : (upto l R t).length ≤ t := by
  have := List.length_filter_le (fun i => rdy R (gc l i)) (List.range t)
  rw [List.length_range] at this
  exact this

theorem next_ok {w : World} {g : Nat} {S : List Nat} {l : List Ch} (h : Mx w g S l) {ra : Option Addr} {R : List Int} (rc : Nat) (hr : Rd w ra (R.map iv)) (hR : R.length ≤ 9223372036854775807) (hl : l.length ≤ 1000) :
    Does Try.prog 10 #[.pointer (some (base g)), .slice ra R.length rc] w fun v w' => v = .tuple #[.int .i64 (nxtI l R), .bool (nxtB l R)] ∧ Mx w' g S (nxtL l R) ∧ Mod S w w' := by
  apply w10
  unfold F10
  refine New.use fun w1 h1 m1 z1 => ?_
  refine ⟨_, h1.cell0, ?_⟩
  rw [if_neg (by simp)]
  refine ⟨_, h1.cell0, _, rfl, ?_⟩
  have hlt0 := h.lt
  have X1 := h.mod m1 (by simp)
  have X1' := X1
  obtain ⟨b, c, rfl, hb, ho⟩ := X1
  refine ⟨_, _, _, hb.cell0, ?_⟩
  have hr1 := hr.mod m1 (by simp)
  refine LoopP.of (fun (x : Option Addr × Nat × Nat × Int) w' => ∃ (t : Nat) (aa : Option Addr) (cc : Nat), t ≤ l.length ∧ x = (aa, (upto l R t).length, cc, (t : Int)) ∧ Own w' 3 1 aa (upto l R t).length cc ((upto l R t).map nv) ∧ Since w1 (fp aa) ∧ Mod [] w1 w') (fun x _ => l.length - x.2.2.2.toNat) ⟨0, none, 0, by omega, rfl, Own.nil, by intro y hy; simp [fp] at hy, Mod.refl _⟩ ?_
  rintro _ w2 ⟨t, aa, cc, ht, rfl, oa, sa, m2⟩
  unfold F10_b1
  dsimp only
  refine iteI (fun hlt => ?_) (fun hlt => ?_)
  · have hlt : t < l.length := by omega
    have hup := upto_le (l := l) (R := R) (t := t)
    obtain ⟨p, hp, hc⟩ := (ho.rd.mod m2 (by simp)).flat (chv_len _) (by decide) hlt
    refine ⟨p, hp, by omega, by omega, _, _, _, _, _, ⟨by rw [Int.toNat_natCast, add_zero]; exact rd0 hc, hc 1 _ rfl, hc 2 _ rfl, hc 3 _ rfl, hc 4 _ rfl, trivial⟩, ?_⟩
    refine New.put rfl fun w3 h3 m3 z3 => ?_
    have M3 := m2.none m3
    refine ⟨_, h3.cell0, (contains_ok rc (hr1.mod M3 (by simp)) hR l[t].id).mono ?_⟩
    rintro _ _ ⟨rfl, rfl⟩
    have e1 : IntKind.i64.wrap ((t : Int) + 1) = ((t + 1 : Nat) : Int) := by rw [wi64 (by omega)]; omega
    rw [e1]
    have o3 := oa.mod m3 (by simp)
    refine ⟨_, rfl, iteI (fun hh => ?_) (fun hh => ?_)⟩
    · have hu : upto l R (t + 1) = upto l R t ++ [t] := by rw [upto_succ, if_pos (by unfold rdy; rw [gc_at hlt]; exact hh)]
      refine New.use fun w4 h4 m4 z4 => ?_
      obtain ⟨a', c', w5, run, o5, m5, f5⟩ := append_own (d := 1) Try.underlying28 elem3 28 (o3.mod m4 (by simp)) (Rd.blk h4) (m := 1) rfl (by simp [one]) (by omega) (by omega)
      have hul : (upto l R (t + 1)).length = (upto l R t).length + 1 := by rw [hu]; simp
      have M4 := M3.none m4
      have z4' := M4.size
      refine ⟨a', _, c', w5, run, _, by omega, ⟨t + 1, a', c', by omega, by rw [hul], by rw [hul, hu, List.map_append]; exact o5, fun y hy => ?_, M4.trans m5 (fun y hy => .inr (sa y hy))⟩, rfl⟩
      rcases f5 with f | f <;> rw [f] at hy
      · exact sa y hy
      · simp at hy; omega
    · have hu : upto l R (t + 1) = upto l R t := by rw [upto_succ, if_neg (by unfold rdy; rw [gc_at hlt]; exact hh)]
      exact ⟨_, by omega, ⟨t + 1, aa, cc, by omega, by rw [hu], by rw [hu]; exact o3, sa, M3⟩, rfl⟩
  have htl : t = l.length := by omega
  subst htl
  have er : upto l R l.length = rix l R := rfl
  rw [er] at oa ⊢
  have hrl : (rix l R).length ≤ l.length := upto_le
  refine iteI (fun hz => ?_) (fun hz => ?_)
  · have hnil : rix l R = [] := List.eq_nil_of_length_eq_zero (by omega)
    refine ⟨?_, ?_, (m1.none m2).weaken (by simp)⟩
    · unfold nxtI nxtB
      rw [if_pos hnil, decide_eq_true hnil]
      rfl
    · unfold nxtL
      rw [if_pos hnil]
      exact X1'.mod m2 (by simp)
  have hne : rix l R ≠ [] := fun hh => hz (by rw [hh]; rfl)
  have hX : ∀ {w'}, Mod [] w1 w' → Mx w' g [g, b] l := fun m => X1'.mod m (by simp)
  have hQ : ∀ {w'}, Mod [] w1 w' → Blk w' w.heap.size 24 [.pointer (some (base g))] := fun m => h1.mod m (by simp)
  refine (min19_ok cc _ (prB l) oa.rd hne (by omega) (fun w' m' i hi k hk => c19_ok (hX (m2.none m')) (hQ (m2.none m')) (upto_lt hi) (upto_lt hk))).mono ?_
  rintro _ w3 ⟨rfl, m3⟩
  have M3 := m2.none m3
  have hbest : minF (prB l) (rix l R) < l.length := upto_lt (minF_mem (prB l) _ hne)
  obtain ⟨b', c', hS, hb3, ho3⟩ := hX M3
  cases hS
  obtain ⟨p, hp, hc⟩ := ho3.rd.flat (chv_len _) (by decide) hbest
  refine ⟨_, rfl, _, (hQ M3).cell0, _, rfl, _, _, _, hb3.cell0, p, hp, by omega, by omega, _, hc 1 _ rfl, ?_⟩
  refine New.use fun w4 h4 m4 z4 => Put.use0 h4 (by simp) fun w5 h5 m5 => ?_
  have m35 : Mod [] w3 w5 := m4.trans m5 (fun y hy => .inr (by simp only [List.mem_singleton] at hy; omega))
  have M5 := M3.none m35
  have o5 := oa.mod (m3.none m35) (by simp)
  have oal := oa.lt
  have z3 := m3.size
  have hpr : l[minF (prB l) (rix l R)].pr = best l R := by unfold best; rw [gc_at hbest]
  rw [hpr] at h5
  have fpa : ∀ y ∈ fp aa, w1.heap.size ≤ y ∧ y < w3.heap.size := fun y hy => ⟨sa y hy, by have := oal y hy; omega⟩
  have hgl := hlt0 g (by simp)
  have hbl := hlt0 b (by simp)
  have apS : ∀ y ∈ [g, b], y ∉ fp aa := fun y hy hy' => by
    have := fpa y hy'
    simp at hy
    rcases hy with rfl | rfl <;> omega
  have hq' : w.heap.size ∉ fp aa := fun hy => by have := fpa _ hy; omega
  have h3' : w3.heap.size ∉ fp aa := fun hy => by have := fpa _ hy; omega
  refine (del_ok (some (base w.heap.size)) (some (base w3.heap.size)) (fun i => decide ((gc l i).pr ≠ best l R)) o5 (by omega) (fun w' m' i hi => c22_ok ((hX M5).mod m' apS) ((hQ M5).mod m' hq') (upto_lt hi) (h5.mod m' h3'))).mono ?_
  rintro _ w6 ⟨c6, rfl, r6, m6⟩
  have eA : (rix l R).filter (fun i => !decide ((gc l i).pr ≠ best l R)) = aix l R := rfl
  rw [eA] at r6 ⊢
  have X6 := (hX M5).mod m6 apS
  have Q6 := (hQ M5).mod m6 hq'
  have M6 : Mod [] w1 w6 := M5.trans m6 (fun y hy => .inr (sa y hy))
  have hAl : (aix l R).length ≤ l.length := Nat.le_trans (List.length_filter_le _ _) hrl
  have hAne := aix_ne hne
  have hnd := aix_nodup l R
  have hAlt : ∀ i ∈ aix l R, i < l.length := fun i hi => aix_lt hi
  have hnI : nxtI l R = (gc l (sel l R)).id := by unfold nxtI; rw [if_neg hne]
  have hnB : nxtB l R = true := by unfold nxtB; rw [decide_eq_false hne]; rfl
  have hnL : nxtL l R = (bump (aix l R) l).modify (sel l R) (pay (sumW l (aix l R))) := by unfold nxtL; rw [if_neg hne]
  have hsel : sel l R = minF (crB (bump (aix l R) l)) (aix l R) := rfl
  rw [hnI, hnB, hnL]
  generalize hA : aix l R = A at *
  refine ⟨_, _, _, rfl, ?_⟩
  refine LoopP.of (fun (x : Int × Int) w' => ∃ t : Nat, t ≤ A.length ∧ x = (sumW l (A.take t), (t : Int)) ∧ Mx w' g [g, b] (bump (A.take t) l) ∧ Mod [b] w6 w') (fun x _ => A.length - x.2.toNat) ⟨0, by omega, rfl, by rw [List.take_zero, bump_nil]; exact X6, Mod.refl _⟩ ?_
  rintro _ w7 ⟨t, ht, rfl, X7, m7⟩
  unfold F10_b2
  dsimp only
  have hwb : w.heap.size ∉ [b] := by simp; omega
  have apA : ∀ y ∈ fpv aa (A.map nv), y ∉ [b] := fun y hy hy' => by
    have := fpa y (fpv_sub y hy)
    simp at hy'
    omega
  refine iteI (fun hlt => ?_) (fun hlt => ?_)
  · have hlt : t < A.length := by omega
    obtain ⟨p, rfl, hcl⟩ := rd_get (r6.modv m7 apA) hlt
    have hi := hAlt A[t] (List.getElem_mem hlt)
    have hni : A[t] ∉ A.take t := by
      intro hm
      obtain ⟨j, hj, hjt⟩ := List.getElem_of_mem hm
      rw [List.length_take] at hj
      rw [List.getElem_take] at hjt
      exact List.pairwise_iff_getElem.1 hnd j t (by omega) hlt (by omega) hjt
    have X7' : Mx w7.drew g [g, b] (bump (A.take t) l) := X7.mod (Mod.drew (S := []) w7) (by simp)
    have Q7 : Blk w7.drew w.heap.size 24 [.pointer (some (base g))] := (Q6.mod m7 hwb).drew
    obtain ⟨b', c7, hS, hb7, ho7⟩ := X7'
    cases hS
    have hi7 : A[t] < (bump (A.take t) l).length := by rw [bump_len]; exact hi
    have hval : (bump (A.take t) l)[A[t]] = gc l A[t] := by rw [← gc_at hi7, bump_gc _ hi, if_neg hni]
    obtain ⟨p7, hp7, hc7⟩ := ho7.rd.flat (chv_len _) (by decide) hi7
    cases hp7
    rw [hval] at hc7
    have hln := bump_len (A.take t) l
    refine ⟨_, rfl, by omega, by omega, _, hcl, _, Q7.cell0, _, rfl, _, _, _, hb7.cell0, _, rfl, by omega, by omega, _, hc7 3 _ rfl, _, Q7.cell0, _, rfl, _, _, _, hb7.cell0, _, rfl, by omega, by omega, _, hc7 2 _ rfl, by omega, by omega, ?_⟩
    refine Mx.put (y := up (gc l A[t])) hb7 ho7 hi7 (by decide) (by rw [hval]; rfl) fun w8 X8 m8 => ?_
    rw [← bump_snoc _ hi hni, ← List.take_succ_eq_append_getElem hlt] at X8
    have M8 := (m7.none (Mod.drew w7)).same m8
    have Q8 := Q7.mod m8 hwb
    have X8' := X8
    obtain ⟨b', c8, hS, hb8, ho8⟩ := X8
    cases hS
    have hi8 : A[t] < (bump (A.take (t + 1)) l).length := by rw [bump_len]; exact hi
    have hval8 : (bump (A.take (t + 1)) l)[A[t]].wt = (gc l A[t]).wt := by
      rw [← gc_at hi8, bump_gc _ hi]
      split <;> rfl
    obtain ⟨p8, hp8, hc8⟩ := ho8.rd.flat (chv_len _) (by decide) hi8
    have hln8 := bump_len (A.take (t + 1)) l
    refine ⟨_, Q8.cell0, _, rfl, _, _, _, hb8.cell0, p8, hp8, by omega, by omega, _, hc8 2 _ rfl, ?_⟩
    rw [hval8]
    have e1 : IntKind.i64.wrap ((t : Int) + 1) = ((t + 1 : Nat) : Int) := by rw [wi64 (by omega)]; omega
    rw [e1]
    refine ⟨_, by omega, ⟨t + 1, by omega, ?_, X8', M8⟩, rfl⟩
    rw [List.take_succ_eq_append_getElem hlt, sumW_snoc]
    rfl
  have htl : t = A.length := by omega
  subst htl
  rw [List.take_length] at X7 ⊢
  have hlb := bump_len A l
  have Q7 := Q6.mod m7 hwb
  refine (min23_ok c6 _ (crB (bump A l)) (r6.modv m7 apA) hAne (by omega) (fun w' m' i hi k hk => c23_ok (X7.mod m' (by simp)) (Q7.mod m' (by simp)) (by rw [hlb]; exact hAlt i hi) (by rw [hlb]; exact hAlt k hk))).mono ?_
  rintro _ w8 ⟨rfl, m8⟩
  rw [← hsel]
  have hsl : sel l R < l.length := by rw [hsel]; exact hAlt _ (minF_mem _ _ hAne)
  have hsm : sel l R ∈ A := by rw [hsel]; exact minF_mem _ _ hAne
  generalize hk : sel l R = k at *
  have X8 := X7.mod m8 (by simp)
  have Q8 := Q7.mod m8 (by simp)
  obtain ⟨b', c8, hS, hb8, ho8⟩ := X8
  cases hS
  have hk8 : k < (bump A l).length := by omega
  obtain ⟨p8, hp8, hc8⟩ := ho8.rd.flat (chv_len _) (by decide) hk8
  cases hp8
  refine ⟨_, rfl, _, Q8.cell0, _, rfl, _, _, _, hb8.cell0, _, rfl, by omega, by omega, _, hc8 3 _ rfl, by omega, by omega, ?_⟩
  refine Mx.put (y := { (bump A l)[k] with cr := wr ((bump A l)[k].cr - sumW l A) }) hb8 ho8 hk8 (by decide) rfl fun w9 X9 m9 => ?_
  have Q9 := Q8.mod m9 hwb
  obtain ⟨b', c9, hS, hb9, ho9⟩ := X9
  cases hS
  have hk9 : k < ((bump A l).set k { (bump A l)[k] with cr := wr ((bump A l)[k].cr - sumW l A) }).length := by rw [List.length_set]; omega
  have hv9 : ((bump A l).set k { (bump A l)[k] with cr := wr ((bump A l)[k].cr - sumW l A) })[k] = { (bump A l)[k] with cr := wr ((bump A l)[k].cr - sumW l A) } := by rw [List.getElem_set_self]
  obtain ⟨p9, hp9, hc9⟩ := ho9.rd.flat (chv_len _) (by decide) hk9
  cases hp9
  rw [hv9] at hc9
  refine ⟨_, Q9.cell0, _, rfl, _, _, _, hb9.cell0, _, rfl, by omega, by rw [List.length_set]; omega, _, hc9 4 _ rfl, by omega, by rw [List.length_set]; omega, ?_⟩
  refine Mx.put (y := pay (sumW l A) (bump A l)[k]) hb9 ho9 hk9 (by decide) (by rw [hv9]; rfl) fun w10 X10 m10 => ?_
  have Q10 := Q9.mod m10 hwb
  rw [List.set_set] at X10
  have efin : (bump A l).set k (pay (sumW l A) (bump A l)[k]) = (bump A l).modify k (pay (sumW l A)) := by
    apply List.ext_getElem
    · rw [List.length_set, List.length_modify]
    · intro j h1 h2
      rw [List.getElem_set, List.getElem_modify]
      by_cases hkj : k = j
      · subst hkj; simp
      · rw [if_neg hkj, if_neg hkj]
  rw [efin] at X10
  have X10' := X10
  obtain ⟨b', c10, hS, hb10, ho10⟩ := X10
  cases hS
  have hk10 : k < ((bump A l).modify k (pay (sumW l A))).length := by rw [List.length_modify]; omega
  have hid : ((bump A l).modify k (pay (sumW l A)))[k].id = (gc l k).id := by
    rw [List.getElem_modify, if_pos rfl]
    show (bump A l)[k].id = _
    rw [← gc_at hk8, bump_gc _ hsl, if_pos hsm]
    rfl
  obtain ⟨p10, hp10, hc10⟩ := ho10.rd.flat (chv_len _) (by decide) hk10
  refine ⟨_, Q10.cell0, _, rfl, _, _, _, hb10.cell0, p10, hp10, by omega, by omega, _, rd0 hc10, ?_, X10', ?_⟩
  · rw [hid]
  · have hm : Mod [b] w1 w10 := (((M6.weaken (S' := [b]) (by simp)).same m7).none m8).same (m9.same m10)
    exact (m1.weaken (S' := [g, b]) (by simp)).trans hm (fun y hy => .inl (by simp at hy; simp [hy]))
end Go.Proofs.Ytjjhghcaecodpaa
