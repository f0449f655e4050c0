/-
  The law QueueAgain, as a contract.
-/
import Derived.Test.YtcfppdbinkoobaaFull
namespace Go.Proofs.Ytcfppdbinkoobaa
open Go Go.Sh Go.Proofs
set_option linter.unusedVariables false
set_option linter.unusedSimpArgs false
set_option linter.unusedSectionVars false

theorem append1 {w : World} {a : Option Addr} {c : Nat} {l : List Int} (hl : l.length ≤ 1000) (ho : Own w 3 1 a l.length c (l.map iv)) (x : Int) {q : Nat} (hq : Blk w q 3 [iv x]) :
    ∃ a' c' w', (Builtin.append_ #[22, 22] 22 #[.slice a l.length c, .slice (some (base q)) 1 1]).run Try.prog w = .ok (.slice a' (l ++ [x]).length c') w' ∧ Own w' 3 1 a' (l ++ [x]).length c' ((l ++ [x]).map iv) ∧ Mod (fp a) w w' ∧ (fp a' = fp a ∨ fp a' = [w.heap.size]) := by
  obtain ⟨a', c', w', run, o3, m3, f3⟩ := append_own (d := 1) Try.underlying22 elem3 22 ho (Rd.blk hq) (m := 1) rfl (by simp [iv, one]) (by omega) (by omega)
  exact ⟨a', c', w', by rw [List.length_append]; exact run, by rw [List.length_append, List.map_append]; exact o3, m3, f3⟩

/-- Two growing lists, apart, both new since w0. -/
structure Two (w0 w : World) (a : Option Addr) (c : Nat) (l : List Int) (b : Option Addr) (d : Nat) (m : List Int) : Prop where
  oa : Own w 3 1 a l.length c (l.map iv)
  ob : Own w 3 1 b m.length d (m.map iv)
  ap : ∀ y ∈ fp a, y ∉ fp b
  na : ∀ y ∈ fp a, w0.heap.size ≤ y
  nb : ∀ y ∈ fp b, w0.heap.size ≤ y
  m : Mod [] w0 w
theorem Two.swap {w0 w : World} {a b : Option Addr} {c d : Nat} {l m : List Int} (h : Two w0 w a c l b d m) : Two w0 w b d m a c l :=
  ⟨h.ob, h.oa, fun y hy hy' => h.ap y hy' hy, h.nb, h.na, h.m⟩
theorem Two.mod {w0 w w' : World} {a b : Option Addr} {c d : Nat} {l m : List Int} (h : Two w0 w a c l b d m) (hm : Mod [] w w') : Two w0 w' a c l b d m :=
  ⟨h.oa.mod hm (by simp), h.ob.mod hm (by simp), h.ap, h.na, h.nb, h.m.none hm⟩
/-- One more in the first list. -/
theorem Two.add {w0 w w1 : World} {a b : Option Addr} {c d : Nat} {l m : List Int} (h : Two w0 w a c l b d m) (hl : l.length ≤ 1000) (x : Int) (h1 : Blk w1 w.heap.size 3 [.int .i64 x]) (m1 : Mod [] w w1) :
    ∃ a' c' w', (Builtin.append_ #[22, 22] 22 #[.slice a l.length c, .slice (some (base w.heap.size)) 1 1]).run Try.prog w1 = .ok (.slice a' (l ++ [x]).length c') w' ∧ Two w0 w' a' c' (l ++ [x]) b d m := by
  obtain ⟨a', c', w', run, o3, m3, f3⟩ := append1 hl (h.oa.mod m1 (by simp)) x h1
  have hb1 := h.ob.mod m1 (by simp)
  have z := (h.m.none m1).size
  refine ⟨a', c', w', run, o3, hb1.mod m3 (fun y hy hy' => h.ap y hy' hy), fun y hy hy' => ?_, fun y hy => ?_, h.nb, (h.m.none m1).trans m3 (fun y hy => .inr (h.na y hy))⟩
  · rcases f3 with f | f <;> rw [f] at hy
    · exact h.ap y hy hy'
    · simp at hy; have := hb1.lt y hy'; omega
  · rcases f3 with f | f <;> rw [f] at hy
    · exact h.na y hy
    · simp at hy; omega

def but (x : Int) (l : List Int) : List Int := l.filter (fun y => decide (y ≠ x))
theorem but_step (x : Int) (l : List Int) {i : Nat} (hi : i < l.length) : but x (l.take (i + 1)) = if l[i] ≠ x then but x (l.take i) ++ [l[i]] else but x (l.take i) := by
  unfold but
  rw [List.take_succ_eq_append_getElem hi, List.filter_append]
  split
  · rename_i h; simp [h]
  · rename_i h; simp at h; simp [h]
theorem but_len (x : Int) (l : List Int) : (but x l).length ≤ l.length := List.length_filter_le _ _
theorem but_none (x : Int) (l m r : List Int) (hm : m = [x]) (h : ∀ y ∈ l ++ r, y ≠ x) : but x (l ++ m ++ r) = l ++ r := by
  subst hm
  unfold but
  rw [List.filter_append, List.filter_append]
  have e1 : l.filter (fun y => decide (y ≠ x)) = l := List.filter_eq_self.2 (fun y hy => by simp; exact h y (by simp [hy]))
  have e2 : r.filter (fun y => decide (y ≠ x)) = r := List.filter_eq_self.2 (fun y hy => by simp; exact h y (by simp [hy]))
  rw [e1, e2]
  simp
theorem items_append (l m : List Qe) : items (l ++ m) = items l ++ items m := by unfold items; rw [List.map_append]
theorem sorted_nodup {zs : List Int} {k : Nat} {s : Qs} (h : Pushed zs k s) : (items s.l).Nodup := by
  unfold items List.Nodup
  rw [List.pairwise_map]
  refine List.pairwise_iff_getElem.2 (fun i j hi hj hij => ?_)
  have h1 := List.pairwise_iff_getElem.1 h.srt i j hi hj hij
  have h2 := (h.it _ (List.getElem_mem hi)).2.2
  have h3 := (h.it _ (List.getElem_mem hj)).2.2
  intro hc
  rw [hc] at h2
  rcases h1 with h1 | h1 <;> omega
/-- Every item below k is there. -/
structure All (zs : List Int) (k : Nat) (s : Qs) : Prop where
  p : Pushed zs k s
  all : ∀ i, i < k → ∃ e ∈ s.l, e.2 = (i : Int)
theorem All.step {zs : List Int} {k : Nat} {s : Qs} (h : All zs k s) (hk : k < zs.length) (h100 : k < 100) : (s.push (zs.getD k 0) (k : Int)).1 = 0 ∧ All zs (k + 1) (s.push (zs.getD k 0) (k : Int)).2 := by
  obtain ⟨e0, P⟩ := h.p.step hk h100
  refine ⟨e0, P, fun i hi => ?_⟩
  rw [push_new (fun e he => by have := (h.p.it e he).2.1; omega) (by rw [h.p.len, h.p.most]; omega)]
  by_cases hik : i = k
  · subst hik; exact ⟨_, (ins_mem _ _ _).2 (.inl rfl), rfl⟩
  · obtain ⟨e, he, h1⟩ := h.all i (by omega)
    exact ⟨e, (ins_mem _ _ _).2 (.inr he), h1⟩

/-- What lies behind the pushed item. -/
theorem behind {l : List Qe} {p x : Int} (hs : l.Pairwise lt2) (hx : ∀ e ∈ l, e.2 ≠ x) {i : Nat} (hi : i < (ins l (p, x)).length) (h : (ins l (p, x))[i].2 ≠ x) (hb : x ∈ (items (ins l (p, x))).take i) : p < (ins l (p, x))[i].1 := by
  have hle := fidx_le (after p) l
  have e1 : ∀ j (hj : j < (ins l (p, x)).length), j < fidx (after p) l → (ins l (p, x))[j] ∈ l := by
    intro j hj hjl
    unfold ins
    simp only [List.append_assoc]
    rw [List.getElem_append_left (by simp; omega), List.getElem_take]
    exact List.getElem_mem _
  by_cases hc : fidx (after p) l < i
  · have e2 : (ins l (p, x))[i] ∈ l.drop (fidx (after p) l) := by
      simp only [ins]
      rw [List.getElem_append_right (by simp; omega)]
      exact List.getElem_mem _
    exact drop_gt hs p _ e2
  · exfalso
    obtain ⟨j, hj, hjx⟩ := List.getElem_of_mem hb
    simp [items] at hj
    have : (ins l (p, x))[j].2 = x := by
      rw [List.getElem_take] at hjx
      simpa [items] using hjx
    exact hx _ (e1 j (by omega) (by omega)) this
theorem x_mem (l : List Qe) (p x : Int) : x ∈ items (ins l (p, x)) := List.mem_map.2 ⟨(p, x), (ins_mem _ _ _).2 (.inl rfl), rfl⟩

theorem queueAgain_ok {a0 : Option Addr} {zs : List Int} (c : Nat) {at_ : Int} (hat : 0 ≤ at_ ∧ at_ ≤ 255) {w : World} (hr : Rd w a0 (zs.map iv)) : Does Try.prog 5 #[.slice a0 zs.length c, .int .u8 at_] w fun v w' => v = .bool true ∧ Mod [] w w' := by
  apply w5
  unfold F5
  have live : ∀ {w' : World}, Mod [] w w' → Does Try.prog 8 #[] w' (fun v w'' => ∃ (x : Bool), v = .bool x ∧ (Value.bool x = .bool true ∧ Mod [] w w'')) := fun M => (alive_ok _).mono fun v w' h => ⟨_, h.1, rfl, M.none h.2⟩
  unfold F5_j1
  refine iteI (fun hl => ?_) (fun hl => ?_)
  · rw [if_pos rfl]; exact live (Mod.refl _)
  refine iteI (fun h0 => live (Mod.refl _)) (fun h0 => ?_)
  have hn0 : zs.length ≠ 0 := by simp at h0; simpa using h0
  refine (QN.new w 100).mono ?_
  rintro _ w1 ⟨rfl, q1⟩
  refine ⟨_, rfl, ?_⟩
  refine LoopP.of (fun (x : Int) w' => ∃ (k : Nat) (s : Qs), k ≤ zs.length ∧ x = (k : Int) ∧ QN w w' w.heap.size s [] ∧ All zs k s) (fun x _ => zs.length - x.toNat) ⟨0, _, by omega, rfl, q1, ⟨by decide, rfl, List.Pairwise.nil, by simp [q0]⟩, by omega⟩ ?_
  rintro _ w2 ⟨k, s, hk, rfl, q2, P⟩
  unfold F5_b2
  by_cases hlt : k < zs.length
  · rw [if_pos (by omega)]
    obtain ⟨p, rfl, hc⟩ := rd_get (hr.mod q2.m (by simp)) hlt
    obtain ⟨e0, P'⟩ := P.step hlt (by omega)
    rw [zd hlt] at hc
    refine ⟨p, rfl, by omega, by omega, _, hc, (q2.push _ _).mono ?_⟩
    rintro _ w3 ⟨rfl, q3, _⟩
    refine ⟨_, rfl, ?_⟩
    rw [wi64 (by omega)]
    exact ⟨_, by omega, ⟨k + 1, _, by omega, rfl, q3, P'⟩, rfl⟩
  rw [if_neg (by omega)]
  have hkl : k = zs.length := by omega
  subst hkl
  refine ⟨by omega, q2.items.mono ?_⟩
  rintro _ w3 ⟨a3, c3, rfl, r3, m3, q3⟩
  refine ⟨_, _, _, rfl, ?_⟩
  rw [wi64 (by omega)]
  have hxd : ∃ x : Nat, Int.tmod at_ (zs.length : Int) = (x : Int) ∧ x < zs.length := by
    have h1 := Int.tmod_nonneg (zs.length : Int) hat.1
    have h2 := Int.tmod_lt_of_pos at_ (b := (zs.length : Int)) (by omega)
    exact ⟨(Int.tmod at_ (zs.length : Int)).toNat, by omega, by omega⟩
  obtain ⟨x, hx, hxl⟩ := hxd
  rw [hx]
  generalize hT : fpv a3 ((items s.l).map iv) ++ [] = T at q3
  have r3T : ∀ y ∈ fpv a3 ((items s.l).map iv), y ∈ T := fun y hy => by rw [← hT]; simp [hy]
  -- the item is removed
  obtain ⟨e, he, hex⟩ := P.all x hxl
  have hf : fidx (isIt x) s.l < s.l.length := fidx_ex _ _ he (by simp [isIt, hex])
  have gone := rem_gone (sorted_nodup P.p) hf
  have hsub : (s.l.take (fidx (isIt x) s.l) ++ s.l.drop (fidx (isIt x) s.l + 1)).Sublist s.l := by
    have h1 : s.l = s.l.take (fidx (isIt x) s.l) ++ s.l.drop (fidx (isIt x) s.l) := (List.take_append_drop _ _).symm
    conv => rhs; rw [h1]
    exact List.Sublist.append (List.Sublist.refl _) (List.drop_sublist_drop_left _ (by omega))
  have hbefore : but x (items s.l) = items (s.l.take (fidx (isIt x) s.l) ++ s.l.drop (fidx (isIt x) s.l + 1)) := by
    have h1 : s.l = s.l.take (fidx (isIt x) s.l) ++ [s.l[fidx (isIt x) s.l]] ++ s.l.drop (fidx (isIt x) s.l + 1) := by
      rw [List.append_assoc, List.singleton_append, ← List.drop_eq_getElem_cons hf, List.take_append_drop]
    have hi : s.l[fidx (isIt x) s.l].2 = x := by have := fidx_here (isIt x) s.l hf; simpa [isIt] using this
    conv => lhs; rw [h1]
    rw [items_append, items_append, items_append]
    refine but_none x _ _ _ (by simp [items, hi]) (fun y hy => ?_)
    rw [← items_append] at hy
    obtain ⟨f, hf1, rfl⟩ := List.mem_map.1 hy
    exact (gone f hf1).1
  have eR : s.remove x = (true, ⟨s.most, s.l.take (fidx (isIt x) s.l) ++ s.l.drop (fidx (isIt x) s.l + 1)⟩) := by unfold Qs.remove; rw [if_pos hf]
  have hlen1 : (s.l.take (fidx (isIt x) s.l) ++ s.l.drop (fidx (isIt x) s.l + 1)).length + 1 = zs.length := by rw [← P.p.len]; simp; omega
  generalize hm : s.l.take (fidx (isIt x) s.l) ++ s.l.drop (fidx (isIt x) s.l + 1) = m at *
  have hms : m.Pairwise lt2 := P.p.srt.sublist hsub
  refine (q3.remove x).mono ?_
  rintro _ w4 ⟨rfl, q4, k4⟩
  rw [eR] at q4 ⊢
  have r4 := k4.rd r3 r3T
  refine ⟨_, rfl, ?_⟩
  rw [if_neg (by simp)]
  obtain ⟨pz, hpz, hc⟩ := rd_get (hr.mod q4.m (by simp)) (i := x) (by omega)
  subst hpz
  refine ⟨pz, rfl, by omega, by omega, _, hc, ?_⟩
  have hps : (Qs.mk s.most m).push zs[x] (x : Int) = (0, ⟨s.most, ins m (zs[x], (x : Int))⟩) := push_new (fun e he => (gone e he).1) (by have := P.p.most; simp only; omega)
  refine (q4.push _ _).mono ?_
  rintro _ w5 ⟨rfl, q5, k5⟩
  rw [hps] at q5 ⊢
  dsimp only at q5 ⊢
  have r5 := k5.rd r4 r3T
  refine ⟨_, rfl, ?_⟩
  rw [if_neg (by simp)]
  refine q5.items.mono ?_
  rintro _ w6 ⟨a6, c6, rfl, r6, m6, q6⟩
  dsimp only at r6 q6 ⊢
  have r56 := r5.mod m6 (by simp)
  refine ⟨_, _, _, rfl, ?_⟩
  have hlb : (items s.l).length = zs.length := by rw [← P.p.len]; simp [items]
  have hla : (items (ins m (zs[x], (x : Int)))).length = zs.length := by simp [items, ins_len]; omega
  rw [if_neg (by omega), if_neg (by omega)]
  have hafter : but x (items (ins m (zs[x], (x : Int)))) = items m := by
    unfold ins
    rw [items_append, items_append]
    have : items m = items (m.take (fidx (after zs[x]) m)) ++ items (m.drop (fidx (after zs[x]) m)) := by rw [← items_append, List.take_append_drop]
    rw [this]
    refine but_none x _ _ _ (by simp [items]) (fun y hy => ?_)
    rw [← this] at hy
    obtain ⟨f, hf1, rfl⟩ := List.mem_map.1 hy
    exact (gone f hf1).1
  have hbeh := fun i => behind (p := zs[x]) (x := (x : Int)) hms (fun e he => (gone e he).1) (i := i)
  have hxm := x_mem m zs[x] (x : Int)
  have hit : ∀ e ∈ ins m (zs[x], (x : Int)), 0 ≤ e.2 ∧ e.2 < (zs.length : Int) ∧ zs.getD e.2.toNat 0 = e.1 := by
    intro e he
    rcases (ins_mem _ _ _).1 he with rfl | he
    · exact ⟨by simp, by simp; omega, by simp [List.getElem?_eq_getElem hxl]⟩
    · exact P.p.it e (gone e he).2
  generalize hl2 : ins m (zs[x], (x : Int)) = l2 at *
  have hl2n : l2.length = zs.length := by rw [← hla]; simp [items]
  refine LoopP.of (fun (y : Option Addr × Nat × Nat × Option Addr × Nat × Nat × Bool × Bool × Int) w' => ∃ (i : Nat) (a : Option Addr) (c : Nat) (b : Option Addr) (d : Nat), i ≤ zs.length ∧ y = (a, (but x ((items s.l).take i)).length, c, b, (but x ((items l2).take i)).length, d, decide ((x : Int) ∈ (items l2).take i), true, (i : Int)) ∧ Two w6 w' a c (but x ((items s.l).take i)) b d (but x ((items l2).take i))) (fun y _ => zs.length - y.2.2.2.2.2.2.2.2.toNat)
    ⟨0, none, 0, none, 0, by omega, by simp [but], ⟨by simpa [but] using Own.nil, by simpa [but] using Own.nil, by simp [fp], by simp [fp], by simp [fp], Mod.refl _⟩⟩ ?_
  rintro _ w7 ⟨i, a, c, b, d, hi, rfl, U⟩
  unfold F5_b3
  dsimp only
  by_cases hlt : i < zs.length
  · rw [if_pos (by omega)]
    have his : i < (items s.l).length := by omega
    have hia : i < (items l2).length := by omega
    obtain ⟨pb, hpb, hcb⟩ := rd_get (r56.mod U.m (by simp)) (i := i) his
    refine ⟨pb, hpb, by omega, by omega, _, hcb, ?_⟩
    have j4 : ∀ (a : Option Addr) (c : Nat) (w8 : World), Two w6 w8 a c (but x ((items s.l).take (i + 1))) b d (but x ((items l2).take i)) → F5_j4 a6 (i : Int) (items l2).length at_ zs.length b (but x ((items l2).take i)).length d true (decide ((x : Int) ∈ (items l2).take i)) pz a (but x ((items s.l).take (i + 1))).length c w8 (fun x0 x1 x2 x3 x4 x5 x6 x7 x8 w' => ∃ m, m < zs.length - (i : Int).toNat ∧ ((∃ (i : Nat) (a : Option Addr) (c : Nat) (b : Option Addr) (d : Nat), i ≤ zs.length ∧ (x0, x1, x2, x3, x4, x5, x6, x7, x8) = (a, (but x ((items s.l).take i)).length, c, b, (but x ((items l2).take i)).length, d, decide ((x : Int) ∈ (items l2).take i), true, (i : Int)) ∧ Two w6 w' a c (but x ((items s.l).take i)) b d (but x ((items l2).take i))) ∧ zs.length - x8.toNat = m)) := by
      intro a c w8 U
      unfold F5_j4
      obtain ⟨pa, hpa, hca⟩ := rd_get (r6.mod U.m (by simp)) (i := i) hia
      rw [wi64 (by omega), hx]
      refine ⟨pa, hpa, by omega, by omega, _, hca, ?_⟩
      have e1 : IntKind.i64.wrap ((i : Int) + 1) = ((i + 1 : Nat) : Int) := by rw [wi64 (by omega)]; omega
      rw [e1]
      have hs := but_step x (items l2) hia
      have htk : ((x : Int) ∈ (items l2).take (i + 1)) ↔ ((x : Int) ∈ (items l2).take i ∨ (x : Int) = (items l2)[i]) := by rw [List.take_succ_eq_append_getElem hia, List.mem_append, List.mem_singleton]
      by_cases hix : (items l2)[i] ≠ (x : Int)
      · rw [if_pos hix] at hs ⊢
        refine ⟨by omega, by omega, _, hca, ?_⟩
        refine New.use fun w9 h9 m9 z9 => ?_
        obtain ⟨b', d', w10, run, U'⟩ := U.swap.add (by have := but_len x ((items l2).take i); rw [List.length_take] at this; omega) _ h9 m9
        have V := U'.swap.mod (Mod.drew (S := []) w10)
        rw [← hs] at V run
        obtain ⟨pa', hpa', hca'⟩ := rd_get (r6.mod V.m (by simp)) (i := i) hia
        rw [hpa] at hpa'
        cases hpa'
        have hg : (items l2)[i] = (l2[i]'(by omega)).2 := by simp [items]
        obtain ⟨g1, g2, g3⟩ := hit (l2[i]'(by omega)) (List.getElem_mem _)
        refine ⟨b', _, d', w10, run, ?_⟩
        rw [if_pos rfl]
        refine ⟨by omega, by omega, _, hca', ?_⟩
        rw [if_pos (by omega)]
        refine ⟨by omega, by omega, _, hca', ?_⟩
        rw [if_pos (by omega)]
        have fin : ∀ (bb : Bool), bb = true → ∃ m, m < zs.length - (i : Int).toNat ∧ ((∃ (i' : Nat) (a' : Option Addr) (c' : Nat) (b : Option Addr) (d : Nat), i' ≤ zs.length ∧ (a, (but x ((items s.l).take (i + 1))).length, c, b', (but x ((items l2).take (i + 1))).length, d', decide ((x : Int) ∈ (items l2).take i), bb, ((i + 1 : Nat) : Int)) = (a', (but x ((items s.l).take i')).length, c', b, (but x ((items l2).take i')).length, d, decide ((x : Int) ∈ (items l2).take i'), true, (i' : Int)) ∧ Two w6 w10.drew a' c' (but x ((items s.l).take i')) b d (but x ((items l2).take i'))) ∧ zs.length - ((i + 1 : Nat) : Int).toNat = m) := by
          rintro _ rfl
          refine ⟨_, by omega, ⟨i + 1, a, c, b', d', by omega, ?_, V⟩, rfl⟩
          have : ((x : Int) ∈ (items l2).take (i + 1)) ↔ ((x : Int) ∈ (items l2).take i) := by rw [htk]; exact ⟨fun h => h.resolve_right (fun hh => hix hh.symm), .inl⟩
          simp only [this]
        by_cases hb : (x : Int) ∈ (items l2).take i
        · rw [if_neg (by simp [hb])]
          have hzr := hr.mod ((q6.m).none V.m) (by simp)
          obtain ⟨p1, hp1, c1⟩ := rd_get hzr (i := ((items l2)[i]).toNat) (by omega)
          obtain ⟨p2, hp2, c2⟩ := rd_get hzr (i := x) (by omega)
          cases hp1
          cases hp2
          refine ⟨by omega, by omega, _, hca', by omega, by omega, _, c1, by omega, by omega, _, by rw [Int.toNat_natCast]; exact c2, ?_⟩
          refine fin _ ?_
          have hlt := hbeh i (by omega) (by rw [← hg]; exact hix) hb
          have g4 : zs[((items l2)[i]).toNat] = (l2[i]'(by omega)).1 := by rw [zd (by omega), hg]; exact g3
          rw [g4]
          exact decide_eq_true hlt
        · rw [if_pos (by simp [hb])]
          exact fin true rfl
      · rw [if_neg hix] at hs ⊢
        rw [← hs] at U
        have : (x : Int) ∈ (items l2).take (i + 1) := htk.2 (.inr (by simp at hix; exact hix.symm))
        refine ⟨_, by omega, ⟨i + 1, a, c, b, d, by omega, ?_, U⟩, rfl⟩
        simp only [this, decide_true, hs]
    have hs := but_step x (items s.l) his
    rw [wi64 (by omega), hx]
    by_cases hix : (items s.l)[i] ≠ (x : Int)
    · rw [if_pos hix] at hs ⊢
      refine ⟨by omega, by omega, _, hcb, ?_⟩
      refine New.use fun w9 h9 m9 z9 => ?_
      obtain ⟨b', d', w10, run, U'⟩ := U.add (by have := but_len x ((items s.l).take i); rw [List.length_take] at this; omega) _ h9 m9
      rw [← hs] at U' run
      exact ⟨b', _, d', w10, run, j4 b' d' w10 U'⟩
    · rw [if_neg hix] at hs ⊢
      rw [← hs] at U ⊢
      exact j4 a c w7 U
  · rw [if_neg (by omega)]
    have e1 : (items s.l).take i = items s.l := List.take_of_length_le (by omega)
    have e2 : (items l2).take i = items l2 := List.take_of_length_le (by omega)
    rw [e1, e2, hbefore, hafter] at U
    rw [e1, e2, hbefore, hafter, if_pos rfl, if_pos (by simpa using hxm)]
    refine (ints_ok (l := items m) (m := items m) c d (by simp [items]; omega) U.oa.rd U.ob.rd).mono ?_
    rintro _ w8 ⟨rfl, m8⟩
    refine ⟨_, rfl, ?_⟩
    rw [if_pos (by simp)]
    exact live ((q6.m.none U.m).none m8)
end Go.Proofs.Ytcfppdbinkoobaa
