/-
  Chapter 34: a service and the reference's, side by side; a call on both.
-/
import Derived.Test.YtcgkmmiokmbjdaaRef2
namespace Go.Proofs.Ytcgkmmiokmbjdaa
open Go Go.Sh Go.Proofs
set_option linter.unusedVariables false
set_option linter.unusedSimpArgs false
set_option linter.unusedSectionVars false

/-! ### Plain: the lists stay good -/
section
variable {L : List Sa} (h : Gd L)
include h
theorem kx_before (id : Int) {j : Nat} (hj : j < L.length) (hk : j < kx id L) : L[j].id < id := by
  have := fidx_before (geI id) L j hj hk
  have : ¬ id ≤ L[j].id := of_decide_eq_false this
  omega
theorem kx_after (id : Int) {j : Nat} (hj : j < L.length) (hk : kx id L ≤ j) : id ≤ L[j].id := by
  have h0 := fidx_here (geI id) L (show kx id L < L.length by omega)
  have h0 : id ≤ L[kx id L].id := of_decide_eq_true h0
  by_cases he : kx id L = j
  · subst he; exact h0
  · have := List.pairwise_iff_getElem.1 h.srt (kx id L) j (by omega) hj (by omega)
    omega
theorem gd_def {id ivl : Int} {p : List Int} (h0 : defE L id ivl p = 0) : Gd (L.take (kx id L) ++ [⟨id, ivl, false, p, 0⟩] ++ L.drop (kx id L)) := by
  have hb : ¬ badA id ivl p := by intro hh; unfold defE at h0; rw [if_pos hh] at h0; cases h0
  have hi : isI id L ≠ true := by intro hh; unfold defE at h0; rw [if_neg hb, if_pos hh] at h0; cases h0
  have hl : L.length < 256 := by
    unfold defE at h0
    rw [if_neg hb, if_neg hi] at h0
    split at h0
    · cases h0
    · omega
  unfold badA at hb
  have hkx := kx_le id L
  refine ⟨?_, by simp; omega, fun e he => ?_⟩
  · rw [List.append_assoc, List.pairwise_append]
    refine ⟨List.Pairwise.sublist (List.take_sublist _ _) h.srt, ?_, ?_⟩
    · rw [List.singleton_append, List.pairwise_cons]
      refine ⟨fun e he => ?_, List.Pairwise.sublist (List.drop_sublist _ _) h.srt⟩
      obtain ⟨j, hj, rfl⟩ := List.getElem_of_mem he
      rw [List.length_drop] at hj
      rw [List.getElem_drop]
      have h1 := kx_after h id (j := kx id L + j) (by omega) (by omega)
      by_cases h00 : j = 0
      · subst h00
        have h2 : L[kx id L].id ≠ id := fun hh => hi (by unfold isI; exact decide_eq_true ⟨by omega, hh⟩)
        simp only [Nat.add_zero] at h1 ⊢
        omega
      · have h3 := kx_after h id (j := kx id L) (by omega) (Nat.le_refl _)
        have := List.pairwise_iff_getElem.1 h.srt (kx id L) (kx id L + j) (by omega) (by omega) (by omega)
        simp only at this ⊢
        omega
    · intro a ha b hb2
      obtain ⟨j, hj, rfl⟩ := List.getElem_of_mem ha
      rw [List.length_take] at hj
      rw [List.getElem_take]
      have h1 := kx_before h id (j := j) (by omega) (by omega)
      rcases List.mem_append.1 hb2 with hb2 | hb2
      · simp at hb2; subst hb2; exact h1
      · obtain ⟨i, hi2, rfl⟩ := List.getElem_of_mem hb2
        rw [List.length_drop] at hi2
        rw [List.getElem_drop]
        exact List.pairwise_iff_getElem.1 h.srt j (kx id L + i) (by omega) (by omega) (by omega)
  · rcases mem_ins he with he | rfl
    · exact h.rng e he
    · exact ⟨by show 0 ≤ id; omega, by show id ≤ 65535; omega, by show 1 ≤ ivl; omega, by show ivl ≤ 1048576; omega, by show p.length ≤ 256; omega⟩
theorem gd_del (k : Nat) : Gd (L.take k ++ L.drop (k + 1)) := by
  have hl := h.len
  refine ⟨?_, by simp; omega, fun e he => h.rng e (mem_del he)⟩
  have h1 : L = L.take k ++ L.drop k := (List.take_append_drop _ _).symm
  refine List.Pairwise.sublist ?_ h.srt
  conv => rhs; rw [h1]
  exact List.Sublist.append (List.Sublist.refl _) (List.drop_sublist_drop_left _ (by omega))
theorem gd_map {f : Sa → Sa} (hf : ∀ e, (f e).id = e.id ∧ (f e).iv = e.iv ∧ (f e).l = e.l) {L' : List Sa} (hL : L'.length = L.length) (hat : ∀ i (h1 : i < L'.length) (h2 : i < L.length), L'[i] = L[i] ∨ L'[i] = f L[i]) : Gd L' := by
  have key : ∀ i (h1 : i < L'.length) (h2 : i < L.length), L'[i].id = L[i].id ∧ L'[i].iv = L[i].iv ∧ L'[i].l = L[i].l := by
    intro i h1 h2
    rcases hat i h1 h2 with hh | hh
    · rw [hh]; exact ⟨rfl, rfl, rfl⟩
    · rw [hh]; exact hf _
  refine ⟨?_, by rw [hL]; exact h.len, fun e he => ?_⟩
  · rw [List.pairwise_iff_getElem]
    intro i j hi hj hij
    rw [(key i hi (by omega)).1, (key j hj (by omega)).1]
    exact List.pairwise_iff_getElem.1 h.srt i j (by omega) (by omega) hij
  · obtain ⟨i, hi, rfl⟩ := List.getElem_of_mem he
    obtain ⟨h1, h2, h3⟩ := key i hi (by omega)
    rw [h1, h2, h3]
    exact h.rng _ (List.getElem_mem _)
theorem gd_en (k : Nat) (on : Bool) (t : Int) : Gd (L.modify k (enS on t)) := by
  refine gd_map h (f := enS on t) (fun e => ⟨rfl, rfl, rfl⟩) (List.length_modify ..) (fun i h1 h2 => ?_)
  rw [List.getElem_modify]
  split
  · exact .inr rfl
  · exact .inl rfl
theorem gd_due (t : Int) : Gd (L.map (duS t)) := by
  refine gd_map h (f := duS t) (fun e => ?_) (List.length_map ..) (fun i h1 h2 => ?_)
  · unfold duS; split <;> exact ⟨rfl, rfl, rfl⟩
  · rw [List.getElem_map]; exact .inr rfl
end
theorem says_modify (l : List En) (k : Nat) (on : Bool) (t : Int) : says (l.modify k (enN on t)) = (says l).modify k (enS on t) := by
  unfold says
  apply List.ext_getElem
  · simp
  · intro i h1 h2
    simp only [List.getElem_map, List.getElem_modify]
    split
    · rfl
    · rfl
theorem says_due (l : List En) (t : Int) : says (l.map (duN t)) = (says l).map (duS t) := by
  unfold says
  rw [List.map_map, List.map_map]
  exact List.map_congr_left (fun e _ => duN_say t e)

/-! ### Side by side -/
structure Pr (w0 w : World) (S : List Nat) (g r : Nat) (t : Int) (l lr : List En) (T : List Nat) : Prop where
  sv : Sv w g S t l
  rf : Rf w r t lr T
  rs : r ∉ S
  gd : Gd (says l)
  ag : says l = says lr
  cl : ∀ e ∈ l, e.rd w ∧ ∀ y ∈ e.fp, y ∈ T
  cr : ∀ e ∈ lr, e.rd w ∧ ∀ y ∈ e.fp, y ∈ T
  sT : ∀ y ∈ S, y ∉ T
  s0 : ∀ y ∈ S, w0.heap.size ≤ y
  r0 : w0.heap.size ≤ r
  lt : ∀ y ∈ T, y < w.heap.size
  m : Mod [] w0 w
theorem Pr.rlen {w0 w : World} {S : List Nat} {g r : Nat} {t : Int} {l lr : List En} {T : List Nat} (h : Pr w0 w S g r t l lr T) : lr.length ≤ 256 := by
  have h1 := h.gd.len
  have h2 := congrArg List.length h.ag
  rw [says_len, says_len] at h2
  rw [says_len] at h1
  omega
section
variable {w0 w : World} {S : List Nat} {g r : Nat} {t : Int} {l lr : List En} {T : List Nat} (h : Pr w0 w S g r t l lr T)
include h
theorem Pr.grow {w' : World} {M T' : List Nat} (m : Mod M w w') (hM : ∀ y ∈ M, w0.heap.size ≤ y ∧ y ∉ T ∧ y ∉ S ∧ y ≠ r) (hT : ∀ y ∈ T, y ∈ T') (hN : ∀ y ∈ T', y ∈ T ∨ (w.heap.size ≤ y ∧ y < w'.heap.size)) : Pr w0 w' S g r t l lr T' := by
  have hrl := h.rf.rlt
  have hsl := h.sv.lt
  have rf' := h.rf.mod m (fun hh => (hM r hh).2.2.2 rfl) (fun y hy hy' => (hM y hy').2.1 hy)
  refine ⟨h.sv.mod m (fun y hy hy' => (hM y hy').2.2.1 hy), rf'.more hT (fun hh => ?_), h.rs, h.gd, h.ag, fun e he => ⟨(h.cl e he).1.mod m (fun y hy hy' => (hM y hy').2.1 ((h.cl e he).2 y hy)), fun y hy => hT y ((h.cl e he).2 y hy)⟩, fun e he => ⟨(h.cr e he).1.mod m (fun y hy hy' => (hM y hy').2.1 ((h.cr e he).2 y hy)), fun y hy => hT y ((h.cr e he).2 y hy)⟩, fun y hy hy' => ?_, h.s0, h.r0, fun y hy => ?_, h.m.trans m (fun y hy => .inr (hM y hy).1)⟩
  · rcases hN r hh with h2 | h2
    · exact rf'.nr h2
    · omega
  · rcases hN y hy' with h2 | h2
    · exact h.sT y hy h2
    · have := hsl y hy; omega
  · rcases hN y hy with h2 | h2
    · have := h.lt y h2; have := m.size; omega
    · exact h2.2
theorem Pr.mod {w' : World} (m : Mod [] w w') : Pr w0 w' S g r t l lr T := h.grow m (by simp) (fun y hy => hy) (fun y hy => .inl hy)
end
/-- What a step leaves. -/
def StepR (w0 w : World) (S : List Nat) (g r : Nat) (T : List Nat) (w' : World) : Prop :=
  ∃ S' t' l' lr' T', Pr w0 w' S' g r t' l' lr' T' ∧ Mod (r :: S) w w' ∧ (∀ y ∈ S', y ∈ S ∨ w.heap.size ≤ y) ∧ (∀ y ∈ T, y ∈ T') ∧ ∀ y ∈ T', y ∈ T ∨ (w.heap.size ≤ y ∧ y < w'.heap.size)
/-- First the service, then the reference. -/
theorem Pr.both {w0 w w1 w2 : World} {S S' : List Nat} {g r : Nat} {t t' : Int} {l lr l' lr' : List En} {T T' : List Nat} (h : Pr w0 w S g r t l lr T) (sv : Sv w1 g S' t' l') (m1 : Mod S w w1) (hS : ∀ y ∈ S', y ∈ S ∨ w.heap.size ≤ y) (hS1 : ∀ y ∈ S', y ∉ T')
    (rr : RefR w1 r T t' lr' w2 T') (gd : Gd (says l')) (ag : says l' = says lr') {N : List Nat} (hl : ∀ e ∈ l', (∃ e0 ∈ l, e.a = e0.a ∧ e.l = e0.l) ∨ (e.rd w1 ∧ ∀ y ∈ e.fp, y ∈ N)) (hN : ∀ y ∈ N, w.heap.size ≤ y ∧ y < w1.heap.size ∧ y ∉ S') (hlr : ∀ e ∈ lr', (∃ e0 ∈ lr, e.a = e0.a ∧ e.l = e0.l) ∨ (e.rd w2 ∧ ∀ y ∈ e.fp, y ∈ T')) : StepR w0 w S g r T w2 := by
  obtain ⟨rf, m2, h1, h2⟩ := rr
  have hrl := h.rf.rlt
  have z1 := m1.size
  have z2 := m2.size
  have hw := h.m.size
  have rS' : r ∉ S' := fun hh => by rcases hS r hh with h3 | h3; exact h.rs h3; omega
  have sl' := sv.lt
  have mm : Mod (r :: S) w w2 := (m1.weaken (fun y hy => .inl (by simp [hy]))).trans m2 (fun y hy => .inl (by simp at hy; simp [hy]))
  have ap : ∀ y ∈ T, y ∉ r :: S := fun y hy hy' => by
    rcases List.mem_cons.1 hy' with rfl | hy'
    · exact h.rf.nr hy
    · exact h.sT y hy' hy
  have rN : r ∉ N := fun hh => by have := (hN r hh).1; omega
  have old : ∀ {e e0 : En}, e.a = e0.a → e.l = e0.l → (e0.rd w ∧ ∀ y ∈ e0.fp, y ∈ T) → e.rd w2 ∧ ∀ y ∈ e.fp, y ∈ N ++ T' := by
    intro e e0 ha hl ⟨hr, hf⟩
    have hfe : e.fp = e0.fp := by unfold En.fp; rw [ha, hl]
    have hre : e.rd w := by unfold En.rd at hr ⊢; rw [ha, hl]; exact hr
    exact ⟨hre.mod mm (fun y hy => ap y (hf y (hfe ▸ hy))), fun y hy => List.mem_append.2 (.inr (h1 y (hf y (hfe ▸ hy))))⟩
  refine ⟨S', t', l', lr', N ++ T', ⟨sv.mod m2 (fun y hy hy' => by simp at hy'; subst hy'; exact rS' hy), rf.more (fun y hy => by simp [hy]) (fun hh => ?_), rS', gd, ag, fun e he => ?_, fun e he => ?_, fun y hy hy' => ?_, fun y hy => ?_, h.r0, fun y hy => ?_, h.m.trans mm (fun y hy => .inr ?_)⟩, mm, hS, fun y hy => by simp [h1 y hy], fun y hy => ?_⟩
  · rcases List.mem_append.1 hh with hh | hh
    · exact rN hh
    · exact rf.nr hh
  · rcases hl e he with ⟨e0, he0, ha, hll⟩ | ⟨hr, hf⟩
    · exact old ha hll (h.cl e0 he0)
    · exact ⟨hr.mod m2 (fun y hy hy' => by simp at hy'; subst hy'; exact rN (hf _ hy)), fun y hy => by simp [hf y hy]⟩
  · rcases hlr e he with ⟨e0, he0, ha, hll⟩ | ⟨hr, hf⟩
    · exact old ha hll (h.cr e0 he0)
    · exact ⟨hr, fun y hy => by simp [hf y hy]⟩
  · rcases List.mem_append.1 hy' with hh | hh
    · exact (hN y hh).2.2 hy
    · exact hS1 y hy hh
  · rcases hS y hy with hh | hh
    · exact h.s0 y hh
    · omega
  · rcases List.mem_append.1 hy with hh | hh
    · have := hN y hh; omega
    · rcases h2 y hh with h3 | h3
      · have := h.lt y h3; omega
      · omega
  · rcases List.mem_cons.1 hy with rfl | hy
    · exact h.r0
    · exact h.s0 y hy
  · rcases List.mem_append.1 hy with hh | hh
    · right; have := hN y hh; omega
    · rcases h2 y hh with h3 | h3
      · exact .inl h3
      · right; omega
theorem apS {w0 w w1 : World} {S S' : List Nat} {g r : Nat} {t t' : Int} {l lr l' : List En} {T T' : List Nat} (h : Pr w0 w S g r t l lr T) (m1 : Mod S w w1) (sv : Sv w1 g S' t' l') (hS : ∀ y ∈ S', y ∈ S ∨ w.heap.size ≤ y) {w2 : World} (hT' : ∀ y ∈ T', y ∈ T ∨ (w1.heap.size ≤ y ∧ y < w2.heap.size)) : ∀ y ∈ S', y ∉ T' := by
  intro y hy hy'
  have := sv.lt y hy
  rcases hT' y hy' with hh | hh
  · rcases hS y hy with h3 | h3
    · exact h.sT y h3 hh
    · have := h.lt y hh; omega
  · omega

/-! ### Reports compared -/
theorem due_ok {w : World} {o b : Option Addr} {rs : List Rp} {es : List En} (c d : Nat) {t : Int} {p : Option Addr} {P : List Nat} {R : List Int → List UInt8 × Int} (hP : Pl p P R w) (hr : Rd w o (rs.flatMap rvv)) (hd : ∀ q ∈ rs, Rd w q.a (q.d.map bv)) (hb : Rd w b (es.flatMap svv)) (he : ∀ e ∈ es, e.rd w ∧ e.l.length ≤ 256) (hlen : rs.length ≤ 1000) (hs : rs.map Rp.say = es.map fun e => repS R t e.say) :
    Does Try.prog 33 #[.slice o rs.length c, .slice b es.length d, .int .i64 t, .pointer p] w fun v w' => v = .bool true ∧ Mod [] w w' := by
  have hl : rs.length = es.length := by have := congrArg List.length hs; simpa using this
  apply w33
  unfold F33
  rw [if_neg (by omega)]
  refine LoopP.of (fun (x : Int) w' => ∃ i : Nat, i ≤ rs.length ∧ x = (i : Int) ∧ Mod [] w w') (fun x _ => rs.length - x.toNat) ⟨0, by omega, rfl, Mod.refl _⟩ ?_
  rintro _ w1 ⟨i, hi, rfl, m1⟩
  unfold F33_b1
  refine iteI (fun hlt => ?_) (fun hlt => ⟨rfl, m1⟩)
  have hlt : i < rs.length := by omega
  have hlt2 : i < es.length := by omega
  obtain ⟨q, hq, hc⟩ := (hb.mod m1 (by simp)).flat (svv_len _) (by decide) hlt2
  obtain ⟨hre, hrl⟩ := he es[i] (List.getElem_mem hlt2)
  refine ⟨q, hq, by omega, by omega, _, _, _, hc 3 _ rfl, (hP [] w1 m1 (by simp) es[i].a es[i].l es[i].c (hre.mod m1 (by simp)) (by omega)).mono ?_⟩
  rintro _ w2 ⟨b', d', rfl, rb, m2, fb⟩
  have md : Mod [] w2 w2.drew := Mod.drew w2
  have M2 := m1.none m2
  have M3 := M2.none md
  obtain ⟨p', hp', hcr⟩ := (hr.mod M3 (by simp)).flat (rvv_len _) (by decide) hlt
  obtain ⟨q', hq', hcs⟩ := (hb.mod M3 (by simp)).flat (svv_len _) (by decide) hlt2
  rw [hq] at hq'
  cases hq'
  have hsay : rs[i].say = repS R t es[i].say := by
    have h1 : (rs.map Rp.say)[i]'(by simpa using hlt) = (es.map fun e => repS R t e.say)[i]'(by simpa using hlt2) := by simp only [hs]
    rw [List.getElem_map, List.getElem_map] at h1
    exact h1
  have e1 : rs[i].id = es[i].id := congrArg (fun x => x.1) hsay
  have e2 : rs[i].t = t := congrArg (fun x => x.2.1) hsay
  have e3 : rs[i].d = (R es[i].l).1 := congrArg (fun x => x.2.2) hsay
  refine ⟨_, _, _, _, rfl, p', hp', by omega, by omega, _, by have := hcr 0 _ rfl; rw [add_zero] at this; exact this, by omega, by omega, _, sc0 hcs, ?_⟩
  rw [if_neg (by rw [e1]; simp)]
  refine ⟨by omega, by omega, _, hcr 1 _ rfl, ?_⟩
  rw [if_neg (by rw [e2]; simp)]
  refine ⟨by omega, by omega, _, _, _, hcr 2 _ rfl, _, toStr_ok rs[i].c ((hd _ (List.getElem_mem hlt)).mod M3 (by simp)), _, toStr_ok d' (rb.mod md (by simp)), ?_⟩
  rw [strEq, e3, if_neg (by simp), wi64 (by omega)]
  exact ⟨_, by omega, ⟨i + 1, by omega, rfl, M3⟩, rfl⟩

/-! ### A call on both -/
abbrev sval (k id n now : Int) (on : Bool) (a : Option Addr) (p : List Int) (c : Nat) : Value := .agg #[.int .u8 k, .int .i64 id, .int .i64 n, .int .i64 now, .bool on, .slice a p.length c]
set_option maxRecDepth 100000 in
theorem step_ok {w0 w : World} {S : List Nat} {g r : Nat} {t : Int} {l lr : List En} {T : List Nat} (h : Pr w0 w S g r t l lr T) (k id n now : Int) (on : Bool) {a : Option Addr} {p : List Int} (c : Nat) (hid : -9223372036854775808 ≤ id ∧ id ≤ 9223372036854775807) (hp0 : Rd w0 a (p.map iv)) (hpl : p.length ≤ 1000)
    {pp : Option Addr} {P : List Nat} {R : List Int → List UInt8 × Int} (hP : Pl pp P R w) (hPT : ∀ y ∈ P, y ∈ T) (hz : ∀ X, (R X).2 ≠ 0 → (R X).1 = []) :
    Does Try.prog 17 #[.pointer (some (base g)), .pointer (some (base r)), sval k id n now on a p c, .pointer pp] w fun v w' => v = .bool true ∧ StepR w0 w S g r T w' ∧ Pl pp P R w' := by
  have hPap : ∀ y ∈ P, y ∉ r :: S := fun y hy hy' => by
    rcases List.mem_cons.1 hy' with rfl | hy'
    · exact h.rf.nr (hPT _ hy)
    · exact h.sT y hy' (hPT y hy)
  have fin : ∀ w', StepR w0 w S g r T w' → StepR w0 w S g r T w' ∧ Pl pp P R w' := fun w' st => ⟨st, by obtain ⟨S', t', l', lr', T', _, mm, _⟩ := st; exact hP.mod mm hPap⟩
  have hsl := h.sv.lt
  have hrl := h.rf.rlt
  apply w17
  unfold F17
  refine New.use fun w1 b1 m1 z1 => ?_
  have md : Mod [] w1 w1.drew := Mod.drew w1
  have h1 := h.mod (m1.none md)
  have b1d : Blk w1.drew w.heap.size 54 _ := b1.drew
  have M1 := m1.none md
  have hp1 : Rd w1.drew a (p.map iv) := hp0.mod h1.m (by simp)
  have hgS : ∀ y ∈ S, w.heap.size ≠ y := fun y hy => by have := hsl y hy; omega
  -- from the world behind the arguments back to w
  have back : ∀ w', StepR w0 w1.drew S g r T w' → StepR w0 w S g r T w' := by
    rintro w' ⟨S', t', l', lr', T', q1, q2, q3, q4, q5⟩
    have z := M1.size
    refine ⟨S', t', l', lr', T', q1, (M1.weaken (by simp)).trans q2 (fun y hy => .inl hy), fun y hy => ?_, q4, fun y hy => ?_⟩
    · rcases q3 y hy with hh | hh
      · exact .inl hh
      · right; omega
    · rcases q5 y hy with hh | hh
      · exact .inl hh
      · right; omega
  have hlr := h1.rlen
  refine ⟨_, b1.cell0, iteI (fun hk => ?_) (fun hk => ?_)⟩
  · -- Define
    refine ⟨_, b1d.cell (i := 1) rfl, _, b1d.cell (i := 2) rfl, _, _, _, b1d.cell (i := 5) rfl, _, b1d.cell (i := 1) rfl, _, b1d.cell (i := 2) rfl, _, _, _, b1d.cell (i := 5) rfl, ?_⟩
    refine (sdef_ok h1.sv h1.gd id n hid c hp1 hpl).mono ?_
    rintro _ w2 ⟨rfl, hd⟩
    have eE : defE (says l) id n p = defE (says lr) id n p := by rw [h.ag]
    rcases hd with ⟨hne, m2⟩ | ⟨h0, S', e, hsay, sv, m2, hS, her, hef, heS⟩
    · have h2 := h1.mod m2
      have b2 := b1d.mod m2 (by simp)
      refine ⟨_, rfl, b2.cell (i := 1) rfl, b2.cell (i := 2) rfl, b2.cell (i := 5) rfl, (rdef_ok h2.rf hlr id n c (hp1.mod m2 (by simp)) hpl).mono ?_⟩
      rintro _ w3 ⟨rfl, hd3⟩
      rcases hd3 with ⟨_, m3⟩ | ⟨h0, _⟩
      · refine ⟨_, rfl, by rw [eE]; simp, fin w3 ?_⟩
        have MM := (M1.none m2).none m3
        exact ⟨S, t, l, lr, T, h.mod MM, MM.weaken (by simp), fun y hy => .inl hy, fun y hy => hy, fun y hy => .inl hy⟩
      · exact absurd (eE.trans h0) hne
    · have b2 := b1d.mod m2 (fun hy => hgS _ hy rfl)
      have rf2 : Rf w2 r t lr T := h1.rf.mod m2 h1.rs (fun y hy hy' => h1.sT y hy' hy)
      refine ⟨_, rfl, b2.cell (i := 1) rfl, b2.cell (i := 2) rfl, b2.cell (i := 5) rfl, (rdef_ok rf2 hlr id n c (hp0.mod (h1.m.trans m2 (fun y hy => .inr (h.s0 y hy))) (by simp)) hpl).mono ?_⟩
      rintro _ w3 ⟨rfl, hd3⟩
      rcases hd3 with ⟨hne, _⟩ | ⟨h0', T', e', hsay', rr, her', hef'⟩
      · exact absurd (eE.symm.trans h0) hne
      · refine ⟨_, rfl, by rw [eE]; simp, fin w3 (back w3 ?_)⟩
        rw [← h.ag] at rr
        refine h1.both sv m2 hS (apS h1 m2 sv hS rr.2.2.2) rr ?_ ?_ (N := e.fp) (fun x hx => ?_) (fun y hy => ⟨hef y hy, her.lt y hy, heS y hy⟩) (fun x hx => ?_)
        · rw [says_ins, hsay]
          exact gd_def h1.gd h0
        · rw [says_ins, says_ins, hsay, hsay', h.ag]
        · rcases mem_ins hx with hx | rfl
          · exact .inl ⟨x, hx, rfl, rfl⟩
          · exact .inr ⟨her, fun y hy => hy⟩
        · rcases mem_ins hx with hx | rfl
          · exact .inl ⟨x, hx, rfl, rfl⟩
          · exact .inr ⟨her', hef'⟩
  refine iteI (fun hk2 => ?_) (fun hk2 => ?_)
  · -- Enable
    refine ⟨_, b1d.cell (i := 1) rfl, _, b1d.cell (i := 4) rfl, _, b1d.cell (i := 3) rfl, _, b1d.cell (i := 1) rfl, _, b1d.cell (i := 4) rfl, _, b1d.cell (i := 3) rfl, ?_⟩
    refine (sen_ok h1.sv h1.gd id on now hid).mono ?_
    rintro _ w2 ⟨rfl, sv, m2⟩
    have b2 := b1d.mod m2 (fun hy => hgS _ hy rfl)
    have rf2 : Rf w2 r t lr T := h1.rf.mod m2 h1.rs (fun y hy hy' => h1.sT y hy' hy)
    refine ⟨_, rfl, b2.cell (i := 1) rfl, b2.cell (i := 4) rfl, b2.cell (i := 3) rfl, (ren_ok rf2 hlr id on now).mono ?_⟩
    rintro _ w3 ⟨rfl, T', rr⟩
    have eE : enE (says l) id = enE (says lr) id := by rw [h.ag]
    refine ⟨_, rfl, by rw [eE]; simp, fin w3 (back w3 ?_)⟩
    rw [← h.ag] at rr
    refine h1.both sv m2 (fun y hy => .inl hy) (apS h1 m2 sv (fun y hy => .inl hy) rr.2.2.2) rr ?_ ?_ (N := []) (fun x hx => ?_) (by simp) (fun x hx => ?_)
    · split
      · rw [says_modify]; exact gd_en h1.gd _ _ _
      · exact h1.gd
    · split
      · rw [says_modify, says_modify, h.ag]
      · exact h.ag
    · left
      split at hx
      · obtain ⟨j, hj, rfl⟩ := List.getElem_of_mem hx
        rw [List.length_modify] at hj
        refine ⟨l[j], List.getElem_mem _, ?_⟩
        rw [List.getElem_modify]
        split <;> exact ⟨rfl, rfl⟩
      · exact ⟨x, hx, rfl, rfl⟩
    · left
      split at hx
      · obtain ⟨j, hj, rfl⟩ := List.getElem_of_mem hx
        rw [List.length_modify] at hj
        refine ⟨lr[j], List.getElem_mem _, ?_⟩
        rw [List.getElem_modify]
        split <;> exact ⟨rfl, rfl⟩
      · exact ⟨x, hx, rfl, rfl⟩
  refine iteI (fun hk3 => ?_) (fun hk3 => ?_)
  · -- Delete
    refine ⟨_, b1d.cell (i := 1) rfl, _, b1d.cell (i := 1) rfl, ?_⟩
    refine (sdel_ok h1.sv h1.gd id hid).mono ?_
    rintro _ w2 ⟨rfl, sv, m2⟩
    have b2 := b1d.mod m2 (fun hy => hgS _ hy rfl)
    have rf2 : Rf w2 r t lr T := h1.rf.mod m2 h1.rs (fun y hy hy' => h1.sT y hy' hy)
    refine ⟨_, rfl, b2.cell (i := 1) rfl, (rdel_ok rf2 hlr id).mono ?_⟩
    rintro _ w3 ⟨rfl, T', rr⟩
    have eE : delE (says l) id = delE (says lr) id := by rw [h.ag]
    refine ⟨_, rfl, by rw [eE]; simp, fin w3 (back w3 ?_)⟩
    rw [← h.ag] at rr
    refine h1.both sv m2 (fun y hy => .inl hy) (apS h1 m2 sv (fun y hy => .inl hy) rr.2.2.2) rr ?_ ?_ (N := []) (fun x hx => ?_) (by simp) (fun x hx => ?_)
    · split
      · rw [says_del]; exact gd_del h1.gd _
      · exact h1.gd
    · split
      · rw [says_del, says_del, h.ag]
      · exact h.ag
    · left
      split at hx
      · exact ⟨x, mem_del hx, rfl, rfl⟩
      · exact ⟨x, hx, rfl, rfl⟩
    · left
      split at hx
      · exact ⟨x, mem_del hx, rfl, rfl⟩
      · exact ⟨x, hx, rfl, rfl⟩
  · -- Due
    have h1' := h.mod m1
    refine ⟨_, b1.cell (i := 3) rfl, ?_⟩
    have hP1 : Pl pp P R w1 := hP.mod m1 (by simp)
    refine (sdue_ok h1'.sv h1'.gd (fun e he => ⟨(h1'.cl e he).1, fun y hy hy' => h1'.sT y hy' ((h1'.cl e he).2 y hy)⟩) now hP1 (fun y hy hy' => h1'.sT y hy' (hPT y hy)) hz).mono ?_
    rintro _ w2 ⟨⟨o, rs, oc, rfl, rep, hrs⟩, sv, m2⟩
    have b2 := b1.mod m2 (fun hy => hgS _ hy rfl)
    have rf2 : Rf w2 r t lr T := h1'.rf.mod m2 h1'.rs (fun y hy hy' => h1'.sT y hy' hy)
    refine ⟨_, _, _, rfl, _, b2.cell (i := 3) rfl, (rdue_ok rf2 hlr now).mono ?_⟩
    rintro _ w3 ⟨⟨o3, c3, rfl, r3, f3⟩, T', rr⟩
    have st : StepR w0 w1 S g r T w3 := by
      refine h1'.both sv m2 (fun y hy => .inl hy) (apS h1' m2 sv (fun y hy => .inl hy) rr.2.2.2) rr ?_ ?_ (N := []) (fun x hx => ?_) (by simp) (fun x hx => ?_)
      · rw [says_due]; exact gd_due h1'.gd _
      · rw [says_due, says_due, h.ag]
      · obtain ⟨e, he, rfl⟩ := List.mem_map.1 hx
        left
        refine ⟨e, he, ?_⟩
        unfold duN
        split <;> exact ⟨rfl, rfl⟩
      · obtain ⟨e, he, rfl⟩ := List.mem_map.1 hx
        left
        refine ⟨e, he, ?_⟩
        unfold duN
        split <;> exact ⟨rfl, rfl⟩
    have back1 : ∀ w', StepR w0 w1 S g r T w' → StepR w0 w S g r T w' := by
      rintro w' ⟨S', t', l', lr', T', q1, q2, q3, q4, q5⟩
      have z := m1.size
      refine ⟨S', t', l', lr', T', q1, (m1.weaken (by simp)).trans q2 (fun y hy => .inl hy), fun y hy => ?_, q4, fun y hy => ?_⟩
      · rcases q3 y hy with hh | hh
        · exact .inl hh
        · right; omega
      · rcases q5 y hy with hh | hh
        · exact .inl hh
        · right; omega
    obtain ⟨rf3, m3, hT3, _⟩ := rr
    have z1' := m1.size
    have M13 : Mod (r :: S) w1 w3 := (m2.weaken (fun y hy => .inl (by simp [hy]))).trans m3 (fun y hy => .inl (by simp at hy; simp [hy]))
    have hP3 : Pl pp P R w3 := hP1.mod M13 hPap
    obtain ⟨⟨aL, cL, aN, cN, hb3, _⟩, _⟩ := rf3
    have hcl : ∀ e ∈ lr.filter (fun e => isDue (passT t now) e.say), e.rd w3 ∧ e.l.length ≤ 256 := by
      intro e he
      have he := (List.mem_filter.1 he).1
      obtain ⟨q1, q2⟩ := h1'.cr e he
      refine ⟨q1.mod M13 (fun y hy hy' => ?_), ?_⟩
      · rcases List.mem_cons.1 hy' with rfl | hy'
        · exact h1'.rf.nr (q2 _ hy)
        · exact h1'.sT y hy' (q2 y hy)
      · have hm : e.say ∈ says l := by rw [h.ag]; exact List.mem_map.2 ⟨e, he, rfl⟩
        exact (h.gd.rng _ hm).2.2.2.2
    have hsay : rs.map Rp.say = (lr.filter fun e => isDue (passT t now) e.say).map fun e => repS R (passT t now) e.say := by
      rw [hrs, h.ag]
      unfold dueO says
      rw [List.filter_map, List.map_map]
      rfl
    have hlen : rs.length ≤ 1000 := by
      have := congrArg List.length hsay
      rw [List.length_map, List.length_map] at this
      have h2 := List.length_filter_le (fun e : En => isDue (passT t now) e.say) lr
      omega
    have hgr : ∀ y ∈ [r], y < w1.heap.size := by intro y hy; simp at hy; omega
    refine ⟨_, _, _, rfl, _, rfl, _, hb3.cell (i := 2) rfl, ?_⟩
    refine (due_ok oc c3 hP3 (rep.rd.modv m3 (fun y hy hy' => by have := rep.fo y hy; have := hgr y hy'; omega)) (fun q hq => (rep.ds q hq).1.modv m3 (fun y hy hy' => by have := (rep.ds q hq).2 y hy; have := hgr y hy'; omega)) r3 hcl hlen hsay).mono ?_
    rintro _ w4 ⟨rfl, m4⟩
    refine ⟨_, rfl, rfl, fin w4 (back1 w4 ?_)⟩
    obtain ⟨S', t', l', lr', T'', q1, q2, q3, q4, q5⟩ := st
    exact ⟨S', t', l', lr', T'', q1.mod m4, q2.none m4, q3, q4, fun y hy => by rcases q5 y hy with hh | hh; exact .inl hh; right; have := m4.size; omega⟩
end Go.Proofs.Ytcgkmmiokmbjdaa
