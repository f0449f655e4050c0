/-
  The law QueuePlays, as a contract.
-/
import Derived.Test.YtcfppdbinkoobaaLaws
namespace Go.Proofs.Ytcfppdbinkoobaa
open Go Go.Sh Go.Proofs
set_option linter.unusedVariables false
set_option linter.unusedSimpArgs false
set_option linter.unusedSectionVars false

theorem QN.re {w0 w w' : World} {g : Nat} {s : Qs} {T T' : List Nat} (h : QN w0 w g s T) (m : Mod [] w w') (hT : ∀ y ∈ T', y ∈ T ∨ (w.heap.size ≤ y ∧ y < w'.heap.size)) : QN w0 w' g s T' := by
  obtain ⟨⟨S, h1, h2, h3⟩, h4, h5, h6⟩ := h
  have hlt := h1.lt
  refine ⟨⟨S, h1.mod m (by simp), h2, fun y hy hy' => ?_⟩, h4, h5.none m, fun y hy => ?_⟩
  · rcases hT y hy' with h | h
    · exact h3 y hy h
    · have := hlt y hy; omega
  · rcases hT y hy with h | h
    · have := h6 y h; have := m.size; omega
    · exact h.2
theorem QN.store {w0 w w' : World} {g r : Nat} {s : Qs} {T : List Nat} (h : QN w0 w g s T) (m : Mod [r] w w') (hr : r ∈ T) (h0 : w0.heap.size ≤ r) : QN w0 w' g s T := by
  obtain ⟨⟨S, h1, h2, h3⟩, h4, h5, h6⟩ := h
  exact ⟨⟨S, h1.mod m (fun y hy hy' => by simp at hy'; subst hy'; exact h3 _ hy hr), h2, h3⟩, h4, h5.trans m (fun y hy => .inr (by simp at hy; omega)), fun y hy => by have := h6 y hy; have := m.size; omega⟩

/-- The queue at s1, the reference's in block r at s. -/
structure PS (w0 w : World) (g r : Nat) (s1 s : Qs) (U : List Nat) (a : Option Addr) (c : Nat) : Prop where
  q : QN w0 w g s1 (r :: (fpv a (s.l.flatMap ev) ++ U))
  b : Blk w r 40 (s.cells a c)
  rd : Rd w a (s.l.flatMap ev)
  hc : s.l.length ≤ c
  good : s.good
  hr : r ∉ fpv a (s.l.flatMap ev)
  h0 : w0.heap.size ≤ r
section
variable {w0 w : World} {g r : Nat} {s1 s : Qs} {U : List Nat} {a : Option Addr} {c : Nat} (h : PS w0 w g r s1 s U a c)
include h
theorem PS.keep {w' : World} {g' : Nat} {s2 : Qs} (k : Keep (r :: (fpv a (s.l.flatMap ev) ++ U)) w w') (q : QN w0 w' g' s2 (r :: (fpv a (s.l.flatMap ev) ++ U))) : PS w0 w' g' r s2 s U a c :=
  { h with q := q, b := k.blk h.b (by simp), rd := k.rd h.rd (fun y hy => by simp [hy]) }
theorem PS.mod {w' : World} (m : Mod [] w w') : PS w0 w' g r s1 s U a c :=
  { h with q := h.q.mod m, b := h.b.mod m (by simp), rd := h.rd.mod m (by simp) }
theorem PS.store {w' : World} {s2 : Qs} {mk : Value → Value} {v : Value} (hs : s2.good) (hU : r ∉ U) (hq : RefQ w a s.l s2 mk v w') : ∃ a2 c2, v = mk (s2.val a2 c2) ∧ Mod [] w w' ∧
    ∀ K : World → Prop, (∀ w3, PS w0 w3 g r s1 s2 U a2 c2 → Mod [r] w' w3 → K w3) →
      New w' 40 [.int .i64 0, .slice none 0 0] (fun p w1 => PutAll w1 p [.int .i64 s2.most, .slice a2 s2.l.length c2] (fun w2 => ∃ (x : Int) (xa : Option Addr) (xn xc : Nat), Cells w2 p 0 [.int .i64 x, .slice xa xn xc] ∧ PutAll w2 (base r) [.int .i64 x, .slice xa xn xc] K)) := by
  obtain ⟨a2, c2, rfl, r2, hc2, m2, f2⟩ := hq
  refine ⟨a2, c2, rfl, m2, fun K hK => ?_⟩
  refine New.put rfl fun w4 h4 m4 z4 => ?_
  have m24 := m2.none m4
  have b4 := h.b.mod m24 (by simp)
  have hlt := h.b.lt
  have lt2 := r2.lt
  have hr2 : r ∉ fpv a2 (s2.l.flatMap ev) := fun hy => by
    rcases f2 r hy with h' | h'
    · exact h.hr h'
    · omega
  refine ⟨_, _, _, _, h4.cells, PutAll.use b4 rfl fun w5 h5 m5 => ?_⟩
  have q4 : QN w0 w4 g s1 (r :: (fpv a2 (s2.l.flatMap ev) ++ U)) := h.q.re m24 (fun y hy => by
    rcases List.mem_cons.1 hy with rfl | hy
    · left; simp
    · rcases List.mem_append.1 hy with hy | hy
      · rcases f2 y hy with h' | h'
        · left; simp [h']
        · right; have := lt2 y hy; have := m4.size; omega
      · left; simp [hy])
  refine hK w5 ⟨q4.store m5 (by simp) h.h0, h5, (r2.mod m4 (by simp)).modv m5 (fun y hy hy' => by simp at hy'; subst hy'; exact hr2 hy), hc2, hs, hr2, h.h0⟩ ?_
  exact (m4.weaken (by simp)).trans m5 (fun y hy => .inl hy)
end

theorem plays_j2 {w0 w : World} {g r : Nat} {s : Qs} {U : List Nat} {a : Option Addr} {c i : Nat} {L : Nat} (hL : L ≤ 100) (hi : i < L) (h : PS w0 w g r s s U a c) {K : Value → World → Prop} {nx : Option Addr → Int → World → Prop}
    (hn : ∀ w', PS w0 w' g r s s U a c → nx (some (base g)) ((i + 1 : Nat) : Int) w') : F6_j2 (base r) (i : Int) (some (base g)) w K nx := by
  unfold F6_j2
  refine h.q.peek.mono ?_
  rintro _ _ ⟨rfl, rfl⟩
  refine ⟨_, _, rfl, _, _, _, _, h.b.cells, ?_⟩
  refine (refPeek_ok h.rd h.hc h.good).mono ?_
  rintro _ w1 ⟨rfl, m1⟩
  have h1 := h.mod (m1.none (Mod.drew (S := []) w1))
  refine ⟨_, _, rfl, ?_⟩
  rw [if_neg (by simp), if_neg (by simp)]
  generalize w1.drew = w2 at *
  refine ⟨_, _, _, h1.b.cell (i := 1) rfl, ?_⟩
  refine h1.q.len.mono ?_
  rintro _ _ ⟨rfl, rfl⟩
  refine ⟨_, rfl, h1.b.cell (i := 1) rfl, ?_⟩
  rw [if_neg (by simp)]
  refine ⟨_, _, _, _, h1.b.cells, ?_⟩
  refine h1.q.items.mono ?_
  rintro _ w3 ⟨a3, c3, rfl, r3, m3, q3⟩
  have h3 := h1.mod m3
  refine ⟨_, _, _, rfl, h3.b.cells, ?_⟩
  refine (refItems_ok h3.rd h3.hc h3.good).mono ?_
  rintro _ w4 ⟨a4, c4, rfl, r4, hc4, m4, f4⟩
  refine ⟨_, _, _, rfl, ?_⟩
  have hgl := h.good.2
  refine (ints_ok (l := items s.l) (m := items s.l) c3 c4 (by simp [items]; omega) (r3.mod m4 (by simp)) r4).mono ?_
  rintro _ w5 ⟨rfl, m5⟩
  refine ⟨_, rfl, ?_⟩
  rw [if_neg (by simp), wi64 (by omega)]
  exact hn w5 ((h3.mod m4).mod m5)

def ov (x : Int × Int × Int) : List Value := [.int .i64 x.1, .int .i64 x.2.1, .int .i64 x.2.2]
theorem ov_len (L : List (Int × Int × Int)) : ∀ x ∈ L, (ov x).length = 3 := fun _ _ => rfl
theorem queuePlays_ok (most : Int) {a0 : Option Addr} {L : List (Int × Int × Int)} (c0 : Nat) {w : World} (hr : Rd w a0 (L.flatMap ov)) : Does Try.prog 6 #[.int .i64 most, .slice a0 L.length c0] w fun v w' => v = .bool true ∧ Mod [] w w' := by
  apply w6
  unfold F6
  have live : ∀ {w' : World}, Mod [] w w' → Does Try.prog 8 #[] w' (fun v w'' => ∃ (x : Bool), v = .bool x ∧ (Value.bool x = .bool true ∧ Mod [] w w'')) := fun M => (alive_ok _).mono fun v w' h => ⟨_, h.1, rfl, M.none h.2⟩
  refine iteI (fun hl => live (Mod.refl _)) (fun hl => ?_)
  refine (QN.new w most).mono ?_
  rintro _ w1 ⟨rfl, q1⟩
  refine ⟨_, rfl, (refNew_ok most w1).mono ?_⟩
  rintro _ w2 ⟨rfl, m2⟩
  refine ⟨_, _, _, _, rfl, ?_⟩
  refine New.put rfl fun w3 h3 m3 z3 => ?_
  have M3 := m2.none m3
  have z2 := (q1.m.none m2).size
  have z12 := m2.size
  have P0 : PS w w3 w.heap.size w2.heap.size (q0 most) (q0 most) [] none 0 := ⟨q1.re M3 (fun y hy => by simp [q0, fpv] at hy; right; omega), h3, Rd.nil, Nat.le_refl _, q0_good most, by simp [q0, fpv], z2⟩
  refine LoopP.of (fun (x : Option Addr × Int) w' => ∃ (i g : Nat) (s : Qs) (a : Option Addr) (c : Nat), i ≤ L.length ∧ x = (some (base g), (i : Int)) ∧ PS w w' g w2.heap.size s s [] a c) (fun x _ => L.length - x.2.toNat) ⟨0, _, _, _, _, by omega, rfl, P0⟩ ?_
  clear P0 q1
  rintro _ w4 ⟨i, g, s, a, c, hi, rfl, P⟩
  unfold F6_b1
  dsimp only
  by_cases hlt : ¬ i < L.length
  · rw [if_neg (by omega)]
    exact live P.q.m
  have hlt : i < L.length := by omega
  rw [if_pos (by omega)]
  obtain ⟨p, rfl, hc⟩ := (hr.mod P.q.m (by simp)).flat (ov_len L) (by decide) hlt
  refine ⟨p, rfl, by omega, by omega, _, _, _, ⟨hc 0 _ rfl, hc 1 _ rfl, hc 2 _ rfl, trivial⟩, ?_⟩
  refine New.put rfl fun w5 h5 m5 z5 => ?_
  have ltr := P.b.lt
  have hrU : w2.heap.size ∉ [w4.heap.size] := by simp; omega
  have P5 : PS w w5 g w2.heap.size s s [w4.heap.size] a c := { P.mod m5 with q := P.q.re m5 (fun y hy => by
    rcases List.mem_cons.1 hy with rfl | hy
    · left; simp
    · rcases List.mem_append.1 hy with hy | hy
      · left; simp [hy]
      · right; simp at hy; omega) }
  have drop : ∀ {w' : World} {g' : Nat} {s1 s2 : Qs} {a : Option Addr} {c : Nat}, PS w w' g' w2.heap.size s1 s2 [w4.heap.size] a c → PS w w' g' w2.heap.size s1 s2 [] a c := fun h => { h with q := h.q.re (Mod.refl _) (fun y hy => by left; simp at hy ⊢; rcases hy with h | h; exact .inl h; exact .inr (.inl h)) }
  have next : ∀ {w' : World} {g' : Nat} {s' : Qs} {a' : Option Addr} {c' : Nat}, PS w w' g' w2.heap.size s' s' [w4.heap.size] a' c' → F6_j2 (base w2.heap.size) (i : Int) (some (base g')) w' (fun v w' => v = .bool true ∧ Mod [] w w') (fun x0 x1 w_1 => ∃ m, m < L.length - ((some (base g) : Option Addr), (i : Int)).2.toNat ∧ ((∃ (i g : Nat) (s : Qs) (a : Option Addr) (c : Nat), i ≤ L.length ∧ (x0, x1) = (some (base g), (i : Int)) ∧ PS w w_1 g w2.heap.size s s [] a c) ∧ L.length - (x0, x1).2.toNat = m)) := fun h =>
    plays_j2 (L := L.length) (by omega) hlt h (fun w' h' => ⟨_, by simp only; omega, ⟨i + 1, _, _, _, _, by omega, rfl, drop h'⟩, rfl⟩)
  refine ⟨_, h5.cell0, iteI (fun h1 => ?_) (fun h1 => ?_)⟩
  · refine ⟨_, h5.cell (i := 1) rfl, _, h5.cell (i := 2) rfl, ?_⟩
    refine (P5.q.push _ _).mono ?_
    rintro _ w6 ⟨rfl, q6, k6⟩
    have P6 := P5.keep k6 q6
    have h6 := k6.blk h5 (by simp)
    refine ⟨_, rfl, _, _, _, _, P6.b.cells, _, h6.cell (i := 1) rfl, _, h6.cell (i := 2) rfl, ?_⟩
    refine (refPush_ok P6.rd P6.hc P6.good _ _).mono ?_
    intro v w7 hq
    obtain ⟨a7, c7, rfl, m7, st⟩ := P6.store (Qs.push_good P6.good _ _) hrU hq
    refine ⟨_, _, _, _, _, rfl, st _ fun w8 P8 m8 => ?_⟩
    rw [if_neg (by simp)]
    exact next P8
  refine iteI (fun h2 => ?_) (fun h2 => ?_)
  · refine P5.q.pop.mono ?_
    rintro _ w6 ⟨rfl, q6, k6⟩
    have P6 := P5.keep k6 q6
    refine ⟨_, _, rfl, _, _, _, _, P6.b.cells, ?_⟩
    refine (refPop_ok P6.rd P6.hc P6.good).mono ?_
    intro v w7 hq
    obtain ⟨a7, c7, rfl, m7, st⟩ := P6.store (Qs.pop_good P6.good) hrU hq
    refine ⟨_, _, _, _, _, _, rfl, st _ fun w8 P8 m8 => ?_⟩
    rw [if_neg (by simp), if_neg (by simp)]
    exact next P8
  refine iteI (fun h3 => ?_) (fun h3 => ?_)
  · refine ⟨_, h5.cell (i := 2) rfl, ?_⟩
    refine (P5.q.remove _).mono ?_
    rintro _ w6 ⟨rfl, q6, k6⟩
    have P6 := P5.keep k6 q6
    have h6 := k6.blk h5 (by simp)
    refine ⟨_, rfl, _, _, _, _, P6.b.cells, _, h6.cell (i := 2) rfl, ?_⟩
    refine (refRemove_ok P6.rd P6.hc P6.good _).mono ?_
    intro v w7 hq
    obtain ⟨a7, c7, rfl, m7, st⟩ := P6.store (Qs.remove_good P6.good _) hrU hq
    refine ⟨_, _, _, _, _, rfl, st _ fun w8 P8 m8 => ?_⟩
    rw [if_neg (by simp)]
    exact next P8
  refine iteI (fun h4 => ?_) (fun h4 => ?_)
  · refine P5.q.clone.mono ?_
    rintro _ w6 ⟨g6, S6, rfl, hq6, m6, f6, q6⟩
    have P6 := P5.mod m6
    have h6 := h5.mod m6 (by simp)
    refine ⟨_, rfl, _, h6.cell (i := 1) rfl, _, h6.cell (i := 2) rfl, ?_⟩
    refine (q6.push _ _).mono ?_
    rintro _ w7 ⟨rfl, q7, k7⟩
    refine ⟨_, rfl, q7.pop.mono ?_⟩
    rintro _ w8 ⟨rfl, q8, k8⟩
    refine ⟨_, _, rfl, ?_⟩
    have kk : Keep (S6 ++ (w2.heap.size :: (fpv a (s.l.flatMap ev) ++ [w4.heap.size]))) w6 w8 := by
      obtain ⟨A, ma, pa⟩ := k7
      obtain ⟨B, mb, pb⟩ := k8
      exact ⟨A ++ B, (ma.weaken (fun x hx => .inl (by simp [hx]))).same (mb.weaken (fun x hx => .inl (by simp [hx]))), fun x hx => by rcases List.mem_append.1 hx with h | h; exact pa x h; exact pb x h⟩
    have hq8 : Qu w8 g6 S6 s := by
      obtain ⟨A, ma, pa⟩ := kk
      exact hq6.mod ma (fun x hx hx' => pa x hx' (by simp [hx]))
    have kT : Keep (w2.heap.size :: (fpv a (s.l.flatMap ev) ++ [w4.heap.size])) w6 w8 := by
      obtain ⟨A, ma, pa⟩ := kk
      exact ⟨A, ma, fun x hx hx' => pa x hx (List.mem_append_right _ hx')⟩
    have z5' := P5.q.m.size
    have q9 : QN w w8 g6 s (w2.heap.size :: (fpv a (s.l.flatMap ev) ++ [w4.heap.size])) := ⟨⟨S6, hq8, fun x hx => by have := f6 x hx; omega, fun x hx hx' => by have := f6 x hx; have := P5.q.lt x hx'; omega⟩, P5.good, q8.m, fun y hy => q8.lt y (List.mem_append_right _ hy)⟩
    exact next (P6.keep kT q9)
  · exact next P5
end Go.Proofs.Ytcfppdbinkoobaa
