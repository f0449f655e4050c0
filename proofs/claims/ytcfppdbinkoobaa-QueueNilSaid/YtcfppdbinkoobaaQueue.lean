/-
  The contracts of chapter 8: the queue.
-/
import Derived.Test.YtcfppdbinkoobaaInsertE
import Derived.Test.YtcfppdbinkoobaaDeleteE
import Derived.Test.YtcfppdbinkoobaaCloneE
import Derived.Test.YtcfppdbinkoobaaFidx
namespace Go.Proofs.Ytcfppdbinkoobaa
open Go Go.Sh Go.Proofs
set_option linter.unusedVariables false
set_option linter.unusedSimpArgs false

abbrev Qe := Int × Int
def ev (x : Qe) : List Value := [.int .i64 x.1, .int .i64 x.2]
theorem ev_len (L : List Qe) : ∀ x ∈ L, (ev x).length = 2 := fun _ _ => rfl
theorem ev_one (L : List Qe) : ∀ u ∈ L.flatMap ev, one u = true := flat_one ev L (by intro x u hu; simp [ev] at hu; rcases hu with rfl | rfl <;> rfl)
theorem ev_flen (L : List Qe) : (L.flatMap ev).length = L.length * 2 := flat_len ev L (ev_len L)
theorem elem3 : Elem Try.prog 3 1 8 := Elem.of (v := .int .i64 0) (by kernel_rfl) rfl (by decide)
def iv (n : Int) : Value := .int .i64 n
theorem iv_one (l : List Int) : ∀ u ∈ l.map iv, one u = true := by
  intro u hu
  obtain ⟨b, _, rfl⟩ := List.mem_map.1 hu
  rfl

structure Qs where
  most : Int
  l : List Qe
def Qs.good (s : Qs) : Prop := 0 ≤ s.most ∧ s.most ≤ 256 ∧ (s.l.length : Int) ≤ s.most
def isIt (i : Int) (e : Qe) : Bool := decide (e.2 = i)
def after (p : Int) (e : Qe) : Bool := decide (p < e.1)
def Qs.push (s : Qs) (p i : Int) : Int × Qs :=
  if fidx (isIt i) s.l < s.l.length then (9, s) else if (s.l.length : Int) = s.most then (7, s) else (0, ⟨s.most, s.l.take (fidx (after p) s.l) ++ [(p, i)] ++ s.l.drop (fidx (after p) s.l)⟩)
def Qs.pop (s : Qs) : Qs := ⟨s.most, s.l.drop 1⟩
def Qs.peek (s : Qs) : Int × Bool := match s.l with | [] => (0, false) | x :: _ => (x.2, true)
def Qs.remove (s : Qs) (i : Int) : Bool × Qs := if fidx (isIt i) s.l < s.l.length then (true, ⟨s.most, s.l.take (fidx (isIt i) s.l) ++ s.l.drop (fidx (isIt i) s.l + 1)⟩) else (false, s)
theorem Qs.push_good {s : Qs} (h : s.good) (p i : Int) : (s.push p i).2.good := by
  unfold Qs.push
  split
  · exact h
  · split
    · exact h
    · have := fidx_le (after p) s.l
      obtain ⟨h1, h2, h3⟩ := h
      refine ⟨h1, h2, ?_⟩
      simp
      omega
theorem Qs.pop_good {s : Qs} (h : s.good) : s.pop.good := by
  obtain ⟨h1, h2, h3⟩ := h
  refine ⟨h1, h2, ?_⟩
  unfold Qs.pop
  simp
  omega
theorem Qs.remove_good {s : Qs} (h : s.good) (i : Int) : (s.remove i).2.good := by
  unfold Qs.remove
  split
  · obtain ⟨h1, h2, h3⟩ := h
    refine ⟨h1, h2, ?_⟩
    simp
    omega
  · exact h

/-- A queue in block g. -/
def Qu (w : World) (g : Nat) (S : List Nat) (s : Qs) : Prop := ∃ a c, S = g :: fp a ∧ Blk w g 56 [.bool true, .int .i64 s.most, .slice a s.l.length c] ∧ Win w 61 2 a s.l.length c (s.l.flatMap ev)
theorem Qu.mod {w w' : World} {g : Nat} {S T : List Nat} {s : Qs} (h : Qu w g S s) (hm : Mod T w w') (hd : ∀ x ∈ S, x ∉ T) : Qu w' g S s := by
  obtain ⟨a, c, rfl, hb, ho⟩ := h
  exact ⟨a, c, rfl, hb.mod hm (hd g (by simp)), ho.mod hm (fun x hx => hd x (by simp [hx]))⟩
theorem Qu.lt {w : World} {g : Nat} {S : List Nat} {s : Qs} (h : Qu w g S s) : ∀ x ∈ S, x < w.heap.size := by
  obtain ⟨a, c, rfl, hb, ho⟩ := h
  intro x hx
  rcases List.mem_cons.1 hx with rfl | hx
  · exact hb.lt
  · exact ho.lt x hx

def q0 (most : Int) : Qs := ⟨min (max most 0) 256, []⟩
theorem q0_good (most : Int) : (q0 most).good := by refine ⟨?_, ?_, ?_⟩ <;> simp [q0] <;> omega
theorem new_ok (most : Int) (w : World) : Does Try.prog 9 #[.int .i64 most] w fun v w' => v = .pointer (some (base w.heap.size)) ∧ Qu w' w.heap.size [w.heap.size] (q0 most) ∧ Mod [] w w' := by
  apply w9
  unfold F9
  exact New.use fun w1 h1 m1 z1 => ⟨rfl, ⟨none, 0, rfl, h1, Win.nil⟩, m1⟩

section
variable {w : World} {g : Nat} {S : List Nat} {s : Qs} (h : Qu w g S s)
include h
theorem usable_ok : Does Try.prog 24 #[.pointer (some (base g))] w fun v w' => v = .bool true ∧ w = w' := by
  obtain ⟨a, c, rfl, hb, ho⟩ := h
  apply w24
  unfold F24
  rw [if_pos (by simp)]
  exact ⟨_, rfl, true, hb.cell0, rfl, rfl⟩
theorem len_ok : Does Try.prog 13 #[.pointer (some (base g))] w fun v w' => v = .int .i64 (s.l.length : Int) ∧ w = w' := by
  apply w13
  unfold F13
  refine (usable_ok h).mono ?_
  rintro _ _ ⟨rfl, rfl⟩
  obtain ⟨a, c, rfl, hb, ho⟩ := h
  refine ⟨_, rfl, ?_⟩
  rw [if_neg (by simp)]
  exact ⟨_, rfl, _, _, _, hb.cell (i := 2) rfl, rfl, rfl⟩
theorem peek_ok : Does Try.prog 21 #[.pointer (some (base g))] w fun v w' => v = .tuple #[.int .i64 s.peek.1, .bool s.peek.2] ∧ w = w' := by
  apply w21
  unfold F21
  refine (usable_ok h).mono ?_
  rintro _ _ ⟨rfl, rfl⟩
  obtain ⟨a, c, rfl, hb, ho⟩ := h
  refine ⟨_, rfl, ?_⟩
  rw [if_neg (by simp)]
  refine ⟨_, rfl, _, _, _, hb.cell (i := 2) rfl, ?_⟩
  unfold F21_j1 Qs.peek
  match hl : s.l with
  | [] => rw [if_pos (by simp)]; exact ⟨rfl, rfl⟩
  | x :: r =>
    rw [if_neg (by simp; omega)]
    rw [hl] at hb ho
    obtain ⟨p, rfl, hc⟩ := ho.rd.flat (ev_len _) (by decide) (i := 0) (by simp)
    exact ⟨_, rfl, _, _, _, hb.cell (i := 2) rfl, p, rfl, by omega, by simp, _, hc 1 _ rfl, rfl, rfl⟩
end

theorem pop_ok {w : World} {g : Nat} {S : List Nat} {s : Qs} (h : Qu w g S s) : Does Try.prog 12 #[.pointer (some (base g))] w fun v w' => v = .tuple #[.int .i64 s.peek.1, .bool s.peek.2] ∧ Qu w' g S s.pop ∧ Mod S w w' := by
  apply w12
  unfold F12
  refine (peek_ok h).mono ?_
  rintro _ _ ⟨rfl, rfl⟩
  refine ⟨_, _, rfl, iteI (fun hp => ?_) (fun hp => ?_)⟩
  · obtain ⟨a, c, rfl, hb, ho⟩ := h
    have hlen : 1 ≤ s.l.length := by
      unfold Qs.peek at hp
      split at hp
      · simp at hp
      · rename_i hl; rw [hl]; simp
    refine ⟨_, rfl, _, _, _, hb.cell (i := 2) rfl, by omega, by omega, ?_⟩
    have hne := ho.ne hb (by decide)
    refine Put.use hb (by simp) fun w1 h1 m1 => ?_
    refine ⟨rfl, ⟨cutA a c 1 2, c - 1, by rw [fp_cut], ?_, ?_⟩, m1.weaken (fun x hx => .inl (by simp at hx; simp [hx]))⟩
    · have e : s.pop.l.length = s.l.length - 1 := by simp [Qs.pop]
      rw [e]
      exact h1
    · have := (ho.mod m1 (fun x hx hx' => by simp at hx'; subst hx'; exact hne hx)).cut (l := 1) hlen
      rw [flat_drop ev s.l (ev_len _)] at this
      simpa [Qs.pop] using this
  · have hlen : s.l = [] := by
      unfold Qs.peek at hp
      split at hp
      · rename_i hl; exact hl
      · simp at hp
    have : s.pop = s := by
      obtain ⟨m, l⟩ := s
      simp at hlen
      subst hlen
      rfl
    rw [this]
    exact ⟨rfl, h, Mod.refl _⟩

/-! ### IndexFunc -/
def idxV (p : Qe → Bool) (l : List Qe) : Int := if fidx p l < l.length then (fidx p l : Int) else -1
theorem idx_loop {w : World} {a : Option Addr} {l : List Qe} (hl : l.length ≤ 1000000) (hr : Rd w a (l.flatMap ev)) (pr : Qe → Bool) {body : Int → World → (Int → World → Prop) → Prop}
    (hbody : ∀ (i : Nat) (w1 : World) (nx : Int → World → Prop), i ≤ l.length → Mod [] w w1 → (∀ w2, Mod [] w w2 → (hi : i < l.length) → pr l[i] = false → nx ((i + 1 : Nat) : Int) w2) → (∀ j (hj : j < i) (hjl : j < l.length), pr l[j] = false) → body (i : Int) w1 nx) : LoopP body 0 w := by
  refine LoopP.of (fun (x : Int) w' => ∃ i : Nat, i ≤ l.length ∧ x = (i : Int) ∧ Mod [] w w' ∧ ∀ j (hj : j < i) (hjl : j < l.length), pr l[j] = false) (fun x _ => l.length - x.toNat) ⟨0, by omega, rfl, Mod.refl _, fun j hj => by omega⟩ ?_
  rintro _ w1 ⟨i, hi, rfl, m1, hb⟩
  refine hbody i w1 _ hi m1 (fun w2 m2 hlt hp => ⟨_, by omega, ⟨i + 1, by omega, rfl, m2, fun j hj hjl => ?_⟩, rfl⟩) hb
  by_cases h : j = i
  · subst h; exact hp
  · exact hb j (by omega) hjl

theorem index_ok {w : World} {g : Nat} {S : List Nat} {s : Qs} (h : Qu w g S s) (hg : s.good) (i : Int) : Does Try.prog 25 #[.pointer (some (base g)), .int .i64 i] w fun v w' => v = .int .i64 (idxV (isIt i) s.l) ∧ Mod [] w w' := by
  obtain ⟨a, c, rfl, hb, ho⟩ := h
  have hgl := hg.2
  apply w25
  unfold F25
  refine New.use fun w1 h1 m1 z1 => ?_
  refine ⟨_, rfl, _, _, _, (hb.mod m1 (by simp)).cell (i := 2) rfl, ?_⟩
  have q : Does Try.prog 31 #[.slice a s.l.length c, .func (.func 32) #[] #[.pointer (some (base w.heap.size))]] w1 fun v w' => v = .int .i64 (idxV (isIt i) s.l) ∧ Mod [] w1 w' := by
    apply w31c32
    unfold F31c32
    have hr := ho.rd.mod m1 (by simp)
    refine idx_loop (l := s.l) (by omega) hr (isIt i) ?_
    intro j w2 nx hj m2 hnx hbef
    unfold F31c32_b1
    refine iteI (fun hlt => ?_) (fun hlt => ?_)
    · have hlt : j < s.l.length := by omega
      obtain ⟨p, rfl, hc⟩ := (hr.mod m2 (by simp)).flat (ev_len _) (by decide) hlt
      refine ⟨p, rfl, by omega, by omega, _, _, ⟨hc 0 _ rfl, hc 1 _ rfl, trivial⟩, ?_⟩
      have cl : Does Try.prog 32 #[.agg #[.int .i64 s.l[j].1, .int .i64 s.l[j].2], .pointer (some (base w.heap.size))] w2 fun v w' => v = .bool (isIt i s.l[j]) ∧ Mod [] w2 w' := by
        apply w32
        unfold F32
        refine New.use fun w3 h3 m3 z3 => ?_
        exact ⟨_, h3.cell (i := 1) rfl, _, rfl, _, ((h1.mod m2 (by simp)).mod m3 (by simp)).cell0, rfl, m3⟩
      refine cl.mono ?_
      rintro _ w3 ⟨rfl, m3⟩
      refine ⟨_, rfl, iteI (fun hp => ?_) (fun hp => ?_)⟩
      · have e := fidx_at (isIt i) s.l j hlt hp (fun k hk => hbef k hk (by omega))
        unfold idxV
        rw [e, if_pos hlt]
        exact ⟨rfl, m2.none m3⟩
      · rw [wi64 (by omega)]
        exact hnx w3 (m2.none m3) hlt (by simpa using hp)
    · have hjl : j = s.l.length := by omega
      subst hjl
      have e := fidx_none (isIt i) s.l (fun k hk => hbef k hk hk)
      unfold idxV
      rw [e, if_neg (by omega)]
      exact ⟨rfl, m2⟩
  refine q.mono ?_
  rintro _ w2 ⟨rfl, m2⟩
  exact ⟨_, rfl, rfl, m1.none m2⟩

/-! ### insert -/
theorem flat_ins (l : List Qe) (k : Nat) (x : Qe) : (l.flatMap ev).take (k * 2) ++ ev x ++ (l.flatMap ev).drop (k * 2) = (l.take k ++ [x] ++ l.drop k).flatMap ev := by
  rw [flat_take ev l (ev_len l), flat_drop ev l (ev_len l), List.flatMap_append, List.flatMap_append]
  simp
theorem insert_ok {w : World} {a : Option Addr} {l : List Qe} {c : Nat} (x : Qe) (hl : l.length ≤ 1000) (ho : Win w 61 2 a l.length c (l.flatMap ev)) :
    Does Try.prog 26 #[.slice a l.length c, .agg #[.int .i64 x.1, .int .i64 x.2], .func (.func 27) #[] #[]] w fun v w' => ∃ a' c', v = .slice a' (l.length + 1) c' ∧ Win w' 61 2 a' (l.length + 1) c' ((l.take (fidx (after x.1) l) ++ [x] ++ l.drop (fidx (after x.1) l)).flatMap ev) ∧ Mod (fp a) w w' ∧ ∀ y ∈ fp a', y ∈ fp a ∨ w.heap.size ≤ y := by
  apply w26c27
  unfold F26c27
  refine New.use fun w1 h1 m1 z1 => ?_
  refine New.use fun w2 h2 m2 z2 => ?_
  have M2 := m1.none m2
  have h1' := h1.mod m2 (by simp)
  have q : Does Try.prog 31 #[.slice a l.length c, .func (.func 33) #[] #[.pointer (some (base w1.heap.size)), .pointer (some (base w.heap.size))]] w2 fun v w' => v = .int .i64 (idxV (after x.1) l) ∧ Mod [] w2 w' := by
    apply w31c33
    unfold F31c33
    have hr := ho.rd.mod M2 (by simp)
    refine idx_loop (l := l) (by omega) hr (after x.1) ?_
    intro j w3 nx hj m3 hnx hbef
    unfold F31c33_b1
    refine iteI (fun hlt => ?_) (fun hlt => ?_)
    · have hlt : j < l.length := by omega
      obtain ⟨p, rfl, hc⟩ := (hr.mod m3 (by simp)).flat (ev_len _) (by decide) hlt
      refine ⟨p, rfl, by omega, by omega, _, _, ⟨hc 0 _ rfl, hc 1 _ rfl, trivial⟩, ?_⟩
      have cl : Does Try.prog 33 #[.agg #[.int .i64 l[j].1, .int .i64 l[j].2], .pointer (some (base w1.heap.size)), .pointer (some (base w.heap.size))] w3 fun v w' => v = .bool (after x.1 l[j]) ∧ Mod [] w3 w' := by
        apply w33
        unfold F33
        refine New.use fun w4 h4 m4 z4 => ?_
        refine ⟨_, rfl, _, ((h2.mod m3 (by simp)).mod m4 (by simp)).cell0, _, rfl, _, _, ((h1'.mod m3 (by simp)).mod m4 (by simp)).cells, _, _, h4.cells, rfl, ?_⟩
        have cmp : Does Try.prog 27 #[.agg #[.int .i64 x.1, .int .i64 x.2], .agg #[.int .i64 l[j].1, .int .i64 l[j].2]] w4 fun v w' => v = .bool (after x.1 l[j]) ∧ Mod [] w4 w' := by
          apply w27
          unfold F27
          refine New.use fun w5 h5 m5 z5 => ?_
          refine New.use fun w6 h6 m6 z6 => ?_
          exact ⟨_, (h5.mod m6 (by simp)).cell0, _, h6.cell0, rfl, m5.none m6⟩
        refine cmp.mono ?_
        rintro _ w5 ⟨rfl, m5⟩
        exact ⟨_, rfl, rfl, m4.none m5⟩
      refine cl.mono ?_
      rintro _ w4 ⟨rfl, m4⟩
      refine ⟨_, rfl, iteI (fun hp => ?_) (fun hp => ?_)⟩
      · have e := fidx_at (after x.1) l j hlt hp (fun k hk => hbef k hk (by omega))
        unfold idxV
        rw [e, if_pos hlt]
        exact ⟨rfl, m3.none m4⟩
      · rw [wi64 (by omega)]
        exact hnx w4 (m3.none m4) hlt (by simpa using hp)
    · have hjl : j = l.length := by omega
      subst hjl
      have e := fidx_none (after x.1) l (fun k hk => hbef k hk hk)
      unfold idxV
      rw [e, if_neg (by omega)]
      exact ⟨rfl, m3⟩
  refine q.mono ?_
  rintro _ w3 ⟨rfl, m3⟩
  refine ⟨_, rfl, ?_⟩
  have M3 := M2.none m3
  have hfl := fidx_le (after x.1) l
  have j1 : ∀ at_ : Int, at_ = (fidx (after x.1) l : Int) → F26c27_j1 (base w.heap.size) a l.length c at_ w3 (fun v w' => ∃ a' c', v = .slice a' (l.length + 1) c' ∧ Win w' 61 2 a' (l.length + 1) c' ((l.take (fidx (after x.1) l) ++ [x] ++ l.drop (fidx (after x.1) l)).flatMap ev) ∧ Mod (fp a) w w' ∧ ∀ y ∈ fp a', y ∈ fp a ∨ w.heap.size ≤ y) := by
    rintro _ rfl
    unfold F26c27_j1
    refine ⟨_, _, (h1'.mod m3 (by simp)).cells, ?_⟩
    refine New.use fun w4 h4 m4 z4 => ?_
    have M4 := M3.none m4
    have o4 := ho.mod M4 (by simp)
    have hlt := ho.lt
    have z3 := M3.size
    refine (insert_queueentry (xs := ev x) o4 (ev_one l) hfl (by omega) h4 (fun hx => by have := hlt _ hx; omega) rfl (by intro u hu; simp [ev] at hu; rcases hu with rfl | rfl <;> rfl)).mono ?_
    rintro _ w5 ⟨a', c', rfl, o5, m5, f5⟩
    rw [flat_ins] at o5
    refine ⟨_, _, _, rfl, a', c', rfl, o5, (M4.weaken (by simp)).trans m5 (fun y hy => .inl hy), fun y hy => by rcases f5 y hy with h | h; exact .inl h; right; omega⟩
  unfold idxV
  by_cases hf : fidx (after x.1) l < l.length
  · rw [if_pos hf, if_neg (by omega)]
    exact j1 _ rfl
  · rw [if_neg hf, if_pos (by omega)]
    exact j1 _ (by omega)

theorem push_ok {w : World} {g : Nat} {S : List Nat} {s : Qs} (h : Qu w g S s) (hg : s.good) (p i : Int) : Does Try.prog 10 #[.pointer (some (base g)), .int .i64 p, .int .i64 i] w fun v w' => v = .int .i64 (s.push p i).1 ∧ ∃ S', Qu w' g S' (s.push p i).2 ∧ Mod S w w' ∧ ∀ y ∈ S', y ∈ S ∨ w.heap.size ≤ y := by
  apply w10
  unfold F10
  refine (usable_ok h).mono ?_
  rintro _ _ ⟨rfl, rfl⟩
  refine ⟨_, rfl, ?_⟩
  rw [if_neg (by simp)]
  refine (index_ok h hg i).mono ?_
  rintro _ w1 ⟨rfl, m1⟩
  have h1 := h.mod m1 (by simp)
  refine ⟨_, rfl, ?_⟩
  unfold Qs.push idxV
  have hgl := hg.2
  by_cases hf : fidx (isIt i) s.l < s.l.length
  · rw [if_pos hf, if_pos hf, if_pos (by omega)]
    exact ⟨rfl, S, h1, m1.weaken (by simp), fun y hy => .inl hy⟩
  rw [if_neg hf, if_neg hf, if_neg (by omega)]
  have md := Mod.drew (S := []) w1
  have h2 := h1.mod md (by simp)
  have M2 := m1.none md
  obtain ⟨a, c, rfl, hb, ho⟩ := h2
  refine ⟨_, rfl, _, _, _, hb.cell (i := 2) rfl, _, hb.cell (i := 1) rfl, ?_⟩
  by_cases hfull : (s.l.length : Int) = s.most
  · rw [if_pos hfull, if_pos hfull]
    exact ⟨rfl, _, ⟨a, c, rfl, hb, ho⟩, M2.weaken (by simp), fun y hy => .inl hy⟩
  rw [if_neg hfull, if_neg hfull]
  refine ⟨_, _, _, hb.cell (i := 2) rfl, ?_⟩
  refine (insert_ok (p, i) (by omega) ho).mono ?_
  rintro _ w3 ⟨a', c', rfl, o3, m3, f3⟩
  have hne := ho.ne hb (by decide)
  have hb3 := hb.mod m3 hne
  have hne3 := o3.ne hb3 (by decide)
  refine ⟨_, _, _, rfl, Put.use hb3 (by simp) fun w4 h4 m4 => ?_⟩
  have hlen : (s.l.take (fidx (after p) s.l) ++ [(p, i)] ++ s.l.drop (fidx (after p) s.l)).length = s.l.length + 1 := by have := fidx_le (after p) s.l; simp; omega
  have z2 := M2.size
  refine ⟨rfl, g :: fp a', ⟨a', c', rfl, ?_, ?_⟩, ?_, ?_⟩
  · rw [hlen]; exact h4
  · rw [hlen]; exact o3.mod m4 (fun x hx hx' => by simp at hx'; subst hx'; exact hne3 hx)
  · exact ((M2.weaken (by simp)).trans m3 (fun y hy => .inl (by simp [hy]))).trans m4 (fun y hy => .inl (by simp at hy; simp [hy]))
  · intro y hy
    rcases List.mem_cons.1 hy with rfl | hy
    · left; simp
    · rcases f3 y hy with h | h
      · left; simp [h]
      · right; omega

theorem remove_ok {w : World} {g : Nat} {S : List Nat} {s : Qs} (h : Qu w g S s) (hg : s.good) (i : Int) : Does Try.prog 14 #[.pointer (some (base g)), .int .i64 i] w fun v w' => v = .bool (s.remove i).1 ∧ Qu w' g S (s.remove i).2 ∧ Mod S w w' := by
  apply w14
  unfold F14
  refine (usable_ok h).mono ?_
  rintro _ _ ⟨rfl, rfl⟩
  refine ⟨_, rfl, ?_⟩
  rw [if_neg (by simp)]
  refine (index_ok h hg i).mono ?_
  rintro _ w1 ⟨rfl, m1⟩
  have h1 := h.mod m1 (by simp)
  refine ⟨_, rfl, ?_⟩
  unfold Qs.remove idxV
  have hgl := hg.2
  by_cases hf : fidx (isIt i) s.l < s.l.length
  · rw [if_pos hf, if_pos hf, if_neg (by omega)]
    obtain ⟨a, c, rfl, hb, ho⟩ := h1
    refine ⟨_, rfl, _, _, _, hb.cell (i := 2) rfl, ?_⟩
    have e1 : IntKind.i64.wrap ((fidx (isIt i) s.l : Int) + 1) = ((fidx (isIt i) s.l + 1 : Nat) : Int) := by rw [wi64 (by omega)]; omega
    rw [e1]
    refine (delete_queueentry ho (ev_one _) (i := fidx (isIt i) s.l) (j := fidx (isIt i) s.l + 1) (by omega) (by omega)).mono ?_
    rintro _ w2 ⟨rfl, o2, m2⟩
    rw [flat_take ev s.l (ev_len _), flat_drop ev s.l (ev_len _), ← List.flatMap_append] at o2
    have hlen : (s.l.take (fidx (isIt i) s.l) ++ s.l.drop (fidx (isIt i) s.l + 1)).length = fidx (isIt i) s.l + (s.l.length - (fidx (isIt i) s.l + 1)) := by simp; omega
    rw [← hlen] at o2 ⊢
    have hne := ho.ne hb (by decide)
    refine ⟨_, _, _, rfl, Put.use (hb.mod m2 hne) (by simp) fun w3 h3 m3 => ?_⟩
    refine ⟨rfl, ⟨a, c, rfl, h3, o2.mod m3 (fun x hx hx' => by simp at hx'; subst hx'; exact hne hx)⟩, ((m1.weaken (by simp)).trans m2 (fun y hy => .inl (by simp [hy]))).trans m3 (fun y hy => .inl (by simp at hy; simp [hy]))⟩
  · rw [if_neg hf, if_neg hf, if_pos (by omega)]
    exact ⟨rfl, h1, m1.weaken (by simp)⟩

theorem clone_ok {w : World} {g : Nat} {S : List Nat} {s : Qs} (h : Qu w g S s) (hg : s.good) : Does Try.prog 20 #[.pointer (some (base g))] w fun v w' => ∃ g' S', v = .pointer (some (base g')) ∧ Qu w' g' S' s ∧ Mod [] w w' ∧ ∀ y ∈ S', w.heap.size ≤ y := by
  apply w20
  unfold F20
  refine (usable_ok h).mono ?_
  rintro _ _ ⟨rfl, rfl⟩
  refine ⟨_, rfl, ?_⟩
  rw [if_neg (by simp)]
  have md := Mod.drew (S := []) w
  obtain ⟨a, c, rfl, hb, ho⟩ := h.mod md (by simp)
  have hgl := hg.2
  refine ⟨_, rfl, _, hb.cell (i := 1) rfl, _, _, _, hb.cell (i := 2) rfl, ?_⟩
  refine (clone_queueentry c ho.rd (ev_flen _) (ev_one _) (by omega)).mono ?_
  rintro _ w1 ⟨a', c', rfl, o1, m1, f1⟩
  refine ⟨_, _, _, rfl, (hb.mod m1 (by simp)).cell (i := 1) rfl, ?_⟩
  refine New.use fun w2 h2 m2 z2 => ?_
  have z1 := (md.none m1).size
  refine ⟨w1.heap.size, w1.heap.size :: fp a', rfl, ⟨a', c', rfl, h2, Win.of_own (o1.mod m2 (by simp))⟩, (md.none m1).none m2, fun y hy => ?_⟩
  rcases List.mem_cons.1 hy with rfl | hy
  · exact z1
  · have := f1 y hy; rw [size_drew] at this; exact this
end Go.Proofs.Ytcfppdbinkoobaa
