/-
  params: pools; New, def, choose, Pack. (in a namespace of its own)
-/
import Derived.Test.YtcgkmmiokmbjdaaForms
import Derived.Test.YtcgkmmiokmbjdaaHeap
import Derived.Test.YtcgkmmiokmbjdaaBitsW
import Derived.Test.YtcgkmmiokmbjdaaBitsVal
import Derived.Test.YtcgkmmiokmbjdaaBsearch
import Derived.Test.YtcgkmmiokmbjdaaFidx
namespace Go.Proofs.Ytcgkmmiokmbjdaa.Pm
open Go Go.Sh Go.Proofs Go.Proofs.Ytcgkmmiokmbjdaa
set_option linter.unusedVariables false
set_option linter.unusedSimpArgs false
set_option linter.unusedSectionVars false

/-- A writer that is new since w0, nothing of which has changed. -/
def Wn (w0 w : World) (g : Nat) (L : List Bool) : Prop := ∃ S, Wr w g S L ∧ Since w0 S ∧ Mod [] w0 w
section
variable {w0 w : World} {g : Nat} {L : List Bool}
theorem Wn.new (w0 : World) : Does Try.prog 42 #[] w0 fun v w' => v = .pointer (some (base w0.heap.size)) ∧ Wn w0 w' w0.heap.size [] := by
  refine (newWriter_ok w0).mono ?_
  rintro _ w' ⟨rfl, h, m⟩
  exact ⟨rfl, _, h, by intro x hx; simp at hx; omega, m⟩
theorem Wn.m (h : Wn w0 w g L) : Mod [] w0 w := by obtain ⟨_, _, _, m⟩ := h; exact m
theorem Wn.mod (h : Wn w0 w g L) {w' : World} (m : Mod [] w w') : Wn w0 w' g L := by
  obtain ⟨S, h1, h2, h3⟩ := h
  exact ⟨S, h1.mod m (by simp), h2, h3.none m⟩
theorem Wn.drew (h : Wn w0 w g L) : Wn w0 w.drew g L := h.mod (Mod.drew w)
theorem Wn.put (h : Wn w0 w g L) {n : Nat} (wd : Nat) (hn : n < 2 ^ 64) (hwd : wd ≤ 64) (hL : L.length ≤ 900000) :
    Does Try.prog 43 #[.pointer (some (base g)), .int .u64 (n : Int), .int .i64 (wd : Int)] w fun v w' => v = .pointer (some (base g)) ∧ Wn w0 w' g (L ++ field n wd) := by
  obtain ⟨S, h1, h2, h3⟩ := h
  refine (put_ok h1 hn hwd hL).mono ?_
  rintro _ w' ⟨rfl, S', h', m', f⟩
  exact ⟨rfl, S', h', h2.step h3.size f, h3.since m' h2⟩
theorem Wn.putAt (h : Wn w0 w g L) {x : Int} (n wd : Nat) (hx : x = (n : Int)) (hn : n < 2 ^ 64) (hwd : wd ≤ 64) (hL : L.length ≤ 900000) :
    Does Try.prog 43 #[.pointer (some (base g)), .int .u64 x, .int .i64 (wd : Int)] w fun v w' => v = .pointer (some (base g)) ∧ Wn w0 w' g (L ++ field n wd) := by
  subst hx
  exact h.put wd hn hwd hL
theorem Wn.bytes (h : Wn w0 w g L) (hL : L.length ≤ 1000000) : Does Try.prog 44 #[.pointer (some (base g))] w fun v w' =>
    ∃ a c, v = .slice a (pack L).length c ∧ Own w' 5 1 a (pack L).length c ((pack L).map bv) ∧ Mod [] w0 w' ∧ Since w0 (fp a) := by
  obtain ⟨S, h1, h2, h3⟩ := h
  refine (bytes_ok h1 hL).mono ?_
  rintro _ w' ⟨a, c, rfl, ho, m, f⟩
  have := h3.size
  exact ⟨a, c, rfl, ho, h3.none m, fun x hx => by have := f x hx; omega⟩
theorem Wn.bytes2 (h : Wn w0 w g L) (hL : L.length ≤ 1000000) : Does Try.prog 44 #[.pointer (some (base g))] w fun v w' =>
    ∃ a c, v = .slice a (pack L).length c ∧ Own w' 5 1 a (pack L).length c ((pack L).map bv) ∧ Mod [] w w' ∧ Since w (fp a) := by
  obtain ⟨S, h1, h2, h3⟩ := h
  refine (bytes_ok h1 hL).mono ?_
  rintro _ w' ⟨a, c, rfl, ho, m, f⟩
  exact ⟨a, c, rfl, ho, m, f⟩
end


/-- ID, Width, Signed, Value. -/
abbrev Pd := Int × Int × Bool × Int
def pv (x : Pd) : List Value := [.int .i64 x.1, .int .i64 x.2.1, .bool x.2.2.1, .int .i64 x.2.2.2]
abbrev pval (x : Pd) : Value := .agg #[.int .i64 x.1, .int .i64 x.2.1, .bool x.2.2.1, .int .i64 x.2.2.2]
theorem pv_len (L : List Pd) : ∀ x ∈ L, (pv x).length = 4 := fun _ _ => rfl
theorem pv_one (L : List Pd) : ∀ u ∈ L.flatMap pv, one u = true := flat_one pv L (by intro x u hu; simp [pv] at hu; rcases hu with rfl | rfl | rfl | rfl <;> rfl)
theorem pv_flen (L : List Pd) : (L.flatMap pv).length = L.length * 4 := flat_len pv L (pv_len L)
def iv (n : Int) : Value := .int .i64 n
theorem iv_one (l : List Int) : ∀ u ∈ l.map iv, one u = true := by
  intro u hu
  obtain ⟨b, _, rfl⟩ := List.mem_map.1 hu
  rfl

def inR (d : Pd) (v : Int) : Bool := if d.2.2.1 then decide (-(2 ^ (d.2.1.toNat - 1) : Int) ≤ v ∧ v < 2 ^ (d.2.1.toNat - 1)) else decide (0 ≤ v ∧ v < 2 ^ d.2.1.toNat)
def wOk (d : Pd) : Prop := 1 ≤ d.2.1 ∧ d.2.1 ≤ 32
/-- The i-th definition is right. -/
def okAt (L : List Pd) (i : Nat) : Prop := ∀ h : i < L.length, (0 ≤ L[i].1 ∧ L[i].1 ≤ 65535) ∧ (∀ h0 : 0 < i, L[i - 1].1 < L[i].1) ∧ wOk L[i] ∧ inR L[i] L[i].2.2.2 = true
structure Good (L : List Pd) : Prop where
  len : L.length ≤ 256
  ok : ∀ i, okAt L i
/-- The error of a list of definitions. -/
def ErrL (L : List Pd) (e : Int) : Prop := (e = 0 ∧ Good L) ∨ (e = 6 ∧ 256 < L.length) ∨ (e = 1 ∧ L.length ≤ 256 ∧ ¬ Good L)
theorem ErrL.unique {L : List Pd} {e f : Int} (h : ErrL L e) (h' : ErrL L f) : e = f := by
  rcases h with ⟨rfl, h⟩ | ⟨rfl, h⟩ | ⟨rfl, h, h2⟩ <;> rcases h' with ⟨rfl, g⟩ | ⟨rfl, g⟩ | ⟨rfl, g, g2⟩ <;> first | rfl | exact absurd g h2 | exact absurd h g2 | (have := h.len; omega) | (have := g.len; omega) | omega

theorem pow_lt {n : Nat} (h : n ≤ 62) : (2 : Int) ^ n ≤ 4611686018427387904 ∧ 1 ≤ (2 : Int) ^ n := by
  have h1 : (2 : Nat) ^ n ≤ 2 ^ 62 := Nat.pow_le_pow_right (by decide) h
  have h2 : 1 ≤ (2 : Nat) ^ n := Nat.one_le_two_pow
  have e : (2 : Int) ^ n = ((2 ^ n : Nat) : Int) := by norm_cast
  rw [e]
  omega
theorem shl1 {n : Nat} (h : n ≤ 62) : shl .i64 1 (n : Int) = 2 ^ n := by
  have hp := pow_lt h
  unfold shl
  rw [Int.toNat_natCast, Nat.min_eq_left (by show n ≤ 64; omega), Int.one_mul, wi64 (by omega)]

section
variable {d : Pd} (hd : wOk d) (v : Int) (w : World)
include hd
theorem inRange_ok : Does Try.prog 35 #[pval d, .int .i64 v] w fun x w' => x = .bool (inR d v) ∧ Mod [] w w' := by
  obtain ⟨h1, h2⟩ := hd
  apply w35
  unfold F35
  refine New.use fun w1 b1 m1 z1 => ?_
  refine ⟨_, b1.cell (i := 2) rfl, ?_⟩
  unfold inR
  have e : d.2.1 = ((d.2.1.toNat : Nat) : Int) := by omega
  refine iteI (fun hs => ?_) (fun hs => ?_)
  · refine ⟨_, b1.cell (i := 1) rfl, ?_⟩
    rw [if_pos hs]
    have e1 : IntKind.i64.wrap (d.2.1 - 1) = ((d.2.1.toNat - 1 : Nat) : Int) := by rw [wi64 (by omega)]; omega
    have hp := pow_lt (n := d.2.1.toNat - 1) (by omega)
    rw [e1, shl1 (by omega), wi64 (by omega)]
    refine ⟨by omega, iteI (fun h => ?_) (fun h => ?_)⟩
    · refine ⟨?_, m1⟩
      congr 1
      simp only [decide_eq_decide]
      omega
    · refine ⟨?_, m1⟩
      congr 1
      symm
      simp only [decide_eq_false_iff_not]
      omega
  · rw [if_neg hs]
    refine iteI (fun h => ?_) (fun h => ?_)
    · refine ⟨_, b1.cell (i := 1) rfl, by omega, ?_⟩
      rw [e, shl1 (by omega)]
      refine ⟨?_, m1⟩
      congr 1
      simp only [decide_eq_decide, Int.toNat_natCast]
      omega
    · refine ⟨?_, m1⟩
      congr 1
      symm
      simp only [decide_eq_false_iff_not]
      omega
end

theorem elem3 : Elem Try.prog 3 1 8 := Elem.of (v := .int .i64 0) (by kernel_rfl) rfl (by decide)
theorem elem43 : Elem Try.prog 82 4 32 := Elem.of (v := .agg #[.int .i64 0, .int .i64 0, .bool false, .int .i64 0]) (by kernel_rfl) rfl (by decide)
theorem own_apart {w : World} {e e' : TypeId} {z z' n m c d : Nat} {a b : Option Addr} {vs us : List Value} (h : Own w e z a n c vs) (h' : Own w e' z' b m d us) (hne : e ≠ e') : ∀ y ∈ fp a, y ∉ fp b := by
  rcases h.2 with ⟨rfl, _⟩ | ⟨g, r, rfl, hb, _⟩
  · simp [fp]
  · intro y hy
    simp [fp, base] at hy
    subst hy
    exact h'.ne hb (Ne.symm hne)

def ids (L : List Pd) : List Int := L.map (·.1)
theorem ids_len (L : List Pd) : (ids L).length = L.length := by simp [ids]
/-- The pool in block g. -/
def Po (w : World) (g : Nat) (S : List Nat) (L : List Pd) : Prop :=
  ∃ a c b d, S = g :: (fp a ++ fp b) ∧ Blk w g 80 [.bool true, .slice a L.length c, .slice b L.length d] ∧ Own w 3 1 a L.length c ((ids L).map iv) ∧ Own w 82 4 b L.length d (L.flatMap pv)
theorem Po.mod {w w' : World} {g : Nat} {S T : List Nat} {L : List Pd} (h : Po w g S L) (hm : Mod T w w') (hd : ∀ x ∈ S, x ∉ T) : Po w' g S L := by
  obtain ⟨a, c, b, d, rfl, hb, oa, ob⟩ := h
  exact ⟨a, c, b, d, rfl, hb.mod hm (hd g (by simp)), oa.mod hm (fun x hx => hd x (by simp [hx])), ob.mod hm (fun x hx => hd x (by simp [hx]))⟩
theorem Po.lt {w : World} {g : Nat} {S : List Nat} {L : List Pd} (h : Po w g S L) : ∀ x ∈ S, x < w.heap.size := by
  obtain ⟨a, c, b, d, rfl, hb, oa, ob⟩ := h
  intro x hx
  rcases List.mem_cons.1 hx with rfl | hx
  · exact hb.lt
  · rcases List.mem_append.1 hx with hx | hx
    · exact oa.lt x hx
    · exact ob.lt x hx

theorem append_ok {w : World} {g : Nat} {S : List Nat} {L : List Pd} (h : Po w g S L) (hL : L.length ≤ 1000) (x : Pd) : Does Try.prog 36 #[.pointer (some ((base g).add 1)), .int .i64 x.1, pval x] w fun v w' => v = .tuple #[] ∧ ∃ S', Po w' g S' (L ++ [x]) ∧ Mod S w w' ∧ ∀ y ∈ S', y ∈ S ∨ w.heap.size ≤ y := by
  obtain ⟨a, c, b, d, rfl, hb, oa, ob⟩ := h
  have hga := oa.ne hb (by decide)
  have hgb := ob.ne hb (by decide)
  have hab := own_apart oa ob (by decide)
  have apI : ∀ w1, Mod [] w w1 → ∀ q, Blk w1 q 3 [.int .i64 x.1] → ∃ a' c' w2, (Builtin.append_ #[26, 26] 26 #[.slice a L.length c, .slice (some (base q)) 1 1]).run Try.prog w1 = .ok (.slice a' (L.length + 1) c') w2 ∧ Own w2 3 1 a' (L.length + 1) c' ((ids (L ++ [x])).map iv) ∧ Mod (fp a) w1 w2 ∧ ∀ y ∈ fp a', y ∈ fp a ∨ w.heap.size ≤ y := by
    intro w1 m1 q hq
    obtain ⟨a', c', w2, run, o2, m2, f2⟩ := append_own (d := 1) Try.underlying26 elem3 26 (oa.mod m1 (by simp)) (Rd.blk hq) (m := 1) rfl (by simp [one]) (by omega) (by omega)
    refine ⟨a', c', w2, run, by simpa [ids, iv] using o2, m2, fun y hy => ?_⟩
    rcases f2 with f | f <;> rw [f] at hy
    · exact .inl hy
    · right; have := m1.size; simp at hy; omega
  have apD : ∀ w2, Mod (fp a) w w2 → ∀ q, Blk w2 q 82 (pv x) → ∃ b' d' w3, (Builtin.append_ #[56, 56] 56 #[.slice b L.length d, .slice (some (base q)) 1 1]).run Try.prog w2 = .ok (.slice b' (L.length + 1) d') w3 ∧ ∀ (a' : Option Addr) (c' : Nat) (k : World → Prop), Own w2 3 1 a' (L.length + 1) c' ((ids (L ++ [x])).map iv) → (∀ y ∈ fp a', y ∈ fp a ∨ w.heap.size ≤ y) →
      (∀ w5 S', Po w5 g S' (L ++ [x]) → Mod (g :: (fp a ++ fp b)) w w5 → (∀ y ∈ S', y ∈ g :: (fp a ++ fp b) ∨ w.heap.size ≤ y) → k w5) → Put w3 ((base g).add 1) (.slice a' (L.length + 1) c') (fun w4 => Put w4 (((base g).add 1).add 1) (.slice b' (L.length + 1) d') k) := by
    intro w2 m2 q hq
    have ob2 := ob.mod m2 (fun y hy hy' => hab y hy' hy)
    obtain ⟨b', d', w3, run, o3, m3, f3⟩ := append_own (d := 1) Try.underlying56 elem43 56 ob2 (Rd.blk hq) (m := 1) rfl (by intro u hu; simp [pv] at hu; rcases hu with rfl | rfl | rfl | rfl <;> rfl) (by omega) (by omega)
    refine ⟨b', d', w3, run, fun a' c' k o2 f2 hk => ?_⟩
    have o3' : Own w3 82 4 b' (L.length + 1) d' ((L ++ [x]).flatMap pv) := by rw [List.flatMap_append]; simpa using o3
    have oa3 := o2.mod m3 (fun y hy hy' => own_apart o2 ob2 (by decide) y hy hy')
    have hb2 := hb.mod m2 hga
    have hb3 := hb2.mod m3 (ob2.ne hb2 (by decide))
    have z2 := m2.size
    refine Put.use hb3 (by simp) fun w4 h4 m4 => ?_
    rw [add_add]
    refine Put.use h4 (by simp) fun w5 h5 m5 => ?_
    have na := oa3.ne hb3 (by decide)
    have nb := o3'.ne hb3 (by decide)
    refine hk w5 (g :: (fp a' ++ fp b')) ⟨a', c', b', d', rfl, by simpa using h5, ?_, ?_⟩ ?_ ?_
    · rw [show (L ++ [x]).length = L.length + 1 by simp]
      exact (oa3.mod m4 (fun y hy hy' => by simp at hy'; subst hy'; exact na hy)).mod m5 (fun y hy hy' => by simp at hy'; subst hy'; exact na hy)
    · rw [show (L ++ [x]).length = L.length + 1 by simp]
      exact (o3'.mod m4 (fun y hy hy' => by simp at hy'; subst hy'; exact nb hy)).mod m5 (fun y hy hy' => by simp at hy'; subst hy'; exact nb hy)
    · exact (((m2.weaken (fun y hy => .inl (by simp [hy]))).trans m3 (fun y hy => .inl (by simp [hy]))).trans m4 (fun y hy => .inl (by simp at hy; simp [hy]))).trans m5 (fun y hy => .inl (by simp at hy; simp [hy]))
    · intro y hy
      rcases List.mem_cons.1 hy with rfl | hy
      · left; simp
      · rcases List.mem_append.1 hy with hy | hy
        · rcases f2 y hy with h | h
          · left; simp [h]
          · right; exact h
        · rcases f3 with f | f <;> rw [f] at hy
          · left; simp [hy]
          · right; simp at hy; omega
  apply w36
  unfold F36
  refine New.use fun w1 h1 m1 z1 => ?_
  have md : Mod [] w w1.drew := m1.none (Mod.drew w1)
  have hb1 := hb.mod md (by simp)
  have h1' : Blk w1.drew _ _ _ := h1.drew
  refine ⟨_, rfl, _, _, _, hb1.cell (i := 1) rfl, _, _, _, by rw [add_add]; exact hb1.cell (i := 2) rfl, _, _, _, _, h1'.cells, ?_⟩
  have put := fun (w5 : World) (S' : List Nat) (p : Po w5 g S' (L ++ [x])) (m : Mod (g :: (fp a ++ fp b)) w w5) (f : ∀ y ∈ S', y ∈ g :: (fp a ++ fp b) ∨ w.heap.size ≤ y) => (show Value.tuple #[] = .tuple #[] ∧ ∃ S', Po w5 g S' (L ++ [x]) ∧ Mod (g :: (fp a ++ fp b)) w w5 ∧ ∀ y ∈ S', y ∈ g :: (fp a ++ fp b) ∨ w.heap.size ≤ y from ⟨rfl, S', p, m, f⟩)
  have cc : ∀ {w' : World}, Mod [] w w' → w'.cell? ((base g).add 1) = some (.slice a L.length c) ∧ w'.cell? (((base g).add 1).add 1) = some (.slice b L.length d) := fun m => ⟨(hb.mod m (by simp)).cell (i := 1) rfl, by rw [add_add]; exact (hb.mod m (by simp)).cell (i := 2) rfl⟩
  have cb : ∀ {w' : World}, Mod (fp a) w w' → w'.cell? ((base g).add 1) = some (.slice a L.length c) ∧ w'.cell? (((base g).add 1).add 1) = some (.slice b L.length d) := fun m => ⟨(hb.mod m hga).cell (i := 1) rfl, by rw [add_add]; exact (hb.mod m hga).cell (i := 2) rfl⟩
  have hl1 := h1'.lt
  have n1 : w.heap.size ∉ fp a := fun hh => by have := oa.lt _ hh; omega
  refine ⟨?_, ?_⟩
  · refine New.use fun w2 h2 m2 z2 => ?_
    have M2 := md.none m2
    have h12 := h1'.mod m2 (by simp)
    refine ⟨(cc M2).1, (cc M2).2, h12.cells, ?_, ?_⟩
    · obtain ⟨a', c', w3, run, o3, m3, f3⟩ := apI w2 M2 _ h2
      have M3 : Mod (fp a) w w3 := (M2.weaken (by simp)).trans m3 (fun y hy => .inl hy)
      refine ⟨a', _, c', w3, run, (cb M3).2, (h12.mod m3 n1).cells, ?_⟩
      refine New.use fun w4 h4 m4 z4 => ?_
      obtain ⟨b', d', w5, run5, st⟩ := apD w4 (M3.none m4) _ h4
      exact ⟨(cb (M3.none m4)).1, (cb (M3.none m4)).2, b', _, d', w5, run5, st a' c' _ (o3.mod m4 (by simp)) f3 put⟩
    · refine New.use fun w4 h4 m4 z4 => ?_
      have M4 := M2.none m4
      obtain ⟨a', c', w3, run, o3, m3, f3⟩ := apI w4 M4 _ (h2.mod m4 (by simp))
      have M3 : Mod (fp a) w w3 := (M4.weaken (by simp)).trans m3 (fun y hy => .inl hy)
      have nd : w2.heap.size ∉ fp a := fun hh => by have := oa.lt _ hh; have := M2.size; omega
      obtain ⟨b', d', w5, run5, st⟩ := apD w3 M3 _ (h4.mod m3 nd)
      exact ⟨(cc M4).1, (cc M4).2, a', _, c', w3, run, (cb M3).2, ((h12.mod m4 (by simp)).mod m3 n1).cells, b', _, d', w5, run5, st a' c' _ o3 f3 put⟩
  · refine New.use fun w2 h2 m2 z2 => ?_
    have M2 := md.none m2
    have h12 := h1'.mod m2 (by simp)
    refine ⟨(cc M2).1, (cc M2).2, ?_⟩
    refine New.use fun w4 h4 m4 z4 => ?_
    have M4 := M2.none m4
    obtain ⟨a', c', w3, run, o3, m3, f3⟩ := apI w4 M4 _ h4
    have M3 : Mod (fp a) w w3 := (M4.weaken (by simp)).trans m3 (fun y hy => .inl hy)
    have nd : w1.drew.heap.size ∉ fp a := fun hh => by have := oa.lt _ hh; have := md.size; omega
    obtain ⟨b', d', w5, run5, st⟩ := apD w3 M3 _ ((h2.mod m4 (by simp)).mod m3 nd)
    exact ⟨(cc M4).1, (cc M4).2, (h12.mod m4 (by simp)).cells, a', _, c', w3, run, (cb M3).2, ((h12.mod m4 (by simp)).mod m3 n1).cells, b', _, d', w5, run5, st a' c' _ o3 f3 put⟩

theorem okAt_take {L : List Pd} {i : Nat} (hi : i < L.length) : (L.take (i + 1)) = L.take i ++ [L[i]] := List.take_succ_eq_append_getElem hi
/-- What New returns. -/
def Made (w : World) (L : List Pd) (v : Value) (w' : World) : Prop :=
  ∃ p e, v = .tuple #[.pointer p, .int .i64 e] ∧ ErrL L e ∧ Mod [] w w' ∧ (e ≠ 0 → p = none) ∧ (e = 0 → ∃ g S, p = some (base g) ∧ Po w' g S L ∧ Since w S)
theorem new_ok {w : World} {a : Option Addr} {L : List Pd} (c : Nat) (hr : Rd w a (L.flatMap pv)) : Does Try.prog 19 #[.slice a L.length c] w (Made w L) := by
  apply w19
  unfold F19
  refine iteI (fun hl => ⟨_, _, rfl, .inr (.inl ⟨rfl, by omega⟩), Mod.refl _, fun _ => rfl, fun h => by cases h⟩) (fun hl => ?_)
  refine New.use fun w0 h0 m0 z0 => ?_
  refine LoopP.of (fun (x : Int) w' => ∃ (i : Nat) (S : List Nat), i ≤ L.length ∧ x = (i : Int) ∧ (∀ j, j < i → okAt L j) ∧ Mod [] w w' ∧ Po w' w.heap.size S (L.take i) ∧ Since w S) (fun x _ => L.length - x.toNat) ⟨0, [w.heap.size], by omega, rfl, by omega, m0, ⟨none, 0, none, 0, by simp [fp], by simpa using h0, by simpa [ids] using Own.nil, by simpa using Own.nil⟩, by intro y hy; simp at hy; omega⟩ ?_
  rintro _ w1 ⟨i, S, hi, rfl, hb, m1, P, sS⟩
  unfold F19_b1
  refine iteI (fun hlt => ?_) (fun hlt => ?_)
  · have hlt : i < L.length := by omega
    have hr1 := hr.mod m1 (by simp)
    obtain ⟨p, rfl, hcc⟩ := hr1.flat (pv_len _) (by decide) hlt
    refine ⟨p, rfl, by omega, by omega, _, _, _, _, ⟨by simpa [add_zero] using hcc 0 _ rfl, hcc 1 _ rfl, hcc 2 _ rfl, hcc 3 _ rfl, trivial⟩, ?_⟩
    refine New.put rfl fun w2 h2 m2 z2 => ?_
    have M2 := m1.none m2
    have b2 : Blk w2.drew _ _ _ := h2.drew
    have md : Mod [] w w2.drew := M2.none (Mod.drew w2)
    have md1 : Mod [] w1 w2.drew := m2.none (Mod.drew w2)
    have z1 := m1.size
    have P2 := P.mod md1 (by simp)
    have Plt := P.lt
    have bad : ∀ {w' : World} {nx : Int → World → Prop}, Mod [] w w' → ¬ okAt L i → F19_j2 (base w1.heap.size) (base w.heap.size) (i : Int) true w' (Made w L) nx := fun m h => by
      unfold F19_j2
      rw [if_pos rfl]
      exact ⟨_, _, rfl, .inr (.inr ⟨rfl, by omega, fun g => h (g.ok i)⟩), m, fun _ => rfl, fun h => by cases h⟩
    generalize hnx : (fun x0 w' => ∃ m, m < L.length - (i : Int).toNat ∧ ((∃ (i : Nat) (S : List Nat), i ≤ L.length ∧ x0 = (i : Int) ∧ (∀ j, j < i → okAt L j) ∧ Mod [] w w' ∧ Po w' w.heap.size S (L.take i) ∧ Since w S) ∧ L.length - x0.toNat = m)) = nx
    have rest : (∀ h0 : 0 < i, L[i - 1].1 < L[i].1) → (0 ≤ L[i].1 ∧ L[i].1 ≤ 65535) → ∃ (x39 : Int), w2.drew.cell? ((base w1.heap.size).add 1) = some (.int .i64 x39) ∧ if x39 < 1 then F19_j2 (base w1.heap.size) (base w.heap.size) (i : Int) true w2.drew (Made w L) nx else ∃ (x42 : Int), w2.drew.cell? ((base w1.heap.size).add 1) = some (.int .i64 x42) ∧ if 32 < x42 then F19_j2 (base w1.heap.size) (base w.heap.size) (i : Int) true w2.drew (Made w L) nx else
        ∃ (x45 x46 : Int) (x47 : Bool) (x48 : Int), Cells w2.drew (base w1.heap.size) 0 [.int .i64 x45, .int .i64 x46, .bool x47, .int .i64 x48] ∧ ∃ (x50 : Int), w2.drew.cell? ((base w1.heap.size).add 3) = some (.int .i64 x50) ∧ Does Try.prog 35 #[.agg #[.int .i64 x45, .int .i64 x46, .bool x47, .int .i64 x48], .int .i64 x50] w2.drew (fun v w52 => ∃ (x53 : Bool), v = .bool x53 ∧ F19_j2 (base w1.heap.size) (base w.heap.size) (i : Int) (!x53) w52 (Made w L) nx) := by
      intro hs hid
      refine ⟨_, b2.cell (i := 1) rfl, iteI (fun h => bad md fun g => by have := (g hlt).2.2.1.1; omega) (fun h3 => ?_)⟩
      refine ⟨_, b2.cell (i := 1) rfl, iteI (fun h => bad md fun g => by have := (g hlt).2.2.1.2; omega) (fun h4 => ?_)⟩
      refine ⟨_, _, _, _, b2.cells, _, b2.cell (i := 3) rfl, ?_⟩
      have hw : wOk L[i] := ⟨by omega, by omega⟩
      refine (inRange_ok hw L[i].2.2.2 w2.drew).mono ?_
      rintro _ w3 ⟨rfl, m3⟩
      refine ⟨_, rfl, ?_⟩
      cases hin : inR L[i] L[i].2.2.2 with
      | false => exact bad (md.none m3) (fun g => by have := (g hlt).2.2.2; rw [hin] at this; cases this)
      | true =>
        unfold F19_j2
        rw [if_neg (by simp)]
        have b3 : Blk w3.drew _ _ _ := (b2.mod m3 (by simp)).drew
        have md3 : Mod [] w w3.drew := (md.none m3).none (Mod.drew w3)
        have P3 := P2.mod (m3.none (Mod.drew w3)) (by simp)
        refine ⟨_, b3.cell0, _, _, _, _, b3.cells, ?_⟩
        refine (append_ok P3 (by simp; omega) L[i]).mono ?_
        rintro _ w4 ⟨rfl, S', P4, m4, f4⟩
        refine ⟨rfl, ?_⟩
        rw [← okAt_take hlt] at P4
        rw [← hnx]
        have e1 : IntKind.i64.wrap ((i : Int) + 1) = ((i + 1 : Nat) : Int) := by rw [wi64 (by omega)]; omega
        rw [e1]
        refine ⟨_, by omega, ⟨i + 1, S', by omega, rfl, fun j hj => ?_, md3.since m4 sS, P4, sS.step md3.size f4⟩, rfl⟩
        by_cases hji : j = i
        · subst hji
          exact fun _ => ⟨hid, hs, hw, hin⟩
        · exact hb j (by omega)
    refine ⟨_, b2.cell0, iteI (fun h => bad md fun g => by have := (g hlt).1; omega) (fun h1 => ?_)⟩
    refine ⟨_, b2.cell0, iteI (fun h => bad md fun g => by have := (g hlt).1; omega) (fun h2' => ?_)⟩
    refine iteI (fun h0 => ?_) (fun h0 => rest (fun h => by omega) ⟨by omega, by omega⟩)
    have hi1 : IntKind.i64.wrap ((i : Int) - 1) = ((i - 1 : Nat) : Int) := by rw [wi64 (by omega)]; omega
    rw [hi1]
    obtain ⟨p', hp', hcc'⟩ := (hr.mod md (by simp)).flat (pv_len _) (by decide) (i := i - 1) (by omega)
    cases hp'
    refine ⟨by omega, by omega, _, by simpa [add_zero] using hcc' 0 _ rfl, _, b2.cell0, iteI (fun h => bad md fun g => by have := (g hlt).2.1 (by omega); omega) (fun h => rest (fun _ => by omega) ⟨by omega, by omega⟩)⟩
  · have hiL : i = L.length := by omega
    subst hiL
    rw [List.take_length] at P
    exact ⟨_, _, rfl, .inl ⟨rfl, by omega, fun j h => hb j (by omega) h⟩, m1, fun h => absurd rfl h, fun _ => ⟨_, S, rfl, P, sS⟩⟩

def isId (id : Int) (d : Pd) : Bool := decide (d.1 = id)
theorem good_lt {L : List Pd} (h : Good L) : ∀ (i j : Nat) (hi : i < L.length) (hj : j < L.length), i < j → L[i].1 < L[j].1 := by
  intro i j hi hj hij
  induction j with
  | zero => omega
  | succ j ih =>
    have h1 := (h.ok (j + 1) hj).2.1 (by omega)
    simp only [Nat.add_sub_cancel] at h1
    by_cases he : i = j
    · subst he; exact h1
    · have := ih (by omega) (by omega); omega
theorem good_sorted {L : List Pd} (h : Good L) : (ids L).Pairwise (· ≤ ·) := by
  unfold ids
  rw [List.pairwise_map]
  exact List.pairwise_iff_getElem.2 (fun i j hi hj hij => by have := good_lt h i j hi hj hij; omega)
theorem find_at {L : List Pd} (h : Good L) {id : Int} {k : Nat} (hk : k < L.length) (he : L[k].1 = id) : fidx (isId id) L = k :=
  fidx_at _ L k hk (by simp [isId, he]) (fun j hj => by have := good_lt h j k (by omega) hk hj; simp [isId]; omega)
/-- The index that the search finds is that of the first with the number. -/
theorem search_is {L : List Pd} (h : Good L) (id : Int) : (decide (∃ h : fidx (geq id) (ids L) < (ids L).length, (ids L)[fidx (geq id) (ids L)] = id)) = decide (fidx (isId id) L < L.length) ∧ (fidx (isId id) L < L.length → fidx (geq id) (ids L) = fidx (isId id) L) := by
  have e : fidx (isId id) L < L.length → fidx (geq id) (ids L) = fidx (isId id) L := by
    intro hlt
    have h1 : L[fidx (isId id) L].1 = id := by have := fidx_here (isId id) L hlt; simpa [isId] using this
    refine fidx_at _ _ _ (by rw [ids_len]; exact hlt) (by simp [geq, ids, h1]) (fun j hj => ?_)
    have := good_lt h j _ (by omega) hlt hj
    simp [geq, ids]
    omega
  refine ⟨?_, e⟩
  rw [decide_eq_decide]
  constructor
  · rintro ⟨h1, h2⟩
    rw [ids_len] at h1
    have : L[fidx (geq id) (ids L)].1 = id := by simpa [ids] using h2
    rw [find_at h h1 this]
    exact h1
  · intro hlt
    rw [e hlt]
    refine ⟨by rw [ids_len]; exact hlt, ?_⟩
    have := fidx_here (isId id) L hlt
    simpa [isId, ids] using this

theorem usable_ok {w : World} {g : Nat} {S : List Nat} {L : List Pd} (h : Po w g S L) : Does Try.prog 49 #[.pointer (some (base g))] w fun v w' => v = .bool true ∧ w = w' := by
  obtain ⟨a, c, b, d, rfl, hb, oa, ob⟩ := h
  apply w49
  unfold F49
  rw [if_pos (by simp)]
  exact ⟨_, rfl, _, hb.cell0, rfl, rfl⟩

section
variable {w : World} {g : Nat} {S : List Nat} {L : List Pd} (h : Po w g S L) (hg : Good L)
include h hg
/-- def: the place of a parameter's cells. -/
theorem def_ok (id : Int) : Does Try.prog 50 #[.pointer (some (base g)), .int .i64 id] w fun v w' => w = w' ∧ ((fidx (isId id) L < L.length ∧ ∃ b d p, b = some p ∧ v = .tuple #[.pointer (some (p.add (fidx (isId id) L * 4))), .int .i64 0] ∧ ∃ a c, S = g :: (fp a ++ fp b) ∧ Blk w g 80 [.bool true, .slice a L.length c, .slice b L.length d] ∧ Own w 3 1 a L.length c ((ids L).map iv) ∧ Own w 82 4 b L.length d (L.flatMap pv)) ∨
      (¬ fidx (isId id) L < L.length ∧ v = .tuple #[.pointer none, .int .i64 8])) := by
  apply w50
  unfold F50
  refine (usable_ok h).mono ?_
  rintro _ _ ⟨rfl, rfl⟩
  refine ⟨_, rfl, ?_⟩
  rw [if_neg (by simp)]
  obtain ⟨a, c, b, d, rfl, hb, oa, ob⟩ := h
  refine ⟨_, rfl, ?_⟩
  have hgl := hg.len
  have find : Does Try.prog 53 #[.pointer (some ((base g).add 1)), .int .i64 id] w fun v w' => v = .tuple #[.int .i64 (fidx (geq id) (ids L) : Int), .bool (decide (fidx (isId id) L < L.length))] ∧ w = w' := by
    apply w53
    unfold F53
    refine ⟨_, rfl, _, _, _, hb.cell (i := 1) rfl, ?_⟩
    have hs := bsearch_ok (l := ids L) c id oa.rd (by rw [ids_len]; omega) (good_sorted hg)
    rw [(search_is hg id).1, ids_len] at hs
    refine hs.mono ?_
    rintro _ _ ⟨rfl, rfl⟩
    exact ⟨_, _, rfl, rfl, rfl⟩
  refine find.mono ?_
  rintro _ _ ⟨rfl, rfl⟩
  refine ⟨_, _, rfl, iteI (fun hf => ?_) (fun hf => ?_)⟩
  · exact ⟨rfl, .inr ⟨by simpa using hf, rfl⟩⟩
  · have hlt : fidx (isId id) L < L.length := by simpa using hf
    obtain ⟨p, hp, _⟩ := ob.rd.flat (pv_len _) (by decide) hlt
    subst hp
    rw [(search_is hg id).2 hlt, add_add]
    refine ⟨_, _, _, hb.cell (i := 2) rfl, p, rfl, by omega, by omega, rfl, .inl ⟨hlt, some p, d, p, rfl, ?_, a, c, rfl, hb, oa, ob⟩⟩
    simp
end

def pz : Pd := (0, 0, false, 0)
def has (L : List Pd) (id : Int) : Bool := decide (fidx (isId id) L < L.length)
def pick (L : List Pd) (id : Int) : Pd := L.getD (fidx (isId id) L) pz
def chooseE (L : List Pd) (X : List Int) : Int := if 256 < X.length then 6 else if X.all (has L) then 0 else 8
theorem has_lt {L : List Pd} {id : Int} (h : has L id = true) : fidx (isId id) L < L.length := by unfold has at h; exact of_decide_eq_true h
theorem pick_at {L : List Pd} {id : Int} (h : has L id = true) : pick L id = L[fidx (isId id) L]'(has_lt h) := by
  unfold pick
  rw [List.getD_eq_getElem?_getD, List.getElem?_eq_getElem (has_lt h)]
  rfl
theorem chooseE_bad {L : List Pd} {X : List Int} (h : ¬ 256 < X.length) {i : Nat} (hi : i < X.length) (hb : has L X[i] = false) : chooseE L X = 8 := by
  unfold chooseE
  rw [if_neg h, if_neg]
  intro h2
  have := List.all_eq_true.1 h2 _ (List.getElem_mem hi)
  rw [hb] at this
  cases this
theorem chooseE_ok {L : List Pd} {X : List Int} (h : ¬ 256 < X.length) (hb : ∀ i (hi : i < X.length), has L X[i] = true) : chooseE L X = 0 := by
  unfold chooseE
  rw [if_neg h, if_pos]
  rw [List.all_eq_true]
  intro x hx
  obtain ⟨i, hi, rfl⟩ := List.getElem_of_mem hx
  exact hb i hi
theorem chooseE_len {L : List Pd} {X : List Int} (h : chooseE L X = 0) : X.length ≤ 256 := by
  unfold chooseE at h
  split at h
  · cases h
  · omega
theorem chooseE_all {L : List Pd} {X : List Int} (h : chooseE L X = 0) {i : Nat} (hi : i < X.length) : has L X[i] = true := by
  unfold chooseE at h
  split at h
  · cases h
  · split at h
    · rename_i h2; exact List.all_eq_true.1 h2 _ (List.getElem_mem hi)
    · cases h
def GivesD (w : World) (L : List Pd) (X : List Int) (v : Value) (w' : World) : Prop :=
  Mod [] w w' ∧ ((chooseE L X ≠ 0 ∧ v = .tuple #[.slice none 0 0, .int .i64 (chooseE L X)]) ∨ (chooseE L X = 0 ∧ ∃ a c, v = .tuple #[.slice a X.length c, .int .i64 0] ∧ Rd w' a ((X.map (pick L)).flatMap pv) ∧ Since w (fp a)))
theorem choose_ok {w : World} {g : Nat} {S : List Nat} {L : List Pd} (h : Po w g S L) (hg : Good L) {ax : Option Addr} {X : List Int} (cx : Nat) (hx : Rd w ax (X.map iv)) : Does Try.prog 41 #[.pointer (some (base g)), .slice ax X.length cx] w (GivesD w L X) := by
  apply w41
  unfold F41
  refine (usable_ok h).mono ?_
  rintro _ _ ⟨rfl, rfl⟩
  refine ⟨_, rfl, ?_⟩
  rw [if_neg (by simp)]
  refine iteI (fun hl => ?_) (fun hl => ?_)
  · have e : chooseE L X = 6 := by unfold chooseE; rw [if_pos (by omega)]
    exact ⟨Mod.refl _, .inl (by rw [e]; exact ⟨by decide, rfl⟩)⟩
  have hgl := hg.len
  refine LoopP.of (fun (x : Option Addr × Nat × Nat × Int) w' => ∃ (i : Nat) (o : Option Addr) (e : Nat), i ≤ X.length ∧ x = (o, i, e, (i : Int)) ∧ Own w' 82 4 o i e (((X.take i).map (pick L)).flatMap pv) ∧ Since w (fp o) ∧ (∀ j (hj : j < i) (hjl : j < X.length), has L X[j] = true) ∧ Mod [] w w') (fun x _ => X.length - x.2.2.2.toNat) ⟨0, _, _, by omega, rfl, by simpa using Own.nil, by intro y hy; simp [fp] at hy, by omega, Mod.refl _⟩ ?_
  rintro _ w1 ⟨i, o, e, hi, rfl, ho, so, hb, m1⟩
  unfold F41_b1
  dsimp only
  refine iteI (fun hlt => ?_) (fun hlt => ?_)
  · have hlt : i < X.length := by omega
    obtain ⟨p, rfl, hc⟩ := rd_get (hx.mod m1 (by simp)) hlt
    refine ⟨p, rfl, by omega, by omega, _, hc, ?_⟩
    refine (def_ok (h.mod m1 (by simp)) hg X[i]).mono ?_
    rintro _ _ ⟨rfl, ⟨hf, b, d, q, rfl, rfl, a, c, rfl, hbk, oa, ob⟩ | ⟨hf, rfl⟩⟩
    · refine ⟨_, _, rfl, ?_⟩
      rw [if_neg (by simp)]
      have hh : has L X[i] = true := decide_eq_true hf
      obtain ⟨q', hq', hcc⟩ := ob.rd.flat (pv_len _) (by decide) hf
      cases hq'
      refine ⟨_, rfl, _, _, _, _, ⟨by simpa [add_zero] using hcc 0 _ rfl, hcc 1 _ rfl, hcc 2 _ rfl, hcc 3 _ rfl, trivial⟩, ?_⟩
      refine New.use fun w2 h2 m2 z2 => ?_
      obtain ⟨o', e', w3, run, o3, m3, f3⟩ := append_own (d := 1) Try.underlying56 elem43 56 (ho.mod m2 (by simp)) (Rd.blk h2) (m := 1) rfl (by intro u hu; simp at hu; rcases hu with rfl | rfl | rfl | rfl <;> rfl) (by omega) (by omega)
      refine ⟨o', _, e', w3, run, ?_⟩
      have e1 : IntKind.i64.wrap ((i : Int) + 1) = ((i + 1 : Nat) : Int) := by rw [wi64 (by omega)]; omega
      rw [e1]
      refine ⟨_, by omega, ⟨i + 1, o', e', by omega, rfl, ?_, ?_, ?_, (m1.none m2).since m3 so⟩, rfl⟩
      · rw [List.take_succ_eq_append_getElem hlt, List.map_append, List.flatMap_append, List.map_singleton, pick_at hh]
        simpa [pv] using o3
      · intro y hy
        rcases f3 with f | f <;> rw [f] at hy
        · exact so y hy
        · have := m1.size; simp at hy; omega
      · intro j hj hjl
        by_cases hji : j = i
        · subst hji; exact hh
        · exact hb j (by omega) hjl
    · refine ⟨_, _, rfl, ?_⟩
      rw [if_pos (by simp)]
      have e8 := chooseE_bad (L := L) (by omega) hlt (decide_eq_false hf)
      exact ⟨m1, .inl (by rw [e8]; exact ⟨by decide, rfl⟩)⟩
  · have hiX : i = X.length := by omega
    subst hiX
    rw [List.take_length] at ho
    exact ⟨m1, .inr ⟨chooseE_ok (by omega) (fun j hj => hb j hj hj), o, e, rfl, ho.rd, so⟩⟩
theorem pick_good {L : List Pd} (hg : Good L) {id : Int} (h : has L id = true) : wOk (pick L id) ∧ inR (pick L id) (pick L id).2.2.2 = true ∧ (pick L id).1 = id ∧ pick L id ∈ L := by
  rw [pick_at h]
  have hlt : fidx (isId id) L < L.length := has_lt h
  obtain ⟨_, _, h3, h4⟩ := hg.ok _ hlt
  have := fidx_here (isId id) L hlt
  exact ⟨h3, h4, by simpa [isId] using this, List.getElem_mem _⟩

def wd (d : Pd) : Nat := d.2.1.toNat
/-- The number that stands in a parameter's field. -/
def enc (d : Pd) : Nat := ((d.2.2.2 + 2 ^ wd d) % 2 ^ wd d).toNat
def bitsOf (ds : List Pd) : List Bool := ds.flatMap fun d => field (enc d) (wd d)
theorem field_low {n m w : Nat} (h : n % 2 ^ w = m % 2 ^ w) : field n w = field m w := by
  unfold field
  refine List.map_congr_left (fun i hi => ?_)
  have hi := List.mem_range.1 hi
  have h1 : (n % 2 ^ w).testBit (w - 1 - i) = n.testBit (w - 1 - i) := by rw [Nat.testBit_mod_two_pow]; simp; omega
  have h2 : (m % 2 ^ w).testBit (w - 1 - i) = m.testBit (w - 1 - i) := by rw [Nat.testBit_mod_two_pow]; simp; omega
  rw [← h1, ← h2, h]
theorem pow_cast (n : Nat) : ((2 : Int) ^ n) = ((2 ^ n : Nat) : Int) := by norm_cast
/-- The program's number has the same low bits. -/
theorem enc_u64 (d : Pd) (h : wOk d) : ∃ n : Nat, IntKind.u64.wrap d.2.2.2 = (n : Int) ∧ n < 2 ^ 64 ∧ field n (wd d) = field (enc d) (wd d) := by
  have hw : wd d ≤ 32 := by have := h.2; unfold wd; omega
  have hp : (0 : Int) < 2 ^ wd d := by have := (pow_lt (n := wd d) (by omega)).2; omega
  refine ⟨(d.2.2.2 % 18446744073709551616).toNat, by rw [wu64]; omega, by omega, field_low ?_⟩
  have hd : ((2 : Int) ^ wd d) ∣ 18446744073709551616 := by
    have : (18446744073709551616 : Int) = 2 ^ wd d * 2 ^ (64 - wd d) := by rw [← Int.pow_add, show wd d + (64 - wd d) = 64 by omega]; rfl
    exact ⟨_, this⟩
  have e1 : (((d.2.2.2 % 18446744073709551616).toNat % 2 ^ wd d : Nat) : Int) = d.2.2.2 % 2 ^ wd d := by
    rw [Int.natCast_emod, ← pow_cast, Int.toNat_of_nonneg (by omega), Int.emod_emod_of_dvd _ hd]
  have e2 : ((enc d % 2 ^ wd d : Nat) : Int) = d.2.2.2 % 2 ^ wd d := by
    unfold enc
    rw [Int.natCast_emod, ← pow_cast, Int.toNat_of_nonneg (Int.emod_nonneg _ (by omega)), Int.emod_emod_of_dvd _ (Int.dvd_refl _), Int.add_emod_right]
  omega
theorem enc_lt (d : Pd) (h : wOk d) : enc d < 2 ^ wd d := by
  have hw : wd d ≤ 32 := by have := h.2; unfold wd; omega
  have hp : (0 : Int) < 2 ^ wd d := by have := (pow_lt (n := wd d) (by omega)).2; omega
  have h1 := Int.emod_lt_of_pos (d.2.2.2 + 2 ^ wd d) hp
  have h2 := Int.emod_nonneg (d.2.2.2 + 2 ^ wd d) (show (2 : Int) ^ wd d ≠ 0 by omega)
  have h3 := pow_cast (wd d)
  unfold enc
  omega
theorem bits_take (ds : List Pd) {i : Nat} (h : i < ds.length) : bitsOf (ds.take (i + 1)) = bitsOf (ds.take i) ++ field (enc ds[i]) (wd ds[i]) := by
  unfold bitsOf
  rw [List.take_succ_eq_append_getElem h, List.flatMap_append]
  simp
theorem bits_len (ds : List Pd) (h : ∀ d ∈ ds, wOk d) : (bitsOf ds).length ≤ 32 * ds.length := by
  induction ds with
  | nil => simp [bitsOf]
  | cons d ds ih =>
    have := ih (fun e he => h e (by simp [he]))
    have h1 : wd d ≤ 32 := by have := (h d (by simp)).2; unfold wd; omega
    unfold bitsOf at this ⊢
    rw [List.flatMap_cons, List.length_append, field_len]
    simp only [List.length_cons]
    omega
/-- What Pack returns. -/
def packR (L : List Pd) (X : List Int) : List UInt8 × Int := if chooseE L X ≠ 0 then ([], chooseE L X) else (pack (bitsOf (X.map (pick L))), 0)
def GivesB (w : World) (R : List UInt8 × Int) (v : Value) (w' : World) : Prop := ∃ a c, v = .tuple #[.slice a R.1.length c, .int .i64 R.2] ∧ Rd w' a (R.1.map bv) ∧ Mod [] w w' ∧ Since w (fp a)
theorem picks_ok {L : List Pd} {X : List Int} (hg : Good L) (h0 : chooseE L X = 0) : ∀ d ∈ X.map (pick L), wOk d ∧ inR d d.2.2.2 = true := by
  intro d hd
  obtain ⟨x, hx, rfl⟩ := List.mem_map.1 hd
  obtain ⟨i, hi, rfl⟩ := List.getElem_of_mem hx
  have := pick_good hg (chooseE_all h0 hi)
  exact ⟨this.1, this.2.1⟩

theorem pack_ok {w : World} {g : Nat} {S : List Nat} {L : List Pd} (h : Po w g S L) (hg : Good L) {ax : Option Addr} {X : List Int} (cx : Nat) (hx : Rd w ax (X.map iv)) : Does Try.prog 27 #[.pointer (some (base g)), .slice ax X.length cx] w (GivesB w (packR L X)) := by
  apply w27
  unfold F27
  refine (choose_ok h hg cx hx).mono ?_
  rintro _ w1 ⟨m1, ⟨he, rfl⟩ | ⟨he, a, c, rfl, hr, hs⟩⟩
  · refine ⟨_, _, _, _, rfl, ?_⟩
    rw [if_pos he]
    have e : packR L X = ([], chooseE L X) := by unfold packR; rw [if_pos he]
    rw [e]
    exact ⟨none, 0, rfl, Rd.nil, m1, by intro y hy; simp [fp] at hy⟩
  · have hX := chooseE_len he
    have hw := picks_ok hg he
    have e : packR L X = (pack (bitsOf (X.map (pick L))), 0) := by unfold packR; rw [if_neg (by simp [he])]
    rw [e]
    refine ⟨_, _, _, _, rfl, ?_⟩
    rw [if_neg (by simp)]
    refine (Wn.new w1).mono ?_
    rintro _ w2 ⟨rfl, W⟩
    refine ⟨_, rfl, ?_⟩
    have hl : X.length = (X.map (pick L)).length := by simp
    generalize hds : X.map (pick L) = ds at *
    refine LoopP.of (fun (x : Int) w' => ∃ i : Nat, i ≤ ds.length ∧ x = (i : Int) ∧ Wn w1 w' w1.heap.size (bitsOf (ds.take i))) (fun x _ => ds.length - x.toNat) ⟨0, by omega, rfl, by simpa [bitsOf] using W⟩ ?_
    rintro _ w3 ⟨i, hi, rfl, W3⟩
    unfold F27_b1
    refine iteI (fun hlt => ?_) (fun hlt => ?_)
    · have hlt : i < ds.length := by omega
      obtain ⟨p, rfl, hc⟩ := (hr.mod W3.m (by simp)).flat (pv_len _) (by decide) hlt
      refine ⟨p, rfl, by omega, by omega, _, _, _, _, ⟨by simpa [add_zero] using hc 0 _ rfl, hc 1 _ rfl, hc 2 _ rfl, hc 3 _ rfl, trivial⟩, ?_⟩
      refine New.put rfl fun w4 h4 m4 z4 => ?_
      refine ⟨_, h4.cell (i := 3) rfl, _, h4.cell (i := 1) rfl, ?_⟩
      have hwd := (hw ds[i] (List.getElem_mem hlt)).1
      obtain ⟨n, hn, hn64, hf⟩ := enc_u64 ds[i] hwd
      have hb := bits_len (ds.take i) (fun d hd => (hw d (List.mem_of_mem_take hd)).1)
      rw [List.length_take] at hb
      have ew : ds[i].2.1 = ((wd ds[i] : Nat) : Int) := by have := hwd.1; unfold wd; omega
      rw [ew]
      refine ((W3.mod m4).putAt n (wd ds[i]) hn hn64 (by have := hwd.2; unfold wd; omega) (by omega)).mono ?_
      rintro _ w5 ⟨rfl, W5⟩
      rw [hf, ← bits_take ds hlt] at W5
      refine ⟨_, rfl, ?_⟩
      rw [wi64 (by omega)]
      exact ⟨_, by omega, ⟨i + 1, by omega, rfl, W5⟩, rfl⟩
    · have hiX : i = ds.length := by omega
      subst hiX
      rw [List.take_length] at W3
      have hb := bits_len ds (fun d hd => (hw d hd).1)
      refine (W3.bytes (by omega)).mono ?_
      rintro _ w4 ⟨o, co, rfl, ho, m4, s4⟩
      exact ⟨_, _, _, rfl, o, co, rfl, ho.rd, m1.none m4, fun y hy => by have := s4 y hy; have := m1.size; omega⟩
end Go.Proofs.Ytcgkmmiokmbjdaa.Pm
