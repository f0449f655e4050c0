/-
  The contract of the sending end's Next.
-/
import Derived.Test.YthcebibacphblaaFop
namespace Go.Proofs.Ythcebibacphblaa
open Go Go.Sh Go.Proofs
set_option linter.unusedVariables false
set_option linter.unusedSimpArgs false
set_option linter.unusedSectionVars false

def Fs.tak (s : Fs) : Fs := { s with S := s.S + 1, H := max s.H (s.S + 1) }
/-- A frame is sent. -/
def Fs.snt (s : Fs) : Fs := { s with S := s.S + 1, H := max s.H (s.S + 1), last := s.now }
def Fs.tri (s : Fs) : Fs := { s with S := 0, tries := s.tries + 1 }
/-- What Next sends, and the state after it. -/
def nx (s : Fs) (n t : Nat) : Option (Nat × Fs) :=
  if n = 0 then none else if s.S < min 8 n then some (s.S, (s.clk t).snt) else if max s.now t < s.last + 3 then none else some (0, (s.clk t).tri.snt)
abbrev frm (n : Nat) (a : Option Addr) (l c : Nat) : Value := .agg #[.bool false, .bool false, .int .i64 5, .int .i64 1, .int .i64 (n : Int), .slice a l c]
abbrev frm0 : Value := .agg #[.bool false, .bool false, .int .i64 0, .int .i64 0, .int .i64 0, .slice none 0 0]

section
variable {w0 w w3 : World} {gf gg : Nat} {s : Fs} {D : List Dt} {q : Gs} (h : Bun w0 gf gg w s D q)
include h
theorem take_ok (hS : s.S < D.length) (hA : s.A ≤ 1000000) (hl : D.length ≤ 1000000) : Does Try.prog 21 #[.pointer (some (base gf))] w fun v w' => ∃ a c, v = .tuple #[.int .i64 (((s.A + s.S) % 256 : Nat) : Int), .slice a D[s.S].l.length c] ∧ Own w' 5 1 a D[s.S].l.length c (D[s.S].l.map bv) ∧ Bun w0 gf gg w' s.tak D q ∧ Bk w w' := by
  apply w21
  unfold F21
  have hd := h.drew
  obtain ⟨m0, z1, z2, hg, hD, ua, uc, hf, hw, hu⟩ := h.drew
  obtain ⟨p, rfl, hc⟩ := rd_get hw.rd hS
  have hDk := hD _ (List.getElem_mem hS)
  refine ⟨_, rfl, _, hd.cell (i := 2) (fun _ _ => rfl), _, hd.cell (i := 3) (fun _ _ => rfl), _, _, _, hf.cell (i := 1) rfl, _, hd.cell (i := 3) (fun _ _ => rfl), p, rfl, by omega, by omega, _, _, _, by rw [Int.toNat_natCast]; exact hc, ?_⟩
  refine (clone17 D[s.S].c hDk.1.rd (by have := hDk.2.2; omega)).mono ?_
  rintro _ w1 ⟨a', c', rfl, o1, m1⟩
  have h1 := hd.none m1
  refine ⟨_, _, _, rfl, h1.cell (i := 2) (fun _ _ => rfl), h1.cell (i := 3) (fun _ _ => rfl), _, h1.cell (i := 3) (fun _ _ => rfl), h1.put (s' := { s with S := s.S + 1 }) (by decide) (fun ua uc => by rw [wi64 (by omega)]; rfl) fun w2 h2 b2 => ?_⟩
  refine ⟨_, h2.drew.cell (i := 4) (fun _ _ => rfl), _, h2.drew.cell (i := 3) (fun _ _ => rfl), h2.drew.put (s' := s.tak) (by decide) (fun ua uc => ?_) fun w4 h4 b4 => ?_⟩
  · have e : max (s.H : Int) ((s.S + 1 : Nat) : Int) = ((max s.H (s.S + 1) : Nat) : Int) := by omega
    dsimp only
    rw [e]
    rfl
  · have bb := (b2.trans (Bk.of (Mod.drew w2))).trans b4
    refine ⟨a', c', ?_, bb.own o1, h4, ((Bk.of (Mod.drew w)).trans (Bk.of m1)).trans bb⟩
    have e : Int.tmod (IntKind.i64.wrap ((s.A : Int) + (s.S : Int))) 256 = (((s.A + s.S) % 256 : Nat) : Int) := by
      rw [wi64 (by omega), Int.tmod_eq_emod_of_nonneg (by omega)]
      omega
    rw [e]

theorem out0 {x : Nat} {vs : List Value} (hb : Blk w x 32 vs) (hl : vs.length = 6) (b : Bk w3 w) (hx : w3.heap.size ≤ x) (h0 : w0.heap.size ≤ x) {k : Value → World → Prop} (hk : ∀ w', Bun w0 gf gg w' s D q → Bk w3 w' → k (.tuple #[frm0, .bool false]) w') :
    PutAll w (base x) [.bool false, .bool false, .int .i64 0, .int .i64 0, .int .i64 0, .slice none 0 0] (fun w9 => ∃ (r11 r12 : Bool) (r13 r14 r15 : Int) (r_a16 : Option Addr) (r_n17 r_c18 : Nat), Cells w9 (base x) 0 [.bool r11, .bool r12, .int .i64 r13, .int .i64 r14, .int .i64 r15, .slice r_a16 r_n17 r_c18] ∧ k (.tuple #[.agg #[.bool r11, .bool r12, .int .i64 r13, .int .i64 r14, .int .i64 r15, .slice r_a16 r_n17 r_c18], .bool false]) w9) :=
  PutAll.use hb (by simpa using hl.symm) fun w' hb' m => ⟨_, _, _, _, _, _, _, _, hb'.cells, hk w' (h.loc hb (by decide) h0 m) (b.loc hx m)⟩

theorem nextj2 (hS : s.S < D.length) (hA : s.A ≤ 1000000) (hD : D.length ≤ 1000000) {x : Nat} {vs : List Value} (hb : Blk w x 32 vs) (hl : vs.length = 6) (b : Bk w3 w) (hx : w3.heap.size ≤ x) (h0 : w0.heap.size ≤ x) {k : Value → World → Prop}
    (hk : ∀ w' a c, Bun w0 gf gg w' s.snt D q → Bk w3 w' → Own w' 5 1 a D[s.S].l.length c (D[s.S].l.map bv) → k (.tuple #[frm ((s.A + s.S) % 256) a D[s.S].l.length c, .bool true]) w') : F7_j2 (base gf) (base x) w k := by
  unfold F7_j2
  refine (take_ok h hS hA hD).mono ?_
  rintro _ w1 ⟨a, c, rfl, o1, h1, b1⟩
  refine ⟨_, _, _, _, rfl, _, h1.cell (i := 12) (fun _ _ => rfl), h1.put (s' := s.snt) (by decide) (fun _ _ => rfl) fun w2 h2 b2 => ?_⟩
  have b12 := b1.trans (b2.trans (Bk.of (Mod.drew w2)))
  have hb2 := b12.2 _ _ _ (by decide) (by decide) (by decide) hb
  refine ⟨_, h2.drew.cell (i := 6) (fun _ _ => rfl), _, h2.drew.cell (i := 7) (fun _ _ => rfl), PutAll.use hb2 (by simpa using hl.symm) fun w' hb' m => ?_⟩
  have o2 := (b2.trans (Bk.of (Mod.drew w2))).own o1
  refine ⟨_, _, _, _, _, _, _, _, hb'.cells, hk w' a c (h2.drew.loc hb2 (by decide) h0 m) ((b.trans b12).loc hx m) (o2.mod m (fun y hy hy' => ?_))⟩
  have e := List.mem_singleton.1 hy'
  subst e
  exact o2.ne hb2 (by decide) hy

theorem nextj1 (hst : s.st = 1) (htr : s.tries < 255) (hA : s.A ≤ 1000000) (hD : D.length ≤ 1000000) (t : Nat) (hlast : s.last ≤ 1000000) (hclk : s.clk t = s) {x : Nat} {vs : List Value} (hb : Blk w x 32 vs) (hl : vs.length = 6) (b : Bk w3 w) (hx : w3.heap.size ≤ x) (h0 : w0.heap.size ≤ x) {k : Value → World → Prop}
    (hk1 : ∀ w', nx s D.length t = none → Bun w0 gf gg w' s D q → Bk w3 w' → k (.tuple #[frm0, .bool false]) w')
    (hk : ∀ w' i s' a c, (hi : i < D.length) → nx s D.length t = some (i, s') → Bun w0 gf gg w' s' D q → Bk w3 w' → Own w' 5 1 a D[i].l.length c (D[i].l.map bv) → k (.tuple #[frm ((s.A + i) % 256) a D[i].l.length c, .bool true]) w') : F7_j1 (base x) (base gf) (decide ((D.length : Int) = 0)) w k := by
  have hnow : max s.now t = s.now := congrArg Fs.now hclk
  unfold F7_j1
  refine iteI (fun hz => ?_) (fun hz => ?_)
  · have hz : D.length = 0 := by simpa using hz
    exact out0 h hb hl b hx h0 fun w' h' b' => hk1 w' (by unfold nx; rw [if_pos hz]) h' b'
  have hz : ¬ D.length = 0 := by simpa using hz
  refine (waiting_ok h).mono ?_
  rintro _ w1 ⟨rfl, h1, b1⟩
  refine ⟨_, rfl, ?_⟩
  have hb1 := b1.2 _ _ _ (by decide) (by decide) (by decide) hb
  have b31 := b.trans b1
  refine iteI (fun hw => ?_) (fun hw => ?_)
  · have hw : ¬ s.S < min 8 D.length := by simpa using hw
    refine ⟨_, h1.drew.cell (i := 12) (fun _ _ => rfl), _, h1.drew.cell (i := 13) (fun _ _ => rfl), _, h1.drew.cell (i := 8) (fun _ _ => rfl), ?_⟩
    rw [wi64 (by omega)]
    have b3d := b31.trans (Bk.of (Mod.drew w1))
    refine iteI (fun hn => ?_) (fun hn => ?_)
    · exact out0 h1.drew hb1.drew hl b3d hx h0 fun w' h' b' => hk1 w' (by unfold nx; rw [if_neg hz, if_neg hw, if_pos (by omega)]) h' b'
    · refine ⟨_, h1.drew.drew.cell (i := 14) (fun _ _ => rfl), _, h1.drew.drew.cell (i := 9) (fun _ _ => rfl), ?_⟩
      rw [if_neg (by omega)]
      refine ⟨_, h1.drew.drew.cell (i := 14) (fun _ _ => rfl), h1.drew.drew.put (s' := { s with tries := s.tries + 1 }) (by decide) (fun _ _ => by rw [wi64 (by omega)]; rfl) fun w2 h2 b2 => ?_⟩
      refine (repeat_ok h2).mono ?_
      rintro _ w4 ⟨rfl, h4, b4⟩
      refine ⟨rfl, ?_⟩
      have bb := ((Bk.of (Mod.drew w1)).trans (Bk.of (Mod.drew w1.drew))).trans (b2.trans b4)
      have hb4 := bb.2 _ _ _ (by decide) (by decide) (by decide) hb1
      refine nextj2 (s := s.tri) h4 (by show 0 < D.length; omega) hA hD hb4 hl (b31.trans bb) hx h0 fun w' a c h' b' o' => ?_
      refine hk w' 0 _ a c (by omega) ?_ h' b' o'
      unfold nx
      rw [if_neg hz, if_neg hw, if_neg (by omega), hclk]
  · have hw : s.S < min 8 D.length := by simpa using hw
    refine nextj2 h1 (by omega) hA hD hb1 hl b31 hx h0 fun w' a c h' b' o' => ?_
    refine hk w' s.S _ a c (by omega) ?_ h' b' o'
    unfold nx
    rw [if_neg hz, if_pos hw, hclk]

theorem next_ok (t : Nat) (ht : t ≤ 1000) (hst : s.st = 1) (htr : s.tries < 255) (hA : s.A ≤ 1000000) (hD : D.length ≤ 1000000) (hlast : s.last ≤ 1000000) : Does Try.prog 7 #[.pointer (some (base gf)), .int .i64 (t : Int)] w fun v w' => Bk w w' ∧ ((nx s D.length t = none ∧ v = .tuple #[frm0, .bool false] ∧ Bun w0 gf gg w' (s.clk t) D q) ∨
    ∃ i s' a c, ∃ hi : i < D.length, nx s D.length t = some (i, s') ∧ v = .tuple #[frm ((s.A + i) % 256) a D[i].l.length c, .bool true] ∧ Own w' 5 1 a D[i].l.length c (D[i].l.map bv) ∧ Bun w0 gf gg w' s' D q) := by
  apply w7
  unfold F7
  refine New.use fun w1 hb m1 z1 => ?_
  have h1 := h.none m1
  refine (usable_ok h1).mono ?_
  rintro _ _ ⟨rfl, rfl⟩
  refine ⟨_, rfl, ?_⟩
  rw [if_neg (by simp)]
  refine (clock_ok h1 t ht).mono ?_
  rintro _ w2 ⟨rfl, h2, b2⟩
  refine ⟨rfl, _, rfl, _, _, _, h2.cell (i := 11) (fun _ _ => rfl), ?_⟩
  rw [if_neg (by simp)]
  have hb2 := b2.2 _ _ _ (by decide) (by decide) (by decide) hb
  have b := (Bk.of m1).trans b2
  have hcc : (s.clk t).clk t = s.clk t := by unfold Fs.clk; simp only [Fs.mk.injEq, true_and, and_true]; omega
  have hnx : nx (s.clk t) D.length t = nx s D.length t := by
    unfold nx
    rw [hcc]
    have e : max (s.clk t).now t = max s.now t := by show max (max s.now t) t = max s.now t; omega
    rw [e]
    rfl
  have e1 : (s.clk t).st = 1 := hst
  refine ⟨_, h2.cell (i := 10) (fun _ _ => rfl), ?_⟩
  rw [if_neg (by rw [e1]; simp)]
  obtain ⟨m0, z1, z2, hg, hD', ua, uc, hf, hw, hu⟩ := id h2
  refine ⟨_, _, _, hf.cell (i := 1) rfl, ?_⟩
  refine nextj1 h2 hst htr hA hD t hlast hcc hb2 rfl b (Nat.le_refl _) (by have := h.size; omega) (fun w' hn h' b' => ⟨b', .inl ⟨by rw [← hnx]; exact hn, rfl, h'⟩⟩) (fun w' i s' a c hi hn h' b' o' => ⟨b', .inr ⟨i, s', a, c, hi, by rw [← hnx]; exact hn, rfl, o', h'⟩⟩)
end
end Go.Proofs.Ythcebibacphblaa
