/-
  The packer's Next.
-/
import Derived.Test.YtnaomgfdcadncaaPacker
import Derived.Test.YtnaomgfdcadncaaMake
namespace Go.Proofs.Ytnaomgfdcadncaa
open Go Go.Sh Go.Proofs
set_option linter.unusedVariables false
set_option linter.unusedSimpArgs false
set_option linter.unusedSectionVars false

theorem makeBytes (w : World) (n : Nat) (hn : n ≤ 1000000) : ∃ w', (Instr.makeSlice 29 (.int .i64 (n : Int)) (.int .i64 (n : Int))).run Try.prog w = .ok (.slice (some (base w.heap.size)) n n) w' ∧ Blk w' w.heap.size 5 ((List.replicate n (0 : UInt8)).map bv) ∧ Mod [] w w' ∧ w'.heap.size = w.heap.size + 1 := by
  obtain ⟨w', h1, h2, h3, h4⟩ := make_one (P := Try.prog) (t := 29) (e := 5) (bytes := 1) (zv := .int .u8 0) Try.underlying29 (by kernel_rfl) rfl w n (by omega) (by omega)
  refine ⟨w', h1, ?_, h3, h4⟩
  rw [List.map_replicate]
  exact h2
def zeros (n : Nat) : List UInt8 := List.replicate n 0
theorem zeros_len (n : Nat) : (zeros n).length = n := by simp [zeros]
theorem idleP_ok (n : Nat) (h7 : 7 ≤ n) (hn : n ≤ 4096) (w : World) : Does Try.prog 18 #[.int .i64 (n : Int)] w fun v w' => ∃ x k, v = .tuple #[.slice x n k, .int .i64 0] ∧ Own w' 5 1 x n k ((pk true 0 (zeros (n - 6))).map bv) ∧ Mod [] w w' ∧ (∀ y ∈ fp x, w.heap.size ≤ y) := by
  apply w18
  unfold F18
  rw [if_neg (by omega)]
  unfold F18_j1
  rw [if_neg (by simp; omega)]
  have e : IntKind.i64.wrap ((n : Int) - 6) = ((n - 6 : Nat) : Int) := by rw [wi64 (by omega)]; omega
  rw [e]
  obtain ⟨w1, run, b1, m1, z1⟩ := makeBytes w (n - 6) (by omega)
  refine ⟨_, _, _, w1, run, ?_⟩
  have en := encode_ok (w := w1) (a := some (base w.heap.size)) true 0 (d := zeros (n - 6)) (n - 6) (by decide) (by rw [zeros_len]; omega) (fun _ => ⟨rfl, by rw [zeros_len]; rfl⟩) (Rd.blk b1)
  have el : (pk true 0 (zeros (n - 6))).length = n := by rw [pk_len, zeros_len]; omega
  rw [el, zeros_len] at en
  refine en.mono ?_
  rintro _ w2 ⟨x, k, rfl, o2, m2, f2⟩
  exact ⟨_, _, _, _, rfl, x, k, rfl, o2, m1.none m2, fun y hy => by have := f2 y hy; omega⟩

/-! ### The stream that waits -/
def qs (taken : Nat) (L : List (List UInt8)) : List UInt8 := L.flatten.drop taken
def fs (taken : Nat) (L : List (List UInt8)) : Nat := if taken = 0 then 0 else match L with | [] => 0 | d :: _ => d.length - taken
def wf (taken : Nat) (L : List (List UInt8)) : Prop := match L with | [] => taken = 0 | d :: _ => taken < d.length
abbrev tx (W : List Dt) : List (List UInt8) := W.map (·.l)
theorem qs_cons {taken : Nat} {d : List UInt8} {L : List (List UInt8)} (h : taken ≤ d.length) : qs taken (d :: L) = d.drop taken ++ L.flatten := by
  unfold qs
  rw [List.flatten_cons, List.drop_append_of_le_length h]

section
variable {w : World} {gp size left taken : Nat} {W : List Dt} {wa : Option Addr} {r : Option Addr × Nat × Nat}
theorem ptake_ok {d : Dt} (h : Pkr w gp size left taken (d :: W) wa r) (ht : taken < d.l.length) (hdl : d.l.length ≤ 10000) (hle : d.l.length - taken ≤ left) (hll : left ≤ 100000) (hW : W.length ≤ 1000) (M : Nat) (hM : 1 ≤ M) (hMl : M ≤ 10000) :
    Does Try.prog 17 #[.pointer (some (base gp)), .int .i64 (M : Int)] w fun v w' => Mod [gp] w w' ∧ ∃ x c n wa' W' taken', v = .slice x n c ∧ n = min M (d.l.length - taken) ∧ Rd w' x (((d.l.drop taken).take n).map bv) ∧ Pkr w' gp size (left - n) taken' W' wa' r ∧ (∀ y ∈ fp wa', y ∈ fp wa ∨ w.heap.size ≤ y) ∧ ((M < d.l.length - taken ∧ W' = d :: W ∧ taken' = taken + M) ∨ (d.l.length - taken ≤ M ∧ W' = W ∧ taken' = 0)) := by
  apply w17
  unfold F17
  obtain ⟨wc, b, o, k⟩ := id h
  have bd := b.drew
  have od := o.drew
  have hd : d.ok w.drew := k d (by simp)
  obtain ⟨p, hp, hc⟩ := rd_get (l := d :: W) (f := Dt.val) od.rd (i := 0) (by simp)
  have hc : w.drew.cell? (p.add 0) = some (.slice d.a d.l.length d.c) := hc
  have rd : Rd w.drew (cutA d.a d.c taken 1) ((d.l.drop taken).map bv) := by
    have := hd.rd.cut (c := d.c) (l := taken) (z := 1) (by have := hd.le; simp; omega)
    rw [Nat.mul_one, ← List.map_drop] at this
    exact this
  have ow : ∀ {w'}, Mod [gp] w.drew w' → Own w' 29 1 wa (d :: W).length wc ((d :: W).map Dt.val) := fun m => od.mod m (fun y hy hy' => by simp at hy'; subst hy'; exact od.ne bd (by decide) hy)
  have kd : ∀ {w'}, Mod [gp] w.drew w' → ∀ e ∈ d :: W, e.ok w' := fun m e he => (k e he).mod ((Mod.drew w).same m) (fun y hy hy' => by have q := List.mem_singleton.1 hy'; subst q; exact (k e he).ne b (by decide) hy)
  have hfd : ∀ y ∈ fp (cutA d.a d.c taken 1), y ∉ [gp] := fun y hy hy' => by
    simp at hy'; subst hy'
    have hy2 : y ∈ fp d.a := by rw [fp_cut] at hy; exact hy
    exact hd.ne bd (by decide) hy2
  refine ⟨_, rfl, _, _, _, bd.cell (i := 4) rfl, p, hp, by omega, by simp, _, _, _, hc, _, bd.cell (i := 3) rfl, by omega, by omega, ?_⟩
  rw [Int.toNat_natCast]
  refine iteI (fun hlt => ?_) (fun hlt => ?_)
  · have hlt : M < d.l.length - taken := by omega
    refine ⟨_, bd.cell (i := 3) rfl, Put.use bd (by simp) fun w1 b1 m1 => ?_⟩
    refine ⟨_, b1.cell (i := 2) rfl, Put.use b1 (by simp) fun w2 b2 m2 => ?_⟩
    have m12 := m1.same m2
    refine ⟨by omega, by have := hd.le; omega, (Mod.drew w).same m12, _, _, M, wa, d :: W, taken + M, by rw [Int.toNat_natCast], by omega, ?_, ⟨wc, ?_, ow m12, kd m12⟩, fun y hy => .inl hy, .inl ⟨hlt, rfl, rfl⟩⟩
    · rw [List.map_take]
      exact (rd.mod m12 hfd).take M
    · rw [wi64 (by omega), wi64 (by omega)] at b2
      have e1 : (taken : Int) + (M : Int) = ((taken + M : Nat) : Int) := by omega
      have e2 : (left : Int) - (M : Int) = ((left - M : Nat) : Int) := by omega
      rw [e1, e2] at b2
      exact b2
  · have hlt : d.l.length - taken ≤ M := by omega
    refine ⟨_, _, _, bd.cell (i := 4) rfl, by omega, by simp; omega, ?_⟩
    have hwc := od.le
    have rw' : Rd w.drew (cutA wa wc 1 1) (W.map Dt.val) := by
      have := od.rd.cut (c := wc) (l := 1) (z := 1) (by simp at hwc ⊢; omega)
      exact this
    have el : (d :: W).length - (1 : Int).toNat = W.length := by simp
    rw [el]
    refine (clone27 (wc - (1 : Int).toNat) rw' (by simp) (vals_one W) (by omega)).mono ?_
    rintro _ w1 ⟨wa', wc', rfl, o1, m1, f1⟩
    have b1 := bd.mod m1 (by simp)
    refine ⟨_, _, _, rfl, Put.use b1 (by simp) fun w2 b2 m2 => Put.use b2 (by simp) fun w3 b3 m3 => ⟨_, b3.cell (i := 2) rfl, Put.use b3 (by simp) fun w4 b4 m4 => ?_⟩⟩
    have m24 := (m2.same m3).same m4
    have m14 : Mod [gp] w.drew w4 := (m1.weaken (by simp)).same m24
    refine ⟨(Mod.drew w).same m14, _, _, d.l.length - taken, wa', W, 0, rfl, by omega, ?_, ⟨wc', ?_, ?_, fun e he => kd m14 e (List.mem_cons_of_mem _ he)⟩, fun y hy => .inr (by have := f1 y hy; exact this), .inr ⟨hlt, rfl, rfl⟩⟩
    · rw [List.take_of_length_le (by rw [List.length_drop]; omega)]
      exact rd.mod m14 hfd
    · have e2 : IntKind.i64.wrap ((left : Int) - ((d.l.length - taken : Nat) : Int)) = ((left - (d.l.length - taken) : Nat) : Int) := by rw [wi64 (by omega)]; omega
      rw [e2] at b4
      exact b4
    · exact o1.mod m24 (fun y hy hy' => by simp at hy'; subst hy'; exact o1.ne b1 (by decide) hy)
end

theorem own_apart {w : World} {e z n c e' z' m d : Nat} {a b : Option Addr} {vs us : List Value} (h : Own w e z a n c vs) (h' : Own w e' z' b m d us) (hne : e ≠ e') : ∀ y ∈ fp b, y ∉ fp a := by
  rcases h'.2 with ⟨rfl, _⟩ | ⟨g, r, rfl, hb, _⟩
  · simp [fp]
  · intro y hy
    have : y = g := by simpa [fp, base] using hy
    subst this
    exact h.ne hb hne
def frame (size : Nat) (Q : List UInt8) : List UInt8 := (Q ++ pk true 0 (zeros (max (size - Q.length) 7 - 6))).take size
/-- What Next leaves. -/
def Nxt (w w' : World) (gp size : Nat) (taken : Nat) (W : List Dt) (wa : Option Addr) (v : Value) : Prop :=
  Mod [gp] w w' ∧ ∃ x k first j W' taken' left' wa' r', v = .tuple #[.slice x size k, .int .i64 ((first : Nat) : Int), .bool true] ∧ Own w' 5 1 x size k ((frame size (qs taken (tx W))).map bv) ∧ first = (if fs taken (tx W) < size then fs taken (tx W) else 2047) ∧ Pkr w' gp size left' taken' W' wa' r' ∧ W' = W.drop j ∧ wf taken' (tx W') ∧ qs taken' (tx W') = (qs taken (tx W)).drop size ∧ left' = (qs taken' (tx W')).length ∧ (0 < left' → r' = (none, 0, 0)) ∧ ∀ y ∈ fp wa', y ∈ fp wa ∨ w.heap.size ≤ y

theorem pnext_ok {w : World} {gp size left taken : Nat} {W : List Dt} {wa : Option Addr} (h : Pkr w gp size left taken W wa (none, 0, 0)) (hs : 7 ≤ size ∧ size ≤ 2000) (hwf : wf taken (tx W)) (hleft : left = (qs taken (tx W)).length) (h0 : 0 < left) (hll : left ≤ 10000) (hW : W.length ≤ 1000) (hpos : ∀ e ∈ W, 1 ≤ e.l.length ∧ e.l.length ≤ 5000) :
    Does Try.prog 8 #[.pointer (some (base gp))] w fun v w' => Nxt w w' gp size taken W wa v := by
  apply w8
  unfold F8
  refine (pnone_ok h (by omega)).mono ?_
  rintro _ _ ⟨rfl, rfl⟩
  refine ⟨_, rfl, ?_⟩
  rw [if_neg (by simp)]
  obtain ⟨wc, b, o, kk⟩ := id h
  refine ⟨_, rfl, _, b.cell (i := 2) rfl, ?_⟩
  unfold F8_j1
  rw [if_neg (by simp; omega)]
  have bd := b.drew
  refine ⟨_, rfl, _, _, _, bd.cell (i := 5) rfl, _, bd.cell0, _, _, _, bd.cell (i := 5) rfl, ?_⟩
  have e0 : min (((0 : Nat)) : Int) (size : Int) = 0 := by omega
  rw [e0]
  refine ⟨by omega, by omega, ?_⟩
  refine (clone16 (l := []) 0 (.inl rfl) (by simp)).mono ?_
  rintro _ w1 ⟨oa, oc, rfl, o1, m1, f1, hno⟩
  obtain ⟨rfl, rfl⟩ := hno rfl
  have M1 : Mod [] w w1 := (Mod.drew w).none m1
  have b1 := b.mod M1 (by simp)
  refine ⟨_, _, _, rfl, _, _, _, b1.cell (i := 5) rfl, by omega, by omega, Put.use b1 (by simp) fun w2 b2 m2 => ?_⟩
  have M2 : Mod [gp] w w2 := (M1.weaken (by simp)).same m2
  have own2 : Own w2 29 1 wa W.length wc (W.map Dt.val) := o.mod M2 (fun y hy hy' => by simp at hy'; subst hy'; exact o.ne b (by decide) hy)
  have kk2 : ∀ e ∈ W, e.ok w2 := fun e he => (kk e he).mod M2 (fun y hy hy' => by simp at hy'; subst hy'; exact (kk e he).ne b (by decide) hy)
  have P2 : Pkr w2 gp size left taken W wa (none, 0, 0) := ⟨wc, b2, own2, kk2⟩
  have hgp := b.lt
  refine LoopP.of (fun (x : Int × Option Addr × Nat × Nat) w' => ∃ (first : Nat) (O : List UInt8) (a : Option Addr) (c j : Nat) (W' : List Dt) (taken' left' : Nat) (wa' : Option Addr), x = ((first : Int), a, O.length, c) ∧ Pkr w' gp size left' taken' W' wa' (none, 0, 0) ∧ W' = W.drop j ∧ wf taken' (tx W') ∧ Own w' 5 1 a O.length c (O.map bv) ∧ O ++ qs taken' (tx W') = qs taken (tx W) ∧ O.length ≤ size ∧ left' = (qs taken' (tx W')).length ∧ Mod [gp] w w' ∧ (∀ y ∈ fp a, w.heap.size ≤ y) ∧ (∀ y ∈ fp wa', y ∈ fp wa ∨ w.heap.size ≤ y) ∧ (fs taken (tx W) < O.length → first = fs taken (tx W)) ∧ (O.length ≤ fs taken (tx W) → first = 2047 ∧ fs taken (tx W) = O.length + fs taken' (tx W'))) (fun x _ => size - x.2.2.1)
    ⟨2047, [], none, 0, 0, W, taken, left, wa, rfl, P2, rfl, hwf, Own.nil, rfl, by simp, hleft, M2, by simp [fp], fun y hy => .inl hy, by simp, fun _ => ⟨rfl, by simp⟩⟩ ?_
  rintro _ w3 ⟨first, O, a, c, j, W', taken', left', wa', rfl, P3, hj, hwf', o3, hO, hOs, hl3, M3, f3, fw3, hf1, hf2⟩
  unfold F8_b2
  dsimp only
  obtain ⟨wc3, b3, ow3, kk3⟩ := id P3
  refine ⟨_, b3.cell0, ?_⟩
  have hql : O.length + (qs taken' (tx W')).length = left := by rw [← List.length_append, hO, hleft]
  -- the end
  have fin : ∀ (first : Nat), first = (if fs taken (tx W) < size then fs taken (tx W) else 2047) → O.length = size → F8_j7 (first : Int) a O.length c w3 (fun v w' => Nxt w w' gp size taken W wa v) := by
    intro first hf he
    unfold F8_j7
    refine ⟨M3, a, c, first, j, W', taken', left', wa', (none, 0, 0), by rw [he], ?_, hf, P3, hj, hwf', ?_, hl3, fun _ => rfl, fw3⟩
    · have : frame size (qs taken (tx W)) = O := by
        unfold frame
        rw [← hO, List.append_assoc, ← he, List.take_left']
        rfl
      rw [this, ← he]
      exact o3
    · rw [← hO, ← he, List.drop_left']
      rfl
  have last : ∀ (first' : Nat), (fs taken (tx W) ≤ O.length → first' = fs taken (tx W)) → W' = [] → O.length < size → F8_j6 (size : Int) O.length a c (base gp) (first' : Int) w3 (fun v w' => Nxt w w' gp size taken W wa v) := by
    intro first' hf he hlt
    subst he
    have ht0 : taken' = 0 := hwf'
    subst ht0
    have hq0 : qs 0 (tx []) = [] := rfl
    rw [hq0, List.append_nil] at hO
    have hfs : fs taken (tx W) ≤ O.length := by
      rcases Nat.lt_or_ge O.length (fs taken (tx W)) with hh | hh
      · have := (hf2 (by omega)).2
        have e : fs 0 (tx []) = 0 := rfl
        omega
      · exact hh
    have hf := hf hfs
    unfold F8_j6
    have e1 : IntKind.i64.wrap ((size : Int) - (O.length : Int)) = ((size - O.length : Nat) : Int) := by rw [wi64 (by omega)]; omega
    rw [e1]
    have e2 : max ((size - O.length : Nat) : Int) 7 = ((max (size - O.length) 7 : Nat) : Int) := by omega
    rw [e2]
    refine (idleP_ok (max (size - O.length) 7) (by omega) (by omega) w3).mono ?_
    rintro _ w4 ⟨x, k, rfl, o4, m4, f4⟩
    refine ⟨_, _, _, _, rfl, by omega, by have := o4.le; omega, ?_⟩
    have z3 := M3.size
    obtain ⟨a', c', w5, run, o5, m5, f5⟩ := append_own (m := size - O.length) (d := k) (us := ((pk true 0 (zeros (max (size - O.length) 7 - 6))).take (size - O.length)).map bv) Try.underlying29 elem5 29 (o3.mod m4 (by simp)) (by rw [List.map_take]; exact o4.rd.take _) (by rw [List.length_map, List.length_take, pk_len, zeros_len]; omega) (bv_one _) (by omega) (by omega)
    have es : O.length + (size - O.length) = size := by omega
    rw [es] at run o5
    rw [Int.toNat_natCast]
    refine ⟨_, _, _, w5, run, by omega, by omega, ?_⟩
    have b5 := (b3.mod m4 (by simp)).mod m5 (o3.ne b3 (by decide))
    refine Put.use b5 (by simp) fun w6 b6 m6 => ?_
    unfold F8_j5
    have M5 : Mod [gp] w w5 := (M3.none m4).trans m5 (fun y hy => .inr (f3 y hy))
    have ow6 : Own w6 29 1 wa' ([] : List Dt).length wc3 (([] : List Dt).map Dt.val) := ((ow3.mod m4 (by simp)).mod m5 (own_apart o3 ow3 (by decide))).mod m6 (fun y hy hy' => by simp at hy'; subst hy'; exact ow3.ne b3 (by decide) hy)
    refine ⟨M5.same m6, a', c', first', j, [], 0, left', wa', (cutA x k (size - O.length) 1, max (size - O.length) 7 - (size - O.length), k - (size - O.length)), rfl, ?_, ?_, ⟨wc3, b6, ow6, by simp⟩, hj, rfl, ?_, hl3, fun hh => ?_, fw3⟩
    · have ef : frame size (qs taken (tx W)) = O ++ (pk true 0 (zeros (max (size - O.length) 7 - 6))).take (size - O.length) := by
        unfold frame
        rw [← hO, List.take_append, List.take_of_length_le (by omega)]
      rw [ef, List.map_append]
      exact o5.mod m6 (fun y hy hy' => by simp at hy'; subst hy'; exact o5.ne b5 (by decide) hy)
    · rw [hf, if_pos (by omega)]
    · rw [← hO, List.drop_of_length_le (by omega)]
      rfl
    · rw [hl3] at hh
      have e : (qs 0 (tx [])).length = 0 := by rw [hq0]; rfl
      omega
  refine iteI (fun hlt => ?_) (fun hlt => ?_)
  · have hlt : O.length < size := by omega
    refine ⟨_, _, _, b3.cell (i := 4) rfl, iteI (fun hw => ?_) (fun hw => ?_)⟩
    · cases W' with
      | nil => simp at hw
      | cons d W2 =>
        have hd : d ∈ W := by
          have : d ∈ W.drop j := by rw [← hj]; simp
          exact List.mem_of_mem_drop this
        have htk : taken' < d.l.length := hwf'
        have hdm := (hpos d hd).2
        have hqc : qs taken' (tx (d :: W2)) = d.l.drop taken' ++ (tx W2).flatten := qs_cons (Nat.le_of_lt htk)
        have hqcl := congrArg List.length hqc
        rw [List.length_append, List.length_drop] at hqcl
        have hWl : W2.length ≤ 1000 := by
          have := congrArg List.length hj
          rw [List.length_drop, List.length_cons] at this
          omega
        have hfs' : 0 < taken' → fs taken' (tx (d :: W2)) = d.l.length - taken' := fun h => by
          unfold fs
          rw [if_neg (by omega)]
          rfl
        have hfs0 : taken' = 0 → fs taken' (tx (d :: W2)) = 0 := fun h => by
          unfold fs
          rw [if_pos h]
        have j3 : ∀ first' : Nat, (fs taken (tx W) ≤ O.length → first' = fs taken (tx W)) → (O.length < fs taken (tx W) → first' = 2047 ∧ fs taken (tx W) = O.length + fs taken' (tx (d :: W2)) ∧ 0 < taken') → F8_j3 (base gp) (some (base gp)) O.length a c (first' : Int) w3 (fun x0 x1 x2 x3 w_1 => ∃ m, m < size - O.length ∧ (∃ (first : Nat) (O : List UInt8) (a : Option Addr) (c j : Nat) (W' : List Dt) (taken' left' : Nat) (wa' : Option Addr), (x0, x1, x2, x3) = ((first : Int), a, O.length, c) ∧ Pkr w_1 gp size left' taken' W' wa' (none, 0, 0) ∧ W' = W.drop j ∧ wf taken' (tx W') ∧ Own w_1 5 1 a O.length c (O.map bv) ∧ O ++ qs taken' (tx W') = qs taken (tx W) ∧ O.length ≤ size ∧ left' = (qs taken' (tx W')).length ∧ Mod [gp] w w_1 ∧ (∀ y ∈ fp a, w.heap.size ≤ y) ∧ (∀ y ∈ fp wa', y ∈ fp wa ∨ w.heap.size ≤ y) ∧ (fs taken (tx W) < O.length → first = fs taken (tx W)) ∧ (O.length ≤ fs taken (tx W) → first = 2047 ∧ fs taken (tx W) = O.length + fs taken' (tx W'))) ∧ size - x2 = m) := by
          intro first' H1 H2
          unfold F8_j3
          refine ⟨_, b3.cell0, ?_⟩
          have e1 : IntKind.i64.wrap ((size : Int) - (O.length : Int)) = ((size - O.length : Nat) : Int) := by rw [wi64 (by omega)]; omega
          rw [e1]
          refine (ptake_ok P3 htk (by omega) (by omega) (by omega) hWl (size - O.length) (by omega) (by omega)).mono ?_
          rintro _ w4 ⟨m4, x, xc, n, wa4, W4, taken4, rfl, hn, r4, P4, fw4, hcase⟩
          have o3' := o3.mod m4 (fun y hy hy' => by simp at hy'; subst hy'; exact o3.ne b3 (by decide) hy)
          have hnl : ((d.l.drop taken').take n).length = n := by rw [List.length_take, List.length_drop]; omega
          obtain ⟨a', c', w5, run, o5, m5, f5⟩ := append_own (m := n) (d := xc) Try.underlying29 elem5 29 o3' r4 (by rw [List.length_map, hnl, Nat.mul_one]) (bv_one _) (by omega) (by omega)
          refine ⟨_, _, _, rfl, _, _, _, w5, run, ?_⟩
          have z3 := M3.size
          have z4 := m4.size
          obtain ⟨wc4, b4, ow4, kk4⟩ := id P4
          have M4 := M3.same m4
          have W4d : ∃ j', W4 = W.drop j' := by
            rcases hcase with ⟨_, rfl, _⟩ | ⟨_, rfl, _⟩
            · exact ⟨j, hj⟩
            · refine ⟨j + 1, ?_⟩
              rw [← List.drop_drop, ← hj]
              rfl
          obtain ⟨j', hj'⟩ := W4d
          have P5 : Pkr w5 gp size (left' - n) taken4 W4 wa4 (none, 0, 0) := P4.mod m5 (o3'.ne b4 (by decide)) (own_apart o3' ow4 (by decide)) (fun e he y hy hy' => by
            have he' : e ∈ W := by rw [hj'] at he; exact List.mem_of_mem_drop he
            have := (kk e he').lt y hy
            have := f3 y hy'
            omega)
          have hlen : (O ++ (d.l.drop taken').take n).length = O.length + n := by rw [List.length_append, hnl]
          have hqs : qs taken4 (tx W4) = (qs taken' (tx (d :: W2))).drop n := by
            rw [hqc]
            rcases hcase with ⟨hc, rfl, rfl⟩ | ⟨hc, rfl, rfl⟩
            · have hn' : n = size - O.length := by omega
              rw [hn', List.drop_append_of_le_length (by rw [List.length_drop]; omega), List.drop_drop]
              exact qs_cons (show taken' + (size - O.length) ≤ d.l.length by omega)
            · have hn' : n = d.l.length - taken' := by omega
              rw [hn', List.drop_left' (by rw [List.length_drop])]
              rfl
          have hwf4 : wf taken4 (tx W4) := by
            rcases hcase with ⟨hc, rfl, rfl⟩ | ⟨hc, rfl, rfl⟩
            · show taken' + (size - O.length) < d.l.length
              omega
            · cases hW4 : W4 with
              | nil => rfl
              | cons e W5 =>
                show 0 < e.l.length
                exact (hpos e (by
                  have : e ∈ W.drop j' := by rw [← hj', hW4]; simp
                  exact List.mem_of_mem_drop this)).1
          refine ⟨_, ?_, ⟨first', O ++ (d.l.drop taken').take n, a', c', j', W4, taken4, left' - n, wa4, by rw [hlen], P5, hj', hwf4, ?_, ?_, by rw [hlen]; omega, ?_, M4.trans m5 (fun y hy => .inr (f3 y hy)), fun y hy => ?_, fun y hy => ?_, fun hh => ?_, fun hh => ?_⟩, rfl⟩
          · omega
          · rw [hlen, List.map_append]; exact o5
          · rw [hqs, ← hO, hqc, List.append_assoc]
            congr 1
            rw [List.drop_append_of_le_length (by rw [List.length_drop]; omega), ← List.append_assoc, List.take_append_drop]
          · rw [hqs, List.length_drop, hl3]
          · rcases f5 with hh | hh <;> rw [hh] at hy
            · exact f3 y hy
            · simp at hy; omega
          · rcases fw4 y hy with hh | hh
            · exact fw3 y hh
            · right; omega
          · rw [hlen] at hh
            rcases Nat.lt_or_ge O.length (fs taken (tx W)) with hh2 | hh2
            · obtain ⟨_, h2, h3⟩ := H2 hh2
              rw [hfs' h3] at h2
              omega
            · exact H1 hh2
          · rw [hlen] at hh
            obtain ⟨h1, h2, h3⟩ := H2 (by omega)
            rw [hfs' h3] at h2
            refine ⟨h1, ?_⟩
            rw [hlen]
            rcases hcase with ⟨hc, rfl, rfl⟩ | ⟨hc, rfl, rfl⟩
            · have : fs (taken' + (size - O.length)) (tx (d :: W2)) = d.l.length - (taken' + (size - O.length)) := by
                unfold fs
                rw [if_neg (by omega)]
                rfl
              omega
            · have : fs 0 (tx W4) = 0 := rfl
              omega
        refine ⟨_, b3.cell (i := 3) rfl, iteI (fun ht0 => ?_) (fun ht0 => ?_)⟩
        · have ht0 : taken' = 0 := by omega
          have e0 := hfs0 ht0
          unfold F8_j4
          refine iteI (fun hn => ?_) (fun hn => ?_)
          · have hn : first = 2047 := by have := of_decide_eq_true hn; omega
            have hge : O.length ≤ fs taken (tx W) := by
              rcases Nat.lt_or_ge (fs taken (tx W)) O.length with hh | hh
              · have := hf1 hh; omega
              · exact hh
            have := (hf2 hge).2
            exact j3 O.length (fun _ => by omega) (fun hh => by omega)
          · have hn : first ≠ 2047 := fun hh => hn (by rw [hh]; rfl)
            have hge : fs taken (tx W) < O.length := by
              rcases Nat.lt_or_ge (fs taken (tx W)) O.length with hh | hh
              · exact hh
              · exact absurd (hf2 hh).1 hn
            exact j3 first (fun _ => hf1 hge) (fun hh => by omega)
        · have ht0 : 0 < taken' := by omega
          have e0 := hfs' ht0
          unfold F8_j4
          rw [if_neg (by simp)]
          refine j3 first (fun hh => ?_) (fun hh => ?_)
          · rcases Nat.lt_or_ge (fs taken (tx W)) O.length with h2 | h2
            · exact hf1 h2
            · have := (hf2 h2).2; omega
          · exact ⟨(hf2 (by omega)).1, (hf2 (by omega)).2, ht0⟩
    · have hW0 : W' = [] := List.eq_nil_of_length_eq_zero (by omega)
      refine ⟨_, b3.cell0, ?_⟩
      rw [if_pos (by rw [wi64 (by omega)]; omega)]
      have ht0 : taken' = 0 := by rw [hW0] at hwf'; exact hwf'
      have hz : fs taken' (tx W') = 0 := by unfold fs; rw [if_pos ht0]
      refine iteI (fun hn => ?_) (fun hn => ?_)
      · refine last O.length (fun hh => ?_) hW0 hlt
        rcases Nat.lt_or_ge (fs taken (tx W)) O.length with h2 | h2
        · have := hf1 h2; omega
        · have := (hf2 h2).2; omega
      · refine last first (fun hh => ?_) hW0 hlt
        rcases Nat.lt_or_ge (fs taken (tx W)) O.length with h2 | h2
        · exact hf1 h2
        · have := (hf2 h2).1; omega
  · have hlt : O.length = size := by omega
    refine ⟨_, b3.cell0, ?_⟩
    rw [if_neg (by rw [wi64 (by omega)]; omega)]
    refine fin first ?_ hlt
    split
    · exact hf1 (by omega)
    · exact (hf2 (by omega)).1
end Go.Proofs.Ytnaomgfdcadncaa
