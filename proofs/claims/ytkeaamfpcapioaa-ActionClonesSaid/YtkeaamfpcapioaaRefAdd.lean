/-
  The contracts of chapter 37: Add of the reference. (printed by c37_radd.py)
-/
import Derived.Test.YtkeaamfpcapioaaRefT
namespace Go.Proofs.Ytkeaamfpcapioaa
open Go Go.Sh Go.Proofs
set_option linter.unusedVariables false
set_option linter.unusedSimpArgs false
set_option linter.unusedSectionVars false
set_option maxRecDepth 10000


theorem insO {w : World} {r : Nat} {x0 x1 x2 : Value} {ao : Option Addr} {n co k : Nat} {l : List Bool} (hb : Blk w r 31 [x0, x1, .slice ao n co]) (hr : Rd w ao (rowO.cells l)) (hn : n = l.length) (hl : n ≤ 300) (hk : k ≤ n) (hc : n ≤ co) {K : Value → World → Prop}
    (hK : ∀ (w' : World) (a' : Option Addr) (n' c' : Nat), Blk w' r 31 [x0, x1, .slice a' n' c'] → n' = n + 1 → n' ≤ c' → Rd w' a' (rowO.cells (l.take k ++ [false] ++ l.drop k)) → Since w (fp a') → (∀ y ∈ fp a', y < w'.heap.size) → Mod [r] w w' → K (.int .i64 0) w') :
    F20_j2 (base r) (k : Int) w K := by
  have hb0 : Blk w.drew r 31 [x0, x1, .slice ao n co] := hb.drew
  have hr0 : Rd w.drew ao (rowO.cells l) := hr.drew
  have m0 : Mod [] w w.drew := Mod.drew w
  unfold F20_j2
  refine ⟨_, _, _, hb0.cell (i := 2) rfl, by omega, by omega, _, _, _, hb0.cell (i := 2) rfl, by omega, by omega, ?_⟩
  simp only [Int.toNat_natCast]
  have rt : ∀ {w' : World}, Mod [] w w' → Rd w' ao (rowO.cells (l.take k)) := fun m => by
    have := ((hr.mod m (by simp)).take (k * rowO.z))
    unfold Row.cells at this ⊢
    rwa [flat_take rowO.f l (fun x _ => rowO.hz x)] at this
  have rd : ∀ {w' : World}, Mod [] w w' → Rd w' (cutA ao co k 1) (rowO.cells (l.drop k)) := fun m => by
    have := (hr.mod m (by simp)).cut (c := co) (l := k) (z := 1) (by rw [rowO.len]; subst hn; exact Nat.mul_le_mul_right _ hc)
    unfold Row.cells at this ⊢
    rwa [flat_drop rowO.f l (fun x _ => rowO.hz x)] at this
  have ltk : k = (l.take k).length := by rw [List.length_take]; omega
  have ldk : n - k = (l.drop k).length := by rw [List.length_drop]; omega
  have cc : ∀ {w' : World}, Mod [] w w' → Blk w' r 31 [x0, x1, .slice ao n co] := fun m => hb.mod m (by simp)
  have fin : ∀ (a' : Option Addr) (n' c' : Nat) (w1 : World), Gr rowO w w1 a' n' c' ([] ++ l.take k ++ [false] ++ l.drop k) → Put w1 ((base r).add 2) (.slice a' n' c') (fun w' => K (.int .i64 0) w') := by
    intro a' n' c' w1 G
    have b1 := cc G.m
    have lt := hb.lt
    refine Put.use b1 (by simp) fun w2 h2 m2 => ?_
    have hlen := G.len
    refine hK w2 a' n' c' (by simpa using h2) (by rw [hlen]; simp; omega) G.o.le (G.o.mod m2 (fun y hy hy' => by have := G.s y hy; simp at hy'; omega)).rd G.s (fun y hy => by have := G.o.lt y hy; have := m2.size; omega) ((G.m.weaken (by simp)).trans m2 (fun y hy => .inl hy))
  have two : ∀ (w1 : World) (a1 : Option Addr) (n1 c1 q : Nat), Gr rowO w w1 a1 n1 c1 ([] ++ l.take k) → Blk w1 q 4 ([.bool false]) → ∃ a2 n2 c2 w2, (Builtin.append_ #[29, 29] 29 #[.slice a1 n1 c1, .slice (some (base q)) 1 1]).run Try.prog w1 = .ok (.slice a2 n2 c2) w2 ∧ Mod [] w w2 ∧ ∃ a3 n3 c3 w3, (Builtin.append_ #[29, 29] 29 #[.slice a2 n2 c2, .slice (cutA ao co k 1) (n - k) (co - k)]).run Try.prog w2 = .ok (.slice a3 n3 c3) w3 ∧ Put w3 ((base r).add 2) (.slice a3 n3 c3) (fun w' => K (.int .i64 0) w') := by
    intro w1 a1 n1 c1 q G1 hq
    have e1 := G1.len
    rw [List.nil_append, ← ltk] at e1
    obtain ⟨a2, n2, c2, w2, run2, G2, m2⟩ := G1.app (m := [false]) (k := 1) (d := 1) rfl (by simpa [Row.cells] using Rd.blk hq) (by omega)
    have e2 := G2.len
    rw [List.nil_append, List.length_append, ← ltk] at e2
    obtain ⟨a3, n3, c3, w3, run3, G3, m3⟩ := G2.app (d := co - k) ldk (rd G2.m) (by simp at e2; omega)
    exact ⟨a2, n2, c2, w2, run2, G2.m, a3, n3, c3, w3, run3, fin a3 n3 c3 w3 G3⟩
  have one : ∀ (w1 : World) (q : Nat), Mod [] w w1 → Blk w1 q 4 [] → w.heap.size ≤ q → ∃ a1 n1 c1 w2, (Builtin.append_ #[29, 29] 29 #[.slice (some (base q)) 0 0, .slice ao k co]).run Try.prog w1 = .ok (.slice a1 n1 c1) w2 ∧ Gr rowO w w2 a1 n1 c1 ([] ++ l.take k) ∧ Mod [q] w1 w2 := by
    intro w1 q m1 hq h0
    obtain ⟨a1, n1, c1, w2, run1, G1, m2⟩ := (Gr.start (R := rowO) hq m1 h0).app (d := co) ltk (rt m1) (by omega)
    exact ⟨a1, n1, c1, w2, run1, G1, m2⟩
  refine ⟨New.use fun w1 h1 m1 z1 => ?_, New.use fun w1 h1 m1 z1 => ?_⟩
  · have M1 := m0.none m1
    have s1 := M1.size
    refine ⟨(cc M1).cell (i := 2) rfl, (cc M1).cell (i := 2) rfl, ?_, ?_⟩
    · obtain ⟨a1, n1, c1, w2, run1, G1, m2⟩ := one w1 _ M1 h1 (Nat.le_refl _)
      refine ⟨a1, n1, c1, w2, run1, (cc G1.m).cell (i := 2) rfl, New.use fun w3 h3 m3 z3 => ?_⟩
      obtain ⟨a2, n2, c2, w4, run2, M4, a3, n3, c3, w5, run3, f⟩ := two w3 a1 n1 c1 _ (G1.mod m3) h3
      exact ⟨(cc (G1.m.none m3)).cell (i := 2) rfl, (cc (G1.m.none m3)).cell (i := 2) rfl, a2, n2, c2, w4, run2, (cc M4).cell (i := 2) rfl, a3, n3, c3, w5, run3, f⟩
    · refine New.use fun w3 h3 m3 z3 => ?_
      have M3 := M1.none m3
      obtain ⟨a1, n1, c1, w2, run1, G1, m2⟩ := one w3 _ M3 (h1.mod m3 (by simp)) (Nat.le_refl _)
      have lt1 := h1.lt
      have h3' := h3.mod m2 (fun hy => by simp only [List.mem_singleton] at hy; omega)
      obtain ⟨a2, n2, c2, w4, run2, M4, a3, n3, c3, w5, run3, f⟩ := two w2 a1 n1 c1 _ G1 h3'
      exact ⟨(cc M3).cell (i := 2) rfl, (cc M3).cell (i := 2) rfl, a1, n1, c1, w2, run1, (cc G1.m).cell (i := 2) rfl, a2, n2, c2, w4, run2, (cc M4).cell (i := 2) rfl, a3, n3, c3, w5, run3, f⟩
  · have M1 := m0.none m1
    refine ⟨(cc M1).cell (i := 2) rfl, (cc M1).cell (i := 2) rfl, New.use fun w3 h3 m3 z3 => ?_⟩
    have M3 := M1.none m3
    have lt1 := h1.lt
    obtain ⟨a1, n1, c1, w2, run1, G1, m2⟩ := one w3 _ M3 h3 (by have := M1.size; omega)
    have h1' := (h1.mod m3 (by simp)).mod m2 (fun hy => by simp only [List.mem_singleton] at hy; omega)
    obtain ⟨a2, n2, c2, w4, run2, M4, a3, n3, c3, w5, run3, f⟩ := two w2 a1 n1 c1 _ G1 h1'
    exact ⟨(cc M3).cell (i := 2) rfl, (cc M3).cell (i := 2) rfl, a1, n1, c1, w2, run1, (cc G1.m).cell (i := 2) rfl, a2, n2, c2, w4, run2, (cc M4).cell (i := 2) rfl, a3, n3, c3, w5, run3, f⟩


theorem insC {w : World} {r : Nat} {x0 x1 x2 : Value} {ao : Option Addr} {n co k : Nat} {l : List Cc} (x : Cc) (hb : Blk w r 31 [x0, .slice ao n co, x2]) (hr : Rd w ao (rowC.cells l)) (hn : n = l.length) (hl : n ≤ 300) (hk : k ≤ n) (hc : n ≤ co) {qc : Nat} (hx : Blk w qc 36 x.cells) {K : Value → World → Prop}
    (hK : ∀ (w' : World) (a' : Option Addr) (n' c' : Nat), Blk w' r 31 [x0, .slice a' n' c', x2] → n' = n + 1 → n' ≤ c' → Rd w' a' (rowC.cells (l.take k ++ [x] ++ l.drop k)) → Since w (fp a') → (∀ y ∈ fp a', y < w'.heap.size) → Mod [r] w w' → F20_j2 (base r) (k : Int) w' K) :
    F20_j1 (base r) (k : Int) (base qc) w K := by
  have hb0 : Blk w.drew r 31 [x0, .slice ao n co, x2] := hb.drew
  have hr0 : Rd w.drew ao (rowC.cells l) := hr.drew
  have m0 : Mod [] w w.drew := Mod.drew w
  unfold F20_j1
  have hx0 : Blk w.drew qc 36 x.cells := hx.drew
  refine ⟨_, _, _, hb0.cell (i := 1) rfl, by omega, by omega, _, _, _, _, _, _, _, _, _, hx0.cells, _, _, _, hb0.cell (i := 1) rfl, by omega, by omega, ?_⟩
  simp only [Int.toNat_natCast]
  have rt : ∀ {w' : World}, Mod [] w w' → Rd w' ao (rowC.cells (l.take k)) := fun m => by
    have := ((hr.mod m (by simp)).take (k * rowC.z))
    unfold Row.cells at this ⊢
    rwa [flat_take rowC.f l (fun x _ => rowC.hz x)] at this
  have rd : ∀ {w' : World}, Mod [] w w' → Rd w' (cutA ao co k 5) (rowC.cells (l.drop k)) := fun m => by
    have := (hr.mod m (by simp)).cut (c := co) (l := k) (z := 5) (by rw [rowC.len]; subst hn; exact Nat.mul_le_mul_right _ hc)
    unfold Row.cells at this ⊢
    rwa [flat_drop rowC.f l (fun x _ => rowC.hz x)] at this
  have ltk : k = (l.take k).length := by rw [List.length_take]; omega
  have ldk : n - k = (l.drop k).length := by rw [List.length_drop]; omega
  have cc : ∀ {w' : World}, Mod [] w w' → Blk w' r 31 [x0, .slice ao n co, x2] := fun m => hb.mod m (by simp)
  have fin : ∀ (a' : Option Addr) (n' c' : Nat) (w1 : World), Gr rowC w w1 a' n' c' ([] ++ l.take k ++ [x] ++ l.drop k) → Put w1 ((base r).add 1) (.slice a' n' c') (fun w' => F20_j2 (base r) (k : Int) w' K) := by
    intro a' n' c' w1 G
    have b1 := cc G.m
    have lt := hb.lt
    refine Put.use b1 (by simp) fun w2 h2 m2 => ?_
    have hlen := G.len
    refine hK w2 a' n' c' (by simpa using h2) (by rw [hlen]; simp; omega) G.o.le (G.o.mod m2 (fun y hy hy' => by have := G.s y hy; simp at hy'; omega)).rd G.s (fun y hy => by have := G.o.lt y hy; have := m2.size; omega) ((G.m.weaken (by simp)).trans m2 (fun y hy => .inl hy))
  have two : ∀ (w1 : World) (a1 : Option Addr) (n1 c1 q : Nat), Gr rowC w w1 a1 n1 c1 ([] ++ l.take k) → Blk w1 q 36 (rowC.f x) → ∃ a2 n2 c2 w2, (Builtin.append_ #[28, 28] 28 #[.slice a1 n1 c1, .slice (some (base q)) 1 1]).run Try.prog w1 = .ok (.slice a2 n2 c2) w2 ∧ Mod [] w w2 ∧ ∃ a3 n3 c3 w3, (Builtin.append_ #[28, 28] 28 #[.slice a2 n2 c2, .slice (cutA ao co k 5) (n - k) (co - k)]).run Try.prog w2 = .ok (.slice a3 n3 c3) w3 ∧ Put w3 ((base r).add 1) (.slice a3 n3 c3) (fun w' => F20_j2 (base r) (k : Int) w' K) := by
    intro w1 a1 n1 c1 q G1 hq
    have e1 := G1.len
    rw [List.nil_append, ← ltk] at e1
    obtain ⟨a2, n2, c2, w2, run2, G2, m2⟩ := G1.app (m := [x]) (k := 1) (d := 1) rfl (by simpa [Row.cells] using Rd.blk hq) (by omega)
    have e2 := G2.len
    rw [List.nil_append, List.length_append, ← ltk] at e2
    obtain ⟨a3, n3, c3, w3, run3, G3, m3⟩ := G2.app (d := co - k) ldk (rd G2.m) (by simp at e2; omega)
    exact ⟨a2, n2, c2, w2, run2, G2.m, a3, n3, c3, w3, run3, fin a3 n3 c3 w3 G3⟩
  have one : ∀ (w1 : World) (q : Nat), Mod [] w w1 → Blk w1 q 36 [] → w.heap.size ≤ q → ∃ a1 n1 c1 w2, (Builtin.append_ #[28, 28] 28 #[.slice (some (base q)) 0 0, .slice ao k co]).run Try.prog w1 = .ok (.slice a1 n1 c1) w2 ∧ Gr rowC w w2 a1 n1 c1 ([] ++ l.take k) ∧ Mod [q] w1 w2 := by
    intro w1 q m1 hq h0
    obtain ⟨a1, n1, c1, w2, run1, G1, m2⟩ := (Gr.start (R := rowC) hq m1 h0).app (d := co) ltk (rt m1) (by omega)
    exact ⟨a1, n1, c1, w2, run1, G1, m2⟩
  refine ⟨New.use fun w1 h1 m1 z1 => ?_, New.use fun w1 h1 m1 z1 => ?_⟩
  · have M1 := m0.none m1
    have s1 := M1.size
    refine ⟨(cc M1).cell (i := 1) rfl, (hx.mod (M1) (by simp)).cells, (cc M1).cell (i := 1) rfl, ?_, ?_⟩
    · obtain ⟨a1, n1, c1, w2, run1, G1, m2⟩ := one w1 _ M1 h1 (Nat.le_refl _)
      refine ⟨a1, n1, c1, w2, run1, (hx.mod (G1.m) (by simp)).cells, (cc G1.m).cell (i := 1) rfl, New.use fun w3 h3 m3 z3 => ?_⟩
      obtain ⟨a2, n2, c2, w4, run2, M4, a3, n3, c3, w5, run3, f⟩ := two w3 a1 n1 c1 _ (G1.mod m3) h3
      exact ⟨(cc (G1.m.none m3)).cell (i := 1) rfl, (cc (G1.m.none m3)).cell (i := 1) rfl, a2, n2, c2, w4, run2, (cc M4).cell (i := 1) rfl, a3, n3, c3, w5, run3, f⟩
    · refine New.use fun w3 h3 m3 z3 => ?_
      have M3 := M1.none m3
      obtain ⟨a1, n1, c1, w2, run1, G1, m2⟩ := one w3 _ M3 (h1.mod m3 (by simp)) (Nat.le_refl _)
      have lt1 := h1.lt
      have h3' := h3.mod m2 (fun hy => by simp only [List.mem_singleton] at hy; omega)
      obtain ⟨a2, n2, c2, w4, run2, M4, a3, n3, c3, w5, run3, f⟩ := two w2 a1 n1 c1 _ G1 h3'
      exact ⟨(cc M3).cell (i := 1) rfl, (cc M3).cell (i := 1) rfl, a1, n1, c1, w2, run1, (hx.mod (G1.m) (by simp)).cells, (cc G1.m).cell (i := 1) rfl, a2, n2, c2, w4, run2, (cc M4).cell (i := 1) rfl, a3, n3, c3, w5, run3, f⟩
  · have M1 := m0.none m1
    refine ⟨(cc M1).cell (i := 1) rfl, (cc M1).cell (i := 1) rfl, New.use fun w3 h3 m3 z3 => ?_⟩
    have M3 := M1.none m3
    have lt1 := h1.lt
    obtain ⟨a1, n1, c1, w2, run1, G1, m2⟩ := one w3 _ M3 h3 (by have := M1.size; omega)
    have h1' := (h1.mod m3 (by simp)).mod m2 (fun hy => by simp only [List.mem_singleton] at hy; omega)
    obtain ⟨a2, n2, c2, w4, run2, M4, a3, n3, c3, w5, run3, f⟩ := two w2 a1 n1 c1 _ G1 h1'
    exact ⟨(cc M3).cell (i := 1) rfl, (hx.mod (M3) (by simp)).cells, (cc M3).cell (i := 1) rfl, a1, n1, c1, w2, run1, (hx.mod (G1.m) (by simp)).cells, (cc G1.m).cell (i := 1) rfl, a2, n2, c2, w4, run2, (cc M4).cell (i := 1) rfl, a3, n3, c3, w5, run3, f⟩


theorem insE {w : World} {r : Nat} {x0 x1 x2 : Value} {ao : Option Addr} {n co k : Nat} {l : List Int} (x : Int) (hb : Blk w r 31 [.slice ao n co, x1, x2]) (hr : Rd w ao (rowE.cells l)) (hn : n = l.length) (hl : n ≤ 300) (hk : k ≤ n) (hc : n ≤ co) {qc : Nat} {K : Value → World → Prop}
    (hK : ∀ (w' : World) (a' : Option Addr) (n' c' : Nat), Blk w' r 31 [.slice a' n' c', x1, x2] → n' = n + 1 → n' ≤ c' → Rd w' a' (rowE.cells (l.take k ++ [x] ++ l.drop k)) → Since w (fp a') → (∀ y ∈ fp a', y < w'.heap.size) → Mod [r] w w' → F20_j1 (base r) (k : Int) (base qc) w' K) :
    ∃ (x_a232 : Option Addr) (x_n233 x_c234 : Nat), w.drew.cell? (base r) = some (.slice x_a232 x_n233 x_c234) ∧ (0 : Int) ≤ (k : Int) ∧ (k : Int) ≤ (x_c234 : Int) ∧ ∃ (x_a238 : Option Addr) (x_n239 x_c240 : Nat), w.drew.cell? (base r) = some (.slice x_a238 x_n239 x_c240) ∧ (0 : Int) ≤ (k : Int) ∧ (k : Int) ≤ (x_n239 : Int) ∧ (New w.drew 3 [] (fun p244 w245 => w245.cell? (base r) = some (.slice x_a232 x_n233 x_c234) ∧ w245.cell? (base r) = some (.slice x_a238 x_n239 x_c240) ∧ (∃ (b_a248 : Option Addr) (b_n249 b_c250 : Nat) (w251 : World), (Builtin.append_ #[27, 27] 27 #[.slice (some p244) 0 0, .slice x_a232 (k : Int).toNat x_c234]).run Try.prog w245 = .ok (.slice b_a248 b_n249 b_c250) w251 ∧ w251.cell? (base r) = some (.slice x_a238 x_n239 x_c240) ∧ New w251 3 [.int .i64 x] (fun p254 w255 => w255.cell? (base r) = some (.slice x_a232 x_n233 x_c234) ∧ w255.cell? (base r) = some (.slice x_a238 x_n239 x_c240) ∧ ∃ (b_a258 : Option Addr) (b_n259 b_c260 : Nat) (w261 : World), (Builtin.append_ #[27, 27] 27 #[.slice b_a248 b_n249 b_c250, .slice (some p254) 1 1]).run Try.prog w255 = .ok (.slice b_a258 b_n259 b_c260) w261 ∧ w261.cell? (base r) = some (.slice x_a238 x_n239 x_c240) ∧ ∃ (b_a264 : Option Addr) (b_n265 b_c266 : Nat) (w267 : World), (Builtin.append_ #[27, 27] 27 #[.slice b_a258 b_n259 b_c260, .slice (cutA x_a238 x_c240 (k : Int).toNat 1) (x_n239 - (k : Int).toNat) (x_c240 - (k : Int).toNat)]).run Try.prog w261 = .ok (.slice b_a264 b_n265 b_c266) w267 ∧ Put w267 (base r) (.slice b_a264 b_n265 b_c266) (fun w269 => F20_j1 (base r) (k : Int) (base qc) w269 K))) ∧ (New w245 3 [.int .i64 x] (fun p271 w272 => w272.cell? (base r) = some (.slice x_a232 x_n233 x_c234) ∧ w272.cell? (base r) = some (.slice x_a238 x_n239 x_c240) ∧ ∃ (b_a275 : Option Addr) (b_n276 b_c277 : Nat) (w278 : World), (Builtin.append_ #[27, 27] 27 #[.slice (some p244) 0 0, .slice x_a232 (k : Int).toNat x_c234]).run Try.prog w272 = .ok (.slice b_a275 b_n276 b_c277) w278 ∧ w278.cell? (base r) = some (.slice x_a238 x_n239 x_c240) ∧ ∃ (b_a281 : Option Addr) (b_n282 b_c283 : Nat) (w284 : World), (Builtin.append_ #[27, 27] 27 #[.slice b_a275 b_n276 b_c277, .slice (some p271) 1 1]).run Try.prog w278 = .ok (.slice b_a281 b_n282 b_c283) w284 ∧ w284.cell? (base r) = some (.slice x_a238 x_n239 x_c240) ∧ ∃ (b_a287 : Option Addr) (b_n288 b_c289 : Nat) (w290 : World), (Builtin.append_ #[27, 27] 27 #[.slice b_a281 b_n282 b_c283, .slice (cutA x_a238 x_c240 (k : Int).toNat 1) (x_n239 - (k : Int).toNat) (x_c240 - (k : Int).toNat)]).run Try.prog w284 = .ok (.slice b_a287 b_n288 b_c289) w290 ∧ Put w290 (base r) (.slice b_a287 b_n288 b_c289) (fun w292 => F20_j1 (base r) (k : Int) (base qc) w292 K))))) ∧ (New w.drew 3 [.int .i64 x] (fun p295 w296 => w296.cell? (base r) = some (.slice x_a232 x_n233 x_c234) ∧ w296.cell? (base r) = some (.slice x_a238 x_n239 x_c240) ∧ New w296 3 [] (fun p299 w300 => w300.cell? (base r) = some (.slice x_a232 x_n233 x_c234) ∧ w300.cell? (base r) = some (.slice x_a238 x_n239 x_c240) ∧ ∃ (b_a303 : Option Addr) (b_n304 b_c305 : Nat) (w306 : World), (Builtin.append_ #[27, 27] 27 #[.slice (some p299) 0 0, .slice x_a232 (k : Int).toNat x_c234]).run Try.prog w300 = .ok (.slice b_a303 b_n304 b_c305) w306 ∧ w306.cell? (base r) = some (.slice x_a238 x_n239 x_c240) ∧ ∃ (b_a309 : Option Addr) (b_n310 b_c311 : Nat) (w312 : World), (Builtin.append_ #[27, 27] 27 #[.slice b_a303 b_n304 b_c305, .slice (some p295) 1 1]).run Try.prog w306 = .ok (.slice b_a309 b_n310 b_c311) w312 ∧ w312.cell? (base r) = some (.slice x_a238 x_n239 x_c240) ∧ ∃ (b_a315 : Option Addr) (b_n316 b_c317 : Nat) (w318 : World), (Builtin.append_ #[27, 27] 27 #[.slice b_a309 b_n310 b_c311, .slice (cutA x_a238 x_c240 (k : Int).toNat 1) (x_n239 - (k : Int).toNat) (x_c240 - (k : Int).toNat)]).run Try.prog w312 = .ok (.slice b_a315 b_n316 b_c317) w318 ∧ Put w318 (base r) (.slice b_a315 b_n316 b_c317) (fun w320 => F20_j1 (base r) (k : Int) (base qc) w320 K)))) := by
  have hb0 : Blk w.drew r 31 [.slice ao n co, x1, x2] := hb.drew
  have hr0 : Rd w.drew ao (rowE.cells l) := hr.drew
  have m0 : Mod [] w w.drew := Mod.drew w
  skip
  refine ⟨_, _, _, hb0.cell0, by omega, by omega, _, _, _, hb0.cell0, by omega, by omega, ?_⟩
  simp only [Int.toNat_natCast]
  have rt : ∀ {w' : World}, Mod [] w w' → Rd w' ao (rowE.cells (l.take k)) := fun m => by
    have := ((hr.mod m (by simp)).take (k * rowE.z))
    unfold Row.cells at this ⊢
    rwa [flat_take rowE.f l (fun x _ => rowE.hz x)] at this
  have rd : ∀ {w' : World}, Mod [] w w' → Rd w' (cutA ao co k 1) (rowE.cells (l.drop k)) := fun m => by
    have := (hr.mod m (by simp)).cut (c := co) (l := k) (z := 1) (by rw [rowE.len]; subst hn; exact Nat.mul_le_mul_right _ hc)
    unfold Row.cells at this ⊢
    rwa [flat_drop rowE.f l (fun x _ => rowE.hz x)] at this
  have ltk : k = (l.take k).length := by rw [List.length_take]; omega
  have ldk : n - k = (l.drop k).length := by rw [List.length_drop]; omega
  have cc : ∀ {w' : World}, Mod [] w w' → Blk w' r 31 [.slice ao n co, x1, x2] := fun m => hb.mod m (by simp)
  have fin : ∀ (a' : Option Addr) (n' c' : Nat) (w1 : World), Gr rowE w w1 a' n' c' ([] ++ l.take k ++ [x] ++ l.drop k) → Put w1 (base r) (.slice a' n' c') (fun w' => F20_j1 (base r) (k : Int) (base qc) w' K) := by
    intro a' n' c' w1 G
    have b1 := cc G.m
    have lt := hb.lt
    refine Put.use0 b1 (by simp) fun w2 h2 m2 => ?_
    have hlen := G.len
    refine hK w2 a' n' c' (by simpa using h2) (by rw [hlen]; simp; omega) G.o.le (G.o.mod m2 (fun y hy hy' => by have := G.s y hy; simp at hy'; omega)).rd G.s (fun y hy => by have := G.o.lt y hy; have := m2.size; omega) ((G.m.weaken (by simp)).trans m2 (fun y hy => .inl hy))
  have two : ∀ (w1 : World) (a1 : Option Addr) (n1 c1 q : Nat), Gr rowE w w1 a1 n1 c1 ([] ++ l.take k) → Blk w1 q 3 (rowE.f x) → ∃ a2 n2 c2 w2, (Builtin.append_ #[27, 27] 27 #[.slice a1 n1 c1, .slice (some (base q)) 1 1]).run Try.prog w1 = .ok (.slice a2 n2 c2) w2 ∧ Mod [] w w2 ∧ ∃ a3 n3 c3 w3, (Builtin.append_ #[27, 27] 27 #[.slice a2 n2 c2, .slice (cutA ao co k 1) (n - k) (co - k)]).run Try.prog w2 = .ok (.slice a3 n3 c3) w3 ∧ Put w3 (base r) (.slice a3 n3 c3) (fun w' => F20_j1 (base r) (k : Int) (base qc) w' K) := by
    intro w1 a1 n1 c1 q G1 hq
    have e1 := G1.len
    rw [List.nil_append, ← ltk] at e1
    obtain ⟨a2, n2, c2, w2, run2, G2, m2⟩ := G1.app (m := [x]) (k := 1) (d := 1) rfl (by simpa [Row.cells] using Rd.blk hq) (by omega)
    have e2 := G2.len
    rw [List.nil_append, List.length_append, ← ltk] at e2
    obtain ⟨a3, n3, c3, w3, run3, G3, m3⟩ := G2.app (d := co - k) ldk (rd G2.m) (by simp at e2; omega)
    exact ⟨a2, n2, c2, w2, run2, G2.m, a3, n3, c3, w3, run3, fin a3 n3 c3 w3 G3⟩
  have one : ∀ (w1 : World) (q : Nat), Mod [] w w1 → Blk w1 q 3 [] → w.heap.size ≤ q → ∃ a1 n1 c1 w2, (Builtin.append_ #[27, 27] 27 #[.slice (some (base q)) 0 0, .slice ao k co]).run Try.prog w1 = .ok (.slice a1 n1 c1) w2 ∧ Gr rowE w w2 a1 n1 c1 ([] ++ l.take k) ∧ Mod [q] w1 w2 := by
    intro w1 q m1 hq h0
    obtain ⟨a1, n1, c1, w2, run1, G1, m2⟩ := (Gr.start (R := rowE) hq m1 h0).app (d := co) ltk (rt m1) (by omega)
    exact ⟨a1, n1, c1, w2, run1, G1, m2⟩
  refine ⟨New.use fun w1 h1 m1 z1 => ?_, New.use fun w1 h1 m1 z1 => ?_⟩
  · have M1 := m0.none m1
    have s1 := M1.size
    refine ⟨(cc M1).cell0, (cc M1).cell0, ?_, ?_⟩
    · obtain ⟨a1, n1, c1, w2, run1, G1, m2⟩ := one w1 _ M1 h1 (Nat.le_refl _)
      refine ⟨a1, n1, c1, w2, run1, (cc G1.m).cell0, New.use fun w3 h3 m3 z3 => ?_⟩
      obtain ⟨a2, n2, c2, w4, run2, M4, a3, n3, c3, w5, run3, f⟩ := two w3 a1 n1 c1 _ (G1.mod m3) h3
      exact ⟨(cc (G1.m.none m3)).cell0, (cc (G1.m.none m3)).cell0, a2, n2, c2, w4, run2, (cc M4).cell0, a3, n3, c3, w5, run3, f⟩
    · refine New.use fun w3 h3 m3 z3 => ?_
      have M3 := M1.none m3
      obtain ⟨a1, n1, c1, w2, run1, G1, m2⟩ := one w3 _ M3 (h1.mod m3 (by simp)) (Nat.le_refl _)
      have lt1 := h1.lt
      have h3' := h3.mod m2 (fun hy => by simp only [List.mem_singleton] at hy; omega)
      obtain ⟨a2, n2, c2, w4, run2, M4, a3, n3, c3, w5, run3, f⟩ := two w2 a1 n1 c1 _ G1 h3'
      exact ⟨(cc M3).cell0, (cc M3).cell0, a1, n1, c1, w2, run1, (cc G1.m).cell0, a2, n2, c2, w4, run2, (cc M4).cell0, a3, n3, c3, w5, run3, f⟩
  · have M1 := m0.none m1
    refine ⟨(cc M1).cell0, (cc M1).cell0, New.use fun w3 h3 m3 z3 => ?_⟩
    have M3 := M1.none m3
    have lt1 := h1.lt
    obtain ⟨a1, n1, c1, w2, run1, G1, m2⟩ := one w3 _ M3 h3 (by have := M1.size; omega)
    have h1' := (h1.mod m3 (by simp)).mod m2 (fun hy => by simp only [List.mem_singleton] at hy; omega)
    obtain ⟨a2, n2, c2, w4, run2, M4, a3, n3, c3, w5, run3, f⟩ := two w2 a1 n1 c1 _ G1 h1'
    exact ⟨(cc M3).cell0, (cc M3).cell0, a1, n1, c1, w2, run1, (cc G1.m).cell0, a2, n2, c2, w4, run2, (cc M4).cell0, a3, n3, c3, w5, run3, f⟩

end Go.Proofs.Ytkeaamfpcapioaa
