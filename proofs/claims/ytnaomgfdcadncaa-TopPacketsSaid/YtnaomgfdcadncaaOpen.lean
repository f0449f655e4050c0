import Derived.Test.YtnaomgfdcadncaaHeap
import Derived.WalkKit
import Derived.ProofKit
import Derived.OpenShut
import Derived.Deep.Slices
/-
  From an argument's reading to what the walks ask: numbers in range, slices of bytes and of numbers as lists.
-/
namespace Go.Sh
open Go Go.ChangeShapes Go.WideShapes Go.ChangeAt Go.RowKit
set_option linter.unusedVariables false

theorem nat_of_wf {k : IntKind} {n : Int} (hk : k.signed = false) (h : (Lit.int k n).wf = true) : ∃ m : Nat, n = (m : Int) ∧ m < 2 ^ k.bits := by
  simp only [Lit.wf, Bool.and_eq_true, decide_eq_true_eq, IntKind.min, IntKind.max, hk, Bool.false_eq_true, if_false] at h
  refine ⟨n.toNat, by omega, ?_⟩
  have : ((2 ^ k.bits : Nat) : Int) = 2 ^ k.bits := by norm_cast
  omega
theorem i64_of_wf {n : Int} (h : (Lit.int .i64 n).wf = true) : -9223372036854775808 ≤ n ∧ n ≤ 9223372036854775807 := by
  simp [Lit.wf, IntKind.min, IntKind.max, IntKind.signed, IntKind.bits] at h
  exact h

section
variable {P : Program} {W : World} {H : Type} {enc : TypeId × Value → H} {a : Option Addr} {len cap : Nat} {d : DataW H} {p : List MemPlace}

/-- A slice of integers that came in, as a list. -/
theorem open_slice_ints {t e : TypeId} {k : IntKind} (ht : P.underlying t = some (.slice e)) (he : P.underlying e = some (.int k)) (hc : P.cellsOf e = 1)
    (h : DataW.Trod enc P W 0 (fun _ => true) true t (.slice a len cap) d p) : ∃ zs : List Int, zs.length = len ∧ Rd W a (zs.map (Value.int k)) ∧ len ≤ cap ∧ cap ≤ maxLen ∧ ∀ n ∈ zs, (Lit.int k n).wf = true := by
  obtain ⟨fuel, hf⟩ := h
  rcases open_ints ht he hc hf with ⟨hcs, _⟩ | ⟨x, l, c, zs, hcs, _, hl, hm, hz, _, hcell, hwz⟩
  · simp [Value.cells] at hcs
    obtain ⟨rfl, rfl, rfl⟩ := hcs
    exact ⟨[], rfl, .inl rfl, Nat.le_refl _, by simp, by simp⟩
  · simp [Value.cells] at hcs
    obtain ⟨rfl, rfl, rfl⟩ := hcs
    simp only [if_true] at hz
    refine ⟨zs.take len, by simp; omega, .inr ⟨x, rfl, fun i v hv => ?_⟩, hl, hm, fun n hn => hwz n (List.mem_of_mem_take hn)⟩
    rw [List.getElem?_map, List.getElem?_take] at hv
    split at hv
    · rename_i hi
      have hi' : i < zs.length := by omega
      rw [hcell i hi', ← hv]
      simp [List.getD, List.getElem?_eq_getElem hi']
    · cases hv

/-- A slice of bytes that came in. -/
theorem open_bytes {t e : TypeId} (ht : P.underlying t = some (.slice e)) (he : P.underlying e = some (.int .u8)) (hc : P.cellsOf e = 1)
    (h : DataW.Trod enc P W 0 (fun _ => true) true t (.slice a len cap) d p) : ∃ l : List UInt8, len = l.length ∧ Rd W a (l.map bv) ∧ len ≤ cap ∧ cap ≤ maxLen := by
  obtain ⟨zs, hl, hr, h1, h2, hw⟩ := open_slice_ints ht he hc h
  refine ⟨zs.map fun z => UInt8.ofNat z.toNat, by simp [hl], ?_, h1, h2⟩
  have : (zs.map fun z => UInt8.ofNat z.toNat).map bv = zs.map (Value.int .u8) := by
    rw [List.map_map]
    apply List.map_congr_left
    intro z hz
    obtain ⟨m, rfl, hm⟩ := nat_of_wf (k := .u8) rfl (hw z hz)
    have : m < 256 := hm
    simp [bv, Nat.mod_eq_of_lt this]
  rw [this]
  exact hr
end

/-! ### Slices of structs -/
section
variable {P : Program} {W : World} {H : Type} {enc : TypeId × Value → H} {a : Option Addr} {len cap : Nat} {d : DataW H} {p : List MemPlace}
/-- A slice of structs that came in, as a list: 'hel' opens one element. -/
theorem open_slice_of {α : Type} (f : α → List Value) (Q : α → Prop) {z : Nat} {t e : TypeId} (ht : P.underlying t = some (.slice e)) (hc : P.cellsOf e = z)
    (hel : ∀ (n : Nat) (cs : List Value) x, cs.length = z → DataW.trod enc P W 0 (fun _ => true) true n e cs = some x → ∃ y, cs = f y ∧ Q y)
    (h : DataW.Trod enc P W 0 (fun _ => true) true t (.slice a len cap) d p) : ∃ L : List α, len = L.length ∧ Rd W a (L.flatMap f) ∧ len ≤ cap ∧ cap ≤ maxLen ∧ ∀ y ∈ L, Q y ∧ (f y).length = z := by
  obtain ⟨fuel, hf⟩ := h
  rcases Go.Deep.open_slice ht hf with ⟨hcs, _⟩ | ⟨b, l, c, m, n, D, Pl, hcs, _, hl, hm, hmm, _, hx⟩
  · simp [Value.cells] at hcs
    obtain ⟨rfl, rfl, rfl⟩ := hcs
    exact ⟨[], rfl, .inl rfl, Nat.le_refl _, by simp, by simp⟩
  · simp [Value.cells] at hcs
    obtain ⟨rfl, rfl, rfl⟩ := hcs
    have hlm : len ≤ m := by rw [hmm]; split <;> omega
    rw [hc] at hx
    have each : ∀ i, i < len → ∃ y, (Q y ∧ (f y).length = z) ∧ ∀ j v, (f y)[j]? = some v → W.cell? ((b.add (i * z)).add j) = some v := by
      intro i hi
      obtain ⟨cs', h1, h2⟩ := hx i (by omega)
      obtain ⟨_, hlen, hcell⟩ := World.cells?_some h1
      obtain ⟨y, rfl, hq⟩ := hel _ _ _ hlen h2
      refine ⟨y, ⟨hq, hlen⟩, fun j v hv => ?_⟩
      have hj := (List.getElem?_eq_some_iff.1 hv).1
      rw [hcell j (by omega)]
      exact hv
    have build : ∀ k, k ≤ len → ∃ L : List α, L.length = k ∧ (∀ y ∈ L, Q y ∧ (f y).length = z) ∧ ∀ i y, L[i]? = some y → ∀ j v, (f y)[j]? = some v → W.cell? ((b.add (i * z)).add j) = some v := by
      intro k
      induction k with
      | zero => intro _; exact ⟨[], rfl, by simp, by simp⟩
      | succ k ih =>
        intro hk
        obtain ⟨L, h1, h2, h3⟩ := ih (by omega)
        obtain ⟨y, hq, hy⟩ := each k (by omega)
        refine ⟨L ++ [y], by simp [h1], fun x hx => ?_, fun i x hx => ?_⟩
        · rcases List.mem_append.1 hx with hx | hx
          · exact h2 x hx
          · simp at hx; subst hx; exact hq
        · by_cases hik : i < L.length
          · rw [List.getElem?_append_left hik] at hx; exact h3 i x hx
          · rw [List.getElem?_append_right (by omega)] at hx
            have : i = k := by
              have := (List.getElem?_eq_some_iff.1 hx).1
              simp at this; omega
            subst this
            rw [h1, Nat.sub_self] at hx
            simp at hx; subst hx
            exact hy
    obtain ⟨L, h1, h2, h3⟩ := build len (Nat.le_refl _)
    refine ⟨L, h1.symm, .inr ⟨b, rfl, fun i v hv => ?_⟩, hl, hm, h2⟩
    have hlen := flat_len f L (fun y hy => (h2 y hy).2)
    have hi := (List.getElem?_eq_some_iff.1 hv).1
    rw [hlen] at hi
    have hz : 0 < z := by
      rcases Nat.eq_zero_or_pos z with h | h
      · subst h; simp at hi
      · exact h
    have hdiv : i / z * z + i % z = i := by rw [Nat.mul_comm]; exact Nat.div_add_mod i z
    have hmod := Nat.mod_lt i hz
    rw [← hdiv, flat_get f L (fun y hy => (h2 y hy).2) _ _ hmod] at hv
    obtain ⟨y, hy, hv⟩ := Option.bind_eq_some_iff.1 hv
    have := h3 _ y hy _ v hv
    rwa [add_add, hdiv] at this
theorem open_bytes1 {t e : TypeId} {n : Nat} {cs : List Value} {x : DataW H × List MemPlace} (ht : P.underlying t = some (.slice e)) (he : P.underlying e = some (.int .u8)) (hc : P.cellsOf e = 1)
    (h : DataW.trod enc P W 0 (fun _ => true) true n t cs = some x) : ∃ (a : Option Addr) (l : List UInt8) (cap : Nat), cs = [.slice a l.length cap] ∧ Rd W a (l.map bv) ∧ l.length ≤ cap ∧ cap ≤ maxLen := by
  have : ∃ a len cap, cs = [.slice a len cap] := by
    rcases Go.Deep.open_slice ht h with ⟨hcs, _⟩ | ⟨b, l, c, m, n, D, Pl, hcs, _⟩
    · exact ⟨_, _, _, hcs⟩
    · exact ⟨_, _, _, hcs⟩
  obtain ⟨a, len, cap, rfl⟩ := this
  obtain ⟨l, rfl, h1, h2, h3⟩ := open_bytes ht he hc (d := x.1) (p := x.2) ⟨n, h⟩
  exact ⟨a, l, cap, rfl, h1, h2, h3⟩
/-- A slice of integers in a field. -/
theorem open_ints1 {t e : TypeId} {k : IntKind} {n : Nat} {cs : List Value} {x : DataW H × List MemPlace} (ht : P.underlying t = some (.slice e)) (he : P.underlying e = some (.int k)) (hc : P.cellsOf e = 1)
    (h : DataW.trod enc P W 0 (fun _ => true) true n t cs = some x) : ∃ (a : Option Addr) (zs : List Int) (cap : Nat), cs = [.slice a zs.length cap] ∧ Rd W a (zs.map (Value.int k)) ∧ zs.length ≤ cap ∧ cap ≤ maxLen ∧ ∀ n ∈ zs, (Lit.int k n).wf = true := by
  have : ∃ a len cap, cs = [.slice a len cap] := by
    rcases Go.Deep.open_slice ht h with ⟨hcs, _⟩ | ⟨b, l, c, m, n, D, Pl, hcs, _⟩
    · exact ⟨_, _, _, hcs⟩
    · exact ⟨_, _, _, hcs⟩
  obtain ⟨a, len, cap, rfl⟩ := this
  obtain ⟨zs, rfl, h1, h2, h3, h4⟩ := open_slice_ints ht he hc (d := x.1) (p := x.2) ⟨n, h⟩
  exact ⟨a, zs, cap, rfl, h1, h2, h3, h4⟩
/-- A slice of structs in a field. -/
theorem open_slice_of1 {α : Type} (f : α → List Value) (Q : α → Prop) {z : Nat} {t e : TypeId} {n : Nat} {cs : List Value} {x : DataW H × List MemPlace} (ht : P.underlying t = some (.slice e)) (hc : P.cellsOf e = z)
    (hel : ∀ (n : Nat) (cs : List Value) (x : DataW H × List MemPlace), cs.length = z → DataW.trod enc P W 0 (fun _ => true) true n e cs = some x → ∃ y, cs = f y ∧ Q y)
    (h : DataW.trod enc P W 0 (fun _ => true) true n t cs = some x) : ∃ (a : Option Addr) (l : List α) (cap : Nat), cs = [.slice a l.length cap] ∧ Rd W a (l.flatMap f) ∧ l.length ≤ cap ∧ cap ≤ maxLen ∧ ∀ y ∈ l, Q y := by
  have : ∃ a len cap, cs = [.slice a len cap] := by
    rcases Go.Deep.open_slice ht h with ⟨hcs, _⟩ | ⟨b, l, c, m, n, D, Pl, hcs, _⟩
    · exact ⟨_, _, _, hcs⟩
    · exact ⟨_, _, _, hcs⟩
  obtain ⟨a, len, cap, rfl⟩ := this
  obtain ⟨l, rfl, h1, h2, h3, h4⟩ := open_slice_of f Q ht hc hel (d := x.1) (p := x.2) ⟨n, h⟩
  exact ⟨a, l, cap, rfl, h1, h2, h3, fun y hy => (h4 y hy).1⟩
end

/-! ### Arrays -/
theorem okWide_array {P : Program} {w : World} {r : Reach} {b0 n : Nat} {t e : TypeId} {v : Value} (ht : P.underlying t = some (.array n e)) (h : Value.okWide P w r b0 t v) : ∃ cs, v = .agg cs ∧ cs.size = P.cellsOf t := by
  simp only [Value.okWide, ht] at h
  obtain ⟨cs, h1, h2, _⟩ := h
  exact ⟨cs, h1, h2⟩
theorem open_arr2 {P : Program} {W : World} {H : Type} {enc : TypeId × Value → H} {r : Reach} {b0 : Nat} {t e : TypeId} {k : IntKind} {v : Value} {d : DataW H} {p : List MemPlace} (ht : P.underlying t = some (.array 2 e)) (he : P.underlying e = some (.int k))
    (ct : P.cellsOf t = 2) (ce : P.cellsOf e = 1) (hval : Value.okWide P W r b0 t v) (h : DataW.Trod enc P W 0 (fun _ => true) true t v d p) : ∃ x y, v = .agg #[.int k x, .int k y] ∧ (Lit.int k x).wf = true ∧ (Lit.int k y).wf = true := by
  obtain ⟨cs, rfl, hs⟩ := okWide_array ht hval
  obtain ⟨fuel, hf⟩ := h
  obtain ⟨xs, m, _, _, _, hxl, hg⟩ := DataW.trod_array ht hf
  rw [ct] at hs
  obtain ⟨cs⟩ := cs
  simp [Value.cells] at hs hg
  match xs, hxl, cs, hs with
  | [y0, y1], _, [v0, v1], _ =>
    have g0 := hg 0 (by decide)
    have g1 := hg 1 (by decide)
    simp [ce] at g0 g1
    obtain ⟨z0, e0, _, w0⟩ := DataW.trod_int he g0
    obtain ⟨z1, e1, _, w1⟩ := DataW.trod_int he g1
    simp at e0 e1
    exact ⟨z0, z1, by rw [e0, e1], w0, w1⟩
theorem open_arr3 {P : Program} {W : World} {H : Type} {enc : TypeId × Value → H} {r : Reach} {b0 : Nat} {t e : TypeId} {k : IntKind} {v : Value} {d : DataW H} {p : List MemPlace} (ht : P.underlying t = some (.array 3 e)) (he : P.underlying e = some (.int k))
    (ct : P.cellsOf t = 3) (ce : P.cellsOf e = 1) (hval : Value.okWide P W r b0 t v) (h : DataW.Trod enc P W 0 (fun _ => true) true t v d p) : ∃ x y z, v = .agg #[.int k x, .int k y, .int k z] ∧ (Lit.int k x).wf = true ∧ (Lit.int k y).wf = true ∧ (Lit.int k z).wf = true := by
  obtain ⟨cs, rfl, hs⟩ := okWide_array ht hval
  obtain ⟨fuel, hf⟩ := h
  obtain ⟨xs, m, _, _, _, hxl, hg⟩ := DataW.trod_array ht hf
  rw [ct] at hs
  obtain ⟨cs⟩ := cs
  simp [Value.cells] at hs hg
  match xs, hxl, cs, hs with
  | [y0, y1, y2], _, [v0, v1, v2], _ =>
    have g0 := hg 0 (by decide)
    have g1 := hg 1 (by decide)
    have g2 := hg 2 (by decide)
    simp [ce] at g0 g1 g2
    obtain ⟨z0, e0, _, w0⟩ := DataW.trod_int he g0
    obtain ⟨z1, e1, _, w1⟩ := DataW.trod_int he g1
    obtain ⟨z2, e2, _, w2⟩ := DataW.trod_int he g2
    simp at e0 e1 e2
    exact ⟨z0, z1, z2, by rw [e0, e1, e2], w0, w1, w2⟩
end Go.Sh
