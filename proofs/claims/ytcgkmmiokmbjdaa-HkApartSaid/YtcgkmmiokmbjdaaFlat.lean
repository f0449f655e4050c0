/-
  A cell of a row of structs, changed.
-/
import Derived.Test.YtcgkmmiokmbjdaaHeap
namespace Go.Proofs.Ytcgkmmiokmbjdaa
open Go Go.Sh Go.Proofs
theorem flat_set1 {α : Type} (f : α → List Value) {z : Nat} (L : List α) (hz : ∀ x ∈ L, (f x).length = z) {k j : Nat} (h : k < L.length) {y : α} {v : Value} (hy : f y = (f L[k]).set j v) (hj : j < z) : (L.set k y).flatMap f = (L.flatMap f).set (k * z + j) v := by
  have e3 : L.flatMap f = (L.take k).flatMap f ++ (f L[k] ++ (L.drop (k + 1)).flatMap f) := by
    conv => lhs; rw [← List.take_append_drop k L, List.drop_eq_getElem_cons h]
    rw [List.flatMap_append, List.flatMap_cons]
  have e4 : ((L.take k).flatMap f).length = k * z := by
    rw [flat_len f (z := z) (L.take k) (fun x hx => hz x (List.mem_of_mem_take hx)), List.length_take]
    congr 1
    omega
  have e5 := hz L[k] (List.getElem_mem h)
  have e6 : L.set k y = L.take k ++ y :: L.drop (k + 1) := List.set_eq_take_append_cons_drop .. |>.trans (by rw [if_pos h])
  rw [e6, e3, List.flatMap_append, List.flatMap_cons, List.set_append_right _ _ (by omega), e4, show k * z + j - k * z = j by omega, List.set_append_left _ _ (by omega), hy]
end Go.Proofs.Ytcgkmmiokmbjdaa
