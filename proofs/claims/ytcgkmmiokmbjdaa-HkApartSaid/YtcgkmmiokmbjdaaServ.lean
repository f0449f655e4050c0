/-
  The contracts of chapter 34: structures; the service: New, find, Define, Delete.
-/
import Derived.Test.YtcgkmmiokmbjdaaInsertE
import Derived.Test.YtcgkmmiokmbjdaaDeleteE
import Derived.Test.YtcgkmmiokmbjdaaCloneE
import Derived.Test.YtcgkmmiokmbjdaaCloneI
import Derived.Test.YtcgkmmiokmbjdaaFidx
import Derived.Test.YtcgkmmiokmbjdaaBsearch
import Derived.Test.YtcgkmmiokmbjdaaFlat
namespace Go.Proofs.Ytcgkmmiokmbjdaa
open Go Go.Sh Go.Proofs
set_option linter.unusedVariables false
set_option linter.unusedSimpArgs false
set_option linter.unusedSectionVars false

def iv (n : Int) : Value := .int .i64 n
theorem iv_one (l : List Int) : ∀ u ∈ l.map iv, one u = true := by
  intro u hu
  obtain ⟨b, _, rfl⟩ := List.mem_map.1 hu
  rfl
theorem fpv_sub {a : Option Addr} {vs : List Value} : ∀ x ∈ fpv a vs, x ∈ fp a := by
  cases vs with
  | nil => intro x hx; cases hx
  | cons v vs => intro x hx; exact hx
theorem elem3 : Elem Try.prog 3 1 8 := Elem.of (v := .int .i64 0) (by kernel_rfl) rfl (by decide)
theorem elem31 : Elem Try.prog 31 4 48 := Elem.of (v := .agg #[.int .i64 0, .int .i64 0, .bool false, .slice none 0 0]) (by kernel_rfl) rfl (by decide)
theorem elem40 : Elem Try.prog 40 3 40 := Elem.of (v := .agg #[.int .i64 0, .int .i64 0, .slice none 0 0]) (by kernel_rfl) rfl (by decide)
def wr (n : Int) : Int := IntKind.i64.wrap n

/-- A structure with the time of its next report, and the place of its parameters. -/
structure En where
  id : Int
  iv : Int
  on : Bool
  a : Option Addr
  l : List Int
  c : Nat
  nx : Int
/-- What it says. -/
structure Sa where
  id : Int
  iv : Int
  on : Bool
  l : List Int
  nx : Int
deriving DecidableEq
def En.say (e : En) : Sa := ⟨e.id, e.iv, e.on, e.l, e.nx⟩
def evv (e : En) : List Value := [.int .i64 e.id, .int .i64 e.iv, .bool e.on, .slice e.a e.l.length e.c, .int .i64 e.nx]
def svv (e : En) : List Value := [.int .i64 e.id, .int .i64 e.iv, .bool e.on, .slice e.a e.l.length e.c]
theorem evv_len (L : List En) : ∀ x ∈ L, (evv x).length = 5 := fun _ _ => rfl
theorem evv_one (L : List En) : ∀ u ∈ L.flatMap evv, one u = true := flat_one evv L (by intro x u hu; simp [evv] at hu; rcases hu with rfl | rfl | rfl | rfl | rfl <;> rfl)
theorem evv_flen (L : List En) : (L.flatMap evv).length = L.length * 5 := flat_len evv L (evv_len L)
theorem svv_len (L : List En) : ∀ x ∈ L, (svv x).length = 4 := fun _ _ => rfl
theorem svv_one (L : List En) : ∀ u ∈ L.flatMap svv, one u = true := flat_one svv L (by intro x u hu; simp [svv] at hu; rcases hu with rfl | rfl | rfl | rfl <;> rfl)
theorem svv_flen (L : List En) : (L.flatMap svv).length = L.length * 4 := flat_len svv L (svv_len L)
def En.rd (e : En) (w : World) : Prop := Rd w e.a (e.l.map Go.Proofs.Ytcgkmmiokmbjdaa.iv)
def En.fp (e : En) : List Nat := fpv e.a (e.l.map Go.Proofs.Ytcgkmmiokmbjdaa.iv)
theorem En.rd.mod {e : En} {w w' : World} {S : List Nat} (h : e.rd w) (m : Mod S w w') (hd : ∀ y ∈ e.fp, y ∉ S) : e.rd w' := Rd.modv h m hd
theorem En.rd.lt {e : En} {w : World} (h : e.rd w) : ∀ y ∈ e.fp, y < w.heap.size := Rd.lt h

/-! ### Plain -/
def says (l : List En) : List Sa := l.map En.say
def geI (id : Int) (e : Sa) : Bool := decide (id ≤ e.id)
def kx (id : Int) (L : List Sa) : Nat := fidx (geI id) L
def isI (id : Int) (L : List Sa) : Bool := decide (∃ h : kx id L < L.length, L[kx id L].id = id)
def badA (id ivl : Int) (p : List Int) : Prop := id < 0 ∨ 65535 < id ∨ ivl < 1 ∨ 1048576 < ivl ∨ p.length < 1 ∨ 256 < p.length ∨ ∃ x ∈ p, x < 0 ∨ 65535 < x
instance (id ivl : Int) (p : List Int) : Decidable (badA id ivl p) := by unfold badA; infer_instance
def defE (L : List Sa) (id ivl : Int) (p : List Int) : Int := if badA id ivl p then 1 else if isI id L = true then 9 else if 256 ≤ L.length then 7 else 0
def defL (L : List Sa) (id ivl : Int) (p : List Int) : List Sa := if defE L id ivl p = 0 then L.take (kx id L) ++ [⟨id, ivl, false, p, 0⟩] ++ L.drop (kx id L) else L
def onAt (L : List Sa) (k : Nat) : Bool := match L[k]? with | some e => e.on | none => false
def delE (L : List Sa) (id : Int) : Int := if isI id L = true then (if onAt L (kx id L) = true then 12 else 0) else 8
def delL (L : List Sa) (id : Int) : List Sa := if delE L id = 0 then L.take (kx id L) ++ L.drop (kx id L + 1) else L
def enE (L : List Sa) (id : Int) : Int := if isI id L = true then 0 else 8
def enS (on : Bool) (now : Int) (e : Sa) : Sa := ⟨e.id, e.iv, on, e.l, if on = true ∧ e.on = false then wr (now + e.iv) else e.nx⟩
def enL (L : List Sa) (id : Int) (on : Bool) (now : Int) : List Sa := if isI id L = true then L.modify (kx id L) (enS on now) else L
def passT (now n : Int) : Int := if now < n ∧ n ≤ 1099511627776 then n else now
def isDue (now : Int) (e : Sa) : Bool := e.on && decide (e.nx ≤ now)
def duS (now : Int) (e : Sa) : Sa := if isDue now e = true then ⟨e.id, e.iv, e.on, e.l, wr (now + e.iv)⟩ else e
def dueL (L : List Sa) (now : Int) : List Sa := L.map (duS now)
def dueO (L : List Sa) (now : Int) : List Sa := L.filter (isDue now)
theorem kx_le (id : Int) (L : List Sa) : kx id L ≤ L.length := fidx_le _ _
theorem isI_lt {id : Int} {L : List Sa} (h : isI id L = true) : ∃ h : kx id L < L.length, L[kx id L].id = id := by unfold isI at h; exact of_decide_eq_true h
theorem onAt_at {L : List Sa} {k : Nat} (h : k < L.length) : onAt L k = L[k].on := by unfold onAt; rw [List.getElem?_eq_getElem h]
theorem says_len (l : List En) : (says l).length = l.length := by simp [says]
theorem says_at (l : List En) {k : Nat} (h : k < l.length) (h' : k < (says l).length) : (says l)[k] = l[k].say := by simp [says]
/-- Sorted, few, numbers in range. -/
structure Gd (L : List Sa) : Prop where
  srt : L.Pairwise fun a b => a.id < b.id
  len : L.length ≤ 256
  rng : ∀ e ∈ L, 0 ≤ e.id ∧ e.id ≤ 65535 ∧ 1 ≤ e.iv ∧ e.iv ≤ 1048576 ∧ e.l.length ≤ 256

/-- The service in block g. -/
def Sv (w : World) (g : Nat) (S : List Nat) (now : Int) (l : List En) : Prop := ∃ a c, S = g :: fp a ∧ Blk w g 47 [.bool true, .int .i64 now, .slice a l.length c] ∧ Win w 66 5 a l.length c (l.flatMap evv)
theorem Sv.mod {w w' : World} {g : Nat} {S T : List Nat} {now : Int} {l : List En} (h : Sv w g S now l) (hm : Mod T w w') (hd : ∀ x ∈ S, x ∉ T) : Sv w' g S now l := by
  obtain ⟨a, c, rfl, hb, ho⟩ := h
  exact ⟨a, c, rfl, hb.mod hm (hd g (by simp)), ho.mod hm (fun x hx => hd x (by simp [hx]))⟩
theorem Sv.lt {w : World} {g : Nat} {S : List Nat} {now : Int} {l : List En} (h : Sv w g S now l) : ∀ x ∈ S, x < w.heap.size := by
  obtain ⟨a, c, rfl, hb, ho⟩ := h
  intro x hx
  rcases List.mem_cons.1 hx with rfl | hx
  · exact hb.lt
  · exact ho.lt x hx
theorem snew_ok (w : World) : Does Try.prog 8 #[] w fun v w' => v = .pointer (some (base w.heap.size)) ∧ Sv w' w.heap.size [w.heap.size] 0 [] ∧ Mod [] w w' := by
  apply w8
  unfold F8
  exact New.use fun w1 h1 m1 z1 => ⟨rfl, ⟨none, 0, rfl, h1, Win.nil⟩, m1⟩
theorem num_ok (n : Int) (w : World) : Does Try.prog 21 #[.int .i64 n] w fun v w' => v = .bool (decide (0 ≤ n ∧ n ≤ 65535)) ∧ w = w' := by
  apply w21
  unfold F21
  refine iteI (fun h => ⟨?_, rfl⟩) (fun h => ⟨?_, rfl⟩)
  · congr 1
    rw [decide_eq_decide]
    omega
  · rw [decide_eq_false (by omega)]

theorem halfA {i j : Nat} (h : i + j < 2 ^ 62) : IntKind.i64.wrap (shr .u64 (IntKind.u64.wrap (IntKind.i64.wrap ((i : Int) + (j : Int)))) 1) = (((i + j) / 2 : Nat) : Int) := by
  have e1 : IntKind.i64.wrap ((i : Int) + (j : Int)) = ((i + j : Nat) : Int) := by rw [wi64 (by omega)]; omega
  rw [e1, wrapU_lt rfl (by show _ < 2 ^ 64; omega), show (1 : Int) = ((1 : Nat) : Int) from rfl, shrN .u64 _ 1 (by decide), Nat.shiftRight_eq_div_pow, wi64 (by omega)]
theorem isI_neg {id : Int} {L : List Sa} (h : Gd L) (hid : id < 0) : isI id L = false := by
  unfold isI
  refine decide_eq_false ?_
  rintro ⟨h1, h2⟩
  have := (h.rng _ (List.getElem_mem h1)).1
  omega
theorem rd0 {w : World} {p : Addr} {e : En} {i : Nat} (hc : ∀ j v, (evv e)[j]? = some v → w.cell? ((p.add (i * 5)).add j) = some v) : w.cell? (p.add (i * 5)) = some (.int .i64 e.id) := by
  have := hc 0 _ rfl; rw [add_zero] at this; exact this
section
variable {w : World} {g : Nat} {S : List Nat} {now : Int} {l : List En} (h : Sv w g S now l)
include h
theorem sok_ok : Does Try.prog 20 #[.pointer (some (base g))] w fun v w' => v = .bool true ∧ w = w' := by
  obtain ⟨a, c, rfl, hb, ho⟩ := h
  apply w20
  unfold F20
  rw [if_pos (by simp)]
  exact ⟨_, rfl, _, hb.cell0, rfl, rfl⟩
theorem sfind_ok (hs : Gd (says l)) (id : Int) (hid : -9223372036854775808 ≤ id ∧ id ≤ 9223372036854775807) : Does Try.prog 22 #[.pointer (some (base g)), .int .i64 id] w fun v w' => (∃ k : Nat, v = .tuple #[.int .i64 (k : Int), .bool (isI id (says l))] ∧ (0 ≤ id → k = kx id (says l))) ∧ Mod [] w w' := by
  obtain ⟨a, c, rfl, hb, ho⟩ := h
  have hl := hs.len
  rw [says_len] at hl
  have hrng : ∀ (i : Nat) (hi : i < l.length), 0 ≤ l[i].id ∧ l[i].id ≤ 65535 := fun i hi => by
    have := hs.rng l[i].say (List.mem_map.2 ⟨l[i], List.getElem_mem hi, rfl⟩)
    exact ⟨this.1, this.2.1⟩
  apply w22
  unfold F22
  refine ⟨_, rfl, _, _, _, hb.cell (i := 2) rfl, ?_⟩
  have cmp : ∀ (e : En) (w : World), Does Try.prog 38 #[.agg #[.int .i64 e.id, .int .i64 e.iv, .bool e.on, .slice e.a e.l.length e.c, .int .i64 e.nx], .int .i64 id] w fun v w' => v = .int .i64 (IntKind.i64.wrap (e.id - id)) ∧ Mod [] w w' := by
    intro e w
    apply w38
    unfold F38
    exact New.use fun w1 h1 m1 z1 => ⟨_, h1.cell0, rfl, m1⟩
  have hmono : ∀ (i j : Nat) (hi : i < l.length) (hj : j < l.length), i < j → l[i].id < l[j].id := fun i j hi hj hij => by
    have := List.pairwise_iff_getElem.1 hs.srt i j (by rw [says_len]; exact hi) (by rw [says_len]; exact hj) hij
    rw [says_at l hi, says_at l hj] at this
    exact this
  have q : Does Try.prog 37 #[.slice a l.length c, .int .i64 id, .func (.func 38) #[] #[]] w fun v w' => (∃ k : Nat, v = .tuple #[.int .i64 (k : Int), .bool (isI id (says l))] ∧ (0 ≤ id → k = kx id (says l))) ∧ Mod [] w w' := by
    apply w37c38
    unfold F37c38
    refine LoopP.of (fun (x : Int × Int) w' => ∃ i j : Nat, i ≤ j ∧ j ≤ l.length ∧ x = ((i : Int), (j : Int)) ∧ Mod [] w w' ∧ (0 ≤ id → (∀ k (hk : k < i) (hkl : k < l.length), l[k].id < id) ∧ (∀ k (hk : j ≤ k) (hkl : k < l.length), id ≤ l[k].id))) (fun x _ => (x.2 - x.1).toNat) ⟨0, l.length, by omega, by omega, rfl, Mod.refl _, fun _ => ⟨by omega, fun k hk hkl => by omega⟩⟩ ?_
    rintro _ w1 ⟨i, j, hij, hj, rfl, m1, h12⟩
    unfold F37c38_b1
    dsimp only
    have r1 := ho.rd.mod m1 (by simp)
    refine iteI (fun hlt => ?_) (fun hlt => ?_)
    · rw [halfA (by omega)]
      have hm : (i + j) / 2 < l.length := by omega
      obtain ⟨p, rfl, hc⟩ := r1.flat (evv_len _) (by decide) hm
      refine ⟨p, rfl, by omega, by omega, _, _, _, _, _, _, _, ⟨by rw [Int.toNat_natCast, add_zero]; exact rd0 hc, hc 1 _ rfl, hc 2 _ rfl, hc 3 _ rfl, hc 4 _ rfl, trivial⟩, ?_⟩
      refine (cmp l[(i + j) / 2] w1).mono ?_
      rintro _ w2 ⟨rfl, m2⟩
      have hr := hrng _ hm
      refine ⟨_, rfl, iteI (fun hlt2 => ?_) (fun hlt2 => ?_)⟩
      · have e1 : IntKind.i64.wrap ((((i + j) / 2 : Nat) : Int) + 1) = (((i + j) / 2 + 1 : Nat) : Int) := by rw [wi64 (by omega)]; omega
        rw [e1]
        refine ⟨_, by omega, ⟨(i + j) / 2 + 1, j, by omega, hj, rfl, m1.none m2, fun hp => ⟨fun k hk hkl => ?_, (h12 hp).2⟩⟩, rfl⟩
        rw [wi64 (by omega)] at hlt2
        by_cases hke : k = (i + j) / 2
        · subst hke; omega
        · have := hmono k _ hkl hm (by omega)
          omega
      · refine ⟨_, by omega, ⟨i, (i + j) / 2, by omega, by omega, rfl, m1.none m2, fun hp => ⟨(h12 hp).1, fun k hk hkl => ?_⟩⟩, rfl⟩
        rw [wi64 (by omega)] at hlt2
        by_cases hke : k = (i + j) / 2
        · subst hke; omega
        · have := hmono _ k hm hkl (by omega)
          omega
    · have hij : i = j := by omega
      subst hij
      have e : 0 ≤ id → kx id (says l) = i := fun hp => fidx_cut _ _ i (by rw [says_len]; exact hj) (fun k hk => by have := (h12 hp).1 k hk (by omega); rw [says_at l (by omega)]; exact decide_eq_false (by show ¬ id ≤ l[k].id; omega)) (fun h => by have h' : i < l.length := says_len l ▸ h; have := (h12 hp).2 i (Nat.le_refl _) h'; rw [says_at l h']; exact decide_eq_true (by show id ≤ l[i].id; omega))
      refine iteI (fun hlt => ?_) (fun hlt => ?_)
      · have hlt : i < l.length := by omega
        obtain ⟨p, rfl, hc⟩ := r1.flat (evv_len _) (by decide) hlt
        refine ⟨p, rfl, by omega, by omega, _, _, _, _, _, _, _, ⟨by rw [Int.toNat_natCast, add_zero]; exact rd0 hc, hc 1 _ rfl, hc 2 _ rfl, hc 3 _ rfl, hc 4 _ rfl, trivial⟩, ?_⟩
        refine (cmp l[i] w1).mono ?_
        rintro _ w2 ⟨rfl, m2⟩
        have hr := hrng _ hlt
        refine ⟨_, rfl, ⟨i, ?_, fun hp => (e hp).symm⟩, m1.none m2⟩
        congr 4
        refine congrArg Value.bool ?_
        by_cases hp : 0 ≤ id
        · rw [wi64 (by omega)]
          unfold isI
          rw [decide_eq_decide]
          have e' := e hp
          constructor
          · intro h0
            refine ⟨by rw [e', says_len]; exact hlt, ?_⟩
            simp only [e']
            rw [says_at l hlt]
            show l[i].id = id
            omega
          · rintro ⟨_, h0⟩
            simp only [e'] at h0
            rw [says_at l hlt] at h0
            have h0 : l[i].id = id := h0
            omega
        · rw [isI_neg hs (by omega)]
          refine decide_eq_false (fun h0 => ?_)
          have h1 : IntKind.i64.wrap (l[i].id - id) = 0 := h0
          unfold IntKind.wrap at h1
          simp [IntKind.bits, IntKind.signed] at h1
          omega
      · refine ⟨⟨i, ?_, fun hp => (e hp).symm⟩, m1⟩
        congr 4
        refine congrArg Value.bool ?_
        by_cases hp : 0 ≤ id
        · unfold isI
          rw [decide_eq_false]
          rintro ⟨h0, _⟩
          rw [e hp, says_len] at h0
          omega
        · rw [isI_neg hs (by omega)]
  refine q.mono ?_
  rintro _ w1 ⟨⟨k, rfl, hk⟩, m1⟩
  exact ⟨_, _, rfl, ⟨k, rfl, hk⟩, m1⟩
theorem spass_ok (n : Int) : Does Try.prog 26 #[.pointer (some (base g)), .int .i64 n] w fun v w' => v = .tuple #[] ∧ Sv w' g S (passT now n) l ∧ Mod [g] w w' := by
  obtain ⟨a, c, rfl, hb, ho⟩ := h
  have hne := ho.ne hb (by decide)
  apply w26
  unfold F26
  refine ⟨_, rfl, _, hb.cell (i := 1) rfl, ?_⟩
  have j1 : ∀ b : Bool, b = decide (now < n ∧ n ≤ 1099511627776) → F26_j1 (some (base g)) n b w (fun v w' => v = .tuple #[] ∧ Sv w' g (g :: fp a) (passT now n) l ∧ Mod [g] w w') := by
    intro b hbd
    unfold F26_j1
    refine iteI (fun hh => ?_) (fun hh => ?_)
    · have hc : now < n ∧ n ≤ 1099511627776 := by subst hbd; exact of_decide_eq_true hh
      refine ⟨_, rfl, Put.use hb (by simp) fun w1 h1 m1 => ⟨rfl, ⟨a, c, rfl, ?_, ho.mod m1 (fun x hx hx' => by simp at hx'; subst hx'; exact hne hx)⟩, m1⟩⟩
      unfold passT
      rw [if_pos hc]
      exact h1
    · have hc : ¬ (now < n ∧ n ≤ 1099511627776) := by subst hbd; simpa using hh
      refine ⟨rfl, ⟨a, c, rfl, ?_, ho⟩, Mod.refl _⟩
      unfold passT
      rw [if_neg hc]
      exact hb
  refine iteI (fun hh => j1 _ ?_) (fun hh => j1 false ?_)
  · rw [decide_eq_decide]; omega
  · rw [decide_eq_false (by omega)]
end
theorem flat_ins (l : List En) (k : Nat) (x : En) : (l.flatMap evv).take (k * 5) ++ evv x ++ (l.flatMap evv).drop (k * 5) = (l.take k ++ [x] ++ l.drop k).flatMap evv := by
  rw [flat_take evv l (evv_len l), flat_drop evv l (evv_len l), List.flatMap_append, List.flatMap_append]
  simp
theorem says_ins (l : List En) (k : Nat) (x : En) : says (l.take k ++ [x] ++ l.drop k) = (says l).take k ++ [x.say] ++ (says l).drop k := by
  unfold says
  rw [List.map_append, List.map_append, List.map_take, List.map_drop]
  rfl
theorem says_del (l : List En) (k : Nat) : says (l.take k ++ l.drop (k + 1)) = (says l).take k ++ (says l).drop (k + 1) := by
  unfold says
  rw [List.map_append, List.map_take, List.map_drop]
theorem mem_ins {α : Type} {l : List α} {k : Nat} {x e : α} (h : e ∈ l.take k ++ [x] ++ l.drop k) : e ∈ l ∨ e = x := by
  rcases List.mem_append.1 h with h | h
  · rcases List.mem_append.1 h with h | h
    · exact .inl (List.mem_of_mem_take h)
    · exact .inr (by simpa using h)
  · exact .inl (List.mem_of_mem_drop h)
theorem mem_del {α : Type} {l : List α} {k : Nat} {e : α} (h : e ∈ l.take k ++ l.drop (k + 1)) : e ∈ l := by
  rcases List.mem_append.1 h with h | h
  · exact List.mem_of_mem_take h
  · exact List.mem_of_mem_drop h
section
variable {w : World} {g : Nat} {S : List Nat} {now : Int} {l : List En} (h : Sv w g S now l) (hs : Gd (says l))
include h hs
/-- Define: the list is that of before, or has one more. -/
theorem sdef_ok (id ivl : Int) (hid : -9223372036854775808 ≤ id ∧ id ≤ 9223372036854775807) {a : Option Addr} {p : List Int} (c : Nat) (hp : Rd w a (p.map iv)) (hpl : p.length ≤ 1000) : Does Try.prog 9 #[.pointer (some (base g)), .int .i64 id, .int .i64 ivl, .slice a p.length c] w fun v w' => v = .int .i64 (defE (says l) id ivl p) ∧
    ((defE (says l) id ivl p ≠ 0 ∧ Mod [] w w') ∨ (defE (says l) id ivl p = 0 ∧ ∃ S' e, e.say = ⟨id, ivl, false, p, 0⟩ ∧ Sv w' g S' now (l.take (kx id (says l)) ++ [e] ++ l.drop (kx id (says l))) ∧ Mod S w w' ∧ (∀ y ∈ S', y ∈ S ∨ w.heap.size ≤ y) ∧ e.rd w' ∧ (∀ y ∈ e.fp, w.heap.size ≤ y) ∧ ∀ y ∈ e.fp, y ∉ S')) := by
  have hl := hs.len
  rw [says_len] at hl
  apply w9
  unfold F9
  refine (sok_ok h).mono ?_
  rintro _ _ ⟨rfl, rfl⟩
  refine ⟨_, rfl, ?_⟩
  rw [if_neg (by simp)]
  have bad : ∀ (e : Int) (w3 : World), Mod [] w w3 → defE (says l) id ivl p = e → e ≠ 0 → (Value.int .i64 e) = .int .i64 (defE (says l) id ivl p) ∧ ((defE (says l) id ivl p ≠ 0 ∧ Mod [] w w3) ∨ (defE (says l) id ivl p = 0 ∧ ∃ S' e, e.say = ⟨id, ivl, false, p, 0⟩ ∧ Sv w3 g S' now (l.take (kx id (says l)) ++ [e] ++ l.drop (kx id (says l))) ∧ Mod S w w3 ∧ (∀ y ∈ S', y ∈ S ∨ w.heap.size ≤ y) ∧ e.rd w3 ∧ (∀ y ∈ e.fp, w.heap.size ≤ y) ∧ ∀ y ∈ e.fp, y ∉ S')) :=
    fun e w3 m3 he hne => ⟨by rw [he], .inl ⟨by rw [he]; exact hne, m3⟩⟩
  have b1 : badA id ivl p → defE (says l) id ivl p = 1 := fun hb => by unfold defE; rw [if_pos hb]
  refine (num_ok id w).mono ?_
  rintro _ _ ⟨rfl, rfl⟩
  refine ⟨_, rfl, iteI (fun hh => ?_) (fun hh => ?_)⟩
  · have : ¬ (0 ≤ id ∧ id ≤ 65535) := fun h2 => by rw [decide_eq_true h2] at hh; simp at hh
    exact bad 1 _ (Mod.refl _) (b1 (by unfold badA; omega)) (by decide)
  have hidr : 0 ≤ id ∧ id ≤ 65535 := by simpa using hh
  refine iteI (fun hh => bad 1 _ (Mod.refl _) (b1 (by unfold badA; omega)) (by decide)) (fun h1 => ?_)
  refine iteI (fun hh => bad 1 _ (Mod.refl _) (b1 (by unfold badA; omega)) (by decide)) (fun h2 => ?_)
  refine iteI (fun hh => bad 1 _ (Mod.refl _) (b1 (by unfold badA; omega)) (by decide)) (fun h3 => ?_)
  refine iteI (fun hh => bad 1 _ (Mod.refl _) (b1 (by unfold badA; omega)) (by decide)) (fun h4 => ?_)
  refine LoopP.of (fun (x : Int) w' => w' = w ∧ ∃ i : Nat, i ≤ p.length ∧ x = (i : Int) ∧ ∀ j (hj : j < i) (hjl : j < p.length), 0 ≤ p[j] ∧ p[j] ≤ 65535) (fun x _ => p.length - x.toNat) ⟨rfl, 0, by omega, rfl, by omega⟩ ?_
  rintro _ w0 ⟨e0, i, hi, rfl, hb⟩
  rw [e0]
  clear e0 w0
  unfold F9_b1
  refine iteI (fun hlt => ?_) (fun hlt => ?_)
  · have hlt : i < p.length := by omega
    obtain ⟨q, rfl, hc⟩ := rd_get hp hlt
    refine ⟨q, rfl, by omega, by omega, _, hc, (num_ok _ w).mono ?_⟩
    rintro _ _ ⟨rfl, rfl⟩
    refine ⟨_, rfl, iteI (fun hh => ?_) (fun hh => ?_)⟩
    · have : ¬ (0 ≤ p[i] ∧ p[i] ≤ 65535) := fun h2 => by rw [decide_eq_true h2] at hh; simp at hh
      exact bad 1 _ (Mod.refl _) (b1 (by unfold badA; refine .inr (.inr (.inr (.inr (.inr (.inr ⟨p[i], List.getElem_mem hlt, ?_⟩))))); omega)) (by decide)
    · have h5 : 0 ≤ p[i] ∧ p[i] ≤ 65535 := by simpa using hh
      rw [wi64 (by omega)]
      refine ⟨_, by omega, ⟨rfl, i + 1, by omega, rfl, fun j hj hjl => ?_⟩, rfl⟩
      by_cases hji : j = i
      · subst hji; exact h5
      · exact hb j (by omega) hjl
  have hil : i = p.length := by omega
  subst hil
  have nbad : ¬ badA id ivl p := by
    unfold badA
    rintro (hh | hh | hh | hh | hh | hh | ⟨x, hx, hh⟩) <;> try omega
    obtain ⟨j, hj, rfl⟩ := List.getElem_of_mem hx
    have := hb j hj hj
    omega
  refine (sfind_ok h hs id hid).mono ?_
  rintro _ w2 ⟨⟨k, rfl, hk⟩, M2⟩
  have hk := hk hidr.1
  subst hk
  refine ⟨_, _, rfl, iteI (fun hi => ?_) (fun hi => ?_)⟩
  · exact bad 9 w2 M2 (by unfold defE; rw [if_neg nbad, if_pos hi]) (by decide)
  have h2 := h.mod M2 (by simp)
  obtain ⟨a2, ca, rfl, hb2, ho2⟩ := h2
  refine ⟨_, rfl, _, _, _, hb2.cell (i := 2) rfl, iteI (fun hf => ?_) (fun hf => ?_)⟩
  · exact bad 7 w2 M2 (by unfold defE; rw [if_neg nbad, if_neg hi, if_pos (by rw [says_len]; omega)]) (by decide)
  have e0 : defE (says l) id ivl p = 0 := by unfold defE; rw [if_neg nbad, if_neg hi, if_neg (by rw [says_len]; omega)]
  refine (clone_int c (hp.mod M2 (by simp)) (by simp) (iv_one _) (by omega)).mono ?_
  rintro _ w3 ⟨a3, c3, rfl, o3, m3, f3⟩
  have M3 := M2.none m3
  refine ⟨_, _, _, rfl, New.put rfl fun w4 h4 m4 z4 => ?_⟩
  have M4 := M3.none m4
  have md : Mod [] w4 w4.drew := Mod.drew w4
  have hb4 := ((hb2.mod m3 (by simp)).mod m4 (by simp)).mod md (by simp)
  have ho4 := ((ho2.mod m3 (by simp)).mod m4 (by simp)).mod md (by simp)
  have h4' : Blk w4.drew w3.heap.size 66 _ := h4.drew
  refine ⟨_, _, _, hb4.cell (i := 2) rfl, _, _, _, _, _, _, _, h4'.cells, New.use fun w5 h5 m5 z5 => ?_⟩
  have M5 := (M4.none md).none m5
  have hb5 := hb4.mod m5 (by simp)
  have ho5 := ho4.mod m5 (by simp)
  refine ⟨hb5.cell (i := 2) rfl, ?_⟩
  have hkx := kx_le id (says l)
  rw [says_len] at hkx
  have hne := ho5.ne hb5 (by decide)
  have z5' := M5.size
  have hx1 : ∀ u ∈ [Value.int .i64 id, .int .i64 ivl, .bool false, .slice a3 p.length c3, .int .i64 0], one u = true := by intro u hu; simp at hu; rcases hu with rfl | rfl | rfl | rfl | rfl <;> rfl
  refine (insert_hkentry (xs := evv ⟨id, ivl, false, a3, p, c3, 0⟩) ho5 (evv_one l) hkx (by omega) h5 (fun hx => by have := ho4.lt _ hx; omega) rfl hx1).mono ?_
  rintro _ w6 ⟨a', ca', rfl, o6, m6, f6⟩
  rw [flat_ins] at o6
  have hb6 := hb5.mod m6 hne
  have hne6 := o6.ne hb6 (by decide)
  refine ⟨_, _, _, rfl, Put.use hb6 (by simp) fun w7 h7 m7 => ?_⟩
  have hlen : (l.take (kx id (says l)) ++ [(⟨id, ivl, false, a3, p, c3, 0⟩ : En)] ++ l.drop (kx id (says l))).length = l.length + 1 := by simp; omega
  have hgw := h.lt g (by simp)
  have hfa : ∀ y ∈ fp a2, y < w.heap.size := fun y hy => h.lt y (by simp [hy])
  have z2 := M2.size
  have hef : ∀ y ∈ (⟨id, ivl, false, a3, p, c3, 0⟩ : En).fp, w.heap.size ≤ y ∧ y < w5.heap.size := fun y hy => by
    have h1 := f3 y (fpv_sub y hy)
    have h2 := o3.lt y (fpv_sub y hy)
    have h3 : w3.heap.size ≤ w5.heap.size := by have := m4.size; have := m5.size; have : w4.drew.heap.size = w4.heap.size := rfl; omega
    omega
  have her : (⟨id, ivl, false, a3, p, c3, 0⟩ : En).rd w5 := ((((o3.mod m4 (by simp)).mod md (by simp)).mod m5 (by simp))).rd
  have ea : ∀ y ∈ (⟨id, ivl, false, a3, p, c3, 0⟩ : En).fp, y ∉ fp a2 ∧ y ≠ g := fun y hy => by
    have := hef y hy
    exact ⟨fun hh => by have := hfa y hh; omega, by omega⟩
  refine ⟨by rw [e0], .inr ⟨e0, g :: fp a', ⟨id, ivl, false, a3, p, c3, 0⟩, rfl, ⟨a', ca', rfl, ?_, ?_⟩, ?_, ?_, ?_, fun y hy => (hef y hy).1, ?_⟩⟩
  · rw [hlen]; exact h7
  · rw [hlen]; exact o6.mod m7 (fun x hx hx' => by simp at hx'; subst hx'; exact hne6 hx)
  · exact ((M5.weaken (by simp)).trans m6 (fun y hy => .inl (by simp [hy]))).trans m7 (fun y hy => .inl (by simp at hy; simp [hy]))
  · intro y hy
    rcases List.mem_cons.1 hy with rfl | hy
    · left; simp
    · rcases f6 y hy with hh | hh
      · left; simp [hh]
      · right; omega
  · exact (her.mod m6 (fun y hy => (ea y hy).1)).mod m7 (fun y hy hy' => by simp at hy'; exact (ea y hy).2 hy')
  · intro y hy hy'
    rcases List.mem_cons.1 hy' with rfl | hy'
    · exact (ea _ hy).2 rfl
    · rcases f6 y hy' with hh | hh
      · exact (ea y hy).1 hh
      · have := hef y hy; omega
theorem sdel_ok (id : Int) (hid : -9223372036854775808 ≤ id ∧ id ≤ 9223372036854775807) : Does Try.prog 10 #[.pointer (some (base g)), .int .i64 id] w fun v w' => v = .int .i64 (delE (says l) id) ∧ Sv w' g S now (if delE (says l) id = 0 then l.take (kx id (says l)) ++ l.drop (kx id (says l) + 1) else l) ∧ Mod S w w' := by
  have hl := hs.len
  rw [says_len] at hl
  apply w10
  unfold F10
  refine (sok_ok h).mono ?_
  rintro _ _ ⟨rfl, rfl⟩
  refine ⟨_, rfl, ?_⟩
  rw [if_neg (by simp)]
  refine (sfind_ok h hs id hid).mono ?_
  rintro _ w2 ⟨⟨k, rfl, hk⟩, m2⟩
  have h2 := h.mod m2 (by simp)
  refine ⟨_, _, rfl, iteI (fun hi => ?_) (fun hi => ?_)⟩
  · have hi : isI id (says l) ≠ true := by simpa using hi
    have e8 : delE (says l) id = 8 := by unfold delE; rw [if_neg hi]
    refine ⟨by rw [e8], ?_, m2.weaken (by simp)⟩
    rw [if_neg (by rw [e8]; decide)]
    exact h2
  have hi : isI id (says l) = true := by simpa using hi
  have hp : 0 ≤ id := by
    refine Classical.byContradiction fun hn => ?_
    rw [isI_neg hs (by omega)] at hi
    cases hi
  have hk := hk hp
  subst hk
  obtain ⟨hlt, _⟩ := isI_lt hi
  have hon' := onAt_at hlt
  rw [says_len] at hlt
  rw [says_at l hlt] at hon'
  have hon' : onAt (says l) (kx id (says l)) = l[kx id (says l)].on := hon'
  obtain ⟨a, ca, rfl, hb2, ho2⟩ := h2
  have ho2' := ho2
  obtain ⟨p, hp, hc⟩ := ho2.rd.flat (evv_len _) (by decide) hlt
  refine ⟨_, rfl, _, _, _, hb2.cell (i := 2) rfl, p, hp, by omega, by omega, _, hc 2 _ rfl, ?_⟩
  rw [← hon']
  refine iteI (fun hon => ?_) (fun hon => ?_)
  · have e12 : delE (says l) id = 12 := by unfold delE; rw [if_pos hi, if_pos hon]
    refine ⟨by rw [e12], ?_, m2.weaken (by simp)⟩
    rw [if_neg (by rw [e12]; decide)]
    exact ⟨a, ca, rfl, hb2, ho2'⟩
  have e0 : delE (says l) id = 0 := by unfold delE; rw [if_pos hi, if_neg hon]
  refine ⟨_, _, _, hb2.cell (i := 2) rfl, ?_⟩
  have e1 : IntKind.i64.wrap ((kx id (says l) : Int) + 1) = ((kx id (says l) + 1 : Nat) : Int) := by rw [wi64 (by omega)]; omega
  rw [e1]
  refine (delete_hkentry ho2' (evv_one _) (i := kx id (says l)) (j := kx id (says l) + 1) (by omega) (by omega)).mono ?_
  rintro _ w3 ⟨rfl, o3, m3⟩
  rw [flat_take evv l (evv_len _), flat_drop evv l (evv_len _), ← List.flatMap_append] at o3
  have hlen : (l.take (kx id (says l)) ++ l.drop (kx id (says l) + 1)).length = kx id (says l) + (l.length - (kx id (says l) + 1)) := by simp; omega
  rw [← hlen] at o3 ⊢
  have hne := ho2'.ne hb2 (by decide)
  refine ⟨_, _, _, rfl, Put.use (hb2.mod m3 hne) (by simp) fun w4 h4 m4 => ?_⟩
  refine ⟨by rw [e0], ?_, ((m2.weaken (by simp)).trans m3 (fun y hy => .inl (by simp [hy]))).trans m4 (fun y hy => .inl (by simp at hy; simp [hy]))⟩
  rw [if_pos e0]
  exact ⟨a, ca, rfl, h4, o3.mod m4 (fun x hx hx' => by simp at hx'; subst hx'; exact hne hx)⟩
end
end Go.Proofs.Ytcgkmmiokmbjdaa
