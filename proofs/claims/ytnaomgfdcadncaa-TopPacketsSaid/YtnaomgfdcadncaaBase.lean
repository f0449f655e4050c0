import Derived.Tactics
import Derived.OrdersHeld
import Derived.Deep.LoopGhost
import Derived.Laws.Entries
import Derived.Laws.Cells
import Derived.IntWalk
import Derived.Laws.CopyRow
import Derived.Laws.Append
import Derived.Deep.Draws
/-
  The calculus that all texts of this family use: a function's frame seen as a map from slots to values, so that a walk never shows a frame; a region that draws its order is walked once, in a chosen order, with the loads that may come later held.
  Nothing here names a program.
-/
namespace Go.Sh
open Go
set_option linter.unusedVariables false
set_option linter.unusedSimpArgs false

/-! ### The frame as a map -/
abbrev Env := Nat → Value

def upd (ρ : Env) (d : Nat) (v : Value) : Env := fun t => match Nat.beq t d with | true => v | false => ρ t

theorem upd_same (ρ : Env) (d : Nat) (v : Value) : upd ρ d v d = v := by simp [upd]
theorem upd_other (ρ : Env) {d t : Nat} (v : Value) (h : t ≠ d) : upd ρ d v t = ρ t := by
  unfold upd
  have : Nat.beq t d = false := by
    cases hb : Nat.beq t d with
    | false => rfl
    | true => exact absurd (Nat.eq_of_beq_eq_true hb) h
  rw [this]

def env (a : Act) : Env := fun t => a.tmps.getD t undef

def ev (ρ : Env) : Operand → Value
  | .tmp t => ρ t
  | .const v => v
  | .global g => .pointer (some ⟨g, 0, none⟩)
  | .func f => .func (.func f) #[] #[]

theorem eval_eq (a : Act) : a.eval = ev (env a) := by
  funext x
  cases x <;> rfl

theorem env_put (a : Act) (d : Nat) (v : Value) (h : d < a.tmps.size) : env (a.put (some d) v) = upd (env a) d v := by
  funext t
  unfold env Act.put
  by_cases ht : t = d
  · subst ht
    rw [upd_same]
    simp [h]
  · rw [upd_other _ _ ht]
    simp [Array.getElem?_setIfInBounds_ne (Ne.symm ht)]

theorem size_put (a : Act) (d : Option Nat) (v : Value) : (a.put d v).tmps.size = a.tmps.size := by
  cases d <;> simp [Act.put]
theorem defers_put (a : Act) (d : Option Nat) (v : Value) : (a.put d v).defers = a.defers := by
  cases d <;> rfl

/-- The guard of an operation, read off the map. -/
def wantedE (ops : Array Oper) (ρ : Env) (o : Oper) : Bool :=
  match o.guard with
  | none => true
  | some (j, want) => match (ops[j]?).bind (·.dst) with
    | some t => match ρ t with
      | .bool b => b == want
      | _ => false
    | none => false

theorem wanted_eq (ops : Array Oper) (a : Act) (o : Oper) : Region.wanted o (yielded ops a.tmps) = wantedE ops (env a) o := by
  unfold Region.wanted wantedE yielded env
  cases o.guard with
  | none => rfl
  | some g =>
    obtain ⟨j, want⟩ := g
    simp only []
    cases h : (ops[j]?).bind (·.dst) with
    | none => rfl
    | some t =>
      simp only [Option.bind_some, Array.getD_eq_getD_getElem?]
      cases hv : a.tmps[t]? with
      | none => rfl
      | some v => cases v <;> first | rfl | (rename_i b; cases b <;> cases want <;> rfl)

/-! ### What code does, in these words -/
def lift (N : Nat) (Q : Exit → Env → World → Prop) : Exit → Act → World → Prop := fun e a w => a.tmps.size = N ∧ a.defers = [] ∧ Q e (env a) w

def WC (P : Program) (N : Nat) (c : Code) (Q : Exit → Env → World → Prop) (ρ : Env) (w : World) : Prop :=
  ∀ a : Act, a.tmps.size = N → a.defers = [] → env a = ρ → c.wp P (lift N Q) a w

def WL (P : Program) (N : Nat) (ops : Array Oper) (l : List Oper) (Q : Exit → Env → World → Prop) (ρ : Env) (w : World) : Prop :=
  ∀ a : Act, a.tmps.size = N → a.defers = [] → env a = ρ → wpList P ops (lift N Q) l a w

section
variable {P : Program} {N : Nat} {Q Q' : Exit → Env → World → Prop} {ρ : Env} {w : World}

theorem WC_mono {c : Code} (h : WC P N c Q ρ w) (hq : ∀ e ρ w, Q e ρ w → Q' e ρ w) : WC P N c Q' ρ w := fun a h1 h2 h3 =>
  wp_mono (h a h1 h2 h3) fun e a' w' ⟨q1, q2, q3⟩ => ⟨q1, q2, hq _ _ _ q3⟩

/-- What follows a piece of code that runs to its end. -/
def thenE (next : Env → World → Prop) (Q : Exit → Env → World → Prop) : Exit → Env → World → Prop
  | .normal, ρ, w => next ρ w
  | e, ρ, w => Q e ρ w

theorem WC_seq {x y : Code} (h : WC P N x (thenE (WC P N y Q) Q) ρ w) : WC P N (Code.seq x y) Q ρ w := fun a h1 h2 h3 =>
  wp_seq (wp_mono (h a h1 h2 h3) fun e a' w' ⟨q1, q2, q3⟩ => by
    cases e with
    | normal => exact q3 a' q1 q2 rfl
    | _ => exact ⟨q1, q2, q3⟩)

/-- The same, cut: what stands between the two is said once. -/
theorem WC_cut {x y : Code} (M : Env → World → Prop) (h : WC P N x (thenE M Q) ρ w) (hy : ∀ ρ w, M ρ w → WC P N y Q ρ w) : WC P N (Code.seq x y) Q ρ w :=
  WC_seq (WC_mono h fun e ρ w q => by
    cases e with
    | normal => exact hy _ _ q
    | _ => exact q)

theorem WC_skip (h : Q .normal ρ w) : WC P N Code.skip Q ρ w := fun a h1 h2 h3 => wp_skip ⟨h1, h2, h3 ▸ h⟩
theorem WC_exit {id : Nat} (h : Q (.exit id) ρ w) : WC P N (Code.exit id) Q ρ w := fun a h1 h2 h3 => wp_exit ⟨h1, h2, h3 ▸ h⟩
theorem WC_ret (h : Q .ret ρ w) : WC P N Code.ret Q ρ w := fun a h1 h2 h3 => wp_ret ⟨h1, h2, h3 ▸ h⟩

theorem WC_cond {c : Operand} {x y : Code} {t : Bool} (hc : ev ρ c = .bool t) (ht : t = true → WC P N x Q ρ w) (hf : t = false → WC P N y Q ρ w) :
    WC P N (Code.cond c x y) Q ρ w := fun a h1 h2 h3 =>
  wp_cond_split (t := t) (by rw [eval_eq, h3]; exact hc) (fun h => ht h a h1 h2 h3) (fun h => hf h a h1 h2 h3)

def blockE (id : Nat) (Q : Exit → Env → World → Prop) : Exit → Env → World → Prop
  | .exit id', ρ, w => if id' = id then Q .normal ρ w else Q (.exit id') ρ w
  | e, ρ, w => Q e ρ w

theorem WC_block {id : Nat} {c : Code} (h : WC P N c (blockE id Q) ρ w) : WC P N (Code.block id c) Q ρ w := fun a h1 h2 h3 =>
  wp_block (wp_mono (h a h1 h2 h3) fun e a' w' ⟨q1, q2, q3⟩ => by
    cases e with
    | exit id' =>
      simp only [blockE] at q3
      simp only [Exit.inBlock]
      split
      · rename_i he; rw [if_pos he] at q3; exact ⟨q1, q2, q3⟩
      · rename_i he; rw [if_neg he] at q3; exact ⟨q1, q2, q3⟩
    | _ => exact ⟨q1, q2, q3⟩)

theorem WC_loop {c : Code} (I : Nat → Env → World → Prop) (h0 : ∃ n, I n ρ w)
    (round : ∀ n ρ w, I n ρ w → WC P N c (thenE (fun ρ' w' => ∃ m, m < n ∧ I m ρ' w') Q) ρ w) : WC P N (Code.loop c) Q ρ w := fun a h1 h2 h3 => by
  obtain ⟨n0, h0⟩ := h0
  refine wp_loop_ghost (fun n a w => a.tmps.size = N ∧ a.defers = [] ∧ I n (env a) w) n0 ⟨h1, h2, h3 ▸ h0⟩ ?_
  intro n a w ⟨k1, k2, k3⟩
  refine wp_mono (round n _ _ k3 a k1 k2 rfl) fun e a' w' ⟨q1, q2, q3⟩ => ?_
  cases e with
  | normal =>
    obtain ⟨m, hm, hI⟩ := q3
    exact ⟨m, hm, q1, q2, hI⟩
  | _ => exact ⟨q1, q2, q3⟩

theorem WC_region {id : Nat} {l : List Oper} (h : WL P N l.toArray l Q ρ w) : WC P N (Code.region id l.toArray false) Q ρ w := fun a h1 h2 h3 =>
  wp_region_lit (h a h1 h2 h3)

theorem WL_nil {ops : Array Oper} (h : Q .normal ρ w) : WL P N ops [] Q ρ w := fun a h1 h2 h3 => ⟨h1, h2, h3 ▸ h⟩

/-! ### One operation in a region that keeps the order of the text -/
variable {ops : Array Oper} {rest : List Oper}

theorem WL_step {o : Oper} (hw : wantedE ops ρ o = true)
    (h : ∀ a : Act, a.tmps.size = N → a.defers = [] → env a = ρ → o.wp P a w (wpList P ops (lift N Q) rest) (lift N Q)) : WL P N ops (o :: rest) Q ρ w := fun a h1 h2 h3 => by
  unfold wpList
  rw [wanted_eq, h3, hw, if_pos rfl]
  exact .inl (h a h1 h2 h3)

/-- It yields a value. -/
theorem WL_val {op : Op} {d ty : Nat} {pos : String} {after : Array Edge} {guard : Option (Nat × Bool)} {v : Value} {w' : World}
    (hw : wantedE ops ρ ⟨some d, op, ty, pos, after, guard⟩ = true) (hr : (execOp (ev ρ) ⟨some d, op, ty, pos, after, guard⟩).run P w = .ok (.value v) w') (hd : Nat.ble (d + 1) N = true)
    (h : WL P N ops rest Q (upd ρ d v) w') : WL P N ops (⟨some d, op, ty, pos, after, guard⟩ :: rest) Q ρ w :=
  WL_step hw fun a h1 h2 h3 => by
    unfold Oper.wp
    rw [eval_eq, h3, hr]
    have hlt : d < a.tmps.size := by rw [h1]; exact Nat.le_of_ble_eq_true hd
    refine h _ (by rw [size_put, h1]) (by rw [defers_put, h2]) ?_
    rw [env_put _ _ _ hlt, h3]

/-- It yields a value that no slot takes. -/
theorem WL_valNone {op : Op} {ty : Nat} {pos : String} {after : Array Edge} {guard : Option (Nat × Bool)} {v : Value} {w' : World}
    (hw : wantedE ops ρ ⟨none, op, ty, pos, after, guard⟩ = true) (hr : (execOp (ev ρ) ⟨none, op, ty, pos, after, guard⟩).run P w = .ok (.value v) w')
    (h : WL P N ops rest Q ρ w') : WL P N ops (⟨none, op, ty, pos, after, guard⟩ :: rest) Q ρ w :=
  WL_step hw fun a h1 h2 h3 => by
    unfold Oper.wp
    rw [eval_eq, h3, hr]
    exact h a h1 h2 h3

/-- It acts, and no slot is written. -/
theorem WL_act {op : Op} {ty : Nat} {pos : String} {after : Array Edge} {guard : Option (Nat × Bool)} {w' : World}
    (hw : wantedE ops ρ ⟨none, op, ty, pos, after, guard⟩ = true) (hr : (execOp (ev ρ) ⟨none, op, ty, pos, after, guard⟩).run P w = .ok .skip w')
    (h : WL P N ops rest Q ρ w') : WL P N ops (⟨none, op, ty, pos, after, guard⟩ :: rest) Q ρ w :=
  WL_step hw fun a h1 h2 h3 => by
    unfold Oper.wp
    rw [eval_eq, h3, hr]
    exact h a h1 h2 h3

/-- It is passed over: its guard says no. -/
theorem WL_skip {op : Op} {d ty : Nat} {pos : String} {after : Array Edge} {guard : Option (Nat × Bool)}
    (hw : wantedE ops ρ ⟨some d, op, ty, pos, after, guard⟩ = false) (hd : Nat.ble (d + 1) N = true)
    (h : WL P N ops rest Q (upd ρ d undef) w) : WL P N ops (⟨some d, op, ty, pos, after, guard⟩ :: rest) Q ρ w := fun a h1 h2 h3 => by
  unfold wpList
  rw [wanted_eq, h3, hw, if_neg (by simp)]
  have hlt : d < a.tmps.size := by rw [h1]; exact Nat.le_of_ble_eq_true hd
  refine h _ (by rw [size_put, h1]) (by rw [defers_put, h2]) ?_
  rw [env_put _ _ _ hlt, h3]
theorem WL_skipNone {op : Op} {ty : Nat} {pos : String} {after : Array Edge} {guard : Option (Nat × Bool)}
    (hw : wantedE ops ρ ⟨none, op, ty, pos, after, guard⟩ = false)
    (h : WL P N ops rest Q ρ w) : WL P N ops (⟨none, op, ty, pos, after, guard⟩ :: rest) Q ρ w := fun a h1 h2 h3 => by
  unfold wpList
  rw [wanted_eq, h3, hw, if_neg (by simp)]
  exact h a h1 h2 h3

/-- A call that returns: 'k' is what is said of its value and of the world behind it. -/
def Does (P : Program) (f : FuncId) (args : Array Value) (w : World) (k : Value → World → Prop) : Prop :=
  Calls P f args w fun e w' => ∃ v, e = .returned v ∧ k v w'

theorem Does.mono {f : FuncId} {args : Array Value} {k k' : Value → World → Prop} (h : Does P f args w k) (hk : ∀ v w', k v w' → k' v w') : Does P f args w k' :=
  Calls.mono h fun _ _ ⟨v, he, hv⟩ => ⟨v, he, hk _ _ hv⟩

theorem Oper.wp_call {o : Oper} {a : Act} {K : Act → World → Prop} {Q : Exit → Act → World → Prop} {f : FuncId} {args : Array Value}
    (hr : (execOp a.eval o).run P w = .ok (.enter f args) w) (h : Does P f args w fun v w' => K (a.put o.dst v) w') : o.wp P a w K Q := by
  unfold Oper.wp
  rw [hr]
  refine Calls.mono h fun e w' ⟨v, he, hv⟩ => ?_
  subst he
  exact hv

theorem WL_call {op : Op} {d ty : Nat} {pos : String} {after : Array Edge} {guard : Option (Nat × Bool)} {f : FuncId} {args : Array Value}
    (hw : wantedE ops ρ ⟨some d, op, ty, pos, after, guard⟩ = true) (hr : (execOp (ev ρ) ⟨some d, op, ty, pos, after, guard⟩).run P w = .ok (.enter f args) w) (hd : Nat.ble (d + 1) N = true)
    (h : Does P f args w fun v w' => WL P N ops rest Q (upd ρ d v) w') : WL P N ops (⟨some d, op, ty, pos, after, guard⟩ :: rest) Q ρ w :=
  WL_step hw fun a h1 h2 h3 => by
    refine Oper.wp_call (by rw [eval_eq, h3]; exact hr) (h.mono fun v w' hv => ?_)
    have hlt : d < a.tmps.size := by rw [h1]; exact Nat.le_of_ble_eq_true hd
    refine hv _ (by rw [size_put, h1]) (by rw [defers_put, h2]) ?_
    rw [env_put _ _ _ hlt, h3]
theorem WL_callNone {op : Op} {ty : Nat} {pos : String} {after : Array Edge} {guard : Option (Nat × Bool)} {f : FuncId} {args : Array Value}
    (hw : wantedE ops ρ ⟨none, op, ty, pos, after, guard⟩ = true) (hr : (execOp (ev ρ) ⟨none, op, ty, pos, after, guard⟩).run P w = .ok (.enter f args) w)
    (h : Does P f args w fun _ w' => WL P N ops rest Q ρ w') : WL P N ops (⟨none, op, ty, pos, after, guard⟩ :: rest) Q ρ w :=
  WL_step hw fun a h1 h2 h3 => Oper.wp_call (by rw [eval_eq, h3]; exact hr) (h.mono fun v w' hv => hv _ h1 h2 h3)
end

/-! ### A region that draws its order: one order that is carried out, the rest by exchange -/
section
variable {P : Program} {ops : Array Oper} {md : Region.Mode} {Q : Exit → Act → World → Prop}

/-- Which operations wait, at one or more removes, for number i. -/
def deps (md : Region.Mode) (ops : Array Oper) (i : Nat) : List Bool :=
  ops.toList.foldl (fun acc o => acc ++ [o.after.any fun e => Region.binds md e && (e.on == i || acc.getD e.on false)]) []

theorem deps_fold (md : Region.Mode) (i : Nat) : ∀ (l pre : List Oper) (acc : List Bool), acc.length = pre.length →
    (∀ j, acc.getD j false = true → ∃ o, pre[j]? = some o ∧ ∃ e ∈ o.after, Region.binds md e = true ∧ (e.on = i ∨ (e.on < j ∧ acc.getD e.on false = true))) →
    ∀ j, (l.foldl (fun acc o => acc ++ [o.after.any fun e => Region.binds md e && (e.on == i || acc.getD e.on false)]) acc).getD j false = true →
      ∃ o, (pre ++ l)[j]? = some o ∧ ∃ e ∈ o.after, Region.binds md e = true ∧
        (e.on = i ∨ (e.on < j ∧ (l.foldl (fun acc o => acc ++ [o.after.any fun e => Region.binds md e && (e.on == i || acc.getD e.on false)]) acc).getD e.on false = true)) := by
  intro l
  induction l with
  | nil => intro pre acc hl h j hj; simpa using h j hj
  | cons o l ih =>
    intro pre acc hl h j hj
    have := ih (pre ++ [o]) (acc ++ [o.after.any fun e => Region.binds md e && (e.on == i || acc.getD e.on false)]) (by simp [hl]) ?_ j (by simpa using hj)
    · simpa using this
    · intro j hj
      rcases Nat.lt_or_ge j acc.length with hlt | hge
      · have e1 : (acc ++ [o.after.any fun e => Region.binds md e && (e.on == i || acc.getD e.on false)]).getD j false = acc.getD j false := by
          simp [List.getD, List.getElem?_append_left hlt]
        rw [e1] at hj
        obtain ⟨o', h1, e, he, hb, hor⟩ := h j hj
        refine ⟨o', by rw [List.getElem?_append_left (by omega)]; exact h1, e, he, hb, ?_⟩
        rcases hor with hor | ⟨hlt2, hd⟩
        · exact .inl hor
        · refine .inr ⟨hlt2, ?_⟩
          rw [← hd]
          simp [List.getD, List.getElem?_append_left (show e.on < acc.length by omega)]
      · by_cases hj2 : j = acc.length
        · subst hj2
          have hj' : (o.after.any fun e => Region.binds md e && (e.on == i || acc.getD e.on false)) = true := by simpa [List.getD] using hj
          obtain ⟨e, he, hb⟩ := Array.any_eq_true'.1 hj'
          simp only [Bool.and_eq_true, Bool.or_eq_true, beq_iff_eq] at hb
          obtain ⟨hb, hor⟩ := hb
          refine ⟨o, by rw [hl]; simp, e, he, hb, ?_⟩
          rcases hor with hor | hor
          · exact .inl hor
          · have hlt2 : e.on < acc.length := by
              rcases Nat.lt_or_ge e.on acc.length with h' | h'
              · exact h'
              · simp [List.getD, List.getElem?_eq_none h'] at hor
            refine .inr ⟨hlt2, ?_⟩
            rw [← hor]
            simp [List.getD, List.getElem?_append_left hlt2]
        · exfalso
          simp [List.getD, List.getElem?_append_right hge] at hj
          rw [List.getElem?_eq_none (by simp; omega)] at hj
          simp at hj

theorem deps_spec {i j : Nat} (h : (deps md ops i).getD j false = true) : ∃ o, ops[j]? = some o ∧ ∃ e ∈ o.after, Region.binds md e = true ∧ (e.on = i ∨ (e.on < j ∧ (deps md ops i).getD e.on false = true)) := by
  have := deps_fold md i ops.toList [] [] rfl (by intro j hj; simp at hj) j h
  simpa [deps] using this

def Closed (md : Region.Mode) (ops : Array Oper) (listed : Array Bool) : Prop :=
  ∀ j oj, ops[j]? = some oj → listed.getD j false = true → ∀ e ∈ oj.after, Region.binds md e = true → listed.getD e.on false = true

theorem getD_tf {listed : Array Bool} {i : Nat} (h : listed.getD i true = false) : listed.getD i false = false := by
  rcases Nat.lt_or_ge i listed.size with h' | h'
  · simp [h'] at h ⊢; exact h
  · simp [Array.getElem?_eq_none h'] at h

theorem deps_unlisted {listed : Array Bool} (hc : Closed md ops listed) {i : Nat} (hi : listed.getD i false = false) : ∀ j, (deps md ops i).getD j false = true → listed.getD j false = false := by
  intro j
  induction j using Nat.strongRecOn with
  | _ j ih =>
    intro h
    obtain ⟨o, ho, e, he, hb, hor⟩ := deps_spec h
    cases hl : listed.getD j false with
    | false => rfl
    | true =>
      have h1 := hc j o ho hl e he hb
      rcases hor with rfl | ⟨hlt, hd⟩
      · rw [hi] at h1; cases h1
      · rw [ih _ hlt hd] at h1; cases h1

theorem deps_ready {listed : Array Bool} (hc : Closed md ops listed) {i j : Nat} (hi : listed.getD i false = false) (hj : j ∈ Region.ready md ops listed) : (deps md ops i).getD j false = false := by
  cases h : (deps md ops i).getD j false with
  | false => rfl
  | true =>
    obtain ⟨o, ho, e, he, hb, hor⟩ := deps_spec h
    obtain ⟨_, o', ho', hall⟩ := mem_ready.1 hj
    rw [ho] at ho'
    cases ho'
    have h1 := hall e he hb
    rcases hor with rfl | ⟨_, hd⟩
    · rw [hi] at h1; cases h1
    · rw [deps_unlisted hc hi _ hd] at h1; cases h1

theorem Closed.set {listed : Array Bool} (hc : Closed md ops listed) {i : Nat} (hi : i ∈ Region.ready md ops listed) : Closed md ops (listed.setIfInBounds i true) := by
  intro j oj hj hl e he hb
  obtain ⟨_, oi, hoi, hall⟩ := mem_ready.1 hi
  by_cases hij : i = j
  · subst hij
    rw [hj] at hoi
    cases hoi
    exact getD_set_true (hall e he hb)
  · rw [getD_set_ne false hij] at hl
    exact getD_set_true (hc j oj hj hl e he hb)

/-- Whatever order is picked from here on; behind operation number i: 'S i' where it acts ('ex i'); else the world is as it was. -/
def wpS (P : Program) (md : Region.Mode) (ops : Array Oper) (Q : Exit → Act → World → Prop) (ex : Nat → Bool) (S : Nat → World → Prop) : Nat → Array Bool → Act → World → Prop
  | 0, listed, a, w => Region.ready md ops listed = [] ∧ Q .normal a w
  | fuel + 1, listed, a, w =>
    (Region.ready md ops listed = [] → Q .normal a w) ∧
    ∀ i ∈ Region.ready md ops listed, wpOp P ops Q i (fun a' w' => (ex i = true → S i w') ∧ (ex i = false → w' = w) ∧ wpS P md ops Q ex S fuel (listed.setIfInBounds i true) a' w') a w

theorem wpAny_of_S {ex : Nat → Bool} {S : Nat → World → Prop} : ∀ (fuel : Nat) (listed : Array Bool) (a : Act) (w : World), wpS P md ops Q ex S fuel listed a w → wpAny P md ops Q fuel listed a w
  | 0, _, _, _, h => h
  | fuel + 1, _, _, _, h => ⟨h.1, fun i hi => wpOp_mono (fun a' w' h' => wpAny_of_S fuel _ a' w' h'.2.2) (h.2 i hi)⟩

theorem wpS_mono {ex : Nat → Bool} {S S' : Nat → World → Prop} (hS : ∀ j w', S' j w' → S j w') : ∀ (f : Nat) (l : Array Bool) (a : Act) (w : World), wpS P md ops Q ex S' f l a w → wpS P md ops Q ex S f l a w
  | 0, _, _, _, h => h
  | f + 1, _, _, _, h => ⟨h.1, fun k hk => wpOp_mono (fun a' w' h' => ⟨fun he => hS _ _ (h'.1 he), h'.2.1, wpS_mono hS f _ _ _ h'.2.2⟩) (h.2 k hk)⟩

theorem wpS_first {i : Nat} {oi : Oper} {v : Value} {F : World → Prop} {ex : Nat → Bool} {S : Nat → World → Prop} (hi : ops[i]? = some oi) (hex : ex i = false) (hsel : ∀ (j : Nat) (o : Oper) cs b, ops[j]? = some o → o.op ≠ .select cs b)
    (hQ : ∀ c a w, Q (.panic c) (a.put oi.dst v) w → Q (.panic c) a w) :
    ∀ (fuel : Nat) (listed : Array Bool) (a : Act) (w : World), Closed md ops listed →
      (∀ j oj, ops[j]? = some oj → j ≠ i → listed.getD j true = false → (∀ e ∈ oj.after, Region.binds md e = true → e.on ≠ i) → oi.apart ops oj = true) →
      i ∈ Region.ready md ops listed → YieldsIf P ops F oi v a → F w →
      wpS P md ops Q ex (fun j w' => S j w' ∧ ((deps md ops i).getD j false = false → F w')) fuel (listed.setIfInBounds i true) (a.put oi.dst v) w → wpS P md ops Q ex S (fuel + 1) listed a w := by
  intro fuel
  induction fuel with
  | zero =>
    intro listed a w _ _ hr hy hF H
    refine ⟨fun h => (by rw [h] at hr; cases hr), fun j hj => ?_⟩
    by_cases hji : j = i
    · subst hji; exact hy.wpOp hi hF ⟨fun he => (by rw [hex] at he; cases he), fun _ => rfl, H⟩
    · have := ready_mono hj hji
      rw [H.1] at this
      cases this
  | succ fuel ih =>
    intro listed a w hc hfree hr hy hF H
    refine ⟨fun h => (by rw [h] at hr; cases hr), fun j hj => ?_⟩
    by_cases hji : j = i
    · subst hji
      exact hy.wpOp hi hF ⟨fun he => (by rw [hex] at he; cases he), fun _ => rfl, wpS_mono (fun _ _ h => h.1) _ _ _ _ H⟩
    · have h1 := H.2 j (ready_mono hj hji)
      obtain ⟨hjun, oj, hoj, hall⟩ := mem_ready.1 hj
      have hiun := getD_tf (mem_ready.1 hr).1
      have hnot : ∀ e ∈ oj.after, Region.binds md e = true → e.on ≠ i := fun e he hb heq => by
        have h1 := hall e he hb
        rw [heq, hiun] at h1
        cases h1
      have hdep := deps_ready hc hiun hj
      have h2 := wpOp_putIf hoj (hfree j oj hoj hji hjun hnot) (fun cs b => hsel i oi cs b hi) (fun cs b => hsel j oj cs b hoj) hQ hy h1
      have hfree' : ∀ k ok, ops[k]? = some ok → k ≠ i → (listed.setIfInBounds j true).getD k true = false →
          (∀ e ∈ ok.after, Region.binds md e = true → e.on ≠ i) → oi.apart ops ok = true := fun k ok hk hki hun hno => by
        refine hfree k ok hk hki ?_ hno
        by_cases hjk : j = k
        · subst hjk; exact hjun
        · rw [getD_set_ne true hjk] at hun; exact hun
      refine wpOp_mono (fun a' w' h3 => ?_) h2
      have hF' : F w' := by
        cases hxj : ex j with
        | true => exact (h3.2.1 hxj).2 hdep
        | false => rw [h3.2.2.1 hxj]; exact hF
      refine ⟨fun he => (h3.2.1 he).1, h3.2.2.1, ih (listed.setIfInBounds j true) a' w' (hc.set hj) hfree' (ready_mono hr (Ne.symm hji)) h3.1 hF' ?_⟩
      rw [Array.setIfInBounds_comm _ _ hji]
      exact h3.2.2.2

/-- A chosen order: 'look': taken first (it only looks); 'act': it is the only one that may come up; 'fork', the next two: these two, or three, may come up, and no other. -/
inductive Plan where
  | nil
  | look (i : Nat) (p : Plan)
  | act (i : Nat) (p : Plan)
  | fork (i : Nat) (p : Plan) (j : Nat) (q : Plan)
  | fork3 (i : Nat) (p : Plan) (j : Nat) (q : Plan) (k : Nat) (r : Plan)
def orderOK (md : Region.Mode) (ops : Array Oper) (acts : List Nat) : Plan → Nat → Array Bool → Bool
  | .nil, n, listed => n == 0 && (Region.ready md ops listed).isEmpty
  | .look i l, n, listed => n != 0 && !acts.contains i && (Region.ready md ops listed).contains i && Region.free md ops listed i && orderOK md ops acts l (n - 1) (listed.setIfInBounds i true)
  | .act i l, n, listed => n != 0 && acts.contains i && (Region.ready md ops listed == [i]) && orderOK md ops acts l (n - 1) (listed.setIfInBounds i true)
  | .fork i l j m, n, listed => n != 0 && acts.contains i && acts.contains j && (Region.ready md ops listed == [i, j]) && orderOK md ops acts l (n - 1) (listed.setIfInBounds i true) && orderOK md ops acts m (n - 1) (listed.setIfInBounds j true)
  | .fork3 i l j m k r, n, listed => n != 0 && acts.contains i && acts.contains j && acts.contains k && (Region.ready md ops listed == [i, j, k]) && orderOK md ops acts l (n - 1) (listed.setIfInBounds i true) && orderOK md ops acts m (n - 1) (listed.setIfInBounds j true) && orderOK md ops acts r (n - 1) (listed.setIfInBounds k true)

/-- The chosen order, walked. 'S': what must hold behind operation number i where it acts. -/
def wpQ (P : Program) (ops : Array Oper) (Q : Act → World → Prop) : Plan → (Nat → World → Prop) → Act → World → Prop
  | .nil, _, a, w => Q a w
  | .look i l, S, a, w => ∃ oi v F, ops[i]? = some oi ∧ YieldsIf P ops F oi v a ∧ F w ∧
      wpQ P ops Q l (fun j w' => S j w' ∧ ((deps .any ops i).getD j false = false → F w')) (a.put oi.dst v) w
  | .act i l, S, a, w => wpOp P ops (fun e a w => e = .normal ∧ Q a w) i (fun a' w' => S i w' ∧ wpQ P ops Q l S a' w') a w
  | .fork i l j m, S, a, w => wpOp P ops (fun e a w => e = .normal ∧ Q a w) i (fun a' w' => S i w' ∧ wpQ P ops Q l S a' w') a w ∧
      wpOp P ops (fun e a w => e = .normal ∧ Q a w) j (fun a' w' => S j w' ∧ wpQ P ops Q m S a' w') a w
  | .fork3 i l j m k r, S, a, w => wpOp P ops (fun e a w => e = .normal ∧ Q a w) i (fun a' w' => S i w' ∧ wpQ P ops Q l S a' w') a w ∧
      wpOp P ops (fun e a w => e = .normal ∧ Q a w) j (fun a' w' => S j w' ∧ wpQ P ops Q m S a' w') a w ∧
      wpOp P ops (fun e a w => e = .normal ∧ Q a w) k (fun a' w' => S k w' ∧ wpQ P ops Q r S a' w') a w

theorem wpS_of_Q {Q : Act → World → Prop} {acts : List Nat} (hsel : Region.noSelect ops = true) : ∀ (l : Plan) (n : Nat) (S : Nat → World → Prop) (listed : Array Bool) (a : Act) (w : World), Closed .any ops listed →
    orderOK .any ops acts l n listed = true → wpQ P ops Q l S a w → wpS P .any ops (fun e a w => e = .normal ∧ Q a w) (fun i => acts.contains i) S n listed a w
  | .nil, n, S, listed, a, w, _, ho, h => by
    simp only [orderOK, Bool.and_eq_true, beq_iff_eq] at ho
    obtain ⟨rfl, ho⟩ := ho
    exact ⟨by simpa using ho, rfl, h⟩
  | .look i l, n, S, listed, a, w, hc, ho, h => by
    simp only [orderOK, Bool.and_eq_true, bne_iff_ne, ne_eq] at ho
    obtain ⟨⟨⟨⟨hn, hxi⟩, hr⟩, hf⟩, ho⟩ := ho
    obtain ⟨n, rfl⟩ : ∃ m, n = m + 1 := ⟨n - 1, by omega⟩
    obtain ⟨oi, v, F, hi, hy, hF, h⟩ := h
    have hr' : i ∈ Region.ready .any ops listed := by simpa using hr
    refine wpS_first (ex := fun i => acts.contains i) hi (by simpa using hxi) (Region.noSelect_spec hsel) (by intro c a w h; exact absurd h.1 (by simp)) n listed a w hc (Region.free_spec hi hf) hr' hy hF ?_
    exact wpS_of_Q hsel l _ _ _ _ _ (hc.set hr') ho h
  | .act i l, n, S, listed, a, w, hc, ho, h => by
    simp only [orderOK, Bool.and_eq_true, beq_iff_eq, bne_iff_ne, ne_eq] at ho
    obtain ⟨⟨⟨hn, hxi⟩, hr⟩, ho⟩ := ho
    obtain ⟨n, rfl⟩ : ∃ m, n = m + 1 := ⟨n - 1, by omega⟩
    have hr' : i ∈ Region.ready .any ops listed := by rw [hr]; simp
    refine ⟨fun h0 => (by rw [hr] at h0; cases h0), fun j hj => ?_⟩
    rw [hr] at hj
    have hj' : j = i := by simpa using hj
    subst hj'
    refine wpOp_mono (fun a' w' h' => ⟨fun _ => h'.1, fun h0 => (by cases hxi.symm.trans h0), ?_⟩) h
    exact wpS_of_Q hsel l _ _ _ _ _ (hc.set hr') ho h'.2
  | .fork i l j m, n, S, listed, a, w, hc, ho, h => by
    simp only [orderOK, Bool.and_eq_true, beq_iff_eq, bne_iff_ne, ne_eq] at ho
    obtain ⟨⟨⟨⟨⟨hn, hxi⟩, hxj⟩, hr⟩, ho⟩, hp⟩ := ho
    obtain ⟨n, rfl⟩ : ∃ m, n = m + 1 := ⟨n - 1, by omega⟩
    have hri : i ∈ Region.ready .any ops listed := by rw [hr]; simp
    have hrj : j ∈ Region.ready .any ops listed := by rw [hr]; simp
    refine ⟨fun h0 => (by rw [hr] at h0; cases h0), fun k hk => ?_⟩
    rw [hr] at hk
    have hk' : k = i ∨ k = j := by simpa using hk
    rcases hk' with rfl | rfl
    · refine wpOp_mono (fun a' w' h' => ⟨fun _ => h'.1, fun h0 => (by cases hxi.symm.trans h0), ?_⟩) h.1
      exact wpS_of_Q hsel l _ _ _ _ _ (hc.set hri) ho h'.2
    · refine wpOp_mono (fun a' w' h' => ⟨fun _ => h'.1, fun h0 => (by cases hxj.symm.trans h0), ?_⟩) h.2
      exact wpS_of_Q hsel m _ _ _ _ _ (hc.set hrj) hp h'.2
  | .fork3 i l j m k r, n, S, listed, a, w, hc, ho, h => by
    simp only [orderOK, Bool.and_eq_true, beq_iff_eq, bne_iff_ne, ne_eq] at ho
    obtain ⟨⟨⟨⟨⟨⟨⟨hn, hxi⟩, hxj⟩, hxk⟩, hr⟩, ho⟩, hp⟩, hq⟩ := ho
    obtain ⟨n, rfl⟩ : ∃ m, n = m + 1 := ⟨n - 1, by omega⟩
    have hri : i ∈ Region.ready .any ops listed := by rw [hr]; simp
    have hrj : j ∈ Region.ready .any ops listed := by rw [hr]; simp
    have hrk : k ∈ Region.ready .any ops listed := by rw [hr]; simp
    refine ⟨fun h0 => (by rw [hr] at h0; cases h0), fun t ht => ?_⟩
    rw [hr] at ht
    have ht' : t = i ∨ t = j ∨ t = k := by simpa using ht
    rcases ht' with rfl | rfl | rfl
    · refine wpOp_mono (fun a' w' h' => ⟨fun _ => h'.1, fun h0 => (by cases hxi.symm.trans h0), ?_⟩) h.1
      exact wpS_of_Q hsel l _ _ _ _ _ (hc.set hri) ho h'.2
    · refine wpOp_mono (fun a' w' h' => ⟨fun _ => h'.1, fun h0 => (by cases hxj.symm.trans h0), ?_⟩) h.2.1
      exact wpS_of_Q hsel m _ _ _ _ _ (hc.set hrj) hp h'.2
    · refine wpOp_mono (fun a' w' h' => ⟨fun _ => h'.1, fun h0 => (by cases hxk.symm.trans h0), ?_⟩) h.2.2
      exact wpS_of_Q hsel r _ _ _ _ _ (hc.set hrk) hq h'.2

def orderFits (ops : Array Oper) (acts : List Nat) (l : Plan) : Bool :=
  Region.noSelect ops && orderOK .any ops acts l ops.size (Array.replicate ops.size false)

theorem wp_region_Q {id : Nat} {Q : Exit → Act → World → Prop} {a : Act} {w : World} (acts : List Nat) (l : Plan) (hm : P.follows .mixedOrders = true) (hl : orderFits ops acts l = true)
    (h : wpQ P ops (fun a w => Q .normal a w) l (fun _ _ => True) a w.drew) : (Code.region id ops true).wp P Q a w := by
  unfold orderFits at hl
  simp only [Bool.and_eq_true] at hl
  obtain ⟨hs, ho⟩ := hl
  refine wp_mono (wp_region_any (Q := fun e a w => e = .normal ∧ Q .normal a w) hm ?_) (fun e a w h => by obtain ⟨rfl, h⟩ := h; exact h)
  refine wpAny_of_S (ex := fun i => acts.contains i) (S := fun _ _ => True) _ _ _ _ ?_
  exact wpS_of_Q (P := P) (ops := ops) (Q := fun a w => Q .normal a w) hs l _ (fun _ _ => True) (Array.replicate ops.size false) a w.drew
    (by intro j oj _ hl; exfalso; rcases Nat.lt_or_ge j ops.size with h' | h' <;> simp [h'] at hl) ho h
end

/-! ### The same, over the map -/
section
variable {P : Program} {N : Nat} {Q : Exit → Env → World → Prop} {ρ : Env} {w : World} {ops : Array Oper} {l m r : Plan} {S : Nat → World → Prop}

def WQ (P : Program) (N : Nat) (ops : Array Oper) (l : Plan) (S : Nat → World → Prop) (Q : Exit → Env → World → Prop) (ρ : Env) (w : World) : Prop :=
  ∀ a : Act, a.tmps.size = N → a.defers = [] → env a = ρ → wpQ P ops (fun a w => lift N Q .normal a w) l S a w

theorem WC_draws {id : Nat} {ol : List Oper} (acts : List Nat) (l : Plan) (hm : P.follows .mixedOrders = true) (hl : orderFits ol.toArray acts l = true)
    (h : WQ P N ol.toArray l (fun _ _ => True) Q ρ w.drew) : WC P N (Code.region id ol.toArray true) Q ρ w := fun a h1 h2 h3 =>
  wp_region_Q acts l hm hl (h a h1 h2 h3)

theorem WQ_nil (h : Q .normal ρ w) : WQ P N ops .nil S Q ρ w := fun a h1 h2 h3 => ⟨h1, h2, h3 ▸ h⟩

/-- It looks at the world 'under F', and yields 'v'. -/
theorem WQ_look {i : Nat} {op : Op} {d ty : Nat} {pos : String} {after : Array Edge} {guard : Option (Nat × Bool)} {v : Value} (F : World → Prop)
    (hi : ops[i]? = some ⟨some d, op, ty, pos, after, guard⟩) (hw : wantedE ops ρ ⟨some d, op, ty, pos, after, guard⟩ = true)
    (hr : ∀ w, F w → (execOp (ev ρ) ⟨some d, op, ty, pos, after, guard⟩).run P w = .ok (.value v) w) (hF : F w) (hd : Nat.ble (d + 1) N = true)
    (h : WQ P N ops l (fun j w' => S j w' ∧ ((deps .any ops i).getD j false = false → F w')) Q (upd ρ d v) w) : WQ P N ops (.look i l) S Q ρ w := fun a h1 h2 h3 => by
  have hlt : d < a.tmps.size := by rw [h1]; exact Nat.le_of_ble_eq_true hd
  refine ⟨_, v, F, hi, .inl ⟨by rw [wanted_eq, h3, hw], fun w hF => by rw [eval_eq, h3]; exact hr w hF⟩, hF, ?_⟩
  exact h _ (by rw [size_put, h1]) (by rw [defers_put, h2]) (by rw [env_put _ _ _ hlt, h3])

theorem wpQ_weaken {Q : Act → World → Prop} {S S' : Nat → World → Prop} (hS : ∀ j w', S j w' → S' j w') : ∀ (l : Plan) (a : Act) (w : World), wpQ P ops Q l S a w → wpQ P ops Q l S' a w := by
  intro l
  induction l generalizing S S' with
  | nil => intro a w h; exact h
  | look i l ih =>
    intro a w h
    obtain ⟨oi, v, F, h1, h2, h3, h4⟩ := h
    exact ⟨oi, v, F, h1, h2, h3, ih (fun j w' h => ⟨hS _ _ h.1, h.2⟩) _ _ h4⟩
  | act i l ih => intro a w h; exact wpOp_mono (fun a' w' h' => ⟨hS _ _ h'.1, ih hS _ _ h'.2⟩) h
  | fork i l j m ih ih2 => intro a w h; exact ⟨wpOp_mono (fun a' w' h' => ⟨hS _ _ h'.1, ih hS _ _ h'.2⟩) h.1, wpOp_mono (fun a' w' h' => ⟨hS _ _ h'.1, ih2 hS _ _ h'.2⟩) h.2⟩
  | fork3 i l j m k r ih ih2 ih3 => intro a w h; exact ⟨wpOp_mono (fun a' w' h' => ⟨hS _ _ h'.1, ih hS _ _ h'.2⟩) h.1, wpOp_mono (fun a' w' h' => ⟨hS _ _ h'.1, ih2 hS _ _ h'.2⟩) h.2.1, wpOp_mono (fun a' w' h' => ⟨hS _ _ h'.1, ih3 hS _ _ h'.2⟩) h.2.2⟩

/-- Two that may come up in either order. -/
theorem WQ_fork {i j : Nat} (h1 : WQ P N ops (.act i l) S Q ρ w) (h2 : WQ P N ops (.act j m) S Q ρ w) : WQ P N ops (.fork i l j m) S Q ρ w := fun a k1 k2 k3 => ⟨h1 a k1 k2 k3, h2 a k1 k2 k3⟩
theorem WQ_fork3 {i j k : Nat} (h1 : WQ P N ops (.act i l) S Q ρ w) (h2 : WQ P N ops (.act j m) S Q ρ w) (h3 : WQ P N ops (.act k r) S Q ρ w) : WQ P N ops (.fork3 i l j m k r) S Q ρ w := fun a k1 k2 k3 => ⟨h1 a k1 k2 k3, h2 a k1 k2 k3, h3 a k1 k2 k3⟩

/-- It yields 'v' in whatever world: nothing need be held. -/
theorem WQ_val {i : Nat} {op : Op} {d ty : Nat} {pos : String} {after : Array Edge} {guard : Option (Nat × Bool)} {v : Value}
    (hi : ops[i]? = some ⟨some d, op, ty, pos, after, guard⟩) (hw : wantedE ops ρ ⟨some d, op, ty, pos, after, guard⟩ = true)
    (hr : ∀ w, (execOp (ev ρ) ⟨some d, op, ty, pos, after, guard⟩).run P w = .ok (.value v) w) (hd : Nat.ble (d + 1) N = true)
    (h : WQ P N ops l S Q (upd ρ d v) w) : WQ P N ops (.look i l) S Q ρ w :=
  WQ_look (fun _ => True) hi hw (fun w _ => hr w) trivial hd fun a h1 h2 h3 => wpQ_weaken (fun j w' h => ⟨h, fun _ => trivial⟩) l a w (h a h1 h2 h3)

/-- Its guard says no. -/
theorem WQ_skip {i : Nat} {op : Op} {d ty : Nat} {pos : String} {after : Array Edge} {guard : Option (Nat × Bool)}
    (hi : ops[i]? = some ⟨some d, op, ty, pos, after, guard⟩) (hw : wantedE ops ρ ⟨some d, op, ty, pos, after, guard⟩ = false) (hd : Nat.ble (d + 1) N = true)
    (h : WQ P N ops l S Q (upd ρ d undef) w) : WQ P N ops (.look i l) S Q ρ w := fun a h1 h2 h3 => by
  have hlt : d < a.tmps.size := by rw [h1]; exact Nat.le_of_ble_eq_true hd
  refine ⟨_, undef, fun _ => True, hi, .inr ⟨by rw [wanted_eq, h3, hw], rfl⟩, trivial, ?_⟩
  exact wpQ_weaken (fun j w' h => ⟨h, fun _ => trivial⟩) l _ w (h _ (by rw [size_put, h1]) (by rw [defers_put, h2]) (by rw [env_put _ _ _ hlt, h3]))
theorem WQ_skipNone {i : Nat} {op : Op} {ty : Nat} {pos : String} {after : Array Edge} {guard : Option (Nat × Bool)}
    (hi : ops[i]? = some ⟨none, op, ty, pos, after, guard⟩) (hw : wantedE ops ρ ⟨none, op, ty, pos, after, guard⟩ = false)
    (h : WQ P N ops l S Q ρ w) : WQ P N ops (.look i l) S Q ρ w := fun a h1 h2 h3 => by
  refine ⟨_, undef, fun _ => True, hi, .inr ⟨by rw [wanted_eq, h3, hw], rfl⟩, trivial, ?_⟩
  exact wpQ_weaken (fun j w' h => ⟨h, fun _ => trivial⟩) l _ w (h _ h1 h2 h3)

/-- It acts, and yields a value. -/
theorem WQ_act {i : Nat} {op : Op} {d ty : Nat} {pos : String} {after : Array Edge} {guard : Option (Nat × Bool)} {v : Value} {w' : World}
    (hi : ops[i]? = some ⟨some d, op, ty, pos, after, guard⟩) (hw : wantedE ops ρ ⟨some d, op, ty, pos, after, guard⟩ = true)
    (hr : (execOp (ev ρ) ⟨some d, op, ty, pos, after, guard⟩).run P w = .ok (.value v) w') (hd : Nat.ble (d + 1) N = true)
    (hS : S i w') (h : WQ P N ops l S Q (upd ρ d v) w') : WQ P N ops (.act i l) S Q ρ w := fun a h1 h2 h3 => by
  have hlt : d < a.tmps.size := by rw [h1]; exact Nat.le_of_ble_eq_true hd
  unfold wpQ wpOp
  simp only [hi]
  rw [wanted_eq, h3, hw, if_pos rfl]
  refine .inl ?_
  unfold Oper.wp
  rw [eval_eq, h3, hr]
  exact ⟨hS, h _ (by rw [size_put, h1]) (by rw [defers_put, h2]) (by rw [env_put _ _ _ hlt, h3])⟩

/-- It acts: a store, say. -/
theorem WQ_do {i : Nat} {op : Op} {ty : Nat} {pos : String} {after : Array Edge} {guard : Option (Nat × Bool)} {w' : World}
    (hi : ops[i]? = some ⟨none, op, ty, pos, after, guard⟩) (hw : wantedE ops ρ ⟨none, op, ty, pos, after, guard⟩ = true)
    (hr : (execOp (ev ρ) ⟨none, op, ty, pos, after, guard⟩).run P w = .ok .skip w')
    (hS : S i w') (h : WQ P N ops l S Q ρ w') : WQ P N ops (.act i l) S Q ρ w := fun a h1 h2 h3 => by
  unfold wpQ wpOp
  simp only [hi]
  rw [wanted_eq, h3, hw, if_pos rfl]
  refine .inl ?_
  unfold Oper.wp
  rw [eval_eq, h3, hr]
  exact ⟨hS, h _ h1 h2 h3⟩
theorem WQ_doVal {i : Nat} {op : Op} {ty : Nat} {pos : String} {after : Array Edge} {guard : Option (Nat × Bool)} {v : Value} {w' : World}
    (hi : ops[i]? = some ⟨none, op, ty, pos, after, guard⟩) (hw : wantedE ops ρ ⟨none, op, ty, pos, after, guard⟩ = true)
    (hr : (execOp (ev ρ) ⟨none, op, ty, pos, after, guard⟩).run P w = .ok (.value v) w')
    (hS : S i w') (h : WQ P N ops l S Q ρ w') : WQ P N ops (.act i l) S Q ρ w := fun a h1 h2 h3 => by
  unfold wpQ wpOp
  simp only [hi]
  rw [wanted_eq, h3, hw, if_pos rfl]
  refine .inl ?_
  unfold Oper.wp
  rw [eval_eq, h3, hr]
  exact ⟨hS, h _ h1 h2 h3⟩
/-- An acting operation whose guard says no. -/
theorem WQ_passAct {i : Nat} {op : Op} {d ty : Nat} {pos : String} {after : Array Edge} {guard : Option (Nat × Bool)}
    (hi : ops[i]? = some ⟨some d, op, ty, pos, after, guard⟩) (hw : wantedE ops ρ ⟨some d, op, ty, pos, after, guard⟩ = false) (hd : Nat.ble (d + 1) N = true)
    (hS : S i w) (h : WQ P N ops l S Q (upd ρ d undef) w) : WQ P N ops (.act i l) S Q ρ w := fun a h1 h2 h3 => by
  have hlt : d < a.tmps.size := by rw [h1]; exact Nat.le_of_ble_eq_true hd
  unfold wpQ wpOp
  simp only [hi]
  rw [wanted_eq, h3, hw, if_neg (by simp)]
  exact ⟨hS, h _ (by rw [size_put, h1]) (by rw [defers_put, h2]) (by rw [env_put _ _ _ hlt, h3])⟩
theorem WQ_passDo {i : Nat} {op : Op} {ty : Nat} {pos : String} {after : Array Edge} {guard : Option (Nat × Bool)}
    (hi : ops[i]? = some ⟨none, op, ty, pos, after, guard⟩) (hw : wantedE ops ρ ⟨none, op, ty, pos, after, guard⟩ = false)
    (hS : S i w) (h : WQ P N ops l S Q ρ w) : WQ P N ops (.act i l) S Q ρ w := fun a h1 h2 h3 => by
  unfold wpQ wpOp
  simp only [hi]
  rw [wanted_eq, h3, hw, if_neg (by simp)]
  exact ⟨hS, h _ h1 h2 h3⟩

theorem WQ_call {i : Nat} {op : Op} {d ty : Nat} {pos : String} {after : Array Edge} {guard : Option (Nat × Bool)} {f : FuncId} {args : Array Value}
    (hi : ops[i]? = some ⟨some d, op, ty, pos, after, guard⟩) (hw : wantedE ops ρ ⟨some d, op, ty, pos, after, guard⟩ = true)
    (hr : (execOp (ev ρ) ⟨some d, op, ty, pos, after, guard⟩).run P w = .ok (.enter f args) w) (hd : Nat.ble (d + 1) N = true)
    (h : Does P f args w fun v w' => S i w' ∧ WQ P N ops l S Q (upd ρ d v) w') : WQ P N ops (.act i l) S Q ρ w := fun a h1 h2 h3 => by
  have hlt : d < a.tmps.size := by rw [h1]; exact Nat.le_of_ble_eq_true hd
  unfold wpQ wpOp
  simp only [hi]
  rw [wanted_eq, h3, hw, if_pos rfl]
  refine .inl (Oper.wp_call (by rw [eval_eq, h3]; exact hr) (h.mono fun v w' hv => ⟨hv.1, ?_⟩))
  exact hv.2 _ (by rw [size_put, h1]) (by rw [defers_put, h2]) (by rw [env_put _ _ _ hlt, h3])
theorem WQ_callNone {i : Nat} {op : Op} {ty : Nat} {pos : String} {after : Array Edge} {guard : Option (Nat × Bool)} {f : FuncId} {args : Array Value}
    (hi : ops[i]? = some ⟨none, op, ty, pos, after, guard⟩) (hw : wantedE ops ρ ⟨none, op, ty, pos, after, guard⟩ = true)
    (hr : (execOp (ev ρ) ⟨none, op, ty, pos, after, guard⟩).run P w = .ok (.enter f args) w)
    (h : Does P f args w fun _ w' => S i w' ∧ WQ P N ops l S Q ρ w') : WQ P N ops (.act i l) S Q ρ w := fun a h1 h2 h3 => by
  unfold wpQ wpOp
  simp only [hi]
  rw [wanted_eq, h3, hw, if_pos rfl]
  refine .inl (Oper.wp_call (by rw [eval_eq, h3]; exact hr) (h.mono fun v w' hv => ⟨hv.1, hv.2 _ h1 h2 h3⟩))
end

/-! ### A function, entered and left -/
section
variable {P : Program}

/-- What a call hands back, where its frame ends as 'ρ'. -/
def Gives (P : Program) (fn : Func) (k : Value → World → Prop) (ρ : Env) (w : World) : Prop :=
  ∀ a : Act, a.tmps.size = fn.ntmps → env a = ρ → ∃ v, (results fn a.tmps).run P w = .ok v w ∧ k v w

def retE (P : Program) (fn : Func) (k : Value → World → Prop) : Exit → Env → World → Prop
  | .ret, ρ, w | .normal, ρ, w => Gives P fn k ρ w
  | _, _, _ => False

theorem enter {f : FuncId} {fn : Func} {c : Code} {args : Array Value} {w : World} {k : Value → World → Prop} (N : Nat) (hf : P.funcs[f]? = some fn) (hb : fn.body = some c) (hN : fn.ntmps = N) (hs : Nat.ble args.size N = true)
    (h : ∀ ρ : Env, (∀ i v, args[i]? = some v → ρ i = v) → WC P N c (retE P fn k) ρ w) : Does P f args w k := by
  refine calls_of_wp hf hb ?_
  have hs' : args.size ≤ fn.ntmps := by rw [hN]; exact Nat.le_of_ble_eq_true hs
  refine wp_mono (h _ (fun i v hi => ?_) { tmps := args ++ Array.replicate (fn.ntmps - args.size) undef, defers := [] } (by simp; omega) rfl rfl) ?_
  · have hlt : i < args.size := (Array.getElem?_eq_some_iff.1 hi).1
    unfold env
    simp [Array.getD_eq_getD_getElem?, Array.getElem?_append_left hlt, hi]
  · rintro e a w' ⟨h1, h2, h3⟩
    cases e with
    | normal => obtain ⟨v, hv, hk⟩ := h3 a (by rw [h1, hN]) rfl; exact ⟨h2, v, hv, v, rfl, hk⟩
    | ret => obtain ⟨v, hv, hk⟩ := h3 a (by rw [h1, hN]) rfl; exact ⟨h2, v, hv, v, rfl, hk⟩
    | exit _ => exact h3.elim
    | goto _ => exact h3.elim
    | panic _ => exact h3.elim
    | outgrown => exact h3.elim

theorem gives0 {fn : Func} {k : Value → World → Prop} {ρ : Env} {w : World} (hr : fn.results = #[]) (h : k (.tuple #[]) w) : Gives P fn k ρ w := fun a _ _ =>
  ⟨_, results_none hr _ _ _, h⟩
theorem gives1 {fn : Func} {k : Value → World → Prop} {ρ : Env} {w : World} {t : Tmp} (hr : fn.results = #[.tmp t]) (h : k (ρ t) w) : Gives P fn k ρ w := fun a _ ha =>
  ⟨_, results_tmp hr _ _ _, by rw [show a.tmps.getD t undef = ρ t from congrFun ha t]; exact h⟩
theorem gives2 {fn : Func} {k : Value → World → Prop} {ρ : Env} {w : World} {t u : Tmp} (hr : fn.results = #[.tmp t, .tmp u]) (h : k (.tuple #[ρ t, ρ u]) w) : Gives P fn k ρ w := fun a _ ha =>
  ⟨_, results_tmp2 hr _ _ _, by rw [show a.tmps.getD t undef = ρ t from congrFun ha t, show a.tmps.getD u undef = ρ u from congrFun ha u]; exact h⟩
end
end Go.Sh

/-
  One law for each operation that the programs of this family use: what it yields, off the map of the frame and the world. No program is named.
-/
namespace Go.Sh
open Go
set_option linter.unusedVariables false
set_option linter.unusedSimpArgs false

/-! ### Go's integer operations, under names that nothing opens by itself -/
def shl (k : IntKind) (x y : Int) : Int := k.wrap (x * 2 ^ (min y.toNat k.bits))
def shr (k : IntKind) (x y : Int) : Int := x.fdiv (2 ^ (min y.toNat k.bits))
def band (k : IntKind) (x y : Int) : Int := k.wrap ((BitVec.ofInt k.bits x &&& BitVec.ofInt k.bits y).toNat : Int)
def bor (k : IntKind) (x y : Int) : Int := k.wrap ((BitVec.ofInt k.bits x ||| BitVec.ofInt k.bits y).toNat : Int)
def bxor (k : IntKind) (x y : Int) : Int := k.wrap ((BitVec.ofInt k.bits x ^^^ BitVec.ofInt k.bits y).toNat : Int)
def bclr (k : IntKind) (x y : Int) : Int := k.wrap ((BitVec.ofInt k.bits x &&& ~~~ BitVec.ofInt k.bits y).toNat : Int)

section
variable {P : Program} {ρ : Env} {dst : Option Tmp} {ty : TypeId} {pos : String} {after : Array Edge} {guard : Option (Nat × Bool)} {w : World}

theorem o_move {x : Operand} {v : Value} (h : ev ρ x = v) (w : World) : (execOp (ev ρ) ⟨dst, .move x, ty, pos, after, guard⟩).run P w = .ok (.value v) w := by
  simp [execOp, h]
theorem o_assign {x : Operand} {v : Value} (h : ev ρ x = v) (w : World) : (execOp (ev ρ) ⟨dst, .assign x, ty, pos, after, guard⟩).run P w = .ok (.value v) w := by
  simp [execOp, h]
theorem o_pick {c a b : Operand} {t : Bool} {v : Value} (hc : ev ρ c = .bool t) (hv : (if t = true then ev ρ a else ev ρ b) = v) (w : World) :
    (execOp (ev ρ) ⟨dst, .pick c a b, ty, pos, after, guard⟩).run P w = .ok (.value v) w := by
  simp [execOp, hc, asBool, hv]
theorem o_nilCheck {x : Operand} {a : Addr} (h : ev ρ x = .pointer (some a)) (w : World) : (execOp (ev ρ) ⟨dst, .nilCheck x, ty, pos, after, guard⟩).run P w = .ok (.value (.pointer (some a))) w := by
  simp [execOp, h]
theorem o_nilCheckFunc {x : Operand} {f : FuncId} {b c : Array Value} (h : ev ρ x = .func (.func f) b c) (w : World) : (execOp (ev ρ) ⟨dst, .nilCheck x, ty, pos, after, guard⟩).run P w = .ok (.value (.func (.func f) b c)) w := by
  simp [execOp, h]

/-! #### numbers -/
section
variable {t u : TypeId} {x y : Operand} {k : IntKind} {m n : Int} (hx : ev ρ x = .int k m) (hy : ev ρ y = .int k n) (w : World)
include hx hy
theorem o_add : (execOp (ev ρ) ⟨dst, .binOp .add t x y u, ty, pos, after, guard⟩).run P w = .ok (.value (.int k (k.wrap (m + n)))) w := by
  simp [execOp, hx, hy, eqGuard, binOp, Op.intArith]
theorem o_sub : (execOp (ev ρ) ⟨dst, .binOp .sub t x y u, ty, pos, after, guard⟩).run P w = .ok (.value (.int k (k.wrap (m - n)))) w := by
  simp [execOp, hx, hy, eqGuard, binOp, Op.intArith]
theorem o_mul : (execOp (ev ρ) ⟨dst, .binOp .mul t x y u, ty, pos, after, guard⟩).run P w = .ok (.value (.int k (k.wrap (m * n)))) w := by
  simp [execOp, hx, hy, eqGuard, binOp, Op.intArith]
theorem o_quo (hn : n ≠ 0) : (execOp (ev ρ) ⟨dst, .binOp .quo t x y u, ty, pos, after, guard⟩).run P w = .ok (.value (.int k (k.wrap (m.tdiv n)))) w := by
  simp [execOp, hx, hy, eqGuard, binOp, Op.intDiv, hn]
theorem o_rem (hn : n ≠ 0) : (execOp (ev ρ) ⟨dst, .binOp .rem t x y u, ty, pos, after, guard⟩).run P w = .ok (.value (.int k (m.tmod n))) w := by
  simp [execOp, hx, hy, eqGuard, binOp, Op.intDiv, hn]
theorem o_and : (execOp (ev ρ) ⟨dst, .binOp .and t x y u, ty, pos, after, guard⟩).run P w = .ok (.value (.int k (band k m n))) w := by
  simp [execOp, hx, hy, eqGuard, binOp, Op.intBits, band]
theorem o_or : (execOp (ev ρ) ⟨dst, .binOp .or t x y u, ty, pos, after, guard⟩).run P w = .ok (.value (.int k (bor k m n))) w := by
  simp [execOp, hx, hy, eqGuard, binOp, Op.intBits, bor]
theorem o_xor : (execOp (ev ρ) ⟨dst, .binOp .xor t x y u, ty, pos, after, guard⟩).run P w = .ok (.value (.int k (bxor k m n))) w := by
  simp [execOp, hx, hy, eqGuard, binOp, Op.intBits, bxor]
theorem o_andNot : (execOp (ev ρ) ⟨dst, .binOp .andNot t x y u, ty, pos, after, guard⟩).run P w = .ok (.value (.int k (bclr k m n))) w := by
  simp [execOp, hx, hy, eqGuard, binOp, Op.intBits, bclr]
theorem o_eql : (execOp (ev ρ) ⟨dst, .binOp .eql t x y u, ty, pos, after, guard⟩).run P w = .ok (.value (.bool (decide (m = n)))) w := by
  simp [execOp, hx, hy, eqGuard, binOp, Op.intCmp]
  by_cases h : m = n <;> simp [h]
theorem o_neq : (execOp (ev ρ) ⟨dst, .binOp .neq t x y u, ty, pos, after, guard⟩).run P w = .ok (.value (.bool (decide (m ≠ n)))) w := by
  simp [execOp, hx, hy, eqGuard, binOp, Op.intCmp]
  by_cases h : m = n <;> simp [h]
theorem o_lss : (execOp (ev ρ) ⟨dst, .binOp .lss t x y u, ty, pos, after, guard⟩).run P w = .ok (.value (.bool (decide (m < n)))) w := by
  simp [execOp, hx, hy, eqGuard, binOp, Op.intCmp]
theorem o_leq : (execOp (ev ρ) ⟨dst, .binOp .leq t x y u, ty, pos, after, guard⟩).run P w = .ok (.value (.bool (decide (m ≤ n)))) w := by
  simp [execOp, hx, hy, eqGuard, binOp, Op.intCmp]
theorem o_gtr : (execOp (ev ρ) ⟨dst, .binOp .gtr t x y u, ty, pos, after, guard⟩).run P w = .ok (.value (.bool (decide (n < m)))) w := by
  simp [execOp, hx, hy, eqGuard, binOp, Op.intCmp]
theorem o_geq : (execOp (ev ρ) ⟨dst, .binOp .geq t x y u, ty, pos, after, guard⟩).run P w = .ok (.value (.bool (decide (n ≤ m)))) w := by
  simp [execOp, hx, hy, eqGuard, binOp, Op.intCmp]
end

theorem o_shl {t u : TypeId} {x y : Operand} {k k' : IntKind} {m n : Int} (hx : ev ρ x = .int k m) (hy : ev ρ y = .int k' n) (hn : 0 ≤ n) (w : World) :
    (execOp (ev ρ) ⟨dst, .binOp .shl t x y u, ty, pos, after, guard⟩).run P w = .ok (.value (.int k (shl k m n))) w := by
  have h : ¬ n < 0 := by omega
  simp [execOp, hx, hy, eqGuard, binOp, Op.shift, h, shl]
theorem o_shr {t u : TypeId} {x y : Operand} {k k' : IntKind} {m n : Int} (hx : ev ρ x = .int k m) (hy : ev ρ y = .int k' n) (hn : 0 ≤ n) (w : World) :
    (execOp (ev ρ) ⟨dst, .binOp .shr t x y u, ty, pos, after, guard⟩).run P w = .ok (.value (.int k (shr k m n))) w := by
  have h : ¬ n < 0 := by omega
  simp [execOp, hx, hy, eqGuard, binOp, Op.shift, h, shr]

/-! #### other comparisons -/
theorem equal_of {t : TypeId} {x y : Value} {b : Bool} {w' : World} (h : ∀ d, (Op.equalIn (d + 1) t x y).run P w = .ok b w') : (Op.equal t x y).run P w = .ok b w' := h 9999

theorem o_eqlOf {t u : TypeId} {x y : Operand} {a b : Value} {r : Bool} (hx : ev ρ x = a) (hy : ev ρ y = b) (hg : (eqGuard .eql t x y a b).run P w = .ok () w) (hb : binOp .eql t a b = (do pure (.bool (← Op.equal t a b))))
    (h : ∀ d, (Op.equalIn (d + 1) t a b).run P w = .ok r w) : (execOp (ev ρ) ⟨dst, .binOp .eql t x y u, ty, pos, after, guard⟩).run P w = .ok (.value (.bool r)) w := by
  simp only [execOp, hx, hy, Sem.run_bind, Sem.run_pure, hg, Result.andThen_ok, hb, equal_of h]
theorem o_neqOf {t u : TypeId} {x y : Operand} {a b : Value} {r : Bool} (hx : ev ρ x = a) (hy : ev ρ y = b) (hg : (eqGuard .neq t x y a b).run P w = .ok () w) (hb : binOp .neq t a b = (do pure (.bool (!(← Op.equal t a b)))))
    (h : ∀ d, (Op.equalIn (d + 1) t a b).run P w = .ok r w) : (execOp (ev ρ) ⟨dst, .binOp .neq t x y u, ty, pos, after, guard⟩).run P w = .ok (.value (.bool (!r))) w := by
  simp only [execOp, hx, hy, Sem.run_bind, Sem.run_pure, hg, Result.andThen_ok, hb, equal_of h]

theorem equal_of5 {t : TypeId} {x y : Value} {b : Bool} {w' : World} (h : ∀ d, (Op.equalIn (d + 5) t x y).run P w = .ok b w') : (Op.equal t x y).run P w = .ok b w' := h 9995
theorem o_eqlOf5 {t u : TypeId} {x y : Operand} {a b : Value} {r : Bool} (hx : ev ρ x = a) (hy : ev ρ y = b) (hg : (eqGuard .eql t x y a b).run P w = .ok () w) (hb : binOp .eql t a b = (do pure (.bool (← Op.equal t a b))))
    (h : ∀ d, (Op.equalIn (d + 5) t a b).run P w = .ok r w) : (execOp (ev ρ) ⟨dst, .binOp .eql t x y u, ty, pos, after, guard⟩).run P w = .ok (.value (.bool r)) w := by
  simp only [execOp, hx, hy, Sem.run_bind, Sem.run_pure, hg, Result.andThen_ok, hb, equal_of5 h]
theorem o_neqOf5 {t u : TypeId} {x y : Operand} {a b : Value} {r : Bool} (hx : ev ρ x = a) (hy : ev ρ y = b) (hg : (eqGuard .neq t x y a b).run P w = .ok () w) (hb : binOp .neq t a b = (do pure (.bool (!(← Op.equal t a b)))))
    (h : ∀ d, (Op.equalIn (d + 5) t a b).run P w = .ok r w) : (execOp (ev ρ) ⟨dst, .binOp .neq t x y u, ty, pos, after, guard⟩).run P w = .ok (.value (.bool (!r))) w := by
  simp only [execOp, hx, hy, Sem.run_bind, Sem.run_pure, hg, Result.andThen_ok, hb, equal_of5 h]
theorem o_eqlBool {t u : TypeId} {x y : Operand} {a b : Bool} (hu : P.underlying t = some .bool) (hx : ev ρ x = .bool a) (hy : ev ρ y = .bool b) (w : World) :
    (execOp (ev ρ) ⟨dst, .binOp .eql t x y u, ty, pos, after, guard⟩).run P w = .ok (.value (.bool (a == b))) w :=
  o_eqlOf hx hy (by simp [eqGuard]) rfl (fun d => by simp [Op.equalIn, run_underlying hu])
theorem o_neqBool {t u : TypeId} {x y : Operand} {a b : Bool} (hu : P.underlying t = some .bool) (hx : ev ρ x = .bool a) (hy : ev ρ y = .bool b) (w : World) :
    (execOp (ev ρ) ⟨dst, .binOp .neq t x y u, ty, pos, after, guard⟩).run P w = .ok (.value (.bool (!(a == b)))) w :=
  o_neqOf hx hy (by simp [eqGuard]) rfl (fun d => by simp [Op.equalIn, run_underlying hu])
theorem o_eqlStr {t u : TypeId} {x y : Operand} {a b : ByteArray} (hx : ev ρ x = .string a) (hy : ev ρ y = .string b) (w : World) :
    (execOp (ev ρ) ⟨dst, .binOp .eql t x y u, ty, pos, after, guard⟩).run P w = .ok (.value (.bool (a.toList == b.toList))) w := by
  simp [execOp, hx, hy, eqGuard, binOp, Op.stringOp]
theorem o_neqStr {t u : TypeId} {x y : Operand} {a b : ByteArray} (hx : ev ρ x = .string a) (hy : ev ρ y = .string b) (w : World) :
    (execOp (ev ρ) ⟨dst, .binOp .neq t x y u, ty, pos, after, guard⟩).run P w = .ok (.value (.bool !(a.toList == b.toList))) w := by
  simp [execOp, hx, hy, eqGuard, binOp, Op.stringOp]
theorem o_eqlPtrNil {t u e : TypeId} {x y : Operand} {a : Option Addr} (hu : P.underlying t = some (.pointer e)) (hx : ev ρ x = .pointer a) (hy : ev ρ y = .pointer none) (w : World) :
    (execOp (ev ρ) ⟨dst, .binOp .eql t x y u, ty, pos, after, guard⟩).run P w = .ok (.value (.bool a.isNone)) w := by
  cases a
  · exact o_eqlOf hx hy (by simp [eqGuard]) rfl (fun d => by simp [Op.equalIn, run_underlying hu])
  · exact o_eqlOf hx hy (by simp [eqGuard]) rfl (fun d => by simp [Op.equalIn, run_underlying hu])
theorem o_neqPtrNil {t u e : TypeId} {x y : Operand} {a : Option Addr} (hu : P.underlying t = some (.pointer e)) (hx : ev ρ x = .pointer a) (hy : ev ρ y = .pointer none) (w : World) :
    (execOp (ev ρ) ⟨dst, .binOp .neq t x y u, ty, pos, after, guard⟩).run P w = .ok (.value (.bool (!a.isNone))) w := by
  cases a
  · exact o_neqOf hx hy (by simp [eqGuard]) rfl (fun d => by simp [Op.equalIn, run_underlying hu])
  · exact o_neqOf hx hy (by simp [eqGuard]) rfl (fun d => by simp [Op.equalIn, run_underlying hu])
theorem o_eqlSliceNil {t u e : TypeId} {x y : Operand} {a : Option Addr} {n c : Nat} (hu : P.underlying t = some (.slice e)) (hx : ev ρ x = .slice a n c) (hy : ev ρ y = .slice none 0 0) (w : World) :
    (execOp (ev ρ) ⟨dst, .binOp .eql t x y u, ty, pos, after, guard⟩).run P w = .ok (.value (.bool a.isNone)) w := by
  cases a
  · exact o_eqlOf hx hy (by simp [eqGuard]) rfl (fun d => by simp [Op.equalIn, run_underlying hu])
  · exact o_eqlOf hx hy (by simp [eqGuard]) rfl (fun d => by simp [Op.equalIn, run_underlying hu])
theorem o_neqSliceNil {t u e : TypeId} {x y : Operand} {a : Option Addr} {n c : Nat} (hu : P.underlying t = some (.slice e)) (hx : ev ρ x = .slice a n c) (hy : ev ρ y = .slice none 0 0) (w : World) :
    (execOp (ev ρ) ⟨dst, .binOp .neq t x y u, ty, pos, after, guard⟩).run P w = .ok (.value (.bool (!a.isNone))) w := by
  cases a
  · exact o_neqOf hx hy (by simp [eqGuard]) rfl (fun d => by simp [Op.equalIn, run_underlying hu])
  · exact o_neqOf hx hy (by simp [eqGuard]) rfl (fun d => by simp [Op.equalIn, run_underlying hu])
/-- Two addresses of one block. -/
theorem o_eqlPtr {t u e : TypeId} {x y : Operand} {a b : Addr} {z : Nat} (hu : P.underlying t = some (.pointer e)) (hs : ∀ w, (sizeOf e).run P w = .ok z w) (h0 : Nat.ble 1 z = true)
    (hx : ev ρ x = .pointer (some a)) (hy : ev ρ y = .pointer (some b)) (hb : a.block = b.block) (w : World) :
    (execOp (ev ρ) ⟨dst, .binOp .eql t x y u, ty, pos, after, guard⟩).run P w = .ok (.value (.bool (a == b))) w := by
  have h1 : z ≠ 0 := by have := Nat.le_of_ble_eq_true h0; omega
  exact o_eqlOf hx hy (by simp [eqGuard]) rfl (fun d => by simp [Op.equalIn, run_underlying hu, hs, h1, sameAddr, hb])
theorem o_neqPtr {t u e : TypeId} {x y : Operand} {a b : Addr} {z : Nat} (hu : P.underlying t = some (.pointer e)) (hs : ∀ w, (sizeOf e).run P w = .ok z w) (h0 : Nat.ble 1 z = true)
    (hx : ev ρ x = .pointer (some a)) (hy : ev ρ y = .pointer (some b)) (hb : a.block = b.block) (w : World) :
    (execOp (ev ρ) ⟨dst, .binOp .neq t x y u, ty, pos, after, guard⟩).run P w = .ok (.value (.bool (!(a == b)))) w := by
  have h1 : z ≠ 0 := by have := Nat.le_of_ble_eq_true h0; omega
  exact o_neqOf hx hy (by simp [eqGuard]) rfl (fun d => by simp [Op.equalIn, run_underlying hu, hs, h1, sameAddr, hb])

theorem o_not {t : TypeId} {x : Operand} {b : Bool} (hx : ev ρ x = .bool b) (w : World) :
    (execOp (ev ρ) ⟨dst, .unOp .not t x, ty, pos, after, guard⟩).run P w = .ok (.value (.bool (!b))) w := by
  simp [execOp, hx, Op.unary]
theorem o_neg {t : TypeId} {x : Operand} {k : IntKind} {n : Int} (hx : ev ρ x = .int k n) (w : World) :
    (execOp (ev ρ) ⟨dst, .unOp .neg t x, ty, pos, after, guard⟩).run P w = .ok (.value (.int k (k.wrap (0 - n)))) w := by
  simp [execOp, hx, Op.unary, Op.intArith]
theorem o_com {t : TypeId} {x : Operand} {k : IntKind} {n : Int} (hx : ev ρ x = .int k n) (w : World) :
    (execOp (ev ρ) ⟨dst, .unOp .xor t x, ty, pos, after, guard⟩).run P w = .ok (.value (.int k (bxor k (if k.signed = true then -1 else k.max) n))) w := by
  simp [execOp, hx, Op.unary, Op.intBits, bxor]
theorem o_conv {s t : TypeId} {x : Operand} {k k' : IntKind} {n : Int} {d : TypeDesc} (hs : P.underlying s = some d) (hu : P.underlying t = some (.int k)) (hx : ev ρ x = .int k' n) (w : World) :
    (execOp (ev ρ) ⟨dst, .convert s t x, ty, pos, after, guard⟩).run P w = .ok (.value (.int k (k.wrap n))) w := by
  simp [execOp, hx, convert, run_underlying hu, run_underlying hs, Conv.intToInt]

/-! #### places -/
theorem o_fieldAddr (off : Nat) {s : TypeId} {x : Operand} {i : Nat} {fs : Array Field} {f : Field} {a : Addr} {z : Nat} (hu : P.underlying s = some (.struct fs)) (hf : fs[i]? = some f)
    (hz : ∀ w, (sizeOf f.type).run P w = .ok z w) (h0 : Nat.ble 1 z = true) (ho : f.offset = off) (hx : ev ρ x = .pointer (some a)) (w : World) :
    (execOp (ev ρ) ⟨dst, .fieldAddr s x i, ty, pos, after, guard⟩).run P w = .ok (.value (.pointer (some (a.add off)))) w := by
  subst ho
  have h1 : z ≠ 0 := by have := Nat.le_of_ble_eq_true h0; omega
  simp [execOp, hx, Instr.fieldAt, run_underlying hu, hf, Instr.sureAddr, fieldPlace, hz, h1]
theorem o_indexAddr {t e : TypeId} {x y : Operand} {a : Addr} {n c : Nat} {k : IntKind} {i : Int} {z : Nat} (hu : P.underlying t = some (.slice e)) (hz : ∀ w, (sizeOf e).run P w = .ok z w)
    (hx : ev ρ x = .slice (some a) n c) (hy : ev ρ y = .int k i) (h0 : 0 ≤ i) (h1 : i < n) (w : World) :
    (execOp (ev ρ) ⟨dst, .indexAddr t x y, ty, pos, after, guard⟩).run P w = .ok (.value (.pointer (some (a.add (i.toNat * z))))) w := by
  simp [execOp, hx, hy, Instr.indexAt, asIntOf, run_underlying hu, hz, h0, h1]
theorem o_indexAddrArr {t e : TypeId} {x y : Operand} {a : Addr} {n : Nat} {k : IntKind} {i : Int} {z : Nat} (hu : P.underlying t = some (.array n e)) (hz : ∀ w, (sizeOf e).run P w = .ok z w)
    (hx : ev ρ x = .pointer (some a)) (hy : ev ρ y = .int k i) (h0 : 0 ≤ i) (h1 : i < n) (w : World) :
    (execOp (ev ρ) ⟨dst, .indexAddr t x y, ty, pos, after, guard⟩).run P w = .ok (.value (.pointer (some (a.add (i.toNat * z))))) w := by
  simp [execOp, hx, hy, Instr.indexAt, asIntOf, run_underlying hu, hz, h0, h1, Instr.sureAddr]
end
end Go.Sh

/-
  The laws of the operations that touch memory, and of calls. No program is named.
-/
namespace Go.Sh
open Go
set_option linter.unusedVariables false
set_option linter.unusedSimpArgs false

/-- The cells from place i on are these. -/
def Cells (w : World) (a : Addr) : Nat → List Value → Prop
  | _, [] => True
  | i, v :: vs => w.cell? (a.add i) = some v ∧ Cells w a (i + 1) vs

def Writable (w : World) (a : Addr) : Prop := (∃ u, w.cell? a = some u) ∧ w.frozen? a = false

def CanSet (w : World) (a : Addr) : Nat → Nat → Prop
  | _, 0 => True
  | i, n + 1 => Writable w (a.add i) ∧ CanSet w a (i + 1) n

def setAll (w : World) (a : Addr) : Nat → List Value → World
  | _, [] => w
  | i, v :: vs => setAll (w.setCell (a.add i) v) a (i + 1) vs

def fresh (w : World) : Addr := ⟨w.heap.size, 0, none⟩
def push (w : World) (t : TypeId) (cs : List Value) : World := w.alloc (.cells cs.toArray t)

/-- Where a slice that is cut at l begins. -/
def cutA (a : Option Addr) (c l z : Nat) : Option Addr := if c = l then a else a.map (·.add (l * z))

def one (v : Value) : Bool := match v with | .agg _ | .tuple _ => false | _ => true

theorem Cells.get {w : World} {a : Addr} : ∀ {vs : List Value} {i : Nat}, Cells w a i vs → ∀ j v, vs[j]? = some v → w.cell? (a.add (i + j)) = some v
  | [], _, _, j, v, h => by simp at h
  | u :: vs, i, hc, j, v, h => by
    cases j with
    | zero => simp at h; subst h; exact hc.1
    | succ j =>
      have := Cells.get hc.2 j v (by simpa using h)
      rw [show i + (j + 1) = i + 1 + j by omega]
      exact this

theorem cellof_setCell (w : World) (a b : Addr) (v : Value) (hw : Writable w b) : Writable (w.setCell a v) b := by
  obtain ⟨⟨u, hu⟩, hf⟩ := hw
  constructor
  · unfold World.cell? World.setCell at *
    simp only [Array.getElem?_modify]
    by_cases h : a.block = b.block
    · rw [if_pos h]
      cases hb : w.heap[b.block]? with
      | none => rw [hb] at hu; cases hu
      | some o =>
        rw [hb] at hu
        cases o <;> simp at hu ⊢
        rename_i c e fz
        refine ⟨hu.1, ?_⟩
        by_cases hs : a.spot.isSome
        · rw [if_pos hs]; exact ⟨u, hu.2⟩
        · rw [if_neg hs]
          by_cases ho : a.off = b.off
          · have hlt : b.off < c.size := (Array.getElem?_eq_some_iff.1 hu.2).1
            exact ⟨v, by rw [ho]; simp [hlt]⟩
          · exact ⟨u, by rw [Array.getElem?_setIfInBounds_ne ho]; exact hu.2⟩
    · rw [if_neg h]; exact ⟨u, hu⟩
  · unfold World.frozen? World.setCell at *
    simp only [Array.getElem?_modify]
    by_cases h : a.block = b.block
    · rw [if_pos h]
      cases hb : w.heap[b.block]? with
      | none => simp
      | some o => rw [hb] at hf; cases o <;> simp at hf ⊢; exact hf
    · rw [if_neg h]; exact hf

theorem CanSet.setCell {w : World} {a b : Addr} {v : Value} : ∀ {n i : Nat}, CanSet w a i n → CanSet (w.setCell b v) a i n
  | 0, _, _ => trivial
  | n + 1, i, h => ⟨cellof_setCell _ _ _ _ h.1, CanSet.setCell h.2⟩

section
variable {P : Program} {ρ : Env} {dst : Option Tmp} {ty : TypeId} {pos : String} {after : Array Edge} {guard : Option (Nat × Bool)} {w : World}

theorem run_storeAll {P : Program} (a : Addr) : ∀ (vs : List Value) (i : Nat) (w : World), CanSet w a i vs.length → (∀ v ∈ vs, one v = true) →
    (storeCells a vs i).run P w = .ok () (setAll w a i vs)
  | [], _, _, _, _ => by simp [storeCells, setAll]
  | v :: vs, i, w, hc, h1 => by
    have hv := h1 v (by simp)
    obtain ⟨⟨⟨u, hu⟩, hf⟩, hc⟩ := hc
    have : (store (a.add i) v).run P w = .ok () (w.setCell (a.add i) v) := by
      unfold store
      cases v <;> first | (simp [one] at hv; done) | simp [Sem.run, hu, hf]
    simp only [storeCells, Sem.run_bind, this, Result.andThen_ok, setAll]
    exact run_storeAll a vs (i + 1) _ hc.setCell (fun v hv => h1 v (by simp [hv]))

theorem run_loadAll {P : Program} (a : Addr) (vs : List Value) (w : World) (hc : Cells w a 0 vs) : (loadCells a vs.length).run P w = .ok vs.toArray w :=
  run_loadCells_list _ a vs (fun j v h => by simpa using hc.get j v h)

theorem o_load {t : TypeId} {x : Operand} {a : Addr} {v : Value} (ha : ∀ w, (isAgg t).run P w = .ok false w) (hx : ev ρ x = .pointer (some a)) (hc : w.cell? a = some v) :
    (execOp (ev ρ) ⟨dst, .load t x, ty, pos, after, guard⟩).run P w = .ok (.value v) w := by
  simp [execOp, hx, Instr.loadAt, Instr.sureAddr, loadVar, ha, hc]
theorem o_loadAgg {t : TypeId} {x : Operand} {a : Addr} {vs : List Value} (ha : ∀ w, (isAgg t).run P w = .ok true w) (hs : ∀ w, (sizeOf t).run P w = .ok vs.length w)
    (hx : ev ρ x = .pointer (some a)) (hc : Cells w a 0 vs) :
    (execOp (ev ρ) ⟨dst, .load t x, ty, pos, after, guard⟩).run P w = .ok (.value (.agg vs.toArray)) w := by
  simp [execOp, hx, Instr.loadAt, Instr.sureAddr, loadVar, ha, hs, run_loadAll a vs w hc]

theorem o_store {t : TypeId} {x y : Operand} {a : Addr} {v : Value} (hs : ∀ w, (sizeOf t).run P w = .ok 1 w) (hx : ev ρ x = .pointer (some a)) (hy : ev ρ y = v) (h1 : one v = true) (hc : Writable w a) :
    (execOp (ev ρ) ⟨dst, .store t x y, ty, pos, after, guard⟩).run P w = .ok .skip (w.setCell a v) := by
  obtain ⟨⟨u, hu⟩, hf⟩ := hc
  have hcells : v.cells = #[v] := by cases v <;> first | rfl | (simp [one] at h1; done)
  have := run_storeAll (P := P) a [v] 0 w (by exact ⟨⟨⟨u, by simpa [Addr.add] using hu⟩, by simpa [Addr.add] using hf⟩, trivial⟩) (by simpa using h1)
  simp [execOp, hx, hy, Instr.storeAt, Instr.sureAddr, storeVar, hs, hcells, this, setAll, Addr.add]
theorem o_storeAgg {t : TypeId} {x y : Operand} {a : Addr} {vs : List Value} (hs : ∀ w, (sizeOf t).run P w = .ok vs.length w) (hx : ev ρ x = .pointer (some a)) (hy : ev ρ y = .agg vs.toArray) (h1 : vs.all one = true)
    (hc : CanSet w a 0 vs.length) :
    (execOp (ev ρ) ⟨dst, .store t x y, ty, pos, after, guard⟩).run P w = .ok .skip (setAll w a 0 vs) := by
  have h1' : ∀ v ∈ vs, one v = true := by simpa using h1
  have := run_storeAll (P := P) a vs 0 w hc h1'
  simp [execOp, hx, hy, Instr.storeAt, Instr.sureAddr, storeVar, hs, Value.cells, this]

theorem o_alloc {t : TypeId} {z : Value} {cs : List Value} (hz : ∀ w, (zeroValue t).run P w = .ok z w) (hc : z.cells = cs.toArray) :
    (execOp (ev ρ) ⟨dst, .alloc t, ty, pos, after, guard⟩).run P w = .ok (.value (.pointer (some (fresh w)))) (push w t cs) := by
  simp [execOp, Instr.alloc, hz, newVar, newRow, hc, fresh, push]
theorem o_box {t : TypeId} {x : Operand} {v : Value} {cs : List Value} (hx : ev ρ x = v) (hc : v.cells = cs.toArray) :
    (execOp (ev ρ) ⟨dst, .box t x, ty, pos, after, guard⟩).run P w = .ok (.value (.pointer (some (fresh w)))) (push w t cs) := by
  simp [execOp, hx, Instr.box, newVar, newRow, hc, fresh, push]
/-- A value built of parts: 'hb' is a closed fact. -/
theorem o_build {t : TypeId} {l : List (Nat × Operand)} {ps : List (Nat × Value)} {v : Value} (hl : l.map (fun p => (p.1, ev ρ p.2)) = ps) (hb : ∀ w, (Instr.build t ps.toArray).run P w = .ok v w) (w : World) :
    (execOp (ev ρ) ⟨dst, .build t l.toArray, ty, pos, after, guard⟩).run P w = .ok (.value v) w := by
  have : (l.toArray.map fun (i, x) => (i, ev ρ x)) = ps.toArray := by simp [← hl]
  simp [execOp, this, hb]
theorem o_buildSlice {t e : TypeId} {n : Nat} {l : List (Nat × Operand)} {ps : List (Nat × Value)} {cs : List Value} (hl : l.map (fun p => (p.1, ev ρ p.2)) = ps)
    (hb : ∀ w, (Instr.buildSlice t n ps.toArray).run P w = .ok (.slice (some (fresh w)) n n) (push w e cs)) :
    (execOp (ev ρ) ⟨dst, .buildSlice t n l.toArray, ty, pos, after, guard⟩).run P w = .ok (.value (.slice (some (fresh w)) n n)) (push w e cs) := by
  have : (l.toArray.map fun (i, x) => (i, ev ρ x)) = ps.toArray := by simp [← hl]
  simp [execOp, this, hb]

theorem o_field {t : TypeId} {x : Operand} {i : Nat} {v r : Value} (hx : ev ρ x = v) (hf : ∀ w, (Instr.field t v i).run P w = .ok r w) (w : World) :
    (execOp (ev ρ) ⟨dst, .field t x i, ty, pos, after, guard⟩).run P w = .ok (.value r) w := by
  simp [execOp, hx, hf]
theorem o_extract {x : Operand} {i : Nat} {vs : List Value} {r : Value} (hx : ev ρ x = .tuple vs.toArray) (hf : vs[i]? = some r) (w : World) :
    (execOp (ev ρ) ⟨dst, .extract x i, ty, pos, after, guard⟩).run P w = .ok (.value r) w := by
  simp [execOp, hx, Instr.extract, hf]
theorem o_makeFunc {f : FuncId} {l m : List Operand} {vs us : List Value} (hl : l.map (ev ρ) = vs) (hm : m.map (ev ρ) = us) (w : World) :
    (execOp (ev ρ) ⟨dst, .makeFunc (.func f) l.toArray m.toArray, ty, pos, after, guard⟩).run P w = .ok (.value (.func (.func f) vs.toArray us.toArray)) w := by
  simp [execOp, Instr.makeFunc, ← hl, ← hm]
theorem o_makeInterface {t : TypeId} {x : Operand} {v : Value} (hx : ev ρ x = v) (hf : ∀ w, (Instr.makeInterface t v).run P w = .ok (.iface t v) w) (w : World) :
    (execOp (ev ρ) ⟨dst, .makeInterface t x, ty, pos, after, guard⟩).run P w = .ok (.value (.iface t v)) w := by
  simp [execOp, hx, hf]

/-! #### slices -/
theorem bound_ok {k : IntKind} {i : Int} {y : Nat} {c : BoundsCode} (h0 : 0 ≤ i) (h1 : i ≤ y) : (Instr.sliceBound (.int k i) y c).run P w = .ok i.toNat w := by
  simp [Instr.sliceBound, asIntOf, h0, h1]

section
variable {t e : TypeId} {x : Operand} {a : Option Addr} {n c z : Nat} (hu : P.underlying t = some (.slice e)) (hz : ∀ w, (sizeOf e).run P w = .ok z w) (hx : ev ρ x = .slice a n c)
include hu hz hx
theorem o_sliceAll (h : n ≤ c) (w : World) : (execOp (ev ρ) ⟨dst, .slice t x none none none, ty, pos, after, guard⟩).run P w = .ok (.value (.slice a n c)) w := by
  have : a.map (·.add (0 * z)) = a := by cases a <;> simp [Addr.add]
  simp [execOp, hx, Instr.sliceAt, Instr.slice, run_underlying hu, Instr.sliceBounds, hz]
  cases a <;> simp [Addr.add]
theorem o_sliceH {hi : Operand} {k : IntKind} {h : Int} (hh : ev ρ hi = .int k h) (h0 : 0 ≤ h) (h1 : h ≤ c) (w : World) :
    (execOp (ev ρ) ⟨dst, .slice t x none (some hi) none, ty, pos, after, guard⟩).run P w = .ok (.value (.slice a h.toNat c)) w := by
  simp [execOp, hx, hh, Instr.sliceAt, Instr.slice, run_underlying hu, Instr.sliceBounds, hz, bound_ok h0 h1]
  cases a <;> simp [Addr.add]
theorem o_sliceL {lo : Operand} {k : IntKind} {l : Int} (hl : ev ρ lo = .int k l) (h0 : 0 ≤ l) (h1 : l ≤ n) (w : World) :
    (execOp (ev ρ) ⟨dst, .slice t x (some lo) none none, ty, pos, after, guard⟩).run P w = .ok (.value (.slice (cutA a c l.toNat z) (n - l.toNat) (c - l.toNat))) w := by
  simp [execOp, hx, hl, Instr.sliceAt, Instr.slice, run_underlying hu, Instr.sliceBounds, hz, bound_ok h0 h1, cutA]
theorem o_sliceLH {lo hi : Operand} {k k' : IntKind} {l h : Int} (hl : ev ρ lo = .int k l) (hh : ev ρ hi = .int k' h) (h0 : 0 ≤ l) (h1 : l ≤ h) (h2 : h ≤ c) (w : World) :
    (execOp (ev ρ) ⟨dst, .slice t x (some lo) (some hi) none, ty, pos, after, guard⟩).run P w = .ok (.value (.slice (cutA a c l.toNat z) (h.toNat - l.toNat) (c - l.toNat))) w := by
  have b1 := fun w => bound_ok (P := P) (w := w) (k := k') (c := .sliceAcap) (show 0 ≤ h by omega) h2
  have b2 := fun w => bound_ok (P := P) (w := w) (k := k) (y := h.toNat) (c := .sliceB) h0 (show l ≤ (h.toNat : Int) by omega)
  simp [execOp, hx, hl, hh, Instr.sliceAt, Instr.slice, run_underlying hu, Instr.sliceBounds, hz, b1, b2, cutA]
theorem o_sliceLHM {lo hi mx : Operand} {k k' k'' : IntKind} {l h m : Int} (hl : ev ρ lo = .int k l) (hh : ev ρ hi = .int k' h) (hm : ev ρ mx = .int k'' m) (h0 : 0 ≤ l) (h1 : l ≤ h) (h2 : h ≤ m) (h3 : m ≤ c) (w : World) :
    (execOp (ev ρ) ⟨dst, .slice t x (some lo) (some hi) (some mx), ty, pos, after, guard⟩).run P w = .ok (.value (.slice (cutA a m.toNat l.toNat z) (h.toNat - l.toNat) (m.toNat - l.toNat))) w := by
  have b0 := fun w => bound_ok (P := P) (w := w) (k := k'') (c := .slice3Acap) (show 0 ≤ m by omega) h3
  have b1 := fun w => bound_ok (P := P) (w := w) (k := k') (y := m.toNat) (c := .slice3B) (show 0 ≤ h by omega) (show h ≤ (m.toNat : Int) by omega)
  have b2 := fun w => bound_ok (P := P) (w := w) (k := k) (y := h.toNat) (c := .slice3C) h0 (show l ≤ (h.toNat : Int) by omega)
  simp [execOp, hx, hl, hh, hm, Instr.sliceAt, Instr.slice, run_underlying hu, Instr.sliceBounds, hz, b0, b1, b2, cutA]
theorem o_sliceHM {hi mx : Operand} {k' k'' : IntKind} {h m : Int} (hh : ev ρ hi = .int k' h) (hm : ev ρ mx = .int k'' m) (h1 : 0 ≤ h) (h2 : h ≤ m) (h3 : m ≤ c) (w : World) :
    (execOp (ev ρ) ⟨dst, .slice t x none (some hi) (some mx), ty, pos, after, guard⟩).run P w = .ok (.value (.slice a h.toNat m.toNat)) w := by
  have b0 := fun w => bound_ok (P := P) (w := w) (k := k'') (c := .slice3Acap) (show 0 ≤ m by omega) h3
  have b1 := fun w => bound_ok (P := P) (w := w) (k := k') (y := m.toNat) (c := .slice3B) h1 (show h ≤ (m.toNat : Int) by omega)
  simp [execOp, hx, hh, hm, Instr.sliceAt, Instr.slice, run_underlying hu, Instr.sliceBounds, hz, b0, b1]
  cases a <;> simp [Addr.add]
end
/-- A whole array, as a slice. -/
theorem o_sliceArr {t e : TypeId} {x : Operand} {a : Addr} {n z : Nat} (hu : P.underlying t = some (.array n e)) (hz : ∀ w, (sizeOf e).run P w = .ok z w) (hx : ev ρ x = .pointer (some a)) (w : World) :
    (execOp (ev ρ) ⟨dst, .slice t x none none none, ty, pos, after, guard⟩).run P w = .ok (.value (.slice (some a) n n)) w := by
  simp [execOp, hx, Instr.sliceAt, Instr.sureAddr, run_underlying hu, Instr.sliceBounds, hz]
  simp [Addr.add]

/-! #### built-in functions -/
theorem o_len {t : TypeId} {x : Operand} {a : Option Addr} {n c : Nat} {e : TypeId} (hu : P.underlying t = some (.slice e)) (hx : ev ρ x = .slice a n c) (w : World) :
    (execOp (ev ρ) ⟨dst, .call ⟨.builtin .len, #[x], #[t]⟩, ty, pos, after, guard⟩).run P w = .ok (.value (.int .i64 n)) w := by
  simp [execOp, resolve, hx, invoke, builtin, Builtin.len_, run_underlying hu, goInt]
theorem o_lenStr {t : TypeId} {x : Operand} {s : ByteArray} (hu : P.underlying t = some .string) (hx : ev ρ x = .string s) (w : World) :
    (execOp (ev ρ) ⟨dst, .call ⟨.builtin .len, #[x], #[t]⟩, ty, pos, after, guard⟩).run P w = .ok (.value (.int .i64 s.size)) w := by
  simp [execOp, resolve, hx, invoke, builtin, Builtin.len_, run_underlying hu, goInt]
theorem o_cap {t : TypeId} {x : Operand} {a : Option Addr} {n c : Nat} {e : TypeId} (hu : P.underlying t = some (.slice e)) (hx : ev ρ x = .slice a n c) (hr : ∀ w, (Builtin.cap_ #[t] ty #[.slice a n c]).run P w = .ok (.int .i64 c) w) (w : World) :
    (execOp (ev ρ) ⟨dst, .call ⟨.builtin .cap, #[x], #[t]⟩, ty, pos, after, guard⟩).run P w = .ok (.value (.int .i64 c)) w := by
  simp [execOp, resolve, hx, invoke, builtin, hr]
theorem o_builtin2 {b : Builtin} {f : Array TypeId → TypeId → Array Value → Sem Value} {t u : TypeId} {x y : Operand} {vx vy v : Value} {w' : World} (hb : ∀ ts c args, builtin b ts ty c args = (do pure (.value (← f ts ty args))))
    (hx : ev ρ x = vx) (hy : ev ρ y = vy) (hr : (f #[t, u] ty #[vx, vy]).run P w = .ok v w') :
    (execOp (ev ρ) ⟨dst, .call ⟨.builtin b, #[x, y], #[t, u]⟩, ty, pos, after, guard⟩).run P w = .ok (.value v) w' := by
  simp [execOp, resolve, hx, hy, invoke, hb, hr]
theorem o_append {t u : TypeId} {x y : Operand} {vx vy v : Value} {w' : World} (hx : ev ρ x = vx) (hy : ev ρ y = vy) (hr : (Builtin.append_ #[t, u] ty #[vx, vy]).run P w = .ok v w') :
    (execOp (ev ρ) ⟨dst, .call ⟨.builtin .append, #[x, y], #[t, u]⟩, ty, pos, after, guard⟩).run P w = .ok (.value v) w' :=
  o_builtin2 (fun _ _ _ => rfl) hx hy hr
theorem o_copy {t u : TypeId} {x y : Operand} {vx vy v : Value} {w' : World} (hx : ev ρ x = vx) (hy : ev ρ y = vy) (hr : (Builtin.copy_ #[t, u] ty #[vx, vy]).run P w = .ok v w') :
    (execOp (ev ρ) ⟨dst, .call ⟨.builtin .copy, #[x, y], #[t, u]⟩, ty, pos, after, guard⟩).run P w = .ok (.value v) w' :=
  o_builtin2 (fun _ _ _ => rfl) hx hy hr
theorem o_clear {t : TypeId} {x : Operand} {vx v : Value} {w' : World} (hx : ev ρ x = vx) (hr : (Builtin.clear_ #[t] ty #[vx]).run P w = .ok v w') :
    (execOp (ev ρ) ⟨dst, .call ⟨.builtin .clear, #[x], #[t]⟩, ty, pos, after, guard⟩).run P w = .ok (.value v) w' := by
  simp [execOp, resolve, hx, invoke, builtin, hr]
theorem o_min2 {t u : TypeId} {x y : Operand} {k : IntKind} {m n : Int} (hx : ev ρ x = .int k m) (hy : ev ρ y = .int k n) (w : World) :
    (execOp (ev ρ) ⟨dst, .call ⟨.builtin .min, #[x, y], #[t, u]⟩, ty, pos, after, guard⟩).run P w = .ok (.value (.int k (min m n))) w := by
  simp [execOp, resolve, hx, hy, invoke, builtin, Builtin.min_, Builtin.min2]
  split <;> omega
theorem o_min3 {t u v : TypeId} {x y z : Operand} {k : IntKind} {m n o : Int} (hx : ev ρ x = .int k m) (hy : ev ρ y = .int k n) (hz : ev ρ z = .int k o) (w : World) :
    (execOp (ev ρ) ⟨dst, .call ⟨.builtin .min, #[x, y, z], #[t, u, v]⟩, ty, pos, after, guard⟩).run P w = .ok (.value (.int k (min (min m n) o))) w := by
  simp [execOp, resolve, hx, hy, hz, invoke, builtin, Builtin.min_, Builtin.min2]
  repeat' split
  all_goals omega
theorem o_max2 {t u : TypeId} {x y : Operand} {k : IntKind} {m n : Int} (hx : ev ρ x = .int k m) (hy : ev ρ y = .int k n) (w : World) :
    (execOp (ev ρ) ⟨dst, .call ⟨.builtin .max, #[x, y], #[t, u]⟩, ty, pos, after, guard⟩).run P w = .ok (.value (.int k (max m n))) w := by
  simp [execOp, resolve, hx, hy, invoke, builtin, Builtin.max_, Builtin.max2]
  split <;> omega
theorem o_toStr {s t : TypeId} {x : Operand} {e : TypeId} {a : Option Addr} {n c : Nat} {b : ByteArray} (hs : P.underlying s = some (.slice e)) (he : P.underlying e = some (.int .u8)) (ht : P.underlying t = some .string) (hx : ev ρ x = .slice a n c)
    (hr : (Conv.bytesToString (.slice a n c)).run P w = .ok (.string b) w) :
    (execOp (ev ρ) ⟨dst, .convert s t x, ty, pos, after, guard⟩).run P w = .ok (.value (.string b)) w := by
  simp [execOp, hx, convert, run_underlying hs, run_underlying ht, run_underlying he, hr]
theorem o_makeSlice {t : TypeId} {x y : Operand} {l c : Int} {v : Value} {w' : World} (hx : ev ρ x = .int .i64 l) (hy : ev ρ y = .int .i64 c) (hr : (Instr.makeSlice t (.int .i64 l) (.int .i64 c)).run P w = .ok v w') :
    (execOp (ev ρ) ⟨dst, .makeSlice t x y, ty, pos, after, guard⟩).run P w = .ok (.value v) w' := by
  simp [execOp, hx, hy, hr]

theorem o_convRun {s t : TypeId} {x : Operand} {v r : Value} {w' : World} (hx : ev ρ x = v) (hr : (convert s t v).run P w = .ok r w') :
    (execOp (ev ρ) ⟨dst, .convert s t x, ty, pos, after, guard⟩).run P w = .ok (.value r) w' := by
  simp [execOp, hx, hr]
theorem o_index {t : TypeId} {x y : Operand} {v i r : Value} (hx : ev ρ x = v) (hy : ev ρ y = i) (hr : ∀ w, (Instr.index t v i).run P w = .ok r w) (w : World) :
    (execOp (ev ρ) ⟨dst, .index t x y, ty, pos, after, guard⟩).run P w = .ok (.value r) w := by
  simp [execOp, hx, hy, hr]
theorem guardAgg {b : BinOp} {t : TypeId} {x y : Operand} {xs ys : Array Value} (hg : P.eqGuardType P.depth t = false) (w : World) : (eqGuard b t x y (.agg xs) (.agg ys)).run P w = .ok () w := by
  cases b <;> simp [eqGuard] <;> simp [hg]
theorem o_eqlAgg {t u : TypeId} {x y : Operand} {xs ys : Array Value} {r : Bool} (hg : P.eqGuardType P.depth t = false) (hx : ev ρ x = .agg xs) (hy : ev ρ y = .agg ys) (hr : ∀ w d, (Op.equalIn (d + 5) t (.agg xs) (.agg ys)).run P w = .ok r w) (w : World) :
    (execOp (ev ρ) ⟨dst, .binOp .eql t x y u, ty, pos, after, guard⟩).run P w = .ok (.value (.bool r)) w :=
  o_eqlOf5 hx hy (guardAgg hg w) rfl (hr w)
theorem o_neqAgg {t u : TypeId} {x y : Operand} {xs ys : Array Value} {r : Bool} (hg : P.eqGuardType P.depth t = false) (hx : ev ρ x = .agg xs) (hy : ev ρ y = .agg ys) (hr : ∀ w d, (Op.equalIn (d + 5) t (.agg xs) (.agg ys)).run P w = .ok r w) (w : World) :
    (execOp (ev ρ) ⟨dst, .binOp .neq t x y u, ty, pos, after, guard⟩).run P w = .ok (.value (.bool (!r))) w :=
  o_neqOf5 hx hy (guardAgg hg w) rfl (hr w)

/-! #### calls -/
theorem o_call {f : FuncId} {l : List Operand} {ts : Array TypeId} {vs : List Value} (hf : ∀ args w, (callFunc f args).run P w = .ok (.enter f args) w) (hl : l.map (ev ρ) = vs) (w : World) :
    (execOp (ev ρ) ⟨dst, .call ⟨.value (.func f), l.toArray, ts⟩, ty, pos, after, guard⟩).run P w = .ok (.enter f vs.toArray) w := by
  have : l.toArray.map (ev ρ) = vs.toArray := by simp [← hl]
  simp [execOp, resolve, this, ev, Deferred.ofValue, invoke, hf]
theorem o_callExt {f : FuncId} {l : List Operand} {ts : Array TypeId} {vs : List Value} {v : Value} {w w' : World} (hl : l.map (ev ρ) = vs) (hr : (callFunc f vs.toArray).run P w = .ok (.value v) w') :
    (execOp (ev ρ) ⟨dst, .call ⟨.value (.func f), l.toArray, ts⟩, ty, pos, after, guard⟩).run P w = .ok (.value v) w' := by
  have : l.toArray.map (ev ρ) = vs.toArray := by simp [← hl]
  simp [execOp, resolve, this, ev, Deferred.ofValue, invoke, hr]
theorem o_callVal {f : FuncId} {x : Operand} {l : List Operand} {ts : Array TypeId} {vs bs cs : List Value} (hf : ∀ args w, (callFunc f args).run P w = .ok (.enter f args) w) (hx : ev ρ x = .func (.func f) bs.toArray cs.toArray) (hl : l.map (ev ρ) = vs) (w : World) :
    (execOp (ev ρ) ⟨dst, .call ⟨.value x, l.toArray, ts⟩, ty, pos, after, guard⟩).run P w = .ok (.enter f (bs ++ vs ++ cs).toArray) w := by
  have : l.toArray.map (ev ρ) = vs.toArray := by simp [← hl]
  simp [execOp, resolve, this, hx, Deferred.ofValue, invoke, hf]
end

/-- The operands of a call, one by one. -/
theorem argNil {ρ : Env} : ([] : List Operand).map (ev ρ) = [] := rfl
theorem argCons {ρ : Env} {x : Operand} {v : Value} {l : List Operand} {vs : List Value} (h : ev ρ x = v) (hl : l.map (ev ρ) = vs) : (x :: l).map (ev ρ) = v :: vs := by simp [h, hl]
theorem partNil {ρ : Env} : ([] : List (Nat × Operand)).map (fun p => (p.1, ev ρ p.2)) = [] := rfl
theorem partCons {ρ : Env} {i : Nat} {x : Operand} {v : Value} {l : List (Nat × Operand)} {vs : List (Nat × Value)} (h : ev ρ x = v) (hl : l.map (fun p => (p.1, ev ρ p.2)) = vs) :
    ((i, x) :: l).map (fun p => (p.1, ev ρ p.2)) = (i, v) :: vs := by simp [h, hl]

/-- Guards. -/
theorem gd0 {ops : Array Oper} {ρ : Env} {d : Option Tmp} {op : Op} {ty : TypeId} {pos : String} {after : Array Edge} : wantedE ops ρ ⟨d, op, ty, pos, after, none⟩ = true := rfl
theorem gdY {ops : Array Oper} {ρ : Env} {d : Option Tmp} {op : Op} {ty : TypeId} {pos : String} {after : Array Edge} {j : Nat} {want b : Bool} (t : Nat) (ht : (ops[j]?).bind (·.dst) = some t) (hv : ρ t = .bool b) (hb : b = want) :
    wantedE ops ρ ⟨d, op, ty, pos, after, some (j, want)⟩ = true := by
  subst hb
  simp [wantedE, ht, hv]
theorem gdN {ops : Array Oper} {ρ : Env} {d : Option Tmp} {op : Op} {ty : TypeId} {pos : String} {after : Array Edge} {j : Nat} {want b : Bool} (t : Nat) (ht : (ops[j]?).bind (·.dst) = some t) (hv : ρ t = .bool b) (hb : b = !want) :
    wantedE ops ρ ⟨d, op, ty, pos, after, some (j, want)⟩ = false := by
  subst hb
  cases want <;> simp [wantedE, ht, hv]
/-- The guard's own operation was passed over. -/
theorem gdU {ops : Array Oper} {ρ : Env} {d : Option Tmp} {op : Op} {ty : TypeId} {pos : String} {after : Array Edge} {j : Nat} {want : Bool} (t : Nat) (ht : (ops[j]?).bind (·.dst) = some t) (hv : ρ t = undef) :
    wantedE ops ρ ⟨d, op, ty, pos, after, some (j, want)⟩ = false := by
  simp [wantedE, ht, hv, undef]
end Go.Sh

/-
  The words in which a function's effect is written down: each is what one operation asks, and hands on.
-/
namespace Go.Sh
open Go
set_option linter.unusedVariables false

/-- A store into one cell. -/
def Put (w : World) (a : Addr) (v : Value) (k : World → Prop) : Prop := Writable w a ∧ k (w.setCell a v)
/-- A store into a row of cells. -/
def PutAll (w : World) (a : Addr) (vs : List Value) (k : World → Prop) : Prop := CanSet w a 0 vs.length ∧ k (setAll w a 0 vs)
/-- A new block. -/
def New (w : World) (t : TypeId) (cs : List Value) (k : Addr → World → Prop) : Prop := k (fresh w) (push w t cs)
theorem New.out {w : World} {t : TypeId} {cs : List Value} {k : Addr → World → Prop} (h : New w t cs k) : k (fresh w) (push w t cs) := h
/-- A loop: a relation that bears a number, which every round lowers. -/
def LoopP {S : Type} (body : S → World → (S → World → Prop) → Prop) (s0 : S) (w : World) : Prop :=
  ∃ J : Nat → S → World → Prop, (∃ n, J n s0 w) ∧ ∀ n s w, J n s w → body s w (fun s' w' => ∃ m, m < n ∧ J m s' w')

/-- By a relation and a measure. -/
theorem LoopP.of {S : Type} {body : S → World → (S → World → Prop) → Prop} {s0 : S} {w : World} (I : S → World → Prop) (μ : S → World → Nat) (h0 : I s0 w)
    (round : ∀ s w, I s w → body s w (fun s' w' => ∃ m, m < μ s w ∧ (I s' w' ∧ μ s' w' = m))) : LoopP body s0 w :=
  ⟨fun n s w => I s w ∧ μ s w = n, ⟨_, h0, rfl⟩, fun n s w ⟨hI, hn⟩ => hn ▸ round s w hI⟩
theorem again {S : Type} {I : S → World → Prop} {μ : S → World → Nat} {n : Nat} {s : S} {w : World} (hI : I s w) (hm : μ s w < n) : ∃ m, m < n ∧ (I s w ∧ μ s w = m) := ⟨_, hm, hI, rfl⟩

/-- The relation is given with its number. -/
theorem LoopP.mk {S : Type} {body : S → World → (S → World → Prop) → Prop} {s0 : S} {w : World} (J : Nat → S → World → Prop) (n0 : Nat) (h0 : J n0 s0 w)
    (round : ∀ n s w, J n s w → body s w (fun s' w' => ∃ m, m < n ∧ J m s' w')) : LoopP body s0 w := ⟨J, ⟨n0, h0⟩, round⟩

theorem bsplit {C : Prop} (b : Bool) (ht : b = true → C) (hf : b = false → C) : C := by cases b; exact hf rfl; exact ht rfl
theorem neT {b : Bool} (h : b = false) : ¬ b = true := by rw [h]; simp

section
variable {P : Program} {N : Nat} {Q : Exit → Env → World → Prop} {M : Env → World → Prop} {ρ : Env} {w : World} {id id' : Nat}
theorem nrm (h : M ρ w) : thenE M Q .normal ρ w := h
theorem nrmB (h : Q .normal ρ w) : blockE id Q .normal ρ w := h
theorem exT (h : Q (.exit id) ρ w) : thenE M Q (.exit id) ρ w := h
theorem exB (h : Q .normal ρ w) : blockE id Q (.exit id) ρ w := by simpa [blockE] using h
theorem exO (hn : Nat.beq id id' = false) (h : Q (.exit id) ρ w) : blockE id' Q (.exit id) ρ w := by
  have : id ≠ id' := by intro e; subst e; simp at hn
  simpa [blockE, this] using h
theorem rtT (h : Q .ret ρ w) : thenE M Q .ret ρ w := h
theorem rtB (h : Q .ret ρ w) : blockE id Q .ret ρ w := h
theorem rtE {fn : Func} {k : Value → World → Prop} (h : Gives P fn k ρ w) : retE P fn k .ret ρ w := h
theorem ndE {fn : Func} {k : Value → World → Prop} (h : Gives P fn k ρ w) : retE P fn k .normal ρ w := h
theorem gv0 {fn : Func} {k : Value → World → Prop} (hr : fn.results = #[]) (h : k (.tuple #[]) w) : Gives P fn k ρ w := gives0 hr h
theorem gv1 {fn : Func} {k : Value → World → Prop} {t : Tmp} {v : Value} (hr : fn.results = #[.tmp t]) (hv : ρ t = v) (h : k v w) : Gives P fn k ρ w := gives1 hr (by rw [hv]; exact h)
theorem gv2 {fn : Func} {k : Value → World → Prop} {t u : Tmp} {v x : Value} (hr : fn.results = #[.tmp t, .tmp u]) (hv : ρ t = v) (hx : ρ u = x) (h : k (.tuple #[v, x]) w) : Gives P fn k ρ w :=
  gives2 hr (by rw [hv, hx]; exact h)
theorem gv3 {fn : Func} {k : Value → World → Prop} {t u r : Tmp} {v x y : Value} (hr : fn.results = #[.tmp t, .tmp u, .tmp r]) (hv : ρ t = v) (hx : ρ u = x) (hy : ρ r = y) (h : k (.tuple #[v, x, y]) w) : Gives P fn k ρ w := fun a _ ha => by
  subst ha hv hx hy
  exact ⟨_, by simp [results, hr, env], h⟩
theorem gv4 {fn : Func} {k : Value → World → Prop} {t u r s : Tmp} {v x y z : Value} (hr : fn.results = #[.tmp t, .tmp u, .tmp r, .tmp s]) (hv : ρ t = v) (hx : ρ u = x) (hy : ρ r = y) (hz : ρ s = z) (h : k (.tuple #[v, x, y, z]) w) : Gives P fn k ρ w := fun a _ ha => by
  subst ha hv hx hy hz
  exact ⟨_, by simp [results, hr, env], h⟩
/-- One result, which lies in memory. -/
theorem gvC {fn : Func} {k : Value → World → Prop} {t : Tmp} {ty : TypeId} {a : Addr} {vs : List Value} (hr : fn.results = #[.cell t ty]) (ha : ∀ w, (isAgg ty).run P w = .ok true w) (hs : ∀ w, (sizeOf ty).run P w = .ok vs.length w) (hv : ρ t = .pointer (some a)) (hc : Cells w a 0 vs)
    (h : k (.agg vs.toArray) w) : Gives P fn k ρ w := fun a' _ ha' => by
  have hv' : a'.tmps.getD t undef = .pointer (some a) := by rw [← hv, ← ha']; rfl
  refine ⟨_, ?_, h⟩
  simp only [Array.getD_eq_getD_getElem?] at hv'
  simp [results, hr, asAddr, loadVar, ha, hs, hv', run_loadAll a vs w hc]
theorem gvC1 {fn : Func} {k : Value → World → Prop} {t u : Tmp} {ty : TypeId} {a : Addr} {vs : List Value} {x : Value} (hr : fn.results = #[.cell t ty, .tmp u]) (ha : ∀ w, (isAgg ty).run P w = .ok true w) (hs : ∀ w, (sizeOf ty).run P w = .ok vs.length w) (hv : ρ t = .pointer (some a)) (hc : Cells w a 0 vs)
    (hx : ρ u = x) (h : k (.tuple #[.agg vs.toArray, x]) w) : Gives P fn k ρ w := fun a' _ ha' => by
  have hv' : a'.tmps.getD t undef = .pointer (some a) := by rw [← hv, ← ha']; rfl
  have hx' : a'.tmps.getD u undef = x := by rw [← hx, ← ha']; rfl
  refine ⟨_, ?_, h⟩
  simp only [Array.getD_eq_getD_getElem?] at hv' hx'
  simp [results, hr, asAddr, loadVar, ha, hs, hv', hx', run_loadAll a vs w hc]
theorem gvC2 {fn : Func} {k : Value → World → Prop} {t u r : Tmp} {ty : TypeId} {a : Addr} {vs : List Value} {x y : Value} (hr : fn.results = #[.cell t ty, .tmp u, .tmp r]) (ha : ∀ w, (isAgg ty).run P w = .ok true w) (hs : ∀ w, (sizeOf ty).run P w = .ok vs.length w) (hv : ρ t = .pointer (some a)) (hc : Cells w a 0 vs)
    (hx : ρ u = x) (hy : ρ r = y) (h : k (.tuple #[.agg vs.toArray, x, y]) w) : Gives P fn k ρ w := fun a' _ ha' => by
  have hv' : a'.tmps.getD t undef = .pointer (some a) := by rw [← hv, ← ha']; rfl
  have hx' : a'.tmps.getD u undef = x := by rw [← hx, ← ha']; rfl
  have hy' : a'.tmps.getD r undef = y := by rw [← hy, ← ha']; rfl
  refine ⟨_, ?_, h⟩
  simp only [Array.getD_eq_getD_getElem?] at hv' hx' hy'
  simp [results, hr, asAddr, loadVar, ha, hs, hv', hx', hy', run_loadAll a vs w hc]

theorem o_pickT {dst : Option Tmp} {ty : TypeId} {pos : String} {after : Array Edge} {guard : Option (Nat × Bool)} {c a b : Operand} {t : Bool} {v : Value} (hc : ev ρ c = .bool t) (ht : t = true) (hv : ev ρ a = v) (w : World) :
    (execOp (ev ρ) ⟨dst, .pick c a b, ty, pos, after, guard⟩).run P w = .ok (.value v) w := o_pick hc (by rw [if_pos ht]; exact hv) w
theorem o_pickF {dst : Option Tmp} {ty : TypeId} {pos : String} {after : Array Edge} {guard : Option (Nat × Bool)} {c a b : Operand} {t : Bool} {v : Value} (hc : ev ρ c = .bool t) (ht : t = false) (hv : ev ρ b = v) (w : World) :
    (execOp (ev ρ) ⟨dst, .pick c a b, ty, pos, after, guard⟩).run P w = .ok (.value v) w := o_pick hc (by rw [if_neg (neT ht)]; exact hv) w
theorem o_pickB {dst : Option Tmp} {ty : TypeId} {pos : String} {after : Array Edge} {guard : Option (Nat × Bool)} {c a b : Operand} {t x y : Bool} (hc : ev ρ c = .bool t) (ha : ev ρ a = .bool x) (hb : ev ρ b = .bool y) (w : World) :
    (execOp (ev ρ) ⟨dst, .pick c a b, ty, pos, after, guard⟩).run P w = .ok (.value (.bool (if t = true then x else y))) w := o_pick hc (by split; exact ha; exact hb) w
theorem o_fieldAddr0 {dst : Option Tmp} {ty : TypeId} {pos : String} {after : Array Edge} {guard : Option (Nat × Bool)} {s : TypeId} {x : Operand} {i : Nat} {fs : Array Field} {f : Field} {a : Addr} {z : Nat} (hu : P.underlying s = some (.struct fs)) (hf : fs[i]? = some f)
    (hz : ∀ w, (sizeOf f.type).run P w = .ok z w) (h0 : Nat.ble 1 z = true) (h1 : f.offset = 0) (hx : ev ρ x = .pointer (some a)) (w : World) :
    (execOp (ev ρ) ⟨dst, .fieldAddr s x i, ty, pos, after, guard⟩).run P w = .ok (.value (.pointer (some a))) w := by
  rw [o_fieldAddr f.offset hu hf hz h0 rfl hx w, h1]
  simp [Addr.add]
theorem o_indexAddr1 {dst : Option Tmp} {ty : TypeId} {pos : String} {after : Array Edge} {guard : Option (Nat × Bool)} {t e : TypeId} {x y : Operand} {a : Addr} {n c : Nat} {k : IntKind} {i : Int} (hu : P.underlying t = some (.slice e)) (hz : ∀ w, (sizeOf e).run P w = .ok 1 w)
    (hx : ev ρ x = .slice (some a) n c) (hy : ev ρ y = .int k i) (h0 : 0 ≤ i) (h1 : i < n) (w : World) :
    (execOp (ev ρ) ⟨dst, .indexAddr t x y, ty, pos, after, guard⟩).run P w = .ok (.value (.pointer (some (a.add i.toNat)))) w := by
  rw [o_indexAddr hu hz hx hy h0 h1 w, Nat.mul_one]
theorem o_indexAddrArr1 {dst : Option Tmp} {ty : TypeId} {pos : String} {after : Array Edge} {guard : Option (Nat × Bool)} {t e : TypeId} {x y : Operand} {a : Addr} {n : Nat} {k : IntKind} {i : Int} (hu : P.underlying t = some (.array n e)) (hz : ∀ w, (sizeOf e).run P w = .ok 1 w)
    (hx : ev ρ x = .pointer (some a)) (hy : ev ρ y = .int k i) (h0 : 0 ≤ i) (h1 : i < n) (w : World) :
    (execOp (ev ρ) ⟨dst, .indexAddr t x y, ty, pos, after, guard⟩).run P w = .ok (.value (.pointer (some (a.add i.toNat)))) w := by
  rw [o_indexAddrArr hu hz hx hy h0 h1 w, Nat.mul_one]
/-- Of an operation that waits for the load nothing is asked. -/
theorem depT {ops : Array Oper} {i j : Nat} {C : Prop} (h : (deps .any ops i).getD j false = true) : (deps .any ops i).getD j false = false → C := fun h' => by rw [h] at h'; cases h'
end
end Go.Sh
