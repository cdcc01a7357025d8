/- The law FnExactUnitLiterals returns true at every formula and assignment and leaves its arguments as they were. Conditions: none. -/
import Derived.Test.YtkmlgfihoaneeaaXRFnExactUnitLiterals
namespace Go.Proofs.Ytkmlgfihoaneeaa.XFnExactUnitLiterals
open Go.RowKit Go.Proofs.YtkmlgfihoaneeaaW.PrintWords Go.Proofs.YtkmlgfihoaneeaaW.PrintLast Go.Proofs.YtkmlgfihoaneeaaW.PrintMore Go.Proofs.Ytkmlgfihoaneeaa.U
set_option linter.unusedVariables false
set_option linter.unusedSimpArgs false

theorem wrap_succ {i n : Nat} (h : i < n) (hn : n ≤ 9223372036854775807) : wrap64 ((i : Int) + 1) = ((i + 1 : Nat) : Int) := by
  unfold wrap64; omega
theorem wrap_id {x : Int} (h0 : -9223372036854775808 ≤ x) (h1 : x ≤ 9223372036854775807) : wrap64 x = x := by
  unfold wrap64; omega
theorem rd_nat (l : List Int) {i : Nat} (h : i < l.length) : rd l (i : Int) = l[i] := by
  simp [rd, List.getD_eq_getElem?_getD, List.getElem?_eq_getElem h]
theorem ev_true {g : Nat → Option Bool} {r : Bool} (h : ∀ k, g (k + 1) = some r) : Ev g r := Ev.step (f := fun _ => some r) h (Ev.now r)
theorem ev_const {α : Type} {g : Nat → Option α} {r : α} (h : ∀ k, g (k + 1) = some r) : Ev g r := Ev.step (f := fun _ => some r) h (Ev.now r)
theorem ev_eq {α : Type} {g : Nat → Option α} {r r' : α} (h : Ev g r) (e : r = r') : Ev g r' := e ▸ h
theorem wf64 {x : Int} (h : (Lit.int .i64 x).wf = true) : -9223372036854775808 ≤ x ∧ x ≤ 9223372036854775807 := by
  simp only [Lit.wf, IntKind.min, IntKind.max, IntKind.signed, IntKind.bits, Bool.and_eq_true, decide_eq_true_eq] at h
  simpa using h

/-- What 'q' gives at the places from 'i' on. -/
def gatherI {α : Type} (q : Int → α → Option Int) : List α → Int → List Int
  | [], _ => []
  | x :: xs, i => (q i x).toList ++ gatherI q xs (i + 1)
theorem gatherI_length {α : Type} (q : Int → α → Option Int) : ∀ (l : List α) i, (gatherI q l i).length ≤ l.length
  | [], _ => Nat.le_refl _
  | x :: xs, i => by
    have := gatherI_length q xs (i + 1)
    simp only [gatherI, List.length_append, List.length_cons]
    cases q i x <;> simp <;> omega
theorem gatherI_loop {α β : Type} (F : Nat → List Int → Int → Option β) (g : List Int → β) (q : Int → α → Option Int) (l : List α)
    (h0 : ∀ acc, Ev (fun k => F k acc (l.length : Int)) (g acc))
    (h1 : ∀ i (h : i < l.length) acc r, acc.length ≤ i → Ev (fun k => F k (acc ++ (q i l[i]).toList) ((i + 1 : Nat) : Int)) r → Ev (fun k => F k acc (i : Int)) r) :
    ∀ d i acc, i + d = l.length → acc.length ≤ i → Ev (fun k => F k acc (i : Int)) (g (acc ++ gatherI q (l.drop i) i)) := by
  intro d
  induction d with
  | zero =>
    intro i acc h _
    rw [List.drop_eq_nil_of_le (by omega), show i = l.length by omega]
    simpa [gatherI] using h0 acc
  | succ d ih =>
    intro i acc h ha
    have hi : i < l.length := by omega
    refine h1 i hi acc _ ha ?_
    rw [List.drop_eq_getElem_cons hi]
    simp only [gatherI]
    refine ev_eq (ih (i + 1) _ (by omega) (by cases q i l[i] <;> simp <;> omega)) ?_
    simp

def absI (x : Int) : Int := if x < 0 then -x else x
theorem absI_nonneg (x : Int) : 0 ≤ absI x := by unfold absI; split <;> omega
theorem absI_mx {x : Int} (h0 : -400 ≤ x) (h1 : x ≤ 400) : mx x (wrap64 (-x)) = absI x := by
  have e : wrap64 (-x) = -x := by unfold wrap64; omega
  rw [e]; unfold mx absI; split <;> split <;> omega
def litB (n x : Int) : Bool := decide (-n ≤ x) && decide (x ≤ n)
def clB (n : Int) : List Int → Int → Bool
  | [], _ => true
  | x :: xs, p => litB n x && (decide (p < absI x) && clB n xs (absI x))
def prevA (l : List Int) (i : Nat) : Int := if i = 0 then 0 else absI (l.getD (i - 1) 0)
theorem prevA_nonneg (l : List Int) (i : Nat) : 0 ≤ prevA l i := by unfold prevA; split; exact Int.le_refl 0; exact absI_nonneg _
theorem prevA_succ (l : List Int) {i : Nat} (h : i < l.length) : prevA l (i + 1) = absI l[i] := by
  simp [prevA, List.getD_eq_getElem?_getD, List.getElem?_eq_getElem h]

def stateI (v : List Int) (x : Int) : Int := if rd v (absI x - 1) ≥ 0 then (if x < 0 then wrap64 (1 - rd v (absI x - 1)) else rd v (absI x - 1)) else rd v (absI x - 1)
def okLit (v : List Int) (x : Int) : Prop := v.length ≤ 400 ∧ 1 ≤ absI x ∧ absI x ≤ (v.length : Int)
theorem absI_bd (x : Int) : x ≤ absI x ∧ -absI x ≤ x := by unfold absI; split <;> omega
theorem clB_mem (n : Int) : ∀ (l : List Int) (p : Int), 0 ≤ p → clB n l p = true → ∀ x ∈ l, 1 ≤ absI x ∧ absI x ≤ n
  | [], _, _, _, x, hx => absurd hx List.not_mem_nil
  | y :: ys, p, h0, h, x, hx => by
    simp only [clB, litB, Bool.and_eq_true, decide_eq_true_eq] at h
    rcases List.mem_cons.mp hx with rfl | hx
    · exact ⟨by omega, by unfold absI; split <;> omega⟩
    · exact clB_mem n ys (absI y) (absI_nonneg y) h.2.2 x hx
theorem spec_value {v : List Int} {x : Int} (h : okLit v x) : spec_l20Value.f v x = some (stateI v x) := by
  obtain ⟨h1, h2, h3⟩ := h
  have hb := absI_bd x
  have e : wrap64 (absI x - 1) = absI x - 1 := by unfold wrap64; omega
  simp only [spec_l20Value.f, spec_l01Abs.f, Option.bind_some, absI_mx (show -400 ≤ x by omega) (show x ≤ 400 by omega), e, stateI]
  rw [if_pos (by omega), if_pos (by omega)]
  split
  · split <;> rfl
  · rfl
def weighB (v : List Int) : List Int → Int → Int → Bool × Int × Int
  | [], o, f => (false, o, f)
  | x :: xs, o, f => if stateI v x = 1 then (true, 0, 0) else if stateI v x = -1 then weighB v xs (wrap64 (o + 1)) (if o = 0 then x else f) else weighB v xs o f

def longL (l : List (List Int)) : Prop := l.length ≤ 9223372036854775807 ∧ ∀ x ∈ l, x.length ≤ 9223372036854775807
theorem longL_of {l : List (List Int)} {p : Int → Prop} (h : l.length ≤ maxLen ∧ ∀ x ∈ l, x.length ≤ maxLen ∧ ∀ y ∈ x, p y) : longL l := ⟨h.1, fun x hx => (h.2 x hx).1⟩

def formulaB (n : Int) (l : List (List Int)) : Bool := (decide (0 ≤ n) && decide (n ≤ 400)) && (decide ((l.length : Int) ≤ 20000) && l.all (fun x => clB n x 0))

def valB (x : Int) : Bool := decide (-1 ≤ x) && decide (x ≤ 1)

def asgB (n : Int) (v : List Int) : Bool := v.all valB && decide ((v.length : Int) = n)
theorem okClauses {n : Int} {l : List (List Int)} {v : List Int} (hf : formulaB n l = true) (hv : asgB n v = true) : ∀ c ∈ l, ∀ x ∈ c, okLit v x := fun c hc x hx => by
  simp only [formulaB, asgB, Bool.and_eq_true, decide_eq_true_eq, List.all_eq_true] at hf hv
  have := clB_mem n c 0 (Int.le_refl 0) (hf.2.2 c hc) x hx
  exact ⟨by omega, this.1, by omega⟩

def fcodeB (n : Int) (l : List (List Int)) (v : List Int) : Int := if formulaB n l then (if asgB n v then 0 else 2) else 1
theorem fcodeB_zero {n : Int} {l : List (List Int)} {v : List Int} (h : fcodeB n l v = 0) : l.length ≤ 20000 ∧ ∀ c ∈ l, ∀ x ∈ c, okLit v x := by
  unfold fcodeB at h
  cases c1 : formulaB n l with
  | false => rw [c1] at h; simp at h
  | true =>
    rw [c1] at h
    cases c2 : asgB n v with
    | false => rw [c2] at h; simp at h
    | true =>
      refine ⟨?_, okClauses c1 c2⟩
      simp only [formulaB, Bool.and_eq_true, decide_eq_true_eq] at c1
      omega

def unitBq (v : List Int) (i : Int) (c : List Int) : Option Int := if (weighB v c 0 0).1 = true then none else if (weighB v c 0 0).2.1 = 1 then some (weighB v c 0 0).2.2 else none
def unitB (n : Int) (l : List (List Int)) (v : List Int) : List Int × Int := if fcodeB n l v = 0 then (gatherI (unitBq v) l 0, 0) else ([], fcodeB n l v)
theorem unitB_len (n : Int) (l : List (List Int)) (v : List Int) : (unitB n l v).1.length ≤ 20000 := by
  unfold unitB
  by_cases c : fcodeB n l v = 0
  · rw [if_pos c]
    have := gatherI_length (unitBq v) l 0
    have := fcodeB_zero c
    show (gatherI _ _ 0).length ≤ 20000
    omega
  · rw [if_neg c]; simp

def satB (n : Int) (l : List (List Int)) (v : List Int) : Bool := formulaB n l && (asgB n v && l.all (fun c => (weighB v c 0 0).1))

theorem spec_in (a b c : Int) : spec_l01In.f a b c = some (decide (b ≤ a) && decide (a ≤ c)) := by
  unfold spec_l01In.f; by_cases h : b ≤ a
  · rw [if_pos h]; simp [h]
  · rw [if_neg h]; simp [h]

theorem spec_clause_loop (l : List Int) (n : Int) (h0 : 0 ≤ n) (h1 : n ≤ 400) (hl : l.length ≤ 9223372036854775807) : ∀ d i, i + d = l.length → (i ≠ 0 → litB n (l.getD (i - 1) 0) = true) → Ev (fun k => spec_l20Clause.l0 k l n (i : Int)) (clB n (l.drop i) (prevA l i)) := by
  intro d
  induction d with
  | zero =>
    intro i h _
    rw [List.drop_eq_nil_of_le (by omega)]
    exact ev_const fun k => by simp only [spec_l20Clause.l0]; rw [if_neg (by omega)]; rfl
  | succ d ih =>
    intro i h hp
    have hi : i < l.length := by omega
    rw [List.drop_eq_getElem_cons hi]
    simp only [clB]
    have en : wrap64 (-n) = -n := by unfold wrap64; omega
    have step : ∀ k, spec_l20Clause.l0 (k + 1) l n (i : Int) = if (litB n l[i] && decide (prevA l i < absI l[i])) = true then spec_l20Clause.l0 k l n ((i + 1 : Nat) : Int) else some false := fun k => by
      simp only [spec_l20Clause.l0]
      rw [if_pos (by omega), if_pos (by omega), rd_nat l hi, wrap_succ hi hl, spec_in, en]
      have hn := prevA_nonneg l i
      by_cases z : l[i] = 0
      · rw [if_pos z, if_neg]; rw [z]; simp [absI]; intro _; exact hn
      · rw [if_neg z]
        simp only [Option.bind_some]
        by_cases c : litB n l[i] = true
        · have c' : (decide (-n ≤ l[i]) && decide (l[i] ≤ n)) = true := c
          rw [if_pos c', c, Bool.true_and]
          simp only [Bool.and_eq_true, decide_eq_true_eq] at c'
          by_cases zi : i = 0
          · rw [if_neg (by omega), if_pos]
            simp only [prevA, zi, if_true, decide_eq_true_eq]; unfold absI; subst zi; split <;> omega
          · have e : wrap64 ((i : Int) - 1) = ((i - 1 : Nat) : Int) := by unfold wrap64; omega
            have p : prevA l i = absI l[i - 1] := by simp [prevA, zi, List.getD_eq_getElem?_getD, List.getElem?_eq_getElem (show i - 1 < l.length by omega)]
            have hp' := hp zi
            rw [List.getD_eq_getElem?_getD, List.getElem?_eq_getElem (show i - 1 < l.length by omega)] at hp'
            simp only [Option.getD_some, litB, Bool.and_eq_true, decide_eq_true_eq] at hp'
            rw [if_pos (by omega)]
            simp only [spec_l01Abs.f, Option.bind_some]
            rw [e, if_pos (by omega), if_pos (by omega), rd_nat l (by omega), absI_mx (by omega) (by omega), absI_mx (by omega) (by omega), p]
            by_cases q : absI l[i] ≤ absI l[i - 1]
            · rw [if_pos q, if_neg (by simp; omega)]
            · rw [if_neg q, if_pos (by simp; omega)]
        · have c' : ¬ (decide (-n ≤ l[i]) && decide (l[i] ≤ n)) = true := c
          rw [if_neg c', if_neg (by simp [c])]
    refine Ev.step step ?_
    cases q : (litB n l[i] && decide (prevA l i < absI l[i])) with
    | true =>
      simp only [if_true]
      simp only [Bool.and_eq_true] at q
      refine ev_eq (ih (i + 1) (by omega) (fun _ => by simpa [List.getD_eq_getElem?_getD, List.getElem?_eq_getElem hi] using q.1)) ?_
      rw [prevA_succ l hi, q.1, q.2]; simp
    | false =>
      simp only [Bool.false_eq_true, if_false]
      refine ev_eq (Ev.now _) ?_
      rw [← Bool.and_assoc, q]; simp
theorem spec_clause (l : List Int) (n : Int) (h0 : 0 ≤ n) (h1 : n ≤ 400) (hl : l.length ≤ 9223372036854775807) : Ev (fun k => spec_l20Clause.f k l n) (clB n l 0) := by
  have := spec_clause_loop l n h0 h1 hl l.length 0 (by omega) (fun h => absurd rfl h)
  simpa [spec_l20Clause.f, prevA] using this

theorem rdr_nat (l : List (List Int)) {i : Nat} (h : i < l.length) : rd_L1 l (i : Int) = l[i] := by
  simp [rd_L1, List.getD_eq_getElem?_getD, List.getElem?_eq_getElem h]

theorem spec_IsFormula_loop (n : Int) (l : List (List Int)) (h0 : 0 ≤ n) (h1 : n ≤ 400) (hl : longL l) : ∀ d i, i + d = l.length → Ev (fun k => spec_IsFormula.l0 k (i : Int) n l) ((l.drop i).all (fun x => clB n x 0)) := by
  intro d
  induction d with
  | zero =>
    intro i h
    rw [List.drop_eq_nil_of_le (by omega)]
    exact ev_const fun k => by simp only [spec_IsFormula.l0]; rw [if_neg (by omega)]; rfl
  | succ d ih =>
    intro i h
    have hi : i < l.length := by omega
    rw [List.drop_eq_getElem_cons hi, List.all_cons]
    refine Ev.step (f := fun k => (spec_l20Clause.f k l[i] n).bind fun t => if t = true then spec_IsFormula.l0 k ((i + 1 : Nat) : Int) n l else some false) (fun k => ?_) (Ev.bind (spec_clause l[i] n h0 h1 (hl.2 _ (List.getElem_mem hi))) ?_)
    · simp only [spec_IsFormula.l0]
      rw [if_pos (by omega), if_pos (by omega), rdr_nat l hi, wrap_succ hi hl.1]
    · cases clB n l[i] 0 with
      | true => simpa using ih (i + 1) (by omega)
      | false => simpa using Ev.now false
theorem spec_IsFormula_ev (n : Int) (l : List (List Int)) (hl : longL l) : Ev (fun k => spec_IsFormula.f k n l) (formulaB n l) := by
  have hj : ∀ x y, (x = false → Ev (fun k => spec_IsFormula.l0 k 0 n l) y) → Ev (fun k => spec_IsFormula.j0 k x n l) (!x && y) := fun x y hy => by
    refine Ev.step (f := fun k => if x = true then some false else spec_IsFormula.l0 k 0 n l) (fun k => by simp only [spec_IsFormula.j0]) ?_
    cases x with
    | true => simpa using Ev.now false
    | false => simpa using hy rfl
  simp only [spec_IsFormula.f, spec_in, Option.bind_some, formulaB]
  cases q : (decide (0 ≤ n) && decide (n ≤ 400)) with
  | false => simp only [Bool.false_eq_true, if_false, Bool.false_and]; simpa using hj true false (fun h => by cases h)
  | true =>
    simp only [Bool.and_eq_true, decide_eq_true_eq] at q
    simp only [if_true, Bool.true_and]
    refine ev_eq (hj _ _ (fun _ => by simpa using spec_IsFormula_loop n l q.1 q.2 hl l.length 0 (by omega))) ?_
    by_cases c : (l.length : Int) ≤ 20000
    · rw [decide_eq_true c, decide_eq_false (by omega)]; simp
    · rw [decide_eq_false c, decide_eq_true (by omega)]; simp

theorem spec_Values_loop (l : List Int) (n : Int) (hl : l.length ≤ 9223372036854775807) : ∀ d i, i + d = l.length → Ev (fun k => spec_l20Values.l0 k l n (i : Int)) ((l.drop i).all valB && decide ((l.length : Int) = n)) := by
  intro d
  induction d with
  | zero =>
    intro i h
    rw [List.drop_eq_nil_of_le (by omega)]
    exact ev_const fun k => by simp only [spec_l20Values.l0]; rw [if_neg (by omega)]; simp; rfl
  | succ d ih =>
    intro i h
    have hi : i < l.length := by omega
    rw [List.drop_eq_getElem_cons hi, List.all_cons]
    have step : ∀ k, spec_l20Values.l0 (k + 1) l n (i : Int) = if valB l[i] = true then spec_l20Values.l0 k l n ((i + 1 : Nat) : Int) else some false := fun k => by
      simp only [spec_l20Values.l0]
      rw [if_pos (by omega), if_pos (by omega), rd_nat l hi, wrap_succ hi hl, spec_in]; rfl
    refine Ev.step step ?_
    cases q : valB l[i] with
    | true => simp only [if_true]; refine ev_eq (ih (i + 1) (by omega)) ?_; simp
    | false => simp only [Bool.false_eq_true, if_false]; refine ev_eq (Ev.now _) ?_; simp
theorem spec_Values (l : List Int) (n : Int) (hl : l.length ≤ 9223372036854775807) : Ev (fun k => spec_l20Values.f k l n) (l.all valB && decide ((l.length : Int) = n)) := by
  have := spec_Values_loop l n hl l.length 0 (by omega)
  simpa [spec_l20Values.f] using this

theorem spec_code (n : Int) (l : List (List Int)) (v : List Int) (hl : longL l) (hv : v.length ≤ 9223372036854775807) : Ev (fun k => spec_l20Code.f k n l v) (if formulaB n l then (if asgB n v then 0 else 2) else 1) := by
  simp only [spec_l20Code.f]
  refine Ev.bind (spec_IsFormula_ev n l hl) ?_
  cases formulaB n l with
  | false => simpa using Ev.now (1 : Int)
  | true =>
    simp only [if_true]
    refine Ev.bind (spec_Values v n hv) ?_
    show Ev (fun _ => if asgB n v = true then some 0 else some 2) _
    cases asgB n v with
    | false => simpa using Ev.now (2 : Int)
    | true => simpa using Ev.now (0 : Int)

theorem spec_fcode (n : Int) (l : List (List Int)) (v : List Int) (hl : longL l) (hv : v.length ≤ 9223372036854775807) : Ev (fun k => spec_l20Code.f k n l v) (fcodeB n l v) := spec_code n l v hl hv

theorem spec_weigh_loop (v l : List Int) (hl : l.length ≤ 9223372036854775807) (ok : ∀ x ∈ l, okLit v x) : ∀ d i (o f : Int), i + d = l.length → Ev (fun k => spec_l20State.l0 k v l o f (i : Int)) (weighB v (l.drop i) o f) := by
  intro d
  induction d with
  | zero =>
    intro i o f h
    rw [List.drop_eq_nil_of_le (by omega)]
    exact ev_const fun k => by simp only [spec_l20State.l0]; rw [if_neg (by omega)]; rfl
  | succ d ih =>
    intro i o f h
    have hi : i < l.length := by omega
    rw [List.drop_eq_getElem_cons hi]
    simp only [weighB]
    have hv := spec_value (ok _ (List.getElem_mem hi))
    have step : ∀ k, spec_l20State.l0 (k + 1) v l o f (i : Int) = if stateI v l[i] = 1 then some (true, 0, 0) else if stateI v l[i] = -1 then spec_l20State.l0 k v l (wrap64 (o + 1)) (if o = 0 then l[i] else f) ((i + 1 : Nat) : Int) else spec_l20State.l0 k v l o f ((i + 1 : Nat) : Int) := fun k => by
      simp only [spec_l20State.l0]
      rw [if_pos (by omega), if_pos (by omega), rd_nat l hi, wrap_succ hi hl, hv]
      simp only [Option.bind_some]
      by_cases c0 : o = 0
      · simp only [if_pos c0]
      · simp only [if_neg c0]
    refine Ev.step step ?_
    by_cases c1 : stateI v l[i] = 1
    · simp only [if_pos c1]; exact Ev.now _
    · simp only [if_neg c1]
      by_cases c2 : stateI v l[i] = -1
      · simp only [if_pos c2]; exact ih (i + 1) _ _ (by omega)
      · simp only [if_neg c2]; exact ih (i + 1) _ _ (by omega)
theorem spec_weigh (v l : List Int) (hl : l.length ≤ 9223372036854775807) (ok : ∀ x ∈ l, okLit v x) : Ev (fun k => spec_l20State.f k v l) (weighB v l 0 0) := by
  have := spec_weigh_loop v l hl ok l.length 0 0 0 (by omega)
  simpa [spec_l20State.f] using this

theorem spec_UnitLiterals_ev (n : Int) (l : List (List Int)) (v : List Int) (hl : longL l) (hv : v.length ≤ 9223372036854775807) : Ev (fun k => spec_UnitLiterals.f k n l v) (unitB n l v) := by
  simp only [spec_UnitLiterals.f]
  refine Ev.bind (spec_fcode n l v hl hv) ?_
  unfold unitB
  by_cases c : fcodeB n l v = 0
  · simp only [if_pos c]
    obtain ⟨h4, ok⟩ := fcodeB_zero c
    have := gatherI_loop (fun k acc i => spec_UnitLiterals.l0 k v acc i n l) (fun acc => (acc, (0 : Int))) (unitBq v) l
      (fun acc => ev_const fun k => by simp only [spec_UnitLiterals.l0]; rw [if_neg (by omega)])
      (fun i hi acc r ha hE => by
        refine Ev.step (f := fun k => (spec_l20State.f k v l[i]).bind fun t => if t.1 = true then spec_UnitLiterals.l0 k v acc ((i + 1 : Nat) : Int) n l else if t.2.1 = 1 then spec_UnitLiterals.l0 k v (acc ++ [t.2.2]) ((i + 1 : Nat) : Int) n l else spec_UnitLiterals.l0 k v acc ((i + 1 : Nat) : Int) n l) (fun k => by
          simp only [spec_UnitLiterals.l0]
          rw [if_pos (by omega), if_pos (by omega), rdr_nat l hi, wrap_succ hi hl.1]
          simp only [if_pos (show acc.length < 17592186044416 by omega)]) ?_
        refine Ev.bind (spec_weigh v l[i] (hl.2 _ (List.getElem_mem hi)) (ok _ (List.getElem_mem hi))) ?_
        unfold unitBq at hE
        by_cases q : (weighB v l[i] 0 0).1 = true
        · simp only [if_pos q] at hE ⊢; simpa using hE
        · simp only [if_neg q] at hE ⊢
          by_cases q2 : (weighB v l[i] 0 0).2.1 = 1
          · simp only [if_pos q2] at hE ⊢; simpa using hE
          · simp only [if_neg q2] at hE ⊢; simpa using hE) l.length 0 [] (by omega) (Nat.le_refl _)
    simpa using this
  · simp only [if_neg c]; exact Ev.now _

theorem impl_in (a b c : Int) : impl_within.f a b c = some (decide (b ≤ a) && decide (a ≤ c)) := by
  unfold impl_within.f; by_cases h : b ≤ a
  · rw [if_pos h]; simp [h]
  · rw [if_neg h]; simp [h]

theorem impl_clause_loop (l : List Int) (n : Int) (h0 : 0 ≤ n) (h1 : n ≤ 400) (hl : l.length ≤ 9223372036854775807) : ∀ d i (p : Int), i + d = l.length → Ev (fun k => impl_isClause.l0 k n p l (l.length : Int) (i : Int)) (clB n (l.drop i) p) := by
  intro d
  induction d with
  | zero =>
    intro i p h
    rw [List.drop_eq_nil_of_le (by omega)]
    exact ev_const fun k => by simp only [impl_isClause.l0]; rw [if_neg (by omega)]; rfl
  | succ d ih =>
    intro i p h
    have hi : i < l.length := by omega
    rw [List.drop_eq_getElem_cons hi]
    simp only [clB]
    have en : wrap64 (-n) = -n := by unfold wrap64; omega
    have step : ∀ k, impl_isClause.l0 (k + 1) n p l (l.length : Int) (i : Int) = if (litB n l[i] && decide (p < absI l[i])) = true then impl_isClause.l0 k n (absI l[i]) l (l.length : Int) ((i + 1 : Nat) : Int) else some false := fun k => by
      simp only [impl_isClause.l0]
      rw [if_pos (by omega), if_pos (by omega), if_pos (by omega), rd_nat l hi, wrap_succ hi hl, impl_in, en]
      simp only [Option.bind_some, impl_variableOf.f]
      by_cases c : litB n l[i] = true
      · have c' : (decide (-n ≤ l[i]) && decide (l[i] ≤ n)) = true := c
        rw [if_pos c', c, Bool.true_and]
        simp only [Bool.and_eq_true, decide_eq_true_eq] at c'
        rw [absI_mx (by omega) (by omega)]
        by_cases q : absI l[i] ≤ p
        · rw [if_pos q, if_neg (by simp; omega)]
        · rw [if_neg q, if_pos (by simp; omega)]
      · have c' : ¬ (decide (-n ≤ l[i]) && decide (l[i] ≤ n)) = true := c
        rw [if_neg c', if_neg (by simp [c])]
    refine Ev.step step ?_
    cases q : (litB n l[i] && decide (p < absI l[i])) with
    | true =>
      simp only [if_true]
      refine ev_eq (ih (i + 1) (absI l[i]) (by omega)) ?_
      rw [← Bool.and_assoc, q]; simp
    | false =>
      simp only [Bool.false_eq_true, if_false]
      refine ev_eq (Ev.now _) ?_
      rw [← Bool.and_assoc, q]; simp
theorem impl_clause (l : List Int) (n : Int) (h0 : 0 ≤ n) (h1 : n ≤ 400) (hl : l.length ≤ 9223372036854775807) : Ev (fun k => impl_isClause.f k l n) (clB n l 0) := by
  have := impl_clause_loop l n h0 h1 hl l.length 0 0 (by omega)
  simpa [impl_isClause.f] using this

theorem anyM_ev {α : Type} (p : Nat → α → Option Bool) (q : α → Bool) : ∀ l : List α, (∀ x ∈ l, Ev (fun k => p k x) (q x)) → Ev (fun k => anyM (p k) l) (l.any q)
  | [], _ => by simpa [anyM] using Ev.now false
  | x :: xs, h => by
    simp only [anyM, List.any_cons]
    refine Ev.bind (h x (List.mem_cons_self ..)) ?_
    cases c : q x with
    | true => simpa using Ev.now true
    | false => simpa using anyM_ev p q xs (fun y hy => h y (List.mem_cons_of_mem _ hy))
theorem anyM_some {α : Type} (p : α → Option Bool) (q : α → Bool) : ∀ l : List α, (∀ x ∈ l, p x = some (q x)) → anyM p l = some (l.any q)
  | [], _ => rfl
  | x :: xs, h => by
    simp only [anyM, List.any_cons, h x (List.mem_cons_self ..), Option.bind_some]
    cases c : q x with
    | true => simp
    | false => simpa using anyM_some p q xs (fun y hy => h y (List.mem_cons_of_mem _ hy))

theorem impl_IsFormula_ev (n : Int) (l : List (List Int)) (hl : longL l) : Ev (fun k => impl_IsFormula.f k n l) (formulaB n l) := by
  simp only [impl_IsFormula.f, impl_in, Option.bind_some, formulaB]
  cases q : (decide (0 ≤ n) && decide (n ≤ 400)) with
  | false => simpa using Ev.now false
  | true =>
    simp only [Bool.and_eq_true, decide_eq_true_eq] at q
    have h2 := anyM_ev (fun k x => impl_IsFormula_1.f k x n) (fun x => !clB n x 0) l (fun x hx => Ev.bind (impl_clause x n q.1 q.2 (hl.2 _ hx)) (Ev.now _))
    simp only [if_true, Bool.true_and]
    by_cases c : (l.length : Int) ≤ 20000
    · simp only [if_neg (show ¬ (l.length : Int) > 20000 by omega), decide_eq_true c, Bool.true_and]
      refine Ev.bind h2 (ev_eq (Ev.now _) ?_)
      simp [List.any_eq_not_all_not]
    · simp only [if_pos (show (l.length : Int) > 20000 by omega), decide_eq_false c, Bool.false_and]
      exact Ev.now false

theorem impl_Values (l : List Int) (n : Int) : impl_isAssignment.f l n = some (l.all valB && decide ((l.length : Int) = n)) := by
  unfold impl_isAssignment.f
  by_cases c : (l.length : Int) = n
  · rw [if_pos c, anyM_some _ (fun x => !valB x) l (fun x _ => by simp only [impl_isAssignment_1.f, impl_in, Option.bind_some]; rfl)]
    simp [c, List.any_eq_not_all_not]
  · rw [if_neg c]; simp [c]

theorem impl_fcode (n : Int) (l : List (List Int)) (v : List Int) (hl : longL l) : Ev (fun k => impl_assignmentCode.f k n l v) (fcodeB n l v) := by
  simp only [impl_assignmentCode.f]
  refine Ev.bind (impl_IsFormula_ev n l hl) ?_
  unfold fcodeB
  cases formulaB n l with
  | false => simpa using Ev.now (1 : Int)
  | true =>
    simp only [if_true, impl_Values, Option.bind_some]
    show Ev (fun _ => if asgB n v = true then some 0 else some 2) _
    cases asgB n v with
    | false => simpa using Ev.now (2 : Int)
    | true => simpa using Ev.now (0 : Int)

theorem impl_value {v : List Int} {x : Int} (h : okLit v x) : impl_state.f v x = some (stateI v x) := (show impl_state.f v x = spec_l20Value.f v x from rfl).trans (spec_value h)
theorem impl_weigh_loop (v l : List Int) (hl : l.length ≤ 9223372036854775807) (ok : ∀ x ∈ l, okLit v x) : ∀ d i (o f : Int), i + d = l.length → Ev (fun k => impl_weigh.l0 k v o f l (l.length : Int) (i : Int)) (weighB v (l.drop i) o f) := by
  intro d
  induction d with
  | zero =>
    intro i o f h
    rw [List.drop_eq_nil_of_le (by omega)]
    exact ev_const fun k => by simp only [impl_weigh.l0]; rw [if_neg (by omega)]; rfl
  | succ d ih =>
    intro i o f h
    have hi : i < l.length := by omega
    rw [List.drop_eq_getElem_cons hi]
    simp only [weighB]
    have hv := impl_value (ok _ (List.getElem_mem hi))
    have step : ∀ k, impl_weigh.l0 (k + 1) v o f l (l.length : Int) (i : Int) = if stateI v l[i] = 1 then some (true, 0, 0) else if stateI v l[i] = -1 then impl_weigh.l0 k v (wrap64 (o + 1)) (if o = 0 then l[i] else f) l (l.length : Int) ((i + 1 : Nat) : Int) else impl_weigh.l0 k v o f l (l.length : Int) ((i + 1 : Nat) : Int) := fun k => by
      simp only [impl_weigh.l0]
      rw [if_pos (by omega), if_pos (by omega), if_pos (by omega), rd_nat l hi, wrap_succ hi hl, hv]
      simp only [Option.bind_some]
      by_cases c0 : o = 0
      · simp only [if_pos c0]
      · simp only [if_neg c0]
    refine Ev.step step ?_
    by_cases c1 : stateI v l[i] = 1
    · simp only [if_pos c1]; exact Ev.now _
    · simp only [if_neg c1]
      by_cases c2 : stateI v l[i] = -1
      · simp only [if_pos c2]; exact ih (i + 1) _ _ (by omega)
      · simp only [if_neg c2]; exact ih (i + 1) _ _ (by omega)
theorem impl_weigh_ev (v l : List Int) (hl : l.length ≤ 9223372036854775807) (ok : ∀ x ∈ l, okLit v x) : Ev (fun k => impl_weigh.f k v l) (weighB v l 0 0) := by
  have := impl_weigh_loop v l hl ok l.length 0 0 0 (by omega)
  simpa [impl_weigh.f] using this

theorem impl_UnitLiterals_ev (n : Int) (l : List (List Int)) (v : List Int) (hl : longL l) : Ev (fun k => impl_UnitLiterals.f k n l v) (unitB n l v) := by
  simp only [impl_UnitLiterals.f]
  refine Ev.bind (impl_fcode n l v hl) ?_
  unfold unitB
  by_cases c : fcodeB n l v = 0
  · simp only [if_pos c]
    obtain ⟨h4, ok⟩ := fcodeB_zero c
    have := gatherI_loop (fun k acc i => impl_UnitLiterals.l0 k v acc l (l.length : Int) i) (fun acc => (acc, (0 : Int))) (unitBq v) l
      (fun acc => ev_const fun k => by simp only [impl_UnitLiterals.l0]; rw [if_neg (by omega)])
      (fun i hi acc r ha hE => by
        refine Ev.step (f := fun k => (impl_weigh.f k v l[i]).bind fun t => if t.1 = true then impl_UnitLiterals.l0 k v acc l (l.length : Int) ((i + 1 : Nat) : Int) else if t.2.1 = 1 then impl_UnitLiterals.l0 k v (acc ++ [t.2.2]) l (l.length : Int) ((i + 1 : Nat) : Int) else impl_UnitLiterals.l0 k v acc l (l.length : Int) ((i + 1 : Nat) : Int)) (fun k => by
          simp only [impl_UnitLiterals.l0]
          rw [if_pos (by omega), if_pos (by omega), if_pos (by omega), rdr_nat l hi, wrap_succ hi hl.1]
          simp only [if_pos (show acc.length < 17592186044416 by omega)]) ?_
        refine Ev.bind (impl_weigh_ev v l[i] (hl.2 _ (List.getElem_mem hi)) (ok _ (List.getElem_mem hi))) ?_
        unfold unitBq at hE
        by_cases q : (weighB v l[i] 0 0).1 = true
        · simp only [if_pos q] at hE ⊢; simpa using hE
        · simp only [if_neg q] at hE ⊢
          by_cases q2 : (weighB v l[i] 0 0).2.1 = 1
          · simp only [if_pos q2] at hE ⊢; simpa using hE
          · simp only [if_neg q2] at hE ⊢; simpa using hE) l.length 0 [] (by omega) (Nat.le_refl _)
    simpa using this
  · simp only [if_neg c]; exact Ev.now _

theorem szInts (l : List Int) (n : Int) (hl : l.length ≤ 9223372036854775807) (h0 : 0 ≤ n) (h1 : n ≤ 4611686018427387904) : ∃ r, laws_szInt64S.f l n = some r ∧ -1 ≤ r ∧ r ≤ n ∧ (0 ≤ r → r = n - l.length) := by
  have e : wrap64 (n - (l.length : Int)) = n - l.length := by unfold wrap64; omega
  unfold laws_szInt64S.f
  rw [e]
  by_cases c : n - (l.length : Int) < 0
  · rw [if_pos c]; exact ⟨_, rfl, by omega, by omega, by omega⟩
  · rw [if_neg c]; exact ⟨_, rfl, by omega, by omega, by omega⟩

theorem szRows_loop (l : List (List Int)) (hl : longL l) : ∀ d i (n : Int), i + d = l.length → 0 ≤ n → n ≤ 4611686018427387904 →
    ∃ r, Ev (fun k => laws_szInt64SS.l0 k l n (i : Int)) r ∧ -1 ≤ r ∧ r ≤ n ∧ (0 ≤ r → ∀ x ∈ l.drop i, (x.length : Int) ≤ n) := by
  intro d
  induction d with
  | zero =>
    intro i n h h0 h1
    refine ⟨n, ev_const fun k => by simp only [laws_szInt64SS.l0]; rw [if_neg (by omega)], by omega, by omega, fun _ x hx => ?_⟩
    rw [List.drop_eq_nil_of_le (by omega)] at hx; cases hx
  | succ d ih =>
    intro i n h h0 h1
    have hi : i < l.length := by omega
    obtain ⟨r1, e1, b1, b2, b3⟩ := szInts l[i] n (hl.2 _ (List.getElem_mem hi)) h0 h1
    have step : ∀ k, laws_szInt64SS.l0 (k + 1) l n (i : Int) = if r1 < 0 then some (-1) else laws_szInt64SS.l0 k l r1 ((i + 1 : Nat) : Int) := fun k => by
      simp only [laws_szInt64SS.l0]
      rw [if_pos (by omega), if_pos (by omega), rdr_nat l hi, e1, wrap_succ hi hl.1]
      simp only [Option.bind_some]
    by_cases c : r1 < 0
    · exact ⟨-1, Ev.step step (by simp only [if_pos c]; exact Ev.now _), by omega, by omega, fun h => by omega⟩
    · obtain ⟨r, hr, c1, c2, c3⟩ := ih (i + 1) r1 (by omega) (by omega) (by omega)
      refine ⟨r, Ev.step step (by simp only [if_neg c]; exact hr), c1, by omega, fun h x hx => ?_⟩
      rw [List.drop_eq_getElem_cons hi] at hx
      rcases List.mem_cons.mp hx with rfl | hx
      · have := b3 (by omega); omega
      · have := c3 h x hx; have := b3 (by omega); omega
theorem szRows (l : List (List Int)) (hl : longL l) (n : Int) (h0 : 0 ≤ n) (h1 : n ≤ 4611686018427387904) :
    ∃ r, Ev (fun k => laws_szInt64SS.f k l n) r ∧ -1 ≤ r ∧ r ≤ n ∧ (0 ≤ r → (l.length : Int) ≤ n ∧ ∀ x ∈ l, (x.length : Int) ≤ n) := by
  have e : wrap64 (n - (l.length : Int)) = n - l.length := by have := hl.1; unfold wrap64; omega
  by_cases c : n - (l.length : Int) < 0
  · exact ⟨-1, by simp only [laws_szInt64SS.f, e, if_pos c]; exact Ev.now _, by omega, by omega, fun h => by omega⟩
  · obtain ⟨r, hr, c1, c2, c3⟩ := szRows_loop l hl l.length 0 (n - l.length) (by omega) (by omega) (by omega)
    exact ⟨r, by simp only [laws_szInt64SS.f, e, if_neg c]; exact hr, c1, by omega, fun h => ⟨by omega, fun x hx => by have := c3 h x (by simpa using hx); omega⟩⟩

theorem toInts_loop (l : List Int) (hl : l.length ≤ 9223372036854775807) : ∀ d i (y : List Int), i + d = l.length → y.length = l.length → y.take i = l.take i → Ev (fun k => laws_toInt64S.l0 k l y (i : Int)) l := by
  intro d
  induction d with
  | zero =>
    intro i y h hy ht
    have e : y = l := by
      rw [List.take_of_length_le (by omega), List.take_of_length_le (by omega)] at ht; exact ht
    subst e
    exact ev_const fun k => by simp only [laws_toInt64S.l0]; rw [if_neg (by omega)]
  | succ d ih =>
    intro i y h hy ht
    have hi : i < l.length := by omega
    refine Ev.step (f := fun k => laws_toInt64S.l0 k l (y.set i l[i]) ((i + 1 : Nat) : Int)) (fun k => ?_) (ih (i + 1) (y.set i l[i]) (by omega) (by simp [hy]) ?_)
    · simp only [laws_toInt64S.l0]
      rw [if_pos (by omega), if_pos (by omega), if_pos (by omega), rd_nat l hi, wrap_succ hi hl, Int.toNat_natCast]
    · rw [List.take_succ_eq_append_getElem (by simp; omega), List.take_succ_eq_append_getElem hi, List.take_set_of_le (Nat.le_refl i), ht]; simp
theorem toInts (l : List Int) (hl : l.length ≤ 35184372088832) : Ev (fun k => laws_toInt64S.f k l) l := by
  have := toInts_loop l (by omega) l.length 0 (List.replicate l.length 0) (by omega) (by simp) (by simp)
  simp only [laws_toInt64S.f, Int.toNat_natCast, if_pos hl, if_pos (Int.natCast_nonneg l.length)]
  exact this

theorem toRows_loop (l : List (List Int)) (hl : l.length ≤ 9223372036854775807) (hx : ∀ x ∈ l, x.length ≤ 35184372088832) : ∀ d i (y : List (List Int)), i + d = l.length → y.length = l.length → y.take i = l.take i → Ev (fun k => laws_toInt64SS.l0 k l y (i : Int)) l := by
  intro d
  induction d with
  | zero =>
    intro i y h hy ht
    have e : y = l := by
      rw [List.take_of_length_le (by omega), List.take_of_length_le (by omega)] at ht; exact ht
    subst e
    exact ev_const fun k => by simp only [laws_toInt64SS.l0]; rw [if_neg (by omega)]
  | succ d ih =>
    intro i y h hy ht
    have hi : i < l.length := by omega
    refine Ev.step (f := fun k => (laws_toInt64S.f k l[i]).bind fun t => laws_toInt64SS.l0 k l (y.set i t) ((i + 1 : Nat) : Int)) (fun k => ?_) (Ev.bind (toInts l[i] (hx _ (List.getElem_mem hi))) (ih (i + 1) (y.set i l[i]) (by omega) (by simp [hy]) ?_))
    · simp only [laws_toInt64SS.l0]
      rw [if_pos (by omega), if_pos (by omega), rdr_nat l hi, wrap_succ hi hl]
      simp only [if_pos (show (i : Int) < (y.length : Int) by omega), Int.toNat_natCast]
    · rw [List.take_succ_eq_append_getElem (by simp; omega), List.take_succ_eq_append_getElem hi, List.take_set_of_le (Nat.le_refl i), ht]; simp
theorem toRows (l : List (List Int)) (hl : l.length ≤ 11728124029610) (hx : ∀ x ∈ l, x.length ≤ 35184372088832) : Ev (fun k => laws_toInt64SS.f k l) l := by
  have := toRows_loop l (by omega) hx l.length 0 (List.replicate l.length []) (by omega) (by simp) (by simp)
  simp only [laws_toInt64SS.f, Int.toNat_natCast, if_pos hl, if_pos (Int.natCast_nonneg l.length)]
  exact this

theorem eqInts_loop (l : List Int) (hl : l.length ≤ 9223372036854775807) : ∀ d i, i + d = l.length → Ev (fun k => laws_eqInt64S.l0 k l l (i : Int)) true := by
  intro d
  induction d with
  | zero => intro i h; exact ev_const fun k => by simp only [laws_eqInt64S.l0]; rw [if_neg (by omega)]
  | succ d ih =>
    intro i h
    have hi : i < l.length := by omega
    refine Ev.step (f := fun k => laws_eqInt64S.l0 k l l ((i + 1 : Nat) : Int)) (fun k => ?_) (ih (i + 1) (by omega))
    simp only [laws_eqInt64S.l0]
    rw [if_pos (by omega), if_pos (by omega), if_pos (by omega), wrap_succ hi hl]; simp
theorem eqInts (l : List Int) (hl : l.length ≤ 9223372036854775807) : Ev (fun k => laws_eqInt64S.f k l l) true := by
  have := eqInts_loop l hl l.length 0 (by omega)
  simpa [laws_eqInt64S.f] using this

theorem eqRows_loop (l : List (List Int)) (hl : longL l) : ∀ d i, i + d = l.length → Ev (fun k => laws_eqInt64SS.l0 k l l (i : Int)) true := by
  intro d
  induction d with
  | zero => intro i h; exact ev_const fun k => by simp only [laws_eqInt64SS.l0]; rw [if_neg (by omega)]
  | succ d ih =>
    intro i h
    have hi : i < l.length := by omega
    refine Ev.step (f := fun k => (laws_eqInt64S.f k l[i] l[i]).bind fun t => if t = true then laws_eqInt64SS.l0 k l l ((i + 1 : Nat) : Int) else some false) (fun k => ?_) (Ev.bind (eqInts l[i] (hl.2 _ (List.getElem_mem hi))) (by simpa using ih (i + 1) (by omega)))
    simp only [laws_eqInt64SS.l0]
    rw [if_pos (by omega), if_pos (by omega), if_pos (by omega), rdr_nat l hi, wrap_succ hi hl.1]
theorem eqRows (l : List (List Int)) (hl : longL l) : Ev (fun k => laws_eqInt64SS.f k l l) true := by
  have := eqRows_loop l hl l.length 0 (by omega)
  simpa [laws_eqInt64SS.f] using this

theorem toFormula_ev (a : Int) (l : List (List Int)) (hl : l.length ≤ 11728124029610) (hx : ∀ x ∈ l, x.length ≤ 35184372088832) : Ev (fun k => laws_toFormula.f k a l) (a, l) := by
  simp only [laws_toFormula.f]
  exact Ev.bind (toRows l hl hx) (Ev.now _)
theorem eqFormula_ev (a : Int) (l : List (List Int)) (hl : longL l) : Ev (fun k => laws_eqFormula.f k a l a l) true := by
  simp only [laws_eqFormula.f, if_true]
  exact Ev.bind (eqRows l hl) (by simpa using Ev.now true)
theorem szFormula_ev (a : Int) (l : List (List Int)) (hl : longL l) : ∃ r, Ev (fun k => laws_szFormula.f k a l 1048576) r ∧ (r < 0 ∨ ((l.length : Int) ≤ 1048576 ∧ ∀ x ∈ l, (x.length : Int) ≤ 1048576)) := by
  obtain ⟨r, hr, c1, c2, c3⟩ := szRows l hl 1048576 (by omega) (by omega)
  by_cases c : r < 0
  · exact ⟨-1, by simp only [laws_szFormula.f]; exact Ev.bind hr (by simp only [if_pos c]; exact Ev.now _), .inl (by omega)⟩
  · exact ⟨r, by simp only [laws_szFormula.f]; exact Ev.bind hr (by simp only [if_neg c]; exact Ev.now _), .inr (c3 (by omega))⟩

/-- The numbers from a on. -/
def seqI (a : Int) : Nat → List Int
  | 0 => []
  | n + 1 => a :: seqI (a + 1) n
theorem seqI_length : ∀ n a, (seqI a n).length = n
  | 0, _ => rfl
  | n + 1, a => by simp [seqI, seqI_length n]
theorem seqI_snoc : ∀ n a, seqI a (n + 1) = seqI a n ++ [a + n]
  | 0, a => by simp [seqI]
  | n + 1, a => by
    rw [seqI, seqI_snoc n (a + 1), seqI]
    simp only [List.cons_append]
    congr 3; omega
theorem seqI_get : ∀ n a i (h : i < (seqI a n).length), (seqI a n)[i] = a + i
  | 0, _, _, h => by simp [seqI] at h
  | n + 1, a, 0, _ => by simp [seqI]
  | n + 1, a, i + 1, h => by
    simp only [seqI, List.getElem_cons_succ]
    rw [seqI_get n (a + 1) i]; omega
theorem markInts_loop (a : Int) (n : Nat) (h0 : 0 ≤ a) (h1 : a + n ≤ 4611686018427387904) : ∀ d i (y : List Int), i + d = n → y.length = d → Ev (fun k => laws_markInt64S.l0 k (seqI a i ++ y) (a + i) (i : Int)) (a + n, seqI a n) := by
  intro d
  induction d with
  | zero =>
    intro i y h hy
    have : y = [] := List.eq_nil_of_length_eq_zero hy
    subst this
    obtain rfl : i = n := by omega
    exact ev_const fun k => by simp only [laws_markInt64S.l0]; rw [if_neg (by simp [seqI_length])]; simp
  | succ d ih =>
    intro i y h hy
    obtain ⟨z, ys, rfl⟩ : ∃ z ys, y = z :: ys := by cases y with | nil => simp at hy | cons z ys => exact ⟨z, ys, rfl⟩
    refine Ev.step (f := fun k => laws_markInt64S.l0 k (seqI a (i + 1) ++ ys) (a + ((i + 1 : Nat) : Int)) ((i + 1 : Nat) : Int)) (fun k => ?_) (ih (i + 1) ys (by omega) (by simpa using hy))
    simp only [laws_markInt64S.l0]
    rw [if_pos (by simp [seqI_length]; omega), if_pos (by omega)]
    have e1 : wrap64 (a + (i : Int) + 1) = a + ((i + 1 : Nat) : Int) := by unfold wrap64; omega
    have e2 : wrap64 ((i : Int) + 1) = ((i + 1 : Nat) : Int) := by unfold wrap64; omega
    rw [e1, e2, Int.toNat_natCast, seqI_snoc]
    congr 1
    rw [List.set_append_right _ _ (by rw [seqI_length]; exact Nat.le_refl i), seqI_length]; simp
theorem markInts (a : Int) (y : List Int) (h0 : 0 ≤ a) (h1 : a + y.length ≤ 4611686018427387904) : Ev (fun k => laws_markInt64S.f k y a) (a + y.length, seqI a y.length) := by
  have := markInts_loop a y.length h0 h1 y.length 0 y (by omega) rfl
  simpa [laws_markInt64S.f, seqI] using this
theorem heldInts_loop (a : Int) (n : Nat) (h0 : 0 ≤ a) (h1 : a + n ≤ 4611686018427387904) : ∀ d i, i + d = n → Ev (fun k => laws_heldInt64S.l0 k (seqI a n) (a + i) (i : Int)) (a + n) := by
  intro d
  induction d with
  | zero =>
    intro i h
    obtain rfl : i = n := by omega
    exact ev_const fun k => by simp only [laws_heldInt64S.l0]; rw [if_neg (by simp [seqI_length])]
  | succ d ih =>
    intro i h
    have hi : i < (seqI a n).length := by rw [seqI_length]; omega
    refine Ev.step (f := fun k => laws_heldInt64S.l0 k (seqI a n) (a + ((i + 1 : Nat) : Int)) ((i + 1 : Nat) : Int)) (fun k => ?_) (ih (i + 1) (by omega))
    simp only [laws_heldInt64S.l0]
    rw [if_pos (by omega), if_pos (by omega), rd_nat _ hi, seqI_get, if_pos rfl]
    have e1 : wrap64 (a + (i : Int) + 1) = a + ((i + 1 : Nat) : Int) := by unfold wrap64; omega
    have e2 : wrap64 ((i : Int) + 1) = ((i + 1 : Nat) : Int) := by unfold wrap64; omega
    rw [e1, e2]
theorem heldInts (a : Int) (n : Nat) (h0 : 0 ≤ a) (h1 : a + n ≤ 4611686018427387904) : Ev (fun k => laws_heldInt64S.f k (seqI a n) a) (a + n) := by
  have := heldInts_loop a n h0 h1 n 0 (by omega)
  simpa [laws_heldInt64S.f] using this

theorem markRows : ∀ (l : List (List Int)) (a : Int), 0 ≤ a → (∀ x ∈ l, (x.length : Int) ≤ 1048576) → a + l.length * 1048576 ≤ 4611686018427387904 →
    ∃ r z, Ev (fun k => laws_markInt64SS.f k l a) (r, z) ∧ a ≤ r ∧ r ≤ a + l.length * 1048576
  | [], a, _, _, _ => ⟨a, [], Ev.now _, by omega, by simp⟩
  | x :: xs, a, h0, hx, h1 => by
    have hxl := hx x List.mem_cons_self
    simp only [List.length_cons] at h1
    have h1' : a + x.length + xs.length * 1048576 ≤ 4611686018427387904 := by push_cast at h1; omega
    obtain ⟨r, z, hr, c1, c2⟩ := markRows xs (a + x.length) (by omega) (fun y hy => hx y (List.mem_cons_of_mem _ hy)) h1'
    refine ⟨r, seqI a x.length :: z, Ev.bind (markInts a x h0 (by omega)) (Ev.bind hr (Ev.now _)), by omega, ?_⟩
    simp only [List.length_cons]; push_cast; omega

theorem markFormula_ev (a : Int) (l : List (List Int)) (hl : (l.length : Int) ≤ 1048576) (hx : ∀ x ∈ l, (x.length : Int) ≤ 1048576) :
    ∃ r z, Ev (fun k => laws_markFormula.f k a l 1) (r, z) ∧ 1 ≤ r ∧ r ≤ 1099511627777 := by
  obtain ⟨r, z, h, c1, c2⟩ := markRows l 1 (by omega) hx (by omega)
  exact ⟨r, z, h, c1, by omega⟩


theorem pure : laws_FnExactUnitLiterals.Pure := by
  intro a l s _ hw hws
  have hl := longL_of hw
  obtain ⟨r, hr, hc⟩ := szFormula_ev a l hl
  refine Ev.rounds (r := true) ?_
  simp only [laws_FnExactUnitLiterals.f]
  by_cases c0 : (s.length : Int) > 1048576
  · simp only [if_pos c0]; exact Ev.now _
  simp only [if_neg c0]
  refine Ev.bind hr ?_
  by_cases c : r < 0
  · simp only [if_pos c]; exact Ev.now _
  simp only [if_neg c]
  have hs := hc.resolve_left c
  have hT := toFormula_ev a l (by omega) (fun x hx => by have := hs.2 x hx; omega)
  have hT2 := toInts s (by omega)
  have hlen := unitB_len a l s
  have hS := spec_UnitLiterals_ev a l s hl (by omega)
  have hI := impl_UnitLiterals_ev a l s hl
  have hE := eqInts (unitB a l s).1 (by omega)
  generalize unitB a l s = v at *
  refine Ev.bind hT (Ev.bind hT2 (Ev.bind hS (Ev.bind hT (Ev.bind hT2 (Ev.bind hI (Ev.bind hE ?_))))))
  simp only [if_true]
  refine Ev.bind hT (Ev.bind (eqFormula_ev a l hl) ?_)
  simp only [if_true]
  refine Ev.bind hT2 (Ev.bind (eqInts s (by omega)) ?_)
  simp only [if_true]
  obtain ⟨m, z, hM, m1, m2⟩ := markFormula_ev a l hs.1 hs.2
  refine Ev.bind hM (Ev.bind (markInts m s (by omega) (by omega)) ?_)
  simp only [if_neg (show ¬ (m + (s.length : Int) < 0) by omega)]
  refine Ev.bind hE ?_
  simp only [if_true]
  have hH := heldInts 1 v.1.length (by omega) (by omega)
  refine Ev.bind (markInts 1 v.1 (by omega) (by omega)) (Ev.bind hH ?_)
  simp only [if_neg (show ¬ (1 + (v.1.length : Int) < 0) by omega), if_true]
  refine Ev.bind hT (Ev.bind hT2 (Ev.bind hI (Ev.bind hE ?_)))
  simp only [if_true]
  refine Ev.bind hH ?_
  simp only [if_neg (show ¬ (1 + (v.1.length : Int) < 0) by omega), if_true]
  exact Ev.now true

end Go.Proofs.Ytkmlgfihoaneeaa.XFnExactUnitLiterals
namespace Go.Proofs.Ytkmlgfihoaneeaa
/-- The law FnExactUnitLiterals returns true at every formula and assignment and leaves its arguments as they were. Conditions: none. -/
theorem fnExactUnitLiterals_holds : Rows.FnExactUnitLiteralsSaid := fnExactUnitLiterals.of_pure XFnExactUnitLiterals.pure
#print axioms fnExactUnitLiterals_holds
end Go.Proofs.Ytkmlgfihoaneeaa
