/- The law FnExactSelectionOf returns true at every list of numbers and leaves its argument as it was. Conditions: none. -/
import Derived.Test.YtbelgbbfmnccoaaXRFnExactSelectionOf
namespace Go.Proofs.Ytbelgbbfmnccoaa.XFnExactSelectionOf
open Go.RowKit Go.Proofs.YtbelgbbfmnccoaaW.PrintWords Go.Proofs.YtbelgbbfmnccoaaW.PrintLast Go.Proofs.YtbelgbbfmnccoaaW.PrintMore Go.Proofs.Ytbelgbbfmnccoaa.U
set_option linter.unusedVariables false
set_option linter.unusedSimpArgs false

theorem wrap_succ {i n : Nat} (h : i < n) (hn : n ≤ 9223372036854775807) : wrap64 ((i : Int) + 1) = ((i + 1 : Nat) : Int) := by
  unfold wrap64; omega
theorem wrap_id {x : Int} (h0 : -9223372036854775808 ≤ x) (h1 : x ≤ 9223372036854775807) : wrap64 x = x := by
  unfold wrap64; omega
theorem rd_nat (l : List Int) {i : Nat} (h : i < l.length) : rd l (i : Int) = l[i] := by
  simp [rd, List.getD_eq_getElem?_getD, List.getElem?_eq_getElem h]
theorem ev_true {g : Nat → Option Bool} {r : Bool} (h : ∀ k, g (k + 1) = some r) : Ev g r := Ev.step (f := fun _ => some r) h (Ev.now r)
theorem ev_const {α : Type} {g : Nat → Option α} {r : α} (h : ∀ k, g (k + 1) = some r) : Ev g r := Ev.step (f := fun _ => some r) h (Ev.now r)
theorem ev_eq {α : Type} {g : Nat → Option α} {r r' : α} (h : Ev g r) (e : r = r') : Ev g r' := e ▸ h
theorem wf64 {x : Int} (h : (Lit.int .i64 x).wf = true) : -9223372036854775808 ≤ x ∧ x ≤ 9223372036854775807 := by
  simp only [Lit.wf, IntKind.min, IntKind.max, IntKind.signed, IntKind.bits, Bool.and_eq_true, decide_eq_true_eq] at h
  simpa using h

/-- The places of all ones, from a place on. -/
def onesOf : List Int → Int → List Int
  | [], _ => []
  | x :: xs, i => if x = 1 then i :: onesOf xs (i + 1) else onesOf xs (i + 1)
theorem onesOf_length : ∀ (l : List Int) i, (onesOf l i).length ≤ l.length
  | [], _ => Nat.le_refl _
  | x :: xs, i => by simp only [onesOf]; split <;> simp only [List.length_cons] <;> have := onesOf_length xs (i + 1) <;> omega

def valB (x : Int) : Bool := decide (-1 ≤ x) && decide (x ≤ 1)

theorem spec_in (a b c : Int) : spec_l01In.f a b c = some (decide (b ≤ a) && decide (a ≤ c)) := by
  unfold spec_l01In.f; by_cases h : b ≤ a
  · rw [if_pos h]; simp [h]
  · rw [if_neg h]; simp [h]

theorem spec_Values_loop (l : List Int) (n : Int) (hl : l.length ≤ 9223372036854775807) : ∀ d i, i + d = l.length → Ev (fun k => spec_l20Values.l0 k l n (i : Int)) ((l.drop i).all valB && decide ((l.length : Int) = n)) := by
  intro d
  induction d with
  | zero =>
    intro i h
    rw [List.drop_eq_nil_of_le (by omega)]
    exact ev_const fun k => by simp only [spec_l20Values.l0]; rw [if_neg (by omega)]; simp; rfl
  | succ d ih =>
    intro i h
    have hi : i < l.length := by omega
    rw [List.drop_eq_getElem_cons hi, List.all_cons]
    have step : ∀ k, spec_l20Values.l0 (k + 1) l n (i : Int) = if valB l[i] = true then spec_l20Values.l0 k l n ((i + 1 : Nat) : Int) else some false := fun k => by
      simp only [spec_l20Values.l0]
      rw [if_pos (by omega), if_pos (by omega), rd_nat l hi, wrap_succ hi hl, spec_in]; rfl
    refine Ev.step step ?_
    cases q : valB l[i] with
    | true => simp only [if_true]; refine ev_eq (ih (i + 1) (by omega)) ?_; simp
    | false => simp only [Bool.false_eq_true, if_false]; refine ev_eq (Ev.now _) ?_; simp
theorem spec_Values (l : List Int) (n : Int) (hl : l.length ≤ 9223372036854775807) : Ev (fun k => spec_l20Values.f k l n) (l.all valB && decide ((l.length : Int) = n)) := by
  have := spec_Values_loop l n hl l.length 0 (by omega)
  simpa [spec_l20Values.f] using this

theorem spec_Sel_loop (l : List Int) (hl : l.length ≤ 17592186044415) : ∀ d i (y : List Int), i + d = l.length → y.length ≤ i → Ev (fun k => spec_SelectionOf.l0 k l y (i : Int)) (y ++ onesOf (l.drop i) i, 0) := by
  intro d
  induction d with
  | zero =>
    intro i y h hy
    rw [List.drop_eq_nil_of_le (by omega)]
    exact ev_const fun k => by simp only [spec_SelectionOf.l0]; rw [if_neg (by omega)]; simp [onesOf]
  | succ d ih =>
    intro i y h hy
    have hi : i < l.length := by omega
    rw [List.drop_eq_getElem_cons hi]
    simp only [onesOf]
    by_cases c : l[i] = 1
    · rw [if_pos c]
      refine Ev.step (f := fun k => spec_SelectionOf.l0 k l (y ++ [(i : Int)]) ((i + 1 : Nat) : Int)) (fun k => ?_) (ev_eq (ih (i + 1) (y ++ [(i : Int)]) (by omega) (by simp; omega)) (by simp))
      simp only [spec_SelectionOf.l0]
      rw [if_pos (by omega), if_pos (by omega), rd_nat l hi, if_pos c, if_pos (by omega), wrap_succ hi (by omega)]
    · rw [if_neg c]
      refine Ev.step (f := fun k => spec_SelectionOf.l0 k l y ((i + 1 : Nat) : Int)) (fun k => ?_) (ev_eq (ih (i + 1) y (by omega) (by omega)) (by simp))
      simp only [spec_SelectionOf.l0]
      rw [if_pos (by omega), if_pos (by omega), rd_nat l hi, if_neg c, wrap_succ hi (by omega)]
def selB (l : List Int) : List Int × Int := if decide ((l.length : Int) ≤ 400) && l.all valB then (onesOf l 0, 0) else ([], 2)
theorem spec_Sel (l : List Int) (hl : l.length ≤ 17592186044415) : Ev (fun k => spec_SelectionOf.f k l) (selB l) := by
  have hL := spec_Sel_loop l hl l.length 0 [] (by omega) (by simp)
  have hj : ∀ x, Ev (fun k => spec_SelectionOf.j0 k l x) (if x then ([], 2) else (onesOf l 0, 0)) := fun x => by
    refine Ev.step (f := fun k => if x = true then some ([], 2) else spec_SelectionOf.l0 k l [] 0) (fun k => by simp only [spec_SelectionOf.j0]) ?_
    cases x with
    | true => simpa using Ev.now (([] : List Int), (2 : Int))
    | false => simpa using hL
  simp only [spec_SelectionOf.f, selB]
  by_cases c : (l.length : Int) > 400
  · simp only [if_pos c]; refine ev_eq (hj true) ?_; rw [decide_eq_false (by omega)]; rfl
  · simp only [if_neg c]
    refine Ev.bind (spec_Values l _ (by omega)) (ev_eq (hj _) ?_)
    rw [decide_eq_true (show (l.length : Int) ≤ 400 by omega)]
    cases l.all valB <;> simp

theorem impl_in (a b c : Int) : impl_within.f a b c = some (decide (b ≤ a) && decide (a ≤ c)) := by
  unfold impl_within.f; by_cases h : b ≤ a
  · rw [if_pos h]; simp [h]
  · rw [if_neg h]; simp [h]

theorem anyM_ev {α : Type} (p : Nat → α → Option Bool) (q : α → Bool) : ∀ l : List α, (∀ x ∈ l, Ev (fun k => p k x) (q x)) → Ev (fun k => anyM (p k) l) (l.any q)
  | [], _ => by simpa [anyM] using Ev.now false
  | x :: xs, h => by
    simp only [anyM, List.any_cons]
    refine Ev.bind (h x (List.mem_cons_self ..)) ?_
    cases c : q x with
    | true => simpa using Ev.now true
    | false => simpa using anyM_ev p q xs (fun y hy => h y (List.mem_cons_of_mem _ hy))
theorem anyM_some {α : Type} (p : α → Option Bool) (q : α → Bool) : ∀ l : List α, (∀ x ∈ l, p x = some (q x)) → anyM p l = some (l.any q)
  | [], _ => rfl
  | x :: xs, h => by
    simp only [anyM, List.any_cons, h x (List.mem_cons_self ..), Option.bind_some]
    cases c : q x with
    | true => simp
    | false => simpa using anyM_some p q xs (fun y hy => h y (List.mem_cons_of_mem _ hy))

theorem impl_Values (l : List Int) (n : Int) : impl_isAssignment.f l n = some (l.all valB && decide ((l.length : Int) = n)) := by
  unfold impl_isAssignment.f
  by_cases c : (l.length : Int) = n
  · rw [if_pos c, anyM_some _ (fun x => !valB x) l (fun x _ => by simp only [impl_isAssignment_1.f, impl_in, Option.bind_some]; rfl)]
    simp [c, List.any_eq_not_all_not]
  · rw [if_neg c]; simp [c]

theorem impl_Sel_loop (l : List Int) (hl : l.length ≤ 17592186044415) : ∀ d i (y : List Int), i + d = l.length → y.length ≤ i → Ev (fun k => impl_SelectionOf.l0 k y l (l.length : Int) (i : Int)) (y ++ onesOf (l.drop i) i, 0) := by
  intro d
  induction d with
  | zero =>
    intro i y h hy
    rw [List.drop_eq_nil_of_le (by omega)]
    exact ev_const fun k => by simp only [impl_SelectionOf.l0]; rw [if_neg (by omega)]; simp [onesOf]
  | succ d ih =>
    intro i y h hy
    have hi : i < l.length := by omega
    rw [List.drop_eq_getElem_cons hi]
    simp only [onesOf]
    by_cases c : l[i] = 1
    · rw [if_pos c]
      refine Ev.step (f := fun k => impl_SelectionOf.l0 k (y ++ [(i : Int)]) l (l.length : Int) ((i + 1 : Nat) : Int)) (fun k => ?_) (ev_eq (ih (i + 1) (y ++ [(i : Int)]) (by omega) (by simp; omega)) (by simp))
      simp only [impl_SelectionOf.l0]
      rw [if_pos (by omega), if_pos (by omega), if_pos (by omega), rd_nat l hi, if_pos c, if_pos (by omega), wrap_succ hi (by omega)]
    · rw [if_neg c]
      refine Ev.step (f := fun k => impl_SelectionOf.l0 k y l (l.length : Int) ((i + 1 : Nat) : Int)) (fun k => ?_) (ev_eq (ih (i + 1) y (by omega) (by omega)) (by simp))
      simp only [impl_SelectionOf.l0]
      rw [if_pos (by omega), if_pos (by omega), if_pos (by omega), rd_nat l hi, if_neg c, wrap_succ hi (by omega)]
theorem impl_Sel (l : List Int) (hl : l.length ≤ 17592186044415) : Ev (fun k => impl_SelectionOf.f k l) (selB l) := by
  have hL := impl_Sel_loop l hl l.length 0 [] (by omega) (by simp)
  have hj : ∀ x, Ev (fun k => impl_SelectionOf.j0 k l x) (if x then ([], 2) else (onesOf l 0, 0)) := fun x => by
    refine Ev.step (f := fun k => if x = true then some ([], 2) else impl_SelectionOf.l0 k [] l (l.length : Int) 0) (fun k => by simp only [impl_SelectionOf.j0]) ?_
    cases x with
    | true => simpa using Ev.now (([] : List Int), (2 : Int))
    | false => simpa using hL
  simp only [impl_SelectionOf.f, selB]
  by_cases c : (l.length : Int) > 400
  · simp only [if_pos c]; refine ev_eq (hj true) ?_; rw [decide_eq_false (by omega)]; rfl
  · simp only [if_neg c, impl_Values, Option.bind_some]
    refine ev_eq (hj _) ?_
    rw [decide_eq_true (show (l.length : Int) ≤ 400 by omega)]
    cases l.all valB <;> simp

/-- The numbers from a on. -/
def seqI (a : Int) : Nat → List Int
  | 0 => []
  | n + 1 => a :: seqI (a + 1) n
theorem seqI_length : ∀ n a, (seqI a n).length = n
  | 0, _ => rfl
  | n + 1, a => by simp [seqI, seqI_length n]
theorem seqI_snoc : ∀ n a, seqI a (n + 1) = seqI a n ++ [a + n]
  | 0, a => by simp [seqI]
  | n + 1, a => by
    rw [seqI, seqI_snoc n (a + 1), seqI]
    simp only [List.cons_append]
    congr 3; omega
theorem seqI_get : ∀ n a i (h : i < (seqI a n).length), (seqI a n)[i] = a + i
  | 0, _, _, h => by simp [seqI] at h
  | n + 1, a, 0, _ => by simp [seqI]
  | n + 1, a, i + 1, h => by
    simp only [seqI, List.getElem_cons_succ]
    rw [seqI_get n (a + 1) i]; omega
theorem markInts_loop (a : Int) (n : Nat) (h0 : 0 ≤ a) (h1 : a + n ≤ 4611686018427387904) : ∀ d i (y : List Int), i + d = n → y.length = d → Ev (fun k => laws_markInt64S.l0 k (seqI a i ++ y) (a + i) (i : Int)) (a + n, seqI a n) := by
  intro d
  induction d with
  | zero =>
    intro i y h hy
    have : y = [] := List.eq_nil_of_length_eq_zero hy
    subst this
    obtain rfl : i = n := by omega
    exact ev_const fun k => by simp only [laws_markInt64S.l0]; rw [if_neg (by simp [seqI_length])]; simp
  | succ d ih =>
    intro i y h hy
    obtain ⟨z, ys, rfl⟩ : ∃ z ys, y = z :: ys := by cases y with | nil => simp at hy | cons z ys => exact ⟨z, ys, rfl⟩
    refine Ev.step (f := fun k => laws_markInt64S.l0 k (seqI a (i + 1) ++ ys) (a + ((i + 1 : Nat) : Int)) ((i + 1 : Nat) : Int)) (fun k => ?_) (ih (i + 1) ys (by omega) (by simpa using hy))
    simp only [laws_markInt64S.l0]
    rw [if_pos (by simp [seqI_length]; omega), if_pos (by omega)]
    have e1 : wrap64 (a + (i : Int) + 1) = a + ((i + 1 : Nat) : Int) := by unfold wrap64; omega
    have e2 : wrap64 ((i : Int) + 1) = ((i + 1 : Nat) : Int) := by unfold wrap64; omega
    rw [e1, e2, Int.toNat_natCast, seqI_snoc]
    congr 1
    rw [List.set_append_right _ _ (by rw [seqI_length]; exact Nat.le_refl i), seqI_length]; simp
theorem markInts (a : Int) (y : List Int) (h0 : 0 ≤ a) (h1 : a + y.length ≤ 4611686018427387904) : Ev (fun k => laws_markInt64S.f k y a) (a + y.length, seqI a y.length) := by
  have := markInts_loop a y.length h0 h1 y.length 0 y (by omega) rfl
  simpa [laws_markInt64S.f, seqI] using this
theorem heldInts_loop (a : Int) (n : Nat) (h0 : 0 ≤ a) (h1 : a + n ≤ 4611686018427387904) : ∀ d i, i + d = n → Ev (fun k => laws_heldInt64S.l0 k (seqI a n) (a + i) (i : Int)) (a + n) := by
  intro d
  induction d with
  | zero =>
    intro i h
    obtain rfl : i = n := by omega
    exact ev_const fun k => by simp only [laws_heldInt64S.l0]; rw [if_neg (by simp [seqI_length])]
  | succ d ih =>
    intro i h
    have hi : i < (seqI a n).length := by rw [seqI_length]; omega
    refine Ev.step (f := fun k => laws_heldInt64S.l0 k (seqI a n) (a + ((i + 1 : Nat) : Int)) ((i + 1 : Nat) : Int)) (fun k => ?_) (ih (i + 1) (by omega))
    simp only [laws_heldInt64S.l0]
    rw [if_pos (by omega), if_pos (by omega), rd_nat _ hi, seqI_get, if_pos rfl]
    have e1 : wrap64 (a + (i : Int) + 1) = a + ((i + 1 : Nat) : Int) := by unfold wrap64; omega
    have e2 : wrap64 ((i : Int) + 1) = ((i + 1 : Nat) : Int) := by unfold wrap64; omega
    rw [e1, e2]
theorem heldInts (a : Int) (n : Nat) (h0 : 0 ≤ a) (h1 : a + n ≤ 4611686018427387904) : Ev (fun k => laws_heldInt64S.f k (seqI a n) a) (a + n) := by
  have := heldInts_loop a n h0 h1 n 0 (by omega)
  simpa [laws_heldInt64S.f] using this

theorem toInts_loop (l : List Int) (hl : l.length ≤ 9223372036854775807) : ∀ d i (y : List Int), i + d = l.length → y.length = l.length → y.take i = l.take i → Ev (fun k => laws_toInt64S.l0 k l y (i : Int)) l := by
  intro d
  induction d with
  | zero =>
    intro i y h hy ht
    have e : y = l := by
      rw [List.take_of_length_le (by omega), List.take_of_length_le (by omega)] at ht; exact ht
    subst e
    exact ev_const fun k => by simp only [laws_toInt64S.l0]; rw [if_neg (by omega)]
  | succ d ih =>
    intro i y h hy ht
    have hi : i < l.length := by omega
    refine Ev.step (f := fun k => laws_toInt64S.l0 k l (y.set i l[i]) ((i + 1 : Nat) : Int)) (fun k => ?_) (ih (i + 1) (y.set i l[i]) (by omega) (by simp [hy]) ?_)
    · simp only [laws_toInt64S.l0]
      rw [if_pos (by omega), if_pos (by omega), if_pos (by omega), rd_nat l hi, wrap_succ hi hl, Int.toNat_natCast]
    · rw [List.take_succ_eq_append_getElem (by simp; omega), List.take_succ_eq_append_getElem hi, List.take_set_of_le (Nat.le_refl i), ht]; simp
theorem toInts (l : List Int) (hl : l.length ≤ 35184372088832) : Ev (fun k => laws_toInt64S.f k l) l := by
  have := toInts_loop l (by omega) l.length 0 (List.replicate l.length 0) (by omega) (by simp) (by simp)
  simp only [laws_toInt64S.f, Int.toNat_natCast, if_pos hl, if_pos (Int.natCast_nonneg l.length)]
  exact this

theorem eqInts_loop (l : List Int) (hl : l.length ≤ 9223372036854775807) : ∀ d i, i + d = l.length → Ev (fun k => laws_eqInt64S.l0 k l l (i : Int)) true := by
  intro d
  induction d with
  | zero => intro i h; exact ev_const fun k => by simp only [laws_eqInt64S.l0]; rw [if_neg (by omega)]
  | succ d ih =>
    intro i h
    have hi : i < l.length := by omega
    refine Ev.step (f := fun k => laws_eqInt64S.l0 k l l ((i + 1 : Nat) : Int)) (fun k => ?_) (ih (i + 1) (by omega))
    simp only [laws_eqInt64S.l0]
    rw [if_pos (by omega), if_pos (by omega), if_pos (by omega), wrap_succ hi hl]; simp
theorem eqInts (l : List Int) (hl : l.length ≤ 9223372036854775807) : Ev (fun k => laws_eqInt64S.f k l l) true := by
  have := eqInts_loop l hl l.length 0 (by omega)
  simpa [laws_eqInt64S.f] using this


theorem selB_len (l : List Int) : (selB l).1.length ≤ l.length := by
  unfold selB; split
  · exact onesOf_length l 0
  · simp
theorem pure : laws_FnExactSelectionOf.Pure := by
  intro l hw
  refine Ev.rounds (r := true) ?_
  simp only [laws_FnExactSelectionOf.f]
  by_cases c : (l.length : Int) > 1048576
  · simp only [if_pos c]; exact Ev.now _
  · simp only [if_neg c]
    have hT := toInts l (by omega)
    have hs := selB_len l
    have hE := eqInts (selB l).1 (by omega)
    have hI := impl_Sel l (by omega)
    refine Ev.bind hT (Ev.bind (spec_Sel l (by omega)) (Ev.bind hT (Ev.bind hI (Ev.bind hE ?_))))
    simp only [if_true, bne_self_eq_false]
    refine Ev.step (f := fun k => _) (fun k => by simp only [laws_FnExactSelectionOf.j0]; rfl) ?_
    simp only [Bool.false_eq_true, if_false]
    refine Ev.bind hT (Ev.bind (eqInts l (by omega)) ?_)
    simp only [if_true]
    refine Ev.bind (markInts 1 l (by omega) (by omega)) ?_
    simp only [if_neg (show ¬ (1 + (l.length : Int) < 0) by omega)]
    refine Ev.bind hE ?_
    simp only [if_true, bne_self_eq_false]
    refine Ev.step (f := fun k => _) (fun k => by simp only [laws_FnExactSelectionOf.j1]; rfl) ?_
    simp only [Bool.false_eq_true, if_false]
    have hM := markInts 1 (selB l).1 (by omega) (by omega)
    have hH := heldInts 1 (selB l).1.length (by omega) (by omega)
    refine Ev.bind hM (Ev.bind hH ?_)
    simp only [if_neg (show ¬ (1 + ((selB l).1.length : Int) < 0) by omega), if_true]
    refine Ev.bind hT (Ev.bind hI (Ev.bind hE ?_))
    simp only [if_true, bne_self_eq_false]
    refine Ev.step (f := fun k => _) (fun k => by simp only [laws_FnExactSelectionOf.j2]; rfl) ?_
    simp only [Bool.false_eq_true, if_false]
    refine Ev.bind hH ?_
    simp only [if_neg (show ¬ (1 + ((selB l).1.length : Int) < 0) by omega), if_true]
    exact Ev.now true

end Go.Proofs.Ytbelgbbfmnccoaa.XFnExactSelectionOf
namespace Go.Proofs.Ytbelgbbfmnccoaa
/-- The law FnExactSelectionOf returns true at every list of numbers and leaves its argument as it was. Conditions: none. -/
theorem fnExactSelectionOf_holds : Rows.FnExactSelectionOfSaid := fnExactSelectionOf.of_pure XFnExactSelectionOf.pure
#print axioms fnExactSelectionOf_holds
end Go.Proofs.Ytbelgbbfmnccoaa
