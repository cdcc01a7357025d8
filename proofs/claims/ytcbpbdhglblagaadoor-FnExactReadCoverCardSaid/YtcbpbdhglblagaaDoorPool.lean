/- Several operations of a region that may come up in any order: one relation over what is listed of them; behind them the walk goes on. -/
import Derived.Test.YtcbpbdhglblagaaDoorWInvWords
import Derived.Test.YtcbpbdhglblagaaDoorV
namespace Go.Proofs.YtcbpbdhglblagaaDoorW.PrintLast
set_option linter.unusedVariables false
section
variable {P : Program} {ops : Array Oper} {Q : Exit → Act → World → Prop} {md : Region.Mode} {S : World → Prop} {ds : List Nat}
/-- l with O's places by b. -/
def msk (l : List Bool) (O : List Nat) (b : Nat → Bool) : List Bool := (List.range l.length).map fun j => if O.contains j then b j else l.getD j true
def masks : Nat → List (List Bool)
  | 0 => [[]]
  | n + 1 => (masks n).flatMap fun r => [false :: r, true :: r]
theorem mem_masks : ∀ (r : List Bool), r ∈ masks r.length
  | [] => by simp [masks]
  | x :: r => by
    simp only [List.length_cons, masks, List.mem_flatMap]
    exact ⟨r, mem_masks r, by cases x <;> simp⟩
def ofMask (O : List Nat) (r : List Bool) (j : Nat) : Bool := r.getD (O.idxOf j) false
theorem ofMask_eq {O : List Nat} {b : Nat → Bool} {j : Nat} (hj : j ∈ O) : ofMask O (O.map b) j = b j := by
  unfold ofMask
  have h := List.idxOf_lt_length_of_mem hj
  rw [List.getD_eq_getElem?_getD, List.getElem?_map, List.getElem?_eq_getElem h]
  simp
theorem msk_congr {l : List Bool} {O : List Nat} {b b' : Nat → Bool} (h : ∀ j ∈ O, b j = b' j) : msk l O b = msk l O b' := by
  unfold msk
  refine List.map_congr_left (fun j _ => ?_)
  by_cases hj : O.contains j = true
  · rw [if_pos hj, if_pos hj, h j (List.contains_iff_mem.1 hj)]
  · rw [if_neg hj, if_neg hj]
def shutB (O : List Nat) (need : Nat → List Nat) (b : Nat → Bool) : Bool := O.all fun j => !b j || (need j).all b
def poolB (md : Region.Mode) (ops : Array Oper) (l0 l1 : List Bool) (O : List Nat) (need : Nat → List Nat) : Bool :=
  O.all (fun i => decide (i < l0.length) && (need i).all (fun j => O.contains j)) && (msk l0 O (fun _ => true) == l1) && decide O.Nodup &&
  (masks O.length).all fun r => let b := ofMask O r
    !(shutB O need b) || O.all b || (let rs := Region.ready md ops (msk l0 O b).toArray
      !(rs == []) && rs.all fun i => O.contains i && !b i && (need i).all b)
theorem msk_up {l : List Bool} {O : List Nat} {b : Nat → Bool} {i : Nat} (hi : i ∈ O) (hl : i < l.length) : (msk l O b).toArray.setIfInBounds i true = (msk l O (up b i)).toArray := by
  apply Array.ext'
  rw [Array.toList_setIfInBounds]
  show (msk l O b).set i true = msk l O (up b i)
  apply List.ext_getElem?
  intro j
  by_cases hj : j < l.length
  · by_cases hij : i = j
    · subst hij
      rw [List.getElem?_set_self (by simp [msk]; exact hj)]
      have hc : O.contains i = true := List.contains_iff_mem.2 hi
      simp [msk, List.getElem?_map, List.getElem?_range hj, up, hi]
    · rw [List.getElem?_set_ne hij]
      have hji : ¬ j = i := fun e => hij e.symm
      simp [msk, List.getElem?_map, List.getElem?_range hj, up, hji]
  · rw [List.getElem?_eq_none (by simp [msk]; omega), List.getElem?_eq_none (by simp [msk]; omega)]
theorem up_of {b : Nat → Bool} {i j : Nat} (h : up b i j = true) (hne : j ≠ i) : b j = true := by rwa [up_ne hne] at h
/-- What stands in the entry of an operation that isn't listed does not matter. -/
theorem putSel_idle {b : Nat → Bool} {i : Nat} {t : Tmp} {v0 v : Value} {a : Act} {L L' : List (Nat × Tmp × Value)} (k : Nat) (hb : b i = false) (hL : L[k]? = some (i, t, v0)) (hL' : L.set k (i, t, v) = L') : putSel a b L = putSel a b L' := by
  subst hL'
  induction L generalizing k a with
  | nil => cases hL
  | cons e r ih =>
    cases k with
    | zero =>
      simp only [List.getElem?_cons_zero, Option.some.injEq] at hL
      subst hL
      simp only [List.set_cons_zero, putSel, hb, Bool.false_eq_true, if_false]
    | succ k =>
      simp only [List.set_cons_succ, putSel]
      exact ih k (by simpa using hL)
/-- The step of operation i. -/
def PoolAt (P : Program) (ops : Array Oper) (Q : Exit → Act → World → Prop) (O : List Nat) (need : Nat → List Nat) (I : (Nat → Bool) → Act → World → Prop) (i : Nat) : Prop :=
  ∀ b a w, I b a w → b i = false → (∀ j ∈ need i, b j = true) → (∀ j ∈ O, b j = true → ∀ k ∈ need j, b k = true) →
    ∃ oi, ops[i]? = some oi ∧ ∀ K : Act → World → Prop, Shut (∀ a' w', I (up b i) a' w' → K a' w') → if Region.wanted oi (yielded ops a.tmps) = true then Oper.wp P oi a w K Q else K (a.put oi.dst undef) w
theorem pool_nil {O : List Nat} {need : Nat → List Nat} {I : (Nat → Bool) → Act → World → Prop} : ∀ i ∈ ([] : List Nat), PoolAt P ops Q O need I i := fun _ h => by cases h
theorem pool_cons {O : List Nat} {need : Nat → List Nat} {I : (Nat → Bool) → Act → World → Prop} {i : Nat} {rs : List Nat} (h : PoolAt P ops Q O need I i) (hs : ∀ j ∈ rs, PoolAt P ops Q O need I j) : ∀ j ∈ i :: rs, PoolAt P ops Q O need I j := fun j hj => by
  rcases List.mem_cons.1 hj with rfl | hj
  · exact h
  · exact hs j hj
theorem pool_all {l0 l1 : List Bool} {O : List Nat} {need : Nat → List Nat} {n : Nat} (I : (Nat → Bool) → Act → World → Prop) (hc : poolB md ops l0 l1 O need = true) (hS : ∀ b a w, I b a w → S w)
    (hs : ∀ i ∈ O, PoolAt P ops Q O need I i) (hend : ∀ b a w, (∀ j ∈ O, b j = true) → I b a w → wpAnyLast P md ops Q S ds n l1.toArray a w) :
    ∀ (m : Nat) (b : Nat → Bool) (a : Act) (w : World), (O.filter fun j => !b j).length = m → (∀ j ∈ O, b j = true → ∀ k ∈ need j, b k = true) → I b a w → wpAnyLast P md ops Q S ds (m + n) (msk l0 O b).toArray a w := by
  unfold poolB at hc
  simp only [Bool.and_eq_true] at hc
  obtain ⟨⟨⟨h1, h2⟩, h3⟩, h4⟩ := hc
  intro m
  induction m with
  | zero =>
    intro b a w hm hcl hI
    have hall : ∀ j ∈ O, b j = true := by
      intro j hj
      cases hb : b j with
      | true => rfl
      | false =>
        have : j ∈ O.filter fun j => !b j := List.mem_filter.2 ⟨hj, by simp [hb]⟩
        rw [List.eq_nil_of_length_eq_zero hm] at this
        cases this
    have h5 : msk l0 O b = l1 := (msk_congr hall).trans (beq_iff_eq.1 h2)
    rw [h5, Nat.zero_add]
    exact hend b a w hall hI
  | succ m ih =>
    intro b a w hm hcl hI
    have h5 := List.all_eq_true.1 h4 (O.map b) (by have := mem_masks (O.map b); rwa [List.length_map] at this)
    have hmk : msk l0 O (ofMask O (O.map b)) = msk l0 O b := msk_congr (fun j hj => ofMask_eq hj)
    have hin : ∀ i ∈ O, ∀ k ∈ need i, k ∈ O := fun i hi k hk => by
      have := List.all_eq_true.1 h1 i hi
      simp only [Bool.and_eq_true, List.all_eq_true] at this
      exact List.contains_iff_mem.1 (this.2 k hk)
    have hsh : shutB O need (ofMask O (O.map b)) = true := by
      unfold shutB
      refine List.all_eq_true.2 (fun j hj => ?_)
      rw [ofMask_eq hj]
      cases hb : b j with
      | false => rfl
      | true =>
        rw [Bool.not_true, Bool.false_or]
        exact List.all_eq_true.2 (fun k hk => by rw [ofMask_eq (hin j hj k hk)]; exact hcl j hj hb k hk)
    have hno : O.all (ofMask O (O.map b)) = false := by
      cases h : O.all (ofMask O (O.map b)) with
      | false => rfl
      | true =>
        have h6 : (O.filter fun j => !b j) = [] := List.filter_eq_nil_iff.2 (fun j hj => by
          have := List.all_eq_true.1 h j hj
          rw [ofMask_eq hj] at this
          simp [this])
        rw [h6] at hm
        simp at hm
    simp only [hsh, hno, hmk, Bool.not_true, Bool.false_or, Bool.and_eq_true, Bool.not_eq_true', beq_eq_false_iff_ne, ne_eq] at h5
    rw [Nat.add_right_comm m 1 n]
    refine wpAnyLast_all rfl h5.1 (fun i hi => ?_)
    have h6 := List.all_eq_true.1 h5.2 i hi
    simp only [Bool.and_eq_true, Bool.not_eq_true'] at h6
    obtain ⟨⟨hiO, hib⟩, hneed⟩ := h6
    have hiO := List.contains_iff_mem.1 hiO
    rw [ofMask_eq hiO] at hib
    have hneed : ∀ k ∈ need i, b k = true := fun k hk => by
      have := List.all_eq_true.1 hneed k hk
      rwa [ofMask_eq (hin i hiO k hk)] at this
    have hlt : i < l0.length := by
      have := List.all_eq_true.1 h1 i hiO
      simp only [Bool.and_eq_true, decide_eq_true_eq] at this
      exact this.1
    obtain ⟨oi, hoi, hK⟩ := hs i hiO b a w hI hib hneed hcl
    refine wpOp_step hoi (fun K' hK' => hK K' (fun a' w' hI' => hK' a' w' ⟨fun _ _ => hS _ _ _ hI', ?_⟩))
    rw [msk_up hiO hlt]
    refine ih (up b i) a' w' ?_ ?_ hI'
    · have := up_count (of_decide_eq_true h3) hiO hib
      omega
    · intro j hj hbj k hk
      by_cases hki : k = i
      · rw [hki, up_self]
      · rw [up_ne hki]
        by_cases hji : j = i
        · subst hji
          exact hneed k hk
        · exact hcl j hj (up_of hbj hji) k hk
/-- All of O from here (l has none of them), by the relation I told from the frame that stands now; behind them the walk goes on at l1. -/
theorem pool_at {l : Array Bool} {fuel : Nat} {a : Act} {w : World} (l0 l1 : List Bool) (O : List Nat) (need : Nat → List Nat) (n : Nat) (I : Act → (Nat → Bool) → Act → World → Prop) (hc : poolB md ops l0 l1 O need = true)
    (hl : (msk l0 O (fun _ => false) == l.toList && O.length + n == fuel) = true) (h0 : I a (fun _ => false) a w) (hS : ∀ b a' w, I a b a' w → S w) (hs : ∀ i ∈ O, PoolAt P ops Q O need (I a) i)
    (hend : ∀ b a' w, (∀ j ∈ O, b j = true) → I a b a' w → wpAnyLast P md ops Q S ds n l1.toArray a' w) : wpAnyLast P md ops Q S ds fuel l a w := by
  rw [Bool.and_eq_true, beq_iff_eq, beq_iff_eq] at hl
  have h1 := pool_all (I a) hc hS hs hend O.length (fun _ => false) a w (by simp) (fun _ _ h => by cases h) h0
  have h2 : (msk l0 O (fun _ => false)).toArray = l := by apply Array.ext'; exact hl.1
  rw [h2, hl.2] at h1
  exact h1
end
end Go.Proofs.YtcbpbdhglblagaaDoorW.PrintLast
