/- The law FnExactIsSolution returns true at every exact cover instance and selection and leaves its arguments as they were. Conditions: none. -/
import Derived.Test.YtbelgbbfmnccoaaXRFnExactIsSolution
namespace Go.Proofs.Ytbelgbbfmnccoaa.XFnExactIsSolution
open Go.RowKit Go.Proofs.YtbelgbbfmnccoaaW.PrintWords Go.Proofs.YtbelgbbfmnccoaaW.PrintLast Go.Proofs.YtbelgbbfmnccoaaW.PrintMore Go.Proofs.Ytbelgbbfmnccoaa.U
set_option linter.unusedVariables false
set_option linter.unusedSimpArgs false

theorem wrap_succ {i n : Nat} (h : i < n) (hn : n ≤ 9223372036854775807) : wrap64 ((i : Int) + 1) = ((i + 1 : Nat) : Int) := by
  unfold wrap64; omega
theorem wrap_id {x : Int} (h0 : -9223372036854775808 ≤ x) (h1 : x ≤ 9223372036854775807) : wrap64 x = x := by
  unfold wrap64; omega
theorem rd_nat (l : List Int) {i : Nat} (h : i < l.length) : rd l (i : Int) = l[i] := by
  simp [rd, List.getD_eq_getElem?_getD, List.getElem?_eq_getElem h]
theorem ev_true {g : Nat → Option Bool} {r : Bool} (h : ∀ k, g (k + 1) = some r) : Ev g r := Ev.step (f := fun _ => some r) h (Ev.now r)
theorem ev_const {α : Type} {g : Nat → Option α} {r : α} (h : ∀ k, g (k + 1) = some r) : Ev g r := Ev.step (f := fun _ => some r) h (Ev.now r)
theorem ev_eq {α : Type} {g : Nat → Option α} {r r' : α} (h : Ev g r) (e : r = r') : Ev g r' := e ▸ h
theorem wf64 {x : Int} (h : (Lit.int .i64 x).wf = true) : -9223372036854775808 ≤ x ∧ x ≤ 9223372036854775807 := by
  simp only [Lit.wf, IntKind.min, IntKind.max, IntKind.signed, IntKind.bits, Bool.and_eq_true, decide_eq_true_eq] at h
  simpa using h

/-- Rising, from a number on, each within 0 to m. -/
def risesB (m : Int) : List Int → Int → Bool
  | [], _ => true
  | x :: xs, p => decide (0 ≤ x) && decide (x ≤ m) && decide (p < x) && risesB m xs x
def prevOf (l : List Int) (i : Nat) : Int := if i = 0 then -1 else l.getD (i - 1) 0
theorem prevOf_succ (l : List Int) {i : Nat} (h : i < l.length) : prevOf l (i + 1) = l[i] := by
  simp [prevOf, List.getD_eq_getElem?_getD, List.getElem?_eq_getElem h]
theorem rises_next (m : Int) (l : List Int) {i : Nat} (h : i < l.length) : risesB m (l.drop i) (prevOf l i) = (decide (0 ≤ l[i]) && decide (l[i] ≤ m) && decide (prevOf l i < l[i]) && risesB m (l.drop (i + 1)) (prevOf l (i + 1))) := by
  rw [List.drop_eq_getElem_cons h, prevOf_succ l h]; rfl
theorem rises_end (m : Int) (l : List Int) {i : Nat} (h : l.length ≤ i) (p : Int) : risesB m (l.drop i) p = true := by
  rw [List.drop_eq_nil_of_le h]; rfl

def rowB (c : Int) (x : List Int) : Bool := !decide ((x.length : Int) = 0) && risesB (wrap64 (c - 1)) x (-1)
def coverB (a b : Int) (l : List (List Int)) : Bool := (decide (1 ≤ a) && decide (a ≤ 60)) && (decide (1 ≤ b) && decide (b ≤ a)) && decide ((l.length : Int) ≤ 400) && l.all (rowB a)
def longL (l : List (List Int)) : Prop := l.length ≤ 9223372036854775807 ∧ ∀ x ∈ l, x.length ≤ 9223372036854775807

theorem rdr_nat (l : List (List Int)) {i : Nat} (h : i < l.length) : rd_L1 l (i : Int) = l[i] := by
  simp [rd_L1, List.getD_eq_getElem?_getD, List.getElem?_eq_getElem h]

theorem rises_mem (m : Int) : ∀ (l : List Int) (p : Int), risesB m l p = true → ∀ x ∈ l, 0 ≤ x ∧ x ≤ m
  | [], _, _, x, hx => absurd hx List.not_mem_nil
  | y :: ys, p, h, x, hx => by
    simp only [risesB, Bool.and_eq_true, decide_eq_true_eq] at h
    rcases List.mem_cons.mp hx with rfl | hx
    · exact ⟨h.1.1.1, h.1.1.2⟩
    · exact rises_mem m ys y h.2 x hx
theorem coverB_parts {a b : Int} {l : List (List Int)} (h : coverB a b l = true) : 1 ≤ a ∧ a ≤ 60 ∧ 1 ≤ b ∧ b ≤ a ∧ l.length ≤ 400 ∧ ∀ x ∈ l, x ≠ [] ∧ risesB (a - 1) x (-1) = true := by
  simp only [coverB, Bool.and_eq_true, decide_eq_true_eq, List.all_eq_true] at h
  obtain ⟨⟨⟨⟨h1, h2⟩, h3, h4⟩, h5⟩, h6⟩ := h
  refine ⟨h1, h2, h3, h4, by omega, fun x hx => ?_⟩
  have := h6 x hx
  simp only [rowB, Bool.and_eq_true, Bool.not_eq_true', decide_eq_false_iff_not] at this
  rw [wrap_id (by omega) (by omega)] at this
  exact ⟨fun e => this.1 (by rw [e]; rfl), this.2⟩
def bump (y : List Int) (j : Int) : List Int := y.set j.toNat (wrap64 (rd y j + 1))
theorem bump_length (y : List Int) (j : Int) : (bump y j).length = y.length := by simp [bump]
theorem bumps_length : ∀ (r y : List Int), (r.foldl bump y).length = y.length
  | [], _ => rfl
  | j :: r, y => by rw [List.foldl_cons, bumps_length r, bump_length]
def rowOf (l : List (List Int)) (i : Int) : List Int := l.getD i.toNat []
def countsOf (l : List (List Int)) (y : List Int) (s : List Int) : List Int := s.foldl (fun y i => (rowOf l i).foldl bump y) y
theorem countsOf_length (l : List (List Int)) : ∀ (s y : List Int), (countsOf l y s).length = y.length
  | [], _ => rfl
  | i :: s, y => by
    have := countsOf_length l s ((rowOf l i).foldl bump y)
    rw [countsOf] at this
    rw [countsOf, List.foldl_cons, this, bumps_length]
/-- Which selections may be asked: each row is there, and its columns are. -/
def okSel (l : List (List Int)) (n : Nat) (s : List Int) : Prop := l.length ≤ 400 ∧ ∀ i ∈ s, 0 ≤ i ∧ i < (l.length : Int) ∧ (rowOf l i).length ≤ 9223372036854775807 ∧ ∀ j ∈ rowOf l i, 0 ≤ j ∧ j < (n : Int)
theorem okSel_of {a b : Int} {l : List (List Int)} {s : List Int} (hl : longL l) (h : coverB a b l = true) (hs : risesB ((l.length : Int) - 1) s (-1) = true) : okSel l a.toNat s := by
  obtain ⟨h1, h2, h3, h4, h5, h6⟩ := coverB_parts h
  refine ⟨h5, fun i hi => ?_⟩
  have := rises_mem _ _ _ hs i hi
  have hlt : i.toNat < l.length := by omega
  have e : rowOf l i = l[i.toNat] := by simp [rowOf, List.getD_eq_getElem?_getD, List.getElem?_eq_getElem hlt]
  rw [e]
  have hm := h6 _ (List.getElem_mem hlt)
  exact ⟨this.1, by omega, hl.2 _ (List.getElem_mem hlt), fun j hj => by have := rises_mem _ _ _ hm.2 j hj; omega⟩

def solB (req : Int) : List Int → Int → Bool
  | [], _ => true
  | c :: cs, i => (!decide (c > 1) && !(decide (c = 0) && decide (i < req))) && solB req cs (i + 1)
def solutionB (a b : Int) (l : List (List Int)) (s : List Int) : Bool := coverB a b l && (risesB (wrap64 ((l.length : Int) - 1)) s (-1) && solB b (countsOf l (List.replicate a.toNat 0) s) 0)

theorem spec_counts_in (a b : Int) (l : List (List Int)) (s : List Int) (i : Nat) (n : Nat) (row : List Int) (hrow : row.length ≤ 9223372036854775807) (hj : ∀ j ∈ row, 0 ≤ j ∧ j < (n : Int)) (r : List Int) : ∀ d q (y : List Int), q + d = row.length → y.length = n →
    Ev (fun k => spec_l13Counts.l0 k s ((row.drop q).foldl bump y) (wrap64 ((i : Int) + 1)) a b l) r → Ev (fun k => spec_l13Counts.l1 k s y (i : Int) row (q : Int) a b l) r := by
  intro d
  induction d with
  | zero =>
    intro q y h hy hE
    rw [List.drop_eq_nil_of_le (by omega)] at hE
    exact Ev.step (fun k => by simp only [spec_l13Counts.l1]; rw [if_neg (by omega)]; rfl) hE
  | succ d ih =>
    intro q y h hy hE
    have hq : q < row.length := by omega
    rw [List.drop_eq_getElem_cons hq, List.foldl_cons] at hE
    have hb := hj _ (List.getElem_mem hq)
    refine Ev.step (f := fun k => spec_l13Counts.l1 k s (bump y row[q]) (i : Int) row ((q + 1 : Nat) : Int) a b l) (fun k => ?_) (ih (q + 1) (bump y row[q]) (by omega) (by rw [bump_length, hy]) hE)
    simp only [spec_l13Counts.l1]
    rw [if_pos (by omega), if_pos (by omega), rd_nat row hq, if_pos hb.1, if_pos (by omega), wrap_succ hq hrow]; rfl
theorem spec_counts_loop (a b : Int) (l : List (List Int)) (s : List Int) (n : Nat) (hs : s.length ≤ 9223372036854775807) (ok : okSel l n s) : ∀ d i (y : List Int), i + d = s.length → y.length = n → Ev (fun k => spec_l13Counts.l0 k s y (i : Int) a b l) (countsOf l y (s.drop i)) := by
  intro d
  induction d with
  | zero =>
    intro i y h hy
    rw [List.drop_eq_nil_of_le (by omega)]
    exact ev_const fun k => by simp only [spec_l13Counts.l0]; rw [if_neg (by omega)]; rfl
  | succ d ih =>
    intro i y h hy
    have hi : i < s.length := by omega
    obtain ⟨h1, h2, h3, h4⟩ := ok.2 _ (List.getElem_mem hi)
    have e : rd_L1 l s[i] = rowOf l s[i] := by simp only [rd_L1, rowOf]
    rw [List.drop_eq_getElem_cons hi]
    refine Ev.step (f := fun k => spec_l13Counts.l1 k s y (i : Int) (rowOf l s[i]) 0 a b l) (fun k => ?_) (spec_counts_in a b l s i n _ h3 h4 _ (rowOf l s[i]).length 0 y (by omega) hy ?_)
    · simp only [spec_l13Counts.l0]
      rw [if_pos (by omega), if_pos (by omega), rd_nat s hi, if_pos h1, if_pos h2, e]
    · rw [wrap_succ hi hs]
      exact ih (i + 1) ((rowOf l s[i]).foldl bump y) (by omega) (by rw [bumps_length, hy])
theorem spec_counts (a b : Int) (l : List (List Int)) (s : List Int) (h0 : 0 ≤ a) (h1 : a ≤ 60) (hs : s.length ≤ 9223372036854775807) (ok : okSel l a.toNat s) : Ev (fun k => spec_l13Counts.f k a b l s) (countsOf l (List.replicate a.toNat 0) s) := by
  have := spec_counts_loop a b l s a.toNat hs ok s.length 0 (List.replicate a.toNat 0) (by omega) (by simp)
  simp only [spec_l13Counts.f, if_pos h0, if_pos (show a.toNat ≤ 35184372088832 by omega)]
  exact this

theorem spec_in (a b c : Int) : spec_l01In.f a b c = some (decide (b ≤ a) && decide (a ≤ c)) := by
  unfold spec_l01In.f; by_cases h : b ≤ a
  · rw [if_pos h]; simp [h]
  · rw [if_neg h]; simp [h]

theorem spec_rises_loop (l : List Int) (n : Int) (hl : l.length ≤ 9223372036854775807) : ∀ d i, i + d = l.length →
    Ev (fun k => spec_l01Rises.l0 k l n (i : Int)) (risesB (wrap64 (n - 1)) (l.drop i) (prevOf l i)) := by
  intro d
  induction d with
  | zero =>
    intro i h
    rw [rises_end _ _ (by omega)]
    exact ev_const fun k => by simp only [spec_l01Rises.l0]; rw [if_neg (by omega)]
  | succ d ih =>
    intro i h
    have hi : i < l.length := by omega
    have step : ∀ k, spec_l01Rises.l0 (k + 1) l n (i : Int) = if (decide (0 ≤ l[i]) && decide (l[i] ≤ wrap64 (n - 1))) = true then (if decide (prevOf l i < l[i]) = true ∨ i = 0 then spec_l01Rises.l0 k l n ((i + 1 : Nat) : Int) else some false) else some false := fun k => by
      simp only [spec_l01Rises.l0]
      rw [if_pos (by omega), if_pos (by omega), rd_nat l hi, spec_in]
      simp only [Option.bind_some, wrap_succ hi hl]
      by_cases c : (decide (0 ≤ l[i]) && decide (l[i] ≤ wrap64 (n - 1))) = true
      · rw [if_pos c, if_pos c]
        by_cases z : i = 0
        · rw [if_neg (by omega), if_pos (.inr z)]
        · have e : wrap64 ((i : Int) - 1) = ((i - 1 : Nat) : Int) := by unfold wrap64; omega
          have p : prevOf l i = l[i - 1] := by simp [prevOf, z, List.getD_eq_getElem?_getD, List.getElem?_eq_getElem (show i - 1 < l.length by omega)]
          rw [if_pos (by omega), e, if_pos (by omega), if_pos (by omega), rd_nat l (by omega), p]
          by_cases q : l[i] ≤ l[i - 1]
          · rw [if_pos q, if_neg (by simp [z]; omega)]
          · rw [if_neg q, if_pos (.inl (by simp; omega))]
      · rw [if_neg c, if_neg c]
    rw [rises_next _ _ hi]
    refine Ev.step step ?_
    by_cases c : (decide (0 ≤ l[i]) && decide (l[i] ≤ wrap64 (n - 1))) = true
    · simp only [if_pos c]
      by_cases q : decide (prevOf l i < l[i]) = true ∨ i = 0
      · simp only [if_pos q]
        refine ev_eq (ih (i + 1) (by omega)) ?_
        have q' : decide (prevOf l i < l[i]) = true := q.elim id fun z => by
          subst z
          simp only [Bool.and_eq_true, decide_eq_true_eq] at c
          simp [prevOf]; omega
        rw [c, q']; simp
      · simp only [if_neg q]
        refine ev_eq (Ev.now _) ?_
        rw [show decide (prevOf l i < l[i]) = false by simp only [not_or] at q; simpa using q.1]; simp
    · simp only [if_neg c]
      refine ev_eq (Ev.now _) ?_
      simp only [Bool.not_eq_true] at c
      rw [c]; simp
theorem spec_rises (l : List Int) (n : Int) (hl : l.length ≤ 9223372036854775807) : Ev (fun k => spec_l01Rises.f k l n) (risesB (wrap64 (n - 1)) l (-1)) := by
  have := spec_rises_loop l n hl l.length 0 (by omega)
  simpa [spec_l01Rises.f, prevOf] using this

theorem spec_IsCover_loop (a b : Int) (l : List (List Int)) (hl : longL l) : ∀ d i, i + d = l.length → Ev (fun k => spec_IsCover.l0 k (i : Int) a b l) ((l.drop i).all (rowB a)) := by
  intro d
  induction d with
  | zero =>
    intro i h
    rw [List.drop_eq_nil_of_le (by omega)]
    exact ev_const fun k => by simp only [spec_IsCover.l0]; rw [if_neg (by omega)]; rfl
  | succ d ih =>
    intro i h
    have hi : i < l.length := by omega
    rw [List.drop_eq_getElem_cons hi, List.all_cons]
    have step : ∀ k, spec_IsCover.l0 (k + 1) (i : Int) a b l = if (l[i].length : Int) = 0 then some false else (spec_l01Rises.f k l[i] a).bind fun t => if t = true then spec_IsCover.l0 k ((i + 1 : Nat) : Int) a b l else some false := fun k => by
      simp only [spec_IsCover.l0]
      rw [if_pos (by omega), if_pos (by omega), rdr_nat l hi, wrap_succ hi hl.1]
    refine Ev.step step ?_
    by_cases c : (l[i].length : Int) = 0
    · simp only [if_pos c]; refine ev_eq (Ev.now _) ?_; simp only [rowB, c]; simp
    · simp only [if_neg c]
      refine Ev.bind (spec_rises l[i] a (hl.2 _ (List.getElem_mem hi))) ?_
      have e : rowB a l[i] = risesB (wrap64 (a - 1)) l[i] (-1) := by simp only [rowB, c]; simp
      cases q : risesB (wrap64 (a - 1)) l[i] (-1) with
      | true => simp only [if_true]; refine ev_eq (ih (i + 1) (by omega)) ?_; rw [e, q]; simp
      | false => simp only [Bool.false_eq_true, if_false]; refine ev_eq (Ev.now _) ?_; rw [e, q]; simp
theorem spec_IsCover_ev (a b : Int) (l : List (List Int)) (hl : longL l) : Ev (fun k => spec_IsCover.f k a b l) (coverB a b l) := by
  have hL := spec_IsCover_loop a b l hl l.length 0 (by omega)
  have hj : ∀ x, Ev (fun k => spec_IsCover.j0 k x a b l) (!x && l.all (rowB a)) := fun x => by
    refine Ev.step (f := fun k => if x = true then some false else spec_IsCover.l0 k 0 a b l) (fun k => by simp only [spec_IsCover.j0]) ?_
    cases x with
    | true => simpa using Ev.now false
    | false => simpa using hL
  simp only [spec_IsCover.f, spec_in, Option.bind_some]
  unfold coverB
  cases q : (decide (1 ≤ a) && decide (a ≤ 60)) with
  | false => simp only [Bool.false_eq_true, if_false, Bool.false_and]; exact hj true
  | true =>
    cases q2 : (decide (1 ≤ b) && decide (b ≤ a)) with
    | false => simp only [Bool.false_eq_true, if_false, if_true, Bool.false_and, Bool.and_false]; exact hj true
    | true =>
      simp only [if_true, Bool.true_and]
      refine ev_eq (hj _) ?_
      by_cases c : (l.length : Int) ≤ 400
      · rw [decide_eq_true c, decide_eq_false (by omega)]; rfl
      · rw [decide_eq_false c, decide_eq_true (by omega)]; rfl

theorem spec_sol_loop (a b : Int) (l : List (List Int)) (y : List Int) (hy : (y.length : Int) = a) (ha : a ≤ 60) : ∀ d i, i + d = y.length → Ev (fun k => spec_l13Solution.l0 k y (i : Int) a b l) (solB b (y.drop i) i) := by
  intro d
  induction d with
  | zero =>
    intro i h
    rw [List.drop_eq_nil_of_le (by omega)]
    exact ev_const fun k => by simp only [spec_l13Solution.l0]; rw [if_neg (by omega)]; rfl
  | succ d ih =>
    intro i h
    have hi : i < y.length := by omega
    rw [List.drop_eq_getElem_cons hi]
    simp only [solB]
    have step : ∀ k, spec_l13Solution.l0 (k + 1) y (i : Int) a b l = if (!decide (y[i] > 1) && !(decide (y[i] = 0) && decide ((i : Int) < b))) = true then spec_l13Solution.l0 k y ((i + 1 : Nat) : Int) a b l else some false := fun k => by
      simp only [spec_l13Solution.l0]
      rw [if_pos (by omega), if_pos (by omega), if_pos (by omega), rd_nat y hi, wrap_succ hi (by omega)]
      by_cases c1 : y[i] > 1
      · rw [if_pos c1]; simp [c1]
      · rw [if_neg c1]
        by_cases c2 : (i : Int) < b
        · rw [if_pos c2]
          by_cases c3 : y[i] = 0
          · rw [if_pos c3, if_neg (by simp [c3, c2])]
          · rw [if_neg c3, if_pos (by simp [c3]; omega)]
        · rw [if_neg c2, if_pos (by simp [c2]; omega)]
    refine Ev.step step ?_
    cases q : (!decide (y[i] > 1) && !(decide (y[i] = 0) && decide ((i : Int) < b))) with
    | true => simp only [if_true]; refine ev_eq (ih (i + 1) (by omega)) ?_; simp
    | false => simp only [Bool.false_eq_true, if_false]; exact ev_eq (Ev.now _) (by simp)
theorem spec_IsSolution_ev (a b : Int) (l : List (List Int)) (s : List Int) (hl : longL l) (hs : s.length ≤ 9223372036854775807) : Ev (fun k => spec_IsSolution.f k a b l s) (solutionB a b l s) := by
  simp only [spec_IsSolution.f, spec_l13Code.f]
  have h1 := spec_IsCover_ev a b l hl
  have h2 := spec_rises s (l.length : Int) hs
  unfold solutionB
  cases c1 : coverB a b l with
  | false =>
    rw [c1] at h1
    refine Ev.bind (a := 1) (Ev.bind h1 (by simpa using Ev.now (1 : Int))) (by simpa using Ev.now false)
  | true =>
    rw [c1] at h1
    cases c2 : risesB (wrap64 ((l.length : Int) - 1)) s (-1) with
    | false =>
      rw [c2] at h2
      refine Ev.bind (a := 2) (Ev.bind h1 (by simp only [if_true]; exact Ev.bind h2 (by simpa using Ev.now (2 : Int)))) (by simpa using Ev.now false)
    | true =>
      rw [c2] at h2
      refine Ev.bind (a := 0) (Ev.bind h1 (by simp only [if_true]; exact Ev.bind h2 (by simpa using Ev.now (0 : Int)))) ?_
      obtain ⟨p1, p2, p3, p4, p5, p6⟩ := coverB_parts c1
      rw [wrap_id (by omega) (by omega)] at c2
      have ok := okSel_of hl c1 c2
      have hc := spec_counts a b l s (by omega) p2 hs ok
      have hlen : ((countsOf l (List.replicate a.toNat 0) s).length : Int) = a := by rw [countsOf_length]; simp; omega
      simp only [if_true, Bool.true_and, spec_l13Solution.f]
      refine Ev.bind (Ev.bind hc ?_) (Ev.now _)
      simpa using spec_sol_loop a b l _ hlen p2 (countsOf l (List.replicate a.toNat 0) s).length 0 (by omega)

theorem impl_counts_in (a b : Int) (l : List (List Int)) (s : List Int) (i : Nat) (n : Nat) (row : List Int) (hrow : row.length ≤ 9223372036854775807) (hj : ∀ j ∈ row, 0 ≤ j ∧ j < (n : Int)) (r : List Int) : ∀ d q (y : List Int), q + d = row.length → y.length = n →
    Ev (fun k => impl_Cover_counts.l0 k ((row.drop q).foldl bump y) s (s.length : Int) (wrap64 ((i : Int) + 1)) a b l) r → Ev (fun k => impl_Cover_counts.l1 k y s (s.length : Int) (i : Int) row (row.length : Int) (q : Int) a b l) r := by
  intro d
  induction d with
  | zero =>
    intro q y h hy hE
    rw [List.drop_eq_nil_of_le (by omega)] at hE
    exact Ev.step (fun k => by simp only [impl_Cover_counts.l1]; rw [if_neg (by omega)]; rfl) hE
  | succ d ih =>
    intro q y h hy hE
    have hq : q < row.length := by omega
    rw [List.drop_eq_getElem_cons hq, List.foldl_cons] at hE
    have hb := hj _ (List.getElem_mem hq)
    refine Ev.step (f := fun k => impl_Cover_counts.l1 k (bump y row[q]) s (s.length : Int) (i : Int) row (row.length : Int) ((q + 1 : Nat) : Int) a b l) (fun k => ?_) (ih (q + 1) (bump y row[q]) (by omega) (by rw [bump_length, hy]) hE)
    simp only [impl_Cover_counts.l1]
    rw [if_pos (by omega), if_pos (by omega), if_pos (by omega), rd_nat row hq, if_pos hb.1, if_pos (by omega), wrap_succ hq hrow]; rfl
theorem impl_counts_loop (a b : Int) (l : List (List Int)) (s : List Int) (n : Nat) (hs : s.length ≤ 9223372036854775807) (ok : okSel l n s) : ∀ d i (y : List Int), i + d = s.length → y.length = n → Ev (fun k => impl_Cover_counts.l0 k y s (s.length : Int) (i : Int) a b l) (countsOf l y (s.drop i)) := by
  intro d
  induction d with
  | zero =>
    intro i y h hy
    rw [List.drop_eq_nil_of_le (by omega)]
    exact ev_const fun k => by simp only [impl_Cover_counts.l0]; rw [if_neg (by omega)]; rfl
  | succ d ih =>
    intro i y h hy
    have hi : i < s.length := by omega
    obtain ⟨h1, h2, h3, h4⟩ := ok.2 _ (List.getElem_mem hi)
    have e : rd_L1 l s[i] = rowOf l s[i] := by simp only [rd_L1, rowOf]
    rw [List.drop_eq_getElem_cons hi]
    refine Ev.step (f := fun k => impl_Cover_counts.l1 k y s (s.length : Int) (i : Int) (rowOf l s[i]) ((rowOf l s[i]).length : Int) 0 a b l) (fun k => ?_) (impl_counts_in a b l s i n _ h3 h4 _ (rowOf l s[i]).length 0 y (by omega) hy ?_)
    · simp only [impl_Cover_counts.l0]
      rw [if_pos (by omega), if_pos (by omega), if_pos (by omega), rd_nat s hi, if_pos h1, if_pos h2, e]
    · rw [wrap_succ hi hs]
      exact ih (i + 1) ((rowOf l s[i]).foldl bump y) (by omega) (by rw [bumps_length, hy])
theorem impl_counts (a b : Int) (l : List (List Int)) (s : List Int) (h0 : 0 ≤ a) (h1 : a ≤ 60) (hs : s.length ≤ 9223372036854775807) (ok : okSel l a.toNat s) : Ev (fun k => impl_Cover_counts.f k a b l s) (countsOf l (List.replicate a.toNat 0) s) := by
  have := impl_counts_loop a b l s a.toNat hs ok s.length 0 (List.replicate a.toNat 0) (by omega) (by simp)
  simp only [impl_Cover_counts.f, if_pos h0, if_pos (show a.toNat ≤ 35184372088832 by omega)]
  exact this

theorem impl_in (a b c : Int) : impl_within.f a b c = some (decide (b ≤ a) && decide (a ≤ c)) := by
  unfold impl_within.f; by_cases h : b ≤ a
  · rw [if_pos h]; simp [h]
  · rw [if_neg h]; simp [h]

theorem impl_rises_loop (l : List Int) (n : Int) (hl : l.length ≤ 9223372036854775807) : ∀ d i, i + d = l.length →
    Ev (fun k => impl_isIncreasing.l0 k l n l (l.length : Int) (i : Int)) (risesB (wrap64 (n - 1)) (l.drop i) (prevOf l i)) := by
  intro d
  induction d with
  | zero =>
    intro i h
    rw [rises_end _ _ (by omega)]
    exact ev_const fun k => by simp only [impl_isIncreasing.l0]; rw [if_neg (by omega)]
  | succ d ih =>
    intro i h
    have hi : i < l.length := by omega
    have step : ∀ k, impl_isIncreasing.l0 (k + 1) l n l (l.length : Int) (i : Int) = if (decide (0 ≤ l[i]) && decide (l[i] ≤ wrap64 (n - 1))) = true then (if decide (prevOf l i < l[i]) = true ∨ i = 0 then impl_isIncreasing.l0 k l n l (l.length : Int) ((i + 1 : Nat) : Int) else some false) else some false := fun k => by
      simp only [impl_isIncreasing.l0]
      rw [if_pos (by omega), if_pos (by omega), if_pos (by omega), rd_nat l hi, impl_in]
      simp only [Option.bind_some, wrap_succ hi hl]
      by_cases c : (decide (0 ≤ l[i]) && decide (l[i] ≤ wrap64 (n - 1))) = true
      · rw [if_pos c, if_pos c]
        by_cases z : i = 0
        · rw [if_neg (by omega), if_pos (.inr z)]
        · have e : wrap64 ((i : Int) - 1) = ((i - 1 : Nat) : Int) := by unfold wrap64; omega
          have p : prevOf l i = l[i - 1] := by simp [prevOf, z, List.getD_eq_getElem?_getD, List.getElem?_eq_getElem (show i - 1 < l.length by omega)]
          rw [if_pos (by omega), e, if_pos (by omega), if_pos (by omega), rd_nat l (by omega), p]
          by_cases q : l[i] ≤ l[i - 1]
          · rw [if_pos q, if_neg (by simp [z]; omega)]
          · rw [if_neg q, if_pos (.inl (by simp; omega))]
      · rw [if_neg c, if_neg c]
    rw [rises_next _ _ hi]
    refine Ev.step step ?_
    by_cases c : (decide (0 ≤ l[i]) && decide (l[i] ≤ wrap64 (n - 1))) = true
    · simp only [if_pos c]
      by_cases q : decide (prevOf l i < l[i]) = true ∨ i = 0
      · simp only [if_pos q]
        refine ev_eq (ih (i + 1) (by omega)) ?_
        have q' : decide (prevOf l i < l[i]) = true := q.elim id fun z => by
          subst z
          simp only [Bool.and_eq_true, decide_eq_true_eq] at c
          simp [prevOf]; omega
        rw [c, q']; simp
      · simp only [if_neg q]
        refine ev_eq (Ev.now _) ?_
        rw [show decide (prevOf l i < l[i]) = false by simp only [not_or] at q; simpa using q.1]; simp
    · simp only [if_neg c]
      refine ev_eq (Ev.now _) ?_
      simp only [Bool.not_eq_true] at c
      rw [c]; simp
theorem impl_rises (l : List Int) (n : Int) (hl : l.length ≤ 9223372036854775807) : Ev (fun k => impl_isIncreasing.f k l n) (risesB (wrap64 (n - 1)) l (-1)) := by
  have := impl_rises_loop l n hl l.length 0 (by omega)
  simpa [impl_isIncreasing.f, prevOf] using this

theorem anyM_ev {α : Type} (p : Nat → α → Option Bool) (q : α → Bool) : ∀ l : List α, (∀ x ∈ l, Ev (fun k => p k x) (q x)) → Ev (fun k => anyM (p k) l) (l.any q)
  | [], _ => by simpa [anyM] using Ev.now false
  | x :: xs, h => by
    simp only [anyM, List.any_cons]
    refine Ev.bind (h x (List.mem_cons_self ..)) ?_
    cases c : q x with
    | true => simpa using Ev.now true
    | false => simpa using anyM_ev p q xs (fun y hy => h y (List.mem_cons_of_mem _ hy))
theorem anyM_some {α : Type} (p : α → Option Bool) (q : α → Bool) : ∀ l : List α, (∀ x ∈ l, p x = some (q x)) → anyM p l = some (l.any q)
  | [], _ => rfl
  | x :: xs, h => by
    simp only [anyM, List.any_cons, h x (List.mem_cons_self ..), Option.bind_some]
    cases c : q x with
    | true => simp
    | false => simpa using anyM_some p q xs (fun y hy => h y (List.mem_cons_of_mem _ hy))

theorem impl_IsCover_ev (a b : Int) (l : List (List Int)) (hl : longL l) : Ev (fun k => impl_IsCover.f k a b l) (coverB a b l) := by
  have h1 : ∀ x ∈ l, Ev (fun k => impl_IsCover_1.f k x a) (!rowB a x) := fun x hx => by
    simp only [impl_IsCover_1.f]
    by_cases c : (x.length : Int) = 0
    · simp only [if_pos c]; refine ev_eq (Ev.now _) ?_; simp only [rowB, c]; simp
    · simp only [if_neg c]
      refine Ev.bind (impl_rises x a (hl.2 _ hx)) ?_
      refine ev_eq (Ev.now _) ?_
      simp only [rowB, c]; simp
  have h2 := anyM_ev (fun k x => impl_IsCover_1.f k x a) (fun x => !rowB a x) l h1
  simp only [impl_IsCover.f, impl_in, Option.bind_some]
  unfold coverB
  cases q : (decide (1 ≤ a) && decide (a ≤ 60)) with
  | false => simpa using Ev.now false
  | true =>
    cases q2 : (decide (1 ≤ b) && decide (b ≤ a)) with
    | false => simpa using Ev.now false
    | true =>
      simp only [if_true, Bool.true_and]
      by_cases c : (l.length : Int) ≤ 400
      · simp only [if_neg (show ¬ (l.length : Int) > 400 by omega), decide_eq_true c, Bool.true_and]
        refine Ev.bind h2 ?_
        refine ev_eq (Ev.now _) ?_
        simp [List.any_eq_not_all_not]
      · simp only [if_pos (show (l.length : Int) > 400 by omega), decide_eq_false c, Bool.false_and]
        exact Ev.now false

theorem impl_sol_loop (a b : Int) (l : List (List Int)) (y : List Int) (hy : (y.length : Int) = a) (ha : a ≤ 60) : ∀ d i, i + d = y.length → Ev (fun k => impl_IsSolution.l0 k y (y.length : Int) (i : Int) a b l) (solB b (y.drop i) i) := by
  intro d
  induction d with
  | zero =>
    intro i h
    rw [List.drop_eq_nil_of_le (by omega)]
    exact ev_const fun k => by simp only [impl_IsSolution.l0]; rw [if_neg (by omega)]; rfl
  | succ d ih =>
    intro i h
    have hi : i < y.length := by omega
    rw [List.drop_eq_getElem_cons hi]
    simp only [solB]
    have step : ∀ k, impl_IsSolution.l0 (k + 1) y (y.length : Int) (i : Int) a b l = if (!decide (y[i] > 1) && !(decide (y[i] = 0) && decide ((i : Int) < b))) = true then impl_IsSolution.l0 k y (y.length : Int) ((i + 1 : Nat) : Int) a b l else some false := fun k => by
      simp only [impl_IsSolution.l0]
      rw [if_pos (by omega), if_pos (by omega), if_pos (by omega), rd_nat y hi, wrap_succ hi (by omega)]
      by_cases c1 : y[i] > 1
      · rw [if_pos c1]; simp [c1]
      · rw [if_neg c1]
        by_cases c3 : y[i] = 0
        · rw [if_pos c3]
          by_cases c2 : (i : Int) < b
          · rw [if_pos c2, if_neg (by simp [c3, c2])]
          · rw [if_neg c2, if_pos (by simp [c2]; omega)]
        · rw [if_neg c3, if_pos (by simp [c3]; omega)]
    refine Ev.step step ?_
    cases q : (!decide (y[i] > 1) && !(decide (y[i] = 0) && decide ((i : Int) < b))) with
    | true => simp only [if_true]; refine ev_eq (ih (i + 1) (by omega)) ?_; simp
    | false => simp only [Bool.false_eq_true, if_false]; exact ev_eq (Ev.now _) (by simp)
theorem impl_IsSolution_ev (a b : Int) (l : List (List Int)) (s : List Int) (hl : longL l) (hs : s.length ≤ 9223372036854775807) : Ev (fun k => impl_IsSolution.f k a b l s) (solutionB a b l s) := by
  simp only [impl_IsSolution.f]
  have h1 := impl_IsCover_ev a b l hl
  have h2 := impl_rises s (l.length : Int) hs
  unfold solutionB
  have hj : Ev (fun k => impl_IsSolution.j0 k s true a b l) false := ev_const fun k => by simp [impl_IsSolution.j0]
  refine Ev.bind h1 ?_
  cases c1 : coverB a b l with
  | false => simpa using hj
  | true =>
    simp only [if_true, Bool.true_and]
    refine Ev.bind h2 ?_
    cases c2 : risesB (wrap64 ((l.length : Int) - 1)) s (-1) with
    | false => simpa using hj
    | true =>
      obtain ⟨p1, p2, p3, p4, p5, p6⟩ := coverB_parts c1
      rw [wrap_id (by omega) (by omega)] at c2
      have ok := okSel_of hl c1 c2
      have hc := impl_counts a b l s (by omega) p2 hs ok
      have hlen : ((countsOf l (List.replicate a.toNat 0) s).length : Int) = a := by rw [countsOf_length]; simp; omega
      simp only [Bool.not_true, Bool.true_and]
      refine Ev.step (f := fun k => (impl_Cover_counts.f k a b l s).bind fun t => impl_IsSolution.l0 k t (t.length : Int) 0 a b l) (fun k => by simp [impl_IsSolution.j0]) ?_
      refine Ev.bind hc ?_
      simpa using impl_sol_loop a b l _ hlen p2 (countsOf l (List.replicate a.toNat 0) s).length 0 (by omega)

theorem szInts (l : List Int) (n : Int) (hl : l.length ≤ 9223372036854775807) (h0 : 0 ≤ n) (h1 : n ≤ 4611686018427387904) : ∃ r, laws_szInt64S.f l n = some r ∧ -1 ≤ r ∧ r ≤ n ∧ (0 ≤ r → r = n - l.length) := by
  have e : wrap64 (n - (l.length : Int)) = n - l.length := by unfold wrap64; omega
  unfold laws_szInt64S.f
  rw [e]
  by_cases c : n - (l.length : Int) < 0
  · rw [if_pos c]; exact ⟨_, rfl, by omega, by omega, by omega⟩
  · rw [if_neg c]; exact ⟨_, rfl, by omega, by omega, by omega⟩

theorem szRows_loop (l : List (List Int)) (hl : longL l) : ∀ d i (n : Int), i + d = l.length → 0 ≤ n → n ≤ 4611686018427387904 →
    ∃ r, Ev (fun k => laws_szInt64SS.l0 k l n (i : Int)) r ∧ -1 ≤ r ∧ r ≤ n ∧ (0 ≤ r → ∀ x ∈ l.drop i, (x.length : Int) ≤ n) := by
  intro d
  induction d with
  | zero =>
    intro i n h h0 h1
    refine ⟨n, ev_const fun k => by simp only [laws_szInt64SS.l0]; rw [if_neg (by omega)], by omega, by omega, fun _ x hx => ?_⟩
    rw [List.drop_eq_nil_of_le (by omega)] at hx; cases hx
  | succ d ih =>
    intro i n h h0 h1
    have hi : i < l.length := by omega
    obtain ⟨r1, e1, b1, b2, b3⟩ := szInts l[i] n (hl.2 _ (List.getElem_mem hi)) h0 h1
    have step : ∀ k, laws_szInt64SS.l0 (k + 1) l n (i : Int) = if r1 < 0 then some (-1) else laws_szInt64SS.l0 k l r1 ((i + 1 : Nat) : Int) := fun k => by
      simp only [laws_szInt64SS.l0]
      rw [if_pos (by omega), if_pos (by omega), rdr_nat l hi, e1, wrap_succ hi hl.1]
      simp only [Option.bind_some]
    by_cases c : r1 < 0
    · exact ⟨-1, Ev.step step (by simp only [if_pos c]; exact Ev.now _), by omega, by omega, fun h => by omega⟩
    · obtain ⟨r, hr, c1, c2, c3⟩ := ih (i + 1) r1 (by omega) (by omega) (by omega)
      refine ⟨r, Ev.step step (by simp only [if_neg c]; exact hr), c1, by omega, fun h x hx => ?_⟩
      rw [List.drop_eq_getElem_cons hi] at hx
      rcases List.mem_cons.mp hx with rfl | hx
      · have := b3 (by omega); omega
      · have := c3 h x hx; have := b3 (by omega); omega
theorem szRows (l : List (List Int)) (hl : longL l) (n : Int) (h0 : 0 ≤ n) (h1 : n ≤ 4611686018427387904) :
    ∃ r, Ev (fun k => laws_szInt64SS.f k l n) r ∧ -1 ≤ r ∧ r ≤ n ∧ (0 ≤ r → (l.length : Int) ≤ n ∧ ∀ x ∈ l, (x.length : Int) ≤ n) := by
  have e : wrap64 (n - (l.length : Int)) = n - l.length := by have := hl.1; unfold wrap64; omega
  by_cases c : n - (l.length : Int) < 0
  · exact ⟨-1, by simp only [laws_szInt64SS.f, e, if_pos c]; exact Ev.now _, by omega, by omega, fun h => by omega⟩
  · obtain ⟨r, hr, c1, c2, c3⟩ := szRows_loop l hl l.length 0 (n - l.length) (by omega) (by omega) (by omega)
    exact ⟨r, by simp only [laws_szInt64SS.f, e, if_neg c]; exact hr, c1, by omega, fun h => ⟨by omega, fun x hx => by have := c3 h x (by simpa using hx); omega⟩⟩

theorem toInts_loop (l : List Int) (hl : l.length ≤ 9223372036854775807) : ∀ d i (y : List Int), i + d = l.length → y.length = l.length → y.take i = l.take i → Ev (fun k => laws_toInt64S.l0 k l y (i : Int)) l := by
  intro d
  induction d with
  | zero =>
    intro i y h hy ht
    have e : y = l := by
      rw [List.take_of_length_le (by omega), List.take_of_length_le (by omega)] at ht; exact ht
    subst e
    exact ev_const fun k => by simp only [laws_toInt64S.l0]; rw [if_neg (by omega)]
  | succ d ih =>
    intro i y h hy ht
    have hi : i < l.length := by omega
    refine Ev.step (f := fun k => laws_toInt64S.l0 k l (y.set i l[i]) ((i + 1 : Nat) : Int)) (fun k => ?_) (ih (i + 1) (y.set i l[i]) (by omega) (by simp [hy]) ?_)
    · simp only [laws_toInt64S.l0]
      rw [if_pos (by omega), if_pos (by omega), if_pos (by omega), rd_nat l hi, wrap_succ hi hl, Int.toNat_natCast]
    · rw [List.take_succ_eq_append_getElem (by simp; omega), List.take_succ_eq_append_getElem hi, List.take_set_of_le (Nat.le_refl i), ht]; simp
theorem toInts (l : List Int) (hl : l.length ≤ 35184372088832) : Ev (fun k => laws_toInt64S.f k l) l := by
  have := toInts_loop l (by omega) l.length 0 (List.replicate l.length 0) (by omega) (by simp) (by simp)
  simp only [laws_toInt64S.f, Int.toNat_natCast, if_pos hl, if_pos (Int.natCast_nonneg l.length)]
  exact this

theorem toRows_loop (l : List (List Int)) (hl : l.length ≤ 9223372036854775807) (hx : ∀ x ∈ l, x.length ≤ 35184372088832) : ∀ d i (y : List (List Int)), i + d = l.length → y.length = l.length → y.take i = l.take i → Ev (fun k => laws_toInt64SS.l0 k l y (i : Int)) l := by
  intro d
  induction d with
  | zero =>
    intro i y h hy ht
    have e : y = l := by
      rw [List.take_of_length_le (by omega), List.take_of_length_le (by omega)] at ht; exact ht
    subst e
    exact ev_const fun k => by simp only [laws_toInt64SS.l0]; rw [if_neg (by omega)]
  | succ d ih =>
    intro i y h hy ht
    have hi : i < l.length := by omega
    refine Ev.step (f := fun k => (laws_toInt64S.f k l[i]).bind fun t => laws_toInt64SS.l0 k l (y.set i t) ((i + 1 : Nat) : Int)) (fun k => ?_) (Ev.bind (toInts l[i] (hx _ (List.getElem_mem hi))) (ih (i + 1) (y.set i l[i]) (by omega) (by simp [hy]) ?_))
    · simp only [laws_toInt64SS.l0]
      rw [if_pos (by omega), if_pos (by omega), rdr_nat l hi, wrap_succ hi hl]
      simp only [if_pos (show (i : Int) < (y.length : Int) by omega), Int.toNat_natCast]
    · rw [List.take_succ_eq_append_getElem (by simp; omega), List.take_succ_eq_append_getElem hi, List.take_set_of_le (Nat.le_refl i), ht]; simp
theorem toRows (l : List (List Int)) (hl : l.length ≤ 11728124029610) (hx : ∀ x ∈ l, x.length ≤ 35184372088832) : Ev (fun k => laws_toInt64SS.f k l) l := by
  have := toRows_loop l (by omega) hx l.length 0 (List.replicate l.length []) (by omega) (by simp) (by simp)
  simp only [laws_toInt64SS.f, Int.toNat_natCast, if_pos hl, if_pos (Int.natCast_nonneg l.length)]
  exact this

theorem eqInts_loop (l : List Int) (hl : l.length ≤ 9223372036854775807) : ∀ d i, i + d = l.length → Ev (fun k => laws_eqInt64S.l0 k l l (i : Int)) true := by
  intro d
  induction d with
  | zero => intro i h; exact ev_const fun k => by simp only [laws_eqInt64S.l0]; rw [if_neg (by omega)]
  | succ d ih =>
    intro i h
    have hi : i < l.length := by omega
    refine Ev.step (f := fun k => laws_eqInt64S.l0 k l l ((i + 1 : Nat) : Int)) (fun k => ?_) (ih (i + 1) (by omega))
    simp only [laws_eqInt64S.l0]
    rw [if_pos (by omega), if_pos (by omega), if_pos (by omega), wrap_succ hi hl]; simp
theorem eqInts (l : List Int) (hl : l.length ≤ 9223372036854775807) : Ev (fun k => laws_eqInt64S.f k l l) true := by
  have := eqInts_loop l hl l.length 0 (by omega)
  simpa [laws_eqInt64S.f] using this

theorem eqRows_loop (l : List (List Int)) (hl : longL l) : ∀ d i, i + d = l.length → Ev (fun k => laws_eqInt64SS.l0 k l l (i : Int)) true := by
  intro d
  induction d with
  | zero => intro i h; exact ev_const fun k => by simp only [laws_eqInt64SS.l0]; rw [if_neg (by omega)]
  | succ d ih =>
    intro i h
    have hi : i < l.length := by omega
    refine Ev.step (f := fun k => (laws_eqInt64S.f k l[i] l[i]).bind fun t => if t = true then laws_eqInt64SS.l0 k l l ((i + 1 : Nat) : Int) else some false) (fun k => ?_) (Ev.bind (eqInts l[i] (hl.2 _ (List.getElem_mem hi))) (by simpa using ih (i + 1) (by omega)))
    simp only [laws_eqInt64SS.l0]
    rw [if_pos (by omega), if_pos (by omega), if_pos (by omega), rdr_nat l hi, wrap_succ hi hl.1]
theorem eqRows (l : List (List Int)) (hl : longL l) : Ev (fun k => laws_eqInt64SS.f k l l) true := by
  have := eqRows_loop l hl l.length 0 (by omega)
  simpa [laws_eqInt64SS.f] using this

theorem toCover_ev (a b : Int) (l : List (List Int)) (hl : l.length ≤ 11728124029610) (hx : ∀ x ∈ l, x.length ≤ 35184372088832) : Ev (fun k => laws_toCover.f k a b l) (a, b, l) := by
  simp only [laws_toCover.f]
  exact Ev.bind (toRows l hl hx) (Ev.now _)
theorem eqCover_ev (a b : Int) (l : List (List Int)) (hl : longL l) : Ev (fun k => laws_eqCover.f k a b l a b l) true := by
  simp only [laws_eqCover.f, if_true]
  exact Ev.bind (eqRows l hl) (by simpa using Ev.now true)
theorem szCover_ev (a b : Int) (l : List (List Int)) (hl : longL l) : ∃ r, Ev (fun k => laws_szCover.f k a b l 1048576) r ∧ (r < 0 ∨ ((l.length : Int) ≤ 1048576 ∧ ∀ x ∈ l, (x.length : Int) ≤ 1048576)) := by
  obtain ⟨r, hr, c1, c2, c3⟩ := szRows l hl 1048576 (by omega) (by omega)
  by_cases c : r < 0
  · exact ⟨-1, by simp only [laws_szCover.f]; exact Ev.bind hr (by simp only [if_pos c]; exact Ev.now _), .inl (by omega)⟩
  · exact ⟨r, by simp only [laws_szCover.f]; exact Ev.bind hr (by simp only [if_neg c]; exact Ev.now _), .inr (c3 (by omega))⟩
theorem longL_of {l : List (List Int)} {p : Int → Prop} (h : l.length ≤ maxLen ∧ ∀ x ∈ l, x.length ≤ maxLen ∧ ∀ y ∈ x, p y) : longL l := ⟨h.1, fun x hx => (h.2 x hx).1⟩


theorem pure : laws_FnExactIsSolution.Pure := by
  intro a b l s _ _ hw hws
  have hl := longL_of hw
  obtain ⟨r, hr, hc⟩ := szCover_ev a b l hl
  refine Ev.rounds (r := true) ?_
  simp only [laws_FnExactIsSolution.f]
  by_cases c0 : (s.length : Int) > 1048576
  · simp only [if_pos c0]; exact Ev.now _
  simp only [if_neg c0]
  refine Ev.bind hr ?_
  by_cases c : r < 0
  · simp only [if_pos c]; exact Ev.now _
  · simp only [if_neg c]
    have hs := hc.resolve_left c
    have hT := toCover_ev a b l (by omega) (fun x hx => by have := hs.2 x hx; omega)
    have hS := toInts s (by omega)
    refine Ev.bind hT (Ev.bind hS (Ev.bind (spec_IsSolution_ev a b l s hl (by omega)) (Ev.bind hT (Ev.bind hS (Ev.bind (impl_IsSolution_ev a b l s hl (by omega)) ?_)))))
    simp only [bne_self_eq_false, Bool.false_eq_true, if_false]
    refine Ev.bind hT (Ev.bind (eqCover_ev a b l hl) ?_)
    simp only [if_true]
    exact Ev.bind hS (Ev.bind (eqInts s (by omega)) (by simpa using Ev.now true))

end Go.Proofs.Ytbelgbbfmnccoaa.XFnExactIsSolution
namespace Go.Proofs.Ytbelgbbfmnccoaa
/-- The law FnExactIsSolution returns true at every exact cover instance and selection and leaves its arguments as they were. Conditions: none. -/
theorem fnExactIsSolution_holds : Rows.FnExactIsSolutionSaid := fnExactIsSolution.of_pure XFnExactIsSolution.pure
#print axioms fnExactIsSolution_holds
end Go.Proofs.Ytbelgbbfmnccoaa
