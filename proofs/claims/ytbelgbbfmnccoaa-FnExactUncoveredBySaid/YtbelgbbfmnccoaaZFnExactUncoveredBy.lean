/- The law FnExactUncoveredBy returns true at every exact cover instance and selection and leaves its arguments as they were. Conditions: none. -/
import Derived.Test.YtbelgbbfmnccoaaXRFnExactUncoveredBy
namespace Go.Proofs.Ytbelgbbfmnccoaa.XFnExactUncoveredBy
open Go.RowKit Go.Proofs.YtbelgbbfmnccoaaW.PrintWords Go.Proofs.YtbelgbbfmnccoaaW.PrintLast Go.Proofs.YtbelgbbfmnccoaaW.PrintMore Go.Proofs.Ytbelgbbfmnccoaa.U
set_option linter.unusedVariables false
set_option linter.unusedSimpArgs false

theorem wrap_succ {i n : Nat} (h : i < n) (hn : n ≤ 9223372036854775807) : wrap64 ((i : Int) + 1) = ((i + 1 : Nat) : Int) := by
  unfold wrap64; omega
theorem wrap_id {x : Int} (h0 : -9223372036854775808 ≤ x) (h1 : x ≤ 9223372036854775807) : wrap64 x = x := by
  unfold wrap64; omega
theorem rd_nat (l : List Int) {i : Nat} (h : i < l.length) : rd l (i : Int) = l[i] := by
  simp [rd, List.getD_eq_getElem?_getD, List.getElem?_eq_getElem h]
theorem ev_true {g : Nat → Option Bool} {r : Bool} (h : ∀ k, g (k + 1) = some r) : Ev g r := Ev.step (f := fun _ => some r) h (Ev.now r)
theorem ev_const {α : Type} {g : Nat → Option α} {r : α} (h : ∀ k, g (k + 1) = some r) : Ev g r := Ev.step (f := fun _ => some r) h (Ev.now r)
theorem ev_eq {α : Type} {g : Nat → Option α} {r r' : α} (h : Ev g r) (e : r = r') : Ev g r' := e ▸ h
theorem wf64 {x : Int} (h : (Lit.int .i64 x).wf = true) : -9223372036854775808 ≤ x ∧ x ≤ 9223372036854775807 := by
  simp only [Lit.wf, IntKind.min, IntKind.max, IntKind.signed, IntKind.bits, Bool.and_eq_true, decide_eq_true_eq] at h
  simpa using h

/-- Rising, from a number on, each within 0 to m. -/
def risesB (m : Int) : List Int → Int → Bool
  | [], _ => true
  | x :: xs, p => decide (0 ≤ x) && decide (x ≤ m) && decide (p < x) && risesB m xs x
def prevOf (l : List Int) (i : Nat) : Int := if i = 0 then -1 else l.getD (i - 1) 0
theorem prevOf_succ (l : List Int) {i : Nat} (h : i < l.length) : prevOf l (i + 1) = l[i] := by
  simp [prevOf, List.getD_eq_getElem?_getD, List.getElem?_eq_getElem h]
theorem rises_next (m : Int) (l : List Int) {i : Nat} (h : i < l.length) : risesB m (l.drop i) (prevOf l i) = (decide (0 ≤ l[i]) && decide (l[i] ≤ m) && decide (prevOf l i < l[i]) && risesB m (l.drop (i + 1)) (prevOf l (i + 1))) := by
  rw [List.drop_eq_getElem_cons h, prevOf_succ l h]; rfl
theorem rises_end (m : Int) (l : List Int) {i : Nat} (h : l.length ≤ i) (p : Int) : risesB m (l.drop i) p = true := by
  rw [List.drop_eq_nil_of_le h]; rfl

def longL (l : List (List Int)) : Prop := l.length ≤ 9223372036854775807 ∧ ∀ x ∈ l, x.length ≤ 9223372036854775807
theorem longL_of {l : List (List Int)} {p : Int → Prop} (h : l.length ≤ maxLen ∧ ∀ x ∈ l, x.length ≤ maxLen ∧ ∀ y ∈ x, p y) : longL l := ⟨h.1, fun x hx => (h.2 x hx).1⟩

def rowB (c : Int) (x : List Int) : Bool := !decide ((x.length : Int) = 0) && risesB (wrap64 (c - 1)) x (-1)
def coverB (a b : Int) (l : List (List Int)) : Bool := (decide (1 ≤ a) && decide (a ≤ 60)) && (decide (1 ≤ b) && decide (b ≤ a)) && decide ((l.length : Int) ≤ 400) && l.all (rowB a)

theorem rdr_nat (l : List (List Int)) {i : Nat} (h : i < l.length) : rd_L1 l (i : Int) = l[i] := by
  simp [rd_L1, List.getD_eq_getElem?_getD, List.getElem?_eq_getElem h]

theorem rises_mem (m : Int) : ∀ (l : List Int) (p : Int), risesB m l p = true → ∀ x ∈ l, 0 ≤ x ∧ x ≤ m
  | [], _, _, x, hx => absurd hx List.not_mem_nil
  | y :: ys, p, h, x, hx => by
    simp only [risesB, Bool.and_eq_true, decide_eq_true_eq] at h
    rcases List.mem_cons.mp hx with rfl | hx
    · exact ⟨h.1.1.1, h.1.1.2⟩
    · exact rises_mem m ys y h.2 x hx
theorem coverB_parts {a b : Int} {l : List (List Int)} (h : coverB a b l = true) : 1 ≤ a ∧ a ≤ 60 ∧ 1 ≤ b ∧ b ≤ a ∧ l.length ≤ 400 ∧ ∀ x ∈ l, x ≠ [] ∧ risesB (a - 1) x (-1) = true := by
  simp only [coverB, Bool.and_eq_true, decide_eq_true_eq, List.all_eq_true] at h
  obtain ⟨⟨⟨⟨h1, h2⟩, h3, h4⟩, h5⟩, h6⟩ := h
  refine ⟨h1, h2, h3, h4, by omega, fun x hx => ?_⟩
  have := h6 x hx
  simp only [rowB, Bool.and_eq_true, Bool.not_eq_true', decide_eq_false_iff_not] at this
  rw [wrap_id (by omega) (by omega)] at this
  exact ⟨fun e => this.1 (by rw [e]; rfl), this.2⟩
def bump (y : List Int) (j : Int) : List Int := y.set j.toNat (wrap64 (rd y j + 1))
theorem bump_length (y : List Int) (j : Int) : (bump y j).length = y.length := by simp [bump]
theorem bumps_length : ∀ (r y : List Int), (r.foldl bump y).length = y.length
  | [], _ => rfl
  | j :: r, y => by rw [List.foldl_cons, bumps_length r, bump_length]
def rowOf (l : List (List Int)) (i : Int) : List Int := l.getD i.toNat []
def countsOf (l : List (List Int)) (y : List Int) (s : List Int) : List Int := s.foldl (fun y i => (rowOf l i).foldl bump y) y
theorem countsOf_length (l : List (List Int)) : ∀ (s y : List Int), (countsOf l y s).length = y.length
  | [], _ => rfl
  | i :: s, y => by
    have := countsOf_length l s ((rowOf l i).foldl bump y)
    rw [countsOf] at this
    rw [countsOf, List.foldl_cons, this, bumps_length]
/-- Which selections may be asked: each row is there, and its columns are. -/
def okSel (l : List (List Int)) (n : Nat) (s : List Int) : Prop := l.length ≤ 400 ∧ ∀ i ∈ s, 0 ≤ i ∧ i < (l.length : Int) ∧ (rowOf l i).length ≤ 9223372036854775807 ∧ ∀ j ∈ rowOf l i, 0 ≤ j ∧ j < (n : Int)
theorem okSel_of {a b : Int} {l : List (List Int)} {s : List Int} (hl : longL l) (h : coverB a b l = true) (hs : risesB ((l.length : Int) - 1) s (-1) = true) : okSel l a.toNat s := by
  obtain ⟨h1, h2, h3, h4, h5, h6⟩ := coverB_parts h
  refine ⟨h5, fun i hi => ?_⟩
  have := rises_mem _ _ _ hs i hi
  have hlt : i.toNat < l.length := by omega
  have e : rowOf l i = l[i.toNat] := by simp [rowOf, List.getD_eq_getElem?_getD, List.getElem?_eq_getElem hlt]
  rw [e]
  have hm := h6 _ (List.getElem_mem hlt)
  exact ⟨this.1, by omega, hl.2 _ (List.getElem_mem hlt), fun j hj => by have := rises_mem _ _ _ hm.2 j hj; omega⟩

def codeB (a b : Int) (l : List (List Int)) (s : List Int) : Int := if coverB a b l then (if risesB (wrap64 ((l.length : Int) - 1)) s (-1) then 0 else 2) else 1
theorem codeB_zero {a b : Int} {l : List (List Int)} {s : List Int} (hl : longL l) (h : codeB a b l s = 0) : 1 ≤ a ∧ a ≤ 60 ∧ 1 ≤ b ∧ b ≤ a ∧ okSel l a.toNat s := by
  unfold codeB at h
  cases c1 : coverB a b l with
  | false => rw [c1] at h; simp at h
  | true =>
    rw [c1] at h
    cases c2 : risesB (wrap64 ((l.length : Int) - 1)) s (-1) with
    | false => rw [c2] at h; simp at h
    | true =>
      obtain ⟨p1, p2, p3, p4, p5, p6⟩ := coverB_parts c1
      rw [wrap_id (by omega) (by omega)] at c2
      exact ⟨p1, p2, p3, p4, okSel_of hl c1 c2⟩

/-- The places, from 'i' on, at which 'q' holds. -/
def whereI {α : Type} (q : Int → α → Bool) : List α → Int → List Int
  | [], _ => []
  | x :: xs, i => if q i x then i :: whereI q xs (i + 1) else whereI q xs (i + 1)
theorem whereI_length {α : Type} (q : Int → α → Bool) : ∀ (l : List α) i, (whereI q l i).length ≤ l.length
  | [], _ => Nat.le_refl _
  | x :: xs, i => by simp only [whereI]; split <;> simp only [List.length_cons] <;> have := whereI_length q xs (i + 1) <;> omega
/-- A loop that gathers places. -/
theorem whereI_loop {α β : Type} (F : Nat → List Int → Int → Option β) (g : List Int → β) (q : Int → α → Bool) (l : List α)
    (h0 : ∀ acc, Ev (fun k => F k acc (l.length : Int)) (g acc))
    (h1 : ∀ i (h : i < l.length) acc r, acc.length ≤ i → Ev (fun k => F k (if q i l[i] then acc ++ [(i : Int)] else acc) ((i + 1 : Nat) : Int)) r → Ev (fun k => F k acc (i : Int)) r) :
    ∀ d i acc, i + d = l.length → acc.length ≤ i → Ev (fun k => F k acc (i : Int)) (g (acc ++ whereI q (l.drop i) i)) := by
  intro d
  induction d with
  | zero =>
    intro i acc h _
    rw [List.drop_eq_nil_of_le (by omega), show i = l.length by omega]
    simpa [whereI] using h0 acc
  | succ d ih =>
    intro i acc h ha
    have hi : i < l.length := by omega
    refine h1 i hi acc _ ha ?_
    rw [List.drop_eq_getElem_cons hi]
    simp only [whereI]
    cases c : q i l[i] with
    | true =>
      simp only [if_true]
      refine ev_eq (ih (i + 1) (acc ++ [(i : Int)]) (by omega) (by simp; omega)) ?_
      simp
    | false =>
      simp only [Bool.false_eq_true, if_false]
      exact ih (i + 1) acc (by omega) (by omega)

def overB (a b : Int) (l : List (List Int)) (s : List Int) : List Int × Int :=
  if codeB a b l s = 0 then (whereI (fun _ c => decide (c > 1)) (countsOf l (List.replicate a.toNat 0) s) 0, 0) else ([], codeB a b l s)
theorem overB_len {a b : Int} {l : List (List Int)} (s : List Int) (hl : longL l) : (overB a b l s).1.length ≤ 60 := by
  unfold overB
  by_cases c : codeB a b l s = 0
  · rw [if_pos c]
    obtain ⟨h1, h2, _⟩ := codeB_zero hl c
    have := whereI_length (fun _ c => decide (c > 1)) (countsOf l (List.replicate a.toNat 0) s) 0
    rw [countsOf_length, List.length_replicate] at this
    show (whereI _ _ 0).length ≤ 60
    omega
  · rw [if_neg c]; simp
def underB (a b : Int) (l : List (List Int)) (s : List Int) : List Int × Int :=
  if codeB a b l s = 0 then (whereI (fun _ c => decide (c = 0)) ((countsOf l (List.replicate a.toNat 0) s).take b.toNat) 0, 0) else ([], codeB a b l s)
theorem underB_len {a b : Int} {l : List (List Int)} (s : List Int) (hl : longL l) : (underB a b l s).1.length ≤ 60 := by
  unfold underB
  by_cases c : codeB a b l s = 0
  · rw [if_pos c]
    obtain ⟨h1, h2, h3, h4, _⟩ := codeB_zero hl c
    have := whereI_length (fun _ c => decide (c = 0)) ((countsOf l (List.replicate a.toNat 0) s).take b.toNat) 0
    rw [List.length_take, countsOf_length, List.length_replicate] at this
    show (whereI _ _ 0).length ≤ 60
    omega
  · rw [if_neg c]; simp
theorem whereI_take {α : Type} (q : Int → α → Bool) : ∀ (l : List α) (n : Nat) (i j : Int), j = i + n → whereI (fun i c => q i c && decide (i < j)) l i = whereI q (l.take n) i
  | [], _, _, _, _ => by simp [whereI]
  | x :: xs, 0, i, j, e => by
    have go : ∀ (ys : List α) (i' : Int), j ≤ i' → whereI (fun i c => q i c && decide (i < j)) ys i' = [] := by
      intro ys
      induction ys with
      | nil => intro i' _; rfl
      | cons y ys ih => intro i' h; simp only [whereI]; simp only [decide_eq_false (show ¬ i' < j by omega), Bool.and_false]; simpa using ih (i' + 1) (by omega)
    simpa [whereI] using go (x :: xs) i (by omega)
  | x :: xs, n + 1, i, j, e => by
    have ih := whereI_take q xs n (i + 1) j (by push_cast at e; omega)
    simp only [List.take_succ_cons, whereI, ih]
    simp only [decide_eq_true (show i < j by push_cast at e; omega), Bool.and_true]

theorem spec_in (a b c : Int) : spec_l01In.f a b c = some (decide (b ≤ a) && decide (a ≤ c)) := by
  unfold spec_l01In.f; by_cases h : b ≤ a
  · rw [if_pos h]; simp [h]
  · rw [if_neg h]; simp [h]

theorem spec_rises_loop (l : List Int) (n : Int) (hl : l.length ≤ 9223372036854775807) : ∀ d i, i + d = l.length →
    Ev (fun k => spec_l01Rises.l0 k l n (i : Int)) (risesB (wrap64 (n - 1)) (l.drop i) (prevOf l i)) := by
  intro d
  induction d with
  | zero =>
    intro i h
    rw [rises_end _ _ (by omega)]
    exact ev_const fun k => by simp only [spec_l01Rises.l0]; rw [if_neg (by omega)]
  | succ d ih =>
    intro i h
    have hi : i < l.length := by omega
    have step : ∀ k, spec_l01Rises.l0 (k + 1) l n (i : Int) = if (decide (0 ≤ l[i]) && decide (l[i] ≤ wrap64 (n - 1))) = true then (if decide (prevOf l i < l[i]) = true ∨ i = 0 then spec_l01Rises.l0 k l n ((i + 1 : Nat) : Int) else some false) else some false := fun k => by
      simp only [spec_l01Rises.l0]
      rw [if_pos (by omega), if_pos (by omega), rd_nat l hi, spec_in]
      simp only [Option.bind_some, wrap_succ hi hl]
      by_cases c : (decide (0 ≤ l[i]) && decide (l[i] ≤ wrap64 (n - 1))) = true
      · rw [if_pos c, if_pos c]
        by_cases z : i = 0
        · rw [if_neg (by omega), if_pos (.inr z)]
        · have e : wrap64 ((i : Int) - 1) = ((i - 1 : Nat) : Int) := by unfold wrap64; omega
          have p : prevOf l i = l[i - 1] := by simp [prevOf, z, List.getD_eq_getElem?_getD, List.getElem?_eq_getElem (show i - 1 < l.length by omega)]
          rw [if_pos (by omega), e, if_pos (by omega), if_pos (by omega), rd_nat l (by omega), p]
          by_cases q : l[i] ≤ l[i - 1]
          · rw [if_pos q, if_neg (by simp [z]; omega)]
          · rw [if_neg q, if_pos (.inl (by simp; omega))]
      · rw [if_neg c, if_neg c]
    rw [rises_next _ _ hi]
    refine Ev.step step ?_
    by_cases c : (decide (0 ≤ l[i]) && decide (l[i] ≤ wrap64 (n - 1))) = true
    · simp only [if_pos c]
      by_cases q : decide (prevOf l i < l[i]) = true ∨ i = 0
      · simp only [if_pos q]
        refine ev_eq (ih (i + 1) (by omega)) ?_
        have q' : decide (prevOf l i < l[i]) = true := q.elim id fun z => by
          subst z
          simp only [Bool.and_eq_true, decide_eq_true_eq] at c
          simp [prevOf]; omega
        rw [c, q']; simp
      · simp only [if_neg q]
        refine ev_eq (Ev.now _) ?_
        rw [show decide (prevOf l i < l[i]) = false by simp only [not_or] at q; simpa using q.1]; simp
    · simp only [if_neg c]
      refine ev_eq (Ev.now _) ?_
      simp only [Bool.not_eq_true] at c
      rw [c]; simp
theorem spec_rises (l : List Int) (n : Int) (hl : l.length ≤ 9223372036854775807) : Ev (fun k => spec_l01Rises.f k l n) (risesB (wrap64 (n - 1)) l (-1)) := by
  have := spec_rises_loop l n hl l.length 0 (by omega)
  simpa [spec_l01Rises.f, prevOf] using this

theorem spec_IsCover_loop (a b : Int) (l : List (List Int)) (hl : longL l) : ∀ d i, i + d = l.length → Ev (fun k => spec_IsCover.l0 k (i : Int) a b l) ((l.drop i).all (rowB a)) := by
  intro d
  induction d with
  | zero =>
    intro i h
    rw [List.drop_eq_nil_of_le (by omega)]
    exact ev_const fun k => by simp only [spec_IsCover.l0]; rw [if_neg (by omega)]; rfl
  | succ d ih =>
    intro i h
    have hi : i < l.length := by omega
    rw [List.drop_eq_getElem_cons hi, List.all_cons]
    have step : ∀ k, spec_IsCover.l0 (k + 1) (i : Int) a b l = if (l[i].length : Int) = 0 then some false else (spec_l01Rises.f k l[i] a).bind fun t => if t = true then spec_IsCover.l0 k ((i + 1 : Nat) : Int) a b l else some false := fun k => by
      simp only [spec_IsCover.l0]
      rw [if_pos (by omega), if_pos (by omega), rdr_nat l hi, wrap_succ hi hl.1]
    refine Ev.step step ?_
    by_cases c : (l[i].length : Int) = 0
    · simp only [if_pos c]; refine ev_eq (Ev.now _) ?_; simp only [rowB, c]; simp
    · simp only [if_neg c]
      refine Ev.bind (spec_rises l[i] a (hl.2 _ (List.getElem_mem hi))) ?_
      have e : rowB a l[i] = risesB (wrap64 (a - 1)) l[i] (-1) := by simp only [rowB, c]; simp
      cases q : risesB (wrap64 (a - 1)) l[i] (-1) with
      | true => simp only [if_true]; refine ev_eq (ih (i + 1) (by omega)) ?_; rw [e, q]; simp
      | false => simp only [Bool.false_eq_true, if_false]; refine ev_eq (Ev.now _) ?_; rw [e, q]; simp
theorem spec_IsCover_ev (a b : Int) (l : List (List Int)) (hl : longL l) : Ev (fun k => spec_IsCover.f k a b l) (coverB a b l) := by
  have hL := spec_IsCover_loop a b l hl l.length 0 (by omega)
  have hj : ∀ x, Ev (fun k => spec_IsCover.j0 k x a b l) (!x && l.all (rowB a)) := fun x => by
    refine Ev.step (f := fun k => if x = true then some false else spec_IsCover.l0 k 0 a b l) (fun k => by simp only [spec_IsCover.j0]) ?_
    cases x with
    | true => simpa using Ev.now false
    | false => simpa using hL
  simp only [spec_IsCover.f, spec_in, Option.bind_some]
  unfold coverB
  cases q : (decide (1 ≤ a) && decide (a ≤ 60)) with
  | false => simp only [Bool.false_eq_true, if_false, Bool.false_and]; exact hj true
  | true =>
    cases q2 : (decide (1 ≤ b) && decide (b ≤ a)) with
    | false => simp only [Bool.false_eq_true, if_false, if_true, Bool.false_and, Bool.and_false]; exact hj true
    | true =>
      simp only [if_true, Bool.true_and]
      refine ev_eq (hj _) ?_
      by_cases c : (l.length : Int) ≤ 400
      · rw [decide_eq_true c, decide_eq_false (by omega)]; rfl
      · rw [decide_eq_false c, decide_eq_true (by omega)]; rfl

theorem spec_code13 (a b : Int) (l : List (List Int)) (s : List Int) (hl : longL l) (hs : s.length ≤ 9223372036854775807) : Ev (fun k => spec_l13Code.f k a b l s) (codeB a b l s) := by
  simp only [spec_l13Code.f]
  refine Ev.bind (spec_IsCover_ev a b l hl) ?_
  unfold codeB
  cases coverB a b l with
  | false => simpa using Ev.now (1 : Int)
  | true =>
    simp only [if_true]
    refine Ev.bind (spec_rises s (l.length : Int) hs) ?_
    cases risesB (wrap64 ((l.length : Int) - 1)) s (-1) with
    | false => simpa using Ev.now (2 : Int)
    | true => simpa using Ev.now (0 : Int)

theorem spec_counts_in (a b : Int) (l : List (List Int)) (s : List Int) (i : Nat) (n : Nat) (row : List Int) (hrow : row.length ≤ 9223372036854775807) (hj : ∀ j ∈ row, 0 ≤ j ∧ j < (n : Int)) (r : List Int) : ∀ d q (y : List Int), q + d = row.length → y.length = n →
    Ev (fun k => spec_l13Counts.l0 k s ((row.drop q).foldl bump y) (wrap64 ((i : Int) + 1)) a b l) r → Ev (fun k => spec_l13Counts.l1 k s y (i : Int) row (q : Int) a b l) r := by
  intro d
  induction d with
  | zero =>
    intro q y h hy hE
    rw [List.drop_eq_nil_of_le (by omega)] at hE
    exact Ev.step (fun k => by simp only [spec_l13Counts.l1]; rw [if_neg (by omega)]; rfl) hE
  | succ d ih =>
    intro q y h hy hE
    have hq : q < row.length := by omega
    rw [List.drop_eq_getElem_cons hq, List.foldl_cons] at hE
    have hb := hj _ (List.getElem_mem hq)
    refine Ev.step (f := fun k => spec_l13Counts.l1 k s (bump y row[q]) (i : Int) row ((q + 1 : Nat) : Int) a b l) (fun k => ?_) (ih (q + 1) (bump y row[q]) (by omega) (by rw [bump_length, hy]) hE)
    simp only [spec_l13Counts.l1]
    rw [if_pos (by omega), if_pos (by omega), rd_nat row hq, if_pos hb.1, if_pos (by omega), wrap_succ hq hrow]; rfl
theorem spec_counts_loop (a b : Int) (l : List (List Int)) (s : List Int) (n : Nat) (hs : s.length ≤ 9223372036854775807) (ok : okSel l n s) : ∀ d i (y : List Int), i + d = s.length → y.length = n → Ev (fun k => spec_l13Counts.l0 k s y (i : Int) a b l) (countsOf l y (s.drop i)) := by
  intro d
  induction d with
  | zero =>
    intro i y h hy
    rw [List.drop_eq_nil_of_le (by omega)]
    exact ev_const fun k => by simp only [spec_l13Counts.l0]; rw [if_neg (by omega)]; rfl
  | succ d ih =>
    intro i y h hy
    have hi : i < s.length := by omega
    obtain ⟨h1, h2, h3, h4⟩ := ok.2 _ (List.getElem_mem hi)
    have e : rd_L1 l s[i] = rowOf l s[i] := by simp only [rd_L1, rowOf]
    rw [List.drop_eq_getElem_cons hi]
    refine Ev.step (f := fun k => spec_l13Counts.l1 k s y (i : Int) (rowOf l s[i]) 0 a b l) (fun k => ?_) (spec_counts_in a b l s i n _ h3 h4 _ (rowOf l s[i]).length 0 y (by omega) hy ?_)
    · simp only [spec_l13Counts.l0]
      rw [if_pos (by omega), if_pos (by omega), rd_nat s hi, if_pos h1, if_pos h2, e]
    · rw [wrap_succ hi hs]
      exact ih (i + 1) ((rowOf l s[i]).foldl bump y) (by omega) (by rw [bumps_length, hy])
theorem spec_counts (a b : Int) (l : List (List Int)) (s : List Int) (h0 : 0 ≤ a) (h1 : a ≤ 60) (hs : s.length ≤ 9223372036854775807) (ok : okSel l a.toNat s) : Ev (fun k => spec_l13Counts.f k a b l s) (countsOf l (List.replicate a.toNat 0) s) := by
  have := spec_counts_loop a b l s a.toNat hs ok s.length 0 (List.replicate a.toNat 0) (by omega) (by simp)
  simp only [spec_l13Counts.f, if_pos h0, if_pos (show a.toNat ≤ 35184372088832 by omega)]
  exact this

theorem spec_UncoveredBy_ev (a b : Int) (l : List (List Int)) (s : List Int) (hl : longL l) (hs : s.length ≤ 9223372036854775807) : Ev (fun k => spec_UncoveredBy.f k a b l s) (underB a b l s) := by
  simp only [spec_UncoveredBy.f]
  refine Ev.bind (spec_code13 a b l s hl hs) ?_
  unfold underB
  by_cases c : codeB a b l s = 0
  · simp only [if_pos c]
    obtain ⟨h1, h2, h3, h4, ok⟩ := codeB_zero hl c
    refine Ev.bind (spec_counts a b l s (by omega) h2 hs ok) ?_
    have hy : ((countsOf l (List.replicate a.toNat 0) s).length : Int) = a := by rw [countsOf_length]; simp; omega
    generalize countsOf l (List.replicate a.toNat 0) s = y at *
    have ht : ((y.take b.toNat).length : Int) = b := by rw [List.length_take]; omega
    have := whereI_loop (fun k acc i => spec_UncoveredBy.l0 k y acc i a b l) (fun acc => (acc, (0 : Int))) (fun _ c => decide (c = 0)) (y.take b.toNat)
      (fun acc => ev_const fun k => by simp only [spec_UncoveredBy.l0]; rw [if_neg (by omega)])
      (fun i hi acc r ha hE => Ev.step (fun k => by
        have hi2 : i < y.length := by omega
        simp only [spec_UncoveredBy.l0]
        rw [if_pos (by omega), if_pos (by omega), if_pos (by omega), rd_nat y hi2, wrap_succ hi2 (by omega)]
        simp only [if_pos (show acc.length < 17592186044416 by omega), List.getElem_take]
        show _ = spec_UncoveredBy.l0 k y _ _ a b l
        by_cases q : y[i] = 0
        · rw [if_pos q, decide_eq_true q]; rfl
        · rw [if_neg q, decide_eq_false q]; rfl) hE) (y.take b.toNat).length 0 [] (by omega) (Nat.le_refl _)
    simpa using this
  · simp only [if_neg c]; exact Ev.now _

theorem impl_in (a b c : Int) : impl_within.f a b c = some (decide (b ≤ a) && decide (a ≤ c)) := by
  unfold impl_within.f; by_cases h : b ≤ a
  · rw [if_pos h]; simp [h]
  · rw [if_neg h]; simp [h]

theorem impl_rises_loop (l : List Int) (n : Int) (hl : l.length ≤ 9223372036854775807) : ∀ d i, i + d = l.length →
    Ev (fun k => impl_isIncreasing.l0 k l n l (l.length : Int) (i : Int)) (risesB (wrap64 (n - 1)) (l.drop i) (prevOf l i)) := by
  intro d
  induction d with
  | zero =>
    intro i h
    rw [rises_end _ _ (by omega)]
    exact ev_const fun k => by simp only [impl_isIncreasing.l0]; rw [if_neg (by omega)]
  | succ d ih =>
    intro i h
    have hi : i < l.length := by omega
    have step : ∀ k, impl_isIncreasing.l0 (k + 1) l n l (l.length : Int) (i : Int) = if (decide (0 ≤ l[i]) && decide (l[i] ≤ wrap64 (n - 1))) = true then (if decide (prevOf l i < l[i]) = true ∨ i = 0 then impl_isIncreasing.l0 k l n l (l.length : Int) ((i + 1 : Nat) : Int) else some false) else some false := fun k => by
      simp only [impl_isIncreasing.l0]
      rw [if_pos (by omega), if_pos (by omega), if_pos (by omega), rd_nat l hi, impl_in]
      simp only [Option.bind_some, wrap_succ hi hl]
      by_cases c : (decide (0 ≤ l[i]) && decide (l[i] ≤ wrap64 (n - 1))) = true
      · rw [if_pos c, if_pos c]
        by_cases z : i = 0
        · rw [if_neg (by omega), if_pos (.inr z)]
        · have e : wrap64 ((i : Int) - 1) = ((i - 1 : Nat) : Int) := by unfold wrap64; omega
          have p : prevOf l i = l[i - 1] := by simp [prevOf, z, List.getD_eq_getElem?_getD, List.getElem?_eq_getElem (show i - 1 < l.length by omega)]
          rw [if_pos (by omega), e, if_pos (by omega), if_pos (by omega), rd_nat l (by omega), p]
          by_cases q : l[i] ≤ l[i - 1]
          · rw [if_pos q, if_neg (by simp [z]; omega)]
          · rw [if_neg q, if_pos (.inl (by simp; omega))]
      · rw [if_neg c, if_neg c]
    rw [rises_next _ _ hi]
    refine Ev.step step ?_
    by_cases c : (decide (0 ≤ l[i]) && decide (l[i] ≤ wrap64 (n - 1))) = true
    · simp only [if_pos c]
      by_cases q : decide (prevOf l i < l[i]) = true ∨ i = 0
      · simp only [if_pos q]
        refine ev_eq (ih (i + 1) (by omega)) ?_
        have q' : decide (prevOf l i < l[i]) = true := q.elim id fun z => by
          subst z
          simp only [Bool.and_eq_true, decide_eq_true_eq] at c
          simp [prevOf]; omega
        rw [c, q']; simp
      · simp only [if_neg q]
        refine ev_eq (Ev.now _) ?_
        rw [show decide (prevOf l i < l[i]) = false by simp only [not_or] at q; simpa using q.1]; simp
    · simp only [if_neg c]
      refine ev_eq (Ev.now _) ?_
      simp only [Bool.not_eq_true] at c
      rw [c]; simp
theorem impl_rises (l : List Int) (n : Int) (hl : l.length ≤ 9223372036854775807) : Ev (fun k => impl_isIncreasing.f k l n) (risesB (wrap64 (n - 1)) l (-1)) := by
  have := impl_rises_loop l n hl l.length 0 (by omega)
  simpa [impl_isIncreasing.f, prevOf] using this

theorem anyM_ev {α : Type} (p : Nat → α → Option Bool) (q : α → Bool) : ∀ l : List α, (∀ x ∈ l, Ev (fun k => p k x) (q x)) → Ev (fun k => anyM (p k) l) (l.any q)
  | [], _ => by simpa [anyM] using Ev.now false
  | x :: xs, h => by
    simp only [anyM, List.any_cons]
    refine Ev.bind (h x (List.mem_cons_self ..)) ?_
    cases c : q x with
    | true => simpa using Ev.now true
    | false => simpa using anyM_ev p q xs (fun y hy => h y (List.mem_cons_of_mem _ hy))
theorem anyM_some {α : Type} (p : α → Option Bool) (q : α → Bool) : ∀ l : List α, (∀ x ∈ l, p x = some (q x)) → anyM p l = some (l.any q)
  | [], _ => rfl
  | x :: xs, h => by
    simp only [anyM, List.any_cons, h x (List.mem_cons_self ..), Option.bind_some]
    cases c : q x with
    | true => simp
    | false => simpa using anyM_some p q xs (fun y hy => h y (List.mem_cons_of_mem _ hy))

theorem impl_IsCover_ev (a b : Int) (l : List (List Int)) (hl : longL l) : Ev (fun k => impl_IsCover.f k a b l) (coverB a b l) := by
  have h1 : ∀ x ∈ l, Ev (fun k => impl_IsCover_1.f k x a) (!rowB a x) := fun x hx => by
    simp only [impl_IsCover_1.f]
    by_cases c : (x.length : Int) = 0
    · simp only [if_pos c]; refine ev_eq (Ev.now _) ?_; simp only [rowB, c]; simp
    · simp only [if_neg c]
      refine Ev.bind (impl_rises x a (hl.2 _ hx)) ?_
      refine ev_eq (Ev.now _) ?_
      simp only [rowB, c]; simp
  have h2 := anyM_ev (fun k x => impl_IsCover_1.f k x a) (fun x => !rowB a x) l h1
  simp only [impl_IsCover.f, impl_in, Option.bind_some]
  unfold coverB
  cases q : (decide (1 ≤ a) && decide (a ≤ 60)) with
  | false => simpa using Ev.now false
  | true =>
    cases q2 : (decide (1 ≤ b) && decide (b ≤ a)) with
    | false => simpa using Ev.now false
    | true =>
      simp only [if_true, Bool.true_and]
      by_cases c : (l.length : Int) ≤ 400
      · simp only [if_neg (show ¬ (l.length : Int) > 400 by omega), decide_eq_true c, Bool.true_and]
        refine Ev.bind h2 ?_
        refine ev_eq (Ev.now _) ?_
        simp [List.any_eq_not_all_not]
      · simp only [if_pos (show (l.length : Int) > 400 by omega), decide_eq_false c, Bool.false_and]
        exact Ev.now false

theorem impl_code13 (a b : Int) (l : List (List Int)) (s : List Int) (hl : longL l) (hs : s.length ≤ 9223372036854775807) : Ev (fun k => impl_selectionCode.f k a b l s) (codeB a b l s) := by
  simp only [impl_selectionCode.f]
  refine Ev.bind (impl_IsCover_ev a b l hl) ?_
  unfold codeB
  cases coverB a b l with
  | false => simpa using Ev.now (1 : Int)
  | true =>
    simp only [if_true]
    refine Ev.bind (impl_rises s (l.length : Int) hs) ?_
    cases risesB (wrap64 ((l.length : Int) - 1)) s (-1) with
    | false => simpa using Ev.now (2 : Int)
    | true => simpa using Ev.now (0 : Int)

theorem impl_counts_in (a b : Int) (l : List (List Int)) (s : List Int) (i : Nat) (n : Nat) (row : List Int) (hrow : row.length ≤ 9223372036854775807) (hj : ∀ j ∈ row, 0 ≤ j ∧ j < (n : Int)) (r : List Int) : ∀ d q (y : List Int), q + d = row.length → y.length = n →
    Ev (fun k => impl_Cover_counts.l0 k ((row.drop q).foldl bump y) s (s.length : Int) (wrap64 ((i : Int) + 1)) a b l) r → Ev (fun k => impl_Cover_counts.l1 k y s (s.length : Int) (i : Int) row (row.length : Int) (q : Int) a b l) r := by
  intro d
  induction d with
  | zero =>
    intro q y h hy hE
    rw [List.drop_eq_nil_of_le (by omega)] at hE
    exact Ev.step (fun k => by simp only [impl_Cover_counts.l1]; rw [if_neg (by omega)]; rfl) hE
  | succ d ih =>
    intro q y h hy hE
    have hq : q < row.length := by omega
    rw [List.drop_eq_getElem_cons hq, List.foldl_cons] at hE
    have hb := hj _ (List.getElem_mem hq)
    refine Ev.step (f := fun k => impl_Cover_counts.l1 k (bump y row[q]) s (s.length : Int) (i : Int) row (row.length : Int) ((q + 1 : Nat) : Int) a b l) (fun k => ?_) (ih (q + 1) (bump y row[q]) (by omega) (by rw [bump_length, hy]) hE)
    simp only [impl_Cover_counts.l1]
    rw [if_pos (by omega), if_pos (by omega), if_pos (by omega), rd_nat row hq, if_pos hb.1, if_pos (by omega), wrap_succ hq hrow]; rfl
theorem impl_counts_loop (a b : Int) (l : List (List Int)) (s : List Int) (n : Nat) (hs : s.length ≤ 9223372036854775807) (ok : okSel l n s) : ∀ d i (y : List Int), i + d = s.length → y.length = n → Ev (fun k => impl_Cover_counts.l0 k y s (s.length : Int) (i : Int) a b l) (countsOf l y (s.drop i)) := by
  intro d
  induction d with
  | zero =>
    intro i y h hy
    rw [List.drop_eq_nil_of_le (by omega)]
    exact ev_const fun k => by simp only [impl_Cover_counts.l0]; rw [if_neg (by omega)]; rfl
  | succ d ih =>
    intro i y h hy
    have hi : i < s.length := by omega
    obtain ⟨h1, h2, h3, h4⟩ := ok.2 _ (List.getElem_mem hi)
    have e : rd_L1 l s[i] = rowOf l s[i] := by simp only [rd_L1, rowOf]
    rw [List.drop_eq_getElem_cons hi]
    refine Ev.step (f := fun k => impl_Cover_counts.l1 k y s (s.length : Int) (i : Int) (rowOf l s[i]) ((rowOf l s[i]).length : Int) 0 a b l) (fun k => ?_) (impl_counts_in a b l s i n _ h3 h4 _ (rowOf l s[i]).length 0 y (by omega) hy ?_)
    · simp only [impl_Cover_counts.l0]
      rw [if_pos (by omega), if_pos (by omega), if_pos (by omega), rd_nat s hi, if_pos h1, if_pos h2, e]
    · rw [wrap_succ hi hs]
      exact ih (i + 1) ((rowOf l s[i]).foldl bump y) (by omega) (by rw [bumps_length, hy])
theorem impl_counts (a b : Int) (l : List (List Int)) (s : List Int) (h0 : 0 ≤ a) (h1 : a ≤ 60) (hs : s.length ≤ 9223372036854775807) (ok : okSel l a.toNat s) : Ev (fun k => impl_Cover_counts.f k a b l s) (countsOf l (List.replicate a.toNat 0) s) := by
  have := impl_counts_loop a b l s a.toNat hs ok s.length 0 (List.replicate a.toNat 0) (by omega) (by simp)
  simp only [impl_Cover_counts.f, if_pos h0, if_pos (show a.toNat ≤ 35184372088832 by omega)]
  exact this

theorem impl_UncoveredBy_ev (a b : Int) (l : List (List Int)) (s : List Int) (hl : longL l) (hs : s.length ≤ 9223372036854775807) : Ev (fun k => impl_UncoveredBy.f k a b l s) (underB a b l s) := by
  simp only [impl_UncoveredBy.f]
  refine Ev.bind (impl_code13 a b l s hl hs) ?_
  unfold underB
  by_cases c : codeB a b l s = 0
  · simp only [if_pos c]
    obtain ⟨h1, h2, h3, h4, ok⟩ := codeB_zero hl c
    refine Ev.bind (impl_counts a b l s (by omega) h2 hs ok) ?_
    have hy : ((countsOf l (List.replicate a.toNat 0) s).length : Int) = a := by rw [countsOf_length]; simp; omega
    generalize countsOf l (List.replicate a.toNat 0) s = y at *
    rw [← whereI_take (fun _ c => decide (c = 0)) y b.toNat 0 b (by omega)]
    have := whereI_loop (fun k acc i => impl_UncoveredBy.l0 k acc y (y.length : Int) i a b l) (fun acc => (acc, (0 : Int))) (fun i c => decide (c = 0) && decide (i < b)) y
      (fun acc => ev_const fun k => by simp only [impl_UncoveredBy.l0]; rw [if_neg (by omega)])
      (fun i hi acc r ha hE => Ev.step (fun k => by
        simp only [impl_UncoveredBy.l0]
        rw [if_pos (by omega), if_pos (by omega), if_pos (by omega), rd_nat y hi, wrap_succ hi (by omega)]
        simp only [if_pos (show acc.length < 17592186044416 by omega)]
        show _ = impl_UncoveredBy.l0 k _ y _ _ a b l
        by_cases q : y[i] = 0
        · rw [if_pos q, decide_eq_true q]
          by_cases q2 : (i : Int) < b
          · rw [if_pos q2, decide_eq_true q2]; rfl
          · rw [if_neg q2, decide_eq_false q2]; rfl
        · rw [if_neg q, decide_eq_false q]; rfl) hE) y.length 0 [] (by omega) (Nat.le_refl _)
    simpa using this
  · simp only [if_neg c]; exact Ev.now _

theorem szInts (l : List Int) (n : Int) (hl : l.length ≤ 9223372036854775807) (h0 : 0 ≤ n) (h1 : n ≤ 4611686018427387904) : ∃ r, laws_szInt64S.f l n = some r ∧ -1 ≤ r ∧ r ≤ n ∧ (0 ≤ r → r = n - l.length) := by
  have e : wrap64 (n - (l.length : Int)) = n - l.length := by unfold wrap64; omega
  unfold laws_szInt64S.f
  rw [e]
  by_cases c : n - (l.length : Int) < 0
  · rw [if_pos c]; exact ⟨_, rfl, by omega, by omega, by omega⟩
  · rw [if_neg c]; exact ⟨_, rfl, by omega, by omega, by omega⟩

theorem szRows_loop (l : List (List Int)) (hl : longL l) : ∀ d i (n : Int), i + d = l.length → 0 ≤ n → n ≤ 4611686018427387904 →
    ∃ r, Ev (fun k => laws_szInt64SS.l0 k l n (i : Int)) r ∧ -1 ≤ r ∧ r ≤ n ∧ (0 ≤ r → ∀ x ∈ l.drop i, (x.length : Int) ≤ n) := by
  intro d
  induction d with
  | zero =>
    intro i n h h0 h1
    refine ⟨n, ev_const fun k => by simp only [laws_szInt64SS.l0]; rw [if_neg (by omega)], by omega, by omega, fun _ x hx => ?_⟩
    rw [List.drop_eq_nil_of_le (by omega)] at hx; cases hx
  | succ d ih =>
    intro i n h h0 h1
    have hi : i < l.length := by omega
    obtain ⟨r1, e1, b1, b2, b3⟩ := szInts l[i] n (hl.2 _ (List.getElem_mem hi)) h0 h1
    have step : ∀ k, laws_szInt64SS.l0 (k + 1) l n (i : Int) = if r1 < 0 then some (-1) else laws_szInt64SS.l0 k l r1 ((i + 1 : Nat) : Int) := fun k => by
      simp only [laws_szInt64SS.l0]
      rw [if_pos (by omega), if_pos (by omega), rdr_nat l hi, e1, wrap_succ hi hl.1]
      simp only [Option.bind_some]
    by_cases c : r1 < 0
    · exact ⟨-1, Ev.step step (by simp only [if_pos c]; exact Ev.now _), by omega, by omega, fun h => by omega⟩
    · obtain ⟨r, hr, c1, c2, c3⟩ := ih (i + 1) r1 (by omega) (by omega) (by omega)
      refine ⟨r, Ev.step step (by simp only [if_neg c]; exact hr), c1, by omega, fun h x hx => ?_⟩
      rw [List.drop_eq_getElem_cons hi] at hx
      rcases List.mem_cons.mp hx with rfl | hx
      · have := b3 (by omega); omega
      · have := c3 h x hx; have := b3 (by omega); omega
theorem szRows (l : List (List Int)) (hl : longL l) (n : Int) (h0 : 0 ≤ n) (h1 : n ≤ 4611686018427387904) :
    ∃ r, Ev (fun k => laws_szInt64SS.f k l n) r ∧ -1 ≤ r ∧ r ≤ n ∧ (0 ≤ r → (l.length : Int) ≤ n ∧ ∀ x ∈ l, (x.length : Int) ≤ n) := by
  have e : wrap64 (n - (l.length : Int)) = n - l.length := by have := hl.1; unfold wrap64; omega
  by_cases c : n - (l.length : Int) < 0
  · exact ⟨-1, by simp only [laws_szInt64SS.f, e, if_pos c]; exact Ev.now _, by omega, by omega, fun h => by omega⟩
  · obtain ⟨r, hr, c1, c2, c3⟩ := szRows_loop l hl l.length 0 (n - l.length) (by omega) (by omega) (by omega)
    exact ⟨r, by simp only [laws_szInt64SS.f, e, if_neg c]; exact hr, c1, by omega, fun h => ⟨by omega, fun x hx => by have := c3 h x (by simpa using hx); omega⟩⟩

theorem toInts_loop (l : List Int) (hl : l.length ≤ 9223372036854775807) : ∀ d i (y : List Int), i + d = l.length → y.length = l.length → y.take i = l.take i → Ev (fun k => laws_toInt64S.l0 k l y (i : Int)) l := by
  intro d
  induction d with
  | zero =>
    intro i y h hy ht
    have e : y = l := by
      rw [List.take_of_length_le (by omega), List.take_of_length_le (by omega)] at ht; exact ht
    subst e
    exact ev_const fun k => by simp only [laws_toInt64S.l0]; rw [if_neg (by omega)]
  | succ d ih =>
    intro i y h hy ht
    have hi : i < l.length := by omega
    refine Ev.step (f := fun k => laws_toInt64S.l0 k l (y.set i l[i]) ((i + 1 : Nat) : Int)) (fun k => ?_) (ih (i + 1) (y.set i l[i]) (by omega) (by simp [hy]) ?_)
    · simp only [laws_toInt64S.l0]
      rw [if_pos (by omega), if_pos (by omega), if_pos (by omega), rd_nat l hi, wrap_succ hi hl, Int.toNat_natCast]
    · rw [List.take_succ_eq_append_getElem (by simp; omega), List.take_succ_eq_append_getElem hi, List.take_set_of_le (Nat.le_refl i), ht]; simp
theorem toInts (l : List Int) (hl : l.length ≤ 35184372088832) : Ev (fun k => laws_toInt64S.f k l) l := by
  have := toInts_loop l (by omega) l.length 0 (List.replicate l.length 0) (by omega) (by simp) (by simp)
  simp only [laws_toInt64S.f, Int.toNat_natCast, if_pos hl, if_pos (Int.natCast_nonneg l.length)]
  exact this

theorem toRows_loop (l : List (List Int)) (hl : l.length ≤ 9223372036854775807) (hx : ∀ x ∈ l, x.length ≤ 35184372088832) : ∀ d i (y : List (List Int)), i + d = l.length → y.length = l.length → y.take i = l.take i → Ev (fun k => laws_toInt64SS.l0 k l y (i : Int)) l := by
  intro d
  induction d with
  | zero =>
    intro i y h hy ht
    have e : y = l := by
      rw [List.take_of_length_le (by omega), List.take_of_length_le (by omega)] at ht; exact ht
    subst e
    exact ev_const fun k => by simp only [laws_toInt64SS.l0]; rw [if_neg (by omega)]
  | succ d ih =>
    intro i y h hy ht
    have hi : i < l.length := by omega
    refine Ev.step (f := fun k => (laws_toInt64S.f k l[i]).bind fun t => laws_toInt64SS.l0 k l (y.set i t) ((i + 1 : Nat) : Int)) (fun k => ?_) (Ev.bind (toInts l[i] (hx _ (List.getElem_mem hi))) (ih (i + 1) (y.set i l[i]) (by omega) (by simp [hy]) ?_))
    · simp only [laws_toInt64SS.l0]
      rw [if_pos (by omega), if_pos (by omega), rdr_nat l hi, wrap_succ hi hl]
      simp only [if_pos (show (i : Int) < (y.length : Int) by omega), Int.toNat_natCast]
    · rw [List.take_succ_eq_append_getElem (by simp; omega), List.take_succ_eq_append_getElem hi, List.take_set_of_le (Nat.le_refl i), ht]; simp
theorem toRows (l : List (List Int)) (hl : l.length ≤ 11728124029610) (hx : ∀ x ∈ l, x.length ≤ 35184372088832) : Ev (fun k => laws_toInt64SS.f k l) l := by
  have := toRows_loop l (by omega) hx l.length 0 (List.replicate l.length []) (by omega) (by simp) (by simp)
  simp only [laws_toInt64SS.f, Int.toNat_natCast, if_pos hl, if_pos (Int.natCast_nonneg l.length)]
  exact this

theorem eqInts_loop (l : List Int) (hl : l.length ≤ 9223372036854775807) : ∀ d i, i + d = l.length → Ev (fun k => laws_eqInt64S.l0 k l l (i : Int)) true := by
  intro d
  induction d with
  | zero => intro i h; exact ev_const fun k => by simp only [laws_eqInt64S.l0]; rw [if_neg (by omega)]
  | succ d ih =>
    intro i h
    have hi : i < l.length := by omega
    refine Ev.step (f := fun k => laws_eqInt64S.l0 k l l ((i + 1 : Nat) : Int)) (fun k => ?_) (ih (i + 1) (by omega))
    simp only [laws_eqInt64S.l0]
    rw [if_pos (by omega), if_pos (by omega), if_pos (by omega), wrap_succ hi hl]; simp
theorem eqInts (l : List Int) (hl : l.length ≤ 9223372036854775807) : Ev (fun k => laws_eqInt64S.f k l l) true := by
  have := eqInts_loop l hl l.length 0 (by omega)
  simpa [laws_eqInt64S.f] using this

theorem eqRows_loop (l : List (List Int)) (hl : longL l) : ∀ d i, i + d = l.length → Ev (fun k => laws_eqInt64SS.l0 k l l (i : Int)) true := by
  intro d
  induction d with
  | zero => intro i h; exact ev_const fun k => by simp only [laws_eqInt64SS.l0]; rw [if_neg (by omega)]
  | succ d ih =>
    intro i h
    have hi : i < l.length := by omega
    refine Ev.step (f := fun k => (laws_eqInt64S.f k l[i] l[i]).bind fun t => if t = true then laws_eqInt64SS.l0 k l l ((i + 1 : Nat) : Int) else some false) (fun k => ?_) (Ev.bind (eqInts l[i] (hl.2 _ (List.getElem_mem hi))) (by simpa using ih (i + 1) (by omega)))
    simp only [laws_eqInt64SS.l0]
    rw [if_pos (by omega), if_pos (by omega), if_pos (by omega), rdr_nat l hi, wrap_succ hi hl.1]
theorem eqRows (l : List (List Int)) (hl : longL l) : Ev (fun k => laws_eqInt64SS.f k l l) true := by
  have := eqRows_loop l hl l.length 0 (by omega)
  simpa [laws_eqInt64SS.f] using this

theorem toCover_ev (a b : Int) (l : List (List Int)) (hl : l.length ≤ 11728124029610) (hx : ∀ x ∈ l, x.length ≤ 35184372088832) : Ev (fun k => laws_toCover.f k a b l) (a, b, l) := by
  simp only [laws_toCover.f]
  exact Ev.bind (toRows l hl hx) (Ev.now _)
theorem eqCover_ev (a b : Int) (l : List (List Int)) (hl : longL l) : Ev (fun k => laws_eqCover.f k a b l a b l) true := by
  simp only [laws_eqCover.f, if_true]
  exact Ev.bind (eqRows l hl) (by simpa using Ev.now true)
theorem szCover_ev (a b : Int) (l : List (List Int)) (hl : longL l) : ∃ r, Ev (fun k => laws_szCover.f k a b l 1048576) r ∧ (r < 0 ∨ ((l.length : Int) ≤ 1048576 ∧ ∀ x ∈ l, (x.length : Int) ≤ 1048576)) := by
  obtain ⟨r, hr, c1, c2, c3⟩ := szRows l hl 1048576 (by omega) (by omega)
  by_cases c : r < 0
  · exact ⟨-1, by simp only [laws_szCover.f]; exact Ev.bind hr (by simp only [if_pos c]; exact Ev.now _), .inl (by omega)⟩
  · exact ⟨r, by simp only [laws_szCover.f]; exact Ev.bind hr (by simp only [if_neg c]; exact Ev.now _), .inr (c3 (by omega))⟩

/-- The numbers from a on. -/
def seqI (a : Int) : Nat → List Int
  | 0 => []
  | n + 1 => a :: seqI (a + 1) n
theorem seqI_length : ∀ n a, (seqI a n).length = n
  | 0, _ => rfl
  | n + 1, a => by simp [seqI, seqI_length n]
theorem seqI_snoc : ∀ n a, seqI a (n + 1) = seqI a n ++ [a + n]
  | 0, a => by simp [seqI]
  | n + 1, a => by
    rw [seqI, seqI_snoc n (a + 1), seqI]
    simp only [List.cons_append]
    congr 3; omega
theorem seqI_get : ∀ n a i (h : i < (seqI a n).length), (seqI a n)[i] = a + i
  | 0, _, _, h => by simp [seqI] at h
  | n + 1, a, 0, _ => by simp [seqI]
  | n + 1, a, i + 1, h => by
    simp only [seqI, List.getElem_cons_succ]
    rw [seqI_get n (a + 1) i]; omega
theorem markInts_loop (a : Int) (n : Nat) (h0 : 0 ≤ a) (h1 : a + n ≤ 4611686018427387904) : ∀ d i (y : List Int), i + d = n → y.length = d → Ev (fun k => laws_markInt64S.l0 k (seqI a i ++ y) (a + i) (i : Int)) (a + n, seqI a n) := by
  intro d
  induction d with
  | zero =>
    intro i y h hy
    have : y = [] := List.eq_nil_of_length_eq_zero hy
    subst this
    obtain rfl : i = n := by omega
    exact ev_const fun k => by simp only [laws_markInt64S.l0]; rw [if_neg (by simp [seqI_length])]; simp
  | succ d ih =>
    intro i y h hy
    obtain ⟨z, ys, rfl⟩ : ∃ z ys, y = z :: ys := by cases y with | nil => simp at hy | cons z ys => exact ⟨z, ys, rfl⟩
    refine Ev.step (f := fun k => laws_markInt64S.l0 k (seqI a (i + 1) ++ ys) (a + ((i + 1 : Nat) : Int)) ((i + 1 : Nat) : Int)) (fun k => ?_) (ih (i + 1) ys (by omega) (by simpa using hy))
    simp only [laws_markInt64S.l0]
    rw [if_pos (by simp [seqI_length]; omega), if_pos (by omega)]
    have e1 : wrap64 (a + (i : Int) + 1) = a + ((i + 1 : Nat) : Int) := by unfold wrap64; omega
    have e2 : wrap64 ((i : Int) + 1) = ((i + 1 : Nat) : Int) := by unfold wrap64; omega
    rw [e1, e2, Int.toNat_natCast, seqI_snoc]
    congr 1
    rw [List.set_append_right _ _ (by rw [seqI_length]; exact Nat.le_refl i), seqI_length]; simp
theorem markInts (a : Int) (y : List Int) (h0 : 0 ≤ a) (h1 : a + y.length ≤ 4611686018427387904) : Ev (fun k => laws_markInt64S.f k y a) (a + y.length, seqI a y.length) := by
  have := markInts_loop a y.length h0 h1 y.length 0 y (by omega) rfl
  simpa [laws_markInt64S.f, seqI] using this
theorem heldInts_loop (a : Int) (n : Nat) (h0 : 0 ≤ a) (h1 : a + n ≤ 4611686018427387904) : ∀ d i, i + d = n → Ev (fun k => laws_heldInt64S.l0 k (seqI a n) (a + i) (i : Int)) (a + n) := by
  intro d
  induction d with
  | zero =>
    intro i h
    obtain rfl : i = n := by omega
    exact ev_const fun k => by simp only [laws_heldInt64S.l0]; rw [if_neg (by simp [seqI_length])]
  | succ d ih =>
    intro i h
    have hi : i < (seqI a n).length := by rw [seqI_length]; omega
    refine Ev.step (f := fun k => laws_heldInt64S.l0 k (seqI a n) (a + ((i + 1 : Nat) : Int)) ((i + 1 : Nat) : Int)) (fun k => ?_) (ih (i + 1) (by omega))
    simp only [laws_heldInt64S.l0]
    rw [if_pos (by omega), if_pos (by omega), rd_nat _ hi, seqI_get, if_pos rfl]
    have e1 : wrap64 (a + (i : Int) + 1) = a + ((i + 1 : Nat) : Int) := by unfold wrap64; omega
    have e2 : wrap64 ((i : Int) + 1) = ((i + 1 : Nat) : Int) := by unfold wrap64; omega
    rw [e1, e2]
theorem heldInts (a : Int) (n : Nat) (h0 : 0 ≤ a) (h1 : a + n ≤ 4611686018427387904) : Ev (fun k => laws_heldInt64S.f k (seqI a n) a) (a + n) := by
  have := heldInts_loop a n h0 h1 n 0 (by omega)
  simpa [laws_heldInt64S.f] using this

theorem markRows : ∀ (l : List (List Int)) (a : Int), 0 ≤ a → (∀ x ∈ l, (x.length : Int) ≤ 1048576) → a + l.length * 1048576 ≤ 4611686018427387904 →
    ∃ r z, Ev (fun k => laws_markInt64SS.f k l a) (r, z) ∧ a ≤ r ∧ r ≤ a + l.length * 1048576
  | [], a, _, _, _ => ⟨a, [], Ev.now _, by omega, by simp⟩
  | x :: xs, a, h0, hx, h1 => by
    have hxl := hx x List.mem_cons_self
    simp only [List.length_cons] at h1
    have h1' : a + x.length + xs.length * 1048576 ≤ 4611686018427387904 := by push_cast at h1; omega
    obtain ⟨r, z, hr, c1, c2⟩ := markRows xs (a + x.length) (by omega) (fun y hy => hx y (List.mem_cons_of_mem _ hy)) h1'
    refine ⟨r, seqI a x.length :: z, Ev.bind (markInts a x h0 (by omega)) (Ev.bind hr (Ev.now _)), by omega, ?_⟩
    simp only [List.length_cons]; push_cast; omega
theorem markCover_ev (a b : Int) (l : List (List Int)) (hl : (l.length : Int) ≤ 1048576) (hx : ∀ x ∈ l, (x.length : Int) ≤ 1048576) :
    ∃ r z, Ev (fun k => laws_markCover.f k a b l 1) (r, z) ∧ 1 ≤ r ∧ r ≤ 1099511627777 := by
  obtain ⟨r, z, h, c1, c2⟩ := markRows l 1 (by omega) hx (by omega)
  exact ⟨r, z, h, c1, by omega⟩


theorem pure : laws_FnExactUncoveredBy.Pure := by
  intro a b l s _ _ hw hws
  have hl := longL_of hw
  obtain ⟨r, hr, hc⟩ := szCover_ev a b l hl
  refine Ev.rounds (r := true) ?_
  simp only [laws_FnExactUncoveredBy.f]
  by_cases c0 : (s.length : Int) > 1048576
  · simp only [if_pos c0]; exact Ev.now _
  simp only [if_neg c0]
  refine Ev.bind hr ?_
  by_cases c : r < 0
  · simp only [if_pos c]; exact Ev.now _
  simp only [if_neg c]
  have hs := hc.resolve_left c
  have hT := toCover_ev a b l (by omega) (fun x hx => by have := hs.2 x hx; omega)
  have hT2 := toInts s (by omega)
  have hlen := underB_len (a := a) (b := b) s hl
  have hS := spec_UncoveredBy_ev a b l s hl (by omega)
  have hI := impl_UncoveredBy_ev a b l s hl (by omega)
  have hE := eqInts (underB a b l s).1 (by omega)
  generalize underB a b l s = v at *
  refine Ev.bind hT (Ev.bind hT2 (Ev.bind hS (Ev.bind hT (Ev.bind hT2 (Ev.bind hI (Ev.bind hE ?_))))))
  simp only [if_true]
  refine Ev.bind hT (Ev.bind (eqCover_ev a b l hl) ?_)
  simp only [if_true]
  refine Ev.bind hT2 (Ev.bind (eqInts s (by omega)) ?_)
  simp only [if_true]
  obtain ⟨m, z, hM, m1, m2⟩ := markCover_ev a b l hs.1 hs.2
  refine Ev.bind hM (Ev.bind (markInts m s (by omega) (by omega)) ?_)
  simp only [if_neg (show ¬ (m + (s.length : Int) < 0) by omega)]
  refine Ev.bind hE ?_
  simp only [if_true]
  have hH := heldInts 1 v.1.length (by omega) (by omega)
  refine Ev.bind (markInts 1 v.1 (by omega) (by omega)) (Ev.bind hH ?_)
  simp only [if_neg (show ¬ (1 + (v.1.length : Int) < 0) by omega), if_true]
  refine Ev.bind hT (Ev.bind hT2 (Ev.bind hI (Ev.bind hE ?_)))
  simp only [if_true]
  refine Ev.bind hH ?_
  simp only [if_neg (show ¬ (1 + (v.1.length : Int) < 0) by omega), if_true]
  exact Ev.now true

end Go.Proofs.Ytbelgbbfmnccoaa.XFnExactUncoveredBy
namespace Go.Proofs.Ytbelgbbfmnccoaa
/-- The law FnExactUncoveredBy returns true at every exact cover instance and selection and leaves its arguments as they were. Conditions: none. -/
theorem fnExactUncoveredBy_holds : Rows.FnExactUncoveredBySaid := fnExactUncoveredBy.of_pure XFnExactUncoveredBy.pure
#print axioms fnExactUncoveredBy_holds
end Go.Proofs.Ytbelgbbfmnccoaa
