/- The law FnExactColourCounts returns true at every list of cells and colouring and leaves its arguments as they were. Conditions: none. -/
import Derived.Test.YtafghfkdkjiafaaXRFnExactColourCounts
namespace Go.Proofs.Ytafghfkdkjiafaa.XFnExactColourCounts
open Go.RowKit Go.Proofs.YtafghfkdkjiafaaW.PrintWords Go.Proofs.YtafghfkdkjiafaaW.PrintLast Go.Proofs.YtafghfkdkjiafaaW.PrintMore Go.Proofs.Ytafghfkdkjiafaa.U
set_option linter.unusedVariables false
set_option linter.unusedSimpArgs false

theorem wrap_succ {i n : Nat} (h : i < n) (hn : n ≤ 9223372036854775807) : wrap64 ((i : Int) + 1) = ((i + 1 : Nat) : Int) := by
  unfold wrap64; omega
theorem wrap_id {x : Int} (h0 : -9223372036854775808 ≤ x) (h1 : x ≤ 9223372036854775807) : wrap64 x = x := by
  unfold wrap64; omega
theorem rd_nat (l : List Int) {i : Nat} (h : i < l.length) : rd l (i : Int) = l[i] := by
  simp [rd, List.getD_eq_getElem?_getD, List.getElem?_eq_getElem h]
theorem ev_true {g : Nat → Option Bool} {r : Bool} (h : ∀ k, g (k + 1) = some r) : Ev g r := Ev.step (f := fun _ => some r) h (Ev.now r)
theorem ev_const {α : Type} {g : Nat → Option α} {r : α} (h : ∀ k, g (k + 1) = some r) : Ev g r := Ev.step (f := fun _ => some r) h (Ev.now r)
theorem ev_eq {α : Type} {g : Nat → Option α} {r r' : α} (h : Ev g r) (e : r = r') : Ev g r' := e ▸ h
theorem wf64 {x : Int} (h : (Lit.int .i64 x).wf = true) : -9223372036854775808 ≤ x ∧ x ≤ 9223372036854775807 := by
  simp only [Lit.wf, IntKind.min, IntKind.max, IntKind.signed, IntKind.bits, Bool.and_eq_true, decide_eq_true_eq] at h
  simpa using h

theorem rdc_nat (l : List S42) {i : Nat} (h : i < l.length) : rd_T42 l (i : Int) = l[i] := by
  simp [rd_T42, List.getD_eq_getElem?_getD, List.getElem?_eq_getElem h]
theorem rdl_nat (l : List S44) {i : Nat} (h : i < l.length) : rd_T44 l (i : Int) = l[i] := by
  simp [rd_T44, List.getD_eq_getElem?_getD, List.getElem?_eq_getElem h]
/-- The cells of an argument, as the program has them. -/
def cellsOf (l : List S44) : List S42 := l.map fun c => ⟨c.f0, c.f1⟩
theorem cellsOf_length (l : List S44) : (cellsOf l).length = l.length := by simp [cellsOf]

def colB (m a b : Int) (p : S42) : Int := Int.tmod (wrap64 (Int.tmod (wrap64 (wrap64 (a * p.f0) + wrap64 (b * p.f1))) m + m)) m
def bumpB (c : List Int) (t : Int) : List Int := c.set t.toNat (wrap64 (rd c t + 1))
def talB (m a b : Int) (c : List Int) (l : List S42) : List Int := l.foldl (fun c p => bumpB c (colB m a b p)) c
theorem colB_in (m a b : Int) (p : S42) (h0 : 2 ≤ m) (h1 : m ≤ 4) : 0 ≤ colB m a b p ∧ colB m a b p < m := by
  unfold colB
  generalize wrap64 (wrap64 (a * p.f0) + wrap64 (b * p.f1)) = z
  have b1 : -m < Int.tmod z m := by
    rcases Int.le_total 0 z with hz | hz
    · have := Int.tmod_nonneg m hz; omega
    · have h2 := Int.tmod_lt_of_pos (-z) (show 0 < m by omega)
      rw [Int.neg_tmod] at h2; omega
  have b2 : Int.tmod z m < m := Int.tmod_lt_of_pos z (by omega)
  rw [wrap_id (by omega) (by omega), Int.tmod_eq_emod_of_nonneg (by omega)]
  exact ⟨Int.emod_nonneg _ (by omega), Int.emod_lt_of_pos _ (by omega)⟩
theorem bumpB_len (c : List Int) (t : Int) : (bumpB c t).length = c.length := by simp [bumpB]
theorem talB_len (m a b : Int) : ∀ (l : List S42) (c : List Int), (talB m a b c l).length = c.length
  | [], _ => rfl
  | p :: l, c => by
    show (talB m a b (bumpB c (colB m a b p)) l).length = _
    rw [talB_len m a b l, bumpB_len]
theorem bumpB_take (c : List Int) (n : Nat) (t : Int) (h0 : 0 ≤ t) (h1 : t < n) : (bumpB c t).take n = bumpB (c.take n) t := by
  have e : rd (c.take n) t = rd c t := by
    simp only [rd, List.getD_eq_getElem?_getD]
    rw [List.getElem?_take, if_pos (by omega)]
  unfold bumpB
  rw [e, List.take_set]
theorem talB_take (m a b : Int) (h0 : 2 ≤ m) (h1 : m ≤ 4) : ∀ (l : List S42) (c : List Int), (talB m a b c l).take m.toNat = talB m a b (c.take m.toNat) l
  | [], _ => rfl
  | p :: l, c => by
    have hc := colB_in m a b p h0 h1
    show (talB m a b (bumpB c (colB m a b p)) l).take m.toNat = talB m a b (bumpB (c.take m.toNat) (colB m a b p)) l
    rw [talB_take m a b h0 h1 l, bumpB_take c _ _ hc.1 (by omega)]
def isColB (m a b : Int) : Bool := (decide (2 ≤ m) && decide (m ≤ 4)) && ((decide (0 ≤ a) && decide (a ≤ wrap64 (m - 1))) && (decide (0 ≤ b) && decide (b ≤ wrap64 (m - 1))))
def countsB (rg : Bool) (l : List S42) (m a b : Int) : List Int × Int := if rg then (if isColB m a b then (talB m a b (List.replicate m.toNat 0) l, 0) else ([], 2)) else ([], 1)
theorem countsB_len (rg : Bool) (l : List S42) (m a b : Int) : (countsB rg l m a b).1.length ≤ 4 := by
  unfold countsB
  split
  · split
    · rename_i h
      simp only [isColB, Bool.and_eq_true, decide_eq_true_eq] at h
      simp only [talB_len, List.length_replicate]; omega
    · simp
  · simp

theorem spec_in (a b c : Int) : spec_l01In.f a b c = some (decide (b ≤ a) && decide (a ≤ c)) := by
  unfold spec_l01In.f; by_cases h : b ≤ a
  · rw [if_pos h]; simp [h]
  · rw [if_neg h]; simp [h]

def coordB (c : S42) : Bool := (decide (-100 ≤ c.f0) && decide (c.f0 ≤ 100)) && (decide (-100 ≤ c.f1) && decide (c.f1 ≤ 100))
def lessC (a b : S42) : Bool := decide (a.f1 < b.f1) || (decide (a.f1 = b.f1) && decide (a.f0 < b.f0))
def nextB (p : Option S42) (c : S42) : Bool := match p with | none => true | some q => lessC q c
def shB : List S42 → Option S42 → Bool
  | [], _ => true
  | c :: cs, p => coordB c && (nextB p c && shB cs (some c))
def prevC (l : List S42) (i : Nat) : Option S42 := if i = 0 then none else l[i - 1]?
theorem prevC_succ (l : List S42) {i : Nat} (h : i < l.length) : prevC l (i + 1) = some l[i] := by simp [prevC, List.getElem?_eq_getElem h]
theorem prevC_pos (l : List S42) {i : Nat} (z : i ≠ 0) (h : i < l.length) : prevC l i = some l[i - 1] := by
  simp [prevC, z, List.getElem?_eq_getElem (show i - 1 < l.length by omega)]
def lenB (l : List S42) : Bool := decide (1 ≤ (l.length : Int)) && decide ((l.length : Int) ≤ 40)
def shapeB (l : List S42) : Bool := shB l none && lenB l
theorem shB_mem : ∀ (l : List S42) p, shB l p = true → ∀ c ∈ l, coordB c = true
  | [], _, _, c, hc => absurd hc List.not_mem_nil
  | x :: xs, p, h, c, hc => by
    simp only [shB, Bool.and_eq_true] at h
    rcases List.mem_cons.mp hc with rfl | hc
    · exact h.1
    · exact shB_mem xs _ h.2.2 c hc
theorem coordB_bd {c : S42} (h : coordB c = true) : -100 ≤ c.f0 ∧ c.f0 ≤ 100 ∧ -100 ≤ c.f1 ∧ c.f1 ≤ 100 := by
  simp only [coordB, Bool.and_eq_true, decide_eq_true_eq] at h; omega
theorem shapeB_parts {l : List S42} (h : shapeB l = true) : 1 ≤ l.length ∧ l.length ≤ 40 ∧ ∀ c ∈ l, -100 ≤ c.f0 ∧ c.f0 ≤ 100 ∧ -100 ≤ c.f1 ∧ c.f1 ≤ 100 := by
  simp only [shapeB, lenB, Bool.and_eq_true, decide_eq_true_eq] at h
  exact ⟨by omega, by omega, fun c hc => coordB_bd (shB_mem l none h.1 c hc)⟩

theorem spec_cell (c : S42) : spec_l02Cell.f c.f0 c.f1 = some (coordB c) := by
  simp only [spec_l02Cell.f, spec_in, Option.bind_some, coordB]
  split
  · rename_i h; rw [h]; simp
  · rename_i h; simp only [Bool.not_eq_true] at h; rw [h]; simp
theorem spec_less (a b : S42) : spec_l02Less.f a.f0 a.f1 b.f0 b.f1 = some (lessC a b) := by
  unfold spec_l02Less.f lessC
  split
  · rename_i h; simp [h]
  · rename_i h; split
    · rename_i h2; simp [h, h2]
    · rename_i h2; simp [h, h2]
theorem spec_shape_loop (l : List S42) (hl : l.length ≤ 9223372036854775807) : ∀ d i, i + d = l.length → Ev (fun k => spec_IsShape.l0 k l (i : Int)) (shB (l.drop i) (prevC l i) && lenB l) := by
  intro d
  induction d with
  | zero =>
    intro i h
    rw [List.drop_eq_nil_of_le (by omega)]
    exact ev_const fun k => by simp only [spec_IsShape.l0]; rw [if_neg (by omega), spec_in]; simp [shB, lenB]
  | succ d ih =>
    intro i h
    have hi : i < l.length := by omega
    rw [List.drop_eq_getElem_cons hi]
    simp only [shB]
    have step : ∀ k, spec_IsShape.l0 (k + 1) l (i : Int) = if (coordB l[i] && nextB (prevC l i) l[i]) = true then spec_IsShape.l0 k l ((i + 1 : Nat) : Int) else some false := fun k => by
      simp only [spec_IsShape.l0]
      rw [if_pos (by omega), if_pos (by omega), rdc_nat l hi, wrap_succ hi hl, spec_cell]
      simp only [Option.bind_some]
      cases hc : coordB l[i] with
      | false => simp
      | true =>
        simp only [if_true, Bool.true_and]
        by_cases z : i = 0
        · rw [if_neg (by omega), if_pos (by simp [prevC, z, nextB])]
        · have e : wrap64 ((i : Int) - 1) = ((i - 1 : Nat) : Int) := by unfold wrap64; omega
          rw [if_pos (by omega), e, if_pos (by omega), if_pos (by omega), rdc_nat l (by omega), spec_less, prevC_pos l z hi]
          simp only [Option.bind_some, nextB]
          rfl
    refine Ev.step step ?_
    cases q : (coordB l[i] && nextB (prevC l i) l[i]) with
    | true =>
      simp only [if_true]
      refine ev_eq (ih (i + 1) (by omega)) ?_
      rw [prevC_succ l hi]
      simp only [Bool.and_eq_true] at q
      rw [q.1, q.2]; simp
    | false =>
      simp only [Bool.false_eq_true, if_false]
      refine ev_eq (Ev.now _) ?_
      rw [← Bool.and_assoc, q]; simp
theorem spec_IsShape_ev (l : List S42) (hl : l.length ≤ 9223372036854775807) : Ev (fun k => spec_IsShape.f k l) (shapeB l) := by
  have := spec_shape_loop l hl l.length 0 (by omega)
  simpa [spec_IsShape.f, prevC, shapeB] using this

theorem spec_isCol (m a b : Int) : spec_IsColouring.f m a b = some (isColB m a b) := by
  unfold spec_IsColouring.f isColB
  simp only [spec_in, Option.bind_some]
  cases (decide (2 ≤ m) && decide (m ≤ 4)) <;> cases (decide (0 ≤ a) && decide (a ≤ wrap64 (m - 1))) <;> simp
theorem spec_counts_loop (l : List S42) (m a b : Int) (h0 : 2 ≤ m) (h1 : m ≤ 4) (hl : l.length ≤ 9223372036854775807) : ∀ d i (c : List Int), i + d = l.length → c.length = m.toNat → Ev (fun k => spec_l18Counts.l0 k l c (i : Int) m a b) (talB m a b c (l.drop i)) := by
  intro d
  induction d with
  | zero =>
    intro i c h _
    rw [List.drop_eq_nil_of_le (by omega)]
    exact ev_const fun k => by simp only [spec_l18Counts.l0]; rw [if_neg (by omega)]; rfl
  | succ d ih =>
    intro i c h hc
    have hi : i < l.length := by omega
    have ht := colB_in m a b l[i] h0 h1
    rw [List.drop_eq_getElem_cons hi]
    refine Ev.step (f := fun k => spec_l18Counts.l0 k l (bumpB c (colB m a b l[i])) ((i + 1 : Nat) : Int) m a b) (fun k => ?_) (ih (i + 1) (bumpB c (colB m a b l[i])) (by omega) (by rw [bumpB_len, hc]))
    simp only [spec_l18Counts.l0]
    rw [if_pos (by omega), if_pos (by omega), rdc_nat l hi]
    have e : spec_l01Mod.f (wrap64 (wrap64 (a * l[i].f0) + wrap64 (b * l[i].f1))) m = some (colB m a b l[i]) := by
      unfold spec_l01Mod.f; rw [if_neg (by omega)]; rfl
    rw [e, Option.bind_some, if_pos ht.1, if_pos (by omega), wrap_succ hi hl]
    rfl
theorem spec_counts_ev (l : List S42) (m a b : Int) (hl : l.length ≤ 9223372036854775807) : Ev (fun k => spec_ColourCounts.f k l m a b) (countsB (shapeB l) l m a b) := by
  simp only [spec_ColourCounts.f]
  refine Ev.bind (spec_IsShape_ev _ hl) ?_
  unfold countsB
  cases shapeB l with
  | false => simpa using Ev.now _
  | true =>
    simp only [if_true, spec_isCol, Option.bind_some]
    cases c : isColB m a b with
    | false => simpa using Ev.now _
    | true =>
      simp only [isColB, Bool.and_eq_true, decide_eq_true_eq] at c
      simp only [if_true, spec_l18Counts.f]
      simp only [if_pos (show 0 ≤ m by omega), if_pos (show m.toNat ≤ 35184372088832 by omega)]
      exact Ev.bind (spec_counts_loop l m a b c.1.1 c.1.2 hl l.length 0 (List.replicate m.toNat 0) (by omega) (by simp)) (by simpa using Ev.now _)

theorem impl_in (a b c : Int) : impl_within.f a b c = some (decide (b ≤ a) && decide (a ≤ c)) := by
  unfold impl_within.f; by_cases h : b ≤ a
  · rw [if_pos h]; simp [h]
  · rw [if_neg h]; simp [h]

theorem impl_coord (n : Int) : impl_isCoordinate.f n = some (decide (-100 ≤ n) && decide (n ≤ 100)) := by simp [impl_isCoordinate.f, impl_in]
theorem impl_cmp (a b : Int) : cmp_Compare_int64.f a b = some (if a < b then -1 else if a > b then 1 else 0) := by
  simp only [cmp_Compare_int64.f, cmp_isNaN_int64.f, Option.bind_some, bne_self_eq_false, Bool.false_eq_true, if_false]
  split
  · rfl
  · split <;> rfl
def cmpC (a b : S42) : Int := if a.f1 < b.f1 then -1 else if a.f1 > b.f1 then 1 else if a.f0 < b.f0 then -1 else if a.f0 > b.f0 then 1 else 0
theorem impl_compare (a b : S42) : impl_compareCells.f a.f0 a.f1 b.f0 b.f1 = some (cmpC a b) := by
  simp only [impl_compareCells.f, impl_cmp, Option.bind_some, cmpC]
  by_cases h1 : a.f1 < b.f1
  · simp [h1]
  · by_cases h2 : a.f1 > b.f1
    · simp [h1, h2]
    · simp [h1, h2]
theorem cmpC_less (a b : S42) : decide (cmpC a b < 0) = lessC a b := by
  unfold cmpC lessC
  by_cases h1 : a.f1 < b.f1
  · simp [h1]
  · by_cases h2 : a.f1 > b.f1
    · simp only [h1, h2, if_false, if_true]; simp; omega
    · have e : a.f1 = b.f1 := by omega
      by_cases h3 : a.f0 < b.f0
      · simp [e, h3]
      · by_cases h4 : a.f0 > b.f0 <;> simp [e, h3, h4]
theorem impl_shape_loop (l : List S42) (hl : l.length ≤ 9223372036854775807) : ∀ d i, i + d = l.length → Ev (fun k => impl_IsShape.l0 k l l (l.length : Int) (i : Int)) (shB (l.drop i) (prevC l i) && lenB l) := by
  intro d
  induction d with
  | zero =>
    intro i h
    rw [List.drop_eq_nil_of_le (by omega)]
    exact ev_const fun k => by
      simp only [impl_IsShape.l0]; rw [if_neg (by omega)]
      by_cases c : (l.length : Int) ≥ 1
      · rw [if_pos c]; simp only [shB, lenB, Bool.true_and, decide_eq_true c]
      · rw [if_neg c]; simp only [shB, lenB, Bool.true_and, decide_eq_false c, Bool.false_and]
  | succ d ih =>
    intro i h
    have hi : i < l.length := by omega
    rw [List.drop_eq_getElem_cons hi]
    simp only [shB]
    have step : ∀ k, impl_IsShape.l0 (k + 1) l l (l.length : Int) (i : Int) = if (coordB l[i] && nextB (prevC l i) l[i]) = true then impl_IsShape.l0 k l l (l.length : Int) ((i + 1 : Nat) : Int) else some false := fun k => by
      simp only [impl_IsShape.l0]
      rw [if_pos (by omega), if_pos (by omega), if_pos (by omega), rdc_nat l hi, wrap_succ hi hl, impl_coord, impl_coord]
      simp only [Option.bind_some]
      cases h1 : (decide (-100 ≤ l[i].f0) && decide (l[i].f0 ≤ 100)) with
      | false => simp [coordB, h1]
      | true =>
        cases h2 : (decide (-100 ≤ l[i].f1) && decide (l[i].f1 ≤ 100)) with
        | false => simp [coordB, h1, h2]
        | true =>
          have hc : coordB l[i] = true := by unfold coordB; rw [h1, h2]; rfl
          simp only [if_true, hc, Bool.true_and]
          by_cases z : i = 0
          · rw [if_neg (by omega), if_pos (by simp [prevC, z, nextB])]
          · have e : wrap64 ((i : Int) - 1) = ((i - 1 : Nat) : Int) := by unfold wrap64; omega
            rw [if_pos (by omega), e, if_pos (by omega), if_pos (by omega), rdc_nat l (by omega), impl_compare, prevC_pos l z hi]
            simp only [Option.bind_some, nextB, ← cmpC_less]
            by_cases q : cmpC l[i - 1] l[i] ≥ 0
            · rw [if_pos q, if_neg (by simp; omega)]
            · rw [if_neg q, if_pos (by simp; omega)]
    refine Ev.step step ?_
    cases q : (coordB l[i] && nextB (prevC l i) l[i]) with
    | true =>
      simp only [if_true]
      refine ev_eq (ih (i + 1) (by omega)) ?_
      rw [prevC_succ l hi]
      simp only [Bool.and_eq_true] at q
      rw [q.1, q.2]; simp
    | false =>
      simp only [Bool.false_eq_true, if_false]
      refine ev_eq (Ev.now _) ?_
      rw [← Bool.and_assoc, q]; simp
theorem impl_IsShape_ev (l : List S42) (hl : l.length ≤ 9223372036854775807) : Ev (fun k => impl_IsShape.f k l) (shapeB l) := by
  have := impl_shape_loop l hl l.length 0 (by omega)
  simpa [impl_IsShape.f, prevC, shapeB] using this

theorem impl_isCol (m a b : Int) : impl_IsColouring.f m a b = some (isColB m a b) := by
  unfold impl_IsColouring.f isColB
  simp only [impl_in, Option.bind_some]
  cases (decide (2 ≤ m) && decide (m ≤ 4)) <;> cases (decide (0 ≤ a) && decide (a ≤ wrap64 (m - 1))) <;> simp
theorem impl_counts_loop (l : List S42) (m a b : Int) (h0 : 2 ≤ m) (h1 : m ≤ 4) (hl : l.length ≤ 9223372036854775807) : ∀ d i (c : List Int), i + d = l.length → c.length = 4 → Ev (fun k => impl_tally.l0 k c l (i : Int) a b m) (talB m a b c (l.drop i)) := by
  intro d
  induction d with
  | zero =>
    intro i c h _
    rw [List.drop_eq_nil_of_le (by omega)]
    exact ev_const fun k => by simp only [impl_tally.l0]; rw [if_neg (by omega)]; rfl
  | succ d ih =>
    intro i c h hc
    have hi : i < l.length := by omega
    have ht := colB_in m a b l[i] h0 h1
    rw [List.drop_eq_getElem_cons hi]
    refine Ev.step (f := fun k => impl_tally.l0 k (bumpB c (colB m a b l[i])) l ((i + 1 : Nat) : Int) a b m) (fun k => ?_) (ih (i + 1) (bumpB c (colB m a b l[i])) (by omega) (by rw [bumpB_len, hc]))
    simp only [impl_tally.l0]
    rw [if_pos (by omega), if_pos (by omega), rdc_nat l hi]
    have e : impl_Colouring_of.f m a b l[i].f0 l[i].f1 = some (colB m a b l[i]) := by
      unfold impl_Colouring_of.f impl_modOf.f; rw [if_neg (by omega)]; rfl
    rw [e, Option.bind_some, if_pos ht.1, if_pos (by omega), wrap_succ hi hl]
    rfl
theorem impl_counts_ev (l : List S42) (m a b : Int) (hl : l.length ≤ 9223372036854775807) : Ev (fun k => impl_ColourCounts.f k l m a b) (countsB (shapeB l) l m a b) := by
  simp only [impl_ColourCounts.f]
  refine Ev.bind (impl_IsShape_ev _ hl) ?_
  unfold countsB
  cases shapeB l with
  | false => simpa using Ev.now _
  | true =>
    simp only [if_true, impl_isCol, Option.bind_some]
    cases c : isColB m a b with
    | false => simpa using Ev.now _
    | true =>
      simp only [isColB, Bool.and_eq_true, decide_eq_true_eq] at c
      have hm : m = 2 ∨ m = 3 ∨ m = 4 := by omega
      simp only [if_true, if_pos hm]
      refine Ev.bind (impl_counts_loop l m a b c.1.1 c.1.2 hl l.length 0 [0, 0, 0, 0] (by omega) rfl) ?_
      have e : ([0, 0, 0, 0] : List Int).take m.toNat = List.replicate m.toNat 0 := by rcases hm with rfl | rfl | rfl <;> rfl
      rw [List.drop_zero, talB_take m a b c.1.1 c.1.2, e]
      exact Ev.now _

theorem toCells_loop (l : List S44) (hl : l.length ≤ 9223372036854775807) : ∀ d i (y : List S42), i + d = l.length → y.length = l.length → y.take i = (cellsOf l).take i → Ev (fun k => laws_toCellS.l0 k l y (i : Int)) (cellsOf l) := by
  intro d
  induction d with
  | zero =>
    intro i y h hy ht
    have e : y = cellsOf l := by
      rw [List.take_of_length_le (by omega), List.take_of_length_le (by rw [cellsOf_length]; omega)] at ht; exact ht
    subst e
    exact ev_const fun k => by simp only [laws_toCellS.l0]; rw [if_neg (by omega)]
  | succ d ih =>
    intro i y h hy ht
    have hi : i < l.length := by omega
    have hi2 : i < (cellsOf l).length := by rw [cellsOf_length]; exact hi
    have e : (cellsOf l)[i] = ⟨l[i].f0, l[i].f1⟩ := by simp [cellsOf]
    refine Ev.step (f := fun k => laws_toCellS.l0 k l (y.set i (cellsOf l)[i]) ((i + 1 : Nat) : Int)) (fun k => ?_) (ih (i + 1) (y.set i (cellsOf l)[i]) (by omega) (by simp [hy]) ?_)
    · simp only [laws_toCellS.l0]
      rw [if_pos (by omega), if_pos (by omega), rdl_nat l hi, wrap_succ hi hl, e]
      simp only [laws_toCell.f, Option.bind_some, if_pos (show (i : Int) < (y.length : Int) by omega), Int.toNat_natCast]
    · rw [List.take_succ_eq_append_getElem (by simp; omega), List.take_succ_eq_append_getElem hi2, List.take_set_of_le (Nat.le_refl i), ht]; simp
theorem toCells (l : List S44) (hl : l.length ≤ 17592186044416) : Ev (fun k => laws_toCellS.f k l) (cellsOf l) := by
  have := toCells_loop l (by omega) l.length 0 (List.replicate l.length z42) (by omega) (by simp) (by simp)
  simp only [laws_toCellS.f, Int.toNat_natCast, if_pos hl, if_pos (Int.natCast_nonneg l.length)]
  exact this

theorem eqCells_loop (l : List S42) (hl : l.length ≤ 9223372036854775807) : ∀ d i, i + d = l.length → Ev (fun k => laws_eqCellS.l0 k l l (i : Int)) true := by
  intro d
  induction d with
  | zero => intro i h; exact ev_const fun k => by simp only [laws_eqCellS.l0]; rw [if_neg (by omega)]
  | succ d ih =>
    intro i h
    have hi : i < l.length := by omega
    refine Ev.step (f := fun k => laws_eqCellS.l0 k l l ((i + 1 : Nat) : Int)) (fun k => ?_) (ih (i + 1) (by omega))
    simp only [laws_eqCellS.l0]
    rw [if_pos (by omega), if_pos (by omega), if_pos (by omega), wrap_succ hi hl]; simp [laws_eqCell.f]
theorem eqCells (l : List S42) (hl : l.length ≤ 9223372036854775807) : Ev (fun k => laws_eqCellS.f k l l) true := by
  have := eqCells_loop l hl l.length 0 (by omega)
  simpa [laws_eqCellS.f] using this

theorem szCells (l : List S44) (n : Int) (hl : l.length ≤ 9223372036854775807) (h0 : 0 ≤ n) (h1 : n ≤ 4611686018427387904) : ∃ r, laws_szCellS.f l n = some r ∧ -1 ≤ r ∧ r ≤ n ∧ (0 ≤ r → r = n - l.length) := by
  have e : wrap64 (n - (l.length : Int)) = n - l.length := by unfold wrap64; omega
  unfold laws_szCellS.f
  rw [e]
  by_cases c : n - (l.length : Int) < 0
  · rw [if_pos c]; exact ⟨_, rfl, by omega, by omega, by omega⟩
  · rw [if_neg c]; exact ⟨_, rfl, by omega, by omega, by omega⟩

theorem markCells_loop (n : Nat) (a : Int) (h0 : 0 ≤ a) (h1 : a + 2 * n ≤ 4611686018427387904) : ∀ d i (y : List S42), i + d = n → y.length = n → ∃ z, z.length = n ∧ Ev (fun k => laws_markCellS.l0 k y (a + 2 * (i : Int)) (i : Int)) (a + 2 * n, z) := by
  intro d
  induction d with
  | zero =>
    intro i y h hy
    obtain rfl : i = n := by omega
    exact ⟨y, hy, ev_const fun k => by simp only [laws_markCellS.l0]; rw [if_neg (by omega)]⟩
  | succ d ih =>
    intro i y h hy
    have e1 : wrap64 (wrap64 (a + 2 * (i : Int) + 1) + 1) = a + 2 * ((i + 1 : Nat) : Int) := by unfold wrap64; omega
    have e2 : wrap64 ((i : Int) + 1) = ((i + 1 : Nat) : Int) := by unfold wrap64; omega
    have step : ∀ k, laws_markCellS.l0 (k + 1) y (a + 2 * (i : Int)) (i : Int) = laws_markCellS.l0 k ((y.set i ⟨a + 2 * (i : Int), (rd_T42 y (i : Int)).f1⟩).set i ⟨(rd_T42 (y.set i ⟨a + 2 * (i : Int), (rd_T42 y (i : Int)).f1⟩) (i : Int)).f0, wrap64 (a + 2 * (i : Int) + 1)⟩) (a + 2 * ((i + 1 : Nat) : Int)) ((i + 1 : Nat) : Int) := fun k => by
      simp only [laws_markCellS.l0]
      rw [if_pos (by omega), if_pos (by omega)]
      simp only [Option.bind_some, e1, e2, Int.toNat_natCast]
    obtain ⟨z, hz, hE⟩ := ih (i + 1) _ (by omega) (show (((y.set i ⟨a + 2 * (i : Int), (rd_T42 y (i : Int)).f1⟩).set i ⟨(rd_T42 (y.set i ⟨a + 2 * (i : Int), (rd_T42 y (i : Int)).f1⟩) (i : Int)).f0, wrap64 (a + 2 * (i : Int) + 1)⟩).length = n) by simp [hy])
    exact ⟨z, hz, Ev.step step hE⟩
theorem markCells (l : List S42) (a : Int) (h0 : 0 ≤ a) (h1 : a + 2 * l.length ≤ 4611686018427387904) : ∃ z, z.length = l.length ∧ Ev (fun k => laws_markCellS.f k l a) (a + 2 * l.length, z) := by
  obtain ⟨z, hz, hE⟩ := markCells_loop l.length a h0 h1 l.length 0 l (by omega) rfl
  exact ⟨z, hz, by simpa [laws_markCellS.f] using hE⟩

/-- The numbers from a on. -/
def seqI (a : Int) : Nat → List Int
  | 0 => []
  | n + 1 => a :: seqI (a + 1) n
theorem seqI_length : ∀ n a, (seqI a n).length = n
  | 0, _ => rfl
  | n + 1, a => by simp [seqI, seqI_length n]
theorem seqI_snoc : ∀ n a, seqI a (n + 1) = seqI a n ++ [a + n]
  | 0, a => by simp [seqI]
  | n + 1, a => by
    rw [seqI, seqI_snoc n (a + 1), seqI]
    simp only [List.cons_append]
    congr 3; omega
theorem seqI_get : ∀ n a i (h : i < (seqI a n).length), (seqI a n)[i] = a + i
  | 0, _, _, h => by simp [seqI] at h
  | n + 1, a, 0, _ => by simp [seqI]
  | n + 1, a, i + 1, h => by
    simp only [seqI, List.getElem_cons_succ]
    rw [seqI_get n (a + 1) i]; omega
theorem markInts_loop (a : Int) (n : Nat) (h0 : 0 ≤ a) (h1 : a + n ≤ 4611686018427387904) : ∀ d i (y : List Int), i + d = n → y.length = d → Ev (fun k => laws_markInt64S.l0 k (seqI a i ++ y) (a + i) (i : Int)) (a + n, seqI a n) := by
  intro d
  induction d with
  | zero =>
    intro i y h hy
    have : y = [] := List.eq_nil_of_length_eq_zero hy
    subst this
    obtain rfl : i = n := by omega
    exact ev_const fun k => by simp only [laws_markInt64S.l0]; rw [if_neg (by simp [seqI_length])]; simp
  | succ d ih =>
    intro i y h hy
    obtain ⟨z, ys, rfl⟩ : ∃ z ys, y = z :: ys := by cases y with | nil => simp at hy | cons z ys => exact ⟨z, ys, rfl⟩
    refine Ev.step (f := fun k => laws_markInt64S.l0 k (seqI a (i + 1) ++ ys) (a + ((i + 1 : Nat) : Int)) ((i + 1 : Nat) : Int)) (fun k => ?_) (ih (i + 1) ys (by omega) (by simpa using hy))
    simp only [laws_markInt64S.l0]
    rw [if_pos (by simp [seqI_length]; omega), if_pos (by omega)]
    have e1 : wrap64 (a + (i : Int) + 1) = a + ((i + 1 : Nat) : Int) := by unfold wrap64; omega
    have e2 : wrap64 ((i : Int) + 1) = ((i + 1 : Nat) : Int) := by unfold wrap64; omega
    rw [e1, e2, Int.toNat_natCast, seqI_snoc]
    congr 1
    rw [List.set_append_right _ _ (by rw [seqI_length]; exact Nat.le_refl i), seqI_length]; simp
theorem markInts (a : Int) (y : List Int) (h0 : 0 ≤ a) (h1 : a + y.length ≤ 4611686018427387904) : Ev (fun k => laws_markInt64S.f k y a) (a + y.length, seqI a y.length) := by
  have := markInts_loop a y.length h0 h1 y.length 0 y (by omega) rfl
  simpa [laws_markInt64S.f, seqI] using this
theorem heldInts_loop (a : Int) (n : Nat) (h0 : 0 ≤ a) (h1 : a + n ≤ 4611686018427387904) : ∀ d i, i + d = n → Ev (fun k => laws_heldInt64S.l0 k (seqI a n) (a + i) (i : Int)) (a + n) := by
  intro d
  induction d with
  | zero =>
    intro i h
    obtain rfl : i = n := by omega
    exact ev_const fun k => by simp only [laws_heldInt64S.l0]; rw [if_neg (by simp [seqI_length])]
  | succ d ih =>
    intro i h
    have hi : i < (seqI a n).length := by rw [seqI_length]; omega
    refine Ev.step (f := fun k => laws_heldInt64S.l0 k (seqI a n) (a + ((i + 1 : Nat) : Int)) ((i + 1 : Nat) : Int)) (fun k => ?_) (ih (i + 1) (by omega))
    simp only [laws_heldInt64S.l0]
    rw [if_pos (by omega), if_pos (by omega), rd_nat _ hi, seqI_get, if_pos rfl]
    have e1 : wrap64 (a + (i : Int) + 1) = a + ((i + 1 : Nat) : Int) := by unfold wrap64; omega
    have e2 : wrap64 ((i : Int) + 1) = ((i + 1 : Nat) : Int) := by unfold wrap64; omega
    rw [e1, e2]
theorem heldInts (a : Int) (n : Nat) (h0 : 0 ≤ a) (h1 : a + n ≤ 4611686018427387904) : Ev (fun k => laws_heldInt64S.f k (seqI a n) a) (a + n) := by
  have := heldInts_loop a n h0 h1 n 0 (by omega)
  simpa [laws_heldInt64S.f] using this

theorem eqInts_loop (l : List Int) (hl : l.length ≤ 9223372036854775807) : ∀ d i, i + d = l.length → Ev (fun k => laws_eqInt64S.l0 k l l (i : Int)) true := by
  intro d
  induction d with
  | zero => intro i h; exact ev_const fun k => by simp only [laws_eqInt64S.l0]; rw [if_neg (by omega)]
  | succ d ih =>
    intro i h
    have hi : i < l.length := by omega
    refine Ev.step (f := fun k => laws_eqInt64S.l0 k l l ((i + 1 : Nat) : Int)) (fun k => ?_) (ih (i + 1) (by omega))
    simp only [laws_eqInt64S.l0]
    rw [if_pos (by omega), if_pos (by omega), if_pos (by omega), wrap_succ hi hl]; simp
theorem eqInts (l : List Int) (hl : l.length ≤ 9223372036854775807) : Ev (fun k => laws_eqInt64S.f k l l) true := by
  have := eqInts_loop l hl l.length 0 (by omega)
  simpa [laws_eqInt64S.f] using this


theorem pure : laws_FnExactColourCounts.Pure := by
  intro l m a b hl _ _ _
  have hl1 : l.length ≤ 9223372036854775807 := hl.1
  have hlc : (cellsOf l).length = l.length := cellsOf_length l
  obtain ⟨r, hr, c1, c2, c3⟩ := szCells l 1048576 hl1 (by omega) (by omega)
  refine Ev.rounds (r := true) ?_
  simp only [laws_FnExactColourCounts.f, hr, Option.bind_some, laws_toColouring.f]
  by_cases c : r < 0
  · simp only [if_pos c]; exact Ev.now _
  simp only [if_neg c]
  have e1 := c3 (by omega)
  have hT := toCells l (by omega)
  have hS := spec_counts_ev (cellsOf l) m a b (by omega)
  have hI := impl_counts_ev (cellsOf l) m a b (by omega)
  have hn := countsB_len (shapeB (cellsOf l)) (cellsOf l) m a b
  generalize countsB (shapeB (cellsOf l)) (cellsOf l) m a b = B at hS hI hn
  have hE := eqInts B.1 (by omega)
  refine Ev.bind hT (Ev.bind hS (Ev.bind hT (Ev.bind hI (Ev.bind hE ?_))))
  simp only [if_true]
  refine Ev.bind hT (Ev.bind (eqCells _ (by omega)) ?_)
  simp only [if_true]
  obtain ⟨z, hz, hM⟩ := markCells (cellsOf l) 1 (by omega) (by omega)
  refine Ev.bind hM ?_
  simp only [if_neg (show ¬ (1 + 2 * ((cellsOf l).length : Int) < 0) by omega)]
  refine Ev.bind hE ?_
  simp only [if_true]
  have hH := heldInts 1 B.1.length (by omega) (by omega)
  refine Ev.bind (markInts 1 B.1 (by omega) (by omega)) (Ev.bind hH ?_)
  simp only [if_neg (show ¬ (1 + (B.1.length : Int) < 0) by omega), if_true]
  refine Ev.bind hT (Ev.bind hI (Ev.bind hE ?_))
  simp only [if_true]
  refine Ev.bind hH ?_
  simp only [if_neg (show ¬ (1 + (B.1.length : Int) < 0) by omega), if_true]
  exact Ev.now true

end Go.Proofs.Ytafghfkdkjiafaa.XFnExactColourCounts
namespace Go.Proofs.Ytafghfkdkjiafaa
/-- The law FnExactColourCounts returns true at every list of cells and colouring and leaves its arguments as they were. Conditions: none. -/
theorem fnExactColourCounts_holds : Rows.FnExactColourCountsSaid := fnExactColourCounts.of_pure XFnExactColourCounts.pure
#print axioms fnExactColourCounts_holds
end Go.Proofs.Ytafghfkdkjiafaa
