/- The law FnExactWeightOfSet returns true at every region, weighting and set and leaves its arguments as they were. Conditions: none. -/
import Derived.Test.YtkmlgfihoaneeaaXRFnExactWeightOfSet
namespace Go.Proofs.Ytkmlgfihoaneeaa.XFnExactWeightOfSet
open Go.RowKit Go.Proofs.YtkmlgfihoaneeaaW.PrintWords Go.Proofs.YtkmlgfihoaneeaaW.PrintLast Go.Proofs.YtkmlgfihoaneeaaW.PrintMore Go.Proofs.Ytkmlgfihoaneeaa.U
set_option linter.unusedVariables false
set_option linter.unusedSimpArgs false

theorem wrap_succ {i n : Nat} (h : i < n) (hn : n ≤ 9223372036854775807) : wrap64 ((i : Int) + 1) = ((i + 1 : Nat) : Int) := by
  unfold wrap64; omega
theorem wrap_id {x : Int} (h0 : -9223372036854775808 ≤ x) (h1 : x ≤ 9223372036854775807) : wrap64 x = x := by
  unfold wrap64; omega
theorem rd_nat (l : List Int) {i : Nat} (h : i < l.length) : rd l (i : Int) = l[i] := by
  simp [rd, List.getD_eq_getElem?_getD, List.getElem?_eq_getElem h]
theorem ev_true {g : Nat → Option Bool} {r : Bool} (h : ∀ k, g (k + 1) = some r) : Ev g r := Ev.step (f := fun _ => some r) h (Ev.now r)
theorem ev_const {α : Type} {g : Nat → Option α} {r : α} (h : ∀ k, g (k + 1) = some r) : Ev g r := Ev.step (f := fun _ => some r) h (Ev.now r)
theorem ev_eq {α : Type} {g : Nat → Option α} {r r' : α} (h : Ev g r) (e : r = r') : Ev g r' := e ▸ h
theorem wf64 {x : Int} (h : (Lit.int .i64 x).wf = true) : -9223372036854775808 ≤ x ∧ x ≤ 9223372036854775807 := by
  simp only [Lit.wf, IntKind.min, IntKind.max, IntKind.signed, IntKind.bits, Bool.and_eq_true, decide_eq_true_eq] at h
  simpa using h

def weightB (n : Nat) (m : Int) (w : List Int) : Bool := (decide (2 ≤ m) && decide (m ≤ 6)) && (decide ((w.length : Int) = (n : Int)) && w.all (fun x => decide (0 ≤ x) && decide (x ≤ wrap64 (m - 1))))

/-- Rising, from a number on, each within 0 to m. -/
def risesB (m : Int) : List Int → Int → Bool
  | [], _ => true
  | x :: xs, p => decide (0 ≤ x) && decide (x ≤ m) && decide (p < x) && risesB m xs x
def prevOf (l : List Int) (i : Nat) : Int := if i = 0 then -1 else l.getD (i - 1) 0
theorem prevOf_succ (l : List Int) {i : Nat} (h : i < l.length) : prevOf l (i + 1) = l[i] := by
  simp [prevOf, List.getD_eq_getElem?_getD, List.getElem?_eq_getElem h]
theorem rises_next (m : Int) (l : List Int) {i : Nat} (h : i < l.length) : risesB m (l.drop i) (prevOf l i) = (decide (0 ≤ l[i]) && decide (l[i] ≤ m) && decide (prevOf l i < l[i]) && risesB m (l.drop (i + 1)) (prevOf l (i + 1))) := by
  rw [List.drop_eq_getElem_cons h, prevOf_succ l h]; rfl
theorem rises_end (m : Int) (l : List Int) {i : Nat} (h : l.length ≤ i) (p : Int) : risesB m (l.drop i) p = true := by
  rw [List.drop_eq_nil_of_le h]; rfl

def wsum (w : List Int) : List Int → Int
  | [] => 0
  | x :: xs => rd w x + wsum w xs
def okSet (m : Int) (w s : List Int) : Prop := (2 ≤ m ∧ m ≤ 6) ∧ (∀ x ∈ s, 0 ≤ x ∧ x < (w.length : Int)) ∧ ∀ x ∈ s, 0 ≤ rd w x ∧ rd w x ≤ 5
theorem wsum_bd {m : Int} {w : List Int} : ∀ (s : List Int), (∀ x ∈ s, 0 ≤ rd w x ∧ rd w x ≤ 5) → 0 ≤ wsum w s ∧ wsum w s ≤ 5 * s.length
  | [], _ => ⟨Int.le_refl 0, by simp [wsum]⟩
  | x :: xs, h => by
    have h1 := h x List.mem_cons_self
    have h2 := wsum_bd (m := m) xs (fun y hy => h y (List.mem_cons_of_mem _ hy))
    simp only [wsum, List.length_cons]; push_cast; omega
theorem okSet_of {n : Nat} {m : Int} {w s : List Int} (hw : weightB n m w = true) (hn : n ≤ 1000) (hs : risesB (wrap64 ((n : Int) - 1)) s (-1) = true) : okSet m w s := by
  simp only [weightB, Bool.and_eq_true, decide_eq_true_eq, List.all_eq_true] at hw
  obtain ⟨⟨h1, h2⟩, h3, h4⟩ := hw
  rw [wrap_id (by omega) (by omega)] at hs
  have hm : ∀ (l : List Int) (p : Int), risesB ((n : Int) - 1) l p = true → ∀ x ∈ l, 0 ≤ x ∧ x ≤ (n : Int) - 1 := by
    intro l
    induction l with
    | nil => intro p _ x hx; cases hx
    | cons y ys ih =>
      intro p h x hx
      simp only [risesB, Bool.and_eq_true, decide_eq_true_eq] at h
      rcases List.mem_cons.mp hx with rfl | hx
      · exact ⟨h.1.1.1, h.1.1.2⟩
      · exact ih y h.2 x hx
  refine ⟨⟨h1, h2⟩, fun x hx => by have := hm s _ hs x hx; omega, fun x hx => ?_⟩
  have hx := hm s _ hs x hx
  have hlt : x.toNat < w.length := by omega
  have e : rd w x = w[x.toNat] := by simp [rd, List.getD_eq_getElem?_getD, List.getElem?_eq_getElem hlt]
  have := h4 _ (List.getElem_mem hlt)
  rw [wrap_id (by omega) (by omega)] at this
  rw [e]; omega
def wofB (rg : Bool) (n : Nat) (m : Int) (w s : List Int) : Int × Int :=
  if rg then (if weightB n m w then (if risesB (wrap64 ((n : Int) - 1)) s (-1) then (wsum w s % m, 0) else (0, 2)) else (0, 2)) else (0, 1)

theorem spec_wof_loop (m : Int) (w s : List Int) (ok : okSet m w s) (hs : s.length ≤ 1048576) : ∀ d i (a : Int), i + d = s.length → 0 ≤ a → a ≤ 5 → Ev (fun k => spec_l19Weight.l0 k s a (i : Int) m w) (if i = s.length then a else (a + wsum w (s.drop i)) % m) := by
  intro d
  induction d with
  | zero =>
    intro i a h _ _
    rw [if_pos (by omega)]
    exact ev_const fun k => by simp only [spec_l19Weight.l0]; rw [if_neg (by omega)]
  | succ d ih =>
    intro i a h h0 h1
    have hi : i < s.length := by omega
    have hx := ok.2.1 _ (List.getElem_mem hi)
    have hv := ok.2.2 _ (List.getElem_mem hi)
    have hm := ok.1
    rw [if_neg (by omega), List.drop_eq_getElem_cons hi]
    simp only [wsum]
    have e : Int.tmod (wrap64 (a + rd w s[i])) m = (a + rd w s[i]) % m := by rw [wrap_id (by omega) (by omega), Int.tmod_eq_emod_of_nonneg (by omega)]
    have b1 : 0 ≤ (a + rd w s[i]) % m := Int.emod_nonneg _ (by omega)
    have b2 : (a + rd w s[i]) % m < m := Int.emod_lt_of_pos _ (by omega)
    refine Ev.step (f := fun k => spec_l19Weight.l0 k s ((a + rd w s[i]) % m) ((i + 1 : Nat) : Int) m w) (fun k => ?_) (ev_eq (ih (i + 1) _ (by omega) b1 (by omega)) ?_)
    · simp only [spec_l19Weight.l0]
      rw [if_pos (by omega), if_pos (by omega), rd_nat s hi, if_pos hx.1, if_pos hx.2, if_neg (show ¬ m = 0 by omega), e, wrap_succ hi (by omega)]
    · by_cases q : i + 1 = s.length
      · rw [if_pos q, List.drop_eq_nil_of_le (by omega)]; simp [wsum]
      · rw [if_neg q, Int.emod_add_emod]; congr 1; omega
theorem spec_wof (m : Int) (w s : List Int) (ok : okSet m w s) (hs : s.length ≤ 1048576) : Ev (fun k => spec_l19Weight.f k m w s) (wsum w s % m) := by
  have := spec_wof_loop m w s ok hs s.length 0 0 (by omega) (by omega) (by omega)
  simp only [spec_l19Weight.f]
  refine ev_eq (by simpa using this) ?_
  by_cases q : s = []
  · subst q; simp [wsum]
  · have : ¬ (0 = s.length) := by intro h; exact q (List.length_eq_zero_iff.mp h.symm)
    simp [this]

theorem rdc_nat (l : List S103) {i : Nat} (h : i < l.length) : rd_T103 l (i : Int) = l[i] := by
  simp [rd_T103, List.getD_eq_getElem?_getD, List.getElem?_eq_getElem h]
theorem rdl_nat (l : List S105) {i : Nat} (h : i < l.length) : rd_T105 l (i : Int) = l[i] := by
  simp [rd_T105, List.getD_eq_getElem?_getD, List.getElem?_eq_getElem h]
/-- The cells of an argument, as the program has them. -/
def cellsOf (l : List S105) : List S103 := l.map fun c => ⟨c.f0, c.f1⟩
theorem cellsOf_length (l : List S105) : (cellsOf l).length = l.length := by simp [cellsOf]

def coordB (c : S103) : Bool := (decide (-100 ≤ c.f0) && decide (c.f0 ≤ 100)) && (decide (-100 ≤ c.f1) && decide (c.f1 ≤ 100))
def lessC (a b : S103) : Bool := decide (a.f1 < b.f1) || (decide (a.f1 = b.f1) && decide (a.f0 < b.f0))
def nextB (p : Option S103) (c : S103) : Bool := match p with | none => true | some q => lessC q c
def shB : List S103 → Option S103 → Bool
  | [], _ => true
  | c :: cs, p => coordB c && (nextB p c && shB cs (some c))
def prevC (l : List S103) (i : Nat) : Option S103 := if i = 0 then none else l[i - 1]?
theorem prevC_succ (l : List S103) {i : Nat} (h : i < l.length) : prevC l (i + 1) = some l[i] := by simp [prevC, List.getElem?_eq_getElem h]
theorem prevC_pos (l : List S103) {i : Nat} (z : i ≠ 0) (h : i < l.length) : prevC l i = some l[i - 1] := by
  simp [prevC, z, List.getElem?_eq_getElem (show i - 1 < l.length by omega)]
def lenB (l : List S103) : Bool := decide (1 ≤ (l.length : Int)) && decide ((l.length : Int) ≤ 40)
def shapeB (l : List S103) : Bool := shB l none && lenB l
theorem shB_mem : ∀ (l : List S103) p, shB l p = true → ∀ c ∈ l, coordB c = true
  | [], _, _, c, hc => absurd hc List.not_mem_nil
  | x :: xs, p, h, c, hc => by
    simp only [shB, Bool.and_eq_true] at h
    rcases List.mem_cons.mp hc with rfl | hc
    · exact h.1
    · exact shB_mem xs _ h.2.2 c hc
theorem coordB_bd {c : S103} (h : coordB c = true) : -100 ≤ c.f0 ∧ c.f0 ≤ 100 ∧ -100 ≤ c.f1 ∧ c.f1 ≤ 100 := by
  simp only [coordB, Bool.and_eq_true, decide_eq_true_eq] at h; omega
theorem shapeB_parts {l : List S103} (h : shapeB l = true) : 1 ≤ l.length ∧ l.length ≤ 40 ∧ ∀ c ∈ l, -100 ≤ c.f0 ∧ c.f0 ≤ 100 ∧ -100 ≤ c.f1 ∧ c.f1 ≤ 100 := by
  simp only [shapeB, lenB, Bool.and_eq_true, decide_eq_true_eq] at h
  exact ⟨by omega, by omega, fun c hc => coordB_bd (shB_mem l none h.1 c hc)⟩

theorem mn_le (a b : Int) : mn a b ≤ a ∧ mn a b ≤ b ∧ (mn a b = a ∨ mn a b = b) := by unfold mn; split <;> omega
theorem mx_le (a b : Int) : a ≤ mx a b ∧ b ≤ mx a b ∧ (mx a b = a ∨ mx a b = b) := by unfold mx; split <;> omega
def foldMn (g : S103 → Int) (l : List S103) (a : Int) : Int := l.foldl (fun m c => mn m (g c)) a
def foldMx (g : S103 → Int) (l : List S103) (a : Int) : Int := l.foldl (fun m c => mx m (g c)) a
theorem foldMn_le (g : S103 → Int) : ∀ (l : List S103) a, foldMn g l a ≤ a
  | [], a => Int.le_refl a
  | c :: l, a => by have := foldMn_le g l (mn a (g c)); have h := mn_le a (g c); simp only [foldMn, List.foldl_cons] at this ⊢; omega
theorem foldMn_mem (g : S103 → Int) : ∀ (l : List S103) a c, c ∈ l → foldMn g l a ≤ g c
  | [], _, _, h => absurd h List.not_mem_nil
  | x :: l, a, c, h => by
    simp only [foldMn, List.foldl_cons]
    rcases List.mem_cons.mp h with rfl | h
    · have := foldMn_le g l (mn a (g c)); have h := mn_le a (g c); simp only [foldMn] at this; omega
    · exact foldMn_mem g l _ c h
theorem foldMn_ge (g : S103 → Int) (B : Int) : ∀ (l : List S103) a, B ≤ a → (∀ c ∈ l, B ≤ g c) → B ≤ foldMn g l a
  | [], a, h, _ => h
  | c :: l, a, h, hc => by
    show B ≤ foldMn g l (mn a (g c))
    exact foldMn_ge g B l (mn a (g c)) (by have := mn_le a (g c); have := hc c (List.mem_cons_self ..); omega) (fun x hx => hc x (List.mem_cons_of_mem _ hx))
theorem foldMx_iff (g : S103 → Int) (B : Int) : ∀ (l : List S103) a, foldMx g l a ≤ B ↔ a ≤ B ∧ ∀ c ∈ l, g c ≤ B
  | [], a => by simp [foldMx]
  | c :: l, a => by
    have := foldMx_iff g B l (mx a (g c)); have h := mx_le a (g c)
    simp only [foldMx, List.foldl_cons] at this ⊢
    rw [this]
    constructor
    · rintro ⟨h1, h2⟩; exact ⟨by omega, fun x hx => by rcases List.mem_cons.mp hx with rfl | hx; omega; exact h2 x hx⟩
    · rintro ⟨h1, h2⟩; exact ⟨by have := h2 c (List.mem_cons_self ..); omega, fun x hx => h2 x (List.mem_cons_of_mem _ hx)⟩
def hd0 (l : List S103) : S103 := rd_T103 l 0
theorem hd0_cons (c : S103) (l : List S103) : hd0 (c :: l) = c := by simp [hd0, rd_T103]
theorem hd0_mem {l : List S103} (h : 0 < l.length) : hd0 l ∈ l := by cases l with | nil => simp at h | cons c l => rw [hd0_cons]; exact List.mem_cons_self ..
def leastX (l : List S103) : Int := foldMn (·.f0) l (hd0 l).f0
def leastY (l : List S103) : Int := foldMn (·.f1) l (hd0 l).f1
theorem foldMn_tail (g : S103 → Int) (l : List S103) (h : 0 < l.length) : foldMn g (l.drop 1) (g (hd0 l)) = foldMn g l (g (hd0 l)) := by
  cases l with
  | nil => simp at h
  | cons c l => rw [hd0_cons]; simp only [foldMn, List.drop_succ_cons, List.drop_zero, List.foldl_cons]; rw [show mn (g c) (g c) = g c by unfold mn; split <;> rfl]

def regionB (l : List S103) : Bool := shapeB l && (decide (leastX l = 0) && decide (leastY l = 0) && (l.all (fun c => decide (c.f0 < 20)) && l.all (fun c => decide (c.f1 < 20))))
theorem regionB_parts {l : List S103} (h : regionB l = true) : 1 ≤ l.length ∧ l.length ≤ 40 ∧ ∀ c ∈ l, 0 ≤ c.f0 ∧ c.f0 < 20 ∧ 0 ≤ c.f1 ∧ c.f1 < 20 := by
  simp only [regionB, Bool.and_eq_true, decide_eq_true_eq, List.all_eq_true] at h
  obtain ⟨h1, ⟨h2, h3⟩, h4, h5⟩ := h
  obtain ⟨p1, p2, _⟩ := shapeB_parts h1
  refine ⟨p1, p2, fun c hc => ?_⟩
  have a : leastX l ≤ c.f0 := foldMn_mem (·.f0) l (hd0 l).f0 c hc
  have b : leastY l ≤ c.f1 := foldMn_mem (·.f1) l (hd0 l).f1 c hc
  exact ⟨by omega, h4 c hc, by omega, h5 c hc⟩

theorem spec_in (a b c : Int) : spec_l01In.f a b c = some (decide (b ≤ a) && decide (a ≤ c)) := by
  unfold spec_l01In.f; by_cases h : b ≤ a
  · rw [if_pos h]; simp [h]
  · rw [if_neg h]; simp [h]

theorem spec_cell (c : S103) : spec_l02Cell.f c.f0 c.f1 = some (coordB c) := by
  simp only [spec_l02Cell.f, spec_in, Option.bind_some, coordB]
  split
  · rename_i h; rw [h]; simp
  · rename_i h; simp only [Bool.not_eq_true] at h; rw [h]; simp
theorem spec_less (a b : S103) : spec_l02Less.f a.f0 a.f1 b.f0 b.f1 = some (lessC a b) := by
  unfold spec_l02Less.f lessC
  split
  · rename_i h; simp [h]
  · rename_i h; split
    · rename_i h2; simp [h, h2]
    · rename_i h2; simp [h, h2]
theorem spec_shape_loop (l : List S103) (hl : l.length ≤ 9223372036854775807) : ∀ d i, i + d = l.length → Ev (fun k => spec_IsShape.l0 k l (i : Int)) (shB (l.drop i) (prevC l i) && lenB l) := by
  intro d
  induction d with
  | zero =>
    intro i h
    rw [List.drop_eq_nil_of_le (by omega)]
    exact ev_const fun k => by simp only [spec_IsShape.l0]; rw [if_neg (by omega), spec_in]; simp [shB, lenB]
  | succ d ih =>
    intro i h
    have hi : i < l.length := by omega
    rw [List.drop_eq_getElem_cons hi]
    simp only [shB]
    have step : ∀ k, spec_IsShape.l0 (k + 1) l (i : Int) = if (coordB l[i] && nextB (prevC l i) l[i]) = true then spec_IsShape.l0 k l ((i + 1 : Nat) : Int) else some false := fun k => by
      simp only [spec_IsShape.l0]
      rw [if_pos (by omega), if_pos (by omega), rdc_nat l hi, wrap_succ hi hl, spec_cell]
      simp only [Option.bind_some]
      cases hc : coordB l[i] with
      | false => simp
      | true =>
        simp only [if_true, Bool.true_and]
        by_cases z : i = 0
        · rw [if_neg (by omega), if_pos (by simp [prevC, z, nextB])]
        · have e : wrap64 ((i : Int) - 1) = ((i - 1 : Nat) : Int) := by unfold wrap64; omega
          rw [if_pos (by omega), e, if_pos (by omega), if_pos (by omega), rdc_nat l (by omega), spec_less, prevC_pos l z hi]
          simp only [Option.bind_some, nextB]
          rfl
    refine Ev.step step ?_
    cases q : (coordB l[i] && nextB (prevC l i) l[i]) with
    | true =>
      simp only [if_true]
      refine ev_eq (ih (i + 1) (by omega)) ?_
      rw [prevC_succ l hi]
      simp only [Bool.and_eq_true] at q
      rw [q.1, q.2]; simp
    | false =>
      simp only [Bool.false_eq_true, if_false]
      refine ev_eq (Ev.now _) ?_
      rw [← Bool.and_assoc, q]; simp
theorem spec_IsShape_ev (l : List S103) (hl : l.length ≤ 9223372036854775807) : Ev (fun k => spec_IsShape.f k l) (shapeB l) := by
  have := spec_shape_loop l hl l.length 0 (by omega)
  simpa [spec_IsShape.f, prevC, shapeB] using this

theorem spec_least_loop (l : List S103) (hl : l.length ≤ 9223372036854775807) : ∀ d i (x y : Int), i + d = l.length → Ev (fun k => spec_l02Least.l0 k l x y (i : Int)) (foldMn (·.f0) (l.drop i) x, foldMn (·.f1) (l.drop i) y) := by
  intro d
  induction d with
  | zero =>
    intro i x y h
    rw [List.drop_eq_nil_of_le (by omega)]
    exact ev_const fun k => by simp only [spec_l02Least.l0]; rw [if_neg (by omega)]; rfl
  | succ d ih =>
    intro i x y h
    have hi : i < l.length := by omega
    rw [List.drop_eq_getElem_cons hi]
    refine Ev.step (f := fun k => spec_l02Least.l0 k l (mn x l[i].f0) (mn y l[i].f1) ((i + 1 : Nat) : Int)) (fun k => ?_) (ih (i + 1) _ _ (by omega))
    simp only [spec_l02Least.l0]
    rw [if_pos (by omega), if_pos (by omega), rdc_nat l hi, wrap_succ hi hl]
theorem spec_least (l : List S103) (hl : l.length ≤ 9223372036854775807) (h0 : 0 < l.length) : Ev (fun k => spec_l02Least.f k l) (leastX l, leastY l) := by
  have := spec_least_loop l hl (l.length - 1) 1 (hd0 l).f0 (hd0 l).f1 (by omega)
  rw [foldMn_tail (·.f0) l h0, foldMn_tail (·.f1) l h0] at this
  simp only [spec_l02Least.f, if_pos (show 0 < (l.length : Int) by omega)]
  exact this

theorem spec_size_loop (l : List S103) (a b : Int) (hl : l.length ≤ 9223372036854775807) : ∀ d i (x y : Int), i + d = l.length → Ev (fun k => spec_l04Size.l0 k l a b x y (i : Int)) (foldMx (fun c => wrap64 (wrap64 (c.f0 - a) + 1)) (l.drop i) x, foldMx (fun c => wrap64 (wrap64 (c.f1 - b) + 1)) (l.drop i) y) := by
  intro d
  induction d with
  | zero =>
    intro i x y h
    rw [List.drop_eq_nil_of_le (by omega)]
    exact ev_const fun k => by simp only [spec_l04Size.l0]; rw [if_neg (by omega)]; rfl
  | succ d ih =>
    intro i x y h
    have hi : i < l.length := by omega
    rw [List.drop_eq_getElem_cons hi]
    refine Ev.step (f := fun k => spec_l04Size.l0 k l a b (mx x (wrap64 (wrap64 (l[i].f0 - a) + 1))) (mx y (wrap64 (wrap64 (l[i].f1 - b) + 1))) ((i + 1 : Nat) : Int)) (fun k => ?_) (ih (i + 1) _ _ (by omega))
    simp only [spec_l04Size.l0]
    rw [if_pos (by omega), if_pos (by omega), rdc_nat l hi, wrap_succ hi hl]
def sizeX (l : List S103) : Int := foldMx (fun c => wrap64 (wrap64 (c.f0 - leastX l) + 1)) l 0
def sizeY (l : List S103) : Int := foldMx (fun c => wrap64 (wrap64 (c.f1 - leastY l) + 1)) l 0
theorem spec_size (l : List S103) (hl : l.length ≤ 9223372036854775807) (h0 : 0 < l.length) : Ev (fun k => spec_l04Size.f k l) (sizeX l, sizeY l) := by
  simp only [spec_l04Size.f]
  refine Ev.bind (spec_least l hl h0) ?_
  have := spec_size_loop l (leastX l) (leastY l) hl l.length 0 0 0 (by omega)
  rw [List.drop_zero] at this
  exact this

theorem size_iff (g : S103 → Int) (l : List S103) (hb : ∀ c ∈ l, -100 ≤ g c ∧ g c ≤ 100) : decide (foldMx (fun c => wrap64 (wrap64 (g c - 0) + 1)) l 0 ≤ 20) = l.all (fun c => decide (g c < 20)) := by
  rw [Bool.eq_iff_iff, decide_eq_true_eq, foldMx_iff, List.all_eq_true]
  constructor
  · rintro ⟨_, h⟩ c hc
    have h3 := h c hc; have h4 := hb c hc
    unfold wrap64 at h3
    simp only [decide_eq_true_eq]; omega
  · intro h
    refine ⟨by omega, fun c hc => ?_⟩
    have h3 := h c hc; have h4 := hb c hc
    simp only [decide_eq_true_eq] at h3
    unfold wrap64; omega
theorem spec_IsRegion_ev (l : List S103) (hl : l.length ≤ 9223372036854775807) : Ev (fun k => spec_IsRegion.f k l) (regionB l) := by
  simp only [spec_IsRegion.f]
  refine Ev.bind (spec_IsShape_ev l hl) ?_
  unfold regionB
  cases hs : shapeB l with
  | false => simpa using Ev.now false
  | true =>
    obtain ⟨p1, p2, p3⟩ := shapeB_parts hs
    simp only [if_true, Bool.true_and]
    refine Ev.bind (spec_size l hl p1) (Ev.bind (spec_least l hl p1) ?_)
    by_cases c1 : leastX l = 0
    · by_cases c2 : leastY l = 0
      · simp only [if_pos c1, if_pos c2]
        have e1 := size_iff (·.f0) l (fun c hc => by have := p3 c hc; omega)
        have e2 := size_iff (·.f1) l (fun c hc => by have := p3 c hc; omega)
        have s1 : sizeX l = foldMx (fun c => wrap64 (wrap64 (c.f0 - 0) + 1)) l 0 := by unfold sizeX; rw [c1]
        have s2 : sizeY l = foldMx (fun c => wrap64 (wrap64 (c.f1 - 0) + 1)) l 0 := by unfold sizeY; rw [c2]
        rw [s1, s2, ← e1, ← e2]
        by_cases c3 : foldMx (fun c => wrap64 (wrap64 (c.f0 - 0) + 1)) l 0 ≤ 20
        · simp only [if_pos c3]; refine ev_eq (Ev.now _) ?_; rw [decide_eq_true c1, decide_eq_true c2, decide_eq_true c3]; simp only [Bool.true_and]
        · simp only [if_neg c3]; refine ev_eq (Ev.now _) ?_; rw [decide_eq_false c3]; simp only [Bool.false_and, Bool.and_false]
      · simp only [if_pos c1, if_neg c2]; refine ev_eq (Ev.now _) ?_; simp [c1, c2]
    · simp only [if_neg c1]; refine ev_eq (Ev.now _) ?_; simp [c1]

theorem spec_weights_loop (m : Int) (w : List Int) (hw : w.length ≤ 9223372036854775807) : ∀ d i, i + d = w.length → Ev (fun k => spec_l19Is.l0 k (i : Int) m w) ((w.drop i).all (fun x => decide (0 ≤ x) && decide (x ≤ wrap64 (m - 1)))) := by
  intro d
  induction d with
  | zero =>
    intro i h
    rw [List.drop_eq_nil_of_le (by omega)]
    exact ev_const fun k => by simp only [spec_l19Is.l0]; rw [if_neg (by omega)]; rfl
  | succ d ih =>
    intro i h
    have hi : i < w.length := by omega
    rw [List.drop_eq_getElem_cons hi, List.all_cons]
    have step : ∀ k, spec_l19Is.l0 (k + 1) (i : Int) m w = if (decide (0 ≤ w[i]) && decide (w[i] ≤ wrap64 (m - 1))) = true then spec_l19Is.l0 k ((i + 1 : Nat) : Int) m w else some false := fun k => by
      simp only [spec_l19Is.l0]
      rw [if_pos (by omega), if_pos (by omega), rd_nat w hi, wrap_succ hi hw, spec_in]; rfl
    refine Ev.step step ?_
    cases q : (decide (0 ≤ w[i]) && decide (w[i] ≤ wrap64 (m - 1))) with
    | true => simp only [if_true]; exact ev_eq (ih (i + 1) (by omega)) (by simp)
    | false => simp only [Bool.false_eq_true, if_false]; exact ev_eq (Ev.now _) (by simp)
theorem spec_weights (l : List S103) (m : Int) (w : List Int) (hw : w.length ≤ 9223372036854775807) : Ev (fun k => spec_l19Is.f k l m w) (weightB l.length m w) := by
  have hj : ∀ x, Ev (fun k => spec_l19Is.j0 k x m w) (!x && w.all (fun x => decide (0 ≤ x) && decide (x ≤ wrap64 (m - 1)))) := fun x => by
    refine Ev.step (f := fun k => if x = true then some false else spec_l19Is.l0 k 0 m w) (fun k => by simp only [spec_l19Is.j0]) ?_
    cases x with
    | true => simpa using Ev.now false
    | false => simpa using spec_weights_loop m w hw w.length 0 (by omega)
  simp only [spec_l19Is.f, spec_in, Option.bind_some, weightB]
  cases (decide (2 ≤ m) && decide (m ≤ 6)) with
  | false => simpa using hj true
  | true =>
    simp only [if_true, Bool.true_and]
    refine ev_eq (hj _) ?_
    by_cases c : (w.length : Int) = (l.length : Int)
    · simp [c]
    · simp [c]

theorem spec_rises_loop (l : List Int) (n : Int) (hl : l.length ≤ 9223372036854775807) : ∀ d i, i + d = l.length →
    Ev (fun k => spec_l01Rises.l0 k l n (i : Int)) (risesB (wrap64 (n - 1)) (l.drop i) (prevOf l i)) := by
  intro d
  induction d with
  | zero =>
    intro i h
    rw [rises_end _ _ (by omega)]
    exact ev_const fun k => by simp only [spec_l01Rises.l0]; rw [if_neg (by omega)]
  | succ d ih =>
    intro i h
    have hi : i < l.length := by omega
    have step : ∀ k, spec_l01Rises.l0 (k + 1) l n (i : Int) = if (decide (0 ≤ l[i]) && decide (l[i] ≤ wrap64 (n - 1))) = true then (if decide (prevOf l i < l[i]) = true ∨ i = 0 then spec_l01Rises.l0 k l n ((i + 1 : Nat) : Int) else some false) else some false := fun k => by
      simp only [spec_l01Rises.l0]
      rw [if_pos (by omega), if_pos (by omega), rd_nat l hi, spec_in]
      simp only [Option.bind_some, wrap_succ hi hl]
      by_cases c : (decide (0 ≤ l[i]) && decide (l[i] ≤ wrap64 (n - 1))) = true
      · rw [if_pos c, if_pos c]
        by_cases z : i = 0
        · rw [if_neg (by omega), if_pos (.inr z)]
        · have e : wrap64 ((i : Int) - 1) = ((i - 1 : Nat) : Int) := by unfold wrap64; omega
          have p : prevOf l i = l[i - 1] := by simp [prevOf, z, List.getD_eq_getElem?_getD, List.getElem?_eq_getElem (show i - 1 < l.length by omega)]
          rw [if_pos (by omega), e, if_pos (by omega), if_pos (by omega), rd_nat l (by omega), p]
          by_cases q : l[i] ≤ l[i - 1]
          · rw [if_pos q, if_neg (by simp [z]; omega)]
          · rw [if_neg q, if_pos (.inl (by simp; omega))]
      · rw [if_neg c, if_neg c]
    rw [rises_next _ _ hi]
    refine Ev.step step ?_
    by_cases c : (decide (0 ≤ l[i]) && decide (l[i] ≤ wrap64 (n - 1))) = true
    · simp only [if_pos c]
      by_cases q : decide (prevOf l i < l[i]) = true ∨ i = 0
      · simp only [if_pos q]
        refine ev_eq (ih (i + 1) (by omega)) ?_
        have q' : decide (prevOf l i < l[i]) = true := q.elim id fun z => by
          subst z
          simp only [Bool.and_eq_true, decide_eq_true_eq] at c
          simp [prevOf]; omega
        rw [c, q']; simp
      · simp only [if_neg q]
        refine ev_eq (Ev.now _) ?_
        rw [show decide (prevOf l i < l[i]) = false by simp only [not_or] at q; simpa using q.1]; simp
    · simp only [if_neg c]
      refine ev_eq (Ev.now _) ?_
      simp only [Bool.not_eq_true] at c
      rw [c]; simp
theorem spec_rises (l : List Int) (n : Int) (hl : l.length ≤ 9223372036854775807) : Ev (fun k => spec_l01Rises.f k l n) (risesB (wrap64 (n - 1)) l (-1)) := by
  have := spec_rises_loop l n hl l.length 0 (by omega)
  simpa [spec_l01Rises.f, prevOf] using this

theorem spec_WeightOfSet_ev (l : List S103) (m : Int) (w s : List Int) (hl : l.length ≤ 9223372036854775807) (hw : w.length ≤ 9223372036854775807) (hs : s.length ≤ 1048576) : Ev (fun k => spec_WeightOfSet.f k l m w s) (wofB (regionB l) l.length m w s) := by
  simp only [spec_WeightOfSet.f]
  refine Ev.bind (spec_IsRegion_ev _ hl) ?_
  unfold wofB
  cases c1 : regionB l with
  | false => simpa using Ev.now _
  | true =>
    simp only [if_true]
    refine Ev.bind (spec_weights _ m w hw) ?_
    cases c2 : weightB l.length m w with
    | false => simpa using Ev.now _
    | true =>
      simp only [if_true]
      refine Ev.bind (spec_rises s (l.length : Int) (by omega)) ?_
      cases c3 : risesB (wrap64 ((l.length : Int) - 1)) s (-1) with
      | false => simpa using Ev.now _
      | true => simp only [if_true]; exact Ev.bind (spec_wof m w s (okSet_of c2 (by have := regionB_parts c1; omega) c3) hs) (Ev.now _)

theorem impl_wof_loop (m : Int) (w s : List Int) (ok : okSet m w s) (hs : s.length ≤ 1048576) : ∀ d i (a : Int), i + d = s.length → 0 ≤ a → a ≤ 5 * i → Ev (fun k => impl_Weighting_of.l0 k a s (s.length : Int) (i : Int) m w) ((a + wsum w (s.drop i)) % m) := by
  intro d
  have hm := ok.1
  induction d with
  | zero =>
    intro i a h h0 h1
    rw [List.drop_eq_nil_of_le (by omega)]
    exact ev_const fun k => by
      simp only [impl_Weighting_of.l0]
      rw [if_neg (by omega), if_neg (show ¬ m = 0 by omega), Int.tmod_eq_emod_of_nonneg (by omega)]; simp [wsum]
  | succ d ih =>
    intro i a h h0 h1
    have hi : i < s.length := by omega
    have hx := ok.2.1 _ (List.getElem_mem hi)
    have hv := ok.2.2 _ (List.getElem_mem hi)
    rw [List.drop_eq_getElem_cons hi]
    simp only [wsum]
    refine Ev.step (f := fun k => impl_Weighting_of.l0 k (a + rd w s[i]) s (s.length : Int) ((i + 1 : Nat) : Int) m w) (fun k => ?_) (ev_eq (ih (i + 1) (a + rd w s[i]) (by omega) (by omega) (by push_cast; omega)) (by rw [Int.add_assoc]))
    simp only [impl_Weighting_of.l0]
    rw [if_pos (by omega), if_pos (by omega), if_pos (by omega), rd_nat s hi, if_pos hx.1, if_pos hx.2, wrap_id (x := a + rd w s[i]) (by omega) (by omega), wrap_succ hi (by omega)]
theorem impl_wof (m : Int) (w s : List Int) (ok : okSet m w s) (hs : s.length ≤ 1048576) : Ev (fun k => impl_Weighting_of.f k m w s) (wsum w s % m) := by
  have := impl_wof_loop m w s ok hs s.length 0 0 (by omega) (by omega) (by omega)
  simp only [impl_Weighting_of.f]
  simpa using this

theorem impl_in (a b c : Int) : impl_within.f a b c = some (decide (b ≤ a) && decide (a ≤ c)) := by
  unfold impl_within.f; by_cases h : b ≤ a
  · rw [if_pos h]; simp [h]
  · rw [if_neg h]; simp [h]

theorem impl_coord (n : Int) : impl_isCoordinate.f n = some (decide (-100 ≤ n) && decide (n ≤ 100)) := by simp [impl_isCoordinate.f, impl_in]
theorem impl_cmp (a b : Int) : cmp_Compare_int64.f a b = some (if a < b then -1 else if a > b then 1 else 0) := by
  simp only [cmp_Compare_int64.f, cmp_isNaN_int64.f, Option.bind_some, bne_self_eq_false, Bool.false_eq_true, if_false]
  split
  · rfl
  · split <;> rfl
def cmpC (a b : S103) : Int := if a.f1 < b.f1 then -1 else if a.f1 > b.f1 then 1 else if a.f0 < b.f0 then -1 else if a.f0 > b.f0 then 1 else 0
theorem impl_compare (a b : S103) : impl_compareCells.f a.f0 a.f1 b.f0 b.f1 = some (cmpC a b) := by
  simp only [impl_compareCells.f, impl_cmp, Option.bind_some, cmpC]
  by_cases h1 : a.f1 < b.f1
  · simp [h1]
  · by_cases h2 : a.f1 > b.f1
    · simp [h1, h2]
    · simp [h1, h2]
theorem cmpC_less (a b : S103) : decide (cmpC a b < 0) = lessC a b := by
  unfold cmpC lessC
  by_cases h1 : a.f1 < b.f1
  · simp [h1]
  · by_cases h2 : a.f1 > b.f1
    · simp only [h1, h2, if_false, if_true]; simp; omega
    · have e : a.f1 = b.f1 := by omega
      by_cases h3 : a.f0 < b.f0
      · simp [e, h3]
      · by_cases h4 : a.f0 > b.f0 <;> simp [e, h3, h4]
theorem impl_shape_loop (l : List S103) (hl : l.length ≤ 9223372036854775807) : ∀ d i, i + d = l.length → Ev (fun k => impl_IsShape.l0 k l l (l.length : Int) (i : Int)) (shB (l.drop i) (prevC l i) && lenB l) := by
  intro d
  induction d with
  | zero =>
    intro i h
    rw [List.drop_eq_nil_of_le (by omega)]
    exact ev_const fun k => by
      simp only [impl_IsShape.l0]; rw [if_neg (by omega)]
      by_cases c : (l.length : Int) ≥ 1
      · rw [if_pos c]; simp only [shB, lenB, Bool.true_and, decide_eq_true c]
      · rw [if_neg c]; simp only [shB, lenB, Bool.true_and, decide_eq_false c, Bool.false_and]
  | succ d ih =>
    intro i h
    have hi : i < l.length := by omega
    rw [List.drop_eq_getElem_cons hi]
    simp only [shB]
    have step : ∀ k, impl_IsShape.l0 (k + 1) l l (l.length : Int) (i : Int) = if (coordB l[i] && nextB (prevC l i) l[i]) = true then impl_IsShape.l0 k l l (l.length : Int) ((i + 1 : Nat) : Int) else some false := fun k => by
      simp only [impl_IsShape.l0]
      rw [if_pos (by omega), if_pos (by omega), if_pos (by omega), rdc_nat l hi, wrap_succ hi hl, impl_coord, impl_coord]
      simp only [Option.bind_some]
      cases h1 : (decide (-100 ≤ l[i].f0) && decide (l[i].f0 ≤ 100)) with
      | false => simp [coordB, h1]
      | true =>
        cases h2 : (decide (-100 ≤ l[i].f1) && decide (l[i].f1 ≤ 100)) with
        | false => simp [coordB, h1, h2]
        | true =>
          have hc : coordB l[i] = true := by unfold coordB; rw [h1, h2]; rfl
          simp only [if_true, hc, Bool.true_and]
          by_cases z : i = 0
          · rw [if_neg (by omega), if_pos (by simp [prevC, z, nextB])]
          · have e : wrap64 ((i : Int) - 1) = ((i - 1 : Nat) : Int) := by unfold wrap64; omega
            rw [if_pos (by omega), e, if_pos (by omega), if_pos (by omega), rdc_nat l (by omega), impl_compare, prevC_pos l z hi]
            simp only [Option.bind_some, nextB, ← cmpC_less]
            by_cases q : cmpC l[i - 1] l[i] ≥ 0
            · rw [if_pos q, if_neg (by simp; omega)]
            · rw [if_neg q, if_pos (by simp; omega)]
    refine Ev.step step ?_
    cases q : (coordB l[i] && nextB (prevC l i) l[i]) with
    | true =>
      simp only [if_true]
      refine ev_eq (ih (i + 1) (by omega)) ?_
      rw [prevC_succ l hi]
      simp only [Bool.and_eq_true] at q
      rw [q.1, q.2]; simp
    | false =>
      simp only [Bool.false_eq_true, if_false]
      refine ev_eq (Ev.now _) ?_
      rw [← Bool.and_assoc, q]; simp
theorem impl_IsShape_ev (l : List S103) (hl : l.length ≤ 9223372036854775807) : Ev (fun k => impl_IsShape.f k l) (shapeB l) := by
  have := impl_shape_loop l hl l.length 0 (by omega)
  simpa [impl_IsShape.f, prevC, shapeB] using this

theorem impl_corner_loop (l : List S103) (hl : l.length ≤ 9223372036854775807) : ∀ d i (x y : Int), i + d = l.length → Ev (fun k => impl_corner.l0 k l (l.length : Int) (i : Int) x y) (foldMn (·.f0) (l.drop i) x, foldMn (·.f1) (l.drop i) y) := by
  intro d
  induction d with
  | zero =>
    intro i x y h
    rw [List.drop_eq_nil_of_le (by omega)]
    exact ev_const fun k => by simp only [impl_corner.l0]; rw [if_neg (by omega)]; rfl
  | succ d ih =>
    intro i x y h
    have hi : i < l.length := by omega
    rw [List.drop_eq_getElem_cons hi]
    refine Ev.step (f := fun k => impl_corner.l0 k l (l.length : Int) ((i + 1 : Nat) : Int) (mn x l[i].f0) (mn y l[i].f1)) (fun k => ?_) (ih (i + 1) _ _ (by omega))
    simp only [impl_corner.l0]
    rw [if_pos (by omega), if_pos (by omega), if_pos (by omega), rdc_nat l hi, wrap_succ hi hl]
theorem impl_corner_ev (l : List S103) (hl : l.length ≤ 9223372036854775807) (h0 : 0 < l.length) : Ev (fun k => impl_corner.f k l) (leastX l, leastY l) := by
  have := impl_corner_loop l hl l.length 0 (hd0 l).f0 (hd0 l).f1 (by omega)
  simp only [impl_corner.f, if_pos (show 0 < (l.length : Int) by omega)]
  rw [List.drop_zero] at this
  exact this

theorem impl_reach_loop (l : List S103) (hl : l.length ≤ 9223372036854775807) : ∀ d i (x y : Int), i + d = l.length → Ev (fun k => impl_reach.l0 k l (l.length : Int) (i : Int) x y) (foldMx (·.f0) (l.drop i) x, foldMx (·.f1) (l.drop i) y) := by
  intro d
  induction d with
  | zero =>
    intro i x y h
    rw [List.drop_eq_nil_of_le (by omega)]
    exact ev_const fun k => by simp only [impl_reach.l0]; rw [if_neg (by omega)]; rfl
  | succ d ih =>
    intro i x y h
    have hi : i < l.length := by omega
    rw [List.drop_eq_getElem_cons hi]
    refine Ev.step (f := fun k => impl_reach.l0 k l (l.length : Int) ((i + 1 : Nat) : Int) (mx x l[i].f0) (mx y l[i].f1)) (fun k => ?_) (ih (i + 1) _ _ (by omega))
    simp only [impl_reach.l0]
    rw [if_pos (by omega), if_pos (by omega), if_pos (by omega), rdc_nat l hi, wrap_succ hi hl]
theorem impl_reach_ev (l : List S103) (hl : l.length ≤ 9223372036854775807) (h0 : 0 < l.length) : Ev (fun k => impl_reach.f k l) (foldMx (·.f0) l (hd0 l).f0, foldMx (·.f1) l (hd0 l).f1) := by
  have := impl_reach_loop l hl l.length 0 (hd0 l).f0 (hd0 l).f1 (by omega)
  simp only [impl_reach.f, if_pos (show 0 < (l.length : Int) by omega)]
  rw [List.drop_zero] at this
  exact this

theorem reach_iff (g : S103 → Int) (l : List S103) (h0 : 0 < l.length) : decide (foldMx g l (g (hd0 l)) < 20) = l.all (fun c => decide (g c < 20)) := by
  have h := foldMx_iff g 19 l (g (hd0 l))
  rw [Bool.eq_iff_iff, decide_eq_true_eq, List.all_eq_true]
  constructor
  · intro q c hc
    have := (h.mp (by omega)).2 c hc
    simp only [decide_eq_true_eq]; omega
  · intro q
    have : foldMx g l (g (hd0 l)) ≤ 19 := h.mpr ⟨by have := q _ (hd0_mem h0); simp only [decide_eq_true_eq] at this; omega, fun c hc => by have := q c hc; simp only [decide_eq_true_eq] at this; omega⟩
    omega
theorem impl_IsRegion_ev (l : List S103) (hl : l.length ≤ 9223372036854775807) : Ev (fun k => impl_IsRegion.f k l) (regionB l) := by
  simp only [impl_IsRegion.f]
  refine Ev.bind (impl_IsShape_ev l hl) ?_
  unfold regionB
  cases hs : shapeB l with
  | false => simpa using Ev.now false
  | true =>
    obtain ⟨p1, p2, p3⟩ := shapeB_parts hs
    simp only [if_true, Bool.true_and]
    refine Ev.bind (impl_corner_ev l hl p1) ?_
    by_cases c1 : leastX l = 0
    · by_cases c2 : leastY l = 0
      · have q : ¬ ((!(leastX l == 0) || !(leastY l == 0)) = true) := by simp [c1, c2]
        simp only [if_neg q]
        refine Ev.bind (impl_reach_ev l hl p1) ?_
        have e1 : decide (foldMx (·.f0) l (hd0 l).f0 < 20) = l.all (fun c => decide (c.f0 < 20)) := reach_iff (·.f0) l p1
        have e2 : decide (foldMx (·.f1) l (hd0 l).f1 < 20) = l.all (fun c => decide (c.f1 < 20)) := reach_iff (·.f1) l p1
        rw [← e1, ← e2]
        by_cases c3 : foldMx (·.f0) l (hd0 l).f0 < 20
        · simp only [if_pos c3]; refine ev_eq (Ev.now _) ?_; rw [decide_eq_true c1, decide_eq_true c2, decide_eq_true c3]; simp only [Bool.true_and]
        · simp only [if_neg c3]; refine ev_eq (Ev.now _) ?_; rw [decide_eq_false c3]; simp only [Bool.false_and, Bool.and_false]
      · have q : (!(leastX l == 0) || !(leastY l == 0)) = true := by simp [c2]
        simp only [if_pos q]; refine ev_eq (Ev.now _) ?_; simp [c2]
    · have q : (!(leastX l == 0) || !(leastY l == 0)) = true := by simp [c1]
      simp only [if_pos q]; refine ev_eq (Ev.now _) ?_; simp [c1]

theorem anyM_ev {α : Type} (p : Nat → α → Option Bool) (q : α → Bool) : ∀ l : List α, (∀ x ∈ l, Ev (fun k => p k x) (q x)) → Ev (fun k => anyM (p k) l) (l.any q)
  | [], _ => by simpa [anyM] using Ev.now false
  | x :: xs, h => by
    simp only [anyM, List.any_cons]
    refine Ev.bind (h x (List.mem_cons_self ..)) ?_
    cases c : q x with
    | true => simpa using Ev.now true
    | false => simpa using anyM_ev p q xs (fun y hy => h y (List.mem_cons_of_mem _ hy))
theorem anyM_some {α : Type} (p : α → Option Bool) (q : α → Bool) : ∀ l : List α, (∀ x ∈ l, p x = some (q x)) → anyM p l = some (l.any q)
  | [], _ => rfl
  | x :: xs, h => by
    simp only [anyM, List.any_cons, h x (List.mem_cons_self ..), Option.bind_some]
    cases c : q x with
    | true => simp
    | false => simpa using anyM_some p q xs (fun y hy => h y (List.mem_cons_of_mem _ hy))

theorem impl_weights (l : List S103) (m : Int) (w : List Int) : impl_isWeighting.f l m w = some (weightB l.length m w) := by
  simp only [impl_isWeighting.f, impl_isModulus.f, impl_in, Option.bind_some, weightB]
  cases (decide (2 ≤ m) && decide (m ≤ 6)) with
  | false => simp
  | true =>
    simp only [if_true, Bool.true_and]
    by_cases c : (w.length : Int) = (l.length : Int)
    · rw [if_pos c, anyM_some _ (fun x => !(decide (0 ≤ x) && decide (x ≤ wrap64 (m - 1)))) w (fun x _ => by simp only [impl_isWeighting_1.f, impl_in, Option.bind_some])]
      simp only [Option.bind_some, decide_eq_true c, Bool.true_and, List.any_eq_not_all_not, Bool.not_not]
    · rw [if_neg c, decide_eq_false c]; simp

theorem impl_rises_loop (l : List Int) (n : Int) (hl : l.length ≤ 9223372036854775807) : ∀ d i, i + d = l.length →
    Ev (fun k => impl_isIncreasing.l0 k l n l (l.length : Int) (i : Int)) (risesB (wrap64 (n - 1)) (l.drop i) (prevOf l i)) := by
  intro d
  induction d with
  | zero =>
    intro i h
    rw [rises_end _ _ (by omega)]
    exact ev_const fun k => by simp only [impl_isIncreasing.l0]; rw [if_neg (by omega)]
  | succ d ih =>
    intro i h
    have hi : i < l.length := by omega
    have step : ∀ k, impl_isIncreasing.l0 (k + 1) l n l (l.length : Int) (i : Int) = if (decide (0 ≤ l[i]) && decide (l[i] ≤ wrap64 (n - 1))) = true then (if decide (prevOf l i < l[i]) = true ∨ i = 0 then impl_isIncreasing.l0 k l n l (l.length : Int) ((i + 1 : Nat) : Int) else some false) else some false := fun k => by
      simp only [impl_isIncreasing.l0]
      rw [if_pos (by omega), if_pos (by omega), if_pos (by omega), rd_nat l hi, impl_in]
      simp only [Option.bind_some, wrap_succ hi hl]
      by_cases c : (decide (0 ≤ l[i]) && decide (l[i] ≤ wrap64 (n - 1))) = true
      · rw [if_pos c, if_pos c]
        by_cases z : i = 0
        · rw [if_neg (by omega), if_pos (.inr z)]
        · have e : wrap64 ((i : Int) - 1) = ((i - 1 : Nat) : Int) := by unfold wrap64; omega
          have p : prevOf l i = l[i - 1] := by simp [prevOf, z, List.getD_eq_getElem?_getD, List.getElem?_eq_getElem (show i - 1 < l.length by omega)]
          rw [if_pos (by omega), e, if_pos (by omega), if_pos (by omega), rd_nat l (by omega), p]
          by_cases q : l[i] ≤ l[i - 1]
          · rw [if_pos q, if_neg (by simp [z]; omega)]
          · rw [if_neg q, if_pos (.inl (by simp; omega))]
      · rw [if_neg c, if_neg c]
    rw [rises_next _ _ hi]
    refine Ev.step step ?_
    by_cases c : (decide (0 ≤ l[i]) && decide (l[i] ≤ wrap64 (n - 1))) = true
    · simp only [if_pos c]
      by_cases q : decide (prevOf l i < l[i]) = true ∨ i = 0
      · simp only [if_pos q]
        refine ev_eq (ih (i + 1) (by omega)) ?_
        have q' : decide (prevOf l i < l[i]) = true := q.elim id fun z => by
          subst z
          simp only [Bool.and_eq_true, decide_eq_true_eq] at c
          simp [prevOf]; omega
        rw [c, q']; simp
      · simp only [if_neg q]
        refine ev_eq (Ev.now _) ?_
        rw [show decide (prevOf l i < l[i]) = false by simp only [not_or] at q; simpa using q.1]; simp
    · simp only [if_neg c]
      refine ev_eq (Ev.now _) ?_
      simp only [Bool.not_eq_true] at c
      rw [c]; simp
theorem impl_rises (l : List Int) (n : Int) (hl : l.length ≤ 9223372036854775807) : Ev (fun k => impl_isIncreasing.f k l n) (risesB (wrap64 (n - 1)) l (-1)) := by
  have := impl_rises_loop l n hl l.length 0 (by omega)
  simpa [impl_isIncreasing.f, prevOf] using this

theorem impl_WeightOfSet_ev (l : List S103) (m : Int) (w s : List Int) (hl : l.length ≤ 9223372036854775807) (hs : s.length ≤ 1048576) : Ev (fun k => impl_WeightOfSet.f k l m w s) (wofB (regionB l) l.length m w s) := by
  simp only [impl_WeightOfSet.f, impl_weights, Option.bind_some]
  refine Ev.bind (impl_IsRegion_ev _ hl) ?_
  unfold wofB
  cases c1 : regionB l with
  | false => simpa using Ev.now _
  | true =>
    simp only [if_true]
    cases c2 : weightB l.length m w with
    | false => simpa using Ev.now _
    | true =>
      simp only [if_true]
      refine Ev.bind (impl_rises s (l.length : Int) (by omega)) ?_
      cases c3 : risesB (wrap64 ((l.length : Int) - 1)) s (-1) with
      | false => simpa using Ev.now _
      | true => simp only [if_true]; exact Ev.bind (impl_wof m w s (okSet_of c2 (by have := regionB_parts c1; omega) c3) hs) (Ev.now _)

theorem toInts_loop (l : List Int) (hl : l.length ≤ 9223372036854775807) : ∀ d i (y : List Int), i + d = l.length → y.length = l.length → y.take i = l.take i → Ev (fun k => laws_toInt64S.l0 k l y (i : Int)) l := by
  intro d
  induction d with
  | zero =>
    intro i y h hy ht
    have e : y = l := by
      rw [List.take_of_length_le (by omega), List.take_of_length_le (by omega)] at ht; exact ht
    subst e
    exact ev_const fun k => by simp only [laws_toInt64S.l0]; rw [if_neg (by omega)]
  | succ d ih =>
    intro i y h hy ht
    have hi : i < l.length := by omega
    refine Ev.step (f := fun k => laws_toInt64S.l0 k l (y.set i l[i]) ((i + 1 : Nat) : Int)) (fun k => ?_) (ih (i + 1) (y.set i l[i]) (by omega) (by simp [hy]) ?_)
    · simp only [laws_toInt64S.l0]
      rw [if_pos (by omega), if_pos (by omega), if_pos (by omega), rd_nat l hi, wrap_succ hi hl, Int.toNat_natCast]
    · rw [List.take_succ_eq_append_getElem (by simp; omega), List.take_succ_eq_append_getElem hi, List.take_set_of_le (Nat.le_refl i), ht]; simp
theorem toInts (l : List Int) (hl : l.length ≤ 35184372088832) : Ev (fun k => laws_toInt64S.f k l) l := by
  have := toInts_loop l (by omega) l.length 0 (List.replicate l.length 0) (by omega) (by simp) (by simp)
  simp only [laws_toInt64S.f, Int.toNat_natCast, if_pos hl, if_pos (Int.natCast_nonneg l.length)]
  exact this

theorem eqInts_loop (l : List Int) (hl : l.length ≤ 9223372036854775807) : ∀ d i, i + d = l.length → Ev (fun k => laws_eqInt64S.l0 k l l (i : Int)) true := by
  intro d
  induction d with
  | zero => intro i h; exact ev_const fun k => by simp only [laws_eqInt64S.l0]; rw [if_neg (by omega)]
  | succ d ih =>
    intro i h
    have hi : i < l.length := by omega
    refine Ev.step (f := fun k => laws_eqInt64S.l0 k l l ((i + 1 : Nat) : Int)) (fun k => ?_) (ih (i + 1) (by omega))
    simp only [laws_eqInt64S.l0]
    rw [if_pos (by omega), if_pos (by omega), if_pos (by omega), wrap_succ hi hl]; simp
theorem eqInts (l : List Int) (hl : l.length ≤ 9223372036854775807) : Ev (fun k => laws_eqInt64S.f k l l) true := by
  have := eqInts_loop l hl l.length 0 (by omega)
  simpa [laws_eqInt64S.f] using this

theorem eqWeighting_ev (m : Int) (w : List Int) (hw : w.length ≤ 9223372036854775807) : Ev (fun k => laws_eqWeighting.f k m w m w) true := by
  simp only [laws_eqWeighting.f, if_true]; exact Ev.bind (eqInts w hw) (by simpa using Ev.now true)

theorem szInts (l : List Int) (n : Int) (hl : l.length ≤ 9223372036854775807) (h0 : 0 ≤ n) (h1 : n ≤ 4611686018427387904) : ∃ r, laws_szInt64S.f l n = some r ∧ -1 ≤ r ∧ r ≤ n ∧ (0 ≤ r → r = n - l.length) := by
  have e : wrap64 (n - (l.length : Int)) = n - l.length := by unfold wrap64; omega
  unfold laws_szInt64S.f
  rw [e]
  by_cases c : n - (l.length : Int) < 0
  · rw [if_pos c]; exact ⟨_, rfl, by omega, by omega, by omega⟩
  · rw [if_neg c]; exact ⟨_, rfl, by omega, by omega, by omega⟩

theorem toWeighting_ev (m : Int) (w : List Int) (hw : w.length ≤ 35184372088832) : Ev (fun k => laws_toWeighting.f k m w) (m, w) := by
  simp only [laws_toWeighting.f]; exact Ev.bind (toInts w hw) (Ev.now _)
theorem szWeighting_ev (m : Int) (w : List Int) (n : Int) (hl : w.length ≤ 9223372036854775807) (h0 : 0 ≤ n) (h1 : n ≤ 4611686018427387904) : ∃ r, laws_szWeighting.f m w n = some r ∧ r ≤ n ∧ (r < 0 ∨ r = n - w.length) := by
  obtain ⟨r, e, b1, b2, b3⟩ := szInts w n hl h0 h1
  simp only [laws_szWeighting.f, e, Option.bind_some]
  by_cases c : r < 0
  · rw [if_pos c]; exact ⟨_, rfl, by omega, .inl (by omega)⟩
  · rw [if_neg c]; exact ⟨_, rfl, by omega, .inr (b3 (by omega))⟩

theorem toCells_loop (l : List S105) (hl : l.length ≤ 9223372036854775807) : ∀ d i (y : List S103), i + d = l.length → y.length = l.length → y.take i = (cellsOf l).take i → Ev (fun k => laws_toCellS.l0 k l y (i : Int)) (cellsOf l) := by
  intro d
  induction d with
  | zero =>
    intro i y h hy ht
    have e : y = cellsOf l := by
      rw [List.take_of_length_le (by omega), List.take_of_length_le (by rw [cellsOf_length]; omega)] at ht; exact ht
    subst e
    exact ev_const fun k => by simp only [laws_toCellS.l0]; rw [if_neg (by omega)]
  | succ d ih =>
    intro i y h hy ht
    have hi : i < l.length := by omega
    have hi2 : i < (cellsOf l).length := by rw [cellsOf_length]; exact hi
    have e : (cellsOf l)[i] = ⟨l[i].f0, l[i].f1⟩ := by simp [cellsOf]
    refine Ev.step (f := fun k => laws_toCellS.l0 k l (y.set i (cellsOf l)[i]) ((i + 1 : Nat) : Int)) (fun k => ?_) (ih (i + 1) (y.set i (cellsOf l)[i]) (by omega) (by simp [hy]) ?_)
    · simp only [laws_toCellS.l0]
      rw [if_pos (by omega), if_pos (by omega), rdl_nat l hi, wrap_succ hi hl, e]
      simp only [laws_toCell.f, Option.bind_some, if_pos (show (i : Int) < (y.length : Int) by omega), Int.toNat_natCast]
    · rw [List.take_succ_eq_append_getElem (by simp; omega), List.take_succ_eq_append_getElem hi2, List.take_set_of_le (Nat.le_refl i), ht]; simp
theorem toCells (l : List S105) (hl : l.length ≤ 17592186044416) : Ev (fun k => laws_toCellS.f k l) (cellsOf l) := by
  have := toCells_loop l (by omega) l.length 0 (List.replicate l.length z103) (by omega) (by simp) (by simp)
  simp only [laws_toCellS.f, Int.toNat_natCast, if_pos hl, if_pos (Int.natCast_nonneg l.length)]
  exact this

theorem eqCells_loop (l : List S103) (hl : l.length ≤ 9223372036854775807) : ∀ d i, i + d = l.length → Ev (fun k => laws_eqCellS.l0 k l l (i : Int)) true := by
  intro d
  induction d with
  | zero => intro i h; exact ev_const fun k => by simp only [laws_eqCellS.l0]; rw [if_neg (by omega)]
  | succ d ih =>
    intro i h
    have hi : i < l.length := by omega
    refine Ev.step (f := fun k => laws_eqCellS.l0 k l l ((i + 1 : Nat) : Int)) (fun k => ?_) (ih (i + 1) (by omega))
    simp only [laws_eqCellS.l0]
    rw [if_pos (by omega), if_pos (by omega), if_pos (by omega), wrap_succ hi hl]; simp [laws_eqCell.f]
theorem eqCells (l : List S103) (hl : l.length ≤ 9223372036854775807) : Ev (fun k => laws_eqCellS.f k l l) true := by
  have := eqCells_loop l hl l.length 0 (by omega)
  simpa [laws_eqCellS.f] using this

theorem szCells (l : List S105) (n : Int) (hl : l.length ≤ 9223372036854775807) (h0 : 0 ≤ n) (h1 : n ≤ 4611686018427387904) : ∃ r, laws_szCellS.f l n = some r ∧ -1 ≤ r ∧ r ≤ n ∧ (0 ≤ r → r = n - l.length) := by
  have e : wrap64 (n - (l.length : Int)) = n - l.length := by unfold wrap64; omega
  unfold laws_szCellS.f
  rw [e]
  by_cases c : n - (l.length : Int) < 0
  · rw [if_pos c]; exact ⟨_, rfl, by omega, by omega, by omega⟩
  · rw [if_neg c]; exact ⟨_, rfl, by omega, by omega, by omega⟩


theorem pure : laws_FnExactWeightOfSet.Pure := by
  intro l m w s hl _ hw hws
  have hl1 : l.length ≤ 9223372036854775807 := hl.1
  have hw1 : w.length ≤ 9223372036854775807 := hw.1
  have hlc : (cellsOf l).length ≤ 9223372036854775807 := by rw [cellsOf_length]; exact hl1
  obtain ⟨r, hr, c1, c2, c3⟩ := szCells l 1048576 hl1 (by omega) (by omega)
  refine Ev.rounds (r := true) ?_
  simp only [laws_FnExactWeightOfSet.f, hr, Option.bind_some]
  by_cases c0 : (s.length : Int) > 1048576
  · simp only [if_pos c0]; exact Ev.now _
  simp only [if_neg c0]
  by_cases c : r < 0
  · simp only [if_pos c]; exact Ev.now _
  simp only [if_neg c]
  obtain ⟨q, hq, d1, d2⟩ := szWeighting_ev m w r hw1 (by omega) (by omega)
  simp only [hq, Option.bind_some]
  by_cases cq : q < 0
  · simp only [if_pos cq]; exact Ev.now _
  simp only [if_neg cq]
  have e1 := c3 (by omega)
  have e2 := d2.resolve_left cq
  have hT := toCells l (by omega)
  have hW := toWeighting_ev m w (by omega)
  have hS2 := toInts s (by omega)
  refine Ev.bind hT (Ev.bind hW (Ev.bind hS2 (Ev.bind (spec_WeightOfSet_ev _ m w s hlc hw1 (by omega)) (Ev.bind hT (Ev.bind hW (Ev.bind hS2 (Ev.bind (impl_WeightOfSet_ev _ m w s hlc (by omega)) ?_)))))))
  simp only [if_true]
  refine Ev.bind hT (Ev.bind (eqCells _ hlc) ?_)
  simp only [if_true]
  refine Ev.bind hW (Ev.bind (eqWeighting_ev m w hw1) ?_)
  simp only [if_true]
  refine Ev.bind hS2 (Ev.bind (eqInts s (by omega)) ?_)
  simp only [if_true]
  exact Ev.now true

end Go.Proofs.Ytkmlgfihoaneeaa.XFnExactWeightOfSet
namespace Go.Proofs.Ytkmlgfihoaneeaa
/-- The law FnExactWeightOfSet returns true at every region, weighting and set and leaves its arguments as they were. Conditions: none. -/
theorem fnExactWeightOfSet_holds : Rows.FnExactWeightOfSetSaid := fnExactWeightOfSet.of_pure XFnExactWeightOfSet.pure
#print axioms fnExactWeightOfSet_holds
end Go.Proofs.Ytkmlgfihoaneeaa
