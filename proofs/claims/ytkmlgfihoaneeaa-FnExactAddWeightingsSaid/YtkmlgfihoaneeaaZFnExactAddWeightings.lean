/- The law FnExactAddWeightings returns true at every region and pair of weightings and leaves its arguments as they were. Conditions: none. -/
import Derived.Test.YtkmlgfihoaneeaaXRFnExactAddWeightings
namespace Go.Proofs.Ytkmlgfihoaneeaa.XFnExactAddWeightings
open Go.RowKit Go.Proofs.YtkmlgfihoaneeaaW.PrintWords Go.Proofs.YtkmlgfihoaneeaaW.PrintLast Go.Proofs.YtkmlgfihoaneeaaW.PrintMore Go.Proofs.Ytkmlgfihoaneeaa.U
set_option linter.unusedVariables false
set_option linter.unusedSimpArgs false

theorem wrap_succ {i n : Nat} (h : i < n) (hn : n ≤ 9223372036854775807) : wrap64 ((i : Int) + 1) = ((i + 1 : Nat) : Int) := by
  unfold wrap64; omega
theorem wrap_id {x : Int} (h0 : -9223372036854775808 ≤ x) (h1 : x ≤ 9223372036854775807) : wrap64 x = x := by
  unfold wrap64; omega
theorem rd_nat (l : List Int) {i : Nat} (h : i < l.length) : rd l (i : Int) = l[i] := by
  simp [rd, List.getD_eq_getElem?_getD, List.getElem?_eq_getElem h]
theorem ev_true {g : Nat → Option Bool} {r : Bool} (h : ∀ k, g (k + 1) = some r) : Ev g r := Ev.step (f := fun _ => some r) h (Ev.now r)
theorem ev_const {α : Type} {g : Nat → Option α} {r : α} (h : ∀ k, g (k + 1) = some r) : Ev g r := Ev.step (f := fun _ => some r) h (Ev.now r)
theorem ev_eq {α : Type} {g : Nat → Option α} {r r' : α} (h : Ev g r) (e : r = r') : Ev g r' := e ▸ h
theorem wf64 {x : Int} (h : (Lit.int .i64 x).wf = true) : -9223372036854775808 ≤ x ∧ x ≤ 9223372036854775807 := by
  simp only [Lit.wf, IntKind.min, IntKind.max, IntKind.signed, IntKind.bits, Bool.and_eq_true, decide_eq_true_eq] at h
  simpa using h

def weightB (n : Nat) (m : Int) (w : List Int) : Bool := (decide (2 ≤ m) && decide (m ≤ 6)) && (decide ((w.length : Int) = (n : Int)) && w.all (fun x => decide (0 ≤ x) && decide (x ≤ wrap64 (m - 1))))

def zipAdd (m : Int) (v w : List Int) : List Int := List.zipWith (fun a b => (a + b) % m) v w
def addB (rg : Bool) (n : Nat) (m : Int) (v : List Int) (m2 : Int) (w : List Int) : Int × List Int × Int :=
  if rg then (if weightB n m v then (if weightB n m2 w then (if m = m2 then (m, zipAdd m v w, 0) else (0, [], 2)) else (0, [], 2)) else (0, [], 2)) else (0, [], 1)
def okW (n : Nat) (m : Int) (w : List Int) : Prop := (2 ≤ m ∧ m ≤ 6) ∧ w.length = n ∧ ∀ x ∈ w, 0 ≤ x ∧ x ≤ 5
theorem okW_of {n : Nat} {m : Int} {w : List Int} (h : weightB n m w = true) : okW n m w := by
  simp only [weightB, Bool.and_eq_true, decide_eq_true_eq, List.all_eq_true] at h
  obtain ⟨⟨h1, h2⟩, h3, h4⟩ := h
  refine ⟨⟨h1, h2⟩, by omega, fun x hx => ?_⟩
  have := h4 x hx
  rw [wrap_id (by omega) (by omega)] at this
  omega
theorem zipAdd_len (m : Int) (v w : List Int) : (zipAdd m v w).length ≤ v.length := by simp [zipAdd]; omega
theorem addB_len (rg : Bool) (n : Nat) (m : Int) (v : List Int) (m2 : Int) (w : List Int) : (addB rg n m v m2 w).2.1.length ≤ v.length := by
  unfold addB
  repeat' split
  all_goals first | exact zipAdd_len m v w | simp
theorem zipAdd_snoc (m : Int) (v w : List Int) {i : Nat} (hv : i < v.length) (hw : i < w.length) : (zipAdd m v w).take (i + 1) = (zipAdd m v w).take i ++ [(v[i] + w[i]) % m] := by
  have h : i < (zipAdd m v w).length := by simp [zipAdd]; omega
  rw [List.take_succ_eq_append_getElem h]
  simp [zipAdd]
theorem add_word {n : Nat} {m : Int} {v w : List Int} (hv : okW n m v) (hw : okW n m w) {i : Nat} (h : i < n) (h1 : i < v.length) (h2 : i < w.length) : Int.tmod (wrap64 (rd v (i : Int) + rd w (i : Int))) m = (v[i] + w[i]) % m := by
  have a := hv.2.2 _ (List.getElem_mem h1)
  have b := hw.2.2 _ (List.getElem_mem h2)
  rw [rd_nat v h1, rd_nat w h2, wrap_id (by omega) (by omega), Int.tmod_eq_emod_of_nonneg (by omega)]

theorem rdc_nat (l : List S103) {i : Nat} (h : i < l.length) : rd_T103 l (i : Int) = l[i] := by
  simp [rd_T103, List.getD_eq_getElem?_getD, List.getElem?_eq_getElem h]
theorem rdl_nat (l : List S105) {i : Nat} (h : i < l.length) : rd_T105 l (i : Int) = l[i] := by
  simp [rd_T105, List.getD_eq_getElem?_getD, List.getElem?_eq_getElem h]
/-- The cells of an argument, as the program has them. -/
def cellsOf (l : List S105) : List S103 := l.map fun c => ⟨c.f0, c.f1⟩
theorem cellsOf_length (l : List S105) : (cellsOf l).length = l.length := by simp [cellsOf]

def coordB (c : S103) : Bool := (decide (-100 ≤ c.f0) && decide (c.f0 ≤ 100)) && (decide (-100 ≤ c.f1) && decide (c.f1 ≤ 100))
def lessC (a b : S103) : Bool := decide (a.f1 < b.f1) || (decide (a.f1 = b.f1) && decide (a.f0 < b.f0))
def nextB (p : Option S103) (c : S103) : Bool := match p with | none => true | some q => lessC q c
def shB : List S103 → Option S103 → Bool
  | [], _ => true
  | c :: cs, p => coordB c && (nextB p c && shB cs (some c))
def prevC (l : List S103) (i : Nat) : Option S103 := if i = 0 then none else l[i - 1]?
theorem prevC_succ (l : List S103) {i : Nat} (h : i < l.length) : prevC l (i + 1) = some l[i] := by simp [prevC, List.getElem?_eq_getElem h]
theorem prevC_pos (l : List S103) {i : Nat} (z : i ≠ 0) (h : i < l.length) : prevC l i = some l[i - 1] := by
  simp [prevC, z, List.getElem?_eq_getElem (show i - 1 < l.length by omega)]
def lenB (l : List S103) : Bool := decide (1 ≤ (l.length : Int)) && decide ((l.length : Int) ≤ 40)
def shapeB (l : List S103) : Bool := shB l none && lenB l
theorem shB_mem : ∀ (l : List S103) p, shB l p = true → ∀ c ∈ l, coordB c = true
  | [], _, _, c, hc => absurd hc List.not_mem_nil
  | x :: xs, p, h, c, hc => by
    simp only [shB, Bool.and_eq_true] at h
    rcases List.mem_cons.mp hc with rfl | hc
    · exact h.1
    · exact shB_mem xs _ h.2.2 c hc
theorem coordB_bd {c : S103} (h : coordB c = true) : -100 ≤ c.f0 ∧ c.f0 ≤ 100 ∧ -100 ≤ c.f1 ∧ c.f1 ≤ 100 := by
  simp only [coordB, Bool.and_eq_true, decide_eq_true_eq] at h; omega
theorem shapeB_parts {l : List S103} (h : shapeB l = true) : 1 ≤ l.length ∧ l.length ≤ 40 ∧ ∀ c ∈ l, -100 ≤ c.f0 ∧ c.f0 ≤ 100 ∧ -100 ≤ c.f1 ∧ c.f1 ≤ 100 := by
  simp only [shapeB, lenB, Bool.and_eq_true, decide_eq_true_eq] at h
  exact ⟨by omega, by omega, fun c hc => coordB_bd (shB_mem l none h.1 c hc)⟩

theorem mn_le (a b : Int) : mn a b ≤ a ∧ mn a b ≤ b ∧ (mn a b = a ∨ mn a b = b) := by unfold mn; split <;> omega
theorem mx_le (a b : Int) : a ≤ mx a b ∧ b ≤ mx a b ∧ (mx a b = a ∨ mx a b = b) := by unfold mx; split <;> omega
def foldMn (g : S103 → Int) (l : List S103) (a : Int) : Int := l.foldl (fun m c => mn m (g c)) a
def foldMx (g : S103 → Int) (l : List S103) (a : Int) : Int := l.foldl (fun m c => mx m (g c)) a
theorem foldMn_le (g : S103 → Int) : ∀ (l : List S103) a, foldMn g l a ≤ a
  | [], a => Int.le_refl a
  | c :: l, a => by have := foldMn_le g l (mn a (g c)); have h := mn_le a (g c); simp only [foldMn, List.foldl_cons] at this ⊢; omega
theorem foldMn_mem (g : S103 → Int) : ∀ (l : List S103) a c, c ∈ l → foldMn g l a ≤ g c
  | [], _, _, h => absurd h List.not_mem_nil
  | x :: l, a, c, h => by
    simp only [foldMn, List.foldl_cons]
    rcases List.mem_cons.mp h with rfl | h
    · have := foldMn_le g l (mn a (g c)); have h := mn_le a (g c); simp only [foldMn] at this; omega
    · exact foldMn_mem g l _ c h
theorem foldMn_ge (g : S103 → Int) (B : Int) : ∀ (l : List S103) a, B ≤ a → (∀ c ∈ l, B ≤ g c) → B ≤ foldMn g l a
  | [], a, h, _ => h
  | c :: l, a, h, hc => by
    show B ≤ foldMn g l (mn a (g c))
    exact foldMn_ge g B l (mn a (g c)) (by have := mn_le a (g c); have := hc c (List.mem_cons_self ..); omega) (fun x hx => hc x (List.mem_cons_of_mem _ hx))
theorem foldMx_iff (g : S103 → Int) (B : Int) : ∀ (l : List S103) a, foldMx g l a ≤ B ↔ a ≤ B ∧ ∀ c ∈ l, g c ≤ B
  | [], a => by simp [foldMx]
  | c :: l, a => by
    have := foldMx_iff g B l (mx a (g c)); have h := mx_le a (g c)
    simp only [foldMx, List.foldl_cons] at this ⊢
    rw [this]
    constructor
    · rintro ⟨h1, h2⟩; exact ⟨by omega, fun x hx => by rcases List.mem_cons.mp hx with rfl | hx; omega; exact h2 x hx⟩
    · rintro ⟨h1, h2⟩; exact ⟨by have := h2 c (List.mem_cons_self ..); omega, fun x hx => h2 x (List.mem_cons_of_mem _ hx)⟩
def hd0 (l : List S103) : S103 := rd_T103 l 0
theorem hd0_cons (c : S103) (l : List S103) : hd0 (c :: l) = c := by simp [hd0, rd_T103]
theorem hd0_mem {l : List S103} (h : 0 < l.length) : hd0 l ∈ l := by cases l with | nil => simp at h | cons c l => rw [hd0_cons]; exact List.mem_cons_self ..
def leastX (l : List S103) : Int := foldMn (·.f0) l (hd0 l).f0
def leastY (l : List S103) : Int := foldMn (·.f1) l (hd0 l).f1
theorem foldMn_tail (g : S103 → Int) (l : List S103) (h : 0 < l.length) : foldMn g (l.drop 1) (g (hd0 l)) = foldMn g l (g (hd0 l)) := by
  cases l with
  | nil => simp at h
  | cons c l => rw [hd0_cons]; simp only [foldMn, List.drop_succ_cons, List.drop_zero, List.foldl_cons]; rw [show mn (g c) (g c) = g c by unfold mn; split <;> rfl]

def regionB (l : List S103) : Bool := shapeB l && (decide (leastX l = 0) && decide (leastY l = 0) && (l.all (fun c => decide (c.f0 < 20)) && l.all (fun c => decide (c.f1 < 20))))
theorem regionB_parts {l : List S103} (h : regionB l = true) : 1 ≤ l.length ∧ l.length ≤ 40 ∧ ∀ c ∈ l, 0 ≤ c.f0 ∧ c.f0 < 20 ∧ 0 ≤ c.f1 ∧ c.f1 < 20 := by
  simp only [regionB, Bool.and_eq_true, decide_eq_true_eq, List.all_eq_true] at h
  obtain ⟨h1, ⟨h2, h3⟩, h4, h5⟩ := h
  obtain ⟨p1, p2, _⟩ := shapeB_parts h1
  refine ⟨p1, p2, fun c hc => ?_⟩
  have a : leastX l ≤ c.f0 := foldMn_mem (·.f0) l (hd0 l).f0 c hc
  have b : leastY l ≤ c.f1 := foldMn_mem (·.f1) l (hd0 l).f1 c hc
  exact ⟨by omega, h4 c hc, by omega, h5 c hc⟩

theorem spec_in (a b c : Int) : spec_l01In.f a b c = some (decide (b ≤ a) && decide (a ≤ c)) := by
  unfold spec_l01In.f; by_cases h : b ≤ a
  · rw [if_pos h]; simp [h]
  · rw [if_neg h]; simp [h]

theorem spec_cell (c : S103) : spec_l02Cell.f c.f0 c.f1 = some (coordB c) := by
  simp only [spec_l02Cell.f, spec_in, Option.bind_some, coordB]
  split
  · rename_i h; rw [h]; simp
  · rename_i h; simp only [Bool.not_eq_true] at h; rw [h]; simp
theorem spec_less (a b : S103) : spec_l02Less.f a.f0 a.f1 b.f0 b.f1 = some (lessC a b) := by
  unfold spec_l02Less.f lessC
  split
  · rename_i h; simp [h]
  · rename_i h; split
    · rename_i h2; simp [h, h2]
    · rename_i h2; simp [h, h2]
theorem spec_shape_loop (l : List S103) (hl : l.length ≤ 9223372036854775807) : ∀ d i, i + d = l.length → Ev (fun k => spec_IsShape.l0 k l (i : Int)) (shB (l.drop i) (prevC l i) && lenB l) := by
  intro d
  induction d with
  | zero =>
    intro i h
    rw [List.drop_eq_nil_of_le (by omega)]
    exact ev_const fun k => by simp only [spec_IsShape.l0]; rw [if_neg (by omega), spec_in]; simp [shB, lenB]
  | succ d ih =>
    intro i h
    have hi : i < l.length := by omega
    rw [List.drop_eq_getElem_cons hi]
    simp only [shB]
    have step : ∀ k, spec_IsShape.l0 (k + 1) l (i : Int) = if (coordB l[i] && nextB (prevC l i) l[i]) = true then spec_IsShape.l0 k l ((i + 1 : Nat) : Int) else some false := fun k => by
      simp only [spec_IsShape.l0]
      rw [if_pos (by omega), if_pos (by omega), rdc_nat l hi, wrap_succ hi hl, spec_cell]
      simp only [Option.bind_some]
      cases hc : coordB l[i] with
      | false => simp
      | true =>
        simp only [if_true, Bool.true_and]
        by_cases z : i = 0
        · rw [if_neg (by omega), if_pos (by simp [prevC, z, nextB])]
        · have e : wrap64 ((i : Int) - 1) = ((i - 1 : Nat) : Int) := by unfold wrap64; omega
          rw [if_pos (by omega), e, if_pos (by omega), if_pos (by omega), rdc_nat l (by omega), spec_less, prevC_pos l z hi]
          simp only [Option.bind_some, nextB]
          rfl
    refine Ev.step step ?_
    cases q : (coordB l[i] && nextB (prevC l i) l[i]) with
    | true =>
      simp only [if_true]
      refine ev_eq (ih (i + 1) (by omega)) ?_
      rw [prevC_succ l hi]
      simp only [Bool.and_eq_true] at q
      rw [q.1, q.2]; simp
    | false =>
      simp only [Bool.false_eq_true, if_false]
      refine ev_eq (Ev.now _) ?_
      rw [← Bool.and_assoc, q]; simp
theorem spec_IsShape_ev (l : List S103) (hl : l.length ≤ 9223372036854775807) : Ev (fun k => spec_IsShape.f k l) (shapeB l) := by
  have := spec_shape_loop l hl l.length 0 (by omega)
  simpa [spec_IsShape.f, prevC, shapeB] using this

theorem spec_least_loop (l : List S103) (hl : l.length ≤ 9223372036854775807) : ∀ d i (x y : Int), i + d = l.length → Ev (fun k => spec_l02Least.l0 k l x y (i : Int)) (foldMn (·.f0) (l.drop i) x, foldMn (·.f1) (l.drop i) y) := by
  intro d
  induction d with
  | zero =>
    intro i x y h
    rw [List.drop_eq_nil_of_le (by omega)]
    exact ev_const fun k => by simp only [spec_l02Least.l0]; rw [if_neg (by omega)]; rfl
  | succ d ih =>
    intro i x y h
    have hi : i < l.length := by omega
    rw [List.drop_eq_getElem_cons hi]
    refine Ev.step (f := fun k => spec_l02Least.l0 k l (mn x l[i].f0) (mn y l[i].f1) ((i + 1 : Nat) : Int)) (fun k => ?_) (ih (i + 1) _ _ (by omega))
    simp only [spec_l02Least.l0]
    rw [if_pos (by omega), if_pos (by omega), rdc_nat l hi, wrap_succ hi hl]
theorem spec_least (l : List S103) (hl : l.length ≤ 9223372036854775807) (h0 : 0 < l.length) : Ev (fun k => spec_l02Least.f k l) (leastX l, leastY l) := by
  have := spec_least_loop l hl (l.length - 1) 1 (hd0 l).f0 (hd0 l).f1 (by omega)
  rw [foldMn_tail (·.f0) l h0, foldMn_tail (·.f1) l h0] at this
  simp only [spec_l02Least.f, if_pos (show 0 < (l.length : Int) by omega)]
  exact this

theorem spec_size_loop (l : List S103) (a b : Int) (hl : l.length ≤ 9223372036854775807) : ∀ d i (x y : Int), i + d = l.length → Ev (fun k => spec_l04Size.l0 k l a b x y (i : Int)) (foldMx (fun c => wrap64 (wrap64 (c.f0 - a) + 1)) (l.drop i) x, foldMx (fun c => wrap64 (wrap64 (c.f1 - b) + 1)) (l.drop i) y) := by
  intro d
  induction d with
  | zero =>
    intro i x y h
    rw [List.drop_eq_nil_of_le (by omega)]
    exact ev_const fun k => by simp only [spec_l04Size.l0]; rw [if_neg (by omega)]; rfl
  | succ d ih =>
    intro i x y h
    have hi : i < l.length := by omega
    rw [List.drop_eq_getElem_cons hi]
    refine Ev.step (f := fun k => spec_l04Size.l0 k l a b (mx x (wrap64 (wrap64 (l[i].f0 - a) + 1))) (mx y (wrap64 (wrap64 (l[i].f1 - b) + 1))) ((i + 1 : Nat) : Int)) (fun k => ?_) (ih (i + 1) _ _ (by omega))
    simp only [spec_l04Size.l0]
    rw [if_pos (by omega), if_pos (by omega), rdc_nat l hi, wrap_succ hi hl]
def sizeX (l : List S103) : Int := foldMx (fun c => wrap64 (wrap64 (c.f0 - leastX l) + 1)) l 0
def sizeY (l : List S103) : Int := foldMx (fun c => wrap64 (wrap64 (c.f1 - leastY l) + 1)) l 0
theorem spec_size (l : List S103) (hl : l.length ≤ 9223372036854775807) (h0 : 0 < l.length) : Ev (fun k => spec_l04Size.f k l) (sizeX l, sizeY l) := by
  simp only [spec_l04Size.f]
  refine Ev.bind (spec_least l hl h0) ?_
  have := spec_size_loop l (leastX l) (leastY l) hl l.length 0 0 0 (by omega)
  rw [List.drop_zero] at this
  exact this

theorem size_iff (g : S103 → Int) (l : List S103) (hb : ∀ c ∈ l, -100 ≤ g c ∧ g c ≤ 100) : decide (foldMx (fun c => wrap64 (wrap64 (g c - 0) + 1)) l 0 ≤ 20) = l.all (fun c => decide (g c < 20)) := by
  rw [Bool.eq_iff_iff, decide_eq_true_eq, foldMx_iff, List.all_eq_true]
  constructor
  · rintro ⟨_, h⟩ c hc
    have h3 := h c hc; have h4 := hb c hc
    unfold wrap64 at h3
    simp only [decide_eq_true_eq]; omega
  · intro h
    refine ⟨by omega, fun c hc => ?_⟩
    have h3 := h c hc; have h4 := hb c hc
    simp only [decide_eq_true_eq] at h3
    unfold wrap64; omega
theorem spec_IsRegion_ev (l : List S103) (hl : l.length ≤ 9223372036854775807) : Ev (fun k => spec_IsRegion.f k l) (regionB l) := by
  simp only [spec_IsRegion.f]
  refine Ev.bind (spec_IsShape_ev l hl) ?_
  unfold regionB
  cases hs : shapeB l with
  | false => simpa using Ev.now false
  | true =>
    obtain ⟨p1, p2, p3⟩ := shapeB_parts hs
    simp only [if_true, Bool.true_and]
    refine Ev.bind (spec_size l hl p1) (Ev.bind (spec_least l hl p1) ?_)
    by_cases c1 : leastX l = 0
    · by_cases c2 : leastY l = 0
      · simp only [if_pos c1, if_pos c2]
        have e1 := size_iff (·.f0) l (fun c hc => by have := p3 c hc; omega)
        have e2 := size_iff (·.f1) l (fun c hc => by have := p3 c hc; omega)
        have s1 : sizeX l = foldMx (fun c => wrap64 (wrap64 (c.f0 - 0) + 1)) l 0 := by unfold sizeX; rw [c1]
        have s2 : sizeY l = foldMx (fun c => wrap64 (wrap64 (c.f1 - 0) + 1)) l 0 := by unfold sizeY; rw [c2]
        rw [s1, s2, ← e1, ← e2]
        by_cases c3 : foldMx (fun c => wrap64 (wrap64 (c.f0 - 0) + 1)) l 0 ≤ 20
        · simp only [if_pos c3]; refine ev_eq (Ev.now _) ?_; rw [decide_eq_true c1, decide_eq_true c2, decide_eq_true c3]; simp only [Bool.true_and]
        · simp only [if_neg c3]; refine ev_eq (Ev.now _) ?_; rw [decide_eq_false c3]; simp only [Bool.false_and, Bool.and_false]
      · simp only [if_pos c1, if_neg c2]; refine ev_eq (Ev.now _) ?_; simp [c1, c2]
    · simp only [if_neg c1]; refine ev_eq (Ev.now _) ?_; simp [c1]

theorem spec_weights_loop (m : Int) (w : List Int) (hw : w.length ≤ 9223372036854775807) : ∀ d i, i + d = w.length → Ev (fun k => spec_l19Is.l0 k (i : Int) m w) ((w.drop i).all (fun x => decide (0 ≤ x) && decide (x ≤ wrap64 (m - 1)))) := by
  intro d
  induction d with
  | zero =>
    intro i h
    rw [List.drop_eq_nil_of_le (by omega)]
    exact ev_const fun k => by simp only [spec_l19Is.l0]; rw [if_neg (by omega)]; rfl
  | succ d ih =>
    intro i h
    have hi : i < w.length := by omega
    rw [List.drop_eq_getElem_cons hi, List.all_cons]
    have step : ∀ k, spec_l19Is.l0 (k + 1) (i : Int) m w = if (decide (0 ≤ w[i]) && decide (w[i] ≤ wrap64 (m - 1))) = true then spec_l19Is.l0 k ((i + 1 : Nat) : Int) m w else some false := fun k => by
      simp only [spec_l19Is.l0]
      rw [if_pos (by omega), if_pos (by omega), rd_nat w hi, wrap_succ hi hw, spec_in]; rfl
    refine Ev.step step ?_
    cases q : (decide (0 ≤ w[i]) && decide (w[i] ≤ wrap64 (m - 1))) with
    | true => simp only [if_true]; exact ev_eq (ih (i + 1) (by omega)) (by simp)
    | false => simp only [Bool.false_eq_true, if_false]; exact ev_eq (Ev.now _) (by simp)
theorem spec_weights (l : List S103) (m : Int) (w : List Int) (hw : w.length ≤ 9223372036854775807) : Ev (fun k => spec_l19Is.f k l m w) (weightB l.length m w) := by
  have hj : ∀ x, Ev (fun k => spec_l19Is.j0 k x m w) (!x && w.all (fun x => decide (0 ≤ x) && decide (x ≤ wrap64 (m - 1)))) := fun x => by
    refine Ev.step (f := fun k => if x = true then some false else spec_l19Is.l0 k 0 m w) (fun k => by simp only [spec_l19Is.j0]) ?_
    cases x with
    | true => simpa using Ev.now false
    | false => simpa using spec_weights_loop m w hw w.length 0 (by omega)
  simp only [spec_l19Is.f, spec_in, Option.bind_some, weightB]
  cases (decide (2 ≤ m) && decide (m ≤ 6)) with
  | false => simpa using hj true
  | true =>
    simp only [if_true, Bool.true_and]
    refine ev_eq (hj _) ?_
    by_cases c : (w.length : Int) = (l.length : Int)
    · simp [c]
    · simp [c]

theorem spec_add_loop (l : List S103) (m : Int) (v w : List Int) (hv : okW l.length m v) (hw : okW l.length m w) (hl : l.length ≤ 1048576) : ∀ d i, i + d = l.length → Ev (fun k => spec_AddWeightings.l0 k l ((zipAdd m v w).take i) (i : Int) m v m w) (m, zipAdd m v w, 0) := by
  intro d
  induction d with
  | zero =>
    intro i h
    have e : (zipAdd m v w).take i = zipAdd m v w := List.take_of_length_le (by have := zipAdd_len m v w; have := hv.2.1; omega)
    rw [e]
    exact ev_const fun k => by simp only [spec_AddWeightings.l0]; rw [if_neg (by omega)]
  | succ d ih =>
    intro i h
    have h1 : i < v.length := by have := hv.2.1; omega
    have h2 : i < w.length := by have := hw.2.1; omega
    have hm := hv.1
    refine Ev.step (f := fun k => spec_AddWeightings.l0 k l ((zipAdd m v w).take (i + 1)) ((i + 1 : Nat) : Int) m v m w) (fun k => ?_) (ih (i + 1) (by omega))
    simp only [spec_AddWeightings.l0]
    rw [if_pos (by omega), if_pos (by omega), if_pos (by omega), if_pos (by omega), if_neg (by omega), if_pos (by simp; omega), add_word hv hw (by omega) h1 h2, ← zipAdd_snoc m v w h1 h2, wrap_succ h1 (by have := hv.2.1; omega)]
theorem spec_add_ev (l : List S103) (m m2 : Int) (v w : List Int) (hl : l.length ≤ 1048576) (hv : v.length ≤ 9223372036854775807) (hw : w.length ≤ 9223372036854775807) : Ev (fun k => spec_AddWeightings.f k l m v m2 w) (addB (regionB l) l.length m v m2 w) := by
  have hj : Ev (fun k => spec_AddWeightings.j0 k l true m v m2 w) (0, [], 2) := ev_const fun k => by simp only [spec_AddWeightings.j0, if_true]
  simp only [spec_AddWeightings.f]
  refine Ev.bind (spec_IsRegion_ev _ (by omega)) ?_
  unfold addB
  cases c1 : regionB l with
  | false => simpa using Ev.now _
  | true =>
    simp only [if_true]
    refine Ev.bind (spec_weights _ m v hv) ?_
    cases c2 : weightB l.length m v with
    | false => simpa using hj
    | true =>
      simp only [if_true]
      refine Ev.bind (spec_weights _ m2 w hw) ?_
      cases c3 : weightB l.length m2 w with
      | false => simpa using hj
      | true =>
        simp only [if_true]
        by_cases c : m = m2
        · subst c
          rw [if_pos rfl]
          refine Ev.step (f := fun k => spec_AddWeightings.l0 k l [] 0 m v m w) (fun k => by simp only [spec_AddWeightings.j0, bne_self_eq_false, Bool.false_eq_true, if_false]) ?_
          simpa using spec_add_loop l m v w (okW_of c2) (okW_of c3) hl l.length 0 (by omega)
        · rw [if_neg c]
          have : (m != m2) = true := bne_iff_ne.mpr c
          rw [this]
          exact hj

theorem impl_in (a b c : Int) : impl_within.f a b c = some (decide (b ≤ a) && decide (a ≤ c)) := by
  unfold impl_within.f; by_cases h : b ≤ a
  · rw [if_pos h]; simp [h]
  · rw [if_neg h]; simp [h]

theorem impl_coord (n : Int) : impl_isCoordinate.f n = some (decide (-100 ≤ n) && decide (n ≤ 100)) := by simp [impl_isCoordinate.f, impl_in]
theorem impl_cmp (a b : Int) : cmp_Compare_int64.f a b = some (if a < b then -1 else if a > b then 1 else 0) := by
  simp only [cmp_Compare_int64.f, cmp_isNaN_int64.f, Option.bind_some, bne_self_eq_false, Bool.false_eq_true, if_false]
  split
  · rfl
  · split <;> rfl
def cmpC (a b : S103) : Int := if a.f1 < b.f1 then -1 else if a.f1 > b.f1 then 1 else if a.f0 < b.f0 then -1 else if a.f0 > b.f0 then 1 else 0
theorem impl_compare (a b : S103) : impl_compareCells.f a.f0 a.f1 b.f0 b.f1 = some (cmpC a b) := by
  simp only [impl_compareCells.f, impl_cmp, Option.bind_some, cmpC]
  by_cases h1 : a.f1 < b.f1
  · simp [h1]
  · by_cases h2 : a.f1 > b.f1
    · simp [h1, h2]
    · simp [h1, h2]
theorem cmpC_less (a b : S103) : decide (cmpC a b < 0) = lessC a b := by
  unfold cmpC lessC
  by_cases h1 : a.f1 < b.f1
  · simp [h1]
  · by_cases h2 : a.f1 > b.f1
    · simp only [h1, h2, if_false, if_true]; simp; omega
    · have e : a.f1 = b.f1 := by omega
      by_cases h3 : a.f0 < b.f0
      · simp [e, h3]
      · by_cases h4 : a.f0 > b.f0 <;> simp [e, h3, h4]
theorem impl_shape_loop (l : List S103) (hl : l.length ≤ 9223372036854775807) : ∀ d i, i + d = l.length → Ev (fun k => impl_IsShape.l0 k l l (l.length : Int) (i : Int)) (shB (l.drop i) (prevC l i) && lenB l) := by
  intro d
  induction d with
  | zero =>
    intro i h
    rw [List.drop_eq_nil_of_le (by omega)]
    exact ev_const fun k => by
      simp only [impl_IsShape.l0]; rw [if_neg (by omega)]
      by_cases c : (l.length : Int) ≥ 1
      · rw [if_pos c]; simp only [shB, lenB, Bool.true_and, decide_eq_true c]
      · rw [if_neg c]; simp only [shB, lenB, Bool.true_and, decide_eq_false c, Bool.false_and]
  | succ d ih =>
    intro i h
    have hi : i < l.length := by omega
    rw [List.drop_eq_getElem_cons hi]
    simp only [shB]
    have step : ∀ k, impl_IsShape.l0 (k + 1) l l (l.length : Int) (i : Int) = if (coordB l[i] && nextB (prevC l i) l[i]) = true then impl_IsShape.l0 k l l (l.length : Int) ((i + 1 : Nat) : Int) else some false := fun k => by
      simp only [impl_IsShape.l0]
      rw [if_pos (by omega), if_pos (by omega), if_pos (by omega), rdc_nat l hi, wrap_succ hi hl, impl_coord, impl_coord]
      simp only [Option.bind_some]
      cases h1 : (decide (-100 ≤ l[i].f0) && decide (l[i].f0 ≤ 100)) with
      | false => simp [coordB, h1]
      | true =>
        cases h2 : (decide (-100 ≤ l[i].f1) && decide (l[i].f1 ≤ 100)) with
        | false => simp [coordB, h1, h2]
        | true =>
          have hc : coordB l[i] = true := by unfold coordB; rw [h1, h2]; rfl
          simp only [if_true, hc, Bool.true_and]
          by_cases z : i = 0
          · rw [if_neg (by omega), if_pos (by simp [prevC, z, nextB])]
          · have e : wrap64 ((i : Int) - 1) = ((i - 1 : Nat) : Int) := by unfold wrap64; omega
            rw [if_pos (by omega), e, if_pos (by omega), if_pos (by omega), rdc_nat l (by omega), impl_compare, prevC_pos l z hi]
            simp only [Option.bind_some, nextB, ← cmpC_less]
            by_cases q : cmpC l[i - 1] l[i] ≥ 0
            · rw [if_pos q, if_neg (by simp; omega)]
            · rw [if_neg q, if_pos (by simp; omega)]
    refine Ev.step step ?_
    cases q : (coordB l[i] && nextB (prevC l i) l[i]) with
    | true =>
      simp only [if_true]
      refine ev_eq (ih (i + 1) (by omega)) ?_
      rw [prevC_succ l hi]
      simp only [Bool.and_eq_true] at q
      rw [q.1, q.2]; simp
    | false =>
      simp only [Bool.false_eq_true, if_false]
      refine ev_eq (Ev.now _) ?_
      rw [← Bool.and_assoc, q]; simp
theorem impl_IsShape_ev (l : List S103) (hl : l.length ≤ 9223372036854775807) : Ev (fun k => impl_IsShape.f k l) (shapeB l) := by
  have := impl_shape_loop l hl l.length 0 (by omega)
  simpa [impl_IsShape.f, prevC, shapeB] using this

theorem impl_corner_loop (l : List S103) (hl : l.length ≤ 9223372036854775807) : ∀ d i (x y : Int), i + d = l.length → Ev (fun k => impl_corner.l0 k l (l.length : Int) (i : Int) x y) (foldMn (·.f0) (l.drop i) x, foldMn (·.f1) (l.drop i) y) := by
  intro d
  induction d with
  | zero =>
    intro i x y h
    rw [List.drop_eq_nil_of_le (by omega)]
    exact ev_const fun k => by simp only [impl_corner.l0]; rw [if_neg (by omega)]; rfl
  | succ d ih =>
    intro i x y h
    have hi : i < l.length := by omega
    rw [List.drop_eq_getElem_cons hi]
    refine Ev.step (f := fun k => impl_corner.l0 k l (l.length : Int) ((i + 1 : Nat) : Int) (mn x l[i].f0) (mn y l[i].f1)) (fun k => ?_) (ih (i + 1) _ _ (by omega))
    simp only [impl_corner.l0]
    rw [if_pos (by omega), if_pos (by omega), if_pos (by omega), rdc_nat l hi, wrap_succ hi hl]
theorem impl_corner_ev (l : List S103) (hl : l.length ≤ 9223372036854775807) (h0 : 0 < l.length) : Ev (fun k => impl_corner.f k l) (leastX l, leastY l) := by
  have := impl_corner_loop l hl l.length 0 (hd0 l).f0 (hd0 l).f1 (by omega)
  simp only [impl_corner.f, if_pos (show 0 < (l.length : Int) by omega)]
  rw [List.drop_zero] at this
  exact this

theorem impl_reach_loop (l : List S103) (hl : l.length ≤ 9223372036854775807) : ∀ d i (x y : Int), i + d = l.length → Ev (fun k => impl_reach.l0 k l (l.length : Int) (i : Int) x y) (foldMx (·.f0) (l.drop i) x, foldMx (·.f1) (l.drop i) y) := by
  intro d
  induction d with
  | zero =>
    intro i x y h
    rw [List.drop_eq_nil_of_le (by omega)]
    exact ev_const fun k => by simp only [impl_reach.l0]; rw [if_neg (by omega)]; rfl
  | succ d ih =>
    intro i x y h
    have hi : i < l.length := by omega
    rw [List.drop_eq_getElem_cons hi]
    refine Ev.step (f := fun k => impl_reach.l0 k l (l.length : Int) ((i + 1 : Nat) : Int) (mx x l[i].f0) (mx y l[i].f1)) (fun k => ?_) (ih (i + 1) _ _ (by omega))
    simp only [impl_reach.l0]
    rw [if_pos (by omega), if_pos (by omega), if_pos (by omega), rdc_nat l hi, wrap_succ hi hl]
theorem impl_reach_ev (l : List S103) (hl : l.length ≤ 9223372036854775807) (h0 : 0 < l.length) : Ev (fun k => impl_reach.f k l) (foldMx (·.f0) l (hd0 l).f0, foldMx (·.f1) l (hd0 l).f1) := by
  have := impl_reach_loop l hl l.length 0 (hd0 l).f0 (hd0 l).f1 (by omega)
  simp only [impl_reach.f, if_pos (show 0 < (l.length : Int) by omega)]
  rw [List.drop_zero] at this
  exact this

theorem reach_iff (g : S103 → Int) (l : List S103) (h0 : 0 < l.length) : decide (foldMx g l (g (hd0 l)) < 20) = l.all (fun c => decide (g c < 20)) := by
  have h := foldMx_iff g 19 l (g (hd0 l))
  rw [Bool.eq_iff_iff, decide_eq_true_eq, List.all_eq_true]
  constructor
  · intro q c hc
    have := (h.mp (by omega)).2 c hc
    simp only [decide_eq_true_eq]; omega
  · intro q
    have : foldMx g l (g (hd0 l)) ≤ 19 := h.mpr ⟨by have := q _ (hd0_mem h0); simp only [decide_eq_true_eq] at this; omega, fun c hc => by have := q c hc; simp only [decide_eq_true_eq] at this; omega⟩
    omega
theorem impl_IsRegion_ev (l : List S103) (hl : l.length ≤ 9223372036854775807) : Ev (fun k => impl_IsRegion.f k l) (regionB l) := by
  simp only [impl_IsRegion.f]
  refine Ev.bind (impl_IsShape_ev l hl) ?_
  unfold regionB
  cases hs : shapeB l with
  | false => simpa using Ev.now false
  | true =>
    obtain ⟨p1, p2, p3⟩ := shapeB_parts hs
    simp only [if_true, Bool.true_and]
    refine Ev.bind (impl_corner_ev l hl p1) ?_
    by_cases c1 : leastX l = 0
    · by_cases c2 : leastY l = 0
      · have q : ¬ ((!(leastX l == 0) || !(leastY l == 0)) = true) := by simp [c1, c2]
        simp only [if_neg q]
        refine Ev.bind (impl_reach_ev l hl p1) ?_
        have e1 : decide (foldMx (·.f0) l (hd0 l).f0 < 20) = l.all (fun c => decide (c.f0 < 20)) := reach_iff (·.f0) l p1
        have e2 : decide (foldMx (·.f1) l (hd0 l).f1 < 20) = l.all (fun c => decide (c.f1 < 20)) := reach_iff (·.f1) l p1
        rw [← e1, ← e2]
        by_cases c3 : foldMx (·.f0) l (hd0 l).f0 < 20
        · simp only [if_pos c3]; refine ev_eq (Ev.now _) ?_; rw [decide_eq_true c1, decide_eq_true c2, decide_eq_true c3]; simp only [Bool.true_and]
        · simp only [if_neg c3]; refine ev_eq (Ev.now _) ?_; rw [decide_eq_false c3]; simp only [Bool.false_and, Bool.and_false]
      · have q : (!(leastX l == 0) || !(leastY l == 0)) = true := by simp [c2]
        simp only [if_pos q]; refine ev_eq (Ev.now _) ?_; simp [c2]
    · have q : (!(leastX l == 0) || !(leastY l == 0)) = true := by simp [c1]
      simp only [if_pos q]; refine ev_eq (Ev.now _) ?_; simp [c1]

theorem anyM_ev {α : Type} (p : Nat → α → Option Bool) (q : α → Bool) : ∀ l : List α, (∀ x ∈ l, Ev (fun k => p k x) (q x)) → Ev (fun k => anyM (p k) l) (l.any q)
  | [], _ => by simpa [anyM] using Ev.now false
  | x :: xs, h => by
    simp only [anyM, List.any_cons]
    refine Ev.bind (h x (List.mem_cons_self ..)) ?_
    cases c : q x with
    | true => simpa using Ev.now true
    | false => simpa using anyM_ev p q xs (fun y hy => h y (List.mem_cons_of_mem _ hy))
theorem anyM_some {α : Type} (p : α → Option Bool) (q : α → Bool) : ∀ l : List α, (∀ x ∈ l, p x = some (q x)) → anyM p l = some (l.any q)
  | [], _ => rfl
  | x :: xs, h => by
    simp only [anyM, List.any_cons, h x (List.mem_cons_self ..), Option.bind_some]
    cases c : q x with
    | true => simp
    | false => simpa using anyM_some p q xs (fun y hy => h y (List.mem_cons_of_mem _ hy))

theorem impl_weights (l : List S103) (m : Int) (w : List Int) : impl_isWeighting.f l m w = some (weightB l.length m w) := by
  simp only [impl_isWeighting.f, impl_isModulus.f, impl_in, Option.bind_some, weightB]
  cases (decide (2 ≤ m) && decide (m ≤ 6)) with
  | false => simp
  | true =>
    simp only [if_true, Bool.true_and]
    by_cases c : (w.length : Int) = (l.length : Int)
    · rw [if_pos c, anyM_some _ (fun x => !(decide (0 ≤ x) && decide (x ≤ wrap64 (m - 1)))) w (fun x _ => by simp only [impl_isWeighting_1.f, impl_in, Option.bind_some])]
      simp only [Option.bind_some, decide_eq_true c, Bool.true_and, List.any_eq_not_all_not, Bool.not_not]
    · rw [if_neg c, decide_eq_false c]; simp

theorem impl_add_loop (n : Nat) (m m2 : Int) (v w : List Int) (hv : okW n m v) (hw : okW n m w) (hl : n ≤ 1048576) : ∀ d i, i + d = v.length → Ev (fun k => impl_AddWeightings.l0 k v (v.length : Int) (i : Int) m v m2 w m ((zipAdd m v w).take i)) (m, zipAdd m v w, 0) := by
  intro d
  induction d with
  | zero =>
    intro i h
    have e : (zipAdd m v w).take i = zipAdd m v w := List.take_of_length_le (by have := zipAdd_len m v w; have := hv.2.1; omega)
    rw [e]
    exact ev_const fun k => by simp only [impl_AddWeightings.l0]; rw [if_neg (by omega)]
  | succ d ih =>
    intro i h
    have h1 : i < v.length := by omega
    have h2 : i < w.length := by have := hw.2.1; have := hv.2.1; omega
    have hm := hv.1
    refine Ev.step (f := fun k => impl_AddWeightings.l0 k v (v.length : Int) ((i + 1 : Nat) : Int) m v m2 w m ((zipAdd m v w).take (i + 1))) (fun k => ?_) (ih (i + 1) (by omega))
    simp only [impl_AddWeightings.l0]
    rw [if_pos (by omega), if_pos (by omega), if_pos (by omega), if_pos (by omega), if_neg (by omega), if_pos (by have := hv.2.1; simp; omega), add_word hv hw (by have := hv.2.1; omega) h1 h2, ← zipAdd_snoc m v w h1 h2, wrap_succ h1 (by have := hv.2.1; omega)]
theorem impl_add_ev (l : List S103) (m m2 : Int) (v w : List Int) (hl : l.length ≤ 1048576) : Ev (fun k => impl_AddWeightings.f k l m v m2 w) (addB (regionB l) l.length m v m2 w) := by
  have hj : Ev (fun k => impl_AddWeightings.j0 k true m v m2 w) (0, [], 2) := ev_const fun k => by simp only [impl_AddWeightings.j0, if_true]
  simp only [impl_AddWeightings.f, impl_weights, Option.bind_some]
  refine Ev.bind (impl_IsRegion_ev _ (by omega)) ?_
  unfold addB
  cases c1 : regionB l with
  | false => simpa using Ev.now _
  | true =>
    simp only [if_true]
    cases c2 : weightB l.length m v with
    | false => simpa using hj
    | true =>
      simp only [if_true]
      cases c3 : weightB l.length m2 w with
      | false => simpa using hj
      | true =>
        simp only [if_true]
        by_cases c : m = m2
        · subst c
          rw [if_pos rfl]
          refine Ev.step (f := fun k => impl_AddWeightings.l0 k v (v.length : Int) 0 m v m w m []) (fun k => by simp only [impl_AddWeightings.j0, bne_self_eq_false, Bool.false_eq_true, if_false]) ?_
          simpa using impl_add_loop l.length m m v w (okW_of c2) (okW_of c3) hl v.length 0 (by omega)
        · rw [if_neg c]
          have : (m != m2) = true := bne_iff_ne.mpr c
          rw [this]
          exact hj

theorem toInts_loop (l : List Int) (hl : l.length ≤ 9223372036854775807) : ∀ d i (y : List Int), i + d = l.length → y.length = l.length → y.take i = l.take i → Ev (fun k => laws_toInt64S.l0 k l y (i : Int)) l := by
  intro d
  induction d with
  | zero =>
    intro i y h hy ht
    have e : y = l := by
      rw [List.take_of_length_le (by omega), List.take_of_length_le (by omega)] at ht; exact ht
    subst e
    exact ev_const fun k => by simp only [laws_toInt64S.l0]; rw [if_neg (by omega)]
  | succ d ih =>
    intro i y h hy ht
    have hi : i < l.length := by omega
    refine Ev.step (f := fun k => laws_toInt64S.l0 k l (y.set i l[i]) ((i + 1 : Nat) : Int)) (fun k => ?_) (ih (i + 1) (y.set i l[i]) (by omega) (by simp [hy]) ?_)
    · simp only [laws_toInt64S.l0]
      rw [if_pos (by omega), if_pos (by omega), if_pos (by omega), rd_nat l hi, wrap_succ hi hl, Int.toNat_natCast]
    · rw [List.take_succ_eq_append_getElem (by simp; omega), List.take_succ_eq_append_getElem hi, List.take_set_of_le (Nat.le_refl i), ht]; simp
theorem toInts (l : List Int) (hl : l.length ≤ 35184372088832) : Ev (fun k => laws_toInt64S.f k l) l := by
  have := toInts_loop l (by omega) l.length 0 (List.replicate l.length 0) (by omega) (by simp) (by simp)
  simp only [laws_toInt64S.f, Int.toNat_natCast, if_pos hl, if_pos (Int.natCast_nonneg l.length)]
  exact this

theorem eqInts_loop (l : List Int) (hl : l.length ≤ 9223372036854775807) : ∀ d i, i + d = l.length → Ev (fun k => laws_eqInt64S.l0 k l l (i : Int)) true := by
  intro d
  induction d with
  | zero => intro i h; exact ev_const fun k => by simp only [laws_eqInt64S.l0]; rw [if_neg (by omega)]
  | succ d ih =>
    intro i h
    have hi : i < l.length := by omega
    refine Ev.step (f := fun k => laws_eqInt64S.l0 k l l ((i + 1 : Nat) : Int)) (fun k => ?_) (ih (i + 1) (by omega))
    simp only [laws_eqInt64S.l0]
    rw [if_pos (by omega), if_pos (by omega), if_pos (by omega), wrap_succ hi hl]; simp
theorem eqInts (l : List Int) (hl : l.length ≤ 9223372036854775807) : Ev (fun k => laws_eqInt64S.f k l l) true := by
  have := eqInts_loop l hl l.length 0 (by omega)
  simpa [laws_eqInt64S.f] using this

theorem eqWeighting_ev (m : Int) (w : List Int) (hw : w.length ≤ 9223372036854775807) : Ev (fun k => laws_eqWeighting.f k m w m w) true := by
  simp only [laws_eqWeighting.f, if_true]; exact Ev.bind (eqInts w hw) (by simpa using Ev.now true)

theorem szInts (l : List Int) (n : Int) (hl : l.length ≤ 9223372036854775807) (h0 : 0 ≤ n) (h1 : n ≤ 4611686018427387904) : ∃ r, laws_szInt64S.f l n = some r ∧ -1 ≤ r ∧ r ≤ n ∧ (0 ≤ r → r = n - l.length) := by
  have e : wrap64 (n - (l.length : Int)) = n - l.length := by unfold wrap64; omega
  unfold laws_szInt64S.f
  rw [e]
  by_cases c : n - (l.length : Int) < 0
  · rw [if_pos c]; exact ⟨_, rfl, by omega, by omega, by omega⟩
  · rw [if_neg c]; exact ⟨_, rfl, by omega, by omega, by omega⟩

theorem toWeighting_ev (m : Int) (w : List Int) (hw : w.length ≤ 35184372088832) : Ev (fun k => laws_toWeighting.f k m w) (m, w) := by
  simp only [laws_toWeighting.f]; exact Ev.bind (toInts w hw) (Ev.now _)
theorem szWeighting_ev (m : Int) (w : List Int) (n : Int) (hl : w.length ≤ 9223372036854775807) (h0 : 0 ≤ n) (h1 : n ≤ 4611686018427387904) : ∃ r, laws_szWeighting.f m w n = some r ∧ r ≤ n ∧ (r < 0 ∨ r = n - w.length) := by
  obtain ⟨r, e, b1, b2, b3⟩ := szInts w n hl h0 h1
  simp only [laws_szWeighting.f, e, Option.bind_some]
  by_cases c : r < 0
  · rw [if_pos c]; exact ⟨_, rfl, by omega, .inl (by omega)⟩
  · rw [if_neg c]; exact ⟨_, rfl, by omega, .inr (b3 (by omega))⟩

theorem toCells_loop (l : List S105) (hl : l.length ≤ 9223372036854775807) : ∀ d i (y : List S103), i + d = l.length → y.length = l.length → y.take i = (cellsOf l).take i → Ev (fun k => laws_toCellS.l0 k l y (i : Int)) (cellsOf l) := by
  intro d
  induction d with
  | zero =>
    intro i y h hy ht
    have e : y = cellsOf l := by
      rw [List.take_of_length_le (by omega), List.take_of_length_le (by rw [cellsOf_length]; omega)] at ht; exact ht
    subst e
    exact ev_const fun k => by simp only [laws_toCellS.l0]; rw [if_neg (by omega)]
  | succ d ih =>
    intro i y h hy ht
    have hi : i < l.length := by omega
    have hi2 : i < (cellsOf l).length := by rw [cellsOf_length]; exact hi
    have e : (cellsOf l)[i] = ⟨l[i].f0, l[i].f1⟩ := by simp [cellsOf]
    refine Ev.step (f := fun k => laws_toCellS.l0 k l (y.set i (cellsOf l)[i]) ((i + 1 : Nat) : Int)) (fun k => ?_) (ih (i + 1) (y.set i (cellsOf l)[i]) (by omega) (by simp [hy]) ?_)
    · simp only [laws_toCellS.l0]
      rw [if_pos (by omega), if_pos (by omega), rdl_nat l hi, wrap_succ hi hl, e]
      simp only [laws_toCell.f, Option.bind_some, if_pos (show (i : Int) < (y.length : Int) by omega), Int.toNat_natCast]
    · rw [List.take_succ_eq_append_getElem (by simp; omega), List.take_succ_eq_append_getElem hi2, List.take_set_of_le (Nat.le_refl i), ht]; simp
theorem toCells (l : List S105) (hl : l.length ≤ 17592186044416) : Ev (fun k => laws_toCellS.f k l) (cellsOf l) := by
  have := toCells_loop l (by omega) l.length 0 (List.replicate l.length z103) (by omega) (by simp) (by simp)
  simp only [laws_toCellS.f, Int.toNat_natCast, if_pos hl, if_pos (Int.natCast_nonneg l.length)]
  exact this

theorem eqCells_loop (l : List S103) (hl : l.length ≤ 9223372036854775807) : ∀ d i, i + d = l.length → Ev (fun k => laws_eqCellS.l0 k l l (i : Int)) true := by
  intro d
  induction d with
  | zero => intro i h; exact ev_const fun k => by simp only [laws_eqCellS.l0]; rw [if_neg (by omega)]
  | succ d ih =>
    intro i h
    have hi : i < l.length := by omega
    refine Ev.step (f := fun k => laws_eqCellS.l0 k l l ((i + 1 : Nat) : Int)) (fun k => ?_) (ih (i + 1) (by omega))
    simp only [laws_eqCellS.l0]
    rw [if_pos (by omega), if_pos (by omega), if_pos (by omega), wrap_succ hi hl]; simp [laws_eqCell.f]
theorem eqCells (l : List S103) (hl : l.length ≤ 9223372036854775807) : Ev (fun k => laws_eqCellS.f k l l) true := by
  have := eqCells_loop l hl l.length 0 (by omega)
  simpa [laws_eqCellS.f] using this

theorem szCells (l : List S105) (n : Int) (hl : l.length ≤ 9223372036854775807) (h0 : 0 ≤ n) (h1 : n ≤ 4611686018427387904) : ∃ r, laws_szCellS.f l n = some r ∧ -1 ≤ r ∧ r ≤ n ∧ (0 ≤ r → r = n - l.length) := by
  have e : wrap64 (n - (l.length : Int)) = n - l.length := by unfold wrap64; omega
  unfold laws_szCellS.f
  rw [e]
  by_cases c : n - (l.length : Int) < 0
  · rw [if_pos c]; exact ⟨_, rfl, by omega, by omega, by omega⟩
  · rw [if_neg c]; exact ⟨_, rfl, by omega, by omega, by omega⟩

theorem markCells_loop (n : Nat) (a : Int) (h0 : 0 ≤ a) (h1 : a + 2 * n ≤ 4611686018427387904) : ∀ d i (y : List S103), i + d = n → y.length = n → ∃ z, z.length = n ∧ Ev (fun k => laws_markCellS.l0 k y (a + 2 * (i : Int)) (i : Int)) (a + 2 * n, z) := by
  intro d
  induction d with
  | zero =>
    intro i y h hy
    obtain rfl : i = n := by omega
    exact ⟨y, hy, ev_const fun k => by simp only [laws_markCellS.l0]; rw [if_neg (by omega)]⟩
  | succ d ih =>
    intro i y h hy
    have e1 : wrap64 (wrap64 (a + 2 * (i : Int) + 1) + 1) = a + 2 * ((i + 1 : Nat) : Int) := by unfold wrap64; omega
    have e2 : wrap64 ((i : Int) + 1) = ((i + 1 : Nat) : Int) := by unfold wrap64; omega
    have step : ∀ k, laws_markCellS.l0 (k + 1) y (a + 2 * (i : Int)) (i : Int) = laws_markCellS.l0 k ((y.set i ⟨a + 2 * (i : Int), (rd_T103 y (i : Int)).f1⟩).set i ⟨(rd_T103 (y.set i ⟨a + 2 * (i : Int), (rd_T103 y (i : Int)).f1⟩) (i : Int)).f0, wrap64 (a + 2 * (i : Int) + 1)⟩) (a + 2 * ((i + 1 : Nat) : Int)) ((i + 1 : Nat) : Int) := fun k => by
      simp only [laws_markCellS.l0]
      rw [if_pos (by omega), if_pos (by omega)]
      simp only [Option.bind_some, e1, e2, Int.toNat_natCast]
    obtain ⟨z, hz, hE⟩ := ih (i + 1) _ (by omega) (show (((y.set i ⟨a + 2 * (i : Int), (rd_T103 y (i : Int)).f1⟩).set i ⟨(rd_T103 (y.set i ⟨a + 2 * (i : Int), (rd_T103 y (i : Int)).f1⟩) (i : Int)).f0, wrap64 (a + 2 * (i : Int) + 1)⟩).length = n) by simp [hy])
    exact ⟨z, hz, Ev.step step hE⟩
theorem markCells (l : List S103) (a : Int) (h0 : 0 ≤ a) (h1 : a + 2 * l.length ≤ 4611686018427387904) : ∃ z, z.length = l.length ∧ Ev (fun k => laws_markCellS.f k l a) (a + 2 * l.length, z) := by
  obtain ⟨z, hz, hE⟩ := markCells_loop l.length a h0 h1 l.length 0 l (by omega) rfl
  exact ⟨z, hz, by simpa [laws_markCellS.f] using hE⟩

/-- The numbers from a on. -/
def seqI (a : Int) : Nat → List Int
  | 0 => []
  | n + 1 => a :: seqI (a + 1) n
theorem seqI_length : ∀ n a, (seqI a n).length = n
  | 0, _ => rfl
  | n + 1, a => by simp [seqI, seqI_length n]
theorem seqI_snoc : ∀ n a, seqI a (n + 1) = seqI a n ++ [a + n]
  | 0, a => by simp [seqI]
  | n + 1, a => by
    rw [seqI, seqI_snoc n (a + 1), seqI]
    simp only [List.cons_append]
    congr 3; omega
theorem seqI_get : ∀ n a i (h : i < (seqI a n).length), (seqI a n)[i] = a + i
  | 0, _, _, h => by simp [seqI] at h
  | n + 1, a, 0, _ => by simp [seqI]
  | n + 1, a, i + 1, h => by
    simp only [seqI, List.getElem_cons_succ]
    rw [seqI_get n (a + 1) i]; omega
theorem markInts_loop (a : Int) (n : Nat) (h0 : 0 ≤ a) (h1 : a + n ≤ 4611686018427387904) : ∀ d i (y : List Int), i + d = n → y.length = d → Ev (fun k => laws_markInt64S.l0 k (seqI a i ++ y) (a + i) (i : Int)) (a + n, seqI a n) := by
  intro d
  induction d with
  | zero =>
    intro i y h hy
    have : y = [] := List.eq_nil_of_length_eq_zero hy
    subst this
    obtain rfl : i = n := by omega
    exact ev_const fun k => by simp only [laws_markInt64S.l0]; rw [if_neg (by simp [seqI_length])]; simp
  | succ d ih =>
    intro i y h hy
    obtain ⟨z, ys, rfl⟩ : ∃ z ys, y = z :: ys := by cases y with | nil => simp at hy | cons z ys => exact ⟨z, ys, rfl⟩
    refine Ev.step (f := fun k => laws_markInt64S.l0 k (seqI a (i + 1) ++ ys) (a + ((i + 1 : Nat) : Int)) ((i + 1 : Nat) : Int)) (fun k => ?_) (ih (i + 1) ys (by omega) (by simpa using hy))
    simp only [laws_markInt64S.l0]
    rw [if_pos (by simp [seqI_length]; omega), if_pos (by omega)]
    have e1 : wrap64 (a + (i : Int) + 1) = a + ((i + 1 : Nat) : Int) := by unfold wrap64; omega
    have e2 : wrap64 ((i : Int) + 1) = ((i + 1 : Nat) : Int) := by unfold wrap64; omega
    rw [e1, e2, Int.toNat_natCast, seqI_snoc]
    congr 1
    rw [List.set_append_right _ _ (by rw [seqI_length]; exact Nat.le_refl i), seqI_length]; simp
theorem markInts (a : Int) (y : List Int) (h0 : 0 ≤ a) (h1 : a + y.length ≤ 4611686018427387904) : Ev (fun k => laws_markInt64S.f k y a) (a + y.length, seqI a y.length) := by
  have := markInts_loop a y.length h0 h1 y.length 0 y (by omega) rfl
  simpa [laws_markInt64S.f, seqI] using this
theorem heldInts_loop (a : Int) (n : Nat) (h0 : 0 ≤ a) (h1 : a + n ≤ 4611686018427387904) : ∀ d i, i + d = n → Ev (fun k => laws_heldInt64S.l0 k (seqI a n) (a + i) (i : Int)) (a + n) := by
  intro d
  induction d with
  | zero =>
    intro i h
    obtain rfl : i = n := by omega
    exact ev_const fun k => by simp only [laws_heldInt64S.l0]; rw [if_neg (by simp [seqI_length])]
  | succ d ih =>
    intro i h
    have hi : i < (seqI a n).length := by rw [seqI_length]; omega
    refine Ev.step (f := fun k => laws_heldInt64S.l0 k (seqI a n) (a + ((i + 1 : Nat) : Int)) ((i + 1 : Nat) : Int)) (fun k => ?_) (ih (i + 1) (by omega))
    simp only [laws_heldInt64S.l0]
    rw [if_pos (by omega), if_pos (by omega), rd_nat _ hi, seqI_get, if_pos rfl]
    have e1 : wrap64 (a + (i : Int) + 1) = a + ((i + 1 : Nat) : Int) := by unfold wrap64; omega
    have e2 : wrap64 ((i : Int) + 1) = ((i + 1 : Nat) : Int) := by unfold wrap64; omega
    rw [e1, e2]
theorem heldInts (a : Int) (n : Nat) (h0 : 0 ≤ a) (h1 : a + n ≤ 4611686018427387904) : Ev (fun k => laws_heldInt64S.f k (seqI a n) a) (a + n) := by
  have := heldInts_loop a n h0 h1 n 0 (by omega)
  simpa [laws_heldInt64S.f] using this

theorem markWeights (m : Int) (w : List Int) (a : Int) (h0 : 0 ≤ a) (h1 : a + w.length ≤ 4611686018427387904) : Ev (fun k => laws_markWeighting.f k m w a) (a + w.length, seqI a w.length) := by
  simp only [laws_markWeighting.f]; exact Ev.bind (markInts a w h0 h1) (Ev.now _)
theorem heldWeights (m : Int) (n : Nat) (a : Int) (h0 : 0 ≤ a) (h1 : a + n ≤ 4611686018427387904) : Ev (fun k => laws_heldWeighting.f k m (seqI a n) a) (a + n) := by
  simp only [laws_heldWeighting.f]
  refine Ev.bind (heldInts a n h0 h1) ?_
  simp only [if_neg (show ¬ a + (n : Int) < 0 by omega)]; exact Ev.now _


theorem pure : laws_FnExactAddWeightings.Pure := by
  intro l m v m2 w hl _ hv _ hw
  have hl1 : l.length ≤ 9223372036854775807 := hl.1
  have hv1 : v.length ≤ 9223372036854775807 := hv.1
  have hw1 : w.length ≤ 9223372036854775807 := hw.1
  have hlc : (cellsOf l).length = l.length := cellsOf_length l
  obtain ⟨r, hr, c1, c2, c3⟩ := szCells l 1048576 hl1 (by omega) (by omega)
  refine Ev.rounds (r := true) ?_
  simp only [laws_FnExactAddWeightings.f, hr, Option.bind_some]
  by_cases c : r < 0
  · simp only [if_pos c]; exact Ev.now _
  simp only [if_neg c]
  obtain ⟨q, hq, d1, d2⟩ := szWeighting_ev m v r hv1 (by omega) (by omega)
  simp only [hq, Option.bind_some]
  by_cases cq : q < 0
  · simp only [if_pos cq]; exact Ev.now _
  simp only [if_neg cq]
  obtain ⟨q2, hq2, f1, f2⟩ := szWeighting_ev m2 w q hw1 (by omega) (by omega)
  simp only [hq2, Option.bind_some]
  by_cases cq2 : q2 < 0
  · simp only [if_pos cq2]; exact Ev.now _
  simp only [if_neg cq2]
  have e1 := c3 (by omega)
  have e2 := d2.resolve_left cq
  have e3 := f2.resolve_left cq2
  have hT := toCells l (by omega)
  have hV := toWeighting_ev m v (by omega)
  have hW := toWeighting_ev m2 w (by omega)
  have hS := spec_add_ev (cellsOf l) m m2 v w (by omega) hv1 hw1
  have hI := impl_add_ev (cellsOf l) m m2 v w (by omega)
  have hn := addB_len (regionB (cellsOf l)) (cellsOf l).length m v m2 w
  generalize addB (regionB (cellsOf l)) (cellsOf l).length m v m2 w = B at hS hI hn
  have hE := eqWeighting_ev B.1 B.2.1 (by omega)
  refine Ev.bind hT (Ev.bind hV (Ev.bind hW (Ev.bind hS (Ev.bind hT (Ev.bind hV (Ev.bind hW (Ev.bind hI (Ev.bind hE ?_))))))))
  simp only [if_true]
  refine Ev.bind hT (Ev.bind (eqCells _ (by omega)) ?_)
  simp only [if_true]
  refine Ev.bind hV (Ev.bind (eqWeighting_ev m v hv1) ?_)
  simp only [if_true]
  refine Ev.bind hW (Ev.bind (eqWeighting_ev m2 w hw1) ?_)
  simp only [if_true]
  obtain ⟨z, hz, hM⟩ := markCells (cellsOf l) 1 (by omega) (by omega)
  refine Ev.bind hM (Ev.bind (markWeights m v _ (by omega) (by omega)) (Ev.bind (markWeights m2 w _ (by omega) (by omega)) ?_))
  simp only [if_neg (show ¬ (1 + 2 * ((cellsOf l).length : Int) + (v.length : Int) + (w.length : Int) < 0) by omega)]
  refine Ev.bind hE ?_
  simp only [if_true]
  have hH := heldWeights B.1 B.2.1.length 1 (by omega) (by omega)
  refine Ev.bind (markWeights B.1 B.2.1 1 (by omega) (by omega)) (Ev.bind hH ?_)
  simp only [if_neg (show ¬ (1 + (B.2.1.length : Int) < 0) by omega), if_true]
  refine Ev.bind hT (Ev.bind hV (Ev.bind hW (Ev.bind hI (Ev.bind hE ?_))))
  simp only [if_true]
  refine Ev.bind hH ?_
  simp only [if_neg (show ¬ (1 + (B.2.1.length : Int) < 0) by omega), if_true]
  exact Ev.now true

end Go.Proofs.Ytkmlgfihoaneeaa.XFnExactAddWeightings
namespace Go.Proofs.Ytkmlgfihoaneeaa
/-- The law FnExactAddWeightings returns true at every region and pair of weightings and leaves its arguments as they were. Conditions: none. -/
theorem fnExactAddWeightings_holds : Rows.FnExactAddWeightingsSaid := fnExactAddWeightings.of_pure XFnExactAddWeightings.pure
#print axioms fnExactAddWeightings_holds
end Go.Proofs.Ytkmlgfihoaneeaa
