/- The law FnExactFormulaOfCover returns true at every cover and leaves its argument as it was. Conditions: none. -/
import Derived.Test.YtccenkhokgiejaaXRFnExactFormulaOfCover
namespace Go.Proofs.Ytccenkhokgiejaa.XFnExactFormulaOfCover
open Go.RowKit Go.Proofs.YtccenkhokgiejaaW.PrintWords Go.Proofs.YtccenkhokgiejaaW.PrintLast Go.Proofs.YtccenkhokgiejaaW.PrintMore Go.Proofs.Ytccenkhokgiejaa.U
set_option linter.unusedVariables false
set_option linter.unusedSimpArgs false

theorem wrap_succ {i n : Nat} (h : i < n) (hn : n ≤ 9223372036854775807) : wrap64 ((i : Int) + 1) = ((i + 1 : Nat) : Int) := by
  unfold wrap64; omega
theorem wrap_id {x : Int} (h0 : -9223372036854775808 ≤ x) (h1 : x ≤ 9223372036854775807) : wrap64 x = x := by
  unfold wrap64; omega
theorem rd_nat (l : List Int) {i : Nat} (h : i < l.length) : rd l (i : Int) = l[i] := by
  simp [rd, List.getD_eq_getElem?_getD, List.getElem?_eq_getElem h]
theorem ev_true {g : Nat → Option Bool} {r : Bool} (h : ∀ k, g (k + 1) = some r) : Ev g r := Ev.step (f := fun _ => some r) h (Ev.now r)
theorem ev_const {α : Type} {g : Nat → Option α} {r : α} (h : ∀ k, g (k + 1) = some r) : Ev g r := Ev.step (f := fun _ => some r) h (Ev.now r)
theorem ev_eq {α : Type} {g : Nat → Option α} {r r' : α} (h : Ev g r) (e : r = r') : Ev g r' := e ▸ h
theorem wf64 {x : Int} (h : (Lit.int .i64 x).wf = true) : -9223372036854775808 ≤ x ∧ x ≤ 9223372036854775807 := by
  simp only [Lit.wf, IntKind.min, IntKind.max, IntKind.signed, IntKind.bits, Bool.and_eq_true, decide_eq_true_eq] at h
  simpa using h

/-- The places, from 'i' on, at which 'q' holds. -/
def whereI {α : Type} (q : Int → α → Bool) : List α → Int → List Int
  | [], _ => []
  | x :: xs, i => if q i x then i :: whereI q xs (i + 1) else whereI q xs (i + 1)
theorem whereI_length {α : Type} (q : Int → α → Bool) : ∀ (l : List α) i, (whereI q l i).length ≤ l.length
  | [], _ => Nat.le_refl _
  | x :: xs, i => by simp only [whereI]; split <;> simp only [List.length_cons] <;> have := whereI_length q xs (i + 1) <;> omega
/-- A loop that gathers places. -/
theorem whereI_loop {α β : Type} (F : Nat → List Int → Int → Option β) (g : List Int → β) (q : Int → α → Bool) (l : List α)
    (h0 : ∀ acc, Ev (fun k => F k acc (l.length : Int)) (g acc))
    (h1 : ∀ i (h : i < l.length) acc r, acc.length ≤ i → Ev (fun k => F k (if q i l[i] then acc ++ [(i : Int)] else acc) ((i + 1 : Nat) : Int)) r → Ev (fun k => F k acc (i : Int)) r) :
    ∀ d i acc, i + d = l.length → acc.length ≤ i → Ev (fun k => F k acc (i : Int)) (g (acc ++ whereI q (l.drop i) i)) := by
  intro d
  induction d with
  | zero =>
    intro i acc h _
    rw [List.drop_eq_nil_of_le (by omega), show i = l.length by omega]
    simpa [whereI] using h0 acc
  | succ d ih =>
    intro i acc h ha
    have hi : i < l.length := by omega
    refine h1 i hi acc _ ha ?_
    rw [List.drop_eq_getElem_cons hi]
    simp only [whereI]
    cases c : q i l[i] with
    | true =>
      simp only [if_true]
      refine ev_eq (ih (i + 1) (acc ++ [(i : Int)]) (by omega) (by simp; omega)) ?_
      simp
    | false =>
      simp only [Bool.false_eq_true, if_false]
      exact ih (i + 1) acc (by omega) (by omega)

/-- Rising, from a number on, each within 0 to m. -/
def risesB (m : Int) : List Int → Int → Bool
  | [], _ => true
  | x :: xs, p => decide (0 ≤ x) && decide (x ≤ m) && decide (p < x) && risesB m xs x
def prevOf (l : List Int) (i : Nat) : Int := if i = 0 then -1 else l.getD (i - 1) 0
theorem prevOf_succ (l : List Int) {i : Nat} (h : i < l.length) : prevOf l (i + 1) = l[i] := by
  simp [prevOf, List.getD_eq_getElem?_getD, List.getElem?_eq_getElem h]
theorem rises_next (m : Int) (l : List Int) {i : Nat} (h : i < l.length) : risesB m (l.drop i) (prevOf l i) = (decide (0 ≤ l[i]) && decide (l[i] ≤ m) && decide (prevOf l i < l[i]) && risesB m (l.drop (i + 1)) (prevOf l (i + 1))) := by
  rw [List.drop_eq_getElem_cons h, prevOf_succ l h]; rfl
theorem rises_end (m : Int) (l : List Int) {i : Nat} (h : l.length ≤ i) (p : Int) : risesB m (l.drop i) p = true := by
  rw [List.drop_eq_nil_of_le h]; rfl

def longL (l : List (List Int)) : Prop := l.length ≤ 9223372036854775807 ∧ ∀ x ∈ l, x.length ≤ 9223372036854775807
theorem longL_of {l : List (List Int)} {p : Int → Prop} (h : l.length ≤ maxLen ∧ ∀ x ∈ l, x.length ≤ maxLen ∧ ∀ y ∈ x, p y) : longL l := ⟨h.1, fun x hx => (h.2 x hx).1⟩

def rowB (c : Int) (x : List Int) : Bool := !decide ((x.length : Int) = 0) && risesB (wrap64 (c - 1)) x (-1)
def coverB (a b : Int) (l : List (List Int)) : Bool := (decide (1 ≤ a) && decide (a ≤ 60)) && (decide (1 ≤ b) && decide (b ≤ a)) && decide ((l.length : Int) ≤ 400) && l.all (rowB a)

def columnB (a b : Int) (l : List (List Int)) (x : Int) : List Int × Int :=
  if coverB a b l then (if decide (0 ≤ x) && decide (x ≤ wrap64 (a - 1)) then (whereI (fun _ r => r.contains x) l 0, 0) else ([], 2)) else ([], 1)
theorem coverB_len {a b : Int} {l : List (List Int)} (h : coverB a b l = true) : l.length ≤ 400 := by
  simp only [coverB, Bool.and_eq_true, decide_eq_true_eq] at h; omega
theorem columnB_len (a b : Int) (l : List (List Int)) (x : Int) : (columnB a b l x).1.length ≤ l.length := by
  unfold columnB
  split
  · split
    · exact whereI_length _ l 0
    · simp
  · simp

theorem u64_wrap (n : Nat) (h : n < 18446744073709551616) : IntKind.u64.wrap (n : Int) = (n : Int) := by
  simp only [IntKind.wrap, IntKind.signed, IntKind.bits]
  simp
  omega
theorem u64_ofInt (a : Nat) (ha : a < 18446744073709551616) : (BitVec.ofInt 64 (a : Int)).toNat = a := by
  rw [BitVec.ofInt_natCast, BitVec.toNat_ofNat]; exact Nat.mod_eq_of_lt (by omega)
theorem u64_and (a b : Nat) (ha : a < 18446744073709551616) (hb : b < 18446744073709551616) : Go.bits .and .u64 (a : Int) (b : Int) = ((a &&& b : Nat) : Int) := by
  have hx : a &&& b < 2 ^ 64 := Nat.and_lt_two_pow _ (by omega)
  show IntKind.u64.wrap ((BitVec.ofInt 64 (a : Int) &&& BitVec.ofInt 64 (b : Int)).toNat : Int) = _
  rw [BitVec.toNat_and, u64_ofInt a ha, u64_ofInt b hb]
  exact u64_wrap _ (by omega)
theorem u64_or (a b : Nat) (ha : a < 18446744073709551616) (hb : b < 18446744073709551616) : Go.bits .or .u64 (a : Int) (b : Int) = ((a ||| b : Nat) : Int) := by
  have hx : a ||| b < 2 ^ 64 := Nat.or_lt_two_pow (by omega) (by omega)
  show IntKind.u64.wrap ((BitVec.ofInt 64 (a : Int) ||| BitVec.ofInt 64 (b : Int)).toNat : Int) = _
  rw [BitVec.toNat_or, u64_ofInt a ha, u64_ofInt b hb]
  exact u64_wrap _ (by omega)
theorem pow60 {k : Nat} (h : k < 60) : 2 ^ k < 1152921504606846976 := Nat.lt_of_lt_of_le (Nat.pow_lt_pow_right (by omega) h) (by decide)
theorem u64_shl {k : Nat} (h : k < 60) : shl .u64 1 (k : Int) = ((2 ^ k : Nat) : Int) := by
  have := pow60 h
  unfold shl
  rw [show (IntKind.u64).bits = 64 from rfl, Int.toNat_natCast, Nat.min_eq_left (by omega), Int.one_mul]
  have e : ((2 : Int) ^ k) = ((2 ^ k : Nat) : Int) := by push_cast; rfl
  rw [e]
  exact u64_wrap _ (by omega)
theorem u64_shr (m k : Nat) (h : k < 60) : shr .u64 (m : Int) (k : Int) = ((m >>> k : Nat) : Int) := by
  unfold shr
  rw [show (IntKind.u64).bits = 64 from rfl, Int.toNat_natCast, Nat.min_eq_left (by omega), Nat.shiftRight_eq_div_pow]
  push_cast; rfl
theorem u64_bit (m k : Nat) (hm : m < 18446744073709551616) (h : k < 60) : (Go.bits .and .u64 (shr .u64 (m : Int) (k : Int)) 1 = 1) ↔ m.testBit k = true := by
  have hs : m >>> k ≤ m := by rw [Nat.shiftRight_eq_div_pow]; exact Nat.div_le_self _ _
  rw [u64_shr m k h, show (1 : Int) = ((1 : Nat) : Int) from rfl, u64_and _ _ (by omega) (by omega), Nat.and_one_is_mod]
  rw [Nat.testBit_eq_decide_div_mod_eq, Nat.shiftRight_eq_div_pow]
  simp only [decide_eq_true_eq]
  omega
/-- The columns of a row, as bits. -/
def maskN (m : Nat) : List Int → Nat
  | [] => m
  | x :: xs => maskN (m ||| 2 ^ x.toNat) xs
def cols60 (r : List Int) : Prop := ∀ x ∈ r, 0 ≤ x ∧ x < 60
theorem maskN_lt : ∀ (r : List Int) (m : Nat), cols60 r → m < 1152921504606846976 → maskN m r < 1152921504606846976
  | [], _, _, h => h
  | x :: xs, m, hc, h => maskN_lt xs _ (fun y hy => hc y (List.mem_cons_of_mem _ hy)) (by
      have hx := hc x List.mem_cons_self
      have h1 := pow60 (k := x.toNat) (by omega)
      exact Nat.or_lt_two_pow (n := 60) (by omega) (by omega))
theorem maskN_bit : ∀ (r : List Int) (m j : Nat), cols60 r → (maskN m r).testBit j = (m.testBit j || r.contains (j : Int))
  | [], m, j, _ => by simp [maskN]
  | x :: xs, m, j, hc => by
    have hx := hc x List.mem_cons_self
    simp only [maskN]
    rw [maskN_bit xs _ j (fun y hy => hc y (List.mem_cons_of_mem _ hy)), Nat.testBit_or, Nat.testBit_two_pow, List.contains_cons]
    have e : decide (x.toNat = j) = ((j : Int) == x) := by
      rw [Bool.eq_iff_iff]; simp only [decide_eq_true_eq, beq_iff_eq]; omega
    rw [e, Bool.or_assoc]
theorem and_zero_iff (a b : Nat) : (a &&& b = 0) ↔ ∀ j, (a.testBit j && b.testBit j) = false := by
  constructor
  · intro h j; rw [← Nat.testBit_and, h, Nat.zero_testBit]
  · intro h; refine Nat.eq_of_testBit_eq (fun j => ?_); rw [Nat.testBit_and, h j, Nat.zero_testBit]
def overB2 (a b : List Int) : Bool := a.any (fun e => b.contains e)
theorem mask_over {a b : List Int} (ha : cols60 a) (hb : cols60 b) : (Go.bits .and .u64 ((maskN 0 a : Nat) : Int) ((maskN 0 b : Nat) : Int) = 0) ↔ overB2 a b = false := by
  have h1 := maskN_lt a 0 ha (by omega)
  have h2 := maskN_lt b 0 hb (by omega)
  rw [u64_and _ _ (by omega) (by omega), show (0 : Int) = ((0 : Nat) : Int) from rfl, Int.natCast_inj, and_zero_iff]
  constructor
  · intro h
    unfold overB2
    refine List.any_eq_false.2 (fun e he hc => ?_)
    have hx := ha e he
    have h3 := h e.toNat
    rw [maskN_bit a 0 _ ha, maskN_bit b 0 _ hb, show ((e.toNat : Nat) : Int) = e by omega, hc, Nat.zero_testBit] at h3
    simp [he] at h3
  · intro h j
    rw [maskN_bit a 0 _ ha, maskN_bit b 0 _ hb, Nat.zero_testBit, Bool.false_or, Bool.false_or]
    cases hj : a.contains (j : Int) with
    | false => rfl
    | true =>
      rw [Bool.true_and]
      have := List.any_eq_false.1 h (j : Int) (List.contains_iff_mem.1 hj)
      simpa using this

/-- The clause of a column, out of the first rows. -/
def colI (l : List (List Int)) (c : Int) (n : Nat) : List Int := (whereI (fun _ r => r.contains c) (l.take n) 0).map fun i => i + 1
def colsI (l : List (List Int)) (b : Nat) (n : Nat) : List (List Int) := (List.range b).map fun (c : Nat) => colI l (c : Int) n
/-- The pairs of a row with the rows behind it. -/
def pairI (x : List Int) : List (List Int) → Int → Int → List (List Int)
  | [], _, _ => []
  | y :: ys, i, j => (if overB2 x y then [[-i - 1, -j - 1]] else []) ++ pairI x ys i (j + 1)
def pairsI : List (List Int) → Int → List (List Int)
  | [], _ => []
  | x :: xs, i => pairI x xs i (i + 1) ++ pairsI xs (i + 1)
theorem pairI_len (x : List Int) : ∀ (ys : List (List Int)) (i j : Int), (pairI x ys i j).length ≤ ys.length
  | [], _, _ => Nat.le_refl _
  | y :: ys, i, j => by
    have := pairI_len x ys i (j + 1)
    simp only [pairI, List.length_append, List.length_cons]
    split <;> simp <;> omega
theorem pairsI_len : ∀ (ys : List (List Int)) (i : Int), (pairsI ys i).length ≤ ys.length * ys.length
  | [], _ => Nat.le_refl _
  | y :: ys, i => by
    have h1 := pairsI_len ys (i + 1)
    have h2 := pairI_len y ys i (i + 1)
    simp only [pairsI, List.length_append, List.length_cons]
    have : (ys.length + 1) * (ys.length + 1) = ys.length * ys.length + 2 * ys.length + 1 := by rw [Nat.add_mul, Nat.mul_add]; omega
    omega
def formB (b : Int) (l : List (List Int)) : List (List Int) := colsI l b.toNat l.length ++ pairsI l 0
def formOf (a b : Int) (l : List (List Int)) : Int × List (List Int) × Int :=
  if coverB a b l then (if (formB b l).length > 20000 then (0, [], 3) else ((l.length : Int), formB b l, 0)) else (0, [], 1)
theorem whereI_app {α : Type} (q : Int → α → Bool) : ∀ (xs : List α) (x : α) (i : Int), whereI q (xs ++ [x]) i = whereI q xs i ++ (if q (i + xs.length) x then [i + (xs.length : Int)] else [])
  | [], x, i => by simp only [List.nil_append, whereI, List.length_nil]; simp
  | y :: ys, x, i => by
    simp only [List.cons_append, whereI, List.length_cons]
    rw [whereI_app q ys x (i + 1)]
    have e : i + 1 + (ys.length : Int) = i + ((ys.length + 1 : Nat) : Int) := by push_cast; omega
    rw [e]
    split <;> simp
theorem colI_succ (l : List (List Int)) (c : Int) {n : Nat} (h : n < l.length) : colI l c (n + 1) = colI l c n ++ (if l[n].contains c then [(n : Int) + 1] else []) := by
  unfold colI
  rw [List.take_succ_eq_append_getElem h, whereI_app, List.map_append]
  have e : (l.take n).length = n := by rw [List.length_take]; omega
  rw [e, Int.zero_add]
  split <;> rfl
theorem colI_len (l : List (List Int)) (c : Int) (n : Nat) : (colI l c n).length ≤ l.length := by
  unfold colI
  rw [List.length_map]
  have := whereI_length (fun _ r => r.contains c) (l.take n) 0
  have e : (l.take n).length ≤ l.length := by rw [List.length_take]; omega
  omega
theorem formB_len {a b : Int} {l : List (List Int)} (h : coverB a b l = true) : (formB b l).length ≤ 160060 ∧ ∀ x ∈ formB b l, x.length ≤ 400 := by
  have h4 := coverB_len h
  have hb : b ≤ 60 := by simp only [coverB, Bool.and_eq_true, decide_eq_true_eq] at h; omega
  have h1 := pairsI_len l 0
  have h2 : l.length * l.length ≤ 400 * 400 := Nat.mul_le_mul h4 h4
  refine ⟨by unfold formB colsI; rw [List.length_append, List.length_map, List.length_range]; omega, fun x hx => ?_⟩
  unfold formB at hx
  rcases List.mem_append.1 hx with hx | hx
  · obtain ⟨c, _, rfl⟩ := List.mem_map.1 hx
    exact Nat.le_trans (colI_len l _ _) h4
  · have : ∀ (ys : List (List Int)) (i : Int), ∀ x ∈ pairsI ys i, x.length ≤ 400 := by
      intro ys
      induction ys with
      | nil => intro i x hx; exact absurd hx List.not_mem_nil
      | cons y ys ih =>
        intro i x hx
        simp only [pairsI, List.mem_append] at hx
        rcases hx with hx | hx
        · have : ∀ (zs : List (List Int)) (i j : Int), ∀ x ∈ pairI y zs i j, x.length ≤ 400 := by
            intro zs
            induction zs with
            | nil => intro i j x hx; exact absurd hx List.not_mem_nil
            | cons z zs ih2 =>
              intro i j x hx
              simp only [pairI, List.mem_append] at hx
              rcases hx with hx | hx
              · split at hx
                · rw [List.mem_singleton.1 hx]; simp
                · exact absurd hx List.not_mem_nil
              · exact ih2 _ _ x hx
          exact this _ _ _ x hx
        · exact ih _ x hx
    exact this l 0 x hx

theorem spec_has_loop (l : List Int) (x : Int) (hl : l.length ≤ 9223372036854775807) : ∀ d i, i + d = l.length → Ev (fun k => spec_l01Has.l0 k l x (i : Int)) ((l.drop i).contains x) := by
  intro d
  induction d with
  | zero => intro i h; rw [List.drop_eq_nil_of_le (by omega)]; exact ev_const fun k => by simp only [spec_l01Has.l0]; rw [if_neg (by omega)]; rfl
  | succ d ih =>
    intro i h
    have hi : i < l.length := by omega
    rw [List.drop_eq_getElem_cons hi, List.contains_cons]
    refine Ev.step (f := fun k => if l[i] = x then some true else spec_l01Has.l0 k l x ((i + 1 : Nat) : Int)) (fun k => by
      simp only [spec_l01Has.l0]; rw [if_pos (by omega), if_pos (by omega), rd_nat l hi, wrap_succ hi hl]) ?_
    by_cases c : l[i] = x
    · simp only [if_pos c]; exact ev_eq (Ev.now _) (by simp [c])
    · simp only [if_neg c]; exact ev_eq (ih (i + 1) (by omega)) (by simp [Ne.symm c])
theorem spec_has (l : List Int) (x : Int) (hl : l.length ≤ 9223372036854775807) : Ev (fun k => spec_l01Has.f k l x) (l.contains x) := by
  have := spec_has_loop l x hl l.length 0 (by omega)
  simpa [spec_l01Has.f] using this

theorem spec_overlap_loop (x y : List Int) (hx : x.length ≤ 9223372036854775807) (hy : y.length ≤ 9223372036854775807) : ∀ d i, i + d = x.length → Ev (fun k => spec_l12Overlap.l0 k x y (i : Int)) (overB2 (x.drop i) y) := by
  intro d
  induction d with
  | zero =>
    intro i h
    rw [List.drop_eq_nil_of_le (by omega)]
    exact ev_const fun k => by simp only [spec_l12Overlap.l0]; rw [if_neg (by omega)]; rfl
  | succ d ih =>
    intro i h
    have hi : i < x.length := by omega
    rw [List.drop_eq_getElem_cons hi]
    refine Ev.step (f := fun k => (spec_l01Has.f k y x[i]).bind fun t => if t = true then some true else spec_l12Overlap.l0 k x y ((i + 1 : Nat) : Int)) (fun k => ?_) (Ev.bind (spec_has y x[i] hy) ?_)
    · simp only [spec_l12Overlap.l0]
      rw [if_pos (by omega), if_pos (by omega), rd_nat x hi, wrap_succ hi hx]
    · cases c : y.contains x[i] with
      | true => simp only [if_true]; exact ev_eq (Ev.now _) (by simp only [overB2, List.any_cons, c, Bool.true_or])
      | false => simp only [Bool.false_eq_true, if_false]; exact ev_eq (ih (i + 1) (by omega)) (by simp only [overB2, List.any_cons, c, Bool.false_or])
theorem spec_overlap (x y : List Int) (hx : x.length ≤ 9223372036854775807) (hy : y.length ≤ 9223372036854775807) : Ev (fun k => spec_l12Overlap.f k x y) (overB2 x y) := by
  have := spec_overlap_loop x y hx hy x.length 0 (by omega)
  simpa [spec_l12Overlap.f] using this

theorem rdr_nat (l : List (List Int)) {i : Nat} (h : i < l.length) : rd_L1 l (i : Int) = l[i] := by
  simp [rd_L1, List.getD_eq_getElem?_getD, List.getElem?_eq_getElem h]

theorem spec_l13Rows_ev (a b : Int) (l : List (List Int)) (x : Int) (hl : longL l) (h4 : l.length ≤ 400) : Ev (fun k => spec_l13Rows.f k a b l x) (whereI (fun _ r => r.contains x) l 0) := by
  have := whereI_loop (fun k acc i => spec_l13Rows.l0 k x acc i a b l) id (fun _ r => r.contains x) l
    (fun acc => ev_const fun k => by simp only [spec_l13Rows.l0]; rw [if_neg (by omega)]; rfl)
    (fun i hi acc r ha hE => by
      refine Ev.step (f := fun k => (spec_l01Has.f k l[i] x).bind fun t => if t = true then spec_l13Rows.l0 k x (acc ++ [(i : Int)]) ((i + 1 : Nat) : Int) a b l else spec_l13Rows.l0 k x acc ((i + 1 : Nat) : Int) a b l) (fun k => by
        simp only [spec_l13Rows.l0]
        rw [if_pos (by omega), if_pos (by omega), rdr_nat l hi, wrap_succ hi hl.1]
        simp only [if_pos (show acc.length < 17592186044416 by omega)]) ?_
      refine Ev.bind (spec_has l[i] x (hl.2 _ (List.getElem_mem hi))) ?_
      cases c : l[i].contains x with
      | true => rw [c] at hE; simpa using hE
      | false => rw [c] at hE; simpa using hE) l.length 0 [] (by omega) (Nat.le_refl _)
  simpa [spec_l13Rows.f] using this

theorem spec_in (a b c : Int) : spec_l01In.f a b c = some (decide (b ≤ a) && decide (a ≤ c)) := by
  unfold spec_l01In.f; by_cases h : b ≤ a
  · rw [if_pos h]; simp [h]
  · rw [if_neg h]; simp [h]

theorem spec_rises_loop (l : List Int) (n : Int) (hl : l.length ≤ 9223372036854775807) : ∀ d i, i + d = l.length →
    Ev (fun k => spec_l01Rises.l0 k l n (i : Int)) (risesB (wrap64 (n - 1)) (l.drop i) (prevOf l i)) := by
  intro d
  induction d with
  | zero =>
    intro i h
    rw [rises_end _ _ (by omega)]
    exact ev_const fun k => by simp only [spec_l01Rises.l0]; rw [if_neg (by omega)]
  | succ d ih =>
    intro i h
    have hi : i < l.length := by omega
    have step : ∀ k, spec_l01Rises.l0 (k + 1) l n (i : Int) = if (decide (0 ≤ l[i]) && decide (l[i] ≤ wrap64 (n - 1))) = true then (if decide (prevOf l i < l[i]) = true ∨ i = 0 then spec_l01Rises.l0 k l n ((i + 1 : Nat) : Int) else some false) else some false := fun k => by
      simp only [spec_l01Rises.l0]
      rw [if_pos (by omega), if_pos (by omega), rd_nat l hi, spec_in]
      simp only [Option.bind_some, wrap_succ hi hl]
      by_cases c : (decide (0 ≤ l[i]) && decide (l[i] ≤ wrap64 (n - 1))) = true
      · rw [if_pos c, if_pos c]
        by_cases z : i = 0
        · rw [if_neg (by omega), if_pos (.inr z)]
        · have e : wrap64 ((i : Int) - 1) = ((i - 1 : Nat) : Int) := by unfold wrap64; omega
          have p : prevOf l i = l[i - 1] := by simp [prevOf, z, List.getD_eq_getElem?_getD, List.getElem?_eq_getElem (show i - 1 < l.length by omega)]
          rw [if_pos (by omega), e, if_pos (by omega), if_pos (by omega), rd_nat l (by omega), p]
          by_cases q : l[i] ≤ l[i - 1]
          · rw [if_pos q, if_neg (by simp [z]; omega)]
          · rw [if_neg q, if_pos (.inl (by simp; omega))]
      · rw [if_neg c, if_neg c]
    rw [rises_next _ _ hi]
    refine Ev.step step ?_
    by_cases c : (decide (0 ≤ l[i]) && decide (l[i] ≤ wrap64 (n - 1))) = true
    · simp only [if_pos c]
      by_cases q : decide (prevOf l i < l[i]) = true ∨ i = 0
      · simp only [if_pos q]
        refine ev_eq (ih (i + 1) (by omega)) ?_
        have q' : decide (prevOf l i < l[i]) = true := q.elim id fun z => by
          subst z
          simp only [Bool.and_eq_true, decide_eq_true_eq] at c
          simp [prevOf]; omega
        rw [c, q']; simp
      · simp only [if_neg q]
        refine ev_eq (Ev.now _) ?_
        rw [show decide (prevOf l i < l[i]) = false by simp only [not_or] at q; simpa using q.1]; simp
    · simp only [if_neg c]
      refine ev_eq (Ev.now _) ?_
      simp only [Bool.not_eq_true] at c
      rw [c]; simp
theorem spec_rises (l : List Int) (n : Int) (hl : l.length ≤ 9223372036854775807) : Ev (fun k => spec_l01Rises.f k l n) (risesB (wrap64 (n - 1)) l (-1)) := by
  have := spec_rises_loop l n hl l.length 0 (by omega)
  simpa [spec_l01Rises.f, prevOf] using this

theorem spec_IsCover_loop (a b : Int) (l : List (List Int)) (hl : longL l) : ∀ d i, i + d = l.length → Ev (fun k => spec_IsCover.l0 k (i : Int) a b l) ((l.drop i).all (rowB a)) := by
  intro d
  induction d with
  | zero =>
    intro i h
    rw [List.drop_eq_nil_of_le (by omega)]
    exact ev_const fun k => by simp only [spec_IsCover.l0]; rw [if_neg (by omega)]; rfl
  | succ d ih =>
    intro i h
    have hi : i < l.length := by omega
    rw [List.drop_eq_getElem_cons hi, List.all_cons]
    have step : ∀ k, spec_IsCover.l0 (k + 1) (i : Int) a b l = if (l[i].length : Int) = 0 then some false else (spec_l01Rises.f k l[i] a).bind fun t => if t = true then spec_IsCover.l0 k ((i + 1 : Nat) : Int) a b l else some false := fun k => by
      simp only [spec_IsCover.l0]
      rw [if_pos (by omega), if_pos (by omega), rdr_nat l hi, wrap_succ hi hl.1]
    refine Ev.step step ?_
    by_cases c : (l[i].length : Int) = 0
    · simp only [if_pos c]; refine ev_eq (Ev.now _) ?_; simp only [rowB, c]; simp
    · simp only [if_neg c]
      refine Ev.bind (spec_rises l[i] a (hl.2 _ (List.getElem_mem hi))) ?_
      have e : rowB a l[i] = risesB (wrap64 (a - 1)) l[i] (-1) := by simp only [rowB, c]; simp
      cases q : risesB (wrap64 (a - 1)) l[i] (-1) with
      | true => simp only [if_true]; refine ev_eq (ih (i + 1) (by omega)) ?_; rw [e, q]; simp
      | false => simp only [Bool.false_eq_true, if_false]; refine ev_eq (Ev.now _) ?_; rw [e, q]; simp
theorem spec_IsCover_ev (a b : Int) (l : List (List Int)) (hl : longL l) : Ev (fun k => spec_IsCover.f k a b l) (coverB a b l) := by
  have hL := spec_IsCover_loop a b l hl l.length 0 (by omega)
  have hj : ∀ x, Ev (fun k => spec_IsCover.j0 k x a b l) (!x && l.all (rowB a)) := fun x => by
    refine Ev.step (f := fun k => if x = true then some false else spec_IsCover.l0 k 0 a b l) (fun k => by simp only [spec_IsCover.j0]) ?_
    cases x with
    | true => simpa using Ev.now false
    | false => simpa using hL
  simp only [spec_IsCover.f, spec_in, Option.bind_some]
  unfold coverB
  cases q : (decide (1 ≤ a) && decide (a ≤ 60)) with
  | false => simp only [Bool.false_eq_true, if_false, Bool.false_and]; exact hj true
  | true =>
    cases q2 : (decide (1 ≤ b) && decide (b ≤ a)) with
    | false => simp only [Bool.false_eq_true, if_false, if_true, Bool.false_and, Bool.and_false]; exact hj true
    | true =>
      simp only [if_true, Bool.true_and]
      refine ev_eq (hj _) ?_
      by_cases c : (l.length : Int) ≤ 400
      · rw [decide_eq_true c, decide_eq_false (by omega)]; rfl
      · rw [decide_eq_false c, decide_eq_true (by omega)]; rfl

theorem spec_fc_in (a b : Int) (l x3 : List (List Int)) (c : Int) (col : List Int) (hcol : col.length ≤ 400) (hv : ∀ x ∈ col, 0 ≤ x ∧ x < 1000) (h3 : x3.length < 5864062014805) {R : Int × List (List Int)} (hE : Ev (fun k => spec_l20Cover.l0 k (x3 ++ [col.map fun i => i + 1]) (wrap64 (c + 1)) a b l) R) :
    ∀ d i, i + d = col.length → Ev (fun k => spec_l20Cover.l1 k x3 c ((col.take i).map fun i => i + 1) col (i : Int) a b l) R := by
  intro d
  induction d with
  | zero =>
    intro i h
    rw [List.take_of_length_le (by omega)]
    refine Ev.step (fun k => ?_) hE
    simp only [spec_l20Cover.l1]
    rw [if_neg (by omega), if_pos h3]
  | succ d ih =>
    intro i h
    have hi : i < col.length := by omega
    have hx := hv _ (List.getElem_mem hi)
    refine Ev.step (fun k => ?_) (ih (i + 1) (by omega))
    simp only [spec_l20Cover.l1]
    rw [if_pos (by omega), if_pos (by omega), if_pos (by simp; omega), rd_nat col hi, wrap_succ hi (by omega), wrap_id (x := col[i] + 1) (by omega) (by omega), List.take_succ_eq_append_getElem hi, List.map_append]
    rfl
theorem whereI_mem {α : Type} (q : Int → α → Bool) : ∀ (l : List α) (i x : Int), x ∈ whereI q l i → i ≤ x ∧ x < i + l.length
  | [], _, _, h => absurd h List.not_mem_nil
  | y :: ys, i, x, h => by
    simp only [whereI] at h
    simp only [List.length_cons]; push_cast
    split at h
    · rcases List.mem_cons.1 h with rfl | h
      · omega
      · have := whereI_mem q ys (i + 1) x h; omega
    · have := whereI_mem q ys (i + 1) x h; omega
theorem spec_fc_pair (a b : Int) (l : List (List Int)) (hl : longL l) (h4 : l.length ≤ 400) {i : Nat} (hi : i < l.length) {R : Int × List (List Int)} (F : List (List Int)) (hF : F.length ≤ 160060) (acc : List (List Int))
    : ∀ d j (x3 : List (List Int)), j + d = l.length → x3 ++ pairI l[i] (l.drop j) i j = acc → acc.length ≤ 160060 → Ev (fun k => spec_l20Cover.l2 k acc ((i + 1 : Nat) : Int) a b l) R → Ev (fun k => spec_l20Cover.l3 k x3 (i : Int) (j : Int) a b l) R := by
  intro d
  induction d with
  | zero =>
    intro j x3 h he ha hE
    rw [List.drop_eq_nil_of_le (by omega)] at he
    simp only [pairI, List.append_nil] at he
    subst he
    refine Ev.step (fun k => ?_) hE
    simp only [spec_l20Cover.l3]
    rw [if_neg (by omega), wrap_succ hi hl.1]
  | succ d ih =>
    intro j x3 h he ha hE
    have hj : j < l.length := by omega
    rw [List.drop_eq_getElem_cons hj] at he
    simp only [pairI] at he
    refine Ev.step (f := fun k => (spec_l12Overlap.f k l[i] l[j]).bind fun t => if t = true then spec_l20Cover.l3 k (x3 ++ [[-(i : Int) - 1, -(j : Int) - 1]]) (i : Int) ((j + 1 : Nat) : Int) a b l else spec_l20Cover.l3 k x3 (i : Int) ((j + 1 : Nat) : Int) a b l) (fun k => ?_) (Ev.bind (spec_overlap l[i] l[j] (hl.2 _ (List.getElem_mem hi)) (hl.2 _ (List.getElem_mem hj))) ?_)
    · have hx3 : x3.length ≤ 160060 := by rw [← he] at ha; simp only [List.length_append] at ha; omega
      simp only [spec_l20Cover.l3]
      rw [if_pos (by omega), if_pos (by omega), if_pos (by omega), if_pos (by omega), rdr_nat l hi, rdr_nat l hj, wrap_succ hj hl.1]
      have w1 : wrap64 (wrap64 (-(i : Int)) - 1) = -(i : Int) - 1 := by rw [wrap_id (x := -(i : Int)) (by omega) (by omega), wrap_id (by omega) (by omega)]
      have w2 : wrap64 (wrap64 (-(j : Int)) - 1) = -(j : Int) - 1 := by rw [wrap_id (x := -(j : Int)) (by omega) (by omega), wrap_id (by omega) (by omega)]
      simp only [w1, w2, if_pos (show x3.length < 5864062014805 by omega)]
    · cases c : overB2 l[i] l[j] with
      | true =>
        rw [c] at he
        simp only [if_true] at he ⊢
        exact ih (j + 1) _ (by omega) (by rw [← he, List.append_assoc]; push_cast; rfl) ha hE
      | false =>
        rw [c] at he
        simp only [Bool.false_eq_true, if_false, List.nil_append] at he ⊢
        exact ih (j + 1) _ (by omega) (by rw [← he]; push_cast; rfl) ha hE
theorem spec_fc_pairs (a b : Int) (l : List (List Int)) (hl : longL l) (h4 : l.length ≤ 400) : ∀ d i (x3 : List (List Int)), i + d = l.length → (x3 ++ pairsI (l.drop i) i).length ≤ 160060 → Ev (fun k => spec_l20Cover.l2 k x3 (i : Int) a b l) ((l.length : Int), x3 ++ pairsI (l.drop i) i) := by
  intro d
  induction d with
  | zero =>
    intro i x3 h _
    rw [List.drop_eq_nil_of_le (by omega)]
    exact ev_const fun k => by simp only [spec_l20Cover.l2]; rw [if_neg (by omega)]; simp [pairsI]
  | succ d ih =>
    intro i x3 h hb
    have hi : i < l.length := by omega
    rw [List.drop_eq_getElem_cons hi] at hb ⊢
    simp only [pairsI] at hb ⊢
    rw [← List.append_assoc] at hb ⊢
    have e1 : ((i : Int) + 1) = ((i + 1 : Nat) : Int) := by push_cast; rfl
    rw [e1] at hb ⊢
    refine Ev.step (f := fun k => spec_l20Cover.l3 k x3 (i : Int) ((i + 1 : Nat) : Int) a b l) (fun k => ?_) (spec_fc_pair a b l hl h4 hi [] (by simp) _ (l.length - (i + 1)) (i + 1) x3 (by omega) rfl (by rw [List.length_append] at hb; omega) (ih (i + 1) _ (by omega) hb))
    simp only [spec_l20Cover.l2]
    rw [if_pos (by omega), wrap_succ hi hl.1]
theorem colsI_snoc (l : List (List Int)) (c n : Nat) : colsI l (c + 1) n = colsI l c n ++ [colI l (c : Int) n] := by
  simp [colsI, List.range_succ]
theorem spec_fc_cols (a b : Int) (l : List (List Int)) (hl : longL l) (h4 : l.length ≤ 400) (hb : 0 ≤ b ∧ b ≤ 60) (hlen : (formB b l).length ≤ 160060) : ∀ d c : Nat, (c : Int) + d = b → Ev (fun k => spec_l20Cover.l0 k (colsI l c l.length) (c : Int) a b l) ((l.length : Int), formB b l) := by
  intro d
  induction d with
  | zero =>
    intro c h
    refine Ev.step (f := fun k => spec_l20Cover.l2 k (colsI l c l.length) ((0 : Nat) : Int) a b l) (fun k => ?_) ?_
    · simp only [spec_l20Cover.l0]; rw [if_neg (by omega)]; rfl
    · have e : colsI l c l.length ++ pairsI (l.drop 0) ((0 : Nat) : Int) = formB b l := by unfold formB; rw [List.drop_zero, show b.toNat = c by omega]; rfl
      have := spec_fc_pairs a b l hl h4 l.length 0 (colsI l c l.length) (by omega) (by rw [e]; exact hlen)
      rw [e] at this; exact this
  | succ d ih =>
    intro c h
    have hrow := spec_l13Rows_ev a b l (c : Int) hl h4
    have hw := whereI_length (fun _ r => r.contains (c : Int)) l 0
    refine Ev.step (f := fun k => (spec_l13Rows.f k a b l (c : Int)).bind fun t => spec_l20Cover.l1 k (colsI l c l.length) (c : Int) [] t ((0 : Nat) : Int) a b l) (fun k => ?_) (Ev.bind hrow ?_)
    · simp only [spec_l20Cover.l0]; rw [if_pos (by omega)]; rfl
    · refine spec_fc_in a b l (colsI l c l.length) (c : Int) (whereI (fun _ r => r.contains (c : Int)) l 0) (by omega) (fun x hx => by have := whereI_mem _ _ _ _ hx; omega) (by simp [colsI]; omega) ?_ _ 0 (Nat.zero_add _)
      have := ih (c + 1) (by omega)
      rw [colsI_snoc] at this
      rw [wrap_succ (n := 1000) (by omega) (by omega)]
      have e : colI l (c : Int) l.length = (whereI (fun _ r => r.contains (c : Int)) l 0).map fun i => i + 1 := by unfold colI; rw [List.take_of_length_le (Nat.le_refl _)]
      rw [e] at this
      exact this
theorem spec_FormulaOf (a b : Int) (l : List (List Int)) (hl : longL l) : Ev (fun k => spec_FormulaOfCover.f k a b l) (formOf a b l) := by
  simp only [spec_FormulaOfCover.f]
  refine Ev.bind (spec_IsCover_ev a b l hl) ?_
  unfold formOf
  cases c1 : coverB a b l with
  | false => simpa using Ev.now _
  | true =>
    have h4 := coverB_len c1
    have hlen := formB_len c1
    have hb : 0 ≤ b ∧ b ≤ 60 := by simp only [coverB, Bool.and_eq_true, decide_eq_true_eq] at c1; omega
    simp only [if_true]
    have := spec_fc_cols a b l hl h4 hb hlen.1 b.toNat 0 (by omega)
    refine Ev.bind (show Ev (fun k => spec_l20Cover.f k a b l) ((l.length : Int), formB b l) by simpa [spec_l20Cover.f, colsI] using this) ?_
    by_cases c : (formB b l).length > 20000
    · simp only [if_pos c, if_pos (show ((formB b l).length : Int) > 20000 by omega)]; exact Ev.now _
    · simp only [if_neg c, if_neg (show ¬ ((formB b l).length : Int) > 20000 by omega)]; exact Ev.now _

theorem masks_in (l0 : List (List Int)) (x5 r : List Int) (n x22 : Int) (hr : r.length ≤ 9223372036854775807) (hc : cols60 r) (h5 : x5.length < 17592186044416) {R : List Int} :
    ∀ d i (m : Nat), i + d = r.length → m < 1152921504606846976 → Ev (fun k => impl_newCoverSearch.l0 k (x5 ++ [((maskN m (r.drop i) : Nat) : Int)]) l0 n (wrap64 (x22 + 1))) R → Ev (fun k => impl_newCoverSearch.l1 k x5 (m : Int) l0 n x22 r (r.length : Int) (i : Int)) R := by
  intro d
  induction d with
  | zero =>
    intro i m h hm hE
    rw [List.drop_eq_nil_of_le (by omega)] at hE
    refine Ev.step (fun k => ?_) hE
    simp only [impl_newCoverSearch.l1]
    rw [if_neg (by omega), if_pos h5]; rfl
  | succ d ih =>
    intro i m h hm hE
    have hi : i < r.length := by omega
    have hx := hc _ (List.getElem_mem hi)
    obtain ⟨c, hcx⟩ : ∃ c : Nat, r[i] = (c : Int) := ⟨r[i].toNat, by omega⟩
    rw [List.drop_eq_getElem_cons hi] at hE
    simp only [maskN, hcx, Int.toNat_natCast] at hE
    have hp := pow60 (k := c) (by omega)
    have hor : m ||| 2 ^ c < 1152921504606846976 := Nat.or_lt_two_pow (n := 60) (by omega) (by omega)
    refine Ev.step (fun k => ?_) (ih (i + 1) _ (by omega) hor hE)
    simp only [impl_newCoverSearch.l1]
    rw [if_pos (by omega), if_pos (by omega), if_pos (by omega), rd_nat r hi, wrap_succ hi hr, hcx, u64_wrap c (by omega), if_pos (by omega), u64_shl (by omega), u64_or _ _ (by omega) (by omega)]
theorem masks_loop (l : List (List Int)) (hl : longL l) (h4 : l.length ≤ 400) (hc : ∀ r ∈ l, cols60 r) : ∀ d i, i + d = l.length → Ev (fun k => impl_newCoverSearch.l0 k ((l.take i).map fun r => ((maskN 0 r : Nat) : Int)) l (l.length : Int) (i : Int)) (l.map fun r => ((maskN 0 r : Nat) : Int)) := by
  intro d
  induction d with
  | zero =>
    intro i h
    rw [List.take_of_length_le (by omega)]
    exact ev_const fun k => by simp only [impl_newCoverSearch.l0]; rw [if_neg (by omega)]
  | succ d ih =>
    intro i h
    have hi : i < l.length := by omega
    have hm := List.getElem_mem hi
    refine Ev.step (f := fun k => impl_newCoverSearch.l1 k ((l.take i).map fun r => ((maskN 0 r : Nat) : Int)) ((0 : Nat) : Int) l (l.length : Int) (i : Int) l[i] (l[i].length : Int) ((0 : Nat) : Int)) (fun k => ?_) ?_
    · simp only [impl_newCoverSearch.l0]
      rw [if_pos (by omega), if_pos (by omega), if_pos (by omega), rdr_nat l hi]; rfl
    · refine masks_in l _ l[i] _ _ (hl.2 _ hm) (hc _ hm) (by simp; omega) l[i].length 0 0 (by omega) (by omega) ?_
      rw [List.drop_zero, wrap_succ hi hl.1]
      have := ih (i + 1) (by omega)
      rw [List.take_succ_eq_append_getElem hi, List.map_append] at this
      exact this
theorem searchMasks (a b : Int) (l : List (List Int)) (hl : longL l) (h4 : l.length ≤ 400) (hc : ∀ r ∈ l, cols60 r) : Ev (fun k => impl_newCoverSearch.f k a b l) (l.map fun r => ((maskN 0 r : Nat) : Int)) := by
  have := masks_loop l hl h4 hc l.length 0 (by omega)
  simpa [impl_newCoverSearch.f] using this

theorem rises_mem (m : Int) : ∀ (l : List Int) (p : Int), risesB m l p = true → ∀ x ∈ l, 0 ≤ x ∧ x ≤ m
  | [], _, _, x, hx => absurd hx List.not_mem_nil
  | y :: ys, p, h, x, hx => by
    simp only [risesB, Bool.and_eq_true, decide_eq_true_eq] at h
    rcases List.mem_cons.mp hx with rfl | hx
    · exact ⟨h.1.1.1, h.1.1.2⟩
    · exact rises_mem m ys y h.2 x hx
theorem cover_cols {a b : Int} {l : List (List Int)} (h : coverB a b l = true) : ∀ r ∈ l, cols60 r := fun r hr x hx => by
  simp only [coverB, rowB, Bool.and_eq_true, decide_eq_true_eq, List.all_eq_true] at h
  have h1 := rises_mem _ r (-1) (h.2 r hr).2 x hx
  have e : wrap64 (a - 1) = a - 1 := wrap_id (by omega) (by omega)
  omega

theorem impl_in (a b c : Int) : impl_within.f a b c = some (decide (b ≤ a) && decide (a ≤ c)) := by
  unfold impl_within.f; by_cases h : b ≤ a
  · rw [if_pos h]; simp [h]
  · rw [if_neg h]; simp [h]

theorem impl_rises_loop (l : List Int) (n : Int) (hl : l.length ≤ 9223372036854775807) : ∀ d i, i + d = l.length →
    Ev (fun k => impl_isIncreasing.l0 k l n l (l.length : Int) (i : Int)) (risesB (wrap64 (n - 1)) (l.drop i) (prevOf l i)) := by
  intro d
  induction d with
  | zero =>
    intro i h
    rw [rises_end _ _ (by omega)]
    exact ev_const fun k => by simp only [impl_isIncreasing.l0]; rw [if_neg (by omega)]
  | succ d ih =>
    intro i h
    have hi : i < l.length := by omega
    have step : ∀ k, impl_isIncreasing.l0 (k + 1) l n l (l.length : Int) (i : Int) = if (decide (0 ≤ l[i]) && decide (l[i] ≤ wrap64 (n - 1))) = true then (if decide (prevOf l i < l[i]) = true ∨ i = 0 then impl_isIncreasing.l0 k l n l (l.length : Int) ((i + 1 : Nat) : Int) else some false) else some false := fun k => by
      simp only [impl_isIncreasing.l0]
      rw [if_pos (by omega), if_pos (by omega), if_pos (by omega), rd_nat l hi, impl_in]
      simp only [Option.bind_some, wrap_succ hi hl]
      by_cases c : (decide (0 ≤ l[i]) && decide (l[i] ≤ wrap64 (n - 1))) = true
      · rw [if_pos c, if_pos c]
        by_cases z : i = 0
        · rw [if_neg (by omega), if_pos (.inr z)]
        · have e : wrap64 ((i : Int) - 1) = ((i - 1 : Nat) : Int) := by unfold wrap64; omega
          have p : prevOf l i = l[i - 1] := by simp [prevOf, z, List.getD_eq_getElem?_getD, List.getElem?_eq_getElem (show i - 1 < l.length by omega)]
          rw [if_pos (by omega), e, if_pos (by omega), if_pos (by omega), rd_nat l (by omega), p]
          by_cases q : l[i] ≤ l[i - 1]
          · rw [if_pos q, if_neg (by simp [z]; omega)]
          · rw [if_neg q, if_pos (.inl (by simp; omega))]
      · rw [if_neg c, if_neg c]
    rw [rises_next _ _ hi]
    refine Ev.step step ?_
    by_cases c : (decide (0 ≤ l[i]) && decide (l[i] ≤ wrap64 (n - 1))) = true
    · simp only [if_pos c]
      by_cases q : decide (prevOf l i < l[i]) = true ∨ i = 0
      · simp only [if_pos q]
        refine ev_eq (ih (i + 1) (by omega)) ?_
        have q' : decide (prevOf l i < l[i]) = true := q.elim id fun z => by
          subst z
          simp only [Bool.and_eq_true, decide_eq_true_eq] at c
          simp [prevOf]; omega
        rw [c, q']; simp
      · simp only [if_neg q]
        refine ev_eq (Ev.now _) ?_
        rw [show decide (prevOf l i < l[i]) = false by simp only [not_or] at q; simpa using q.1]; simp
    · simp only [if_neg c]
      refine ev_eq (Ev.now _) ?_
      simp only [Bool.not_eq_true] at c
      rw [c]; simp
theorem impl_rises (l : List Int) (n : Int) (hl : l.length ≤ 9223372036854775807) : Ev (fun k => impl_isIncreasing.f k l n) (risesB (wrap64 (n - 1)) l (-1)) := by
  have := impl_rises_loop l n hl l.length 0 (by omega)
  simpa [impl_isIncreasing.f, prevOf] using this

theorem anyM_ev {α : Type} (p : Nat → α → Option Bool) (q : α → Bool) : ∀ l : List α, (∀ x ∈ l, Ev (fun k => p k x) (q x)) → Ev (fun k => anyM (p k) l) (l.any q)
  | [], _ => by simpa [anyM] using Ev.now false
  | x :: xs, h => by
    simp only [anyM, List.any_cons]
    refine Ev.bind (h x (List.mem_cons_self ..)) ?_
    cases c : q x with
    | true => simpa using Ev.now true
    | false => simpa using anyM_ev p q xs (fun y hy => h y (List.mem_cons_of_mem _ hy))
theorem anyM_some {α : Type} (p : α → Option Bool) (q : α → Bool) : ∀ l : List α, (∀ x ∈ l, p x = some (q x)) → anyM p l = some (l.any q)
  | [], _ => rfl
  | x :: xs, h => by
    simp only [anyM, List.any_cons, h x (List.mem_cons_self ..), Option.bind_some]
    cases c : q x with
    | true => simp
    | false => simpa using anyM_some p q xs (fun y hy => h y (List.mem_cons_of_mem _ hy))

theorem impl_IsCover_ev (a b : Int) (l : List (List Int)) (hl : longL l) : Ev (fun k => impl_IsCover.f k a b l) (coverB a b l) := by
  have h1 : ∀ x ∈ l, Ev (fun k => impl_IsCover_1.f k x a) (!rowB a x) := fun x hx => by
    simp only [impl_IsCover_1.f]
    by_cases c : (x.length : Int) = 0
    · simp only [if_pos c]; refine ev_eq (Ev.now _) ?_; simp only [rowB, c]; simp
    · simp only [if_neg c]
      refine Ev.bind (impl_rises x a (hl.2 _ hx)) ?_
      refine ev_eq (Ev.now _) ?_
      simp only [rowB, c]; simp
  have h2 := anyM_ev (fun k x => impl_IsCover_1.f k x a) (fun x => !rowB a x) l h1
  simp only [impl_IsCover.f, impl_in, Option.bind_some]
  unfold coverB
  cases q : (decide (1 ≤ a) && decide (a ≤ 60)) with
  | false => simpa using Ev.now false
  | true =>
    cases q2 : (decide (1 ≤ b) && decide (b ≤ a)) with
    | false => simpa using Ev.now false
    | true =>
      simp only [if_true, Bool.true_and]
      by_cases c : (l.length : Int) ≤ 400
      · simp only [if_neg (show ¬ (l.length : Int) > 400 by omega), decide_eq_true c, Bool.true_and]
        refine Ev.bind h2 ?_
        refine ev_eq (Ev.now _) ?_
        simp [List.any_eq_not_all_not]
      · simp only [if_pos (show (l.length : Int) > 400 by omega), decide_eq_false c, Bool.false_and]
        exact Ev.now false

def maskL (l : List (List Int)) : List Int := l.map fun r => ((maskN 0 r : Nat) : Int)
theorem maskL_len (l : List (List Int)) : (maskL l).length = l.length := by simp [maskL]
theorem maskL_rd (l : List (List Int)) {i : Nat} (h : i < l.length) : rd (maskL l) (i : Int) = ((maskN 0 l[i] : Nat) : Int) := by
  rw [rd_nat (maskL l) (by rw [maskL_len]; exact h)]; simp [maskL]
def finB (n : Int) (acc : List (List Int)) : Int × List (List Int) × Int := if acc.length > 20000 then (0, [], 3) else (n, acc, 0)
theorem impl_fc_pair (a b : Int) (l : List (List Int)) (hc : ∀ r ∈ l, cols60 r) (h4 : l.length ≤ 400) {i : Nat} (hi : i < l.length) (tl : List (List Int))
    (hE : ∀ x4 : List (List Int), x4.length ≤ 20000 → Ev (fun k => impl_FormulaOfCover.l2 k x4 (maskL l) (maskL l) (l.length : Int) ((i + 1 : Nat) : Int) a b l) (finB (l.length : Int) (x4 ++ tl))) :
    ∀ d j (x4 : List (List Int)), j + d = l.length → x4.length ≤ 20000 → Ev (fun k => impl_FormulaOfCover.l3 k x4 (maskL l) (i : Int) ((maskN 0 l[i] : Nat) : Int) (j : Int) (maskL l) (l.length : Int) (i : Int) a b l) (finB (l.length : Int) (x4 ++ (pairI l[i] (l.drop j) i j ++ tl))) := by
  intro d
  induction d with
  | zero =>
    intro j x4 h h2
    rw [List.drop_eq_nil_of_le (by omega)]
    refine Ev.step (fun k => ?_) (hE x4 h2)
    simp only [impl_FormulaOfCover.l3, maskL_len]
    rw [if_neg (by omega), wrap_succ hi (by omega)]
  | succ d ih =>
    intro j x4 h h2
    have hj : j < l.length := by omega
    rw [List.drop_eq_getElem_cons hj]
    simp only [pairI]
    have hov := mask_over (hc _ (List.getElem_mem hi)) (hc _ (List.getElem_mem hj))
    have w1 : wrap64 (wrap64 (-(i : Int)) - 1) = -(i : Int) - 1 := by rw [wrap_id (x := -(i : Int)) (by omega) (by omega), wrap_id (by omega) (by omega)]
    have w2 : wrap64 (wrap64 (-(j : Int)) - 1) = -(j : Int) - 1 := by rw [wrap_id (x := -(j : Int)) (by omega) (by omega), wrap_id (by omega) (by omega)]
    have e1 : ((j : Int) + 1) = ((j + 1 : Nat) : Int) := by push_cast; rfl
    have step : ∀ k, impl_FormulaOfCover.l3 (k + 1) x4 (maskL l) (i : Int) ((maskN 0 l[i] : Nat) : Int) (j : Int) (maskL l) (l.length : Int) (i : Int) a b l = if overB2 l[i] l[j] = false then impl_FormulaOfCover.l3 k x4 (maskL l) (i : Int) ((maskN 0 l[i] : Nat) : Int) ((j + 1 : Nat) : Int) (maskL l) (l.length : Int) (i : Int) a b l else if (x4.length : Int) = 20000 then some (0, [], 3) else impl_FormulaOfCover.l3 k (x4 ++ [[-(i : Int) - 1, -(j : Int) - 1]]) (maskL l) (i : Int) ((maskN 0 l[i] : Nat) : Int) ((j + 1 : Nat) : Int) (maskL l) (l.length : Int) (i : Int) a b l := fun k => by
      simp only [impl_FormulaOfCover.l3, maskL_len]
      rw [if_pos (by omega), if_pos (by omega), maskL_rd l hj, wrap_succ hj (by omega)]
      simp only [w1, w2, if_pos (show x4.length < 5864062014805 by omega), hov]
    refine Ev.step step ?_
    cases c : overB2 l[i] l[j] with
    | false =>
      simp only [if_true, Bool.false_eq_true, if_false, List.nil_append]
      rw [e1]
      exact ih (j + 1) x4 (by omega) h2
    | true =>
      simp only [Bool.true_eq_false, if_false, if_true]
      by_cases c2 : (x4.length : Int) = 20000
      · simp only [if_pos c2]
        refine ev_eq (Ev.now _) ?_
        unfold finB
        rw [if_pos (by simp only [List.length_append, List.length_cons, List.length_nil]; omega)]
      · simp only [if_neg c2]
        rw [e1]
        refine ev_eq (ih (j + 1) (x4 ++ [[-(i : Int) - 1, -(j : Int) - 1]]) (by omega) (by simp; omega)) ?_
        simp only [List.append_assoc]
theorem impl_fc_pairs (a b : Int) (l : List (List Int)) (hc : ∀ r ∈ l, cols60 r) (h4 : l.length ≤ 400) : ∀ d i (x4 : List (List Int)), i + d = l.length → x4.length ≤ 20000 → Ev (fun k => impl_FormulaOfCover.l2 k x4 (maskL l) (maskL l) (l.length : Int) (i : Int) a b l) (finB (l.length : Int) (x4 ++ pairsI (l.drop i) i)) := by
  intro d
  induction d with
  | zero =>
    intro i x4 h h2
    rw [List.drop_eq_nil_of_le (by omega)]
    refine ev_const fun k => ?_
    simp only [impl_FormulaOfCover.l2]
    rw [if_neg (by omega)]
    simp only [pairsI, List.append_nil, finB, if_neg (show ¬ x4.length > 20000 by omega)]
  | succ d ih =>
    intro i x4 h h2
    have hi : i < l.length := by omega
    have e1 : ((i : Int) + 1) = ((i + 1 : Nat) : Int) := by push_cast; rfl
    rw [List.drop_eq_getElem_cons hi]
    simp only [pairsI]
    rw [e1]
    refine Ev.step (fun k => ?_) (impl_fc_pair a b l hc h4 hi (pairsI (l.drop (i + 1)) ((i + 1 : Nat) : Int)) (fun x4 h2 => ih (i + 1) x4 (by omega) h2) (l.length - (i + 1)) (i + 1) x4 (by omega) h2)
    simp only [impl_FormulaOfCover.l2, maskL_len]
    rw [if_pos (by omega), if_pos (by omega), if_pos (by omega), maskL_rd l hi, wrap_succ hi (by omega)]
def mixI (l : List (List Int)) (b i c : Nat) : List (List Int) := (List.range b).map fun (q : Nat) => colI l (q : Int) (if q < c then i + 1 else i)
theorem mixI_len (l : List (List Int)) (b i c : Nat) : (mixI l b i c).length = b := by simp [mixI]
theorem mixI_zero (l : List (List Int)) (b i : Nat) : mixI l b i 0 = colsI l b i := by simp [mixI, colsI]
theorem mixI_end (l : List (List Int)) (b i : Nat) : mixI l b i b = colsI l b (i + 1) := by
  unfold mixI colsI
  refine List.map_congr_left (fun q hq => ?_)
  rw [if_pos (List.mem_range.1 hq)]
theorem mixI_get (l : List (List Int)) {b i c : Nat} (h : c < b) : rd_L1 (mixI l b i c) (c : Int) = colI l (c : Int) i := by
  have h2 : c < (mixI l b i c).length := by rw [mixI_len]; exact h
  rw [rdr_nat (mixI l b i c) h2]
  simp [mixI]
theorem mixI_set (l : List (List Int)) {b i c : Nat} : (mixI l b i c).set c (colI l (c : Int) (i + 1)) = mixI l b i (c + 1) := by
  refine List.ext_getElem (by simp [mixI]) (fun j h1 h2 => ?_)
  have hj : j < b := by simpa [mixI] using h2
  rw [List.getElem_set]
  by_cases e : c = j
  · subst e; rw [if_pos rfl]; simp [mixI]
  · rw [if_neg e]
    simp only [mixI, List.getElem_map, List.getElem_range]
    congr 1
    by_cases q : j < c
    · rw [if_pos q, if_pos (by omega)]
    · rw [if_neg q, if_neg (by omega)]
theorem mixI_keep (l : List (List Int)) {b i c : Nat} (h : colI l (c : Int) (i + 1) = colI l (c : Int) i) : mixI l b i (c + 1) = mixI l b i c := by
  unfold mixI
  refine List.map_congr_left (fun q _ => ?_)
  by_cases e : q = c
  · subst e; rw [if_pos (by omega), if_neg (by omega), h]
  · by_cases q2 : q < c
    · rw [if_pos q2, if_pos (by omega)]
    · rw [if_neg q2, if_neg (by omega)]
theorem impl_fc_col (a b : Int) (l : List (List Int)) (hc : ∀ r ∈ l, cols60 r) (h4 : l.length ≤ 400) (hb : 0 ≤ b ∧ b ≤ 60) {i : Nat} (hi : i < l.length) {R : Int × List (List Int) × Int}
    (hE : Ev (fun k => impl_FormulaOfCover.l0 k (colsI l b.toNat (i + 1)) (maskL l) (maskL l) (l.length : Int) ((i + 1 : Nat) : Int) a b l) R) :
    ∀ d c : Nat, (c : Int) + d = b → Ev (fun k => impl_FormulaOfCover.l1 k (mixI l b.toNat i c) (maskL l) (i : Int) ((maskN 0 l[i] : Nat) : Int) (maskL l) (l.length : Int) (i : Int) b (c : Int) a b l) R := by
  intro d
  induction d with
  | zero =>
    intro c h
    rw [show c = b.toNat by omega, mixI_end]
    refine Ev.step (fun k => ?_) hE
    simp only [impl_FormulaOfCover.l1]
    rw [if_neg (by omega), wrap_succ hi (by omega)]
  | succ d ih =>
    intro c h
    have hm := maskN_lt l[i] 0 (hc _ (List.getElem_mem hi)) (by omega)
    have hbit := u64_bit (maskN 0 l[i]) c (by omega) (by omega)
    rw [maskN_bit l[i] 0 c (hc _ (List.getElem_mem hi)), Nat.zero_testBit, Bool.false_or] at hbit
    have hcs := colI_succ l (c : Int) hi
    have hcl := colI_len l (c : Int) i
    have w1 : wrap64 ((i : Int) + 1) = (i : Int) + 1 := wrap_id (by omega) (by omega)
    have step : ∀ k, impl_FormulaOfCover.l1 (k + 1) (mixI l b.toNat i c) (maskL l) (i : Int) ((maskN 0 l[i] : Nat) : Int) (maskL l) (l.length : Int) (i : Int) b (c : Int) a b l = if l[i].contains (c : Int) = true then impl_FormulaOfCover.l1 k ((mixI l b.toNat i c).set c (colI l (c : Int) i ++ [(i : Int) + 1])) (maskL l) (i : Int) ((maskN 0 l[i] : Nat) : Int) (maskL l) (l.length : Int) (i : Int) b ((c + 1 : Nat) : Int) a b l else impl_FormulaOfCover.l1 k (mixI l b.toNat i c) (maskL l) (i : Int) ((maskN 0 l[i] : Nat) : Int) (maskL l) (l.length : Int) (i : Int) b ((c + 1 : Nat) : Int) a b l := fun k => by
      simp only [impl_FormulaOfCover.l1]
      rw [if_pos (by omega), u64_wrap c (by omega), if_pos (by omega), mixI_get l (show c < b.toNat by omega), wrap_succ (show c < 1000 by omega) (by omega), Int.toNat_natCast, w1]
      simp only [hbit, if_pos (show (0 : Int) ≤ (c : Int) by omega), if_pos (show (c : Int) < ((mixI l b.toNat i c).length : Int) by rw [mixI_len]; omega), if_pos (show (colI l (c : Int) i).length < 17592186044416 by omega)]
    refine Ev.step step ?_
    cases q : l[i].contains (c : Int) with
    | true =>
      rw [q] at hcs
      simp only [if_true] at hcs ⊢
      rw [← hcs, mixI_set]
      exact ih (c + 1) (by omega)
    | false =>
      rw [q] at hcs
      simp only [Bool.false_eq_true, if_false, List.append_nil] at hcs ⊢
      have := ih (c + 1) (by omega)
      rw [mixI_keep l hcs] at this
      exact this
theorem impl_fc_cols (a b : Int) (l : List (List Int)) (hc : ∀ r ∈ l, cols60 r) (h4 : l.length ≤ 400) (hb : 0 ≤ b ∧ b ≤ 60) : ∀ d i, i + d = l.length → Ev (fun k => impl_FormulaOfCover.l0 k (colsI l b.toNat i) (maskL l) (maskL l) (l.length : Int) (i : Int) a b l) (finB (l.length : Int) (formB b l)) := by
  intro d
  induction d with
  | zero =>
    intro i h
    refine Ev.step (f := fun k => impl_FormulaOfCover.l2 k (colsI l b.toNat l.length) (maskL l) (maskL l) (l.length : Int) ((0 : Nat) : Int) a b l) (fun k => ?_) ?_
    · simp only [impl_FormulaOfCover.l0]
      rw [if_neg (by omega), maskL_len, show i = l.length by omega]; rfl
    · have := impl_fc_pairs a b l hc h4 l.length 0 (colsI l b.toNat l.length) (by omega) (by simp [colsI]; omega)
      simpa [formB] using this
  | succ d ih =>
    intro i h
    have hi : i < l.length := by omega
    refine Ev.step (f := fun k => impl_FormulaOfCover.l1 k (mixI l b.toNat i 0) (maskL l) (i : Int) ((maskN 0 l[i] : Nat) : Int) (maskL l) (l.length : Int) (i : Int) b ((0 : Nat) : Int) a b l) (fun k => ?_) (impl_fc_col a b l hc h4 hb hi (ih (i + 1) (by omega)) b.toNat 0 (by omega))
    simp only [impl_FormulaOfCover.l0, maskL_len]
    rw [if_pos (by omega), if_pos (by omega), if_pos (by omega), maskL_rd l hi, mixI_zero]; rfl
theorem impl_FormulaOf (a b : Int) (l : List (List Int)) (hl : longL l) : Ev (fun k => impl_FormulaOfCover.f k a b l) (formOf a b l) := by
  simp only [impl_FormulaOfCover.f]
  refine Ev.bind (impl_IsCover_ev a b l hl) ?_
  unfold formOf
  cases c1 : coverB a b l with
  | false => simpa using Ev.now _
  | true =>
    have h4 := coverB_len c1
    have hb : 0 ≤ b ∧ b ≤ 60 := by simp only [coverB, Bool.and_eq_true, decide_eq_true_eq] at c1; omega
    have hc := cover_cols c1
    simp only [if_true, if_pos hb.1, if_pos (show b.toNat ≤ 11728124029610 by omega)]
    refine Ev.bind (searchMasks a b l hl h4 hc) ?_
    have := impl_fc_cols a b l hc h4 hb l.length 0 (by omega)
    have e0 : colsI l b.toNat 0 = List.replicate b.toNat [] := by
      unfold colsI colI
      refine List.ext_getElem (by simp) (fun j h1 h2 => by simp [whereI])
    rw [e0] at this
    simpa [maskL, finB] using this

theorem szInts (l : List Int) (n : Int) (hl : l.length ≤ 9223372036854775807) (h0 : 0 ≤ n) (h1 : n ≤ 4611686018427387904) : ∃ r, laws_szInt64S.f l n = some r ∧ -1 ≤ r ∧ r ≤ n ∧ (0 ≤ r → r = n - l.length) := by
  have e : wrap64 (n - (l.length : Int)) = n - l.length := by unfold wrap64; omega
  unfold laws_szInt64S.f
  rw [e]
  by_cases c : n - (l.length : Int) < 0
  · rw [if_pos c]; exact ⟨_, rfl, by omega, by omega, by omega⟩
  · rw [if_neg c]; exact ⟨_, rfl, by omega, by omega, by omega⟩

theorem szRows_loop (l : List (List Int)) (hl : longL l) : ∀ d i (n : Int), i + d = l.length → 0 ≤ n → n ≤ 4611686018427387904 →
    ∃ r, Ev (fun k => laws_szInt64SS.l0 k l n (i : Int)) r ∧ -1 ≤ r ∧ r ≤ n ∧ (0 ≤ r → ∀ x ∈ l.drop i, (x.length : Int) ≤ n) := by
  intro d
  induction d with
  | zero =>
    intro i n h h0 h1
    refine ⟨n, ev_const fun k => by simp only [laws_szInt64SS.l0]; rw [if_neg (by omega)], by omega, by omega, fun _ x hx => ?_⟩
    rw [List.drop_eq_nil_of_le (by omega)] at hx; cases hx
  | succ d ih =>
    intro i n h h0 h1
    have hi : i < l.length := by omega
    obtain ⟨r1, e1, b1, b2, b3⟩ := szInts l[i] n (hl.2 _ (List.getElem_mem hi)) h0 h1
    have step : ∀ k, laws_szInt64SS.l0 (k + 1) l n (i : Int) = if r1 < 0 then some (-1) else laws_szInt64SS.l0 k l r1 ((i + 1 : Nat) : Int) := fun k => by
      simp only [laws_szInt64SS.l0]
      rw [if_pos (by omega), if_pos (by omega), rdr_nat l hi, e1, wrap_succ hi hl.1]
      simp only [Option.bind_some]
    by_cases c : r1 < 0
    · exact ⟨-1, Ev.step step (by simp only [if_pos c]; exact Ev.now _), by omega, by omega, fun h => by omega⟩
    · obtain ⟨r, hr, c1, c2, c3⟩ := ih (i + 1) r1 (by omega) (by omega) (by omega)
      refine ⟨r, Ev.step step (by simp only [if_neg c]; exact hr), c1, by omega, fun h x hx => ?_⟩
      rw [List.drop_eq_getElem_cons hi] at hx
      rcases List.mem_cons.mp hx with rfl | hx
      · have := b3 (by omega); omega
      · have := c3 h x hx; have := b3 (by omega); omega
theorem szRows (l : List (List Int)) (hl : longL l) (n : Int) (h0 : 0 ≤ n) (h1 : n ≤ 4611686018427387904) :
    ∃ r, Ev (fun k => laws_szInt64SS.f k l n) r ∧ -1 ≤ r ∧ r ≤ n ∧ (0 ≤ r → (l.length : Int) ≤ n ∧ ∀ x ∈ l, (x.length : Int) ≤ n) := by
  have e : wrap64 (n - (l.length : Int)) = n - l.length := by have := hl.1; unfold wrap64; omega
  by_cases c : n - (l.length : Int) < 0
  · exact ⟨-1, by simp only [laws_szInt64SS.f, e, if_pos c]; exact Ev.now _, by omega, by omega, fun h => by omega⟩
  · obtain ⟨r, hr, c1, c2, c3⟩ := szRows_loop l hl l.length 0 (n - l.length) (by omega) (by omega) (by omega)
    exact ⟨r, by simp only [laws_szInt64SS.f, e, if_neg c]; exact hr, c1, by omega, fun h => ⟨by omega, fun x hx => by have := c3 h x (by simpa using hx); omega⟩⟩

theorem toInts_loop (l : List Int) (hl : l.length ≤ 9223372036854775807) : ∀ d i (y : List Int), i + d = l.length → y.length = l.length → y.take i = l.take i → Ev (fun k => laws_toInt64S.l0 k l y (i : Int)) l := by
  intro d
  induction d with
  | zero =>
    intro i y h hy ht
    have e : y = l := by
      rw [List.take_of_length_le (by omega), List.take_of_length_le (by omega)] at ht; exact ht
    subst e
    exact ev_const fun k => by simp only [laws_toInt64S.l0]; rw [if_neg (by omega)]
  | succ d ih =>
    intro i y h hy ht
    have hi : i < l.length := by omega
    refine Ev.step (f := fun k => laws_toInt64S.l0 k l (y.set i l[i]) ((i + 1 : Nat) : Int)) (fun k => ?_) (ih (i + 1) (y.set i l[i]) (by omega) (by simp [hy]) ?_)
    · simp only [laws_toInt64S.l0]
      rw [if_pos (by omega), if_pos (by omega), if_pos (by omega), rd_nat l hi, wrap_succ hi hl, Int.toNat_natCast]
    · rw [List.take_succ_eq_append_getElem (by simp; omega), List.take_succ_eq_append_getElem hi, List.take_set_of_le (Nat.le_refl i), ht]; simp
theorem toInts (l : List Int) (hl : l.length ≤ 35184372088832) : Ev (fun k => laws_toInt64S.f k l) l := by
  have := toInts_loop l (by omega) l.length 0 (List.replicate l.length 0) (by omega) (by simp) (by simp)
  simp only [laws_toInt64S.f, Int.toNat_natCast, if_pos hl, if_pos (Int.natCast_nonneg l.length)]
  exact this

theorem toRows_loop (l : List (List Int)) (hl : l.length ≤ 9223372036854775807) (hx : ∀ x ∈ l, x.length ≤ 35184372088832) : ∀ d i (y : List (List Int)), i + d = l.length → y.length = l.length → y.take i = l.take i → Ev (fun k => laws_toInt64SS.l0 k l y (i : Int)) l := by
  intro d
  induction d with
  | zero =>
    intro i y h hy ht
    have e : y = l := by
      rw [List.take_of_length_le (by omega), List.take_of_length_le (by omega)] at ht; exact ht
    subst e
    exact ev_const fun k => by simp only [laws_toInt64SS.l0]; rw [if_neg (by omega)]
  | succ d ih =>
    intro i y h hy ht
    have hi : i < l.length := by omega
    refine Ev.step (f := fun k => (laws_toInt64S.f k l[i]).bind fun t => laws_toInt64SS.l0 k l (y.set i t) ((i + 1 : Nat) : Int)) (fun k => ?_) (Ev.bind (toInts l[i] (hx _ (List.getElem_mem hi))) (ih (i + 1) (y.set i l[i]) (by omega) (by simp [hy]) ?_))
    · simp only [laws_toInt64SS.l0]
      rw [if_pos (by omega), if_pos (by omega), rdr_nat l hi, wrap_succ hi hl]
      simp only [if_pos (show (i : Int) < (y.length : Int) by omega), Int.toNat_natCast]
    · rw [List.take_succ_eq_append_getElem (by simp; omega), List.take_succ_eq_append_getElem hi, List.take_set_of_le (Nat.le_refl i), ht]; simp
theorem toRows (l : List (List Int)) (hl : l.length ≤ 11728124029610) (hx : ∀ x ∈ l, x.length ≤ 35184372088832) : Ev (fun k => laws_toInt64SS.f k l) l := by
  have := toRows_loop l (by omega) hx l.length 0 (List.replicate l.length []) (by omega) (by simp) (by simp)
  simp only [laws_toInt64SS.f, Int.toNat_natCast, if_pos hl, if_pos (Int.natCast_nonneg l.length)]
  exact this

theorem eqInts_loop (l : List Int) (hl : l.length ≤ 9223372036854775807) : ∀ d i, i + d = l.length → Ev (fun k => laws_eqInt64S.l0 k l l (i : Int)) true := by
  intro d
  induction d with
  | zero => intro i h; exact ev_const fun k => by simp only [laws_eqInt64S.l0]; rw [if_neg (by omega)]
  | succ d ih =>
    intro i h
    have hi : i < l.length := by omega
    refine Ev.step (f := fun k => laws_eqInt64S.l0 k l l ((i + 1 : Nat) : Int)) (fun k => ?_) (ih (i + 1) (by omega))
    simp only [laws_eqInt64S.l0]
    rw [if_pos (by omega), if_pos (by omega), if_pos (by omega), wrap_succ hi hl]; simp
theorem eqInts (l : List Int) (hl : l.length ≤ 9223372036854775807) : Ev (fun k => laws_eqInt64S.f k l l) true := by
  have := eqInts_loop l hl l.length 0 (by omega)
  simpa [laws_eqInt64S.f] using this

theorem eqRows_loop (l : List (List Int)) (hl : longL l) : ∀ d i, i + d = l.length → Ev (fun k => laws_eqInt64SS.l0 k l l (i : Int)) true := by
  intro d
  induction d with
  | zero => intro i h; exact ev_const fun k => by simp only [laws_eqInt64SS.l0]; rw [if_neg (by omega)]
  | succ d ih =>
    intro i h
    have hi : i < l.length := by omega
    refine Ev.step (f := fun k => (laws_eqInt64S.f k l[i] l[i]).bind fun t => if t = true then laws_eqInt64SS.l0 k l l ((i + 1 : Nat) : Int) else some false) (fun k => ?_) (Ev.bind (eqInts l[i] (hl.2 _ (List.getElem_mem hi))) (by simpa using ih (i + 1) (by omega)))
    simp only [laws_eqInt64SS.l0]
    rw [if_pos (by omega), if_pos (by omega), if_pos (by omega), rdr_nat l hi, wrap_succ hi hl.1]
theorem eqRows (l : List (List Int)) (hl : longL l) : Ev (fun k => laws_eqInt64SS.f k l l) true := by
  have := eqRows_loop l hl l.length 0 (by omega)
  simpa [laws_eqInt64SS.f] using this

theorem toCover_ev (a b : Int) (l : List (List Int)) (hl : l.length ≤ 11728124029610) (hx : ∀ x ∈ l, x.length ≤ 35184372088832) : Ev (fun k => laws_toCover.f k a b l) (a, b, l) := by
  simp only [laws_toCover.f]
  exact Ev.bind (toRows l hl hx) (Ev.now _)
theorem eqCover_ev (a b : Int) (l : List (List Int)) (hl : longL l) : Ev (fun k => laws_eqCover.f k a b l a b l) true := by
  simp only [laws_eqCover.f, if_true]
  exact Ev.bind (eqRows l hl) (by simpa using Ev.now true)
theorem szCover_ev (a b : Int) (l : List (List Int)) (hl : longL l) : ∃ r, Ev (fun k => laws_szCover.f k a b l 1048576) r ∧ (r < 0 ∨ ((l.length : Int) ≤ 1048576 ∧ ∀ x ∈ l, (x.length : Int) ≤ 1048576)) := by
  obtain ⟨r, hr, c1, c2, c3⟩ := szRows l hl 1048576 (by omega) (by omega)
  by_cases c : r < 0
  · exact ⟨-1, by simp only [laws_szCover.f]; exact Ev.bind hr (by simp only [if_pos c]; exact Ev.now _), .inl (by omega)⟩
  · exact ⟨r, by simp only [laws_szCover.f]; exact Ev.bind hr (by simp only [if_neg c]; exact Ev.now _), .inr (c3 (by omega))⟩

theorem eqFormula_ev (a : Int) (l : List (List Int)) (hl : longL l) : Ev (fun k => laws_eqFormula.f k a l a l) true := by
  simp only [laws_eqFormula.f, if_true]
  exact Ev.bind (eqRows l hl) (by simpa using Ev.now true)

/-- The numbers from a on. -/
def seqI (a : Int) : Nat → List Int
  | 0 => []
  | n + 1 => a :: seqI (a + 1) n
theorem seqI_length : ∀ n a, (seqI a n).length = n
  | 0, _ => rfl
  | n + 1, a => by simp [seqI, seqI_length n]
theorem seqI_snoc : ∀ n a, seqI a (n + 1) = seqI a n ++ [a + n]
  | 0, a => by simp [seqI]
  | n + 1, a => by
    rw [seqI, seqI_snoc n (a + 1), seqI]
    simp only [List.cons_append]
    congr 3; omega
theorem seqI_get : ∀ n a i (h : i < (seqI a n).length), (seqI a n)[i] = a + i
  | 0, _, _, h => by simp [seqI] at h
  | n + 1, a, 0, _ => by simp [seqI]
  | n + 1, a, i + 1, h => by
    simp only [seqI, List.getElem_cons_succ]
    rw [seqI_get n (a + 1) i]; omega
theorem markInts_loop (a : Int) (n : Nat) (h0 : 0 ≤ a) (h1 : a + n ≤ 4611686018427387904) : ∀ d i (y : List Int), i + d = n → y.length = d → Ev (fun k => laws_markInt64S.l0 k (seqI a i ++ y) (a + i) (i : Int)) (a + n, seqI a n) := by
  intro d
  induction d with
  | zero =>
    intro i y h hy
    have : y = [] := List.eq_nil_of_length_eq_zero hy
    subst this
    obtain rfl : i = n := by omega
    exact ev_const fun k => by simp only [laws_markInt64S.l0]; rw [if_neg (by simp [seqI_length])]; simp
  | succ d ih =>
    intro i y h hy
    obtain ⟨z, ys, rfl⟩ : ∃ z ys, y = z :: ys := by cases y with | nil => simp at hy | cons z ys => exact ⟨z, ys, rfl⟩
    refine Ev.step (f := fun k => laws_markInt64S.l0 k (seqI a (i + 1) ++ ys) (a + ((i + 1 : Nat) : Int)) ((i + 1 : Nat) : Int)) (fun k => ?_) (ih (i + 1) ys (by omega) (by simpa using hy))
    simp only [laws_markInt64S.l0]
    rw [if_pos (by simp [seqI_length]; omega), if_pos (by omega)]
    have e1 : wrap64 (a + (i : Int) + 1) = a + ((i + 1 : Nat) : Int) := by unfold wrap64; omega
    have e2 : wrap64 ((i : Int) + 1) = ((i + 1 : Nat) : Int) := by unfold wrap64; omega
    rw [e1, e2, Int.toNat_natCast, seqI_snoc]
    congr 1
    rw [List.set_append_right _ _ (by rw [seqI_length]; exact Nat.le_refl i), seqI_length]; simp
theorem markInts (a : Int) (y : List Int) (h0 : 0 ≤ a) (h1 : a + y.length ≤ 4611686018427387904) : Ev (fun k => laws_markInt64S.f k y a) (a + y.length, seqI a y.length) := by
  have := markInts_loop a y.length h0 h1 y.length 0 y (by omega) rfl
  simpa [laws_markInt64S.f, seqI] using this
theorem heldInts_loop (a : Int) (n : Nat) (h0 : 0 ≤ a) (h1 : a + n ≤ 4611686018427387904) : ∀ d i, i + d = n → Ev (fun k => laws_heldInt64S.l0 k (seqI a n) (a + i) (i : Int)) (a + n) := by
  intro d
  induction d with
  | zero =>
    intro i h
    obtain rfl : i = n := by omega
    exact ev_const fun k => by simp only [laws_heldInt64S.l0]; rw [if_neg (by simp [seqI_length])]
  | succ d ih =>
    intro i h
    have hi : i < (seqI a n).length := by rw [seqI_length]; omega
    refine Ev.step (f := fun k => laws_heldInt64S.l0 k (seqI a n) (a + ((i + 1 : Nat) : Int)) ((i + 1 : Nat) : Int)) (fun k => ?_) (ih (i + 1) (by omega))
    simp only [laws_heldInt64S.l0]
    rw [if_pos (by omega), if_pos (by omega), rd_nat _ hi, seqI_get, if_pos rfl]
    have e1 : wrap64 (a + (i : Int) + 1) = a + ((i + 1 : Nat) : Int) := by unfold wrap64; omega
    have e2 : wrap64 ((i : Int) + 1) = ((i + 1 : Nat) : Int) := by unfold wrap64; omega
    rw [e1, e2]
theorem heldInts (a : Int) (n : Nat) (h0 : 0 ≤ a) (h1 : a + n ≤ 4611686018427387904) : Ev (fun k => laws_heldInt64S.f k (seqI a n) a) (a + n) := by
  have := heldInts_loop a n h0 h1 n 0 (by omega)
  simpa [laws_heldInt64S.f] using this

theorem markRows : ∀ (l : List (List Int)) (a : Int), 0 ≤ a → (∀ x ∈ l, (x.length : Int) ≤ 1048576) → a + l.length * 1048576 ≤ 4611686018427387904 →
    ∃ r z, Ev (fun k => laws_markInt64SS.f k l a) (r, z) ∧ a ≤ r ∧ r ≤ a + l.length * 1048576
  | [], a, _, _, _ => ⟨a, [], Ev.now _, by omega, by simp⟩
  | x :: xs, a, h0, hx, h1 => by
    have hxl := hx x List.mem_cons_self
    simp only [List.length_cons] at h1
    have h1' : a + x.length + xs.length * 1048576 ≤ 4611686018427387904 := by push_cast at h1; omega
    obtain ⟨r, z, hr, c1, c2⟩ := markRows xs (a + x.length) (by omega) (fun y hy => hx y (List.mem_cons_of_mem _ hy)) h1'
    refine ⟨r, seqI a x.length :: z, Ev.bind (markInts a x h0 (by omega)) (Ev.bind hr (Ev.now _)), by omega, ?_⟩
    simp only [List.length_cons]; push_cast; omega

theorem markCover_ev (a b : Int) (l : List (List Int)) (hl : (l.length : Int) ≤ 1048576) (hx : ∀ x ∈ l, (x.length : Int) ≤ 1048576) :
    ∃ r z, Ev (fun k => laws_markCover.f k a b l 1) (r, z) ∧ 1 ≤ r ∧ r ≤ 1099511627777 := by
  obtain ⟨r, z, h, c1, c2⟩ := markRows l 1 (by omega) hx (by omega)
  exact ⟨r, z, h, c1, by omega⟩

def marksZ : List (List Int) → Int → List (List Int)
  | [], _ => []
  | x :: xs, a => seqI a x.length :: marksZ xs (a + x.length)
def marksR : List (List Int) → Int → Int
  | [], a => a
  | x :: xs, a => marksR xs (a + x.length)
theorem marksZ_len : ∀ (l : List (List Int)) (a : Int), (marksZ l a).length = l.length
  | [], _ => rfl
  | x :: xs, a => by simp [marksZ, marksZ_len xs]
theorem marksR_bd : ∀ (l : List (List Int)) (a : Int), (∀ x ∈ l, (x.length : Int) ≤ 1048576) → a ≤ marksR l a ∧ marksR l a ≤ a + l.length * 1048576
  | [], a, _ => by simp [marksR]
  | x :: xs, a, hx => by
    have h1 := hx x List.mem_cons_self
    have h2 := marksR_bd xs (a + x.length) (fun y hy => hx y (List.mem_cons_of_mem _ hy))
    simp only [marksR, List.length_cons]; push_cast
    constructor <;> omega
theorem markRowsZ : ∀ (l : List (List Int)) (a : Int), 0 ≤ a → (∀ x ∈ l, (x.length : Int) ≤ 1048576) → a + l.length * 1048576 ≤ 4611686018427387904 → Ev (fun k => laws_markInt64SS.f k l a) (marksR l a, marksZ l a)
  | [], a, _, _, _ => Ev.now _
  | x :: xs, a, h0, hx, h1 => by
    have hxl := hx x List.mem_cons_self
    simp only [List.length_cons] at h1
    push_cast at h1
    exact Ev.bind (markInts a x h0 (by omega)) (Ev.bind (markRowsZ xs (a + x.length) (by omega) (fun y hy => hx y (List.mem_cons_of_mem _ hy)) (by omega)) (Ev.now _))
theorem heldRows_loop (z : List (List Int)) (hz : z.length ≤ 9223372036854775807) : ∀ (l : List (List Int)) (i : Nat) (a : Int), 0 ≤ a → (∀ x ∈ l, (x.length : Int) ≤ 1048576) → a + l.length * 1048576 ≤ 4611686018427387904 → z.drop i = marksZ l a → i ≤ z.length → Ev (fun k => laws_heldInt64SS.l0 k z a (i : Int)) (marksR l a)
  | [], i, a, _, _, _, hd, _ => by
    have h : z.length ≤ i := by simpa [marksZ] using hd
    exact ev_const fun k => by simp only [laws_heldInt64SS.l0]; rw [if_neg (by omega)]; rfl
  | x :: xs, i, a, h0, hx, h1, hd, _ => by
    have hxl := hx x List.mem_cons_self
    simp only [List.length_cons] at h1
    push_cast at h1
    have hi : i < z.length := by
      by_cases h : i < z.length
      · exact h
      · rw [List.drop_eq_nil_of_le (by omega)] at hd; simp [marksZ] at hd
    rw [List.drop_eq_getElem_cons hi] at hd
    simp only [marksZ, List.cons.injEq] at hd
    refine Ev.step (f := fun k => (laws_heldInt64S.f k z[i] a).bind fun t => if t < 0 then some (-1) else laws_heldInt64SS.l0 k z t ((i + 1 : Nat) : Int)) (fun k => ?_) (Ev.bind (by rw [hd.1]; exact heldInts a x.length h0 (by omega)) ?_)
    · simp only [laws_heldInt64SS.l0]
      rw [if_pos (by omega), if_pos (by omega), rdr_nat z hi, wrap_succ hi hz]
    · simp only [if_neg (show ¬ a + (x.length : Int) < 0 by omega)]
      exact heldRows_loop z hz xs (i + 1) (a + x.length) (by omega) (fun y hy => hx y (List.mem_cons_of_mem _ hy)) (by omega) hd.2 (by omega)
theorem heldRows (l : List (List Int)) (hl : (l.length : Int) ≤ 1048576) (hx : ∀ x ∈ l, (x.length : Int) ≤ 1048576) : Ev (fun k => laws_heldInt64SS.f k (marksZ l 1) 1) (marksR l 1) := by
  have := heldRows_loop (marksZ l 1) (by rw [marksZ_len]; omega) l 0 1 (by omega) hx (by omega) rfl (by omega)
  simpa [laws_heldInt64SS.f] using this


theorem formOf_len (a b : Int) (l : List (List Int)) : (formOf a b l).2.1.length ≤ 20000 ∧ ∀ x ∈ (formOf a b l).2.1, x.length ≤ 400 := by
  unfold formOf
  cases c : coverB a b l with
  | false => simp
  | true =>
    have := formB_len c
    simp only [if_true]
    by_cases q : (formB b l).length > 20000
    · rw [if_pos q]; simp
    · rw [if_neg q]; exact ⟨by show (formB b l).length ≤ 20000; omega, this.2⟩
theorem pure : laws_FnExactFormulaOfCover.Pure := by
  intro a b l _ _ hw
  have hl := longL_of hw
  obtain ⟨r, hr, hc⟩ := szCover_ev a b l hl
  refine Ev.rounds (r := true) ?_
  simp only [laws_FnExactFormulaOfCover.f]
  refine Ev.bind hr ?_
  by_cases c : r < 0
  · simp only [if_pos c]; exact Ev.now _
  simp only [if_neg c]
  have hs := hc.resolve_left c
  have hT := toCover_ev a b l (by omega) (fun x hx => by have := hs.2 x hx; omega)
  have hlen := formOf_len a b l
  have hS := spec_FormulaOf a b l hl
  have hI := impl_FormulaOf a b l hl
  generalize formOf a b l = v at *
  obtain ⟨n, f, e⟩ := v
  replace hlen : f.length ≤ 20000 ∧ ∀ x ∈ f, x.length ≤ 400 := hlen
  have hf : longL f := ⟨by omega, fun x hx => by have := hlen.2 x hx; omega⟩
  have hx : ∀ x ∈ f, (x.length : Int) ≤ 1048576 := fun x hx => by have := hlen.2 x hx; omega
  have hE := eqFormula_ev n f hf
  refine Ev.bind hT (Ev.bind hS (Ev.bind hT (Ev.bind hI (Ev.bind hE ?_))))
  simp only [if_true]
  refine Ev.bind hT (Ev.bind (eqCover_ev a b l hl) ?_)
  simp only [if_true]
  obtain ⟨m, z, hM, m1, m2⟩ := markCover_ev a b l hs.1 hs.2
  refine Ev.bind hM ?_
  simp only [if_neg (show ¬ m < 0 by omega)]
  refine Ev.bind hE ?_
  simp only [if_true]
  have hR := marksR_bd f 1 hx
  have hMz : Ev (fun k => laws_markFormula.f k n f 1) (marksR f 1, marksZ f 1) := markRowsZ f 1 (by omega) hx (by omega)
  have hH : Ev (fun k => laws_heldFormula.f k n (marksZ f 1) 1) (marksR f 1) := by
    have := heldRows f (by omega) hx
    simp only [laws_heldFormula.f]
    refine Ev.bind this ?_
    simp only [if_neg (show ¬ (marksR f 1 < 0) by omega)]
    exact Ev.now _
  refine Ev.bind hMz (Ev.bind hH ?_)
  simp only [if_neg (show ¬ (marksR f 1 < 0) by omega), if_true]
  refine Ev.bind hT (Ev.bind hI (Ev.bind hE ?_))
  simp only [if_true]
  refine Ev.bind hH ?_
  simp only [if_neg (show ¬ (marksR f 1 < 0) by omega), if_true]
  exact Ev.now true

end Go.Proofs.Ytccenkhokgiejaa.XFnExactFormulaOfCover
namespace Go.Proofs.Ytccenkhokgiejaa
/-- The law FnExactFormulaOfCover returns true at every cover and leaves its argument as it was. Conditions: none. -/
theorem fnExactFormulaOfCover_holds : Rows.FnExactFormulaOfCoverSaid := fnExactFormulaOfCover.of_pure XFnExactFormulaOfCover.pure
#print axioms fnExactFormulaOfCover_holds
end Go.Proofs.Ytccenkhokgiejaa
