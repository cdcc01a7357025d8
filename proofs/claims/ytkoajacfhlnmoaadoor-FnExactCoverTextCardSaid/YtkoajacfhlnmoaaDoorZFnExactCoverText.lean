/- The law FnExactCoverText returns true at every cover and leaves its argument as it was. Conditions: none. -/
import Derived.Test.YtkoajacfhlnmoaaDoorXRFnExactCoverText
namespace Go.Proofs.YtkoajacfhlnmoaaDoor.XFnExactCoverText
open Go.RowKit Go.Proofs.YtkoajacfhlnmoaaDoorW.PrintWords Go.Proofs.YtkoajacfhlnmoaaDoorW.PrintLast Go.Proofs.YtkoajacfhlnmoaaDoorW.PrintMore Go.Proofs.YtkoajacfhlnmoaaDoor.U
set_option linter.unusedVariables false
set_option linter.unusedSimpArgs false

theorem wrap_succ {i n : Nat} (h : i < n) (hn : n ≤ 9223372036854775807) : wrap64 ((i : Int) + 1) = ((i + 1 : Nat) : Int) := by
  unfold wrap64; omega
theorem wrap_id {x : Int} (h0 : -9223372036854775808 ≤ x) (h1 : x ≤ 9223372036854775807) : wrap64 x = x := by
  unfold wrap64; omega
theorem rd_nat (l : List Int) {i : Nat} (h : i < l.length) : rd l (i : Int) = l[i] := by
  simp [rd, List.getD_eq_getElem?_getD, List.getElem?_eq_getElem h]
theorem ev_true {g : Nat → Option Bool} {r : Bool} (h : ∀ k, g (k + 1) = some r) : Ev g r := Ev.step (f := fun _ => some r) h (Ev.now r)
theorem ev_const {α : Type} {g : Nat → Option α} {r : α} (h : ∀ k, g (k + 1) = some r) : Ev g r := Ev.step (f := fun _ => some r) h (Ev.now r)
theorem ev_eq {α : Type} {g : Nat → Option α} {r r' : α} (h : Ev g r) (e : r = r') : Ev g r' := e ▸ h
theorem wf64 {x : Int} (h : (Lit.int .i64 x).wf = true) : -9223372036854775808 ≤ x ∧ x ≤ 9223372036854775807 := by
  simp only [Lit.wf, IntKind.min, IntKind.max, IntKind.signed, IntKind.bits, Bool.and_eq_true, decide_eq_true_eq] at h
  simpa using h

def BA (l : List UInt8) : ByteArray := ⟨l.toArray⟩
theorem BA_app (l m : List UInt8) : BA l ++ BA m = BA (l ++ m) := by
  apply ByteArray.ext
  rw [ByteArray.data_append]
  simp [BA]
theorem BA_size (l : List UInt8) : (BA l).size = l.length := by simp [BA, ByteArray.size]
theorem BA_data (l : List UInt8) : (BA l).data.toList = l := by simp [BA]

/-- The digits of a number. -/
def D10 (n : Int) : List UInt8 := Lib.decDigits n.toNat
theorem D10_small {n : Int} (h0 : 0 ≤ n) (h1 : n < 10) : D10 n = [UInt8.ofNat (48 + n.toNat)] := by
  unfold D10; rw [Lib.decDigits, dif_pos (by omega)]
theorem D10_two {n : Int} (h0 : 10 ≤ n) : D10 n = D10 (n / 10) ++ [UInt8.ofNat (48 + n.toNat % 10)] := by
  unfold D10
  conv => lhs; rw [Lib.decDigits, dif_neg (by omega)]
  rw [show (n / 10).toNat = n.toNat / 10 by omega]
theorem D10_len {n : Int} (h0 : 0 ≤ n) (h1 : n < 100) : (D10 n).length ≤ 2 := by
  by_cases c : n < 10
  · rw [D10_small h0 c]; simp
  · rw [D10_two (by omega), D10_small (by omega) (by omega)]; simp

/-- A row's letters: the mark ahead of its first number, a comma ahead of each further one. -/
def segL : Bool → List Int → List UInt8
  | _, [] => []
  | b, x :: xs => (if b then 59 else 44) :: D10 x ++ segL false xs
theorem segL_len : ∀ (b : Bool) (l : List Int), (∀ x ∈ l, 0 ≤ x ∧ x < 100) → (segL b l).length ≤ 3 * l.length
  | _, [], _ => by simp [segL]
  | b, x :: xs, h => by
    have h1 := D10_len (h x List.mem_cons_self).1 (h x List.mem_cons_self).2
    have h2 := segL_len false xs (fun y hy => h y (List.mem_cons_of_mem _ hy))
    simp only [segL, List.cons_append, List.length_cons, List.length_append]
    omega
theorem segL_tail : ∀ (l : List Int), segL false l = Lib.joinTail [44] (l.map D10)
  | [] => rfl
  | x :: xs => by
    have h := segL_tail xs
    simp only [segL, h, Lib.joinTail, List.map_cons, List.flatten_cons]
    simp
theorem segL_join (x : Int) (xs : List Int) : segL true (x :: xs) = 59 :: Lib.join ((x :: xs).map D10) [44] := by
  rw [List.map_cons, Lib.join_cons, ← segL_tail]; rfl
/-- The text of a cover. -/
def coverL (a b : Int) (l : List (List Int)) : List UInt8 := (D10 a ++ [47] ++ D10 b) ++ (l.map (segL true)).flatten
theorem flat_len : ∀ (l : List (List Int)), (∀ r ∈ l, r.length ≤ 1048576 ∧ ∀ x ∈ r, 0 ≤ x ∧ x < 100) → ((l.map (segL true)).flatten).length ≤ l.length * 3145728
  | [], _ => by simp
  | r :: rs, h => by
    have h1 := segL_len true r (h r List.mem_cons_self).2
    have h2 := (h r List.mem_cons_self).1
    have h3 := flat_len rs (fun y hy => h y (List.mem_cons_of_mem _ hy))
    simp only [List.map_cons, List.flatten_cons, List.length_append, List.length_cons]
    rw [Nat.add_mul]; omega

theorem spec_dec {n : Int} (h0 : 0 ≤ n) (h1 : n < 100) : Ev (fun k => spec_l01Dec.f k n) (BA (D10 n)) := by
  have small : ∀ m : Int, 0 ≤ m → m < 10 → Ev (fun k => spec_l01Dec.f k m) (BA (D10 m)) := fun m g0 g1 => ev_const fun k => by
    simp only [spec_l01Dec.f]
    rw [if_pos g1, D10_small g0 g1, wrap_id (by omega) (by omega)]
    simp only [strOfNums, BA, List.map_cons, List.map_nil, Option.some.injEq]
    rw [show ((48 + m) % 256).toNat = 48 + m.toNat by omega]
  by_cases c : n < 10
  · exact small n h0 c
  · refine Ev.step (f := fun k => (spec_l01Dec.f k (n / 10)).bind fun t => if t.size + 1 ≤ 9223372036854775807 then some (t ++ BA [UInt8.ofNat (48 + n.toNat % 10)]) else none) (fun k => ?_) (Ev.bind (small (n / 10) (by omega) (by omega)) ?_)
    · simp only [spec_l01Dec.f]
      rw [if_neg c, Int.tdiv_eq_ediv_of_nonneg h0, wrap_id (x := n / 10) (by omega) (by omega), Int.tmod_eq_emod_of_nonneg h0, wrap_id (x := 48 + n % 10) (by omega) (by omega)]
      simp only [Option.bind_some, strOfNums_size, List.length_singleton]
      have e : strOfNums [(48 + n % 10) % 256] = BA [UInt8.ofNat (48 + n.toNat % 10)] := by
        simp only [strOfNums, BA, List.map_cons, List.map_nil]
        rw [show ((48 + n % 10) % 256).toNat = 48 + n.toNat % 10 by omega]
      rw [e]
    · have hl := D10_len (n := n / 10) (by omega) (by omega)
      rw [if_pos (by rw [BA_size]; omega), BA_app, ← D10_two (by omega)]
      exact Ev.now _

/-- Rising, from a number on, each within 0 to m. -/
def risesB (m : Int) : List Int → Int → Bool
  | [], _ => true
  | x :: xs, p => decide (0 ≤ x) && decide (x ≤ m) && decide (p < x) && risesB m xs x
def prevOf (l : List Int) (i : Nat) : Int := if i = 0 then -1 else l.getD (i - 1) 0
theorem prevOf_succ (l : List Int) {i : Nat} (h : i < l.length) : prevOf l (i + 1) = l[i] := by
  simp [prevOf, List.getD_eq_getElem?_getD, List.getElem?_eq_getElem h]
theorem rises_next (m : Int) (l : List Int) {i : Nat} (h : i < l.length) : risesB m (l.drop i) (prevOf l i) = (decide (0 ≤ l[i]) && decide (l[i] ≤ m) && decide (prevOf l i < l[i]) && risesB m (l.drop (i + 1)) (prevOf l (i + 1))) := by
  rw [List.drop_eq_getElem_cons h, prevOf_succ l h]; rfl
theorem rises_end (m : Int) (l : List Int) {i : Nat} (h : l.length ≤ i) (p : Int) : risesB m (l.drop i) p = true := by
  rw [List.drop_eq_nil_of_le h]; rfl

def longL (l : List (List Int)) : Prop := l.length ≤ 9223372036854775807 ∧ ∀ x ∈ l, x.length ≤ 9223372036854775807
theorem longL_of {l : List (List Int)} {p : Int → Prop} (h : l.length ≤ maxLen ∧ ∀ x ∈ l, x.length ≤ maxLen ∧ ∀ y ∈ x, p y) : longL l := ⟨h.1, fun x hx => (h.2 x hx).1⟩

def rowB (c : Int) (x : List Int) : Bool := !decide ((x.length : Int) = 0) && risesB (wrap64 (c - 1)) x (-1)
def coverB (a b : Int) (l : List (List Int)) : Bool := (decide (1 ≤ a) && decide (a ≤ 60)) && (decide (1 ≤ b) && decide (b ≤ a)) && decide ((l.length : Int) ≤ 400) && l.all (rowB a)

theorem spec_in (a b c : Int) : spec_l01In.f a b c = some (decide (b ≤ a) && decide (a ≤ c)) := by
  unfold spec_l01In.f; by_cases h : b ≤ a
  · rw [if_pos h]; simp [h]
  · rw [if_neg h]; simp [h]

theorem spec_rises_loop (l : List Int) (n : Int) (hl : l.length ≤ 9223372036854775807) : ∀ d i, i + d = l.length →
    Ev (fun k => spec_l01Rises.l0 k l n (i : Int)) (risesB (wrap64 (n - 1)) (l.drop i) (prevOf l i)) := by
  intro d
  induction d with
  | zero =>
    intro i h
    rw [rises_end _ _ (by omega)]
    exact ev_const fun k => by simp only [spec_l01Rises.l0]; rw [if_neg (by omega)]
  | succ d ih =>
    intro i h
    have hi : i < l.length := by omega
    have step : ∀ k, spec_l01Rises.l0 (k + 1) l n (i : Int) = if (decide (0 ≤ l[i]) && decide (l[i] ≤ wrap64 (n - 1))) = true then (if decide (prevOf l i < l[i]) = true ∨ i = 0 then spec_l01Rises.l0 k l n ((i + 1 : Nat) : Int) else some false) else some false := fun k => by
      simp only [spec_l01Rises.l0]
      rw [if_pos (by omega), if_pos (by omega), rd_nat l hi, spec_in]
      simp only [Option.bind_some, wrap_succ hi hl]
      by_cases c : (decide (0 ≤ l[i]) && decide (l[i] ≤ wrap64 (n - 1))) = true
      · rw [if_pos c, if_pos c]
        by_cases z : i = 0
        · rw [if_neg (by omega), if_pos (.inr z)]
        · have e : wrap64 ((i : Int) - 1) = ((i - 1 : Nat) : Int) := by unfold wrap64; omega
          have p : prevOf l i = l[i - 1] := by simp [prevOf, z, List.getD_eq_getElem?_getD, List.getElem?_eq_getElem (show i - 1 < l.length by omega)]
          rw [if_pos (by omega), e, if_pos (by omega), if_pos (by omega), rd_nat l (by omega), p]
          by_cases q : l[i] ≤ l[i - 1]
          · rw [if_pos q, if_neg (by simp [z]; omega)]
          · rw [if_neg q, if_pos (.inl (by simp; omega))]
      · rw [if_neg c, if_neg c]
    rw [rises_next _ _ hi]
    refine Ev.step step ?_
    by_cases c : (decide (0 ≤ l[i]) && decide (l[i] ≤ wrap64 (n - 1))) = true
    · simp only [if_pos c]
      by_cases q : decide (prevOf l i < l[i]) = true ∨ i = 0
      · simp only [if_pos q]
        refine ev_eq (ih (i + 1) (by omega)) ?_
        have q' : decide (prevOf l i < l[i]) = true := q.elim id fun z => by
          subst z
          simp only [Bool.and_eq_true, decide_eq_true_eq] at c
          simp [prevOf]; omega
        rw [c, q']; simp
      · simp only [if_neg q]
        refine ev_eq (Ev.now _) ?_
        rw [show decide (prevOf l i < l[i]) = false by simp only [not_or] at q; simpa using q.1]; simp
    · simp only [if_neg c]
      refine ev_eq (Ev.now _) ?_
      simp only [Bool.not_eq_true] at c
      rw [c]; simp
theorem spec_rises (l : List Int) (n : Int) (hl : l.length ≤ 9223372036854775807) : Ev (fun k => spec_l01Rises.f k l n) (risesB (wrap64 (n - 1)) l (-1)) := by
  have := spec_rises_loop l n hl l.length 0 (by omega)
  simpa [spec_l01Rises.f, prevOf] using this

theorem rdr_nat (l : List (List Int)) {i : Nat} (h : i < l.length) : rd_L1 l (i : Int) = l[i] := by
  simp [rd_L1, List.getD_eq_getElem?_getD, List.getElem?_eq_getElem h]

theorem spec_IsCover_loop (a b : Int) (l : List (List Int)) (hl : longL l) : ∀ d i, i + d = l.length → Ev (fun k => spec_IsCover.l0 k (i : Int) a b l) ((l.drop i).all (rowB a)) := by
  intro d
  induction d with
  | zero =>
    intro i h
    rw [List.drop_eq_nil_of_le (by omega)]
    exact ev_const fun k => by simp only [spec_IsCover.l0]; rw [if_neg (by omega)]; rfl
  | succ d ih =>
    intro i h
    have hi : i < l.length := by omega
    rw [List.drop_eq_getElem_cons hi, List.all_cons]
    have step : ∀ k, spec_IsCover.l0 (k + 1) (i : Int) a b l = if (l[i].length : Int) = 0 then some false else (spec_l01Rises.f k l[i] a).bind fun t => if t = true then spec_IsCover.l0 k ((i + 1 : Nat) : Int) a b l else some false := fun k => by
      simp only [spec_IsCover.l0]
      rw [if_pos (by omega), if_pos (by omega), rdr_nat l hi, wrap_succ hi hl.1]
    refine Ev.step step ?_
    by_cases c : (l[i].length : Int) = 0
    · simp only [if_pos c]; refine ev_eq (Ev.now _) ?_; simp only [rowB, c]; simp
    · simp only [if_neg c]
      refine Ev.bind (spec_rises l[i] a (hl.2 _ (List.getElem_mem hi))) ?_
      have e : rowB a l[i] = risesB (wrap64 (a - 1)) l[i] (-1) := by simp only [rowB, c]; simp
      cases q : risesB (wrap64 (a - 1)) l[i] (-1) with
      | true => simp only [if_true]; refine ev_eq (ih (i + 1) (by omega)) ?_; rw [e, q]; simp
      | false => simp only [Bool.false_eq_true, if_false]; refine ev_eq (Ev.now _) ?_; rw [e, q]; simp
theorem spec_IsCover_ev (a b : Int) (l : List (List Int)) (hl : longL l) : Ev (fun k => spec_IsCover.f k a b l) (coverB a b l) := by
  have hL := spec_IsCover_loop a b l hl l.length 0 (by omega)
  have hj : ∀ x, Ev (fun k => spec_IsCover.j0 k x a b l) (!x && l.all (rowB a)) := fun x => by
    refine Ev.step (f := fun k => if x = true then some false else spec_IsCover.l0 k 0 a b l) (fun k => by simp only [spec_IsCover.j0]) ?_
    cases x with
    | true => simpa using Ev.now false
    | false => simpa using hL
  simp only [spec_IsCover.f, spec_in, Option.bind_some]
  unfold coverB
  cases q : (decide (1 ≤ a) && decide (a ≤ 60)) with
  | false => simp only [Bool.false_eq_true, if_false, Bool.false_and]; exact hj true
  | true =>
    cases q2 : (decide (1 ≤ b) && decide (b ≤ a)) with
    | false => simp only [Bool.false_eq_true, if_false, if_true, Bool.false_and, Bool.and_false]; exact hj true
    | true =>
      simp only [if_true, Bool.true_and]
      refine ev_eq (hj _) ?_
      by_cases c : (l.length : Int) ≤ 400
      · rw [decide_eq_true c, decide_eq_false (by omega)]; rfl
      · rw [decide_eq_false c, decide_eq_true (by omega)]; rfl

theorem u64_wrap (n : Nat) (h : n < 18446744073709551616) : IntKind.u64.wrap (n : Int) = (n : Int) := by
  simp only [IntKind.wrap, IntKind.signed, IntKind.bits]
  simp
  omega
theorem u64_ofInt (a : Nat) (ha : a < 18446744073709551616) : (BitVec.ofInt 64 (a : Int)).toNat = a := by
  rw [BitVec.ofInt_natCast, BitVec.toNat_ofNat]; exact Nat.mod_eq_of_lt (by omega)
theorem u64_and (a b : Nat) (ha : a < 18446744073709551616) (hb : b < 18446744073709551616) : Go.bits .and .u64 (a : Int) (b : Int) = ((a &&& b : Nat) : Int) := by
  have hx : a &&& b < 2 ^ 64 := Nat.and_lt_two_pow _ (by omega)
  show IntKind.u64.wrap ((BitVec.ofInt 64 (a : Int) &&& BitVec.ofInt 64 (b : Int)).toNat : Int) = _
  rw [BitVec.toNat_and, u64_ofInt a ha, u64_ofInt b hb]
  exact u64_wrap _ (by omega)
theorem u64_or (a b : Nat) (ha : a < 18446744073709551616) (hb : b < 18446744073709551616) : Go.bits .or .u64 (a : Int) (b : Int) = ((a ||| b : Nat) : Int) := by
  have hx : a ||| b < 2 ^ 64 := Nat.or_lt_two_pow (by omega) (by omega)
  show IntKind.u64.wrap ((BitVec.ofInt 64 (a : Int) ||| BitVec.ofInt 64 (b : Int)).toNat : Int) = _
  rw [BitVec.toNat_or, u64_ofInt a ha, u64_ofInt b hb]
  exact u64_wrap _ (by omega)
theorem pow60 {k : Nat} (h : k < 60) : 2 ^ k < 1152921504606846976 := Nat.lt_of_lt_of_le (Nat.pow_lt_pow_right (by omega) h) (by decide)
theorem u64_shl {k : Nat} (h : k < 60) : shl .u64 1 (k : Int) = ((2 ^ k : Nat) : Int) := by
  have := pow60 h
  unfold shl
  rw [show (IntKind.u64).bits = 64 from rfl, Int.toNat_natCast, Nat.min_eq_left (by omega), Int.one_mul]
  have e : ((2 : Int) ^ k) = ((2 ^ k : Nat) : Int) := by push_cast; rfl
  rw [e]
  exact u64_wrap _ (by omega)
theorem u64_shr (m k : Nat) (h : k < 60) : shr .u64 (m : Int) (k : Int) = ((m >>> k : Nat) : Int) := by
  unfold shr
  rw [show (IntKind.u64).bits = 64 from rfl, Int.toNat_natCast, Nat.min_eq_left (by omega), Nat.shiftRight_eq_div_pow]
  push_cast; rfl
theorem u64_bit (m k : Nat) (hm : m < 18446744073709551616) (h : k < 60) : (Go.bits .and .u64 (shr .u64 (m : Int) (k : Int)) 1 = 1) ↔ m.testBit k = true := by
  have hs : m >>> k ≤ m := by rw [Nat.shiftRight_eq_div_pow]; exact Nat.div_le_self _ _
  rw [u64_shr m k h, show (1 : Int) = ((1 : Nat) : Int) from rfl, u64_and _ _ (by omega) (by omega), Nat.and_one_is_mod]
  rw [Nat.testBit_eq_decide_div_mod_eq, Nat.shiftRight_eq_div_pow]
  simp only [decide_eq_true_eq]
  omega
/-- The columns of a row, as bits. -/
def maskN (m : Nat) : List Int → Nat
  | [] => m
  | x :: xs => maskN (m ||| 2 ^ x.toNat) xs
def cols60 (r : List Int) : Prop := ∀ x ∈ r, 0 ≤ x ∧ x < 60
theorem maskN_lt : ∀ (r : List Int) (m : Nat), cols60 r → m < 1152921504606846976 → maskN m r < 1152921504606846976
  | [], _, _, h => h
  | x :: xs, m, hc, h => maskN_lt xs _ (fun y hy => hc y (List.mem_cons_of_mem _ hy)) (by
      have hx := hc x List.mem_cons_self
      have h1 := pow60 (k := x.toNat) (by omega)
      exact Nat.or_lt_two_pow (n := 60) (by omega) (by omega))
theorem maskN_bit : ∀ (r : List Int) (m j : Nat), cols60 r → (maskN m r).testBit j = (m.testBit j || r.contains (j : Int))
  | [], m, j, _ => by simp [maskN]
  | x :: xs, m, j, hc => by
    have hx := hc x List.mem_cons_self
    simp only [maskN]
    rw [maskN_bit xs _ j (fun y hy => hc y (List.mem_cons_of_mem _ hy)), Nat.testBit_or, Nat.testBit_two_pow, List.contains_cons]
    have e : decide (x.toNat = j) = ((j : Int) == x) := by
      rw [Bool.eq_iff_iff]; simp only [decide_eq_true_eq, beq_iff_eq]; omega
    rw [e, Bool.or_assoc]
theorem and_zero_iff (a b : Nat) : (a &&& b = 0) ↔ ∀ j, (a.testBit j && b.testBit j) = false := by
  constructor
  · intro h j; rw [← Nat.testBit_and, h, Nat.zero_testBit]
  · intro h; refine Nat.eq_of_testBit_eq (fun j => ?_); rw [Nat.testBit_and, h j, Nat.zero_testBit]
def overB2 (a b : List Int) : Bool := a.any (fun e => b.contains e)
theorem mask_over {a b : List Int} (ha : cols60 a) (hb : cols60 b) : (Go.bits .and .u64 ((maskN 0 a : Nat) : Int) ((maskN 0 b : Nat) : Int) = 0) ↔ overB2 a b = false := by
  have h1 := maskN_lt a 0 ha (by omega)
  have h2 := maskN_lt b 0 hb (by omega)
  rw [u64_and _ _ (by omega) (by omega), show (0 : Int) = ((0 : Nat) : Int) from rfl, Int.natCast_inj, and_zero_iff]
  constructor
  · intro h
    unfold overB2
    refine List.any_eq_false.2 (fun e he hc => ?_)
    have hx := ha e he
    have h3 := h e.toNat
    rw [maskN_bit a 0 _ ha, maskN_bit b 0 _ hb, show ((e.toNat : Nat) : Int) = e by omega, hc, Nat.zero_testBit] at h3
    simp [he] at h3
  · intro h j
    rw [maskN_bit a 0 _ ha, maskN_bit b 0 _ hb, Nat.zero_testBit, Bool.false_or, Bool.false_or]
    cases hj : a.contains (j : Int) with
    | false => rfl
    | true =>
      rw [Bool.true_and]
      have := List.any_eq_false.1 h (j : Int) (List.contains_iff_mem.1 hj)
      simpa using this

theorem rises_mem (m : Int) : ∀ (l : List Int) (p : Int), risesB m l p = true → ∀ x ∈ l, 0 ≤ x ∧ x ≤ m
  | [], _, _, x, hx => absurd hx List.not_mem_nil
  | y :: ys, p, h, x, hx => by
    simp only [risesB, Bool.and_eq_true, decide_eq_true_eq] at h
    rcases List.mem_cons.mp hx with rfl | hx
    · exact ⟨h.1.1.1, h.1.1.2⟩
    · exact rises_mem m ys y h.2 x hx
theorem cover_cols {a b : Int} {l : List (List Int)} (h : coverB a b l = true) : ∀ r ∈ l, cols60 r := fun r hr x hx => by
  simp only [coverB, rowB, Bool.and_eq_true, decide_eq_true_eq, List.all_eq_true] at h
  have h1 := rises_mem _ r (-1) (h.2 r hr).2 x hx
  have e : wrap64 (a - 1) = a - 1 := wrap_id (by omega) (by omega)
  omega

theorem spec_ct_row (a b : Int) (l : List (List Int)) {i : Nat} (hi : i < l.length) (hl : longL l) (h4 : l.length ≤ 400) (hr : l[i].length ≤ 1048576) (hx : ∀ x ∈ l[i], 0 ≤ x ∧ x < 100) {R : ByteArray} :
    ∀ d j (acc : List UInt8), j + d = l[i].length → acc.length + 3 * d ≤ 4000000000 → Ev (fun k => spec_CoverText.l0 k (BA (acc ++ segL (decide (j = 0)) (l[i].drop j))) ((i + 1 : Nat) : Int) a b l) R → Ev (fun k => spec_CoverText.l1 k (BA acc) (i : Int) (j : Int) a b l) R := by
  intro d
  induction d with
  | zero =>
    intro j acc h hb hE
    rw [List.drop_eq_nil_of_le (by omega)] at hE
    simp only [segL, List.append_nil] at hE
    refine Ev.step (fun k => ?_) hE
    simp only [spec_CoverText.l1]
    rw [if_pos (by omega), if_pos (by omega), rdr_nat l hi, if_neg (by omega), wrap_succ hi hl.1]
  | succ d ih =>
    intro j acc h hb hE
    have hj : j < l[i].length := by omega
    have hv := hx _ (List.getElem_mem hj)
    have hd := D10_len hv.1 hv.2
    rw [List.drop_eq_getElem_cons hj] at hE
    have e59 : (⟨#[59]⟩ : ByteArray) = BA [59] := rfl
    have e44 : (⟨#[44]⟩ : ByteArray) = BA [44] := rfl
    by_cases c : j = 0
    · subst c
      refine Ev.step (f := fun k => (spec_l01Dec.f k l[i][0]).bind fun t => if (BA (acc ++ [59])).size + t.size ≤ 9223372036854775807 then spec_CoverText.l1 k (BA (acc ++ [59]) ++ t) (i : Int) ((0 + 1 : Nat) : Int) a b l else none) (fun k => ?_) (Ev.bind (spec_dec hv.1 hv.2) ?_)
      · simp only [spec_CoverText.l1]
        rw [if_pos (by omega), if_pos (by omega), rdr_nat l hi, if_pos (by omega), if_pos (show ((0 : Nat) : Int) = 0 from rfl), if_pos (by rw [BA_size]; omega), if_pos (by omega), e59, BA_app, wrap_succ hj (by omega)]
        have := rd_nat l[i] hj
        rw [this]
      · simp only [BA_size, List.length_append, List.length_singleton]
        simp only [if_pos (show acc.length + 1 + (D10 l[i][0]).length ≤ 9223372036854775807 by omega), BA_app]
        refine ih 1 (acc ++ ([59] : List UInt8) ++ D10 l[i][0]) (by omega) (by simp only [List.length_append, List.length_singleton]; omega) ?_
        have e : acc ++ ([59] : List UInt8) ++ D10 l[i][0] ++ segL (decide (1 = 0)) (l[i].drop 1) = acc ++ segL (decide (0 = 0)) (l[i][0] :: l[i].drop (0 + 1)) := by simp [segL]
        rw [e]; exact hE
    · have cz : ¬ (j : Int) = 0 := by omega
      refine Ev.step (f := fun k => (spec_l01Dec.f k l[i][j]).bind fun t => if (BA (acc ++ [44])).size + t.size ≤ 9223372036854775807 then spec_CoverText.l1 k (BA (acc ++ [44]) ++ t) (i : Int) ((j + 1 : Nat) : Int) a b l else none) (fun k => ?_) (Ev.bind (spec_dec hv.1 hv.2) ?_)
      · simp only [spec_CoverText.l1]
        rw [if_pos (by omega), if_pos (by omega), rdr_nat l hi, if_pos (by omega), if_neg cz, if_pos (by rw [BA_size]; omega), if_pos (by omega), e44, BA_app, wrap_succ hj (by omega), rd_nat l[i] hj]
      · simp only [BA_size, List.length_append, List.length_singleton]
        simp only [if_pos (show acc.length + 1 + (D10 l[i][j]).length ≤ 9223372036854775807 by omega), BA_app]
        refine ih (j + 1) (acc ++ ([44] : List UInt8) ++ D10 l[i][j]) (by omega) (by simp only [List.length_append, List.length_singleton]; omega) ?_
        have e : acc ++ ([44] : List UInt8) ++ D10 l[i][j] ++ segL (decide (j + 1 = 0)) (l[i].drop (j + 1)) = acc ++ segL (decide (j = 0)) (l[i][j] :: l[i].drop (j + 1)) := by simp [segL, c]
        rw [e]; exact hE
theorem spec_ct_rows (a b : Int) (l : List (List Int)) (hl : longL l) (h4 : l.length ≤ 400) (hr : ∀ r ∈ l, r.length ≤ 1048576 ∧ ∀ x ∈ r, 0 ≤ x ∧ x < 100) : ∀ d i (acc : List UInt8), i + d = l.length → acc.length + d * 3145728 ≤ 2000000000 → Ev (fun k => spec_CoverText.l0 k (BA acc) (i : Int) a b l) (BA (acc ++ ((l.drop i).map (segL true)).flatten)) := by
  intro d
  induction d with
  | zero =>
    intro i acc h _
    rw [List.drop_eq_nil_of_le (by omega)]
    exact ev_const fun k => by simp only [spec_CoverText.l0]; rw [if_neg (by omega)]; simp
  | succ d ih =>
    intro i acc h hb
    have hi : i < l.length := by omega
    have hm := hr _ (List.getElem_mem hi)
    have hs := segL_len true l[i] hm.2
    rw [List.drop_eq_getElem_cons hi, List.map_cons, List.flatten_cons, ← List.append_assoc]
    refine Ev.step (f := fun k => spec_CoverText.l1 k (BA acc) (i : Int) ((0 : Nat) : Int) a b l) (fun k => ?_) (spec_ct_row a b l hi hl h4 hm.1 hm.2 l[i].length 0 acc (by omega) (by omega) ?_)
    · simp only [spec_CoverText.l0]; rw [if_pos (by omega)]; rfl
    · rw [List.drop_zero, decide_eq_true rfl]
      exact ih (i + 1) (acc ++ segL true l[i]) (by omega) (by rw [List.length_append]; omega)
theorem cover_small {a b : Int} {l : List (List Int)} (h : coverB a b l = true) : (0 ≤ a ∧ a < 100) ∧ (0 ≤ b ∧ b < 100) ∧ l.length ≤ 400 ∧ (∀ r ∈ l, ∀ x ∈ r, 0 ≤ x ∧ x < 100) ∧ ∀ r ∈ l, r ≠ [] := by
  have hc := cover_cols h
  simp only [coverB, rowB, Bool.and_eq_true, decide_eq_true_eq, List.all_eq_true, Bool.not_eq_true', decide_eq_false_iff_not] at h
  exact ⟨by omega, by omega, by omega, fun r hr x hx => by have := hc r hr x hx; omega, fun r hr e => by have := (h.2 r hr).1; rw [e] at this; simp at this⟩
def ctB (a b : Int) (l : List (List Int)) : ByteArray := if coverB a b l then BA (coverL a b l) else BA []
theorem spec_CoverText_ev (a b : Int) (l : List (List Int)) (hl : longL l) (hr : ∀ r ∈ l, r.length ≤ 1048576) : Ev (fun k => spec_CoverText.f k a b l) (ctB a b l) := by
  simp only [spec_CoverText.f]
  refine Ev.bind (spec_IsCover_ev a b l hl) ?_
  unfold ctB
  cases c : coverB a b l with
  | false => exact Ev.now _
  | true =>
    obtain ⟨ha, hb, h4, hx, _⟩ := cover_small c
    simp only [if_true]
    have da := D10_len ha.1 ha.2
    have db := D10_len hb.1 hb.2
    refine Ev.bind (spec_dec ha.1 ha.2) ?_
    simp only [if_pos (show (BA (D10 a)).size + 1 ≤ 9223372036854775807 by rw [BA_size]; omega)]
    refine Ev.bind (spec_dec hb.1 hb.2) ?_
    have h47 : (BA (D10 a ++ [47])).size + (BA (D10 b)).size ≤ 9223372036854775807 := by rw [BA_size, BA_size, List.length_append, List.length_singleton]; omega
    simp only [show (⟨#[47]⟩ : ByteArray) = BA [47] from rfl, BA_app, if_pos h47]
    have := spec_ct_rows a b l hl h4 (fun r h => ⟨hr r h, hx r h⟩) l.length 0 (D10 a ++ [47] ++ D10 b) (by omega) (by simp only [List.length_append, List.length_singleton]; omega)
    rw [List.drop_zero] at this
    exact this

theorem impl_in (a b c : Int) : impl_within.f a b c = some (decide (b ≤ a) && decide (a ≤ c)) := by
  unfold impl_within.f; by_cases h : b ≤ a
  · rw [if_pos h]; simp [h]
  · rw [if_neg h]; simp [h]

theorem impl_rises_loop (l : List Int) (n : Int) (hl : l.length ≤ 9223372036854775807) : ∀ d i, i + d = l.length →
    Ev (fun k => impl_isIncreasing.l0 k l n l (l.length : Int) (i : Int)) (risesB (wrap64 (n - 1)) (l.drop i) (prevOf l i)) := by
  intro d
  induction d with
  | zero =>
    intro i h
    rw [rises_end _ _ (by omega)]
    exact ev_const fun k => by simp only [impl_isIncreasing.l0]; rw [if_neg (by omega)]
  | succ d ih =>
    intro i h
    have hi : i < l.length := by omega
    have step : ∀ k, impl_isIncreasing.l0 (k + 1) l n l (l.length : Int) (i : Int) = if (decide (0 ≤ l[i]) && decide (l[i] ≤ wrap64 (n - 1))) = true then (if decide (prevOf l i < l[i]) = true ∨ i = 0 then impl_isIncreasing.l0 k l n l (l.length : Int) ((i + 1 : Nat) : Int) else some false) else some false := fun k => by
      simp only [impl_isIncreasing.l0]
      rw [if_pos (by omega), if_pos (by omega), if_pos (by omega), rd_nat l hi, impl_in]
      simp only [Option.bind_some, wrap_succ hi hl]
      by_cases c : (decide (0 ≤ l[i]) && decide (l[i] ≤ wrap64 (n - 1))) = true
      · rw [if_pos c, if_pos c]
        by_cases z : i = 0
        · rw [if_neg (by omega), if_pos (.inr z)]
        · have e : wrap64 ((i : Int) - 1) = ((i - 1 : Nat) : Int) := by unfold wrap64; omega
          have p : prevOf l i = l[i - 1] := by simp [prevOf, z, List.getD_eq_getElem?_getD, List.getElem?_eq_getElem (show i - 1 < l.length by omega)]
          rw [if_pos (by omega), e, if_pos (by omega), if_pos (by omega), rd_nat l (by omega), p]
          by_cases q : l[i] ≤ l[i - 1]
          · rw [if_pos q, if_neg (by simp [z]; omega)]
          · rw [if_neg q, if_pos (.inl (by simp; omega))]
      · rw [if_neg c, if_neg c]
    rw [rises_next _ _ hi]
    refine Ev.step step ?_
    by_cases c : (decide (0 ≤ l[i]) && decide (l[i] ≤ wrap64 (n - 1))) = true
    · simp only [if_pos c]
      by_cases q : decide (prevOf l i < l[i]) = true ∨ i = 0
      · simp only [if_pos q]
        refine ev_eq (ih (i + 1) (by omega)) ?_
        have q' : decide (prevOf l i < l[i]) = true := q.elim id fun z => by
          subst z
          simp only [Bool.and_eq_true, decide_eq_true_eq] at c
          simp [prevOf]; omega
        rw [c, q']; simp
      · simp only [if_neg q]
        refine ev_eq (Ev.now _) ?_
        rw [show decide (prevOf l i < l[i]) = false by simp only [not_or] at q; simpa using q.1]; simp
    · simp only [if_neg c]
      refine ev_eq (Ev.now _) ?_
      simp only [Bool.not_eq_true] at c
      rw [c]; simp
theorem impl_rises (l : List Int) (n : Int) (hl : l.length ≤ 9223372036854775807) : Ev (fun k => impl_isIncreasing.f k l n) (risesB (wrap64 (n - 1)) l (-1)) := by
  have := impl_rises_loop l n hl l.length 0 (by omega)
  simpa [impl_isIncreasing.f, prevOf] using this

theorem anyM_ev {α : Type} (p : Nat → α → Option Bool) (q : α → Bool) : ∀ l : List α, (∀ x ∈ l, Ev (fun k => p k x) (q x)) → Ev (fun k => anyM (p k) l) (l.any q)
  | [], _ => by simpa [anyM] using Ev.now false
  | x :: xs, h => by
    simp only [anyM, List.any_cons]
    refine Ev.bind (h x (List.mem_cons_self ..)) ?_
    cases c : q x with
    | true => simpa using Ev.now true
    | false => simpa using anyM_ev p q xs (fun y hy => h y (List.mem_cons_of_mem _ hy))
theorem anyM_some {α : Type} (p : α → Option Bool) (q : α → Bool) : ∀ l : List α, (∀ x ∈ l, p x = some (q x)) → anyM p l = some (l.any q)
  | [], _ => rfl
  | x :: xs, h => by
    simp only [anyM, List.any_cons, h x (List.mem_cons_self ..), Option.bind_some]
    cases c : q x with
    | true => simp
    | false => simpa using anyM_some p q xs (fun y hy => h y (List.mem_cons_of_mem _ hy))

theorem impl_IsCover_ev (a b : Int) (l : List (List Int)) (hl : longL l) : Ev (fun k => impl_IsCover.f k a b l) (coverB a b l) := by
  have h1 : ∀ x ∈ l, Ev (fun k => impl_IsCover_1.f k x a) (!rowB a x) := fun x hx => by
    simp only [impl_IsCover_1.f]
    by_cases c : (x.length : Int) = 0
    · simp only [if_pos c]; refine ev_eq (Ev.now _) ?_; simp only [rowB, c]; simp
    · simp only [if_neg c]
      refine Ev.bind (impl_rises x a (hl.2 _ hx)) ?_
      refine ev_eq (Ev.now _) ?_
      simp only [rowB, c]; simp
  have h2 := anyM_ev (fun k x => impl_IsCover_1.f k x a) (fun x => !rowB a x) l h1
  simp only [impl_IsCover.f, impl_in, Option.bind_some]
  unfold coverB
  cases q : (decide (1 ≤ a) && decide (a ≤ 60)) with
  | false => simpa using Ev.now false
  | true =>
    cases q2 : (decide (1 ≤ b) && decide (b ≤ a)) with
    | false => simpa using Ev.now false
    | true =>
      simp only [if_true, Bool.true_and]
      by_cases c : (l.length : Int) ≤ 400
      · simp only [if_neg (show ¬ (l.length : Int) > 400 by omega), decide_eq_true c, Bool.true_and]
        refine Ev.bind h2 ?_
        refine ev_eq (Ev.now _) ?_
        simp [List.any_eq_not_all_not]
      · simp only [if_pos (show (l.length : Int) > 400 by omega), decide_eq_false c, Bool.false_and]
        exact Ev.now false

theorem nums_loop (l : List Int) (s : ByteArray) (hl : l.length ≤ 1048576) (hx : ∀ x ∈ l, 0 ≤ x ∧ x < 100) {R : ByteArray} (hE : strings_Join.f (l.map fun x => BA (D10 x)) s = some R) : ∀ d i, i + d = l.length → Ev (fun k => impl_numbersText.l0 k s ((l.take i).map fun x => BA (D10 x)) l (l.length : Int) (i : Int)) R := by
  intro d
  induction d with
  | zero =>
    intro i h
    rw [List.take_of_length_le (by omega)]
    exact ev_const fun k => by simp only [impl_numbersText.l0]; rw [if_neg (by omega), hE]; rfl
  | succ d ih =>
    intro i h
    have hi : i < l.length := by omega
    have hv := hx _ (List.getElem_mem hi)
    have e : strconv_FormatInt.f l[i] 10 = some (BA (D10 l[i])) := by unfold strconv_FormatInt.f; rw [if_pos ⟨hv.1, hv.2, rfl⟩]; rfl
    refine Ev.step (fun k => ?_) (ih (i + 1) (by omega))
    simp only [impl_numbersText.l0]
    rw [if_pos (by omega), if_pos (by omega), if_pos (by omega), rd_nat l hi, e]
    simp only [Option.bind_some]
    rw [if_pos (by simp; omega), wrap_succ hi (by omega), List.take_succ_eq_append_getElem hi, List.map_append]; rfl
theorem nums_ev (l : List Int) (c : UInt8) (hl : l.length ≤ 1048576) (hx : ∀ x ∈ l, 0 ≤ x ∧ x < 100) (h0 : l ≠ []) : Ev (fun k => impl_numbersText.f k l (BA [c])) (BA (Lib.join (l.map D10) [c])) := by
  have hlen : (Lib.join (l.map D10) [c]).length ≤ 3 * l.length := by
    cases l with
    | nil => exact absurd rfl h0
    | cons x xs =>
      rw [List.map_cons, Lib.join_cons, List.length_append]
      have h1 := D10_len (hx x List.mem_cons_self).1 (hx x List.mem_cons_self).2
      have h2 : ∀ ys : List Int, (∀ y ∈ ys, 0 ≤ y ∧ y < 100) → (Lib.joinTail [c] (ys.map D10)).length ≤ 3 * ys.length := by
        intro ys
        induction ys with
        | nil => intro _; simp [Lib.joinTail]
        | cons y ys ih =>
          intro h
          have h3 := D10_len (h y List.mem_cons_self).1 (h y List.mem_cons_self).2
          have h4 := ih (fun z hz => h z (List.mem_cons_of_mem _ hz))
          simp only [Lib.joinTail, List.map_cons, List.flatten_cons, List.length_append, List.length_cons, List.length_nil] at h4 ⊢
          omega
      have h5 := h2 xs (fun z hz => hx z (List.mem_cons_of_mem _ hz))
      simp only [List.length_cons]; omega
  have em : (l.map fun x => BA (D10 x)).map (·.data.toList) = l.map D10 := by rw [List.map_map]; exact List.map_congr_left (fun x _ => BA_data _)
  have e : strings_Join.f (l.map fun x => BA (D10 x)) (BA [c]) = some (BA (Lib.join (l.map D10) [c])) := by
    unfold strings_Join.f
    rw [em, BA_data, if_pos ⟨by rw [List.length_map]; omega, by omega⟩]; rfl
  have := nums_loop l (BA [c]) hl hx e l.length 0 (by omega)
  simpa [impl_numbersText.f] using this
theorem impl_ct_rows (l : List (List Int)) (hl : longL l) (h4 : l.length ≤ 400) (hr : ∀ r ∈ l, r.length ≤ 1048576 ∧ ∀ x ∈ r, 0 ≤ x ∧ x < 100) (hn : ∀ r ∈ l, r ≠ []) : ∀ d i (acc : List UInt8), i + d = l.length → acc.length + d * 3145728 ≤ 2000000000 → Ev (fun k => impl_coverText.l0 k (BA acc) l (l.length : Int) (i : Int)) (BA (acc ++ ((l.drop i).map (segL true)).flatten)) := by
  intro d
  induction d with
  | zero =>
    intro i acc h _
    rw [List.drop_eq_nil_of_le (by omega)]
    exact ev_const fun k => by simp only [impl_coverText.l0]; rw [if_neg (by omega)]; simp
  | succ d ih =>
    intro i acc h hb
    have hi : i < l.length := by omega
    have hm := hr _ (List.getElem_mem hi)
    have h0 := hn _ (List.getElem_mem hi)
    have hs := segL_len true l[i] hm.2
    have hj : segL true l[i] = 59 :: Lib.join (l[i].map D10) [44] := by
      cases q : l[i] with
      | nil => exact absurd q h0
      | cons x xs => exact segL_join x xs
    have hjl : (Lib.join (l[i].map D10) [44]).length + 1 ≤ 3 * l[i].length := by rw [hj] at hs; simpa using hs
    rw [List.drop_eq_getElem_cons hi, List.map_cons, List.flatten_cons, ← List.append_assoc]
    refine Ev.step (f := fun k => (impl_numbersText.f k l[i] (BA [44])).bind fun t => if 1 + t.size ≤ 9223372036854775807 then (if (BA acc).size + (BA [59] ++ t).size ≤ 9223372036854775807 then impl_coverText.l0 k (BA acc ++ (BA [59] ++ t)) l (l.length : Int) ((i + 1 : Nat) : Int) else none) else none) (fun k => ?_) (Ev.bind (nums_ev l[i] 44 hm.1 hm.2 h0) ?_)
    · simp only [impl_coverText.l0]
      rw [if_pos (by omega), if_pos (by omega), if_pos (by omega), rdr_nat l hi, wrap_succ hi hl.1]; rfl
    · simp only [BA_app, BA_size, List.length_append, List.length_singleton]
      simp only [if_pos (show 1 + (Lib.join (l[i].map D10) [44]).length ≤ 9223372036854775807 by omega), if_pos (show acc.length + (1 + (Lib.join (l[i].map D10) [44]).length) ≤ 9223372036854775807 by omega), show [59] ++ Lib.join (l[i].map D10) [44] = segL true l[i] from hj.symm]
      exact ih (i + 1) (acc ++ segL true l[i]) (by omega) (by rw [List.length_append]; omega)
theorem impl_CoverText_ev (a b : Int) (l : List (List Int)) (hl : longL l) (hr : ∀ r ∈ l, r.length ≤ 1048576) : Ev (fun k => impl_CoverText.f k a b l) (ctB a b l) := by
  simp only [impl_CoverText.f]
  refine Ev.bind (impl_IsCover_ev a b l hl) ?_
  unfold ctB
  cases c : coverB a b l with
  | false => exact Ev.now _
  | true =>
    obtain ⟨ha, hb, h4, hx, hn⟩ := cover_small c
    simp only [if_true, impl_coverText.f]
    have da := D10_len ha.1 ha.2
    have db := D10_len hb.1 hb.2
    refine Ev.bind (r := BA (coverL a b l)) ?_ (Ev.now _)
    refine Ev.bind (nums_ev [a, b] 47 (by simp) (fun x hx => by
      simp only [List.mem_cons, List.not_mem_nil, or_false] at hx
      rcases hx with rfl | rfl
      · exact ha
      · exact hb) (by simp)) ?_
    have e : Lib.join ([a, b].map D10) [47] = D10 a ++ [47] ++ D10 b := by rw [List.map_cons, Lib.join_cons]; simp [Lib.joinTail]
    rw [e]
    have := impl_ct_rows l hl h4 (fun r h => ⟨hr r h, hx r h⟩) hn l.length 0 (D10 a ++ [47] ++ D10 b) (by omega) (by simp only [List.length_append, List.length_singleton]; omega)
    rw [List.drop_zero] at this
    exact this

theorem szInts (l : List Int) (n : Int) (hl : l.length ≤ 9223372036854775807) (h0 : 0 ≤ n) (h1 : n ≤ 4611686018427387904) : ∃ r, laws_szInt64S.f l n = some r ∧ -1 ≤ r ∧ r ≤ n ∧ (0 ≤ r → r = n - l.length) := by
  have e : wrap64 (n - (l.length : Int)) = n - l.length := by unfold wrap64; omega
  unfold laws_szInt64S.f
  rw [e]
  by_cases c : n - (l.length : Int) < 0
  · rw [if_pos c]; exact ⟨_, rfl, by omega, by omega, by omega⟩
  · rw [if_neg c]; exact ⟨_, rfl, by omega, by omega, by omega⟩

theorem szRows_loop (l : List (List Int)) (hl : longL l) : ∀ d i (n : Int), i + d = l.length → 0 ≤ n → n ≤ 4611686018427387904 →
    ∃ r, Ev (fun k => laws_szInt64SS.l0 k l n (i : Int)) r ∧ -1 ≤ r ∧ r ≤ n ∧ (0 ≤ r → ∀ x ∈ l.drop i, (x.length : Int) ≤ n) := by
  intro d
  induction d with
  | zero =>
    intro i n h h0 h1
    refine ⟨n, ev_const fun k => by simp only [laws_szInt64SS.l0]; rw [if_neg (by omega)], by omega, by omega, fun _ x hx => ?_⟩
    rw [List.drop_eq_nil_of_le (by omega)] at hx; cases hx
  | succ d ih =>
    intro i n h h0 h1
    have hi : i < l.length := by omega
    obtain ⟨r1, e1, b1, b2, b3⟩ := szInts l[i] n (hl.2 _ (List.getElem_mem hi)) h0 h1
    have step : ∀ k, laws_szInt64SS.l0 (k + 1) l n (i : Int) = if r1 < 0 then some (-1) else laws_szInt64SS.l0 k l r1 ((i + 1 : Nat) : Int) := fun k => by
      simp only [laws_szInt64SS.l0]
      rw [if_pos (by omega), if_pos (by omega), rdr_nat l hi, e1, wrap_succ hi hl.1]
      simp only [Option.bind_some]
    by_cases c : r1 < 0
    · exact ⟨-1, Ev.step step (by simp only [if_pos c]; exact Ev.now _), by omega, by omega, fun h => by omega⟩
    · obtain ⟨r, hr, c1, c2, c3⟩ := ih (i + 1) r1 (by omega) (by omega) (by omega)
      refine ⟨r, Ev.step step (by simp only [if_neg c]; exact hr), c1, by omega, fun h x hx => ?_⟩
      rw [List.drop_eq_getElem_cons hi] at hx
      rcases List.mem_cons.mp hx with rfl | hx
      · have := b3 (by omega); omega
      · have := c3 h x hx; have := b3 (by omega); omega
theorem szRows (l : List (List Int)) (hl : longL l) (n : Int) (h0 : 0 ≤ n) (h1 : n ≤ 4611686018427387904) :
    ∃ r, Ev (fun k => laws_szInt64SS.f k l n) r ∧ -1 ≤ r ∧ r ≤ n ∧ (0 ≤ r → (l.length : Int) ≤ n ∧ ∀ x ∈ l, (x.length : Int) ≤ n) := by
  have e : wrap64 (n - (l.length : Int)) = n - l.length := by have := hl.1; unfold wrap64; omega
  by_cases c : n - (l.length : Int) < 0
  · exact ⟨-1, by simp only [laws_szInt64SS.f, e, if_pos c]; exact Ev.now _, by omega, by omega, fun h => by omega⟩
  · obtain ⟨r, hr, c1, c2, c3⟩ := szRows_loop l hl l.length 0 (n - l.length) (by omega) (by omega) (by omega)
    exact ⟨r, by simp only [laws_szInt64SS.f, e, if_neg c]; exact hr, c1, by omega, fun h => ⟨by omega, fun x hx => by have := c3 h x (by simpa using hx); omega⟩⟩

theorem toInts_loop (l : List Int) (hl : l.length ≤ 9223372036854775807) : ∀ d i (y : List Int), i + d = l.length → y.length = l.length → y.take i = l.take i → Ev (fun k => laws_toInt64S.l0 k l y (i : Int)) l := by
  intro d
  induction d with
  | zero =>
    intro i y h hy ht
    have e : y = l := by
      rw [List.take_of_length_le (by omega), List.take_of_length_le (by omega)] at ht; exact ht
    subst e
    exact ev_const fun k => by simp only [laws_toInt64S.l0]; rw [if_neg (by omega)]
  | succ d ih =>
    intro i y h hy ht
    have hi : i < l.length := by omega
    refine Ev.step (f := fun k => laws_toInt64S.l0 k l (y.set i l[i]) ((i + 1 : Nat) : Int)) (fun k => ?_) (ih (i + 1) (y.set i l[i]) (by omega) (by simp [hy]) ?_)
    · simp only [laws_toInt64S.l0]
      rw [if_pos (by omega), if_pos (by omega), if_pos (by omega), rd_nat l hi, wrap_succ hi hl, Int.toNat_natCast]
    · rw [List.take_succ_eq_append_getElem (by simp; omega), List.take_succ_eq_append_getElem hi, List.take_set_of_le (Nat.le_refl i), ht]; simp
theorem toInts (l : List Int) (hl : l.length ≤ 35184372088832) : Ev (fun k => laws_toInt64S.f k l) l := by
  have := toInts_loop l (by omega) l.length 0 (List.replicate l.length 0) (by omega) (by simp) (by simp)
  simp only [laws_toInt64S.f, Int.toNat_natCast, if_pos hl, if_pos (Int.natCast_nonneg l.length)]
  exact this

theorem toRows_loop (l : List (List Int)) (hl : l.length ≤ 9223372036854775807) (hx : ∀ x ∈ l, x.length ≤ 35184372088832) : ∀ d i (y : List (List Int)), i + d = l.length → y.length = l.length → y.take i = l.take i → Ev (fun k => laws_toInt64SS.l0 k l y (i : Int)) l := by
  intro d
  induction d with
  | zero =>
    intro i y h hy ht
    have e : y = l := by
      rw [List.take_of_length_le (by omega), List.take_of_length_le (by omega)] at ht; exact ht
    subst e
    exact ev_const fun k => by simp only [laws_toInt64SS.l0]; rw [if_neg (by omega)]
  | succ d ih =>
    intro i y h hy ht
    have hi : i < l.length := by omega
    refine Ev.step (f := fun k => (laws_toInt64S.f k l[i]).bind fun t => laws_toInt64SS.l0 k l (y.set i t) ((i + 1 : Nat) : Int)) (fun k => ?_) (Ev.bind (toInts l[i] (hx _ (List.getElem_mem hi))) (ih (i + 1) (y.set i l[i]) (by omega) (by simp [hy]) ?_))
    · simp only [laws_toInt64SS.l0]
      rw [if_pos (by omega), if_pos (by omega), rdr_nat l hi, wrap_succ hi hl]
      simp only [if_pos (show (i : Int) < (y.length : Int) by omega), Int.toNat_natCast]
    · rw [List.take_succ_eq_append_getElem (by simp; omega), List.take_succ_eq_append_getElem hi, List.take_set_of_le (Nat.le_refl i), ht]; simp
theorem toRows (l : List (List Int)) (hl : l.length ≤ 11728124029610) (hx : ∀ x ∈ l, x.length ≤ 35184372088832) : Ev (fun k => laws_toInt64SS.f k l) l := by
  have := toRows_loop l (by omega) hx l.length 0 (List.replicate l.length []) (by omega) (by simp) (by simp)
  simp only [laws_toInt64SS.f, Int.toNat_natCast, if_pos hl, if_pos (Int.natCast_nonneg l.length)]
  exact this

theorem eqInts_loop (l : List Int) (hl : l.length ≤ 9223372036854775807) : ∀ d i, i + d = l.length → Ev (fun k => laws_eqInt64S.l0 k l l (i : Int)) true := by
  intro d
  induction d with
  | zero => intro i h; exact ev_const fun k => by simp only [laws_eqInt64S.l0]; rw [if_neg (by omega)]
  | succ d ih =>
    intro i h
    have hi : i < l.length := by omega
    refine Ev.step (f := fun k => laws_eqInt64S.l0 k l l ((i + 1 : Nat) : Int)) (fun k => ?_) (ih (i + 1) (by omega))
    simp only [laws_eqInt64S.l0]
    rw [if_pos (by omega), if_pos (by omega), if_pos (by omega), wrap_succ hi hl]; simp
theorem eqInts (l : List Int) (hl : l.length ≤ 9223372036854775807) : Ev (fun k => laws_eqInt64S.f k l l) true := by
  have := eqInts_loop l hl l.length 0 (by omega)
  simpa [laws_eqInt64S.f] using this

theorem eqRows_loop (l : List (List Int)) (hl : longL l) : ∀ d i, i + d = l.length → Ev (fun k => laws_eqInt64SS.l0 k l l (i : Int)) true := by
  intro d
  induction d with
  | zero => intro i h; exact ev_const fun k => by simp only [laws_eqInt64SS.l0]; rw [if_neg (by omega)]
  | succ d ih =>
    intro i h
    have hi : i < l.length := by omega
    refine Ev.step (f := fun k => (laws_eqInt64S.f k l[i] l[i]).bind fun t => if t = true then laws_eqInt64SS.l0 k l l ((i + 1 : Nat) : Int) else some false) (fun k => ?_) (Ev.bind (eqInts l[i] (hl.2 _ (List.getElem_mem hi))) (by simpa using ih (i + 1) (by omega)))
    simp only [laws_eqInt64SS.l0]
    rw [if_pos (by omega), if_pos (by omega), if_pos (by omega), rdr_nat l hi, wrap_succ hi hl.1]
theorem eqRows (l : List (List Int)) (hl : longL l) : Ev (fun k => laws_eqInt64SS.f k l l) true := by
  have := eqRows_loop l hl l.length 0 (by omega)
  simpa [laws_eqInt64SS.f] using this

theorem toCover_ev (a b : Int) (l : List (List Int)) (hl : l.length ≤ 11728124029610) (hx : ∀ x ∈ l, x.length ≤ 35184372088832) : Ev (fun k => laws_toCover.f k a b l) (a, b, l) := by
  simp only [laws_toCover.f]
  exact Ev.bind (toRows l hl hx) (Ev.now _)
theorem eqCover_ev (a b : Int) (l : List (List Int)) (hl : longL l) : Ev (fun k => laws_eqCover.f k a b l a b l) true := by
  simp only [laws_eqCover.f, if_true]
  exact Ev.bind (eqRows l hl) (by simpa using Ev.now true)
theorem szCover_ev (a b : Int) (l : List (List Int)) (hl : longL l) : ∃ r, Ev (fun k => laws_szCover.f k a b l 1048576) r ∧ (r < 0 ∨ ((l.length : Int) ≤ 1048576 ∧ ∀ x ∈ l, (x.length : Int) ≤ 1048576)) := by
  obtain ⟨r, hr, c1, c2, c3⟩ := szRows l hl 1048576 (by omega) (by omega)
  by_cases c : r < 0
  · exact ⟨-1, by simp only [laws_szCover.f]; exact Ev.bind hr (by simp only [if_pos c]; exact Ev.now _), .inl (by omega)⟩
  · exact ⟨r, by simp only [laws_szCover.f]; exact Ev.bind hr (by simp only [if_neg c]; exact Ev.now _), .inr (c3 (by omega))⟩


theorem pure : laws_FnExactCoverText.Pure := by
  intro a b l _ _ hw
  have hl := longL_of hw
  obtain ⟨r, hr, hc⟩ := szCover_ev a b l hl
  refine Ev.rounds (r := true) ?_
  simp only [laws_FnExactCoverText.f]
  refine Ev.bind hr ?_
  by_cases c : r < 0
  · simp only [if_pos c]; exact Ev.now _
  · simp only [if_neg c]
    have hs := hc.resolve_left c
    have hT := toCover_ev a b l (by omega) (fun x hx => by have := hs.2 x hx; omega)
    have hx : ∀ x ∈ l, x.length ≤ 1048576 := fun x hx => by have := hs.2 x hx; omega
    refine Ev.bind hT (Ev.bind (spec_CoverText_ev a b l hl hx) (Ev.bind hT (Ev.bind (impl_CoverText_ev a b l hl hx) ?_)))
    simp only [if_true]
    exact Ev.bind hT (Ev.bind (eqCover_ev a b l hl) (by simpa using Ev.now true))

end Go.Proofs.YtkoajacfhlnmoaaDoor.XFnExactCoverText
namespace Go.Proofs.YtkoajacfhlnmoaaDoor
/-- The law FnExactCoverText returns true at every cover and leaves its argument as it was. Conditions: none. -/
theorem fnExactCoverText_holds : Rows.FnExactCoverTextCardSaid := fnExactCoverText.of_pure XFnExactCoverText.pure
#print axioms fnExactCoverText_holds
end Go.Proofs.YtkoajacfhlnmoaaDoor
