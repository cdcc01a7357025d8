/- Walks: impl.within | spec.l01In. No condition. | Small functions of cells. No condition. | Small functions of cells, the second part. No condition. | Lists of numbers that rise. No condition. | Lists of cells turned into other ones. No condition. | Pieces and puzzles turned into other ones. No condition. | Puzzles and placements turned into other ones. No condition. | What is equal to itself. No condition. | What is equal to itself, the second part. No condition. | Cells moved. No condition. | Whether all parts are the first one; picked cells. No condition. | Cells picked by their numbers. No condition. | What is a shape. No condition. | What is a shape, the program's. No condition. | The least corner of cells. No condition. | Where a cell stands; the greatest corner, sizes. No condition. -/
import Derived.Test.YtmglpcdalechfaaGreatBO
set_option linter.unusedVariables false
set_option linter.unusedSimpArgs false
section
open Go Go.Big
namespace Go.Proofs
set_option maxHeartbeats 2000000
theorem within_fn (G : Gv) (n lo hi : Int) : Gives Tryz.prog G 86 [.i .i64 n, .i .i64 lo, .i .i64 hi] (.b (decide (n ≥ lo) && decide (n ≤ hi))) := by
  refine .of (.body Tryz.func86 rfl (by simp [Tryz.ntmps86]) ?_)
  rw [Tryz.ntmps86, Tryz.results86]
  refine AG ?_
  by_cases c : n ≥ lo
  all_goals
    refine AG ?_
    refine .ret ?_
    refine .ret rfl ?_
    simp [retA, backA, backsA, newSl, newB, setF_if, upd_if, *]
theorem l01In_fn (G : Gv) (n lo hi : Int) : Gives Tryz.prog G 83 [.i .i64 n, .i .i64 lo, .i .i64 hi] (.b (decide (n ≥ lo) && decide (n ≤ hi))) := by
  refine .of (.body Tryz.func83 rfl (by simp [Tryz.ntmps83]) ?_)
  rw [Tryz.ntmps83, Tryz.results83]
  refine AG ?_
  by_cases c : n ≥ lo
  all_goals
    refine AG ?_
    refine .ret ?_
    refine .ret rfl ?_
    simp [retA, backA, backsA, newSl, newB, setF_if, upd_if, *]
end Go.Proofs
end
section
open Go Go.Big
namespace Go.Proofs
set_option maxHeartbeats 2000000
abbrev cellA (x y : Int) : AV := .ag [.i .i64 x, .i .i64 y]
def inC (x : Int) : Bool := decide (x ≥ -100) && decide (x ≤ 100)
theorem isCoordinate_fn (G : Gv) (x : Int) : Gives Tryz.prog G 232 [.i .i64 x] (.b (inC x)) := by
  refine .of (.body Tryz.func232 rfl (by simp [Tryz.ntmps232]) ?_)
  rw [Tryz.ntmps232, Tryz.results232]
  refine AG ?_
  refine CV (within_fn G _ _ _) ?_
  refine AG ?_
  refine .ret ?_
  refine .ret rfl ?_
  simp [retA, backA, setF_if, inC]
theorem l02Cell_fn (G : Gv) (x y : Int) : Gives Tryz.prog G 225 [cellA x y] (.b (inC x && inC y)) := by
  refine .of (.body Tryz.func225 rfl (by simp [Tryz.ntmps225]) ?_)
  rw [Tryz.ntmps225, Tryz.results225]
  refine AG ?_
  refine CV (l01In_fn G _ _ _) ?_
  refine AG ?_
  by_cases c : (decide (x ≥ -100) && decide (x ≤ 100)) = true
  · refine AG ?_
    refine CV (l01In_fn G _ _ _) ?_
    refine AG ?_
    refine .ret ?_
    refine .ret rfl ?_
    simp [retA, backA, setF_if, inC, *]
  · refine AG ?_
    refine .ret ?_
    refine .ret rfl ?_
    simp [retA, backA, setF_if, inC, *]
def lessC (a b c d : Int) : Bool := decide (b < d) || ((b == d) && decide (a < c))
theorem l02Less_fn (G : Gv) (a b c d : Int) : Gives Tryz.prog G 226 [cellA a b, cellA c d] (.b (lessC a b c d)) := by
  refine .of (.body Tryz.func226 rfl (by simp [Tryz.ntmps226]) ?_)
  rw [Tryz.ntmps226, Tryz.results226]
  refine AG ?_
  by_cases c1 : b < d
  · refine AG ?_
    refine .ret ?_
    refine .ret rfl ?_
    simp [retA, backA, setF_if, lessC, *]
  · refine AG ?_
    by_cases c2 : (b == d) = true
    · refine AG ?_
      refine .ret ?_
      refine .ret rfl ?_
      simp [retA, backA, setF_if, lessC, *]
    · refine AG ?_
      refine .ret ?_
      refine .ret rfl ?_
      simp [retA, backA, setF_if, lessC, *]
end Go.Proofs
end
section
open Go Go.Big
namespace Go.Proofs
set_option maxHeartbeats 2000000
theorem isNaN_fn (G : Gv) (x : Int) : Gives Tryz.prog G 271 [.i .i64 x] (.b false) := by
  refine .of (.body Tryz.func271 rfl (by simp [Tryz.ntmps271]) ?_)
  rw [Tryz.ntmps271, Tryz.results271]
  refine AG ?_
  refine .ret ?_
  refine .ret rfl ?_
  simp [retA, backA, setF_if]
def cmpI (a b : Int) : Int := if a < b then -1 else if a > b then 1 else 0
theorem compare_fn (G : Gv) (a b : Int) : Gives Tryz.prog G 209 [.i .i64 a, .i .i64 b] (.i .i64 (cmpI a b)) := by
  refine .of (.body Tryz.func209 rfl (by simp [Tryz.ntmps209]) ?_)
  rw [Tryz.ntmps209, Tryz.results209]
  refine AG ?_
  refine CV (isNaN_fn G _) ?_
  refine AG ?_
  refine CV (isNaN_fn G _) ?_
  refine AG ?_
  refine IFF ?_
  refine .skip ?_
  refine AG ?_
  refine IFF ?_
  refine .skip ?_
  refine AG ?_
  by_cases c : a < b
  · refine IFT ?_
    refine AG ?_
    refine .ret ?_
    (try simp only [tN, tR, tE, rN, rR, rE, xN, xR, xE, reduceIte])
    refine .ret rfl ?_
    simp [retA, backA, setF_if, cmpI, *]
  · refine IFF ?_
    refine .skip ?_
    refine AG ?_
    by_cases c2 : a > b
    · refine IFT ?_
      refine AG ?_
      refine .ret ?_
      (try simp only [tN, tR, tE, rN, rR, rE, xN, xR, xE, reduceIte])
      refine .ret rfl ?_
      simp [retA, backA, setF_if, cmpI, *]
    · refine IFF ?_
      refine .skip ?_
      refine AG ?_
      refine .ret ?_
      refine .ret rfl ?_
      simp [retA, backA, setF_if, cmpI, *]
def cmpC (a b c d : Int) : Int := if cmpI b d ≠ 0 then cmpI b d else cmpI a c
theorem compareCells_fn (G : Gv) (a b c d : Int) : Gives Tryz.prog G 207 [cellA a b, cellA c d] (.i .i64 (cmpC a b c d)) := by
  refine .of (.body Tryz.func207 rfl (by simp [Tryz.ntmps207]) ?_)
  rw [Tryz.ntmps207, Tryz.results207]
  refine AG ?_
  refine CV (compare_fn G _ _) ?_
  refine AG ?_
  by_cases c1 : (cmpI b d != 0) = true
  · refine IFT ?_
    refine AG ?_
    refine .ret ?_
    (try simp only [tN, tR, tE, rN, rR, rE, xN, xR, xE, reduceIte])
    refine .ret rfl ?_
    simp at c1
    simp [retA, backA, setF_if, cmpC, c1]
  · refine IFF ?_
    refine .skip ?_
    refine AG ?_
    refine CV (compare_fn G _ _) ?_
    refine AG ?_
    refine .ret ?_
    refine .ret rfl ?_
    simp at c1
    simp [retA, backA, setF_if, cmpC, c1]
theorem eqCell_fn (G : Gv) (a b c d : Int) : Gives Tryz.prog G 123 [cellA a b, cellA c d] (.b (a == c && b == d)) := by
  refine .of (.body Tryz.func123 rfl (by simp [Tryz.ntmps123]) ?_)
  rw [Tryz.ntmps123, Tryz.results123]
  refine AG ?_
  by_cases c1 : (a != c) = true
  · refine IFT ?_
    refine AG ?_
    refine .ret ?_
    (try simp only [tN, tR, tE, rN, rR, rE, xN, xR, xE, reduceIte])
    refine .ret rfl ?_
    simp at c1
    simp [retA, backA, setF_if, c1]
  · refine IFF ?_
    refine .skip ?_
    refine AG ?_
    by_cases c2 : (b != d) = true
    · refine IFT ?_
      refine AG ?_
      refine .ret ?_
      (try simp only [tN, tR, tE, rN, rR, rE, xN, xR, xE, reduceIte])
      refine .ret rfl ?_
      simp at c1 c2
      simp [retA, backA, setF_if, c1, c2]
    · refine IFF ?_
      refine .skip ?_
      refine AG ?_
      refine .ret ?_
      refine .ret rfl ?_
      simp at c1 c2
      simp [retA, backA, setF_if, c1, c2]
theorem toCell_fn (G : Gv) (x y : Int) : Gives Tryz.prog G 117 [cellA x y] (cellA x y) := by
  refine .of (.body Tryz.func117 rfl (by simp [Tryz.ntmps117]) ?_)
  rw [Tryz.ntmps117, Tryz.results117]
  refine AG ?_
  refine .ret ?_
  refine DN ?_
  simp [retA, backA, backsA]
theorem around_fn (G : Gv) (x y : Int) : Gives Tryz.prog G 166 [cellA x y] (.sl 1 [[.i .i64 x, .i .i64 (IntKind.i64.wrap (y - 1))], [.i .i64 (IntKind.i64.wrap (x - 1)), .i .i64 y], [.i .i64 (IntKind.i64.wrap (x + 1)), .i .i64 y], [.i .i64 x, .i .i64 (IntKind.i64.wrap (y + 1))]]) := by
  refine .of (.body Tryz.func166 rfl (by simp [Tryz.ntmps166]) ?_)
  rw [Tryz.ntmps166, Tryz.results166]
  refine AG ?_
  refine .ret ?_
  refine DN ?_
  simp [retA, backA, newSl, newB, upd_if]
theorem l02Around_fn (G : Gv) (x y : Int) : Gives Tryz.prog G 272 [cellA x y] (.sl 1 [[.i .i64 x, .i .i64 (IntKind.i64.wrap (y - 1))], [.i .i64 (IntKind.i64.wrap (x - 1)), .i .i64 y], [.i .i64 (IntKind.i64.wrap (x + 1)), .i .i64 y], [.i .i64 x, .i .i64 (IntKind.i64.wrap (y + 1))]]) := by
  refine .of (.body Tryz.func272 rfl (by simp [Tryz.ntmps272]) ?_)
  rw [Tryz.ntmps272, Tryz.results272]
  refine AG ?_
  refine .ret ?_
  refine DN ?_
  simp [retA, backA, newSl, newB, upd_if]
end Go.Proofs
end
section
open Go Go.Big
namespace Go.Proofs
set_option maxHeartbeats 2000000
theorem wr64 {k : Int} (h1 : 0 ≤ k) (h2 : k < 9223372036854775808) : IntKind.i64.wrap k = k := by
  simp [IntKind.wrap, IntKind.bits, IntKind.signed]; omega
def ints (l : List Int) : List (List PV) := l.map fun x => [.i .i64 x]
theorem ints_len (l : List Int) : (ints l).length = l.length := by simp [ints]
theorem ints_at {l : List Int} {i : Nat} (h : i < l.length) : (ints l)[i]? = some [.i .i64 (l.getD i 0)] := by
  simp [ints, h, List.getD_eq_getElem?_getD]
theorem all_no {f : Nat → Bool} {n i : Nat} (h : i < n) (hf : f i = false) : (List.range n).all f = false := by
  rw [List.all_eq_false]; exact ⟨i, List.mem_range.mpr h, by simp [hf]⟩
theorem all_yes {f : Nat → Bool} {n : Nat} (h : ∀ i < n, f i = true) : (List.range n).all f = true := by
  rw [List.all_eq_true]; exact fun i hi => h i (List.mem_range.mp hi)
def incAt (l : List Int) (m : Int) (i : Nat) : Bool := (decide (l.getD i 0 ≥ 0) && decide (l.getD i 0 ≤ m)) && !(decide ((i : Int) > 0) && decide (l.getD i 0 ≤ l.getD (i - 1) 0))
def inc (l : List Int) (m : Int) : Bool := (List.range l.length).all (incAt l m)
theorem isIncreasing_fn (G : Gv) (l : List Int) (n : Int) (hl : l.length < 4611686018427387904) : Gives Tryz.prog G 121 [.sl 0 (ints l), .i .i64 n] (.b (inc l (IntKind.i64.wrap (n - 1)))) := by
  refine .of (.body Tryz.func121 rfl (by simp [Tryz.ntmps121]) ?_)
  rw [Tryz.ntmps121, Tryz.results121]
  refine AG ?_
  refine .block (.loop (.inv (fun d E H n' => ∃ i : Nat, i + d = l.length ∧ E 0 = .sl 0 (ints l) ∧ E 1 = .i .i64 n ∧ E 7 = .sl 0 (ints l) ∧ E 8 = .i .i64 l.length ∧ E 9 = .i .i64 i ∧ (∀ j, j < i → incAt l (IntKind.i64.wrap (n - 1)) j = true)) l.length ?_ ?_))
  · simp [setF_if, argE, ints]
  rintro d E H n' ⟨i, hi, h0, h1, h7, h8, h9, hall⟩
  refine AG ?_
  by_cases c : (i : Int) < l.length
  · refine IFT ?_
    have hr : (ints l)[i]? = some [.i .i64 (l.getD i 0)] := ints_at (by omega)
    have hat : incAt l (IntKind.i64.wrap (n - 1)) i = incAt l (IntKind.i64.wrap (n - 1)) i := rfl
    conv at hat => rhs; unfold incAt
    have hno : incAt l (IntKind.i64.wrap (n - 1)) i = false → inc l (IntKind.i64.wrap (n - 1)) = false := fun h => all_no (by omega) h
    have hw2 : IntKind.i64.wrap ((i : Int) + 1) = (i : Int) + 1 := wr64 (by omega) (by omega)
    have more : incAt l (IntKind.i64.wrap (n - 1)) i = true → ∀ j, j < i + 1 → incAt l (IntKind.i64.wrap (n - 1)) j = true := fun h j hj => by
      by_cases e : j = i
      · rw [e]; exact h
      · exact hall j (by omega)
    generalize l.getD i 0 = x at hr hat
    refine .skip ?_
    refine TH ?_
    refine .seq ?_
    refine .block ?_
    refine AG ?_
    refine CV (within_fn G _ _ _) ?_
    refine AG ?_
    by_cases c1 : (decide (x ≥ 0) && decide (x ≤ IntKind.i64.wrap (n - 1))) = true
    · refine AG ?_
      by_cases c3 : (i : Int) > 0
      · have hr2 : (ints l)[((i : Int) - 1).toNat]? = some [.i .i64 (l.getD (i - 1) 0)] := by rw [show ((i : Int) - 1).toNat = i - 1 by omega]; exact ints_at (by omega)
        have hw : IntKind.i64.wrap ((i : Int) - 1) = (i : Int) - 1 := wr64 (by omega) (by omega)
        have h01 : 0 ≤ (i : Int) - 1 := by omega
        generalize l.getD (i - 1) 0 = y at hr2 hat
        refine AG ?_
        by_cases c4 : x ≤ y
        · refine IFT ?_
          refine AG ?_
          refine .ret ?_
          (try simp only [tN, tR, tE, rN, rR, rE, xN, xR, xE, reduceIte])
          refine DN ?_
          have := hno (by simp only [decide_true, decide_false, Bool.not_true, Bool.not_false, Bool.and_true, Bool.true_and, Bool.and_false, Bool.false_and, Bool.and_self, *])
          simp [retA, backA, this]
        · refine IFF ?_
          refine .skip ?_
          (try simp only [tN, tR, tE, rN, rR, rE, xN, xR, xE, reduceIte])
          refine .region ?_
          refine AG ?_
          (try simp only [tN, tR, tE, rN, rR, rE, xN, xR, xE, reduceIte])
          refine ⟨l.length - (i + 1), by omega, i + 1, by omega, ?_⟩
          simp [setF_if, *]
          exact more (by simp only [decide_true, decide_false, Bool.not_true, Bool.not_false, Bool.and_true, Bool.true_and, Bool.and_false, Bool.false_and, Bool.and_self, *])
      · refine AG ?_
        refine IFF ?_
        refine .skip ?_
        (try simp only [tN, tR, tE, rN, rR, rE, xN, xR, xE, reduceIte])
        refine .region ?_
        refine AG ?_
        (try simp only [tN, tR, tE, rN, rR, rE, xN, xR, xE, reduceIte])
        refine ⟨l.length - (i + 1), by omega, i + 1, by omega, ?_⟩
        simp [setF_if, *]
        exact more (by simp only [decide_true, decide_false, Bool.not_true, Bool.not_false, Bool.and_true, Bool.true_and, Bool.and_false, Bool.false_and, Bool.and_self, *])
    · refine AG ?_
      refine IFT ?_
      refine AG ?_
      refine .ret ?_
      (try simp only [tN, tR, tE, rN, rR, rE, xN, xR, xE, reduceIte])
      refine DN ?_
      have := hno (by simp only [decide_true, decide_false, Bool.not_true, Bool.not_false, Bool.and_true, Bool.true_and, Bool.and_false, Bool.false_and, Bool.and_self, *])
      simp [retA, backA, this]
  · refine IFF ?_
    refine .exit ?_
    (try simp only [tN, tR, tE, rN, rR, rE, xN, xR, xE, reduceIte])
    refine AG ?_
    refine .ret ?_
    refine DN ?_
    have : inc l (IntKind.i64.wrap (n - 1)) = true := all_yes (fun j hj => hall j (by omega))
    simp [retA, backA, this]
end Go.Proofs
end
section
open Go Go.Big
namespace Go.Proofs
set_option maxHeartbeats 2000000
def cells (l : List (Int × Int)) : List (List PV) := l.map fun p => [.i .i64 p.1, .i .i64 p.2]
theorem cells_len (l : List (Int × Int)) : (cells l).length = l.length := by simp [cells]
theorem cells_at {l : List (Int × Int)} {i : Nat} (h : i < l.length) : (cells l)[i]? = some [.i .i64 (l.getD i (0, 0)).1, .i .i64 (l.getD i (0, 0)).2] := by
  simp [cells, h, List.getD_eq_getElem?_getD]
def part {α : Type} (l : List α) (z : α) (i : Nat) : List α := l.take i ++ List.replicate (l.length - i) z
theorem part_at {α : Type} {l : List α} {z : α} {i : Nat} (h : i < l.length) : (part l z i)[i]? = some z := by
  unfold part
  rw [List.getElem?_append_right (by simp; omega)]
  simp [List.getElem?_replicate]; omega
theorem part_set {α : Type} {l : List α} {z x : α} {i : Nat} (h : l[i]? = some x) : (part l z i).set i x = part l z (i + 1) := by
  have hi := (List.getElem?_eq_some_iff.mp h).1
  have hx := (List.getElem?_eq_some_iff.mp h).2
  unfold part
  rw [List.set_append_right _ _ (by simp; omega), show l.length - i = (l.length - (i + 1)) + 1 by omega, List.replicate_succ, List.length_take, Nat.min_eq_left (by omega), Nat.sub_self, List.set_cons_zero, List.take_succ_eq_append_getElem hi, hx]
  simp
theorem part_zero {α : Type} (l : List α) (z : α) : part l z 0 = List.replicate l.length z := by simp [part]
theorem part_all {α : Type} (l : List α) (z : α) : part l z l.length = l := by simp [part]
theorem toCellS_fn (G : Gv) (l : List (Int × Int)) (hl : l.length < 1000000000) : Gives Tryz.prog G 54 [.sl 0 (cells l)] (.sl 1 (cells l)) := by
  refine .of (.body Tryz.func54 rfl (by simp [Tryz.ntmps54]) ?_)
  rw [Tryz.ntmps54, Tryz.results54]
  have hlen := cells_len l
  have b1 : ((16 : Nat) : Int) * l.length ≤ 281474976710656 := by simp; omega
  have b2 : (l.length : Int) ≤ 9223372036854775807 := by omega
  have b3 : (0 : Int) ≤ l.length := by omega
  refine AG ?_
  refine .block (.loop (.inv (fun d E H n' => ∃ i : Nat, i + d = l.length ∧ E 0 = .sl 0 (cells l) ∧ E 3 = .own 3 0 ∧ E 4 = .i .i64 i ∧ H 3 = some (.arr 0 142 2 (part (cells l) [.i .i64 0, .i .i64 0] i) 1)) l.length ?_ ?_))
  · simp [setF_if, argE, upd_if, part_zero, hlen]
  rintro d E H n' ⟨i, hi, h0, h3, h4, hH⟩
  refine AG ?_
  by_cases c : (i : Int) < l.length
  · refine IFT ?_
    have hr := cells_at (l := l) (i := i) (by omega)
    have hp := part_at (l := cells l) (z := [PV.i .i64 0, PV.i .i64 0]) (i := i) (by omega)
    have hs := part_set (z := [PV.i .i64 0, PV.i .i64 0]) hr
    have hpl : i < (part (cells l) [PV.i .i64 0, PV.i .i64 0] i).length := (List.getElem?_eq_some_iff.mp hp).1
    have hw2 : IntKind.i64.wrap ((i : Int) + 1) = (i : Int) + 1 := wr64 (by omega) (by omega)
    refine .skip ?_
    refine AG ?_
    refine .block ?_
    refine AG ?_
    refine CV (toCell_fn G _ _) ?_
    refine AG ?_
    (try simp only [tN, tR, tE, rN, rR, rE, xN, xR, xE, reduceIte])
    refine AG ?_
    (try simp only [tN, tR, tE, rN, rR, rE, xN, xR, xE, reduceIte])
    refine ⟨l.length - (i + 1), by omega, i + 1, by omega, ?_⟩
    simp [setF_if, upd_if, *]
  · refine IFF ?_
    refine .exit ?_
    (try simp only [tN, tR, tE, rN, rR, rE, xN, xR, xE, reduceIte])
    refine AG ?_
    refine .ret ?_
    refine DN ?_
    have e : i = (cells l).length := by omega
    simp [retA, backA, newSl, newB, hH]
    rw [e, part_all]
end Go.Proofs
end
section
open Go Go.Big
namespace Go.Proofs
set_option maxHeartbeats 2000000
structure PieceM where
  cs : List (Int × Int)
  k : Int
  b : Bool
abbrev pieceA (t : Nat) (p : PieceM) : AV := .ag [.sl t (cells p.cs), .i .i64 p.k, .b p.b]
abbrev pieceR (p : PieceM) : List PV := [.sl (cells p.cs), .i .i64 p.k, .b p.b]
theorem toPiece_fn (G : Gv) (p : PieceM) (hl : p.cs.length < 1000000000) : Gives Tryz.prog G 39 [pieceA 0 p] (pieceA 1 p) := by
  refine .of (.body Tryz.func39 rfl (by simp [Tryz.ntmps39]) ?_)
  rw [Tryz.ntmps39, Tryz.results39]
  refine AG ?_
  refine CV (toCellS_fn G _ hl) ?_
  refine AG ?_
  refine .ret ?_
  refine DN ?_
  simp [retA, backA, backsA, newSl, newB]
def pieces (l : List PieceM) : List (List PV) := l.map pieceR
theorem pieces_len (l : List PieceM) : (pieces l).length = l.length := by simp [pieces]
theorem toPieceS_fn (G : Gv) (l : List PieceM) (hl : l.length < 1000000000) (hc : ∀ p ∈ l, p.cs.length < 1000000000) : Gives Tryz.prog G 73 [.sl 0 (pieces l)] (.sl 1 (pieces l)) := by
  refine .of (.body Tryz.func73 rfl (by simp [Tryz.ntmps73]) ?_)
  rw [Tryz.ntmps73, Tryz.results73]
  have hlen := pieces_len l
  have b1 : ((40 : Nat) : Int) * l.length ≤ 281474976710656 := by simp; omega
  have b2 : (l.length : Int) ≤ 9223372036854775807 := by omega
  have b3 : (0 : Int) ≤ l.length := by omega
  refine AG ?_
  refine .block (.loop (.inv (fun d E H n' => ∃ i : Nat, i + d = l.length ∧ E 0 = .sl 0 (pieces l) ∧ E 3 = .own 3 0 ∧ E 4 = .i .i64 i ∧ H 3 = some (.arr 0 68 3 (part (pieces l) [.sl [], .i .i64 0, .b false] i) 1)) l.length ?_ ?_))
  · simp [setF_if, argE, upd_if, part_zero, hlen]
  rintro d E H n' ⟨i, hi, h0, h3, h4, hH⟩
  refine AG ?_
  by_cases c : (i : Int) < l.length
  · refine IFT ?_
    obtain ⟨p, hpi⟩ : ∃ p, l[i]? = some p := ⟨_, List.getElem?_eq_getElem (by omega)⟩
    have hr : (pieces l)[i]? = some (pieceR p) := by simp [pieces, hpi]
    have hp := part_at (l := pieces l) (z := [PV.sl [], PV.i .i64 0, PV.b false]) (i := i) (by omega)
    have hs := part_set (z := [PV.sl [], PV.i .i64 0, PV.b false]) hr
    have hpl : i < (part (pieces l) [PV.sl [], PV.i .i64 0, PV.b false] i).length := (List.getElem?_eq_some_iff.mp hp).1
    have hw2 : IntKind.i64.wrap ((i : Int) + 1) = (i : Int) + 1 := wr64 (by omega) (by omega)
    refine .skip ?_
    refine AG ?_
    refine .block ?_
    refine AG ?_
    refine CV (toPiece_fn G p (hc p (List.mem_of_getElem? hpi))) ?_
    refine AG ?_
    (try simp only [tN, tR, tE, rN, rR, rE, xN, xR, xE, reduceIte])
    refine AG ?_
    (try simp only [tN, tR, tE, rN, rR, rE, xN, xR, xE, reduceIte])
    refine ⟨l.length - (i + 1), by omega, i + 1, by omega, ?_⟩
    simp [setF_if, upd_if, *]
  · refine IFF ?_
    refine .exit ?_
    (try simp only [tN, tR, tE, rN, rR, rE, xN, xR, xE, reduceIte])
    refine AG ?_
    refine .ret ?_
    refine DN ?_
    have e : i = (pieces l).length := by omega
    simp [retA, backA, newSl, newB, hH]
    rw [e, part_all]
end Go.Proofs
end
section
open Go Go.Big
namespace Go.Proofs
set_option maxHeartbeats 2000000
theorem toPuzzle_fn (G : Gv) (l : List (Int × Int)) (ps : List PieceM) (hl : l.length < 1000000000) (hp : ps.length < 1000000000) (hc : ∀ p ∈ ps, p.cs.length < 1000000000) :
    Gives Tryz.prog G 16 [.ag [.sl 0 (cells l), .sl 0 (pieces ps)]] (.ag [.sl 1 (cells l), .sl 1 (pieces ps)]) := by
  refine .of (.body Tryz.func16 rfl (by simp [Tryz.ntmps16]) ?_)
  rw [Tryz.ntmps16, Tryz.results16]
  refine AG ?_
  refine CV (toCellS_fn G _ hl) ?_
  refine AG ?_
  refine CV (toPieceS_fn G _ hp hc) ?_
  refine AG ?_
  refine .ret ?_
  refine DN ?_
  simp [retA, backA, backsA, newSl, newB]
theorem toInt64S_fn (G : Gv) (l : List Int) (hl : l.length < 1000000000) : Gives Tryz.prog G 55 [.sl 0 (ints l)] (.sl 1 (ints l)) := by
  refine .of (.body Tryz.func55 rfl (by simp [Tryz.ntmps55]) ?_)
  rw [Tryz.ntmps55, Tryz.results55]
  have hlen := ints_len l
  have b1 : ((8 : Nat) : Int) * l.length ≤ 281474976710656 := by simp; omega
  have b2 : (l.length : Int) ≤ 9223372036854775807 := by omega
  have b3 : (0 : Int) ≤ l.length := by omega
  refine AG ?_
  refine .block (.loop (.inv (fun d E H n' => ∃ i : Nat, i + d = l.length ∧ E 0 = .sl 0 (ints l) ∧ E 3 = .own 3 0 ∧ E 4 = .i .i64 i ∧ H 3 = some (.arr 0 2 1 (part (ints l) [.i .i64 0] i) 1)) l.length ?_ ?_))
  · simp [setF_if, argE, upd_if, part_zero, hlen]
  rintro d E H n' ⟨i, hi, h0, h3, h4, hH⟩
  refine AG ?_
  by_cases c : (i : Int) < l.length
  · refine IFT ?_
    have hr := ints_at (l := l) (i := i) (by omega)
    have hp := part_at (l := ints l) (z := [PV.i .i64 0]) (i := i) (by omega)
    have hs := part_set (z := [PV.i .i64 0]) hr
    have hpl : i < (part (ints l) [PV.i .i64 0] i).length := (List.getElem?_eq_some_iff.mp hp).1
    have hw2 : IntKind.i64.wrap ((i : Int) + 1) = (i : Int) + 1 := wr64 (by omega) (by omega)
    refine .skip ?_
    refine AG ?_
    refine .block ?_
    refine AG ?_
    (try simp only [tN, tR, tE, rN, rR, rE, xN, xR, xE, reduceIte])
    refine AG ?_
    (try simp only [tN, tR, tE, rN, rR, rE, xN, xR, xE, reduceIte])
    refine ⟨l.length - (i + 1), by omega, i + 1, by omega, ?_⟩
    simp [setF_if, upd_if, *]
  · refine IFF ?_
    refine .exit ?_
    (try simp only [tN, tR, tE, rN, rR, rE, xN, xR, xE, reduceIte])
    refine AG ?_
    refine .ret ?_
    refine DN ?_
    have e : i = (ints l).length := by omega
    simp [retA, backA, newSl, newB, hH]
    rw [e, part_all]
theorem toPlacement_fn (G : Gv) (k : Int) (l : List Int) (hl : l.length < 1000000000) : Gives Tryz.prog G 106 [.ag [.i .i64 k, .sl 0 (ints l)]] (.ag [.i .i64 k, .sl 1 (ints l)]) := by
  refine .of (.body Tryz.func106 rfl (by simp [Tryz.ntmps106]) ?_)
  rw [Tryz.ntmps106, Tryz.results106]
  refine AG ?_
  refine CV (toInt64S_fn G _ hl) ?_
  refine AG ?_
  refine .ret ?_
  refine DN ?_
  simp [retA, backA, backsA, newSl, newB]
end Go.Proofs
end
section
open Go Go.Big
namespace Go.Proofs
set_option maxHeartbeats 2000000
theorem eqCellS_fn (G : Gv) (l : List (Int × Int)) (hl : l.length < 1000000000) : Gives Tryz.prog G 57 [.sl 0 (cells l), .sl 0 (cells l)] (.b true) := by
  refine .of (.body Tryz.func57 rfl (by simp [Tryz.ntmps57]) ?_)
  rw [Tryz.ntmps57, Tryz.results57]
  have hlen := cells_len l
  refine AG ?_
  have hn : ((l.length : Int) != l.length) = false := by simp
  refine IFF ?_
  refine .skip ?_
  refine AG ?_
  refine .block (.loop (.inv (fun d E H n' => ∃ i : Nat, i + d = l.length ∧ E 0 = .sl 0 (cells l) ∧ E 1 = .sl 0 (cells l) ∧ E 5 = .i .i64 i) l.length ?_ ?_))
  · simp [setF_if, argE]
  rintro d E H n' ⟨i, hi, h0, h1, h5⟩
  refine AG ?_
  by_cases c : (i : Int) < l.length
  · refine IFT ?_
    have hr := cells_at (l := l) (i := i) (by omega)
    have hw2 : IntKind.i64.wrap ((i : Int) + 1) = (i : Int) + 1 := wr64 (by omega) (by omega)
    refine .skip ?_
    refine AG ?_
    refine .block ?_
    refine AQ ?_
    refine CQ (eqCell_fn G _ _ _ _) ?_
    refine AQ ?_
    refine IFF ?_
    refine .skip ?_
    (try simp only [tN, tR, tE, rN, rR, rE, xN, xR, xE, reduceIte])
    refine AG ?_
    (try simp only [tN, tR, tE, rN, rR, rE, xN, xR, xE, reduceIte])
    refine ⟨l.length - (i + 1), by omega, i + 1, by omega, ?_⟩
    simp [setF_if, *]
  · refine IFF ?_
    refine .exit ?_
    (try simp only [tN, tR, tE, rN, rR, rE, xN, xR, xE, reduceIte])
    refine AG ?_
    refine .ret ?_
    refine DN ?_
    simp [retA, backA]
theorem eqInt64S_fn (G : Gv) (l : List Int) (hl : l.length < 1000000000) : Gives Tryz.prog G 27 [.sl 0 (ints l), .sl 0 (ints l)] (.b true) := by
  refine .of (.body Tryz.func27 rfl (by simp [Tryz.ntmps27]) ?_)
  rw [Tryz.ntmps27, Tryz.results27]
  have hlen := ints_len l
  refine AG ?_
  have hn : ((l.length : Int) != l.length) = false := by simp
  refine IFF ?_
  refine .skip ?_
  refine AG ?_
  refine .block (.loop (.inv (fun d E H n' => ∃ i : Nat, i + d = l.length ∧ E 0 = .sl 0 (ints l) ∧ E 1 = .sl 0 (ints l) ∧ E 5 = .i .i64 i) l.length ?_ ?_))
  · simp [setF_if, argE]
  rintro d E H n' ⟨i, hi, h0, h1, h5⟩
  refine AG ?_
  by_cases c : (i : Int) < l.length
  · refine IFT ?_
    have hr := ints_at (l := l) (i := i) (by omega)
    have hw2 : IntKind.i64.wrap ((i : Int) + 1) = (i : Int) + 1 := wr64 (by omega) (by omega)
    refine .skip ?_
    refine AG ?_
    refine .block ?_
    refine AQ ?_
    refine IFF ?_
    refine .skip ?_
    (try simp only [tN, tR, tE, rN, rR, rE, xN, xR, xE, reduceIte])
    refine AG ?_
    (try simp only [tN, tR, tE, rN, rR, rE, xN, xR, xE, reduceIte])
    refine ⟨l.length - (i + 1), by omega, i + 1, by omega, ?_⟩
    simp [setF_if, *]
  · refine IFF ?_
    refine .exit ?_
    (try simp only [tN, tR, tE, rN, rR, rE, xN, xR, xE, reduceIte])
    refine AG ?_
    refine .ret ?_
    refine DN ?_
    simp [retA, backA]
end Go.Proofs
end
section
open Go Go.Big
namespace Go.Proofs
set_option maxHeartbeats 2000000
theorem eqPiece_fn (G : Gv) (p : PieceM) (hl : p.cs.length < 1000000000) : Gives Tryz.prog G 43 [pieceA 0 p, pieceA 0 p] (.b true) := by
  refine .of (.body Tryz.func43 rfl (by simp [Tryz.ntmps43]) ?_)
  rw [Tryz.ntmps43, Tryz.results43]
  refine AG ?_
  refine CV (eqCellS_fn G _ hl) ?_
  refine AG ?_
  refine IFF ?_
  refine .skip ?_
  refine AG ?_
  refine IFF ?_
  refine .skip ?_
  refine AG ?_
  refine IFF ?_
  refine .skip ?_
  refine AG ?_
  refine .ret ?_
  refine DN ?_
  simp [retA, backA]
theorem eqPieceS_fn (G : Gv) (l : List PieceM) (hl : l.length < 1000000000) (hc : ∀ p ∈ l, p.cs.length < 1000000000) : Gives Tryz.prog G 79 [.sl 0 (pieces l), .sl 0 (pieces l)] (.b true) := by
  refine .of (.body Tryz.func79 rfl (by simp [Tryz.ntmps79]) ?_)
  rw [Tryz.ntmps79, Tryz.results79]
  have hlen := pieces_len l
  refine AG ?_
  have hn : ((l.length : Int) != l.length) = false := by simp
  refine IFF ?_
  refine .skip ?_
  refine AG ?_
  refine .block (.loop (.inv (fun d E H n' => ∃ i : Nat, i + d = l.length ∧ E 0 = .sl 0 (pieces l) ∧ E 1 = .sl 0 (pieces l) ∧ E 5 = .i .i64 i) l.length ?_ ?_))
  · simp [setF_if, argE]
  rintro d E H n' ⟨i, hi, h0, h1, h5⟩
  refine AG ?_
  by_cases c : (i : Int) < l.length
  · refine IFT ?_
    obtain ⟨p, hpi⟩ : ∃ p, l[i]? = some p := ⟨_, List.getElem?_eq_getElem (by omega)⟩
    have hr : (pieces l)[i]? = some (pieceR p) := by simp [pieces, hpi]
    have hw2 : IntKind.i64.wrap ((i : Int) + 1) = (i : Int) + 1 := wr64 (by omega) (by omega)
    refine .skip ?_
    refine AG ?_
    refine .block ?_
    refine AQ ?_
    refine CQ (eqPiece_fn G p (hc p (List.mem_of_getElem? hpi))) ?_
    refine AQ ?_
    refine IFF ?_
    refine .skip ?_
    (try simp only [tN, tR, tE, rN, rR, rE, xN, xR, xE, reduceIte])
    refine AG ?_
    (try simp only [tN, tR, tE, rN, rR, rE, xN, xR, xE, reduceIte])
    refine ⟨l.length - (i + 1), by omega, i + 1, by omega, ?_⟩
    simp [setF_if, *]
  · refine IFF ?_
    refine .exit ?_
    (try simp only [tN, tR, tE, rN, rR, rE, xN, xR, xE, reduceIte])
    refine AG ?_
    refine .ret ?_
    refine DN ?_
    simp [retA, backA]
theorem eqPuzzle_fn (G : Gv) (l : List (Int × Int)) (ps : List PieceM) (hl : l.length < 1000000000) (hp : ps.length < 1000000000) (hc : ∀ p ∈ ps, p.cs.length < 1000000000) :
    Gives Tryz.prog G 19 [.ag [.sl 0 (cells l), .sl 0 (pieces ps)], .ag [.sl 0 (cells l), .sl 0 (pieces ps)]] (.b true) := by
  refine .of (.body Tryz.func19 rfl (by simp [Tryz.ntmps19]) ?_)
  rw [Tryz.ntmps19, Tryz.results19]
  refine AG ?_
  refine CV (eqCellS_fn G _ hl) ?_
  refine AG ?_
  refine IFF ?_
  refine .skip ?_
  refine AG ?_
  refine CV (eqPieceS_fn G _ hp hc) ?_
  refine AG ?_
  refine IFF ?_
  refine .skip ?_
  refine AG ?_
  refine .ret ?_
  refine DN ?_
  simp [retA, backA]
theorem eqPlacement_fn (G : Gv) (k : Int) (l : List Int) (hl : l.length < 1000000000) : Gives Tryz.prog G 110 [.ag [.i .i64 k, .sl 0 (ints l)], .ag [.i .i64 k, .sl 0 (ints l)]] (.b true) := by
  refine .of (.body Tryz.func110 rfl (by simp [Tryz.ntmps110]) ?_)
  rw [Tryz.ntmps110, Tryz.results110]
  refine AG ?_
  refine IFF ?_
  refine .skip ?_
  refine AG ?_
  refine CV (eqInt64S_fn G _ hl) ?_
  refine AG ?_
  refine IFF ?_
  refine .skip ?_
  refine AG ?_
  refine .ret ?_
  refine DN ?_
  simp [retA, backA]
end Go.Proofs
end
section
open Go Go.Big
namespace Go.Proofs
set_option maxHeartbeats 2000000
def movedM (l : List (Int × Int)) (a b : Int) : List (Int × Int) := l.map fun p => (IntKind.i64.wrap (p.1 + a), IntKind.i64.wrap (p.2 + b))
theorem moved_fn (G : Gv) (l : List (Int × Int)) (a b : Int) (hl : l.length < 1000000000) : Gives Tryz.prog G 155 [.sl 0 (cells l), .i .i64 a, .i .i64 b] (.sl 1 (cells (movedM l a b))) := by
  refine .of (.body Tryz.func155 rfl (by simp [Tryz.ntmps155]) ?_)
  rw [Tryz.ntmps155, Tryz.results155]
  have hlen := cells_len l
  have b1 : ((16 : Nat) : Int) * l.length ≤ 281474976710656 := by simp; omega
  have b2 : (l.length : Int) ≤ 9223372036854775807 := by omega
  have b3 : (0 : Int) ≤ l.length := by omega
  refine AG ?_
  refine .block (.loop (.inv (fun d E H n' => ∃ i : Nat, i + d = l.length ∧ 3 < n' ∧ E 1 = .i .i64 a ∧ E 2 = .i .i64 b ∧ E 13 = .sl 0 (cells l) ∧ E 14 = .i .i64 l.length ∧ E 15 = .i .i64 i ∧ ∃ e, E 7 = .own 3 e ∧ H 3 = some (.arr e 142 2 (cells (movedM (l.take i) a b)) 1)) l.length ?_ ?_))
  · simp [setF_if, argE, upd_if, movedM, cells]
  rintro d E H n' ⟨i, hi, hn3, h1, h2, h13, h14, h15, e, h7, hH⟩
  refine AG ?_
  by_cases c : (i : Int) < l.length
  · refine IFT ?_
    have hr := cells_at (l := l) (i := i) (by omega)
    have hw2 : IntKind.i64.wrap ((i : Int) + 1) = (i : Int) + 1 := wr64 (by omega) (by omega)
    have hne : ∀ k, ¬ (3 = n' + k) := fun k => by omega
    have hne0 : ¬ (3 = n') := by omega
    have hq1 : ¬ (3 = n' + 14 + 1) := by omega
    have hq2 : ¬ (3 = n' + 2 + 1) := by omega
    have hq3 : ¬ (3 = n' + 15) := by omega
    have hq4 : ¬ (3 = n' + 3) := by omega
    have hrl : (cells (movedM (l.take i) a b)).length = i := by simp [cells, movedM]; omega
    have hb : (i + 1) * 16 ≤ 140737488355328 := by omega
    have htk : cells (movedM (l.take i) a b) ++ [[.i .i64 (IntKind.i64.wrap ((l.getD i (0, 0)).1 + a)), .i .i64 (IntKind.i64.wrap ((l.getD i (0, 0)).2 + b))]] = cells (movedM (l.take (i + 1)) a b) := by
      rw [List.take_succ_eq_append_getElem (by omega)]; simp only [cells, movedM, List.map_append, List.map_cons, List.map_nil, List.getD_eq_getElem?_getD, List.getElem?_eq_getElem (show i < l.length by omega), Option.getD_some]
    refine .skip ?_
    refine AG ?_
    refine .block ?_
    refine AG ?_
    (try simp only [tN, tR, tE, rN, rR, rE, xN, xR, xE, reduceIte])
    refine AG ?_
    (try simp only [tN, tR, tE, rN, rR, rE, xN, xR, xE, reduceIte])
    refine ⟨l.length - (i + 1), by omega, i + 1, by omega, ?_⟩
    simp [setF_if, upd_if, *]
  · refine IFF ?_
    refine .exit ?_
    (try simp only [tN, tR, tE, rN, rR, rE, xN, xR, xE, reduceIte])
    refine AG ?_
    refine .ret ?_
    refine DN ?_
    have e : i = l.length := by omega
    subst e
    simp [retA, backA, newSl, newB, hH, List.take_length]
end Go.Proofs
end
section
open Go Go.Big
namespace Go.Proofs
set_option maxHeartbeats 2000000
def zerosM (l : List Int) : Bool := (List.range l.length).all fun i => l.getD i 0 == 0
theorem l02One_fn (G : Gv) (l : List Int) (hl : l.length < 1000000000) : Gives Tryz.prog G 210 [.sl 0 (ints l)] (.b (zerosM l)) := by
  refine .of (.body Tryz.func210 rfl (by simp [Tryz.ntmps210]) ?_)
  rw [Tryz.ntmps210, Tryz.results210]
  have hlen := ints_len l
  refine AG ?_
  refine .block (.loop (.inv (fun d E H n' => ∃ i : Nat, i + d = l.length ∧ E 0 = .sl 0 (ints l) ∧ E 3 = .i .i64 i ∧ (∀ j, j < i → (l.getD j 0 == 0) = true)) l.length ?_ ?_))
  · simp [setF_if, argE]
  rintro d E H n' ⟨i, hi, h0, h3, hall⟩
  refine AG ?_
  by_cases c : (i : Int) < l.length
  · refine IFT ?_
    have hr : (ints l)[i]? = some [.i .i64 (l.getD i 0)] := ints_at (by omega)
    have hw2 : IntKind.i64.wrap ((i : Int) + 1) = (i : Int) + 1 := wr64 (by omega) (by omega)
    have hno : (l.getD i 0 == 0) = false → zerosM l = false := fun h => all_no (by omega) h
    have more : (l.getD i 0 == 0) = true → ∀ j, j < i + 1 → (l.getD j 0 == 0) = true := fun h j hj => by
      by_cases e : j = i
      · rw [e]; exact h
      · exact hall j (by omega)
    generalize l.getD i 0 = x at hr hno more
    refine .skip ?_
    refine AG ?_
    refine .block ?_
    refine AG ?_
    by_cases c1 : (x != 0) = true
    · refine IFT ?_
      refine AG ?_
      refine .ret ?_
      (try simp only [tN, tR, tE, rN, rR, rE, xN, xR, xE, reduceIte])
      refine DN ?_
      have := hno (by simpa using c1)
      simp [retA, backA, this]
    · refine IFF ?_
      refine .skip ?_
      (try simp only [tN, tR, tE, rN, rR, rE, xN, xR, xE, reduceIte])
      refine AG ?_
      (try simp only [tN, tR, tE, rN, rR, rE, xN, xR, xE, reduceIte])
      refine ⟨l.length - (i + 1), by omega, i + 1, by omega, ?_⟩
      have := more (by simpa using c1)
      simp [setF_if, *]
      simpa using this
  · refine IFF ?_
    refine .exit ?_
    (try simp only [tN, tR, tE, rN, rR, rE, xN, xR, xE, reduceIte])
    refine AG ?_
    refine .ret ?_
    refine DN ?_
    have : zerosM l = true := all_yes (fun j hj => hall j (by omega))
    simp [retA, backA, this]
end Go.Proofs
end
section
open Go Go.Big
namespace Go.Proofs
set_option maxHeartbeats 2000000
def pickM (l : List (Int × Int)) (s : List Int) : List (Int × Int) := s.map fun k => l.getD k.toNat (0, 0)
theorem l10Cells_fn (G : Gv) (l : List (Int × Int)) (s : List Int) (hl : l.length < 1000000000) (hs : s.length < 1000000000) (hk : ∀ k ∈ s, 0 ≤ k ∧ k < l.length) : Gives Tryz.prog G 298 [.sl 0 (cells l), .sl 0 (ints s)] (.sl 1 (cells (pickM l s))) := by
  refine .of (.body Tryz.func298 rfl (by simp [Tryz.ntmps298]) ?_)
  rw [Tryz.ntmps298, Tryz.results298]
  have hlen := ints_len s
  refine AG ?_
  refine .block (.loop (.inv (fun d E H n' => ∃ i : Nat, i + d = s.length ∧ 1 < n' ∧ E 0 = .sl 0 (cells l) ∧ E 1 = .sl 0 (ints s) ∧ E 6 = .i .i64 i ∧ ∃ e, E 5 = .own 1 e ∧ H 1 = some (.arr e 142 2 (cells (pickM l (s.take i))) 1)) s.length ?_ ?_))
  · simp [setF_if, argE, upd_if, pickM, cells]
  rintro d E H n' ⟨i, hi, hn1, h0, h1, h6, e, h5, hH⟩
  refine AG ?_
  by_cases c : (i : Int) < s.length
  · refine IFT ?_
    have hr := ints_at (l := s) (i := i) (by omega)
    have hmem : s.getD i 0 ∈ s := by rw [List.getD_eq_getElem?_getD, List.getElem?_eq_getElem (by omega)]; exact List.getElem_mem _
    obtain ⟨k1, k2⟩ := hk _ hmem
    have hc := cells_at (l := l) (i := (s.getD i 0).toNat) (by omega)
    have hw2 : IntKind.i64.wrap ((i : Int) + 1) = (i : Int) + 1 := wr64 (by omega) (by omega)
    have hrl : (cells (pickM l (s.take i))).length = i := by simp [cells, pickM]; omega
    have hb : (i + 1) * 16 ≤ 140737488355328 := by omega
    have htk : cells (pickM l (s.take i)) ++ [[.i .i64 (l.getD (s.getD i 0).toNat (0, 0)).1, .i .i64 (l.getD (s.getD i 0).toNat (0, 0)).2]] = cells (pickM l (s.take (i + 1))) := by
      rw [List.take_succ_eq_append_getElem (by omega)]; simp only [cells, pickM, List.map_append, List.map_cons, List.map_nil, List.getD_eq_getElem?_getD (l := s), List.getElem?_eq_getElem (show i < s.length by omega), Option.getD_some]
    refine .skip ?_
    refine AG ?_
    refine .block ?_
    generalize s.getD i 0 = k at hr k1 k2 hc htk
    generalize l.getD k.toNat (0, 0) = p at hc htk
    have hq1 : ¬ (1 = n' + 12 + 1) := by omega
    have hq2 : ¬ (1 = n' + 13) := by omega
    have hq3 : ¬ (1 = n' + 11 + 1) := by omega
    have hq4 : ¬ (1 = n' + 12) := by omega
    refine AG ?_
    (try simp only [tN, tR, tE, rN, rR, rE, xN, xR, xE, reduceIte])
    refine AG ?_
    (try simp only [tN, tR, tE, rN, rR, rE, xN, xR, xE, reduceIte])
    refine ⟨s.length - (i + 1), by omega, i + 1, by omega, ?_⟩
    simp [setF_if, upd_if, *]
  · refine IFF ?_
    refine .exit ?_
    (try simp only [tN, tR, tE, rN, rR, rE, xN, xR, xE, reduceIte])
    refine AG ?_
    refine .ret ?_
    refine DN ?_
    have e : i = s.length := by omega
    subst e
    simp [retA, backA, newSl, newB, hH, List.take_length]
theorem setToCells_fn (G : Gv) (l : List (Int × Int)) (s : List Int) (hl : l.length < 1000000000) (hs : s.length < 1000000000) (hk : ∀ k ∈ s, 0 ≤ k ∧ k < l.length) : Gives Tryz.prog G 274 [.sl 0 (cells l), .sl 0 (ints s)] (.sl 1 (cells (pickM l s))) := by
  refine .of (.body Tryz.func274 rfl (by simp [Tryz.ntmps274]) ?_)
  rw [Tryz.ntmps274, Tryz.results274]
  have hlen := ints_len s
  refine AG ?_
  refine .block (.loop (.inv (fun d E H n' => ∃ i : Nat, i + d = s.length ∧ 1 < n' ∧ E 0 = .sl 0 (cells l) ∧ E 1 = .sl 0 (ints s) ∧ E 9 = .sl 0 (ints s) ∧ E 10 = .i .i64 s.length ∧ E 11 = .i .i64 i ∧ ∃ e, E 5 = .own 1 e ∧ H 1 = some (.arr e 142 2 (cells (pickM l (s.take i))) 1)) s.length ?_ ?_))
  · simp [setF_if, argE, upd_if, pickM, cells]
  rintro d E H n' ⟨i, hi, hn1, h0, h1, h9, h10, h11, e, h5, hH⟩
  refine AG ?_
  by_cases c : (i : Int) < s.length
  · refine IFT ?_
    have hr := ints_at (l := s) (i := i) (by omega)
    have hmem : s.getD i 0 ∈ s := by rw [List.getD_eq_getElem?_getD, List.getElem?_eq_getElem (by omega)]; exact List.getElem_mem _
    obtain ⟨k1, k2⟩ := hk _ hmem
    have hc := cells_at (l := l) (i := (s.getD i 0).toNat) (by omega)
    have hw2 : IntKind.i64.wrap ((i : Int) + 1) = (i : Int) + 1 := wr64 (by omega) (by omega)
    have hrl : (cells (pickM l (s.take i))).length = i := by simp [cells, pickM]; omega
    have hb : (i + 1) * 16 ≤ 140737488355328 := by omega
    have htk : cells (pickM l (s.take i)) ++ [[.i .i64 (l.getD (s.getD i 0).toNat (0, 0)).1, .i .i64 (l.getD (s.getD i 0).toNat (0, 0)).2]] = cells (pickM l (s.take (i + 1))) := by
      rw [List.take_succ_eq_append_getElem (by omega)]; simp only [cells, pickM, List.map_append, List.map_cons, List.map_nil, List.getD_eq_getElem?_getD (l := s), List.getElem?_eq_getElem (show i < s.length by omega), Option.getD_some]
    refine .skip ?_
    refine AG ?_
    refine .block ?_
    generalize s.getD i 0 = k at hr k1 k2 hc htk
    generalize l.getD k.toNat (0, 0) = p at hc htk
    have hq1 : ¬ (1 = n' + 13) := by omega
    have hq2 : ¬ (1 = n' + 13) := by omega
    have hq3 : ¬ (1 = n' + 8 + 1) := by omega
    have hq4 : ¬ (1 = n' + 12) := by omega
    refine AG ?_
    (try simp only [tN, tR, tE, rN, rR, rE, xN, xR, xE, reduceIte])
    refine AG ?_
    (try simp only [tN, tR, tE, rN, rR, rE, xN, xR, xE, reduceIte])
    refine ⟨s.length - (i + 1), by omega, i + 1, by omega, ?_⟩
    simp [setF_if, upd_if, *]
  · refine IFF ?_
    refine .exit ?_
    (try simp only [tN, tR, tE, rN, rR, rE, xN, xR, xE, reduceIte])
    refine AG ?_
    refine .ret ?_
    refine DN ?_
    have e : i = s.length := by omega
    subst e
    simp [retA, backA, newSl, newB, hH, List.take_length]
end Go.Proofs
end
section
open Go Go.Big
namespace Go.Proofs
set_option maxHeartbeats 2000000
def shapeAt (l : List (Int × Int)) (i : Nat) : Bool := (inC (l.getD i (0, 0)).1 && inC (l.getD i (0, 0)).2) && !(decide ((i : Int) > 0) && !lessC (l.getD (i - 1) (0, 0)).1 (l.getD (i - 1) (0, 0)).2 (l.getD i (0, 0)).1 (l.getD i (0, 0)).2)
def shapeM (l : List (Int × Int)) : Bool := (List.range l.length).all (shapeAt l) && (decide ((l.length : Int) ≥ 1) && decide ((l.length : Int) ≤ 40))
theorem specIsShape_fn (G : Gv) (l : List (Int × Int)) (hl : l.length < 1000000000) : Gives Tryz.prog G 180 [.sl 0 (cells l)] (.b (shapeM l)) := by
  refine .of (.body Tryz.func180 rfl (by simp [Tryz.ntmps180]) ?_)
  rw [Tryz.ntmps180, Tryz.results180]
  have hlen := cells_len l
  refine AG ?_
  refine .block (.loop (.inv (fun d E H n' => ∃ i : Nat, i + d = l.length ∧ E 0 = .sl 0 (cells l) ∧ E 3 = .i .i64 i ∧ (∀ j, j < i → shapeAt l j = true)) l.length ?_ ?_))
  · simp [setF_if, argE]
  rintro d E H n' ⟨i, hi, h0, h3, hall⟩
  refine AG ?_
  by_cases c : (i : Int) < l.length
  · refine IFT ?_
    have hr := cells_at (l := l) (i := i) (by omega)
    have hw2 : IntKind.i64.wrap ((i : Int) + 1) = (i : Int) + 1 := wr64 (by omega) (by omega)
    have hat : shapeAt l i = shapeAt l i := rfl
    conv at hat => rhs; unfold shapeAt
    have hno : shapeAt l i = false → shapeM l = false := fun h => by unfold shapeM; rw [all_no (by omega) h]; rfl
    have more : shapeAt l i = true → ∀ j, j < i + 1 → shapeAt l j = true := fun h j hj => by
      by_cases e : j = i
      · rw [e]; exact h
      · exact hall j (by omega)
    generalize l.getD i (0, 0) = p at hr hat
    refine .skip ?_
    refine AG ?_
    refine .block ?_
    refine AQ ?_
    refine CQ (l02Cell_fn G _ _) ?_
    refine AQ ?_
    by_cases c1 : (inC p.1 && inC p.2) = true
    · refine AQ ?_
      by_cases c3 : (i : Int) > 0
      · have hr2 : (cells l)[((i : Int) - 1).toNat]? = some [.i .i64 (l.getD (i - 1) (0, 0)).1, .i .i64 (l.getD (i - 1) (0, 0)).2] := by rw [show ((i : Int) - 1).toNat = i - 1 by omega]; exact cells_at (by omega)
        have hw : IntKind.i64.wrap ((i : Int) - 1) = (i : Int) - 1 := wr64 (by omega) (by omega)
        have h01 : 0 ≤ (i : Int) - 1 := by omega
        generalize l.getD (i - 1) (0, 0) = q at hr2 hat
        refine AQ ?_
        refine CQ (l02Less_fn G _ _ _ _) ?_
        refine AQ ?_
        by_cases c4 : lessC q.1 q.2 p.1 p.2 = true
        · refine IFF ?_
          refine .skip ?_
          (try simp only [tN, tR, tE, rN, rR, rE, xN, xR, xE, reduceIte])
          refine AG ?_
          (try simp only [tN, tR, tE, rN, rR, rE, xN, xR, xE, reduceIte])
          refine ⟨l.length - (i + 1), by omega, i + 1, by omega, ?_⟩
          have := more (by simp only [hat, c1, c3, c4, decide_true, decide_false, Bool.not_true, Bool.not_false, Bool.and_true, Bool.true_and, Bool.and_false, Bool.false_and, Bool.and_self])
          simp [setF_if, *]
          exact this
        · refine IFT ?_
          refine AG ?_
          refine .ret ?_
          (try simp only [tN, tR, tE, rN, rR, rE, xN, xR, xE, reduceIte])
          refine DN ?_
          simp only [Bool.not_eq_true] at c4
          have := hno (by simp only [hat, c1, c3, c4, decide_true, decide_false, Bool.not_true, Bool.not_false, Bool.and_true, Bool.true_and, Bool.and_false, Bool.false_and, Bool.and_self])
          simp [retA, backA, this]
      · refine AQ ?_
        refine IFF ?_
        refine .skip ?_
        (try simp only [tN, tR, tE, rN, rR, rE, xN, xR, xE, reduceIte])
        refine AG ?_
        (try simp only [tN, tR, tE, rN, rR, rE, xN, xR, xE, reduceIte])
        refine ⟨l.length - (i + 1), by omega, i + 1, by omega, ?_⟩
        have := more (by simp only [hat, c1, c3, decide_true, decide_false, Bool.not_true, Bool.not_false, Bool.and_true, Bool.true_and, Bool.and_false, Bool.false_and, Bool.and_self])
        simp [setF_if, *]
        exact this
    · refine AQ ?_
      refine IFT ?_
      refine AG ?_
      refine .ret ?_
      (try simp only [tN, tR, tE, rN, rR, rE, xN, xR, xE, reduceIte])
      refine DN ?_
      simp only [Bool.not_eq_true] at c1
      have := hno (by simp only [hat, c1, decide_true, decide_false, Bool.not_true, Bool.not_false, Bool.and_true, Bool.true_and, Bool.and_false, Bool.false_and, Bool.and_self])
      simp [retA, backA, this]
  · refine IFF ?_
    refine .exit ?_
    (try simp only [tN, tR, tE, rN, rR, rE, xN, xR, xE, reduceIte])
    refine AG ?_
    refine CV (l01In_fn G _ _ _) ?_
    refine AG ?_
    refine .ret ?_
    refine DN ?_
    have : (List.range l.length).all (shapeAt l) = true := all_yes (fun j hj => hall j (by omega))
    simp only [retA, backA, shapeM, this, Bool.true_and]
end Go.Proofs
end
section
open Go Go.Big
namespace Go.Proofs
set_option maxHeartbeats 2000000
theorem cmpC_less (a b c d : Int) : decide (cmpC a b c d ≥ 0) = !lessC a b c d := by
  unfold cmpC lessC cmpI
  by_cases h1 : b < d <;> by_cases h2 : b > d <;> by_cases h3 : a < c <;> by_cases h4 : a > c <;> simp [h1, h2, h3, h4] <;> omega
theorem implIsShape_fn (G : Gv) (l : List (Int × Int)) (hl : l.length < 1000000000) : Gives Tryz.prog G 185 [.sl 0 (cells l)] (.b (shapeM l)) := by
  refine .of (.body Tryz.func185 rfl (by simp [Tryz.ntmps185]) ?_)
  rw [Tryz.ntmps185, Tryz.results185]
  have hlen := cells_len l
  refine AG ?_
  refine .block (.loop (.inv (fun d E H n' => ∃ i : Nat, i + d = l.length ∧ E 0 = .sl 0 (cells l) ∧ E 5 = .sl 0 (cells l) ∧ E 6 = .i .i64 l.length ∧ E 7 = .i .i64 i ∧ (∀ j, j < i → shapeAt l j = true)) l.length ?_ ?_))
  · simp [setF_if, argE]
  rintro d E H n' ⟨i, hi, h0, h5, h6, h7, hall⟩
  refine AG ?_
  by_cases c : (i : Int) < l.length
  · refine IFT ?_
    have hr := cells_at (l := l) (i := i) (by omega)
    have hw2 : IntKind.i64.wrap ((i : Int) + 1) = (i : Int) + 1 := wr64 (by omega) (by omega)
    have hat : shapeAt l i = shapeAt l i := rfl
    conv at hat => rhs; unfold shapeAt
    have hno : shapeAt l i = false → shapeM l = false := fun h => by unfold shapeM; rw [all_no (by omega) h]; rfl
    have more : shapeAt l i = true → ∀ j, j < i + 1 → shapeAt l j = true := fun h j hj => by
      by_cases e : j = i
      · rw [e]; exact h
      · exact hall j (by omega)
    generalize l.getD i (0, 0) = p at hr hat
    refine .skip ?_
    refine AG ?_
    refine .block ?_
    refine AG ?_
    refine AQ ?_
    refine CQ (isCoordinate_fn G _) ?_
    refine AQ ?_
    by_cases c1 : (inC p.1 && inC p.2) = true
    · obtain ⟨ca, cb⟩ : inC p.1 = true ∧ inC p.2 = true := by simpa using c1
      refine AQ ?_
      refine CQ (isCoordinate_fn G _) ?_
      refine AQ ?_
      by_cases c3 : (i : Int) > 0
      · have hr2 : (cells l)[((i : Int) - 1).toNat]? = some [.i .i64 (l.getD (i - 1) (0, 0)).1, .i .i64 (l.getD (i - 1) (0, 0)).2] := by rw [show ((i : Int) - 1).toNat = i - 1 by omega]; exact cells_at (by omega)
        have hw : IntKind.i64.wrap ((i : Int) - 1) = (i : Int) - 1 := wr64 (by omega) (by omega)
        have h01 : 0 ≤ (i : Int) - 1 := by omega
        generalize l.getD (i - 1) (0, 0) = q at hr2 hat
        refine AQ ?_
        refine CQ (compareCells_fn G _ _ _ _) ?_
        refine AQ ?_
        have hcmp := cmpC_less q.1 q.2 p.1 p.2
        by_cases c4 : lessC q.1 q.2 p.1 p.2 = true
        · rw [c4] at hcmp
          refine IFF ?_
          refine .skip ?_
          (try simp only [tN, tR, tE, rN, rR, rE, xN, xR, xE, reduceIte])
          refine AG ?_
          (try simp only [tN, tR, tE, rN, rR, rE, xN, xR, xE, reduceIte])
          refine ⟨l.length - (i + 1), by omega, i + 1, by omega, ?_⟩
          have := more (by simp only [hat, c1, c3, c4, decide_true, decide_false, Bool.not_true, Bool.not_false, Bool.and_true, Bool.true_and, Bool.and_false, Bool.false_and, Bool.and_self])
          simp [setF_if, *]
          exact this
        · simp only [Bool.not_eq_true] at c4
          rw [c4] at hcmp
          refine IFT ?_
          refine AG ?_
          refine .ret ?_
          (try simp only [tN, tR, tE, rN, rR, rE, xN, xR, xE, reduceIte])
          refine DN ?_
          have := hno (by simp only [hat, c1, c3, c4, decide_true, decide_false, Bool.not_true, Bool.not_false, Bool.and_true, Bool.true_and, Bool.and_false, Bool.false_and, Bool.and_self])
          simp [retA, backA, this]
      · refine AQ ?_
        refine IFF ?_
        refine .skip ?_
        (try simp only [tN, tR, tE, rN, rR, rE, xN, xR, xE, reduceIte])
        refine AG ?_
        (try simp only [tN, tR, tE, rN, rR, rE, xN, xR, xE, reduceIte])
        refine ⟨l.length - (i + 1), by omega, i + 1, by omega, ?_⟩
        have := more (by simp only [hat, c1, c3, decide_true, decide_false, Bool.not_true, Bool.not_false, Bool.and_true, Bool.true_and, Bool.and_false, Bool.false_and, Bool.and_self])
        simp [setF_if, *]
        exact this
    · simp only [Bool.not_eq_true] at c1
      have := hno (by simp only [hat, c1, decide_true, decide_false, Bool.not_true, Bool.not_false, Bool.and_true, Bool.true_and, Bool.and_false, Bool.false_and, Bool.and_self])
      by_cases ca : inC p.1 = true
      · have cb : inC p.2 = false := by rw [ca] at c1; simpa using c1
        refine AQ ?_
        refine CQ (isCoordinate_fn G _) ?_
        refine AQ ?_
        refine IFT ?_
        refine AG ?_
        refine .ret ?_
        (try simp only [tN, tR, tE, rN, rR, rE, xN, xR, xE, reduceIte])
        refine DN ?_
        simp [retA, backA, this]
      · refine AQ ?_
        refine IFT ?_
        refine AG ?_
        refine .ret ?_
        (try simp only [tN, tR, tE, rN, rR, rE, xN, xR, xE, reduceIte])
        refine DN ?_
        simp [retA, backA, this]
  · refine IFF ?_
    refine .exit ?_
    (try simp only [tN, tR, tE, rN, rR, rE, xN, xR, xE, reduceIte])
    refine AG ?_
    have : (List.range l.length).all (shapeAt l) = true := all_yes (fun j hj => hall j (by omega))
    by_cases cl : (l.length : Int) ≥ 1
    all_goals
      refine AG ?_
      refine .ret ?_
      refine DN ?_
      simp only [retA, backA, shapeM, this, cl, decide_true, decide_false, Bool.not_true, Bool.not_false, Bool.and_true, Bool.true_and, Bool.and_false, Bool.false_and, Bool.and_self]
end Go.Proofs
end
section
open Go Go.Big
namespace Go.Proofs
set_option maxHeartbeats 2000000
def minI (a b : Int) : Int := if b < a then b else a
def minF (l : List (Int × Int)) (i : Nat) : Int × Int := (l.take i).foldl (fun q p => (minI q.1 p.1, minI q.2 p.2)) (l.getD 0 (0, 0))
theorem minF_succ {l : List (Int × Int)} {i : Nat} (h : i < l.length) : minF l (i + 1) = (minI (minF l i).1 (l.getD i (0, 0)).1, minI (minF l i).2 (l.getD i (0, 0)).2) := by
  unfold minF
  rw [List.take_succ_eq_append_getElem h, List.foldl_append]
  simp only [List.foldl_cons, List.foldl_nil, List.getD_eq_getElem?_getD, List.getElem?_eq_getElem h, Option.getD_some]
theorem minF_one {l : List (Int × Int)} (h : 0 < l.length) : minF l 1 = l.getD 0 (0, 0) := by
  rw [minF_succ h]; simp [minF, minI]
theorem l02Least_fn (G : Gv) (l : List (Int × Int)) (h1 : 0 < l.length) (hl : l.length < 1000000000) : Gives Tryz.prog G 181 [.sl 0 (cells l)] (.tup [.i .i64 (minF l l.length).1, .i .i64 (minF l l.length).2]) := by
  refine .of (.body Tryz.func181 rfl (by simp [Tryz.ntmps181]) ?_)
  rw [Tryz.ntmps181, Tryz.results181]
  have hlen := cells_len l
  have hr0 := cells_at (l := l) (i := 0) h1
  have z : ((0 : Int).toNat) = 0 := rfl
  refine AG ?_
  refine AQ ?_
  refine .block (.loop (.inv (fun d E H n' => ∃ i : Nat, i + d = l.length ∧ E 0 = .sl 0 (cells l) ∧ E 4 = .i .i64 (minF l i).1 ∧ E 5 = .i .i64 (minF l i).2 ∧ E 6 = .i .i64 i) (l.length - 1) ?_ ?_))
  · exact ⟨1, by omega, by simp [setF_if, argE], by simp [setF_if, argE, minF_one h1], by simp [setF_if, argE, minF_one h1], by simp [setF_if, argE]⟩
  rintro d E H n' ⟨i, hi, h0, h4, h5, h6⟩
  refine AG ?_
  by_cases c : (i : Int) < l.length
  · refine IFT ?_
    have hr := cells_at (l := l) (i := i) (by omega)
    have hw2 : IntKind.i64.wrap ((i : Int) + 1) = (i : Int) + 1 := wr64 (by omega) (by omega)
    have hs := minF_succ (l := l) (i := i) (by omega)
    refine .skip ?_
    refine AG ?_
    refine .block ?_
    refine AG ?_
    (try simp only [tN, tR, tE, rN, rR, rE, xN, xR, xE, reduceIte])
    refine ⟨l.length - (i + 1), by omega, i + 1, by omega, ?_⟩
    simp [setF_if, *, minI]
  · refine IFF ?_
    refine .exit ?_
    (try simp only [tN, tR, tE, rN, rR, rE, xN, xR, xE, reduceIte])
    refine AG ?_
    refine .ret ?_
    refine DN ?_
    have e : i = l.length := by omega
    subst e
    simp [retA, backA, backsA]
end Go.Proofs
end
section
open Go Go.Big
namespace Go.Proofs
set_option maxHeartbeats 2000000
def cellAt (l : List (Int × Int)) (c : Int × Int) (i : Nat) : Bool := (l.getD i (0, 0)).1 == c.1 && (l.getD i (0, 0)).2 == c.2
/-- The first place of a cell, or -1. -/
def idxM (l : List (Int × Int)) (c : Int × Int) : Int := match (List.range l.length).find? (cellAt l c) with
  | some i => i
  | none => -1
theorem find_yes {p : Nat → Bool} {n i : Nat} (hi : i < n) (h : p i = true) (hall : ∀ j, j < i → p j = false) : (List.range n).find? p = some i := by
  rw [List.find?_range_eq_some]
  exact ⟨h, by simp [hi], fun j hj => by simp [hall j hj]⟩
theorem find_no {p : Nat → Bool} {n : Nat} (hall : ∀ j, j < n → p j = false) : (List.range n).find? p = none := by
  rw [List.find?_range_eq_none]; intro i hi; simp [hall i hi]
theorem l02Index_fn (G : Gv) (l : List (Int × Int)) (x y : Int) (hl : l.length < 1000000000) : Gives Tryz.prog G 173 [.sl 0 (cells l), cellA x y] (.i .i64 (idxM l (x, y))) := by
  refine .of (.body Tryz.func173 rfl (by simp [Tryz.ntmps173]) ?_)
  rw [Tryz.ntmps173, Tryz.results173]
  have hlen := cells_len l
  refine AL ?_
  refine .loop (.inv (fun d E H n' => ∃ i : Nat, i + d = l.length ∧ E 0 = .sl 0 (cells l) ∧ E 3 = .ptr 0 0 0 0 ∧ E 5 = .i .i64 i ∧ H 0 = some (.box 142 [.i .i64 x, .i .i64 y]) ∧ (∀ j, j < i → cellAt l (x, y) j = false)) l.length ?_ ?_)
  · simp [setF_if, argE, upd_if]
  rintro d E H n' ⟨i, hi, h0, h3, h5, hH, hall⟩
  by_cases c : (i : Int) < l.length
  · have hr := cells_at (l := l) (i := i) (by omega)
    have hw_i : IntKind.i64.wrap ((i : Int) + 1) = (i : Int) + 1 := wr64 (by omega) (by omega)
    have hat : cellAt l (x, y) i = cellAt l (x, y) i := rfl
    conv at hat => rhs; unfold cellAt
    generalize l.getD i (0, 0) = p at hr hat
    by_cases c1 : (p.1 == x && p.2 == y) = true
    · refine AL ?_
      have : idxM l (x, y) = i := by
        unfold idxM; rw [find_yes (i := i) (by omega) (hat.trans c1) hall]
      simp [retA, backA, this]
    · refine AL ?_
      refine ⟨l.length - (i + 1), by omega, i + 1, by omega, ?_⟩
      simp [setF_if, *]
      intro j hj
      by_cases e : j = i
      · rw [e, hat]; simpa using c1
      · exact hall j (by omega)
  · refine AL ?_
    have : idxM l (x, y) = -1 := by
      unfold idxM; rw [find_no (fun j hj => hall j (by omega))]
    simp [retA, backA, this]
end Go.Proofs
end
