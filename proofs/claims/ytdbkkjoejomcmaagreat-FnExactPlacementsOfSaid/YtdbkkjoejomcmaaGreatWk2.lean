/- Walks: Cells picked by their numbers. No condition. | What is a shape. No condition. | What is a shape, the program's. No condition. | The least corner of cells. No condition. | Where a cell stands; the greatest corner, sizes. No condition. | Corners and sizes of cells. No condition. | The reference's moves, normal forms, turns. No condition. -/
import Derived.Test.YtdbkkjoejomcmaaGreatBO
import Derived.Test.YtdbkkjoejomcmaaGreatWk1
set_option linter.unusedVariables false
set_option linter.unusedSimpArgs false
section
open Go Go.Big
namespace Go.Proofs
set_option maxHeartbeats 2000000
def pickM (l : List (Int × Int)) (s : List Int) : List (Int × Int) := s.map fun k => l.getD k.toNat (0, 0)
theorem l10Cells_fn (G : Gv) (l : List (Int × Int)) (s : List Int) (hl : l.length < 1000000000) (hs : s.length < 1000000000) (hk : ∀ k ∈ s, 0 ≤ k ∧ k < l.length) : Gives Tryz.prog G 190 [.sl 0 (cells l), .sl 0 (ints s)] (.sl 1 (cells (pickM l s))) := by
  refine .of (.body Tryz.func190 rfl (by simp [Tryz.ntmps190]) ?_)
  rw [Tryz.ntmps190, Tryz.results190]
  have hlen := ints_len s
  repeat first | refine OP ?_ | refine SK ?_ | refine OPN ?_ | refine TH ?_ | refine WR.nil ?_ | refine W.seq ?_ | refine W.region ?_ | refine DR ?_
  refine .block (.loop (.inv (fun d E H n' => ∃ i : Nat, i + d = s.length ∧ 1 < n' ∧ E 0 = .sl 0 (cells l) ∧ E 1 = .sl 0 (ints s) ∧ E 6 = .i .i64 i ∧ ∃ e, E 5 = .own 1 e ∧ H 1 = some (.arr e 117 2 (cells (pickM l (s.take i))) 1)) s.length ?_ ?_))
  · simp [setF_if, argE, upd_if, pickM, cells]
  rintro d E H n' ⟨i, hi, hn1, h0, h1, h6, e, h5, hH⟩
  repeat first | refine OP ?_ | refine SK ?_ | refine OPN ?_ | refine TH ?_ | refine WR.nil ?_ | refine W.seq ?_ | refine W.region ?_ | refine DR ?_
  by_cases c : (i : Int) < s.length
  · refine IFT ?_
    have hr := ints_at (l := s) (i := i) (by omega)
    have hmem : s.getD i 0 ∈ s := by rw [List.getD_eq_getElem?_getD, List.getElem?_eq_getElem (by omega)]; exact List.getElem_mem _
    obtain ⟨k1, k2⟩ := hk _ hmem
    have hc := cells_at (l := l) (i := (s.getD i 0).toNat) (by omega)
    have hw2 : IntKind.i64.wrap ((i : Int) + 1) = (i : Int) + 1 := wr64 (by omega) (by omega)
    have hrl : (cells (pickM l (s.take i))).length = i := by simp [cells, pickM]; omega
    have hb : (i + 1) * 16 ≤ 140737488355328 := by omega
    have htk : cells (pickM l (s.take i)) ++ [[.i .i64 (l.getD (s.getD i 0).toNat (0, 0)).1, .i .i64 (l.getD (s.getD i 0).toNat (0, 0)).2]] = cells (pickM l (s.take (i + 1))) := by
      rw [List.take_succ_eq_append_getElem (by omega)]; simp only [cells, pickM, List.map_append, List.map_cons, List.map_nil, List.getD_eq_getElem?_getD (l := s), List.getElem?_eq_getElem (show i < s.length by omega), Option.getD_some]
    refine .skip ?_
    repeat first | refine OP ?_ | refine SK ?_ | refine OPN ?_ | refine TH ?_ | refine WR.nil ?_ | refine W.seq ?_ | refine W.region ?_ | refine DR ?_
    refine .block ?_
    generalize s.getD i 0 = k at hr k1 k2 hc htk
    generalize l.getD k.toNat (0, 0) = p at hc htk
    have hq1 : ¬ (1 = n' + 12 + 1) := by omega
    have hq2 : ¬ (1 = n' + 13) := by omega
    have hq3 : ¬ (1 = n' + 11 + 1) := by omega
    have hq4 : ¬ (1 = n' + 12) := by omega
    repeat first | refine OP ?_ | refine SK ?_ | refine OPN ?_ | refine TH ?_ | refine WR.nil ?_ | refine W.seq ?_ | refine W.region ?_ | refine DR ?_
    (try simp only [tN, tR, tE, rN, rR, rE, xN, xR, xE, reduceIte])
    repeat first | refine OP ?_ | refine SK ?_ | refine OPN ?_ | refine TH ?_ | refine WR.nil ?_ | refine W.seq ?_ | refine W.region ?_ | refine DR ?_
    (try simp only [tN, tR, tE, rN, rR, rE, xN, xR, xE, reduceIte])
    refine ⟨s.length - (i + 1), by omega, i + 1, by omega, ?_⟩
    simp [setF_if, upd_if, *]
  · refine IFF ?_
    refine .exit ?_
    (try simp only [tN, tR, tE, rN, rR, rE, xN, xR, xE, reduceIte])
    repeat first | refine OP ?_ | refine SK ?_ | refine OPN ?_ | refine TH ?_ | refine WR.nil ?_ | refine W.seq ?_ | refine W.region ?_ | refine DR ?_
    refine .ret ?_
    refine DN ?_
    have e : i = s.length := by omega
    subst e
    simp [retA, backA, newSl, newB, hH, List.take_length]
theorem setToCells_fn (G : Gv) (l : List (Int × Int)) (s : List Int) (hl : l.length < 1000000000) (hs : s.length < 1000000000) (hk : ∀ k ∈ s, 0 ≤ k ∧ k < l.length) : Gives Tryz.prog G 147 [.sl 0 (cells l), .sl 0 (ints s)] (.sl 1 (cells (pickM l s))) := by
  refine .of (.body Tryz.func147 rfl (by simp [Tryz.ntmps147]) ?_)
  rw [Tryz.ntmps147, Tryz.results147]
  have hlen := ints_len s
  repeat first | refine OP ?_ | refine SK ?_ | refine OPN ?_ | refine TH ?_ | refine WR.nil ?_ | refine W.seq ?_ | refine W.region ?_ | refine DR ?_
  refine .block (.loop (.inv (fun d E H n' => ∃ i : Nat, i + d = s.length ∧ 1 < n' ∧ E 0 = .sl 0 (cells l) ∧ E 1 = .sl 0 (ints s) ∧ E 9 = .sl 0 (ints s) ∧ E 10 = .i .i64 s.length ∧ E 11 = .i .i64 i ∧ ∃ e, E 5 = .own 1 e ∧ H 1 = some (.arr e 117 2 (cells (pickM l (s.take i))) 1)) s.length ?_ ?_))
  · simp [setF_if, argE, upd_if, pickM, cells]
  rintro d E H n' ⟨i, hi, hn1, h0, h1, h9, h10, h11, e, h5, hH⟩
  repeat first | refine OP ?_ | refine SK ?_ | refine OPN ?_ | refine TH ?_ | refine WR.nil ?_ | refine W.seq ?_ | refine W.region ?_ | refine DR ?_
  by_cases c : (i : Int) < s.length
  · refine IFT ?_
    have hr := ints_at (l := s) (i := i) (by omega)
    have hmem : s.getD i 0 ∈ s := by rw [List.getD_eq_getElem?_getD, List.getElem?_eq_getElem (by omega)]; exact List.getElem_mem _
    obtain ⟨k1, k2⟩ := hk _ hmem
    have hc := cells_at (l := l) (i := (s.getD i 0).toNat) (by omega)
    have hw2 : IntKind.i64.wrap ((i : Int) + 1) = (i : Int) + 1 := wr64 (by omega) (by omega)
    have hrl : (cells (pickM l (s.take i))).length = i := by simp [cells, pickM]; omega
    have hb : (i + 1) * 16 ≤ 140737488355328 := by omega
    have htk : cells (pickM l (s.take i)) ++ [[.i .i64 (l.getD (s.getD i 0).toNat (0, 0)).1, .i .i64 (l.getD (s.getD i 0).toNat (0, 0)).2]] = cells (pickM l (s.take (i + 1))) := by
      rw [List.take_succ_eq_append_getElem (by omega)]; simp only [cells, pickM, List.map_append, List.map_cons, List.map_nil, List.getD_eq_getElem?_getD (l := s), List.getElem?_eq_getElem (show i < s.length by omega), Option.getD_some]
    refine .skip ?_
    repeat first | refine OP ?_ | refine SK ?_ | refine OPN ?_ | refine TH ?_ | refine WR.nil ?_ | refine W.seq ?_ | refine W.region ?_ | refine DR ?_
    refine .block ?_
    generalize s.getD i 0 = k at hr k1 k2 hc htk
    generalize l.getD k.toNat (0, 0) = p at hc htk
    have hq1 : ¬ (1 = n' + 13) := by omega
    have hq2 : ¬ (1 = n' + 13) := by omega
    have hq3 : ¬ (1 = n' + 8 + 1) := by omega
    have hq4 : ¬ (1 = n' + 12) := by omega
    repeat first | refine OP ?_ | refine SK ?_ | refine OPN ?_ | refine TH ?_ | refine WR.nil ?_ | refine W.seq ?_ | refine W.region ?_ | refine DR ?_
    (try simp only [tN, tR, tE, rN, rR, rE, xN, xR, xE, reduceIte])
    repeat first | refine OP ?_ | refine SK ?_ | refine OPN ?_ | refine TH ?_ | refine WR.nil ?_ | refine W.seq ?_ | refine W.region ?_ | refine DR ?_
    (try simp only [tN, tR, tE, rN, rR, rE, xN, xR, xE, reduceIte])
    refine ⟨s.length - (i + 1), by omega, i + 1, by omega, ?_⟩
    simp [setF_if, upd_if, *]
  · refine IFF ?_
    refine .exit ?_
    (try simp only [tN, tR, tE, rN, rR, rE, xN, xR, xE, reduceIte])
    repeat first | refine OP ?_ | refine SK ?_ | refine OPN ?_ | refine TH ?_ | refine WR.nil ?_ | refine W.seq ?_ | refine W.region ?_ | refine DR ?_
    refine .ret ?_
    refine DN ?_
    have e : i = s.length := by omega
    subst e
    simp [retA, backA, newSl, newB, hH, List.take_length]
end Go.Proofs
end
section
open Go Go.Big
namespace Go.Proofs
set_option maxHeartbeats 2000000
def shapeAt (l : List (Int × Int)) (i : Nat) : Bool := (inC (l.getD i (0, 0)).1 && inC (l.getD i (0, 0)).2) && !(decide ((i : Int) > 0) && !lessC (l.getD (i - 1) (0, 0)).1 (l.getD (i - 1) (0, 0)).2 (l.getD i (0, 0)).1 (l.getD i (0, 0)).2)
def shapeM (l : List (Int × Int)) : Bool := (List.range l.length).all (shapeAt l) && (decide ((l.length : Int) ≥ 1) && decide ((l.length : Int) ≤ 40))
theorem specIsShape_fn (G : Gv) (l : List (Int × Int)) (hl : l.length < 1000000000) : Gives Tryz.prog G 171 [.sl 0 (cells l)] (.b (shapeM l)) := by
  refine .of (.body Tryz.func171 rfl (by simp [Tryz.ntmps171]) ?_)
  rw [Tryz.ntmps171, Tryz.results171]
  have hlen := cells_len l
  repeat first | refine OP ?_ | refine SK ?_ | refine OPN ?_ | refine TH ?_ | refine WR.nil ?_ | refine W.seq ?_ | refine W.region ?_ | refine DR ?_
  refine .block (.loop (.inv (fun d E H n' => ∃ i : Nat, i + d = l.length ∧ E 0 = .sl 0 (cells l) ∧ E 3 = .i .i64 i ∧ (∀ j, j < i → shapeAt l j = true)) l.length ?_ ?_))
  · simp [setF_if, argE]
  rintro d E H n' ⟨i, hi, h0, h3, hall⟩
  repeat first | refine OP ?_ | refine SK ?_ | refine OPN ?_ | refine TH ?_ | refine WR.nil ?_ | refine W.seq ?_ | refine W.region ?_ | refine DR ?_
  by_cases c : (i : Int) < l.length
  · refine IFT ?_
    have hr := cells_at (l := l) (i := i) (by omega)
    have hw2 : IntKind.i64.wrap ((i : Int) + 1) = (i : Int) + 1 := wr64 (by omega) (by omega)
    have hat : shapeAt l i = shapeAt l i := rfl
    conv at hat => rhs; unfold shapeAt
    have hno : shapeAt l i = false → shapeM l = false := fun h => by unfold shapeM; rw [all_no (by omega) h]; rfl
    have more : shapeAt l i = true → ∀ j, j < i + 1 → shapeAt l j = true := fun h j hj => by
      by_cases e : j = i
      · rw [e]; exact h
      · exact hall j (by omega)
    generalize l.getD i (0, 0) = p at hr hat
    refine .skip ?_
    repeat first | refine OP ?_ | refine SK ?_ | refine OPN ?_ | refine TH ?_ | refine WR.nil ?_ | refine W.seq ?_ | refine W.region ?_ | refine DR ?_
    refine .block ?_
    repeat first | refine OQ ?_ | refine SQ ?_ | refine TH ?_ | refine WQ.nil ?_ | refine W.seq ?_ | refine W.region ?_ | refine DR ?_ | refine OP ?_ | refine SK ?_ | refine WR.nil ?_
    refine CQ (l02Cell_fn G _ _) ?_
    repeat first | refine OQ ?_ | refine SQ ?_ | refine TH ?_ | refine WQ.nil ?_ | refine W.seq ?_ | refine W.region ?_ | refine DR ?_ | refine OP ?_ | refine SK ?_ | refine WR.nil ?_
    by_cases c1 : (inC p.1 && inC p.2) = true
    · repeat first | refine OQ ?_ | refine SQ ?_ | refine TH ?_ | refine WQ.nil ?_ | refine W.seq ?_ | refine W.region ?_ | refine DR ?_ | refine OP ?_ | refine SK ?_ | refine WR.nil ?_
      by_cases c3 : (i : Int) > 0
      · have hr2 : (cells l)[((i : Int) - 1).toNat]? = some [.i .i64 (l.getD (i - 1) (0, 0)).1, .i .i64 (l.getD (i - 1) (0, 0)).2] := by rw [show ((i : Int) - 1).toNat = i - 1 by omega]; exact cells_at (by omega)
        have hw : IntKind.i64.wrap ((i : Int) - 1) = (i : Int) - 1 := wr64 (by omega) (by omega)
        have h01 : 0 ≤ (i : Int) - 1 := by omega
        generalize l.getD (i - 1) (0, 0) = q at hr2 hat
        repeat first | refine OQ ?_ | refine SQ ?_ | refine TH ?_ | refine WQ.nil ?_ | refine W.seq ?_ | refine W.region ?_ | refine DR ?_ | refine OP ?_ | refine SK ?_ | refine WR.nil ?_
        refine CQ (l02Less_fn G _ _ _ _) ?_
        repeat first | refine OQ ?_ | refine SQ ?_ | refine TH ?_ | refine WQ.nil ?_ | refine W.seq ?_ | refine W.region ?_ | refine DR ?_ | refine OP ?_ | refine SK ?_ | refine WR.nil ?_
        by_cases c4 : lessC q.1 q.2 p.1 p.2 = true
        · refine IFF ?_
          refine .skip ?_
          (try simp only [tN, tR, tE, rN, rR, rE, xN, xR, xE, reduceIte])
          repeat first | refine OP ?_ | refine SK ?_ | refine OPN ?_ | refine TH ?_ | refine WR.nil ?_ | refine W.seq ?_ | refine W.region ?_ | refine DR ?_
          (try simp only [tN, tR, tE, rN, rR, rE, xN, xR, xE, reduceIte])
          refine ⟨l.length - (i + 1), by omega, i + 1, by omega, ?_⟩
          have := more (by simp only [hat, c1, c3, c4, decide_true, decide_false, Bool.not_true, Bool.not_false, Bool.and_true, Bool.true_and, Bool.and_false, Bool.false_and, Bool.and_self])
          simp [setF_if, *]
          exact this
        · refine IFT ?_
          repeat first | refine OP ?_ | refine SK ?_ | refine OPN ?_ | refine TH ?_ | refine WR.nil ?_ | refine W.seq ?_ | refine W.region ?_ | refine DR ?_
          refine .ret ?_
          (try simp only [tN, tR, tE, rN, rR, rE, xN, xR, xE, reduceIte])
          refine DN ?_
          simp only [Bool.not_eq_true] at c4
          have := hno (by simp only [hat, c1, c3, c4, decide_true, decide_false, Bool.not_true, Bool.not_false, Bool.and_true, Bool.true_and, Bool.and_false, Bool.false_and, Bool.and_self])
          simp [retA, backA, this]
      · repeat first | refine OQ ?_ | refine SQ ?_ | refine TH ?_ | refine WQ.nil ?_ | refine W.seq ?_ | refine W.region ?_ | refine DR ?_ | refine OP ?_ | refine SK ?_ | refine WR.nil ?_
        refine IFF ?_
        refine .skip ?_
        (try simp only [tN, tR, tE, rN, rR, rE, xN, xR, xE, reduceIte])
        repeat first | refine OP ?_ | refine SK ?_ | refine OPN ?_ | refine TH ?_ | refine WR.nil ?_ | refine W.seq ?_ | refine W.region ?_ | refine DR ?_
        (try simp only [tN, tR, tE, rN, rR, rE, xN, xR, xE, reduceIte])
        refine ⟨l.length - (i + 1), by omega, i + 1, by omega, ?_⟩
        have := more (by simp only [hat, c1, c3, decide_true, decide_false, Bool.not_true, Bool.not_false, Bool.and_true, Bool.true_and, Bool.and_false, Bool.false_and, Bool.and_self])
        simp [setF_if, *]
        exact this
    · repeat first | refine OQ ?_ | refine SQ ?_ | refine TH ?_ | refine WQ.nil ?_ | refine W.seq ?_ | refine W.region ?_ | refine DR ?_ | refine OP ?_ | refine SK ?_ | refine WR.nil ?_
      refine IFT ?_
      repeat first | refine OP ?_ | refine SK ?_ | refine OPN ?_ | refine TH ?_ | refine WR.nil ?_ | refine W.seq ?_ | refine W.region ?_ | refine DR ?_
      refine .ret ?_
      (try simp only [tN, tR, tE, rN, rR, rE, xN, xR, xE, reduceIte])
      refine DN ?_
      simp only [Bool.not_eq_true] at c1
      have := hno (by simp only [hat, c1, decide_true, decide_false, Bool.not_true, Bool.not_false, Bool.and_true, Bool.true_and, Bool.and_false, Bool.false_and, Bool.and_self])
      simp [retA, backA, this]
  · refine IFF ?_
    refine .exit ?_
    (try simp only [tN, tR, tE, rN, rR, rE, xN, xR, xE, reduceIte])
    repeat first | refine OP ?_ | refine SK ?_ | refine OPN ?_ | refine TH ?_ | refine WR.nil ?_ | refine W.seq ?_ | refine W.region ?_ | refine DR ?_
    refine CV (l01In_fn G _ _ _) ?_
    repeat first | refine OP ?_ | refine SK ?_ | refine OPN ?_ | refine TH ?_ | refine WR.nil ?_ | refine W.seq ?_ | refine W.region ?_ | refine DR ?_
    refine .ret ?_
    refine DN ?_
    have : (List.range l.length).all (shapeAt l) = true := all_yes (fun j hj => hall j (by omega))
    simp only [retA, backA, shapeM, this, Bool.true_and]
end Go.Proofs
end
section
open Go Go.Big
namespace Go.Proofs
set_option maxHeartbeats 2000000
theorem cmpC_less (a b c d : Int) : decide (cmpC a b c d ≥ 0) = !lessC a b c d := by
  unfold cmpC lessC cmpI
  by_cases h1 : b < d <;> by_cases h2 : b > d <;> by_cases h3 : a < c <;> by_cases h4 : a > c <;> simp [h1, h2, h3, h4] <;> omega
theorem implIsShape_fn (G : Gv) (l : List (Int × Int)) (hl : l.length < 1000000000) : Gives Tryz.prog G 176 [.sl 0 (cells l)] (.b (shapeM l)) := by
  refine .of (.body Tryz.func176 rfl (by simp [Tryz.ntmps176]) ?_)
  rw [Tryz.ntmps176, Tryz.results176]
  have hlen := cells_len l
  repeat first | refine OP ?_ | refine SK ?_ | refine OPN ?_ | refine TH ?_ | refine WR.nil ?_ | refine W.seq ?_ | refine W.region ?_ | refine DR ?_
  refine .block (.loop (.inv (fun d E H n' => ∃ i : Nat, i + d = l.length ∧ E 0 = .sl 0 (cells l) ∧ E 5 = .sl 0 (cells l) ∧ E 6 = .i .i64 l.length ∧ E 7 = .i .i64 i ∧ (∀ j, j < i → shapeAt l j = true)) l.length ?_ ?_))
  · simp [setF_if, argE]
  rintro d E H n' ⟨i, hi, h0, h5, h6, h7, hall⟩
  repeat first | refine OP ?_ | refine SK ?_ | refine OPN ?_ | refine TH ?_ | refine WR.nil ?_ | refine W.seq ?_ | refine W.region ?_ | refine DR ?_
  by_cases c : (i : Int) < l.length
  · refine IFT ?_
    have hr := cells_at (l := l) (i := i) (by omega)
    have hw2 : IntKind.i64.wrap ((i : Int) + 1) = (i : Int) + 1 := wr64 (by omega) (by omega)
    have hat : shapeAt l i = shapeAt l i := rfl
    conv at hat => rhs; unfold shapeAt
    have hno : shapeAt l i = false → shapeM l = false := fun h => by unfold shapeM; rw [all_no (by omega) h]; rfl
    have more : shapeAt l i = true → ∀ j, j < i + 1 → shapeAt l j = true := fun h j hj => by
      by_cases e : j = i
      · rw [e]; exact h
      · exact hall j (by omega)
    generalize l.getD i (0, 0) = p at hr hat
    refine .skip ?_
    repeat first | refine OP ?_ | refine SK ?_ | refine OPN ?_ | refine TH ?_ | refine WR.nil ?_ | refine W.seq ?_ | refine W.region ?_ | refine DR ?_
    refine .block ?_
    repeat first | refine OP ?_ | refine SK ?_ | refine OPN ?_ | refine TH ?_ | refine WR.nil ?_ | refine W.seq ?_ | refine W.region ?_ | refine DR ?_
    repeat first | refine OQ ?_ | refine SQ ?_ | refine TH ?_ | refine WQ.nil ?_ | refine W.seq ?_ | refine W.region ?_ | refine DR ?_ | refine OP ?_ | refine SK ?_ | refine WR.nil ?_
    refine CQ (isCoordinate_fn G _) ?_
    repeat first | refine OQ ?_ | refine SQ ?_ | refine TH ?_ | refine WQ.nil ?_ | refine W.seq ?_ | refine W.region ?_ | refine DR ?_ | refine OP ?_ | refine SK ?_ | refine WR.nil ?_
    by_cases c1 : (inC p.1 && inC p.2) = true
    · obtain ⟨ca, cb⟩ : inC p.1 = true ∧ inC p.2 = true := by simpa using c1
      repeat first | refine OQ ?_ | refine SQ ?_ | refine TH ?_ | refine WQ.nil ?_ | refine W.seq ?_ | refine W.region ?_ | refine DR ?_ | refine OP ?_ | refine SK ?_ | refine WR.nil ?_
      refine CQ (isCoordinate_fn G _) ?_
      repeat first | refine OQ ?_ | refine SQ ?_ | refine TH ?_ | refine WQ.nil ?_ | refine W.seq ?_ | refine W.region ?_ | refine DR ?_ | refine OP ?_ | refine SK ?_ | refine WR.nil ?_
      by_cases c3 : (i : Int) > 0
      · have hr2 : (cells l)[((i : Int) - 1).toNat]? = some [.i .i64 (l.getD (i - 1) (0, 0)).1, .i .i64 (l.getD (i - 1) (0, 0)).2] := by rw [show ((i : Int) - 1).toNat = i - 1 by omega]; exact cells_at (by omega)
        have hw : IntKind.i64.wrap ((i : Int) - 1) = (i : Int) - 1 := wr64 (by omega) (by omega)
        have h01 : 0 ≤ (i : Int) - 1 := by omega
        generalize l.getD (i - 1) (0, 0) = q at hr2 hat
        repeat first | refine OQ ?_ | refine SQ ?_ | refine TH ?_ | refine WQ.nil ?_ | refine W.seq ?_ | refine W.region ?_ | refine DR ?_ | refine OP ?_ | refine SK ?_ | refine WR.nil ?_
        refine CQ (compareCells_fn G _ _ _ _) ?_
        repeat first | refine OQ ?_ | refine SQ ?_ | refine TH ?_ | refine WQ.nil ?_ | refine W.seq ?_ | refine W.region ?_ | refine DR ?_ | refine OP ?_ | refine SK ?_ | refine WR.nil ?_
        have hcmp := cmpC_less q.1 q.2 p.1 p.2
        by_cases c4 : lessC q.1 q.2 p.1 p.2 = true
        · rw [c4] at hcmp
          refine IFF ?_
          refine .skip ?_
          (try simp only [tN, tR, tE, rN, rR, rE, xN, xR, xE, reduceIte])
          repeat first | refine OP ?_ | refine SK ?_ | refine OPN ?_ | refine TH ?_ | refine WR.nil ?_ | refine W.seq ?_ | refine W.region ?_ | refine DR ?_
          (try simp only [tN, tR, tE, rN, rR, rE, xN, xR, xE, reduceIte])
          refine ⟨l.length - (i + 1), by omega, i + 1, by omega, ?_⟩
          have := more (by simp only [hat, c1, c3, c4, decide_true, decide_false, Bool.not_true, Bool.not_false, Bool.and_true, Bool.true_and, Bool.and_false, Bool.false_and, Bool.and_self])
          simp [setF_if, *]
          exact this
        · simp only [Bool.not_eq_true] at c4
          rw [c4] at hcmp
          refine IFT ?_
          repeat first | refine OP ?_ | refine SK ?_ | refine OPN ?_ | refine TH ?_ | refine WR.nil ?_ | refine W.seq ?_ | refine W.region ?_ | refine DR ?_
          refine .ret ?_
          (try simp only [tN, tR, tE, rN, rR, rE, xN, xR, xE, reduceIte])
          refine DN ?_
          have := hno (by simp only [hat, c1, c3, c4, decide_true, decide_false, Bool.not_true, Bool.not_false, Bool.and_true, Bool.true_and, Bool.and_false, Bool.false_and, Bool.and_self])
          simp [retA, backA, this]
      · repeat first | refine OQ ?_ | refine SQ ?_ | refine TH ?_ | refine WQ.nil ?_ | refine W.seq ?_ | refine W.region ?_ | refine DR ?_ | refine OP ?_ | refine SK ?_ | refine WR.nil ?_
        refine IFF ?_
        refine .skip ?_
        (try simp only [tN, tR, tE, rN, rR, rE, xN, xR, xE, reduceIte])
        repeat first | refine OP ?_ | refine SK ?_ | refine OPN ?_ | refine TH ?_ | refine WR.nil ?_ | refine W.seq ?_ | refine W.region ?_ | refine DR ?_
        (try simp only [tN, tR, tE, rN, rR, rE, xN, xR, xE, reduceIte])
        refine ⟨l.length - (i + 1), by omega, i + 1, by omega, ?_⟩
        have := more (by simp only [hat, c1, c3, decide_true, decide_false, Bool.not_true, Bool.not_false, Bool.and_true, Bool.true_and, Bool.and_false, Bool.false_and, Bool.and_self])
        simp [setF_if, *]
        exact this
    · simp only [Bool.not_eq_true] at c1
      have := hno (by simp only [hat, c1, decide_true, decide_false, Bool.not_true, Bool.not_false, Bool.and_true, Bool.true_and, Bool.and_false, Bool.false_and, Bool.and_self])
      by_cases ca : inC p.1 = true
      · have cb : inC p.2 = false := by rw [ca] at c1; simpa using c1
        repeat first | refine OQ ?_ | refine SQ ?_ | refine TH ?_ | refine WQ.nil ?_ | refine W.seq ?_ | refine W.region ?_ | refine DR ?_ | refine OP ?_ | refine SK ?_ | refine WR.nil ?_
        refine CQ (isCoordinate_fn G _) ?_
        repeat first | refine OQ ?_ | refine SQ ?_ | refine TH ?_ | refine WQ.nil ?_ | refine W.seq ?_ | refine W.region ?_ | refine DR ?_ | refine OP ?_ | refine SK ?_ | refine WR.nil ?_
        refine IFT ?_
        repeat first | refine OP ?_ | refine SK ?_ | refine OPN ?_ | refine TH ?_ | refine WR.nil ?_ | refine W.seq ?_ | refine W.region ?_ | refine DR ?_
        refine .ret ?_
        (try simp only [tN, tR, tE, rN, rR, rE, xN, xR, xE, reduceIte])
        refine DN ?_
        simp [retA, backA, this]
      · repeat first | refine OQ ?_ | refine SQ ?_ | refine TH ?_ | refine WQ.nil ?_ | refine W.seq ?_ | refine W.region ?_ | refine DR ?_ | refine OP ?_ | refine SK ?_ | refine WR.nil ?_
        refine IFT ?_
        repeat first | refine OP ?_ | refine SK ?_ | refine OPN ?_ | refine TH ?_ | refine WR.nil ?_ | refine W.seq ?_ | refine W.region ?_ | refine DR ?_
        refine .ret ?_
        (try simp only [tN, tR, tE, rN, rR, rE, xN, xR, xE, reduceIte])
        refine DN ?_
        simp [retA, backA, this]
  · refine IFF ?_
    refine .exit ?_
    (try simp only [tN, tR, tE, rN, rR, rE, xN, xR, xE, reduceIte])
    repeat first | refine OP ?_ | refine SK ?_ | refine OPN ?_ | refine TH ?_ | refine WR.nil ?_ | refine W.seq ?_ | refine W.region ?_ | refine DR ?_
    have : (List.range l.length).all (shapeAt l) = true := all_yes (fun j hj => hall j (by omega))
    by_cases cl : (l.length : Int) ≥ 1
    all_goals
      repeat first | refine OP ?_ | refine SK ?_ | refine OPN ?_ | refine TH ?_ | refine WR.nil ?_ | refine W.seq ?_ | refine W.region ?_ | refine DR ?_
      refine .ret ?_
      refine DN ?_
      simp only [retA, backA, shapeM, this, cl, decide_true, decide_false, Bool.not_true, Bool.not_false, Bool.and_true, Bool.true_and, Bool.and_false, Bool.false_and, Bool.and_self]
end Go.Proofs
end
section
open Go Go.Big
namespace Go.Proofs
set_option maxHeartbeats 2000000
def minI (a b : Int) : Int := if b < a then b else a
def minF (l : List (Int × Int)) (i : Nat) : Int × Int := (l.take i).foldl (fun q p => (minI q.1 p.1, minI q.2 p.2)) (l.getD 0 (0, 0))
theorem minF_succ {l : List (Int × Int)} {i : Nat} (h : i < l.length) : minF l (i + 1) = (minI (minF l i).1 (l.getD i (0, 0)).1, minI (minF l i).2 (l.getD i (0, 0)).2) := by
  unfold minF
  rw [List.take_succ_eq_append_getElem h, List.foldl_append]
  simp only [List.foldl_cons, List.foldl_nil, List.getD_eq_getElem?_getD, List.getElem?_eq_getElem h, Option.getD_some]
theorem minF_one {l : List (Int × Int)} (h : 0 < l.length) : minF l 1 = l.getD 0 (0, 0) := by
  rw [minF_succ h]; simp [minF, minI]
theorem l02Least_fn (G : Gv) (l : List (Int × Int)) (h1 : 0 < l.length) (hl : l.length < 1000000000) : Gives Tryz.prog G 172 [.sl 0 (cells l)] (.tup [.i .i64 (minF l l.length).1, .i .i64 (minF l l.length).2]) := by
  refine .of (.body Tryz.func172 rfl (by simp [Tryz.ntmps172]) ?_)
  rw [Tryz.ntmps172, Tryz.results172]
  have hlen := cells_len l
  have hr0 := cells_at (l := l) (i := 0) h1
  have z : ((0 : Int).toNat) = 0 := rfl
  repeat first | refine OP ?_ | refine SK ?_ | refine OPN ?_ | refine TH ?_ | refine WR.nil ?_ | refine W.seq ?_ | refine W.region ?_ | refine DR ?_
  repeat first | refine OQ ?_ | refine SQ ?_ | refine TH ?_ | refine WQ.nil ?_ | refine W.seq ?_ | refine W.region ?_ | refine DR ?_ | refine OP ?_ | refine SK ?_ | refine WR.nil ?_
  refine .block (.loop (.inv (fun d E H n' => ∃ i : Nat, i + d = l.length ∧ E 0 = .sl 0 (cells l) ∧ E 4 = .i .i64 (minF l i).1 ∧ E 5 = .i .i64 (minF l i).2 ∧ E 6 = .i .i64 i) (l.length - 1) ?_ ?_))
  · exact ⟨1, by omega, by simp [setF_if, argE], by simp [setF_if, argE, minF_one h1], by simp [setF_if, argE, minF_one h1], by simp [setF_if, argE]⟩
  rintro d E H n' ⟨i, hi, h0, h4, h5, h6⟩
  repeat first | refine OP ?_ | refine SK ?_ | refine OPN ?_ | refine TH ?_ | refine WR.nil ?_ | refine W.seq ?_ | refine W.region ?_ | refine DR ?_
  by_cases c : (i : Int) < l.length
  · refine IFT ?_
    have hr := cells_at (l := l) (i := i) (by omega)
    have hw2 : IntKind.i64.wrap ((i : Int) + 1) = (i : Int) + 1 := wr64 (by omega) (by omega)
    have hs := minF_succ (l := l) (i := i) (by omega)
    refine .skip ?_
    repeat first | refine OP ?_ | refine SK ?_ | refine OPN ?_ | refine TH ?_ | refine WR.nil ?_ | refine W.seq ?_ | refine W.region ?_ | refine DR ?_
    refine .block ?_
    repeat first | refine OP ?_ | refine SK ?_ | refine OPN ?_ | refine TH ?_ | refine WR.nil ?_ | refine W.seq ?_ | refine W.region ?_ | refine DR ?_
    (try simp only [tN, tR, tE, rN, rR, rE, xN, xR, xE, reduceIte])
    refine ⟨l.length - (i + 1), by omega, i + 1, by omega, ?_⟩
    simp [setF_if, *, minI]
  · refine IFF ?_
    refine .exit ?_
    (try simp only [tN, tR, tE, rN, rR, rE, xN, xR, xE, reduceIte])
    repeat first | refine OP ?_ | refine SK ?_ | refine OPN ?_ | refine TH ?_ | refine WR.nil ?_ | refine W.seq ?_ | refine W.region ?_ | refine DR ?_
    refine .ret ?_
    refine DN ?_
    have e : i = l.length := by omega
    subst e
    simp [retA, backA, backsA]
end Go.Proofs
end
section
open Go Go.Big
namespace Go.Proofs
set_option maxHeartbeats 2000000
def cellAt (l : List (Int × Int)) (c : Int × Int) (i : Nat) : Bool := (l.getD i (0, 0)).1 == c.1 && (l.getD i (0, 0)).2 == c.2
/-- The first place of a cell, or -1. -/
def idxM (l : List (Int × Int)) (c : Int × Int) : Int := match (List.range l.length).find? (cellAt l c) with
  | some i => i
  | none => -1
theorem find_yes {p : Nat → Bool} {n i : Nat} (hi : i < n) (h : p i = true) (hall : ∀ j, j < i → p j = false) : (List.range n).find? p = some i := by
  rw [List.find?_range_eq_some]
  exact ⟨h, by simp [hi], fun j hj => by simp [hall j hj]⟩
theorem find_no {p : Nat → Bool} {n : Nat} (hall : ∀ j, j < n → p j = false) : (List.range n).find? p = none := by
  rw [List.find?_range_eq_none]; intro i hi; simp [hall i hi]
theorem l02Index_fn (G : Gv) (l : List (Int × Int)) (x y : Int) (hl : l.length < 1000000000) : Gives Tryz.prog G 175 [.sl 0 (cells l), cellA x y] (.i .i64 (idxM l (x, y))) := by
  refine .of (.body Tryz.func175 rfl (by simp [Tryz.ntmps175]) ?_)
  rw [Tryz.ntmps175, Tryz.results175]
  have hlen := cells_len l
  repeat first | refine OP ?_ | refine SK ?_ | refine OPN ?_ | refine OM ?_ | refine SM ?_ | refine OMN ?_ | refine WM.nil ?_ | refine OQ ?_ | refine SQ ?_ | refine TH ?_ | refine WR.nil ?_ | refine WQ.nil ?_ | refine W.seq ?_ | refine W.region ?_ | refine DR ?_ | refine IFT ?_ | refine IFF ?_ | refine W.skip ?_ | refine W.block ?_ | refine W.exit ?_ | refine W.ret ?_ | (simp only [tN, tR, tE, rN, rR, rE, xN, xR, xE, reduceIte]) | refine DN ?_
  refine .loop (.inv (fun d E H n' => ∃ i : Nat, i + d = l.length ∧ E 0 = .sl 0 (cells l) ∧ E 3 = .ptr 0 0 0 0 ∧ E 5 = .i .i64 i ∧ H 0 = some (.box 117 [.i .i64 x, .i .i64 y]) ∧ (∀ j, j < i → cellAt l (x, y) j = false)) l.length ?_ ?_)
  · simp [setF_if, argE, upd_if]
  rintro d E H n' ⟨i, hi, h0, h3, h5, hH, hall⟩
  by_cases c : (i : Int) < l.length
  · have hr := cells_at (l := l) (i := i) (by omega)
    have hw_i : IntKind.i64.wrap ((i : Int) + 1) = (i : Int) + 1 := wr64 (by omega) (by omega)
    have hat : cellAt l (x, y) i = cellAt l (x, y) i := rfl
    conv at hat => rhs; unfold cellAt
    generalize l.getD i (0, 0) = p at hr hat
    by_cases c1 : (p.1 == x && p.2 == y) = true
    · repeat first | refine OP ?_ | refine SK ?_ | refine OPN ?_ | refine OM ?_ | refine SM ?_ | refine OMN ?_ | refine WM.nil ?_ | refine OQ ?_ | refine SQ ?_ | refine TH ?_ | refine WR.nil ?_ | refine WQ.nil ?_ | refine W.seq ?_ | refine W.region ?_ | refine DR ?_ | refine IFT ?_ | refine IFF ?_ | refine W.skip ?_ | refine W.block ?_ | refine W.exit ?_ | refine W.ret ?_ | (simp only [tN, tR, tE, rN, rR, rE, xN, xR, xE, reduceIte]) | refine DN ?_
      have : idxM l (x, y) = i := by
        unfold idxM; rw [find_yes (i := i) (by omega) (hat.trans c1) hall]
      simp [retA, backA, this]
    · repeat first | refine OP ?_ | refine SK ?_ | refine OPN ?_ | refine OM ?_ | refine SM ?_ | refine OMN ?_ | refine WM.nil ?_ | refine OQ ?_ | refine SQ ?_ | refine TH ?_ | refine WR.nil ?_ | refine WQ.nil ?_ | refine W.seq ?_ | refine W.region ?_ | refine DR ?_ | refine IFT ?_ | refine IFF ?_ | refine W.skip ?_ | refine W.block ?_ | refine W.exit ?_ | refine W.ret ?_ | (simp only [tN, tR, tE, rN, rR, rE, xN, xR, xE, reduceIte]) | refine DN ?_
      refine ⟨l.length - (i + 1), by omega, i + 1, by omega, ?_⟩
      simp [setF_if, *]
      intro j hj
      by_cases e : j = i
      · rw [e, hat]; simpa using c1
      · exact hall j (by omega)
  · repeat first | refine OP ?_ | refine SK ?_ | refine OPN ?_ | refine OM ?_ | refine SM ?_ | refine OMN ?_ | refine WM.nil ?_ | refine OQ ?_ | refine SQ ?_ | refine TH ?_ | refine WR.nil ?_ | refine WQ.nil ?_ | refine W.seq ?_ | refine W.region ?_ | refine DR ?_ | refine IFT ?_ | refine IFF ?_ | refine W.skip ?_ | refine W.block ?_ | refine W.exit ?_ | refine W.ret ?_ | (simp only [tN, tR, tE, rN, rR, rE, xN, xR, xE, reduceIte]) | refine DN ?_
    have : idxM l (x, y) = -1 := by
      unfold idxM; rw [find_no (fun j hj => hall j (by omega))]
    simp [retA, backA, this]
end Go.Proofs
end
section
open Go Go.Big
namespace Go.Proofs
set_option maxHeartbeats 2000000

theorem corner_fn (G : Gv) (l : List (Int × Int)) (h1 : 0 < l.length) (hl : l.length < 1000000000) : Gives Tryz.prog G 177 [.sl 0 (cells l)] (cellA (minF l l.length).1 (minF l l.length).2) := by
  refine .of (.body Tryz.func177 rfl (by simp [Tryz.ntmps177]) ?_)
  rw [Tryz.ntmps177, Tryz.results177]
  have hlen := cells_len l
  have hr0 := cells_at (l := l) (i := 0) h1
  have z : ((0 : Int).toNat) = 0 := rfl
  repeat first | refine OP ?_ | refine SK ?_ | refine OPN ?_ | refine OM ?_ | refine SM ?_ | refine OMN ?_ | refine WM.nil ?_ | refine OQ ?_ | refine SQ ?_ | refine TH ?_ | refine WR.nil ?_ | refine WQ.nil ?_ | refine W.seq ?_ | refine W.region ?_ | refine DR ?_ | refine IFT ?_ | refine IFF ?_ | refine W.skip ?_ | refine W.block ?_ | refine W.exit ?_ | refine W.ret ?_ | (simp only [tN, tR, tE, rN, rR, rE, xN, xR, xE, reduceIte]) | refine DN ?_
  refine .loop (.inv (fun d E H n' => ∃ i : Nat, i + d = l.length ∧ 4 < n' ∧ E 2 = .ptr 0 0 0 0 ∧ E 3 = .ptr 4 0 0 0 ∧ E 9 = .sl 0 (cells l) ∧ E 10 = .i .i64 l.length ∧ E 11 = .i .i64 i ∧ H 0 = some (.box 117 [.i .i64 0, .i .i64 0]) ∧ H 4 = some (.box 117 [.i .i64 (minF l i).1, .i .i64 (minF l i).2])) l.length ?_ ?_)
  · simp [setF_if, argE, upd_if, minF]
  rintro d E H n' ⟨i, hi, hn4, h2, h3, h9, h10, h11, hH0, hH4⟩
  have hn0 : 0 < n' := by omega
  by_cases c : (i : Int) < l.length
  · have hr := cells_at (l := l) (i := i) (by omega)
    have hw_i : IntKind.i64.wrap ((i : Int) + 1) = (i : Int) + 1 := wr64 (by omega) (by omega)
    have hs := minF_succ (l := l) (i := i) (by omega)
    repeat first | refine OP ?_ | refine SK ?_ | refine OPN ?_ | refine OM ?_ | refine SM ?_ | refine OMN ?_ | refine WM.nil ?_ | refine OQ ?_ | refine SQ ?_ | refine TH ?_ | refine WR.nil ?_ | refine WQ.nil ?_ | refine W.seq ?_ | refine W.region ?_ | refine DR ?_ | refine IFT ?_ | refine IFF ?_ | refine W.skip ?_ | refine W.block ?_ | refine W.exit ?_ | refine W.ret ?_ | (simp only [tN, tR, tE, rN, rR, rE, xN, xR, xE, reduceIte]) | refine DN ?_
    refine ⟨l.length - (i + 1), by omega, i + 1, by omega, ?_⟩
    simp [setF_if, upd_if, *, minI]
  · have e : i = l.length := by omega
    subst e
    repeat first | refine OP ?_ | refine SK ?_ | refine OPN ?_ | refine OM ?_ | refine SM ?_ | refine OMN ?_ | refine WM.nil ?_ | refine OQ ?_ | refine SQ ?_ | refine TH ?_ | refine WR.nil ?_ | refine WQ.nil ?_ | refine W.seq ?_ | refine W.region ?_ | refine DR ?_ | refine IFT ?_ | refine IFF ?_ | refine W.skip ?_ | refine W.block ?_ | refine W.exit ?_ | refine W.ret ?_ | (simp only [tN, tR, tE, rN, rR, rE, xN, xR, xE, reduceIte]) | refine DN ?_
    simp [retA, backA, backsA]
def maxI (a b : Int) : Int := if a < b then b else a
def maxF (l : List (Int × Int)) (i : Nat) : Int × Int := (l.take i).foldl (fun q p => (maxI q.1 p.1, maxI q.2 p.2)) (l.getD 0 (0, 0))
theorem maxF_succ {l : List (Int × Int)} {i : Nat} (h : i < l.length) : maxF l (i + 1) = (maxI (maxF l i).1 (l.getD i (0, 0)).1, maxI (maxF l i).2 (l.getD i (0, 0)).2) := by
  unfold maxF
  rw [List.take_succ_eq_append_getElem h, List.foldl_append]
  simp only [List.foldl_cons, List.foldl_nil, List.getD_eq_getElem?_getD, List.getElem?_eq_getElem h, Option.getD_some]
theorem reach_fn (G : Gv) (l : List (Int × Int)) (h1 : 0 < l.length) (hl : l.length < 1000000000) : Gives Tryz.prog G 178 [.sl 0 (cells l)] (cellA (maxF l l.length).1 (maxF l l.length).2) := by
  refine .of (.body Tryz.func178 rfl (by simp [Tryz.ntmps178]) ?_)
  rw [Tryz.ntmps178, Tryz.results178]
  have hlen := cells_len l
  have hr0 := cells_at (l := l) (i := 0) h1
  have z : ((0 : Int).toNat) = 0 := rfl
  repeat first | refine OP ?_ | refine SK ?_ | refine OPN ?_ | refine OM ?_ | refine SM ?_ | refine OMN ?_ | refine WM.nil ?_ | refine OQ ?_ | refine SQ ?_ | refine TH ?_ | refine WR.nil ?_ | refine WQ.nil ?_ | refine W.seq ?_ | refine W.region ?_ | refine DR ?_ | refine IFT ?_ | refine IFF ?_ | refine W.skip ?_ | refine W.block ?_ | refine W.exit ?_ | refine W.ret ?_ | (simp only [tN, tR, tE, rN, rR, rE, xN, xR, xE, reduceIte]) | refine DN ?_
  refine .loop (.inv (fun d E H n' => ∃ i : Nat, i + d = l.length ∧ 4 < n' ∧ E 2 = .ptr 0 0 0 0 ∧ E 3 = .ptr 4 0 0 0 ∧ E 9 = .sl 0 (cells l) ∧ E 10 = .i .i64 l.length ∧ E 11 = .i .i64 i ∧ H 0 = some (.box 117 [.i .i64 0, .i .i64 0]) ∧ H 4 = some (.box 117 [.i .i64 (maxF l i).1, .i .i64 (maxF l i).2])) l.length ?_ ?_)
  · simp [setF_if, argE, upd_if, maxF]
  rintro d E H n' ⟨i, hi, hn4, h2, h3, h9, h10, h11, hH0, hH4⟩
  have hn0 : 0 < n' := by omega
  by_cases c : (i : Int) < l.length
  · have hr := cells_at (l := l) (i := i) (by omega)
    have hw_i : IntKind.i64.wrap ((i : Int) + 1) = (i : Int) + 1 := wr64 (by omega) (by omega)
    have hs := maxF_succ (l := l) (i := i) (by omega)
    repeat first | refine OP ?_ | refine SK ?_ | refine OPN ?_ | refine OM ?_ | refine SM ?_ | refine OMN ?_ | refine WM.nil ?_ | refine OQ ?_ | refine SQ ?_ | refine TH ?_ | refine WR.nil ?_ | refine WQ.nil ?_ | refine W.seq ?_ | refine W.region ?_ | refine DR ?_ | refine IFT ?_ | refine IFF ?_ | refine W.skip ?_ | refine W.block ?_ | refine W.exit ?_ | refine W.ret ?_ | (simp only [tN, tR, tE, rN, rR, rE, xN, xR, xE, reduceIte]) | refine DN ?_
    refine ⟨l.length - (i + 1), by omega, i + 1, by omega, ?_⟩
    simp [setF_if, upd_if, *, maxI]
  · have e : i = l.length := by omega
    subst e
    repeat first | refine OP ?_ | refine SK ?_ | refine OPN ?_ | refine OM ?_ | refine SM ?_ | refine OMN ?_ | refine WM.nil ?_ | refine OQ ?_ | refine SQ ?_ | refine TH ?_ | refine WR.nil ?_ | refine WQ.nil ?_ | refine W.seq ?_ | refine W.region ?_ | refine DR ?_ | refine IFT ?_ | refine IFF ?_ | refine W.skip ?_ | refine W.block ?_ | refine W.exit ?_ | refine W.ret ?_ | (simp only [tN, tR, tE, rN, rR, rE, xN, xR, xE, reduceIte]) | refine DN ?_
    simp [retA, backA, backsA]
/-- The width and the height, as the reference takes them. -/
def sizeF (l : List (Int × Int)) (q : Int × Int) (i : Nat) : Int × Int := (l.take i).foldl (fun s p => (maxI s.1 (IntKind.i64.wrap (IntKind.i64.wrap (p.1 - q.1) + 1)), maxI s.2 (IntKind.i64.wrap (IntKind.i64.wrap (p.2 - q.2) + 1)))) (0, 0)
theorem sizeF_succ {l : List (Int × Int)} {q : Int × Int} {i : Nat} (h : i < l.length) : sizeF l q (i + 1) = (maxI (sizeF l q i).1 (IntKind.i64.wrap (IntKind.i64.wrap ((l.getD i (0, 0)).1 - q.1) + 1)), maxI (sizeF l q i).2 (IntKind.i64.wrap (IntKind.i64.wrap ((l.getD i (0, 0)).2 - q.2) + 1))) := by
  unfold sizeF
  rw [List.take_succ_eq_append_getElem h, List.foldl_append]
  simp only [List.foldl_cons, List.foldl_nil, List.getD_eq_getElem?_getD, List.getElem?_eq_getElem h, Option.getD_some]
def sizeM (l : List (Int × Int)) : Int × Int := sizeF l (minF l l.length) l.length
theorem l04Size_fn (G : Gv) (l : List (Int × Int)) (h1 : 0 < l.length) (hl : l.length < 1000000000) : Gives Tryz.prog G 128 [.sl 0 (cells l)] (.tup [.i .i64 (sizeM l).1, .i .i64 (sizeM l).2]) := by
  refine .of (.body Tryz.func128 rfl (by simp [Tryz.ntmps128]) ?_)
  rw [Tryz.ntmps128, Tryz.results128]
  have hlen := cells_len l
  unfold sizeM
  repeat first | refine OP ?_ | refine SK ?_ | refine OPN ?_ | refine OM ?_ | refine SM ?_ | refine OMN ?_ | refine WM.nil ?_ | refine OQ ?_ | refine SQ ?_ | refine TH ?_ | refine WR.nil ?_ | refine WQ.nil ?_ | refine W.seq ?_ | refine W.region ?_ | refine DR ?_ | refine IFT ?_ | refine IFF ?_ | refine W.skip ?_ | refine W.block ?_ | refine W.exit ?_ | refine W.ret ?_ | (simp only [tN, tR, tE, rN, rR, rE, xN, xR, xE, reduceIte]) | refine DN ?_
  refine CV (l02Least_fn G _ h1 hl) ?_
  repeat first | refine OP ?_ | refine SK ?_ | refine OPN ?_ | refine OM ?_ | refine SM ?_ | refine OMN ?_ | refine WM.nil ?_ | refine OQ ?_ | refine SQ ?_ | refine TH ?_ | refine WR.nil ?_ | refine WQ.nil ?_ | refine W.seq ?_ | refine W.region ?_ | refine DR ?_ | refine IFT ?_ | refine IFF ?_ | refine W.skip ?_ | refine W.block ?_ | refine W.exit ?_ | refine W.ret ?_ | (simp only [tN, tR, tE, rN, rR, rE, xN, xR, xE, reduceIte]) | refine DN ?_
  refine .loop (.inv (fun d E H n' => ∃ i : Nat, i + d = l.length ∧ E 0 = .sl 0 (cells l) ∧ E 4 = .i .i64 (minF l l.length).1 ∧ E 5 = .i .i64 (minF l l.length).2 ∧ E 6 = .i .i64 (sizeF l (minF l l.length) i).1 ∧ E 7 = .i .i64 (sizeF l (minF l l.length) i).2 ∧ E 8 = .i .i64 i) l.length ?_ ?_)
  · simp [setF_if, argE, upd_if, sizeF]
  rintro d E H n' ⟨i, hi, h0, h4, h5, h6, h7, h8⟩
  by_cases c : (i : Int) < l.length
  · have hr := cells_at (l := l) (i := i) (by omega)
    have hw_i : IntKind.i64.wrap ((i : Int) + 1) = (i : Int) + 1 := wr64 (by omega) (by omega)
    have hs := sizeF_succ (l := l) (q := minF l l.length) (i := i) (by omega)
    generalize minF l l.length = q at *
    repeat first | refine OP ?_ | refine SK ?_ | refine OPN ?_ | refine OM ?_ | refine SM ?_ | refine OMN ?_ | refine WM.nil ?_ | refine OQ ?_ | refine SQ ?_ | refine TH ?_ | refine WR.nil ?_ | refine WQ.nil ?_ | refine W.seq ?_ | refine W.region ?_ | refine DR ?_ | refine IFT ?_ | refine IFF ?_ | refine W.skip ?_ | refine W.block ?_ | refine W.exit ?_ | refine W.ret ?_ | (simp only [tN, tR, tE, rN, rR, rE, xN, xR, xE, reduceIte]) | refine DN ?_
    refine ⟨l.length - (i + 1), by omega, i + 1, by omega, ?_⟩
    simp [setF_if, upd_if, *, maxI]
  · have e : i = l.length := by omega
    subst e
    repeat first | refine OP ?_ | refine SK ?_ | refine OPN ?_ | refine OM ?_ | refine SM ?_ | refine OMN ?_ | refine WM.nil ?_ | refine OQ ?_ | refine SQ ?_ | refine TH ?_ | refine WR.nil ?_ | refine WQ.nil ?_ | refine W.seq ?_ | refine W.region ?_ | refine DR ?_ | refine IFT ?_ | refine IFF ?_ | refine W.skip ?_ | refine W.block ?_ | refine W.exit ?_ | refine W.ret ?_ | (simp only [tN, tR, tE, rN, rR, rE, xN, xR, xE, reduceIte]) | refine DN ?_
    simp [retA, backA, backsA]
def regionM (l : List (Int × Int)) : Bool := shapeM l && (minF l l.length == (0, 0)) && (decide ((maxF l l.length).1 < 20) && decide ((maxF l l.length).2 < 20))
def regionS (l : List (Int × Int)) : Bool := shapeM l && ((minF l l.length).1 == 0 && (minF l l.length).2 == 0 && decide ((sizeM l).1 ≤ 20) && decide ((sizeM l).2 ≤ 20))
theorem shapeM_pos {l : List (Int × Int)} (h : shapeM l = true) : 0 < l.length := by
  unfold shapeM at h; simp only [Bool.and_eq_true, decide_eq_true_eq] at h; omega
theorem implIsRegion_fn (G : Gv) (l : List (Int × Int)) (hl : l.length < 1000000000) : Gives Tryz.prog G 132 [.sl 0 (cells l)] (.b (regionM l)) := by
  refine .of (.body Tryz.func132 rfl (by simp [Tryz.ntmps132]) ?_)
  rw [Tryz.ntmps132, Tryz.results132]
  repeat first | refine OP ?_ | refine SK ?_ | refine OPN ?_ | refine OM ?_ | refine SM ?_ | refine OMN ?_ | refine WM.nil ?_ | refine OQ ?_ | refine SQ ?_ | refine TH ?_ | refine WR.nil ?_ | refine WQ.nil ?_ | refine W.seq ?_ | refine W.region ?_ | refine DR ?_ | refine IFT ?_ | refine IFF ?_ | refine W.skip ?_ | refine W.block ?_ | refine W.exit ?_ | refine W.ret ?_ | (simp only [tN, tR, tE, rN, rR, rE, xN, xR, xE, reduceIte]) | refine DN ?_
  refine CV (implIsShape_fn G _ hl) ?_
  by_cases c : shapeM l = true
  · repeat first | refine OP ?_ | refine SK ?_ | refine OPN ?_ | refine OM ?_ | refine SM ?_ | refine OMN ?_ | refine WM.nil ?_ | refine OQ ?_ | refine SQ ?_ | refine TH ?_ | refine WR.nil ?_ | refine WQ.nil ?_ | refine W.seq ?_ | refine W.region ?_ | refine DR ?_ | refine IFT ?_ | refine IFF ?_ | refine W.skip ?_ | refine W.block ?_ | refine W.exit ?_ | refine W.ret ?_ | (simp only [tN, tR, tE, rN, rR, rE, xN, xR, xE, reduceIte]) | refine DN ?_
    refine CV (corner_fn G _ (shapeM_pos c) hl) ?_
    by_cases c1 : ((minF l l.length).1 == 0 && (minF l l.length).2 == 0) = true
    · repeat first | refine OP ?_ | refine SK ?_ | refine OPN ?_ | refine OM ?_ | refine SM ?_ | refine OMN ?_ | refine WM.nil ?_ | refine OQ ?_ | refine SQ ?_ | refine TH ?_ | refine WR.nil ?_ | refine WQ.nil ?_ | refine W.seq ?_ | refine W.region ?_ | refine DR ?_ | refine IFT ?_ | refine IFF ?_ | refine W.skip ?_ | refine W.block ?_ | refine W.exit ?_ | refine W.ret ?_ | (simp only [tN, tR, tE, rN, rR, rE, xN, xR, xE, reduceIte]) | refine DN ?_
      refine CV (reach_fn G _ (shapeM_pos c) hl) ?_
      have e : minF l l.length = (0, 0) := by simp only [Bool.and_eq_true, beq_iff_eq] at c1; exact Prod.ext c1.1 c1.2
      by_cases c2 : (maxF l l.length).1 < 20
      · repeat first | refine OP ?_ | refine SK ?_ | refine OPN ?_ | refine OM ?_ | refine SM ?_ | refine OMN ?_ | refine WM.nil ?_ | refine OQ ?_ | refine SQ ?_ | refine TH ?_ | refine WR.nil ?_ | refine WQ.nil ?_ | refine W.seq ?_ | refine W.region ?_ | refine DR ?_ | refine IFT ?_ | refine IFF ?_ | refine W.skip ?_ | refine W.block ?_ | refine W.exit ?_ | refine W.ret ?_ | (simp only [tN, tR, tE, rN, rR, rE, xN, xR, xE, reduceIte]) | refine DN ?_
        simp [retA, backA, regionM, c, e, c2]
      · repeat first | refine OP ?_ | refine SK ?_ | refine OPN ?_ | refine OM ?_ | refine SM ?_ | refine OMN ?_ | refine WM.nil ?_ | refine OQ ?_ | refine SQ ?_ | refine TH ?_ | refine WR.nil ?_ | refine WQ.nil ?_ | refine W.seq ?_ | refine W.region ?_ | refine DR ?_ | refine IFT ?_ | refine IFF ?_ | refine W.skip ?_ | refine W.block ?_ | refine W.exit ?_ | refine W.ret ?_ | (simp only [tN, tR, tE, rN, rR, rE, xN, xR, xE, reduceIte]) | refine DN ?_
        simp [retA, backA, regionM, c, e, c2]
    · repeat first | refine OP ?_ | refine SK ?_ | refine OPN ?_ | refine OM ?_ | refine SM ?_ | refine OMN ?_ | refine WM.nil ?_ | refine OQ ?_ | refine SQ ?_ | refine TH ?_ | refine WR.nil ?_ | refine WQ.nil ?_ | refine W.seq ?_ | refine W.region ?_ | refine DR ?_ | refine IFT ?_ | refine IFF ?_ | refine W.skip ?_ | refine W.block ?_ | refine W.exit ?_ | refine W.ret ?_ | (simp only [tN, tR, tE, rN, rR, rE, xN, xR, xE, reduceIte]) | refine DN ?_
      have e : ¬ minF l l.length = (0, 0) := fun e => c1 (by rw [e]; rfl)
      simp [retA, backA, regionM, c, e]
  · repeat first | refine OP ?_ | refine SK ?_ | refine OPN ?_ | refine OM ?_ | refine SM ?_ | refine OMN ?_ | refine WM.nil ?_ | refine OQ ?_ | refine SQ ?_ | refine TH ?_ | refine WR.nil ?_ | refine WQ.nil ?_ | refine W.seq ?_ | refine W.region ?_ | refine DR ?_ | refine IFT ?_ | refine IFF ?_ | refine W.skip ?_ | refine W.block ?_ | refine W.exit ?_ | refine W.ret ?_ | (simp only [tN, tR, tE, rN, rR, rE, xN, xR, xE, reduceIte]) | refine DN ?_
    simp [retA, backA, regionM, c]
theorem specIsRegion_fn (G : Gv) (l : List (Int × Int)) (hl : l.length < 1000000000) : Gives Tryz.prog G 124 [.sl 0 (cells l)] (.b (regionS l)) := by
  refine .of (.body Tryz.func124 rfl (by simp [Tryz.ntmps124]) ?_)
  rw [Tryz.ntmps124, Tryz.results124]
  repeat first | refine OP ?_ | refine SK ?_ | refine OPN ?_ | refine OM ?_ | refine SM ?_ | refine OMN ?_ | refine WM.nil ?_ | refine OQ ?_ | refine SQ ?_ | refine TH ?_ | refine WR.nil ?_ | refine WQ.nil ?_ | refine W.seq ?_ | refine W.region ?_ | refine DR ?_ | refine IFT ?_ | refine IFF ?_ | refine W.skip ?_ | refine W.block ?_ | refine W.exit ?_ | refine W.ret ?_ | (simp only [tN, tR, tE, rN, rR, rE, xN, xR, xE, reduceIte]) | refine DN ?_
  refine CV (specIsShape_fn G _ hl) ?_
  by_cases c : shapeM l = true
  · repeat first | refine OP ?_ | refine SK ?_ | refine OPN ?_ | refine OM ?_ | refine SM ?_ | refine OMN ?_ | refine WM.nil ?_ | refine OQ ?_ | refine SQ ?_ | refine TH ?_ | refine WR.nil ?_ | refine WQ.nil ?_ | refine W.seq ?_ | refine W.region ?_ | refine DR ?_ | refine IFT ?_ | refine IFF ?_ | refine W.skip ?_ | refine W.block ?_ | refine W.exit ?_ | refine W.ret ?_ | (simp only [tN, tR, tE, rN, rR, rE, xN, xR, xE, reduceIte]) | refine DN ?_
    refine CV (l04Size_fn G _ (shapeM_pos c) hl) ?_
    repeat first | refine OP ?_ | refine SK ?_ | refine OPN ?_ | refine OM ?_ | refine SM ?_ | refine OMN ?_ | refine WM.nil ?_ | refine OQ ?_ | refine SQ ?_ | refine TH ?_ | refine WR.nil ?_ | refine WQ.nil ?_ | refine W.seq ?_ | refine W.region ?_ | refine DR ?_ | refine IFT ?_ | refine IFF ?_ | refine W.skip ?_ | refine W.block ?_ | refine W.exit ?_ | refine W.ret ?_ | (simp only [tN, tR, tE, rN, rR, rE, xN, xR, xE, reduceIte]) | refine DN ?_
    refine CV (l02Least_fn G _ (shapeM_pos c) hl) ?_
    by_cases c1 : ((minF l l.length).1 == 0) = true <;> by_cases c2 : ((minF l l.length).2 == 0) = true <;> by_cases c3 : (sizeM l).1 ≤ 20
    all_goals
      repeat first | refine OP ?_ | refine SK ?_ | refine OPN ?_ | refine OM ?_ | refine SM ?_ | refine OMN ?_ | refine WM.nil ?_ | refine OQ ?_ | refine SQ ?_ | refine TH ?_ | refine WR.nil ?_ | refine WQ.nil ?_ | refine W.seq ?_ | refine W.region ?_ | refine DR ?_ | refine IFT ?_ | refine IFF ?_ | refine W.skip ?_ | refine W.block ?_ | refine W.exit ?_ | refine W.ret ?_ | (simp only [tN, tR, tE, rN, rR, rE, xN, xR, xE, reduceIte]) | refine DN ?_
      simp [retA, backA, regionS, c, *]
  · repeat first | refine OP ?_ | refine SK ?_ | refine OPN ?_ | refine OM ?_ | refine SM ?_ | refine OMN ?_ | refine WM.nil ?_ | refine OQ ?_ | refine SQ ?_ | refine TH ?_ | refine WR.nil ?_ | refine WQ.nil ?_ | refine W.seq ?_ | refine W.region ?_ | refine DR ?_ | refine IFT ?_ | refine IFF ?_ | refine W.skip ?_ | refine W.block ?_ | refine W.exit ?_ | refine W.ret ?_ | (simp only [tN, tR, tE, rN, rR, rE, xN, xR, xE, reduceIte]) | refine DN ?_
    simp [retA, backA, regionS, c]
end Go.Proofs
end
section
open Go Go.Big
namespace Go.Proofs
set_option maxHeartbeats 2000000
theorem moved_take {l : List (Int × Int)} {i : Nat} (a b : Int) (h : i < l.length) : cells (movedM (l.take i) a b) ++ [[.i .i64 (IntKind.i64.wrap ((l.getD i (0, 0)).1 + a)), .i .i64 (IntKind.i64.wrap ((l.getD i (0, 0)).2 + b))]] = cells (movedM (l.take (i + 1)) a b) := by
  rw [List.take_succ_eq_append_getElem h]; simp only [cells, movedM, List.map_append, List.map_cons, List.map_nil, List.getD_eq_getElem?_getD, List.getElem?_eq_getElem h, Option.getD_some]
theorem l02Move_fn (G : Gv) (l : List (Int × Int)) (a b : Int) (hl : l.length < 1000000000) : Gives Tryz.prog G 130 [.sl 0 (cells l), .i .i64 a, .i .i64 b] (.sl 1 (cells (movedM l a b))) := by
  refine .of (.body Tryz.func130 rfl (by simp [Tryz.ntmps130]) ?_)
  rw [Tryz.ntmps130, Tryz.results130]
  have hlen := cells_len l
  repeat first | refine OP ?_ | refine SK ?_ | refine OPN ?_ | refine OM ?_ | refine SM ?_ | refine OMN ?_ | refine WM.nil ?_ | refine OQ ?_ | refine SQ ?_ | refine TH ?_ | refine WR.nil ?_ | refine WQ.nil ?_ | refine W.seq ?_ | refine W.region ?_ | refine DR ?_ | refine IFT ?_ | refine IFF ?_ | refine W.skip ?_ | refine W.block ?_ | refine W.exit ?_ | refine W.ret ?_ | (simp only [tN, tR, tE, rN, rR, rE, xN, xR, xE, reduceIte]) | refine DN ?_
  refine .loop (.inv (fun d E H n' => ∃ i : Nat, i + d = l.length ∧ 1 < n' ∧ E 0 = .sl 0 (cells l) ∧ E 1 = .i .i64 a ∧ E 2 = .i .i64 b ∧ E 8 = .i .i64 i ∧ ∃ e, E 7 = .own 1 e ∧ H 1 = some (.arr e 117 2 (cells (movedM (l.take i) a b)) 1)) l.length ?_ ?_)
  · simp [setF_if, argE, upd_if, movedM, cells]
  rintro d E H n' ⟨i, hi, hn1, h0, h1, h2, h8, e, h7, hH⟩
  by_cases c : (i : Int) < l.length
  · have hr := cells_at (l := l) (i := i) (by omega)
    have hw_i : IntKind.i64.wrap ((i : Int) + 1) = (i : Int) + 1 := wr64 (by omega) (by omega)
    have hrl : (cells (movedM (l.take i) a b)).length = i := by simp [cells, movedM]; omega
    have hb : (i + 1) * 16 ≤ 140737488355328 := by omega
    have htk := moved_take (l := l) (i := i) a b (by omega)
    generalize l.getD i (0, 0) = p at hr htk
    repeat first | refine OP ?_ | refine SK ?_ | refine OPN ?_ | refine OM ?_ | refine SM ?_ | refine OMN ?_ | refine WM.nil ?_ | refine OQ ?_ | refine SQ ?_ | refine TH ?_ | refine WR.nil ?_ | refine WQ.nil ?_ | refine W.seq ?_ | refine W.region ?_ | refine DM ?_ | refine IFT ?_ | refine IFF ?_ | refine W.skip ?_ | refine W.block ?_ | refine W.exit ?_ | refine W.ret ?_ | (simp only [tN, tR, tE, rN, rR, rE, xN, xR, xE, reduceIte]) | refine DN ?_
    refine ⟨l.length - (i + 1), by omega, i + 1, by omega, ?_⟩
    simp [setF_if, upd_if, *]
  · have e' : i = l.length := by omega
    subst e'
    repeat first | refine OP ?_ | refine SK ?_ | refine OPN ?_ | refine OM ?_ | refine SM ?_ | refine OMN ?_ | refine WM.nil ?_ | refine OQ ?_ | refine SQ ?_ | refine TH ?_ | refine WR.nil ?_ | refine WQ.nil ?_ | refine W.seq ?_ | refine W.region ?_ | refine DR ?_ | refine IFT ?_ | refine IFF ?_ | refine W.skip ?_ | refine W.block ?_ | refine W.exit ?_ | refine W.ret ?_ | (simp only [tN, tR, tE, rN, rR, rE, xN, xR, xE, reduceIte]) | refine DN ?_
    simp [retA, backA, newSl, newB, hH, List.take_length]
def normM (l : List (Int × Int)) : List (Int × Int) := movedM l (IntKind.i64.wrap (0 - (minF l l.length).1)) (IntKind.i64.wrap (0 - (minF l l.length).2))
theorem movedM_len (l : List (Int × Int)) (a b : Int) : (movedM l a b).length = l.length := by simp [movedM]
theorem l02Normal_fn (G : Gv) (l : List (Int × Int)) (h1 : 0 < l.length) (hl : l.length < 1000000000) : Gives Tryz.prog G 189 [.sl 0 (cells l)] (.sl 1 (cells (normM l))) := by
  refine .of (.body Tryz.func189 rfl (by simp [Tryz.ntmps189]) ?_)
  rw [Tryz.ntmps189, Tryz.results189]
  repeat first | refine OP ?_ | refine SK ?_ | refine OPN ?_ | refine OM ?_ | refine SM ?_ | refine OMN ?_ | refine WM.nil ?_ | refine OQ ?_ | refine SQ ?_ | refine TH ?_ | refine WR.nil ?_ | refine WQ.nil ?_ | refine W.seq ?_ | refine W.region ?_ | refine DR ?_ | refine IFT ?_ | refine IFF ?_ | refine W.skip ?_ | refine W.block ?_ | refine W.exit ?_ | refine W.ret ?_ | (simp only [tN, tR, tE, rN, rR, rE, xN, xR, xE, reduceIte]) | refine DN ?_
  refine CV (l02Least_fn G _ h1 hl) ?_
  repeat first | refine OP ?_ | refine SK ?_ | refine OPN ?_ | refine OM ?_ | refine SM ?_ | refine OMN ?_ | refine WM.nil ?_ | refine OQ ?_ | refine SQ ?_ | refine TH ?_ | refine WR.nil ?_ | refine WQ.nil ?_ | refine W.seq ?_ | refine W.region ?_ | refine DR ?_ | refine IFT ?_ | refine IFF ?_ | refine W.skip ?_ | refine W.block ?_ | refine W.exit ?_ | refine W.ret ?_ | (simp only [tN, tR, tE, rN, rR, rE, xN, xR, xE, reduceIte]) | refine DN ?_
  refine CV (l02Move_fn G _ _ _ hl) ?_
  repeat first | refine OP ?_ | refine SK ?_ | refine OPN ?_ | refine OM ?_ | refine SM ?_ | refine OMN ?_ | refine WM.nil ?_ | refine OQ ?_ | refine SQ ?_ | refine TH ?_ | refine WR.nil ?_ | refine WQ.nil ?_ | refine W.seq ?_ | refine W.region ?_ | refine DR ?_ | refine IFT ?_ | refine IFF ?_ | refine W.skip ?_ | refine W.block ?_ | refine W.exit ?_ | refine W.ret ?_ | (simp only [tN, tR, tE, rN, rR, rE, xN, xR, xE, reduceIte]) | refine DN ?_
  simp [retA, backA, newSl, newB, normM]
theorem normal_fn (G : Gv) (l : List (Int × Int)) (h1 : 0 < l.length) (hl : l.length < 1000000000) : Gives Tryz.prog G 146 [.sl 0 (cells l)] (.sl 1 (cells (normM l))) := by
  refine .of (.body Tryz.func146 rfl (by simp [Tryz.ntmps146]) ?_)
  rw [Tryz.ntmps146, Tryz.results146]
  repeat first | refine OP ?_ | refine SK ?_ | refine OPN ?_ | refine OM ?_ | refine SM ?_ | refine OMN ?_ | refine WM.nil ?_ | refine OQ ?_ | refine SQ ?_ | refine TH ?_ | refine WR.nil ?_ | refine WQ.nil ?_ | refine W.seq ?_ | refine W.region ?_ | refine DR ?_ | refine IFT ?_ | refine IFF ?_ | refine W.skip ?_ | refine W.block ?_ | refine W.exit ?_ | refine W.ret ?_ | (simp only [tN, tR, tE, rN, rR, rE, xN, xR, xE, reduceIte]) | refine DN ?_
  refine CV (corner_fn G _ h1 hl) ?_
  repeat first | refine OP ?_ | refine SK ?_ | refine OPN ?_ | refine OM ?_ | refine SM ?_ | refine OMN ?_ | refine WM.nil ?_ | refine OQ ?_ | refine SQ ?_ | refine TH ?_ | refine WR.nil ?_ | refine WQ.nil ?_ | refine W.seq ?_ | refine W.region ?_ | refine DR ?_ | refine IFT ?_ | refine IFF ?_ | refine W.skip ?_ | refine W.block ?_ | refine W.exit ?_ | refine W.ret ?_ | (simp only [tN, tR, tE, rN, rR, rE, xN, xR, xE, reduceIte]) | refine DN ?_
  refine CV (moved_fn G _ _ _ hl) ?_
  repeat first | refine OP ?_ | refine SK ?_ | refine OPN ?_ | refine OM ?_ | refine SM ?_ | refine OMN ?_ | refine WM.nil ?_ | refine OQ ?_ | refine SQ ?_ | refine TH ?_ | refine WR.nil ?_ | refine WQ.nil ?_ | refine W.seq ?_ | refine W.region ?_ | refine DR ?_ | refine IFT ?_ | refine IFF ?_ | refine W.skip ?_ | refine W.block ?_ | refine W.exit ?_ | refine W.ret ?_ | (simp only [tN, tR, tE, rN, rR, rE, xN, xR, xE, reduceIte]) | refine DN ?_
  simp [retA, backA, newSl, newB, normM]
end Go.Proofs
end
