/- Walks: Corners and sizes of cells. No condition. | The reference's moves, normal forms, turns. No condition. | Turns. No condition. | Shapes compared. No condition. | Cells in order. No condition. | Shapes equal; cells sorted by the reference. No condition. | The reference's forms. No condition. | A form is added. No condition. | The reference's forms, all of them. No condition. -/
import Derived.Test.YtmglpcdalechfaaGreatBO
import Derived.Test.YtmglpcdalechfaaGreatWk1
import Derived.Test.YtmglpcdalechfaaGreatBC
set_option linter.unusedVariables false
set_option linter.unusedSimpArgs false
section
open Go Go.Big
namespace Go.Proofs
set_option maxHeartbeats 2000000

theorem corner_fn (G : Gv) (l : List (Int × Int)) (h1 : 0 < l.length) (hl : l.length < 1000000000) : Gives Tryz.prog G 179 [.sl 0 (cells l)] (cellA (minF l l.length).1 (minF l l.length).2) := by
  refine .of (.body Tryz.func179 rfl (by simp [Tryz.ntmps179]) ?_)
  rw [Tryz.ntmps179, Tryz.results179]
  have hlen := cells_len l
  have hr0 := cells_at (l := l) (i := 0) h1
  have z : ((0 : Int).toNat) = 0 := rfl
  refine AL ?_
  refine .loop (.inv (fun d E H n' => ∃ i : Nat, i + d = l.length ∧ 4 < n' ∧ E 2 = .ptr 0 0 0 0 ∧ E 3 = .ptr 4 0 0 0 ∧ E 9 = .sl 0 (cells l) ∧ E 10 = .i .i64 l.length ∧ E 11 = .i .i64 i ∧ H 0 = some (.box 142 [.i .i64 0, .i .i64 0]) ∧ H 4 = some (.box 142 [.i .i64 (minF l i).1, .i .i64 (minF l i).2])) l.length ?_ ?_)
  · simp [setF_if, argE, upd_if, minF]
  rintro d E H n' ⟨i, hi, hn4, h2, h3, h9, h10, h11, hH0, hH4⟩
  have hn0 : 0 < n' := by omega
  by_cases c : (i : Int) < l.length
  · have hr := cells_at (l := l) (i := i) (by omega)
    have hw_i : IntKind.i64.wrap ((i : Int) + 1) = (i : Int) + 1 := wr64 (by omega) (by omega)
    have hs := minF_succ (l := l) (i := i) (by omega)
    refine AL ?_
    refine ⟨l.length - (i + 1), by omega, i + 1, by omega, ?_⟩
    simp [setF_if, upd_if, *, minI]
  · have e : i = l.length := by omega
    subst e
    refine AL ?_
    simp [retA, backA, backsA]
def maxI (a b : Int) : Int := if a < b then b else a
def maxF (l : List (Int × Int)) (i : Nat) : Int × Int := (l.take i).foldl (fun q p => (maxI q.1 p.1, maxI q.2 p.2)) (l.getD 0 (0, 0))
theorem maxF_succ {l : List (Int × Int)} {i : Nat} (h : i < l.length) : maxF l (i + 1) = (maxI (maxF l i).1 (l.getD i (0, 0)).1, maxI (maxF l i).2 (l.getD i (0, 0)).2) := by
  unfold maxF
  rw [List.take_succ_eq_append_getElem h, List.foldl_append]
  simp only [List.foldl_cons, List.foldl_nil, List.getD_eq_getElem?_getD, List.getElem?_eq_getElem h, Option.getD_some]
theorem reach_fn (G : Gv) (l : List (Int × Int)) (h1 : 0 < l.length) (hl : l.length < 1000000000) : Gives Tryz.prog G 176 [.sl 0 (cells l)] (cellA (maxF l l.length).1 (maxF l l.length).2) := by
  refine .of (.body Tryz.func176 rfl (by simp [Tryz.ntmps176]) ?_)
  rw [Tryz.ntmps176, Tryz.results176]
  have hlen := cells_len l
  have hr0 := cells_at (l := l) (i := 0) h1
  have z : ((0 : Int).toNat) = 0 := rfl
  refine AL ?_
  refine .loop (.inv (fun d E H n' => ∃ i : Nat, i + d = l.length ∧ 4 < n' ∧ E 2 = .ptr 0 0 0 0 ∧ E 3 = .ptr 4 0 0 0 ∧ E 9 = .sl 0 (cells l) ∧ E 10 = .i .i64 l.length ∧ E 11 = .i .i64 i ∧ H 0 = some (.box 142 [.i .i64 0, .i .i64 0]) ∧ H 4 = some (.box 142 [.i .i64 (maxF l i).1, .i .i64 (maxF l i).2])) l.length ?_ ?_)
  · simp [setF_if, argE, upd_if, maxF]
  rintro d E H n' ⟨i, hi, hn4, h2, h3, h9, h10, h11, hH0, hH4⟩
  have hn0 : 0 < n' := by omega
  by_cases c : (i : Int) < l.length
  · have hr := cells_at (l := l) (i := i) (by omega)
    have hw_i : IntKind.i64.wrap ((i : Int) + 1) = (i : Int) + 1 := wr64 (by omega) (by omega)
    have hs := maxF_succ (l := l) (i := i) (by omega)
    refine AL ?_
    refine ⟨l.length - (i + 1), by omega, i + 1, by omega, ?_⟩
    simp [setF_if, upd_if, *, maxI]
  · have e : i = l.length := by omega
    subst e
    refine AL ?_
    simp [retA, backA, backsA]
/-- The width and the height, as the reference takes them. -/
def sizeF (l : List (Int × Int)) (q : Int × Int) (i : Nat) : Int × Int := (l.take i).foldl (fun s p => (maxI s.1 (IntKind.i64.wrap (IntKind.i64.wrap (p.1 - q.1) + 1)), maxI s.2 (IntKind.i64.wrap (IntKind.i64.wrap (p.2 - q.2) + 1)))) (0, 0)
theorem sizeF_succ {l : List (Int × Int)} {q : Int × Int} {i : Nat} (h : i < l.length) : sizeF l q (i + 1) = (maxI (sizeF l q i).1 (IntKind.i64.wrap (IntKind.i64.wrap ((l.getD i (0, 0)).1 - q.1) + 1)), maxI (sizeF l q i).2 (IntKind.i64.wrap (IntKind.i64.wrap ((l.getD i (0, 0)).2 - q.2) + 1))) := by
  unfold sizeF
  rw [List.take_succ_eq_append_getElem h, List.foldl_append]
  simp only [List.foldl_cons, List.foldl_nil, List.getD_eq_getElem?_getD, List.getElem?_eq_getElem h, Option.getD_some]
def sizeM (l : List (Int × Int)) : Int × Int := sizeF l (minF l l.length) l.length
theorem l04Size_fn (G : Gv) (l : List (Int × Int)) (h1 : 0 < l.length) (hl : l.length < 1000000000) : Gives Tryz.prog G 171 [.sl 0 (cells l)] (.tup [.i .i64 (sizeM l).1, .i .i64 (sizeM l).2]) := by
  refine .of (.body Tryz.func171 rfl (by simp [Tryz.ntmps171]) ?_)
  rw [Tryz.ntmps171, Tryz.results171]
  have hlen := cells_len l
  unfold sizeM
  refine AL ?_
  refine CV (l02Least_fn G _ h1 hl) ?_
  refine AL ?_
  refine .loop (.inv (fun d E H n' => ∃ i : Nat, i + d = l.length ∧ E 0 = .sl 0 (cells l) ∧ E 4 = .i .i64 (minF l l.length).1 ∧ E 5 = .i .i64 (minF l l.length).2 ∧ E 6 = .i .i64 (sizeF l (minF l l.length) i).1 ∧ E 7 = .i .i64 (sizeF l (minF l l.length) i).2 ∧ E 8 = .i .i64 i) l.length ?_ ?_)
  · simp [setF_if, argE, upd_if, sizeF]
  rintro d E H n' ⟨i, hi, h0, h4, h5, h6, h7, h8⟩
  by_cases c : (i : Int) < l.length
  · have hr := cells_at (l := l) (i := i) (by omega)
    have hw_i : IntKind.i64.wrap ((i : Int) + 1) = (i : Int) + 1 := wr64 (by omega) (by omega)
    have hs := sizeF_succ (l := l) (q := minF l l.length) (i := i) (by omega)
    generalize minF l l.length = q at *
    refine AL ?_
    refine ⟨l.length - (i + 1), by omega, i + 1, by omega, ?_⟩
    simp [setF_if, upd_if, *, maxI]
  · have e : i = l.length := by omega
    subst e
    refine AL ?_
    simp [retA, backA, backsA]
def regionM (l : List (Int × Int)) : Bool := shapeM l && (minF l l.length == (0, 0)) && (decide ((maxF l l.length).1 < 20) && decide ((maxF l l.length).2 < 20))
def regionS (l : List (Int × Int)) : Bool := shapeM l && ((minF l l.length).1 == 0 && (minF l l.length).2 == 0 && decide ((sizeM l).1 ≤ 20) && decide ((sizeM l).2 ≤ 20))
theorem shapeM_pos {l : List (Int × Int)} (h : shapeM l = true) : 0 < l.length := by
  unfold shapeM at h; simp only [Bool.and_eq_true, decide_eq_true_eq] at h; omega
theorem implIsRegion_fn (G : Gv) (l : List (Int × Int)) (hl : l.length < 1000000000) : Gives Tryz.prog G 118 [.sl 0 (cells l)] (.b (regionM l)) := by
  refine .of (.body Tryz.func118 rfl (by simp [Tryz.ntmps118]) ?_)
  rw [Tryz.ntmps118, Tryz.results118]
  refine AL ?_
  refine CV (implIsShape_fn G _ hl) ?_
  by_cases c : shapeM l = true
  · refine AL ?_
    refine CV (corner_fn G _ (shapeM_pos c) hl) ?_
    by_cases c1 : ((minF l l.length).1 == 0 && (minF l l.length).2 == 0) = true
    · refine AL ?_
      refine CV (reach_fn G _ (shapeM_pos c) hl) ?_
      have e : minF l l.length = (0, 0) := by simp only [Bool.and_eq_true, beq_iff_eq] at c1; exact Prod.ext c1.1 c1.2
      by_cases c2 : (maxF l l.length).1 < 20
      · refine AL ?_
        simp [retA, backA, regionM, c, e, c2]
      · refine AL ?_
        simp [retA, backA, regionM, c, e, c2]
    · refine AL ?_
      have e : ¬ minF l l.length = (0, 0) := fun e => c1 (by rw [e]; rfl)
      simp [retA, backA, regionM, c, e]
  · refine AL ?_
    simp [retA, backA, regionM, c]
theorem specIsRegion_fn (G : Gv) (l : List (Int × Int)) (hl : l.length < 1000000000) : Gives Tryz.prog G 111 [.sl 0 (cells l)] (.b (regionS l)) := by
  refine .of (.body Tryz.func111 rfl (by simp [Tryz.ntmps111]) ?_)
  rw [Tryz.ntmps111, Tryz.results111]
  refine AL ?_
  refine CV (specIsShape_fn G _ hl) ?_
  by_cases c : shapeM l = true
  · refine AL ?_
    refine CV (l04Size_fn G _ (shapeM_pos c) hl) ?_
    refine AL ?_
    refine CV (l02Least_fn G _ (shapeM_pos c) hl) ?_
    by_cases c1 : ((minF l l.length).1 == 0) = true <;> by_cases c2 : ((minF l l.length).2 == 0) = true <;> by_cases c3 : (sizeM l).1 ≤ 20
    all_goals
      refine AL ?_
      simp [retA, backA, regionS, c, *]
  · refine AL ?_
    simp [retA, backA, regionS, c]
end Go.Proofs
end
section
open Go Go.Big
namespace Go.Proofs
set_option maxHeartbeats 2000000
theorem moved_take {l : List (Int × Int)} {i : Nat} (a b : Int) (h : i < l.length) : cells (movedM (l.take i) a b) ++ [[.i .i64 (IntKind.i64.wrap ((l.getD i (0, 0)).1 + a)), .i .i64 (IntKind.i64.wrap ((l.getD i (0, 0)).2 + b))]] = cells (movedM (l.take (i + 1)) a b) := by
  rw [List.take_succ_eq_append_getElem h]; simp only [cells, movedM, List.map_append, List.map_cons, List.map_nil, List.getD_eq_getElem?_getD, List.getElem?_eq_getElem h, Option.getD_some]
theorem l02Move_fn (G : Gv) (l : List (Int × Int)) (a b : Int) (hl : l.length < 1000000000) : Gives Tryz.prog G 164 [.sl 0 (cells l), .i .i64 a, .i .i64 b] (.sl 1 (cells (movedM l a b))) := by
  refine .of (.body Tryz.func164 rfl (by simp [Tryz.ntmps164]) ?_)
  rw [Tryz.ntmps164, Tryz.results164]
  have hlen := cells_len l
  refine AL ?_
  refine .loop (.inv (fun d E H n' => ∃ i : Nat, i + d = l.length ∧ 1 < n' ∧ E 0 = .sl 0 (cells l) ∧ E 1 = .i .i64 a ∧ E 2 = .i .i64 b ∧ E 8 = .i .i64 i ∧ ∃ e, E 7 = .own 1 e ∧ H 1 = some (.arr e 142 2 (cells (movedM (l.take i) a b)) 1)) l.length ?_ ?_)
  · simp [setF_if, argE, upd_if, movedM, cells]
  rintro d E H n' ⟨i, hi, hn1, h0, h1, h2, h8, e, h7, hH⟩
  by_cases c : (i : Int) < l.length
  · have hr := cells_at (l := l) (i := i) (by omega)
    have hw_i : IntKind.i64.wrap ((i : Int) + 1) = (i : Int) + 1 := wr64 (by omega) (by omega)
    have hrl : (cells (movedM (l.take i) a b)).length = i := by simp [cells, movedM]; omega
    have hb : (i + 1) * 16 ≤ 140737488355328 := by omega
    have htk := moved_take (l := l) (i := i) a b (by omega)
    generalize l.getD i (0, 0) = p at hr htk
    refine AM ?_
    refine ⟨l.length - (i + 1), by omega, i + 1, by omega, ?_⟩
    simp [setF_if, upd_if, *]
  · have e' : i = l.length := by omega
    subst e'
    refine AL ?_
    simp [retA, backA, newSl, newB, hH, List.take_length]
def normM (l : List (Int × Int)) : List (Int × Int) := movedM l (IntKind.i64.wrap (0 - (minF l l.length).1)) (IntKind.i64.wrap (0 - (minF l l.length).2))
theorem movedM_len (l : List (Int × Int)) (a b : Int) : (movedM l a b).length = l.length := by simp [movedM]
theorem l02Normal_fn (G : Gv) (l : List (Int × Int)) (h1 : 0 < l.length) (hl : l.length < 1000000000) : Gives Tryz.prog G 172 [.sl 0 (cells l)] (.sl 1 (cells (normM l))) := by
  refine .of (.body Tryz.func172 rfl (by simp [Tryz.ntmps172]) ?_)
  rw [Tryz.ntmps172, Tryz.results172]
  refine AL ?_
  refine CV (l02Least_fn G _ h1 hl) ?_
  refine AL ?_
  refine CV (l02Move_fn G _ _ _ hl) ?_
  refine AL ?_
  simp [retA, backA, newSl, newB, normM]
theorem normal_fn (G : Gv) (l : List (Int × Int)) (h1 : 0 < l.length) (hl : l.length < 1000000000) : Gives Tryz.prog G 175 [.sl 0 (cells l)] (.sl 1 (cells (normM l))) := by
  refine .of (.body Tryz.func175 rfl (by simp [Tryz.ntmps175]) ?_)
  rw [Tryz.ntmps175, Tryz.results175]
  refine AL ?_
  refine CV (corner_fn G _ h1 hl) ?_
  refine AL ?_
  refine CV (moved_fn G _ _ _ hl) ?_
  refine AL ?_
  simp [retA, backA, newSl, newB, normM]
end Go.Proofs
end
section
open Go Go.Big
namespace Go.Proofs
set_option maxHeartbeats 2000000
def stepT (p : Int × Int) : Int × Int := (IntKind.i64.wrap (0 - p.2), p.1)
def iterT (p : Int × Int) : Nat → Int × Int
  | 0 => p
  | n + 1 => stepT (iterT p n)
def flipT (p : Int × Int) (t : Nat) : Int × Int := if 4 ≤ t then (IntKind.i64.wrap (0 - p.1), p.2) else p
def turnM (p : Int × Int) (t : Nat) : Int × Int := iterT (flipT p t) (t % 4)
theorem rem4 {t : Nat} : (t : Int).tmod 4 = ((t % 4 : Nat) : Int) := by
  rw [Int.tmod_eq_emod_of_nonneg (by omega)]; omega
theorem turnCell_fn (G : Gv) (x y : Int) (t : Nat) : Gives Tryz.prog G 283 [cellA x y, .i .i64 t] (cellA (turnM (x, y) t).1 (turnM (x, y) t).2) := by
  refine .of (.body Tryz.func283 rfl (by simp [Tryz.ntmps283]) ?_)
  rw [Tryz.ntmps283, Tryz.results283]
  have h4 := rem4 (t := t)
  unfold turnM
  obtain ⟨m, hm⟩ : ∃ m, t % 4 = m := ⟨_, rfl⟩
  have hm4 : m < 4 := by omega
  have hmw : IntKind.i64.wrap (m : Int) = m := wr64 (by omega) (by omega)
  rw [hm] at h4 ⊢
  obtain ⟨q, hf⟩ : ∃ q, flipT (x, y) t = q := ⟨_, rfl⟩
  rw [hf]
  by_cases c4 : (t : Int) ≥ 4
  all_goals
    unfold flipT at hf
    first | rw [if_pos (by omega)] at hf | rw [if_neg (by omega)] at hf
    have hq1 := congrArg Prod.fst hf
    have hq2 := congrArg Prod.snd hf
    simp only at hq1 hq2
    clear hf
    refine AL ?_
    refine .loop (.inv (fun d E H n' => ∃ i : Nat, i + d = m ∧ 1 < n' ∧ E 2 = .ptr 0 0 0 0 ∧ E 4 = .ptr 1 0 0 0 ∧ E 12 = .i .i64 (m : Int) ∧ E 13 = .i .i64 i ∧ H 1 = some (.box 142 [.i .i64 0, .i .i64 0]) ∧ H 0 = some (.box 142 [.i .i64 (iterT q i).1, .i .i64 (iterT q i).2])) m ?_ ?_)
    · simp [setF_if, argE, upd_if, iterT, h4, *]
    rintro d E H n' ⟨i, hi, hn1, h2, h4', h12, h13, hH1, hH0⟩
    have hn0 : 0 < n' := by omega
    have hs : iterT q (i + 1) = stepT (iterT q i) := rfl
    have hs1 : (stepT (iterT q i)).1 = IntKind.i64.wrap (0 - (iterT q i).2) := rfl
    have hs2 : (stepT (iterT q i)).2 = (iterT q i).1 := rfl
    by_cases c : (i : Int) < (m : Int)
    · have hw_i : IntKind.i64.wrap ((i : Int) + 1) = (i : Int) + 1 := wr64 (by omega) (by omega)
      refine AL ?_
      refine ⟨m - (i + 1), by omega, i + 1, by omega, ?_⟩
      simp [setF_if, upd_if, *]
    · have e' : i = m := by omega
      subst e'
      refine AL ?_
      simp [retA, backA, backsA]
theorem l03Turn_fn (G : Gv) (x y : Int) (t : Nat) : Gives Tryz.prog G 227 [cellA x y, .i .i64 t] (cellA (turnM (x, y) t).1 (turnM (x, y) t).2) := by
  refine .of (.body Tryz.func227 rfl (by simp [Tryz.ntmps227]) ?_)
  rw [Tryz.ntmps227, Tryz.results227]
  have h4 := rem4 (t := t)
  unfold turnM
  obtain ⟨m, hm⟩ : ∃ m, t % 4 = m := ⟨_, rfl⟩
  have hm4 : m < 4 := by omega
  have hmw : IntKind.i64.wrap (m : Int) = m := wr64 (by omega) (by omega)
  rw [hm] at h4 ⊢
  obtain ⟨q, hf⟩ : ∃ q, flipT (x, y) t = q := ⟨_, rfl⟩
  rw [hf]
  by_cases c4 : (t : Int) ≥ 4
  all_goals
    unfold flipT at hf
    first | rw [if_pos (by omega)] at hf | rw [if_neg (by omega)] at hf
    have hq1 := congrArg Prod.fst hf
    have hq2 := congrArg Prod.snd hf
    simp only at hq1 hq2
    clear hf
    refine AL ?_
    refine .loop (.inv (fun d E H n' => ∃ i : Nat, i + d = m ∧ 1 < n' ∧ E 2 = .ptr 0 0 0 0 ∧ E 4 = .ptr 1 0 0 0 ∧ E 5 = .i .i64 (d : Int) ∧ H 1 = some (.box 142 [.i .i64 0, .i .i64 0]) ∧ H 0 = some (.box 142 [.i .i64 (iterT q i).1, .i .i64 (iterT q i).2])) m ?_ ?_)
    · simp [setF_if, argE, upd_if, iterT, h4, *]
    rintro d E H n' ⟨i, hi, hn1, h2, h4', h5, hH1, hH0⟩
    have hn0 : 0 < n' := by omega
    have hs : iterT q (i + 1) = stepT (iterT q i) := rfl
    have hs1 : (stepT (iterT q i)).1 = IntKind.i64.wrap (0 - (iterT q i).2) := rfl
    have hs2 : (stepT (iterT q i)).2 = (iterT q i).1 := rfl
    by_cases c : (d : Int) > 0
    · have hw : IntKind.i64.wrap ((d : Int) - 1) = ((d - 1 : Nat) : Int) := by rw [wr64 (by omega) (by omega)]; omega
      refine AL ?_
      refine ⟨d - 1, by omega, i + 1, by omega, ?_⟩
      simp [setF_if, upd_if, *]
    · have e' : i = m := by omega
      subst e'
      refine AL ?_
      simp [retA, backA, backsA]
end Go.Proofs
end
section
open Go Go.Big
namespace Go.Proofs
set_option maxHeartbeats 2000000
theorem drop_at {l : List (Int × Int)} {i : Nat} (h : i < l.length) : l.drop i = l.getD i (0, 0) :: l.drop (i + 1) := by
  rw [List.drop_eq_getElem_cons h]; simp [List.getD_eq_getElem?_getD, h]
/-- The first place where two lists differ decides. -/
def cmpL : List (Int × Int) → List (Int × Int) → Int
  | [], _ => 0
  | _ :: _, [] => 0
  | p :: l, q :: k => if lessC p.1 p.2 q.1 q.2 then -1 else if lessC q.1 q.2 p.1 p.2 then 1 else cmpL l k
def cmpM (l k : List (Int × Int)) : Int := if l.length = k.length then cmpL l k else if l.length < k.length then -1 else 1
theorem cmpL_same {l k : List (Int × Int)} {i : Nat} (hi : i < l.length) (hk : i < k.length) (h1 : lessC (l.getD i (0, 0)).1 (l.getD i (0, 0)).2 (k.getD i (0, 0)).1 (k.getD i (0, 0)).2 = false) (h2 : lessC (k.getD i (0, 0)).1 (k.getD i (0, 0)).2 (l.getD i (0, 0)).1 (l.getD i (0, 0)).2 = false) : cmpL (l.drop i) (k.drop i) = cmpL (l.drop (i + 1)) (k.drop (i + 1)) := by
  rw [drop_at hi, drop_at hk, cmpL, h1, h2]; simp
theorem specCompareShapes_fn (G : Gv) (l k : List (Int × Int)) (hl : l.length < 1000000000) (hk : k.length < 1000000000) : Gives Tryz.prog G 182 [.sl 0 (cells l), .sl 0 (cells k)] (.i .i64 (cmpM l k)) := by
  refine .of (.body Tryz.func182 rfl (by simp [Tryz.ntmps182]) ?_)
  rw [Tryz.ntmps182, Tryz.results182]
  have hlen := cells_len l
  have hlen2 := cells_len k
  by_cases ce : l.length = k.length
  · have hne : ((l.length : Int) != (l.length : Int)) = false := by simp
    replace ce := ce.symm
    refine AL ?_
    refine .loop (.inv (fun d E H n' => ∃ i : Nat, i + d = l.length ∧ E 0 = .sl 0 (cells l) ∧ E 1 = .sl 0 (cells k) ∧ E 5 = .i .i64 i ∧ cmpL (l.drop i) (k.drop i) = cmpL l k) l.length ?_ ?_)
    · simp [setF_if, argE]
    rintro d E H n' ⟨i, hi, h0, h1, h5, hc⟩
    by_cases c : (i : Int) < l.length
    · have hr := cells_at (l := l) (i := i) (by omega)
      have hr2 := cells_at (l := k) (i := i) (by omega)
      have hw_i : IntKind.i64.wrap ((i : Int) + 1) = (i : Int) + 1 := wr64 (by omega) (by omega)
      have hs := cmpL_same (l := l) (k := k) (i := i) (by omega) (by omega)
      have hd1 := drop_at (l := l) (i := i) (by omega)
      have hd2 := drop_at (l := k) (i := i) (by omega)
      rw [hd1, hd2] at hc
      rw [hd1, hd2] at hs
      generalize l.getD i (0, 0) = p at hr hs hc
      generalize k.getD i (0, 0) = q at hr2 hs hc
      clear hd1 hd2
      refine AL ?_
      refine CQ (l02Less_fn G _ _ _ _) ?_
      by_cases c1 : lessC p.1 p.2 q.1 q.2 = true
      · refine AL ?_
        have : cmpM l k = -1 := by unfold cmpM; rw [if_pos ce.symm, ← hc, cmpL, if_pos c1]
        simp [retA, backA, this]
      · refine AL ?_
        refine CQ (l02Less_fn G _ _ _ _) ?_
        by_cases c2 : lessC q.1 q.2 p.1 p.2 = true
        · refine AL ?_
          have : cmpM l k = 1 := by unfold cmpM; rw [if_pos ce.symm, ← hc, cmpL, if_neg c1, if_pos c2]
          simp [retA, backA, this]
        · refine AL ?_
          simp only [Bool.not_eq_true] at c1 c2
          have hs := hs c1 c2
          refine ⟨l.length - (i + 1), by omega, i + 1, by omega, ?_⟩
          simp [setF_if, *]
          rw [← hs, hc]
    · have e : i = l.length := by omega
      subst e
      refine AL ?_
      have : cmpM l k = 0 := by unfold cmpM; rw [if_pos ce.symm, ← hc, List.drop_length, cmpL]
      simp [retA, backA, this]
  · have hne : ((l.length : Int) != (k.length : Int)) = true := by simp; omega
    by_cases c : (l.length : Int) < k.length
    · refine AL ?_
      have : cmpM l k = -1 := by unfold cmpM; rw [if_neg ce, if_pos (by omega)]
      simp [retA, backA, this]
    · refine AL ?_
      have : cmpM l k = 1 := by unfold cmpM; rw [if_neg ce, if_neg (by omega)]
      simp [retA, backA, this]
theorem cmpC_cases (a b c d : Int) : cmpC a b c d = if lessC a b c d then -1 else if lessC c d a b then 1 else 0 := by
  unfold cmpC lessC cmpI
  by_cases h1 : b < d <;> by_cases h2 : d < b <;> by_cases h3 : a < c <;> by_cases h4 : c < a <;> simp [h1, h2, h3, h4] <;> omega
theorem compareFunc_fn (G : Gv) (l k : List (Int × Int)) (hl : l.length < 1000000000) (ce : k.length = l.length) : Gives Tryz.prog G 282 [.sl 0 (cells l), .sl 0 (cells k), .fn 207 []] (.i .i64 (cmpL l k)) := by
  refine .of (.body Tryz.func282 rfl (by simp [Tryz.ntmps282]) ?_)
  rw [Tryz.ntmps282, Tryz.results282]
  have hlen := cells_len l
  have hlen2 := cells_len k
  refine AL ?_
  refine .loop (.inv (fun d E H n' => ∃ i : Nat, i + d = l.length ∧ E 0 = .sl 0 (cells l) ∧ E 1 = .sl 0 (cells k) ∧ E 2 = .fn 207 [] ∧ E 11 = .sl 0 (cells l) ∧ E 12 = .i .i64 l.length ∧ E 13 = .i .i64 i ∧ cmpL (l.drop i) (k.drop i) = cmpL l k) l.length ?_ ?_)
  · simp [setF_if, argE]
  rintro d E H n' ⟨i, hi, h0, h1, h2, h11, h12, h13, hc⟩
  by_cases c : (i : Int) < l.length
  · have hr := cells_at (l := l) (i := i) (by omega)
    have hr2 := cells_at (l := k) (i := i) (by omega)
    have hw_i : IntKind.i64.wrap ((i : Int) + 1) = (i : Int) + 1 := wr64 (by omega) (by omega)
    have hg : ((i : Int) ≥ l.length) = False := by simp; omega
    have hs := cmpL_same (l := l) (k := k) (i := i) (by omega) (by omega)
    have hd1 := drop_at (l := l) (i := i) (by omega)
    have hd2 := drop_at (l := k) (i := i) (by omega)
    rw [hd1, hd2] at hc
    rw [hd1, hd2] at hs
    generalize l.getD i (0, 0) = p at hr hs hc
    generalize k.getD i (0, 0) = q at hr2 hs hc
    clear hd1 hd2
    have hcc := cmpC_cases p.1 p.2 q.1 q.2
    refine AL ?_
    refine CV (compareCells_fn G _ _ _ _) ?_
    by_cases c1 : lessC p.1 p.2 q.1 q.2 = true
    · rw [if_pos c1] at hcc
      have hb : ((-1 : Int) != 0) = true := rfl
      refine AL ?_
      have : cmpL l k = -1 := by rw [← hc, cmpL, if_pos c1]
      simp [retA, backA, this]
    · rw [if_neg c1] at hcc
      by_cases c2 : lessC q.1 q.2 p.1 p.2 = true
      · rw [if_pos c2] at hcc
        have hb : ((1 : Int) != 0) = true := rfl
        refine AL ?_
        have : cmpL l k = 1 := by rw [← hc, cmpL, if_neg c1, if_pos c2]
        simp [retA, backA, this]
      · rw [if_neg c2] at hcc
        have hb : ((0 : Int) != 0) = false := rfl
        refine AL ?_
        simp only [Bool.not_eq_true] at c1 c2
        have hs := hs c1 c2
        refine ⟨l.length - (i + 1), by omega, i + 1, by omega, ?_⟩
        simp [setF_if, *]
        rw [← hs, hc]
  · have e : i = l.length := by omega
    subst e
    have hg : ((l.length : Int) < l.length) = False := by simp
    refine AL ?_
    have : cmpL l k = 0 := by rw [← hc, List.drop_length, cmpL]
    simp [retA, backA, this]
theorem compareShapes_fn (G : Gv) (l k : List (Int × Int)) (hl : l.length < 1000000000) (hk : k.length < 1000000000) : Gives Tryz.prog G 235 [.sl 0 (cells l), .sl 0 (cells k)] (.i .i64 (cmpM l k)) := by
  refine .of (.body Tryz.func235 rfl (by simp [Tryz.ntmps235]) ?_)
  rw [Tryz.ntmps235, Tryz.results235]
  have hlen := cells_len l
  have hlen2 := cells_len k
  by_cases ce : l.length = k.length
  · have hne : ((l.length : Int) != (l.length : Int)) = false := by simp
    replace ce := ce.symm
    refine AL ?_
    refine CV (compareFunc_fn G l k hl ce) ?_
    refine AL ?_
    have : cmpM l k = cmpL l k := by unfold cmpM; rw [if_pos ce.symm]
    simp [retA, backA, this]
  · have hne : ((l.length : Int) != (k.length : Int)) = true := by simp; omega
    by_cases c : (l.length : Int) < k.length
    · refine AL ?_
      have : cmpM l k = -1 := by unfold cmpM; rw [if_neg ce, if_pos (by omega)]
      simp [retA, backA, this]
    · refine AL ?_
      have : cmpM l k = 1 := by unfold cmpM; rw [if_neg ce, if_neg (by omega)]
      simp [retA, backA, this]
end Go.Proofs
end
section
open Go Go.Big
namespace Go.Proofs
set_option maxHeartbeats 2000000
def insM (c : Int × Int) : List (Int × Int) → List (Int × Int)
  | [] => [c]
  | p :: l => if lessC c.1 c.2 p.1 p.2 then c :: p :: l else p :: insM c l
theorem insM_len (c : Int × Int) : ∀ l, (insM c l).length = l.length + 1
  | [] => rfl
  | p :: l => by unfold insM; split <;> simp [insM_len c l]
theorem cells_app (l k : List (Int × Int)) : cells l ++ cells k = cells (l ++ k) := by simp [cells]
theorem cells_one (p : Int × Int) : ([[.i .i64 p.1, .i .i64 p.2]] : List (List PV)) = cells [p] := rfl
theorem cells_two (a b : Int) : ([[.i .i64 a, .i .i64 b]] : List (List PV)) = cells [(a, b)] := rfl
theorem l02Insert_fn (G : Gv) (l : List (Int × Int)) (x y : Int) (hl : l.length < 1000000000) : Gives Tryz.prog G 231 [.sl 0 (cells l), cellA x y] (.sl 1 (cells (insM (x, y) l))) := by
  refine .of (.body Tryz.func231 rfl (by simp [Tryz.ntmps231]) ?_)
  rw [Tryz.ntmps231, Tryz.results231]
  have hlen := cells_len l
  refine AL ?_
  refine .loop (.inv (fun d E H n' => ∃ i : Nat, i + d = l.length ∧ 2 < n' ∧ E 0 = .sl 0 (cells l) ∧ E 3 = .ptr 0 0 0 0 ∧ E 7 = .i .i64 i ∧ H 0 = some (.box 142 [.i .i64 x, .i .i64 y]) ∧ ∃ e out done, E 6 = .b done ∧ E 5 = .own 2 e ∧ H 2 = some (.arr e 142 2 (cells out) 1) ∧ out.length ≤ i + done.toNat ∧ (if done then out ++ l.drop i else out ++ insM (x, y) (l.drop i)) = insM (x, y) l) l.length ?_ ?_)
  · exact ⟨0, by omega, by omega, by simp [setF_if, argE, upd_if], by simp [setF_if, argE, upd_if], by simp [setF_if, argE, upd_if], by simp [setF_if, argE, upd_if], 0, [], false, by simp [setF_if, argE, upd_if], by simp [setF_if, argE, upd_if], by simp [setF_if, argE, upd_if, cells], by simp, by simp⟩
  rintro d E H n' ⟨i, hi, hn2, h0, h3, h7, hH0, e, out, done, h6, h5, hH2, hol, heq⟩
  have hn0 : 0 < n' := by omega
  have hor := cells_len out
  by_cases c : (i : Int) < l.length
  · have hr := cells_at (l := l) (i := i) (by omega)
    have hw_i : IntKind.i64.wrap ((i : Int) + 1) = (i : Int) + 1 := wr64 (by omega) (by omega)
    have hd := drop_at (l := l) (i := i) (by omega)
    rw [hd] at heq
    generalize l.getD i (0, 0) = p at hr heq
    have hol' : out.length ≤ i + 1 := by cases done <;> simp at hol <;> omega
    have hb : ∀ k, k ≤ i + 4 → k * 16 ≤ 140737488355328 := fun k hk => by omega
    have hb1 : (out.length + 1) * 16 ≤ 140737488355328 := by omega
    have hb2 : (out.length + 1 + 1) * 16 ≤ 140737488355328 := by omega
    have hx : (cells out ++ [[PV.i .i64 x, PV.i .i64 y]]).length = out.length + 1 := by simp [cells]
    cases done with
    | true =>
      have bt : (!true) = false := rfl
      refine AL ?_
      refine ⟨l.length - (i + 1), by omega, i + 1, by omega, ?_⟩
      simp only [if_true] at heq
      exact ⟨by omega, by simp [setF_if, upd_if, *], by simp [setF_if, upd_if, *], by simp [setF_if, upd_if, *], by simp [setF_if, upd_if, *], e + 1, out ++ [p], true, by simp [setF_if, upd_if, *], by simp [setF_if, upd_if, *], by simp [setF_if, upd_if, cells, *], by simp at hol ⊢; omega, by simp; exact heq⟩
    | false =>
      have bt : (!false) = true := rfl
      simp only [Bool.false_eq_true, if_false] at heq
      refine AL ?_
      refine CQ (l02Less_fn G _ _ _ _) ?_
      by_cases cl : lessC x y p.1 p.2 = true
      · refine AL ?_
        refine ⟨l.length - (i + 1), by omega, i + 1, by omega, ?_⟩
        rw [insM, if_pos cl] at heq
        exact ⟨by omega, by simp [setF_if, upd_if, *], by simp [setF_if, upd_if, *], by simp [setF_if, upd_if, *], by simp [setF_if, upd_if, *], e + 1 + 1, out ++ [(x, y), p], true, by simp [setF_if, upd_if, *], by simp [setF_if, upd_if, *], by simp [setF_if, upd_if, cells, *], by
          simp at hol ⊢
          omega, by simpa using heq⟩
      · refine AL ?_
        refine ⟨l.length - (i + 1), by omega, i + 1, by omega, ?_⟩
        rw [insM, if_neg cl] at heq
        exact ⟨by omega, by simp [setF_if, upd_if, *], by simp [setF_if, upd_if, *], by simp [setF_if, upd_if, *], by simp [setF_if, upd_if, *], e + 1, out ++ [p], false, by simp [setF_if, upd_if, *], by simp [setF_if, upd_if, *], by simp [setF_if, upd_if, cells, *], by simp at hol ⊢; omega, by simpa using heq⟩
  · have e' : i = l.length := by omega
    subst e'
    rw [List.drop_length] at heq
    have hol' : out.length ≤ l.length + 1 := by cases done <;> simp at hol <;> omega
    have hb1 : (out.length + 1) * 16 ≤ 140737488355328 := by omega
    cases done with
    | true =>
      have bt : (!true) = false := rfl
      simp only [if_true, List.append_nil] at heq
      refine AL ?_
      simp [retA, backA, newSl, newB, hH2, heq]
    | false =>
      have bt : (!false) = true := rfl
      simp only [Bool.false_eq_true, if_false, insM] at heq
      refine AL ?_
      simp [retA, backA, newSl, newB, upd_if, ← heq, cells]
end Go.Proofs
end
section
open Go Go.Big
namespace Go.Proofs
set_option maxHeartbeats 2000000
theorem equal_fn (G : Gv) (l k : List (Int × Int)) (hl : l.length < 1000000000) (hk : k.length < 1000000000) : Gives Tryz.prog G 187 [.sl 0 (cells l), .sl 0 (cells k)] (.b (decide (l = k))) := by
  refine .of (.body Tryz.func187 rfl (by simp [Tryz.ntmps187]) ?_)
  rw [Tryz.ntmps187, Tryz.results187]
  have hlen := cells_len l
  have hlen2 := cells_len k
  by_cases ce : k.length = l.length
  · have hne : ((l.length : Int) != (l.length : Int)) = false := by simp
    refine AL ?_
    refine .loop (.inv (fun d E H n' => ∃ i : Nat, i + d = l.length ∧ E 0 = .sl 0 (cells l) ∧ E 1 = .sl 0 (cells k) ∧ E 12 = .i .i64 l.length ∧ E 13 = .i .i64 i ∧ (∀ j, j < i → l.getD j (0, 0) = k.getD j (0, 0))) l.length ?_ ?_)
    · simp [setF_if, argE]
    rintro d E H n' ⟨i, hi, h0, h1, h12, h13, hall⟩
    by_cases c : (i : Int) < l.length
    · have hr := cells_at (l := l) (i := i) (by omega)
      have hr2 := cells_at (l := k) (i := i) (by omega)
      have hw_i : IntKind.i64.wrap ((i : Int) + 1) = (i : Int) + 1 := wr64 (by omega) (by omega)
      have hno : l.getD i (0, 0) ≠ k.getD i (0, 0) → decide (l = k) = false := fun h => by
        simp only [decide_eq_false_iff_not]; intro e; exact h (by rw [e])
      have more : l.getD i (0, 0) = k.getD i (0, 0) → ∀ j, j < i + 1 → l.getD j (0, 0) = k.getD j (0, 0) := fun h j hj => by
        by_cases e : j = i
        · rw [e]; exact h
        · exact hall j (by omega)
      generalize l.getD i (0, 0) = p at hr hno more
      generalize k.getD i (0, 0) = q at hr2 hno more
      by_cases c1 : (p.1 == q.1 && p.2 == q.2) = true
      · refine AL ?_
        refine ⟨l.length - (i + 1), by omega, i + 1, by omega, ?_⟩
        simp [setF_if, *]
        simp only [Bool.and_eq_true, beq_iff_eq] at c1
        exact more (Prod.ext c1.1 c1.2)
      · refine AL ?_
        have := hno (fun e => c1 (by rw [e]; simp))
        simp [retA, backA, this]
    · refine AL ?_
      have : decide (l = k) = true := by
        simp only [decide_eq_true_eq]
        apply List.ext_getElem?
        intro j
        by_cases hj : j < l.length
        · have := hall j (by omega)
          simp only [List.getD_eq_getElem?_getD, List.getElem?_eq_getElem hj, List.getElem?_eq_getElem (show j < k.length by omega), Option.getD_some] at this
          rw [List.getElem?_eq_getElem hj, List.getElem?_eq_getElem (show j < k.length by omega), this]
        · rw [List.getElem?_eq_none (by omega), List.getElem?_eq_none (by omega)]
      simp [retA, backA, this]
  · have hne : ((l.length : Int) != (k.length : Int)) = true := by simp; omega
    refine AL ?_
    have : decide (l = k) = false := by simp only [decide_eq_false_iff_not]; intro e; exact ce (by rw [e])
    simp [retA, backA, this]
theorem equalShapes_fn (G : Gv) (l k : List (Int × Int)) (hl : l.length < 1000000000) (hk : k.length < 1000000000) : Gives Tryz.prog G 262 [.sl 0 (cells l), .sl 0 (cells k)] (.b (decide (l = k))) := by
  refine .of (.body Tryz.func262 rfl (by simp [Tryz.ntmps262]) ?_)
  rw [Tryz.ntmps262, Tryz.results262]
  refine AL ?_
  refine CV (equal_fn G l k hl hk) ?_
  refine AL ?_
  simp [retA, backA]
def sortM (l : List (Int × Int)) : List (Int × Int) := l.foldl (fun a c => insM c a) []
theorem sortM_take {l : List (Int × Int)} {i : Nat} (h : i < l.length) : sortM (l.take (i + 1)) = insM (l.getD i (0, 0)) (sortM (l.take i)) := by
  unfold sortM
  rw [List.take_succ_eq_append_getElem h, List.foldl_append]
  simp only [List.foldl_cons, List.foldl_nil, List.getD_eq_getElem?_getD, List.getElem?_eq_getElem h, Option.getD_some]
theorem foldl_ins_len : ∀ (l a : List (Int × Int)), (l.foldl (fun a c => insM c a) a).length = a.length + l.length
  | [], a => by simp
  | c :: l, a => by rw [List.foldl_cons, foldl_ins_len l, insM_len, List.length_cons]; omega
theorem sortM_len (l : List (Int × Int)) : (sortM l).length = l.length := by unfold sortM; rw [foldl_ins_len]; simp
theorem l02Sort_fn (G : Gv) (l : List (Int × Int)) (h1 : 0 < l.length) (hl : l.length < 1000000000) : Gives Tryz.prog G 228 [.sl 0 (cells l)] (.sl 1 (cells (sortM l))) := by
  refine .of (.body Tryz.func228 rfl (by simp [Tryz.ntmps228]) ?_)
  rw [Tryz.ntmps228, Tryz.results228]
  have hlen := cells_len l
  refine AL ?_
  refine .loop (.inv (fun d E H n' => ∃ i : Nat, i + d = l.length ∧ E 0 = .sl 0 (cells l) ∧ E 4 = .i .i64 i ∧ (E 3 = .own 1 0 ∧ H 1 = some (.arr 0 142 2 (cells (sortM (l.take i))) 1) ∧ i = 0 ∨ E 3 = .sl 1 (cells (sortM (l.take i))))) l.length ?_ ?_)
  · simp [setF_if, argE, upd_if, sortM, cells]
  rintro d E H n' ⟨i, hi, h0, h4, h3⟩
  by_cases c : (i : Int) < l.length
  · have hr := cells_at (l := l) (i := i) (by omega)
    have hw_i : IntKind.i64.wrap ((i : Int) + 1) = (i : Int) + 1 := wr64 (by omega) (by omega)
    have hsl : (sortM (l.take i)).length < 1000000000 := by rw [sortM_len, List.length_take]; omega
    have hs := sortM_take (l := l) (i := i) (by omega)
    generalize sortM (l.take i) = a at h3 hsl hs
    rcases h3 with ⟨h3, hH, hi0⟩ | h3
    · clear hi0
      refine AL ?_
      refine CV (l02Insert_fn G _ _ _ hsl) ?_
      refine AL ?_
      refine ⟨l.length - (i + 1), by omega, i + 1, by omega, ?_⟩
      simp [setF_if, *]
    · refine AL ?_
      refine CV (l02Insert_fn G _ _ _ hsl) ?_
      refine AL ?_
      refine ⟨l.length - (i + 1), by omega, i + 1, by omega, ?_⟩
      simp [setF_if, *]
  · have e' : i = l.length := by omega
    subst e'
    rcases h3 with ⟨h3, hH, hi0⟩ | h3
    · omega
    · refine AL ?_
      simp [retA, backA, newSl, newB, List.take_length]
end Go.Proofs
end
section
open Go Go.Big
namespace Go.Proofs
set_option maxHeartbeats 2000000
def turnL (l : List (Int × Int)) (t : Nat) : List (Int × Int) := l.map fun p => turnM p t
def formM (l : List (Int × Int)) (t : Nat) : List (Int × Int) := normM (sortM (turnL l t))
theorem turnL_len (l : List (Int × Int)) (t : Nat) : (turnL l t).length = l.length := by simp [turnL]
theorem normM_len (l : List (Int × Int)) : (normM l).length = l.length := by simp [normM, movedM]
theorem formM_len (l : List (Int × Int)) (t : Nat) : (formM l t).length = l.length := by unfold formM; rw [normM_len, sortM_len, turnL_len]
theorem turn_take {l : List (Int × Int)} {i : Nat} (t : Nat) (h : i < l.length) : cells (turnL (l.take i) t) ++ [[.i .i64 (turnM (l.getD i (0, 0)) t).1, .i .i64 (turnM (l.getD i (0, 0)) t).2]] = cells (turnL (l.take (i + 1)) t) := by
  rw [List.take_succ_eq_append_getElem h]; simp only [cells, turnL, List.map_append, List.map_cons, List.map_nil, List.getD_eq_getElem?_getD, List.getElem?_eq_getElem h, Option.getD_some]
theorem l03Form_fn (G : Gv) (l : List (Int × Int)) (t : Nat) (h1 : 0 < l.length) (hl : l.length < 1000000000) : Gives Tryz.prog G 183 [.sl 0 (cells l), .i .i64 t] (.sl 1 (cells (formM l t))) := by
  refine .of (.body Tryz.func183 rfl (by simp [Tryz.ntmps183]) ?_)
  rw [Tryz.ntmps183, Tryz.results183]
  have hlen := cells_len l
  refine AL ?_
  refine .loop (.inv (fun d E H n' => ∃ i : Nat, i + d = l.length ∧ 1 < n' ∧ E 0 = .sl 0 (cells l) ∧ E 1 = .i .i64 t ∧ E 6 = .i .i64 i ∧ ∃ e, E 5 = .own 1 e ∧ H 1 = some (.arr e 142 2 (cells (turnL (l.take i) t)) 1)) l.length ?_ ?_)
  · simp [setF_if, argE, upd_if, turnL, cells]
  rintro d E H n' ⟨i, hi, hn1, h0, h1', h6, e, h5, hH⟩
  by_cases c : (i : Int) < l.length
  · have hr := cells_at (l := l) (i := i) (by omega)
    have hw_i : IntKind.i64.wrap ((i : Int) + 1) = (i : Int) + 1 := wr64 (by omega) (by omega)
    have hrl : (cells (turnL (l.take i) t)).length = i := by simp [cells, turnL]; omega
    have hb : (i + 1) * 16 ≤ 140737488355328 := by omega
    have htk := turn_take (l := l) (i := i) t (by omega)
    generalize l.getD i (0, 0) = p at hr htk
    refine AL ?_
    refine CV (l03Turn_fn G _ _ _) ?_
    refine AL ?_
    refine ⟨l.length - (i + 1), by omega, i + 1, by omega, ?_⟩
    simp [setF_if, upd_if, *]
  · have e' : i = l.length := by omega
    subst e'
    rw [List.take_length] at hH
    have k1 : 0 < (turnL l t).length := by rw [turnL_len]; exact h1
    have k2 : (turnL l t).length < 1000000000 := by rw [turnL_len]; exact hl
    refine AL ?_
    refine CV (l02Sort_fn G _ k1 k2) ?_
    refine AL ?_
    refine CV (l02Normal_fn G _ (by rw [sortM_len]; exact k1) (by rw [sortM_len]; exact k2)) ?_
    refine AL ?_
    simp [retA, backA, newSl, newB, formM]
def shapesR (ls : List (List (Int × Int))) : List (List PV) := ls.map fun l => [.sl (cells l)]
theorem shapesR_len (ls : List (List (Int × Int))) : (shapesR ls).length = ls.length := by simp [shapesR]
theorem shapesR_at {ls : List (List (Int × Int))} {i : Nat} (h : i < ls.length) : (shapesR ls)[i]? = some [.sl (cells (ls.getD i []))] := by
  simp [shapesR, h, List.getD_eq_getElem?_getD]
theorem dropS_at {l : List (List (Int × Int))} {i : Nat} (h : i < l.length) : l.drop i = l.getD i [] :: l.drop (i + 1) := by
  rw [List.drop_eq_getElem_cons h]; simp [List.getD_eq_getElem?_getD, h]
def insS (c : List (Int × Int)) : List (List (Int × Int)) → List (List (Int × Int))
  | [] => [c]
  | x :: l => if cmpM c x < 0 then c :: x :: l else x :: insS c l
theorem insS_len (c : List (Int × Int)) : ∀ l, (insS c l).length = l.length + 1
  | [] => rfl
  | p :: l => by unfold insS; split <;> simp [insS_len c l]
def sameAt (c : List (Int × Int)) (ls : List (List (Int × Int))) (i : Nat) : Bool := cmpM c (ls.getD i []) == 0
def addS (c : List (Int × Int)) (ls : List (List (Int × Int))) : List (List (Int × Int)) := if (List.range ls.length).any (sameAt c ls) then ls else insS c ls
theorem any_yes {p : Nat → Bool} {n i : Nat} (hi : i < n) (h : p i = true) : (List.range n).any p = true := by
  rw [List.any_eq_true]; exact ⟨i, List.mem_range.mpr hi, h⟩
theorem any_no {p : Nat → Bool} {n : Nat} (h : ∀ j, j < n → p j = false) : (List.range n).any p = false := by
  rw [List.any_eq_false]; intro x hx; simp [h x (List.mem_range.mp hx)]
end Go.Proofs
end
section
open Go Go.Big
namespace Go.Proofs
set_option maxHeartbeats 2000000
theorem bnd24 {a b c : Nat} (h : a ≤ b + 1) (h2 : b ≤ c) (hb : c < 1000000) : (a + 1) * 24 ≤ 140737488355328 ∧ (a + 1 + 1) * 24 ≤ 140737488355328 := by omega
theorem l03Add_fn (G : Gv) (c : List (Int × Int)) (ls : List (List (Int × Int))) (H : Heap) (n o e : Nat) (ho : o < n) (hH : H o = some (.arr e 32 1 (shapesR ls) 1)) (hc : c.length < 1000000000) (hls : ls.length < 1000000) (hl : ∀ l ∈ ls, l.length < 1000000000) :
    WC Tryz.prog G 230 [.own o e, .sl 1 (cells c)] H n (fun r H' n' => ∃ o' e', r = .own o' e' ∧ o' < n' ∧ H' o' = some (.arr e' 32 1 (shapesR (addS c ls)) 1)) := by
  refine (.body Tryz.func230 rfl (by simp [Tryz.ntmps230]) ?_)
  rw [Tryz.ntmps230, Tryz.results230]
  have hlen := shapesR_len ls
  replace hl := Hid.mk hl
  obtain ⟨m, hm⟩ : ∃ m, m = n + 1 := ⟨_, rfl⟩
  have hom : o < m := by omega
  have om1 : (o = m) = False := by simp; omega
  have om2 : (m = o) = False := by simp; omega
  refine AL ?_
  refine .loop (.inv (fun d E H n' => ∃ i : Nat, i + d = ls.length ∧ m < n' ∧ E 0 = .own o e ∧ H o = some (.arr e 32 1 (shapesR ls) 1) ∧ E 1 = .sl 1 (cells c) ∧ E 7 = .i .i64 i ∧ (∀ j, j < i → sameAt c ls j = false) ∧ ∃ e out done, E 6 = .b done ∧ E 5 = .own m e ∧ H m = some (.arr e 32 1 (shapesR out) 1) ∧ out.length ≤ i + done.toNat ∧ (if done then out ++ ls.drop i else out ++ insS c (ls.drop i)) = insS c ls) ls.length ?_ ?_)
  · subst hm
    exact ⟨0, by omega, by omega, by simp [setF_if, argE, upd_if], by simp [setF_if, argE, upd_if, hH]; omega, by simp [setF_if, argE, upd_if], by simp [setF_if, argE, upd_if], by omega, 0, [], false, by simp [setF_if, argE, upd_if], by simp [setF_if, argE, upd_if], by simp [setF_if, argE, upd_if, shapesR], by simp, by simp⟩
  clear hH hm ho
  rintro d E H n' ⟨i, hi, hn1, h0, hHo, h1, h7, hall, e2, out, done, h6, h5, hH2, hol, heq⟩
  replace hall := Hid.mk hall
  have hon : o < n' := by omega
  have hneo : ∀ k, (o = n' + k) = False := fun k => neAdd hon
  have hol' : out.length ≤ i + 1 := by cases done <;> simp at hol <;> omega
  have hor := shapesR_len out
  by_cases ci : (i : Int) < ls.length
  · have hr := shapesR_at (ls := ls) (i := i) (by omega)
    have hw_i : IntKind.i64.wrap ((i : Int) + 1) = (i : Int) + 1 := wr64 (by omega) (by omega)
    have ciN : i < ls.length := by omega
    have hd := dropS_at (l := ls) (i := i) (by omega)
    rw [hd] at heq
    have hat : sameAt c ls i = (cmpM c (ls.getD i []) == 0) := rfl
    have hpl : (ls.getD i []).length < 1000000000 := hl.out _ (by rw [List.getD_eq_getElem?_getD, List.getElem?_eq_getElem (by omega)]; exact List.getElem_mem _)
    clear hd
    generalize ls.getD i [] = p at hr heq hat hpl
    obtain ⟨hb1, hb2⟩ := bnd24 hol' (Nat.le_of_lt ciN) hls
    have hx : (shapesR out ++ [[PV.sl (cells c)]]).length = out.length + 1 := by simp [shapesR]
    replace heq := Hid.mk heq
    replace hol := Hid.mk hol
    replace hat := Hid.mk hat
    refine AL ?_
    refine CV (specCompareShapes_fn G c p hc hpl) ?_
    repeat first | refine OP ?_ | refine SK ?_ | refine OPN ?_ | refine WR.nil ?_
    refine TH ?_
    refine W.cut ?_
    intro EX HX hEX hHX
    replace hEX := Hid.mk hEX
    replace hHX := Hid.mk hHX
    have fE0 := hEX.out 0
    simp only [setF_if, upd_if, neAdd, neLt, ltAdd, addNe, ltNe, Nat.left_eq_add, Nat.add_eq_left, Nat.reduceEqDiff, Nat.add_assoc, Nat.reduceAdd, reduceIte, *] at fE0
    have fE1 := hEX.out 1
    simp only [setF_if, upd_if, neAdd, neLt, ltAdd, addNe, ltNe, Nat.left_eq_add, Nat.add_eq_left, Nat.reduceEqDiff, Nat.add_assoc, Nat.reduceAdd, reduceIte, *] at fE1
    have fE5 := hEX.out 5
    simp only [setF_if, upd_if, neAdd, neLt, ltAdd, addNe, ltNe, Nat.left_eq_add, Nat.add_eq_left, Nat.reduceEqDiff, Nat.add_assoc, Nat.reduceAdd, reduceIte, *] at fE5
    have fE6 := hEX.out 6
    simp only [setF_if, upd_if, neAdd, neLt, ltAdd, addNe, ltNe, Nat.left_eq_add, Nat.add_eq_left, Nat.reduceEqDiff, Nat.add_assoc, Nat.reduceAdd, reduceIte, *] at fE6
    have fE7 := hEX.out 7
    simp only [setF_if, upd_if, neAdd, neLt, ltAdd, addNe, ltNe, Nat.left_eq_add, Nat.add_eq_left, Nat.reduceEqDiff, Nat.add_assoc, Nat.reduceAdd, reduceIte, *] at fE7
    have fE8 := hEX.out 8
    simp only [setF_if, upd_if, neAdd, neLt, ltAdd, addNe, ltNe, Nat.left_eq_add, Nat.add_eq_left, Nat.reduceEqDiff, Nat.add_assoc, Nat.reduceAdd, reduceIte, *] at fE8
    have fH0 := hHX.out (o)
    simp only [setF_if, upd_if, neAdd, neLt, ltAdd, addNe, ltNe, Nat.left_eq_add, Nat.add_eq_left, Nat.reduceEqDiff, Nat.add_assoc, Nat.reduceAdd, reduceIte, *] at fH0
    have fH1 := hHX.out (m)
    simp only [setF_if, upd_if, neAdd, neLt, ltAdd, addNe, ltNe, Nat.left_eq_add, Nat.add_eq_left, Nat.reduceEqDiff, Nat.add_assoc, Nat.reduceAdd, reduceIte, *] at fH1
    clear hEX hHX
    clear h0 h1 h5 h6 h7 hHo hH2
    by_cases c0 : (cmpM c p == 0) = true
    · refine AL ?_
      have : addS c ls = ls := by unfold addS; rw [any_yes (i := i) (by omega) (hat.out.trans c0), if_pos rfl]
      refine ⟨o, e, by simp [retA, setF_if, *], by omega, ?_⟩
      rw [this]; simp [upd_if, *]
    · have more : ∀ j, j < i + 1 → sameAt c ls j = false := fun j hj => by
        by_cases q : j = i
        · rw [q, hat.out]; simpa using c0
        · exact hall.out j (by omega)
      replace more := Hid.mk more
      by_cases cl : cmpM c p < 0
      · cases done with
        | true =>
          have bt : (!true) = false := rfl
          refine AL ?_
          replace heq := heq.out
          replace hol := hol.out
          simp only [if_true] at heq
          refine ⟨ls.length - (i + 1), by omega, i + 1, by omega, ?_⟩
          exact ⟨by omega, by simp [setF_if, upd_if, *], by simp [setF_if, upd_if, *], by simp [setF_if, upd_if, *], by simp [setF_if, upd_if, *], more.out, e2 + 1, out ++ [p], true, by simp [setF_if, upd_if, *], by simp [setF_if, upd_if, *], by simp [setF_if, upd_if, shapesR, *], by simp at hol ⊢; omega, by simp; exact heq⟩
        | false =>
          have bt : (!false) = true := rfl
          refine AL ?_
          replace heq := heq.out
          replace hol := hol.out
          simp only [Bool.false_eq_true, if_false] at heq
          rw [insS, if_pos cl] at heq
          refine ⟨ls.length - (i + 1), by omega, i + 1, by omega, ?_⟩
          exact ⟨by omega, by simp [setF_if, upd_if, *], by simp [setF_if, upd_if, *], by simp [setF_if, upd_if, *], by simp [setF_if, upd_if, *], more.out, e2 + 1 + 1, out ++ [c, p], true, by simp [setF_if, upd_if, *], by simp [setF_if, upd_if, *], by simp [setF_if, upd_if, shapesR, *], by simp at hol ⊢; omega, by simpa using heq⟩
      · refine AL ?_
        replace heq := heq.out
        replace hol := hol.out
        refine ⟨ls.length - (i + 1), by omega, i + 1, by omega, ?_⟩
        refine ⟨by omega, by simp [setF_if, upd_if, *], by simp [setF_if, upd_if, *], by simp [setF_if, upd_if, *], by simp [setF_if, upd_if, *], more.out, e2 + 1, out ++ [p], done, by simp [setF_if, upd_if, *], by simp [setF_if, upd_if, *], by simp [setF_if, upd_if, shapesR, *], by simp at hol ⊢; omega, ?_⟩
        rw [insS, if_neg cl] at heq
        cases done with
        | true => simp only [if_true] at heq ⊢; simpa using heq
        | false => simp only [Bool.false_eq_true, if_false] at heq ⊢; simpa using heq
  · have e' : i = ls.length := by omega
    subst e'
    rw [List.drop_length] at heq
    have hb1 := (bnd24 hol' (Nat.le_refl _) hls).1
    have ha : addS c ls = insS c ls := by unfold addS; rw [any_no (fun j hj => hall.out j (by omega)), if_neg (by simp)]
    cases done with
    | true =>
      have bt : (!true) = false := rfl
      simp only [if_true, List.append_nil] at heq
      refine AL ?_
      refine ⟨m, e2, by simp [retA, setF_if, *], by omega, ?_⟩
      rw [ha, ← heq]; simp [upd_if, *]
    | false =>
      have bt : (!false) = true := rfl
      simp only [Bool.false_eq_true, if_false, insS] at heq
      refine AL ?_
      refine ⟨m, e2 + 1, by simp [retA, setF_if, *], by omega, ?_⟩
      rw [ha, ← heq]; simp [upd_if, shapesR]
end Go.Proofs
end
section
open Go Go.Big
namespace Go.Proofs
set_option maxHeartbeats 2000000
def formsF (l : List (Int × Int)) (t : Nat) : List (List (Int × Int)) := (List.range t).foldl (fun a i => addS (formM l i) a) []
theorem formsF_succ (l : List (Int × Int)) (t : Nat) : formsF l (t + 1) = addS (formM l t) (formsF l t) := by
  unfold formsF; rw [List.range_succ, List.foldl_append]; rfl
theorem addS_len (c : List (Int × Int)) (ls : List (List (Int × Int))) : (addS c ls).length ≤ ls.length + 1 := by
  unfold addS; split
  · omega
  · rw [insS_len]; exact Nat.le_refl _
theorem insS_mem {c x : List (Int × Int)} : ∀ {ls}, x ∈ insS c ls → x = c ∨ x ∈ ls
  | [], h => by simp [insS] at h; exact .inl h
  | p :: ls, h => by
    unfold insS at h
    split at h
    · rcases List.mem_cons.mp h with h | h
      · exact .inl h
      · exact .inr h
    · rcases List.mem_cons.mp h with h | h
      · exact .inr (by rw [h]; exact List.mem_cons_self)
      · rcases insS_mem h with h | h
        · exact .inl h
        · exact .inr (List.mem_cons_of_mem _ h)
theorem addS_mem {c x : List (Int × Int)} {ls} (h : x ∈ addS c ls) : x = c ∨ x ∈ ls := by
  unfold addS at h; split at h
  · exact .inr h
  · exact insS_mem h
theorem formsF_ok (l : List (Int × Int)) : ∀ t, (formsF l t).length ≤ t ∧ ∀ x ∈ formsF l t, x.length = l.length
  | 0 => by simp [formsF]
  | t + 1 => by
    obtain ⟨h1, h2⟩ := formsF_ok l t
    rw [formsF_succ]
    refine ⟨Nat.le_trans (addS_len _ _) (by omega), fun x hx => ?_⟩
    rcases addS_mem hx with rfl | hx
    · exact formM_len l t
    · exact h2 x hx
theorem l03Forms_fn (G : Gv) (l : List (Int × Int)) (t : Nat) (h1 : 0 < l.length) (hl : l.length < 1000000000) (ht : t < 1000000) : Gives Tryz.prog G 212 [.sl 0 (cells l), .i .i64 t] (.sl 1 (shapesR (formsF l t))) := by
  refine .of (.body Tryz.func212 rfl (by simp [Tryz.ntmps212]) ?_)
  rw [Tryz.ntmps212, Tryz.results212]
  refine AL ?_
  refine .loop (.inv (fun d E H n' => ∃ (i o e : Nat), i + d = t ∧ o < n' ∧ E 0 = .sl 0 (cells l) ∧ E 1 = .i .i64 t ∧ E 6 = .i .i64 i ∧ E 5 = .own o e ∧ H o = some (.arr e 32 1 (shapesR (formsF l i)) 1)) t ?_ ?_)
  · exact ⟨0, 1, 0, by omega, by omega, by simp [setF_if, argE], by simp [setF_if, argE], by simp [setF_if, argE], by simp [setF_if, argE], by simp [upd_if, formsF, shapesR]⟩
  rintro d E H n' ⟨i, o, e, hi, hon, h0, h1', h6, h5, hH⟩
  by_cases c : (i : Int) < t
  · have hw_i : IntKind.i64.wrap ((i : Int) + 1) = (i : Int) + 1 := wr64 (by omega) (by omega)
    obtain ⟨k1, k2⟩ := formsF_ok l i
    have hs := formsF_succ l i
    refine AL ?_
    refine CV (l03Form_fn G l i h1 hl) ?_
    refine CI ?_
    have kf : (formM l i).length < 1000000000 := by rw [formM_len]; exact hl
    have kg : (formsF l i).length < 1000000 := by omega
    have ka : ∀ x ∈ formsF l i, x.length < 1000000000 := fun x hx => by rw [k2 x hx]; exact hl
    refine (l03Add_fn G _ _ H _ o e (by omega) hH kf kg ka).mono ?_
    clear kf kg ka k1 k2
    rintro r H2 n2 ⟨o2, e2, rfl, ho2, hH2⟩
    rw [← hs] at hH2
    refine AL ?_
    refine ⟨t - (i + 1), by omega, i + 1, o2, e2, by omega, by omega, by simp [setF_if, *], by simp [setF_if, *], by simp [setF_if, *], by simp [setF_if, *], hH2⟩
  · have e' : i = t := by omega
    subst e'
    refine AL ?_
    simp [retA, backA, newSl, newB, hH]
def formsP (p : PieceM) : List (List (Int × Int)) := formsF p.cs (if p.b then 8 else 4)
theorem l11Forms_fn (G : Gv) (p : PieceM) (h1 : 0 < p.cs.length) (hl : p.cs.length < 1000000000) : Gives Tryz.prog G 161 [pieceA 0 p] (.sl 1 (shapesR (formsP p))) := by
  refine .of (.body Tryz.func161 rfl (by simp [Tryz.ntmps161]) ?_)
  rw [Tryz.ntmps161, Tryz.results161]
  cases q : p.b with
  | true =>
    have hf : formsP p = formsF p.cs 8 := by unfold formsP; rw [if_pos q]
    refine AL ?_
    refine CV (l03Forms_fn G p.cs 8 h1 hl (by omega)) ?_
    refine AL ?_
    simp [retA, backA, newSl, hf]
  | false =>
    have hf : formsP p = formsF p.cs 4 := by unfold formsP; rw [if_neg (by simp [q])]
    refine AL ?_
    refine CV (l03Forms_fn G p.cs 4 h1 hl (by omega)) ?_
    refine AL ?_
    simp [retA, backA, newSl, hf]
end Go.Proofs
end
