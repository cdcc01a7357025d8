/- Walks: Turns. No condition. | Shapes compared. No condition. | Cells in order. No condition. | Shapes equal; cells sorted by the reference. No condition. | The reference's forms. No condition. -/
import Derived.Test.YtdbkkjoejomcmaaGreatBO
import Derived.Test.YtdbkkjoejomcmaaGreatWk2
set_option linter.unusedVariables false
set_option linter.unusedSimpArgs false
section
open Go Go.Big
namespace Go.Proofs
set_option maxHeartbeats 2000000
def stepT (p : Int × Int) : Int × Int := (IntKind.i64.wrap (0 - p.2), p.1)
def iterT (p : Int × Int) : Nat → Int × Int
  | 0 => p
  | n + 1 => stepT (iterT p n)
def flipT (p : Int × Int) (t : Nat) : Int × Int := if 4 ≤ t then (IntKind.i64.wrap (0 - p.1), p.2) else p
def turnM (p : Int × Int) (t : Nat) : Int × Int := iterT (flipT p t) (t % 4)
theorem rem4 {t : Nat} : (t : Int).tmod 4 = ((t % 4 : Nat) : Int) := by
  rw [Int.tmod_eq_emod_of_nonneg (by omega)]; omega
theorem turnCell_fn (G : Gv) (x y : Int) (t : Nat) : Gives Tryz.prog G 193 [cellA x y, .i .i64 t] (cellA (turnM (x, y) t).1 (turnM (x, y) t).2) := by
  refine .of (.body Tryz.func193 rfl (by simp [Tryz.ntmps193]) ?_)
  rw [Tryz.ntmps193, Tryz.results193]
  have h4 := rem4 (t := t)
  unfold turnM
  obtain ⟨m, hm⟩ : ∃ m, t % 4 = m := ⟨_, rfl⟩
  have hm4 : m < 4 := by omega
  have hmw : IntKind.i64.wrap (m : Int) = m := wr64 (by omega) (by omega)
  rw [hm] at h4 ⊢
  obtain ⟨q, hf⟩ : ∃ q, flipT (x, y) t = q := ⟨_, rfl⟩
  rw [hf]
  by_cases c4 : (t : Int) ≥ 4
  all_goals
    unfold flipT at hf
    first | rw [if_pos (by omega)] at hf | rw [if_neg (by omega)] at hf
    have hq1 := congrArg Prod.fst hf
    have hq2 := congrArg Prod.snd hf
    simp only at hq1 hq2
    clear hf
    repeat first | refine OP ?_ | refine SK ?_ | refine OPN ?_ | refine OM ?_ | refine SM ?_ | refine OMN ?_ | refine WM.nil ?_ | refine OQ ?_ | refine SQ ?_ | refine TH ?_ | refine WR.nil ?_ | refine WQ.nil ?_ | refine W.seq ?_ | refine W.region ?_ | refine DR ?_ | refine IFT ?_ | refine IFF ?_ | refine W.skip ?_ | refine W.block ?_ | refine W.exit ?_ | refine W.ret ?_ | (simp only [tN, tR, tE, rN, rR, rE, xN, xR, xE, reduceIte]) | refine DN ?_
    refine .loop (.inv (fun d E H n' => ∃ i : Nat, i + d = m ∧ 1 < n' ∧ E 2 = .ptr 0 0 0 0 ∧ E 4 = .ptr 1 0 0 0 ∧ E 12 = .i .i64 (m : Int) ∧ E 13 = .i .i64 i ∧ H 1 = some (.box 117 [.i .i64 0, .i .i64 0]) ∧ H 0 = some (.box 117 [.i .i64 (iterT q i).1, .i .i64 (iterT q i).2])) m ?_ ?_)
    · simp [setF_if, argE, upd_if, iterT, h4, *]
    rintro d E H n' ⟨i, hi, hn1, h2, h4', h12, h13, hH1, hH0⟩
    have hn0 : 0 < n' := by omega
    have hs : iterT q (i + 1) = stepT (iterT q i) := rfl
    have hs1 : (stepT (iterT q i)).1 = IntKind.i64.wrap (0 - (iterT q i).2) := rfl
    have hs2 : (stepT (iterT q i)).2 = (iterT q i).1 := rfl
    by_cases c : (i : Int) < (m : Int)
    · have hw_i : IntKind.i64.wrap ((i : Int) + 1) = (i : Int) + 1 := wr64 (by omega) (by omega)
      repeat first | refine OP ?_ | refine SK ?_ | refine OPN ?_ | refine OM ?_ | refine SM ?_ | refine OMN ?_ | refine WM.nil ?_ | refine OQ ?_ | refine SQ ?_ | refine TH ?_ | refine WR.nil ?_ | refine WQ.nil ?_ | refine W.seq ?_ | refine W.region ?_ | refine DR ?_ | refine IFT ?_ | refine IFF ?_ | refine W.skip ?_ | refine W.block ?_ | refine W.exit ?_ | refine W.ret ?_ | (simp only [tN, tR, tE, rN, rR, rE, xN, xR, xE, reduceIte]) | refine DN ?_
      refine ⟨m - (i + 1), by omega, i + 1, by omega, ?_⟩
      simp [setF_if, upd_if, *]
    · have e' : i = m := by omega
      subst e'
      repeat first | refine OP ?_ | refine SK ?_ | refine OPN ?_ | refine OM ?_ | refine SM ?_ | refine OMN ?_ | refine WM.nil ?_ | refine OQ ?_ | refine SQ ?_ | refine TH ?_ | refine WR.nil ?_ | refine WQ.nil ?_ | refine W.seq ?_ | refine W.region ?_ | refine DR ?_ | refine IFT ?_ | refine IFF ?_ | refine W.skip ?_ | refine W.block ?_ | refine W.exit ?_ | refine W.ret ?_ | (simp only [tN, tR, tE, rN, rR, rE, xN, xR, xE, reduceIte]) | refine DN ?_
      simp [retA, backA, backsA]
theorem l03Turn_fn (G : Gv) (x y : Int) (t : Nat) : Gives Tryz.prog G 191 [cellA x y, .i .i64 t] (cellA (turnM (x, y) t).1 (turnM (x, y) t).2) := by
  refine .of (.body Tryz.func191 rfl (by simp [Tryz.ntmps191]) ?_)
  rw [Tryz.ntmps191, Tryz.results191]
  have h4 := rem4 (t := t)
  unfold turnM
  obtain ⟨m, hm⟩ : ∃ m, t % 4 = m := ⟨_, rfl⟩
  have hm4 : m < 4 := by omega
  have hmw : IntKind.i64.wrap (m : Int) = m := wr64 (by omega) (by omega)
  rw [hm] at h4 ⊢
  obtain ⟨q, hf⟩ : ∃ q, flipT (x, y) t = q := ⟨_, rfl⟩
  rw [hf]
  by_cases c4 : (t : Int) ≥ 4
  all_goals
    unfold flipT at hf
    first | rw [if_pos (by omega)] at hf | rw [if_neg (by omega)] at hf
    have hq1 := congrArg Prod.fst hf
    have hq2 := congrArg Prod.snd hf
    simp only at hq1 hq2
    clear hf
    repeat first | refine OP ?_ | refine SK ?_ | refine OPN ?_ | refine OM ?_ | refine SM ?_ | refine OMN ?_ | refine WM.nil ?_ | refine OQ ?_ | refine SQ ?_ | refine TH ?_ | refine WR.nil ?_ | refine WQ.nil ?_ | refine W.seq ?_ | refine W.region ?_ | refine DR ?_ | refine IFT ?_ | refine IFF ?_ | refine W.skip ?_ | refine W.block ?_ | refine W.exit ?_ | refine W.ret ?_ | (simp only [tN, tR, tE, rN, rR, rE, xN, xR, xE, reduceIte]) | refine DN ?_
    refine .loop (.inv (fun d E H n' => ∃ i : Nat, i + d = m ∧ 1 < n' ∧ E 2 = .ptr 0 0 0 0 ∧ E 4 = .ptr 1 0 0 0 ∧ E 5 = .i .i64 (d : Int) ∧ H 1 = some (.box 117 [.i .i64 0, .i .i64 0]) ∧ H 0 = some (.box 117 [.i .i64 (iterT q i).1, .i .i64 (iterT q i).2])) m ?_ ?_)
    · simp [setF_if, argE, upd_if, iterT, h4, *]
    rintro d E H n' ⟨i, hi, hn1, h2, h4', h5, hH1, hH0⟩
    have hn0 : 0 < n' := by omega
    have hs : iterT q (i + 1) = stepT (iterT q i) := rfl
    have hs1 : (stepT (iterT q i)).1 = IntKind.i64.wrap (0 - (iterT q i).2) := rfl
    have hs2 : (stepT (iterT q i)).2 = (iterT q i).1 := rfl
    by_cases c : (d : Int) > 0
    · have hw : IntKind.i64.wrap ((d : Int) - 1) = ((d - 1 : Nat) : Int) := by rw [wr64 (by omega) (by omega)]; omega
      repeat first | refine OP ?_ | refine SK ?_ | refine OPN ?_ | refine OM ?_ | refine SM ?_ | refine OMN ?_ | refine WM.nil ?_ | refine OQ ?_ | refine SQ ?_ | refine TH ?_ | refine WR.nil ?_ | refine WQ.nil ?_ | refine W.seq ?_ | refine W.region ?_ | refine DR ?_ | refine IFT ?_ | refine IFF ?_ | refine W.skip ?_ | refine W.block ?_ | refine W.exit ?_ | refine W.ret ?_ | (simp only [tN, tR, tE, rN, rR, rE, xN, xR, xE, reduceIte]) | refine DN ?_
      refine ⟨d - 1, by omega, i + 1, by omega, ?_⟩
      simp [setF_if, upd_if, *]
    · have e' : i = m := by omega
      subst e'
      repeat first | refine OP ?_ | refine SK ?_ | refine OPN ?_ | refine OM ?_ | refine SM ?_ | refine OMN ?_ | refine WM.nil ?_ | refine OQ ?_ | refine SQ ?_ | refine TH ?_ | refine WR.nil ?_ | refine WQ.nil ?_ | refine W.seq ?_ | refine W.region ?_ | refine DR ?_ | refine IFT ?_ | refine IFF ?_ | refine W.skip ?_ | refine W.block ?_ | refine W.exit ?_ | refine W.ret ?_ | (simp only [tN, tR, tE, rN, rR, rE, xN, xR, xE, reduceIte]) | refine DN ?_
      simp [retA, backA, backsA]
end Go.Proofs
end
section
open Go Go.Big
namespace Go.Proofs
set_option maxHeartbeats 2000000
theorem drop_at {l : List (Int × Int)} {i : Nat} (h : i < l.length) : l.drop i = l.getD i (0, 0) :: l.drop (i + 1) := by
  rw [List.drop_eq_getElem_cons h]; simp [List.getD_eq_getElem?_getD, h]
/-- The first place where two lists differ decides. -/
def cmpL : List (Int × Int) → List (Int × Int) → Int
  | [], _ => 0
  | _ :: _, [] => 0
  | p :: l, q :: k => if lessC p.1 p.2 q.1 q.2 then -1 else if lessC q.1 q.2 p.1 p.2 then 1 else cmpL l k
def cmpM (l k : List (Int × Int)) : Int := if l.length = k.length then cmpL l k else if l.length < k.length then -1 else 1
theorem cmpL_same {l k : List (Int × Int)} {i : Nat} (hi : i < l.length) (hk : i < k.length) (h1 : lessC (l.getD i (0, 0)).1 (l.getD i (0, 0)).2 (k.getD i (0, 0)).1 (k.getD i (0, 0)).2 = false) (h2 : lessC (k.getD i (0, 0)).1 (k.getD i (0, 0)).2 (l.getD i (0, 0)).1 (l.getD i (0, 0)).2 = false) : cmpL (l.drop i) (k.drop i) = cmpL (l.drop (i + 1)) (k.drop (i + 1)) := by
  rw [drop_at hi, drop_at hk, cmpL, h1, h2]; simp
theorem specCompareShapes_fn (G : Gv) (l k : List (Int × Int)) (hl : l.length < 1000000000) (hk : k.length < 1000000000) : Gives Tryz.prog G 174 [.sl 0 (cells l), .sl 0 (cells k)] (.i .i64 (cmpM l k)) := by
  refine .of (.body Tryz.func174 rfl (by simp [Tryz.ntmps174]) ?_)
  rw [Tryz.ntmps174, Tryz.results174]
  have hlen := cells_len l
  have hlen2 := cells_len k
  by_cases ce : l.length = k.length
  · have hne : ((l.length : Int) != (l.length : Int)) = false := by simp
    replace ce := ce.symm
    repeat first | refine OP ?_ | refine SK ?_ | refine OPN ?_ | refine OM ?_ | refine SM ?_ | refine OMN ?_ | refine WM.nil ?_ | refine OQ ?_ | refine SQ ?_ | refine TH ?_ | refine WR.nil ?_ | refine WQ.nil ?_ | refine W.seq ?_ | refine W.region ?_ | refine DR ?_ | refine IFT ?_ | refine IFF ?_ | refine W.skip ?_ | refine W.block ?_ | refine W.exit ?_ | refine W.ret ?_ | (simp only [tN, tR, tE, rN, rR, rE, xN, xR, xE, reduceIte]) | refine DN ?_
    refine .loop (.inv (fun d E H n' => ∃ i : Nat, i + d = l.length ∧ E 0 = .sl 0 (cells l) ∧ E 1 = .sl 0 (cells k) ∧ E 5 = .i .i64 i ∧ cmpL (l.drop i) (k.drop i) = cmpL l k) l.length ?_ ?_)
    · simp [setF_if, argE]
    rintro d E H n' ⟨i, hi, h0, h1, h5, hc⟩
    by_cases c : (i : Int) < l.length
    · have hr := cells_at (l := l) (i := i) (by omega)
      have hr2 := cells_at (l := k) (i := i) (by omega)
      have hw_i : IntKind.i64.wrap ((i : Int) + 1) = (i : Int) + 1 := wr64 (by omega) (by omega)
      have hs := cmpL_same (l := l) (k := k) (i := i) (by omega) (by omega)
      have hd1 := drop_at (l := l) (i := i) (by omega)
      have hd2 := drop_at (l := k) (i := i) (by omega)
      rw [hd1, hd2] at hc
      rw [hd1, hd2] at hs
      generalize l.getD i (0, 0) = p at hr hs hc
      generalize k.getD i (0, 0) = q at hr2 hs hc
      clear hd1 hd2
      repeat first | refine OP ?_ | refine SK ?_ | refine OPN ?_ | refine OM ?_ | refine SM ?_ | refine OMN ?_ | refine WM.nil ?_ | refine OQ ?_ | refine SQ ?_ | refine TH ?_ | refine WR.nil ?_ | refine WQ.nil ?_ | refine W.seq ?_ | refine W.region ?_ | refine DR ?_ | refine IFT ?_ | refine IFF ?_ | refine W.skip ?_ | refine W.block ?_ | refine W.exit ?_ | refine W.ret ?_ | (simp only [tN, tR, tE, rN, rR, rE, xN, xR, xE, reduceIte]) | refine DN ?_
      refine CQ (l02Less_fn G _ _ _ _) ?_
      by_cases c1 : lessC p.1 p.2 q.1 q.2 = true
      · repeat first | refine OP ?_ | refine SK ?_ | refine OPN ?_ | refine OM ?_ | refine SM ?_ | refine OMN ?_ | refine WM.nil ?_ | refine OQ ?_ | refine SQ ?_ | refine TH ?_ | refine WR.nil ?_ | refine WQ.nil ?_ | refine W.seq ?_ | refine W.region ?_ | refine DR ?_ | refine IFT ?_ | refine IFF ?_ | refine W.skip ?_ | refine W.block ?_ | refine W.exit ?_ | refine W.ret ?_ | (simp only [tN, tR, tE, rN, rR, rE, xN, xR, xE, reduceIte]) | refine DN ?_
        have : cmpM l k = -1 := by unfold cmpM; rw [if_pos ce.symm, ← hc, cmpL, if_pos c1]
        simp [retA, backA, this]
      · repeat first | refine OP ?_ | refine SK ?_ | refine OPN ?_ | refine OM ?_ | refine SM ?_ | refine OMN ?_ | refine WM.nil ?_ | refine OQ ?_ | refine SQ ?_ | refine TH ?_ | refine WR.nil ?_ | refine WQ.nil ?_ | refine W.seq ?_ | refine W.region ?_ | refine DR ?_ | refine IFT ?_ | refine IFF ?_ | refine W.skip ?_ | refine W.block ?_ | refine W.exit ?_ | refine W.ret ?_ | (simp only [tN, tR, tE, rN, rR, rE, xN, xR, xE, reduceIte]) | refine DN ?_
        refine CQ (l02Less_fn G _ _ _ _) ?_
        by_cases c2 : lessC q.1 q.2 p.1 p.2 = true
        · repeat first | refine OP ?_ | refine SK ?_ | refine OPN ?_ | refine OM ?_ | refine SM ?_ | refine OMN ?_ | refine WM.nil ?_ | refine OQ ?_ | refine SQ ?_ | refine TH ?_ | refine WR.nil ?_ | refine WQ.nil ?_ | refine W.seq ?_ | refine W.region ?_ | refine DR ?_ | refine IFT ?_ | refine IFF ?_ | refine W.skip ?_ | refine W.block ?_ | refine W.exit ?_ | refine W.ret ?_ | (simp only [tN, tR, tE, rN, rR, rE, xN, xR, xE, reduceIte]) | refine DN ?_
          have : cmpM l k = 1 := by unfold cmpM; rw [if_pos ce.symm, ← hc, cmpL, if_neg c1, if_pos c2]
          simp [retA, backA, this]
        · repeat first | refine OP ?_ | refine SK ?_ | refine OPN ?_ | refine OM ?_ | refine SM ?_ | refine OMN ?_ | refine WM.nil ?_ | refine OQ ?_ | refine SQ ?_ | refine TH ?_ | refine WR.nil ?_ | refine WQ.nil ?_ | refine W.seq ?_ | refine W.region ?_ | refine DR ?_ | refine IFT ?_ | refine IFF ?_ | refine W.skip ?_ | refine W.block ?_ | refine W.exit ?_ | refine W.ret ?_ | (simp only [tN, tR, tE, rN, rR, rE, xN, xR, xE, reduceIte]) | refine DN ?_
          simp only [Bool.not_eq_true] at c1 c2
          have hs := hs c1 c2
          refine ⟨l.length - (i + 1), by omega, i + 1, by omega, ?_⟩
          simp [setF_if, *]
          rw [← hs, hc]
    · have e : i = l.length := by omega
      subst e
      repeat first | refine OP ?_ | refine SK ?_ | refine OPN ?_ | refine OM ?_ | refine SM ?_ | refine OMN ?_ | refine WM.nil ?_ | refine OQ ?_ | refine SQ ?_ | refine TH ?_ | refine WR.nil ?_ | refine WQ.nil ?_ | refine W.seq ?_ | refine W.region ?_ | refine DR ?_ | refine IFT ?_ | refine IFF ?_ | refine W.skip ?_ | refine W.block ?_ | refine W.exit ?_ | refine W.ret ?_ | (simp only [tN, tR, tE, rN, rR, rE, xN, xR, xE, reduceIte]) | refine DN ?_
      have : cmpM l k = 0 := by unfold cmpM; rw [if_pos ce.symm, ← hc, List.drop_length, cmpL]
      simp [retA, backA, this]
  · have hne : ((l.length : Int) != (k.length : Int)) = true := by simp; omega
    by_cases c : (l.length : Int) < k.length
    · repeat first | refine OP ?_ | refine SK ?_ | refine OPN ?_ | refine OM ?_ | refine SM ?_ | refine OMN ?_ | refine WM.nil ?_ | refine OQ ?_ | refine SQ ?_ | refine TH ?_ | refine WR.nil ?_ | refine WQ.nil ?_ | refine W.seq ?_ | refine W.region ?_ | refine DR ?_ | refine IFT ?_ | refine IFF ?_ | refine W.skip ?_ | refine W.block ?_ | refine W.exit ?_ | refine W.ret ?_ | (simp only [tN, tR, tE, rN, rR, rE, xN, xR, xE, reduceIte]) | refine DN ?_
      have : cmpM l k = -1 := by unfold cmpM; rw [if_neg ce, if_pos (by omega)]
      simp [retA, backA, this]
    · repeat first | refine OP ?_ | refine SK ?_ | refine OPN ?_ | refine OM ?_ | refine SM ?_ | refine OMN ?_ | refine WM.nil ?_ | refine OQ ?_ | refine SQ ?_ | refine TH ?_ | refine WR.nil ?_ | refine WQ.nil ?_ | refine W.seq ?_ | refine W.region ?_ | refine DR ?_ | refine IFT ?_ | refine IFF ?_ | refine W.skip ?_ | refine W.block ?_ | refine W.exit ?_ | refine W.ret ?_ | (simp only [tN, tR, tE, rN, rR, rE, xN, xR, xE, reduceIte]) | refine DN ?_
      have : cmpM l k = 1 := by unfold cmpM; rw [if_neg ce, if_neg (by omega)]
      simp [retA, backA, this]
theorem cmpC_cases (a b c d : Int) : cmpC a b c d = if lessC a b c d then -1 else if lessC c d a b then 1 else 0 := by
  unfold cmpC lessC cmpI
  by_cases h1 : b < d <;> by_cases h2 : d < b <;> by_cases h3 : a < c <;> by_cases h4 : c < a <;> simp [h1, h2, h3, h4] <;> omega
theorem compareFunc_fn (G : Gv) (l k : List (Int × Int)) (hl : l.length < 1000000000) (ce : k.length = l.length) : Gives Tryz.prog G 233 [.sl 0 (cells l), .sl 0 (cells k), .fn 184 []] (.i .i64 (cmpL l k)) := by
  refine .of (.body Tryz.func233 rfl (by simp [Tryz.ntmps233]) ?_)
  rw [Tryz.ntmps233, Tryz.results233]
  have hlen := cells_len l
  have hlen2 := cells_len k
  repeat first | refine OP ?_ | refine SK ?_ | refine OPN ?_ | refine OM ?_ | refine SM ?_ | refine OMN ?_ | refine WM.nil ?_ | refine OQ ?_ | refine SQ ?_ | refine TH ?_ | refine WR.nil ?_ | refine WQ.nil ?_ | refine W.seq ?_ | refine W.region ?_ | refine DR ?_ | refine IFT ?_ | refine IFF ?_ | refine W.skip ?_ | refine W.block ?_ | refine W.exit ?_ | refine W.ret ?_ | (simp only [tN, tR, tE, rN, rR, rE, xN, xR, xE, reduceIte]) | refine DN ?_
  refine .loop (.inv (fun d E H n' => ∃ i : Nat, i + d = l.length ∧ E 0 = .sl 0 (cells l) ∧ E 1 = .sl 0 (cells k) ∧ E 2 = .fn 184 [] ∧ E 11 = .sl 0 (cells l) ∧ E 12 = .i .i64 l.length ∧ E 13 = .i .i64 i ∧ cmpL (l.drop i) (k.drop i) = cmpL l k) l.length ?_ ?_)
  · simp [setF_if, argE]
  rintro d E H n' ⟨i, hi, h0, h1, h2, h11, h12, h13, hc⟩
  by_cases c : (i : Int) < l.length
  · have hr := cells_at (l := l) (i := i) (by omega)
    have hr2 := cells_at (l := k) (i := i) (by omega)
    have hw_i : IntKind.i64.wrap ((i : Int) + 1) = (i : Int) + 1 := wr64 (by omega) (by omega)
    have hg : ((i : Int) ≥ l.length) = False := by simp; omega
    have hs := cmpL_same (l := l) (k := k) (i := i) (by omega) (by omega)
    have hd1 := drop_at (l := l) (i := i) (by omega)
    have hd2 := drop_at (l := k) (i := i) (by omega)
    rw [hd1, hd2] at hc
    rw [hd1, hd2] at hs
    generalize l.getD i (0, 0) = p at hr hs hc
    generalize k.getD i (0, 0) = q at hr2 hs hc
    clear hd1 hd2
    have hcc := cmpC_cases p.1 p.2 q.1 q.2
    repeat first | refine OP ?_ | refine SK ?_ | refine OPN ?_ | refine OM ?_ | refine SM ?_ | refine OMN ?_ | refine WM.nil ?_ | refine OQ ?_ | refine SQ ?_ | refine TH ?_ | refine WR.nil ?_ | refine WQ.nil ?_ | refine W.seq ?_ | refine W.region ?_ | refine DR ?_ | refine IFT ?_ | refine IFF ?_ | refine W.skip ?_ | refine W.block ?_ | refine W.exit ?_ | refine W.ret ?_ | (simp only [tN, tR, tE, rN, rR, rE, xN, xR, xE, reduceIte]) | refine DN ?_
    refine CV (compareCells_fn G _ _ _ _) ?_
    by_cases c1 : lessC p.1 p.2 q.1 q.2 = true
    · rw [if_pos c1] at hcc
      have hb : ((-1 : Int) != 0) = true := rfl
      repeat first | refine OP ?_ | refine SK ?_ | refine OPN ?_ | refine OM ?_ | refine SM ?_ | refine OMN ?_ | refine WM.nil ?_ | refine OQ ?_ | refine SQ ?_ | refine TH ?_ | refine WR.nil ?_ | refine WQ.nil ?_ | refine W.seq ?_ | refine W.region ?_ | refine DR ?_ | refine IFT ?_ | refine IFF ?_ | refine W.skip ?_ | refine W.block ?_ | refine W.exit ?_ | refine W.ret ?_ | (simp only [tN, tR, tE, rN, rR, rE, xN, xR, xE, reduceIte]) | refine DN ?_
      have : cmpL l k = -1 := by rw [← hc, cmpL, if_pos c1]
      simp [retA, backA, this]
    · rw [if_neg c1] at hcc
      by_cases c2 : lessC q.1 q.2 p.1 p.2 = true
      · rw [if_pos c2] at hcc
        have hb : ((1 : Int) != 0) = true := rfl
        repeat first | refine OP ?_ | refine SK ?_ | refine OPN ?_ | refine OM ?_ | refine SM ?_ | refine OMN ?_ | refine WM.nil ?_ | refine OQ ?_ | refine SQ ?_ | refine TH ?_ | refine WR.nil ?_ | refine WQ.nil ?_ | refine W.seq ?_ | refine W.region ?_ | refine DR ?_ | refine IFT ?_ | refine IFF ?_ | refine W.skip ?_ | refine W.block ?_ | refine W.exit ?_ | refine W.ret ?_ | (simp only [tN, tR, tE, rN, rR, rE, xN, xR, xE, reduceIte]) | refine DN ?_
        have : cmpL l k = 1 := by rw [← hc, cmpL, if_neg c1, if_pos c2]
        simp [retA, backA, this]
      · rw [if_neg c2] at hcc
        have hb : ((0 : Int) != 0) = false := rfl
        repeat first | refine OP ?_ | refine SK ?_ | refine OPN ?_ | refine OM ?_ | refine SM ?_ | refine OMN ?_ | refine WM.nil ?_ | refine OQ ?_ | refine SQ ?_ | refine TH ?_ | refine WR.nil ?_ | refine WQ.nil ?_ | refine W.seq ?_ | refine W.region ?_ | refine DR ?_ | refine IFT ?_ | refine IFF ?_ | refine W.skip ?_ | refine W.block ?_ | refine W.exit ?_ | refine W.ret ?_ | (simp only [tN, tR, tE, rN, rR, rE, xN, xR, xE, reduceIte]) | refine DN ?_
        simp only [Bool.not_eq_true] at c1 c2
        have hs := hs c1 c2
        refine ⟨l.length - (i + 1), by omega, i + 1, by omega, ?_⟩
        simp [setF_if, *]
        rw [← hs, hc]
  · have e : i = l.length := by omega
    subst e
    have hg : ((l.length : Int) < l.length) = False := by simp
    repeat first | refine OP ?_ | refine SK ?_ | refine OPN ?_ | refine OM ?_ | refine SM ?_ | refine OMN ?_ | refine WM.nil ?_ | refine OQ ?_ | refine SQ ?_ | refine TH ?_ | refine WR.nil ?_ | refine WQ.nil ?_ | refine W.seq ?_ | refine W.region ?_ | refine DR ?_ | refine IFT ?_ | refine IFF ?_ | refine W.skip ?_ | refine W.block ?_ | refine W.exit ?_ | refine W.ret ?_ | (simp only [tN, tR, tE, rN, rR, rE, xN, xR, xE, reduceIte]) | refine DN ?_
    have : cmpL l k = 0 := by rw [← hc, List.drop_length, cmpL]
    simp [retA, backA, this]
theorem compareShapes_fn (G : Gv) (l k : List (Int × Int)) (hl : l.length < 1000000000) (hk : k.length < 1000000000) : Gives Tryz.prog G 198 [.sl 0 (cells l), .sl 0 (cells k)] (.i .i64 (cmpM l k)) := by
  refine .of (.body Tryz.func198 rfl (by simp [Tryz.ntmps198]) ?_)
  rw [Tryz.ntmps198, Tryz.results198]
  have hlen := cells_len l
  have hlen2 := cells_len k
  by_cases ce : l.length = k.length
  · have hne : ((l.length : Int) != (l.length : Int)) = false := by simp
    replace ce := ce.symm
    repeat first | refine OP ?_ | refine SK ?_ | refine OPN ?_ | refine OM ?_ | refine SM ?_ | refine OMN ?_ | refine WM.nil ?_ | refine OQ ?_ | refine SQ ?_ | refine TH ?_ | refine WR.nil ?_ | refine WQ.nil ?_ | refine W.seq ?_ | refine W.region ?_ | refine DR ?_ | refine IFT ?_ | refine IFF ?_ | refine W.skip ?_ | refine W.block ?_ | refine W.exit ?_ | refine W.ret ?_ | (simp only [tN, tR, tE, rN, rR, rE, xN, xR, xE, reduceIte]) | refine DN ?_
    refine CV (compareFunc_fn G l k hl ce) ?_
    repeat first | refine OP ?_ | refine SK ?_ | refine OPN ?_ | refine OM ?_ | refine SM ?_ | refine OMN ?_ | refine WM.nil ?_ | refine OQ ?_ | refine SQ ?_ | refine TH ?_ | refine WR.nil ?_ | refine WQ.nil ?_ | refine W.seq ?_ | refine W.region ?_ | refine DR ?_ | refine IFT ?_ | refine IFF ?_ | refine W.skip ?_ | refine W.block ?_ | refine W.exit ?_ | refine W.ret ?_ | (simp only [tN, tR, tE, rN, rR, rE, xN, xR, xE, reduceIte]) | refine DN ?_
    have : cmpM l k = cmpL l k := by unfold cmpM; rw [if_pos ce.symm]
    simp [retA, backA, this]
  · have hne : ((l.length : Int) != (k.length : Int)) = true := by simp; omega
    by_cases c : (l.length : Int) < k.length
    · repeat first | refine OP ?_ | refine SK ?_ | refine OPN ?_ | refine OM ?_ | refine SM ?_ | refine OMN ?_ | refine WM.nil ?_ | refine OQ ?_ | refine SQ ?_ | refine TH ?_ | refine WR.nil ?_ | refine WQ.nil ?_ | refine W.seq ?_ | refine W.region ?_ | refine DR ?_ | refine IFT ?_ | refine IFF ?_ | refine W.skip ?_ | refine W.block ?_ | refine W.exit ?_ | refine W.ret ?_ | (simp only [tN, tR, tE, rN, rR, rE, xN, xR, xE, reduceIte]) | refine DN ?_
      have : cmpM l k = -1 := by unfold cmpM; rw [if_neg ce, if_pos (by omega)]
      simp [retA, backA, this]
    · repeat first | refine OP ?_ | refine SK ?_ | refine OPN ?_ | refine OM ?_ | refine SM ?_ | refine OMN ?_ | refine WM.nil ?_ | refine OQ ?_ | refine SQ ?_ | refine TH ?_ | refine WR.nil ?_ | refine WQ.nil ?_ | refine W.seq ?_ | refine W.region ?_ | refine DR ?_ | refine IFT ?_ | refine IFF ?_ | refine W.skip ?_ | refine W.block ?_ | refine W.exit ?_ | refine W.ret ?_ | (simp only [tN, tR, tE, rN, rR, rE, xN, xR, xE, reduceIte]) | refine DN ?_
      have : cmpM l k = 1 := by unfold cmpM; rw [if_neg ce, if_neg (by omega)]
      simp [retA, backA, this]
end Go.Proofs
end
section
open Go Go.Big
namespace Go.Proofs
set_option maxHeartbeats 2000000
def insM (c : Int × Int) : List (Int × Int) → List (Int × Int)
  | [] => [c]
  | p :: l => if lessC c.1 c.2 p.1 p.2 then c :: p :: l else p :: insM c l
theorem insM_len (c : Int × Int) : ∀ l, (insM c l).length = l.length + 1
  | [] => rfl
  | p :: l => by unfold insM; split <;> simp [insM_len c l]
theorem cells_app (l k : List (Int × Int)) : cells l ++ cells k = cells (l ++ k) := by simp [cells]
theorem cells_one (p : Int × Int) : ([[.i .i64 p.1, .i .i64 p.2]] : List (List PV)) = cells [p] := rfl
theorem cells_two (a b : Int) : ([[.i .i64 a, .i .i64 b]] : List (List PV)) = cells [(a, b)] := rfl
theorem l02Insert_fn (G : Gv) (l : List (Int × Int)) (x y : Int) (hl : l.length < 1000000000) : Gives Tryz.prog G 245 [.sl 0 (cells l), cellA x y] (.sl 1 (cells (insM (x, y) l))) := by
  refine .of (.body Tryz.func245 rfl (by simp [Tryz.ntmps245]) ?_)
  rw [Tryz.ntmps245, Tryz.results245]
  have hlen := cells_len l
  repeat first | refine OP ?_ | refine SK ?_ | refine OPN ?_ | refine OM ?_ | refine SM ?_ | refine OMN ?_ | refine WM.nil ?_ | refine OQ ?_ | refine SQ ?_ | refine TH ?_ | refine WR.nil ?_ | refine WQ.nil ?_ | refine W.seq ?_ | refine W.region ?_ | refine DR ?_ | refine IFT ?_ | refine IFF ?_ | refine W.skip ?_ | refine W.block ?_ | refine W.exit ?_ | refine W.ret ?_ | (simp only [tN, tR, tE, rN, rR, rE, xN, xR, xE, reduceIte]) | refine DN ?_
  refine .loop (.inv (fun d E H n' => ∃ i : Nat, i + d = l.length ∧ 2 < n' ∧ E 0 = .sl 0 (cells l) ∧ E 3 = .ptr 0 0 0 0 ∧ E 7 = .i .i64 i ∧ H 0 = some (.box 117 [.i .i64 x, .i .i64 y]) ∧ ∃ e out done, E 6 = .b done ∧ E 5 = .own 2 e ∧ H 2 = some (.arr e 117 2 (cells out) 1) ∧ out.length ≤ i + done.toNat ∧ (if done then out ++ l.drop i else out ++ insM (x, y) (l.drop i)) = insM (x, y) l) l.length ?_ ?_)
  · exact ⟨0, by omega, by omega, by simp [setF_if, argE, upd_if], by simp [setF_if, argE, upd_if], by simp [setF_if, argE, upd_if], by simp [setF_if, argE, upd_if], 0, [], false, by simp [setF_if, argE, upd_if], by simp [setF_if, argE, upd_if], by simp [setF_if, argE, upd_if, cells], by simp, by simp⟩
  rintro d E H n' ⟨i, hi, hn2, h0, h3, h7, hH0, e, out, done, h6, h5, hH2, hol, heq⟩
  have hn0 : 0 < n' := by omega
  have hor := cells_len out
  by_cases c : (i : Int) < l.length
  · have hr := cells_at (l := l) (i := i) (by omega)
    have hw_i : IntKind.i64.wrap ((i : Int) + 1) = (i : Int) + 1 := wr64 (by omega) (by omega)
    have hd := drop_at (l := l) (i := i) (by omega)
    rw [hd] at heq
    generalize l.getD i (0, 0) = p at hr heq
    have hol' : out.length ≤ i + 1 := by cases done <;> simp at hol <;> omega
    have hb : ∀ k, k ≤ i + 4 → k * 16 ≤ 140737488355328 := fun k hk => by omega
    have hb1 : (out.length + 1) * 16 ≤ 140737488355328 := by omega
    have hb2 : (out.length + 1 + 1) * 16 ≤ 140737488355328 := by omega
    have hx : (cells out ++ [[PV.i .i64 x, PV.i .i64 y]]).length = out.length + 1 := by simp [cells]
    cases done with
    | true =>
      have bt : (!true) = false := rfl
      repeat first | refine OP ?_ | refine SK ?_ | refine OPN ?_ | refine OM ?_ | refine SM ?_ | refine OMN ?_ | refine WM.nil ?_ | refine OQ ?_ | refine SQ ?_ | refine TH ?_ | refine WR.nil ?_ | refine WQ.nil ?_ | refine W.seq ?_ | refine W.region ?_ | refine DR ?_ | refine IFT ?_ | refine IFF ?_ | refine W.skip ?_ | refine W.block ?_ | refine W.exit ?_ | refine W.ret ?_ | (simp only [tN, tR, tE, rN, rR, rE, xN, xR, xE, reduceIte]) | refine DN ?_
      refine ⟨l.length - (i + 1), by omega, i + 1, by omega, ?_⟩
      simp only [if_true] at heq
      exact ⟨by omega, by simp [setF_if, upd_if, *], by simp [setF_if, upd_if, *], by simp [setF_if, upd_if, *], by simp [setF_if, upd_if, *], e + 1, out ++ [p], true, by simp [setF_if, upd_if, *], by simp [setF_if, upd_if, *], by simp [setF_if, upd_if, cells, *], by simp at hol ⊢; omega, by simp; exact heq⟩
    | false =>
      have bt : (!false) = true := rfl
      simp only [Bool.false_eq_true, if_false] at heq
      repeat first | refine OP ?_ | refine SK ?_ | refine OPN ?_ | refine OM ?_ | refine SM ?_ | refine OMN ?_ | refine WM.nil ?_ | refine OQ ?_ | refine SQ ?_ | refine TH ?_ | refine WR.nil ?_ | refine WQ.nil ?_ | refine W.seq ?_ | refine W.region ?_ | refine DR ?_ | refine IFT ?_ | refine IFF ?_ | refine W.skip ?_ | refine W.block ?_ | refine W.exit ?_ | refine W.ret ?_ | (simp only [tN, tR, tE, rN, rR, rE, xN, xR, xE, reduceIte]) | refine DN ?_
      refine CQ (l02Less_fn G _ _ _ _) ?_
      by_cases cl : lessC x y p.1 p.2 = true
      · repeat first | refine OP ?_ | refine SK ?_ | refine OPN ?_ | refine OM ?_ | refine SM ?_ | refine OMN ?_ | refine WM.nil ?_ | refine OQ ?_ | refine SQ ?_ | refine TH ?_ | refine WR.nil ?_ | refine WQ.nil ?_ | refine W.seq ?_ | refine W.region ?_ | refine DR ?_ | refine IFT ?_ | refine IFF ?_ | refine W.skip ?_ | refine W.block ?_ | refine W.exit ?_ | refine W.ret ?_ | (simp only [tN, tR, tE, rN, rR, rE, xN, xR, xE, reduceIte]) | refine DN ?_
        refine ⟨l.length - (i + 1), by omega, i + 1, by omega, ?_⟩
        rw [insM, if_pos cl] at heq
        exact ⟨by omega, by simp [setF_if, upd_if, *], by simp [setF_if, upd_if, *], by simp [setF_if, upd_if, *], by simp [setF_if, upd_if, *], e + 1 + 1, out ++ [(x, y), p], true, by simp [setF_if, upd_if, *], by simp [setF_if, upd_if, *], by simp [setF_if, upd_if, cells, *], by
          simp at hol ⊢
          omega, by simpa using heq⟩
      · repeat first | refine OP ?_ | refine SK ?_ | refine OPN ?_ | refine OM ?_ | refine SM ?_ | refine OMN ?_ | refine WM.nil ?_ | refine OQ ?_ | refine SQ ?_ | refine TH ?_ | refine WR.nil ?_ | refine WQ.nil ?_ | refine W.seq ?_ | refine W.region ?_ | refine DR ?_ | refine IFT ?_ | refine IFF ?_ | refine W.skip ?_ | refine W.block ?_ | refine W.exit ?_ | refine W.ret ?_ | (simp only [tN, tR, tE, rN, rR, rE, xN, xR, xE, reduceIte]) | refine DN ?_
        refine ⟨l.length - (i + 1), by omega, i + 1, by omega, ?_⟩
        rw [insM, if_neg cl] at heq
        exact ⟨by omega, by simp [setF_if, upd_if, *], by simp [setF_if, upd_if, *], by simp [setF_if, upd_if, *], by simp [setF_if, upd_if, *], e + 1, out ++ [p], false, by simp [setF_if, upd_if, *], by simp [setF_if, upd_if, *], by simp [setF_if, upd_if, cells, *], by simp at hol ⊢; omega, by simpa using heq⟩
  · have e' : i = l.length := by omega
    subst e'
    rw [List.drop_length] at heq
    have hol' : out.length ≤ l.length + 1 := by cases done <;> simp at hol <;> omega
    have hb1 : (out.length + 1) * 16 ≤ 140737488355328 := by omega
    cases done with
    | true =>
      have bt : (!true) = false := rfl
      simp only [if_true, List.append_nil] at heq
      repeat first | refine OP ?_ | refine SK ?_ | refine OPN ?_ | refine OM ?_ | refine SM ?_ | refine OMN ?_ | refine WM.nil ?_ | refine OQ ?_ | refine SQ ?_ | refine TH ?_ | refine WR.nil ?_ | refine WQ.nil ?_ | refine W.seq ?_ | refine W.region ?_ | refine DR ?_ | refine IFT ?_ | refine IFF ?_ | refine W.skip ?_ | refine W.block ?_ | refine W.exit ?_ | refine W.ret ?_ | (simp only [tN, tR, tE, rN, rR, rE, xN, xR, xE, reduceIte]) | refine DN ?_
      simp [retA, backA, newSl, newB, hH2, heq]
    | false =>
      have bt : (!false) = true := rfl
      simp only [Bool.false_eq_true, if_false, insM] at heq
      repeat first | refine OP ?_ | refine SK ?_ | refine OPN ?_ | refine OM ?_ | refine SM ?_ | refine OMN ?_ | refine WM.nil ?_ | refine OQ ?_ | refine SQ ?_ | refine TH ?_ | refine WR.nil ?_ | refine WQ.nil ?_ | refine W.seq ?_ | refine W.region ?_ | refine DR ?_ | refine IFT ?_ | refine IFF ?_ | refine W.skip ?_ | refine W.block ?_ | refine W.exit ?_ | refine W.ret ?_ | (simp only [tN, tR, tE, rN, rR, rE, xN, xR, xE, reduceIte]) | refine DN ?_
      simp [retA, backA, newSl, newB, upd_if, ← heq, cells]
end Go.Proofs
end
section
open Go Go.Big
namespace Go.Proofs
set_option maxHeartbeats 2000000
theorem equal_fn (G : Gv) (l k : List (Int × Int)) (hl : l.length < 1000000000) (hk : k.length < 1000000000) : Gives Tryz.prog G 150 [.sl 0 (cells l), .sl 0 (cells k)] (.b (decide (l = k))) := by
  refine .of (.body Tryz.func150 rfl (by simp [Tryz.ntmps150]) ?_)
  rw [Tryz.ntmps150, Tryz.results150]
  have hlen := cells_len l
  have hlen2 := cells_len k
  by_cases ce : k.length = l.length
  · have hne : ((l.length : Int) != (l.length : Int)) = false := by simp
    repeat first | refine OP ?_ | refine SK ?_ | refine OPN ?_ | refine OM ?_ | refine SM ?_ | refine OMN ?_ | refine WM.nil ?_ | refine OQ ?_ | refine SQ ?_ | refine TH ?_ | refine WR.nil ?_ | refine WQ.nil ?_ | refine W.seq ?_ | refine W.region ?_ | refine DR ?_ | refine IFT ?_ | refine IFF ?_ | refine W.skip ?_ | refine W.block ?_ | refine W.exit ?_ | refine W.ret ?_ | (simp only [tN, tR, tE, rN, rR, rE, xN, xR, xE, reduceIte]) | refine DN ?_
    refine .loop (.inv (fun d E H n' => ∃ i : Nat, i + d = l.length ∧ E 0 = .sl 0 (cells l) ∧ E 1 = .sl 0 (cells k) ∧ E 12 = .i .i64 l.length ∧ E 13 = .i .i64 i ∧ (∀ j, j < i → l.getD j (0, 0) = k.getD j (0, 0))) l.length ?_ ?_)
    · simp [setF_if, argE]
    rintro d E H n' ⟨i, hi, h0, h1, h12, h13, hall⟩
    by_cases c : (i : Int) < l.length
    · have hr := cells_at (l := l) (i := i) (by omega)
      have hr2 := cells_at (l := k) (i := i) (by omega)
      have hw_i : IntKind.i64.wrap ((i : Int) + 1) = (i : Int) + 1 := wr64 (by omega) (by omega)
      have hno : l.getD i (0, 0) ≠ k.getD i (0, 0) → decide (l = k) = false := fun h => by
        simp only [decide_eq_false_iff_not]; intro e; exact h (by rw [e])
      have more : l.getD i (0, 0) = k.getD i (0, 0) → ∀ j, j < i + 1 → l.getD j (0, 0) = k.getD j (0, 0) := fun h j hj => by
        by_cases e : j = i
        · rw [e]; exact h
        · exact hall j (by omega)
      generalize l.getD i (0, 0) = p at hr hno more
      generalize k.getD i (0, 0) = q at hr2 hno more
      by_cases c1 : (p.1 == q.1 && p.2 == q.2) = true
      · repeat first | refine OP ?_ | refine SK ?_ | refine OPN ?_ | refine OM ?_ | refine SM ?_ | refine OMN ?_ | refine WM.nil ?_ | refine OQ ?_ | refine SQ ?_ | refine TH ?_ | refine WR.nil ?_ | refine WQ.nil ?_ | refine W.seq ?_ | refine W.region ?_ | refine DR ?_ | refine IFT ?_ | refine IFF ?_ | refine W.skip ?_ | refine W.block ?_ | refine W.exit ?_ | refine W.ret ?_ | (simp only [tN, tR, tE, rN, rR, rE, xN, xR, xE, reduceIte]) | refine DN ?_
        refine ⟨l.length - (i + 1), by omega, i + 1, by omega, ?_⟩
        simp [setF_if, *]
        simp only [Bool.and_eq_true, beq_iff_eq] at c1
        exact more (Prod.ext c1.1 c1.2)
      · repeat first | refine OP ?_ | refine SK ?_ | refine OPN ?_ | refine OM ?_ | refine SM ?_ | refine OMN ?_ | refine WM.nil ?_ | refine OQ ?_ | refine SQ ?_ | refine TH ?_ | refine WR.nil ?_ | refine WQ.nil ?_ | refine W.seq ?_ | refine W.region ?_ | refine DR ?_ | refine IFT ?_ | refine IFF ?_ | refine W.skip ?_ | refine W.block ?_ | refine W.exit ?_ | refine W.ret ?_ | (simp only [tN, tR, tE, rN, rR, rE, xN, xR, xE, reduceIte]) | refine DN ?_
        have := hno (fun e => c1 (by rw [e]; simp))
        simp [retA, backA, this]
    · repeat first | refine OP ?_ | refine SK ?_ | refine OPN ?_ | refine OM ?_ | refine SM ?_ | refine OMN ?_ | refine WM.nil ?_ | refine OQ ?_ | refine SQ ?_ | refine TH ?_ | refine WR.nil ?_ | refine WQ.nil ?_ | refine W.seq ?_ | refine W.region ?_ | refine DR ?_ | refine IFT ?_ | refine IFF ?_ | refine W.skip ?_ | refine W.block ?_ | refine W.exit ?_ | refine W.ret ?_ | (simp only [tN, tR, tE, rN, rR, rE, xN, xR, xE, reduceIte]) | refine DN ?_
      have : decide (l = k) = true := by
        simp only [decide_eq_true_eq]
        apply List.ext_getElem?
        intro j
        by_cases hj : j < l.length
        · have := hall j (by omega)
          simp only [List.getD_eq_getElem?_getD, List.getElem?_eq_getElem hj, List.getElem?_eq_getElem (show j < k.length by omega), Option.getD_some] at this
          rw [List.getElem?_eq_getElem hj, List.getElem?_eq_getElem (show j < k.length by omega), this]
        · rw [List.getElem?_eq_none (by omega), List.getElem?_eq_none (by omega)]
      simp [retA, backA, this]
  · have hne : ((l.length : Int) != (k.length : Int)) = true := by simp; omega
    repeat first | refine OP ?_ | refine SK ?_ | refine OPN ?_ | refine OM ?_ | refine SM ?_ | refine OMN ?_ | refine WM.nil ?_ | refine OQ ?_ | refine SQ ?_ | refine TH ?_ | refine WR.nil ?_ | refine WQ.nil ?_ | refine W.seq ?_ | refine W.region ?_ | refine DR ?_ | refine IFT ?_ | refine IFF ?_ | refine W.skip ?_ | refine W.block ?_ | refine W.exit ?_ | refine W.ret ?_ | (simp only [tN, tR, tE, rN, rR, rE, xN, xR, xE, reduceIte]) | refine DN ?_
    have : decide (l = k) = false := by simp only [decide_eq_false_iff_not]; intro e; exact ce (by rw [e])
    simp [retA, backA, this]
theorem equalShapes_fn (G : Gv) (l k : List (Int × Int)) (hl : l.length < 1000000000) (hk : k.length < 1000000000) : Gives Tryz.prog G 200 [.sl 0 (cells l), .sl 0 (cells k)] (.b (decide (l = k))) := by
  refine .of (.body Tryz.func200 rfl (by simp [Tryz.ntmps200]) ?_)
  rw [Tryz.ntmps200, Tryz.results200]
  repeat first | refine OP ?_ | refine SK ?_ | refine OPN ?_ | refine OM ?_ | refine SM ?_ | refine OMN ?_ | refine WM.nil ?_ | refine OQ ?_ | refine SQ ?_ | refine TH ?_ | refine WR.nil ?_ | refine WQ.nil ?_ | refine W.seq ?_ | refine W.region ?_ | refine DR ?_ | refine IFT ?_ | refine IFF ?_ | refine W.skip ?_ | refine W.block ?_ | refine W.exit ?_ | refine W.ret ?_ | (simp only [tN, tR, tE, rN, rR, rE, xN, xR, xE, reduceIte]) | refine DN ?_
  refine CV (equal_fn G l k hl hk) ?_
  repeat first | refine OP ?_ | refine SK ?_ | refine OPN ?_ | refine OM ?_ | refine SM ?_ | refine OMN ?_ | refine WM.nil ?_ | refine OQ ?_ | refine SQ ?_ | refine TH ?_ | refine WR.nil ?_ | refine WQ.nil ?_ | refine W.seq ?_ | refine W.region ?_ | refine DR ?_ | refine IFT ?_ | refine IFF ?_ | refine W.skip ?_ | refine W.block ?_ | refine W.exit ?_ | refine W.ret ?_ | (simp only [tN, tR, tE, rN, rR, rE, xN, xR, xE, reduceIte]) | refine DN ?_
  simp [retA, backA]
def sortM (l : List (Int × Int)) : List (Int × Int) := l.foldl (fun a c => insM c a) []
theorem sortM_take {l : List (Int × Int)} {i : Nat} (h : i < l.length) : sortM (l.take (i + 1)) = insM (l.getD i (0, 0)) (sortM (l.take i)) := by
  unfold sortM
  rw [List.take_succ_eq_append_getElem h, List.foldl_append]
  simp only [List.foldl_cons, List.foldl_nil, List.getD_eq_getElem?_getD, List.getElem?_eq_getElem h, Option.getD_some]
theorem foldl_ins_len : ∀ (l a : List (Int × Int)), (l.foldl (fun a c => insM c a) a).length = a.length + l.length
  | [], a => by simp
  | c :: l, a => by rw [List.foldl_cons, foldl_ins_len l, insM_len, List.length_cons]; omega
theorem sortM_len (l : List (Int × Int)) : (sortM l).length = l.length := by unfold sortM; rw [foldl_ins_len]; simp
theorem l02Sort_fn (G : Gv) (l : List (Int × Int)) (h1 : 0 < l.length) (hl : l.length < 1000000000) : Gives Tryz.prog G 231 [.sl 0 (cells l)] (.sl 1 (cells (sortM l))) := by
  refine .of (.body Tryz.func231 rfl (by simp [Tryz.ntmps231]) ?_)
  rw [Tryz.ntmps231, Tryz.results231]
  have hlen := cells_len l
  repeat first | refine OP ?_ | refine SK ?_ | refine OPN ?_ | refine OM ?_ | refine SM ?_ | refine OMN ?_ | refine WM.nil ?_ | refine OQ ?_ | refine SQ ?_ | refine TH ?_ | refine WR.nil ?_ | refine WQ.nil ?_ | refine W.seq ?_ | refine W.region ?_ | refine DR ?_ | refine IFT ?_ | refine IFF ?_ | refine W.skip ?_ | refine W.block ?_ | refine W.exit ?_ | refine W.ret ?_ | (simp only [tN, tR, tE, rN, rR, rE, xN, xR, xE, reduceIte]) | refine DN ?_
  refine .loop (.inv (fun d E H n' => ∃ i : Nat, i + d = l.length ∧ E 0 = .sl 0 (cells l) ∧ E 4 = .i .i64 i ∧ (E 3 = .own 1 0 ∧ H 1 = some (.arr 0 117 2 (cells (sortM (l.take i))) 1) ∧ i = 0 ∨ E 3 = .sl 1 (cells (sortM (l.take i))))) l.length ?_ ?_)
  · simp [setF_if, argE, upd_if, sortM, cells]
  rintro d E H n' ⟨i, hi, h0, h4, h3⟩
  by_cases c : (i : Int) < l.length
  · have hr := cells_at (l := l) (i := i) (by omega)
    have hw_i : IntKind.i64.wrap ((i : Int) + 1) = (i : Int) + 1 := wr64 (by omega) (by omega)
    have hsl : (sortM (l.take i)).length < 1000000000 := by rw [sortM_len, List.length_take]; omega
    have hs := sortM_take (l := l) (i := i) (by omega)
    generalize sortM (l.take i) = a at h3 hsl hs
    rcases h3 with ⟨h3, hH, hi0⟩ | h3
    · clear hi0
      repeat first | refine OP ?_ | refine SK ?_ | refine OPN ?_ | refine OM ?_ | refine SM ?_ | refine OMN ?_ | refine WM.nil ?_ | refine OQ ?_ | refine SQ ?_ | refine TH ?_ | refine WR.nil ?_ | refine WQ.nil ?_ | refine W.seq ?_ | refine W.region ?_ | refine DR ?_ | refine IFT ?_ | refine IFF ?_ | refine W.skip ?_ | refine W.block ?_ | refine W.exit ?_ | refine W.ret ?_ | (simp only [tN, tR, tE, rN, rR, rE, xN, xR, xE, reduceIte]) | refine DN ?_
      refine CV (l02Insert_fn G _ _ _ hsl) ?_
      repeat first | refine OP ?_ | refine SK ?_ | refine OPN ?_ | refine OM ?_ | refine SM ?_ | refine OMN ?_ | refine WM.nil ?_ | refine OQ ?_ | refine SQ ?_ | refine TH ?_ | refine WR.nil ?_ | refine WQ.nil ?_ | refine W.seq ?_ | refine W.region ?_ | refine DR ?_ | refine IFT ?_ | refine IFF ?_ | refine W.skip ?_ | refine W.block ?_ | refine W.exit ?_ | refine W.ret ?_ | (simp only [tN, tR, tE, rN, rR, rE, xN, xR, xE, reduceIte]) | refine DN ?_
      refine ⟨l.length - (i + 1), by omega, i + 1, by omega, ?_⟩
      simp [setF_if, *]
    · repeat first | refine OP ?_ | refine SK ?_ | refine OPN ?_ | refine OM ?_ | refine SM ?_ | refine OMN ?_ | refine WM.nil ?_ | refine OQ ?_ | refine SQ ?_ | refine TH ?_ | refine WR.nil ?_ | refine WQ.nil ?_ | refine W.seq ?_ | refine W.region ?_ | refine DR ?_ | refine IFT ?_ | refine IFF ?_ | refine W.skip ?_ | refine W.block ?_ | refine W.exit ?_ | refine W.ret ?_ | (simp only [tN, tR, tE, rN, rR, rE, xN, xR, xE, reduceIte]) | refine DN ?_
      refine CV (l02Insert_fn G _ _ _ hsl) ?_
      repeat first | refine OP ?_ | refine SK ?_ | refine OPN ?_ | refine OM ?_ | refine SM ?_ | refine OMN ?_ | refine WM.nil ?_ | refine OQ ?_ | refine SQ ?_ | refine TH ?_ | refine WR.nil ?_ | refine WQ.nil ?_ | refine W.seq ?_ | refine W.region ?_ | refine DR ?_ | refine IFT ?_ | refine IFF ?_ | refine W.skip ?_ | refine W.block ?_ | refine W.exit ?_ | refine W.ret ?_ | (simp only [tN, tR, tE, rN, rR, rE, xN, xR, xE, reduceIte]) | refine DN ?_
      refine ⟨l.length - (i + 1), by omega, i + 1, by omega, ?_⟩
      simp [setF_if, *]
  · have e' : i = l.length := by omega
    subst e'
    rcases h3 with ⟨h3, hH, hi0⟩ | h3
    · omega
    · repeat first | refine OP ?_ | refine SK ?_ | refine OPN ?_ | refine OM ?_ | refine SM ?_ | refine OMN ?_ | refine WM.nil ?_ | refine OQ ?_ | refine SQ ?_ | refine TH ?_ | refine WR.nil ?_ | refine WQ.nil ?_ | refine W.seq ?_ | refine W.region ?_ | refine DR ?_ | refine IFT ?_ | refine IFF ?_ | refine W.skip ?_ | refine W.block ?_ | refine W.exit ?_ | refine W.ret ?_ | (simp only [tN, tR, tE, rN, rR, rE, xN, xR, xE, reduceIte]) | refine DN ?_
      simp [retA, backA, newSl, newB, List.take_length]
end Go.Proofs
end
section
open Go Go.Big
namespace Go.Proofs
set_option maxHeartbeats 2000000
def turnL (l : List (Int × Int)) (t : Nat) : List (Int × Int) := l.map fun p => turnM p t
def formM (l : List (Int × Int)) (t : Nat) : List (Int × Int) := normM (sortM (turnL l t))
theorem turnL_len (l : List (Int × Int)) (t : Nat) : (turnL l t).length = l.length := by simp [turnL]
theorem normM_len (l : List (Int × Int)) : (normM l).length = l.length := by simp [normM, movedM]
theorem formM_len (l : List (Int × Int)) (t : Nat) : (formM l t).length = l.length := by unfold formM; rw [normM_len, sortM_len, turnL_len]
theorem turn_take {l : List (Int × Int)} {i : Nat} (t : Nat) (h : i < l.length) : cells (turnL (l.take i) t) ++ [[.i .i64 (turnM (l.getD i (0, 0)) t).1, .i .i64 (turnM (l.getD i (0, 0)) t).2]] = cells (turnL (l.take (i + 1)) t) := by
  rw [List.take_succ_eq_append_getElem h]; simp only [cells, turnL, List.map_append, List.map_cons, List.map_nil, List.getD_eq_getElem?_getD, List.getElem?_eq_getElem h, Option.getD_some]
theorem l03Form_fn (G : Gv) (l : List (Int × Int)) (t : Nat) (h1 : 0 < l.length) (hl : l.length < 1000000000) : Gives Tryz.prog G 196 [.sl 0 (cells l), .i .i64 t] (.sl 1 (cells (formM l t))) := by
  refine .of (.body Tryz.func196 rfl (by simp [Tryz.ntmps196]) ?_)
  rw [Tryz.ntmps196, Tryz.results196]
  have hlen := cells_len l
  repeat first | refine OP ?_ | refine SK ?_ | refine OPN ?_ | refine OM ?_ | refine SM ?_ | refine OMN ?_ | refine WM.nil ?_ | refine OQ ?_ | refine SQ ?_ | refine TH ?_ | refine WR.nil ?_ | refine WQ.nil ?_ | refine W.seq ?_ | refine W.region ?_ | refine DR ?_ | refine IFT ?_ | refine IFF ?_ | refine W.skip ?_ | refine W.block ?_ | refine W.exit ?_ | refine W.ret ?_ | (simp only [tN, tR, tE, rN, rR, rE, xN, xR, xE, reduceIte]) | refine DN ?_
  refine .loop (.inv (fun d E H n' => ∃ i : Nat, i + d = l.length ∧ 1 < n' ∧ E 0 = .sl 0 (cells l) ∧ E 1 = .i .i64 t ∧ E 6 = .i .i64 i ∧ ∃ e, E 5 = .own 1 e ∧ H 1 = some (.arr e 117 2 (cells (turnL (l.take i) t)) 1)) l.length ?_ ?_)
  · simp [setF_if, argE, upd_if, turnL, cells]
  rintro d E H n' ⟨i, hi, hn1, h0, h1', h6, e, h5, hH⟩
  by_cases c : (i : Int) < l.length
  · have hr := cells_at (l := l) (i := i) (by omega)
    have hw_i : IntKind.i64.wrap ((i : Int) + 1) = (i : Int) + 1 := wr64 (by omega) (by omega)
    have hrl : (cells (turnL (l.take i) t)).length = i := by simp [cells, turnL]; omega
    have hb : (i + 1) * 16 ≤ 140737488355328 := by omega
    have htk := turn_take (l := l) (i := i) t (by omega)
    generalize l.getD i (0, 0) = p at hr htk
    repeat first | refine OP ?_ | refine SK ?_ | refine OPN ?_ | refine OM ?_ | refine SM ?_ | refine OMN ?_ | refine WM.nil ?_ | refine OQ ?_ | refine SQ ?_ | refine TH ?_ | refine WR.nil ?_ | refine WQ.nil ?_ | refine W.seq ?_ | refine W.region ?_ | refine DR ?_ | refine IFT ?_ | refine IFF ?_ | refine W.skip ?_ | refine W.block ?_ | refine W.exit ?_ | refine W.ret ?_ | (simp only [tN, tR, tE, rN, rR, rE, xN, xR, xE, reduceIte]) | refine DN ?_
    refine CV (l03Turn_fn G _ _ _) ?_
    repeat first | refine OP ?_ | refine SK ?_ | refine OPN ?_ | refine OM ?_ | refine SM ?_ | refine OMN ?_ | refine WM.nil ?_ | refine OQ ?_ | refine SQ ?_ | refine TH ?_ | refine WR.nil ?_ | refine WQ.nil ?_ | refine W.seq ?_ | refine W.region ?_ | refine DR ?_ | refine IFT ?_ | refine IFF ?_ | refine W.skip ?_ | refine W.block ?_ | refine W.exit ?_ | refine W.ret ?_ | (simp only [tN, tR, tE, rN, rR, rE, xN, xR, xE, reduceIte]) | refine DN ?_
    refine ⟨l.length - (i + 1), by omega, i + 1, by omega, ?_⟩
    simp [setF_if, upd_if, *]
  · have e' : i = l.length := by omega
    subst e'
    rw [List.take_length] at hH
    have k1 : 0 < (turnL l t).length := by rw [turnL_len]; exact h1
    have k2 : (turnL l t).length < 1000000000 := by rw [turnL_len]; exact hl
    repeat first | refine OP ?_ | refine SK ?_ | refine OPN ?_ | refine OM ?_ | refine SM ?_ | refine OMN ?_ | refine WM.nil ?_ | refine OQ ?_ | refine SQ ?_ | refine TH ?_ | refine WR.nil ?_ | refine WQ.nil ?_ | refine W.seq ?_ | refine W.region ?_ | refine DR ?_ | refine IFT ?_ | refine IFF ?_ | refine W.skip ?_ | refine W.block ?_ | refine W.exit ?_ | refine W.ret ?_ | (simp only [tN, tR, tE, rN, rR, rE, xN, xR, xE, reduceIte]) | refine DN ?_
    refine CV (l02Sort_fn G _ k1 k2) ?_
    repeat first | refine OP ?_ | refine SK ?_ | refine OPN ?_ | refine OM ?_ | refine SM ?_ | refine OMN ?_ | refine WM.nil ?_ | refine OQ ?_ | refine SQ ?_ | refine TH ?_ | refine WR.nil ?_ | refine WQ.nil ?_ | refine W.seq ?_ | refine W.region ?_ | refine DR ?_ | refine IFT ?_ | refine IFF ?_ | refine W.skip ?_ | refine W.block ?_ | refine W.exit ?_ | refine W.ret ?_ | (simp only [tN, tR, tE, rN, rR, rE, xN, xR, xE, reduceIte]) | refine DN ?_
    refine CV (l02Normal_fn G _ (by rw [sortM_len]; exact k1) (by rw [sortM_len]; exact k2)) ?_
    repeat first | refine OP ?_ | refine SK ?_ | refine OPN ?_ | refine OM ?_ | refine SM ?_ | refine OMN ?_ | refine WM.nil ?_ | refine OQ ?_ | refine SQ ?_ | refine TH ?_ | refine WR.nil ?_ | refine WQ.nil ?_ | refine W.seq ?_ | refine W.region ?_ | refine DR ?_ | refine IFT ?_ | refine IFF ?_ | refine W.skip ?_ | refine W.block ?_ | refine W.exit ?_ | refine W.ret ?_ | (simp only [tN, tR, tE, rN, rR, rE, xN, xR, xE, reduceIte]) | refine DN ?_
    simp [retA, backA, newSl, newB, formM]
def shapesR (ls : List (List (Int × Int))) : List (List PV) := ls.map fun l => [.sl (cells l)]
theorem shapesR_len (ls : List (List (Int × Int))) : (shapesR ls).length = ls.length := by simp [shapesR]
theorem shapesR_at {ls : List (List (Int × Int))} {i : Nat} (h : i < ls.length) : (shapesR ls)[i]? = some [.sl (cells (ls.getD i []))] := by
  simp [shapesR, h, List.getD_eq_getElem?_getD]
theorem dropS_at {l : List (List (Int × Int))} {i : Nat} (h : i < l.length) : l.drop i = l.getD i [] :: l.drop (i + 1) := by
  rw [List.drop_eq_getElem_cons h]; simp [List.getD_eq_getElem?_getD, h]
def insS (c : List (Int × Int)) : List (List (Int × Int)) → List (List (Int × Int))
  | [] => [c]
  | x :: l => if cmpM c x < 0 then c :: x :: l else x :: insS c l
theorem insS_len (c : List (Int × Int)) : ∀ l, (insS c l).length = l.length + 1
  | [] => rfl
  | p :: l => by unfold insS; split <;> simp [insS_len c l]
def sameAt (c : List (Int × Int)) (ls : List (List (Int × Int))) (i : Nat) : Bool := cmpM c (ls.getD i []) == 0
def addS (c : List (Int × Int)) (ls : List (List (Int × Int))) : List (List (Int × Int)) := if (List.range ls.length).any (sameAt c ls) then ls else insS c ls
theorem any_yes {p : Nat → Bool} {n i : Nat} (hi : i < n) (h : p i = true) : (List.range n).any p = true := by
  rw [List.any_eq_true]; exact ⟨i, List.mem_range.mpr hi, h⟩
theorem any_no {p : Nat → Bool} {n : Nat} (h : ∀ j, j < n → p j = false) : (List.range n).any p = false := by
  rw [List.any_eq_false]; intro x hx; simp [h x (List.mem_range.mp hx)]
end Go.Proofs
end
