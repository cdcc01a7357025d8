/- Walks: Sizes of what comes in. No condition. | Lists of placements: turned into other ones, equal to itself, their size. No condition. | Whether a placement overlaps none of a list; the copies that are left. No condition. -/
import Derived.Test.YtdbkkjoejomcmaaGreatBO
import Derived.Test.YtdbkkjoejomcmaaGreatWk1
import Derived.Test.YtdbkkjoejomcmaaGreatWk8
import Derived.Test.YtdbkkjoejomcmaaGreatWk5
set_option linter.unusedVariables false
set_option linter.unusedSimpArgs false
section
open Go Go.Big
namespace Go.Proofs
set_option maxHeartbeats 2000000
theorem wr64s {n : Int} (h1 : -9223372036854775808 ≤ n) (h2 : n ≤ 9223372036854775807) : IntKind.i64.wrap n = n := by
  simp only [IntKind.wrap, IntKind.bits, IntKind.signed]; simp; omega
def szN (n : Nat) (left : Int) : Int := if left - n < 0 then -1 else left - n
theorem szN_le {n : Nat} {left : Int} (h : ¬ szN n left < 0) : (n : Int) ≤ left ∧ szN n left ≤ left ∧ 0 ≤ szN n left := by
  unfold szN at *; split at h <;> simp_all <;> omega
theorem szCellS_fn (G : Gv) (l : List (Int × Int)) (left : Int) (hl : l.length ≤ 9223372036854775807) (h0 : 0 ≤ left) (h1 : left ≤ 1048576) : Gives Tryz.prog G 59 [.sl 0 (cells l), .i .i64 left] (.i .i64 (szN l.length left)) := by
  refine .of (.body Tryz.func59 rfl (by simp [Tryz.ntmps59]) ?_)
  rw [Tryz.ntmps59, Tryz.results59]
  have hlen := cells_len l
  have hw : IntKind.i64.wrap (left - l.length) = left - l.length := wr64s (by omega) (by omega)
  by_cases c : left - (l.length : Int) < 0
  · repeat first | refine OP ?_ | refine SK ?_ | refine OPN ?_ | refine OM ?_ | refine SM ?_ | refine OMN ?_ | refine WM.nil ?_ | refine OQ ?_ | refine SQ ?_ | refine TH ?_ | refine WR.nil ?_ | refine WQ.nil ?_ | refine W.seq ?_ | refine W.region ?_ | refine DR ?_ | refine IFT ?_ | refine IFF ?_ | refine W.skip ?_ | refine W.block ?_ | refine W.exit ?_ | refine W.ret ?_ | (simp only [tN, tR, tE, rN, rR, rE, xN, xR, xE, reduceIte]) | refine DN ?_
    simp [retA, backA, szN, c]
  · repeat first | refine OP ?_ | refine SK ?_ | refine OPN ?_ | refine OM ?_ | refine SM ?_ | refine OMN ?_ | refine WM.nil ?_ | refine OQ ?_ | refine SQ ?_ | refine TH ?_ | refine WR.nil ?_ | refine WQ.nil ?_ | refine W.seq ?_ | refine W.region ?_ | refine DR ?_ | refine IFT ?_ | refine IFF ?_ | refine W.skip ?_ | refine W.block ?_ | refine W.exit ?_ | refine W.ret ?_ | (simp only [tN, tR, tE, rN, rR, rE, xN, xR, xE, reduceIte]) | refine DN ?_
    simp [retA, backA, szN, c]
theorem szInt64S_fn (G : Gv) (l : List Int) (left : Int) (hl : l.length ≤ 9223372036854775807) (h0 : 0 ≤ left) (h1 : left ≤ 1048576) : Gives Tryz.prog G 84 [.sl 0 (ints l), .i .i64 left] (.i .i64 (szN l.length left)) := by
  refine .of (.body Tryz.func84 rfl (by simp [Tryz.ntmps84]) ?_)
  rw [Tryz.ntmps84, Tryz.results84]
  have hlen := ints_len l
  have hw : IntKind.i64.wrap (left - l.length) = left - l.length := wr64s (by omega) (by omega)
  by_cases c : left - (l.length : Int) < 0
  · repeat first | refine OP ?_ | refine SK ?_ | refine OPN ?_ | refine OM ?_ | refine SM ?_ | refine OMN ?_ | refine WM.nil ?_ | refine OQ ?_ | refine SQ ?_ | refine TH ?_ | refine WR.nil ?_ | refine WQ.nil ?_ | refine W.seq ?_ | refine W.region ?_ | refine DR ?_ | refine IFT ?_ | refine IFF ?_ | refine W.skip ?_ | refine W.block ?_ | refine W.exit ?_ | refine W.ret ?_ | (simp only [tN, tR, tE, rN, rR, rE, xN, xR, xE, reduceIte]) | refine DN ?_
    simp [retA, backA, szN, c]
  · repeat first | refine OP ?_ | refine SK ?_ | refine OPN ?_ | refine OM ?_ | refine SM ?_ | refine OMN ?_ | refine WM.nil ?_ | refine OQ ?_ | refine SQ ?_ | refine TH ?_ | refine WR.nil ?_ | refine WQ.nil ?_ | refine W.seq ?_ | refine W.region ?_ | refine DR ?_ | refine IFT ?_ | refine IFF ?_ | refine W.skip ?_ | refine W.block ?_ | refine W.exit ?_ | refine W.ret ?_ | (simp only [tN, tR, tE, rN, rR, rE, xN, xR, xE, reduceIte]) | refine DN ?_
    simp [retA, backA, szN, c]
theorem szPiece_fn (G : Gv) (p : PieceM) (left : Int) (hl : p.cs.length ≤ 9223372036854775807) (h0 : 0 ≤ left) (h1 : left ≤ 1048576) : Gives Tryz.prog G 115 [pieceA 0 p, .i .i64 left] (.i .i64 (szN p.cs.length left)) := by
  refine .of (.body Tryz.func115 rfl (by simp [Tryz.ntmps115]) ?_)
  rw [Tryz.ntmps115, Tryz.results115]
  repeat first | refine OP ?_ | refine SK ?_ | refine OPN ?_ | refine OM ?_ | refine SM ?_ | refine OMN ?_ | refine WM.nil ?_ | refine OQ ?_ | refine SQ ?_ | refine TH ?_ | refine WR.nil ?_ | refine WQ.nil ?_ | refine W.seq ?_ | refine W.region ?_ | refine DR ?_ | refine IFT ?_ | refine IFF ?_ | refine W.skip ?_ | refine W.block ?_ | refine W.exit ?_ | refine W.ret ?_ | (simp only [tN, tR, tE, rN, rR, rE, xN, xR, xE, reduceIte]) | refine DN ?_
  refine CV (szCellS_fn G _ _ hl h0 h1) ?_
  by_cases c : szN p.cs.length left < 0
  · repeat first | refine OP ?_ | refine SK ?_ | refine OPN ?_ | refine OM ?_ | refine SM ?_ | refine OMN ?_ | refine WM.nil ?_ | refine OQ ?_ | refine SQ ?_ | refine TH ?_ | refine WR.nil ?_ | refine WQ.nil ?_ | refine W.seq ?_ | refine W.region ?_ | refine DR ?_ | refine IFT ?_ | refine IFF ?_ | refine W.skip ?_ | refine W.block ?_ | refine W.exit ?_ | refine W.ret ?_ | (simp only [tN, tR, tE, rN, rR, rE, xN, xR, xE, reduceIte]) | refine DN ?_
    have : szN p.cs.length left = -1 := by unfold szN at *; split at c <;> simp_all
    simp [retA, backA, this]
  · repeat first | refine OP ?_ | refine SK ?_ | refine OPN ?_ | refine OM ?_ | refine SM ?_ | refine OMN ?_ | refine WM.nil ?_ | refine OQ ?_ | refine SQ ?_ | refine TH ?_ | refine WR.nil ?_ | refine WQ.nil ?_ | refine W.seq ?_ | refine W.region ?_ | refine DR ?_ | refine IFT ?_ | refine IFF ?_ | refine W.skip ?_ | refine W.block ?_ | refine W.exit ?_ | refine W.ret ?_ | (simp only [tN, tR, tE, rN, rR, rE, xN, xR, xE, reduceIte]) | refine DN ?_
    simp [retA, backA]
theorem szPlacement_fn (G : Gv) (k : Int) (l : List Int) (left : Int) (hl : l.length ≤ 9223372036854775807) (h0 : 0 ≤ left) (h1 : left ≤ 1048576) : Gives Tryz.prog G 39 [.ag [.i .i64 k, .sl 0 (ints l)], .i .i64 left] (.i .i64 (szN l.length left)) := by
  refine .of (.body Tryz.func39 rfl (by simp [Tryz.ntmps39]) ?_)
  rw [Tryz.ntmps39, Tryz.results39]
  repeat first | refine OP ?_ | refine SK ?_ | refine OPN ?_ | refine OM ?_ | refine SM ?_ | refine OMN ?_ | refine WM.nil ?_ | refine OQ ?_ | refine SQ ?_ | refine TH ?_ | refine WR.nil ?_ | refine WQ.nil ?_ | refine W.seq ?_ | refine W.region ?_ | refine DR ?_ | refine IFT ?_ | refine IFF ?_ | refine W.skip ?_ | refine W.block ?_ | refine W.exit ?_ | refine W.ret ?_ | (simp only [tN, tR, tE, rN, rR, rE, xN, xR, xE, reduceIte]) | refine DN ?_
  refine CV (szInt64S_fn G _ _ hl h0 h1) ?_
  by_cases c : szN l.length left < 0
  · repeat first | refine OP ?_ | refine SK ?_ | refine OPN ?_ | refine OM ?_ | refine SM ?_ | refine OMN ?_ | refine WM.nil ?_ | refine OQ ?_ | refine SQ ?_ | refine TH ?_ | refine WR.nil ?_ | refine WQ.nil ?_ | refine W.seq ?_ | refine W.region ?_ | refine DR ?_ | refine IFT ?_ | refine IFF ?_ | refine W.skip ?_ | refine W.block ?_ | refine W.exit ?_ | refine W.ret ?_ | (simp only [tN, tR, tE, rN, rR, rE, xN, xR, xE, reduceIte]) | refine DN ?_
    have : szN l.length left = -1 := by unfold szN at *; split at c <;> simp_all
    simp [retA, backA, this]
  · repeat first | refine OP ?_ | refine SK ?_ | refine OPN ?_ | refine OM ?_ | refine SM ?_ | refine OMN ?_ | refine WM.nil ?_ | refine OQ ?_ | refine SQ ?_ | refine TH ?_ | refine WR.nil ?_ | refine WQ.nil ?_ | refine W.seq ?_ | refine W.region ?_ | refine DR ?_ | refine IFT ?_ | refine IFF ?_ | refine W.skip ?_ | refine W.block ?_ | refine W.exit ?_ | refine W.ret ?_ | (simp only [tN, tR, tE, rN, rR, rE, xN, xR, xE, reduceIte]) | refine DN ?_
    simp [retA, backA]
def szP : List PieceM → Int → Int
  | [], left => left
  | p :: r, left => if szN p.cs.length left < 0 then -1 else szP r (szN p.cs.length left)
def szPS (l : List PieceM) (left : Int) : Int := if left - l.length < 0 then -1 else szP l (left - l.length)
theorem szPieceS_fn (G : Gv) (l : List PieceM) (left : Int) (hl : l.length ≤ 9223372036854775807) (hc : ∀ p ∈ l, p.cs.length ≤ 9223372036854775807) (h0 : 0 ≤ left) (h1 : left ≤ 1048576) : Gives Tryz.prog G 60 [.sl 0 (pieces l), .i .i64 left] (.i .i64 (szPS l left)) := by
  refine .of (.body Tryz.func60 rfl (by simp [Tryz.ntmps60]) ?_)
  rw [Tryz.ntmps60, Tryz.results60]
  have hlen := pieces_len l
  replace hc := Hid.mk hc
  have hw : IntKind.i64.wrap (left - l.length) = left - l.length := wr64s (by omega) (by omega)
  by_cases c : left - (l.length : Int) < 0
  · repeat first | refine OP ?_ | refine SK ?_ | refine OPN ?_ | refine OM ?_ | refine SM ?_ | refine OMN ?_ | refine WM.nil ?_ | refine OQ ?_ | refine SQ ?_ | refine TH ?_ | refine WR.nil ?_ | refine WQ.nil ?_ | refine W.seq ?_ | refine W.region ?_ | refine DR ?_ | refine IFT ?_ | refine IFF ?_ | refine W.skip ?_ | refine W.block ?_ | refine W.exit ?_ | refine W.ret ?_ | (simp only [tN, tR, tE, rN, rR, rE, xN, xR, xE, reduceIte]) | refine DN ?_
    simp [retA, backA, szPS, c]
  · repeat first | refine OP ?_ | refine SK ?_ | refine OPN ?_ | refine OM ?_ | refine SM ?_ | refine OMN ?_ | refine WM.nil ?_ | refine OQ ?_ | refine SQ ?_ | refine TH ?_ | refine WR.nil ?_ | refine WQ.nil ?_ | refine W.seq ?_ | refine W.region ?_ | refine DR ?_ | refine IFT ?_ | refine IFF ?_ | refine W.skip ?_ | refine W.block ?_ | refine W.exit ?_ | refine W.ret ?_ | (simp only [tN, tR, tE, rN, rR, rE, xN, xR, xE, reduceIte]) | refine DN ?_
    refine .loop (.inv (fun d E H n' => ∃ (i : Nat) (lf : Int), i + d = l.length ∧ 0 ≤ lf ∧ lf ≤ 1048576 ∧ szP (l.drop i) lf = szPS l left ∧ E 0 = .sl 0 (pieces l) ∧ E 1 = .i .i64 lf ∧ E 5 = .i .i64 i) l.length ?_ ?_)
    · exact ⟨0, left - l.length, by omega, by omega, by omega, by unfold szPS; rw [if_neg c]; rfl, by simp [setF_if, argE], by simp [setF_if, argE, hlen, hw], by simp [setF_if, argE]⟩
    have hbl : (l.length : Int) ≤ 1048576 := by omega
    clear hw c
    rintro d E H n' ⟨i, lf, hi, hl0, hl1, hsz, e0, e1, e3⟩
    by_cases c : (i : Int) < l.length
    · have cN : i < l.length := by omega
      obtain ⟨p, hpi⟩ : ∃ p, l[i]? = some p := ⟨_, List.getElem?_eq_getElem (by omega)⟩
      have hr : (pieces l)[i]? = some (pieceR p) := by simp [pieces, hpi]
      have hw_i : IntKind.i64.wrap ((i : Int) + 1) = (i : Int) + 1 := wr64 (by omega) (by omega)
      have hd : l.drop i = p :: l.drop (i + 1) := by
        rw [List.drop_eq_getElem_cons cN]; congr 1
        rw [List.getElem?_eq_getElem cN] at hpi; exact Option.some.inj hpi
      rw [hd] at hsz
      have hpc := hc.out p (List.mem_of_getElem? hpi)
      replace hsz := Hid.mk hsz
      clear hd
      repeat first | refine OQ ?_ | refine SQ ?_ | refine TH ?_ | refine WQ.nil ?_ | refine W.seq ?_ | refine W.region ?_ | refine DR ?_ | refine OP ?_ | refine SK ?_ | refine WR.nil ?_
      repeat first | refine OP ?_ | refine SK ?_ | refine OPN ?_ | refine OM ?_ | refine SM ?_ | refine OMN ?_ | refine WM.nil ?_ | refine OQ ?_ | refine SQ ?_ | refine TH ?_ | refine WR.nil ?_ | refine WQ.nil ?_ | refine W.seq ?_ | refine W.region ?_ | refine DR ?_ | refine IFT ?_ | refine IFF ?_ | refine W.skip ?_ | refine W.block ?_ | refine W.exit ?_ | refine W.ret ?_ | (simp only [tN, tR, tE, rN, rR, rE, xN, xR, xE, reduceIte]) | refine DN ?_
      refine CV (szPiece_fn G _ _ hpc hl0 hl1) ?_
      by_cases c2 : szN p.cs.length lf < 0
      · repeat first | refine OP ?_ | refine SK ?_ | refine OPN ?_ | refine OM ?_ | refine SM ?_ | refine OMN ?_ | refine WM.nil ?_ | refine OQ ?_ | refine SQ ?_ | refine TH ?_ | refine WR.nil ?_ | refine WQ.nil ?_ | refine W.seq ?_ | refine W.region ?_ | refine DR ?_ | refine IFT ?_ | refine IFF ?_ | refine W.skip ?_ | refine W.block ?_ | refine W.exit ?_ | refine W.ret ?_ | (simp only [tN, tR, tE, rN, rR, rE, xN, xR, xE, reduceIte]) | refine DN ?_
        have : szPS l left = -1 := by rw [← hsz.out, szP, if_pos c2]
        simp [retA, backA, this]
      · repeat first | refine OP ?_ | refine SK ?_ | refine OPN ?_ | refine OM ?_ | refine SM ?_ | refine OMN ?_ | refine WM.nil ?_ | refine OQ ?_ | refine SQ ?_ | refine TH ?_ | refine WR.nil ?_ | refine WQ.nil ?_ | refine W.seq ?_ | refine W.region ?_ | refine DR ?_ | refine IFT ?_ | refine IFF ?_ | refine W.skip ?_ | refine W.block ?_ | refine W.exit ?_ | refine W.ret ?_ | (simp only [tN, tR, tE, rN, rR, rE, xN, xR, xE, reduceIte]) | refine DN ?_
        obtain ⟨_, g2, g3⟩ := szN_le c2
        refine ⟨l.length - (i + 1), by omega, i + 1, szN p.cs.length lf, by omega, g3, by omega, by rw [← hsz.out, szP, if_neg c2], by simp [setF_if, *], by simp [setF_if, *], by simp [setF_if, *]⟩
    · have e' : i = l.length := by omega
      subst e'
      rw [List.drop_length, szP] at hsz
      repeat first | refine OP ?_ | refine SK ?_ | refine OPN ?_ | refine OM ?_ | refine SM ?_ | refine OMN ?_ | refine WM.nil ?_ | refine OQ ?_ | refine SQ ?_ | refine TH ?_ | refine WR.nil ?_ | refine WQ.nil ?_ | refine W.seq ?_ | refine W.region ?_ | refine DR ?_ | refine IFT ?_ | refine IFF ?_ | refine W.skip ?_ | refine W.block ?_ | refine W.exit ?_ | refine W.ret ?_ | (simp only [tN, tR, tE, rN, rR, rE, xN, xR, xE, reduceIte]) | refine DN ?_
      simp [retA, backA, hsz]
def szPz (r : List (Int × Int)) (l : List PieceM) (left : Int) : Int := if szN r.length left < 0 then -1 else szPS l (szN r.length left)
theorem szPS_neg {l : List PieceM} {left : Int} (h : szPS l left < 0) : szPS l left = -1 := by
  unfold szPS at *
  split
  · rfl
  · rename_i c
    rw [if_neg c] at h
    generalize left - (l.length : Int) = x at h c
    induction l generalizing x with
    | nil => exact absurd h c
    | cons p r ih =>
      simp only [szP] at h ⊢
      split
      · rfl
      · rename_i c2
        rw [if_neg c2] at h
        exact ih _ h c2
theorem szPuzzle_fn (G : Gv) (r : List (Int × Int)) (l : List PieceM) (left : Int) (hr : r.length ≤ 9223372036854775807) (hl : l.length ≤ 9223372036854775807) (hc : ∀ p ∈ l, p.cs.length ≤ 9223372036854775807) (h0 : 0 ≤ left) (h1 : left ≤ 1048576) : Gives Tryz.prog G 15 [.ag [.sl 0 (cells r), .sl 0 (pieces l)], .i .i64 left] (.i .i64 (szPz r l left)) := by
  refine .of (.body Tryz.func15 rfl (by simp [Tryz.ntmps15]) ?_)
  rw [Tryz.ntmps15, Tryz.results15]
  repeat first | refine OP ?_ | refine SK ?_ | refine OPN ?_ | refine OM ?_ | refine SM ?_ | refine OMN ?_ | refine WM.nil ?_ | refine OQ ?_ | refine SQ ?_ | refine TH ?_ | refine WR.nil ?_ | refine WQ.nil ?_ | refine W.seq ?_ | refine W.region ?_ | refine DR ?_ | refine IFT ?_ | refine IFF ?_ | refine W.skip ?_ | refine W.block ?_ | refine W.exit ?_ | refine W.ret ?_ | (simp only [tN, tR, tE, rN, rR, rE, xN, xR, xE, reduceIte]) | refine DN ?_
  refine CV (szCellS_fn G _ _ hr h0 h1) ?_
  replace hc := Hid.mk hc
  by_cases c : szN r.length left < 0
  · repeat first | refine OP ?_ | refine SK ?_ | refine OPN ?_ | refine OM ?_ | refine SM ?_ | refine OMN ?_ | refine WM.nil ?_ | refine OQ ?_ | refine SQ ?_ | refine TH ?_ | refine WR.nil ?_ | refine WQ.nil ?_ | refine W.seq ?_ | refine W.region ?_ | refine DR ?_ | refine IFT ?_ | refine IFF ?_ | refine W.skip ?_ | refine W.block ?_ | refine W.exit ?_ | refine W.ret ?_ | (simp only [tN, tR, tE, rN, rR, rE, xN, xR, xE, reduceIte]) | refine DN ?_
    simp [retA, backA, szPz, c]
  · obtain ⟨_, g2, g3⟩ := szN_le c
    repeat first | refine OP ?_ | refine SK ?_ | refine OPN ?_ | refine OM ?_ | refine SM ?_ | refine OMN ?_ | refine WM.nil ?_ | refine OQ ?_ | refine SQ ?_ | refine TH ?_ | refine WR.nil ?_ | refine WQ.nil ?_ | refine W.seq ?_ | refine W.region ?_ | refine DR ?_ | refine IFT ?_ | refine IFF ?_ | refine W.skip ?_ | refine W.block ?_ | refine W.exit ?_ | refine W.ret ?_ | (simp only [tN, tR, tE, rN, rR, rE, xN, xR, xE, reduceIte]) | refine DN ?_
    refine CV (szPieceS_fn G _ _ hl hc.out g3 (by omega)) ?_
    by_cases c2 : szPS l (szN r.length left) < 0
    · repeat first | refine OP ?_ | refine SK ?_ | refine OPN ?_ | refine OM ?_ | refine SM ?_ | refine OMN ?_ | refine WM.nil ?_ | refine OQ ?_ | refine SQ ?_ | refine TH ?_ | refine WR.nil ?_ | refine WQ.nil ?_ | refine W.seq ?_ | refine W.region ?_ | refine DR ?_ | refine IFT ?_ | refine IFF ?_ | refine W.skip ?_ | refine W.block ?_ | refine W.exit ?_ | refine W.ret ?_ | (simp only [tN, tR, tE, rN, rR, rE, xN, xR, xE, reduceIte]) | refine DN ?_
      simp [retA, backA, szPz, c, szPS_neg c2]
    · repeat first | refine OP ?_ | refine SK ?_ | refine OPN ?_ | refine OM ?_ | refine SM ?_ | refine OMN ?_ | refine WM.nil ?_ | refine OQ ?_ | refine SQ ?_ | refine TH ?_ | refine WR.nil ?_ | refine WQ.nil ?_ | refine W.seq ?_ | refine W.region ?_ | refine DR ?_ | refine IFT ?_ | refine IFF ?_ | refine W.skip ?_ | refine W.block ?_ | refine W.exit ?_ | refine W.ret ?_ | (simp only [tN, tR, tE, rN, rR, rE, xN, xR, xE, reduceIte]) | refine DN ?_
      simp [retA, backA, szPz, c]
theorem szP_le {l : List PieceM} : ∀ {left : Int}, left ≤ 1048576 → ¬ szP l left < 0 → (∀ p ∈ l, (p.cs.length : Int) ≤ 1048576) ∧ szP l left ≤ left := by
  induction l with
  | nil => intro left _ _; exact ⟨by simp, Int.le_refl _⟩
  | cons p r ih =>
    intro left hl h
    unfold szP at h ⊢
    split at h
    · simp at h
    · rename_i c
      rw [if_neg c]
      obtain ⟨g1, g2, g3⟩ := szN_le c
      obtain ⟨h1, h2⟩ := ih (by omega) h
      refine ⟨fun x hx => ?_, by omega⟩
      rcases List.mem_cons.mp hx with rfl | hx
      · omega
      · exact h1 x hx
theorem szPz_le {r : List (Int × Int)} {l : List PieceM} {left : Int} (hl : left ≤ 1048576) (h : ¬ szPz r l left < 0) : (r.length : Int) ≤ 1048576 ∧ (l.length : Int) ≤ 1048576 ∧ (∀ p ∈ l, (p.cs.length : Int) ≤ 1048576) ∧ 0 ≤ szPz r l left ∧ szPz r l left ≤ left := by
  unfold szPz at h ⊢
  split at h
  · simp at h
  · rename_i c
    rw [if_neg c]
    obtain ⟨g1, g2, g3⟩ := szN_le c
    unfold szPS at h ⊢
    split at h
    · simp at h
    · rename_i c2
      rw [if_neg c2]
      obtain ⟨h1, h2⟩ := szP_le (by omega) h
      exact ⟨by omega, by omega, h1, by omega, by omega⟩
end Go.Proofs
end
section
open Go Go.Big
namespace Go.Proofs
set_option maxHeartbeats 2000000
abbrev placR (x : Int × List Int) : List PV := [.i .i64 x.1, .sl (ints x.2)]
def places (l : List (Int × List Int)) : List (List PV) := l.map placR
theorem places_len (l : List (Int × List Int)) : (places l).length = l.length := by simp [places]
theorem places_at {l : List (Int × List Int)} {i : Nat} {x : Int × List Int} (h : l[i]? = some x) : (places l)[i]? = some (placR x) := by simp [places, h]
theorem toPlacementS_fn (G : Gv) (l : List (Int × List Int)) (hl : l.length < 1000000000) (hc : ∀ p ∈ l, p.2.length < 1000000000) : Gives Tryz.prog G 19 [.sl 0 (places l)] (.sl 1 (places l)) := by
  refine .of (.body Tryz.func19 rfl (by simp [Tryz.ntmps19]) ?_)
  rw [Tryz.ntmps19, Tryz.results19]
  have hlen := places_len l
  have b1 : ((32 : Nat) : Int) * l.length ≤ 281474976710656 := by simp; omega
  have b2 : (l.length : Int) ≤ 9223372036854775807 := by omega
  have b3 : (0 : Int) ≤ l.length := by omega
  repeat first | refine OP ?_ | refine SK ?_ | refine OPN ?_ | refine TH ?_ | refine WR.nil ?_ | refine W.seq ?_ | refine W.region ?_ | refine DR ?_
  refine .block (.loop (.inv (fun d E H n' => ∃ i : Nat, i + d = l.length ∧ E 0 = .sl 0 (places l) ∧ E 3 = .own 3 0 ∧ E 4 = .i .i64 i ∧ H 3 = some (.arr 0 55 2 (part (places l) [.i .i64 0, .sl []] i) 1)) l.length ?_ ?_))
  · simp [setF_if, argE, upd_if, part_zero, hlen]
  rintro d E H n' ⟨i, hi, h0, h3, h4, hH⟩
  repeat first | refine OP ?_ | refine SK ?_ | refine OPN ?_ | refine TH ?_ | refine WR.nil ?_ | refine W.seq ?_ | refine W.region ?_ | refine DR ?_
  by_cases c : (i : Int) < l.length
  · refine IFT ?_
    obtain ⟨p, hpi⟩ : ∃ p, l[i]? = some p := ⟨_, List.getElem?_eq_getElem (by omega)⟩
    have hr : (places l)[i]? = some (placR p) := places_at hpi
    have hp := part_at (l := places l) (z := [PV.i .i64 0, PV.sl []]) (i := i) (by omega)
    have hs := part_set (z := [PV.i .i64 0, PV.sl []]) hr
    have hpl : i < (part (places l) [PV.i .i64 0, PV.sl []] i).length := (List.getElem?_eq_some_iff.mp hp).1
    have hw2 : IntKind.i64.wrap ((i : Int) + 1) = (i : Int) + 1 := wr64 (by omega) (by omega)
    refine .skip ?_
    repeat first | refine OP ?_ | refine SK ?_ | refine OPN ?_ | refine TH ?_ | refine WR.nil ?_ | refine W.seq ?_ | refine W.region ?_ | refine DR ?_
    refine .block ?_
    repeat first | refine OP ?_ | refine SK ?_ | refine OPN ?_ | refine TH ?_ | refine WR.nil ?_ | refine W.seq ?_ | refine W.region ?_ | refine DR ?_
    refine CV (toPlacement_fn G p.1 p.2 (hc p (List.mem_of_getElem? hpi))) ?_
    repeat first | refine OP ?_ | refine SK ?_ | refine OPN ?_ | refine TH ?_ | refine WR.nil ?_ | refine W.seq ?_ | refine W.region ?_ | refine DR ?_
    (try simp only [tN, tR, tE, rN, rR, rE, xN, xR, xE, reduceIte])
    repeat first | refine OP ?_ | refine SK ?_ | refine OPN ?_ | refine TH ?_ | refine WR.nil ?_ | refine W.seq ?_ | refine W.region ?_ | refine DR ?_
    (try simp only [tN, tR, tE, rN, rR, rE, xN, xR, xE, reduceIte])
    refine ⟨l.length - (i + 1), by omega, i + 1, by omega, ?_⟩
    simp [setF_if, upd_if, *]
  · refine IFF ?_
    refine .exit ?_
    (try simp only [tN, tR, tE, rN, rR, rE, xN, xR, xE, reduceIte])
    repeat first | refine OP ?_ | refine SK ?_ | refine OPN ?_ | refine TH ?_ | refine WR.nil ?_ | refine W.seq ?_ | refine W.region ?_ | refine DR ?_
    refine .ret ?_
    refine DN ?_
    have e : i = (places l).length := by omega
    simp [retA, backA, newSl, newB, hH]
    rw [e, part_all]
theorem eqPlacementS_fn (G : Gv) (l : List (Int × List Int)) (hl : l.length < 1000000000) (hc : ∀ p ∈ l, p.2.length < 1000000000) : Gives Tryz.prog G 23 [.sl 0 (places l), .sl 0 (places l)] (.b true) := by
  refine .of (.body Tryz.func23 rfl (by simp [Tryz.ntmps23]) ?_)
  rw [Tryz.ntmps23, Tryz.results23]
  have hlen := places_len l
  repeat first | refine OP ?_ | refine SK ?_ | refine OPN ?_ | refine TH ?_ | refine WR.nil ?_ | refine W.seq ?_ | refine W.region ?_ | refine DR ?_
  have hn : ((l.length : Int) != l.length) = false := by simp
  refine IFF ?_
  refine .skip ?_
  repeat first | refine OP ?_ | refine SK ?_ | refine OPN ?_ | refine TH ?_ | refine WR.nil ?_ | refine W.seq ?_ | refine W.region ?_ | refine DR ?_
  refine .block (.loop (.inv (fun d E H n' => ∃ i : Nat, i + d = l.length ∧ E 0 = .sl 0 (places l) ∧ E 1 = .sl 0 (places l) ∧ E 5 = .i .i64 i) l.length ?_ ?_))
  · simp [setF_if, argE]
  rintro d E H n' ⟨i, hi, h0, h1, h5⟩
  repeat first | refine OP ?_ | refine SK ?_ | refine OPN ?_ | refine TH ?_ | refine WR.nil ?_ | refine W.seq ?_ | refine W.region ?_ | refine DR ?_
  by_cases c : (i : Int) < l.length
  · refine IFT ?_
    obtain ⟨p, hpi⟩ : ∃ p, l[i]? = some p := ⟨_, List.getElem?_eq_getElem (by omega)⟩
    have hr : (places l)[i]? = some (placR p) := places_at hpi
    have hw2 : IntKind.i64.wrap ((i : Int) + 1) = (i : Int) + 1 := wr64 (by omega) (by omega)
    refine .skip ?_
    repeat first | refine OP ?_ | refine SK ?_ | refine OPN ?_ | refine TH ?_ | refine WR.nil ?_ | refine W.seq ?_ | refine W.region ?_ | refine DR ?_
    refine .block ?_
    repeat first | refine OQ ?_ | refine SQ ?_ | refine TH ?_ | refine WQ.nil ?_ | refine W.seq ?_ | refine W.region ?_ | refine DR ?_ | refine OP ?_ | refine SK ?_ | refine WR.nil ?_
    refine CQ (eqPlacement_fn G p.1 p.2 (hc p (List.mem_of_getElem? hpi))) ?_
    repeat first | refine OQ ?_ | refine SQ ?_ | refine TH ?_ | refine WQ.nil ?_ | refine W.seq ?_ | refine W.region ?_ | refine DR ?_ | refine OP ?_ | refine SK ?_ | refine WR.nil ?_
    refine IFF ?_
    refine .skip ?_
    (try simp only [tN, tR, tE, rN, rR, rE, xN, xR, xE, reduceIte])
    repeat first | refine OP ?_ | refine SK ?_ | refine OPN ?_ | refine TH ?_ | refine WR.nil ?_ | refine W.seq ?_ | refine W.region ?_ | refine DR ?_
    (try simp only [tN, tR, tE, rN, rR, rE, xN, xR, xE, reduceIte])
    refine ⟨l.length - (i + 1), by omega, i + 1, by omega, ?_⟩
    simp [setF_if, *]
  · refine IFF ?_
    refine .exit ?_
    (try simp only [tN, tR, tE, rN, rR, rE, xN, xR, xE, reduceIte])
    repeat first | refine OP ?_ | refine SK ?_ | refine OPN ?_ | refine TH ?_ | refine WR.nil ?_ | refine W.seq ?_ | refine W.region ?_ | refine DR ?_
    refine .ret ?_
    refine DN ?_
    simp [retA, backA]
def szPL : List (Int × List Int) → Int → Int
  | [], left => left
  | p :: r, left => if szN p.2.length left < 0 then -1 else szPL r (szN p.2.length left)
def szPLS (l : List (Int × List Int)) (left : Int) : Int := if left - l.length < 0 then -1 else szPL l (left - l.length)
theorem szPlacementS_fn (G : Gv) (l : List (Int × List Int)) (left : Int) (hl : l.length ≤ 9223372036854775807) (hc : ∀ p ∈ l, p.2.length ≤ 9223372036854775807) (h0 : 0 ≤ left) (h1 : left ≤ 1048576) : Gives Tryz.prog G 16 [.sl 0 (places l), .i .i64 left] (.i .i64 (szPLS l left)) := by
  refine .of (.body Tryz.func16 rfl (by simp [Tryz.ntmps16]) ?_)
  rw [Tryz.ntmps16, Tryz.results16]
  have hlen := places_len l
  replace hc := Hid.mk hc
  have hw : IntKind.i64.wrap (left - l.length) = left - l.length := wr64s (by omega) (by omega)
  by_cases c : left - (l.length : Int) < 0
  · repeat first | refine OP ?_ | refine SK ?_ | refine OPN ?_ | refine OM ?_ | refine SM ?_ | refine OMN ?_ | refine WM.nil ?_ | refine OQ ?_ | refine SQ ?_ | refine TH ?_ | refine WR.nil ?_ | refine WQ.nil ?_ | refine W.seq ?_ | refine W.region ?_ | refine DR ?_ | refine IFT ?_ | refine IFF ?_ | refine W.skip ?_ | refine W.block ?_ | refine W.exit ?_ | refine W.ret ?_ | (simp only [tN, tR, tE, rN, rR, rE, xN, xR, xE, reduceIte]) | refine DN ?_
    simp [retA, backA, szPLS, c]
  · repeat first | refine OP ?_ | refine SK ?_ | refine OPN ?_ | refine OM ?_ | refine SM ?_ | refine OMN ?_ | refine WM.nil ?_ | refine OQ ?_ | refine SQ ?_ | refine TH ?_ | refine WR.nil ?_ | refine WQ.nil ?_ | refine W.seq ?_ | refine W.region ?_ | refine DR ?_ | refine IFT ?_ | refine IFF ?_ | refine W.skip ?_ | refine W.block ?_ | refine W.exit ?_ | refine W.ret ?_ | (simp only [tN, tR, tE, rN, rR, rE, xN, xR, xE, reduceIte]) | refine DN ?_
    refine .loop (.inv (fun d E H n' => ∃ (i : Nat) (lf : Int), i + d = l.length ∧ 0 ≤ lf ∧ lf ≤ 1048576 ∧ szPL (l.drop i) lf = szPLS l left ∧ E 0 = .sl 0 (places l) ∧ E 1 = .i .i64 lf ∧ E 5 = .i .i64 i) l.length ?_ ?_)
    · exact ⟨0, left - l.length, by omega, by omega, by omega, by unfold szPLS; rw [if_neg c]; rfl, by simp [setF_if, argE], by simp [setF_if, argE, hlen, hw], by simp [setF_if, argE]⟩
    have hbl : (l.length : Int) ≤ 1048576 := by omega
    clear hw c
    rintro d E H n' ⟨i, lf, hi, hl0, hl1, hsz, e0, e1, e3⟩
    by_cases c : (i : Int) < l.length
    · have cN : i < l.length := by omega
      obtain ⟨p, hpi⟩ : ∃ p, l[i]? = some p := ⟨_, List.getElem?_eq_getElem (by omega)⟩
      have hr : (places l)[i]? = some (placR p) := places_at hpi
      have hw_i : IntKind.i64.wrap ((i : Int) + 1) = (i : Int) + 1 := wr64 (by omega) (by omega)
      have hd : l.drop i = p :: l.drop (i + 1) := drop_cons hpi
      rw [hd] at hsz
      have hpc := hc.out p (List.mem_of_getElem? hpi)
      replace hsz := Hid.mk hsz
      clear hd
      repeat first | refine OQ ?_ | refine SQ ?_ | refine TH ?_ | refine WQ.nil ?_ | refine W.seq ?_ | refine W.region ?_ | refine DR ?_ | refine OP ?_ | refine SK ?_ | refine WR.nil ?_
      repeat first | refine OP ?_ | refine SK ?_ | refine OPN ?_ | refine OM ?_ | refine SM ?_ | refine OMN ?_ | refine WM.nil ?_ | refine OQ ?_ | refine SQ ?_ | refine TH ?_ | refine WR.nil ?_ | refine WQ.nil ?_ | refine W.seq ?_ | refine W.region ?_ | refine DR ?_ | refine IFT ?_ | refine IFF ?_ | refine W.skip ?_ | refine W.block ?_ | refine W.exit ?_ | refine W.ret ?_ | (simp only [tN, tR, tE, rN, rR, rE, xN, xR, xE, reduceIte]) | refine DN ?_
      refine CV (szPlacement_fn G p.1 _ _ hpc hl0 hl1) ?_
      by_cases c2 : szN p.2.length lf < 0
      · repeat first | refine OP ?_ | refine SK ?_ | refine OPN ?_ | refine OM ?_ | refine SM ?_ | refine OMN ?_ | refine WM.nil ?_ | refine OQ ?_ | refine SQ ?_ | refine TH ?_ | refine WR.nil ?_ | refine WQ.nil ?_ | refine W.seq ?_ | refine W.region ?_ | refine DR ?_ | refine IFT ?_ | refine IFF ?_ | refine W.skip ?_ | refine W.block ?_ | refine W.exit ?_ | refine W.ret ?_ | (simp only [tN, tR, tE, rN, rR, rE, xN, xR, xE, reduceIte]) | refine DN ?_
        have : szPLS l left = -1 := by rw [← hsz.out, szPL, if_pos c2]
        simp [retA, backA, this]
      · repeat first | refine OP ?_ | refine SK ?_ | refine OPN ?_ | refine OM ?_ | refine SM ?_ | refine OMN ?_ | refine WM.nil ?_ | refine OQ ?_ | refine SQ ?_ | refine TH ?_ | refine WR.nil ?_ | refine WQ.nil ?_ | refine W.seq ?_ | refine W.region ?_ | refine DR ?_ | refine IFT ?_ | refine IFF ?_ | refine W.skip ?_ | refine W.block ?_ | refine W.exit ?_ | refine W.ret ?_ | (simp only [tN, tR, tE, rN, rR, rE, xN, xR, xE, reduceIte]) | refine DN ?_
        obtain ⟨_, g2, g3⟩ := szN_le c2
        refine ⟨l.length - (i + 1), by omega, i + 1, szN p.2.length lf, by omega, g3, by omega, by rw [← hsz.out, szPL, if_neg c2], by simp [setF_if, *], by simp [setF_if, *], by simp [setF_if, *]⟩
    · have e' : i = l.length := by omega
      subst e'
      rw [List.drop_length, szPL] at hsz
      repeat first | refine OP ?_ | refine SK ?_ | refine OPN ?_ | refine OM ?_ | refine SM ?_ | refine OMN ?_ | refine WM.nil ?_ | refine OQ ?_ | refine SQ ?_ | refine TH ?_ | refine WR.nil ?_ | refine WQ.nil ?_ | refine W.seq ?_ | refine W.region ?_ | refine DR ?_ | refine IFT ?_ | refine IFF ?_ | refine W.skip ?_ | refine W.block ?_ | refine W.exit ?_ | refine W.ret ?_ | (simp only [tN, tR, tE, rN, rR, rE, xN, xR, xE, reduceIte]) | refine DN ?_
      simp [retA, backA, hsz]
theorem szPL_le {l : List (Int × List Int)} : ∀ {left : Int}, left ≤ 1048576 → ¬ szPL l left < 0 → (∀ p ∈ l, (p.2.length : Int) ≤ 1048576) ∧ szPL l left ≤ left := by
  induction l with
  | nil => intro left _ _; exact ⟨by simp, Int.le_refl _⟩
  | cons p r ih =>
    intro left hl h
    unfold szPL at h ⊢
    split at h
    · simp at h
    · rename_i c
      rw [if_neg c]
      obtain ⟨g1, g2, g3⟩ := szN_le c
      obtain ⟨h1, h2⟩ := ih (by omega) h
      refine ⟨fun x hx => ?_, by omega⟩
      rcases List.mem_cons.mp hx with rfl | hx
      · omega
      · exact h1 x hx
theorem szPLS_le {l : List (Int × List Int)} {left : Int} (hl : left ≤ 1048576) (h : ¬ szPLS l left < 0) : (l.length : Int) ≤ 1048576 ∧ ∀ p ∈ l, (p.2.length : Int) ≤ 1048576 := by
  unfold szPLS at h
  split at h
  · simp at h
  · obtain ⟨h1, h2⟩ := szPL_le (by omega) h
    exact ⟨by omega, h1⟩
end Go.Proofs
end
section
open Go Go.Big
namespace Go.Proofs
set_option maxHeartbeats 2000000
theorem take_allG {α : Type} {p : α → Bool} {l : List α} {i : Nat} {x : α} (h : l[i]? = some x) : (l.take (i + 1)).all p = ((l.take i).all p && p x) := by
  obtain ⟨hi, rfl⟩ := List.getElem?_eq_some_iff.mp h
  rw [List.take_succ_eq_append_getElem hi, List.all_append]; simp
theorem all_noG {α : Type} {p : α → Bool} {l : List α} {i : Nat} {x : α} (h : l[i]? = some x) (hp : p x = false) : l.all p = false :=
  List.all_eq_false.mpr ⟨x, List.mem_of_getElem? h, by simp [hp]⟩
def clearM (l : List (Int × List Int)) (x : List Int) : Bool := l.all fun y => !overM y.2 x
theorem l15Clear_fn (G : Gv) (l : List (Int × List Int)) (x : Int × List Int) (hl : l.length < 1000000000) (hc : ∀ p ∈ l, p.2.length < 1000000000) (hx : x.2.length < 1000000000) : Gives Tryz.prog G 202 [.sl 0 (places l), placA 0 x] (.b (clearM l x.2)) := by
  refine .of (.body Tryz.func202 rfl (by simp [Tryz.ntmps202]) ?_)
  rw [Tryz.ntmps202, Tryz.results202]
  obtain ⟨k, s⟩ := x
  have hlen := places_len l
  replace hc := Hid.mk hc
  repeat first | refine OP ?_ | refine SK ?_ | refine OPN ?_ | refine OM ?_ | refine SM ?_ | refine OMN ?_ | refine WM.nil ?_ | refine OQ ?_ | refine SQ ?_ | refine TH ?_ | refine WR.nil ?_ | refine WQ.nil ?_ | refine W.seq ?_ | refine W.region ?_ | refine DR ?_ | refine IFT ?_ | refine IFF ?_ | refine W.skip ?_ | refine W.block ?_ | refine W.exit ?_ | refine W.ret ?_ | (simp only [tN, tR, tE, rN, rR, rE, xN, xR, xE, reduceIte]) | refine DN ?_
  refine .loop (.inv (fun d E H n' => ∃ i : Nat, i + d = l.length ∧ 0 < n' ∧ E 0 = .sl 0 (places l) ∧ E 3 = .ptr 0 0 0 0 ∧ E 5 = .i .i64 i ∧ H 0 = some (.box 55 [.i .i64 k, .sl 0 (ints s)]) ∧ (l.take i).all (fun y => !overM y.2 s) = true) l.length ?_ ?_)
  · exact ⟨0, by omega, by omega, by simp [setF_if, argE], by simp [setF_if, argE], by simp [setF_if, argE], by simp [upd_if], by simp⟩
  rintro d E H n' ⟨i, hi, hn, h0, h3, h5, hH, hall⟩
  replace hall := Hid.mk hall
  by_cases c : (i : Int) < l.length
  · have hw_i : IntKind.i64.wrap ((i : Int) + 1) = (i : Int) + 1 := wr64 (by omega) (by omega)
    obtain ⟨p, hp⟩ : ∃ p, l[i]? = some p := ⟨_, List.getElem?_eq_getElem (by omega)⟩
    have hr := places_at hp
    have hta := take_allG (p := fun y : Int × List Int => !overM y.2 s) hp
    have hat := all_noG (p := fun y : Int × List Int => !overM y.2 s) hp
    have hpl := hc.out p (List.mem_of_getElem? hp)
    replace hta := Hid.mk hta
    replace hat := Hid.mk hat
    replace hp := Hid.mk hp
    repeat first | refine OP ?_ | refine SK ?_ | refine OPN ?_ | refine OM ?_ | refine SM ?_ | refine OMN ?_ | refine WM.nil ?_ | refine OQ ?_ | refine SQ ?_ | refine TH ?_ | refine WR.nil ?_ | refine WQ.nil ?_ | refine W.seq ?_ | refine W.region ?_ | refine DR ?_ | refine IFT ?_ | refine IFF ?_ | refine W.skip ?_ | refine W.block ?_ | refine W.exit ?_ | refine W.ret ?_ | (simp only [tN, tR, tE, rN, rR, rE, xN, xR, xE, reduceIte]) | refine DN ?_
    refine CQ (l12Overlap_fn G p.2 s hpl hx) ?_
    by_cases ce : overM p.2 s = true
    · repeat first | refine OP ?_ | refine SK ?_ | refine OPN ?_ | refine OM ?_ | refine SM ?_ | refine OMN ?_ | refine WM.nil ?_ | refine OQ ?_ | refine SQ ?_ | refine TH ?_ | refine WR.nil ?_ | refine WQ.nil ?_ | refine W.seq ?_ | refine W.region ?_ | refine DR ?_ | refine IFT ?_ | refine IFF ?_ | refine W.skip ?_ | refine W.block ?_ | refine W.exit ?_ | refine W.ret ?_ | (simp only [tN, tR, tE, rN, rR, rE, xN, xR, xE, reduceIte]) | refine DN ?_
      simp [retA, backA, clearM, hat.out (by simp [ce])]
    · repeat first | refine OP ?_ | refine SK ?_ | refine OPN ?_ | refine OM ?_ | refine SM ?_ | refine OMN ?_ | refine WM.nil ?_ | refine OQ ?_ | refine SQ ?_ | refine TH ?_ | refine WR.nil ?_ | refine WQ.nil ?_ | refine W.seq ?_ | refine W.region ?_ | refine DR ?_ | refine IFT ?_ | refine IFF ?_ | refine W.skip ?_ | refine W.block ?_ | refine W.exit ?_ | refine W.ret ?_ | (simp only [tN, tR, tE, rN, rR, rE, xN, xR, xE, reduceIte]) | refine DN ?_
      exact ⟨l.length - (i + 1), by omega, i + 1, by omega, by omega, by simp [setF_if, *], by simp [setF_if, *], by simp [setF_if, *], by simp [upd_if, *], by rw [hta.out, hall.out]; simpa using ce⟩
  · have e : i = l.length := by omega
    rw [e, List.take_length] at hall
    repeat first | refine OP ?_ | refine SK ?_ | refine OPN ?_ | refine OM ?_ | refine SM ?_ | refine OMN ?_ | refine WM.nil ?_ | refine OQ ?_ | refine SQ ?_ | refine TH ?_ | refine WR.nil ?_ | refine WQ.nil ?_ | refine W.seq ?_ | refine W.region ?_ | refine DR ?_ | refine IFT ?_ | refine IFF ?_ | refine W.skip ?_ | refine W.block ?_ | refine W.exit ?_ | refine W.ret ?_ | (simp only [tN, tR, tE, rN, rR, rE, xN, xR, xE, reduceIte]) | refine DN ?_
    simp [retA, backA, clearM, hall.out]
def decM (out : List Int) (x : Int × List Int) : List Int := out.set x.1.toNat (IntKind.i64.wrap (out.getD x.1.toNat 0 - 1))
def copiesM (l : List PieceM) : List Int := l.map fun p => p.k
def leftM (l : List PieceM) (s : List (Int × List Int)) : List Int := s.foldl decM (copiesM l)
theorem foldl_take {α β : Type} {f : β → α → β} {z : β} {l : List α} {i : Nat} {x : α} (h : l[i]? = some x) : (l.take (i + 1)).foldl f z = f ((l.take i).foldl f z) x := by
  obtain ⟨hi, rfl⟩ := List.getElem?_eq_some_iff.mp h
  rw [List.take_succ_eq_append_getElem hi, List.foldl_append]; rfl
theorem dec_len : ∀ (s : List (Int × List Int)) (o : List Int), (s.foldl decM o).length = o.length
  | [], _ => rfl
  | x :: s, o => by rw [List.foldl_cons, dec_len s]; simp [decM]
theorem l15Left_fn (G : Gv) (r : List (Int × Int)) (l : List PieceM) (s : List (Int × List Int)) (hl : l.length < 1000000000) (hs : s.length < 1000000000) (hk : ∀ x ∈ s, 0 ≤ x.1 ∧ x.1 < l.length) : Gives Tryz.prog G 62 [.ag [.sl 0 (cells r), .sl 0 (pieces l)], .sl 0 (places s)] (.sl 1 (ints (leftM l s))) := by
  refine .of (.body Tryz.func62 rfl (by simp [Tryz.ntmps62]) ?_)
  rw [Tryz.ntmps62, Tryz.results62]
  have hlen := pieces_len l
  have hlens := places_len s
  replace hk := Hid.mk hk
  repeat first | refine OP ?_ | refine SK ?_ | refine OPN ?_ | refine OM ?_ | refine SM ?_ | refine OMN ?_ | refine WM.nil ?_ | refine OQ ?_ | refine SQ ?_ | refine TH ?_ | refine WR.nil ?_ | refine WQ.nil ?_ | refine W.seq ?_ | refine W.region ?_ | refine DR ?_ | refine IFT ?_ | refine IFF ?_ | refine W.skip ?_ | refine W.block ?_ | refine W.exit ?_ | refine W.ret ?_ | (simp only [tN, tR, tE, rN, rR, rE, xN, xR, xE, reduceIte]) | refine DN ?_
  refine .loop (.inv (fun d E H n' => ∃ i : Nat, i + d = l.length ∧ 2 < n' ∧ E 1 = .sl 0 (places s) ∧ E 2 = .ptr 0 0 0 0 ∧ E 6 = .i .i64 i ∧ H 0 = some (.box 35 [.sl 0 (cells r), .sl 0 (pieces l)]) ∧ ∃ e, E 5 = .own 2 e ∧ H 2 = some (.arr e 2 1 (ints (copiesM (l.take i))) 1)) l.length ?_ ?_)
  · exact ⟨0, by omega, by omega, by simp [setF_if, argE], by simp [setF_if, argE], by simp [setF_if, argE], by simp [upd_if], 0, by simp [setF_if, argE], by simp [upd_if, copiesM, ints]⟩
  · rintro d E H n' ⟨i, hi, hn, h1, h2, h6, hH, e, h5, hH2⟩
    by_cases c : (i : Int) < l.length
    · have hw_i : IntKind.i64.wrap ((i : Int) + 1) = (i : Int) + 1 := wr64 (by omega) (by omega)
      obtain ⟨p, hp⟩ : ∃ p, l[i]? = some p := ⟨_, List.getElem?_eq_getElem (by omega)⟩
      have hr : (pieces l)[i]? = some (pieceR p) := by simp [pieces, hp]
      have htk : ints (copiesM (l.take i)) ++ [[.i .i64 p.k]] = ints (copiesM (l.take (i + 1))) := by
        obtain ⟨hi', rfl⟩ := List.getElem?_eq_some_iff.mp hp
        rw [List.take_succ_eq_append_getElem hi']; simp only [ints, copiesM, List.map_append, List.map_cons, List.map_nil]
      have hrl : (ints (copiesM (l.take i))).length = i := by simp [ints, copiesM]; omega
      have hb : (i + 1) * 8 ≤ 140737488355328 := by omega
      replace hp := Hid.mk hp
      repeat first | refine OP ?_ | refine SK ?_ | refine OPN ?_ | refine OM ?_ | refine SM ?_ | refine OMN ?_ | refine WM.nil ?_ | refine OQ ?_ | refine SQ ?_ | refine TH ?_ | refine WR.nil ?_ | refine WQ.nil ?_ | refine W.seq ?_ | refine W.region ?_ | refine DR ?_ | refine IFT ?_ | refine IFF ?_ | refine W.skip ?_ | refine W.block ?_ | refine W.exit ?_ | refine W.ret ?_ | (simp only [tN, tR, tE, rN, rR, rE, xN, xR, xE, reduceIte]) | refine DN ?_
      exact ⟨l.length - (i + 1), by omega, i + 1, by omega, by omega, by simp [setF_if, *], by simp [setF_if, *], by simp [setF_if, *], by simp [upd_if, *], e + 1, by simp [setF_if, *], by simp [upd_if, *]⟩
    · have ei : i = l.length := by omega
      rw [ei, List.take_length] at hH2
      repeat first | refine OP ?_ | refine SK ?_ | refine OPN ?_ | refine OM ?_ | refine SM ?_ | refine OMN ?_ | refine WM.nil ?_ | refine OQ ?_ | refine SQ ?_ | refine TH ?_ | refine WR.nil ?_ | refine WQ.nil ?_ | refine W.seq ?_ | refine W.region ?_ | refine DR ?_ | refine IFT ?_ | refine IFF ?_ | refine W.skip ?_ | refine W.block ?_ | refine W.exit ?_ | refine W.ret ?_ | (simp only [tN, tR, tE, rN, rR, rE, xN, xR, xE, reduceIte]) | refine DN ?_
      refine .loop (.inv (fun d E H n' => ∃ i : Nat, i + d = s.length ∧ 2 < n' ∧ E 1 = .sl 0 (places s) ∧ E 7 = .i .i64 i ∧ E 5 = .own 2 e ∧ H 2 = some (.arr e 2 1 (ints ((s.take i).foldl decM (copiesM l))) 1)) s.length ?_ ?_)
      · exact ⟨0, by omega, by omega, by simp [setF_if, *], by simp [setF_if, *], by simp [setF_if, *], by simp [upd_if, *]⟩
      clear h1 h5 hH2 c ei hi hH h2 h6
      rintro d E H n' ⟨i, hi, hn, h1, h7, h5, hH2⟩
      by_cases c : (i : Int) < s.length
      · have hw_i : IntKind.i64.wrap ((i : Int) + 1) = (i : Int) + 1 := wr64 (by omega) (by omega)
        obtain ⟨x, hx⟩ : ∃ x, s[i]? = some x := ⟨_, List.getElem?_eq_getElem (by omega)⟩
        have hr := places_at hx
        obtain ⟨k1, k2⟩ := hk.out x (List.mem_of_getElem? hx)
        have hft := foldl_take (f := decM) (z := copiesM l) hx
        have hol : ((s.take i).foldl decM (copiesM l)).length = l.length := by rw [dec_len]; simp [copiesM]
        have hro := ints_at (l := (s.take i).foldl decM (copiesM l)) (i := x.1.toNat) (by omega)
        have hro2 : x.1.toNat < (ints ((s.take i).foldl decM (copiesM l))).length := by rw [ints_len]; omega
        have hset := ints_set ((s.take i).foldl decM (copiesM l)) x.1.toNat (IntKind.i64.wrap (((s.take i).foldl decM (copiesM l)).getD x.1.toNat 0 - 1))
        rw [show ((s.take i).foldl decM (copiesM l)).set x.1.toNat (IntKind.i64.wrap (((s.take i).foldl decM (copiesM l)).getD x.1.toNat 0 - 1)) = (s.take (i + 1)).foldl decM (copiesM l) by rw [hft]; rfl] at hset
        replace hset := hset.symm
        generalize ((s.take i).foldl decM (copiesM l)).getD x.1.toNat 0 = v at hro hset
        generalize ints ((s.take i).foldl decM (copiesM l)) = R at hH2 hro hro2 hset
        replace hx := Hid.mk hx
        replace hft := Hid.mk hft
        clear hol
        repeat first | refine OP ?_ | refine SK ?_ | refine OPN ?_ | refine OM ?_ | refine SM ?_ | refine OMN ?_ | refine WM.nil ?_ | refine OQ ?_ | refine SQ ?_ | refine TH ?_ | refine WR.nil ?_ | refine WQ.nil ?_ | refine W.seq ?_ | refine W.region ?_ | refine DR ?_ | refine IFT ?_ | refine IFF ?_ | refine W.skip ?_ | refine W.block ?_ | refine W.exit ?_ | refine W.ret ?_ | (simp only [tN, tR, tE, rN, rR, rE, xN, xR, xE, reduceIte]) | refine DN ?_
        exact ⟨s.length - (i + 1), by omega, i + 1, by omega, by omega, by simp [setF_if, *], by simp [setF_if, *], by simp [setF_if, *], by simp [upd_if, *]⟩
      · have ei : i = s.length := by omega
        rw [ei, List.take_length] at hH2
        repeat first | refine OP ?_ | refine SK ?_ | refine OPN ?_ | refine OM ?_ | refine SM ?_ | refine OMN ?_ | refine WM.nil ?_ | refine OQ ?_ | refine SQ ?_ | refine TH ?_ | refine WR.nil ?_ | refine WQ.nil ?_ | refine W.seq ?_ | refine W.region ?_ | refine DR ?_ | refine IFT ?_ | refine IFF ?_ | refine W.skip ?_ | refine W.block ?_ | refine W.exit ?_ | refine W.ret ?_ | (simp only [tN, tR, tE, rN, rR, rE, xN, xR, xE, reduceIte]) | refine DN ?_
        simp [retA, backA, newSl, newB, leftM, *]
end Go.Proofs
end
