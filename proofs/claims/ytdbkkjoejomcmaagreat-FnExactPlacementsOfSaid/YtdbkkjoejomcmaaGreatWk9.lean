/- Walks: Sizes of what comes in. No condition. | Lists of placements: turned into other ones, equal to itself, their size. No condition. | Placements of a piece, as lists: what both programs make. No condition. | Arguments turned into ones that the caller owns. No condition. -/
import Derived.Test.YtdbkkjoejomcmaaGreatBO
import Derived.Test.YtdbkkjoejomcmaaGreatWk1
import Derived.Test.YtdbkkjoejomcmaaGreatWk8
import Derived.Test.YtdbkkjoejomcmaaGreatWk2
import Derived.Test.YtdbkkjoejomcmaaGreatBC
set_option linter.unusedVariables false
set_option linter.unusedSimpArgs false
section
open Go Go.Big
namespace Go.Proofs
set_option maxHeartbeats 2000000
theorem wr64s {n : Int} (h1 : -9223372036854775808 ≤ n) (h2 : n ≤ 9223372036854775807) : IntKind.i64.wrap n = n := by
  simp only [IntKind.wrap, IntKind.bits, IntKind.signed]; simp; omega
def szN (n : Nat) (left : Int) : Int := if left - n < 0 then -1 else left - n
theorem szN_le {n : Nat} {left : Int} (h : ¬ szN n left < 0) : (n : Int) ≤ left ∧ szN n left ≤ left ∧ 0 ≤ szN n left := by
  unfold szN at *; split at h <;> simp_all <;> omega
theorem szCellS_fn (G : Gv) (l : List (Int × Int)) (left : Int) (hl : l.length ≤ 9223372036854775807) (h0 : 0 ≤ left) (h1 : left ≤ 1048576) : Gives Tryz.prog G 59 [.sl 0 (cells l), .i .i64 left] (.i .i64 (szN l.length left)) := by
  refine .of (.body Tryz.func59 rfl (by simp [Tryz.ntmps59]) ?_)
  rw [Tryz.ntmps59, Tryz.results59]
  have hlen := cells_len l
  have hw : IntKind.i64.wrap (left - l.length) = left - l.length := wr64s (by omega) (by omega)
  by_cases c : left - (l.length : Int) < 0
  · repeat first | refine OP ?_ | refine SK ?_ | refine OPN ?_ | refine OM ?_ | refine SM ?_ | refine OMN ?_ | refine WM.nil ?_ | refine OQ ?_ | refine SQ ?_ | refine TH ?_ | refine WR.nil ?_ | refine WQ.nil ?_ | refine W.seq ?_ | refine W.region ?_ | refine DR ?_ | refine IFT ?_ | refine IFF ?_ | refine W.skip ?_ | refine W.block ?_ | refine W.exit ?_ | refine W.ret ?_ | (simp only [tN, tR, tE, rN, rR, rE, xN, xR, xE, reduceIte]) | refine DN ?_
    simp [retA, backA, szN, c]
  · repeat first | refine OP ?_ | refine SK ?_ | refine OPN ?_ | refine OM ?_ | refine SM ?_ | refine OMN ?_ | refine WM.nil ?_ | refine OQ ?_ | refine SQ ?_ | refine TH ?_ | refine WR.nil ?_ | refine WQ.nil ?_ | refine W.seq ?_ | refine W.region ?_ | refine DR ?_ | refine IFT ?_ | refine IFF ?_ | refine W.skip ?_ | refine W.block ?_ | refine W.exit ?_ | refine W.ret ?_ | (simp only [tN, tR, tE, rN, rR, rE, xN, xR, xE, reduceIte]) | refine DN ?_
    simp [retA, backA, szN, c]
theorem szInt64S_fn (G : Gv) (l : List Int) (left : Int) (hl : l.length ≤ 9223372036854775807) (h0 : 0 ≤ left) (h1 : left ≤ 1048576) : Gives Tryz.prog G 84 [.sl 0 (ints l), .i .i64 left] (.i .i64 (szN l.length left)) := by
  refine .of (.body Tryz.func84 rfl (by simp [Tryz.ntmps84]) ?_)
  rw [Tryz.ntmps84, Tryz.results84]
  have hlen := ints_len l
  have hw : IntKind.i64.wrap (left - l.length) = left - l.length := wr64s (by omega) (by omega)
  by_cases c : left - (l.length : Int) < 0
  · repeat first | refine OP ?_ | refine SK ?_ | refine OPN ?_ | refine OM ?_ | refine SM ?_ | refine OMN ?_ | refine WM.nil ?_ | refine OQ ?_ | refine SQ ?_ | refine TH ?_ | refine WR.nil ?_ | refine WQ.nil ?_ | refine W.seq ?_ | refine W.region ?_ | refine DR ?_ | refine IFT ?_ | refine IFF ?_ | refine W.skip ?_ | refine W.block ?_ | refine W.exit ?_ | refine W.ret ?_ | (simp only [tN, tR, tE, rN, rR, rE, xN, xR, xE, reduceIte]) | refine DN ?_
    simp [retA, backA, szN, c]
  · repeat first | refine OP ?_ | refine SK ?_ | refine OPN ?_ | refine OM ?_ | refine SM ?_ | refine OMN ?_ | refine WM.nil ?_ | refine OQ ?_ | refine SQ ?_ | refine TH ?_ | refine WR.nil ?_ | refine WQ.nil ?_ | refine W.seq ?_ | refine W.region ?_ | refine DR ?_ | refine IFT ?_ | refine IFF ?_ | refine W.skip ?_ | refine W.block ?_ | refine W.exit ?_ | refine W.ret ?_ | (simp only [tN, tR, tE, rN, rR, rE, xN, xR, xE, reduceIte]) | refine DN ?_
    simp [retA, backA, szN, c]
theorem szPiece_fn (G : Gv) (p : PieceM) (left : Int) (hl : p.cs.length ≤ 9223372036854775807) (h0 : 0 ≤ left) (h1 : left ≤ 1048576) : Gives Tryz.prog G 115 [pieceA 0 p, .i .i64 left] (.i .i64 (szN p.cs.length left)) := by
  refine .of (.body Tryz.func115 rfl (by simp [Tryz.ntmps115]) ?_)
  rw [Tryz.ntmps115, Tryz.results115]
  repeat first | refine OP ?_ | refine SK ?_ | refine OPN ?_ | refine OM ?_ | refine SM ?_ | refine OMN ?_ | refine WM.nil ?_ | refine OQ ?_ | refine SQ ?_ | refine TH ?_ | refine WR.nil ?_ | refine WQ.nil ?_ | refine W.seq ?_ | refine W.region ?_ | refine DR ?_ | refine IFT ?_ | refine IFF ?_ | refine W.skip ?_ | refine W.block ?_ | refine W.exit ?_ | refine W.ret ?_ | (simp only [tN, tR, tE, rN, rR, rE, xN, xR, xE, reduceIte]) | refine DN ?_
  refine CV (szCellS_fn G _ _ hl h0 h1) ?_
  by_cases c : szN p.cs.length left < 0
  · repeat first | refine OP ?_ | refine SK ?_ | refine OPN ?_ | refine OM ?_ | refine SM ?_ | refine OMN ?_ | refine WM.nil ?_ | refine OQ ?_ | refine SQ ?_ | refine TH ?_ | refine WR.nil ?_ | refine WQ.nil ?_ | refine W.seq ?_ | refine W.region ?_ | refine DR ?_ | refine IFT ?_ | refine IFF ?_ | refine W.skip ?_ | refine W.block ?_ | refine W.exit ?_ | refine W.ret ?_ | (simp only [tN, tR, tE, rN, rR, rE, xN, xR, xE, reduceIte]) | refine DN ?_
    have : szN p.cs.length left = -1 := by unfold szN at *; split at c <;> simp_all
    simp [retA, backA, this]
  · repeat first | refine OP ?_ | refine SK ?_ | refine OPN ?_ | refine OM ?_ | refine SM ?_ | refine OMN ?_ | refine WM.nil ?_ | refine OQ ?_ | refine SQ ?_ | refine TH ?_ | refine WR.nil ?_ | refine WQ.nil ?_ | refine W.seq ?_ | refine W.region ?_ | refine DR ?_ | refine IFT ?_ | refine IFF ?_ | refine W.skip ?_ | refine W.block ?_ | refine W.exit ?_ | refine W.ret ?_ | (simp only [tN, tR, tE, rN, rR, rE, xN, xR, xE, reduceIte]) | refine DN ?_
    simp [retA, backA]
theorem szPlacement_fn (G : Gv) (k : Int) (l : List Int) (left : Int) (hl : l.length ≤ 9223372036854775807) (h0 : 0 ≤ left) (h1 : left ≤ 1048576) : Gives Tryz.prog G 39 [.ag [.i .i64 k, .sl 0 (ints l)], .i .i64 left] (.i .i64 (szN l.length left)) := by
  refine .of (.body Tryz.func39 rfl (by simp [Tryz.ntmps39]) ?_)
  rw [Tryz.ntmps39, Tryz.results39]
  repeat first | refine OP ?_ | refine SK ?_ | refine OPN ?_ | refine OM ?_ | refine SM ?_ | refine OMN ?_ | refine WM.nil ?_ | refine OQ ?_ | refine SQ ?_ | refine TH ?_ | refine WR.nil ?_ | refine WQ.nil ?_ | refine W.seq ?_ | refine W.region ?_ | refine DR ?_ | refine IFT ?_ | refine IFF ?_ | refine W.skip ?_ | refine W.block ?_ | refine W.exit ?_ | refine W.ret ?_ | (simp only [tN, tR, tE, rN, rR, rE, xN, xR, xE, reduceIte]) | refine DN ?_
  refine CV (szInt64S_fn G _ _ hl h0 h1) ?_
  by_cases c : szN l.length left < 0
  · repeat first | refine OP ?_ | refine SK ?_ | refine OPN ?_ | refine OM ?_ | refine SM ?_ | refine OMN ?_ | refine WM.nil ?_ | refine OQ ?_ | refine SQ ?_ | refine TH ?_ | refine WR.nil ?_ | refine WQ.nil ?_ | refine W.seq ?_ | refine W.region ?_ | refine DR ?_ | refine IFT ?_ | refine IFF ?_ | refine W.skip ?_ | refine W.block ?_ | refine W.exit ?_ | refine W.ret ?_ | (simp only [tN, tR, tE, rN, rR, rE, xN, xR, xE, reduceIte]) | refine DN ?_
    have : szN l.length left = -1 := by unfold szN at *; split at c <;> simp_all
    simp [retA, backA, this]
  · repeat first | refine OP ?_ | refine SK ?_ | refine OPN ?_ | refine OM ?_ | refine SM ?_ | refine OMN ?_ | refine WM.nil ?_ | refine OQ ?_ | refine SQ ?_ | refine TH ?_ | refine WR.nil ?_ | refine WQ.nil ?_ | refine W.seq ?_ | refine W.region ?_ | refine DR ?_ | refine IFT ?_ | refine IFF ?_ | refine W.skip ?_ | refine W.block ?_ | refine W.exit ?_ | refine W.ret ?_ | (simp only [tN, tR, tE, rN, rR, rE, xN, xR, xE, reduceIte]) | refine DN ?_
    simp [retA, backA]
def szP : List PieceM → Int → Int
  | [], left => left
  | p :: r, left => if szN p.cs.length left < 0 then -1 else szP r (szN p.cs.length left)
def szPS (l : List PieceM) (left : Int) : Int := if left - l.length < 0 then -1 else szP l (left - l.length)
theorem szPieceS_fn (G : Gv) (l : List PieceM) (left : Int) (hl : l.length ≤ 9223372036854775807) (hc : ∀ p ∈ l, p.cs.length ≤ 9223372036854775807) (h0 : 0 ≤ left) (h1 : left ≤ 1048576) : Gives Tryz.prog G 60 [.sl 0 (pieces l), .i .i64 left] (.i .i64 (szPS l left)) := by
  refine .of (.body Tryz.func60 rfl (by simp [Tryz.ntmps60]) ?_)
  rw [Tryz.ntmps60, Tryz.results60]
  have hlen := pieces_len l
  replace hc := Hid.mk hc
  have hw : IntKind.i64.wrap (left - l.length) = left - l.length := wr64s (by omega) (by omega)
  by_cases c : left - (l.length : Int) < 0
  · repeat first | refine OP ?_ | refine SK ?_ | refine OPN ?_ | refine OM ?_ | refine SM ?_ | refine OMN ?_ | refine WM.nil ?_ | refine OQ ?_ | refine SQ ?_ | refine TH ?_ | refine WR.nil ?_ | refine WQ.nil ?_ | refine W.seq ?_ | refine W.region ?_ | refine DR ?_ | refine IFT ?_ | refine IFF ?_ | refine W.skip ?_ | refine W.block ?_ | refine W.exit ?_ | refine W.ret ?_ | (simp only [tN, tR, tE, rN, rR, rE, xN, xR, xE, reduceIte]) | refine DN ?_
    simp [retA, backA, szPS, c]
  · repeat first | refine OP ?_ | refine SK ?_ | refine OPN ?_ | refine OM ?_ | refine SM ?_ | refine OMN ?_ | refine WM.nil ?_ | refine OQ ?_ | refine SQ ?_ | refine TH ?_ | refine WR.nil ?_ | refine WQ.nil ?_ | refine W.seq ?_ | refine W.region ?_ | refine DR ?_ | refine IFT ?_ | refine IFF ?_ | refine W.skip ?_ | refine W.block ?_ | refine W.exit ?_ | refine W.ret ?_ | (simp only [tN, tR, tE, rN, rR, rE, xN, xR, xE, reduceIte]) | refine DN ?_
    refine .loop (.inv (fun d E H n' => ∃ (i : Nat) (lf : Int), i + d = l.length ∧ 0 ≤ lf ∧ lf ≤ 1048576 ∧ szP (l.drop i) lf = szPS l left ∧ E 0 = .sl 0 (pieces l) ∧ E 1 = .i .i64 lf ∧ E 5 = .i .i64 i) l.length ?_ ?_)
    · exact ⟨0, left - l.length, by omega, by omega, by omega, by unfold szPS; rw [if_neg c]; rfl, by simp [setF_if, argE], by simp [setF_if, argE, hlen, hw], by simp [setF_if, argE]⟩
    have hbl : (l.length : Int) ≤ 1048576 := by omega
    clear hw c
    rintro d E H n' ⟨i, lf, hi, hl0, hl1, hsz, e0, e1, e3⟩
    by_cases c : (i : Int) < l.length
    · have cN : i < l.length := by omega
      obtain ⟨p, hpi⟩ : ∃ p, l[i]? = some p := ⟨_, List.getElem?_eq_getElem (by omega)⟩
      have hr : (pieces l)[i]? = some (pieceR p) := by simp [pieces, hpi]
      have hw_i : IntKind.i64.wrap ((i : Int) + 1) = (i : Int) + 1 := wr64 (by omega) (by omega)
      have hd : l.drop i = p :: l.drop (i + 1) := by
        rw [List.drop_eq_getElem_cons cN]; congr 1
        rw [List.getElem?_eq_getElem cN] at hpi; exact Option.some.inj hpi
      rw [hd] at hsz
      have hpc := hc.out p (List.mem_of_getElem? hpi)
      replace hsz := Hid.mk hsz
      clear hd
      repeat first | refine OQ ?_ | refine SQ ?_ | refine TH ?_ | refine WQ.nil ?_ | refine W.seq ?_ | refine W.region ?_ | refine DR ?_ | refine OP ?_ | refine SK ?_ | refine WR.nil ?_
      repeat first | refine OP ?_ | refine SK ?_ | refine OPN ?_ | refine OM ?_ | refine SM ?_ | refine OMN ?_ | refine WM.nil ?_ | refine OQ ?_ | refine SQ ?_ | refine TH ?_ | refine WR.nil ?_ | refine WQ.nil ?_ | refine W.seq ?_ | refine W.region ?_ | refine DR ?_ | refine IFT ?_ | refine IFF ?_ | refine W.skip ?_ | refine W.block ?_ | refine W.exit ?_ | refine W.ret ?_ | (simp only [tN, tR, tE, rN, rR, rE, xN, xR, xE, reduceIte]) | refine DN ?_
      refine CV (szPiece_fn G _ _ hpc hl0 hl1) ?_
      by_cases c2 : szN p.cs.length lf < 0
      · repeat first | refine OP ?_ | refine SK ?_ | refine OPN ?_ | refine OM ?_ | refine SM ?_ | refine OMN ?_ | refine WM.nil ?_ | refine OQ ?_ | refine SQ ?_ | refine TH ?_ | refine WR.nil ?_ | refine WQ.nil ?_ | refine W.seq ?_ | refine W.region ?_ | refine DR ?_ | refine IFT ?_ | refine IFF ?_ | refine W.skip ?_ | refine W.block ?_ | refine W.exit ?_ | refine W.ret ?_ | (simp only [tN, tR, tE, rN, rR, rE, xN, xR, xE, reduceIte]) | refine DN ?_
        have : szPS l left = -1 := by rw [← hsz.out, szP, if_pos c2]
        simp [retA, backA, this]
      · repeat first | refine OP ?_ | refine SK ?_ | refine OPN ?_ | refine OM ?_ | refine SM ?_ | refine OMN ?_ | refine WM.nil ?_ | refine OQ ?_ | refine SQ ?_ | refine TH ?_ | refine WR.nil ?_ | refine WQ.nil ?_ | refine W.seq ?_ | refine W.region ?_ | refine DR ?_ | refine IFT ?_ | refine IFF ?_ | refine W.skip ?_ | refine W.block ?_ | refine W.exit ?_ | refine W.ret ?_ | (simp only [tN, tR, tE, rN, rR, rE, xN, xR, xE, reduceIte]) | refine DN ?_
        obtain ⟨_, g2, g3⟩ := szN_le c2
        refine ⟨l.length - (i + 1), by omega, i + 1, szN p.cs.length lf, by omega, g3, by omega, by rw [← hsz.out, szP, if_neg c2], by simp [setF_if, *], by simp [setF_if, *], by simp [setF_if, *]⟩
    · have e' : i = l.length := by omega
      subst e'
      rw [List.drop_length, szP] at hsz
      repeat first | refine OP ?_ | refine SK ?_ | refine OPN ?_ | refine OM ?_ | refine SM ?_ | refine OMN ?_ | refine WM.nil ?_ | refine OQ ?_ | refine SQ ?_ | refine TH ?_ | refine WR.nil ?_ | refine WQ.nil ?_ | refine W.seq ?_ | refine W.region ?_ | refine DR ?_ | refine IFT ?_ | refine IFF ?_ | refine W.skip ?_ | refine W.block ?_ | refine W.exit ?_ | refine W.ret ?_ | (simp only [tN, tR, tE, rN, rR, rE, xN, xR, xE, reduceIte]) | refine DN ?_
      simp [retA, backA, hsz]
def szPz (r : List (Int × Int)) (l : List PieceM) (left : Int) : Int := if szN r.length left < 0 then -1 else szPS l (szN r.length left)
theorem szPS_neg {l : List PieceM} {left : Int} (h : szPS l left < 0) : szPS l left = -1 := by
  unfold szPS at *
  split
  · rfl
  · rename_i c
    rw [if_neg c] at h
    generalize left - (l.length : Int) = x at h c
    induction l generalizing x with
    | nil => exact absurd h c
    | cons p r ih =>
      simp only [szP] at h ⊢
      split
      · rfl
      · rename_i c2
        rw [if_neg c2] at h
        exact ih _ h c2
theorem szPuzzle_fn (G : Gv) (r : List (Int × Int)) (l : List PieceM) (left : Int) (hr : r.length ≤ 9223372036854775807) (hl : l.length ≤ 9223372036854775807) (hc : ∀ p ∈ l, p.cs.length ≤ 9223372036854775807) (h0 : 0 ≤ left) (h1 : left ≤ 1048576) : Gives Tryz.prog G 15 [.ag [.sl 0 (cells r), .sl 0 (pieces l)], .i .i64 left] (.i .i64 (szPz r l left)) := by
  refine .of (.body Tryz.func15 rfl (by simp [Tryz.ntmps15]) ?_)
  rw [Tryz.ntmps15, Tryz.results15]
  repeat first | refine OP ?_ | refine SK ?_ | refine OPN ?_ | refine OM ?_ | refine SM ?_ | refine OMN ?_ | refine WM.nil ?_ | refine OQ ?_ | refine SQ ?_ | refine TH ?_ | refine WR.nil ?_ | refine WQ.nil ?_ | refine W.seq ?_ | refine W.region ?_ | refine DR ?_ | refine IFT ?_ | refine IFF ?_ | refine W.skip ?_ | refine W.block ?_ | refine W.exit ?_ | refine W.ret ?_ | (simp only [tN, tR, tE, rN, rR, rE, xN, xR, xE, reduceIte]) | refine DN ?_
  refine CV (szCellS_fn G _ _ hr h0 h1) ?_
  replace hc := Hid.mk hc
  by_cases c : szN r.length left < 0
  · repeat first | refine OP ?_ | refine SK ?_ | refine OPN ?_ | refine OM ?_ | refine SM ?_ | refine OMN ?_ | refine WM.nil ?_ | refine OQ ?_ | refine SQ ?_ | refine TH ?_ | refine WR.nil ?_ | refine WQ.nil ?_ | refine W.seq ?_ | refine W.region ?_ | refine DR ?_ | refine IFT ?_ | refine IFF ?_ | refine W.skip ?_ | refine W.block ?_ | refine W.exit ?_ | refine W.ret ?_ | (simp only [tN, tR, tE, rN, rR, rE, xN, xR, xE, reduceIte]) | refine DN ?_
    simp [retA, backA, szPz, c]
  · obtain ⟨_, g2, g3⟩ := szN_le c
    repeat first | refine OP ?_ | refine SK ?_ | refine OPN ?_ | refine OM ?_ | refine SM ?_ | refine OMN ?_ | refine WM.nil ?_ | refine OQ ?_ | refine SQ ?_ | refine TH ?_ | refine WR.nil ?_ | refine WQ.nil ?_ | refine W.seq ?_ | refine W.region ?_ | refine DR ?_ | refine IFT ?_ | refine IFF ?_ | refine W.skip ?_ | refine W.block ?_ | refine W.exit ?_ | refine W.ret ?_ | (simp only [tN, tR, tE, rN, rR, rE, xN, xR, xE, reduceIte]) | refine DN ?_
    refine CV (szPieceS_fn G _ _ hl hc.out g3 (by omega)) ?_
    by_cases c2 : szPS l (szN r.length left) < 0
    · repeat first | refine OP ?_ | refine SK ?_ | refine OPN ?_ | refine OM ?_ | refine SM ?_ | refine OMN ?_ | refine WM.nil ?_ | refine OQ ?_ | refine SQ ?_ | refine TH ?_ | refine WR.nil ?_ | refine WQ.nil ?_ | refine W.seq ?_ | refine W.region ?_ | refine DR ?_ | refine IFT ?_ | refine IFF ?_ | refine W.skip ?_ | refine W.block ?_ | refine W.exit ?_ | refine W.ret ?_ | (simp only [tN, tR, tE, rN, rR, rE, xN, xR, xE, reduceIte]) | refine DN ?_
      simp [retA, backA, szPz, c, szPS_neg c2]
    · repeat first | refine OP ?_ | refine SK ?_ | refine OPN ?_ | refine OM ?_ | refine SM ?_ | refine OMN ?_ | refine WM.nil ?_ | refine OQ ?_ | refine SQ ?_ | refine TH ?_ | refine WR.nil ?_ | refine WQ.nil ?_ | refine W.seq ?_ | refine W.region ?_ | refine DR ?_ | refine IFT ?_ | refine IFF ?_ | refine W.skip ?_ | refine W.block ?_ | refine W.exit ?_ | refine W.ret ?_ | (simp only [tN, tR, tE, rN, rR, rE, xN, xR, xE, reduceIte]) | refine DN ?_
      simp [retA, backA, szPz, c]
theorem szP_le {l : List PieceM} : ∀ {left : Int}, left ≤ 1048576 → ¬ szP l left < 0 → (∀ p ∈ l, (p.cs.length : Int) ≤ 1048576) ∧ szP l left ≤ left := by
  induction l with
  | nil => intro left _ _; exact ⟨by simp, Int.le_refl _⟩
  | cons p r ih =>
    intro left hl h
    unfold szP at h ⊢
    split at h
    · simp at h
    · rename_i c
      rw [if_neg c]
      obtain ⟨g1, g2, g3⟩ := szN_le c
      obtain ⟨h1, h2⟩ := ih (by omega) h
      refine ⟨fun x hx => ?_, by omega⟩
      rcases List.mem_cons.mp hx with rfl | hx
      · omega
      · exact h1 x hx
theorem szPz_le {r : List (Int × Int)} {l : List PieceM} {left : Int} (hl : left ≤ 1048576) (h : ¬ szPz r l left < 0) : (r.length : Int) ≤ 1048576 ∧ (l.length : Int) ≤ 1048576 ∧ (∀ p ∈ l, (p.cs.length : Int) ≤ 1048576) ∧ 0 ≤ szPz r l left ∧ szPz r l left ≤ left := by
  unfold szPz at h ⊢
  split at h
  · simp at h
  · rename_i c
    rw [if_neg c]
    obtain ⟨g1, g2, g3⟩ := szN_le c
    unfold szPS at h ⊢
    split at h
    · simp at h
    · rename_i c2
      rw [if_neg c2]
      obtain ⟨h1, h2⟩ := szP_le (by omega) h
      exact ⟨by omega, by omega, h1, by omega, by omega⟩
end Go.Proofs
end
section
open Go Go.Big
namespace Go.Proofs
set_option maxHeartbeats 2000000
abbrev placR (x : Int × List Int) : List PV := [.i .i64 x.1, .sl (ints x.2)]
def places (l : List (Int × List Int)) : List (List PV) := l.map placR
theorem places_len (l : List (Int × List Int)) : (places l).length = l.length := by simp [places]
theorem places_at {l : List (Int × List Int)} {i : Nat} {x : Int × List Int} (h : l[i]? = some x) : (places l)[i]? = some (placR x) := by simp [places, h]
theorem toPlacementS_fn (G : Gv) (l : List (Int × List Int)) (hl : l.length < 1000000000) (hc : ∀ p ∈ l, p.2.length < 1000000000) : Gives Tryz.prog G 19 [.sl 0 (places l)] (.sl 1 (places l)) := by
  refine .of (.body Tryz.func19 rfl (by simp [Tryz.ntmps19]) ?_)
  rw [Tryz.ntmps19, Tryz.results19]
  have hlen := places_len l
  have b1 : ((32 : Nat) : Int) * l.length ≤ 281474976710656 := by simp; omega
  have b2 : (l.length : Int) ≤ 9223372036854775807 := by omega
  have b3 : (0 : Int) ≤ l.length := by omega
  repeat first | refine OP ?_ | refine SK ?_ | refine OPN ?_ | refine TH ?_ | refine WR.nil ?_ | refine W.seq ?_ | refine W.region ?_ | refine DR ?_
  refine .block (.loop (.inv (fun d E H n' => ∃ i : Nat, i + d = l.length ∧ E 0 = .sl 0 (places l) ∧ E 3 = .own 3 0 ∧ E 4 = .i .i64 i ∧ H 3 = some (.arr 0 55 2 (part (places l) [.i .i64 0, .sl []] i) 1)) l.length ?_ ?_))
  · simp [setF_if, argE, upd_if, part_zero, hlen]
  rintro d E H n' ⟨i, hi, h0, h3, h4, hH⟩
  repeat first | refine OP ?_ | refine SK ?_ | refine OPN ?_ | refine TH ?_ | refine WR.nil ?_ | refine W.seq ?_ | refine W.region ?_ | refine DR ?_
  by_cases c : (i : Int) < l.length
  · refine IFT ?_
    obtain ⟨p, hpi⟩ : ∃ p, l[i]? = some p := ⟨_, List.getElem?_eq_getElem (by omega)⟩
    have hr : (places l)[i]? = some (placR p) := places_at hpi
    have hp := part_at (l := places l) (z := [PV.i .i64 0, PV.sl []]) (i := i) (by omega)
    have hs := part_set (z := [PV.i .i64 0, PV.sl []]) hr
    have hpl : i < (part (places l) [PV.i .i64 0, PV.sl []] i).length := (List.getElem?_eq_some_iff.mp hp).1
    have hw2 : IntKind.i64.wrap ((i : Int) + 1) = (i : Int) + 1 := wr64 (by omega) (by omega)
    refine .skip ?_
    repeat first | refine OP ?_ | refine SK ?_ | refine OPN ?_ | refine TH ?_ | refine WR.nil ?_ | refine W.seq ?_ | refine W.region ?_ | refine DR ?_
    refine .block ?_
    repeat first | refine OP ?_ | refine SK ?_ | refine OPN ?_ | refine TH ?_ | refine WR.nil ?_ | refine W.seq ?_ | refine W.region ?_ | refine DR ?_
    refine CV (toPlacement_fn G p.1 p.2 (hc p (List.mem_of_getElem? hpi))) ?_
    repeat first | refine OP ?_ | refine SK ?_ | refine OPN ?_ | refine TH ?_ | refine WR.nil ?_ | refine W.seq ?_ | refine W.region ?_ | refine DR ?_
    (try simp only [tN, tR, tE, rN, rR, rE, xN, xR, xE, reduceIte])
    repeat first | refine OP ?_ | refine SK ?_ | refine OPN ?_ | refine TH ?_ | refine WR.nil ?_ | refine W.seq ?_ | refine W.region ?_ | refine DR ?_
    (try simp only [tN, tR, tE, rN, rR, rE, xN, xR, xE, reduceIte])
    refine ⟨l.length - (i + 1), by omega, i + 1, by omega, ?_⟩
    simp [setF_if, upd_if, *]
  · refine IFF ?_
    refine .exit ?_
    (try simp only [tN, tR, tE, rN, rR, rE, xN, xR, xE, reduceIte])
    repeat first | refine OP ?_ | refine SK ?_ | refine OPN ?_ | refine TH ?_ | refine WR.nil ?_ | refine W.seq ?_ | refine W.region ?_ | refine DR ?_
    refine .ret ?_
    refine DN ?_
    have e : i = (places l).length := by omega
    simp [retA, backA, newSl, newB, hH]
    rw [e, part_all]
theorem eqPlacementS_fn (G : Gv) (l : List (Int × List Int)) (hl : l.length < 1000000000) (hc : ∀ p ∈ l, p.2.length < 1000000000) : Gives Tryz.prog G 23 [.sl 0 (places l), .sl 0 (places l)] (.b true) := by
  refine .of (.body Tryz.func23 rfl (by simp [Tryz.ntmps23]) ?_)
  rw [Tryz.ntmps23, Tryz.results23]
  have hlen := places_len l
  repeat first | refine OP ?_ | refine SK ?_ | refine OPN ?_ | refine TH ?_ | refine WR.nil ?_ | refine W.seq ?_ | refine W.region ?_ | refine DR ?_
  have hn : ((l.length : Int) != l.length) = false := by simp
  refine IFF ?_
  refine .skip ?_
  repeat first | refine OP ?_ | refine SK ?_ | refine OPN ?_ | refine TH ?_ | refine WR.nil ?_ | refine W.seq ?_ | refine W.region ?_ | refine DR ?_
  refine .block (.loop (.inv (fun d E H n' => ∃ i : Nat, i + d = l.length ∧ E 0 = .sl 0 (places l) ∧ E 1 = .sl 0 (places l) ∧ E 5 = .i .i64 i) l.length ?_ ?_))
  · simp [setF_if, argE]
  rintro d E H n' ⟨i, hi, h0, h1, h5⟩
  repeat first | refine OP ?_ | refine SK ?_ | refine OPN ?_ | refine TH ?_ | refine WR.nil ?_ | refine W.seq ?_ | refine W.region ?_ | refine DR ?_
  by_cases c : (i : Int) < l.length
  · refine IFT ?_
    obtain ⟨p, hpi⟩ : ∃ p, l[i]? = some p := ⟨_, List.getElem?_eq_getElem (by omega)⟩
    have hr : (places l)[i]? = some (placR p) := places_at hpi
    have hw2 : IntKind.i64.wrap ((i : Int) + 1) = (i : Int) + 1 := wr64 (by omega) (by omega)
    refine .skip ?_
    repeat first | refine OP ?_ | refine SK ?_ | refine OPN ?_ | refine TH ?_ | refine WR.nil ?_ | refine W.seq ?_ | refine W.region ?_ | refine DR ?_
    refine .block ?_
    repeat first | refine OQ ?_ | refine SQ ?_ | refine TH ?_ | refine WQ.nil ?_ | refine W.seq ?_ | refine W.region ?_ | refine DR ?_ | refine OP ?_ | refine SK ?_ | refine WR.nil ?_
    refine CQ (eqPlacement_fn G p.1 p.2 (hc p (List.mem_of_getElem? hpi))) ?_
    repeat first | refine OQ ?_ | refine SQ ?_ | refine TH ?_ | refine WQ.nil ?_ | refine W.seq ?_ | refine W.region ?_ | refine DR ?_ | refine OP ?_ | refine SK ?_ | refine WR.nil ?_
    refine IFF ?_
    refine .skip ?_
    (try simp only [tN, tR, tE, rN, rR, rE, xN, xR, xE, reduceIte])
    repeat first | refine OP ?_ | refine SK ?_ | refine OPN ?_ | refine TH ?_ | refine WR.nil ?_ | refine W.seq ?_ | refine W.region ?_ | refine DR ?_
    (try simp only [tN, tR, tE, rN, rR, rE, xN, xR, xE, reduceIte])
    refine ⟨l.length - (i + 1), by omega, i + 1, by omega, ?_⟩
    simp [setF_if, *]
  · refine IFF ?_
    refine .exit ?_
    (try simp only [tN, tR, tE, rN, rR, rE, xN, xR, xE, reduceIte])
    repeat first | refine OP ?_ | refine SK ?_ | refine OPN ?_ | refine TH ?_ | refine WR.nil ?_ | refine W.seq ?_ | refine W.region ?_ | refine DR ?_
    refine .ret ?_
    refine DN ?_
    simp [retA, backA]
def szPL : List (Int × List Int) → Int → Int
  | [], left => left
  | p :: r, left => if szN p.2.length left < 0 then -1 else szPL r (szN p.2.length left)
def szPLS (l : List (Int × List Int)) (left : Int) : Int := if left - l.length < 0 then -1 else szPL l (left - l.length)
theorem szPlacementS_fn (G : Gv) (l : List (Int × List Int)) (left : Int) (hl : l.length ≤ 9223372036854775807) (hc : ∀ p ∈ l, p.2.length ≤ 9223372036854775807) (h0 : 0 ≤ left) (h1 : left ≤ 1048576) : Gives Tryz.prog G 16 [.sl 0 (places l), .i .i64 left] (.i .i64 (szPLS l left)) := by
  refine .of (.body Tryz.func16 rfl (by simp [Tryz.ntmps16]) ?_)
  rw [Tryz.ntmps16, Tryz.results16]
  have hlen := places_len l
  replace hc := Hid.mk hc
  have hw : IntKind.i64.wrap (left - l.length) = left - l.length := wr64s (by omega) (by omega)
  by_cases c : left - (l.length : Int) < 0
  · repeat first | refine OP ?_ | refine SK ?_ | refine OPN ?_ | refine OM ?_ | refine SM ?_ | refine OMN ?_ | refine WM.nil ?_ | refine OQ ?_ | refine SQ ?_ | refine TH ?_ | refine WR.nil ?_ | refine WQ.nil ?_ | refine W.seq ?_ | refine W.region ?_ | refine DR ?_ | refine IFT ?_ | refine IFF ?_ | refine W.skip ?_ | refine W.block ?_ | refine W.exit ?_ | refine W.ret ?_ | (simp only [tN, tR, tE, rN, rR, rE, xN, xR, xE, reduceIte]) | refine DN ?_
    simp [retA, backA, szPLS, c]
  · repeat first | refine OP ?_ | refine SK ?_ | refine OPN ?_ | refine OM ?_ | refine SM ?_ | refine OMN ?_ | refine WM.nil ?_ | refine OQ ?_ | refine SQ ?_ | refine TH ?_ | refine WR.nil ?_ | refine WQ.nil ?_ | refine W.seq ?_ | refine W.region ?_ | refine DR ?_ | refine IFT ?_ | refine IFF ?_ | refine W.skip ?_ | refine W.block ?_ | refine W.exit ?_ | refine W.ret ?_ | (simp only [tN, tR, tE, rN, rR, rE, xN, xR, xE, reduceIte]) | refine DN ?_
    refine .loop (.inv (fun d E H n' => ∃ (i : Nat) (lf : Int), i + d = l.length ∧ 0 ≤ lf ∧ lf ≤ 1048576 ∧ szPL (l.drop i) lf = szPLS l left ∧ E 0 = .sl 0 (places l) ∧ E 1 = .i .i64 lf ∧ E 5 = .i .i64 i) l.length ?_ ?_)
    · exact ⟨0, left - l.length, by omega, by omega, by omega, by unfold szPLS; rw [if_neg c]; rfl, by simp [setF_if, argE], by simp [setF_if, argE, hlen, hw], by simp [setF_if, argE]⟩
    have hbl : (l.length : Int) ≤ 1048576 := by omega
    clear hw c
    rintro d E H n' ⟨i, lf, hi, hl0, hl1, hsz, e0, e1, e3⟩
    by_cases c : (i : Int) < l.length
    · have cN : i < l.length := by omega
      obtain ⟨p, hpi⟩ : ∃ p, l[i]? = some p := ⟨_, List.getElem?_eq_getElem (by omega)⟩
      have hr : (places l)[i]? = some (placR p) := places_at hpi
      have hw_i : IntKind.i64.wrap ((i : Int) + 1) = (i : Int) + 1 := wr64 (by omega) (by omega)
      have hd : l.drop i = p :: l.drop (i + 1) := drop_cons hpi
      rw [hd] at hsz
      have hpc := hc.out p (List.mem_of_getElem? hpi)
      replace hsz := Hid.mk hsz
      clear hd
      repeat first | refine OQ ?_ | refine SQ ?_ | refine TH ?_ | refine WQ.nil ?_ | refine W.seq ?_ | refine W.region ?_ | refine DR ?_ | refine OP ?_ | refine SK ?_ | refine WR.nil ?_
      repeat first | refine OP ?_ | refine SK ?_ | refine OPN ?_ | refine OM ?_ | refine SM ?_ | refine OMN ?_ | refine WM.nil ?_ | refine OQ ?_ | refine SQ ?_ | refine TH ?_ | refine WR.nil ?_ | refine WQ.nil ?_ | refine W.seq ?_ | refine W.region ?_ | refine DR ?_ | refine IFT ?_ | refine IFF ?_ | refine W.skip ?_ | refine W.block ?_ | refine W.exit ?_ | refine W.ret ?_ | (simp only [tN, tR, tE, rN, rR, rE, xN, xR, xE, reduceIte]) | refine DN ?_
      refine CV (szPlacement_fn G p.1 _ _ hpc hl0 hl1) ?_
      by_cases c2 : szN p.2.length lf < 0
      · repeat first | refine OP ?_ | refine SK ?_ | refine OPN ?_ | refine OM ?_ | refine SM ?_ | refine OMN ?_ | refine WM.nil ?_ | refine OQ ?_ | refine SQ ?_ | refine TH ?_ | refine WR.nil ?_ | refine WQ.nil ?_ | refine W.seq ?_ | refine W.region ?_ | refine DR ?_ | refine IFT ?_ | refine IFF ?_ | refine W.skip ?_ | refine W.block ?_ | refine W.exit ?_ | refine W.ret ?_ | (simp only [tN, tR, tE, rN, rR, rE, xN, xR, xE, reduceIte]) | refine DN ?_
        have : szPLS l left = -1 := by rw [← hsz.out, szPL, if_pos c2]
        simp [retA, backA, this]
      · repeat first | refine OP ?_ | refine SK ?_ | refine OPN ?_ | refine OM ?_ | refine SM ?_ | refine OMN ?_ | refine WM.nil ?_ | refine OQ ?_ | refine SQ ?_ | refine TH ?_ | refine WR.nil ?_ | refine WQ.nil ?_ | refine W.seq ?_ | refine W.region ?_ | refine DR ?_ | refine IFT ?_ | refine IFF ?_ | refine W.skip ?_ | refine W.block ?_ | refine W.exit ?_ | refine W.ret ?_ | (simp only [tN, tR, tE, rN, rR, rE, xN, xR, xE, reduceIte]) | refine DN ?_
        obtain ⟨_, g2, g3⟩ := szN_le c2
        refine ⟨l.length - (i + 1), by omega, i + 1, szN p.2.length lf, by omega, g3, by omega, by rw [← hsz.out, szPL, if_neg c2], by simp [setF_if, *], by simp [setF_if, *], by simp [setF_if, *]⟩
    · have e' : i = l.length := by omega
      subst e'
      rw [List.drop_length, szPL] at hsz
      repeat first | refine OP ?_ | refine SK ?_ | refine OPN ?_ | refine OM ?_ | refine SM ?_ | refine OMN ?_ | refine WM.nil ?_ | refine OQ ?_ | refine SQ ?_ | refine TH ?_ | refine WR.nil ?_ | refine WQ.nil ?_ | refine W.seq ?_ | refine W.region ?_ | refine DR ?_ | refine IFT ?_ | refine IFF ?_ | refine W.skip ?_ | refine W.block ?_ | refine W.exit ?_ | refine W.ret ?_ | (simp only [tN, tR, tE, rN, rR, rE, xN, xR, xE, reduceIte]) | refine DN ?_
      simp [retA, backA, hsz]
theorem szPL_le {l : List (Int × List Int)} : ∀ {left : Int}, left ≤ 1048576 → ¬ szPL l left < 0 → (∀ p ∈ l, (p.2.length : Int) ≤ 1048576) ∧ szPL l left ≤ left := by
  induction l with
  | nil => intro left _ _; exact ⟨by simp, Int.le_refl _⟩
  | cons p r ih =>
    intro left hl h
    unfold szPL at h ⊢
    split at h
    · simp at h
    · rename_i c
      rw [if_neg c]
      obtain ⟨g1, g2, g3⟩ := szN_le c
      obtain ⟨h1, h2⟩ := ih (by omega) h
      refine ⟨fun x hx => ?_, by omega⟩
      rcases List.mem_cons.mp hx with rfl | hx
      · omega
      · exact h1 x hx
theorem szPLS_le {l : List (Int × List Int)} {left : Int} (hl : left ≤ 1048576) (h : ¬ szPLS l left < 0) : (l.length : Int) ≤ 1048576 ∧ ∀ p ∈ l, (p.2.length : Int) ≤ 1048576 := by
  unfold szPLS at h
  split at h
  · simp at h
  · obtain ⟨h1, h2⟩ := szPL_le (by omega) h
    exact ⟨by omega, h1⟩
end Go.Proofs
end
section
open Go Go.Big
namespace Go.Proofs
set_option maxHeartbeats 2000000
/-- The indices of cells in a region, if all lie in it. -/
def setM (r : Shape) : Shape → Option (List Int)
  | [] => some []
  | c :: cs => if idxM r c < 0 then none else (setM r cs).map (idxM r c :: ·)
def gM (r : Shape) (i : Int) (f : Shape) (a b : Int) : Option (Int × List Int) := (setM r (movedM f a b)).map fun s => (i, s)
def offA (f : Shape) (c : Int × Int) : Int × Int := (IntKind.i64.wrap (c.1 - (f.getD 0 (0, 0)).1), IntKind.i64.wrap (c.2 - (f.getD 0 (0, 0)).2))
def rowA (r : Shape) (i : Int) (f : Shape) : List (Int × List Int) := r.filterMap fun c => gM r i f (offA f c).1 (offA f c).2
def listA (r : Shape) (i : Int) (fs : List Shape) : List (Int × List Int) := fs.flatMap (rowA r i)
def orderP (l : List (Int × List Int)) : List (Int × List Int) := l.mergeSort fun a b => !decide (cmpP b a < 0)
/-- A placement put into a list in order. -/
def insP (x : Int × List Int) : List (Int × List Int) → List (Int × List Int)
  | [] => [x]
  | y :: l => if cmpP y x < 0 then y :: insP x l else x :: y :: l
def stepB (r : Shape) (i : Int) (f : Shape) (y : Int) (out : List (Int × List Int)) (x : Nat) : List (Int × List Int) := match gM r i f x y with
  | some t => insP t out
  | none => out
def rowB (r : Shape) (i : Int) (f : Shape) (wide : Nat) (out : List (Int × List Int)) (y : Nat) : List (Int × List Int) := (List.range wide).foldl (stepB r i f y) out
def formB (r : Shape) (i : Int) (wide high : Nat) (out : List (Int × List Int)) (f : Shape) : List (Int × List Int) := (List.range high).foldl (rowB r i f wide) out
def listB (r : Shape) (i : Int) (fs : List Shape) : List (Int × List Int) := fs.foldl (formB r i (sizeM r).1.toNat (sizeM r).2.toNat) []
/- Where cells stand. -/
theorem cellAt_iff {l : Shape} {c : Int × Int} {i : Nat} : cellAt l c i = true ↔ l.getD i (0, 0) = c := by
  simp [cellAt, Prod.ext_iff]
theorem idx_mem {r : Shape} {c : Int × Int} (h : c ∈ r) : 0 ≤ idxM r c ∧ idxM r c < r.length ∧ r.getD (idxM r c).toNat (0, 0) = c := by
  unfold idxM
  cases q : (List.range r.length).find? (cellAt r c) with
  | none =>
    obtain ⟨i, hi, e⟩ := List.mem_iff_getElem.mp h
    rw [List.find?_range_eq_none] at q
    have := q i hi
    rw [Bool.not_eq_true', ← Bool.not_eq_true, cellAt_iff] at this
    exact absurd (by simp [List.getD_eq_getElem?_getD, hi, e]) this
  | some i =>
    rw [List.find?_range_eq_some] at q
    have hi : i < r.length := by simpa using q.2.1
    exact ⟨by simp, by simp [hi], by simpa using cellAt_iff.mp q.1⟩
theorem idx_not {r : Shape} {c : Int × Int} (h : c ∉ r) : idxM r c = -1 := by
  unfold idxM
  cases q : (List.range r.length).find? (cellAt r c) with
  | none => rfl
  | some i =>
    rw [List.find?_range_eq_some] at q
    have hi : i < r.length := by simpa using q.2.1
    have := cellAt_iff.mp q.1
    simp only [List.getD_eq_getElem?_getD, List.getElem?_eq_getElem hi, Option.getD_some] at this
    exact absurd (this ▸ List.getElem_mem hi) h
end Go.Proofs
end
section
open Go Go.Big
namespace Go.Proofs
set_option maxHeartbeats 2000000
theorem cells_scal (l : List (Int × Int)) : scalRows (cells l) := fun r hr p hp => by
  obtain ⟨c, _, rfl⟩ := List.mem_map.mp hr
  simp at hp; rcases hp with rfl | rfl <;> rfl
theorem cells_fit (l : List (Int × Int)) : fitR 2 (cells l) := fun r hr => by
  obtain ⟨c, _, rfl⟩ := List.mem_map.mp hr; rfl
theorem ints_scal (l : List Int) : scalRows (ints l) := fun r hr p hp => by
  obtain ⟨c, _, rfl⟩ := List.mem_map.mp hr
  simp at hp; subst hp; rfl
theorem ints_fit (l : List Int) : fitR 1 (ints l) := fun r hr => by
  obtain ⟨c, _, rfl⟩ := List.mem_map.mp hr; rfl
theorem toCellS_o (G : Gv) (l : List (Int × Int)) (hl : l.length < 1000000000) : GivesO Tryz.prog G 63 [.sl 0 (cells l)] (.sl 1 (cells l)) := by
  refine .of (.body Tryz.func63 rfl (by simp [Tryz.ntmps63]) ?_)
  rw [Tryz.ntmps63, Tryz.results63]
  have hlen := cells_len l
  have b1 : ((16 : Nat) : Int) * l.length ≤ 281474976710656 := by simp; omega
  have b2 : (l.length : Int) ≤ 9223372036854775807 := by omega
  have b3 : (0 : Int) ≤ l.length := by omega
  repeat first | refine OP ?_ | refine SK ?_ | refine OPN ?_ | refine TH ?_ | refine WR.nil ?_ | refine W.seq ?_ | refine W.region ?_ | refine DR ?_
  refine .block (.loop (.inv (fun d E H n' => ∃ i : Nat, i + d = l.length ∧ E 0 = .sl 0 (cells l) ∧ E 3 = .own 3 0 ∧ E 4 = .i .i64 i ∧ H 3 = some (.arr 0 117 2 (part (cells l) [.i .i64 0, .i .i64 0] i) 1)) l.length ?_ ?_))
  · simp [setF_if, argE, upd_if, part_zero, hlen]
  rintro d E H n' ⟨i, hi, h0, h3, h4, hH⟩
  repeat first | refine OP ?_ | refine SK ?_ | refine OPN ?_ | refine TH ?_ | refine WR.nil ?_ | refine W.seq ?_ | refine W.region ?_ | refine DR ?_
  by_cases c : (i : Int) < l.length
  · refine IFT ?_
    have hr := cells_at (l := l) (i := i) (by omega)
    have hp := part_at (l := cells l) (z := [PV.i .i64 0, PV.i .i64 0]) (i := i) (by omega)
    have hs := part_set (z := [PV.i .i64 0, PV.i .i64 0]) hr
    have hpl : i < (part (cells l) [PV.i .i64 0, PV.i .i64 0] i).length := (List.getElem?_eq_some_iff.mp hp).1
    have hw2 : IntKind.i64.wrap ((i : Int) + 1) = (i : Int) + 1 := wr64 (by omega) (by omega)
    refine .skip ?_
    repeat first | refine OP ?_ | refine SK ?_ | refine OPN ?_ | refine TH ?_ | refine WR.nil ?_ | refine W.seq ?_ | refine W.region ?_ | refine DR ?_
    refine .block ?_
    repeat first | refine OP ?_ | refine SK ?_ | refine OPN ?_ | refine TH ?_ | refine WR.nil ?_ | refine W.seq ?_ | refine W.region ?_ | refine DR ?_
    refine CV (toCell_fn G _ _) ?_
    repeat first | refine OP ?_ | refine SK ?_ | refine OPN ?_ | refine TH ?_ | refine WR.nil ?_ | refine W.seq ?_ | refine W.region ?_ | refine DR ?_
    (try simp only [tN, tR, tE, rN, rR, rE, xN, xR, xE, reduceIte])
    repeat first | refine OP ?_ | refine SK ?_ | refine OPN ?_ | refine TH ?_ | refine WR.nil ?_ | refine W.seq ?_ | refine W.region ?_ | refine DR ?_
    (try simp only [tN, tR, tE, rN, rR, rE, xN, xR, xE, reduceIte])
    refine ⟨l.length - (i + 1), by omega, i + 1, by omega, ?_⟩
    simp [setF_if, upd_if, *]
  · have e : i = (cells l).length := by omega
    rw [e, part_all] at hH
    repeat first | refine OP ?_ | refine SK ?_ | refine OPN ?_ | refine OM ?_ | refine SM ?_ | refine OMN ?_ | refine WM.nil ?_ | refine OQ ?_ | refine SQ ?_ | refine TH ?_ | refine WR.nil ?_ | refine WQ.nil ?_ | refine W.seq ?_ | refine W.region ?_ | refine DR ?_ | refine IFT ?_ | refine IFF ?_ | refine W.skip ?_ | refine W.block ?_ | refine W.exit ?_ | refine W.ret ?_ | (simp only [tN, tR, tE, rN, rR, rE, xN, xR, xE, reduceIte]) | refine DN ?_
    exact ⟨[3], ownX_sl (ownA_mk hH (cells_scal l) (by decide) (cells_fit l)), by simp⟩
theorem toInt64S_o (G : Gv) (l : List Int) (hl : l.length < 1000000000) : GivesO Tryz.prog G 88 [.sl 0 (ints l)] (.sl 1 (ints l)) := by
  refine .of (.body Tryz.func88 rfl (by simp [Tryz.ntmps88]) ?_)
  rw [Tryz.ntmps88, Tryz.results88]
  have hlen := ints_len l
  have b1 : ((8 : Nat) : Int) * l.length ≤ 281474976710656 := by simp; omega
  have b2 : (l.length : Int) ≤ 9223372036854775807 := by omega
  have b3 : (0 : Int) ≤ l.length := by omega
  repeat first | refine OP ?_ | refine SK ?_ | refine OPN ?_ | refine TH ?_ | refine WR.nil ?_ | refine W.seq ?_ | refine W.region ?_ | refine DR ?_
  refine .block (.loop (.inv (fun d E H n' => ∃ i : Nat, i + d = l.length ∧ E 0 = .sl 0 (ints l) ∧ E 3 = .own 3 0 ∧ E 4 = .i .i64 i ∧ H 3 = some (.arr 0 2 1 (part (ints l) [.i .i64 0] i) 1)) l.length ?_ ?_))
  · simp [setF_if, argE, upd_if, part_zero, hlen]
  rintro d E H n' ⟨i, hi, h0, h3, h4, hH⟩
  repeat first | refine OP ?_ | refine SK ?_ | refine OPN ?_ | refine TH ?_ | refine WR.nil ?_ | refine W.seq ?_ | refine W.region ?_ | refine DR ?_
  by_cases c : (i : Int) < l.length
  · refine IFT ?_
    have hr := ints_at (l := l) (i := i) (by omega)
    have hp := part_at (l := ints l) (z := [PV.i .i64 0]) (i := i) (by omega)
    have hs := part_set (z := [PV.i .i64 0]) hr
    have hpl : i < (part (ints l) [PV.i .i64 0] i).length := (List.getElem?_eq_some_iff.mp hp).1
    have hw2 : IntKind.i64.wrap ((i : Int) + 1) = (i : Int) + 1 := wr64 (by omega) (by omega)
    refine .skip ?_
    repeat first | refine OP ?_ | refine SK ?_ | refine OPN ?_ | refine TH ?_ | refine WR.nil ?_ | refine W.seq ?_ | refine W.region ?_ | refine DR ?_
    refine .block ?_
    repeat first | refine OP ?_ | refine SK ?_ | refine OPN ?_ | refine TH ?_ | refine WR.nil ?_ | refine W.seq ?_ | refine W.region ?_ | refine DR ?_
    (try simp only [tN, tR, tE, rN, rR, rE, xN, xR, xE, reduceIte])
    repeat first | refine OP ?_ | refine SK ?_ | refine OPN ?_ | refine TH ?_ | refine WR.nil ?_ | refine W.seq ?_ | refine W.region ?_ | refine DR ?_
    (try simp only [tN, tR, tE, rN, rR, rE, xN, xR, xE, reduceIte])
    refine ⟨l.length - (i + 1), by omega, i + 1, by omega, ?_⟩
    simp [setF_if, upd_if, *]
  · have e : i = (ints l).length := by omega
    rw [e, part_all] at hH
    repeat first | refine OP ?_ | refine SK ?_ | refine OPN ?_ | refine OM ?_ | refine SM ?_ | refine OMN ?_ | refine WM.nil ?_ | refine OQ ?_ | refine SQ ?_ | refine TH ?_ | refine WR.nil ?_ | refine WQ.nil ?_ | refine W.seq ?_ | refine W.region ?_ | refine DR ?_ | refine IFT ?_ | refine IFF ?_ | refine W.skip ?_ | refine W.block ?_ | refine W.exit ?_ | refine W.ret ?_ | (simp only [tN, tR, tE, rN, rR, rE, xN, xR, xE, reduceIte]) | refine DN ?_
    exact ⟨[3], ownX_sl (ownA_mk hH (ints_scal l) (by decide) (ints_fit l)), by simp⟩
end Go.Proofs
end
