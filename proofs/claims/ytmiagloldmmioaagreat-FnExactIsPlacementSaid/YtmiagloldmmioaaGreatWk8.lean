/- Walks: What is a placement. No condition. | Sizes of what comes in. No condition. | The statement's law: it answers true if the two agree. No condition. -/
import Derived.Test.YtmiagloldmmioaaGreatBO
import Derived.Test.YtmiagloldmmioaaGreatWk7
import Derived.Test.YtmiagloldmmioaaGreatWk2
import Derived.Test.YtmiagloldmmioaaGreatBC
import Derived.Test.YtmiagloldmmioaaGreatWk1
set_option linter.unusedVariables false
set_option linter.unusedSimpArgs false
section
open Go Go.Big
namespace Go.Proofs
set_option maxHeartbeats 2000000
theorem inc_mem {s : List Int} {m : Int} (h : inc s m = true) : ∀ k ∈ s, 0 ≤ k ∧ k ≤ m := by
  intro k hk
  obtain ⟨i, hi, rfl⟩ := List.getElem_of_mem hk
  unfold inc at h
  have := List.all_eq_true.mp h i (List.mem_range.mpr hi)
  unfold incAt at this
  simp only [List.getD_eq_getElem?_getD, List.getElem?_eq_getElem hi, Option.getD_some, Bool.and_eq_true, decide_eq_true_eq] at this
  exact this.1
theorem pickM_len (l : List (Int × Int)) (s : List Int) : (pickM l s).length = s.length := by simp [pickM]
def pc0 : PieceM := ⟨[], 0, false⟩
def ownM (r : List (Int × Int)) (s : List Int) : Shape := normM (pickM r s)
theorem ownM_len (r : List (Int × Int)) (s : List Int) : (ownM r s).length = s.length := by unfold ownM; rw [normM_len, pickM_len]
def fitS (p : PieceM) (own : Shape) : Bool := (formsP p).any fun f => cmpM f own == 0
def fitI (p : PieceM) (own : Shape) : Bool := (formsI p).any fun f => decide (f = own)
theorem l12Form_fn (G : Gv) (r : List (Int × Int)) (l : List PieceM) (k : Nat) (s : List Int) (p : PieceM) (hp : l[k]? = some p) (hp0 : 0 < p.cs.length) (hpl : p.cs.length < 1000000000) (hr : r.length < 1000000000) (hs : s.length < 1000000000) (hs0 : 0 < s.length) (hk : ∀ k ∈ s, 0 ≤ k ∧ k < r.length) :
    Gives Tryz.prog G 31 [.ag [.sl 0 (cells r), .sl 0 (pieces l)], .i .i64 k, .sl 0 (ints s)] (.b (fitS p (ownM r s))) := by
  refine .of (.body Tryz.func31 rfl (by simp [Tryz.ntmps31]) ?_)
  rw [Tryz.ntmps31, Tryz.results31]
  have hrow := pieces_at hp
  replace hk := Hid.mk hk
  repeat first | refine OP ?_ | refine SK ?_ | refine OPN ?_ | refine OM ?_ | refine SM ?_ | refine OMN ?_ | refine WM.nil ?_ | refine OQ ?_ | refine SQ ?_ | refine TH ?_ | refine WR.nil ?_ | refine WQ.nil ?_ | refine W.seq ?_ | refine W.region ?_ | refine DR ?_ | refine IFT ?_ | refine IFF ?_ | refine W.skip ?_ | refine W.block ?_ | refine W.exit ?_ | refine W.ret ?_ | (simp only [tN, tR, tE, rN, rR, rE, xN, xR, xE, reduceIte]) | refine DN ?_
  refine CV (l10Cells_fn G r s hr hs hk.out) ?_
  repeat first | refine OP ?_ | refine SK ?_ | refine OPN ?_ | refine OM ?_ | refine SM ?_ | refine OMN ?_ | refine WM.nil ?_ | refine OQ ?_ | refine SQ ?_ | refine TH ?_ | refine WR.nil ?_ | refine WQ.nil ?_ | refine W.seq ?_ | refine W.region ?_ | refine DR ?_ | refine IFT ?_ | refine IFF ?_ | refine W.skip ?_ | refine W.block ?_ | refine W.exit ?_ | refine W.ret ?_ | (simp only [tN, tR, tE, rN, rR, rE, xN, xR, xE, reduceIte]) | refine DN ?_
  refine CV (l02Normal_fn G (pickM r s) (by rw [pickM_len]; exact hs0) (by rw [pickM_len]; exact hs)) ?_
  repeat first | refine OP ?_ | refine SK ?_ | refine OPN ?_ | refine OM ?_ | refine SM ?_ | refine OMN ?_ | refine WM.nil ?_ | refine OQ ?_ | refine SQ ?_ | refine TH ?_ | refine WR.nil ?_ | refine WQ.nil ?_ | refine W.seq ?_ | refine W.region ?_ | refine DR ?_ | refine IFT ?_ | refine IFF ?_ | refine W.skip ?_ | refine W.block ?_ | refine W.exit ?_ | refine W.ret ?_ | (simp only [tN, tR, tE, rN, rR, rE, xN, xR, xE, reduceIte]) | refine DN ?_
  refine CV (l11Forms_fn G p hp0 hpl) ?_
  have how : normM (pickM r s) = ownM r s := rfl
  have hol : (ownM r s).length < 1000000000 := by rw [ownM_len]; exact hs
  rw [how]
  generalize ownM r s = own at hol
  unfold fitS
  obtain ⟨a1, a2⟩ := formsP_ok p
  have hal := shapesR_len (formsP p)
  replace a2 := Hid.mk a2
  generalize formsP p = fa at *
  clear how
  repeat first | refine OP ?_ | refine SK ?_ | refine OPN ?_ | refine OM ?_ | refine SM ?_ | refine OMN ?_ | refine WM.nil ?_ | refine OQ ?_ | refine SQ ?_ | refine TH ?_ | refine WR.nil ?_ | refine WQ.nil ?_ | refine W.seq ?_ | refine W.region ?_ | refine DR ?_ | refine IFT ?_ | refine IFF ?_ | refine W.skip ?_ | refine W.block ?_ | refine W.exit ?_ | refine W.ret ?_ | (simp only [tN, tR, tE, rN, rR, rE, xN, xR, xE, reduceIte]) | refine DN ?_
  refine .loop (.inv (fun d E H n' => ∃ i : Nat, i + d = fa.length ∧ E 7 = .sl 1 (cells own) ∧ E 8 = .sl 1 (shapesR fa) ∧ E 9 = .i .i64 i ∧ (fa.take i).any (fun f => cmpM f own == 0) = false) fa.length ?_ ?_)
  · exact ⟨0, by omega, by simp [setF_if, argE], by simp [setF_if, argE], by simp [setF_if, argE], by simp⟩
  rintro d E H n' ⟨i, hi, h7, h8, h9, hany⟩
  replace hany := Hid.mk hany
  by_cases c : (i : Int) < fa.length
  · have hw_i : IntKind.i64.wrap ((i : Int) + 1) = (i : Int) + 1 := wr64 (by omega) (by omega)
    have cN : i < fa.length := by omega
    have hr := shapesR_at (ls := fa) (i := i) cN
    have hta := take_any (p := fun f => cmpM f own == 0) cN
    have hat := any_at (p := fun f => cmpM f own == 0) cN
    have hxl : (fa.getD i []).length < 1000000000 := by rw [a2.out _ (by rw [List.getD_eq_getElem?_getD, List.getElem?_eq_getElem cN]; exact List.getElem_mem _)]; exact hpl
    replace hta := Hid.mk hta
    replace hat := Hid.mk hat
    generalize fa.getD i [] = x at hr hta hat hxl
    repeat first | refine OP ?_ | refine SK ?_ | refine OPN ?_ | refine OM ?_ | refine SM ?_ | refine OMN ?_ | refine WM.nil ?_ | refine OQ ?_ | refine SQ ?_ | refine TH ?_ | refine WR.nil ?_ | refine WQ.nil ?_ | refine W.seq ?_ | refine W.region ?_ | refine DR ?_ | refine IFT ?_ | refine IFF ?_ | refine W.skip ?_ | refine W.block ?_ | refine W.exit ?_ | refine W.ret ?_ | (simp only [tN, tR, tE, rN, rR, rE, xN, xR, xE, reduceIte]) | refine DN ?_
    refine CV (specCompareShapes_fn G x own hxl hol) ?_
    by_cases cc : (cmpM x own == 0) = true
    · repeat first | refine OP ?_ | refine SK ?_ | refine OPN ?_ | refine OM ?_ | refine SM ?_ | refine OMN ?_ | refine WM.nil ?_ | refine OQ ?_ | refine SQ ?_ | refine TH ?_ | refine WR.nil ?_ | refine WQ.nil ?_ | refine W.seq ?_ | refine W.region ?_ | refine DR ?_ | refine IFT ?_ | refine IFF ?_ | refine W.skip ?_ | refine W.block ?_ | refine W.exit ?_ | refine W.ret ?_ | (simp only [tN, tR, tE, rN, rR, rE, xN, xR, xE, reduceIte]) | refine DN ?_
      simp [retA, backA, hat.out cc]
    · simp only [Bool.not_eq_true] at cc
      repeat first | refine OP ?_ | refine SK ?_ | refine OPN ?_ | refine OM ?_ | refine SM ?_ | refine OMN ?_ | refine WM.nil ?_ | refine OQ ?_ | refine SQ ?_ | refine TH ?_ | refine WR.nil ?_ | refine WQ.nil ?_ | refine W.seq ?_ | refine W.region ?_ | refine DR ?_ | refine IFT ?_ | refine IFF ?_ | refine W.skip ?_ | refine W.block ?_ | refine W.exit ?_ | refine W.ret ?_ | (simp only [tN, tR, tE, rN, rR, rE, xN, xR, xE, reduceIte]) | refine DN ?_
      exact ⟨fa.length - (i + 1), by omega, i + 1, by omega, by simp [setF_if, *], by simp [setF_if, *], by simp [setF_if, *], by rw [hta.out, hany.out, cc]; rfl⟩
  · have e' : i = fa.length := by omega
    rw [e', List.take_length] at hany
    repeat first | refine OP ?_ | refine SK ?_ | refine OPN ?_ | refine OM ?_ | refine SM ?_ | refine OMN ?_ | refine WM.nil ?_ | refine OQ ?_ | refine SQ ?_ | refine TH ?_ | refine WR.nil ?_ | refine WQ.nil ?_ | refine W.seq ?_ | refine W.region ?_ | refine DR ?_ | refine IFT ?_ | refine IFF ?_ | refine W.skip ?_ | refine W.block ?_ | refine W.exit ?_ | refine W.ret ?_ | (simp only [tN, tR, tE, rN, rR, rE, xN, xR, xE, reduceIte]) | refine DN ?_
    simp [retA, backA, hany.out]
def placeS (r : List (Int × Int)) (l : List PieceM) (k : Int) (s : List Int) : Bool := (decide (k ≥ 0) && decide (k ≤ (l.length : Int) - 1)) && decide ((s.length : Int) > 0) && inc s ((r.length : Int) - 1) && fitS (l.getD k.toNat pc0) (ownM r s)
def placeI (r : List (Int × Int)) (l : List PieceM) (k : Int) (s : List Int) : Bool := (decide (k ≥ 0) && decide (k ≤ (l.length : Int) - 1)) && decide ((s.length : Int) > 0) && inc s ((r.length : Int) - 1) && fitI (l.getD k.toNat pc0) (ownM r s)
theorem l12Is_fn (G : Gv) (r : List (Int × Int)) (l : List PieceM) (k : Int) (s : List Int) (hr1 : 1 ≤ r.length) (hr : r.length < 1000000000) (hl1 : 1 ≤ l.length) (hl : l.length < 1000000000) (hs : s.length < 1000000000) (hp0 : ∀ p ∈ l, 0 < p.cs.length) (hpl : ∀ p ∈ l, p.cs.length < 1000000000) :
    Gives Tryz.prog G 16 [.ag [.sl 0 (cells r), .sl 0 (pieces l)], .ag [.i .i64 k, .sl 0 (ints s)]] (.b (placeS r l k s)) := by
  refine .of (.body Tryz.func16 rfl (by simp [Tryz.ntmps16]) ?_)
  rw [Tryz.ntmps16, Tryz.results16]
  have hlen := pieces_len l
  have hsl := ints_len s
  have hrl := cells_len r
  have hw1 : IntKind.i64.wrap ((l.length : Int) - 1) = (l.length : Int) - 1 := wr64 (by omega) (by omega)
  have hw2 : IntKind.i64.wrap ((r.length : Int) - 1) = (r.length : Int) - 1 := wr64 (by omega) (by omega)
  replace hp0 := Hid.mk hp0
  replace hpl := Hid.mk hpl
  repeat first | refine OP ?_ | refine SK ?_ | refine OPN ?_ | refine OM ?_ | refine SM ?_ | refine OMN ?_ | refine WM.nil ?_ | refine OQ ?_ | refine SQ ?_ | refine TH ?_ | refine WR.nil ?_ | refine WQ.nil ?_ | refine W.seq ?_ | refine W.region ?_ | refine DR ?_ | refine IFT ?_ | refine IFF ?_ | refine W.skip ?_ | refine W.block ?_ | refine W.exit ?_ | refine W.ret ?_ | (simp only [tN, tR, tE, rN, rR, rE, xN, xR, xE, reduceIte]) | refine DN ?_
  refine CV (l01In_fn G _ _ _) ?_
  by_cases c1 : (decide (k ≥ 0) && decide (k ≤ (l.length : Int) - 1)) = true
  · by_cases c2 : (s.length : Int) > 0
    · repeat first | refine OP ?_ | refine SK ?_ | refine OPN ?_ | refine OM ?_ | refine SM ?_ | refine OMN ?_ | refine WM.nil ?_ | refine OQ ?_ | refine SQ ?_ | refine TH ?_ | refine WR.nil ?_ | refine WQ.nil ?_ | refine W.seq ?_ | refine W.region ?_ | refine DR ?_ | refine IFT ?_ | refine IFF ?_ | refine W.skip ?_ | refine W.block ?_ | refine W.exit ?_ | refine W.ret ?_ | (simp only [tN, tR, tE, rN, rR, rE, xN, xR, xE, reduceIte]) | refine DN ?_
      refine CV (l01Rises_fn G s _ (by omega)) ?_
      rw [hw2]
      by_cases c3 : inc s ((r.length : Int) - 1) = true
      · have hmem := inc_mem c3
        replace hmem := Hid.mk hmem
        obtain ⟨k0, k1⟩ : 0 ≤ k ∧ k ≤ (l.length : Int) - 1 := by simpa using c1
        have hkl : k.toNat < l.length := by omega
        obtain ⟨p, hp⟩ : ∃ p, l[k.toNat]? = some p := ⟨_, List.getElem?_eq_getElem hkl⟩
        have hkk : ((k.toNat : Nat) : Int) = k := Int.toNat_of_nonneg k0
        have hf := l12Form_fn G r l k.toNat s p hp (hp0.out p (List.mem_of_getElem? hp)) (hpl.out p (List.mem_of_getElem? hp)) hr hs (by omega) (fun x hx => by have := hmem.out x hx; omega)
        rw [hkk] at hf
        have hpd : l.getD k.toNat pc0 = p := by rw [List.getD_eq_getElem?_getD, hp]; rfl
        replace hkk := Hid.mk hkk
        repeat first | refine OP ?_ | refine SK ?_ | refine OPN ?_ | refine OM ?_ | refine SM ?_ | refine OMN ?_ | refine WM.nil ?_ | refine OQ ?_ | refine SQ ?_ | refine TH ?_ | refine WR.nil ?_ | refine WQ.nil ?_ | refine W.seq ?_ | refine W.region ?_ | refine DR ?_ | refine IFT ?_ | refine IFF ?_ | refine W.skip ?_ | refine W.block ?_ | refine W.exit ?_ | refine W.ret ?_ | (simp only [tN, tR, tE, rN, rR, rE, xN, xR, xE, reduceIte]) | refine DN ?_
        refine CV hf ?_
        have : placeS r l k s = fitS p (ownM r s) := by unfold placeS; rw [c1, c3, hpd]; simp; omega
        clear hf
        repeat first | refine OP ?_ | refine SK ?_ | refine OPN ?_ | refine OM ?_ | refine SM ?_ | refine OMN ?_ | refine WM.nil ?_ | refine OQ ?_ | refine SQ ?_ | refine TH ?_ | refine WR.nil ?_ | refine WQ.nil ?_ | refine W.seq ?_ | refine W.region ?_ | refine DR ?_ | refine IFT ?_ | refine IFF ?_ | refine W.skip ?_ | refine W.block ?_ | refine W.exit ?_ | refine W.ret ?_ | (simp only [tN, tR, tE, rN, rR, rE, xN, xR, xE, reduceIte]) | refine DN ?_
        simp [retA, backA, this]
      · have : placeS r l k s = false := by
          simp only [Bool.not_eq_true] at c3
          unfold placeS; rw [c3]; simp
        repeat first | refine OP ?_ | refine SK ?_ | refine OPN ?_ | refine OM ?_ | refine SM ?_ | refine OMN ?_ | refine WM.nil ?_ | refine OQ ?_ | refine SQ ?_ | refine TH ?_ | refine WR.nil ?_ | refine WQ.nil ?_ | refine W.seq ?_ | refine W.region ?_ | refine DR ?_ | refine IFT ?_ | refine IFF ?_ | refine W.skip ?_ | refine W.block ?_ | refine W.exit ?_ | refine W.ret ?_ | (simp only [tN, tR, tE, rN, rR, rE, xN, xR, xE, reduceIte]) | refine DN ?_
        simp [retA, backA, this]
    · have : placeS r l k s = false := by
        have hcs : decide ((s.length : Int) > 0) = false := decide_eq_false c2
        unfold placeS; rw [hcs]; simp
      repeat first | refine OP ?_ | refine SK ?_ | refine OPN ?_ | refine OM ?_ | refine SM ?_ | refine OMN ?_ | refine WM.nil ?_ | refine OQ ?_ | refine SQ ?_ | refine TH ?_ | refine WR.nil ?_ | refine WQ.nil ?_ | refine W.seq ?_ | refine W.region ?_ | refine DR ?_ | refine IFT ?_ | refine IFF ?_ | refine W.skip ?_ | refine W.block ?_ | refine W.exit ?_ | refine W.ret ?_ | (simp only [tN, tR, tE, rN, rR, rE, xN, xR, xE, reduceIte]) | refine DN ?_
      simp [retA, backA, this]
  · have : placeS r l k s = false := by
      simp only [Bool.not_eq_true] at c1
      unfold placeS; rw [c1]; rfl
    repeat first | refine OP ?_ | refine SK ?_ | refine OPN ?_ | refine OM ?_ | refine SM ?_ | refine OMN ?_ | refine WM.nil ?_ | refine OQ ?_ | refine SQ ?_ | refine TH ?_ | refine WR.nil ?_ | refine WQ.nil ?_ | refine W.seq ?_ | refine W.region ?_ | refine DR ?_ | refine IFT ?_ | refine IFF ?_ | refine W.skip ?_ | refine W.block ?_ | refine W.exit ?_ | refine W.ret ?_ | (simp only [tN, tR, tE, rN, rR, rE, xN, xR, xE, reduceIte]) | refine DN ?_
    simp [retA, backA, this]
theorem puzzleS_ok {r : List (Int × Int)} {l : List PieceM} (h : puzzleS r l = true) : 1 ≤ r.length ∧ 1 ≤ l.length ∧ ∀ p ∈ l, 0 < p.cs.length := by
  unfold puzzleS at h
  simp only [Bool.and_eq_true, decide_eq_true_eq, List.all_eq_true, List.mem_range] at h
  obtain ⟨⟨h1, h2, h3⟩, h4⟩ := h
  have hr : shapeM r = true := by unfold regionS at h1; simp only [Bool.and_eq_true] at h1; exact h1.1
  refine ⟨shapeM_pos hr, by omega, fun p hp => ?_⟩
  obtain ⟨i, hi, rfl⟩ := List.getElem_of_mem hp
  have := (h4 i hi).1
  rw [List.getD_eq_getElem?_getD, List.getElem?_eq_getElem hi] at this
  exact pieceS_pos this
theorem puzzleI_ok {r : List (Int × Int)} {l : List PieceM} (h : puzzleI r l = true) : 1 ≤ r.length ∧ 1 ≤ l.length ∧ ∀ p ∈ l, 0 < p.cs.length := by
  unfold puzzleI at h
  simp only [Bool.and_eq_true, decide_eq_true_eq, List.all_eq_true, List.mem_range] at h
  obtain ⟨⟨h1, h2, h3⟩, h4⟩ := h
  refine ⟨shapeM_pos (regionM_shape h1), by omega, fun p hp => ?_⟩
  obtain ⟨i, hi, rfl⟩ := List.getElem_of_mem hp
  have := (h4 i hi).1
  rw [List.getD_eq_getElem?_getD, List.getElem?_eq_getElem hi] at this
  exact pieceM_pos this
theorem specIsPlacement_fn (G : Gv) (r : List (Int × Int)) (l : List PieceM) (k : Int) (s : List Int) (hr : r.length < 1000000000) (hl : l.length < 1000000000) (hs : s.length < 1000000000) (hpl : ∀ p ∈ l, p.cs.length < 1000000000) :
    Gives Tryz.prog G 6 [.ag [.sl 0 (cells r), .sl 0 (pieces l)], .ag [.i .i64 k, .sl 0 (ints s)]] (.b (puzzleS r l && placeS r l k s)) := by
  refine .of (.body Tryz.func6 rfl (by simp [Tryz.ntmps6]) ?_)
  rw [Tryz.ntmps6, Tryz.results6]
  replace hpl := Hid.mk hpl
  repeat first | refine OP ?_ | refine SK ?_ | refine OPN ?_ | refine OM ?_ | refine SM ?_ | refine OMN ?_ | refine WM.nil ?_ | refine OQ ?_ | refine SQ ?_ | refine TH ?_ | refine WR.nil ?_ | refine WQ.nil ?_ | refine W.seq ?_ | refine W.region ?_ | refine DR ?_ | refine IFT ?_ | refine IFF ?_ | refine W.skip ?_ | refine W.block ?_ | refine W.exit ?_ | refine W.ret ?_ | (simp only [tN, tR, tE, rN, rR, rE, xN, xR, xE, reduceIte]) | refine DN ?_
  refine CV (specIsPuzzle_fn G r l hr hl hpl.out) ?_
  by_cases c : puzzleS r l = true
  · obtain ⟨g1, g2, g3⟩ := puzzleS_ok c
    replace g3 := Hid.mk g3
    repeat first | refine OP ?_ | refine SK ?_ | refine OPN ?_ | refine OM ?_ | refine SM ?_ | refine OMN ?_ | refine WM.nil ?_ | refine OQ ?_ | refine SQ ?_ | refine TH ?_ | refine WR.nil ?_ | refine WQ.nil ?_ | refine W.seq ?_ | refine W.region ?_ | refine DR ?_ | refine IFT ?_ | refine IFF ?_ | refine W.skip ?_ | refine W.block ?_ | refine W.exit ?_ | refine W.ret ?_ | (simp only [tN, tR, tE, rN, rR, rE, xN, xR, xE, reduceIte]) | refine DN ?_
    refine CV (l12Is_fn G r l k s g1 hr g2 hl hs g3.out hpl.out) ?_
    repeat first | refine OP ?_ | refine SK ?_ | refine OPN ?_ | refine OM ?_ | refine SM ?_ | refine OMN ?_ | refine WM.nil ?_ | refine OQ ?_ | refine SQ ?_ | refine TH ?_ | refine WR.nil ?_ | refine WQ.nil ?_ | refine W.seq ?_ | refine W.region ?_ | refine DR ?_ | refine IFT ?_ | refine IFF ?_ | refine W.skip ?_ | refine W.block ?_ | refine W.exit ?_ | refine W.ret ?_ | (simp only [tN, tR, tE, rN, rR, rE, xN, xR, xE, reduceIte]) | refine DN ?_
    simp [retA, backA, c]
  · repeat first | refine OP ?_ | refine SK ?_ | refine OPN ?_ | refine OM ?_ | refine SM ?_ | refine OMN ?_ | refine WM.nil ?_ | refine OQ ?_ | refine SQ ?_ | refine TH ?_ | refine WR.nil ?_ | refine WQ.nil ?_ | refine W.seq ?_ | refine W.region ?_ | refine DR ?_ | refine IFT ?_ | refine IFF ?_ | refine W.skip ?_ | refine W.block ?_ | refine W.exit ?_ | refine W.ret ?_ | (simp only [tN, tR, tE, rN, rR, rE, xN, xR, xE, reduceIte]) | refine DN ?_
    simp [retA, backA, c]
theorem isPl1_fn (G : Gv) (a own : Shape) (o : Nat) (T : TypeId) (H : Heap) (n tg ta : Nat) (ho : o < n) (hH : H o = some (.box T [.sl tg (cells own)])) (ha : a.length < 1000000000) (hb : own.length < 1000000000) :
    WC Tryz.prog G 43 [.sl ta (cells a), .ptr o 0 0 0] H n (fun r H' n' => r = .b (decide (a = own)) ∧ n ≤ n' ∧ H' = H) := by
  refine (.body Tryz.func43 rfl (by simp [Tryz.ntmps43]) ?_)
  rw [Tryz.ntmps43, Tryz.results43]
  repeat first | refine OP ?_ | refine SK ?_ | refine OPN ?_ | refine OM ?_ | refine SM ?_ | refine OMN ?_ | refine WM.nil ?_ | refine OQ ?_ | refine SQ ?_ | refine TH ?_ | refine WR.nil ?_ | refine WQ.nil ?_ | refine W.seq ?_ | refine W.region ?_ | refine DR ?_ | refine IFT ?_ | refine IFF ?_ | refine W.skip ?_ | refine W.block ?_ | refine W.exit ?_ | refine W.ret ?_ | (simp only [tN, tR, tE, rN, rR, rE, xN, xR, xE, reduceIte]) | refine DN ?_
  refine CV (equal_fn G a own ha hb) ?_
  repeat first | refine OP ?_ | refine SK ?_ | refine OPN ?_ | refine OM ?_ | refine SM ?_ | refine OMN ?_ | refine WM.nil ?_ | refine OQ ?_ | refine SQ ?_ | refine TH ?_ | refine WR.nil ?_ | refine WQ.nil ?_ | refine W.seq ?_ | refine W.region ?_ | refine DR ?_ | refine IFT ?_ | refine IFF ?_ | refine W.skip ?_ | refine W.block ?_ | refine W.exit ?_ | refine W.ret ?_ | (simp only [tN, tR, tE, rN, rR, rE, xN, xR, xE, reduceIte]) | refine DN ?_
  refine ⟨by simp [retA, setF_if], by omega, ?_⟩
  first | rfl | trivial
theorem isPlacement_fn (G : Gv) (hG : ∀ f args H n r H' n', sortsG f args H n r H' n' → G f args H n r H' n') (hG1 : ∀ f args H n r H' n', sortsG1 f args H n r H' n' → G f args H n r H' n') (r : List (Int × Int)) (l : List PieceM) (k : Int) (s : List Int) (hr1 : 1 ≤ r.length) (hr : r.length < 1000000000) (hl1 : 1 ≤ l.length) (hl : l.length < 1000000000) (hs : s.length < 1000000000) (hp0 : ∀ p ∈ l, 0 < p.cs.length) (hpl : ∀ p ∈ l, p.cs.length < 1000000000) :
    Gives Tryz.prog G 21 [.ag [.sl 0 (cells r), .sl 0 (pieces l)], .ag [.i .i64 k, .sl 0 (ints s)]] (.b (placeI r l k s)) := by
  refine .of (.body Tryz.func21 rfl (by simp [Tryz.ntmps21]) ?_)
  rw [Tryz.ntmps21, Tryz.results21]
  replace hG := Hid.mk hG
  replace hG1 := Hid.mk hG1
  have hlen := pieces_len l
  have hsl := ints_len s
  have hrl := cells_len r
  have hw1 : IntKind.i64.wrap ((l.length : Int) - 1) = (l.length : Int) - 1 := wr64 (by omega) (by omega)
  have hw2 : IntKind.i64.wrap ((r.length : Int) - 1) = (r.length : Int) - 1 := wr64 (by omega) (by omega)
  replace hp0 := Hid.mk hp0
  replace hpl := Hid.mk hpl
  repeat first | refine OP ?_ | refine SK ?_ | refine OPN ?_ | refine OM ?_ | refine SM ?_ | refine OMN ?_ | refine WM.nil ?_ | refine OQ ?_ | refine SQ ?_ | refine TH ?_ | refine WR.nil ?_ | refine WQ.nil ?_ | refine W.seq ?_ | refine W.region ?_ | refine DR ?_ | refine IFT ?_ | refine IFF ?_ | refine W.skip ?_ | refine W.block ?_ | refine W.exit ?_ | refine W.ret ?_ | (simp only [tN, tR, tE, rN, rR, rE, xN, xR, xE, reduceIte]) | refine DN ?_
  refine CV (within_fn G _ _ _) ?_
  by_cases c1 : (decide (k ≥ 0) && decide (k ≤ (l.length : Int) - 1)) = true
  · by_cases c2 : ((s.length : Int) == 0) = true
    · have : placeI r l k s = false := by
        have : s.length = 0 := by simpa using c2
        unfold placeI; simp [this]
      repeat first | refine OP ?_ | refine SK ?_ | refine OPN ?_ | refine OM ?_ | refine SM ?_ | refine OMN ?_ | refine WM.nil ?_ | refine OQ ?_ | refine SQ ?_ | refine TH ?_ | refine WR.nil ?_ | refine WQ.nil ?_ | refine W.seq ?_ | refine W.region ?_ | refine DR ?_ | refine IFT ?_ | refine IFF ?_ | refine W.skip ?_ | refine W.block ?_ | refine W.exit ?_ | refine W.ret ?_ | (simp only [tN, tR, tE, rN, rR, rE, xN, xR, xE, reduceIte]) | refine DN ?_
      simp [retA, backA, this]
    · have hs0 : 0 < s.length := by
        have : ¬ s.length = 0 := by simpa using c2
        omega
      simp only [Bool.not_eq_true] at c2
      repeat first | refine OP ?_ | refine SK ?_ | refine OPN ?_ | refine OM ?_ | refine SM ?_ | refine OMN ?_ | refine WM.nil ?_ | refine OQ ?_ | refine SQ ?_ | refine TH ?_ | refine WR.nil ?_ | refine WQ.nil ?_ | refine W.seq ?_ | refine W.region ?_ | refine DR ?_ | refine IFT ?_ | refine IFF ?_ | refine W.skip ?_ | refine W.block ?_ | refine W.exit ?_ | refine W.ret ?_ | (simp only [tN, tR, tE, rN, rR, rE, xN, xR, xE, reduceIte]) | refine DN ?_
      refine CV (isIncreasing_fn G s _ (by omega)) ?_
      rw [hw2]
      by_cases c3 : inc s ((r.length : Int) - 1) = true
      · have hmem := inc_mem c3
        replace hmem := Hid.mk hmem
        obtain ⟨k0, k1⟩ : 0 ≤ k ∧ k ≤ (l.length : Int) - 1 := by simpa using c1
        have hkl : k.toNat < l.length := by omega
        obtain ⟨p, hp⟩ : ∃ p, l[k.toNat]? = some p := ⟨_, List.getElem?_eq_getElem hkl⟩
        have hpd : l.getD k.toNat pc0 = p := by rw [List.getD_eq_getElem?_getD, hp]; rfl
        have hrow := pieces_at hp
        have hpp0 := hp0.out p (List.mem_of_getElem? hp)
        have hppl := hpl.out p (List.mem_of_getElem? hp)
        have : placeI r l k s = fitI p (ownM r s) := by unfold placeI; rw [c1, c3, hpd]; simp; omega
        replace this := Hid.mk this
        replace hpd := Hid.mk hpd
        repeat first | refine OP ?_ | refine SK ?_ | refine OPN ?_ | refine OM ?_ | refine SM ?_ | refine OMN ?_ | refine WM.nil ?_ | refine OQ ?_ | refine SQ ?_ | refine TH ?_ | refine WR.nil ?_ | refine WQ.nil ?_ | refine W.seq ?_ | refine W.region ?_ | refine DR ?_ | refine IFT ?_ | refine IFF ?_ | refine W.skip ?_ | refine W.block ?_ | refine W.exit ?_ | refine W.ret ?_ | (simp only [tN, tR, tE, rN, rR, rE, xN, xR, xE, reduceIte]) | refine DN ?_
        refine CV (setToCells_fn G r s hr hs (fun x hx => by have := hmem.out x hx; omega)) ?_
        repeat first | refine OP ?_ | refine SK ?_ | refine OPN ?_ | refine OM ?_ | refine SM ?_ | refine OMN ?_ | refine WM.nil ?_ | refine OQ ?_ | refine SQ ?_ | refine TH ?_ | refine WR.nil ?_ | refine WQ.nil ?_ | refine W.seq ?_ | refine W.region ?_ | refine DR ?_ | refine IFT ?_ | refine IFF ?_ | refine W.skip ?_ | refine W.block ?_ | refine W.exit ?_ | refine W.ret ?_ | (simp only [tN, tR, tE, rN, rR, rE, xN, xR, xE, reduceIte]) | refine DN ?_
        refine CV (normal_fn G (pickM r s) (by rw [pickM_len]; exact hs0) (by rw [pickM_len]; exact hs)) ?_
        have how : normM (pickM r s) = ownM r s := rfl
        have hol : (ownM r s).length < 1000000000 := by rw [ownM_len]; exact hs
        rw [how]
        generalize ownM r s = own at hol this
        clear how
        repeat first | refine OP ?_ | refine SK ?_ | refine OPN ?_ | refine OM ?_ | refine SM ?_ | refine OMN ?_ | refine WM.nil ?_ | refine OQ ?_ | refine SQ ?_ | refine TH ?_ | refine WR.nil ?_ | refine WQ.nil ?_ | refine W.seq ?_ | refine W.region ?_ | refine DR ?_ | refine IFT ?_ | refine IFF ?_ | refine W.skip ?_ | refine W.block ?_ | refine W.exit ?_ | refine W.ret ?_ | (simp only [tN, tR, tE, rN, rR, rE, xN, xR, xE, reduceIte]) | refine DN ?_
        refine CV (formsOf_fn G hG.out hG1.out p hpp0 hppl) ?_
        obtain ⟨f1, f2⟩ := formsI_ok p
        replace f2 := Hid.mk f2
        repeat first | refine OP ?_ | refine SK ?_ | refine OPN ?_ | refine OM ?_ | refine SM ?_ | refine OMN ?_ | refine WM.nil ?_ | refine OQ ?_ | refine SQ ?_ | refine TH ?_ | refine WR.nil ?_ | refine WQ.nil ?_ | refine W.seq ?_ | refine W.region ?_ | refine DR ?_ | refine IFT ?_ | refine IFF ?_ | refine W.skip ?_ | refine W.block ?_ | refine W.exit ?_ | refine W.ret ?_ | (simp only [tN, tR, tE, rN, rR, rE, xN, xR, xE, reduceIte]) | refine DN ?_
        refine CI ?_
        refine (containsFunc_fn G _ _ _ _ 1 (fun a => decide (a = own)) (formsI p) ?_ (by kernel_rfl) (by omega) _ _ (Nat.le_refl _) (fun _ _ => rfl)).mono ?_
        · intro x hx H n hn hH
          refine (isPl1_fn G x own _ 32 H n 1 1 ?_ ?_ (by rw [f2.out x hx]; exact hppl) hol).mono ?_
          rotate_left
          · rw [hH _ ?_]
            · exact Heap.upd_same _ _ _
            · decide
          · rintro r H2 n2 ⟨h1, h2, rfl⟩
            exact ⟨h1, by omega, hH⟩
          · omega
        · rintro r2 H2 n2 ⟨rfl, hn2, hH2⟩
          replace hH2 := Hid.mk hH2
          repeat first | refine OP ?_ | refine SK ?_ | refine OPN ?_ | refine OM ?_ | refine SM ?_ | refine OMN ?_ | refine WM.nil ?_ | refine OQ ?_ | refine SQ ?_ | refine TH ?_ | refine WR.nil ?_ | refine WQ.nil ?_ | refine W.seq ?_ | refine W.region ?_ | refine DR ?_ | refine IFT ?_ | refine IFF ?_ | refine W.skip ?_ | refine W.block ?_ | refine W.exit ?_ | refine W.ret ?_ | (simp only [tN, tR, tE, rN, rR, rE, xN, xR, xE, reduceIte]) | refine DN ?_
          simp [retA, backA, setF_if, this.out, fitI]
      · have : placeI r l k s = false := by
          simp only [Bool.not_eq_true] at c3
          unfold placeI; rw [c3]; simp
        repeat first | refine OP ?_ | refine SK ?_ | refine OPN ?_ | refine OM ?_ | refine SM ?_ | refine OMN ?_ | refine WM.nil ?_ | refine OQ ?_ | refine SQ ?_ | refine TH ?_ | refine WR.nil ?_ | refine WQ.nil ?_ | refine W.seq ?_ | refine W.region ?_ | refine DR ?_ | refine IFT ?_ | refine IFF ?_ | refine W.skip ?_ | refine W.block ?_ | refine W.exit ?_ | refine W.ret ?_ | (simp only [tN, tR, tE, rN, rR, rE, xN, xR, xE, reduceIte]) | refine DN ?_
        simp [retA, backA, this]
  · have : placeI r l k s = false := by
      simp only [Bool.not_eq_true] at c1
      unfold placeI; rw [c1]; rfl
    repeat first | refine OP ?_ | refine SK ?_ | refine OPN ?_ | refine OM ?_ | refine SM ?_ | refine OMN ?_ | refine WM.nil ?_ | refine OQ ?_ | refine SQ ?_ | refine TH ?_ | refine WR.nil ?_ | refine WQ.nil ?_ | refine W.seq ?_ | refine W.region ?_ | refine DR ?_ | refine IFT ?_ | refine IFF ?_ | refine W.skip ?_ | refine W.block ?_ | refine W.exit ?_ | refine W.ret ?_ | (simp only [tN, tR, tE, rN, rR, rE, xN, xR, xE, reduceIte]) | refine DN ?_
    simp [retA, backA, this]
theorem implIsPlacement_fn (G : Gv) (hG : ∀ f args H n r H' n', sortsG f args H n r H' n' → G f args H n r H' n') (hG1 : ∀ f args H n r H' n', sortsG1 f args H n r H' n' → G f args H n r H' n') (r : List (Int × Int)) (l : List PieceM) (k : Int) (s : List Int) (hr : r.length < 1000000000) (hl : l.length < 1000000000) (hs : s.length < 1000000000) (hpl : ∀ p ∈ l, p.cs.length < 1000000000) :
    Gives Tryz.prog G 9 [.ag [.sl 0 (cells r), .sl 0 (pieces l)], .ag [.i .i64 k, .sl 0 (ints s)]] (.b (puzzleI r l && placeI r l k s)) := by
  refine .of (.body Tryz.func9 rfl (by simp [Tryz.ntmps9]) ?_)
  rw [Tryz.ntmps9, Tryz.results9]
  replace hG := Hid.mk hG
  replace hG1 := Hid.mk hG1
  replace hpl := Hid.mk hpl
  repeat first | refine OP ?_ | refine SK ?_ | refine OPN ?_ | refine OM ?_ | refine SM ?_ | refine OMN ?_ | refine WM.nil ?_ | refine OQ ?_ | refine SQ ?_ | refine TH ?_ | refine WR.nil ?_ | refine WQ.nil ?_ | refine W.seq ?_ | refine W.region ?_ | refine DR ?_ | refine IFT ?_ | refine IFF ?_ | refine W.skip ?_ | refine W.block ?_ | refine W.exit ?_ | refine W.ret ?_ | (simp only [tN, tR, tE, rN, rR, rE, xN, xR, xE, reduceIte]) | refine DN ?_
  refine CV (implIsPuzzle_fn G hG.out hG1.out r l hr hl hpl.out) ?_
  by_cases c : puzzleI r l = true
  · obtain ⟨g1, g2, g3⟩ := puzzleI_ok c
    replace g3 := Hid.mk g3
    repeat first | refine OP ?_ | refine SK ?_ | refine OPN ?_ | refine OM ?_ | refine SM ?_ | refine OMN ?_ | refine WM.nil ?_ | refine OQ ?_ | refine SQ ?_ | refine TH ?_ | refine WR.nil ?_ | refine WQ.nil ?_ | refine W.seq ?_ | refine W.region ?_ | refine DR ?_ | refine IFT ?_ | refine IFF ?_ | refine W.skip ?_ | refine W.block ?_ | refine W.exit ?_ | refine W.ret ?_ | (simp only [tN, tR, tE, rN, rR, rE, xN, xR, xE, reduceIte]) | refine DN ?_
    refine CV (isPlacement_fn G hG.out hG1.out r l k s g1 hr g2 hl hs g3.out hpl.out) ?_
    repeat first | refine OP ?_ | refine SK ?_ | refine OPN ?_ | refine OM ?_ | refine SM ?_ | refine OMN ?_ | refine WM.nil ?_ | refine OQ ?_ | refine SQ ?_ | refine TH ?_ | refine WR.nil ?_ | refine WQ.nil ?_ | refine W.seq ?_ | refine W.region ?_ | refine DR ?_ | refine IFT ?_ | refine IFF ?_ | refine W.skip ?_ | refine W.block ?_ | refine W.exit ?_ | refine W.ret ?_ | (simp only [tN, tR, tE, rN, rR, rE, xN, xR, xE, reduceIte]) | refine DN ?_
    simp [retA, backA, c]
  · repeat first | refine OP ?_ | refine SK ?_ | refine OPN ?_ | refine OM ?_ | refine SM ?_ | refine OMN ?_ | refine WM.nil ?_ | refine OQ ?_ | refine SQ ?_ | refine TH ?_ | refine WR.nil ?_ | refine WQ.nil ?_ | refine W.seq ?_ | refine W.region ?_ | refine DR ?_ | refine IFT ?_ | refine IFF ?_ | refine W.skip ?_ | refine W.block ?_ | refine W.exit ?_ | refine W.ret ?_ | (simp only [tN, tR, tE, rN, rR, rE, xN, xR, xE, reduceIte]) | refine DN ?_
    simp [retA, backA, c]
end Go.Proofs
end
section
open Go Go.Big
namespace Go.Proofs
set_option maxHeartbeats 4000000
theorem wr64s {n : Int} (h1 : -9223372036854775808 ≤ n) (h2 : n ≤ 9223372036854775807) : IntKind.i64.wrap n = n := by
  simp only [IntKind.wrap, IntKind.bits, IntKind.signed]; simp; omega
def szN (n : Nat) (left : Int) : Int := if left - n < 0 then -1 else left - n
theorem szN_le {n : Nat} {left : Int} (h : ¬ szN n left < 0) : (n : Int) ≤ left ∧ szN n left ≤ left ∧ 0 ≤ szN n left := by
  unfold szN at *; split at h <;> simp_all <;> omega
theorem szCellS_fn (G : Gv) (l : List (Int × Int)) (left : Int) (hl : l.length ≤ 9223372036854775807) (h0 : 0 ≤ left) (h1 : left ≤ 1048576) : Gives Tryz.prog G 12 [.sl 0 (cells l), .i .i64 left] (.i .i64 (szN l.length left)) := by
  refine .of (.body Tryz.func12 rfl (by simp [Tryz.ntmps12]) ?_)
  rw [Tryz.ntmps12, Tryz.results12]
  have hlen := cells_len l
  have hw : IntKind.i64.wrap (left - l.length) = left - l.length := wr64s (by omega) (by omega)
  by_cases c : left - (l.length : Int) < 0
  · repeat first | refine OP ?_ | refine SK ?_ | refine OPN ?_ | refine OM ?_ | refine SM ?_ | refine OMN ?_ | refine WM.nil ?_ | refine OQ ?_ | refine SQ ?_ | refine TH ?_ | refine WR.nil ?_ | refine WQ.nil ?_ | refine W.seq ?_ | refine W.region ?_ | refine DR ?_ | refine IFT ?_ | refine IFF ?_ | refine W.skip ?_ | refine W.block ?_ | refine W.exit ?_ | refine W.ret ?_ | (simp only [tN, tR, tE, rN, rR, rE, xN, xR, xE, reduceIte]) | refine DN ?_
    simp [retA, backA, szN, c]
  · repeat first | refine OP ?_ | refine SK ?_ | refine OPN ?_ | refine OM ?_ | refine SM ?_ | refine OMN ?_ | refine WM.nil ?_ | refine OQ ?_ | refine SQ ?_ | refine TH ?_ | refine WR.nil ?_ | refine WQ.nil ?_ | refine W.seq ?_ | refine W.region ?_ | refine DR ?_ | refine IFT ?_ | refine IFF ?_ | refine W.skip ?_ | refine W.block ?_ | refine W.exit ?_ | refine W.ret ?_ | (simp only [tN, tR, tE, rN, rR, rE, xN, xR, xE, reduceIte]) | refine DN ?_
    simp [retA, backA, szN, c]
theorem szInt64S_fn (G : Gv) (l : List Int) (left : Int) (hl : l.length ≤ 9223372036854775807) (h0 : 0 ≤ left) (h1 : left ≤ 1048576) : Gives Tryz.prog G 14 [.sl 0 (ints l), .i .i64 left] (.i .i64 (szN l.length left)) := by
  refine .of (.body Tryz.func14 rfl (by simp [Tryz.ntmps14]) ?_)
  rw [Tryz.ntmps14, Tryz.results14]
  have hlen := ints_len l
  have hw : IntKind.i64.wrap (left - l.length) = left - l.length := wr64s (by omega) (by omega)
  by_cases c : left - (l.length : Int) < 0
  · repeat first | refine OP ?_ | refine SK ?_ | refine OPN ?_ | refine OM ?_ | refine SM ?_ | refine OMN ?_ | refine WM.nil ?_ | refine OQ ?_ | refine SQ ?_ | refine TH ?_ | refine WR.nil ?_ | refine WQ.nil ?_ | refine W.seq ?_ | refine W.region ?_ | refine DR ?_ | refine IFT ?_ | refine IFF ?_ | refine W.skip ?_ | refine W.block ?_ | refine W.exit ?_ | refine W.ret ?_ | (simp only [tN, tR, tE, rN, rR, rE, xN, xR, xE, reduceIte]) | refine DN ?_
    simp [retA, backA, szN, c]
  · repeat first | refine OP ?_ | refine SK ?_ | refine OPN ?_ | refine OM ?_ | refine SM ?_ | refine OMN ?_ | refine WM.nil ?_ | refine OQ ?_ | refine SQ ?_ | refine TH ?_ | refine WR.nil ?_ | refine WQ.nil ?_ | refine W.seq ?_ | refine W.region ?_ | refine DR ?_ | refine IFT ?_ | refine IFF ?_ | refine W.skip ?_ | refine W.block ?_ | refine W.exit ?_ | refine W.ret ?_ | (simp only [tN, tR, tE, rN, rR, rE, xN, xR, xE, reduceIte]) | refine DN ?_
    simp [retA, backA, szN, c]
theorem szPiece_fn (G : Gv) (p : PieceM) (left : Int) (hl : p.cs.length ≤ 9223372036854775807) (h0 : 0 ≤ left) (h1 : left ≤ 1048576) : Gives Tryz.prog G 25 [pieceA 0 p, .i .i64 left] (.i .i64 (szN p.cs.length left)) := by
  refine .of (.body Tryz.func25 rfl (by simp [Tryz.ntmps25]) ?_)
  rw [Tryz.ntmps25, Tryz.results25]
  repeat first | refine OP ?_ | refine SK ?_ | refine OPN ?_ | refine OM ?_ | refine SM ?_ | refine OMN ?_ | refine WM.nil ?_ | refine OQ ?_ | refine SQ ?_ | refine TH ?_ | refine WR.nil ?_ | refine WQ.nil ?_ | refine W.seq ?_ | refine W.region ?_ | refine DR ?_ | refine IFT ?_ | refine IFF ?_ | refine W.skip ?_ | refine W.block ?_ | refine W.exit ?_ | refine W.ret ?_ | (simp only [tN, tR, tE, rN, rR, rE, xN, xR, xE, reduceIte]) | refine DN ?_
  refine CV (szCellS_fn G _ _ hl h0 h1) ?_
  by_cases c : szN p.cs.length left < 0
  · repeat first | refine OP ?_ | refine SK ?_ | refine OPN ?_ | refine OM ?_ | refine SM ?_ | refine OMN ?_ | refine WM.nil ?_ | refine OQ ?_ | refine SQ ?_ | refine TH ?_ | refine WR.nil ?_ | refine WQ.nil ?_ | refine W.seq ?_ | refine W.region ?_ | refine DR ?_ | refine IFT ?_ | refine IFF ?_ | refine W.skip ?_ | refine W.block ?_ | refine W.exit ?_ | refine W.ret ?_ | (simp only [tN, tR, tE, rN, rR, rE, xN, xR, xE, reduceIte]) | refine DN ?_
    have : szN p.cs.length left = -1 := by unfold szN at *; split at c <;> simp_all
    simp [retA, backA, this]
  · repeat first | refine OP ?_ | refine SK ?_ | refine OPN ?_ | refine OM ?_ | refine SM ?_ | refine OMN ?_ | refine WM.nil ?_ | refine OQ ?_ | refine SQ ?_ | refine TH ?_ | refine WR.nil ?_ | refine WQ.nil ?_ | refine W.seq ?_ | refine W.region ?_ | refine DR ?_ | refine IFT ?_ | refine IFF ?_ | refine W.skip ?_ | refine W.block ?_ | refine W.exit ?_ | refine W.ret ?_ | (simp only [tN, tR, tE, rN, rR, rE, xN, xR, xE, reduceIte]) | refine DN ?_
    simp [retA, backA]
theorem szPlacement_fn (G : Gv) (k : Int) (l : List Int) (left : Int) (hl : l.length ≤ 9223372036854775807) (h0 : 0 ≤ left) (h1 : left ≤ 1048576) : Gives Tryz.prog G 5 [.ag [.i .i64 k, .sl 0 (ints l)], .i .i64 left] (.i .i64 (szN l.length left)) := by
  refine .of (.body Tryz.func5 rfl (by simp [Tryz.ntmps5]) ?_)
  rw [Tryz.ntmps5, Tryz.results5]
  repeat first | refine OP ?_ | refine SK ?_ | refine OPN ?_ | refine OM ?_ | refine SM ?_ | refine OMN ?_ | refine WM.nil ?_ | refine OQ ?_ | refine SQ ?_ | refine TH ?_ | refine WR.nil ?_ | refine WQ.nil ?_ | refine W.seq ?_ | refine W.region ?_ | refine DR ?_ | refine IFT ?_ | refine IFF ?_ | refine W.skip ?_ | refine W.block ?_ | refine W.exit ?_ | refine W.ret ?_ | (simp only [tN, tR, tE, rN, rR, rE, xN, xR, xE, reduceIte]) | refine DN ?_
  refine CV (szInt64S_fn G _ _ hl h0 h1) ?_
  by_cases c : szN l.length left < 0
  · repeat first | refine OP ?_ | refine SK ?_ | refine OPN ?_ | refine OM ?_ | refine SM ?_ | refine OMN ?_ | refine WM.nil ?_ | refine OQ ?_ | refine SQ ?_ | refine TH ?_ | refine WR.nil ?_ | refine WQ.nil ?_ | refine W.seq ?_ | refine W.region ?_ | refine DR ?_ | refine IFT ?_ | refine IFF ?_ | refine W.skip ?_ | refine W.block ?_ | refine W.exit ?_ | refine W.ret ?_ | (simp only [tN, tR, tE, rN, rR, rE, xN, xR, xE, reduceIte]) | refine DN ?_
    have : szN l.length left = -1 := by unfold szN at *; split at c <;> simp_all
    simp [retA, backA, this]
  · repeat first | refine OP ?_ | refine SK ?_ | refine OPN ?_ | refine OM ?_ | refine SM ?_ | refine OMN ?_ | refine WM.nil ?_ | refine OQ ?_ | refine SQ ?_ | refine TH ?_ | refine WR.nil ?_ | refine WQ.nil ?_ | refine W.seq ?_ | refine W.region ?_ | refine DR ?_ | refine IFT ?_ | refine IFF ?_ | refine W.skip ?_ | refine W.block ?_ | refine W.exit ?_ | refine W.ret ?_ | (simp only [tN, tR, tE, rN, rR, rE, xN, xR, xE, reduceIte]) | refine DN ?_
    simp [retA, backA]
def szP : List PieceM → Int → Int
  | [], left => left
  | p :: r, left => if szN p.cs.length left < 0 then -1 else szP r (szN p.cs.length left)
def szPS (l : List PieceM) (left : Int) : Int := if left - l.length < 0 then -1 else szP l (left - l.length)
theorem szPieceS_fn (G : Gv) (l : List PieceM) (left : Int) (hl : l.length ≤ 9223372036854775807) (hc : ∀ p ∈ l, p.cs.length ≤ 9223372036854775807) (h0 : 0 ≤ left) (h1 : left ≤ 1048576) : Gives Tryz.prog G 13 [.sl 0 (pieces l), .i .i64 left] (.i .i64 (szPS l left)) := by
  refine .of (.body Tryz.func13 rfl (by simp [Tryz.ntmps13]) ?_)
  rw [Tryz.ntmps13, Tryz.results13]
  have hlen := pieces_len l
  replace hc := Hid.mk hc
  have hw : IntKind.i64.wrap (left - l.length) = left - l.length := wr64s (by omega) (by omega)
  by_cases c : left - (l.length : Int) < 0
  · repeat first | refine OP ?_ | refine SK ?_ | refine OPN ?_ | refine OM ?_ | refine SM ?_ | refine OMN ?_ | refine WM.nil ?_ | refine OQ ?_ | refine SQ ?_ | refine TH ?_ | refine WR.nil ?_ | refine WQ.nil ?_ | refine W.seq ?_ | refine W.region ?_ | refine DR ?_ | refine IFT ?_ | refine IFF ?_ | refine W.skip ?_ | refine W.block ?_ | refine W.exit ?_ | refine W.ret ?_ | (simp only [tN, tR, tE, rN, rR, rE, xN, xR, xE, reduceIte]) | refine DN ?_
    simp [retA, backA, szPS, c]
  · repeat first | refine OP ?_ | refine SK ?_ | refine OPN ?_ | refine OM ?_ | refine SM ?_ | refine OMN ?_ | refine WM.nil ?_ | refine OQ ?_ | refine SQ ?_ | refine TH ?_ | refine WR.nil ?_ | refine WQ.nil ?_ | refine W.seq ?_ | refine W.region ?_ | refine DR ?_ | refine IFT ?_ | refine IFF ?_ | refine W.skip ?_ | refine W.block ?_ | refine W.exit ?_ | refine W.ret ?_ | (simp only [tN, tR, tE, rN, rR, rE, xN, xR, xE, reduceIte]) | refine DN ?_
    refine .loop (.inv (fun d E H n' => ∃ (i : Nat) (lf : Int), i + d = l.length ∧ 0 ≤ lf ∧ lf ≤ 1048576 ∧ szP (l.drop i) lf = szPS l left ∧ E 0 = .sl 0 (pieces l) ∧ E 1 = .i .i64 lf ∧ E 5 = .i .i64 i) l.length ?_ ?_)
    · exact ⟨0, left - l.length, by omega, by omega, by omega, by unfold szPS; rw [if_neg c]; rfl, by simp [setF_if, argE], by simp [setF_if, argE, hlen, hw], by simp [setF_if, argE]⟩
    have hbl : (l.length : Int) ≤ 1048576 := by omega
    clear hw c
    rintro d E H n' ⟨i, lf, hi, hl0, hl1, hsz, e0, e1, e3⟩
    by_cases c : (i : Int) < l.length
    · have cN : i < l.length := by omega
      obtain ⟨p, hpi⟩ : ∃ p, l[i]? = some p := ⟨_, List.getElem?_eq_getElem (by omega)⟩
      have hr : (pieces l)[i]? = some (pieceR p) := by simp [pieces, hpi]
      have hw_i : IntKind.i64.wrap ((i : Int) + 1) = (i : Int) + 1 := wr64 (by omega) (by omega)
      have hd : l.drop i = p :: l.drop (i + 1) := by
        rw [List.drop_eq_getElem_cons cN]; congr 1
        rw [List.getElem?_eq_getElem cN] at hpi; exact Option.some.inj hpi
      rw [hd] at hsz
      have hpc := hc.out p (List.mem_of_getElem? hpi)
      replace hsz := Hid.mk hsz
      clear hd
      repeat first | refine OQ ?_ | refine SQ ?_ | refine TH ?_ | refine WQ.nil ?_ | refine W.seq ?_ | refine W.region ?_ | refine DR ?_ | refine OP ?_ | refine SK ?_ | refine WR.nil ?_
      repeat first | refine OP ?_ | refine SK ?_ | refine OPN ?_ | refine OM ?_ | refine SM ?_ | refine OMN ?_ | refine WM.nil ?_ | refine OQ ?_ | refine SQ ?_ | refine TH ?_ | refine WR.nil ?_ | refine WQ.nil ?_ | refine W.seq ?_ | refine W.region ?_ | refine DR ?_ | refine IFT ?_ | refine IFF ?_ | refine W.skip ?_ | refine W.block ?_ | refine W.exit ?_ | refine W.ret ?_ | (simp only [tN, tR, tE, rN, rR, rE, xN, xR, xE, reduceIte]) | refine DN ?_
      refine CV (szPiece_fn G _ _ hpc hl0 hl1) ?_
      by_cases c2 : szN p.cs.length lf < 0
      · repeat first | refine OP ?_ | refine SK ?_ | refine OPN ?_ | refine OM ?_ | refine SM ?_ | refine OMN ?_ | refine WM.nil ?_ | refine OQ ?_ | refine SQ ?_ | refine TH ?_ | refine WR.nil ?_ | refine WQ.nil ?_ | refine W.seq ?_ | refine W.region ?_ | refine DR ?_ | refine IFT ?_ | refine IFF ?_ | refine W.skip ?_ | refine W.block ?_ | refine W.exit ?_ | refine W.ret ?_ | (simp only [tN, tR, tE, rN, rR, rE, xN, xR, xE, reduceIte]) | refine DN ?_
        have : szPS l left = -1 := by rw [← hsz.out, szP, if_pos c2]
        simp [retA, backA, this]
      · repeat first | refine OP ?_ | refine SK ?_ | refine OPN ?_ | refine OM ?_ | refine SM ?_ | refine OMN ?_ | refine WM.nil ?_ | refine OQ ?_ | refine SQ ?_ | refine TH ?_ | refine WR.nil ?_ | refine WQ.nil ?_ | refine W.seq ?_ | refine W.region ?_ | refine DR ?_ | refine IFT ?_ | refine IFF ?_ | refine W.skip ?_ | refine W.block ?_ | refine W.exit ?_ | refine W.ret ?_ | (simp only [tN, tR, tE, rN, rR, rE, xN, xR, xE, reduceIte]) | refine DN ?_
        obtain ⟨_, g2, g3⟩ := szN_le c2
        refine ⟨l.length - (i + 1), by omega, i + 1, szN p.cs.length lf, by omega, g3, by omega, by rw [← hsz.out, szP, if_neg c2], by simp [setF_if, *], by simp [setF_if, *], by simp [setF_if, *]⟩
    · have e' : i = l.length := by omega
      subst e'
      rw [List.drop_length, szP] at hsz
      repeat first | refine OP ?_ | refine SK ?_ | refine OPN ?_ | refine OM ?_ | refine SM ?_ | refine OMN ?_ | refine WM.nil ?_ | refine OQ ?_ | refine SQ ?_ | refine TH ?_ | refine WR.nil ?_ | refine WQ.nil ?_ | refine W.seq ?_ | refine W.region ?_ | refine DR ?_ | refine IFT ?_ | refine IFF ?_ | refine W.skip ?_ | refine W.block ?_ | refine W.exit ?_ | refine W.ret ?_ | (simp only [tN, tR, tE, rN, rR, rE, xN, xR, xE, reduceIte]) | refine DN ?_
      simp [retA, backA, hsz]
def szPz (r : List (Int × Int)) (l : List PieceM) (left : Int) : Int := if szN r.length left < 0 then -1 else szPS l (szN r.length left)
theorem szPS_neg {l : List PieceM} {left : Int} (h : szPS l left < 0) : szPS l left = -1 := by
  unfold szPS at *
  split
  · rfl
  · rename_i c
    rw [if_neg c] at h
    generalize left - (l.length : Int) = x at h c
    induction l generalizing x with
    | nil => exact absurd h c
    | cons p r ih =>
      simp only [szP] at h ⊢
      split
      · rfl
      · rename_i c2
        rw [if_neg c2] at h
        exact ih _ h c2
theorem szPuzzle_fn (G : Gv) (r : List (Int × Int)) (l : List PieceM) (left : Int) (hr : r.length ≤ 9223372036854775807) (hl : l.length ≤ 9223372036854775807) (hc : ∀ p ∈ l, p.cs.length ≤ 9223372036854775807) (h0 : 0 ≤ left) (h1 : left ≤ 1048576) : Gives Tryz.prog G 4 [.ag [.sl 0 (cells r), .sl 0 (pieces l)], .i .i64 left] (.i .i64 (szPz r l left)) := by
  refine .of (.body Tryz.func4 rfl (by simp [Tryz.ntmps4]) ?_)
  rw [Tryz.ntmps4, Tryz.results4]
  repeat first | refine OP ?_ | refine SK ?_ | refine OPN ?_ | refine OM ?_ | refine SM ?_ | refine OMN ?_ | refine WM.nil ?_ | refine OQ ?_ | refine SQ ?_ | refine TH ?_ | refine WR.nil ?_ | refine WQ.nil ?_ | refine W.seq ?_ | refine W.region ?_ | refine DR ?_ | refine IFT ?_ | refine IFF ?_ | refine W.skip ?_ | refine W.block ?_ | refine W.exit ?_ | refine W.ret ?_ | (simp only [tN, tR, tE, rN, rR, rE, xN, xR, xE, reduceIte]) | refine DN ?_
  refine CV (szCellS_fn G _ _ hr h0 h1) ?_
  replace hc := Hid.mk hc
  by_cases c : szN r.length left < 0
  · repeat first | refine OP ?_ | refine SK ?_ | refine OPN ?_ | refine OM ?_ | refine SM ?_ | refine OMN ?_ | refine WM.nil ?_ | refine OQ ?_ | refine SQ ?_ | refine TH ?_ | refine WR.nil ?_ | refine WQ.nil ?_ | refine W.seq ?_ | refine W.region ?_ | refine DR ?_ | refine IFT ?_ | refine IFF ?_ | refine W.skip ?_ | refine W.block ?_ | refine W.exit ?_ | refine W.ret ?_ | (simp only [tN, tR, tE, rN, rR, rE, xN, xR, xE, reduceIte]) | refine DN ?_
    simp [retA, backA, szPz, c]
  · obtain ⟨_, g2, g3⟩ := szN_le c
    repeat first | refine OP ?_ | refine SK ?_ | refine OPN ?_ | refine OM ?_ | refine SM ?_ | refine OMN ?_ | refine WM.nil ?_ | refine OQ ?_ | refine SQ ?_ | refine TH ?_ | refine WR.nil ?_ | refine WQ.nil ?_ | refine W.seq ?_ | refine W.region ?_ | refine DR ?_ | refine IFT ?_ | refine IFF ?_ | refine W.skip ?_ | refine W.block ?_ | refine W.exit ?_ | refine W.ret ?_ | (simp only [tN, tR, tE, rN, rR, rE, xN, xR, xE, reduceIte]) | refine DN ?_
    refine CV (szPieceS_fn G _ _ hl hc.out g3 (by omega)) ?_
    by_cases c2 : szPS l (szN r.length left) < 0
    · repeat first | refine OP ?_ | refine SK ?_ | refine OPN ?_ | refine OM ?_ | refine SM ?_ | refine OMN ?_ | refine WM.nil ?_ | refine OQ ?_ | refine SQ ?_ | refine TH ?_ | refine WR.nil ?_ | refine WQ.nil ?_ | refine W.seq ?_ | refine W.region ?_ | refine DR ?_ | refine IFT ?_ | refine IFF ?_ | refine W.skip ?_ | refine W.block ?_ | refine W.exit ?_ | refine W.ret ?_ | (simp only [tN, tR, tE, rN, rR, rE, xN, xR, xE, reduceIte]) | refine DN ?_
      simp [retA, backA, szPz, c, szPS_neg c2]
    · repeat first | refine OP ?_ | refine SK ?_ | refine OPN ?_ | refine OM ?_ | refine SM ?_ | refine OMN ?_ | refine WM.nil ?_ | refine OQ ?_ | refine SQ ?_ | refine TH ?_ | refine WR.nil ?_ | refine WQ.nil ?_ | refine W.seq ?_ | refine W.region ?_ | refine DR ?_ | refine IFT ?_ | refine IFF ?_ | refine W.skip ?_ | refine W.block ?_ | refine W.exit ?_ | refine W.ret ?_ | (simp only [tN, tR, tE, rN, rR, rE, xN, xR, xE, reduceIte]) | refine DN ?_
      simp [retA, backA, szPz, c]
theorem szP_le {l : List PieceM} : ∀ {left : Int}, left ≤ 1048576 → ¬ szP l left < 0 → (∀ p ∈ l, (p.cs.length : Int) ≤ 1048576) ∧ szP l left ≤ left := by
  induction l with
  | nil => intro left _ _; exact ⟨by simp, Int.le_refl _⟩
  | cons p r ih =>
    intro left hl h
    unfold szP at h ⊢
    split at h
    · simp at h
    · rename_i c
      rw [if_neg c]
      obtain ⟨g1, g2, g3⟩ := szN_le c
      obtain ⟨h1, h2⟩ := ih (by omega) h
      refine ⟨fun x hx => ?_, by omega⟩
      rcases List.mem_cons.mp hx with rfl | hx
      · omega
      · exact h1 x hx
theorem szPz_le {r : List (Int × Int)} {l : List PieceM} {left : Int} (hl : left ≤ 1048576) (h : ¬ szPz r l left < 0) : (r.length : Int) ≤ 1048576 ∧ (l.length : Int) ≤ 1048576 ∧ (∀ p ∈ l, (p.cs.length : Int) ≤ 1048576) ∧ 0 ≤ szPz r l left ∧ szPz r l left ≤ left := by
  unfold szPz at h ⊢
  split at h
  · simp at h
  · rename_i c
    rw [if_neg c]
    obtain ⟨g1, g2, g3⟩ := szN_le c
    unfold szPS at h ⊢
    split at h
    · simp at h
    · rename_i c2
      rw [if_neg c2]
      obtain ⟨h1, h2⟩ := szP_le (by omega) h
      exact ⟨by omega, by omega, h1, by omega, by omega⟩
end Go.Proofs
end
section
open Go Go.Big
namespace Go.Proofs
set_option maxHeartbeats 2000000
theorem law_fn (G : Gv) (hG : ∀ f args H n r H' n', sortsG f args H n r H' n' → G f args H n r H' n') (hG1 : ∀ f args H n r H' n', sortsG1 f args H n r H' n' → G f args H n r H' n') (r : List (Int × Int)) (l : List PieceM) (k : Int) (s : List Int)
    (hr : r.length ≤ 9223372036854775807) (hl : l.length ≤ 9223372036854775807) (hs : s.length ≤ 9223372036854775807) (hc : ∀ p ∈ l, p.cs.length ≤ 9223372036854775807)
    (hpure : r.length < 1000000000 → l.length < 1000000000 → s.length < 1000000000 → (∀ p ∈ l, p.cs.length < 1000000000) → (puzzleI r l && placeI r l k s) = (puzzleS r l && placeS r l k s)) :
    Gives Tryz.prog G 3 [.ag [.sl 0 (cells r), .sl 0 (pieces l)], .ag [.i .i64 k, .sl 0 (ints s)]] (.b true) := by
  refine .of (.body Tryz.func3 rfl (by simp [Tryz.ntmps3]) ?_)
  rw [Tryz.ntmps3, Tryz.results3]
  replace hG := Hid.mk hG
  replace hG1 := Hid.mk hG1
  replace hc := Hid.mk hc
  replace hpure := Hid.mk hpure
  repeat first | refine OP ?_ | refine SK ?_ | refine OPN ?_ | refine OM ?_ | refine SM ?_ | refine OMN ?_ | refine WM.nil ?_ | refine OQ ?_ | refine SQ ?_ | refine TH ?_ | refine WR.nil ?_ | refine WQ.nil ?_ | refine W.seq ?_ | refine W.region ?_ | refine DR ?_ | refine IFT ?_ | refine IFF ?_ | refine W.skip ?_ | refine W.block ?_ | refine W.exit ?_ | refine W.ret ?_ | (simp only [tN, tR, tE, rN, rR, rE, xN, xR, xE, reduceIte]) | refine DN ?_
  refine CV (szPuzzle_fn G r l 1048576 hr hl hc.out (by omega) (by omega)) ?_
  by_cases c1 : szPz r l 1048576 < 0
  · repeat first | refine OP ?_ | refine SK ?_ | refine OPN ?_ | refine OM ?_ | refine SM ?_ | refine OMN ?_ | refine WM.nil ?_ | refine OQ ?_ | refine SQ ?_ | refine TH ?_ | refine WR.nil ?_ | refine WQ.nil ?_ | refine W.seq ?_ | refine W.region ?_ | refine DR ?_ | refine IFT ?_ | refine IFF ?_ | refine W.skip ?_ | refine W.block ?_ | refine W.exit ?_ | refine W.ret ?_ | (simp only [tN, tR, tE, rN, rR, rE, xN, xR, xE, reduceIte]) | refine DN ?_
    simp [retA, backA]
  · obtain ⟨g1, g2, g3, g4, g5⟩ := szPz_le (Int.le_refl _) c1
    replace g3 := Hid.mk g3
    repeat first | refine OP ?_ | refine SK ?_ | refine OPN ?_ | refine OM ?_ | refine SM ?_ | refine OMN ?_ | refine WM.nil ?_ | refine OQ ?_ | refine SQ ?_ | refine TH ?_ | refine WR.nil ?_ | refine WQ.nil ?_ | refine W.seq ?_ | refine W.region ?_ | refine DR ?_ | refine IFT ?_ | refine IFF ?_ | refine W.skip ?_ | refine W.block ?_ | refine W.exit ?_ | refine W.ret ?_ | (simp only [tN, tR, tE, rN, rR, rE, xN, xR, xE, reduceIte]) | refine DN ?_
    refine CV (szPlacement_fn G k s _ hs g4 g5) ?_
    by_cases c2 : szN s.length (szPz r l 1048576) < 0
    · repeat first | refine OP ?_ | refine SK ?_ | refine OPN ?_ | refine OM ?_ | refine SM ?_ | refine OMN ?_ | refine WM.nil ?_ | refine OQ ?_ | refine SQ ?_ | refine TH ?_ | refine WR.nil ?_ | refine WQ.nil ?_ | refine W.seq ?_ | refine W.region ?_ | refine DR ?_ | refine IFT ?_ | refine IFF ?_ | refine W.skip ?_ | refine W.block ?_ | refine W.exit ?_ | refine W.ret ?_ | (simp only [tN, tR, tE, rN, rR, rE, xN, xR, xE, reduceIte]) | refine DN ?_
      simp [retA, backA]
    · obtain ⟨g6, _, _⟩ := szN_le c2
      have hr9 : r.length < 1000000000 := by omega
      have hl9 : l.length < 1000000000 := by omega
      have hs9 : s.length < 1000000000 := by omega
      have hc9 : ∀ p ∈ l, p.cs.length < 1000000000 := fun p hp => by have := g3.out p hp; omega
      have hp := hpure.out hr9 hl9 hs9 hc9
      replace hc9 := Hid.mk hc9
      generalize hb : (puzzleI r l && placeI r l k s) = bi at hp
      replace hb := Hid.mk hb
      replace hp := Hid.mk hp
      clear g1 g2 g4 g5 g6
      repeat first | refine OP ?_ | refine SK ?_ | refine OPN ?_ | refine OM ?_ | refine SM ?_ | refine OMN ?_ | refine WM.nil ?_ | refine OQ ?_ | refine SQ ?_ | refine TH ?_ | refine WR.nil ?_ | refine WQ.nil ?_ | refine W.seq ?_ | refine W.region ?_ | refine DR ?_ | refine IFT ?_ | refine IFF ?_ | refine W.skip ?_ | refine W.block ?_ | refine W.exit ?_ | refine W.ret ?_ | (simp only [tN, tR, tE, rN, rR, rE, xN, xR, xE, reduceIte]) | refine DN ?_
      refine CQ (toPuzzle_fn G r l hr9 hl9 hc9.out) ?_
      repeat first | refine OP ?_ | refine SK ?_ | refine OPN ?_ | refine OM ?_ | refine SM ?_ | refine OMN ?_ | refine WM.nil ?_ | refine OQ ?_ | refine SQ ?_ | refine TH ?_ | refine WR.nil ?_ | refine WQ.nil ?_ | refine W.seq ?_ | refine W.region ?_ | refine DR ?_ | refine IFT ?_ | refine IFF ?_ | refine W.skip ?_ | refine W.block ?_ | refine W.exit ?_ | refine W.ret ?_ | (simp only [tN, tR, tE, rN, rR, rE, xN, xR, xE, reduceIte]) | refine DN ?_
      refine CQ (toPlacement_fn G k s hs9) ?_
      repeat first | refine OP ?_ | refine SK ?_ | refine OPN ?_ | refine OM ?_ | refine SM ?_ | refine OMN ?_ | refine WM.nil ?_ | refine OQ ?_ | refine SQ ?_ | refine TH ?_ | refine WR.nil ?_ | refine WQ.nil ?_ | refine W.seq ?_ | refine W.region ?_ | refine DR ?_ | refine IFT ?_ | refine IFF ?_ | refine W.skip ?_ | refine W.block ?_ | refine W.exit ?_ | refine W.ret ?_ | (simp only [tN, tR, tE, rN, rR, rE, xN, xR, xE, reduceIte]) | refine DN ?_
      refine CQ (specIsPlacement_fn G r l k s hr9 hl9 hs9 hc9.out) ?_
      rw [← hp.out]
      repeat first | refine OP ?_ | refine SK ?_ | refine OPN ?_ | refine OM ?_ | refine SM ?_ | refine OMN ?_ | refine WM.nil ?_ | refine OQ ?_ | refine SQ ?_ | refine TH ?_ | refine WR.nil ?_ | refine WQ.nil ?_ | refine W.seq ?_ | refine W.region ?_ | refine DR ?_ | refine IFT ?_ | refine IFF ?_ | refine W.skip ?_ | refine W.block ?_ | refine W.exit ?_ | refine W.ret ?_ | (simp only [tN, tR, tE, rN, rR, rE, xN, xR, xE, reduceIte]) | refine DN ?_
      refine CV (toPuzzle_fn G r l hr9 hl9 hc9.out) ?_
      repeat first | refine OP ?_ | refine SK ?_ | refine OPN ?_ | refine OM ?_ | refine SM ?_ | refine OMN ?_ | refine WM.nil ?_ | refine OQ ?_ | refine SQ ?_ | refine TH ?_ | refine WR.nil ?_ | refine WQ.nil ?_ | refine W.seq ?_ | refine W.region ?_ | refine DR ?_ | refine IFT ?_ | refine IFF ?_ | refine W.skip ?_ | refine W.block ?_ | refine W.exit ?_ | refine W.ret ?_ | (simp only [tN, tR, tE, rN, rR, rE, xN, xR, xE, reduceIte]) | refine DN ?_
      refine CV (toPlacement_fn G k s hs9) ?_
      repeat first | refine OP ?_ | refine SK ?_ | refine OPN ?_ | refine OM ?_ | refine SM ?_ | refine OMN ?_ | refine WM.nil ?_ | refine OQ ?_ | refine SQ ?_ | refine TH ?_ | refine WR.nil ?_ | refine WQ.nil ?_ | refine W.seq ?_ | refine W.region ?_ | refine DR ?_ | refine IFT ?_ | refine IFF ?_ | refine W.skip ?_ | refine W.block ?_ | refine W.exit ?_ | refine W.ret ?_ | (simp only [tN, tR, tE, rN, rR, rE, xN, xR, xE, reduceIte]) | refine DN ?_
      refine CV (implIsPlacement_fn G hG.out hG1.out r l k s hr9 hl9 hs9 hc9.out) ?_
      rw [hb.out]
      have hbb : (bi != bi) = false := by cases bi <;> rfl
      repeat first | refine OP ?_ | refine SK ?_ | refine OPN ?_ | refine OM ?_ | refine SM ?_ | refine OMN ?_ | refine WM.nil ?_ | refine OQ ?_ | refine SQ ?_ | refine TH ?_ | refine WR.nil ?_ | refine WQ.nil ?_ | refine W.seq ?_ | refine W.region ?_ | refine DR ?_ | refine IFT ?_ | refine IFF ?_ | refine W.skip ?_ | refine W.block ?_ | refine W.exit ?_ | refine W.ret ?_ | (simp only [tN, tR, tE, rN, rR, rE, xN, xR, xE, reduceIte]) | refine DN ?_
      refine CQ (toPuzzle_fn G r l hr9 hl9 hc9.out) ?_
      repeat first | refine OP ?_ | refine SK ?_ | refine OPN ?_ | refine OM ?_ | refine SM ?_ | refine OMN ?_ | refine WM.nil ?_ | refine OQ ?_ | refine SQ ?_ | refine TH ?_ | refine WR.nil ?_ | refine WQ.nil ?_ | refine W.seq ?_ | refine W.region ?_ | refine DR ?_ | refine IFT ?_ | refine IFF ?_ | refine W.skip ?_ | refine W.block ?_ | refine W.exit ?_ | refine W.ret ?_ | (simp only [tN, tR, tE, rN, rR, rE, xN, xR, xE, reduceIte]) | refine DN ?_
      refine CQ (eqPuzzle_fn G r l hr9 hl9 hc9.out) ?_
      repeat first | refine OP ?_ | refine SK ?_ | refine OPN ?_ | refine OM ?_ | refine SM ?_ | refine OMN ?_ | refine WM.nil ?_ | refine OQ ?_ | refine SQ ?_ | refine TH ?_ | refine WR.nil ?_ | refine WQ.nil ?_ | refine W.seq ?_ | refine W.region ?_ | refine DR ?_ | refine IFT ?_ | refine IFF ?_ | refine W.skip ?_ | refine W.block ?_ | refine W.exit ?_ | refine W.ret ?_ | (simp only [tN, tR, tE, rN, rR, rE, xN, xR, xE, reduceIte]) | refine DN ?_
      refine CQ (toPlacement_fn G k s hs9) ?_
      repeat first | refine OP ?_ | refine SK ?_ | refine OPN ?_ | refine OM ?_ | refine SM ?_ | refine OMN ?_ | refine WM.nil ?_ | refine OQ ?_ | refine SQ ?_ | refine TH ?_ | refine WR.nil ?_ | refine WQ.nil ?_ | refine W.seq ?_ | refine W.region ?_ | refine DR ?_ | refine IFT ?_ | refine IFF ?_ | refine W.skip ?_ | refine W.block ?_ | refine W.exit ?_ | refine W.ret ?_ | (simp only [tN, tR, tE, rN, rR, rE, xN, xR, xE, reduceIte]) | refine DN ?_
      refine CQ (eqPlacement_fn G k s hs9) ?_
      repeat first | refine OP ?_ | refine SK ?_ | refine OPN ?_ | refine OM ?_ | refine SM ?_ | refine OMN ?_ | refine WM.nil ?_ | refine OQ ?_ | refine SQ ?_ | refine TH ?_ | refine WR.nil ?_ | refine WQ.nil ?_ | refine W.seq ?_ | refine W.region ?_ | refine DR ?_ | refine IFT ?_ | refine IFF ?_ | refine W.skip ?_ | refine W.block ?_ | refine W.exit ?_ | refine W.ret ?_ | (simp only [tN, tR, tE, rN, rR, rE, xN, xR, xE, reduceIte]) | refine DN ?_
      simp [retA, backA]
end Go.Proofs
end
