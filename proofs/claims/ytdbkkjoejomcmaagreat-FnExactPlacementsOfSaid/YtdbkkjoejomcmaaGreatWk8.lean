/- Walks: What is a placement. No condition. | Whether a list of numbers holds one, whether two have one in common; lists and placements compared. No condition. | Lists compared as the library does it; placements compared. No condition. -/
import Derived.Test.YtdbkkjoejomcmaaGreatBO
import Derived.Test.YtdbkkjoejomcmaaGreatWk7
import Derived.Test.YtdbkkjoejomcmaaGreatWk2
import Derived.Test.YtdbkkjoejomcmaaGreatBC
import Derived.Test.YtdbkkjoejomcmaaGreatWk1
set_option linter.unusedVariables false
set_option linter.unusedSimpArgs false
section
open Go Go.Big
namespace Go.Proofs
set_option maxHeartbeats 2000000
theorem inc_mem {s : List Int} {m : Int} (h : inc s m = true) : ∀ k ∈ s, 0 ≤ k ∧ k ≤ m := by
  intro k hk
  obtain ⟨i, hi, rfl⟩ := List.getElem_of_mem hk
  unfold inc at h
  have := List.all_eq_true.mp h i (List.mem_range.mpr hi)
  unfold incAt at this
  simp only [List.getD_eq_getElem?_getD, List.getElem?_eq_getElem hi, Option.getD_some, Bool.and_eq_true, decide_eq_true_eq] at this
  exact this.1
theorem pickM_len (l : List (Int × Int)) (s : List Int) : (pickM l s).length = s.length := by simp [pickM]
def pc0 : PieceM := ⟨[], 0, false⟩
def ownM (r : List (Int × Int)) (s : List Int) : Shape := normM (pickM r s)
theorem ownM_len (r : List (Int × Int)) (s : List Int) : (ownM r s).length = s.length := by unfold ownM; rw [normM_len, pickM_len]
def fitS (p : PieceM) (own : Shape) : Bool := (formsP p).any fun f => cmpM f own == 0
def fitI (p : PieceM) (own : Shape) : Bool := (formsI p).any fun f => decide (f = own)
theorem l12Form_fn (G : Gv) (r : List (Int × Int)) (l : List PieceM) (k : Nat) (s : List Int) (p : PieceM) (hp : l[k]? = some p) (hp0 : 0 < p.cs.length) (hpl : p.cs.length < 1000000000) (hr : r.length < 1000000000) (hs : s.length < 1000000000) (hs0 : 0 < s.length) (hk : ∀ k ∈ s, 0 ≤ k ∧ k < r.length) :
    Gives Tryz.prog G 141 [.ag [.sl 0 (cells r), .sl 0 (pieces l)], .i .i64 k, .sl 0 (ints s)] (.b (fitS p (ownM r s))) := by
  refine .of (.body Tryz.func141 rfl (by simp [Tryz.ntmps141]) ?_)
  rw [Tryz.ntmps141, Tryz.results141]
  have hrow := pieces_at hp
  replace hk := Hid.mk hk
  repeat first | refine OP ?_ | refine SK ?_ | refine OPN ?_ | refine OM ?_ | refine SM ?_ | refine OMN ?_ | refine WM.nil ?_ | refine OQ ?_ | refine SQ ?_ | refine TH ?_ | refine WR.nil ?_ | refine WQ.nil ?_ | refine W.seq ?_ | refine W.region ?_ | refine DR ?_ | refine IFT ?_ | refine IFF ?_ | refine W.skip ?_ | refine W.block ?_ | refine W.exit ?_ | refine W.ret ?_ | (simp only [tN, tR, tE, rN, rR, rE, xN, xR, xE, reduceIte]) | refine DN ?_
  refine CV (l10Cells_fn G r s hr hs hk.out) ?_
  repeat first | refine OP ?_ | refine SK ?_ | refine OPN ?_ | refine OM ?_ | refine SM ?_ | refine OMN ?_ | refine WM.nil ?_ | refine OQ ?_ | refine SQ ?_ | refine TH ?_ | refine WR.nil ?_ | refine WQ.nil ?_ | refine W.seq ?_ | refine W.region ?_ | refine DR ?_ | refine IFT ?_ | refine IFF ?_ | refine W.skip ?_ | refine W.block ?_ | refine W.exit ?_ | refine W.ret ?_ | (simp only [tN, tR, tE, rN, rR, rE, xN, xR, xE, reduceIte]) | refine DN ?_
  refine CV (l02Normal_fn G (pickM r s) (by rw [pickM_len]; exact hs0) (by rw [pickM_len]; exact hs)) ?_
  repeat first | refine OP ?_ | refine SK ?_ | refine OPN ?_ | refine OM ?_ | refine SM ?_ | refine OMN ?_ | refine WM.nil ?_ | refine OQ ?_ | refine SQ ?_ | refine TH ?_ | refine WR.nil ?_ | refine WQ.nil ?_ | refine W.seq ?_ | refine W.region ?_ | refine DR ?_ | refine IFT ?_ | refine IFF ?_ | refine W.skip ?_ | refine W.block ?_ | refine W.exit ?_ | refine W.ret ?_ | (simp only [tN, tR, tE, rN, rR, rE, xN, xR, xE, reduceIte]) | refine DN ?_
  refine CV (l11Forms_fn G p hp0 hpl) ?_
  have how : normM (pickM r s) = ownM r s := rfl
  have hol : (ownM r s).length < 1000000000 := by rw [ownM_len]; exact hs
  rw [how]
  generalize ownM r s = own at hol
  unfold fitS
  obtain ⟨a1, a2⟩ := formsP_ok p
  have hal := shapesR_len (formsP p)
  replace a2 := Hid.mk a2
  generalize formsP p = fa at *
  clear how
  repeat first | refine OP ?_ | refine SK ?_ | refine OPN ?_ | refine OM ?_ | refine SM ?_ | refine OMN ?_ | refine WM.nil ?_ | refine OQ ?_ | refine SQ ?_ | refine TH ?_ | refine WR.nil ?_ | refine WQ.nil ?_ | refine W.seq ?_ | refine W.region ?_ | refine DR ?_ | refine IFT ?_ | refine IFF ?_ | refine W.skip ?_ | refine W.block ?_ | refine W.exit ?_ | refine W.ret ?_ | (simp only [tN, tR, tE, rN, rR, rE, xN, xR, xE, reduceIte]) | refine DN ?_
  refine .loop (.inv (fun d E H n' => ∃ i : Nat, i + d = fa.length ∧ E 7 = .sl 1 (cells own) ∧ E 8 = .sl 1 (shapesR fa) ∧ E 9 = .i .i64 i ∧ (fa.take i).any (fun f => cmpM f own == 0) = false) fa.length ?_ ?_)
  · exact ⟨0, by omega, by simp [setF_if, argE], by simp [setF_if, argE], by simp [setF_if, argE], by simp⟩
  rintro d E H n' ⟨i, hi, h7, h8, h9, hany⟩
  replace hany := Hid.mk hany
  by_cases c : (i : Int) < fa.length
  · have hw_i : IntKind.i64.wrap ((i : Int) + 1) = (i : Int) + 1 := wr64 (by omega) (by omega)
    have cN : i < fa.length := by omega
    have hr := shapesR_at (ls := fa) (i := i) cN
    have hta := take_any (p := fun f => cmpM f own == 0) cN
    have hat := any_at (p := fun f => cmpM f own == 0) cN
    have hxl : (fa.getD i []).length < 1000000000 := by rw [a2.out _ (by rw [List.getD_eq_getElem?_getD, List.getElem?_eq_getElem cN]; exact List.getElem_mem _)]; exact hpl
    replace hta := Hid.mk hta
    replace hat := Hid.mk hat
    generalize fa.getD i [] = x at hr hta hat hxl
    repeat first | refine OP ?_ | refine SK ?_ | refine OPN ?_ | refine OM ?_ | refine SM ?_ | refine OMN ?_ | refine WM.nil ?_ | refine OQ ?_ | refine SQ ?_ | refine TH ?_ | refine WR.nil ?_ | refine WQ.nil ?_ | refine W.seq ?_ | refine W.region ?_ | refine DR ?_ | refine IFT ?_ | refine IFF ?_ | refine W.skip ?_ | refine W.block ?_ | refine W.exit ?_ | refine W.ret ?_ | (simp only [tN, tR, tE, rN, rR, rE, xN, xR, xE, reduceIte]) | refine DN ?_
    refine CV (specCompareShapes_fn G x own hxl hol) ?_
    by_cases cc : (cmpM x own == 0) = true
    · repeat first | refine OP ?_ | refine SK ?_ | refine OPN ?_ | refine OM ?_ | refine SM ?_ | refine OMN ?_ | refine WM.nil ?_ | refine OQ ?_ | refine SQ ?_ | refine TH ?_ | refine WR.nil ?_ | refine WQ.nil ?_ | refine W.seq ?_ | refine W.region ?_ | refine DR ?_ | refine IFT ?_ | refine IFF ?_ | refine W.skip ?_ | refine W.block ?_ | refine W.exit ?_ | refine W.ret ?_ | (simp only [tN, tR, tE, rN, rR, rE, xN, xR, xE, reduceIte]) | refine DN ?_
      simp [retA, backA, hat.out cc]
    · simp only [Bool.not_eq_true] at cc
      repeat first | refine OP ?_ | refine SK ?_ | refine OPN ?_ | refine OM ?_ | refine SM ?_ | refine OMN ?_ | refine WM.nil ?_ | refine OQ ?_ | refine SQ ?_ | refine TH ?_ | refine WR.nil ?_ | refine WQ.nil ?_ | refine W.seq ?_ | refine W.region ?_ | refine DR ?_ | refine IFT ?_ | refine IFF ?_ | refine W.skip ?_ | refine W.block ?_ | refine W.exit ?_ | refine W.ret ?_ | (simp only [tN, tR, tE, rN, rR, rE, xN, xR, xE, reduceIte]) | refine DN ?_
      exact ⟨fa.length - (i + 1), by omega, i + 1, by omega, by simp [setF_if, *], by simp [setF_if, *], by simp [setF_if, *], by rw [hta.out, hany.out, cc]; rfl⟩
  · have e' : i = fa.length := by omega
    rw [e', List.take_length] at hany
    repeat first | refine OP ?_ | refine SK ?_ | refine OPN ?_ | refine OM ?_ | refine SM ?_ | refine OMN ?_ | refine WM.nil ?_ | refine OQ ?_ | refine SQ ?_ | refine TH ?_ | refine WR.nil ?_ | refine WQ.nil ?_ | refine W.seq ?_ | refine W.region ?_ | refine DR ?_ | refine IFT ?_ | refine IFF ?_ | refine W.skip ?_ | refine W.block ?_ | refine W.exit ?_ | refine W.ret ?_ | (simp only [tN, tR, tE, rN, rR, rE, xN, xR, xE, reduceIte]) | refine DN ?_
    simp [retA, backA, hany.out]
def placeS (r : List (Int × Int)) (l : List PieceM) (k : Int) (s : List Int) : Bool := (decide (k ≥ 0) && decide (k ≤ (l.length : Int) - 1)) && decide ((s.length : Int) > 0) && inc s ((r.length : Int) - 1) && fitS (l.getD k.toNat pc0) (ownM r s)
def placeI (r : List (Int × Int)) (l : List PieceM) (k : Int) (s : List Int) : Bool := (decide (k ≥ 0) && decide (k ≤ (l.length : Int) - 1)) && decide ((s.length : Int) > 0) && inc s ((r.length : Int) - 1) && fitI (l.getD k.toNat pc0) (ownM r s)
theorem l12Is_fn (G : Gv) (r : List (Int × Int)) (l : List PieceM) (k : Int) (s : List Int) (hr1 : 1 ≤ r.length) (hr : r.length < 1000000000) (hl1 : 1 ≤ l.length) (hl : l.length < 1000000000) (hs : s.length < 1000000000) (hp0 : ∀ p ∈ l, 0 < p.cs.length) (hpl : ∀ p ∈ l, p.cs.length < 1000000000) :
    Gives Tryz.prog G 85 [.ag [.sl 0 (cells r), .sl 0 (pieces l)], .ag [.i .i64 k, .sl 0 (ints s)]] (.b (placeS r l k s)) := by
  refine .of (.body Tryz.func85 rfl (by simp [Tryz.ntmps85]) ?_)
  rw [Tryz.ntmps85, Tryz.results85]
  have hlen := pieces_len l
  have hsl := ints_len s
  have hrl := cells_len r
  have hw1 : IntKind.i64.wrap ((l.length : Int) - 1) = (l.length : Int) - 1 := wr64 (by omega) (by omega)
  have hw2 : IntKind.i64.wrap ((r.length : Int) - 1) = (r.length : Int) - 1 := wr64 (by omega) (by omega)
  replace hp0 := Hid.mk hp0
  replace hpl := Hid.mk hpl
  repeat first | refine OP ?_ | refine SK ?_ | refine OPN ?_ | refine OM ?_ | refine SM ?_ | refine OMN ?_ | refine WM.nil ?_ | refine OQ ?_ | refine SQ ?_ | refine TH ?_ | refine WR.nil ?_ | refine WQ.nil ?_ | refine W.seq ?_ | refine W.region ?_ | refine DR ?_ | refine IFT ?_ | refine IFF ?_ | refine W.skip ?_ | refine W.block ?_ | refine W.exit ?_ | refine W.ret ?_ | (simp only [tN, tR, tE, rN, rR, rE, xN, xR, xE, reduceIte]) | refine DN ?_
  refine CV (l01In_fn G _ _ _) ?_
  by_cases c1 : (decide (k ≥ 0) && decide (k ≤ (l.length : Int) - 1)) = true
  · by_cases c2 : (s.length : Int) > 0
    · repeat first | refine OP ?_ | refine SK ?_ | refine OPN ?_ | refine OM ?_ | refine SM ?_ | refine OMN ?_ | refine WM.nil ?_ | refine OQ ?_ | refine SQ ?_ | refine TH ?_ | refine WR.nil ?_ | refine WQ.nil ?_ | refine W.seq ?_ | refine W.region ?_ | refine DR ?_ | refine IFT ?_ | refine IFF ?_ | refine W.skip ?_ | refine W.block ?_ | refine W.exit ?_ | refine W.ret ?_ | (simp only [tN, tR, tE, rN, rR, rE, xN, xR, xE, reduceIte]) | refine DN ?_
      refine CV (l01Rises_fn G s _ (by omega)) ?_
      rw [hw2]
      by_cases c3 : inc s ((r.length : Int) - 1) = true
      · have hmem := inc_mem c3
        replace hmem := Hid.mk hmem
        obtain ⟨k0, k1⟩ : 0 ≤ k ∧ k ≤ (l.length : Int) - 1 := by simpa using c1
        have hkl : k.toNat < l.length := by omega
        obtain ⟨p, hp⟩ : ∃ p, l[k.toNat]? = some p := ⟨_, List.getElem?_eq_getElem hkl⟩
        have hkk : ((k.toNat : Nat) : Int) = k := Int.toNat_of_nonneg k0
        have hf := l12Form_fn G r l k.toNat s p hp (hp0.out p (List.mem_of_getElem? hp)) (hpl.out p (List.mem_of_getElem? hp)) hr hs (by omega) (fun x hx => by have := hmem.out x hx; omega)
        rw [hkk] at hf
        have hpd : l.getD k.toNat pc0 = p := by rw [List.getD_eq_getElem?_getD, hp]; rfl
        replace hkk := Hid.mk hkk
        repeat first | refine OP ?_ | refine SK ?_ | refine OPN ?_ | refine OM ?_ | refine SM ?_ | refine OMN ?_ | refine WM.nil ?_ | refine OQ ?_ | refine SQ ?_ | refine TH ?_ | refine WR.nil ?_ | refine WQ.nil ?_ | refine W.seq ?_ | refine W.region ?_ | refine DR ?_ | refine IFT ?_ | refine IFF ?_ | refine W.skip ?_ | refine W.block ?_ | refine W.exit ?_ | refine W.ret ?_ | (simp only [tN, tR, tE, rN, rR, rE, xN, xR, xE, reduceIte]) | refine DN ?_
        refine CV hf ?_
        have : placeS r l k s = fitS p (ownM r s) := by unfold placeS; rw [c1, c3, hpd]; simp; omega
        clear hf
        repeat first | refine OP ?_ | refine SK ?_ | refine OPN ?_ | refine OM ?_ | refine SM ?_ | refine OMN ?_ | refine WM.nil ?_ | refine OQ ?_ | refine SQ ?_ | refine TH ?_ | refine WR.nil ?_ | refine WQ.nil ?_ | refine W.seq ?_ | refine W.region ?_ | refine DR ?_ | refine IFT ?_ | refine IFF ?_ | refine W.skip ?_ | refine W.block ?_ | refine W.exit ?_ | refine W.ret ?_ | (simp only [tN, tR, tE, rN, rR, rE, xN, xR, xE, reduceIte]) | refine DN ?_
        simp [retA, backA, this]
      · have : placeS r l k s = false := by
          simp only [Bool.not_eq_true] at c3
          unfold placeS; rw [c3]; simp
        repeat first | refine OP ?_ | refine SK ?_ | refine OPN ?_ | refine OM ?_ | refine SM ?_ | refine OMN ?_ | refine WM.nil ?_ | refine OQ ?_ | refine SQ ?_ | refine TH ?_ | refine WR.nil ?_ | refine WQ.nil ?_ | refine W.seq ?_ | refine W.region ?_ | refine DR ?_ | refine IFT ?_ | refine IFF ?_ | refine W.skip ?_ | refine W.block ?_ | refine W.exit ?_ | refine W.ret ?_ | (simp only [tN, tR, tE, rN, rR, rE, xN, xR, xE, reduceIte]) | refine DN ?_
        simp [retA, backA, this]
    · have : placeS r l k s = false := by
        have hcs : decide ((s.length : Int) > 0) = false := decide_eq_false c2
        unfold placeS; rw [hcs]; simp
      repeat first | refine OP ?_ | refine SK ?_ | refine OPN ?_ | refine OM ?_ | refine SM ?_ | refine OMN ?_ | refine WM.nil ?_ | refine OQ ?_ | refine SQ ?_ | refine TH ?_ | refine WR.nil ?_ | refine WQ.nil ?_ | refine W.seq ?_ | refine W.region ?_ | refine DR ?_ | refine IFT ?_ | refine IFF ?_ | refine W.skip ?_ | refine W.block ?_ | refine W.exit ?_ | refine W.ret ?_ | (simp only [tN, tR, tE, rN, rR, rE, xN, xR, xE, reduceIte]) | refine DN ?_
      simp [retA, backA, this]
  · have : placeS r l k s = false := by
      simp only [Bool.not_eq_true] at c1
      unfold placeS; rw [c1]; rfl
    repeat first | refine OP ?_ | refine SK ?_ | refine OPN ?_ | refine OM ?_ | refine SM ?_ | refine OMN ?_ | refine WM.nil ?_ | refine OQ ?_ | refine SQ ?_ | refine TH ?_ | refine WR.nil ?_ | refine WQ.nil ?_ | refine W.seq ?_ | refine W.region ?_ | refine DR ?_ | refine IFT ?_ | refine IFF ?_ | refine W.skip ?_ | refine W.block ?_ | refine W.exit ?_ | refine W.ret ?_ | (simp only [tN, tR, tE, rN, rR, rE, xN, xR, xE, reduceIte]) | refine DN ?_
    simp [retA, backA, this]
theorem puzzleS_ok {r : List (Int × Int)} {l : List PieceM} (h : puzzleS r l = true) : 1 ≤ r.length ∧ 1 ≤ l.length ∧ ∀ p ∈ l, 0 < p.cs.length := by
  unfold puzzleS at h
  simp only [Bool.and_eq_true, decide_eq_true_eq, List.all_eq_true, List.mem_range] at h
  obtain ⟨⟨h1, h2, h3⟩, h4⟩ := h
  have hr : shapeM r = true := by unfold regionS at h1; simp only [Bool.and_eq_true] at h1; exact h1.1
  refine ⟨shapeM_pos hr, by omega, fun p hp => ?_⟩
  obtain ⟨i, hi, rfl⟩ := List.getElem_of_mem hp
  have := (h4 i hi).1
  rw [List.getD_eq_getElem?_getD, List.getElem?_eq_getElem hi] at this
  exact pieceS_pos this
theorem puzzleI_ok {r : List (Int × Int)} {l : List PieceM} (h : puzzleI r l = true) : 1 ≤ r.length ∧ 1 ≤ l.length ∧ ∀ p ∈ l, 0 < p.cs.length := by
  unfold puzzleI at h
  simp only [Bool.and_eq_true, decide_eq_true_eq, List.all_eq_true, List.mem_range] at h
  obtain ⟨⟨h1, h2, h3⟩, h4⟩ := h
  refine ⟨shapeM_pos (regionM_shape h1), by omega, fun p hp => ?_⟩
  obtain ⟨i, hi, rfl⟩ := List.getElem_of_mem hp
  have := (h4 i hi).1
  rw [List.getD_eq_getElem?_getD, List.getElem?_eq_getElem hi] at this
  exact pieceM_pos this
theorem isPl1_fn (G : Gv) (a own : Shape) (o : Nat) (T : TypeId) (H : Heap) (n tg ta : Nat) (ho : o < n) (hH : H o = some (.box T [.sl tg (cells own)])) (ha : a.length < 1000000000) (hb : own.length < 1000000000) :
    WC Tryz.prog G 149 [.sl ta (cells a), .ptr o 0 0 0] H n (fun r H' n' => r = .b (decide (a = own)) ∧ n ≤ n' ∧ H' = H) := by
  refine (.body Tryz.func149 rfl (by simp [Tryz.ntmps149]) ?_)
  rw [Tryz.ntmps149, Tryz.results149]
  repeat first | refine OP ?_ | refine SK ?_ | refine OPN ?_ | refine OM ?_ | refine SM ?_ | refine OMN ?_ | refine WM.nil ?_ | refine OQ ?_ | refine SQ ?_ | refine TH ?_ | refine WR.nil ?_ | refine WQ.nil ?_ | refine W.seq ?_ | refine W.region ?_ | refine DR ?_ | refine IFT ?_ | refine IFF ?_ | refine W.skip ?_ | refine W.block ?_ | refine W.exit ?_ | refine W.ret ?_ | (simp only [tN, tR, tE, rN, rR, rE, xN, xR, xE, reduceIte]) | refine DN ?_
  refine CV (equal_fn G a own ha hb) ?_
  repeat first | refine OP ?_ | refine SK ?_ | refine OPN ?_ | refine OM ?_ | refine SM ?_ | refine OMN ?_ | refine WM.nil ?_ | refine OQ ?_ | refine SQ ?_ | refine TH ?_ | refine WR.nil ?_ | refine WQ.nil ?_ | refine W.seq ?_ | refine W.region ?_ | refine DR ?_ | refine IFT ?_ | refine IFF ?_ | refine W.skip ?_ | refine W.block ?_ | refine W.exit ?_ | refine W.ret ?_ | (simp only [tN, tR, tE, rN, rR, rE, xN, xR, xE, reduceIte]) | refine DN ?_
  refine ⟨by simp [retA, setF_if], by omega, ?_⟩
  first | rfl | trivial
theorem isPlacement_fn (G : Gv) (hG : ∀ f args H n r H' n', sortsG f args H n r H' n' → G f args H n r H' n') (hG1 : ∀ f args H n r H' n', sortsG1 f args H n r H' n' → G f args H n r H' n') (r : List (Int × Int)) (l : List PieceM) (k : Int) (s : List Int) (hr1 : 1 ≤ r.length) (hr : r.length < 1000000000) (hl1 : 1 ≤ l.length) (hl : l.length < 1000000000) (hs : s.length < 1000000000) (hp0 : ∀ p ∈ l, 0 < p.cs.length) (hpl : ∀ p ∈ l, p.cs.length < 1000000000) :
    Gives Tryz.prog G 89 [.ag [.sl 0 (cells r), .sl 0 (pieces l)], .ag [.i .i64 k, .sl 0 (ints s)]] (.b (placeI r l k s)) := by
  refine .of (.body Tryz.func89 rfl (by simp [Tryz.ntmps89]) ?_)
  rw [Tryz.ntmps89, Tryz.results89]
  replace hG := Hid.mk hG
  replace hG1 := Hid.mk hG1
  have hlen := pieces_len l
  have hsl := ints_len s
  have hrl := cells_len r
  have hw1 : IntKind.i64.wrap ((l.length : Int) - 1) = (l.length : Int) - 1 := wr64 (by omega) (by omega)
  have hw2 : IntKind.i64.wrap ((r.length : Int) - 1) = (r.length : Int) - 1 := wr64 (by omega) (by omega)
  replace hp0 := Hid.mk hp0
  replace hpl := Hid.mk hpl
  repeat first | refine OP ?_ | refine SK ?_ | refine OPN ?_ | refine OM ?_ | refine SM ?_ | refine OMN ?_ | refine WM.nil ?_ | refine OQ ?_ | refine SQ ?_ | refine TH ?_ | refine WR.nil ?_ | refine WQ.nil ?_ | refine W.seq ?_ | refine W.region ?_ | refine DR ?_ | refine IFT ?_ | refine IFF ?_ | refine W.skip ?_ | refine W.block ?_ | refine W.exit ?_ | refine W.ret ?_ | (simp only [tN, tR, tE, rN, rR, rE, xN, xR, xE, reduceIte]) | refine DN ?_
  refine CV (within_fn G _ _ _) ?_
  by_cases c1 : (decide (k ≥ 0) && decide (k ≤ (l.length : Int) - 1)) = true
  · by_cases c2 : ((s.length : Int) == 0) = true
    · have : placeI r l k s = false := by
        have : s.length = 0 := by simpa using c2
        unfold placeI; simp [this]
      repeat first | refine OP ?_ | refine SK ?_ | refine OPN ?_ | refine OM ?_ | refine SM ?_ | refine OMN ?_ | refine WM.nil ?_ | refine OQ ?_ | refine SQ ?_ | refine TH ?_ | refine WR.nil ?_ | refine WQ.nil ?_ | refine W.seq ?_ | refine W.region ?_ | refine DR ?_ | refine IFT ?_ | refine IFF ?_ | refine W.skip ?_ | refine W.block ?_ | refine W.exit ?_ | refine W.ret ?_ | (simp only [tN, tR, tE, rN, rR, rE, xN, xR, xE, reduceIte]) | refine DN ?_
      simp [retA, backA, this]
    · have hs0 : 0 < s.length := by
        have : ¬ s.length = 0 := by simpa using c2
        omega
      simp only [Bool.not_eq_true] at c2
      repeat first | refine OP ?_ | refine SK ?_ | refine OPN ?_ | refine OM ?_ | refine SM ?_ | refine OMN ?_ | refine WM.nil ?_ | refine OQ ?_ | refine SQ ?_ | refine TH ?_ | refine WR.nil ?_ | refine WQ.nil ?_ | refine W.seq ?_ | refine W.region ?_ | refine DR ?_ | refine IFT ?_ | refine IFF ?_ | refine W.skip ?_ | refine W.block ?_ | refine W.exit ?_ | refine W.ret ?_ | (simp only [tN, tR, tE, rN, rR, rE, xN, xR, xE, reduceIte]) | refine DN ?_
      refine CV (isIncreasing_fn G s _ (by omega)) ?_
      rw [hw2]
      by_cases c3 : inc s ((r.length : Int) - 1) = true
      · have hmem := inc_mem c3
        replace hmem := Hid.mk hmem
        obtain ⟨k0, k1⟩ : 0 ≤ k ∧ k ≤ (l.length : Int) - 1 := by simpa using c1
        have hkl : k.toNat < l.length := by omega
        obtain ⟨p, hp⟩ : ∃ p, l[k.toNat]? = some p := ⟨_, List.getElem?_eq_getElem hkl⟩
        have hpd : l.getD k.toNat pc0 = p := by rw [List.getD_eq_getElem?_getD, hp]; rfl
        have hrow := pieces_at hp
        have hpp0 := hp0.out p (List.mem_of_getElem? hp)
        have hppl := hpl.out p (List.mem_of_getElem? hp)
        have : placeI r l k s = fitI p (ownM r s) := by unfold placeI; rw [c1, c3, hpd]; simp; omega
        replace this := Hid.mk this
        replace hpd := Hid.mk hpd
        repeat first | refine OP ?_ | refine SK ?_ | refine OPN ?_ | refine OM ?_ | refine SM ?_ | refine OMN ?_ | refine WM.nil ?_ | refine OQ ?_ | refine SQ ?_ | refine TH ?_ | refine WR.nil ?_ | refine WQ.nil ?_ | refine W.seq ?_ | refine W.region ?_ | refine DR ?_ | refine IFT ?_ | refine IFF ?_ | refine W.skip ?_ | refine W.block ?_ | refine W.exit ?_ | refine W.ret ?_ | (simp only [tN, tR, tE, rN, rR, rE, xN, xR, xE, reduceIte]) | refine DN ?_
        refine CV (setToCells_fn G r s hr hs (fun x hx => by have := hmem.out x hx; omega)) ?_
        repeat first | refine OP ?_ | refine SK ?_ | refine OPN ?_ | refine OM ?_ | refine SM ?_ | refine OMN ?_ | refine WM.nil ?_ | refine OQ ?_ | refine SQ ?_ | refine TH ?_ | refine WR.nil ?_ | refine WQ.nil ?_ | refine W.seq ?_ | refine W.region ?_ | refine DR ?_ | refine IFT ?_ | refine IFF ?_ | refine W.skip ?_ | refine W.block ?_ | refine W.exit ?_ | refine W.ret ?_ | (simp only [tN, tR, tE, rN, rR, rE, xN, xR, xE, reduceIte]) | refine DN ?_
        refine CV (normal_fn G (pickM r s) (by rw [pickM_len]; exact hs0) (by rw [pickM_len]; exact hs)) ?_
        have how : normM (pickM r s) = ownM r s := rfl
        have hol : (ownM r s).length < 1000000000 := by rw [ownM_len]; exact hs
        rw [how]
        generalize ownM r s = own at hol this
        clear how
        repeat first | refine OP ?_ | refine SK ?_ | refine OPN ?_ | refine OM ?_ | refine SM ?_ | refine OMN ?_ | refine WM.nil ?_ | refine OQ ?_ | refine SQ ?_ | refine TH ?_ | refine WR.nil ?_ | refine WQ.nil ?_ | refine W.seq ?_ | refine W.region ?_ | refine DR ?_ | refine IFT ?_ | refine IFF ?_ | refine W.skip ?_ | refine W.block ?_ | refine W.exit ?_ | refine W.ret ?_ | (simp only [tN, tR, tE, rN, rR, rE, xN, xR, xE, reduceIte]) | refine DN ?_
        refine CV (formsOf_fn G hG.out hG1.out p hpp0 hppl) ?_
        obtain ⟨f1, f2⟩ := formsI_ok p
        replace f2 := Hid.mk f2
        repeat first | refine OP ?_ | refine SK ?_ | refine OPN ?_ | refine OM ?_ | refine SM ?_ | refine OMN ?_ | refine WM.nil ?_ | refine OQ ?_ | refine SQ ?_ | refine TH ?_ | refine WR.nil ?_ | refine WQ.nil ?_ | refine W.seq ?_ | refine W.region ?_ | refine DR ?_ | refine IFT ?_ | refine IFF ?_ | refine W.skip ?_ | refine W.block ?_ | refine W.exit ?_ | refine W.ret ?_ | (simp only [tN, tR, tE, rN, rR, rE, xN, xR, xE, reduceIte]) | refine DN ?_
        refine CI ?_
        refine (containsFunc_fn G _ _ _ _ 1 (fun a => decide (a = own)) (formsI p) ?_ (by kernel_rfl) (by omega) _ _ (Nat.le_refl _) (fun _ _ => rfl)).mono ?_
        · intro x hx H n hn hH
          refine (isPl1_fn G x own _ 32 H n 1 1 ?_ ?_ (by rw [f2.out x hx]; exact hppl) hol).mono ?_
          rotate_left
          · rw [hH _ ?_]
            · exact Heap.upd_same _ _ _
            · decide
          · rintro r H2 n2 ⟨h1, h2, rfl⟩
            exact ⟨h1, by omega, hH⟩
          · omega
        · rintro r2 H2 n2 ⟨rfl, hn2, hH2⟩
          replace hH2 := Hid.mk hH2
          repeat first | refine OP ?_ | refine SK ?_ | refine OPN ?_ | refine OM ?_ | refine SM ?_ | refine OMN ?_ | refine WM.nil ?_ | refine OQ ?_ | refine SQ ?_ | refine TH ?_ | refine WR.nil ?_ | refine WQ.nil ?_ | refine W.seq ?_ | refine W.region ?_ | refine DR ?_ | refine IFT ?_ | refine IFF ?_ | refine W.skip ?_ | refine W.block ?_ | refine W.exit ?_ | refine W.ret ?_ | (simp only [tN, tR, tE, rN, rR, rE, xN, xR, xE, reduceIte]) | refine DN ?_
          simp [retA, backA, setF_if, this.out, fitI]
      · have : placeI r l k s = false := by
          simp only [Bool.not_eq_true] at c3
          unfold placeI; rw [c3]; simp
        repeat first | refine OP ?_ | refine SK ?_ | refine OPN ?_ | refine OM ?_ | refine SM ?_ | refine OMN ?_ | refine WM.nil ?_ | refine OQ ?_ | refine SQ ?_ | refine TH ?_ | refine WR.nil ?_ | refine WQ.nil ?_ | refine W.seq ?_ | refine W.region ?_ | refine DR ?_ | refine IFT ?_ | refine IFF ?_ | refine W.skip ?_ | refine W.block ?_ | refine W.exit ?_ | refine W.ret ?_ | (simp only [tN, tR, tE, rN, rR, rE, xN, xR, xE, reduceIte]) | refine DN ?_
        simp [retA, backA, this]
  · have : placeI r l k s = false := by
      simp only [Bool.not_eq_true] at c1
      unfold placeI; rw [c1]; rfl
    repeat first | refine OP ?_ | refine SK ?_ | refine OPN ?_ | refine OM ?_ | refine SM ?_ | refine OMN ?_ | refine WM.nil ?_ | refine OQ ?_ | refine SQ ?_ | refine TH ?_ | refine WR.nil ?_ | refine WQ.nil ?_ | refine W.seq ?_ | refine W.region ?_ | refine DR ?_ | refine IFT ?_ | refine IFF ?_ | refine W.skip ?_ | refine W.block ?_ | refine W.exit ?_ | refine W.ret ?_ | (simp only [tN, tR, tE, rN, rR, rE, xN, xR, xE, reduceIte]) | refine DN ?_
    simp [retA, backA, this]
end Go.Proofs
end
section
open Go Go.Big
namespace Go.Proofs
set_option maxHeartbeats 2000000
theorem take_anyG {α : Type} {p : α → Bool} {l : List α} {i : Nat} {x : α} (h : l[i]? = some x) : (l.take (i + 1)).any p = ((l.take i).any p || p x) := by
  obtain ⟨hi, rfl⟩ := List.getElem?_eq_some_iff.mp h
  rw [List.take_succ_eq_append_getElem hi, List.any_append]; simp
theorem any_atG {α : Type} {p : α → Bool} {l : List α} {i : Nat} {x : α} (h : l[i]? = some x) (hp : p x = true) : l.any p = true :=
  List.any_eq_true.mpr ⟨x, List.mem_of_getElem? h, hp⟩
theorem ints_row {l : List Int} {i : Nat} {x : Int} (h : l[i]? = some x) : (ints l)[i]? = some [.i .i64 x] := by simp [ints, h]
def hasM (l : List Int) (x : Int) : Bool := l.any (· == x)
def overM (a b : List Int) : Bool := a.any fun x => hasM b x
theorem l01Has_fn (G : Gv) (l : List Int) (x : Int) (hl : l.length < 1000000000) : Gives Tryz.prog G 112 [.sl 0 (ints l), .i .i64 x] (.b (hasM l x)) := by
  refine .of (.body Tryz.func112 rfl (by simp [Tryz.ntmps112]) ?_)
  rw [Tryz.ntmps112, Tryz.results112]
  have hlen := ints_len l
  repeat first | refine OP ?_ | refine SK ?_ | refine OPN ?_ | refine OM ?_ | refine SM ?_ | refine OMN ?_ | refine WM.nil ?_ | refine OQ ?_ | refine SQ ?_ | refine TH ?_ | refine WR.nil ?_ | refine WQ.nil ?_ | refine W.seq ?_ | refine W.region ?_ | refine DR ?_ | refine IFT ?_ | refine IFF ?_ | refine W.skip ?_ | refine W.block ?_ | refine W.exit ?_ | refine W.ret ?_ | (simp only [tN, tR, tE, rN, rR, rE, xN, xR, xE, reduceIte]) | refine DN ?_
  refine .loop (.inv (fun d E H n' => ∃ i : Nat, i + d = l.length ∧ E 0 = .sl 0 (ints l) ∧ E 1 = .i .i64 x ∧ E 5 = .i .i64 i ∧ (l.take i).any (· == x) = false) l.length ?_ ?_)
  · exact ⟨0, by omega, by simp [setF_if, argE], by simp [setF_if, argE], by simp [setF_if, argE], by simp⟩
  rintro d E H n' ⟨i, hi, h0, h1, h5, hany⟩
  replace hany := Hid.mk hany
  by_cases c : (i : Int) < l.length
  · have hw_i : IntKind.i64.wrap ((i : Int) + 1) = (i : Int) + 1 := wr64 (by omega) (by omega)
    obtain ⟨y, hy⟩ : ∃ y, l[i]? = some y := ⟨_, List.getElem?_eq_getElem (by omega)⟩
    have hr := ints_row hy
    have hta := take_anyG (p := (· == x)) hy
    have hat := any_atG (p := (· == x)) hy
    replace hta := Hid.mk hta
    replace hat := Hid.mk hat
    replace hy := Hid.mk hy
    by_cases ce : (y == x) = true
    · repeat first | refine OP ?_ | refine SK ?_ | refine OPN ?_ | refine OM ?_ | refine SM ?_ | refine OMN ?_ | refine WM.nil ?_ | refine OQ ?_ | refine SQ ?_ | refine TH ?_ | refine WR.nil ?_ | refine WQ.nil ?_ | refine W.seq ?_ | refine W.region ?_ | refine DR ?_ | refine IFT ?_ | refine IFF ?_ | refine W.skip ?_ | refine W.block ?_ | refine W.exit ?_ | refine W.ret ?_ | (simp only [tN, tR, tE, rN, rR, rE, xN, xR, xE, reduceIte]) | refine DN ?_
      simp [retA, backA, hasM, hat.out ce]
    · repeat first | refine OP ?_ | refine SK ?_ | refine OPN ?_ | refine OM ?_ | refine SM ?_ | refine OMN ?_ | refine WM.nil ?_ | refine OQ ?_ | refine SQ ?_ | refine TH ?_ | refine WR.nil ?_ | refine WQ.nil ?_ | refine W.seq ?_ | refine W.region ?_ | refine DR ?_ | refine IFT ?_ | refine IFF ?_ | refine W.skip ?_ | refine W.block ?_ | refine W.exit ?_ | refine W.ret ?_ | (simp only [tN, tR, tE, rN, rR, rE, xN, xR, xE, reduceIte]) | refine DN ?_
      exact ⟨l.length - (i + 1), by omega, i + 1, by omega, by simp [setF_if, *], by simp [setF_if, *], by simp [setF_if, *], by rw [hta.out, hany.out]; simpa using ce⟩
  · have e : i = l.length := by omega
    rw [e, List.take_length] at hany
    repeat first | refine OP ?_ | refine SK ?_ | refine OPN ?_ | refine OM ?_ | refine SM ?_ | refine OMN ?_ | refine WM.nil ?_ | refine OQ ?_ | refine SQ ?_ | refine TH ?_ | refine WR.nil ?_ | refine WQ.nil ?_ | refine W.seq ?_ | refine W.region ?_ | refine DR ?_ | refine IFT ?_ | refine IFF ?_ | refine W.skip ?_ | refine W.block ?_ | refine W.exit ?_ | refine W.ret ?_ | (simp only [tN, tR, tE, rN, rR, rE, xN, xR, xE, reduceIte]) | refine DN ?_
    simp [retA, backA, hasM, hany.out]
theorem l12Overlap_fn (G : Gv) (a b : List Int) (ha : a.length < 1000000000) (hb : b.length < 1000000000) : Gives Tryz.prog G 235 [.sl 0 (ints a), .sl 0 (ints b)] (.b (overM a b)) := by
  refine .of (.body Tryz.func235 rfl (by simp [Tryz.ntmps235]) ?_)
  rw [Tryz.ntmps235, Tryz.results235]
  have hlen := ints_len a
  repeat first | refine OP ?_ | refine SK ?_ | refine OPN ?_ | refine OM ?_ | refine SM ?_ | refine OMN ?_ | refine WM.nil ?_ | refine OQ ?_ | refine SQ ?_ | refine TH ?_ | refine WR.nil ?_ | refine WQ.nil ?_ | refine W.seq ?_ | refine W.region ?_ | refine DR ?_ | refine IFT ?_ | refine IFF ?_ | refine W.skip ?_ | refine W.block ?_ | refine W.exit ?_ | refine W.ret ?_ | (simp only [tN, tR, tE, rN, rR, rE, xN, xR, xE, reduceIte]) | refine DN ?_
  refine .loop (.inv (fun d E H n' => ∃ i : Nat, i + d = a.length ∧ E 0 = .sl 0 (ints a) ∧ E 1 = .sl 0 (ints b) ∧ E 5 = .i .i64 i ∧ (a.take i).any (fun x => hasM b x) = false) a.length ?_ ?_)
  · exact ⟨0, by omega, by simp [setF_if, argE], by simp [setF_if, argE], by simp [setF_if, argE], by simp⟩
  rintro d E H n' ⟨i, hi, h0, h1, h5, hany⟩
  replace hany := Hid.mk hany
  by_cases c : (i : Int) < a.length
  · have hw_i : IntKind.i64.wrap ((i : Int) + 1) = (i : Int) + 1 := wr64 (by omega) (by omega)
    obtain ⟨y, hy⟩ : ∃ y, a[i]? = some y := ⟨_, List.getElem?_eq_getElem (by omega)⟩
    have hr := ints_row hy
    have hta := take_anyG (p := fun x => hasM b x) hy
    have hat := any_atG (p := fun x => hasM b x) hy
    replace hta := Hid.mk hta
    replace hat := Hid.mk hat
    replace hy := Hid.mk hy
    repeat first | refine OP ?_ | refine SK ?_ | refine OPN ?_ | refine OM ?_ | refine SM ?_ | refine OMN ?_ | refine WM.nil ?_ | refine OQ ?_ | refine SQ ?_ | refine TH ?_ | refine WR.nil ?_ | refine WQ.nil ?_ | refine W.seq ?_ | refine W.region ?_ | refine DR ?_ | refine IFT ?_ | refine IFF ?_ | refine W.skip ?_ | refine W.block ?_ | refine W.exit ?_ | refine W.ret ?_ | (simp only [tN, tR, tE, rN, rR, rE, xN, xR, xE, reduceIte]) | refine DN ?_
    refine CV (l01Has_fn G b y hb) ?_
    by_cases ce : hasM b y = true
    · repeat first | refine OP ?_ | refine SK ?_ | refine OPN ?_ | refine OM ?_ | refine SM ?_ | refine OMN ?_ | refine WM.nil ?_ | refine OQ ?_ | refine SQ ?_ | refine TH ?_ | refine WR.nil ?_ | refine WQ.nil ?_ | refine W.seq ?_ | refine W.region ?_ | refine DR ?_ | refine IFT ?_ | refine IFF ?_ | refine W.skip ?_ | refine W.block ?_ | refine W.exit ?_ | refine W.ret ?_ | (simp only [tN, tR, tE, rN, rR, rE, xN, xR, xE, reduceIte]) | refine DN ?_
      simp [retA, backA, overM, hat.out ce]
    · repeat first | refine OP ?_ | refine SK ?_ | refine OPN ?_ | refine OM ?_ | refine SM ?_ | refine OMN ?_ | refine WM.nil ?_ | refine OQ ?_ | refine SQ ?_ | refine TH ?_ | refine WR.nil ?_ | refine WQ.nil ?_ | refine W.seq ?_ | refine W.region ?_ | refine DR ?_ | refine IFT ?_ | refine IFF ?_ | refine W.skip ?_ | refine W.block ?_ | refine W.exit ?_ | refine W.ret ?_ | (simp only [tN, tR, tE, rN, rR, rE, xN, xR, xE, reduceIte]) | refine DN ?_
      exact ⟨a.length - (i + 1), by omega, i + 1, by omega, by simp [setF_if, *], by simp [setF_if, *], by simp [setF_if, *], by rw [hta.out, hany.out]; simpa using ce⟩
  · have e : i = a.length := by omega
    rw [e, List.take_length] at hany
    repeat first | refine OP ?_ | refine SK ?_ | refine OPN ?_ | refine OM ?_ | refine SM ?_ | refine OMN ?_ | refine WM.nil ?_ | refine OQ ?_ | refine SQ ?_ | refine TH ?_ | refine WR.nil ?_ | refine WQ.nil ?_ | refine W.seq ?_ | refine W.region ?_ | refine DR ?_ | refine IFT ?_ | refine IFF ?_ | refine W.skip ?_ | refine W.block ?_ | refine W.exit ?_ | refine W.ret ?_ | (simp only [tN, tR, tE, rN, rR, rE, xN, xR, xE, reduceIte]) | refine DN ?_
    simp [retA, backA, overM, hany.out]
/-- Lists in their order. -/
def cmpN : List Int → List Int → Int
  | [], [] => 0
  | [], _ :: _ => -1
  | _ :: _, [] => 1
  | x :: l, y :: k => if x < y then -1 else if x > y then 1 else cmpN l k
theorem drop_cons {α : Type} {l : List α} {i : Nat} {x : α} (h : l[i]? = some x) : l.drop i = x :: l.drop (i + 1) := by
  obtain ⟨hi, rfl⟩ := List.getElem?_eq_some_iff.mp h
  exact List.drop_eq_getElem_cons hi
theorem l12Lists_fn (G : Gv) (a b : List Int) (ha : a.length < 1000000000) (hb : b.length < 1000000000) : Gives Tryz.prog G 203 [.sl 0 (ints a), .sl 0 (ints b)] (.i .i64 (cmpN a b)) := by
  refine .of (.body Tryz.func203 rfl (by simp [Tryz.ntmps203]) ?_)
  rw [Tryz.ntmps203, Tryz.results203]
  have hlen := ints_len a
  have hlenb := ints_len b
  repeat first | refine OP ?_ | refine SK ?_ | refine OPN ?_ | refine OM ?_ | refine SM ?_ | refine OMN ?_ | refine WM.nil ?_ | refine OQ ?_ | refine SQ ?_ | refine TH ?_ | refine WR.nil ?_ | refine WQ.nil ?_ | refine W.seq ?_ | refine W.region ?_ | refine DR ?_ | refine IFT ?_ | refine IFF ?_ | refine W.skip ?_ | refine W.block ?_ | refine W.exit ?_ | refine W.ret ?_ | (simp only [tN, tR, tE, rN, rR, rE, xN, xR, xE, reduceIte]) | refine DN ?_
  refine .loop (.inv (fun d E H n' => ∃ i : Nat, i + d = a.length ∧ i ≤ b.length ∧ E 0 = .sl 0 (ints a) ∧ E 1 = .sl 0 (ints b) ∧ E 5 = .i .i64 i ∧ cmpN (a.drop i) (b.drop i) = cmpN a b) a.length ?_ ?_)
  · exact ⟨0, by omega, by omega, by simp [setF_if, argE], by simp [setF_if, argE], by simp [setF_if, argE], by simp⟩
  rintro d E H n' ⟨i, hi, hib, h0, h1, h5, hcm⟩
  by_cases c : (i : Int) < a.length
  · by_cases cb : (i : Int) < b.length
    · have hw_i : IntKind.i64.wrap ((i : Int) + 1) = (i : Int) + 1 := wr64 (by omega) (by omega)
      obtain ⟨x, hx⟩ : ∃ x, a[i]? = some x := ⟨_, List.getElem?_eq_getElem (by omega)⟩
      obtain ⟨y, hy⟩ : ∃ y, b[i]? = some y := ⟨_, List.getElem?_eq_getElem (by omega)⟩
      have hr := ints_row hx
      have hr2 := ints_row hy
      rw [drop_cons hx, drop_cons hy, cmpN] at hcm
      replace hcm := Hid.mk hcm
      replace hx := Hid.mk hx
      replace hy := Hid.mk hy
      by_cases c1 : x < y
      · have hm := hcm.out
        rw [if_pos c1] at hm
        repeat first | refine OP ?_ | refine SK ?_ | refine OPN ?_ | refine OM ?_ | refine SM ?_ | refine OMN ?_ | refine WM.nil ?_ | refine OQ ?_ | refine SQ ?_ | refine TH ?_ | refine WR.nil ?_ | refine WQ.nil ?_ | refine W.seq ?_ | refine W.region ?_ | refine DR ?_ | refine IFT ?_ | refine IFF ?_ | refine W.skip ?_ | refine W.block ?_ | refine W.exit ?_ | refine W.ret ?_ | (simp only [tN, tR, tE, rN, rR, rE, xN, xR, xE, reduceIte]) | refine DN ?_
        simp [retA, backA, ← hm]
      · by_cases c2 : x > y
        · have hm := hcm.out
          rw [if_neg c1, if_pos c2] at hm
          repeat first | refine OP ?_ | refine SK ?_ | refine OPN ?_ | refine OM ?_ | refine SM ?_ | refine OMN ?_ | refine WM.nil ?_ | refine OQ ?_ | refine SQ ?_ | refine TH ?_ | refine WR.nil ?_ | refine WQ.nil ?_ | refine W.seq ?_ | refine W.region ?_ | refine DR ?_ | refine IFT ?_ | refine IFF ?_ | refine W.skip ?_ | refine W.block ?_ | refine W.exit ?_ | refine W.ret ?_ | (simp only [tN, tR, tE, rN, rR, rE, xN, xR, xE, reduceIte]) | refine DN ?_
          simp [retA, backA, ← hm]
        · have hm := hcm.out
          rw [if_neg c1, if_neg c2] at hm
          replace hm := Hid.mk hm
          repeat first | refine OP ?_ | refine SK ?_ | refine OPN ?_ | refine OM ?_ | refine SM ?_ | refine OMN ?_ | refine WM.nil ?_ | refine OQ ?_ | refine SQ ?_ | refine TH ?_ | refine WR.nil ?_ | refine WQ.nil ?_ | refine W.seq ?_ | refine W.region ?_ | refine DR ?_ | refine IFT ?_ | refine IFF ?_ | refine W.skip ?_ | refine W.block ?_ | refine W.exit ?_ | refine W.ret ?_ | (simp only [tN, tR, tE, rN, rR, rE, xN, xR, xE, reduceIte]) | refine DN ?_
          exact ⟨a.length - (i + 1), by omega, i + 1, by omega, by omega, by simp [setF_if, *], by simp [setF_if, *], by simp [setF_if, *], hm.out⟩
    · have e : i = b.length := by omega
      obtain ⟨x, hx⟩ : ∃ x, a[i]? = some x := ⟨_, List.getElem?_eq_getElem (by omega)⟩
      have hm : cmpN a b = 1 := by rw [← hcm, drop_cons hx, e, List.drop_length]; rfl
      have g1 : ¬ (a.length : Int) < b.length := by omega
      have g2 : (b.length : Int) < a.length := by omega
      clear hx
      repeat first | refine OP ?_ | refine SK ?_ | refine OPN ?_ | refine OM ?_ | refine SM ?_ | refine OMN ?_ | refine WM.nil ?_ | refine OQ ?_ | refine SQ ?_ | refine TH ?_ | refine WR.nil ?_ | refine WQ.nil ?_ | refine W.seq ?_ | refine W.region ?_ | refine DR ?_ | refine IFT ?_ | refine IFF ?_ | refine W.skip ?_ | refine W.block ?_ | refine W.exit ?_ | refine W.ret ?_ | (simp only [tN, tR, tE, rN, rR, rE, xN, xR, xE, reduceIte]) | refine DN ?_
      simp [retA, backA, hm]
  · have e : i = a.length := by omega
    rw [e, List.drop_length] at hcm
    by_cases g1 : (a.length : Int) < b.length
    · have hm : cmpN a b = -1 := by
        rw [← hcm]
        obtain ⟨y, hy⟩ : ∃ y, b[a.length]? = some y := ⟨_, List.getElem?_eq_getElem (by omega)⟩
        rw [drop_cons hy]; rfl
      repeat first | refine OP ?_ | refine SK ?_ | refine OPN ?_ | refine OM ?_ | refine SM ?_ | refine OMN ?_ | refine WM.nil ?_ | refine OQ ?_ | refine SQ ?_ | refine TH ?_ | refine WR.nil ?_ | refine WQ.nil ?_ | refine W.seq ?_ | refine W.region ?_ | refine DR ?_ | refine IFT ?_ | refine IFF ?_ | refine W.skip ?_ | refine W.block ?_ | refine W.exit ?_ | refine W.ret ?_ | (simp only [tN, tR, tE, rN, rR, rE, xN, xR, xE, reduceIte]) | refine DN ?_
      simp [retA, backA, hm]
    · have g2 : ¬ (b.length : Int) < a.length := by omega
      have hm : cmpN a b = 0 := by
        rw [← hcm, List.drop_of_length_le (by omega)]; rfl
      repeat first | refine OP ?_ | refine SK ?_ | refine OPN ?_ | refine OM ?_ | refine SM ?_ | refine OMN ?_ | refine WM.nil ?_ | refine OQ ?_ | refine SQ ?_ | refine TH ?_ | refine WR.nil ?_ | refine WQ.nil ?_ | refine W.seq ?_ | refine W.region ?_ | refine DR ?_ | refine IFT ?_ | refine IFF ?_ | refine W.skip ?_ | refine W.block ?_ | refine W.exit ?_ | refine W.ret ?_ | (simp only [tN, tR, tE, rN, rR, rE, xN, xR, xE, reduceIte]) | refine DN ?_
      simp [retA, backA, hm]
end Go.Proofs
end
section
open Go Go.Big
namespace Go.Proofs
set_option maxHeartbeats 2000000
theorem slicesCompare_fn (G : Gv) (a b : List Int) (ha : a.length < 1000000000) (hb : b.length < 1000000000) : Gives Tryz.prog G 188 [.sl 0 (ints a), .sl 0 (ints b)] (.i .i64 (cmpN a b)) := by
  refine .of (.body Tryz.func188 rfl (by simp [Tryz.ntmps188]) ?_)
  rw [Tryz.ntmps188, Tryz.results188]
  have hlen := ints_len a
  have hlenb := ints_len b
  repeat first | refine OP ?_ | refine SK ?_ | refine OPN ?_ | refine OM ?_ | refine SM ?_ | refine OMN ?_ | refine WM.nil ?_ | refine OQ ?_ | refine SQ ?_ | refine TH ?_ | refine WR.nil ?_ | refine WQ.nil ?_ | refine W.seq ?_ | refine W.region ?_ | refine DR ?_ | refine IFT ?_ | refine IFF ?_ | refine W.skip ?_ | refine W.block ?_ | refine W.exit ?_ | refine W.ret ?_ | (simp only [tN, tR, tE, rN, rR, rE, xN, xR, xE, reduceIte]) | refine DN ?_
  refine .loop (.inv (fun d E H n' => ∃ i : Nat, i + d = a.length ∧ i ≤ b.length ∧ E 0 = .sl 0 (ints a) ∧ E 1 = .sl 0 (ints b) ∧ E 9 = .sl 0 (ints a) ∧ E 10 = .i .i64 a.length ∧ E 11 = .i .i64 i ∧ cmpN (a.drop i) (b.drop i) = cmpN a b) a.length ?_ ?_)
  · exact ⟨0, by omega, by omega, by simp [setF_if, argE], by simp [setF_if, argE], by simp [setF_if, argE], by simp [setF_if, argE, hlen], by simp [setF_if, argE], by simp⟩
  rintro d E H n' ⟨i, hi, hib, h0, h1, h9, h10, h11, hcm⟩
  by_cases c : (i : Int) < a.length
  · by_cases cb : (i : Int) ≥ b.length
    · have e : i = b.length := by omega
      obtain ⟨x, hx⟩ : ∃ x, a[i]? = some x := ⟨_, List.getElem?_eq_getElem (by omega)⟩
      have hr := ints_row hx
      have hm : cmpN a b = 1 := by rw [← hcm, drop_cons hx, e, List.drop_length]; rfl
      clear hx e
      replace hm := Hid.mk hm
      repeat first | refine OP ?_ | refine SK ?_ | refine OPN ?_ | refine OM ?_ | refine SM ?_ | refine OMN ?_ | refine WM.nil ?_ | refine OQ ?_ | refine SQ ?_ | refine TH ?_ | refine WR.nil ?_ | refine WQ.nil ?_ | refine W.seq ?_ | refine W.region ?_ | refine DR ?_ | refine IFT ?_ | refine IFF ?_ | refine W.skip ?_ | refine W.block ?_ | refine W.exit ?_ | refine W.ret ?_ | (simp only [tN, tR, tE, rN, rR, rE, xN, xR, xE, reduceIte]) | refine DN ?_
      simp [retA, backA, hm.out]
    · have hw_i : IntKind.i64.wrap ((i : Int) + 1) = (i : Int) + 1 := wr64 (by omega) (by omega)
      obtain ⟨x, hx⟩ : ∃ x, a[i]? = some x := ⟨_, List.getElem?_eq_getElem (by omega)⟩
      obtain ⟨y, hy⟩ : ∃ y, b[i]? = some y := ⟨_, List.getElem?_eq_getElem (by omega)⟩
      have hr := ints_row hx
      have hr2 := ints_row hy
      rw [drop_cons hx, drop_cons hy, cmpN] at hcm
      replace hcm := Hid.mk hcm
      replace hx := Hid.mk hx
      replace hy := Hid.mk hy
      repeat first | refine OP ?_ | refine SK ?_ | refine OPN ?_ | refine OM ?_ | refine SM ?_ | refine OMN ?_ | refine WM.nil ?_ | refine OQ ?_ | refine SQ ?_ | refine TH ?_ | refine WR.nil ?_ | refine WQ.nil ?_ | refine W.seq ?_ | refine W.region ?_ | refine DR ?_ | refine IFT ?_ | refine IFF ?_ | refine W.skip ?_ | refine W.block ?_ | refine W.exit ?_ | refine W.ret ?_ | (simp only [tN, tR, tE, rN, rR, rE, xN, xR, xE, reduceIte]) | refine DN ?_
      refine CV (compare_fn G x y) ?_
      by_cases c1 : x < y
      · have hm := hcm.out
        rw [if_pos c1] at hm
        replace hm := Hid.mk hm
        have hcx : cmpI x y = -1 := by unfold cmpI; rw [if_pos c1]
        repeat first | refine OP ?_ | refine SK ?_ | refine OPN ?_ | refine OM ?_ | refine SM ?_ | refine OMN ?_ | refine WM.nil ?_ | refine OQ ?_ | refine SQ ?_ | refine TH ?_ | refine WR.nil ?_ | refine WQ.nil ?_ | refine W.seq ?_ | refine W.region ?_ | refine DR ?_ | refine IFT ?_ | refine IFF ?_ | refine W.skip ?_ | refine W.block ?_ | refine W.exit ?_ | refine W.ret ?_ | (simp only [tN, tR, tE, rN, rR, rE, xN, xR, xE, reduceIte]) | refine DN ?_
        simp [retA, backA, ← hm.out]
      · by_cases c2 : x > y
        · have hm := hcm.out
          rw [if_neg c1, if_pos c2] at hm
          replace hm := Hid.mk hm
          have hcx : cmpI x y = 1 := by unfold cmpI; rw [if_neg c1, if_pos c2]
          repeat first | refine OP ?_ | refine SK ?_ | refine OPN ?_ | refine OM ?_ | refine SM ?_ | refine OMN ?_ | refine WM.nil ?_ | refine OQ ?_ | refine SQ ?_ | refine TH ?_ | refine WR.nil ?_ | refine WQ.nil ?_ | refine W.seq ?_ | refine W.region ?_ | refine DR ?_ | refine IFT ?_ | refine IFF ?_ | refine W.skip ?_ | refine W.block ?_ | refine W.exit ?_ | refine W.ret ?_ | (simp only [tN, tR, tE, rN, rR, rE, xN, xR, xE, reduceIte]) | refine DN ?_
          simp [retA, backA, ← hm.out]
        · have hm := hcm.out
          rw [if_neg c1, if_neg c2] at hm
          have hcx : cmpI x y = 0 := by unfold cmpI; rw [if_neg c1, if_neg c2]
          replace hm := Hid.mk hm
          repeat first | refine OP ?_ | refine SK ?_ | refine OPN ?_ | refine OM ?_ | refine SM ?_ | refine OMN ?_ | refine WM.nil ?_ | refine OQ ?_ | refine SQ ?_ | refine TH ?_ | refine WR.nil ?_ | refine WQ.nil ?_ | refine W.seq ?_ | refine W.region ?_ | refine DR ?_ | refine IFT ?_ | refine IFF ?_ | refine W.skip ?_ | refine W.block ?_ | refine W.exit ?_ | refine W.ret ?_ | (simp only [tN, tR, tE, rN, rR, rE, xN, xR, xE, reduceIte]) | refine DN ?_
          exact ⟨a.length - (i + 1), by omega, i + 1, by omega, by omega, by simp [setF_if, *], by simp [setF_if, *], by simp [setF_if, *], by simp [setF_if, *], by simp [setF_if, *], hm.out⟩
  · have e : i = a.length := by omega
    rw [e, List.drop_length] at hcm
    by_cases g1 : (a.length : Int) < b.length
    · have hm : cmpN a b = -1 := by
        rw [← hcm]
        obtain ⟨y, hy⟩ : ∃ y, b[a.length]? = some y := ⟨_, List.getElem?_eq_getElem (by omega)⟩
        rw [drop_cons hy]; rfl
      repeat first | refine OP ?_ | refine SK ?_ | refine OPN ?_ | refine OM ?_ | refine SM ?_ | refine OMN ?_ | refine WM.nil ?_ | refine OQ ?_ | refine SQ ?_ | refine TH ?_ | refine WR.nil ?_ | refine WQ.nil ?_ | refine W.seq ?_ | refine W.region ?_ | refine DR ?_ | refine IFT ?_ | refine IFF ?_ | refine W.skip ?_ | refine W.block ?_ | refine W.exit ?_ | refine W.ret ?_ | (simp only [tN, tR, tE, rN, rR, rE, xN, xR, xE, reduceIte]) | refine DN ?_
      simp [retA, backA, hm]
    · have hm : cmpN a b = 0 := by
        rw [← hcm, List.drop_of_length_le (by omega)]; rfl
      repeat first | refine OP ?_ | refine SK ?_ | refine OPN ?_ | refine OM ?_ | refine SM ?_ | refine OMN ?_ | refine WM.nil ?_ | refine OQ ?_ | refine SQ ?_ | refine TH ?_ | refine WR.nil ?_ | refine WQ.nil ?_ | refine W.seq ?_ | refine W.region ?_ | refine DR ?_ | refine IFT ?_ | refine IFF ?_ | refine W.skip ?_ | refine W.block ?_ | refine W.exit ?_ | refine W.ret ?_ | (simp only [tN, tR, tE, rN, rR, rE, xN, xR, xE, reduceIte]) | refine DN ?_
      simp [retA, backA, hm]
/-- Placements: the piece and its cells. -/
abbrev placA (t : Nat) (x : Int × List Int) : AV := .ag [.i .i64 x.1, .sl t (ints x.2)]
def cmpP (x y : Int × List Int) : Int := if x.1 < y.1 then -1 else if x.1 > y.1 then 1 else cmpN x.2 y.2
theorem specComparePl_fn (G : Gv) (x y : Int × List Int) (hx : x.2.length < 1000000000) (hy : y.2.length < 1000000000) : Gives Tryz.prog G 166 [placA 0 x, placA 0 y] (.i .i64 (cmpP x y)) := by
  refine .of (.body Tryz.func166 rfl (by simp [Tryz.ntmps166]) ?_)
  rw [Tryz.ntmps166, Tryz.results166]
  obtain ⟨a, l⟩ := x
  obtain ⟨b, k⟩ := y
  by_cases c1 : a < b
  · have c0 : (a != b) = true := by simp; omega
    have hm : cmpP (a, l) (b, k) = -1 := by simp [cmpP, c1]
    repeat first | refine OP ?_ | refine SK ?_ | refine OPN ?_ | refine OM ?_ | refine SM ?_ | refine OMN ?_ | refine WM.nil ?_ | refine OQ ?_ | refine SQ ?_ | refine TH ?_ | refine WR.nil ?_ | refine WQ.nil ?_ | refine W.seq ?_ | refine W.region ?_ | refine DR ?_ | refine IFT ?_ | refine IFF ?_ | refine W.skip ?_ | refine W.block ?_ | refine W.exit ?_ | refine W.ret ?_ | (simp only [tN, tR, tE, rN, rR, rE, xN, xR, xE, reduceIte]) | refine DN ?_
    simp [retA, backA, hm]
  · by_cases c2 : a > b
    · have c0 : (a != b) = true := by simp; omega
      have hm : cmpP (a, l) (b, k) = 1 := by simp [cmpP, c1, c2]
      repeat first | refine OP ?_ | refine SK ?_ | refine OPN ?_ | refine OM ?_ | refine SM ?_ | refine OMN ?_ | refine WM.nil ?_ | refine OQ ?_ | refine SQ ?_ | refine TH ?_ | refine WR.nil ?_ | refine WQ.nil ?_ | refine W.seq ?_ | refine W.region ?_ | refine DR ?_ | refine IFT ?_ | refine IFF ?_ | refine W.skip ?_ | refine W.block ?_ | refine W.exit ?_ | refine W.ret ?_ | (simp only [tN, tR, tE, rN, rR, rE, xN, xR, xE, reduceIte]) | refine DN ?_
      simp [retA, backA, hm]
    · have c0 : (a != b) = false := by simp; omega
      have hm : cmpP (a, l) (b, k) = cmpN l k := by simp [cmpP, c1, c2]
      repeat first | refine OP ?_ | refine SK ?_ | refine OPN ?_ | refine OM ?_ | refine SM ?_ | refine OMN ?_ | refine WM.nil ?_ | refine OQ ?_ | refine SQ ?_ | refine TH ?_ | refine WR.nil ?_ | refine WQ.nil ?_ | refine W.seq ?_ | refine W.region ?_ | refine DR ?_ | refine IFT ?_ | refine IFF ?_ | refine W.skip ?_ | refine W.block ?_ | refine W.exit ?_ | refine W.ret ?_ | (simp only [tN, tR, tE, rN, rR, rE, xN, xR, xE, reduceIte]) | refine DN ?_
      refine CV (l12Lists_fn G l k hx hy) ?_
      repeat first | refine OP ?_ | refine SK ?_ | refine OPN ?_ | refine OM ?_ | refine SM ?_ | refine OMN ?_ | refine WM.nil ?_ | refine OQ ?_ | refine SQ ?_ | refine TH ?_ | refine WR.nil ?_ | refine WQ.nil ?_ | refine W.seq ?_ | refine W.region ?_ | refine DR ?_ | refine IFT ?_ | refine IFF ?_ | refine W.skip ?_ | refine W.block ?_ | refine W.exit ?_ | refine W.ret ?_ | (simp only [tN, tR, tE, rN, rR, rE, xN, xR, xE, reduceIte]) | refine DN ?_
      simp [retA, backA, hm]
theorem implComparePl_fn (G : Gv) (x y : Int × List Int) (hx : x.2.length < 1000000000) (hy : y.2.length < 1000000000) : Gives Tryz.prog G 139 [placA 0 x, placA 0 y] (.i .i64 (cmpP x y)) := by
  refine .of (.body Tryz.func139 rfl (by simp [Tryz.ntmps139]) ?_)
  rw [Tryz.ntmps139, Tryz.results139]
  obtain ⟨a, l⟩ := x
  obtain ⟨b, k⟩ := y
  repeat first | refine OP ?_ | refine SK ?_ | refine OPN ?_ | refine OM ?_ | refine SM ?_ | refine OMN ?_ | refine WM.nil ?_ | refine OQ ?_ | refine SQ ?_ | refine TH ?_ | refine WR.nil ?_ | refine WQ.nil ?_ | refine W.seq ?_ | refine W.region ?_ | refine DR ?_ | refine IFT ?_ | refine IFF ?_ | refine W.skip ?_ | refine W.block ?_ | refine W.exit ?_ | refine W.ret ?_ | (simp only [tN, tR, tE, rN, rR, rE, xN, xR, xE, reduceIte]) | refine DN ?_
  refine CV (compare_fn G a b) ?_
  by_cases c1 : a < b
  · have hc : cmpI a b = -1 := by unfold cmpI; rw [if_pos c1]
    have hm : cmpP (a, l) (b, k) = -1 := by simp [cmpP, c1]
    repeat first | refine OP ?_ | refine SK ?_ | refine OPN ?_ | refine OM ?_ | refine SM ?_ | refine OMN ?_ | refine WM.nil ?_ | refine OQ ?_ | refine SQ ?_ | refine TH ?_ | refine WR.nil ?_ | refine WQ.nil ?_ | refine W.seq ?_ | refine W.region ?_ | refine DR ?_ | refine IFT ?_ | refine IFF ?_ | refine W.skip ?_ | refine W.block ?_ | refine W.exit ?_ | refine W.ret ?_ | (simp only [tN, tR, tE, rN, rR, rE, xN, xR, xE, reduceIte]) | refine DN ?_
    simp [retA, backA, hm]
  · by_cases c2 : a > b
    · have hc : cmpI a b = 1 := by unfold cmpI; rw [if_neg c1, if_pos c2]
      have hm : cmpP (a, l) (b, k) = 1 := by simp [cmpP, c1, c2]
      repeat first | refine OP ?_ | refine SK ?_ | refine OPN ?_ | refine OM ?_ | refine SM ?_ | refine OMN ?_ | refine WM.nil ?_ | refine OQ ?_ | refine SQ ?_ | refine TH ?_ | refine WR.nil ?_ | refine WQ.nil ?_ | refine W.seq ?_ | refine W.region ?_ | refine DR ?_ | refine IFT ?_ | refine IFF ?_ | refine W.skip ?_ | refine W.block ?_ | refine W.exit ?_ | refine W.ret ?_ | (simp only [tN, tR, tE, rN, rR, rE, xN, xR, xE, reduceIte]) | refine DN ?_
      simp [retA, backA, hm]
    · have hc : cmpI a b = 0 := by unfold cmpI; rw [if_neg c1, if_neg c2]
      have hm : cmpP (a, l) (b, k) = cmpN l k := by simp [cmpP, c1, c2]
      repeat first | refine OP ?_ | refine SK ?_ | refine OPN ?_ | refine OM ?_ | refine SM ?_ | refine OMN ?_ | refine WM.nil ?_ | refine OQ ?_ | refine SQ ?_ | refine TH ?_ | refine WR.nil ?_ | refine WQ.nil ?_ | refine W.seq ?_ | refine W.region ?_ | refine DR ?_ | refine IFT ?_ | refine IFF ?_ | refine W.skip ?_ | refine W.block ?_ | refine W.exit ?_ | refine W.ret ?_ | (simp only [tN, tR, tE, rN, rR, rE, xN, xR, xE, reduceIte]) | refine DN ?_
      refine CV (slicesCompare_fn G l k hx hy) ?_
      repeat first | refine OP ?_ | refine SK ?_ | refine OPN ?_ | refine OM ?_ | refine SM ?_ | refine OMN ?_ | refine WM.nil ?_ | refine OQ ?_ | refine SQ ?_ | refine TH ?_ | refine WR.nil ?_ | refine WQ.nil ?_ | refine W.seq ?_ | refine W.region ?_ | refine DR ?_ | refine IFT ?_ | refine IFF ?_ | refine W.skip ?_ | refine W.block ?_ | refine W.exit ?_ | refine W.ret ?_ | (simp only [tN, tR, tE, rN, rR, rE, xN, xR, xE, reduceIte]) | refine DN ?_
      simp [retA, backA, hm]
end Go.Proofs
end
