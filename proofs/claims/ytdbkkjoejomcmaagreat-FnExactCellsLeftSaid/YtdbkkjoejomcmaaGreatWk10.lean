/- Walks: Ascending lists of placements. No condition. | The area of all pieces; whether a puzzle fits. No condition. | What is a solution. No condition. -/
import Derived.Test.YtdbkkjoejomcmaaGreatBO
import Derived.Test.YtdbkkjoejomcmaaGreatWk8
import Derived.Test.YtdbkkjoejomcmaaGreatWk9
import Derived.Test.YtdbkkjoejomcmaaGreatWk7
set_option linter.unusedVariables false
set_option linter.unusedSimpArgs false
section
open Go Go.Big
namespace Go.Proofs
set_option maxHeartbeats 2000000
def pz : Int × List Int := (0, [])
def ascAt (P : Int × List Int → Bool) (l : List (Int × List Int)) (i : Nat) : Bool := P (l.getD i pz) && !(decide ((i : Int) > 0) && decide (cmpP (l.getD (i - 1) pz) (l.getD i pz) ≥ 0))
def ascM (P : Int × List Int → Bool) (l : List (Int × List Int)) : Bool := (List.range l.length).all (ascAt P l)
theorem places_getD {l : List (Int × List Int)} {i : Nat} (h : i < l.length) : (places l)[i]? = some (placR (l.getD i pz)) := places_at (by simp [List.getD_eq_getElem?_getD, h])
theorem getD_mem {l : List (Int × List Int)} {i : Nat} (h : i < l.length) : l.getD i pz ∈ l := by simp [List.getD_eq_getElem?_getD, h]
theorem l15List_fn (G : Gv) (r : List (Int × Int)) (l : List PieceM) (s : List (Int × List Int)) (hr1 : 1 ≤ r.length) (hr : r.length < 1000000000) (hl1 : 1 ≤ l.length) (hl : l.length < 1000000000) (hs : s.length < 1000000000) (hsc : ∀ x ∈ s, x.2.length < 1000000000) (hp0 : ∀ p ∈ l, 0 < p.cs.length) (hpl : ∀ p ∈ l, p.cs.length < 1000000000) :
    Gives Tryz.prog G 116 [.ag [.sl 0 (cells r), .sl 0 (pieces l)], .sl 0 (places s)] (.b (ascM (fun x => placeS r l x.1 x.2) s)) := by
  refine .of (.body Tryz.func116 rfl (by simp [Tryz.ntmps116]) ?_)
  rw [Tryz.ntmps116, Tryz.results116]
  replace hsc := Hid.mk hsc
  replace hp0 := Hid.mk hp0
  replace hpl := Hid.mk hpl
  have hlen := places_len s
  generalize hPd : (fun x : Int × List Int => placeS r l x.1 x.2) = P
  have hP : ∀ x, placeS r l x.1 x.2 = P x := fun x => by rw [← hPd]
  clear hPd
  replace hP := Hid.mk hP
  repeat first | refine OP ?_ | refine SK ?_ | refine OPN ?_ | refine OM ?_ | refine SM ?_ | refine OMN ?_ | refine WM.nil ?_ | refine OQ ?_ | refine SQ ?_ | refine TH ?_ | refine WR.nil ?_ | refine WQ.nil ?_ | refine W.seq ?_ | refine W.region ?_ | refine DR ?_ | refine IFT ?_ | refine IFF ?_ | refine W.skip ?_ | refine W.block ?_ | refine W.exit ?_ | refine W.ret ?_ | (simp only [tN, tR, tE, rN, rR, rE, xN, xR, xE, reduceIte]) | refine DN ?_
  refine .loop (.inv (fun d E H n' => ∃ i : Nat, i + d = s.length ∧ 0 < n' ∧ E 1 = .sl 0 (places s) ∧ E 2 = .ptr 0 0 0 0 ∧ E 5 = .i .i64 i ∧ H 0 = some (.box 35 [.sl 0 (cells r), .sl 0 (pieces l)]) ∧ (∀ j, j < i → ascAt P s j = true)) s.length ?_ ?_)
  · exact ⟨0, by omega, by omega, by simp [setF_if, argE], by simp [setF_if, argE], by simp [setF_if, argE], by simp [upd_if], fun j hj => by omega⟩
  rintro d E H n' ⟨i, hi, hn, h1, h2, h5, hH, hall⟩
  replace hall := Hid.mk hall
  by_cases c : (i : Int) < s.length
  · have hw_i : IntKind.i64.wrap ((i : Int) + 1) = (i : Int) + 1 := wr64 (by omega) (by omega)
    have cN : i < s.length := by omega
    have hrow := places_getD cN
    have hat : ascAt P s i = ascAt P s i := rfl
    conv at hat => rhs; unfold ascAt
    have hno : ascAt P s i = false → ascM P s = false := fun h => all_no (by omega) h
    have more : ascAt P s i = true → ∀ j, j < i + 1 → ascAt P s j = true := fun h j hj => by
      by_cases e : j = i
      · rw [e]; exact h
      · exact hall.out j (by omega)
    replace hno := Hid.mk hno
    replace more := Hid.mk more
    have hxl := hsc.out _ (getD_mem cN)
    have hrow2 : (i : Int) > 0 → (places s)[((i : Int) - 1).toNat]? = some (placR (s.getD (i - 1) pz)) := fun h => by rw [show ((i : Int) - 1).toNat = i - 1 by omega]; exact places_getD (by omega)
    have hyl := hsc.out _ (getD_mem (l := s) (i := i - 1) (by omega))
    generalize s.getD i pz = x at hrow hat hxl
    generalize s.getD (i - 1) pz = y at hrow2 hat hyl
    obtain ⟨xk, xs⟩ := x
    obtain ⟨yk, ys⟩ := y
    have hPx := hP.out (xk, xs)
    simp only at hPx
    replace hat := Hid.mk hat
    replace hrow2 := Hid.mk hrow2
    repeat first | refine OP ?_ | refine SK ?_ | refine OPN ?_ | refine OM ?_ | refine SM ?_ | refine OMN ?_ | refine WM.nil ?_ | refine OQ ?_ | refine SQ ?_ | refine TH ?_ | refine WR.nil ?_ | refine WQ.nil ?_ | refine W.seq ?_ | refine W.region ?_ | refine DR ?_ | refine IFT ?_ | refine IFF ?_ | refine W.skip ?_ | refine W.block ?_ | refine W.exit ?_ | refine W.ret ?_ | (simp only [tN, tR, tE, rN, rR, rE, xN, xR, xE, reduceIte]) | refine DN ?_
    refine CQ (l12Is_fn G r l xk xs hr1 hr hl1 hl hxl hp0.out hpl.out) ?_
    rw [hPx]
    replace hPx := Hid.mk hPx
    by_cases c1 : P (xk, xs) = true
    · by_cases c3 : (i : Int) > 0
      · have hrow3 := hrow2.out c3
        have hw : IntKind.i64.wrap ((i : Int) - 1) = (i : Int) - 1 := wr64 (by omega) (by omega)
        have h01 : 0 ≤ (i : Int) - 1 := by omega
        repeat first | refine OP ?_ | refine SK ?_ | refine OPN ?_ | refine OM ?_ | refine SM ?_ | refine OMN ?_ | refine WM.nil ?_ | refine OQ ?_ | refine SQ ?_ | refine TH ?_ | refine WR.nil ?_ | refine WQ.nil ?_ | refine W.seq ?_ | refine W.region ?_ | refine DR ?_ | refine IFT ?_ | refine IFF ?_ | refine W.skip ?_ | refine W.block ?_ | refine W.exit ?_ | refine W.ret ?_ | (simp only [tN, tR, tE, rN, rR, rE, xN, xR, xE, reduceIte]) | refine DN ?_
        refine CQ (specComparePl_fn G (yk, ys) (xk, xs) hyl hxl) ?_
        by_cases c4 : cmpP (yk, ys) (xk, xs) ≥ 0
        · repeat first | refine OP ?_ | refine SK ?_ | refine OPN ?_ | refine OM ?_ | refine SM ?_ | refine OMN ?_ | refine WM.nil ?_ | refine OQ ?_ | refine SQ ?_ | refine TH ?_ | refine WR.nil ?_ | refine WQ.nil ?_ | refine W.seq ?_ | refine W.region ?_ | refine DR ?_ | refine IFT ?_ | refine IFF ?_ | refine W.skip ?_ | refine W.block ?_ | refine W.exit ?_ | refine W.ret ?_ | (simp only [tN, tR, tE, rN, rR, rE, xN, xR, xE, reduceIte]) | refine DN ?_
          have := hno.out (by rw [hat.out]; simp only [decide_true, decide_false, Bool.not_true, Bool.not_false, Bool.and_true, Bool.true_and, Bool.and_false, Bool.false_and, Bool.and_self, c1, c3, c4])
          simp [retA, backA, this]
        · repeat first | refine OP ?_ | refine SK ?_ | refine OPN ?_ | refine OM ?_ | refine SM ?_ | refine OMN ?_ | refine WM.nil ?_ | refine OQ ?_ | refine SQ ?_ | refine TH ?_ | refine WR.nil ?_ | refine WQ.nil ?_ | refine W.seq ?_ | refine W.region ?_ | refine DR ?_ | refine IFT ?_ | refine IFF ?_ | refine W.skip ?_ | refine W.block ?_ | refine W.exit ?_ | refine W.ret ?_ | (simp only [tN, tR, tE, rN, rR, rE, xN, xR, xE, reduceIte]) | refine DN ?_
          exact ⟨s.length - (i + 1), by omega, i + 1, by omega, by omega, by simp [setF_if, *], by simp [setF_if, *], by simp [setF_if, *], by simp [upd_if, *], more.out (by rw [hat.out]; simp only [decide_true, decide_false, Bool.not_true, Bool.not_false, Bool.and_true, Bool.true_and, Bool.and_false, Bool.false_and, Bool.and_self, c1, c3, c4])⟩
      · repeat first | refine OP ?_ | refine SK ?_ | refine OPN ?_ | refine OM ?_ | refine SM ?_ | refine OMN ?_ | refine WM.nil ?_ | refine OQ ?_ | refine SQ ?_ | refine TH ?_ | refine WR.nil ?_ | refine WQ.nil ?_ | refine W.seq ?_ | refine W.region ?_ | refine DR ?_ | refine IFT ?_ | refine IFF ?_ | refine W.skip ?_ | refine W.block ?_ | refine W.exit ?_ | refine W.ret ?_ | (simp only [tN, tR, tE, rN, rR, rE, xN, xR, xE, reduceIte]) | refine DN ?_
        exact ⟨s.length - (i + 1), by omega, i + 1, by omega, by omega, by simp [setF_if, *], by simp [setF_if, *], by simp [setF_if, *], by simp [upd_if, *], more.out (by rw [hat.out]; simp only [decide_true, decide_false, Bool.not_true, Bool.not_false, Bool.and_true, Bool.true_and, Bool.and_false, Bool.false_and, Bool.and_self, c1, c3])⟩
    · repeat first | refine OP ?_ | refine SK ?_ | refine OPN ?_ | refine OM ?_ | refine SM ?_ | refine OMN ?_ | refine WM.nil ?_ | refine OQ ?_ | refine SQ ?_ | refine TH ?_ | refine WR.nil ?_ | refine WQ.nil ?_ | refine W.seq ?_ | refine W.region ?_ | refine DR ?_ | refine IFT ?_ | refine IFF ?_ | refine W.skip ?_ | refine W.block ?_ | refine W.exit ?_ | refine W.ret ?_ | (simp only [tN, tR, tE, rN, rR, rE, xN, xR, xE, reduceIte]) | refine DN ?_
      have := hno.out (by rw [hat.out]; simp [c1])
      simp [retA, backA, this]
  · have e : i = s.length := by omega
    have hyes : ascM P s = true := all_yes (fun j hj => hall.out j (by omega))
    repeat first | refine OP ?_ | refine SK ?_ | refine OPN ?_ | refine OM ?_ | refine SM ?_ | refine OMN ?_ | refine WM.nil ?_ | refine OQ ?_ | refine SQ ?_ | refine TH ?_ | refine WR.nil ?_ | refine WQ.nil ?_ | refine W.seq ?_ | refine W.region ?_ | refine DR ?_ | refine IFT ?_ | refine IFF ?_ | refine W.skip ?_ | refine W.block ?_ | refine W.exit ?_ | refine W.ret ?_ | (simp only [tN, tR, tE, rN, rR, rE, xN, xR, xE, reduceIte]) | refine DN ?_
    simp [retA, backA, hyes]
theorem isAscending_fn (G : Gv) (hG : ∀ f args H n r H' n', sortsG f args H n r H' n' → G f args H n r H' n') (hG1 : ∀ f args H n r H' n', sortsG1 f args H n r H' n' → G f args H n r H' n') (r : List (Int × Int)) (l : List PieceM) (s : List (Int × List Int)) (hr1 : 1 ≤ r.length) (hr : r.length < 1000000000) (hl1 : 1 ≤ l.length) (hl : l.length < 1000000000) (hs : s.length < 1000000000) (hsc : ∀ x ∈ s, x.2.length < 1000000000) (hp0 : ∀ p ∈ l, 0 < p.cs.length) (hpl : ∀ p ∈ l, p.cs.length < 1000000000) :
    Gives Tryz.prog G 119 [.ag [.sl 0 (cells r), .sl 0 (pieces l)], .sl 0 (places s)] (.b (ascM (fun x => placeI r l x.1 x.2) s)) := by
  refine .of (.body Tryz.func119 rfl (by simp [Tryz.ntmps119]) ?_)
  rw [Tryz.ntmps119, Tryz.results119]
  replace hG := Hid.mk hG
  replace hG1 := Hid.mk hG1
  replace hsc := Hid.mk hsc
  replace hp0 := Hid.mk hp0
  replace hpl := Hid.mk hpl
  have hlen := places_len s
  generalize hPd : (fun x : Int × List Int => placeI r l x.1 x.2) = P
  have hP : ∀ x, placeI r l x.1 x.2 = P x := fun x => by rw [← hPd]
  clear hPd
  replace hP := Hid.mk hP
  repeat first | refine OP ?_ | refine SK ?_ | refine OPN ?_ | refine OM ?_ | refine SM ?_ | refine OMN ?_ | refine WM.nil ?_ | refine OQ ?_ | refine SQ ?_ | refine TH ?_ | refine WR.nil ?_ | refine WQ.nil ?_ | refine W.seq ?_ | refine W.region ?_ | refine DR ?_ | refine IFT ?_ | refine IFF ?_ | refine W.skip ?_ | refine W.block ?_ | refine W.exit ?_ | refine W.ret ?_ | (simp only [tN, tR, tE, rN, rR, rE, xN, xR, xE, reduceIte]) | refine DN ?_
  refine .loop (.inv (fun d E H n' => ∃ i : Nat, i + d = s.length ∧ 0 < n' ∧ E 1 = .sl 0 (places s) ∧ E 2 = .ptr 0 0 0 0 ∧ E 7 = .sl 0 (places s) ∧ E 8 = .i .i64 s.length ∧ E 9 = .i .i64 i ∧ H 0 = some (.box 35 [.sl 0 (cells r), .sl 0 (pieces l)]) ∧ (∀ j, j < i → ascAt P s j = true)) s.length ?_ ?_)
  · exact ⟨0, by omega, by omega, by simp [setF_if, argE], by simp [setF_if, argE], by simp [setF_if, argE], by simp [setF_if, argE, hlen], by simp [setF_if, argE], by simp [upd_if], fun j hj => by omega⟩
  rintro d E H n' ⟨i, hi, hn, h1, h2, h7, h8, h9, hH, hall⟩
  replace hall := Hid.mk hall
  by_cases c : (i : Int) < s.length
  · have hw_i : IntKind.i64.wrap ((i : Int) + 1) = (i : Int) + 1 := wr64 (by omega) (by omega)
    have cN : i < s.length := by omega
    have hrow := places_getD cN
    have hat : ascAt P s i = ascAt P s i := rfl
    conv at hat => rhs; unfold ascAt
    have hno : ascAt P s i = false → ascM P s = false := fun h => all_no (by omega) h
    have more : ascAt P s i = true → ∀ j, j < i + 1 → ascAt P s j = true := fun h j hj => by
      by_cases e : j = i
      · rw [e]; exact h
      · exact hall.out j (by omega)
    replace hno := Hid.mk hno
    replace more := Hid.mk more
    have hxl := hsc.out _ (getD_mem cN)
    have hrow2 : (i : Int) > 0 → (places s)[((i : Int) - 1).toNat]? = some (placR (s.getD (i - 1) pz)) := fun h => by rw [show ((i : Int) - 1).toNat = i - 1 by omega]; exact places_getD (by omega)
    have hyl := hsc.out _ (getD_mem (l := s) (i := i - 1) (by omega))
    generalize s.getD i pz = x at hrow hat hxl
    generalize s.getD (i - 1) pz = y at hrow2 hat hyl
    obtain ⟨xk, xs⟩ := x
    obtain ⟨yk, ys⟩ := y
    have hPx := hP.out (xk, xs)
    simp only at hPx
    replace hat := Hid.mk hat
    replace hrow2 := Hid.mk hrow2
    repeat first | refine OP ?_ | refine SK ?_ | refine OPN ?_ | refine OM ?_ | refine SM ?_ | refine OMN ?_ | refine WM.nil ?_ | refine OQ ?_ | refine SQ ?_ | refine TH ?_ | refine WR.nil ?_ | refine WQ.nil ?_ | refine W.seq ?_ | refine W.region ?_ | refine DR ?_ | refine IFT ?_ | refine IFF ?_ | refine W.skip ?_ | refine W.block ?_ | refine W.exit ?_ | refine W.ret ?_ | (simp only [tN, tR, tE, rN, rR, rE, xN, xR, xE, reduceIte]) | refine DN ?_
    refine CQ (isPlacement_fn G hG.out hG1.out r l xk xs hr1 hr hl1 hl hxl hp0.out hpl.out) ?_
    rw [hPx]
    replace hPx := Hid.mk hPx
    by_cases c1 : P (xk, xs) = true
    · by_cases c3 : (i : Int) > 0
      · have hrow3 := hrow2.out c3
        have hw : IntKind.i64.wrap ((i : Int) - 1) = (i : Int) - 1 := wr64 (by omega) (by omega)
        have h01 : 0 ≤ (i : Int) - 1 := by omega
        repeat first | refine OP ?_ | refine SK ?_ | refine OPN ?_ | refine OM ?_ | refine SM ?_ | refine OMN ?_ | refine WM.nil ?_ | refine OQ ?_ | refine SQ ?_ | refine TH ?_ | refine WR.nil ?_ | refine WQ.nil ?_ | refine W.seq ?_ | refine W.region ?_ | refine DR ?_ | refine IFT ?_ | refine IFF ?_ | refine W.skip ?_ | refine W.block ?_ | refine W.exit ?_ | refine W.ret ?_ | (simp only [tN, tR, tE, rN, rR, rE, xN, xR, xE, reduceIte]) | refine DN ?_
        refine CQ (implComparePl_fn G (yk, ys) (xk, xs) hyl hxl) ?_
        by_cases c4 : cmpP (yk, ys) (xk, xs) ≥ 0
        · repeat first | refine OP ?_ | refine SK ?_ | refine OPN ?_ | refine OM ?_ | refine SM ?_ | refine OMN ?_ | refine WM.nil ?_ | refine OQ ?_ | refine SQ ?_ | refine TH ?_ | refine WR.nil ?_ | refine WQ.nil ?_ | refine W.seq ?_ | refine W.region ?_ | refine DR ?_ | refine IFT ?_ | refine IFF ?_ | refine W.skip ?_ | refine W.block ?_ | refine W.exit ?_ | refine W.ret ?_ | (simp only [tN, tR, tE, rN, rR, rE, xN, xR, xE, reduceIte]) | refine DN ?_
          have := hno.out (by rw [hat.out]; simp only [decide_true, decide_false, Bool.not_true, Bool.not_false, Bool.and_true, Bool.true_and, Bool.and_false, Bool.false_and, Bool.and_self, c1, c3, c4])
          simp [retA, backA, this]
        · repeat first | refine OP ?_ | refine SK ?_ | refine OPN ?_ | refine OM ?_ | refine SM ?_ | refine OMN ?_ | refine WM.nil ?_ | refine OQ ?_ | refine SQ ?_ | refine TH ?_ | refine WR.nil ?_ | refine WQ.nil ?_ | refine W.seq ?_ | refine W.region ?_ | refine DR ?_ | refine IFT ?_ | refine IFF ?_ | refine W.skip ?_ | refine W.block ?_ | refine W.exit ?_ | refine W.ret ?_ | (simp only [tN, tR, tE, rN, rR, rE, xN, xR, xE, reduceIte]) | refine DN ?_
          exact ⟨s.length - (i + 1), by omega, i + 1, by omega, by omega, by simp [setF_if, *], by simp [setF_if, *], by simp [setF_if, *], by simp [setF_if, *], by simp [setF_if, *], by simp [upd_if, *], more.out (by rw [hat.out]; simp only [decide_true, decide_false, Bool.not_true, Bool.not_false, Bool.and_true, Bool.true_and, Bool.and_false, Bool.false_and, Bool.and_self, c1, c3, c4])⟩
      · repeat first | refine OP ?_ | refine SK ?_ | refine OPN ?_ | refine OM ?_ | refine SM ?_ | refine OMN ?_ | refine WM.nil ?_ | refine OQ ?_ | refine SQ ?_ | refine TH ?_ | refine WR.nil ?_ | refine WQ.nil ?_ | refine W.seq ?_ | refine W.region ?_ | refine DR ?_ | refine IFT ?_ | refine IFF ?_ | refine W.skip ?_ | refine W.block ?_ | refine W.exit ?_ | refine W.ret ?_ | (simp only [tN, tR, tE, rN, rR, rE, xN, xR, xE, reduceIte]) | refine DN ?_
        exact ⟨s.length - (i + 1), by omega, i + 1, by omega, by omega, by simp [setF_if, *], by simp [setF_if, *], by simp [setF_if, *], by simp [setF_if, *], by simp [setF_if, *], by simp [upd_if, *], more.out (by rw [hat.out]; simp only [decide_true, decide_false, Bool.not_true, Bool.not_false, Bool.and_true, Bool.true_and, Bool.and_false, Bool.false_and, Bool.and_self, c1, c3])⟩
    · repeat first | refine OP ?_ | refine SK ?_ | refine OPN ?_ | refine OM ?_ | refine SM ?_ | refine OMN ?_ | refine WM.nil ?_ | refine OQ ?_ | refine SQ ?_ | refine TH ?_ | refine WR.nil ?_ | refine WQ.nil ?_ | refine W.seq ?_ | refine W.region ?_ | refine DR ?_ | refine IFT ?_ | refine IFF ?_ | refine W.skip ?_ | refine W.block ?_ | refine W.exit ?_ | refine W.ret ?_ | (simp only [tN, tR, tE, rN, rR, rE, xN, xR, xE, reduceIte]) | refine DN ?_
      have := hno.out (by rw [hat.out]; simp [c1])
      simp [retA, backA, this]
  · have e : i = s.length := by omega
    have hyes : ascM P s = true := all_yes (fun j hj => hall.out j (by omega))
    repeat first | refine OP ?_ | refine SK ?_ | refine OPN ?_ | refine OM ?_ | refine SM ?_ | refine OMN ?_ | refine WM.nil ?_ | refine OQ ?_ | refine SQ ?_ | refine TH ?_ | refine WR.nil ?_ | refine WQ.nil ?_ | refine W.seq ?_ | refine W.region ?_ | refine DR ?_ | refine IFT ?_ | refine IFF ?_ | refine W.skip ?_ | refine W.block ?_ | refine W.exit ?_ | refine W.ret ?_ | (simp only [tN, tR, tE, rN, rR, rE, xN, xR, xE, reduceIte]) | refine DN ?_
    simp [retA, backA, hyes]
end Go.Proofs
end
section
open Go Go.Big
namespace Go.Proofs
set_option maxHeartbeats 2000000
def areaF (l : List PieceM) : Int := l.foldl (fun n p => IntKind.i64.wrap (n + IntKind.i64.wrap (p.k * p.cs.length))) 0
theorem areaF_take {l : List PieceM} {i : Nat} {p : PieceM} (h : l[i]? = some p) : areaF (l.take (i + 1)) = IntKind.i64.wrap (areaF (l.take i) + IntKind.i64.wrap (p.k * p.cs.length)) := by
  obtain ⟨hi, rfl⟩ := List.getElem?_eq_some_iff.mp h
  unfold areaF
  rw [List.take_succ_eq_append_getElem hi, List.foldl_append]; rfl
theorem pieceArea_fn (G : Gv) (r : List (Int × Int)) (l : List PieceM) (hl : l.length < 1000000000) : Gives Tryz.prog G 157 [.ag [.sl 0 (cells r), .sl 0 (pieces l)]] (.i .i64 (areaF l)) := by
  refine .of (.body Tryz.func157 rfl (by simp [Tryz.ntmps157]) ?_)
  rw [Tryz.ntmps157, Tryz.results157]
  have hlen := pieces_len l
  repeat first | refine OP ?_ | refine SK ?_ | refine OPN ?_ | refine OM ?_ | refine SM ?_ | refine OMN ?_ | refine WM.nil ?_ | refine OQ ?_ | refine SQ ?_ | refine TH ?_ | refine WR.nil ?_ | refine WQ.nil ?_ | refine W.seq ?_ | refine W.region ?_ | refine DR ?_ | refine IFT ?_ | refine IFF ?_ | refine W.skip ?_ | refine W.block ?_ | refine W.exit ?_ | refine W.ret ?_ | (simp only [tN, tR, tE, rN, rR, rE, xN, xR, xE, reduceIte]) | refine DN ?_
  refine .loop (.inv (fun d E H n' => ∃ i : Nat, i + d = l.length ∧ E 3 = .i .i64 (areaF (l.take i)) ∧ E 7 = .sl 0 (pieces l) ∧ E 8 = .i .i64 l.length ∧ E 9 = .i .i64 i) l.length ?_ ?_)
  · exact ⟨0, by omega, by simp [setF_if, argE, areaF], by simp [setF_if, argE], by simp [setF_if, argE, hlen], by simp [setF_if, argE]⟩
  rintro d E H n' ⟨i, hi, h3, h7, h8, h9⟩
  by_cases c : (i : Int) < l.length
  · have hw_i : IntKind.i64.wrap ((i : Int) + 1) = (i : Int) + 1 := wr64 (by omega) (by omega)
    obtain ⟨p, hp⟩ : ∃ p, l[i]? = some p := ⟨_, List.getElem?_eq_getElem (by omega)⟩
    have hr := pieces_at hp
    have ha := areaF_take hp
    have hcl := cells_len p.cs
    replace ha := Hid.mk ha
    replace hp := Hid.mk hp
    repeat first | refine OP ?_ | refine SK ?_ | refine OPN ?_ | refine OM ?_ | refine SM ?_ | refine OMN ?_ | refine WM.nil ?_ | refine OQ ?_ | refine SQ ?_ | refine TH ?_ | refine WR.nil ?_ | refine WQ.nil ?_ | refine W.seq ?_ | refine W.region ?_ | refine DR ?_ | refine IFT ?_ | refine IFF ?_ | refine W.skip ?_ | refine W.block ?_ | refine W.exit ?_ | refine W.ret ?_ | (simp only [tN, tR, tE, rN, rR, rE, xN, xR, xE, reduceIte]) | refine DN ?_
    exact ⟨l.length - (i + 1), by omega, i + 1, by omega, by simp [setF_if, *, ha.out], by simp [setF_if, *], by simp [setF_if, *], by simp [setF_if, *]⟩
  · have e : i = l.length := by omega
    rw [e, List.take_length] at h3
    repeat first | refine OP ?_ | refine SK ?_ | refine OPN ?_ | refine OM ?_ | refine SM ?_ | refine OMN ?_ | refine WM.nil ?_ | refine OQ ?_ | refine SQ ?_ | refine TH ?_ | refine WR.nil ?_ | refine WQ.nil ?_ | refine W.seq ?_ | refine W.region ?_ | refine DR ?_ | refine IFT ?_ | refine IFF ?_ | refine W.skip ?_ | refine W.block ?_ | refine W.exit ?_ | refine W.ret ?_ | (simp only [tN, tR, tE, rN, rR, rE, xN, xR, xE, reduceIte]) | refine DN ?_
    simp [retA, backA, *]
theorem l11Area_fn (G : Gv) (r : List (Int × Int)) (l : List PieceM) (hl : l.length < 1000000000) : Gives Tryz.prog G 154 [.ag [.sl 0 (cells r), .sl 0 (pieces l)]] (.i .i64 (areaF l)) := by
  refine .of (.body Tryz.func154 rfl (by simp [Tryz.ntmps154]) ?_)
  rw [Tryz.ntmps154, Tryz.results154]
  have hlen := pieces_len l
  repeat first | refine OP ?_ | refine SK ?_ | refine OPN ?_ | refine OM ?_ | refine SM ?_ | refine OMN ?_ | refine WM.nil ?_ | refine OQ ?_ | refine SQ ?_ | refine TH ?_ | refine WR.nil ?_ | refine WQ.nil ?_ | refine W.seq ?_ | refine W.region ?_ | refine DR ?_ | refine IFT ?_ | refine IFF ?_ | refine W.skip ?_ | refine W.block ?_ | refine W.exit ?_ | refine W.ret ?_ | (simp only [tN, tR, tE, rN, rR, rE, xN, xR, xE, reduceIte]) | refine DN ?_
  refine .loop (.inv (fun d E H n' => ∃ i : Nat, i + d = l.length ∧ 0 < n' ∧ E 1 = .ptr 0 0 0 0 ∧ E 3 = .i .i64 (areaF (l.take i)) ∧ E 4 = .i .i64 i ∧ H 0 = some (.box 35 [.sl 0 (cells r), .sl 0 (pieces l)])) l.length ?_ ?_)
  · exact ⟨0, by omega, by omega, by simp [setF_if, argE], by simp [setF_if, argE, areaF], by simp [setF_if, argE], by simp [upd_if]⟩
  rintro d E H n' ⟨i, hi, hn, h1, h3, h4, hH⟩
  by_cases c : (i : Int) < l.length
  · have hw_i : IntKind.i64.wrap ((i : Int) + 1) = (i : Int) + 1 := wr64 (by omega) (by omega)
    obtain ⟨p, hp⟩ : ∃ p, l[i]? = some p := ⟨_, List.getElem?_eq_getElem (by omega)⟩
    have hr := pieces_at hp
    have ha := areaF_take hp
    have hcl := cells_len p.cs
    replace ha := Hid.mk ha
    replace hp := Hid.mk hp
    repeat first | refine OP ?_ | refine SK ?_ | refine OPN ?_ | refine OM ?_ | refine SM ?_ | refine OMN ?_ | refine WM.nil ?_ | refine OQ ?_ | refine SQ ?_ | refine TH ?_ | refine WR.nil ?_ | refine WQ.nil ?_ | refine W.seq ?_ | refine W.region ?_ | refine DR ?_ | refine IFT ?_ | refine IFF ?_ | refine W.skip ?_ | refine W.block ?_ | refine W.exit ?_ | refine W.ret ?_ | (simp only [tN, tR, tE, rN, rR, rE, xN, xR, xE, reduceIte]) | refine DN ?_
    exact ⟨l.length - (i + 1), by omega, i + 1, by omega, by omega, by simp [setF_if, *], by simp [setF_if, *, ha.out], by simp [setF_if, *], by simp [upd_if, *]⟩
  · have e : i = l.length := by omega
    rw [e, List.take_length] at h3
    repeat first | refine OP ?_ | refine SK ?_ | refine OPN ?_ | refine OM ?_ | refine SM ?_ | refine OMN ?_ | refine WM.nil ?_ | refine OQ ?_ | refine SQ ?_ | refine TH ?_ | refine WR.nil ?_ | refine WQ.nil ?_ | refine W.seq ?_ | refine W.region ?_ | refine DR ?_ | refine IFT ?_ | refine IFF ?_ | refine W.skip ?_ | refine W.block ?_ | refine W.exit ?_ | refine W.ret ?_ | (simp only [tN, tR, tE, rN, rR, rE, xN, xR, xE, reduceIte]) | refine DN ?_
    simp [retA, backA, *]
def fitsI (r : List (Int × Int)) (l : List PieceM) : Bool := puzzleI r l && areaF l == r.length
def fitsS (r : List (Int × Int)) (l : List PieceM) : Bool := puzzleS r l && areaF l == r.length
theorem implDoesFit_fn (G : Gv) (hG : ∀ f args H n r H' n', sortsG f args H n r H' n' → G f args H n r H' n') (hG1 : ∀ f args H n r H' n', sortsG1 f args H n r H' n' → G f args H n r H' n') (r : List (Int × Int)) (l : List PieceM) (hr : r.length < 1000000000) (hl : l.length < 1000000000) (hc : ∀ p ∈ l, p.cs.length < 1000000000) : Gives Tryz.prog G 94 [.ag [.sl 0 (cells r), .sl 0 (pieces l)]] (.b (fitsI r l)) := by
  refine .of (.body Tryz.func94 rfl (by simp [Tryz.ntmps94]) ?_)
  rw [Tryz.ntmps94, Tryz.results94]
  have hlen := cells_len r
  replace hG := Hid.mk hG
  replace hG1 := Hid.mk hG1
  replace hc := Hid.mk hc
  repeat first | refine OP ?_ | refine SK ?_ | refine OPN ?_ | refine OM ?_ | refine SM ?_ | refine OMN ?_ | refine WM.nil ?_ | refine OQ ?_ | refine SQ ?_ | refine TH ?_ | refine WR.nil ?_ | refine WQ.nil ?_ | refine W.seq ?_ | refine W.region ?_ | refine DR ?_ | refine IFT ?_ | refine IFF ?_ | refine W.skip ?_ | refine W.block ?_ | refine W.exit ?_ | refine W.ret ?_ | (simp only [tN, tR, tE, rN, rR, rE, xN, xR, xE, reduceIte]) | refine DN ?_
  refine CQ (implIsPuzzle_fn G hG.out hG1.out r l hr hl hc.out) ?_
  by_cases c : puzzleI r l = true
  · repeat first | refine OP ?_ | refine SK ?_ | refine OPN ?_ | refine OM ?_ | refine SM ?_ | refine OMN ?_ | refine WM.nil ?_ | refine OQ ?_ | refine SQ ?_ | refine TH ?_ | refine WR.nil ?_ | refine WQ.nil ?_ | refine W.seq ?_ | refine W.region ?_ | refine DR ?_ | refine IFT ?_ | refine IFF ?_ | refine W.skip ?_ | refine W.block ?_ | refine W.exit ?_ | refine W.ret ?_ | (simp only [tN, tR, tE, rN, rR, rE, xN, xR, xE, reduceIte]) | refine DN ?_
    refine CQ (pieceArea_fn G r l hl) ?_
    repeat first | refine OP ?_ | refine SK ?_ | refine OPN ?_ | refine OM ?_ | refine SM ?_ | refine OMN ?_ | refine WM.nil ?_ | refine OQ ?_ | refine SQ ?_ | refine TH ?_ | refine WR.nil ?_ | refine WQ.nil ?_ | refine W.seq ?_ | refine W.region ?_ | refine DR ?_ | refine IFT ?_ | refine IFF ?_ | refine W.skip ?_ | refine W.block ?_ | refine W.exit ?_ | refine W.ret ?_ | (simp only [tN, tR, tE, rN, rR, rE, xN, xR, xE, reduceIte]) | refine DN ?_
    simp [retA, backA, fitsI, *]
  · repeat first | refine OP ?_ | refine SK ?_ | refine OPN ?_ | refine OM ?_ | refine SM ?_ | refine OMN ?_ | refine WM.nil ?_ | refine OQ ?_ | refine SQ ?_ | refine TH ?_ | refine WR.nil ?_ | refine WQ.nil ?_ | refine W.seq ?_ | refine W.region ?_ | refine DR ?_ | refine IFT ?_ | refine IFF ?_ | refine W.skip ?_ | refine W.block ?_ | refine W.exit ?_ | refine W.ret ?_ | (simp only [tN, tR, tE, rN, rR, rE, xN, xR, xE, reduceIte]) | refine DN ?_
    simp [retA, backA, fitsI, *]
theorem specDoesFit_fn (G : Gv) (r : List (Int × Int)) (l : List PieceM) (hr : r.length < 1000000000) (hl : l.length < 1000000000) (hc : ∀ p ∈ l, p.cs.length < 1000000000) : Gives Tryz.prog G 92 [.ag [.sl 0 (cells r), .sl 0 (pieces l)]] (.b (fitsS r l)) := by
  refine .of (.body Tryz.func92 rfl (by simp [Tryz.ntmps92]) ?_)
  rw [Tryz.ntmps92, Tryz.results92]
  have hlen := cells_len r
  replace hc := Hid.mk hc
  repeat first | refine OP ?_ | refine SK ?_ | refine OPN ?_ | refine OM ?_ | refine SM ?_ | refine OMN ?_ | refine WM.nil ?_ | refine OQ ?_ | refine SQ ?_ | refine TH ?_ | refine WR.nil ?_ | refine WQ.nil ?_ | refine W.seq ?_ | refine W.region ?_ | refine DR ?_ | refine IFT ?_ | refine IFF ?_ | refine W.skip ?_ | refine W.block ?_ | refine W.exit ?_ | refine W.ret ?_ | (simp only [tN, tR, tE, rN, rR, rE, xN, xR, xE, reduceIte]) | refine DN ?_
  refine CQ (specIsPuzzle_fn G r l hr hl hc.out) ?_
  by_cases c : puzzleS r l = true
  · repeat first | refine OP ?_ | refine SK ?_ | refine OPN ?_ | refine OM ?_ | refine SM ?_ | refine OMN ?_ | refine WM.nil ?_ | refine OQ ?_ | refine SQ ?_ | refine TH ?_ | refine WR.nil ?_ | refine WQ.nil ?_ | refine W.seq ?_ | refine W.region ?_ | refine DR ?_ | refine IFT ?_ | refine IFF ?_ | refine W.skip ?_ | refine W.block ?_ | refine W.exit ?_ | refine W.ret ?_ | (simp only [tN, tR, tE, rN, rR, rE, xN, xR, xE, reduceIte]) | refine DN ?_
    refine CQ (l11Area_fn G r l hl) ?_
    repeat first | refine OP ?_ | refine SK ?_ | refine OPN ?_ | refine OM ?_ | refine SM ?_ | refine OMN ?_ | refine WM.nil ?_ | refine OQ ?_ | refine SQ ?_ | refine TH ?_ | refine WR.nil ?_ | refine WQ.nil ?_ | refine W.seq ?_ | refine W.region ?_ | refine DR ?_ | refine IFT ?_ | refine IFF ?_ | refine W.skip ?_ | refine W.block ?_ | refine W.exit ?_ | refine W.ret ?_ | (simp only [tN, tR, tE, rN, rR, rE, xN, xR, xE, reduceIte]) | refine DN ?_
    simp [retA, backA, fitsS, *]
  · repeat first | refine OP ?_ | refine SK ?_ | refine OPN ?_ | refine OM ?_ | refine SM ?_ | refine OMN ?_ | refine WM.nil ?_ | refine OQ ?_ | refine SQ ?_ | refine TH ?_ | refine WR.nil ?_ | refine WQ.nil ?_ | refine W.seq ?_ | refine W.region ?_ | refine DR ?_ | refine IFT ?_ | refine IFF ?_ | refine W.skip ?_ | refine W.block ?_ | refine W.exit ?_ | refine W.ret ?_ | (simp only [tN, tR, tE, rN, rR, rE, xN, xR, xE, reduceIte]) | refine DN ?_
    simp [retA, backA, fitsS, *]
end Go.Proofs
end
section
open Go Go.Big
namespace Go.Proofs
set_option maxHeartbeats 2000000
def bools (l : List Bool) : List (List PV) := l.map fun x => [.b x]
theorem bools_len (l : List Bool) : (bools l).length = l.length := by simp [bools]
theorem bools_at {l : List Bool} {i : Nat} (h : i < l.length) : (bools l)[i]? = some [.b (l.getD i false)] := by simp [bools, h, List.getD_eq_getElem?_getD]
theorem bools_set (l : List Bool) (k : Nat) (v : Bool) : bools (l.set k v) = (bools l).set k [.b v] := by simp [bools, List.map_set]
def covC : List Bool → List Int → Option (List Bool)
  | cov, [] => some cov
  | cov, c :: cs => if cov.getD c.toNat false then none else covC (cov.set c.toNat true) cs
def covL : List Bool → List (Int × List Int) → Option (List Bool)
  | cov, [] => some cov
  | cov, x :: l => (covC cov x.2).bind fun c => covL c l
def incM (out : List Int) (x : Int × List Int) : List Int := out.set x.1.toNat (IntKind.i64.wrap (out.getD x.1.toNat 0 + 1))
theorem inc_len : ∀ (s : List (Int × List Int)) (o : List Int), (s.foldl incM o).length = o.length
  | [], _ => rfl
  | x :: s, o => by rw [List.foldl_cons, inc_len s]; simp [incM]
def countM (l : List PieceM) (s : List (Int × List Int)) : List Int := s.foldl incM (List.replicate l.length 0)
def sumI (l : List PieceM) (s : List (Int × List Int)) (i : Nat) : Bool := (countM l s).getD i 0 == (l.getD i pc0).k
def solvedI (r : List (Int × Int)) (l : List PieceM) (s : List (Int × List Int)) : Bool :=
  ascM (fun x => placeI r l x.1 x.2) s && (covL (List.replicate r.length false) s).isSome && (List.range l.length).all (sumI l s)
theorem asc_mem {P : Int × List Int → Bool} {s : List (Int × List Int)} (h : ascM P s = true) {x : Int × List Int} (hx : x ∈ s) : P x = true := by
  obtain ⟨i, hi, rfl⟩ := List.mem_iff_getElem.mp hx
  have := List.all_eq_true.mp h i (List.mem_range.mpr hi)
  unfold ascAt at this
  rw [Bool.and_eq_true] at this
  simpa [List.getD_eq_getElem?_getD, hi] using this.1
theorem place_ok {r : List (Int × Int)} {l : List PieceM} {k : Int} {s : List Int} (h : placeI r l k s = true) : (0 ≤ k ∧ k < l.length) ∧ ∀ c ∈ s, 0 ≤ c ∧ c < r.length := by
  unfold placeI at h
  simp only [Bool.and_eq_true, decide_eq_true_eq] at h
  obtain ⟨⟨⟨⟨h1, h2⟩, _⟩, h3⟩, _⟩ := h
  exact ⟨⟨h1, by omega⟩, fun c hc => by have := inc_mem h3 c hc; omega⟩
theorem isSolved_fn (G : Gv) (hG : ∀ f args H n r H' n', sortsG f args H n r H' n' → G f args H n r H' n') (hG1 : ∀ f args H n r H' n', sortsG1 f args H n r H' n' → G f args H n r H' n') (r : List (Int × Int)) (l : List PieceM) (s : List (Int × List Int)) (hr1 : 1 ≤ r.length) (hr : r.length < 1000000000) (hl1 : 1 ≤ l.length) (hl : l.length < 1000000000) (hs : s.length < 1000000000) (hsc : ∀ x ∈ s, x.2.length < 1000000000) (hp0 : ∀ p ∈ l, 0 < p.cs.length) (hpl : ∀ p ∈ l, p.cs.length < 1000000000) :
    Gives Tryz.prog G 167 [.ag [.sl 0 (cells r), .sl 0 (pieces l)], .sl 0 (places s)] (.b (solvedI r l s)) := by
  refine .of (.body Tryz.func167 rfl (by simp [Tryz.ntmps167]) ?_)
  rw [Tryz.ntmps167, Tryz.results167]
  replace hG := Hid.mk hG
  replace hG1 := Hid.mk hG1
  replace hsc := Hid.mk hsc
  replace hp0 := Hid.mk hp0
  replace hpl := Hid.mk hpl
  have hlens := places_len s
  have hlenr := cells_len r
  have hlenl := pieces_len l
  have b1 : ((8 : Nat) : Int) * l.length ≤ 281474976710656 := by simp; omega
  have b2 : (l.length : Int) ≤ 9223372036854775807 := by omega
  have b3 : (0 : Int) ≤ l.length := by omega
  have d1 : ((1 : Nat) : Int) * r.length ≤ 281474976710656 := by simp; omega
  have d2 : (r.length : Int) ≤ 9223372036854775807 := by omega
  have d3 : (0 : Int) ≤ r.length := by omega
  repeat first | refine OP ?_ | refine SK ?_ | refine OPN ?_ | refine OM ?_ | refine SM ?_ | refine OMN ?_ | refine WM.nil ?_ | refine OQ ?_ | refine SQ ?_ | refine TH ?_ | refine WR.nil ?_ | refine WQ.nil ?_ | refine W.seq ?_ | refine W.region ?_ | refine DR ?_ | refine IFT ?_ | refine IFF ?_ | refine W.skip ?_ | refine W.block ?_ | refine W.exit ?_ | refine W.ret ?_ | (simp only [tN, tR, tE, rN, rR, rE, xN, xR, xE, reduceIte]) | refine DN ?_
  refine CV (isAscending_fn G hG.out hG1.out r l s hr1 hr hl1 hl hs hsc.out hp0.out hpl.out) ?_
  by_cases ca : ascM (fun x => placeI r l x.1 x.2) s = true
  · have hin : ∀ x ∈ s, (0 ≤ x.1 ∧ x.1 < l.length) ∧ ∀ c ∈ x.2, 0 ≤ c ∧ c < r.length := fun x hx => place_ok (asc_mem ca hx)
    replace hin := Hid.mk hin
    unfold solvedI
    rw [ca]
    replace ca := Hid.mk ca
    generalize hcov0 : covL (List.replicate r.length false) s = fin
    replace hcov0 := Hid.mk hcov0
    repeat first | refine OP ?_ | refine SK ?_ | refine OPN ?_ | refine OM ?_ | refine SM ?_ | refine OMN ?_ | refine WM.nil ?_ | refine OQ ?_ | refine SQ ?_ | refine TH ?_ | refine WR.nil ?_ | refine WQ.nil ?_ | refine W.seq ?_ | refine W.region ?_ | refine DR ?_ | refine IFT ?_ | refine IFF ?_ | refine W.skip ?_ | refine W.block ?_ | refine W.exit ?_ | refine W.ret ?_ | (simp only [tN, tR, tE, rN, rR, rE, xN, xR, xE, reduceIte]) | refine DN ?_
    refine .loop (.inv (fun d E H n' => ∃ i : Nat, i + d = s.length ∧ 14 < n' ∧ E 2 = .ptr 0 0 0 0 ∧ E 5 = .own 9 0 ∧ E 6 = .own 14 0 ∧ E 25 = .sl 0 (places s) ∧ E 26 = .i .i64 s.length ∧ E 27 = .i .i64 i ∧ H 0 = some (.box 35 [.sl 0 (cells r), .sl 0 (pieces l)]) ∧ H 9 = some (.arr 0 2 1 (ints ((s.take i).foldl incM (List.replicate l.length 0))) 1) ∧ ∃ cov, H 14 = some (.arr 0 4 1 (bools cov) 1) ∧ cov.length = r.length ∧ covL cov (s.drop i) = fin) s.length ?_ ?_)
    · exact ⟨0, by omega, by omega, by simp [setF_if, argE], by simp [setF_if, argE], by simp [setF_if, argE], by simp [setF_if, argE], by simp [setF_if, argE, hlens], by simp [setF_if, argE], by simp [upd_if], by simp [upd_if, ints], List.replicate r.length false, by simp [upd_if, bools, hlenr], by simp, by simpa using hcov0.out⟩
    · clear b1 b2 b3 d1 d2 d3
      rintro d E H n' ⟨i, hi, hn, h2, h5, h6, h25, h26, h27, hH0, hH9, cov, hH14, hcl, hcv⟩
      have hn9 : 9 < n' := by omega
      have hn0 : 0 < n' := by omega
      have hn11 : ¬ (n' = 11) := by omega
      by_cases c : (i : Int) < s.length
      · have hw_i : IntKind.i64.wrap ((i : Int) + 1) = (i : Int) + 1 := wr64 (by omega) (by omega)
        obtain ⟨x, hx⟩ : ∃ x, s[i]? = some x := ⟨_, List.getElem?_eq_getElem (by omega)⟩
        have hr' := places_at hx
        obtain ⟨⟨k1, k2⟩, kc⟩ := hin.out x (List.mem_of_getElem? hx)
        have hxl := hsc.out x (List.mem_of_getElem? hx)
        replace kc := Hid.mk kc
        have hol : ((s.take i).foldl incM (List.replicate l.length 0)).length = l.length := by rw [inc_len]; simp
        have hft := foldl_take (f := incM) (z := List.replicate l.length (0 : Int)) hx
        have hro := ints_at (l := (s.take i).foldl incM (List.replicate l.length 0)) (i := x.1.toNat) (by omega)
        have hro2 : x.1.toNat < (ints ((s.take i).foldl incM (List.replicate l.length 0))).length := by rw [ints_len]; omega
        have hset := ints_set ((s.take i).foldl incM (List.replicate l.length 0)) x.1.toNat (IntKind.i64.wrap (((s.take i).foldl incM (List.replicate l.length 0)).getD x.1.toNat 0 + 1))
        rw [show ((s.take i).foldl incM (List.replicate l.length 0)).set x.1.toNat (IntKind.i64.wrap (((s.take i).foldl incM (List.replicate l.length 0)).getD x.1.toNat 0 + 1)) = (s.take (i + 1)).foldl incM (List.replicate l.length 0) by rw [hft]; rfl] at hset
        replace hset := hset.symm
        generalize ((s.take i).foldl incM (List.replicate l.length 0)).getD x.1.toNat 0 = v at hro hset
        generalize ints ((s.take i).foldl incM (List.replicate l.length 0)) = R at hH9 hro hro2 hset
        rw [drop_cons hx, covL] at hcv
        replace hcv := Hid.mk hcv
        replace hx := Hid.mk hx
        replace hft := Hid.mk hft
        clear hol
        obtain ⟨xk, xs⟩ := x
        simp only at k1 k2 kc hxl hro hro2 hset hcv
        have hlenx := ints_len xs
        repeat first | refine OP ?_ | refine SK ?_ | refine OPN ?_ | refine OM ?_ | refine SM ?_ | refine OMN ?_ | refine WM.nil ?_ | refine OQ ?_ | refine SQ ?_ | refine TH ?_ | refine WR.nil ?_ | refine WQ.nil ?_ | refine W.seq ?_ | refine W.region ?_ | refine DR ?_ | refine IFT ?_ | refine IFF ?_ | refine W.skip ?_ | refine W.block ?_ | refine W.exit ?_ | refine W.ret ?_ | (simp only [tN, tR, tE, rN, rR, rE, xN, xR, xE, reduceIte]) | refine DN ?_
        refine .loop (.inv (fun d2 E H n' => ∃ j : Nat, j + d2 = xs.length ∧ 14 < n' ∧ E 2 = .ptr 0 0 0 0 ∧ E 5 = .own 9 0 ∧ E 6 = .own 14 0 ∧ E 25 = .sl 0 (places s) ∧ E 26 = .i .i64 s.length ∧ E 27 = .i .i64 i ∧ E 39 = .sl 0 (ints xs) ∧ E 40 = .i .i64 xs.length ∧ E 41 = .i .i64 j ∧ H 0 = some (.box 35 [.sl 0 (cells r), .sl 0 (pieces l)]) ∧ H 9 = some (.arr 0 2 1 (ints ((s.take (i + 1)).foldl incM (List.replicate l.length 0))) 1) ∧ ∃ cov, H 14 = some (.arr 0 4 1 (bools cov) 1) ∧ cov.length = r.length ∧ (covC cov (xs.drop j)).bind (fun c => covL c (s.drop (i + 1))) = fin) xs.length ?_ ?_)
        · exact ⟨0, by omega, by omega, by simp [setF_if, *], by simp [setF_if, *], by simp [setF_if, *], by simp [setF_if, *], by simp [setF_if, *], by simp [setF_if, *], by simp [setF_if, *], by simp [setF_if, *], by simp [setF_if, *], by simp [upd_if, *], by simp [upd_if, *], cov, by simp [upd_if, *], hcl, by simpa using hcv.out⟩
        clear h2 h5 h6 h25 h26 h27 hH0 hH9 hH14 hcl hcv hro hro2 hset hn hn9 hn0 hn11
        clear cov
        rintro d2 E H n' ⟨j, hj, hn, h2, h5, h6, h25, h26, h27, h39, h40, h41, hH0, hH9, cov, hH14, hcl, hcv⟩
        by_cases cj : (j : Int) < xs.length
        · have hw_j : IntKind.i64.wrap ((j : Int) + 1) = (j : Int) + 1 := wr64 (by omega) (by omega)
          obtain ⟨y, hy⟩ : ∃ y, xs[j]? = some y := ⟨_, List.getElem?_eq_getElem (by omega)⟩
          have hrj := ints_row hy
          obtain ⟨y1, y2⟩ := kc.out y (List.mem_of_getElem? hy)
          rw [drop_cons hy, covC] at hcv
          have hb := bools_at (l := cov) (i := y.toNat) (by omega)
          have hb2 : y.toNat < (bools cov).length := by rw [bools_len]; omega
          have hbs := (bools_set cov y.toNat true).symm
          have hsl : (cov.set y.toNat true).length = r.length := by simpa using hcl
          replace hsl := Hid.mk hsl
          replace hcv := Hid.mk hcv
          replace hy := Hid.mk hy
          replace hcl := Hid.mk hcl
          by_cases cc : cov.getD y.toNat false = true
          · have hf : fin = none := by have := hcv.out; rw [if_pos cc] at this; exact this.symm
            rw [cc] at hb
            replace hf := Hid.mk hf
            repeat first | refine OP ?_ | refine SK ?_ | refine OPN ?_ | refine OM ?_ | refine SM ?_ | refine OMN ?_ | refine WM.nil ?_ | refine OQ ?_ | refine SQ ?_ | refine TH ?_ | refine WR.nil ?_ | refine WQ.nil ?_ | refine W.seq ?_ | refine W.region ?_ | refine DR ?_ | refine IFT ?_ | refine IFF ?_ | refine W.skip ?_ | refine W.block ?_ | refine W.exit ?_ | refine W.ret ?_ | (simp only [tN, tR, tE, rN, rR, rE, xN, xR, xE, reduceIte]) | refine DN ?_
            simp [retA, backA, hf.out]
          · have hcv' := hcv.out
            rw [if_neg cc] at hcv'
            replace hcv' := Hid.mk hcv'
            rw [Bool.eq_false_iff.mpr cc] at hb
            generalize cov.set y.toNat true = cov2 at hbs hsl hcv'
            repeat first | refine OP ?_ | refine SK ?_ | refine OPN ?_ | refine OM ?_ | refine SM ?_ | refine OMN ?_ | refine WM.nil ?_ | refine OQ ?_ | refine SQ ?_ | refine TH ?_ | refine WR.nil ?_ | refine WQ.nil ?_ | refine W.seq ?_ | refine W.region ?_ | refine DR ?_ | refine IFT ?_ | refine IFF ?_ | refine W.skip ?_ | refine W.block ?_ | refine W.exit ?_ | refine W.ret ?_ | (simp only [tN, tR, tE, rN, rR, rE, xN, xR, xE, reduceIte]) | refine DN ?_
            exact ⟨xs.length - (j + 1), by omega, j + 1, by omega, by omega, by simp [setF_if, *], by simp [setF_if, *], by simp [setF_if, *], by simp [setF_if, *], by simp [setF_if, *], by simp [setF_if, *], by simp [setF_if, *], by simp [setF_if, *], by simp [setF_if, *], by simp [upd_if, *], by simp [upd_if, *], cov2, by simp [upd_if, *], hsl.out, hcv'.out⟩
        · have ej : j = xs.length := by omega
          rw [ej, List.drop_length, covC, Option.bind_some] at hcv
          replace hcv := Hid.mk hcv
          replace hcl := Hid.mk hcl
          clear hj ej
          repeat first | refine OP ?_ | refine SK ?_ | refine OPN ?_ | refine OM ?_ | refine SM ?_ | refine OMN ?_ | refine WM.nil ?_ | refine OQ ?_ | refine SQ ?_ | refine TH ?_ | refine WR.nil ?_ | refine WQ.nil ?_ | refine W.seq ?_ | refine W.region ?_ | refine DR ?_ | refine IFT ?_ | refine IFF ?_ | refine W.skip ?_ | refine W.block ?_ | refine W.exit ?_ | refine W.ret ?_ | (simp only [tN, tR, tE, rN, rR, rE, xN, xR, xE, reduceIte]) | refine DN ?_
          exact ⟨s.length - (i + 1), by omega, i + 1, by omega, by omega, by simp [setF_if, *], by simp [setF_if, *], by simp [setF_if, *], by simp [setF_if, *], by simp [setF_if, *], by simp [setF_if, *], by simp [upd_if, *], by simp [upd_if, *], cov, by simp [upd_if, *], hcl.out, hcv.out⟩
      · have ei : i = s.length := by omega
        rw [ei, List.drop_length, covL] at hcv
        rw [ei, List.take_length] at hH9
        subst hcv
        have hol : (s.foldl incM (List.replicate l.length 0)).length = l.length := by rw [inc_len]; simp
        clear hH14 hcl ei hi
        repeat first | refine OP ?_ | refine SK ?_ | refine OPN ?_ | refine OM ?_ | refine SM ?_ | refine OMN ?_ | refine WM.nil ?_ | refine OQ ?_ | refine SQ ?_ | refine TH ?_ | refine WR.nil ?_ | refine WQ.nil ?_ | refine W.seq ?_ | refine W.region ?_ | refine DR ?_ | refine IFT ?_ | refine IFF ?_ | refine W.skip ?_ | refine W.block ?_ | refine W.exit ?_ | refine W.ret ?_ | (simp only [tN, tR, tE, rN, rR, rE, xN, xR, xE, reduceIte]) | refine DN ?_
        refine .loop (.inv (fun d E H n' => ∃ i : Nat, i + d = l.length ∧ 14 < n' ∧ E 5 = .own 9 0 ∧ E 55 = .sl 0 (pieces l) ∧ E 56 = .i .i64 l.length ∧ E 57 = .i .i64 i ∧ H 9 = some (.arr 0 2 1 (ints (s.foldl incM (List.replicate l.length 0))) 1) ∧ (∀ j, j < i → sumI l s j = true)) l.length ?_ ?_)
        · exact ⟨0, by omega, by omega, by simp [setF_if, *], by simp [setF_if, *], by simp [setF_if, *], by simp [setF_if, *], by simp [upd_if, *], fun j hj => by omega⟩
        clear h2 h5 h6 h25 h26 h27 hH0 hH9 hn c hn9 hn0 hn11
        rintro d E H n' ⟨i, hi, hn, h5, h55, h56, h57, hH9, hall⟩
        have hn9 : 9 < n' := by omega
        have hn5 : ¬ (n' = 5) := by omega
        replace hall := Hid.mk hall
        by_cases c : (i : Int) < l.length
        · have hw_i : IntKind.i64.wrap ((i : Int) + 1) = (i : Int) + 1 := wr64 (by omega) (by omega)
          obtain ⟨p, hp⟩ : ∃ p, l[i]? = some p := ⟨_, List.getElem?_eq_getElem (by omega)⟩
          have hrp : (pieces l)[i]? = some (pieceR p) := by simp [pieces, hp]
          have hpd : l.getD i pc0 = p := by rw [List.getD_eq_getElem?_getD, hp]; rfl
          have hro := ints_at (l := s.foldl incM (List.replicate l.length 0)) (i := i) (by omega)
          have hro2 : i < (ints (s.foldl incM (List.replicate l.length 0))).length := by rw [ints_len]; omega
          have hat : sumI l s i = ((s.foldl incM (List.replicate l.length 0)).getD i 0 == p.k) := by unfold sumI countM; rw [hpd]
          have hno : sumI l s i = false → (List.range l.length).all (sumI l s) = false := fun h => all_no (by omega) h
          have more : sumI l s i = true → ∀ j, j < i + 1 → sumI l s j = true := fun h j hj => by
            by_cases e : j = i
            · rw [e]; exact h
            · exact hall.out j (by omega)
          replace hno := Hid.mk hno
          replace more := Hid.mk more
          replace hp := Hid.mk hp
          clear hpd
          generalize (s.foldl incM (List.replicate l.length 0)).getD i 0 = v at hro hat
          replace hat := Hid.mk hat
          by_cases cv : (v != p.k) = true
          · repeat first | refine OP ?_ | refine SK ?_ | refine OPN ?_ | refine OM ?_ | refine SM ?_ | refine OMN ?_ | refine WM.nil ?_ | refine OQ ?_ | refine SQ ?_ | refine TH ?_ | refine WR.nil ?_ | refine WQ.nil ?_ | refine W.seq ?_ | refine W.region ?_ | refine DR ?_ | refine IFT ?_ | refine IFF ?_ | refine W.skip ?_ | refine W.block ?_ | refine W.exit ?_ | refine W.ret ?_ | (simp only [tN, tR, tE, rN, rR, rE, xN, xR, xE, reduceIte]) | refine DN ?_
            have := hno.out (by rw [hat.out]; simpa using cv)
            simp [retA, backA, this]
          · repeat first | refine OP ?_ | refine SK ?_ | refine OPN ?_ | refine OM ?_ | refine SM ?_ | refine OMN ?_ | refine WM.nil ?_ | refine OQ ?_ | refine SQ ?_ | refine TH ?_ | refine WR.nil ?_ | refine WQ.nil ?_ | refine W.seq ?_ | refine W.region ?_ | refine DR ?_ | refine IFT ?_ | refine IFF ?_ | refine W.skip ?_ | refine W.block ?_ | refine W.exit ?_ | refine W.ret ?_ | (simp only [tN, tR, tE, rN, rR, rE, xN, xR, xE, reduceIte]) | refine DN ?_
            exact ⟨l.length - (i + 1), by omega, i + 1, by omega, by omega, by simp [setF_if, *], by simp [setF_if, *], by simp [setF_if, *], by simp [setF_if, *], by simp [upd_if, *], more.out (by rw [hat.out]; simpa using cv)⟩
        · have hyes : (List.range l.length).all (sumI l s) = true := all_yes (fun j hj => hall.out j (by omega))
          repeat first | refine OP ?_ | refine SK ?_ | refine OPN ?_ | refine OM ?_ | refine SM ?_ | refine OMN ?_ | refine WM.nil ?_ | refine OQ ?_ | refine SQ ?_ | refine TH ?_ | refine WR.nil ?_ | refine WQ.nil ?_ | refine W.seq ?_ | refine W.region ?_ | refine DR ?_ | refine IFT ?_ | refine IFF ?_ | refine W.skip ?_ | refine W.block ?_ | refine W.exit ?_ | refine W.ret ?_ | (simp only [tN, tR, tE, rN, rR, rE, xN, xR, xE, reduceIte]) | refine DN ?_
          simp [retA, backA, hyes]
  · repeat first | refine OP ?_ | refine SK ?_ | refine OPN ?_ | refine OM ?_ | refine SM ?_ | refine OMN ?_ | refine WM.nil ?_ | refine OQ ?_ | refine SQ ?_ | refine TH ?_ | refine WR.nil ?_ | refine WQ.nil ?_ | refine W.seq ?_ | refine W.region ?_ | refine DR ?_ | refine IFT ?_ | refine IFF ?_ | refine W.skip ?_ | refine W.block ?_ | refine W.exit ?_ | refine W.ret ?_ | (simp only [tN, tR, tE, rN, rR, rE, xN, xR, xE, reduceIte]) | refine DN ?_
    simp [retA, backA, solvedI, ca]
end Go.Proofs
end
