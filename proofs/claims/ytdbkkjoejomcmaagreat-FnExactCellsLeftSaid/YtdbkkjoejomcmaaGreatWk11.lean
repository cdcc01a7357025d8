/- Walks: What is a solution: both programs. No condition. | Arguments turned into ones that the caller owns. No condition. | What is left of copies: both programs. No condition. | Whether a number is in a list: the library's search. No condition. | Which element of a list has a property: the library's search. No condition. -/
import Derived.Test.YtdbkkjoejomcmaaGreatBO
import Derived.Test.YtdbkkjoejomcmaaGreatWk10
import Derived.Test.YtdbkkjoejomcmaaGreatWk9
import Derived.Test.YtdbkkjoejomcmaaGreatWk1
import Derived.Test.YtdbkkjoejomcmaaGreatBC
import Derived.Test.YtdbkkjoejomcmaaGreatWk8
import Derived.Test.YtdbkkjoejomcmaaGreatWk2
set_option linter.unusedVariables false
set_option linter.unusedSimpArgs false
section
open Go Go.Big
namespace Go.Proofs
set_option maxHeartbeats 2000000
theorem fitsS_ok {r : List (Int × Int)} {l : List PieceM} (h : fitsS r l = true) : 1 ≤ r.length ∧ 1 ≤ l.length ∧ ∀ p ∈ l, 0 < p.cs.length := by
  unfold fitsS at h
  rw [Bool.and_eq_true] at h
  exact puzzleS_ok h.1
theorem fitsI_ok {r : List (Int × Int)} {l : List PieceM} (h : fitsI r l = true) : 1 ≤ r.length ∧ 1 ≤ l.length ∧ ∀ p ∈ l, 0 < p.cs.length := by
  unfold fitsI at h
  rw [Bool.and_eq_true] at h
  exact puzzleI_ok h.1
def isSolvedI (r : List (Int × Int)) (l : List PieceM) (s : List (Int × List Int)) : Bool := fitsI r l && solvedI r l s
def codeM (r : List (Int × Int)) (l : List PieceM) (s : List (Int × List Int)) : Int := if fitsS r l then (if ascM (fun x => placeS r l x.1 x.2) s then 0 else 2) else 1
theorem l15Code_fn (G : Gv) (r : List (Int × Int)) (l : List PieceM) (s : List (Int × List Int)) (hr : r.length < 1000000000) (hl : l.length < 1000000000) (hs : s.length < 1000000000) (hsc : ∀ x ∈ s, x.2.length < 1000000000) (hpl : ∀ p ∈ l, p.cs.length < 1000000000) :
    Gives Tryz.prog G 61 [.ag [.sl 0 (cells r), .sl 0 (pieces l)], .sl 0 (places s)] (.i .i64 (codeM r l s)) := by
  refine .of (.body Tryz.func61 rfl (by simp [Tryz.ntmps61]) ?_)
  rw [Tryz.ntmps61, Tryz.results61]
  replace hsc := Hid.mk hsc
  replace hpl := Hid.mk hpl
  repeat first | refine OP ?_ | refine SK ?_ | refine OPN ?_ | refine OM ?_ | refine SM ?_ | refine OMN ?_ | refine WM.nil ?_ | refine OQ ?_ | refine SQ ?_ | refine TH ?_ | refine WR.nil ?_ | refine WQ.nil ?_ | refine W.seq ?_ | refine W.region ?_ | refine DR ?_ | refine IFT ?_ | refine IFF ?_ | refine W.skip ?_ | refine W.block ?_ | refine W.exit ?_ | refine W.ret ?_ | (simp only [tN, tR, tE, rN, rR, rE, xN, xR, xE, reduceIte]) | refine DN ?_
  refine CV (specDoesFit_fn G r l hr hl hpl.out) ?_
  by_cases c : fitsS r l = true
  · obtain ⟨g1, g2, g3⟩ := fitsS_ok c
    replace g3 := Hid.mk g3
    repeat first | refine OP ?_ | refine SK ?_ | refine OPN ?_ | refine OM ?_ | refine SM ?_ | refine OMN ?_ | refine WM.nil ?_ | refine OQ ?_ | refine SQ ?_ | refine TH ?_ | refine WR.nil ?_ | refine WQ.nil ?_ | refine W.seq ?_ | refine W.region ?_ | refine DR ?_ | refine IFT ?_ | refine IFF ?_ | refine W.skip ?_ | refine W.block ?_ | refine W.exit ?_ | refine W.ret ?_ | (simp only [tN, tR, tE, rN, rR, rE, xN, xR, xE, reduceIte]) | refine DN ?_
    refine CV (l15List_fn G r l s g1 hr g2 hl hs hsc.out g3.out hpl.out) ?_
    by_cases ca : ascM (fun x => placeS r l x.1 x.2) s = true
    · repeat first | refine OP ?_ | refine SK ?_ | refine OPN ?_ | refine OM ?_ | refine SM ?_ | refine OMN ?_ | refine WM.nil ?_ | refine OQ ?_ | refine SQ ?_ | refine TH ?_ | refine WR.nil ?_ | refine WQ.nil ?_ | refine W.seq ?_ | refine W.region ?_ | refine DR ?_ | refine IFT ?_ | refine IFF ?_ | refine W.skip ?_ | refine W.block ?_ | refine W.exit ?_ | refine W.ret ?_ | (simp only [tN, tR, tE, rN, rR, rE, xN, xR, xE, reduceIte]) | refine DN ?_
      simp [retA, backA, codeM, c, ca]
    · repeat first | refine OP ?_ | refine SK ?_ | refine OPN ?_ | refine OM ?_ | refine SM ?_ | refine OMN ?_ | refine WM.nil ?_ | refine OQ ?_ | refine SQ ?_ | refine TH ?_ | refine WR.nil ?_ | refine WQ.nil ?_ | refine W.seq ?_ | refine W.region ?_ | refine DR ?_ | refine IFT ?_ | refine IFF ?_ | refine W.skip ?_ | refine W.block ?_ | refine W.exit ?_ | refine W.ret ?_ | (simp only [tN, tR, tE, rN, rR, rE, xN, xR, xE, reduceIte]) | refine DN ?_
      simp [retA, backA, codeM, c, ca]
  · repeat first | refine OP ?_ | refine SK ?_ | refine OPN ?_ | refine OM ?_ | refine SM ?_ | refine OMN ?_ | refine WM.nil ?_ | refine OQ ?_ | refine SQ ?_ | refine TH ?_ | refine WR.nil ?_ | refine WQ.nil ?_ | refine W.seq ?_ | refine W.region ?_ | refine DR ?_ | refine IFT ?_ | refine IFF ?_ | refine W.skip ?_ | refine W.block ?_ | refine W.exit ?_ | refine W.ret ?_ | (simp only [tN, tR, tE, rN, rR, rE, xN, xR, xE, reduceIte]) | refine DN ?_
    simp [retA, backA, codeM, c]
def clearAt (s : List (Int × List Int)) (i : Nat) : Bool := clearM (s.take i) (s.getD i pz).2
def zeroAt (o : List Int) (i : Nat) : Bool := o.getD i 0 == 0
def solvedS (r : List (Int × Int)) (l : List PieceM) (s : List (Int × List Int)) : Bool :=
  fitsS r l && ascM (fun x => placeS r l x.1 x.2) s && (List.range s.length).all (clearAt s) && (List.range (leftM l s).length).all (zeroAt (leftM l s))
theorem placeS_ok {r : List (Int × Int)} {l : List PieceM} {k : Int} {s : List Int} (h : placeS r l k s = true) : (0 ≤ k ∧ k < l.length) ∧ ∀ c ∈ s, 0 ≤ c ∧ c < r.length := by
  unfold placeS at h
  simp only [Bool.and_eq_true, decide_eq_true_eq] at h
  obtain ⟨⟨⟨⟨h1, h2⟩, _⟩, h3⟩, _⟩ := h
  exact ⟨⟨h1, by omega⟩, fun c hc => by have := inc_mem h3 c hc; omega⟩
theorem specIsSolved_fn (G : Gv) (r : List (Int × Int)) (l : List PieceM) (s : List (Int × List Int)) (hr : r.length < 1000000000) (hl : l.length < 1000000000) (hs : s.length < 1000000000) (hsc : ∀ x ∈ s, x.2.length < 1000000000) (hpl : ∀ p ∈ l, p.cs.length < 1000000000) :
    Gives Tryz.prog G 165 [.ag [.sl 0 (cells r), .sl 0 (pieces l)], .sl 0 (places s)] (.b (solvedS r l s)) := by
  refine .of (.body Tryz.func165 rfl (by simp [Tryz.ntmps165]) ?_)
  rw [Tryz.ntmps165, Tryz.results165]
  replace hsc := Hid.mk hsc
  replace hpl := Hid.mk hpl
  have hlens := places_len s
  repeat first | refine OP ?_ | refine SK ?_ | refine OPN ?_ | refine OM ?_ | refine SM ?_ | refine OMN ?_ | refine WM.nil ?_ | refine OQ ?_ | refine SQ ?_ | refine TH ?_ | refine WR.nil ?_ | refine WQ.nil ?_ | refine W.seq ?_ | refine W.region ?_ | refine DR ?_ | refine IFT ?_ | refine IFF ?_ | refine W.skip ?_ | refine W.block ?_ | refine W.exit ?_ | refine W.ret ?_ | (simp only [tN, tR, tE, rN, rR, rE, xN, xR, xE, reduceIte]) | refine DN ?_
  refine CV (l15Code_fn G r l s hr hl hs hsc.out hpl.out) ?_
  by_cases c1 : fitsS r l = true
  · by_cases c2 : ascM (fun x => placeS r l x.1 x.2) s = true
    · have hcode : codeM r l s = 0 := by simp [codeM, c1, c2]
      have hk : ∀ x ∈ s, 0 ≤ x.1 ∧ x.1 < l.length := fun x hx => (placeS_ok (asc_mem c2 hx)).1
      have hsv : solvedS r l s = ((List.range s.length).all (clearAt s) && (List.range (leftM l s).length).all (zeroAt (leftM l s))) := by simp [solvedS, c1, c2]
      rw [hsv]
      replace hk := Hid.mk hk
      replace c2 := Hid.mk c2
      replace c1 := Hid.mk c1
      clear hsv
      repeat first | refine OP ?_ | refine SK ?_ | refine OPN ?_ | refine OM ?_ | refine SM ?_ | refine OMN ?_ | refine WM.nil ?_ | refine OQ ?_ | refine SQ ?_ | refine TH ?_ | refine WR.nil ?_ | refine WQ.nil ?_ | refine W.seq ?_ | refine W.region ?_ | refine DR ?_ | refine IFT ?_ | refine IFF ?_ | refine W.skip ?_ | refine W.block ?_ | refine W.exit ?_ | refine W.ret ?_ | (simp only [tN, tR, tE, rN, rR, rE, xN, xR, xE, reduceIte]) | refine DN ?_
      refine .loop (.inv (fun d E H n' => ∃ i : Nat, i + d = s.length ∧ 0 < n' ∧ E 1 = .sl 0 (places s) ∧ E 2 = .ptr 0 0 0 0 ∧ E 5 = .i .i64 i ∧ H 0 = some (.box 35 [.sl 0 (cells r), .sl 0 (pieces l)]) ∧ (∀ j, j < i → clearAt s j = true)) s.length ?_ ?_)
      · exact ⟨0, by omega, by omega, by simp [setF_if, argE], by simp [setF_if, argE], by simp [setF_if, argE], by simp [upd_if], fun j hj => by omega⟩
      clear hcode
      rintro d E H n' ⟨i, hi, hn, h1, h2, h5, hH, hall⟩
      replace hall := Hid.mk hall
      by_cases c : (i : Int) < s.length
      · have hw_i : IntKind.i64.wrap ((i : Int) + 1) = (i : Int) + 1 := wr64 (by omega) (by omega)
        have cN : i < s.length := by omega
        have hrow := places_getD cN
        have hat : clearAt s i = clearM (s.take i) (s.getD i pz).2 := rfl
        have hno : clearAt s i = false → (List.range s.length).all (clearAt s) = false := fun h => all_no (by omega) h
        have more : clearAt s i = true → ∀ j, j < i + 1 → clearAt s j = true := fun h j hj => by
          by_cases e : j = i
          · rw [e]; exact h
          · exact hall.out j (by omega)
        have hxl := hsc.out _ (getD_mem cN)
        have htk : (places s).take i = places (s.take i) := by simp [places, List.map_take]
        have hle : i ≤ s.length := by omega
        have h0i : (0 : Int) ≤ i := by omega
        have hti : (i : Int).toNat = i := by omega
        have hzi : 0 ≤ i := by omega
        have hdr : (places s).drop 0 = places s := rfl
        have hs0 : i - 0 = i := rfl
        have hfit : decide (∀ r ∈ places s, r.length = 2) = true := decide_eq_true fun r hr => by obtain ⟨y, _, rfl⟩ := List.mem_map.mp hr; rfl
        have hcl := l15Clear_fn G (s.take i) (s.getD i pz) (by rw [List.length_take]; omega) (fun p hp => hsc.out p (List.mem_of_mem_take hp)) hxl
        replace hno := Hid.mk hno
        replace more := Hid.mk more
        generalize s.getD i pz = x at hrow hat hcl
        obtain ⟨xk, xs⟩ := x
        replace hat := Hid.mk hat
        replace hcl := Hid.mk hcl
        repeat first | refine OP ?_ | refine SK ?_ | refine OPN ?_ | refine OM ?_ | refine SM ?_ | refine OMN ?_ | refine WM.nil ?_ | refine OQ ?_ | refine SQ ?_ | refine TH ?_ | refine WR.nil ?_ | refine WQ.nil ?_ | refine W.seq ?_ | refine W.region ?_ | refine DR ?_ | refine IFT ?_ | refine IFF ?_ | refine W.skip ?_ | refine W.block ?_ | refine W.exit ?_ | refine W.ret ?_ | (simp only [tN, tR, tE, rN, rR, rE, xN, xR, xE, reduceIte]) | refine DN ?_
        refine CQ hcl.out ?_
        by_cases cc : clearM (s.take i) xs = true
        · repeat first | refine OP ?_ | refine SK ?_ | refine OPN ?_ | refine OM ?_ | refine SM ?_ | refine OMN ?_ | refine WM.nil ?_ | refine OQ ?_ | refine SQ ?_ | refine TH ?_ | refine WR.nil ?_ | refine WQ.nil ?_ | refine W.seq ?_ | refine W.region ?_ | refine DR ?_ | refine IFT ?_ | refine IFF ?_ | refine W.skip ?_ | refine W.block ?_ | refine W.exit ?_ | refine W.ret ?_ | (simp only [tN, tR, tE, rN, rR, rE, xN, xR, xE, reduceIte]) | refine DN ?_
          exact ⟨s.length - (i + 1), by omega, i + 1, by omega, by omega, by simp [setF_if, *], by simp [setF_if, *], by simp [setF_if, *], by simp [upd_if, *], more.out (by rw [hat.out]; exact cc)⟩
        · repeat first | refine OP ?_ | refine SK ?_ | refine OPN ?_ | refine OM ?_ | refine SM ?_ | refine OMN ?_ | refine WM.nil ?_ | refine OQ ?_ | refine SQ ?_ | refine TH ?_ | refine WR.nil ?_ | refine WQ.nil ?_ | refine W.seq ?_ | refine W.region ?_ | refine DR ?_ | refine IFT ?_ | refine IFF ?_ | refine W.skip ?_ | refine W.block ?_ | refine W.exit ?_ | refine W.ret ?_ | (simp only [tN, tR, tE, rN, rR, rE, xN, xR, xE, reduceIte]) | refine DN ?_
          have := hno.out (by rw [hat.out]; simpa using cc)
          simp [retA, backA, this]
      · have hyes : (List.range s.length).all (clearAt s) = true := all_yes (fun j hj => hall.out j (by omega))
        rw [hyes]
        clear hi
        repeat first | refine OP ?_ | refine SK ?_ | refine OPN ?_ | refine OM ?_ | refine SM ?_ | refine OMN ?_ | refine WM.nil ?_ | refine OQ ?_ | refine SQ ?_ | refine TH ?_ | refine WR.nil ?_ | refine WQ.nil ?_ | refine W.seq ?_ | refine W.region ?_ | refine DR ?_ | refine IFT ?_ | refine IFF ?_ | refine W.skip ?_ | refine W.block ?_ | refine W.exit ?_ | refine W.ret ?_ | (simp only [tN, tR, tE, rN, rR, rE, xN, xR, xE, reduceIte]) | refine DN ?_
        refine CV (l15Left_fn G r l s hl hs hk.out) ?_
        have holn := ints_len (leftM l s)
        have hobl : (leftM l s).length < 1000000000 := by unfold leftM; rw [dec_len]; simpa [copiesM] using hl
        generalize leftM l s = o at holn hobl
        repeat first | refine OP ?_ | refine SK ?_ | refine OPN ?_ | refine OM ?_ | refine SM ?_ | refine OMN ?_ | refine WM.nil ?_ | refine OQ ?_ | refine SQ ?_ | refine TH ?_ | refine WR.nil ?_ | refine WQ.nil ?_ | refine W.seq ?_ | refine W.region ?_ | refine DR ?_ | refine IFT ?_ | refine IFF ?_ | refine W.skip ?_ | refine W.block ?_ | refine W.exit ?_ | refine W.ret ?_ | (simp only [tN, tR, tE, rN, rR, rE, xN, xR, xE, reduceIte]) | refine DN ?_
        refine .loop (.inv (fun d E H n' => ∃ i : Nat, i + d = o.length ∧ E 6 = .sl 1 (ints o) ∧ E 7 = .i .i64 i ∧ (∀ j, j < i → zeroAt o j = true)) o.length ?_ ?_)
        · exact ⟨0, by omega, by simp [setF_if, *], by simp [setF_if, *], fun j hj => by omega⟩
        clear h1 h2 h5 hH hn c
        rintro d E H n' ⟨i, hi, h6, h7, hall⟩
        replace hall := Hid.mk hall
        by_cases c : (i : Int) < o.length
        · have hw_i : IntKind.i64.wrap ((i : Int) + 1) = (i : Int) + 1 := wr64 (by omega) (by omega)
          have hro := ints_at (l := o) (i := i) (by omega)
          have hat : zeroAt o i = (o.getD i 0 == 0) := rfl
          have hno : zeroAt o i = false → (List.range o.length).all (zeroAt o) = false := fun h => all_no (by omega) h
          have more : zeroAt o i = true → ∀ j, j < i + 1 → zeroAt o j = true := fun h j hj => by
            by_cases e : j = i
            · rw [e]; exact h
            · exact hall.out j (by omega)
          replace hno := Hid.mk hno
          replace more := Hid.mk more
          generalize o.getD i 0 = v at hro hat
          replace hat := Hid.mk hat
          by_cases cv : (v != 0) = true
          · repeat first | refine OP ?_ | refine SK ?_ | refine OPN ?_ | refine OM ?_ | refine SM ?_ | refine OMN ?_ | refine WM.nil ?_ | refine OQ ?_ | refine SQ ?_ | refine TH ?_ | refine WR.nil ?_ | refine WQ.nil ?_ | refine W.seq ?_ | refine W.region ?_ | refine DR ?_ | refine IFT ?_ | refine IFF ?_ | refine W.skip ?_ | refine W.block ?_ | refine W.exit ?_ | refine W.ret ?_ | (simp only [tN, tR, tE, rN, rR, rE, xN, xR, xE, reduceIte]) | refine DN ?_
            have := hno.out (by rw [hat.out]; simpa using cv)
            simp [retA, backA, this]
          · repeat first | refine OP ?_ | refine SK ?_ | refine OPN ?_ | refine OM ?_ | refine SM ?_ | refine OMN ?_ | refine WM.nil ?_ | refine OQ ?_ | refine SQ ?_ | refine TH ?_ | refine WR.nil ?_ | refine WQ.nil ?_ | refine W.seq ?_ | refine W.region ?_ | refine DR ?_ | refine IFT ?_ | refine IFF ?_ | refine W.skip ?_ | refine W.block ?_ | refine W.exit ?_ | refine W.ret ?_ | (simp only [tN, tR, tE, rN, rR, rE, xN, xR, xE, reduceIte]) | refine DN ?_
            exact ⟨o.length - (i + 1), by omega, i + 1, by omega, by simp [setF_if, *], by simp [setF_if, *], more.out (by rw [hat.out]; simpa using cv)⟩
        · have hyes2 : (List.range o.length).all (zeroAt o) = true := all_yes (fun j hj => hall.out j (by omega))
          repeat first | refine OP ?_ | refine SK ?_ | refine OPN ?_ | refine OM ?_ | refine SM ?_ | refine OMN ?_ | refine WM.nil ?_ | refine OQ ?_ | refine SQ ?_ | refine TH ?_ | refine WR.nil ?_ | refine WQ.nil ?_ | refine W.seq ?_ | refine W.region ?_ | refine DR ?_ | refine IFT ?_ | refine IFF ?_ | refine W.skip ?_ | refine W.block ?_ | refine W.exit ?_ | refine W.ret ?_ | (simp only [tN, tR, tE, rN, rR, rE, xN, xR, xE, reduceIte]) | refine DN ?_
          simp [retA, backA, hyes2]
    · have hcode : codeM r l s = 2 := by simp [codeM, c1, c2]
      repeat first | refine OP ?_ | refine SK ?_ | refine OPN ?_ | refine OM ?_ | refine SM ?_ | refine OMN ?_ | refine WM.nil ?_ | refine OQ ?_ | refine SQ ?_ | refine TH ?_ | refine WR.nil ?_ | refine WQ.nil ?_ | refine W.seq ?_ | refine W.region ?_ | refine DR ?_ | refine IFT ?_ | refine IFF ?_ | refine W.skip ?_ | refine W.block ?_ | refine W.exit ?_ | refine W.ret ?_ | (simp only [tN, tR, tE, rN, rR, rE, xN, xR, xE, reduceIte]) | refine DN ?_
      simp [retA, backA, solvedS, c2]
  · have hcode : codeM r l s = 1 := by simp [codeM, c1]
    repeat first | refine OP ?_ | refine SK ?_ | refine OPN ?_ | refine OM ?_ | refine SM ?_ | refine OMN ?_ | refine WM.nil ?_ | refine OQ ?_ | refine SQ ?_ | refine TH ?_ | refine WR.nil ?_ | refine WQ.nil ?_ | refine W.seq ?_ | refine W.region ?_ | refine DR ?_ | refine IFT ?_ | refine IFF ?_ | refine W.skip ?_ | refine W.block ?_ | refine W.exit ?_ | refine W.ret ?_ | (simp only [tN, tR, tE, rN, rR, rE, xN, xR, xE, reduceIte]) | refine DN ?_
    simp [retA, backA, solvedS, c1]
end Go.Proofs
end
section
open Go Go.Big
namespace Go.Proofs
set_option maxHeartbeats 2000000
theorem cells_scal (l : List (Int × Int)) : scalRows (cells l) := fun r hr p hp => by
  obtain ⟨c, _, rfl⟩ := List.mem_map.mp hr
  simp at hp; rcases hp with rfl | rfl <;> rfl
theorem cells_fit (l : List (Int × Int)) : fitR 2 (cells l) := fun r hr => by
  obtain ⟨c, _, rfl⟩ := List.mem_map.mp hr; rfl
theorem ints_scal (l : List Int) : scalRows (ints l) := fun r hr p hp => by
  obtain ⟨c, _, rfl⟩ := List.mem_map.mp hr
  simp at hp; subst hp; rfl
theorem ints_fit (l : List Int) : fitR 1 (ints l) := fun r hr => by
  obtain ⟨c, _, rfl⟩ := List.mem_map.mp hr; rfl
theorem toCellS_o (G : Gv) (l : List (Int × Int)) (hl : l.length < 1000000000) : GivesO Tryz.prog G 63 [.sl 0 (cells l)] (.sl 1 (cells l)) := by
  refine .of (.body Tryz.func63 rfl (by simp [Tryz.ntmps63]) ?_)
  rw [Tryz.ntmps63, Tryz.results63]
  have hlen := cells_len l
  have b1 : ((16 : Nat) : Int) * l.length ≤ 281474976710656 := by simp; omega
  have b2 : (l.length : Int) ≤ 9223372036854775807 := by omega
  have b3 : (0 : Int) ≤ l.length := by omega
  repeat first | refine OP ?_ | refine SK ?_ | refine OPN ?_ | refine TH ?_ | refine WR.nil ?_ | refine W.seq ?_ | refine W.region ?_ | refine DR ?_
  refine .block (.loop (.inv (fun d E H n' => ∃ i : Nat, i + d = l.length ∧ E 0 = .sl 0 (cells l) ∧ E 3 = .own 3 0 ∧ E 4 = .i .i64 i ∧ H 3 = some (.arr 0 117 2 (part (cells l) [.i .i64 0, .i .i64 0] i) 1)) l.length ?_ ?_))
  · simp [setF_if, argE, upd_if, part_zero, hlen]
  rintro d E H n' ⟨i, hi, h0, h3, h4, hH⟩
  repeat first | refine OP ?_ | refine SK ?_ | refine OPN ?_ | refine TH ?_ | refine WR.nil ?_ | refine W.seq ?_ | refine W.region ?_ | refine DR ?_
  by_cases c : (i : Int) < l.length
  · refine IFT ?_
    have hr := cells_at (l := l) (i := i) (by omega)
    have hp := part_at (l := cells l) (z := [PV.i .i64 0, PV.i .i64 0]) (i := i) (by omega)
    have hs := part_set (z := [PV.i .i64 0, PV.i .i64 0]) hr
    have hpl : i < (part (cells l) [PV.i .i64 0, PV.i .i64 0] i).length := (List.getElem?_eq_some_iff.mp hp).1
    have hw2 : IntKind.i64.wrap ((i : Int) + 1) = (i : Int) + 1 := wr64 (by omega) (by omega)
    refine .skip ?_
    repeat first | refine OP ?_ | refine SK ?_ | refine OPN ?_ | refine TH ?_ | refine WR.nil ?_ | refine W.seq ?_ | refine W.region ?_ | refine DR ?_
    refine .block ?_
    repeat first | refine OP ?_ | refine SK ?_ | refine OPN ?_ | refine TH ?_ | refine WR.nil ?_ | refine W.seq ?_ | refine W.region ?_ | refine DR ?_
    refine CV (toCell_fn G _ _) ?_
    repeat first | refine OP ?_ | refine SK ?_ | refine OPN ?_ | refine TH ?_ | refine WR.nil ?_ | refine W.seq ?_ | refine W.region ?_ | refine DR ?_
    (try simp only [tN, tR, tE, rN, rR, rE, xN, xR, xE, reduceIte])
    repeat first | refine OP ?_ | refine SK ?_ | refine OPN ?_ | refine TH ?_ | refine WR.nil ?_ | refine W.seq ?_ | refine W.region ?_ | refine DR ?_
    (try simp only [tN, tR, tE, rN, rR, rE, xN, xR, xE, reduceIte])
    refine ⟨l.length - (i + 1), by omega, i + 1, by omega, ?_⟩
    simp [setF_if, upd_if, *]
  · have e : i = (cells l).length := by omega
    rw [e, part_all] at hH
    repeat first | refine OP ?_ | refine SK ?_ | refine OPN ?_ | refine OM ?_ | refine SM ?_ | refine OMN ?_ | refine WM.nil ?_ | refine OQ ?_ | refine SQ ?_ | refine TH ?_ | refine WR.nil ?_ | refine WQ.nil ?_ | refine W.seq ?_ | refine W.region ?_ | refine DR ?_ | refine IFT ?_ | refine IFF ?_ | refine W.skip ?_ | refine W.block ?_ | refine W.exit ?_ | refine W.ret ?_ | (simp only [tN, tR, tE, rN, rR, rE, xN, xR, xE, reduceIte]) | refine DN ?_
    exact ⟨[3], ownX_sl (ownA_mk hH (cells_scal l) (by decide) (cells_fit l)), by simp⟩
theorem toInt64S_o (G : Gv) (l : List Int) (hl : l.length < 1000000000) : GivesO Tryz.prog G 88 [.sl 0 (ints l)] (.sl 1 (ints l)) := by
  refine .of (.body Tryz.func88 rfl (by simp [Tryz.ntmps88]) ?_)
  rw [Tryz.ntmps88, Tryz.results88]
  have hlen := ints_len l
  have b1 : ((8 : Nat) : Int) * l.length ≤ 281474976710656 := by simp; omega
  have b2 : (l.length : Int) ≤ 9223372036854775807 := by omega
  have b3 : (0 : Int) ≤ l.length := by omega
  repeat first | refine OP ?_ | refine SK ?_ | refine OPN ?_ | refine TH ?_ | refine WR.nil ?_ | refine W.seq ?_ | refine W.region ?_ | refine DR ?_
  refine .block (.loop (.inv (fun d E H n' => ∃ i : Nat, i + d = l.length ∧ E 0 = .sl 0 (ints l) ∧ E 3 = .own 3 0 ∧ E 4 = .i .i64 i ∧ H 3 = some (.arr 0 2 1 (part (ints l) [.i .i64 0] i) 1)) l.length ?_ ?_))
  · simp [setF_if, argE, upd_if, part_zero, hlen]
  rintro d E H n' ⟨i, hi, h0, h3, h4, hH⟩
  repeat first | refine OP ?_ | refine SK ?_ | refine OPN ?_ | refine TH ?_ | refine WR.nil ?_ | refine W.seq ?_ | refine W.region ?_ | refine DR ?_
  by_cases c : (i : Int) < l.length
  · refine IFT ?_
    have hr := ints_at (l := l) (i := i) (by omega)
    have hp := part_at (l := ints l) (z := [PV.i .i64 0]) (i := i) (by omega)
    have hs := part_set (z := [PV.i .i64 0]) hr
    have hpl : i < (part (ints l) [PV.i .i64 0] i).length := (List.getElem?_eq_some_iff.mp hp).1
    have hw2 : IntKind.i64.wrap ((i : Int) + 1) = (i : Int) + 1 := wr64 (by omega) (by omega)
    refine .skip ?_
    repeat first | refine OP ?_ | refine SK ?_ | refine OPN ?_ | refine TH ?_ | refine WR.nil ?_ | refine W.seq ?_ | refine W.region ?_ | refine DR ?_
    refine .block ?_
    repeat first | refine OP ?_ | refine SK ?_ | refine OPN ?_ | refine TH ?_ | refine WR.nil ?_ | refine W.seq ?_ | refine W.region ?_ | refine DR ?_
    (try simp only [tN, tR, tE, rN, rR, rE, xN, xR, xE, reduceIte])
    repeat first | refine OP ?_ | refine SK ?_ | refine OPN ?_ | refine TH ?_ | refine WR.nil ?_ | refine W.seq ?_ | refine W.region ?_ | refine DR ?_
    (try simp only [tN, tR, tE, rN, rR, rE, xN, xR, xE, reduceIte])
    refine ⟨l.length - (i + 1), by omega, i + 1, by omega, ?_⟩
    simp [setF_if, upd_if, *]
  · have e : i = (ints l).length := by omega
    rw [e, part_all] at hH
    repeat first | refine OP ?_ | refine SK ?_ | refine OPN ?_ | refine OM ?_ | refine SM ?_ | refine OMN ?_ | refine WM.nil ?_ | refine OQ ?_ | refine SQ ?_ | refine TH ?_ | refine WR.nil ?_ | refine WQ.nil ?_ | refine W.seq ?_ | refine W.region ?_ | refine DR ?_ | refine IFT ?_ | refine IFF ?_ | refine W.skip ?_ | refine W.block ?_ | refine W.exit ?_ | refine W.ret ?_ | (simp only [tN, tR, tE, rN, rR, rE, xN, xR, xE, reduceIte]) | refine DN ?_
    exact ⟨[3], ownX_sl (ownA_mk hH (ints_scal l) (by decide) (ints_fit l)), by simp⟩
end Go.Proofs
end
section
open Go Go.Big
namespace Go.Proofs
set_option maxHeartbeats 2000000
def codeI (r : List (Int × Int)) (l : List PieceM) (s : List (Int × List Int)) : Int := if fitsI r l then (if ascM (fun x => placeI r l x.1 x.2) s then 0 else 2) else 1
theorem listCode_fn (G : Gv) (hG : ∀ f args H n r H' n', sortsG f args H n r H' n' → G f args H n r H' n') (hG1 : ∀ f args H n r H' n', sortsG1 f args H n r H' n' → G f args H n r H' n') (r : List (Int × Int)) (l : List PieceM) (s : List (Int × List Int)) (hr : r.length < 1000000000) (hl : l.length < 1000000000) (hs : s.length < 1000000000) (hsc : ∀ x ∈ s, x.2.length < 1000000000) (hpl : ∀ p ∈ l, p.cs.length < 1000000000) :
    Gives Tryz.prog G 65 [.ag [.sl 0 (cells r), .sl 0 (pieces l)], .sl 0 (places s)] (.i .i64 (codeI r l s)) := by
  refine .of (.body Tryz.func65 rfl (by simp [Tryz.ntmps65]) ?_)
  rw [Tryz.ntmps65, Tryz.results65]
  replace hG := Hid.mk hG
  replace hG1 := Hid.mk hG1
  replace hsc := Hid.mk hsc
  replace hpl := Hid.mk hpl
  repeat first | refine OP ?_ | refine SK ?_ | refine OPN ?_ | refine OM ?_ | refine SM ?_ | refine OMN ?_ | refine WM.nil ?_ | refine OQ ?_ | refine SQ ?_ | refine TH ?_ | refine WR.nil ?_ | refine WQ.nil ?_ | refine W.seq ?_ | refine W.region ?_ | refine DR ?_ | refine IFT ?_ | refine IFF ?_ | refine W.skip ?_ | refine W.block ?_ | refine W.exit ?_ | refine W.ret ?_ | (simp only [tN, tR, tE, rN, rR, rE, xN, xR, xE, reduceIte]) | refine DN ?_
  refine CV (implDoesFit_fn G hG.out hG1.out r l hr hl hpl.out) ?_
  by_cases c : fitsI r l = true
  · obtain ⟨g1, g2, g3⟩ := fitsI_ok c
    replace g3 := Hid.mk g3
    repeat first | refine OP ?_ | refine SK ?_ | refine OPN ?_ | refine OM ?_ | refine SM ?_ | refine OMN ?_ | refine WM.nil ?_ | refine OQ ?_ | refine SQ ?_ | refine TH ?_ | refine WR.nil ?_ | refine WQ.nil ?_ | refine W.seq ?_ | refine W.region ?_ | refine DR ?_ | refine IFT ?_ | refine IFF ?_ | refine W.skip ?_ | refine W.block ?_ | refine W.exit ?_ | refine W.ret ?_ | (simp only [tN, tR, tE, rN, rR, rE, xN, xR, xE, reduceIte]) | refine DN ?_
    refine CV (isAscending_fn G hG.out hG1.out r l s g1 hr g2 hl hs hsc.out g3.out hpl.out) ?_
    by_cases ca : ascM (fun x => placeI r l x.1 x.2) s = true
    · repeat first | refine OP ?_ | refine SK ?_ | refine OPN ?_ | refine OM ?_ | refine SM ?_ | refine OMN ?_ | refine WM.nil ?_ | refine OQ ?_ | refine SQ ?_ | refine TH ?_ | refine WR.nil ?_ | refine WQ.nil ?_ | refine W.seq ?_ | refine W.region ?_ | refine DR ?_ | refine IFT ?_ | refine IFF ?_ | refine W.skip ?_ | refine W.block ?_ | refine W.exit ?_ | refine W.ret ?_ | (simp only [tN, tR, tE, rN, rR, rE, xN, xR, xE, reduceIte]) | refine DN ?_
      simp [retA, backA, codeI, c, ca]
    · repeat first | refine OP ?_ | refine SK ?_ | refine OPN ?_ | refine OM ?_ | refine SM ?_ | refine OMN ?_ | refine WM.nil ?_ | refine OQ ?_ | refine SQ ?_ | refine TH ?_ | refine WR.nil ?_ | refine WQ.nil ?_ | refine W.seq ?_ | refine W.region ?_ | refine DR ?_ | refine IFT ?_ | refine IFF ?_ | refine W.skip ?_ | refine W.block ?_ | refine W.exit ?_ | refine W.ret ?_ | (simp only [tN, tR, tE, rN, rR, rE, xN, xR, xE, reduceIte]) | refine DN ?_
      simp [retA, backA, codeI, c, ca]
  · repeat first | refine OP ?_ | refine SK ?_ | refine OPN ?_ | refine OM ?_ | refine SM ?_ | refine OMN ?_ | refine WM.nil ?_ | refine OQ ?_ | refine SQ ?_ | refine TH ?_ | refine WR.nil ?_ | refine WQ.nil ?_ | refine W.seq ?_ | refine W.region ?_ | refine DR ?_ | refine IFT ?_ | refine IFF ?_ | refine W.skip ?_ | refine W.block ?_ | refine W.exit ?_ | refine W.ret ?_ | (simp only [tN, tR, tE, rN, rR, rE, xN, xR, xE, reduceIte]) | refine DN ?_
    simp [retA, backA, codeI, c]
def copiesS (r : List (Int × Int)) (l : List PieceM) (s : List (Int × List Int)) : List Int × Int := if codeM r l s = 0 then (leftM l s, 0) else ([], codeM r l s)
def copiesI (r : List (Int × Int)) (l : List PieceM) (s : List (Int × List Int)) : List Int × Int := if codeI r l s = 0 then (leftM l s, 0) else ([], codeI r l s)
theorem specCopiesLeft_fn (G : Gv) (r : List (Int × Int)) (l : List PieceM) (s : List (Int × List Int)) (hr : r.length < 1000000000) (hl : l.length < 1000000000) (hs : s.length < 1000000000) (hsc : ∀ x ∈ s, x.2.length < 1000000000) (hpl : ∀ p ∈ l, p.cs.length < 1000000000) :
    Gives Tryz.prog G 17 [.ag [.sl 0 (cells r), .sl 0 (pieces l)], .sl 0 (places s)] (.tup [.sl 1 (ints (copiesS r l s).1), .i .i64 (copiesS r l s).2]) := by
  refine .of (.body Tryz.func17 rfl (by simp [Tryz.ntmps17]) ?_)
  rw [Tryz.ntmps17, Tryz.results17]
  replace hsc := Hid.mk hsc
  replace hpl := Hid.mk hpl
  repeat first | refine OP ?_ | refine SK ?_ | refine OPN ?_ | refine OM ?_ | refine SM ?_ | refine OMN ?_ | refine WM.nil ?_ | refine OQ ?_ | refine SQ ?_ | refine TH ?_ | refine WR.nil ?_ | refine WQ.nil ?_ | refine W.seq ?_ | refine W.region ?_ | refine DR ?_ | refine IFT ?_ | refine IFF ?_ | refine W.skip ?_ | refine W.block ?_ | refine W.exit ?_ | refine W.ret ?_ | (simp only [tN, tR, tE, rN, rR, rE, xN, xR, xE, reduceIte]) | refine DN ?_
  refine CV (l15Code_fn G r l s hr hl hs hsc.out hpl.out) ?_
  by_cases c : codeM r l s = 0
  · have hk : ∀ x ∈ s, 0 ≤ x.1 ∧ x.1 < l.length := fun x hx => by
      have ha : ascM (fun x => placeS r l x.1 x.2) s = true := by
        unfold codeM at c
        split at c
        · split at c
          · assumption
          · simp at c
        · simp at c
      exact (placeS_ok (asc_mem ha hx)).1
    replace hk := Hid.mk hk
    repeat first | refine OP ?_ | refine SK ?_ | refine OPN ?_ | refine OM ?_ | refine SM ?_ | refine OMN ?_ | refine WM.nil ?_ | refine OQ ?_ | refine SQ ?_ | refine TH ?_ | refine WR.nil ?_ | refine WQ.nil ?_ | refine W.seq ?_ | refine W.region ?_ | refine DR ?_ | refine IFT ?_ | refine IFF ?_ | refine W.skip ?_ | refine W.block ?_ | refine W.exit ?_ | refine W.ret ?_ | (simp only [tN, tR, tE, rN, rR, rE, xN, xR, xE, reduceIte]) | refine DN ?_
    refine CV (l15Left_fn G r l s hl hs hk.out) ?_
    repeat first | refine OP ?_ | refine SK ?_ | refine OPN ?_ | refine OM ?_ | refine SM ?_ | refine OMN ?_ | refine WM.nil ?_ | refine OQ ?_ | refine SQ ?_ | refine TH ?_ | refine WR.nil ?_ | refine WQ.nil ?_ | refine W.seq ?_ | refine W.region ?_ | refine DR ?_ | refine IFT ?_ | refine IFF ?_ | refine W.skip ?_ | refine W.block ?_ | refine W.exit ?_ | refine W.ret ?_ | (simp only [tN, tR, tE, rN, rR, rE, xN, xR, xE, reduceIte]) | refine DN ?_
    simp [retA, backA, backsA, newSl, copiesS, c]
  · have c' : (codeM r l s != 0) = true := by simpa using c
    replace c := Hid.mk c
    repeat first | refine OP ?_ | refine SK ?_ | refine OPN ?_ | refine OM ?_ | refine SM ?_ | refine OMN ?_ | refine WM.nil ?_ | refine OQ ?_ | refine SQ ?_ | refine TH ?_ | refine WR.nil ?_ | refine WQ.nil ?_ | refine W.seq ?_ | refine W.region ?_ | refine DR ?_ | refine IFT ?_ | refine IFF ?_ | refine W.skip ?_ | refine W.block ?_ | refine W.exit ?_ | refine W.ret ?_ | (simp only [tN, tR, tE, rN, rR, rE, xN, xR, xE, reduceIte]) | refine DN ?_
    simp [retA, backA, backsA, copiesS, c.out, ints]
theorem implCopiesLeft_o (G : Gv) (hG : ∀ f args H n r H' n', sortsG f args H n r H' n' → G f args H n r H' n') (hG1 : ∀ f args H n r H' n', sortsG1 f args H n r H' n' → G f args H n r H' n') (r : List (Int × Int)) (l : List PieceM) (s : List (Int × List Int)) (hr : r.length < 1000000000) (hl : l.length < 1000000000) (hs : s.length < 1000000000) (hsc : ∀ x ∈ s, x.2.length < 1000000000) (hpl : ∀ p ∈ l, p.cs.length < 1000000000) :
    GivesO Tryz.prog G 20 [.ag [.sl 0 (cells r), .sl 0 (pieces l)], .sl 0 (places s)] (.tup [.sl 1 (ints (copiesI r l s).1), .i .i64 (copiesI r l s).2]) := by
  refine .of (.body Tryz.func20 rfl (by simp [Tryz.ntmps20]) ?_)
  rw [Tryz.ntmps20, Tryz.results20]
  have hlenl := pieces_len l
  have hlens := places_len s
  replace hG := Hid.mk hG
  replace hG1 := Hid.mk hG1
  replace hsc := Hid.mk hsc
  replace hpl := Hid.mk hpl
  repeat first | refine OP ?_ | refine SK ?_ | refine OPN ?_ | refine OM ?_ | refine SM ?_ | refine OMN ?_ | refine WM.nil ?_ | refine OQ ?_ | refine SQ ?_ | refine TH ?_ | refine WR.nil ?_ | refine WQ.nil ?_ | refine W.seq ?_ | refine W.region ?_ | refine DR ?_ | refine IFT ?_ | refine IFF ?_ | refine W.skip ?_ | refine W.block ?_ | refine W.exit ?_ | refine W.ret ?_ | (simp only [tN, tR, tE, rN, rR, rE, xN, xR, xE, reduceIte]) | refine DN ?_
  refine CV (listCode_fn G hG.out hG1.out r l s hr hl hs hsc.out hpl.out) ?_
  by_cases c : codeI r l s = 0
  · have hk : ∀ x ∈ s, 0 ≤ x.1 ∧ x.1 < l.length := fun x hx => by
      have ha : ascM (fun x => placeI r l x.1 x.2) s = true := by
        unfold codeI at c
        split at c
        · split at c
          · assumption
          · simp at c
        · simp at c
      exact (place_ok (asc_mem ha hx)).1
    have hres : copiesI r l s = (leftM l s, 0) := by unfold copiesI; rw [if_pos c]
    rw [hres]
    clear hres
    replace hk := Hid.mk hk
    repeat first | refine OP ?_ | refine SK ?_ | refine OPN ?_ | refine OM ?_ | refine SM ?_ | refine OMN ?_ | refine WM.nil ?_ | refine OQ ?_ | refine SQ ?_ | refine TH ?_ | refine WR.nil ?_ | refine WQ.nil ?_ | refine W.seq ?_ | refine W.region ?_ | refine DR ?_ | refine IFT ?_ | refine IFF ?_ | refine W.skip ?_ | refine W.block ?_ | refine W.exit ?_ | refine W.ret ?_ | (simp only [tN, tR, tE, rN, rR, rE, xN, xR, xE, reduceIte]) | refine DN ?_
    refine .loop (.inv (fun d E H n' => ∃ i : Nat, i + d = l.length ∧ 9 < n' ∧ E 1 = .sl 0 (places s) ∧ E 20 = .sl 0 (pieces l) ∧ E 21 = .i .i64 l.length ∧ E 22 = .i .i64 i ∧ ∃ e, E 7 = .own 9 e ∧ H 9 = some (.arr e 2 1 (ints (copiesM (l.take i))) 1)) l.length ?_ ?_)
    · exact ⟨0, by omega, by omega, by simp [setF_if, argE], by simp [setF_if, argE], by simp [setF_if, argE, hlenl], by simp [setF_if, argE], 0, by simp [setF_if, argE], by simp [upd_if, copiesM, ints]⟩
    rintro d E H n' ⟨i, hi, hn, h1, h20, h21, h22, e, h7, hH⟩
    have n9 : ¬ (9 = n' + 3) := by omega
    by_cases ci : (i : Int) < l.length
    · have hw_i : IntKind.i64.wrap ((i : Int) + 1) = (i : Int) + 1 := wr64 (by omega) (by omega)
      obtain ⟨p, hp⟩ : ∃ p, l[i]? = some p := ⟨_, List.getElem?_eq_getElem (by omega)⟩
      have hr : (pieces l)[i]? = some (pieceR p) := by simp [pieces, hp]
      have htk : ints (copiesM (l.take i)) ++ [[.i .i64 p.k]] = ints (copiesM (l.take (i + 1))) := by
        obtain ⟨hi', rfl⟩ := List.getElem?_eq_some_iff.mp hp
        rw [List.take_succ_eq_append_getElem hi']; simp only [ints, copiesM, List.map_append, List.map_cons, List.map_nil]
      have hrl : (ints (copiesM (l.take i))).length = i := by simp [ints, copiesM]; omega
      have hb : (i + 1) * 8 ≤ 140737488355328 := by omega
      replace hp := Hid.mk hp
      repeat first | refine OP ?_ | refine SK ?_ | refine OPN ?_ | refine OM ?_ | refine SM ?_ | refine OMN ?_ | refine WM.nil ?_ | refine OQ ?_ | refine SQ ?_ | refine TH ?_ | refine WR.nil ?_ | refine WQ.nil ?_ | refine W.seq ?_ | refine W.region ?_ | refine DR ?_ | refine IFT ?_ | refine IFF ?_ | refine W.skip ?_ | refine W.block ?_ | refine W.exit ?_ | refine W.ret ?_ | (simp only [tN, tR, tE, rN, rR, rE, xN, xR, xE, reduceIte]) | refine DN ?_
      exact ⟨l.length - (i + 1), by omega, i + 1, by omega, by omega, by simp [setF_if, *], by simp [setF_if, *], by simp [setF_if, *], by simp [setF_if, *], e + 1, by simp [setF_if, *], by simp [upd_if, *]⟩
    · have ei : i = l.length := by omega
      rw [ei, List.take_length] at hH
      repeat first | refine OP ?_ | refine SK ?_ | refine OPN ?_ | refine OM ?_ | refine SM ?_ | refine OMN ?_ | refine WM.nil ?_ | refine OQ ?_ | refine SQ ?_ | refine TH ?_ | refine WR.nil ?_ | refine WQ.nil ?_ | refine W.seq ?_ | refine W.region ?_ | refine DR ?_ | refine IFT ?_ | refine IFF ?_ | refine W.skip ?_ | refine W.block ?_ | refine W.exit ?_ | refine W.ret ?_ | (simp only [tN, tR, tE, rN, rR, rE, xN, xR, xE, reduceIte]) | refine DN ?_
      refine .loop (.inv (fun d E H n' => ∃ i : Nat, i + d = s.length ∧ 9 < n' ∧ E 32 = .sl 0 (places s) ∧ E 33 = .i .i64 s.length ∧ E 34 = .i .i64 i ∧ E 7 = .own 9 e ∧ H 9 = some (.arr e 2 1 (ints ((s.take i).foldl decM (copiesM l))) 1)) s.length ?_ ?_)
      · exact ⟨0, by omega, by omega, by simp [setF_if, *], by simp [setF_if, *], by simp [setF_if, *], by simp [setF_if, *], by simp [upd_if, *]⟩
      clear h1 h7 hH ci ei hi h20 h21 h22 n9
      rintro d E H n' ⟨i, hi, hn, h32, h33, h34, h7, hH⟩
      have n9 : ¬ (9 = n' + 3) := by omega
      by_cases ci : (i : Int) < s.length
      · have hw_i : IntKind.i64.wrap ((i : Int) + 1) = (i : Int) + 1 := wr64 (by omega) (by omega)
        obtain ⟨x, hx⟩ : ∃ x, s[i]? = some x := ⟨_, List.getElem?_eq_getElem (by omega)⟩
        have hr := places_at hx
        obtain ⟨k1, k2⟩ := hk.out x (List.mem_of_getElem? hx)
        have hft := foldl_take (f := decM) (z := copiesM l) hx
        have hol : ((s.take i).foldl decM (copiesM l)).length = l.length := by rw [dec_len]; simp [copiesM]
        have hro := ints_at (l := (s.take i).foldl decM (copiesM l)) (i := x.1.toNat) (by omega)
        have hro2 : x.1.toNat < (ints ((s.take i).foldl decM (copiesM l))).length := by rw [ints_len]; omega
        have hset := ints_set ((s.take i).foldl decM (copiesM l)) x.1.toNat (IntKind.i64.wrap (((s.take i).foldl decM (copiesM l)).getD x.1.toNat 0 - 1))
        rw [show ((s.take i).foldl decM (copiesM l)).set x.1.toNat (IntKind.i64.wrap (((s.take i).foldl decM (copiesM l)).getD x.1.toNat 0 - 1)) = (s.take (i + 1)).foldl decM (copiesM l) by rw [hft]; rfl] at hset
        replace hset := hset.symm
        generalize ((s.take i).foldl decM (copiesM l)).getD x.1.toNat 0 = v at hro hset
        generalize ints ((s.take i).foldl decM (copiesM l)) = R at hH hro hro2 hset
        replace hx := Hid.mk hx
        replace hft := Hid.mk hft
        clear hol
        obtain ⟨xk, xs⟩ := x
        simp only at k1 k2 hro hro2 hset
        repeat first | refine OP ?_ | refine SK ?_ | refine OPN ?_ | refine OM ?_ | refine SM ?_ | refine OMN ?_ | refine WM.nil ?_ | refine OQ ?_ | refine SQ ?_ | refine TH ?_ | refine WR.nil ?_ | refine WQ.nil ?_ | refine W.seq ?_ | refine W.region ?_ | refine DR ?_ | refine IFT ?_ | refine IFF ?_ | refine W.skip ?_ | refine W.block ?_ | refine W.exit ?_ | refine W.ret ?_ | (simp only [tN, tR, tE, rN, rR, rE, xN, xR, xE, reduceIte]) | refine DN ?_
        exact ⟨s.length - (i + 1), by omega, i + 1, by omega, by omega, by simp [setF_if, *], by simp [setF_if, *], by simp [setF_if, *], by simp [setF_if, *], by simp [upd_if, *]⟩
      · have ei : i = s.length := by omega
        rw [ei, List.take_length] at hH
        repeat first | refine OP ?_ | refine SK ?_ | refine OPN ?_ | refine OM ?_ | refine SM ?_ | refine OMN ?_ | refine WM.nil ?_ | refine OQ ?_ | refine SQ ?_ | refine TH ?_ | refine WR.nil ?_ | refine WQ.nil ?_ | refine W.seq ?_ | refine W.region ?_ | refine DR ?_ | refine IFT ?_ | refine IFF ?_ | refine W.skip ?_ | refine W.block ?_ | refine W.exit ?_ | refine W.ret ?_ | (simp only [tN, tR, tE, rN, rR, rE, xN, xR, xE, reduceIte]) | refine DN ?_
        exact ⟨[9], by rw [← List.append_nil [9]]; exact ownX_mkT (ownX_sl (ownA_mk hH (ints_scal _) (by decide) (ints_fit _))) ownX_mki, by simp⟩
  · have c' : (codeI r l s != 0) = true := by simpa using c
    have hres : copiesI r l s = ([], codeI r l s) := by unfold copiesI; rw [if_neg c]
    rw [hres]
    replace c := Hid.mk c
    clear hres
    repeat first | refine OP ?_ | refine SK ?_ | refine OPN ?_ | refine OM ?_ | refine SM ?_ | refine OMN ?_ | refine WM.nil ?_ | refine OQ ?_ | refine SQ ?_ | refine TH ?_ | refine WR.nil ?_ | refine WQ.nil ?_ | refine W.seq ?_ | refine W.region ?_ | refine DR ?_ | refine IFT ?_ | refine IFF ?_ | refine W.skip ?_ | refine W.block ?_ | refine W.exit ?_ | refine W.ret ?_ | (simp only [tN, tR, tE, rN, rR, rE, xN, xR, xE, reduceIte]) | refine DN ?_
    exact ⟨[], ownX_mkT (s1 := []) (ownX_sl ownA_nil) ownX_mki, by simp⟩
end Go.Proofs
end
section
open Go Go.Big
namespace Go.Proofs
set_option maxHeartbeats 2000000
def findN (l : List Int) (v : Int) : Int := match (List.range l.length).find? (fun i => v == l.getD i 0) with
  | some i => i
  | none => -1
theorem slicesIndex_fn (G : Gv) (l : List Int) (v : Int) (hl : l.length < 1000000000) : Gives Tryz.prog G 123 [.sl 0 (ints l), .i .i64 v] (.i .i64 (findN l v)) := by
  refine .of (.body Tryz.func123 rfl (by simp [Tryz.ntmps123]) ?_)
  rw [Tryz.ntmps123, Tryz.results123]
  have hlen := ints_len l
  repeat first | refine OP ?_ | refine SK ?_ | refine OPN ?_ | refine OM ?_ | refine SM ?_ | refine OMN ?_ | refine WM.nil ?_ | refine OQ ?_ | refine SQ ?_ | refine TH ?_ | refine WR.nil ?_ | refine WQ.nil ?_ | refine W.seq ?_ | refine W.region ?_ | refine DR ?_ | refine IFT ?_ | refine IFF ?_ | refine W.skip ?_ | refine W.block ?_ | refine W.exit ?_ | refine W.ret ?_ | (simp only [tN, tR, tE, rN, rR, rE, xN, xR, xE, reduceIte]) | refine DN ?_
  refine .loop (.inv (fun d E H n' => ∃ i : Nat, i + d = l.length ∧ E 0 = .sl 0 (ints l) ∧ E 1 = .i .i64 v ∧ E 7 = .i .i64 l.length ∧ E 8 = .i .i64 i ∧ (∀ j, j < i → (v == l.getD j 0) = false)) l.length ?_ ?_)
  · exact ⟨0, by omega, by simp [setF_if, argE], by simp [setF_if, argE], by simp [setF_if, argE, hlen], by simp [setF_if, argE], fun j hj => by omega⟩
  rintro d E H n' ⟨i, hi, h0, h1, h7, h8, hall⟩
  replace hall := Hid.mk hall
  by_cases c : (i : Int) < l.length
  · have hw_i : IntKind.i64.wrap ((i : Int) + 1) = (i : Int) + 1 := wr64 (by omega) (by omega)
    have hr := ints_at (l := l) (i := i) (by omega)
    have hyes : (v == l.getD i 0) = true → findN l v = i := fun h => by
      unfold findN; rw [find_yes (p := fun i => v == l.getD i 0) (i := i) (by omega) h (fun j hj => hall.out j hj)]
    have hmore : (v == l.getD i 0) = false → ∀ j, j < i + 1 → (v == l.getD j 0) = false := fun h j hj => by
      by_cases q : j = i
      · rw [q]; exact h
      · exact hall.out j (by omega)
    replace hyes := Hid.mk hyes
    replace hmore := Hid.mk hmore
    generalize l.getD i 0 = x at hr hyes hmore
    cases cq : (v == x) with
    | true =>
      repeat first | refine OP ?_ | refine SK ?_ | refine OPN ?_ | refine OM ?_ | refine SM ?_ | refine OMN ?_ | refine WM.nil ?_ | refine OQ ?_ | refine SQ ?_ | refine TH ?_ | refine WR.nil ?_ | refine WQ.nil ?_ | refine W.seq ?_ | refine W.region ?_ | refine DR ?_ | refine IFT ?_ | refine IFF ?_ | refine W.skip ?_ | refine W.block ?_ | refine W.exit ?_ | refine W.ret ?_ | (simp only [tN, tR, tE, rN, rR, rE, xN, xR, xE, reduceIte]) | refine DN ?_
      simp [retA, backA, hyes.out cq]
    | false =>
      repeat first | refine OP ?_ | refine SK ?_ | refine OPN ?_ | refine OM ?_ | refine SM ?_ | refine OMN ?_ | refine WM.nil ?_ | refine OQ ?_ | refine SQ ?_ | refine TH ?_ | refine WR.nil ?_ | refine WQ.nil ?_ | refine W.seq ?_ | refine W.region ?_ | refine DR ?_ | refine IFT ?_ | refine IFF ?_ | refine W.skip ?_ | refine W.block ?_ | refine W.exit ?_ | refine W.ret ?_ | (simp only [tN, tR, tE, rN, rR, rE, xN, xR, xE, reduceIte]) | refine DN ?_
      exact ⟨l.length - (i + 1), by omega, i + 1, by omega, by simp [setF_if, *], by simp [setF_if, *], by simp [setF_if, *], by simp [setF_if, *], hmore.out cq⟩
  · repeat first | refine OP ?_ | refine SK ?_ | refine OPN ?_ | refine OM ?_ | refine SM ?_ | refine OMN ?_ | refine WM.nil ?_ | refine OQ ?_ | refine SQ ?_ | refine TH ?_ | refine WR.nil ?_ | refine WQ.nil ?_ | refine W.seq ?_ | refine W.region ?_ | refine DR ?_ | refine IFT ?_ | refine IFF ?_ | refine W.skip ?_ | refine W.block ?_ | refine W.exit ?_ | refine W.ret ?_ | (simp only [tN, tR, tE, rN, rR, rE, xN, xR, xE, reduceIte]) | refine DN ?_
    have : findN l v = -1 := by
      unfold findN; rw [find_no (p := fun i => v == l.getD i 0) (fun j hj => hall.out j (by omega))]
    simp [retA, backA, this]
theorem findN_any (l : List Int) (v : Int) : decide (findN l v ≥ 0) = hasM l v := by
  unfold findN hasM
  cases h : (List.range l.length).find? (fun i => v == l.getD i 0) with
  | none =>
    rw [List.find?_range_eq_none] at h
    have : l.any (· == v) = false := by
      rw [List.any_eq_false]
      intro x hx
      obtain ⟨i, hi, e⟩ := List.mem_iff_getElem.mp hx
      have := h i hi
      simp only [List.getD_eq_getElem?_getD, List.getElem?_eq_getElem hi, Option.getD_some, e] at this
      simp only [Bool.not_eq_true', beq_eq_false_iff_ne, ne_eq] at this
      simp only [beq_iff_eq]
      exact fun q => this q.symm
    rw [this]; rfl
  | some i =>
    have h1 := List.find?_some h
    have h2 := List.mem_range.mp (List.mem_of_find?_eq_some h)
    have h3 : l.any (· == v) = true := List.any_eq_true.mpr ⟨l[i], List.getElem_mem _, by
      simp only [List.getD_eq_getElem?_getD, List.getElem?_eq_getElem h2, Option.getD_some, beq_iff_eq] at h1
      simp [h1]⟩
    rw [h3]; simp
theorem slicesContains_fn (G : Gv) (l : List Int) (v : Int) (hl : l.length < 1000000000) : Gives Tryz.prog G 73 [.sl 0 (ints l), .i .i64 v] (.b (hasM l v)) := by
  refine .of (.body Tryz.func73 rfl (by simp [Tryz.ntmps73]) ?_)
  rw [Tryz.ntmps73, Tryz.results73]
  repeat first | refine OP ?_ | refine SK ?_ | refine OPN ?_ | refine OM ?_ | refine SM ?_ | refine OMN ?_ | refine WM.nil ?_ | refine OQ ?_ | refine SQ ?_ | refine TH ?_ | refine WR.nil ?_ | refine WQ.nil ?_ | refine W.seq ?_ | refine W.region ?_ | refine DR ?_ | refine IFT ?_ | refine IFF ?_ | refine W.skip ?_ | refine W.block ?_ | refine W.exit ?_ | refine W.ret ?_ | (simp only [tN, tR, tE, rN, rR, rE, xN, xR, xE, reduceIte]) | refine DN ?_
  refine CV (slicesIndex_fn G l v hl) ?_
  have ha := findN_any l v
  repeat first | refine OP ?_ | refine SK ?_ | refine OPN ?_ | refine OM ?_ | refine SM ?_ | refine OMN ?_ | refine WM.nil ?_ | refine OQ ?_ | refine SQ ?_ | refine TH ?_ | refine WR.nil ?_ | refine WQ.nil ?_ | refine W.seq ?_ | refine W.region ?_ | refine DR ?_ | refine IFT ?_ | refine IFF ?_ | refine W.skip ?_ | refine W.block ?_ | refine W.exit ?_ | refine W.ret ?_ | (simp only [tN, tR, tE, rN, rR, rE, xN, xR, xE, reduceIte]) | refine DN ?_
  simp [retA, backA, ha]
end Go.Proofs
end
section
open Go Go.Big
namespace Go.Proofs
set_option maxHeartbeats 2000000
/-- A function value that asks one question of an element, and leaves old objects as they are. -/
def AsksPl (G : Gv) (f : FuncId) (caps : List AV) (H0 : Heap) (n0 tg : Nat) (p : (Int × List Int) → Bool) (ls : List (Int × List Int)) : Prop :=
  ∀ x ∈ ls, ∀ (H : Heap) (n : Nat), n0 ≤ n → (∀ k, k < n0 → H k = H0 k) → WC Tryz.prog G f ((.ag [.i .i64 x.1, .sl tg (ints x.2)]) :: caps) H n (fun r H' n' => r = .b (p x) ∧ n ≤ n' ∧ ∀ k, k < n0 → H' k = H0 k)
def findPl (p : (Int × List Int) → Bool) (ls : List (Int × List Int)) : Int := match (List.range ls.length).find? (fun i => p (ls.getD i (0, []))) with
  | some i => i
  | none => -1
theorem indexFuncPl_fn (G : Gv) (f : FuncId) (caps : List AV) (H0 : Heap) (n0 tg : Nat) (p : (Int × List Int) → Bool) (ls : List (Int × List Int)) (hp : AsksPl G f caps H0 n0 tg p ls) (hff : (Tryz.prog.funcs[f]?).any (fun fn => fn.body.isSome && (fn.name != "runtime.NumGoroutine")) = true) (hls : ls.length < 1000000000)
    (H : Heap) (n : Nat) (hn : n0 ≤ n) (hH : ∀ k, k < n0 → H k = H0 k) :
    WC Tryz.prog G 122 [.sl tg (places ls), .fn f caps] H n (fun r H' n' => r = .i .i64 (findPl p ls) ∧ n ≤ n' ∧ ∀ k, k < n0 → H' k = H0 k) := by
  refine (.body Tryz.func122 rfl (by simp [Tryz.ntmps122]) ?_)
  rw [Tryz.ntmps122, Tryz.results122]
  have hlen := places_len ls
  replace hH := Hid.mk hH
  replace hp := Hid.mk hp
  repeat first | refine OP ?_ | refine SK ?_ | refine OPN ?_ | refine OM ?_ | refine SM ?_ | refine OMN ?_ | refine WM.nil ?_ | refine OQ ?_ | refine SQ ?_ | refine TH ?_ | refine WR.nil ?_ | refine WQ.nil ?_ | refine W.seq ?_ | refine W.region ?_ | refine DR ?_ | refine IFT ?_ | refine IFF ?_ | refine W.skip ?_ | refine W.block ?_ | refine W.exit ?_ | refine W.ret ?_ | (simp only [tN, tR, tE, rN, rR, rE, xN, xR, xE, reduceIte]) | refine DN ?_
  refine .loop (.inv (fun d E H n' => ∃ i : Nat, i + d = ls.length ∧ n ≤ n' ∧ E 0 = .sl tg (places ls) ∧ E 1 = .fn f caps ∧ E 7 = .i .i64 ls.length ∧ E 8 = .i .i64 i ∧ (∀ k, k < n0 → H k = H0 k) ∧ (∀ j, j < i → p (ls.getD j (0, [])) = false)) ls.length ?_ ?_)
  · exact ⟨0, by omega, by omega, by simp [setF_if, argE], by simp [setF_if, argE], by simp [setF_if, argE, hlen], by simp [setF_if, argE], hH.out, fun j hj => by omega⟩
  clear hH
  rintro d E H n' ⟨i, hi, hnn, h0, h1, h7, h8, hH, hall⟩
  replace hH := Hid.mk hH
  replace hall := Hid.mk hall
  by_cases c : (i : Int) < ls.length
  · have hw_i : IntKind.i64.wrap ((i : Int) + 1) = (i : Int) + 1 := wr64 (by omega) (by omega)
    have hr : (places ls)[i]? = some (placR (ls.getD i (0, []))) := places_at (by simp [List.getD_eq_getElem?_getD, show i < ls.length by omega])
    have hmem : ls.getD i (0, []) ∈ ls := by rw [List.getD_eq_getElem?_getD, List.getElem?_eq_getElem (by omega)]; exact List.getElem_mem _
    have hyes : p (ls.getD i (0, [])) = true → findPl p ls = i := fun h => by
      unfold findPl; rw [find_yes (p := fun i => p (ls.getD i (0, []))) (i := i) (by omega) h (fun j hj => hall.out j hj)]
    have hmore : p (ls.getD i (0, [])) = false → ∀ j, j < i + 1 → p (ls.getD j (0, [])) = false := fun h j hj => by
      by_cases q : j = i
      · rw [q]; exact h
      · exact hall.out j (by omega)
    replace hyes := Hid.mk hyes
    replace hmore := Hid.mk hmore
    replace hmem := Hid.mk hmem
    generalize ls.getD i (0, []) = x at hr hmem hyes hmore
    repeat first | refine OP ?_ | refine SK ?_ | refine OPN ?_ | refine OM ?_ | refine SM ?_ | refine OMN ?_ | refine WM.nil ?_ | refine OQ ?_ | refine SQ ?_ | refine TH ?_ | refine WR.nil ?_ | refine WQ.nil ?_ | refine W.seq ?_ | refine W.region ?_ | refine DR ?_ | refine IFT ?_ | refine IFF ?_ | refine W.skip ?_ | refine W.block ?_ | refine W.exit ?_ | refine W.ret ?_ | (simp only [tN, tR, tE, rN, rR, rE, xN, xR, xE, reduceIte]) | refine DN ?_
    refine CI (hf := hff) ?_
    refine (hp.out x hmem.out _ _ (by omega) hH.out).mono ?_
    rintro r H2 n2 ⟨rfl, hn2, hH2⟩
    replace hH2 := Hid.mk hH2
    cases cq : p x with
    | true =>
      repeat first | refine OP ?_ | refine SK ?_ | refine OPN ?_ | refine OM ?_ | refine SM ?_ | refine OMN ?_ | refine WM.nil ?_ | refine OQ ?_ | refine SQ ?_ | refine TH ?_ | refine WR.nil ?_ | refine WQ.nil ?_ | refine W.seq ?_ | refine W.region ?_ | refine DR ?_ | refine IFT ?_ | refine IFF ?_ | refine W.skip ?_ | refine W.block ?_ | refine W.exit ?_ | refine W.ret ?_ | (simp only [tN, tR, tE, rN, rR, rE, xN, xR, xE, reduceIte]) | refine DN ?_
      exact ⟨by simp [retA, setF_if, hyes.out cq], by omega, hH2.out⟩
    | false =>
      repeat first | refine OP ?_ | refine SK ?_ | refine OPN ?_ | refine OM ?_ | refine SM ?_ | refine OMN ?_ | refine WM.nil ?_ | refine OQ ?_ | refine SQ ?_ | refine TH ?_ | refine WR.nil ?_ | refine WQ.nil ?_ | refine W.seq ?_ | refine W.region ?_ | refine DR ?_ | refine IFT ?_ | refine IFF ?_ | refine W.skip ?_ | refine W.block ?_ | refine W.exit ?_ | refine W.ret ?_ | (simp only [tN, tR, tE, rN, rR, rE, xN, xR, xE, reduceIte]) | refine DN ?_
      exact ⟨ls.length - (i + 1), by omega, i + 1, by omega, by omega, by simp [setF_if, *], by simp [setF_if, *], by simp [setF_if, *], by simp [setF_if, *], hH2.out, hmore.out cq⟩
  · repeat first | refine OP ?_ | refine SK ?_ | refine OPN ?_ | refine OM ?_ | refine SM ?_ | refine OMN ?_ | refine WM.nil ?_ | refine OQ ?_ | refine SQ ?_ | refine TH ?_ | refine WR.nil ?_ | refine WQ.nil ?_ | refine W.seq ?_ | refine W.region ?_ | refine DR ?_ | refine IFT ?_ | refine IFF ?_ | refine W.skip ?_ | refine W.block ?_ | refine W.exit ?_ | refine W.ret ?_ | (simp only [tN, tR, tE, rN, rR, rE, xN, xR, xE, reduceIte]) | refine DN ?_
    have : findPl p ls = -1 := by
      unfold findPl; rw [find_no (p := fun i => p (ls.getD i (0, []))) (fun j hj => hall.out j (by omega))]
    exact ⟨by simp [retA, setF_if, this], by omega, hH.out⟩
theorem findPl_any (p : (Int × List Int) → Bool) (ls : List (Int × List Int)) : decide (findPl p ls ≥ 0) = ls.any p := by
  unfold findPl
  cases h : (List.range ls.length).find? (fun i => p (ls.getD i (0, []))) with
  | none =>
    rw [List.find?_range_eq_none] at h
    have : ls.any p = false := by
      rw [List.any_eq_false]
      intro x hx
      obtain ⟨i, hi, e⟩ := List.mem_iff_getElem.mp hx
      have := h i hi
      rw [← e]
      simpa [List.getD_eq_getElem?_getD, hi] using this
    rw [this]; rfl
  | some i =>
    have h1 := List.find?_some h
    have h2 := List.mem_range.mp (List.mem_of_find?_eq_some h)
    simp only [decide_eq_true_eq] at *
    have h3 : ls.any p = true := List.any_eq_true.mpr ⟨ls[i], List.getElem_mem _, by simpa [List.getD_eq_getElem?_getD, h2] using h1⟩
    rw [h3]; simp
theorem containsFuncPl_fn (G : Gv) (f : FuncId) (caps : List AV) (H0 : Heap) (n0 tg : Nat) (p : (Int × List Int) → Bool) (ls : List (Int × List Int)) (hp : AsksPl G f caps H0 n0 tg p ls) (hff : (Tryz.prog.funcs[f]?).any (fun fn => fn.body.isSome && (fn.name != "runtime.NumGoroutine")) = true) (hls : ls.length < 1000000000)
    (H : Heap) (n : Nat) (hn : n0 ≤ n) (hH : ∀ k, k < n0 → H k = H0 k) :
    WC Tryz.prog G 71 [.sl tg (places ls), .fn f caps] H n (fun r H' n' => r = .b (ls.any p) ∧ n ≤ n' ∧ ∀ k, k < n0 → H' k = H0 k) := by
  refine (.body Tryz.func71 rfl (by simp [Tryz.ntmps71]) ?_)
  rw [Tryz.ntmps71, Tryz.results71]
  replace hH := Hid.mk hH
  replace hp := Hid.mk hp
  repeat first | refine OP ?_ | refine SK ?_ | refine OPN ?_ | refine OM ?_ | refine SM ?_ | refine OMN ?_ | refine WM.nil ?_ | refine OQ ?_ | refine SQ ?_ | refine TH ?_ | refine WR.nil ?_ | refine WQ.nil ?_ | refine W.seq ?_ | refine W.region ?_ | refine DR ?_ | refine IFT ?_ | refine IFF ?_ | refine W.skip ?_ | refine W.block ?_ | refine W.exit ?_ | refine W.ret ?_ | (simp only [tN, tR, tE, rN, rR, rE, xN, xR, xE, reduceIte]) | refine DN ?_
  refine CI ?_
  refine (indexFuncPl_fn G f caps H0 n0 tg p ls hp.out hff hls _ _ (by omega) hH.out).mono ?_
  rintro r H2 n2 ⟨rfl, hn2, hH2⟩
  replace hH2 := Hid.mk hH2
  have ha := findPl_any p ls
  repeat first | refine OP ?_ | refine SK ?_ | refine OPN ?_ | refine OM ?_ | refine SM ?_ | refine OMN ?_ | refine WM.nil ?_ | refine OQ ?_ | refine SQ ?_ | refine TH ?_ | refine WR.nil ?_ | refine WQ.nil ?_ | refine W.seq ?_ | refine W.region ?_ | refine DR ?_ | refine IFT ?_ | refine IFF ?_ | refine W.skip ?_ | refine W.block ?_ | refine W.exit ?_ | refine W.ret ?_ | (simp only [tN, tR, tE, rN, rR, rE, xN, xR, xE, reduceIte]) | refine DN ?_
  exact ⟨by simp [retA, setF_if, ha], by omega, hH2.out⟩
end Go.Proofs
end
