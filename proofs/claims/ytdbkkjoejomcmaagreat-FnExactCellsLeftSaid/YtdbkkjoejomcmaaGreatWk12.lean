/- Walks: The cells that are left: both programs. No condition. | Numbers written into lists of one's own. No condition. -/
import Derived.Test.YtdbkkjoejomcmaaGreatBO
import Derived.Test.YtdbkkjoejomcmaaGreatWk11
import Derived.Test.YtdbkkjoejomcmaaGreatWk9
import Derived.Test.YtdbkkjoejomcmaaGreatWk5
set_option linter.unusedVariables false
set_option linter.unusedSimpArgs false
section
open Go Go.Big
namespace Go.Proofs
set_option maxHeartbeats 2000000
def freeB (s : List (Int × List Int)) (k : Int) : Bool := s.all fun x => !hasM x.2 k
def cellsF (s : List (Int × List Int)) (i : Nat) : List Int := ((List.range i).map fun k : Nat => (k : Int)).filter (freeB s)
theorem cellsF_succ (s : List (Int × List Int)) (i : Nat) : cellsF s (i + 1) = cellsF s i ++ (if freeB s i then [(i : Int)] else []) := by
  unfold cellsF
  rw [List.range_succ, List.map_append, List.filter_append]
  congr 1
  simp only [List.map_cons, List.map_nil, List.filter_cons, List.filter_nil]
theorem cellsF_len (s : List (Int × List Int)) (i : Nat) : (cellsF s i).length ≤ i := by
  unfold cellsF
  refine Nat.le_trans (List.length_filter_le _ _) ?_
  simp
theorem l15Cells_fn (G : Gv) (r : List (Int × Int)) (l : List PieceM) (s : List (Int × List Int)) (hr : r.length < 1000000000) (hs : s.length < 1000000000) (hsc : ∀ x ∈ s, x.2.length < 1000000000) :
    Gives Tryz.prog G 70 [.ag [.sl 0 (cells r), .sl 0 (pieces l)], .sl 0 (places s)] (.sl 1 (ints (cellsF s r.length))) := by
  refine .of (.body Tryz.func70 rfl (by simp [Tryz.ntmps70]) ?_)
  rw [Tryz.ntmps70, Tryz.results70]
  have hlenr := cells_len r
  have hlens := places_len s
  replace hsc := Hid.mk hsc
  repeat first | refine OP ?_ | refine SK ?_ | refine OPN ?_ | refine OM ?_ | refine SM ?_ | refine OMN ?_ | refine WM.nil ?_ | refine OQ ?_ | refine SQ ?_ | refine TH ?_ | refine WR.nil ?_ | refine WQ.nil ?_ | refine W.seq ?_ | refine W.region ?_ | refine DR ?_ | refine IFT ?_ | refine IFF ?_ | refine W.skip ?_ | refine W.block ?_ | refine W.exit ?_ | refine W.ret ?_ | (simp only [tN, tR, tE, rN, rR, rE, xN, xR, xE, reduceIte]) | refine DN ?_
  refine .loop (.inv (fun d E H n' => ∃ i : Nat, i + d = r.length ∧ 2 < n' ∧ E 1 = .sl 0 (places s) ∧ E 2 = .ptr 0 0 0 0 ∧ E 6 = .i .i64 i ∧ H 0 = some (.box 35 [.sl 0 (cells r), .sl 0 (pieces l)]) ∧ ∃ e, E 5 = .own 2 e ∧ H 2 = some (.arr e 2 1 (ints (cellsF s i)) 1)) r.length ?_ ?_)
  · exact ⟨0, by omega, by omega, by simp [setF_if, argE], by simp [setF_if, argE], by simp [setF_if, argE], by simp [upd_if], 0, by simp [setF_if, argE], by simp [upd_if, cellsF, ints]⟩
  rintro d E H n' ⟨i, hi, hn, h1, h2, h6, hH, e, h5, hH2⟩
  by_cases c : (i : Int) < r.length
  · have hw_i : IntKind.i64.wrap ((i : Int) + 1) = (i : Int) + 1 := wr64 (by omega) (by omega)
    repeat first | refine OP ?_ | refine SK ?_ | refine OPN ?_ | refine OM ?_ | refine SM ?_ | refine OMN ?_ | refine WM.nil ?_ | refine OQ ?_ | refine SQ ?_ | refine TH ?_ | refine WR.nil ?_ | refine WQ.nil ?_ | refine W.seq ?_ | refine W.region ?_ | refine DR ?_ | refine IFT ?_ | refine IFF ?_ | refine W.skip ?_ | refine W.block ?_ | refine W.exit ?_ | refine W.ret ?_ | (simp only [tN, tR, tE, rN, rR, rE, xN, xR, xE, reduceIte]) | refine DN ?_
    refine .loop (.inv (fun d2 E H n' => ∃ j : Nat, j + d2 = s.length ∧ 2 < n' ∧ E 1 = .sl 0 (places s) ∧ E 2 = .ptr 0 0 0 0 ∧ E 6 = .i .i64 i ∧ H 0 = some (.box 35 [.sl 0 (cells r), .sl 0 (pieces l)]) ∧ E 5 = .own 2 e ∧ H 2 = some (.arr e 2 1 (ints (cellsF s i)) 1) ∧ E 8 = .i .i64 j ∧ E 7 = .b (freeB (s.take j) i)) s.length ?_ ?_)
    · exact ⟨0, by omega, by omega, by simp [setF_if, *], by simp [setF_if, *], by simp [setF_if, *], by simp [*], by simp [setF_if, *], by simp [*], by simp [setF_if, *], by simp [setF_if, freeB]⟩
    clear h1 h2 h6 hH h5 hH2 hn
    rintro d2 E H n' ⟨j, hj, hn, h1, h2, h6, hH, h5, hH2, h8, h7⟩
    by_cases cj : (j : Int) < s.length
    · have hw_j : IntKind.i64.wrap ((j : Int) + 1) = (j : Int) + 1 := wr64 (by omega) (by omega)
      obtain ⟨x, hx⟩ : ∃ x, s[j]? = some x := ⟨_, List.getElem?_eq_getElem (by omega)⟩
      have hrow := places_at hx
      have hxl := hsc.out x (List.mem_of_getElem? hx)
      have htk : freeB (s.take (j + 1)) i = (freeB (s.take j) i && !hasM x.2 i) := by unfold freeB; rw [take_allG hx]
      replace hx := Hid.mk hx
      replace htk := Hid.mk htk
      obtain ⟨xk, xs⟩ := x
      simp only at hxl htk
      cases cf : freeB (s.take j) i with
      | true =>
        rw [cf] at h7
        repeat first | refine OP ?_ | refine SK ?_ | refine OPN ?_ | refine OM ?_ | refine SM ?_ | refine OMN ?_ | refine WM.nil ?_ | refine OQ ?_ | refine SQ ?_ | refine TH ?_ | refine WR.nil ?_ | refine WQ.nil ?_ | refine W.seq ?_ | refine W.region ?_ | refine DR ?_ | refine IFT ?_ | refine IFF ?_ | refine W.skip ?_ | refine W.block ?_ | refine W.exit ?_ | refine W.ret ?_ | (simp only [tN, tR, tE, rN, rR, rE, xN, xR, xE, reduceIte]) | refine DN ?_
        refine CV (l01Has_fn G xs i hxl) ?_
        repeat first | refine OP ?_ | refine SK ?_ | refine OPN ?_ | refine OM ?_ | refine SM ?_ | refine OMN ?_ | refine WM.nil ?_ | refine OQ ?_ | refine SQ ?_ | refine TH ?_ | refine WR.nil ?_ | refine WQ.nil ?_ | refine W.seq ?_ | refine W.region ?_ | refine DR ?_ | refine IFT ?_ | refine IFF ?_ | refine W.skip ?_ | refine W.block ?_ | refine W.exit ?_ | refine W.ret ?_ | (simp only [tN, tR, tE, rN, rR, rE, xN, xR, xE, reduceIte]) | refine DN ?_
        exact ⟨s.length - (j + 1), by omega, j + 1, by omega, by omega, by simp [setF_if, *], by simp [setF_if, *], by simp [setF_if, *], by simp [*], by simp [setF_if, *], by simp [*], by simp [setF_if, *], by simp [setF_if, htk.out, cf]⟩
      | false =>
        rw [cf] at h7
        repeat first | refine OP ?_ | refine SK ?_ | refine OPN ?_ | refine OM ?_ | refine SM ?_ | refine OMN ?_ | refine WM.nil ?_ | refine OQ ?_ | refine SQ ?_ | refine TH ?_ | refine WR.nil ?_ | refine WQ.nil ?_ | refine W.seq ?_ | refine W.region ?_ | refine DR ?_ | refine IFT ?_ | refine IFF ?_ | refine W.skip ?_ | refine W.block ?_ | refine W.exit ?_ | refine W.ret ?_ | (simp only [tN, tR, tE, rN, rR, rE, xN, xR, xE, reduceIte]) | refine DN ?_
        exact ⟨s.length - (j + 1), by omega, j + 1, by omega, by omega, by simp [setF_if, *], by simp [setF_if, *], by simp [setF_if, *], by simp [*], by simp [setF_if, *], by simp [*], by simp [setF_if, *], by simp [setF_if, htk.out, cf]⟩
    · have ej : j = s.length := by omega
      rw [ej, List.take_length] at h7
      have hsu := cellsF_succ s i
      have hlen := cellsF_len s i
      have hle : (ints (cellsF s i)).length ≤ i := by rw [ints_len]; exact hlen
      have hb : ((ints (cellsF s i)).length + 1) * 8 ≤ 140737488355328 := by omega
      have hap : ints (cellsF s i) ++ [[.i .i64 (i : Int)]] = ints (cellsF s i ++ [(i : Int)]) := by simp [ints]
      generalize freeB s i = fb at h7 hsu
      clear hj ej
      cases fb with
      | true =>
        simp only [if_true] at hsu
        rw [← hsu] at hap
        clear hsu hle hlen
        repeat first | refine OP ?_ | refine SK ?_ | refine OPN ?_ | refine OM ?_ | refine SM ?_ | refine OMN ?_ | refine WM.nil ?_ | refine OQ ?_ | refine SQ ?_ | refine TH ?_ | refine WR.nil ?_ | refine WQ.nil ?_ | refine W.seq ?_ | refine W.region ?_ | refine DR ?_ | refine IFT ?_ | refine IFF ?_ | refine W.skip ?_ | refine W.block ?_ | refine W.exit ?_ | refine W.ret ?_ | (simp only [tN, tR, tE, rN, rR, rE, xN, xR, xE, reduceIte]) | refine DN ?_
        exact ⟨r.length - (i + 1), by omega, i + 1, by omega, by omega, by simp [setF_if, *], by simp [setF_if, *], by simp [setF_if, *], by simp [upd_if, *], e + 1, by simp [setF_if, *], by simp [upd_if, *]⟩
      | false =>
        simp only [Bool.false_eq_true, if_false, List.append_nil] at hsu
        clear hap hle hlen hb
        rw [← hsu] at hH2
        clear hsu
        repeat first | refine OP ?_ | refine SK ?_ | refine OPN ?_ | refine OM ?_ | refine SM ?_ | refine OMN ?_ | refine WM.nil ?_ | refine OQ ?_ | refine SQ ?_ | refine TH ?_ | refine WR.nil ?_ | refine WQ.nil ?_ | refine W.seq ?_ | refine W.region ?_ | refine DR ?_ | refine IFT ?_ | refine IFF ?_ | refine W.skip ?_ | refine W.block ?_ | refine W.exit ?_ | refine W.ret ?_ | (simp only [tN, tR, tE, rN, rR, rE, xN, xR, xE, reduceIte]) | refine DN ?_
        exact ⟨r.length - (i + 1), by omega, i + 1, by omega, by omega, by simp [setF_if, *], by simp [setF_if, *], by simp [setF_if, *], by simp [*], e, by simp [setF_if, *], by simp [*]⟩
  · have ei : i = r.length := by omega
    rw [ei] at hH2
    repeat first | refine OP ?_ | refine SK ?_ | refine OPN ?_ | refine OM ?_ | refine SM ?_ | refine OMN ?_ | refine WM.nil ?_ | refine OQ ?_ | refine SQ ?_ | refine TH ?_ | refine WR.nil ?_ | refine WQ.nil ?_ | refine W.seq ?_ | refine W.region ?_ | refine DR ?_ | refine IFT ?_ | refine IFF ?_ | refine W.skip ?_ | refine W.block ?_ | refine W.exit ?_ | refine W.ret ?_ | (simp only [tN, tR, tE, rN, rR, rE, xN, xR, xE, reduceIte]) | refine DN ?_
    simp [retA, backA, newSl, newB, setF_if, h5, hH2]
theorem left1_fn (G : Gv) (x : Int × List Int) (k : Int) (o : Nat) (T : TypeId) (H : Heap) (n tg : Nat) (ho : o < n) (hH : H o = some (.box T [.i .i64 k])) (hx : x.2.length < 1000000000) :
    WC Tryz.prog G 72 [.ag [.i .i64 x.1, .sl tg (ints x.2)], .ptr o 0 0 0] H n (fun r H' n' => r = .b (hasM x.2 k) ∧ n ≤ n' ∧ ∀ j, j < n → H' j = H j) := by
  refine (.body Tryz.func72 rfl (by simp [Tryz.ntmps72]) ?_)
  rw [Tryz.ntmps72, Tryz.results72]
  have hno : ¬ (o = n) := by omega
  have hno2 : ¬ (n = o) := by omega
  repeat first | refine OP ?_ | refine SK ?_ | refine OPN ?_ | refine OM ?_ | refine SM ?_ | refine OMN ?_ | refine WM.nil ?_ | refine OQ ?_ | refine SQ ?_ | refine TH ?_ | refine WR.nil ?_ | refine WQ.nil ?_ | refine W.seq ?_ | refine W.region ?_ | refine DR ?_ | refine IFT ?_ | refine IFF ?_ | refine W.skip ?_ | refine W.block ?_ | refine W.exit ?_ | refine W.ret ?_ | (simp only [tN, tR, tE, rN, rR, rE, xN, xR, xE, reduceIte]) | refine DN ?_
  refine CV (slicesContains_fn G x.2 k hx) ?_
  repeat first | refine OP ?_ | refine SK ?_ | refine OPN ?_ | refine OM ?_ | refine SM ?_ | refine OMN ?_ | refine WM.nil ?_ | refine OQ ?_ | refine SQ ?_ | refine TH ?_ | refine WR.nil ?_ | refine WQ.nil ?_ | refine W.seq ?_ | refine W.region ?_ | refine DR ?_ | refine IFT ?_ | refine IFF ?_ | refine W.skip ?_ | refine W.block ?_ | refine W.exit ?_ | refine W.ret ?_ | (simp only [tN, tR, tE, rN, rR, rE, xN, xR, xE, reduceIte]) | refine DN ?_
  refine ⟨by simp [retA, setF_if], by omega, fun j hj => ?_⟩
  rw [upd_if, if_neg (by omega)]
def cleftS (r : List (Int × Int)) (l : List PieceM) (s : List (Int × List Int)) : List Int × Int := if codeM r l s = 0 then (cellsF s r.length, 0) else ([], codeM r l s)
def cleftI (r : List (Int × Int)) (l : List PieceM) (s : List (Int × List Int)) : List Int × Int := if codeI r l s = 0 then (cellsF s r.length, 0) else ([], codeI r l s)
theorem specCellsLeft_fn (G : Gv) (r : List (Int × Int)) (l : List PieceM) (s : List (Int × List Int)) (hr : r.length < 1000000000) (hl : l.length < 1000000000) (hs : s.length < 1000000000) (hsc : ∀ x ∈ s, x.2.length < 1000000000) (hpl : ∀ p ∈ l, p.cs.length < 1000000000) :
    Gives Tryz.prog G 28 [.ag [.sl 0 (cells r), .sl 0 (pieces l)], .sl 0 (places s)] (.tup [.sl 1 (ints (cleftS r l s).1), .i .i64 (cleftS r l s).2]) := by
  refine .of (.body Tryz.func28 rfl (by simp [Tryz.ntmps28]) ?_)
  rw [Tryz.ntmps28, Tryz.results28]
  replace hsc := Hid.mk hsc
  replace hpl := Hid.mk hpl
  repeat first | refine OP ?_ | refine SK ?_ | refine OPN ?_ | refine OM ?_ | refine SM ?_ | refine OMN ?_ | refine WM.nil ?_ | refine OQ ?_ | refine SQ ?_ | refine TH ?_ | refine WR.nil ?_ | refine WQ.nil ?_ | refine W.seq ?_ | refine W.region ?_ | refine DR ?_ | refine IFT ?_ | refine IFF ?_ | refine W.skip ?_ | refine W.block ?_ | refine W.exit ?_ | refine W.ret ?_ | (simp only [tN, tR, tE, rN, rR, rE, xN, xR, xE, reduceIte]) | refine DN ?_
  refine CV (l15Code_fn G r l s hr hl hs hsc.out hpl.out) ?_
  by_cases c : codeM r l s = 0
  · repeat first | refine OP ?_ | refine SK ?_ | refine OPN ?_ | refine OM ?_ | refine SM ?_ | refine OMN ?_ | refine WM.nil ?_ | refine OQ ?_ | refine SQ ?_ | refine TH ?_ | refine WR.nil ?_ | refine WQ.nil ?_ | refine W.seq ?_ | refine W.region ?_ | refine DR ?_ | refine IFT ?_ | refine IFF ?_ | refine W.skip ?_ | refine W.block ?_ | refine W.exit ?_ | refine W.ret ?_ | (simp only [tN, tR, tE, rN, rR, rE, xN, xR, xE, reduceIte]) | refine DN ?_
    refine CV (l15Cells_fn G r l s hr hs hsc.out) ?_
    repeat first | refine OP ?_ | refine SK ?_ | refine OPN ?_ | refine OM ?_ | refine SM ?_ | refine OMN ?_ | refine WM.nil ?_ | refine OQ ?_ | refine SQ ?_ | refine TH ?_ | refine WR.nil ?_ | refine WQ.nil ?_ | refine W.seq ?_ | refine W.region ?_ | refine DR ?_ | refine IFT ?_ | refine IFF ?_ | refine W.skip ?_ | refine W.block ?_ | refine W.exit ?_ | refine W.ret ?_ | (simp only [tN, tR, tE, rN, rR, rE, xN, xR, xE, reduceIte]) | refine DN ?_
    simp [retA, backA, backsA, newSl, cleftS, c]
  · have c' : (codeM r l s != 0) = true := by simpa using c
    replace c := Hid.mk c
    repeat first | refine OP ?_ | refine SK ?_ | refine OPN ?_ | refine OM ?_ | refine SM ?_ | refine OMN ?_ | refine WM.nil ?_ | refine OQ ?_ | refine SQ ?_ | refine TH ?_ | refine WR.nil ?_ | refine WQ.nil ?_ | refine W.seq ?_ | refine W.region ?_ | refine DR ?_ | refine IFT ?_ | refine IFF ?_ | refine W.skip ?_ | refine W.block ?_ | refine W.exit ?_ | refine W.ret ?_ | (simp only [tN, tR, tE, rN, rR, rE, xN, xR, xE, reduceIte]) | refine DN ?_
    simp [retA, backA, backsA, cleftS, c.out, ints]
theorem implCellsLeft_o (G : Gv) (hG : ∀ f args H n r H' n', sortsG f args H n r H' n' → G f args H n r H' n') (hG1 : ∀ f args H n r H' n', sortsG1 f args H n r H' n' → G f args H n r H' n') (r : List (Int × Int)) (l : List PieceM) (s : List (Int × List Int)) (hr : r.length < 1000000000) (hl : l.length < 1000000000) (hs : s.length < 1000000000) (hsc : ∀ x ∈ s, x.2.length < 1000000000) (hpl : ∀ p ∈ l, p.cs.length < 1000000000) :
    GivesO Tryz.prog G 29 [.ag [.sl 0 (cells r), .sl 0 (pieces l)], .sl 0 (places s)] (.tup [.sl 1 (ints (cleftI r l s).1), .i .i64 (cleftI r l s).2]) := by
  refine .of (.body Tryz.func29 rfl (by simp [Tryz.ntmps29]) ?_)
  rw [Tryz.ntmps29, Tryz.results29]
  have hlenr := cells_len r
  replace hG := Hid.mk hG
  replace hG1 := Hid.mk hG1
  replace hsc := Hid.mk hsc
  replace hpl := Hid.mk hpl
  repeat first | refine OP ?_ | refine SK ?_ | refine OPN ?_ | refine OM ?_ | refine SM ?_ | refine OMN ?_ | refine WM.nil ?_ | refine OQ ?_ | refine SQ ?_ | refine TH ?_ | refine WR.nil ?_ | refine WQ.nil ?_ | refine W.seq ?_ | refine W.region ?_ | refine DR ?_ | refine IFT ?_ | refine IFF ?_ | refine W.skip ?_ | refine W.block ?_ | refine W.exit ?_ | refine W.ret ?_ | (simp only [tN, tR, tE, rN, rR, rE, xN, xR, xE, reduceIte]) | refine DN ?_
  refine CV (listCode_fn G hG.out hG1.out r l s hr hl hs hsc.out hpl.out) ?_
  by_cases c : codeI r l s = 0
  · have hres : cleftI r l s = (cellsF s r.length, 0) := by unfold cleftI; rw [if_pos c]
    rw [hres]
    clear hres
    repeat first | refine OP ?_ | refine SK ?_ | refine OPN ?_ | refine OM ?_ | refine SM ?_ | refine OMN ?_ | refine WM.nil ?_ | refine OQ ?_ | refine SQ ?_ | refine TH ?_ | refine WR.nil ?_ | refine WQ.nil ?_ | refine W.seq ?_ | refine W.region ?_ | refine DR ?_ | refine IFT ?_ | refine IFF ?_ | refine W.skip ?_ | refine W.block ?_ | refine W.exit ?_ | refine W.ret ?_ | (simp only [tN, tR, tE, rN, rR, rE, xN, xR, xE, reduceIte]) | refine DN ?_
    refine .loop (.inv (fun d E H n' => ∃ i : Nat, i + d = r.length ∧ 9 < n' ∧ E 1 = .sl 0 (places s) ∧ E 18 = .i .i64 r.length ∧ E 19 = .i .i64 i ∧ ∃ e, E 7 = .own 9 e ∧ H 9 = some (.arr e 2 1 (ints (cellsF s i)) 1)) r.length ?_ ?_)
    · exact ⟨0, by omega, by omega, by simp [setF_if, argE], by simp [setF_if, argE, hlenr], by simp [setF_if, argE], 0, by simp [setF_if, argE], by simp [upd_if, cellsF, ints]⟩
    rintro d E H n' ⟨i, hi, hn, h1, h18, h19, e, h7, hH⟩
    by_cases ci : (i : Int) < r.length
    · have hw_i : IntKind.i64.wrap ((i : Int) + 1) = (i : Int) + 1 := wr64 (by omega) (by omega)
      have n9 : ¬ (9 = n' + 2) := by omega
      repeat first | refine OP ?_ | refine SK ?_ | refine OPN ?_ | refine OM ?_ | refine SM ?_ | refine OMN ?_ | refine WM.nil ?_ | refine OQ ?_ | refine SQ ?_ | refine TH ?_ | refine WR.nil ?_ | refine WQ.nil ?_ | refine W.seq ?_ | refine W.region ?_ | refine DR ?_ | refine IFT ?_ | refine IFF ?_ | refine W.skip ?_ | refine W.block ?_ | refine W.exit ?_ | refine W.ret ?_ | (simp only [tN, tR, tE, rN, rR, rE, xN, xR, xE, reduceIte]) | refine DN ?_
      refine CI ?_
      refine (containsFuncPl_fn G 72 [.ptr (n' + 2) 0 0 0] _ (n' + 6) 0 (fun x => hasM x.2 i) s ?_ (by kernel_rfl) hs _ _ (Nat.le_refl _) (fun _ _ => rfl)).mono ?_
      · intro x hx H2 n2 hn2 hH2
        refine (left1_fn G x i (n' + 2) 2 H2 n2 0 (by omega) ?_ (hsc.out x hx)).mono ?_
        · rw [hH2 _ (by omega)]; simp [upd_if]
        · rintro _ H3 n3 ⟨rfl, h4, h5⟩
          exact ⟨rfl, h4, fun k hk => by rw [h5 k (by omega), hH2 k hk]⟩
      rintro _ H2 n2 ⟨rfl, hn2, hH2⟩
      have hB := hH2 (n' + 2) (by omega)
      have hA := hH2 9 (by omega)
      simp only [upd_if, reduceIte, n9, hH] at hA hB
      clear hH hH2
      have hfb : (!(s.any fun x => hasM x.2 i)) = freeB s i := by unfold freeB; simp [List.all_eq_not_any_not]
      have hsu := cellsF_succ s i
      have hlen := cellsF_len s i
      have hle : (ints (cellsF s i)).length ≤ i := by rw [ints_len]; exact hlen
      have hb : ((ints (cellsF s i)).length + 1) * 8 ≤ 140737488355328 := by omega
      have hap : ints (cellsF s i) ++ [[.i .i64 (i : Int)]] = ints (cellsF s i ++ [(i : Int)]) := by simp [ints]
      generalize freeB s i = fb at hfb hsu
      generalize (s.any fun x => hasM x.2 i) = an at hfb
      have n4 : ¬ (9 = n2 + 3) := by omega
      subst hfb
      cases an with
      | true =>
        simp only [Bool.not_true, Bool.false_eq_true, if_false, List.append_nil] at hsu
        clear hap hle hlen hb
        rw [← hsu] at hA
        clear hsu
        repeat first | refine OP ?_ | refine SK ?_ | refine OPN ?_ | refine OM ?_ | refine SM ?_ | refine OMN ?_ | refine WM.nil ?_ | refine OQ ?_ | refine SQ ?_ | refine TH ?_ | refine WR.nil ?_ | refine WQ.nil ?_ | refine W.seq ?_ | refine W.region ?_ | refine DR ?_ | refine IFT ?_ | refine IFF ?_ | refine W.skip ?_ | refine W.block ?_ | refine W.exit ?_ | refine W.ret ?_ | (simp only [tN, tR, tE, rN, rR, rE, xN, xR, xE, reduceIte]) | refine DN ?_
        exact ⟨r.length - (i + 1), by omega, i + 1, by omega, by omega, by simp [setF_if, *], by simp [setF_if, *], by simp [setF_if, *], e, by simp [setF_if, *], by simp [*]⟩
      | false =>
        simp only [Bool.not_false, if_true] at hsu
        rw [← hsu] at hap
        clear hsu hle hlen
        repeat first | refine OP ?_ | refine SK ?_ | refine OPN ?_ | refine OM ?_ | refine SM ?_ | refine OMN ?_ | refine WM.nil ?_ | refine OQ ?_ | refine SQ ?_ | refine TH ?_ | refine WR.nil ?_ | refine WQ.nil ?_ | refine W.seq ?_ | refine W.region ?_ | refine DR ?_ | refine IFT ?_ | refine IFF ?_ | refine W.skip ?_ | refine W.block ?_ | refine W.exit ?_ | refine W.ret ?_ | (simp only [tN, tR, tE, rN, rR, rE, xN, xR, xE, reduceIte]) | refine DN ?_
        exact ⟨r.length - (i + 1), by omega, i + 1, by omega, by omega, by simp [setF_if, *], by simp [setF_if, *], by simp [setF_if, *], e + 1, by simp [setF_if, *], by simp [upd_if, *]⟩
    · have ei : i = r.length := by omega
      rw [ei] at hH
      repeat first | refine OP ?_ | refine SK ?_ | refine OPN ?_ | refine OM ?_ | refine SM ?_ | refine OMN ?_ | refine WM.nil ?_ | refine OQ ?_ | refine SQ ?_ | refine TH ?_ | refine WR.nil ?_ | refine WQ.nil ?_ | refine W.seq ?_ | refine W.region ?_ | refine DR ?_ | refine IFT ?_ | refine IFF ?_ | refine W.skip ?_ | refine W.block ?_ | refine W.exit ?_ | refine W.ret ?_ | (simp only [tN, tR, tE, rN, rR, rE, xN, xR, xE, reduceIte]) | refine DN ?_
      exact ⟨[9], by rw [← List.append_nil [9]]; exact ownX_mkT (ownX_sl (ownA_mk hH (ints_scal _) (by decide) (ints_fit _))) ownX_mki, by simp⟩
  · have c' : (codeI r l s != 0) = true := by simpa using c
    have hres : cleftI r l s = ([], codeI r l s) := by unfold cleftI; rw [if_neg c]
    rw [hres]
    replace c := Hid.mk c
    clear hres
    repeat first | refine OP ?_ | refine SK ?_ | refine OPN ?_ | refine OM ?_ | refine SM ?_ | refine OMN ?_ | refine WM.nil ?_ | refine OQ ?_ | refine SQ ?_ | refine TH ?_ | refine WR.nil ?_ | refine WQ.nil ?_ | refine W.seq ?_ | refine W.region ?_ | refine DR ?_ | refine IFT ?_ | refine IFF ?_ | refine W.skip ?_ | refine W.block ?_ | refine W.exit ?_ | refine W.ret ?_ | (simp only [tN, tR, tE, rN, rR, rE, xN, xR, xE, reduceIte]) | refine DN ?_
    exact ⟨[], ownX_mkT (s1 := []) (ownX_sl ownA_nil) ownX_mki, by simp⟩
end Go.Proofs
end
section
open Go Go.Big
namespace Go.Proofs
set_option maxHeartbeats 2000000
/-- So many numbers from one on. -/
def runI (k : Int) (n : Nat) : List Int := (List.range n).map fun i : Nat => k + (i : Int)
theorem runI_len (k : Int) (n : Nat) : (runI k n).length = n := by simp [runI]
theorem runI_succ (k : Int) (n : Nat) : runI k (n + 1) = runI k n ++ [k + n] := by simp [runI, List.range_succ]
theorem runI_at {k : Int} {n i : Nat} (h : i < n) : (runI k n)[i]? = some (k + i) := by simp [runI, h]
theorem mark_set (k : Int) {l : List Int} {i : Nat} (h : i < l.length) : (ints (runI k i ++ l.drop i)).set i [.i .i64 (k + i)] = ints (runI k (i + 1) ++ l.drop (i + 1)) := by
  rw [← ints_set]
  congr 1
  have e : l.drop i = l[i] :: l.drop (i + 1) := List.drop_eq_getElem_cons h
  rw [e, List.set_append_right _ _ (by rw [runI_len]; omega), runI_len, Nat.sub_self, List.set_cons_zero, runI_succ]
  simp
theorem mark_at (k : Int) {l : List Int} {i : Nat} (h : i < l.length) : (ints (runI k i ++ l.drop i))[i]? = some [.i .i64 (l.getD i 0)] := by
  have e : l.drop i = l[i] :: l.drop (i + 1) := List.drop_eq_getElem_cons h
  simp only [ints, List.getElem?_map]
  rw [List.getElem?_append_right (by rw [runI_len]; omega), runI_len, Nat.sub_self, e]
  simp [List.getD_eq_getElem?_getD, h]
theorem ints_nil {l : List Int} (h : ints l = []) : l = [] := by
  cases l with
  | nil => rfl
  | cons x l => simp [ints] at h
theorem fit_one {l : List Int} {sz : Nat} (h : fitR sz (ints l)) (h0 : 0 < l.length) : sz = 1 := by
  cases l with
  | nil => simp at h0
  | cons x l => exact (h [.i .i64 x] (by simp [ints])).symm
theorem markInt64S_m (G : Gv) (l : List Int) (k : Int) (hl : l.length < 1000000000) (hk0 : 0 ≤ k) (hk : k < 1000000000000) :
    Marks Tryz.prog G 26 (.sl 1 (ints l)) (.sl 1 (ints (runI k l.length))) k (k + l.length) := by
  intro x H0 n0 S hx hn hS
  rcases ownA_flat (ownX_un hx) (ints_scal l) with ⟨o, e, ty, sz, t, rfl, hH0, rfl, ht, hf⟩ | ⟨hx', hq, rfl⟩
  · have hlen := ints_len l
    clear hx hn hS
    refine (.body Tryz.func26 rfl (by simp [Tryz.ntmps26]) ?_)
    rw [Tryz.ntmps26, Tryz.results26]
    repeat first | refine OP ?_ | refine SK ?_ | refine OPN ?_ | refine OM ?_ | refine SM ?_ | refine OMN ?_ | refine WM.nil ?_ | refine OQ ?_ | refine SQ ?_ | refine TH ?_ | refine WR.nil ?_ | refine WQ.nil ?_ | refine W.seq ?_ | refine W.region ?_ | refine DR ?_ | refine IFT ?_ | refine IFF ?_ | refine W.skip ?_ | refine W.block ?_ | refine W.exit ?_ | refine W.ret ?_ | (simp only [tN, tR, tE, rN, rR, rE, xN, xR, xE, reduceIte]) | refine DN ?_
    refine .loop (.inv (fun d E H n' => ∃ (i t' : Nat), i + d = l.length ∧ E 0 = .own o e ∧ E 1 = .i .i64 (k + i) ∧ E 5 = .i .i64 i ∧ H o = some (.arr e ty sz (ints (runI k i ++ l.drop i)) t') ∧ t' ≠ 2 ∧ n0 ≤ n' ∧ (∀ o', o' ≠ o → H o' = H0 o')) l.length ?_ ?_)
    · exact ⟨0, t, by omega, by simp [setF_if, argE], by simp [setF_if, argE], by simp [setF_if, argE], by simpa [runI] using hH0, ht, by omega, fun _ _ => rfl⟩
    rintro d E H n' ⟨i, t', hi, h0, h1, h5, hH, ht', hn', hfr⟩
    replace hfr := Hid.mk hfr
    have hle : (ints (runI k i ++ l.drop i)).length = l.length := by rw [ints_len, List.length_append, runI_len, List.length_drop]; omega
    by_cases c : (i : Int) < l.length
    · have hw_i : IntKind.i64.wrap ((i : Int) + 1) = (i : Int) + 1 := wr64 (by omega) (by omega)
      have hwk : IntKind.i64.wrap (k + i + 1) = k + ((i + 1 : Nat) : Int) := by rw [wr64 (by omega) (by omega)]; omega
      obtain rfl := fit_one hf (by omega)
      have hro := mark_at k (l := l) (i := i) (by omega)
      have hset := mark_set k (l := l) (i := i) (by omega)
      have hj : joinT t' 1 ≠ 2 := joinT_ne ht' (by decide)
      have cN : i < l.length := by omega
      generalize ints (runI k i ++ l.drop i) = R at hH hro hset hle
      replace hj := Hid.mk hj
      replace ht' := Hid.mk ht'
      repeat first | refine OP ?_ | refine SK ?_ | refine OPN ?_ | refine OM ?_ | refine SM ?_ | refine OMN ?_ | refine WM.nil ?_ | refine OQ ?_ | refine SQ ?_ | refine TH ?_ | refine WR.nil ?_ | refine WQ.nil ?_ | refine W.seq ?_ | refine W.region ?_ | refine DR ?_ | refine IFT ?_ | refine IFF ?_ | refine W.skip ?_ | refine W.block ?_ | refine W.exit ?_ | refine W.ret ?_ | (simp only [tN, tR, tE, rN, rR, rE, xN, xR, xE, reduceIte]) | refine DN ?_
      exact ⟨l.length - (i + 1), by omega, i + 1, joinT t' 1, by omega, by simp [setF_if, *], by simp [setF_if, *], by simp [setF_if, *], by simp [upd_if, joinT, *], hj.out, by omega, fun o' ho' => by rw [upd_if, if_neg ho']; exact hfr.out o' ho'⟩
    · repeat first | refine OP ?_ | refine SK ?_ | refine OPN ?_ | refine OM ?_ | refine SM ?_ | refine OMN ?_ | refine WM.nil ?_ | refine OQ ?_ | refine SQ ?_ | refine TH ?_ | refine WR.nil ?_ | refine WQ.nil ?_ | refine W.seq ?_ | refine W.region ?_ | refine DR ?_ | refine IFT ?_ | refine IFF ?_ | refine W.skip ?_ | refine W.block ?_ | refine W.exit ?_ | refine W.ret ?_ | (simp only [tN, tR, tE, rN, rR, rE, xN, xR, xE, reduceIte]) | refine DN ?_
      have ei : i = l.length := by omega
      rw [ei, List.drop_length, List.append_nil] at hH
      refine ⟨by simp [retA, setF_if, h1, ei], by omega, ownX_sl (ownA_mk hH (ints_scal _) ht' ?_), fun o' h1 h2 => hfr.out o' (by simpa using h2)⟩
      intro r hr
      have h3 := ints_fit _ r hr
      obtain ⟨y, hy, rfl⟩ := List.mem_map.mp hr
      have h4 : 0 < l.length := by
        have := List.length_pos_of_mem hy
        rw [runI_len] at this; exact this
      rw [fit_one hf h4]; rfl
  · obtain rfl := ints_nil hq
    clear hx
    rcases hx' with rfl | ⟨t, rfl⟩
    all_goals
      refine (.body Tryz.func26 rfl (by simp [Tryz.ntmps26]) ?_)
      rw [Tryz.ntmps26, Tryz.results26]
      repeat first | refine OP ?_ | refine SK ?_ | refine OPN ?_ | refine OM ?_ | refine SM ?_ | refine OMN ?_ | refine WM.nil ?_ | refine OQ ?_ | refine SQ ?_ | refine TH ?_ | refine WR.nil ?_ | refine WQ.nil ?_ | refine W.seq ?_ | refine W.region ?_ | refine DR ?_ | refine IFT ?_ | refine IFF ?_ | refine W.skip ?_ | refine W.block ?_ | refine W.exit ?_ | refine W.ret ?_ | (simp only [tN, tR, tE, rN, rR, rE, xN, xR, xE, reduceIte]) | refine DN ?_
      refine .loop (.inv (fun d E H n' => E 0 = (_ : AV) ∧ E 1 = .i .i64 k ∧ E 5 = .i .i64 0 ∧ n0 ≤ n' ∧ ∀ o, H o = H0 o) 0 ⟨by simp [setF_if, argE]; rfl, by simp [setF_if, argE], by simp [setF_if, argE], by omega, fun _ => rfl⟩ ?_)
      rintro d E H n' ⟨h0, h1, h5, hn', hfr⟩
      replace hfr := Hid.mk hfr
      have c : ¬ ((0 : Int) < ((0 : Nat) : Int)) := by omega
      repeat first | refine OP ?_ | refine SK ?_ | refine OPN ?_ | refine OM ?_ | refine SM ?_ | refine OMN ?_ | refine WM.nil ?_ | refine OQ ?_ | refine SQ ?_ | refine TH ?_ | refine WR.nil ?_ | refine WQ.nil ?_ | refine W.seq ?_ | refine W.region ?_ | refine DR ?_ | refine IFT ?_ | refine IFF ?_ | refine W.skip ?_ | refine W.block ?_ | refine W.exit ?_ | refine W.ret ?_ | (simp only [tN, tR, tE, rN, rR, rE, xN, xR, xE, reduceIte]) | refine DN ?_
      exact ⟨by simp [retA, setF_if, h1], by omega, ownX_sl (.inr ⟨by first | exact .inl rfl | exact .inr ⟨_, rfl⟩, rfl, rfl⟩), fun o' _ _ => hfr.out o'⟩
/-- A list of such numbers is held. -/
theorem heldInt64S_fn (G : Gv) (k : Int) (m : Nat) (hl : m < 1000000000) (hk0 : 0 ≤ k) (hk : k < 1000000000000) : Gives Tryz.prog G 27 [.sl 0 (ints (runI k m)), .i .i64 k] (.i .i64 (k + m)) := by
  refine .of (.body Tryz.func27 rfl (by simp [Tryz.ntmps27]) ?_)
  rw [Tryz.ntmps27, Tryz.results27]
  have hlen : (ints (runI k m)).length = m := by rw [ints_len, runI_len]
  repeat first | refine OP ?_ | refine SK ?_ | refine OPN ?_ | refine OM ?_ | refine SM ?_ | refine OMN ?_ | refine WM.nil ?_ | refine OQ ?_ | refine SQ ?_ | refine TH ?_ | refine WR.nil ?_ | refine WQ.nil ?_ | refine W.seq ?_ | refine W.region ?_ | refine DR ?_ | refine IFT ?_ | refine IFF ?_ | refine W.skip ?_ | refine W.block ?_ | refine W.exit ?_ | refine W.ret ?_ | (simp only [tN, tR, tE, rN, rR, rE, xN, xR, xE, reduceIte]) | refine DN ?_
  refine .loop (.inv (fun d E H n' => ∃ i : Nat, i + d = m ∧ E 0 = .sl 0 (ints (runI k m)) ∧ E 1 = .i .i64 (k + i) ∧ E 5 = .i .i64 i) m ?_ ?_)
  · exact ⟨0, by omega, by simp [setF_if, argE], by simp [setF_if, argE], by simp [setF_if, argE]⟩
  rintro d E H n' ⟨i, hi, h0, h1, h5⟩
  by_cases c : (i : Int) < m
  · have hw_i : IntKind.i64.wrap ((i : Int) + 1) = (i : Int) + 1 := wr64 (by omega) (by omega)
    have hwk : IntKind.i64.wrap (k + i + 1) = k + ((i + 1 : Nat) : Int) := by rw [wr64 (by omega) (by omega)]; omega
    have hr := ints_row (runI_at (k := k) (n := m) (i := i) (by omega))
    repeat first | refine OP ?_ | refine SK ?_ | refine OPN ?_ | refine OM ?_ | refine SM ?_ | refine OMN ?_ | refine WM.nil ?_ | refine OQ ?_ | refine SQ ?_ | refine TH ?_ | refine WR.nil ?_ | refine WQ.nil ?_ | refine W.seq ?_ | refine W.region ?_ | refine DR ?_ | refine IFT ?_ | refine IFF ?_ | refine W.skip ?_ | refine W.block ?_ | refine W.exit ?_ | refine W.ret ?_ | (simp only [tN, tR, tE, rN, rR, rE, xN, xR, xE, reduceIte]) | refine DN ?_
    exact ⟨m - (i + 1), by omega, i + 1, by omega, by simp [setF_if, *], by simp [setF_if, *], by simp [setF_if, *]⟩
  · repeat first | refine OP ?_ | refine SK ?_ | refine OPN ?_ | refine OM ?_ | refine SM ?_ | refine OMN ?_ | refine WM.nil ?_ | refine OQ ?_ | refine SQ ?_ | refine TH ?_ | refine WR.nil ?_ | refine WQ.nil ?_ | refine W.seq ?_ | refine W.region ?_ | refine DR ?_ | refine IFT ?_ | refine IFF ?_ | refine W.skip ?_ | refine W.block ?_ | refine W.exit ?_ | refine W.ret ?_ | (simp only [tN, tR, tE, rN, rR, rE, xN, xR, xE, reduceIte]) | refine DN ?_
    have ei : i = m := by omega
    simp [retA, backA, setF_if, h1, ei]
/-- Cells of such numbers. -/
def runC (k : Int) (n : Nat) : List (Int × Int) := (List.range n).map fun i : Nat => (k + 2 * (i : Int), k + 2 * (i : Int) + 1)
theorem runC_len (k : Int) (n : Nat) : (runC k n).length = n := by simp [runC]
theorem runC_succ (k : Int) (n : Nat) : runC k (n + 1) = runC k n ++ [(k + 2 * (n : Int), k + 2 * (n : Int) + 1)] := by simp [runC, List.range_succ]
theorem cmark_set (k : Int) {l : List (Int × Int)} {i : Nat} (h : i < l.length) : ((cells (runC k i ++ l.drop i)).set i [.i .i64 (k + 2 * (i : Int)), .i .i64 (l.getD i (0, 0)).2]).set i [.i .i64 (k + 2 * (i : Int)), .i .i64 (k + 2 * (i : Int) + 1)] = cells (runC k (i + 1) ++ l.drop (i + 1)) := by
  have e : l.drop i = l[i] :: l.drop (i + 1) := List.drop_eq_getElem_cons h
  rw [List.set_set, e]
  unfold cells
  rw [List.map_append, List.set_append_right _ _ (by rw [List.length_map, runC_len]; omega), List.length_map, runC_len, Nat.sub_self, List.map_cons, List.set_cons_zero, runC_succ]
  simp
theorem cmark_at (k : Int) {l : List (Int × Int)} {i : Nat} (h : i < l.length) : (cells (runC k i ++ l.drop i))[i]? = some [.i .i64 (l.getD i (0, 0)).1, .i .i64 (l.getD i (0, 0)).2] := by
  have e : l.drop i = l[i] :: l.drop (i + 1) := List.drop_eq_getElem_cons h
  simp only [cells, List.getElem?_map]
  rw [List.getElem?_append_right (by rw [runC_len]; omega), runC_len, Nat.sub_self, e]
  simp [List.getD_eq_getElem?_getD, h]
theorem cells_nil {l : List (Int × Int)} (h : cells l = []) : l = [] := by
  cases l with
  | nil => rfl
  | cons x l => simp [cells] at h
theorem fit_two {l : List (Int × Int)} {sz : Nat} (h : fitR sz (cells l)) (h0 : 0 < l.length) : sz = 2 := by
  cases l with
  | nil => simp at h0
  | cons x l => exact (h [.i .i64 x.1, .i .i64 x.2] (by simp [cells])).symm
theorem markCellS_m (G : Gv) (l : List (Int × Int)) (k : Int) (hl : l.length < 1000000000) (hk0 : 0 ≤ k) (hk : k < 1000000000000) :
    Marks Tryz.prog G 68 (.sl 1 (cells l)) (.sl 1 (cells (runC k l.length))) k (k + 2 * l.length) := by
  intro x H0 n0 S hx hn hS
  rcases ownA_flat (ownX_un hx) (cells_scal l) with ⟨o, e, ty, sz, t, rfl, hH0, rfl, ht, hf⟩ | ⟨hx', hq, rfl⟩
  · have hlen := cells_len l
    clear hx hn hS
    refine (.body Tryz.func68 rfl (by simp [Tryz.ntmps68]) ?_)
    rw [Tryz.ntmps68, Tryz.results68]
    repeat first | refine OP ?_ | refine SK ?_ | refine OPN ?_ | refine OM ?_ | refine SM ?_ | refine OMN ?_ | refine WM.nil ?_ | refine OQ ?_ | refine SQ ?_ | refine TH ?_ | refine WR.nil ?_ | refine WQ.nil ?_ | refine W.seq ?_ | refine W.region ?_ | refine DR ?_ | refine IFT ?_ | refine IFF ?_ | refine W.skip ?_ | refine W.block ?_ | refine W.exit ?_ | refine W.ret ?_ | (simp only [tN, tR, tE, rN, rR, rE, xN, xR, xE, reduceIte]) | refine DN ?_
    refine .loop (.inv (fun d E H n' => ∃ (i t' : Nat), i + d = l.length ∧ E 0 = .own o e ∧ E 1 = .i .i64 (k + 2 * i) ∧ E 5 = .i .i64 i ∧ H o = some (.arr e ty sz (cells (runC k i ++ l.drop i)) t') ∧ t' ≠ 2 ∧ n0 ≤ n' ∧ (∀ o', o' ≠ o → H o' = H0 o')) l.length ?_ ?_)
    · exact ⟨0, t, by omega, by simp [setF_if, argE], by simp [setF_if, argE], by simp [setF_if, argE], by simpa [runC] using hH0, ht, by omega, fun _ _ => rfl⟩
    rintro d E H n' ⟨i, t', hi, h0, h1, h5, hH, ht', hn', hfr⟩
    replace hfr := Hid.mk hfr
    have hle : (cells (runC k i ++ l.drop i)).length = l.length := by rw [cells_len, List.length_append, runC_len, List.length_drop]; omega
    by_cases c : (i : Int) < l.length
    · have hw_i : IntKind.i64.wrap ((i : Int) + 1) = (i : Int) + 1 := wr64 (by omega) (by omega)
      have hwk : IntKind.i64.wrap (k + 2 * (i : Int) + 1) = k + 2 * (i : Int) + 1 := wr64 (by omega) (by omega)
      have hwk2 : IntKind.i64.wrap (k + 2 * (i : Int) + 1 + 1) = k + 2 * ((i + 1 : Nat) : Int) := by rw [wr64 (by omega) (by omega)]; omega
      obtain rfl := fit_two hf (by omega)
      have hro := cmark_at k (l := l) (i := i) (by omega)
      have hset := cmark_set k (l := l) (i := i) (by omega)
      have hj : joinT (joinT t' 1) 1 ≠ 2 := joinT_ne (joinT_ne ht' (by decide)) (by decide)
      have cN : i < l.length := by omega
      generalize cells (runC k i ++ l.drop i) = R at hH hro hset hle
      generalize (l.getD i (0, 0)).1 = y1 at hro hset
      generalize (l.getD i (0, 0)).2 = y2 at hro hset
      have hR2 : (R.set i [.i .i64 (k + 2 * (i : Int)), .i .i64 y2])[i]? = some [.i .i64 (k + 2 * (i : Int)), .i .i64 y2] := by rw [List.getElem?_set_self]; omega
      have hRl : (R.set i [.i .i64 (k + 2 * (i : Int)), .i .i64 y2]).length = l.length := by rw [List.length_set]; exact hle
      generalize hR0 : R.set i [.i .i64 (k + 2 * (i : Int)), .i .i64 y2] = R2 at hset hR2 hRl
      replace hj := Hid.mk hj
      replace ht' := Hid.mk ht'
      repeat first | refine OP ?_ | refine SK ?_ | refine OPN ?_ | refine OM ?_ | refine SM ?_ | refine OMN ?_ | refine WM.nil ?_ | refine OQ ?_ | refine SQ ?_ | refine TH ?_ | refine WR.nil ?_ | refine WQ.nil ?_ | refine W.seq ?_ | refine W.region ?_ | refine DR ?_ | refine IFT ?_ | refine IFF ?_ | refine W.skip ?_ | refine W.block ?_ | refine W.exit ?_ | refine W.ret ?_ | (simp only [tN, tR, tE, rN, rR, rE, xN, xR, xE, reduceIte]) | refine DN ?_
      exact ⟨l.length - (i + 1), by omega, i + 1, joinT (joinT t' 1) 1, by omega, by simp [setF_if, *], by simp [setF_if, *], by simp [setF_if, *], by simp [upd_if, joinT, *], hj.out, by omega, fun o' ho' => by rw [upd_if, if_neg ho', upd_if, if_neg ho']; exact hfr.out o' ho'⟩
    · repeat first | refine OP ?_ | refine SK ?_ | refine OPN ?_ | refine OM ?_ | refine SM ?_ | refine OMN ?_ | refine WM.nil ?_ | refine OQ ?_ | refine SQ ?_ | refine TH ?_ | refine WR.nil ?_ | refine WQ.nil ?_ | refine W.seq ?_ | refine W.region ?_ | refine DR ?_ | refine IFT ?_ | refine IFF ?_ | refine W.skip ?_ | refine W.block ?_ | refine W.exit ?_ | refine W.ret ?_ | (simp only [tN, tR, tE, rN, rR, rE, xN, xR, xE, reduceIte]) | refine DN ?_
      have ei : i = l.length := by omega
      rw [ei, List.drop_length, List.append_nil] at hH
      refine ⟨by simp [retA, setF_if, h1, ei], by omega, ownX_sl (ownA_mk hH (cells_scal _) ht' ?_), fun o' h1 h2 => hfr.out o' (by simpa using h2)⟩
      intro r hr
      have h3 := cells_fit _ r hr
      obtain ⟨y, hy, rfl⟩ := List.mem_map.mp hr
      have h4 : 0 < l.length := by
        have := List.length_pos_of_mem hy
        rw [runC_len] at this; exact this
      rw [fit_two hf h4]; rfl
  · obtain rfl := cells_nil hq
    clear hx
    rcases hx' with rfl | ⟨t, rfl⟩
    all_goals
      refine (.body Tryz.func68 rfl (by simp [Tryz.ntmps68]) ?_)
      rw [Tryz.ntmps68, Tryz.results68]
      repeat first | refine OP ?_ | refine SK ?_ | refine OPN ?_ | refine OM ?_ | refine SM ?_ | refine OMN ?_ | refine WM.nil ?_ | refine OQ ?_ | refine SQ ?_ | refine TH ?_ | refine WR.nil ?_ | refine WQ.nil ?_ | refine W.seq ?_ | refine W.region ?_ | refine DR ?_ | refine IFT ?_ | refine IFF ?_ | refine W.skip ?_ | refine W.block ?_ | refine W.exit ?_ | refine W.ret ?_ | (simp only [tN, tR, tE, rN, rR, rE, xN, xR, xE, reduceIte]) | refine DN ?_
      refine .loop (.inv (fun d E H n' => E 0 = (_ : AV) ∧ E 1 = .i .i64 k ∧ E 5 = .i .i64 0 ∧ n0 ≤ n' ∧ ∀ o, H o = H0 o) 0 ⟨by simp [setF_if, argE]; rfl, by simp [setF_if, argE], by simp [setF_if, argE], by omega, fun _ => rfl⟩ ?_)
      rintro d E H n' ⟨h0, h1, h5, hn', hfr⟩
      replace hfr := Hid.mk hfr
      have c : ¬ ((0 : Int) < ((0 : Nat) : Int)) := by omega
      repeat first | refine OP ?_ | refine SK ?_ | refine OPN ?_ | refine OM ?_ | refine SM ?_ | refine OMN ?_ | refine WM.nil ?_ | refine OQ ?_ | refine SQ ?_ | refine TH ?_ | refine WR.nil ?_ | refine WQ.nil ?_ | refine W.seq ?_ | refine W.region ?_ | refine DR ?_ | refine IFT ?_ | refine IFF ?_ | refine W.skip ?_ | refine W.block ?_ | refine W.exit ?_ | refine W.ret ?_ | (simp only [tN, tR, tE, rN, rR, rE, xN, xR, xE, reduceIte]) | refine DN ?_
      exact ⟨by simp [retA, setF_if, h1], by omega, ownX_sl (.inr ⟨by first | exact .inl rfl | exact .inr ⟨_, rfl⟩, rfl, rfl⟩), fun o' _ _ => hfr.out o'⟩
end Go.Proofs
end
