/- Walks: The cover of a puzzle: the program's function. Condition: the given contracts hold. | IsCover of a cover whose rows are in order. No condition. | The cover of a puzzle: the model's function. Condition: the given contracts hold, the rows are in order. | Plain law: the cover of a puzzle, both programs. No condition. | Numbers written into covers; IsCover. No condition. | What the law of CoverOfPuzzle asks. No condition. | Numbers written into puzzles and placements; held in them. No condition. | Placements whose numbers are still those that were written. No condition. -/
import Derived.Test.YtmglpcdalechfaaGreatBO
import Derived.Test.YtmglpcdalechfaaGreatWk10
import Derived.Test.YtmglpcdalechfaaGreatBC
import Derived.Test.YtmglpcdalechfaaGreatWk3
import Derived.Test.YtmglpcdalechfaaGreatWk6
import Derived.Test.YtmglpcdalechfaaGreatWk1
import Derived.Test.YtmglpcdalechfaaGreatWk2
import Derived.Test.YtmglpcdalechfaaGreatWk7
set_option linter.unusedVariables false
set_option linter.unusedSimpArgs false
section
open Go Go.Big
namespace Go.Proofs
set_option maxHeartbeats 2000000
theorem cloneI_own (G : Gv) (xs : List Int) (h0 : 0 < xs.length) (hx : xs.length < 1000000000) : WC Tryz.prog G 78 [.sl 0 (ints xs)] (fun _ => none) 0 (fun r H' n' => ∃ oo e, r = .own oo e ∧ H' oo = some (.arr e 2 1 (ints xs) 0)) := by
  refine (.body Tryz.func78 rfl (by simp [Tryz.ntmps78]) ?_)
  rw [Tryz.ntmps78, Tryz.results78]
  have hfit : ∀ r ∈ ints xs, r.length = 1 := by
    intro r hr
    obtain ⟨p, _, rfl⟩ := List.mem_map.mp hr; rfl
  have hlen := ints_len xs
  have hb : xs.length * 8 ≤ 140737488355328 := by omega
  generalize ints xs = rows at *
  cases rows with
  | nil => simp at hlen; omega
  | cons r rs =>
    have hb2 : (rs.length + 1) * 8 ≤ 140737488355328 := by simp only [List.length_cons] at hlen; omega
    have hfd : decide (∀ x ∈ r :: rs, x.length = 1) = true := decide_eq_true hfit
    clear hb hlen hfit
    refine AL ?_
    exact ⟨3, 1, by simp [retA, setF_if], by simp [upd_if]⟩
theorem copies_fn (G : Gv) (p : PieceM) : Gives Tryz.prog G 76 [pieceA 0 p] (.b (decide (p.k > 1))) := by
  refine .of (.body Tryz.func76 rfl (by simp [Tryz.ntmps76]) ?_)
  rw [Tryz.ntmps76, Tryz.results76]
  by_cases c : p.k > 1
  · have hd : decide (p.k > 1) = true := by simp [c]
    refine AL ?_
    simp [retA, backA, setF_if, c]
  · have hd : decide (p.k > 1) = false := by simp [c]
    refine AL ?_
    simp [retA, backA, setF_if, c]
def twoM (l : List PieceM) : Bool := l.any fun p => decide (p.k > 1)
def covM (fit : Bool) (r : Shape) (l : List PieceM) : (Int × List (List Int)) × Int := if fit then (if twoM l then ((0, []), 5) else if (allB r l l.length).length ≤ 400 then ((r.length + l.length, (allB r l l.length).map (rowM r.length)), 0) else ((0, []), 3)) else ((0, []), 1)
theorem zero_o {H : Heap} {b : Int} : ownX H (.tup [.ag [.i .i64 0, .i .i64 0, .nil], .i .i64 b]) (.tup [.ag [.i .i64 0, .i .i64 0, .sl 1 (listsR [])], .i .i64 b]) [] :=
  ownX_mkT (s1 := []) (ownX_mk3 (s1 := []) (s2 := []) (s3 := []) ownX_mki ownX_mki (ownX_sl ownA_nil)) ownX_mki
theorem implCoverOfPuzzle_o (G : Gv) (hA : AllG G) (hk : GvOk Tryz.prog G) (r : Shape) (l : List PieceM) (hr : r.length < 1000000000) (hl : l.length < 1000000000) (hpl : ∀ p ∈ l, p.cs.length < 1000000000) :
    GivesO Tryz.prog G 17 [.ag [.sl 0 (cells r), .sl 0 (pieces l)]] (.tup [.ag [.i .i64 (covM (fitsI r l) r l).1.1, .i .i64 (covM (fitsI r l) r l).1.1, .sl 1 (listsR (covM (fitsI r l) r l).1.2)], .i .i64 (covM (fitsI r l) r l).2]) := by
  refine .of (.body Tryz.func17 rfl (by simp [Tryz.ntmps17]) ?_)
  rw [Tryz.ntmps17, Tryz.results17]
  have hfit := implDoesFit_fn G hA.c1 hA.c2 r l hr hl hpl
  cases cI : fitsI r l with
  | false =>
    rw [cI] at hfit
    replace hfit := Hid.mk hfit
    clear hpl
    unfold covM
    refine AL ?_
    refine CV hfit.out ?_
    refine AL ?_
    exact ⟨[], zero_o, by simp⟩
  | true =>
    have cS : puzzleS r l = true := by
      unfold fitsI at cI
      rw [Bool.and_eq_true] at cI
      rw [← puzzle_eq]; exact cI.1
    obtain ⟨g1, g2, g3, g4, g5, g6, g8⟩ := puzzle_facts cS
    have hall := (allPlacements_o G hA r l cS).gives
    have hmem : ∀ x ∈ allB r l l.length, 0 < x.2.length ∧ x.2.length ≤ 40 := fun x hx => ⟨(allB_mem cS (Nat.le_refl _) hx).2.1, (allB_mem cS (Nat.le_refl _) hx).2.2.1⟩
    have htwo := containsFuncPv_fn G 76 (fun p => decide (p.k > 1)) l (fun p _ => copies_fn G p) (by kernel_rfl) hl
    have hlen := cells_len r
    have hlen2 := pieces_len l
    have hwl : IntKind.i64.wrap ((r.length : Int) + l.length) = r.length + l.length := wr64 (by omega) (by omega)
    have hcov : covM true r l = if twoM l then (((0 : Int), []), (5 : Int)) else if (allB r l l.length).length ≤ 400 then (((r.length : Int) + l.length, (allB r l l.length).map (rowM r.length)), 0) else ((0, []), 3) := rfl
    rw [hcov]
    rw [cI] at hfit
    generalize allB r l l.length = L at hall hmem
    have hLn := places_len L
    rw [show (l.any fun p => decide (p.k > 1)) = twoM l from rfl] at htwo
    clear g1 g6 g8 cS hcov hpl
    generalize twoM l = two at htwo
    replace hall := Hid.mk hall
    replace hmem := Hid.mk hmem
    replace hk := Hid.mk hk
    replace hA := Hid.mk hA
    replace hfit := Hid.mk hfit
    replace htwo := Hid.mk htwo
    refine AL ?_
    refine CV hfit.out ?_
    refine AL ?_
    refine CV htwo.out ?_
    cases two with
    | true =>
      refine AL ?_
      exact ⟨[], zero_o, by simp⟩
    | false =>
      refine AL ?_
      refine CV hall.out ?_
      by_cases c4 : L.length ≤ 400
      · have c5 : ¬ ((L.length : Int) > 400) := by omega
        rw [if_neg (by simp), if_pos c4]
        refine AL ?_
        refine .loop (.inv (fun d E H n' => ∃ (i : Nat), i + d = L.length ∧ 28 < n' ∧ E 2 = .ptr 1 0 0 0 ∧ E 5 = .i .i64 r.length ∧ E 7 = .ptr 28 0 0 0 ∧ E 35 = .sl 1 (places L) ∧ E 36 = .i .i64 L.length ∧ E 37 = .i .i64 i ∧ H 1 = some (.box 29 [.i .i64 0, .i .i64 0, .nil]) ∧
          ((i = 0 ∧ H 28 = some (.box 29 [.i .i64 (r.length + l.length), .i .i64 (r.length + l.length), .nil])) ∨ (0 < i ∧ ∃ (R e t' : Nat) (rows : List (List PV)) (S : List Nat), H 28 = some (.box 29 [.i .i64 (r.length + l.length), .i .i64 (r.length + l.length), .own R e]) ∧ H R = some (.arr e 42 1 rows t') ∧ 28 < R ∧ R < n' ∧
            tagOk t' rows ∧ fitR 1 rows ∧ ownRs H rows (listsR ((L.take i).map (rowM r.length))) S ∧ (R :: S).Nodup ∧ (∀ o ∈ S, 28 < o ∧ o < n') ∧ rows ≠ []))) L.length ?_ ?_)
        · exact ⟨0, by omega, by omega, by simp [setF_if, argE], by simp [setF_if, argE], by simp [setF_if, argE], by simp [setF_if, argE], by simp [setF_if, argE, hLn], by simp [setF_if, argE], by simp [upd_if], .inl ⟨rfl, by simp [upd_if]⟩⟩
        rintro d E H n' ⟨i, hi, hn, e2, e5, e7, e35, e36, e37, hH1, hst⟩
        by_cases ci : (i : Int) < L.length
        · have hw_i : IntKind.i64.wrap ((i : Int) + 1) = (i : Int) + 1 := wr64 (by omega) (by omega)
          obtain ⟨x, hx⟩ : ∃ x, L[i]? = some x := ⟨_, List.getElem?_eq_getElem (by omega)⟩
          have hro := places_at hx
          obtain ⟨m1, m2⟩ := hmem.out x (List.mem_of_getElem? hx)
          have htk : listsR ((L.take (i + 1)).map (rowM r.length)) = listsR ((L.take i).map (rowM r.length)) ++ [[.sl (ints (rowM r.length x))]] := by
            rw [take_map _ hx, listsR_app]
          have hf := cloneI_own G x.2 m1 (by omega)
          have hxl := ints_len x.2
          have hb2 : (x.2.length + 1) * 8 ≤ 140737488355328 := by omega
          have hap : ints x.2 ++ [[PV.i .i64 (IntKind.i64.wrap (r.length + x.1))]] = ints (rowM r.length x) := by simp [ints, rowM]
          obtain ⟨xk, xs⟩ := x
          simp only at hf hxl hb2 hap m1 m2
          generalize rowM (↑(List.length r)) (xk, xs) = T at htk hap
          replace hx := Hid.mk hx
          replace htk := Hid.mk htk
          replace hf := Hid.mk hf
          have hnd : [n' + 9, n' + 14, n' + 16, n' + 17, 28].Nodup := by simp; omega
          have q1 : ∀ j, (28 = n' + j) = False := fun j => by simp; omega
          have q2 : ∀ j, (1 = n' + j) = False := fun j => by simp; omega
          rcases hst with ⟨hi0, hH28⟩ | ⟨hi0, R, e, t', rows, S, hH28, hHR, hR1, hR2, htag, hfit2, hown, hnd0, hlt, hnil⟩
          · replace hi0 := Hid.mk hi0
            refine AX ?_
            refine FD [n' + 9, n' + 14, n' + 16, n' + 17, 28] [(45, 0), (50, 1), (51, 0), (52, 2), (53, 3), (999999, 4)] [(41, [4]), (42, [4]), (51, [1]), (52, [0]), (53, [2]), (54, [4]), (999999, [3])] hnd ?_
            refine FQ ?_ (hs := by
              intro Hx hx
              have f0 : Hx (28) = _ := hx.at hnd 4 rfl (by decide)
              simp only [setF_if, upd_if, neAdd, neLt, ltAdd, addNe, ltNe, Nat.left_eq_add, Nat.add_eq_left, Nat.reduceEqDiff, Nat.add_assoc, Nat.reduceAdd, reduceIte, *] at f0
              exact EV)
            refine FQ ?_ (hs := by
              intro Hx hx
              have f0 : Hx (28) = _ := hx.at hnd 4 rfl (by decide)
              simp only [setF_if, upd_if, neAdd, neLt, ltAdd, addNe, ltNe, Nat.left_eq_add, Nat.add_eq_left, Nat.reduceEqDiff, Nat.add_assoc, Nat.reduceAdd, reduceIte, *] at f0
              exact EV)
            refine FQ ?_ (hs := by
              intro Hx hx
              have f0 : Hx (n' + 3) = _ := hx.off (by simp only [List.mem_cons, List.not_mem_nil, or_false, not_or]; omega)
              simp only [setF_if, upd_if, neAdd, neLt, ltAdd, addNe, ltNe, Nat.left_eq_add, Nat.add_eq_left, Nat.reduceEqDiff, Nat.add_assoc, Nat.reduceAdd, reduceIte, *] at f0
              exact EV)
            refine FQ ?_ (hs := by
              intro Hx hx
              have f0 : Hx (n' + 3) = _ := hx.off (by simp only [List.mem_cons, List.not_mem_nil, or_false, not_or]; omega)
              simp only [setF_if, upd_if, neAdd, neLt, ltAdd, addNe, ltNe, Nat.left_eq_add, Nat.add_eq_left, Nat.reduceEqDiff, Nat.add_assoc, Nat.reduceAdd, reduceIte, *] at f0
              exact EV)
            refine FCO 0 hk.out ?_
            refine hf.out.mono ?_
            rintro _ Hc nc ⟨oo, eo, rfl, hHc⟩
            refine ⟨oo, eo, 1, 0, _, ints xs, rfl, hHc, .inr (ints_scal _), by decide, ?_⟩
            clear hHc
            repeat first | refine FF ?_ | refine FS ?_
            refine FQ ?_ (hs := by
              intro Hx hx
              have f0 : Hx (n' + 3) = _ := hx.off (by simp only [List.mem_cons, List.not_mem_nil, or_false, not_or]; omega)
              simp only [setF_if, upd_if, neAdd, neLt, ltAdd, addNe, ltNe, Nat.left_eq_add, Nat.add_eq_left, Nat.reduceEqDiff, Nat.add_assoc, Nat.reduceAdd, reduceIte, *] at f0
              exact EV)
            refine FQ ?_ (hs := by
              intro Hx hx
              have f0 : Hx (n' + 3) = _ := hx.off (by simp only [List.mem_cons, List.not_mem_nil, or_false, not_or]; omega)
              simp only [setF_if, upd_if, neAdd, neLt, ltAdd, addNe, ltNe, Nat.left_eq_add, Nat.add_eq_left, Nat.reduceEqDiff, Nat.add_assoc, Nat.reduceAdd, reduceIte, *] at f0
              exact EV)
            repeat first | refine FF ?_ | refine FS ?_
            refine FM 1 (n' + 14) ?_ (hs := by
              intro Hx hx
              exact EVM)
            refine FM 0 (n' + 9) ?_ (hs := by
              intro Hx hx
              have f0 : Hx (n' + 9) = _ := hx.at hnd 0 rfl (by decide)
              simp only [setF_if, upd_if, neAdd, neLt, ltAdd, addNe, ltNe, Nat.left_eq_add, Nat.add_eq_left, Nat.reduceEqDiff, Nat.add_assoc, Nat.reduceAdd, reduceIte, *] at f0
              have f1 : Hx (n' + 14) = _ := hx.at hnd 1 rfl (by decide)
              simp only [setF_if, upd_if, neAdd, neLt, ltAdd, addNe, ltNe, Nat.left_eq_add, Nat.add_eq_left, Nat.reduceEqDiff, Nat.add_assoc, Nat.reduceAdd, reduceIte, *] at f1
              exact EVM)
            refine FM 2 (n' + 16) ?_ (hs := by
              intro Hx hx
              have f0 : Hx (n' + 9) = _ := hx.at hnd 0 rfl (by decide)
              simp only [setF_if, upd_if, neAdd, neLt, ltAdd, addNe, ltNe, Nat.left_eq_add, Nat.add_eq_left, Nat.reduceEqDiff, Nat.add_assoc, Nat.reduceAdd, reduceIte, *] at f0
              exact EVM)
            refine FM 3 (n' + 17) ?_ (hs := by
              intro Hx hx
              have f0 : Hx (n' + 16) = _ := hx.at hnd 2 rfl (by decide)
              simp only [setF_if, upd_if, neAdd, neLt, ltAdd, addNe, ltNe, Nat.left_eq_add, Nat.add_eq_left, Nat.reduceEqDiff, Nat.add_assoc, Nat.reduceAdd, reduceIte, *] at f0
              exact EVM)
            refine FQ ?_ (hs := by
              intro Hx hx
              have f0 : Hx (28) = _ := hx.at hnd 4 rfl (by decide)
              simp only [setF_if, upd_if, neAdd, neLt, ltAdd, addNe, ltNe, Nat.left_eq_add, Nat.add_eq_left, Nat.reduceEqDiff, Nat.add_assoc, Nat.reduceAdd, reduceIte, *] at f0
              exact EV)
            refine FMN 4 (28) ?_ (hs := by
              intro Hx hx
              have f0 : Hx (28) = _ := hx.at hnd 4 rfl (by decide)
              simp only [setF_if, upd_if, neAdd, neLt, ltAdd, addNe, ltNe, Nat.left_eq_add, Nat.add_eq_left, Nat.reduceEqDiff, Nat.add_assoc, Nat.reduceAdd, reduceIte, *] at f0
              have f1 : Hx (n' + 17) = _ := hx.at hnd 3 rfl (by decide)
              simp only [setF_if, upd_if, neAdd, neLt, ltAdd, addNe, ltNe, Nat.left_eq_add, Nat.add_eq_left, Nat.reduceEqDiff, Nat.add_assoc, Nat.reduceAdd, reduceIte, *] at f1
              exact EVM)
            refine WF.nil ?_
            have q3 : ∀ j, (28 = n' + j) = False := q1
            refine AL ?_
            refine ⟨L.length - (i + 1), by omega, i + 1, by omega, by omega, by simp [setF_if, *], by simp [setF_if, *], by simp [setF_if, *], by simp [setF_if, *], by simp [setF_if, *], by simp [setF_if, *], by simp [upd_if, *], .inr ⟨by omega, n' + 17, 0, 2, [[PV.ob (n' + 9) (eo + 1)]], [n' + 9], by simp [upd_if, *], ?_, by omega, by omega, .inl rfl, ?_, ?_, by simp, ?_, by simp⟩⟩
            · simp [upd_if, show ¬ (n' + 17 = 28) by omega]
            · intro r hr
              rw [List.mem_singleton.mp hr]; rfl
            · rw [htk.out, hi0.out]
              refine ownRs_one (q := [PV.sl (ints T)]) ?_
              rw [← List.append_nil [n' + 9]]
              exact ownPs_cons (ownP_mk (ty := 2) (sz := 1) (t := 0) (by simp [upd_if, show ¬ (n' + 9 = 28) by omega]) (ints_scal _) (by decide) (ints_fit _)) (ownPs_scal_mk (by simp))
            · intro o ho
              rw [List.mem_singleton.mp ho]; omega
          · replace hi0 := Hid.mk hi0
            have hrl : rows.length = i := by
              rw [ownRs_len hown, listsR_len, List.length_map, List.length_take]; omega
            have hb : (rows.length + 1) * 24 ≤ 140737488355328 := by omega
            have q3 : ∀ j, (R = n' + j) = False := fun j => by simp; omega
            have q4 : (R = 28) = False := by simp; omega
            have q5 : (28 = R) = False := by simp; omega
            have q6 : (R = 1) = False := by simp; omega
            have q7 : (1 = R) = False := by simp; omega
            have hnd2 : [n' + 9, n' + 14, n' + 16, R, 28].Nodup := by
              simp only [List.nodup_cons, List.mem_cons, List.not_mem_nil, or_false, not_or, List.nodup_nil, not_false_eq_true, and_true]
              omega
            clear hnd hrl
            replace htag := Hid.mk htag
            replace hfit2 := Hid.mk hfit2
            replace hown := Hid.mk hown
            replace hnd0 := Hid.mk hnd0
            replace hlt := Hid.mk hlt
            replace hnil := Hid.mk hnil
            refine AX ?_
            refine FD [n' + 9, n' + 14, n' + 16, R, 28] [(45, 0), (50, 1), (51, 0), (52, 2), (53, 3), (999999, 4)] [(41, [4]), (42, [4]), (51, [1]), (52, [0]), (53, [2]), (54, [4]), (999999, [3])] hnd2 ?_
            have hnd := hnd2
            refine FQ ?_ (hs := by
              intro Hx hx
              have f0 : Hx (28) = _ := hx.at hnd 4 rfl (by decide)
              simp only [setF_if, upd_if, neAdd, neLt, ltAdd, addNe, ltNe, Nat.left_eq_add, Nat.add_eq_left, Nat.reduceEqDiff, Nat.add_assoc, Nat.reduceAdd, reduceIte, *] at f0
              exact EV)
            refine FQ ?_ (hs := by
              intro Hx hx
              have f0 : Hx (28) = _ := hx.at hnd 4 rfl (by decide)
              simp only [setF_if, upd_if, neAdd, neLt, ltAdd, addNe, ltNe, Nat.left_eq_add, Nat.add_eq_left, Nat.reduceEqDiff, Nat.add_assoc, Nat.reduceAdd, reduceIte, *] at f0
              exact EV)
            refine FQ ?_ (hs := by
              intro Hx hx
              have f0 : Hx (n' + 3) = _ := hx.off (by simp only [List.mem_cons, List.not_mem_nil, or_false, not_or]; omega)
              simp only [setF_if, upd_if, neAdd, neLt, ltAdd, addNe, ltNe, Nat.left_eq_add, Nat.add_eq_left, Nat.reduceEqDiff, Nat.add_assoc, Nat.reduceAdd, reduceIte, *] at f0
              exact EV)
            refine FQ ?_ (hs := by
              intro Hx hx
              have f0 : Hx (n' + 3) = _ := hx.off (by simp only [List.mem_cons, List.not_mem_nil, or_false, not_or]; omega)
              simp only [setF_if, upd_if, neAdd, neLt, ltAdd, addNe, ltNe, Nat.left_eq_add, Nat.add_eq_left, Nat.reduceEqDiff, Nat.add_assoc, Nat.reduceAdd, reduceIte, *] at f0
              exact EV)
            refine FCO 0 hk.out ?_
            refine hf.out.mono ?_
            rintro _ Hc nc ⟨oo, eo, rfl, hHc⟩
            refine ⟨oo, eo, 1, 0, _, ints xs, rfl, hHc, .inr (ints_scal _), by decide, ?_⟩
            clear hHc
            repeat first | refine FF ?_ | refine FS ?_
            refine FQ ?_ (hs := by
              intro Hx hx
              have f0 : Hx (n' + 3) = _ := hx.off (by simp only [List.mem_cons, List.not_mem_nil, or_false, not_or]; omega)
              simp only [setF_if, upd_if, neAdd, neLt, ltAdd, addNe, ltNe, Nat.left_eq_add, Nat.add_eq_left, Nat.reduceEqDiff, Nat.add_assoc, Nat.reduceAdd, reduceIte, *] at f0
              exact EV)
            refine FQ ?_ (hs := by
              intro Hx hx
              have f0 : Hx (n' + 3) = _ := hx.off (by simp only [List.mem_cons, List.not_mem_nil, or_false, not_or]; omega)
              simp only [setF_if, upd_if, neAdd, neLt, ltAdd, addNe, ltNe, Nat.left_eq_add, Nat.add_eq_left, Nat.reduceEqDiff, Nat.add_assoc, Nat.reduceAdd, reduceIte, *] at f0
              exact EV)
            repeat first | refine FF ?_ | refine FS ?_
            refine FM 1 (n' + 14) ?_ (hs := by
              intro Hx hx
              exact EVM)
            refine FM 0 (n' + 9) ?_ (hs := by
              intro Hx hx
              have f0 : Hx (n' + 9) = _ := hx.at hnd 0 rfl (by decide)
              simp only [setF_if, upd_if, neAdd, neLt, ltAdd, addNe, ltNe, Nat.left_eq_add, Nat.add_eq_left, Nat.reduceEqDiff, Nat.add_assoc, Nat.reduceAdd, reduceIte, *] at f0
              have f1 : Hx (n' + 14) = _ := hx.at hnd 1 rfl (by decide)
              simp only [setF_if, upd_if, neAdd, neLt, ltAdd, addNe, ltNe, Nat.left_eq_add, Nat.add_eq_left, Nat.reduceEqDiff, Nat.add_assoc, Nat.reduceAdd, reduceIte, *] at f1
              exact EVM)
            refine FM 2 (n' + 16) ?_ (hs := by
              intro Hx hx
              have f0 : Hx (n' + 9) = _ := hx.at hnd 0 rfl (by decide)
              simp only [setF_if, upd_if, neAdd, neLt, ltAdd, addNe, ltNe, Nat.left_eq_add, Nat.add_eq_left, Nat.reduceEqDiff, Nat.add_assoc, Nat.reduceAdd, reduceIte, *] at f0
              exact EVM)
            refine FM 3 (R) ?_ (hs := by
              intro Hx hx
              have f0 : Hx (R) = _ := hx.at hnd 3 rfl (by decide)
              simp only [setF_if, upd_if, neAdd, neLt, ltAdd, addNe, ltNe, Nat.left_eq_add, Nat.add_eq_left, Nat.reduceEqDiff, Nat.add_assoc, Nat.reduceAdd, reduceIte, *] at f0
              have f1 : Hx (n' + 16) = _ := hx.at hnd 2 rfl (by decide)
              simp only [setF_if, upd_if, neAdd, neLt, ltAdd, addNe, ltNe, Nat.left_eq_add, Nat.add_eq_left, Nat.reduceEqDiff, Nat.add_assoc, Nat.reduceAdd, reduceIte, *] at f1
              exact EVM)
            refine FQ ?_ (hs := by
              intro Hx hx
              have f0 : Hx (28) = _ := hx.at hnd 4 rfl (by decide)
              simp only [setF_if, upd_if, neAdd, neLt, ltAdd, addNe, ltNe, Nat.left_eq_add, Nat.add_eq_left, Nat.reduceEqDiff, Nat.add_assoc, Nat.reduceAdd, reduceIte, *] at f0
              exact EV)
            refine FMN 4 (28) ?_ (hs := by
              intro Hx hx
              have f0 : Hx (28) = _ := hx.at hnd 4 rfl (by decide)
              simp only [setF_if, upd_if, neAdd, neLt, ltAdd, addNe, ltNe, Nat.left_eq_add, Nat.add_eq_left, Nat.reduceEqDiff, Nat.add_assoc, Nat.reduceAdd, reduceIte, *] at f0
              have f1 : Hx (R) = _ := hx.at hnd 3 rfl (by decide)
              simp only [setF_if, upd_if, neAdd, neLt, ltAdd, addNe, ltNe, Nat.left_eq_add, Nat.add_eq_left, Nat.reduceEqDiff, Nat.add_assoc, Nat.reduceAdd, reduceIte, *] at f1
              exact EVM)
            refine WF.nil ?_
            refine AL ?_
            refine ⟨L.length - (i + 1), by omega, i + 1, by omega, by omega, by simp [setF_if, *], by simp [setF_if, *], by simp [setF_if, *], by simp [setF_if, *], by simp [setF_if, *], by simp [setF_if, *], by simp [upd_if, *], .inr ⟨by omega, R, e + 1, joinT t' 2, rows ++ [[PV.ob (n' + 9) (eo + 1)]], S ++ [n' + 9], by simp [upd_if, *], by simp [upd_if, joinT, *], hR1, by omega, tag_app htag.out (.inl rfl), ?_, ?_, ?_, ?_, by simp⟩⟩
            · intro r hr
              rcases List.mem_append.mp hr with hr | hr
              · exact hfit2.out r hr
              · rw [List.mem_singleton.mp hr]; rfl
            · rw [htk.out]
              refine ownRs_append (ownRs_congr (H := H) (fun o ho => ?_) hown.out) (ownRs_one ?_)
              · have h1 := hlt.out o ho
                have h2 : o ≠ R := fun e => (List.nodup_cons.mp hnd0.out).1 (e ▸ ho)
                simp [upd_if, h2, show ¬ o = n' + 3 by omega, show ¬ o = n' + 9 by omega, show ¬ o = n' + 14 by omega, show ¬ o = n' + 16 by omega, show ¬ o = 28 by omega]
              · rw [← List.append_nil [n' + 9]]
                exact ownPs_cons (ownP_mk (ty := 2) (sz := 1) (t := 0) (by simp [upd_if, show ¬ (n' + 9 = 28) by omega, show ¬ (n' + 9 = R) by omega]) (ints_scal _) (by decide) (ints_fit _)) (ownPs_scal_mk (by simp))
            · have h1 := List.nodup_cons.mp hnd0.out
              refine List.nodup_cons.mpr ⟨fun h => ?_, List.nodup_append.mpr ⟨h1.2, by simp, fun x hx y hy e => by
                have := hlt.out x hx
                rw [List.mem_singleton.mp hy] at e; omega⟩⟩
              rcases List.mem_append.mp h with h | h
              · exact h1.1 h
              · have := List.mem_singleton.mp h; omega
            · intro o ho
              rcases List.mem_append.mp ho with ho | ho
              · have := hlt.out o ho; omega
              · rw [List.mem_singleton.mp ho]; omega
        · have ei : i = L.length := by omega
          rcases hst with ⟨hi0, hH28⟩ | ⟨hi0, R, e, t', rows, S, hH28, hHR, hR1, hR2, htag, hfit2, hown, hnd0, hlt, hnil⟩
          · have hL0 : L = [] := List.length_eq_zero_iff.mp (by omega)
            replace hi0 := Hid.mk hi0
            refine AL ?_
            refine ⟨[], ?_, by simp⟩
            rw [hL0]
            exact ownX_mkT (s1 := []) (ownX_mk3 (s1 := []) (s2 := []) (s3 := []) ownX_mki ownX_mki (ownX_sl ownA_nil)) ownX_mki
          · rw [ei, List.take_length] at hown
            replace hi0 := Hid.mk hi0
            replace htag := Hid.mk htag
            replace hfit2 := Hid.mk hfit2
            replace hown := Hid.mk hown
            replace hnd0 := Hid.mk hnd0
            replace hlt := Hid.mk hlt
            replace hnil := Hid.mk hnil
            refine AL ?_
            have hHR' : (H.upd 1 (.box 29 [.i .i64 (r.length + l.length), .i .i64 (r.length + l.length), .own R e])) R = some (.arr e 42 1 rows t') := by rw [upd_if, if_neg (by omega)]; exact hHR
            have hnn : listsR (L.map (rowM r.length)) = listsR (L.map (rowM r.length)) := rfl
            refine ⟨R :: S, ?_, hnd0.out⟩
            have := ownX_mkT (ownX_mk3 (s1 := []) (s2 := []) (ownX_mki (k := .i64) (n := r.length + l.length)) (ownX_mki (k := .i64) (n := r.length + l.length)) (ownX_sl (tagOk_own hHR' (ownRs_congr (H := H) (fun o ho => by rw [upd_if, if_neg (by have := (hlt.out o ho).1; omega)]) hown.out) htag.out (ownRs_ns hown.out (listsR_ns _)) hfit2.out (fun h => absurd h hnil.out)))) (ownX_mki (k := .i64) (n := 0))
            simpa [retA] using this
      · have c5 : (L.length : Int) > 400 := by omega
        rw [if_neg (by simp), if_neg c4]
        refine AL ?_
        exact ⟨[], zero_o, by simp⟩
end Go.Proofs
end
section
open Go Go.Big
namespace Go.Proofs
set_option maxHeartbeats 2000000
theorem specIsCover_ok (G : Gv) (a : Int) (w : List (List Int)) (ha : 1 ≤ a ∧ a ≤ 60) (hl : w.length < 1000000000) (hw : ∀ x ∈ w, 0 < x.length ∧ x.length < 1000000000 ∧ inc x (a - 1) = true) :
    Gives Tryz.prog G 72 [.ag [.i .i64 a, .i .i64 a, .sl 0 (listsR w)]] (.b (decide (w.length ≤ 400))) := by
  refine .of (.body Tryz.func72 rfl (by simp [Tryz.ntmps72]) ?_)
  rw [Tryz.ntmps72, Tryz.results72]
  have hlen := listsR_len w
  have hw1 : IntKind.i64.wrap (a - 1) = a - 1 := wr64 (by omega) (by omega)
  have hin1 := l01In_fn G a 1 60
  have hin2 := l01In_fn G a 1 a
  rw [show (decide (a ≥ 1) && decide (a ≤ 60)) = true by simp; omega] at hin1
  rw [show (decide (a ≥ 1) && decide (a ≤ a)) = true by simp; omega] at hin2
  replace hw := Hid.mk hw
  replace hin1 := Hid.mk hin1
  replace hin2 := Hid.mk hin2
  refine AL ?_
  refine CV hin1.out ?_
  refine AL ?_
  refine CV hin2.out ?_
  by_cases c4 : w.length ≤ 400
  · have c5 : ¬ ((w.length : Int) > 400) := by omega
    have c6 : decide (w.length ≤ 400) = true := by simpa using c4
    rw [c6]
    replace c6 := Hid.mk c6
    refine AL ?_
    refine .loop (.inv (fun d E H n' => ∃ i : Nat, i + d = w.length ∧ 0 < n' ∧ E 1 = .ptr 0 0 0 0 ∧ E 3 = .i .i64 i ∧ H 0 = some (.box 29 [.i .i64 a, .i .i64 a, .sl 0 (listsR w)])) w.length ?_ ?_)
    · exact ⟨0, by omega, by omega, by simp [setF_if, argE], by simp [setF_if, argE], by simp [upd_if]⟩
    rintro d E H n' ⟨i, hi, hn, e1, e3, hH⟩
    by_cases c : (i : Int) < w.length
    · have hw_i : IntKind.i64.wrap ((i : Int) + 1) = (i : Int) + 1 := wr64 (by omega) (by omega)
      obtain ⟨x, hx⟩ : ∃ x, w[i]? = some x := ⟨_, List.getElem?_eq_getElem (by omega)⟩
      have hro := listsR_at hx
      obtain ⟨m1, m2, m3⟩ := hw.out x (List.mem_of_getElem? hx)
      have hxl := ints_len x
      have hf := l01Rises_fn G x a (by omega)
      rw [hw1, m3] at hf
      have hx0 : ((x.length : Int) == 0) = false := by simp; intro h; subst h; simp at m1
      replace hx := Hid.mk hx
      replace m3 := Hid.mk m3
      replace hf := Hid.mk hf
      refine AL ?_
      refine CQ hf.out ?_
      refine AL ?_
      exact ⟨w.length - (i + 1), by omega, i + 1, by omega, by omega, by simp [setF_if, *], by simp [setF_if, *], by simp [upd_if, *]⟩
    · refine AL ?_
      simp [retA, backA, setF_if]
  · have c5 : (w.length : Int) > 400 := by omega
    have c6 : decide (w.length ≤ 400) = false := by simpa using c4
    rw [c6]
    replace c6 := Hid.mk c6
    refine AL ?_
    simp [retA, backA, setF_if]
end Go.Proofs
end
section
open Go Go.Big
namespace Go.Proofs
set_option maxHeartbeats 2000000
theorem any_takeP {q : PieceM → Bool} {l : List PieceM} {i : Nat} {p : PieceM} (h : l[i]? = some p) : (l.take (i + 1)).any q = ((l.take i).any q || q p) := by
  rw [List.take_add_one, h, List.any_append]; simp
theorem specCoverOfPuzzle_fn (G : Gv) (hk : GvOk Tryz.prog G) (r : Shape) (l : List PieceM) (hr : r.length < 1000000000) (hl : l.length < 1000000000) (hpl : ∀ p ∈ l, p.cs.length < 1000000000)
    (hord : fitsS r l = true → ∀ x ∈ (allB r l l.length).map (rowM r.length), 0 < x.length ∧ x.length < 1000000000 ∧ inc x ((r.length + l.length : Int) - 1) = true) :
    Gives Tryz.prog G 15 [.ag [.sl 0 (cells r), .sl 0 (pieces l)]] (.tup [.ag [.i .i64 (covM (fitsS r l) r l).1.1, .i .i64 (covM (fitsS r l) r l).1.1, .sl 1 (listsR (covM (fitsS r l) r l).1.2)], .i .i64 (covM (fitsS r l) r l).2]) := by
  refine .of (.body Tryz.func15 rfl (by simp [Tryz.ntmps15]) ?_)
  rw [Tryz.ntmps15, Tryz.results15]
  have hfit := specDoesFit_fn G r l hr hl hpl
  cases cS : fitsS r l with
  | false =>
    rw [cS] at hfit
    replace hfit := Hid.mk hfit
    clear hpl hord
    unfold covM
    refine AL ?_
    refine CV hfit.out ?_
    refine AL ?_
    simp [retA, backA, backsA, listsR]
  | true =>
    have cP : puzzleS r l = true := by
      unfold fitsS at cS
      rw [Bool.and_eq_true] at cS
      exact cS.1
    have hord2 := hord cS
    obtain ⟨g1, g2, g3, g4, g5, g6, g8⟩ := puzzle_facts cP
    have hof := (l13Of_o G hk r l cP).gives
    have hlen2 := pieces_len l
    have hcov : covM true r l = if twoM l then (((0 : Int), []), (5 : Int)) else if (allB r l l.length).length ≤ 400 then (((r.length : Int) + l.length, (allB r l l.length).map (rowM r.length)), 0) else ((0, []), 3) := rfl
    rw [hcov]
    rw [cS] at hfit
    have hLl := allB_len cP (Nat.le_refl l.length)
    have hWl : ((allB r l l.length).map (rowM r.length)).length = (allB r l l.length).length := List.length_map ..
    have hic := specIsCover_ok G (r.length + l.length) ((allB r l l.length).map (rowM r.length)) (by omega) (by omega) hord2
    rw [hWl] at hic
    generalize (allB r l l.length).map (rowM r.length) = w at hof hic
    generalize (allB r l l.length).length = nL at hic
    clear g1 g6 g8 cP hcov hpl hord hord2 hLl hWl
    replace hof := Hid.mk hof
    replace hic := Hid.mk hic
    replace hfit := Hid.mk hfit
    replace cS := Hid.mk cS
    replace hk := Hid.mk hk
    refine AL ?_
    refine CV hfit.out ?_
    refine AL ?_
    refine .loop (.inv (fun d E H n' => ∃ i : Nat, i + d = l.length ∧ 1 < n' ∧ E 1 = .ptr 0 0 0 0 ∧ E 2 = .ptr 1 0 0 0 ∧ E 4 = .i .i64 i ∧ H 0 = some (.box 35 [.sl 0 (cells r), .sl 0 (pieces l)]) ∧ H 1 = some (.box 29 [.i .i64 0, .i .i64 0, .nil]) ∧ ((l.take i).any fun p => decide (p.k > 1)) = false) l.length ?_ ?_)
    · exact ⟨0, by omega, by omega, by simp [setF_if, argE], by simp [setF_if, argE], by simp [setF_if, argE], by simp [upd_if], by simp [upd_if], by simp⟩
    rintro d E H n' ⟨i, hi, hn, e1, e2, e4, hH0, hH1, hall⟩
    replace hall := Hid.mk hall
    by_cases ci : (i : Int) < l.length
    · have hw_i : IntKind.i64.wrap ((i : Int) + 1) = (i : Int) + 1 := wr64 (by omega) (by omega)
      obtain ⟨p, hp⟩ : ∃ p, l[i]? = some p := ⟨_, List.getElem?_eq_getElem (by omega)⟩
      have hro : (pieces l)[i]? = some (pieceR p) := by simp [pieces, hp]
      have hst := any_takeP (q := fun p => decide (p.k > 1)) hp
      rw [hall.out, Bool.false_or] at hst
      have hpm := List.mem_of_getElem? hp
      replace hp := Hid.mk hp
      replace hst := Hid.mk hst
      replace hpm := Hid.mk hpm
      by_cases ck : p.k > 1
      · have htw : twoM l = true := List.any_eq_true.mpr ⟨p, hpm.out, by simpa using ck⟩
        rw [if_pos htw]
        replace htw := Hid.mk htw
        refine AL ?_
        simp [retA, backA, backsA, listsR]
      · have hst2 : ((l.take (i + 1)).any fun p => decide (p.k > 1)) = false := hst.out.trans (by simpa using ck)
        replace hst2 := Hid.mk hst2
        refine AL ?_
        exact ⟨l.length - (i + 1), by omega, i + 1, by omega, by omega, by simp [setF_if, *], by simp [setF_if, *], by simp [setF_if, *], hH0, hH1, hst2.out⟩
    · have ei : i = l.length := by omega
      have htw : twoM l = false := by
        have := hall.out
        rwa [ei, List.take_length] at this
      rw [if_neg (by rw [htw]; simp)]
      replace htw := Hid.mk htw
      by_cases c4 : nL ≤ 400
      · have hd : decide (nL ≤ 400) = true := by simpa using c4
        have hic2 := hic.out
        rw [hd] at hic2
        rw [if_pos c4]
        replace hic2 := Hid.mk hic2
        replace hd := Hid.mk hd
        refine AL ?_
        refine CV hof.out ?_
        refine AL ?_
        refine CV hic2.out ?_
        refine AL ?_
        simp [retA, backA, backsA, newSl]
      · have hd : decide (nL ≤ 400) = false := by simpa using c4
        have hic2 := hic.out
        rw [hd] at hic2
        rw [if_neg c4]
        replace hic2 := Hid.mk hic2
        replace hd := Hid.mk hd
        refine AL ?_
        refine CV hof.out ?_
        refine AL ?_
        refine CV hic2.out ?_
        refine AL ?_
        simp [retA, backA, backsA, listsR]
end Go.Proofs
end
section
open Go Go.Big
namespace Go.Proofs
set_option maxHeartbeats 2000000
theorem stepT_injC {p q : Int × Int} (hp : inB p) (hq : inB q) (h : stepT p = stepT q) : p = q := by
  unfold stepT at h
  unfold inB at hp hq
  simp only [Prod.mk.injEq] at h
  rw [wr1 (by omega) (by omega), wr1 (by omega) (by omega)] at h
  exact Prod.ext h.2 (by omega)
theorem iterT_injC {p q : Int × Int} (hp : inB p) (hq : inB q) : ∀ {n : Nat}, iterT p n = iterT q n → p = q
  | 0, h => h
  | n + 1, h => iterT_injC hp hq (n := n) (stepT_injC (inB_iter hp n) (inB_iter hq n) h)
theorem turnM_injC {p q : Int × Int} (hp : inB p) (hq : inB q) {t : Nat} (h : turnM p t = turnM q t) : p = q := by
  have hf : ∀ {x : Int × Int}, inB x → inB (flipT x t) := fun {x} hx => by
    unfold flipT
    unfold inB at hx ⊢
    split
    · rw [wr1 (by omega) (by omega)]
      (try simp only)
      omega
    · exact hx
  have := iterT_injC (hf hp) (hf hq) h
  unfold flipT at this
  unfold inB at hp hq
  split at this
  · simp only [Prod.mk.injEq] at this
    rw [wr1 (by omega) (by omega), wr1 (by omega) (by omega)] at this
    exact Prod.ext (by omega) this.2
  · exact this
theorem norm_mapC {l : Shape} (hl : 0 < l.length) (h : ∀ p ∈ l, inB p) : normM l = l.map fun p => (p.1 + (0 - (minF l l.length).1), p.2 + (0 - (minF l l.length).2)) := by
  obtain ⟨g1, ⟨p, hp, g2⟩, ⟨q, hq, g3⟩⟩ := minF_spec hl
  have kp := h p hp
  have kq := h q hq
  unfold inB at kp kq
  unfold normM
  rw [wr1 (by omega) (by omega), wr1 (by omega) (by omega), movedM_small (fun x hx => by have := h x hx; unfold inB at this; omega) (by omega) (by omega)]
theorem minF_permC {l k : Shape} (hp : l.Perm k) (hl : 0 < l.length) : minF l l.length = minF k k.length := by
  have hk : 0 < k.length := by rw [← hp.length_eq]; exact hl
  obtain ⟨g1, ⟨p, hp1, g2⟩, ⟨q, hq, g3⟩⟩ := minF_spec hk
  exact minF_is hl (fun x hx => g1 x (hp.mem_iff.mp hx)) ⟨p, hp.mem_iff.mpr hp1, g2⟩ ⟨q, hp.mem_iff.mpr hq, g3⟩
theorem form_asc {cs : Shape} (h : shapeM cs = true) (t : Nat) : (formM cs t).Pairwise (fun a b => lessC a.1 a.2 b.1 b.2 = true) := by
  obtain ⟨_, hc, h0, _⟩ := shapeM_spec h
  have hin : ∀ p ∈ cs, inB p := fun p hp => by
    have := hc p hp
    simp only [inC, Bool.and_eq_true, decide_eq_true_eq] at this
    unfold inB; omega
  have hT : ∀ p ∈ turnL cs t, inB p := fun p hp => by
    obtain ⟨q, hq, rfl⟩ := List.mem_map.mp hp
    exact inB_turn (hin q hq) t
  have hTl : (turnL cs t).length = cs.length := turnL_len cs t
  have hTn : (turnL cs t).Nodup := by
    unfold turnL
    rw [List.Nodup, List.pairwise_map]
    exact (shapeM_nodup h).imp_of_mem (fun ha hc hne e => hne (turnM_injC (hin _ ha) (hin _ hc) e))
  unfold formM
  generalize turnL cs t = T at hT hTl hTn
  have hsp := sortM_perm T
  have hss := sortM_sorted T
  have hsl : (sortM T).length = T.length := hsp.length_eq
  have e2 := norm_mapC (l := sortM T) (by omega) (fun p hp => hT p (hsp.mem_iff.mp hp))
  rw [e2, List.pairwise_map]
  have hnd : (sortM T).Nodup := hsp.nodup_iff.mpr hTn
  refine (hss.and hnd).imp fun {a b} hab => ?_
  obtain ⟨h1, h2⟩ := hab
  cases z : lessC a.1 a.2 b.1 b.2 with
  | false => exact absurd (lessC_total z h1) h2
  | true =>
    simp only [lessC, Bool.or_eq_true, Bool.and_eq_true, decide_eq_true_eq, beq_iff_eq] at z ⊢
    omega
theorem setM_asc {r : Shape} (hr : r.Pairwise (fun a b => lessC a.1 a.2 b.1 b.2 = true)) {cs : Shape} (hcs : cs.Pairwise (fun a b => lessC a.1 a.2 b.1 b.2 = true)) {s : List Int} (h : setM r cs = some s) : s.Pairwise (· < ·) := by
  obtain ⟨_, hp, hl, hk⟩ := setM_some h
  rw [← hp] at hcs
  unfold pickM at hcs
  rw [List.pairwise_map] at hcs
  refine hcs.imp_of_mem fun {a b} ha hb hab => ?_
  have ka := hk a ha
  have kb := hk b hb
  apply Classical.byContradiction
  intro hnl
  have ha' : a.toNat < r.length := by omega
  have hb' : b.toNat < r.length := by omega
  rw [List.getD_eq_getElem?_getD, List.getElem?_eq_getElem ha', List.getD_eq_getElem?_getD, List.getElem?_eq_getElem hb', Option.getD_some, Option.getD_some] at hab
  by_cases e : a = b
  · subst e; rw [lessC_self] at hab; simp at hab
  · have := (List.pairwise_iff_getElem.mp hr) b.toNat a.toNat hb' ha' (by omega)
    have := lessC_trans' hab this
    rw [lessC_self] at this; simp at this
theorem allB_asc {r : Shape} {l : List PieceM} (h : puzzleS r l = true) {i : Nat} (hi : i ≤ l.length) {x : Int × List Int} (hx : x ∈ allB r l i) : x.2.Pairwise (· < ·) := by
  obtain ⟨k, hk, hx⟩ := List.mem_flatMap.mp hx
  have hk := List.mem_range.mp hk
  have hp := getD_mem (l := l) (i := k) (by omega)
  obtain ⟨hreg, _, hps⟩ := puzzle_parts h
  have hsp := hps _ hp
  generalize l.getD k pc0 = p at hp hx hsp
  rw [← places_eq h hp k] at hx
  have hx := (orderP_perm _).mem_iff.mp hx
  unfold listA rowA at hx
  obtain ⟨f, hf, hx⟩ := List.mem_flatMap.mp hx
  obtain ⟨c, hc, hx⟩ := List.mem_filterMap.mp hx
  obtain ⟨e1, e2⟩ := gM_some hx
  rw [forms_eq] at hf
  have hF := formed_of hsp f hf
  have hfa : f.Pairwise (fun a b => lessC a.1 a.2 b.1 b.2 = true) := by
    unfold formsP at hf
    rw [formsF_iff] at hf
    obtain ⟨j, _, rfl⟩ := hf
    have hs : shapeM p.cs = true := by
      unfold pieceS at hsp
      simp only [Bool.and_eq_true] at hsp
      exact hsp.1.2.1
    exact form_asc hs j
  have hsm := offA_small hF (boxed_of hreg) hc
  rw [movedM_small hF.small (by omega) (by omega)] at e2
  refine setM_asc (puzzle_facts h).1 ?_ e2
  rw [List.pairwise_map]
  refine hfa.imp fun {a b} hab => ?_
  simp only [lessC, Bool.or_eq_true, Bool.and_eq_true, decide_eq_true_eq, beq_iff_eq] at hab ⊢
  omega
theorem inc_of {l : List Int} {m : Int} (h : l.Pairwise (· < ·)) (hb : ∀ x ∈ l, 0 ≤ x ∧ x ≤ m) : inc l m = true := all_yes fun i hi => by
  have h1 := hb _ (List.getElem_mem hi)
  unfold incAt
  rw [Bool.and_eq_true, Bool.and_eq_true]
  simp only [List.getD_eq_getElem?_getD, List.getElem?_eq_getElem hi, Option.getD_some]
  refine ⟨⟨by simpa using h1.1, by simpa using h1.2⟩, ?_⟩
  by_cases h0 : i = 0
  · subst h0; simp
  · have := (List.pairwise_iff_getElem.mp h) (i - 1) i (by omega) hi (by omega)
    simp only [List.getElem?_eq_getElem (show i - 1 < l.length by omega), Option.getD_some, Bool.not_eq_true', Bool.and_eq_false_iff, decide_eq_false_iff_not]
    exact .inr (by omega)
theorem rowM_ord {r : Shape} {l : List PieceM} (h : puzzleS r l = true) : ∀ x ∈ (allB r l l.length).map (rowM r.length), 0 < x.length ∧ x.length ≤ 41 ∧ inc x ((r.length + l.length : Int) - 1) = true := by
  intro z hz
  obtain ⟨x, hx, rfl⟩ := List.mem_map.mp hz
  obtain ⟨⟨m1, m2⟩, m3, m4, m5⟩ := allB_mem h (Nat.le_refl _) hx
  have ha := allB_asc h (Nat.le_refl _) hx
  obtain ⟨g1, g2, g3, g4, g5, g6, g8⟩ := puzzle_facts h
  have hw : IntKind.i64.wrap ((r.length : Int) + x.1) = r.length + x.1 := wr64 (by omega) (by omega)
  unfold rowM
  rw [hw]
  refine ⟨by simp, by simp; omega, inc_of ?_ ?_⟩
  · rw [List.pairwise_append]
    exact ⟨ha, by simp, fun a hA b hb => by have := m5 a hA; rw [List.mem_singleton.mp hb]; omega⟩
  · intro a hA
    rcases List.mem_append.mp hA with hA | hA
    · have := m5 a hA; omega
    · rw [List.mem_singleton.mp hA]; omega
theorem cntL_le {n : Nat} : ∀ {w : List (List Int)}, (∀ x ∈ w, x.length ≤ n) → cntL w ≤ (w.length * n : Nat)
  | [], _ => by simp [cntL]
  | x :: w, h => by
    have h1 := h x List.mem_cons_self
    have h2 := cntL_le (w := w) (fun y hy => h y (List.mem_cons_of_mem _ hy))
    have h3 : ((x :: w).length * n : Nat) = w.length * n + n := by rw [List.length_cons, Nat.add_mul, Nat.one_mul]
    rw [h3]
    simp only [cntL]
    omega
theorem cov_ord {r : Shape} {l : List PieceM} (h : fitsS r l = true) : ∀ x ∈ (allB r l l.length).map (rowM r.length), 0 < x.length ∧ x.length < 1000000000 ∧ inc x ((r.length + l.length : Int) - 1) = true := by
  have hp : puzzleS r l = true := by
    unfold fitsS at h
    rw [Bool.and_eq_true] at h
    exact h.1
  intro x hx
  obtain ⟨a, b, c⟩ := rowM_ord hp x hx
  exact ⟨a, by omega, c⟩
theorem cov_eq (r : Shape) (l : List PieceM) : covM (fitsI r l) r l = covM (fitsS r l) r l ∧ (covM (fitsI r l) r l).1.2.length < 1000000000 ∧ (∀ x ∈ (covM (fitsI r l) r l).1.2, x.length < 1000000000) ∧ cntL (covM (fitsI r l) r l).1.2 < 100000000000 := by
  have e : fitsI r l = fitsS r l := by unfold fitsI fitsS; rw [puzzle_eq]
  rw [e]
  refine ⟨rfl, ?_⟩
  unfold covM
  by_cases c : fitsS r l = true
  · rw [if_pos c]
    have hp : puzzleS r l = true := by
      unfold fitsS at c
      rw [Bool.and_eq_true] at c
      exact c.1
    split
    · simp [cntL]
    · split
      · rename_i h4
        have hlen : ((allB r l l.length).map (rowM r.length)).length ≤ 400 := by rw [List.length_map]; exact h4
        have hrow : ∀ x ∈ (allB r l l.length).map (rowM r.length), x.length ≤ 41 := fun x hx => (rowM_ord hp x hx).2.1
        have hc := cntL_le hrow
        have : ((allB r l l.length).map (rowM r.length)).length * 41 ≤ 400 * 41 := Nat.mul_le_mul_right _ hlen
        exact ⟨by show ((allB r l l.length).map (rowM r.length)).length < _; omega, fun x hx => by have := hrow x hx; omega, by show cntL ((allB r l l.length).map (rowM r.length)) < _; omega⟩
      · simp [cntL]
  · rw [if_neg c]; simp [cntL]
end Go.Proofs
end
section
open Go Go.Big
namespace Go.Proofs
set_option maxHeartbeats 2000000
theorem markCover_m (G : Gv) (a b : Int) (l : List (List Int)) (k : Int) (hl : l.length < 1000000000) (hc : ∀ p ∈ l, p.length < 1000000000) (hk0 : 0 ≤ k) (hk : k + cntL l < 1000000000000) :
    Marks Tryz.prog G 21 (.ag [.i .i64 a, .i .i64 b, .sl 1 (listsR l)]) (.ag [.i .i64 a, .i .i64 b, .sl 1 (listsR (mkL k l))]) k (k + cntL l) := by
  intro x H0 n0 S hx hn hS
  obtain ⟨zi, zj, za, s2, s3, s1, rfl, rfl, hxi, hxj, hxa⟩ := ownX_ag3 hx
  obtain ⟨rfl, rfl⟩ := ownX_i hxi
  obtain ⟨rfl, rfl⟩ := ownX_i hxj
  clear hx hxi hxj
  simp only [List.nil_append] at hn hS ⊢
  have pa := (ownX_plain hxa).1
  have pi : plainA H0 (.i .i64 a) = true := rfl
  have pj : plainA H0 (.i .i64 b) = true := rfl
  replace hxa := Hid.mk hxa
  replace hn := Hid.mk hn
  replace hS := Hid.mk hS
  have hmk := markInt64SS_m G l k hl hc hk0 hk
  clear hc
  replace hmk := Hid.mk hmk
  refine (.body Tryz.func21 rfl (by simp [Tryz.ntmps21]) ?_)
  rw [Tryz.ntmps21, Tryz.results21]
  refine W.seq ?_
  refine W.region ?_
  refine OP (y := .ptr n0 0 0 0) (H1 := H0.upd n0 (.box 29 [.i .i64 a, .i .i64 b, za])) (op := .box 29 (.tmp 0)) ?_ (hs := by rw [st_box]; simp [flatA, pa, pi, pj, argE])
  clear pa pi pj
  refine AL ?_
  refine CI ?_
  refine WC.mono (hmk.out _ _ _ s1 (ownX_congr (fun o ho => by rw [upd_if, if_neg (by have := hS.out o ho; omega)]) hxa.out) hn.out (fun o ho => by have := hS.out o ho; omega)) ?_
  rintro _ H1 m ⟨rfl, hm, hz1, hf1⟩
  replace hz1 := Hid.mk hz1
  replace hf1 := Hid.mk hf1
  refine AL ?_
  refine ⟨rfl, by omega, ownX_mk3 (s1 := []) (s2 := []) ownX_mki ownX_mki hz1.out, fun o ho hno => ?_⟩
  rw [hf1.out o (by omega) hno, upd_if, if_neg (by omega)]
end Go.Proofs
end
section
open Go Go.Big
namespace Go.Proofs
set_option maxHeartbeats 2000000
structure AllC (G : Gv) : Prop extends AllG G where
  ok : GvOk Tryz.prog G
theorem giveOf_last3 {H : Heap} {a a2 za b b2 : AV} {q : List (List PV)} {S : List Nat} (h : ownX H (.ag [a, a2, za]) (.ag [b, b2, .sl 1 q]) S) : giveA H za = some (.sl 0 q) := by
  obtain ⟨_, _, _, _, _, _, e, _, _, _, h1⟩ := ownX_ag3 h
  simp only [AV.ag.injEq, List.cons.injEq, and_true] at e
  obtain ⟨_, _, rfl⟩ := e
  exact ownX_gives h1
end Go.Proofs
end
section
open Go Go.Big
namespace Go.Proofs
set_option maxHeartbeats 2000000
theorem markPuzzle_m (G : Gv) (r : List (Int × Int)) (l : List PieceM) (k : Int) (hr : r.length < 1000000000) (hl : l.length < 1000000000) (hc : ∀ p ∈ l, p.cs.length < 1000000000) (hk0 : 0 ≤ k) (hk : k + 2 * r.length + cntQ l < 1000000000000) :
    Marks Tryz.prog G 20 (.ag [.sl 1 (cells r), .sl 1 (pieces l)]) (.ag [.sl 1 (cells (runC k r.length)), .sl 1 (pieces (mkQ (k + 2 * r.length) l))]) k (k + 2 * r.length + cntQ l) := by
  intro x H0 n0 S hx hn hS
  have hcn := cntQ_nn l
  obtain ⟨za, zb, s1, s2, rfl, rfl, hxa, hxb⟩ := ownX_ag2 hx
  clear hx
  rw [List.nodup_append] at hn
  obtain ⟨hn1, hn2, hn3⟩ := hn
  have hS1 : ∀ o ∈ s1, o < n0 := fun o ho => hS o (by simp [ho])
  have hS2 : ∀ o ∈ s2, o < n0 := fun o ho => hS o (by simp [ho])
  have pa := (ownX_plain hxa).1
  have pb := (ownX_plain hxb).1
  replace hxa := Hid.mk hxa
  replace hxb := Hid.mk hxb
  replace hn1 := Hid.mk hn1
  replace hn2 := Hid.mk hn2
  replace hn3 := Hid.mk hn3
  replace hS1 := Hid.mk hS1
  replace hS2 := Hid.mk hS2
  replace hc := Hid.mk hc
  clear hS
  refine (.body Tryz.func20 rfl (by simp [Tryz.ntmps20]) ?_)
  rw [Tryz.ntmps20, Tryz.results20]
  refine W.seq ?_
  refine W.region ?_
  refine OP (y := .ptr n0 0 0 0) (H1 := H0.upd n0 (.box 35 [za, zb])) (op := .box 35 (.tmp 0)) ?_ (hs := by rw [st_box]; simp [flatA, pa, pb, argE])
  refine AL ?_
  refine CI ?_
  refine WC.mono (markCellS_m G r k hr hk0 (by omega) _ _ _ s1 (ownX_congr (fun o ho => by rw [upd_if, if_neg (by have := hS1.out o ho; omega)]) hxa.out) hn1.out (fun o ho => by have := hS1.out o ho; omega)) ?_
  rintro _ H1 m ⟨rfl, hm, hz1, hf1⟩
  have hb := hf1 n0 (by omega) (fun h => by have := hS1.out _ h; omega)
  rw [upd_if, if_pos rfl] at hb
  have hxb1 := ownX_congr (H' := H1) (fun o ho => by rw [hf1 o (by have := hS2.out o ho; omega) (fun h => hn3.out o h o ho rfl), upd_if, if_neg (by have := hS2.out o ho; omega)]) hxb.out
  replace hxb1 := Hid.mk hxb1
  replace hz1 := Hid.mk hz1
  replace hf1 := Hid.mk hf1
  clear pa pb
  refine AL ?_
  refine CI ?_
  refine WC.mono (markPieceS_m G l (k + 2 * r.length) hl hc.out (by omega) (by omega) _ _ _ s2 hxb1.out hn2.out (fun o ho => by have := hS2.out o ho; omega)) ?_
  rintro _ H2 m2 ⟨rfl, hm2, hz2, hf2⟩
  have hb2 := hf2 n0 (by omega) (fun h => by have := hS2.out _ h; omega)
  replace hz2 := Hid.mk hz2
  replace hf2 := Hid.mk hf2
  refine AL ?_
  refine ⟨rfl, by omega, ownX_mk2 (ownX_congr (fun o ho => hf2.out o (by have := hS1.out o ho; omega) (fun h => hn3.out o ho o h rfl)) hz1.out) hz2.out, fun o ho hno => ?_⟩
  rw [hf2.out o (by omega) (fun h => hno (by simp [h])), hf1.out o (by omega) (fun h => hno (by simp [h])), upd_if, if_neg (by omega)]
end Go.Proofs
end
section
open Go Go.Big
namespace Go.Proofs
set_option maxHeartbeats 2000000
theorem mkP_length : ∀ (k : Int) (l : List (Int × List Int)), (mkP k l).length = l.length
  | _, [] => rfl
  | k, p :: l => by simp only [mkP, List.length_cons, mkP_length]
end Go.Proofs
end
