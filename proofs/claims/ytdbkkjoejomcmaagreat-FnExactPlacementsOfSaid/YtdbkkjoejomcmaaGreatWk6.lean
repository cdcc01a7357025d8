/- Walks: The program's parts. No condition. | What is connected. No condition. -/
import Derived.Test.YtdbkkjoejomcmaaGreatBO
import Derived.Test.YtdbkkjoejomcmaaGreatWk5
import Derived.Test.YtdbkkjoejomcmaaGreatWk2
import Derived.Test.YtdbkkjoejomcmaaGreatWk1
set_option linter.unusedVariables false
set_option linter.unusedSimpArgs false
section
open Go Go.Big
namespace Go.Proofs
set_option maxHeartbeats 2000000
theorem wf_wrap (n : Int) : wf64 (IntKind.i64.wrap n) := by
  simp only [wf64, Lit.wf, IntKind.min, IntKind.max, IntKind.wrap, IntKind.bits, IntKind.signed, Bool.and_eq_true, decide_eq_true_eq]
  simp
  omega
/-- The map of the first places' cells. -/
def mapF (l : List (Int × Int)) : Nat → Int → Int → Option Int
  | 0 => fun _ _ => none
  | i + 1 => putM (mapF l i) (l.getD i (0, 0)).1 (l.getD i (0, 0)).2 (i : Int)
theorem mapF_eq {l : List (Int × Int)} (hn : l.Nodup) (a b : Int) : ∀ {i : Nat}, i ≤ l.length → mapF l i a b = Option.map (fun j : Nat => (j : Int)) ((List.range i).find? (cellAt l (a, b)))
  | 0, _ => rfl
  | i + 1, hi => by
    have ih := mapF_eq hn a b (i := i) (by omega)
    rw [List.range_succ, List.find?_append]
    show putM (mapF l i) _ _ _ a b = _
    unfold putM
    by_cases c : cellAt l (a, b) i = true
    · have h1 := c
      unfold cellAt at h1
      simp only [Bool.and_eq_true, beq_iff_eq] at h1
      rw [if_pos ⟨h1.1.symm, h1.2.symm⟩]
      have h2 : (List.range i).find? (cellAt l (a, b)) = none := by
        rw [List.find?_range_eq_none]
        intro j hj
        simp only [Bool.not_eq_true']
        cases q : cellAt l (a, b) j with
        | false => rfl
        | true =>
          exfalso
          unfold cellAt at q
          simp only [Bool.and_eq_true, beq_iff_eq] at q
          have e : l.getD j (0, 0) = l.getD i (0, 0) := Prod.ext (q.1.trans h1.1.symm) (q.2.trans h1.2.symm)
          simp only [List.getD_eq_getElem?_getD, List.getElem?_eq_getElem (show j < l.length by omega), List.getElem?_eq_getElem (show i < l.length by omega), Option.getD_some] at e
          have e2 : l[j]? = l[i]? := by rw [List.getElem?_eq_getElem (show j < l.length by omega), List.getElem?_eq_getElem (show i < l.length by omega)]; exact congrArg some e
          have := (List.getElem?_inj (i := j) (j := i) (show j < l.length by omega) hn).mp e2
          omega
      rw [h2]; simp [c]
    · rw [if_neg]
      · rw [ih]; simp [c]
      · rintro ⟨h1, h2⟩
        apply c
        unfold cellAt
        rw [← h1, ← h2]; simp
theorem mapF_all {l : List (Int × Int)} (hn : l.Nodup) (c : Int × Int) : mapF l l.length c.1 c.2 = if 0 ≤ idxM l c then some (idxM l c) else none := by
  rw [mapF_eq hn c.1 c.2 (Nat.le_refl _)]
  unfold idxM
  cases (List.range l.length).find? (cellAt l (c.1, c.2)) with
  | none => simp
  | some i => simp
theorem parts_fn (G : Gv) (l : List (Int × Int)) (hl : l.length < 1000000000) (hnd : l.Nodup) (hwf : ∀ p ∈ l, wf64 p.1 ∧ wf64 p.2) : Gives Tryz.prog G 210 [.sl 0 (cells l), .fn 180 []] (.sl 1 (ints (partsM l l.length))) := by
  refine .of (.body Tryz.func210 rfl (by simp [Tryz.ntmps210]) ?_)
  rw [Tryz.ntmps210, Tryz.results210]
  have hlen := cells_len l
  have b1 : ((8 : Nat) : Int) * l.length ≤ 281474976710656 := by simp; omega
  have b2 : (l.length : Int) ≤ 9223372036854775807 := by omega
  have b3 : (0 : Int) ≤ l.length := by omega
  have hwf := Hid.mk hwf
  repeat first | refine OP ?_ | refine SK ?_ | refine OPN ?_ | refine OM ?_ | refine SM ?_ | refine OMN ?_ | refine WM.nil ?_ | refine OQ ?_ | refine SQ ?_ | refine TH ?_ | refine WR.nil ?_ | refine WQ.nil ?_ | refine W.seq ?_ | refine W.region ?_ | refine DR ?_ | refine IFT ?_ | refine IFF ?_ | refine W.skip ?_ | refine W.block ?_ | refine W.exit ?_ | refine W.ret ?_ | (simp only [tN, tR, tE, rN, rR, rE, xN, xR, xE, reduceIte]) | refine DN ?_
  refine MN ?_
  repeat first | refine OP ?_ | refine SK ?_ | refine OPN ?_ | refine OM ?_ | refine SM ?_ | refine OMN ?_ | refine WM.nil ?_ | refine OQ ?_ | refine SQ ?_ | refine TH ?_ | refine WR.nil ?_ | refine WQ.nil ?_ | refine W.seq ?_ | refine W.region ?_ | refine DR ?_ | refine IFT ?_ | refine IFF ?_ | refine W.skip ?_ | refine W.block ?_ | refine W.exit ?_ | refine W.ret ?_ | (simp only [tN, tR, tE, rN, rR, rE, xN, xR, xE, reduceIte]) | refine DN ?_
  refine .loop (.inv (fun d E H n' => ∃ i : Nat, i + d = l.length ∧ 5 < n' ∧ E 0 = .sl 0 (cells l) ∧ E 1 = .fn 180 [] ∧ E 5 = .own 1 0 ∧ E 6 = .own 5 0 ∧ E 20 = .sl 0 (cells l) ∧ E 21 = .i .i64 l.length ∧ E 22 = .i .i64 i ∧ H 1 = some (.mp (mapF l i)) ∧ H 5 = some (.arr 0 2 1 (part (ints (List.replicate l.length (-1))) [.i .i64 0] i) 1)) l.length ?_ ?_)
  · exact ⟨0, by omega, by omega, by simp [setF_if, argE, upd_if], by simp [setF_if, argE, upd_if], by simp [setF_if, argE, upd_if], by simp [setF_if, argE, upd_if], by simp [setF_if, argE, upd_if], by simp [setF_if, argE, upd_if], by simp [setF_if, argE, upd_if], by simp [upd_if, mapF], by simp [upd_if, part_zero, ints]⟩
  · rintro d E H n' ⟨i, hi, hn4, h0, h1, h5, h6, h20, h21, h22, hH1, hH5⟩
    have hn1 : 1 < n' := by omega
    by_cases c : (i : Int) < l.length
    · have hw_i : IntKind.i64.wrap ((i : Int) + 1) = (i : Int) + 1 := wr64 (by omega) (by omega)
      have cN : i < l.length := by omega
      have hr := cells_at (l := l) (i := i) cN
      have hms : mapF l (i + 1) = putM (mapF l i) (l.getD i (0, 0)).1 (l.getD i (0, 0)).2 (i : Int) := rfl
      have hww : wf64 (l.getD i (0, 0)).1 ∧ wf64 (l.getD i (0, 0)).2 := hwf.out _ (by rw [List.getD_eq_getElem?_getD, List.getElem?_eq_getElem cN]; exact List.getElem_mem _)
      obtain ⟨hwa, hwb⟩ := hww
      generalize l.getD i (0, 0) = p at hr hms hwa hwb
      have hil : (ints (List.replicate l.length (-1))).length = l.length := by simp [ints]
      have hp := part_at (l := ints (List.replicate l.length (-1))) (z := [PV.i .i64 0]) (i := i) (by omega)
      have hs := part_set (l := ints (List.replicate l.length (-1))) (z := [PV.i .i64 0]) (i := i) (x := [PV.i .i64 (-1)]) (by simp [ints, cN])
      have hpl : i < (part (ints (List.replicate l.length (-1))) [PV.i .i64 0] i).length := (List.getElem?_eq_some_iff.mp hp).1
      repeat first | refine OP ?_ | refine SK ?_ | refine OPN ?_ | refine OM ?_ | refine SM ?_ | refine OMN ?_ | refine WM.nil ?_ | refine OQ ?_ | refine SQ ?_ | refine TH ?_ | refine WR.nil ?_ | refine WQ.nil ?_ | refine W.seq ?_ | refine W.region ?_ | refine DR ?_ | refine IFT ?_ | refine IFF ?_ | refine W.skip ?_ | refine W.block ?_ | refine W.exit ?_ | refine W.ret ?_ | (simp only [tN, tR, tE, rN, rR, rE, xN, xR, xE, reduceIte]) | refine DN ?_
      refine MP cellMap hwa hwb ?_
      repeat first | refine OP ?_ | refine SK ?_ | refine OPN ?_ | refine OM ?_ | refine SM ?_ | refine OMN ?_ | refine WM.nil ?_ | refine OQ ?_ | refine SQ ?_ | refine TH ?_ | refine WR.nil ?_ | refine WQ.nil ?_ | refine W.seq ?_ | refine W.region ?_ | refine DR ?_ | refine IFT ?_ | refine IFF ?_ | refine W.skip ?_ | refine W.block ?_ | refine W.exit ?_ | refine W.ret ?_ | (simp only [tN, tR, tE, rN, rR, rE, xN, xR, xE, reduceIte]) | refine DN ?_
      refine ⟨l.length - (i + 1), by omega, i + 1, by omega, ?_⟩
      simp [setF_if, upd_if, *]
    · have e' : i = l.length := by omega
      subst e'
      have hpa : part (ints (List.replicate l.length (-1))) [PV.i .i64 0] l.length = ints (partsM l 0) := by
        have := part_all (ints (List.replicate l.length (-1))) [PV.i .i64 0]
        rw [show (ints (List.replicate l.length (-1))).length = l.length by simp [ints]] at this
        rw [this]; rfl
      rw [hpa] at hH5
      have hfF := mapF_all hnd
      generalize mapF l l.length = F at hH1 hfF
      replace hfF := Hid.mk hfF
      repeat first | refine OP ?_ | refine SK ?_ | refine OPN ?_ | refine OM ?_ | refine SM ?_ | refine OMN ?_ | refine WM.nil ?_ | refine OQ ?_ | refine SQ ?_ | refine TH ?_ | refine WR.nil ?_ | refine WQ.nil ?_ | refine W.seq ?_ | refine W.region ?_ | refine DR ?_ | refine IFT ?_ | refine IFF ?_ | refine W.skip ?_ | refine W.block ?_ | refine W.exit ?_ | refine W.ret ?_ | (simp only [tN, tR, tE, rN, rR, rE, xN, xR, xE, reduceIte]) | refine DN ?_
      refine .loop (.inv (fun d E H n' => ∃ i : Nat, i + d = l.length ∧ 5 < n' ∧ E 0 = .sl 0 (cells l) ∧ E 1 = .fn 180 [] ∧ E 5 = .own 1 0 ∧ E 6 = .own 5 0 ∧ E 35 = .i .i64 l.length ∧ E 36 = .i .i64 i ∧ H 1 = some (.mp F) ∧ H 5 = some (.arr 0 2 1 (ints (partsM l i)) 1)) l.length ?_ ?_)
      · exact ⟨0, by omega, by omega, by simp [setF_if, *], by simp [setF_if, *], by simp [setF_if, *], by simp [setF_if, *], by simp [setF_if, *], by simp [setF_if, *], by simp [*], by simp [*]⟩
      clear h0 h1 h5 h6 h20 h21 h22 hH1 hH5 hn4 hn1 hi hpa c
      rintro d E H n' ⟨i, hi, hn4, h0, h1, h5, h6, h35, h36, hH1, hH5⟩
      have hn1 : 1 < n' := by omega
      by_cases c : (i : Int) < l.length
      · have hw_i : IntKind.i64.wrap ((i : Int) + 1) = (i : Int) + 1 := wr64 (by omega) (by omega)
        have cN : i < l.length := by omega
        have hpl := partsM_len l (i := i) (by omega)
        have hr : (ints (partsM l i))[i]? = some [.i .i64 ((partsM l i).getD i 0)] := ints_at (by omega)
        have hsucc := partsM_succ l i
        have hsd : startP l (partsM l i) i = startP l (partsM l i) i := rfl
        conv at hsd => rhs; unfold startP
        generalize partsM l i = out at hpl hr hsucc hsd hH5
        have hil := ints_len out
        generalize hx : out.getD i 0 = x at hr hsd
        by_cases c1 : x ≥ 0
        · rw [if_pos c1] at hsd
          repeat first | refine OP ?_ | refine SK ?_ | refine OPN ?_ | refine OM ?_ | refine SM ?_ | refine OMN ?_ | refine WM.nil ?_ | refine OQ ?_ | refine SQ ?_ | refine TH ?_ | refine WR.nil ?_ | refine WQ.nil ?_ | refine W.seq ?_ | refine W.region ?_ | refine DR ?_ | refine IFT ?_ | refine IFF ?_ | refine W.skip ?_ | refine W.block ?_ | refine W.exit ?_ | refine W.ret ?_ | (simp only [tN, tR, tE, rN, rR, rE, xN, xR, xE, reduceIte]) | refine DN ?_
          refine ⟨l.length - (i + 1), by omega, i + 1, by omega, ?_⟩
          simp [setF_if, upd_if, *]
        · rw [if_neg c1] at hsd
          have hset : (ints out).set i [PV.i .i64 i] = ints (out.set i (i : Int)) := by rw [ints_set]
          have hok0 : okP l (out.set i (i : Int), [(i : Int)]) := ⟨by simp [hpl], fun k hk => by simp only [List.mem_singleton] at hk; subst hk; omega⟩
          have hlt : i < (ints out).length := by omega
          replace hsd := Hid.mk hsd
          replace hok0 := Hid.mk hok0
          repeat first | refine OP ?_ | refine SK ?_ | refine OPN ?_ | refine OM ?_ | refine SM ?_ | refine OMN ?_ | refine WM.nil ?_ | refine OQ ?_ | refine SQ ?_ | refine TH ?_ | refine WR.nil ?_ | refine WQ.nil ?_ | refine W.seq ?_ | refine W.region ?_ | refine DR ?_ | refine IFT ?_ | refine IFF ?_ | refine W.skip ?_ | refine W.block ?_ | refine W.exit ?_ | refine W.ret ?_ | (simp only [tN, tR, tE, rN, rR, rE, xN, xR, xE, reduceIte]) | refine DN ?_
          refine .loop (.inv (fun d E H n' => ∃ (q e2 : Nat) (o2 dn rest : List Int), d = openN o2 + rest.length ∧ d + dn.length ≤ l.length + 1 ∧ okP l (o2, rest) ∧ runP l i d o2 rest = startP l out i ∧ 5 < q ∧ q < n' ∧ E 0 = .sl 0 (cells l) ∧ E 1 = .fn 180 [] ∧ E 5 = .own 1 0 ∧ E 6 = .own 5 0 ∧ E 9 = .i .i64 i ∧ E 10 = .own q e2 ∧ E 11 = .i .i64 dn.length ∧ E 35 = .i .i64 l.length ∧ E 36 = .i .i64 i ∧ H 1 = some (.mp F) ∧ H 5 = some (.arr 0 2 1 (ints o2) 1) ∧ H q = some (.arr e2 3 1 (ints (dn ++ rest)) 1)) (openN (out.set i (i : Int)) + 1) ?_ ?_)
          · refine ⟨n' + 14, 0, out.set i (i : Int), [], [(i : Int)], by simp, by have := openN_le (out.set i (i : Int)); simp at this; simp; omega, hok0.out, hsd.out.symm, by omega, by omega, by simp [setF_if, *], by simp [setF_if, *], by simp [setF_if, *], by simp [setF_if, *], by simp [setF_if, *], by simp [setF_if, *], by simp [setF_if, *], by simp [setF_if, *], by simp [setF_if, *], by simp [upd_if, *], by simp [upd_if, *], by simp [upd_if, ints]⟩
          clear h0 h1 h5 h6 h35 h36 hH1 hH5 hn4 hn1
          rintro d E H n' ⟨q, e2, o2, dn, rest, hd, hdl, hok, hrun, hq4, hqn, h0, h1, h5, h6, h9, h10, h11, h35, h36, hH1, hH5, hHq⟩
          have hn4 : 5 < n' := by omega
          have hn1 : 1 < n' := by omega
          have q4 : (q = 5) = False := by simp; omega
          have q4' : (5 = q) = False := by simp; omega
          have q1 : (q = 1) = False := by simp; omega
          have q1' : (1 = q) = False := by simp; omega
          have hol := ints_len o2
          have hol2 : o2.length = l.length := hok.1
          have hdr := ints_len (dn ++ rest)
          have hdr2 : (dn ++ rest).length = dn.length + rest.length := List.length_append
          by_cases cr : rest.length = 0
          · have hr0 : rest = [] := List.length_eq_zero_iff.mp cr
            rw [hr0, runP_nil] at hrun
            replace hok := Hid.mk hok
            clear hr0
            repeat first | refine OP ?_ | refine SK ?_ | refine OPN ?_ | refine OM ?_ | refine SM ?_ | refine OMN ?_ | refine WM.nil ?_ | refine OQ ?_ | refine SQ ?_ | refine TH ?_ | refine WR.nil ?_ | refine WQ.nil ?_ | refine W.seq ?_ | refine W.region ?_ | refine DR ?_ | refine IFT ?_ | refine IFF ?_ | refine W.skip ?_ | refine W.block ?_ | refine W.exit ?_ | refine W.ret ?_ | (simp only [tN, tR, tE, rN, rR, rE, xN, xR, xE, reduceIte]) | refine DN ?_
            refine ⟨l.length - (i + 1), by omega, i + 1, by omega, ?_⟩
            simp [setF_if, upd_if, *]
          · obtain ⟨c, rest, rfl⟩ : ∃ c r, rest = c :: r := by
              cases rest with
              | nil => simp at cr
              | cons c r => exact ⟨c, r, rfl⟩
            obtain ⟨hc0, hcl⟩ := hok.2 c List.mem_cons_self
            have hcN : c.toNat < l.length := by omega
            have hrc := cells_at (l := l) (i := c.toNat) hcN
            have hlt2 : ((dn.length : Int) < ((dn.length + (rest.length + 1) : Nat) : Int)) = True := by simp; omega
            have hr3 : (ints (dn ++ c :: rest))[dn.length]? = some [.i .i64 c] := by simp [ints]
            have hlt4 : (dn.length < dn.length + (rest.length + 1)) = True := by simp
            have hlt3 : dn.length < (ints (dn ++ c :: rest)).length := by rw [hdr, hdr2]; simp
            have hrunS : runP l i d o2 (c :: rest) = runP l i (d - 1) (lookAll l i (o2, rest) (l.getD c.toNat (0, 0))).1 (lookAll l i (o2, rest) (l.getD c.toNat (0, 0))).2 := by
              obtain ⟨d', rfl⟩ : ∃ d', d = d' + 1 := ⟨d - 1, by simp only [List.length_cons] at hd; omega⟩
              rfl
            have hokr : okP l (o2, rest) := ⟨hok.1, fun k hk => hok.2 k (List.mem_cons_of_mem _ hk)⟩
            have hf := foldP_ok (l := l) (i := (i : Int)) (by omega) (cs := aroundM (l.getD c.toNat (0, 0))) hokr
            have hdN : openN o2 + rest.length + 1 = d := by simp only [List.length_cons] at hd; omega
            have hwp : wf64 (l.getD c.toNat (0, 0)).1 ∧ wf64 (l.getD c.toNat (0, 0)).2 := hwf.out _ (by rw [List.getD_eq_getElem?_getD, List.getElem?_eq_getElem hcN]; exact List.getElem_mem _)
            clear hd hok hcl cr
            generalize hp : l.getD c.toNat (0, 0) = p at *
            have hwa : ∀ z ∈ aroundM p, wf64 z.1 ∧ wf64 z.2 := by
              intro z hz
              simp only [aroundM, List.mem_cons, List.not_mem_nil, or_false] at hz
              rcases hz with rfl | rfl | rfl | rfl
              · exact ⟨hwp.1, wf_wrap _⟩
              · exact ⟨wf_wrap _, hwp.2⟩
              · exact ⟨wf_wrap _, hwp.2⟩
              · exact ⟨hwp.1, wf_wrap _⟩
            replace hwa := Hid.mk hwa
            replace hf := Hid.mk hf
            replace hok := Hid.mk hokr
            replace hrunS := Hid.mk hrunS
            replace hrun := Hid.mk hrun
            clear hokr hp hx hwp
            have hal := around4 p
            have hal2 : (cells (aroundM p)).length = 4 := by rw [cells_len]; rfl
            have hw_dn_length : IntKind.i64.wrap ((dn.length : Int) + 1) = (dn.length : Int) + 1 := wr64 (by omega) (by omega)
            repeat first | refine OP ?_ | refine SK ?_ | refine OPN ?_ | refine OM ?_ | refine SM ?_ | refine OMN ?_ | refine WM.nil ?_ | refine OQ ?_ | refine SQ ?_ | refine TH ?_ | refine WR.nil ?_ | refine WQ.nil ?_ | refine W.seq ?_ | refine W.region ?_ | refine DR ?_ | refine IFT ?_ | refine IFF ?_ | refine W.skip ?_ | refine W.block ?_ | refine W.exit ?_ | refine W.ret ?_ | (simp only [tN, tR, tE, rN, rR, rE, xN, xR, xE, reduceIte]) | refine DN ?_
            refine CV (around_fn G _ _) ?_
            rw [aroundM_cells]
            repeat first | refine OP ?_ | refine SK ?_ | refine OPN ?_ | refine OM ?_ | refine SM ?_ | refine OMN ?_ | refine WM.nil ?_ | refine OQ ?_ | refine SQ ?_ | refine TH ?_ | refine WR.nil ?_ | refine WQ.nil ?_ | refine W.seq ?_ | refine W.region ?_ | refine DR ?_ | refine IFT ?_ | refine IFF ?_ | refine W.skip ?_ | refine W.block ?_ | refine W.exit ?_ | refine W.ret ?_ | (simp only [tN, tR, tE, rN, rR, rE, xN, xR, xE, reduceIte]) | refine DN ?_
            refine .loop (.inv (fun d2 E H n' => ∃ (k e3 : Nat) (s : List Int × List Int), k + d2 = 4 ∧ s = ((aroundM p).take k).foldl (lookP l i) (o2, rest) ∧ q < n' ∧ E 0 = .sl 0 (cells l) ∧ E 1 = .fn 180 [] ∧ E 5 = .own 1 0 ∧ E 6 = .own 5 0 ∧ E 9 = .i .i64 i ∧ E 10 = .own q e3 ∧ E 11 = .i .i64 dn.length ∧ E 35 = .i .i64 l.length ∧ E 36 = .i .i64 i ∧ E 64 = .sl 1 (cells (aroundM p)) ∧ E 65 = .i .i64 4 ∧ E 66 = .i .i64 k ∧ H 1 = some (.mp F) ∧ H 5 = some (.arr 0 2 1 (ints s.1) 1) ∧ H q = some (.arr e3 3 1 (ints (dn ++ c :: s.2)) 1)) 4 ?_ ?_)
            · exact ⟨0, e2, (o2, rest), by omega, rfl, by omega, by simp [setF_if, *], by simp [setF_if, *], by simp [setF_if, *], by simp [setF_if, *], by simp [setF_if, *], by simp [setF_if, *], by simp [setF_if, *], by simp [setF_if, *], by simp [setF_if, *], by simp [setF_if, *], by simp [setF_if, *], by simp [setF_if, *], by simp [upd_if, *], by simp [upd_if, *], by simp [upd_if, *]⟩
            clear h0 h1 h5 h6 h9 h10 h11 h35 h36 hH1 hH5 hHq hr3 hlt3 hdr hdr2 hlt4 hlt2
            rintro d2 E H n' ⟨k, e3, s, hk, hs, hqn2, h0, h1, h5, h6, h9, h10, h11, h35, h36, h64, h65, h66, hH1, hH5, hHq⟩
            have hn5 : 5 < n' := by omega
            have hn1 : 1 < n' := by omega
            by_cases ck : (k : Int) < 4
            · have hw_k : IntKind.i64.wrap ((k : Int) + 1) = (k : Int) + 1 := wr64 (by omega) (by omega)
              have hfk := foldP_take (l := l) (i := (i : Int)) (s := (o2, rest)) (cs := aroundM p) (k := k) (by rw [hal]; omega)
              rw [← hs] at hfk
              have hra := cells_at (l := aroundM p) (i := k) (by rw [hal]; omega)
              have hwk : wf64 ((aroundM p).getD k (0, 0)).1 ∧ wf64 ((aroundM p).getD k (0, 0)).2 := hwa.out _ (by rw [List.getD_eq_getElem?_getD, List.getElem?_eq_getElem (by rw [hal]; omega)]; exact List.getElem_mem _)
              generalize (aroundM p).getD k (0, 0) = pc at hra hfk hwk
              obtain ⟨hw1, hw2⟩ := hwk
              have hsok := foldP_ok (l := l) (i := (i : Int)) (by omega) (cs := (aroundM p).take k) hok.out
              rw [← hs] at hsok
              have hsl1 := hsok.1.1
              have hsum := hsok.2
              have hol3 := ints_len s.1
              have hoo := openN_le o2
              simp only at hsum
              have z1 : (n' = 2) = False := by simp; omega
              have z2 : (q = n' + 3) = False := by simp; omega
              have hll : (ints (dn ++ c :: s.2)).length = dn.length + (s.2.length + 1) := by simp [ints]
              have hbd : (dn.length + (s.2.length + 1) + 1) * 8 ≤ 140737488355328 := by omega
              have happ : ints (dn ++ c :: s.2) ++ [[.i .i64 (idxM l pc)]] = ints (dn ++ c :: (s.2 ++ [idxM l pc])) := by simp [ints]
              clear hsok hs hsum hoo hok hf hrun hrunS hwa
              have ha : lookP l (i : Int) s pc = if 0 ≤ idxM l pc ∧ s.1.getD (idxM l pc).toNat 0 < 0 then (s.1.set (idxM l pc).toNat (i : Int), s.2 ++ [idxM l pc]) else s := rfl
              replace ha := Hid.mk ha
              replace hfk := Hid.mk hfk
              have hF := hfF.out pc
              repeat first | refine OP ?_ | refine SK ?_ | refine OPN ?_ | refine OM ?_ | refine SM ?_ | refine OMN ?_ | refine WM.nil ?_ | refine OQ ?_ | refine SQ ?_ | refine TH ?_ | refine WR.nil ?_ | refine WQ.nil ?_ | refine W.seq ?_ | refine W.region ?_ | refine DR ?_ | refine IFT ?_ | refine IFF ?_ | refine W.skip ?_ | refine W.block ?_ | refine W.exit ?_ | refine W.ret ?_ | (simp only [tN, tR, tE, rN, rR, rE, xN, xR, xE, reduceIte]) | refine DN ?_
              refine MG cellMap hw1 hw2 ?_
              have hil3 : 0 ≤ idxM l pc → (idxM l pc).toNat < l.length := fun h => (idxM_lt h).1
              generalize idxM l pc = ix at ha hil3 hF happ
              by_cases ci : ix ≥ 0
              · rw [if_pos ci] at hF
                have hilt := hil3 ci
                have hri : (ints s.1)[ix.toNat]? = some [.i .i64 (s.1.getD ix.toNat 0)] := ints_at (by omega)
                have hset2 : (ints s.1).set ix.toNat [PV.i .i64 i] = ints (s.1.set ix.toNat (i : Int)) := by rw [ints_set]
                generalize hyv : s.1.getD ix.toNat 0 = y at hri ha
                clear hil3 hyv
                simp only [hF, Option.getD_some, Option.isSome_some]
                by_cases cy : y < 0
                · repeat first | refine OP ?_ | refine SK ?_ | refine OPN ?_ | refine OM ?_ | refine SM ?_ | refine OMN ?_ | refine WM.nil ?_ | refine OQ ?_ | refine SQ ?_ | refine TH ?_ | refine WR.nil ?_ | refine WQ.nil ?_ | refine W.seq ?_ | refine W.region ?_ | refine DR ?_ | refine IFT ?_ | refine IFF ?_ | refine W.skip ?_ | refine W.block ?_ | refine W.exit ?_ | refine W.ret ?_ | (simp only [tN, tR, tE, rN, rR, rE, xN, xR, xE, reduceIte]) | refine DN ?_
                  refine ⟨4 - (k + 1), by omega, k + 1, e3 + 1, (s.1.set ix.toNat (i : Int), s.2 ++ [ix]), by omega, by rw [hfk.out, ha.out, if_pos ⟨ci, cy⟩], by omega, by simp [setF_if, *], by simp [setF_if, *], by simp [setF_if, *], by simp [setF_if, *], by simp [setF_if, *], by simp [setF_if, *], by simp [setF_if, *], by simp [setF_if, *], by simp [setF_if, *], by simp [setF_if, *], by simp [setF_if, *], by simp [setF_if, *], by simp [upd_if, *], by simp [upd_if, *], by simp [upd_if, *]⟩
                · repeat first | refine OP ?_ | refine SK ?_ | refine OPN ?_ | refine OM ?_ | refine SM ?_ | refine OMN ?_ | refine WM.nil ?_ | refine OQ ?_ | refine SQ ?_ | refine TH ?_ | refine WR.nil ?_ | refine WQ.nil ?_ | refine W.seq ?_ | refine W.region ?_ | refine DR ?_ | refine IFT ?_ | refine IFF ?_ | refine W.skip ?_ | refine W.block ?_ | refine W.exit ?_ | refine W.ret ?_ | (simp only [tN, tR, tE, rN, rR, rE, xN, xR, xE, reduceIte]) | refine DN ?_
                  refine ⟨4 - (k + 1), by omega, k + 1, e3, s, by omega, by rw [hfk.out, ha.out, if_neg (fun h => cy h.2)], by omega, by simp [setF_if, *], by simp [setF_if, *], by simp [setF_if, *], by simp [setF_if, *], by simp [setF_if, *], by simp [setF_if, *], by simp [setF_if, *], by simp [setF_if, *], by simp [setF_if, *], by simp [setF_if, *], by simp [setF_if, *], by simp [setF_if, *], by simp [upd_if, *], by simp [upd_if, *], by simp [upd_if, *]⟩
              · rw [if_neg ci] at hF
                simp only [hF, Option.getD_none, Option.isSome_none]
                repeat first | refine OP ?_ | refine SK ?_ | refine OPN ?_ | refine OM ?_ | refine SM ?_ | refine OMN ?_ | refine WM.nil ?_ | refine OQ ?_ | refine SQ ?_ | refine TH ?_ | refine WR.nil ?_ | refine WQ.nil ?_ | refine W.seq ?_ | refine W.region ?_ | refine DR ?_ | refine IFT ?_ | refine IFF ?_ | refine W.skip ?_ | refine W.block ?_ | refine W.exit ?_ | refine W.ret ?_ | (simp only [tN, tR, tE, rN, rR, rE, xN, xR, xE, reduceIte]) | refine DN ?_
                refine ⟨4 - (k + 1), by omega, k + 1, e3, s, by omega, by rw [hfk.out, ha.out, if_neg (fun h => ci h.1)], by omega, by simp [setF_if, *], by simp [setF_if, *], by simp [setF_if, *], by simp [setF_if, *], by simp [setF_if, *], by simp [setF_if, *], by simp [setF_if, *], by simp [setF_if, *], by simp [setF_if, *], by simp [setF_if, *], by simp [setF_if, *], by simp [setF_if, *], by simp [upd_if, *], by simp [upd_if, *], by simp [upd_if, *]⟩
            · have ek : k = 4 := by omega
              subst ek
              have hs4 : s = lookAll l i (o2, rest) p := by rw [hs, show (4 : Nat) = (aroundM p).length from rfl, List.take_length]; rfl
              clear hs
              repeat first | refine OP ?_ | refine SK ?_ | refine OPN ?_ | refine OM ?_ | refine SM ?_ | refine OMN ?_ | refine WM.nil ?_ | refine OQ ?_ | refine SQ ?_ | refine TH ?_ | refine WR.nil ?_ | refine WQ.nil ?_ | refine W.seq ?_ | refine W.region ?_ | refine DR ?_ | refine IFT ?_ | refine IFF ?_ | refine W.skip ?_ | refine W.block ?_ | refine W.exit ?_ | refine W.ret ?_ | (simp only [tN, tR, tE, rN, rR, rE, xN, xR, xE, reduceIte]) | refine DN ?_
              have hf4 : okP l s ∧ openN s.1 + s.2.length = openN o2 + rest.length := by rw [hs4]; exact hf.out
              refine ⟨d - 1, by omega, q, e3, s.1, dn ++ [c], s.2, by omega, by simp only [List.length_append, List.length_singleton]; omega, hf4.1, by rw [← hrun.out, hrunS.out, ← hs4], by omega, by omega, by simp [setF_if, *], by simp [setF_if, *], by simp [setF_if, *], by simp [setF_if, *], by simp [setF_if, *], by simp [setF_if, *], by simp [setF_if, *], by simp [setF_if, *], by simp [setF_if, *], by simp [upd_if, *], by simp [upd_if, *], by simp [upd_if, *]⟩
      · have e' : i = l.length := by omega
        subst e'
        repeat first | refine OP ?_ | refine SK ?_ | refine OPN ?_ | refine OM ?_ | refine SM ?_ | refine OMN ?_ | refine WM.nil ?_ | refine OQ ?_ | refine SQ ?_ | refine TH ?_ | refine WR.nil ?_ | refine WQ.nil ?_ | refine W.seq ?_ | refine W.region ?_ | refine DR ?_ | refine IFT ?_ | refine IFF ?_ | refine W.skip ?_ | refine W.block ?_ | refine W.exit ?_ | refine W.ret ?_ | (simp only [tN, tR, tE, rN, rR, rE, xN, xR, xE, reduceIte]) | refine DN ?_
        simp [retA, backA, newSl, newB, hH5]
end Go.Proofs
end
section
open Go Go.Big
namespace Go.Proofs
set_option maxHeartbeats 2000000
def maxLF (l : List Int) (i : Nat) : Int := (l.take i).foldl maxI (l.getD 0 0)
theorem maxLF_succ {l : List Int} {i : Nat} (h : i < l.length) : maxLF l (i + 1) = maxI (maxLF l i) (l.getD i 0) := by
  unfold maxLF
  rw [List.take_succ_eq_append_getElem h, List.foldl_append]
  simp only [List.foldl_cons, List.foldl_nil, List.getD_eq_getElem?_getD, List.getElem?_eq_getElem h, Option.getD_some]
theorem maxLF_one {l : List Int} (h : 0 < l.length) : maxLF l 1 = l.getD 0 0 := by
  rw [maxLF_succ h]; simp [maxLF, maxI]
theorem max_fn (G : Gv) (l : List Int) (h1 : 0 < l.length) (hl : l.length < 1000000000) : Gives Tryz.prog G 209 [.sl 0 (ints l)] (.i .i64 (maxLF l l.length)) := by
  refine .of (.body Tryz.func209 rfl (by simp [Tryz.ntmps209]) ?_)
  rw [Tryz.ntmps209, Tryz.results209]
  have hlen := ints_len l
  have hr0 := ints_at (l := l) (i := 0) h1
  have hlt : ((l.length : Int) < 1) = False := by simp; omega
  repeat first | refine OP ?_ | refine SK ?_ | refine OPN ?_ | refine OM ?_ | refine SM ?_ | refine OMN ?_ | refine WM.nil ?_ | refine OQ ?_ | refine SQ ?_ | refine TH ?_ | refine WR.nil ?_ | refine WQ.nil ?_ | refine W.seq ?_ | refine W.region ?_ | refine DR ?_ | refine IFT ?_ | refine IFF ?_ | refine W.skip ?_ | refine W.block ?_ | refine W.exit ?_ | refine W.ret ?_ | (simp only [tN, tR, tE, rN, rR, rE, xN, xR, xE, reduceIte]) | refine DN ?_
  refine .loop (.inv (fun d E H n' => ∃ i : Nat, i + d = l.length ∧ 0 < i ∧ E 0 = .sl 0 (ints l) ∧ E 3 = .i .i64 (maxLF l i) ∧ E 4 = .i .i64 i) (l.length - 1) ?_ ?_)
  · exact ⟨1, by omega, by omega, by simp [setF_if, argE], by simp [setF_if, argE, maxLF_one h1], by simp [setF_if, argE]⟩
  rintro d E H n' ⟨i, hi, hi0, h0, h3, h4⟩
  by_cases c : (i : Int) < l.length
  · have hr := ints_at (l := l) (i := i) (by omega)
    have hw_i : IntKind.i64.wrap ((i : Int) + 1) = (i : Int) + 1 := wr64 (by omega) (by omega)
    have hs := maxLF_succ (l := l) (i := i) (by omega)
    repeat first | refine OP ?_ | refine SK ?_ | refine OPN ?_ | refine OM ?_ | refine SM ?_ | refine OMN ?_ | refine WM.nil ?_ | refine OQ ?_ | refine SQ ?_ | refine TH ?_ | refine WR.nil ?_ | refine WQ.nil ?_ | refine W.seq ?_ | refine W.region ?_ | refine DR ?_ | refine IFT ?_ | refine IFF ?_ | refine W.skip ?_ | refine W.block ?_ | refine W.exit ?_ | refine W.ret ?_ | (simp only [tN, tR, tE, rN, rR, rE, xN, xR, xE, reduceIte]) | refine DN ?_
    refine ⟨l.length - (i + 1), by omega, i + 1, by omega, ?_⟩
    simp [setF_if, *, maxI]
  · have e : i = l.length := by omega
    subst e
    repeat first | refine OP ?_ | refine SK ?_ | refine OPN ?_ | refine OM ?_ | refine SM ?_ | refine OMN ?_ | refine WM.nil ?_ | refine OQ ?_ | refine SQ ?_ | refine TH ?_ | refine WR.nil ?_ | refine WQ.nil ?_ | refine W.seq ?_ | refine W.region ?_ | refine DR ?_ | refine IFT ?_ | refine IFF ?_ | refine W.skip ?_ | refine W.block ?_ | refine W.exit ?_ | refine W.ret ?_ | (simp only [tN, tR, tE, rN, rR, rE, xN, xR, xE, reduceIte]) | refine DN ?_
    simp [retA, backA]
def connM (l : List (Int × Int)) : Bool := maxLF (partsM l l.length) l.length == 0
theorem connected_fn (G : Gv) (l : List (Int × Int)) (h1 : 0 < l.length) (hl : l.length < 1000000000) (hnd : l.Nodup) (hwf : ∀ p ∈ l, wf64 p.1 ∧ wf64 p.2) : Gives Tryz.prog G 179 [.sl 0 (cells l), .fn 180 []] (.b (connM l)) := by
  refine .of (.body Tryz.func179 rfl (by simp [Tryz.ntmps179]) ?_)
  rw [Tryz.ntmps179, Tryz.results179]
  have hp := partsM_len l (i := l.length) (Nat.le_refl _)
  repeat first | refine OP ?_ | refine SK ?_ | refine OPN ?_ | refine OM ?_ | refine SM ?_ | refine OMN ?_ | refine WM.nil ?_ | refine OQ ?_ | refine SQ ?_ | refine TH ?_ | refine WR.nil ?_ | refine WQ.nil ?_ | refine W.seq ?_ | refine W.region ?_ | refine DR ?_ | refine IFT ?_ | refine IFF ?_ | refine W.skip ?_ | refine W.block ?_ | refine W.exit ?_ | refine W.ret ?_ | (simp only [tN, tR, tE, rN, rR, rE, xN, xR, xE, reduceIte]) | refine DN ?_
  refine CV (parts_fn G l hl hnd hwf) ?_
  clear hwf hnd
  refine CV (max_fn G _ (by rw [hp]; exact h1) (by rw [hp]; exact hl)) ?_
  repeat first | refine OP ?_ | refine SK ?_ | refine OPN ?_ | refine OM ?_ | refine SM ?_ | refine OMN ?_ | refine WM.nil ?_ | refine OQ ?_ | refine SQ ?_ | refine TH ?_ | refine WR.nil ?_ | refine WQ.nil ?_ | refine W.seq ?_ | refine W.region ?_ | refine DR ?_ | refine IFT ?_ | refine IFF ?_ | refine W.skip ?_ | refine W.block ?_ | refine W.exit ?_ | refine W.ret ?_ | (simp only [tN, tR, tE, rN, rR, rE, xN, xR, xE, reduceIte]) | refine DN ?_
  simp [retA, backA, connM, hp]
def connS (l : List (Int × Int)) : Bool := zerosM (partsM l l.length)
theorem specIsConnected_fn (G : Gv) (l : List (Int × Int)) (hl : l.length < 1000000000) : Gives Tryz.prog G 173 [.sl 0 (cells l)] (.b (shapeM l && connS l)) := by
  refine .of (.body Tryz.func173 rfl (by simp [Tryz.ntmps173]) ?_)
  rw [Tryz.ntmps173, Tryz.results173]
  have hp := partsM_len l (i := l.length) (Nat.le_refl _)
  repeat first | refine OP ?_ | refine SK ?_ | refine OPN ?_ | refine OM ?_ | refine SM ?_ | refine OMN ?_ | refine WM.nil ?_ | refine OQ ?_ | refine SQ ?_ | refine TH ?_ | refine WR.nil ?_ | refine WQ.nil ?_ | refine W.seq ?_ | refine W.region ?_ | refine DR ?_ | refine IFT ?_ | refine IFF ?_ | refine W.skip ?_ | refine W.block ?_ | refine W.exit ?_ | refine W.ret ?_ | (simp only [tN, tR, tE, rN, rR, rE, xN, xR, xE, reduceIte]) | refine DN ?_
  refine CV (specIsShape_fn G l hl) ?_
  by_cases c : shapeM l = true
  · repeat first | refine OP ?_ | refine SK ?_ | refine OPN ?_ | refine OM ?_ | refine SM ?_ | refine OMN ?_ | refine WM.nil ?_ | refine OQ ?_ | refine SQ ?_ | refine TH ?_ | refine WR.nil ?_ | refine WQ.nil ?_ | refine W.seq ?_ | refine W.region ?_ | refine DR ?_ | refine IFT ?_ | refine IFF ?_ | refine W.skip ?_ | refine W.block ?_ | refine W.exit ?_ | refine W.ret ?_ | (simp only [tN, tR, tE, rN, rR, rE, xN, xR, xE, reduceIte]) | refine DN ?_
    refine CV (l02Parts_fn G l hl) ?_
    refine CV (l02One_fn G _ (by rw [hp]; exact hl)) ?_
    repeat first | refine OP ?_ | refine SK ?_ | refine OPN ?_ | refine OM ?_ | refine SM ?_ | refine OMN ?_ | refine WM.nil ?_ | refine OQ ?_ | refine SQ ?_ | refine TH ?_ | refine WR.nil ?_ | refine WQ.nil ?_ | refine W.seq ?_ | refine W.region ?_ | refine DR ?_ | refine IFT ?_ | refine IFF ?_ | refine W.skip ?_ | refine W.block ?_ | refine W.exit ?_ | refine W.ret ?_ | (simp only [tN, tR, tE, rN, rR, rE, xN, xR, xE, reduceIte]) | refine DN ?_
    simp [retA, backA, connS, c]
  · repeat first | refine OP ?_ | refine SK ?_ | refine OPN ?_ | refine OM ?_ | refine SM ?_ | refine OMN ?_ | refine WM.nil ?_ | refine OQ ?_ | refine SQ ?_ | refine TH ?_ | refine WR.nil ?_ | refine WQ.nil ?_ | refine W.seq ?_ | refine W.region ?_ | refine DR ?_ | refine IFT ?_ | refine IFF ?_ | refine W.skip ?_ | refine W.block ?_ | refine W.exit ?_ | refine W.ret ?_ | (simp only [tN, tR, tE, rN, rR, rE, xN, xR, xE, reduceIte]) | refine DN ?_
    simp [retA, backA, c]
def pieceM (p : PieceM) : Bool := regionM p.cs && connM p.cs && (decide (p.k ≥ 1) && decide (p.k ≤ 8))
def pieceS (p : PieceM) : Bool := regionS p.cs && (shapeM p.cs && connS p.cs) && (decide (p.k ≥ 1) && decide (p.k ≤ 8))
theorem lessC_trans {a b c : Int × Int} (h1 : lessC a.1 a.2 b.1 b.2 = true) (h2 : lessC b.1 b.2 c.1 c.2 = true) : lessC a.1 a.2 c.1 c.2 = true := by
  simp only [lessC, Bool.or_eq_true, Bool.and_eq_true, decide_eq_true_eq, beq_iff_eq] at *; omega
theorem lessC_irrefl (a : Int × Int) : lessC a.1 a.2 a.1 a.2 = false := by simp [lessC]
theorem shapeM_spec {l : List (Int × Int)} (h : shapeM l = true) : l.Pairwise (fun a b => lessC a.1 a.2 b.1 b.2 = true) ∧ (∀ p ∈ l, inC p.1 = true ∧ inC p.2 = true) ∧ 1 ≤ l.length ∧ l.length ≤ 40 := by
  unfold shapeM at h
  simp only [Bool.and_eq_true, List.all_eq_true, List.mem_range, decide_eq_true_eq] at h
  obtain ⟨h1, h2, h3⟩ := h
  have hat : ∀ i, (hi : i < l.length) → (inC l[i].1 = true ∧ inC l[i].2 = true) ∧ (∀ j, (hj : j + 1 = i) → lessC (l[j]'(by omega)).1 (l[j]'(by omega)).2 l[i].1 l[i].2 = true) := by
    intro i hi
    have := h1 i hi
    unfold shapeAt at this
    simp only [List.getD_eq_getElem?_getD, List.getElem?_eq_getElem hi, Option.getD_some, Bool.and_eq_true, Bool.not_eq_true', Bool.and_eq_false_iff, decide_eq_false_iff_not, Bool.not_eq_false'] at this
    refine ⟨this.1, fun j hj => ?_⟩
    subst hj
    rcases this.2 with h | h
    · omega
    · simpa [List.getElem?_eq_getElem (show j < l.length by omega)] using h
  refine ⟨?_, ?_, by omega, by omega⟩
  · rw [List.pairwise_iff_getElem]
    intro i j hi hj hij
    obtain ⟨d, rfl⟩ : ∃ d, j = i + 1 + d := ⟨j - (i + 1), by omega⟩
    clear hij
    induction d with
    | zero => exact (hat _ hj).2 i rfl
    | succ d ih => exact lessC_trans (ih (by omega)) ((hat _ hj).2 (i + 1 + d) rfl)
  · intro p hp
    obtain ⟨i, hi, rfl⟩ := List.getElem_of_mem hp
    exact (hat i hi).1
theorem shapeM_nodup {l : List (Int × Int)} (h : shapeM l = true) : l.Nodup :=
  (shapeM_spec h).1.imp fun {a b} hab e => by subst e; rw [lessC_irrefl] at hab; simp at hab
theorem inC_wf {n : Int} (h : inC n = true) : wf64 n := by
  simp only [inC, Bool.and_eq_true, decide_eq_true_eq] at h
  simp only [wf64, Lit.wf, IntKind.min, IntKind.max, IntKind.bits, IntKind.signed, Bool.and_eq_true, decide_eq_true_eq]
  simp; omega
theorem regionM_shape {l : List (Int × Int)} (h : regionM l = true) : shapeM l = true := by
  unfold regionM at h; simp only [Bool.and_eq_true] at h; exact h.1.1
theorem implIsPiece_fn (G : Gv) (p : PieceM) (hl : p.cs.length < 1000000000) : Gives Tryz.prog G 133 [pieceA 0 p] (.b (pieceM p)) := by
  refine .of (.body Tryz.func133 rfl (by simp [Tryz.ntmps133]) ?_)
  rw [Tryz.ntmps133, Tryz.results133]
  repeat first | refine OP ?_ | refine SK ?_ | refine OPN ?_ | refine OM ?_ | refine SM ?_ | refine OMN ?_ | refine WM.nil ?_ | refine OQ ?_ | refine SQ ?_ | refine TH ?_ | refine WR.nil ?_ | refine WQ.nil ?_ | refine W.seq ?_ | refine W.region ?_ | refine DR ?_ | refine IFT ?_ | refine IFF ?_ | refine W.skip ?_ | refine W.block ?_ | refine W.exit ?_ | refine W.ret ?_ | (simp only [tN, tR, tE, rN, rR, rE, xN, xR, xE, reduceIte]) | refine DN ?_
  refine CV (implIsRegion_fn G _ hl) ?_
  by_cases c : regionM p.cs = true
  · have hs := regionM_shape c
    have hsp := shapeM_spec hs
    repeat first | refine OP ?_ | refine SK ?_ | refine OPN ?_ | refine OM ?_ | refine SM ?_ | refine OMN ?_ | refine WM.nil ?_ | refine OQ ?_ | refine SQ ?_ | refine TH ?_ | refine WR.nil ?_ | refine WQ.nil ?_ | refine W.seq ?_ | refine W.region ?_ | refine DR ?_ | refine IFT ?_ | refine IFF ?_ | refine W.skip ?_ | refine W.block ?_ | refine W.exit ?_ | refine W.ret ?_ | (simp only [tN, tR, tE, rN, rR, rE, xN, xR, xE, reduceIte]) | refine DN ?_
    refine CV (connected_fn G _ (by omega) hl (shapeM_nodup hs) (fun q hq => ⟨inC_wf (hsp.2.1 q hq).1, inC_wf (hsp.2.1 q hq).2⟩)) ?_
    clear hsp
    by_cases c2 : connM p.cs = true
    · repeat first | refine OP ?_ | refine SK ?_ | refine OPN ?_ | refine OM ?_ | refine SM ?_ | refine OMN ?_ | refine WM.nil ?_ | refine OQ ?_ | refine SQ ?_ | refine TH ?_ | refine WR.nil ?_ | refine WQ.nil ?_ | refine W.seq ?_ | refine W.region ?_ | refine DR ?_ | refine IFT ?_ | refine IFF ?_ | refine W.skip ?_ | refine W.block ?_ | refine W.exit ?_ | refine W.ret ?_ | (simp only [tN, tR, tE, rN, rR, rE, xN, xR, xE, reduceIte]) | refine DN ?_
      refine CV (within_fn G _ _ _) ?_
      repeat first | refine OP ?_ | refine SK ?_ | refine OPN ?_ | refine OM ?_ | refine SM ?_ | refine OMN ?_ | refine WM.nil ?_ | refine OQ ?_ | refine SQ ?_ | refine TH ?_ | refine WR.nil ?_ | refine WQ.nil ?_ | refine W.seq ?_ | refine W.region ?_ | refine DR ?_ | refine IFT ?_ | refine IFF ?_ | refine W.skip ?_ | refine W.block ?_ | refine W.exit ?_ | refine W.ret ?_ | (simp only [tN, tR, tE, rN, rR, rE, xN, xR, xE, reduceIte]) | refine DN ?_
      simp [retA, backA, pieceM, c, c2]
    · repeat first | refine OP ?_ | refine SK ?_ | refine OPN ?_ | refine OM ?_ | refine SM ?_ | refine OMN ?_ | refine WM.nil ?_ | refine OQ ?_ | refine SQ ?_ | refine TH ?_ | refine WR.nil ?_ | refine WQ.nil ?_ | refine W.seq ?_ | refine W.region ?_ | refine DR ?_ | refine IFT ?_ | refine IFF ?_ | refine W.skip ?_ | refine W.block ?_ | refine W.exit ?_ | refine W.ret ?_ | (simp only [tN, tR, tE, rN, rR, rE, xN, xR, xE, reduceIte]) | refine DN ?_
      simp [retA, backA, pieceM, c, c2]
  · repeat first | refine OP ?_ | refine SK ?_ | refine OPN ?_ | refine OM ?_ | refine SM ?_ | refine OMN ?_ | refine WM.nil ?_ | refine OQ ?_ | refine SQ ?_ | refine TH ?_ | refine WR.nil ?_ | refine WQ.nil ?_ | refine W.seq ?_ | refine W.region ?_ | refine DR ?_ | refine IFT ?_ | refine IFF ?_ | refine W.skip ?_ | refine W.block ?_ | refine W.exit ?_ | refine W.ret ?_ | (simp only [tN, tR, tE, rN, rR, rE, xN, xR, xE, reduceIte]) | refine DN ?_
    simp [retA, backA, pieceM, c]
theorem specIsPiece_fn (G : Gv) (p : PieceM) (hl : p.cs.length < 1000000000) : Gives Tryz.prog G 125 [pieceA 0 p] (.b (pieceS p)) := by
  refine .of (.body Tryz.func125 rfl (by simp [Tryz.ntmps125]) ?_)
  rw [Tryz.ntmps125, Tryz.results125]
  repeat first | refine OP ?_ | refine SK ?_ | refine OPN ?_ | refine OM ?_ | refine SM ?_ | refine OMN ?_ | refine WM.nil ?_ | refine OQ ?_ | refine SQ ?_ | refine TH ?_ | refine WR.nil ?_ | refine WQ.nil ?_ | refine W.seq ?_ | refine W.region ?_ | refine DR ?_ | refine IFT ?_ | refine IFF ?_ | refine W.skip ?_ | refine W.block ?_ | refine W.exit ?_ | refine W.ret ?_ | (simp only [tN, tR, tE, rN, rR, rE, xN, xR, xE, reduceIte]) | refine DN ?_
  refine CV (specIsRegion_fn G _ hl) ?_
  by_cases c : regionS p.cs = true
  · repeat first | refine OP ?_ | refine SK ?_ | refine OPN ?_ | refine OM ?_ | refine SM ?_ | refine OMN ?_ | refine WM.nil ?_ | refine OQ ?_ | refine SQ ?_ | refine TH ?_ | refine WR.nil ?_ | refine WQ.nil ?_ | refine W.seq ?_ | refine W.region ?_ | refine DR ?_ | refine IFT ?_ | refine IFF ?_ | refine W.skip ?_ | refine W.block ?_ | refine W.exit ?_ | refine W.ret ?_ | (simp only [tN, tR, tE, rN, rR, rE, xN, xR, xE, reduceIte]) | refine DN ?_
    refine CV (specIsConnected_fn G _ hl) ?_
    by_cases c2 : (shapeM p.cs && connS p.cs) = true
    · repeat first | refine OP ?_ | refine SK ?_ | refine OPN ?_ | refine OM ?_ | refine SM ?_ | refine OMN ?_ | refine WM.nil ?_ | refine OQ ?_ | refine SQ ?_ | refine TH ?_ | refine WR.nil ?_ | refine WQ.nil ?_ | refine W.seq ?_ | refine W.region ?_ | refine DR ?_ | refine IFT ?_ | refine IFF ?_ | refine W.skip ?_ | refine W.block ?_ | refine W.exit ?_ | refine W.ret ?_ | (simp only [tN, tR, tE, rN, rR, rE, xN, xR, xE, reduceIte]) | refine DN ?_
      refine CV (l01In_fn G _ _ _) ?_
      repeat first | refine OP ?_ | refine SK ?_ | refine OPN ?_ | refine OM ?_ | refine SM ?_ | refine OMN ?_ | refine WM.nil ?_ | refine OQ ?_ | refine SQ ?_ | refine TH ?_ | refine WR.nil ?_ | refine WQ.nil ?_ | refine W.seq ?_ | refine W.region ?_ | refine DR ?_ | refine IFT ?_ | refine IFF ?_ | refine W.skip ?_ | refine W.block ?_ | refine W.exit ?_ | refine W.ret ?_ | (simp only [tN, tR, tE, rN, rR, rE, xN, xR, xE, reduceIte]) | refine DN ?_
      simp only [retA, backA, pieceS, c, c2, decide_true, decide_false, Bool.not_true, Bool.not_false, Bool.and_true, Bool.true_and, Bool.and_false, Bool.false_and, Bool.and_self]
    · repeat first | refine OP ?_ | refine SK ?_ | refine OPN ?_ | refine OM ?_ | refine SM ?_ | refine OMN ?_ | refine WM.nil ?_ | refine OQ ?_ | refine SQ ?_ | refine TH ?_ | refine WR.nil ?_ | refine WQ.nil ?_ | refine W.seq ?_ | refine W.region ?_ | refine DR ?_ | refine IFT ?_ | refine IFF ?_ | refine W.skip ?_ | refine W.block ?_ | refine W.exit ?_ | refine W.ret ?_ | (simp only [tN, tR, tE, rN, rR, rE, xN, xR, xE, reduceIte]) | refine DN ?_
      simp only [Bool.not_eq_true] at c2
      simp only [retA, backA, pieceS, c, c2, decide_true, decide_false, Bool.not_true, Bool.not_false, Bool.and_true, Bool.true_and, Bool.and_false, Bool.false_and, Bool.and_self]
  · repeat first | refine OP ?_ | refine SK ?_ | refine OPN ?_ | refine OM ?_ | refine SM ?_ | refine OMN ?_ | refine WM.nil ?_ | refine OQ ?_ | refine SQ ?_ | refine TH ?_ | refine WR.nil ?_ | refine WQ.nil ?_ | refine W.seq ?_ | refine W.region ?_ | refine DR ?_ | refine IFT ?_ | refine IFF ?_ | refine W.skip ?_ | refine W.block ?_ | refine W.exit ?_ | refine W.ret ?_ | (simp only [tN, tR, tE, rN, rR, rE, xN, xR, xE, reduceIte]) | refine DN ?_
    simp [retA, backA, pieceS, c]
end Go.Proofs
end
