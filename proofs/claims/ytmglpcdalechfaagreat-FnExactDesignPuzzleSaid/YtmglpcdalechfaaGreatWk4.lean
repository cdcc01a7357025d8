/- Walks: The program's parts. No condition. | What is connected. No condition. | Pieces alike. No condition. | What is a puzzle. No condition. | What is a puzzle, the reference's. No condition. -/
import Derived.Test.YtmglpcdalechfaaGreatBO
import Derived.Test.YtmglpcdalechfaaGreatWk3
import Derived.Test.YtmglpcdalechfaaGreatWk2
import Derived.Test.YtmglpcdalechfaaGreatWk1
import Derived.Test.YtmglpcdalechfaaGreatBC
set_option linter.unusedVariables false
set_option linter.unusedSimpArgs false
section
open Go Go.Big
namespace Go.Proofs
set_option maxHeartbeats 2000000
theorem wf_wrap (n : Int) : wf64 (IntKind.i64.wrap n) := by
  simp only [wf64, Lit.wf, IntKind.min, IntKind.max, IntKind.wrap, IntKind.bits, IntKind.signed, Bool.and_eq_true, decide_eq_true_eq]
  simp
  omega
/-- The map of the first places' cells. -/
def mapF (l : List (Int × Int)) : Nat → Int → Int → Option Int
  | 0 => fun _ _ => none
  | i + 1 => putM (mapF l i) (l.getD i (0, 0)).1 (l.getD i (0, 0)).2 (i : Int)
theorem mapF_eq {l : List (Int × Int)} (hn : l.Nodup) (a b : Int) : ∀ {i : Nat}, i ≤ l.length → mapF l i a b = Option.map (fun j : Nat => (j : Int)) ((List.range i).find? (cellAt l (a, b)))
  | 0, _ => rfl
  | i + 1, hi => by
    have ih := mapF_eq hn a b (i := i) (by omega)
    rw [List.range_succ, List.find?_append]
    show putM (mapF l i) _ _ _ a b = _
    unfold putM
    by_cases c : cellAt l (a, b) i = true
    · have h1 := c
      unfold cellAt at h1
      simp only [Bool.and_eq_true, beq_iff_eq] at h1
      rw [if_pos ⟨h1.1.symm, h1.2.symm⟩]
      have h2 : (List.range i).find? (cellAt l (a, b)) = none := by
        rw [List.find?_range_eq_none]
        intro j hj
        simp only [Bool.not_eq_true']
        cases q : cellAt l (a, b) j with
        | false => rfl
        | true =>
          exfalso
          unfold cellAt at q
          simp only [Bool.and_eq_true, beq_iff_eq] at q
          have e : l.getD j (0, 0) = l.getD i (0, 0) := Prod.ext (q.1.trans h1.1.symm) (q.2.trans h1.2.symm)
          simp only [List.getD_eq_getElem?_getD, List.getElem?_eq_getElem (show j < l.length by omega), List.getElem?_eq_getElem (show i < l.length by omega), Option.getD_some] at e
          have e2 : l[j]? = l[i]? := by rw [List.getElem?_eq_getElem (show j < l.length by omega), List.getElem?_eq_getElem (show i < l.length by omega)]; exact congrArg some e
          have := (List.getElem?_inj (i := j) (j := i) (show j < l.length by omega) hn).mp e2
          omega
      rw [h2]; simp [c]
    · rw [if_neg]
      · rw [ih]; simp [c]
      · rintro ⟨h1, h2⟩
        apply c
        unfold cellAt
        rw [← h1, ← h2]; simp
theorem mapF_all {l : List (Int × Int)} (hn : l.Nodup) (c : Int × Int) : mapF l l.length c.1 c.2 = if 0 ≤ idxM l c then some (idxM l c) else none := by
  rw [mapF_eq hn c.1 c.2 (Nat.le_refl _)]
  unfold idxM
  cases (List.range l.length).find? (cellAt l (c.1, c.2)) with
  | none => simp
  | some i => simp
theorem parts_fn (G : Gv) (l : List (Int × Int)) (hl : l.length < 1000000000) (hnd : l.Nodup) (hwf : ∀ p ∈ l, wf64 p.1 ∧ wf64 p.2) : Gives Tryz.prog G 214 [.sl 0 (cells l), .fn 166 []] (.sl 1 (ints (partsM l l.length))) := by
  refine .of (.body Tryz.func214 rfl (by simp [Tryz.ntmps214]) ?_)
  rw [Tryz.ntmps214, Tryz.results214]
  have hlen := cells_len l
  have b1 : ((8 : Nat) : Int) * l.length ≤ 281474976710656 := by simp; omega
  have b2 : (l.length : Int) ≤ 9223372036854775807 := by omega
  have b3 : (0 : Int) ≤ l.length := by omega
  have hwf := Hid.mk hwf
  refine AL ?_
  refine MN ?_
  refine AL ?_
  refine .loop (.inv (fun d E H n' => ∃ i : Nat, i + d = l.length ∧ 5 < n' ∧ E 0 = .sl 0 (cells l) ∧ E 1 = .fn 166 [] ∧ E 5 = .own 1 0 ∧ E 6 = .own 5 0 ∧ E 20 = .sl 0 (cells l) ∧ E 21 = .i .i64 l.length ∧ E 22 = .i .i64 i ∧ H 1 = some (.mp (mapF l i)) ∧ H 5 = some (.arr 0 2 1 (part (ints (List.replicate l.length (-1))) [.i .i64 0] i) 1)) l.length ?_ ?_)
  · exact ⟨0, by omega, by omega, by simp [setF_if, argE, upd_if], by simp [setF_if, argE, upd_if], by simp [setF_if, argE, upd_if], by simp [setF_if, argE, upd_if], by simp [setF_if, argE, upd_if], by simp [setF_if, argE, upd_if], by simp [setF_if, argE, upd_if], by simp [upd_if, mapF], by simp [upd_if, part_zero, ints]⟩
  · rintro d E H n' ⟨i, hi, hn4, h0, h1, h5, h6, h20, h21, h22, hH1, hH5⟩
    have hn1 : 1 < n' := by omega
    by_cases c : (i : Int) < l.length
    · have hw_i : IntKind.i64.wrap ((i : Int) + 1) = (i : Int) + 1 := wr64 (by omega) (by omega)
      have cN : i < l.length := by omega
      have hr := cells_at (l := l) (i := i) cN
      have hms : mapF l (i + 1) = putM (mapF l i) (l.getD i (0, 0)).1 (l.getD i (0, 0)).2 (i : Int) := rfl
      have hww : wf64 (l.getD i (0, 0)).1 ∧ wf64 (l.getD i (0, 0)).2 := hwf.out _ (by rw [List.getD_eq_getElem?_getD, List.getElem?_eq_getElem cN]; exact List.getElem_mem _)
      obtain ⟨hwa, hwb⟩ := hww
      generalize l.getD i (0, 0) = p at hr hms hwa hwb
      have hil : (ints (List.replicate l.length (-1))).length = l.length := by simp [ints]
      have hp := part_at (l := ints (List.replicate l.length (-1))) (z := [PV.i .i64 0]) (i := i) (by omega)
      have hs := part_set (l := ints (List.replicate l.length (-1))) (z := [PV.i .i64 0]) (i := i) (x := [PV.i .i64 (-1)]) (by simp [ints, cN])
      have hpl : i < (part (ints (List.replicate l.length (-1))) [PV.i .i64 0] i).length := (List.getElem?_eq_some_iff.mp hp).1
      refine AL ?_
      refine MP cellMap hwa hwb ?_
      refine AL ?_
      refine ⟨l.length - (i + 1), by omega, i + 1, by omega, ?_⟩
      simp [setF_if, upd_if, *]
    · have e' : i = l.length := by omega
      subst e'
      have hpa : part (ints (List.replicate l.length (-1))) [PV.i .i64 0] l.length = ints (partsM l 0) := by
        have := part_all (ints (List.replicate l.length (-1))) [PV.i .i64 0]
        rw [show (ints (List.replicate l.length (-1))).length = l.length by simp [ints]] at this
        rw [this]; rfl
      rw [hpa] at hH5
      have hfF := mapF_all hnd
      generalize mapF l l.length = F at hH1 hfF
      replace hfF := Hid.mk hfF
      refine AL ?_
      refine .loop (.inv (fun d E H n' => ∃ i : Nat, i + d = l.length ∧ 5 < n' ∧ E 0 = .sl 0 (cells l) ∧ E 1 = .fn 166 [] ∧ E 5 = .own 1 0 ∧ E 6 = .own 5 0 ∧ E 35 = .i .i64 l.length ∧ E 36 = .i .i64 i ∧ H 1 = some (.mp F) ∧ H 5 = some (.arr 0 2 1 (ints (partsM l i)) 1)) l.length ?_ ?_)
      · exact ⟨0, by omega, by omega, by simp [setF_if, *], by simp [setF_if, *], by simp [setF_if, *], by simp [setF_if, *], by simp [setF_if, *], by simp [setF_if, *], by simp [*], by simp [*]⟩
      clear h0 h1 h5 h6 h20 h21 h22 hH1 hH5 hn4 hn1 hi hpa c
      rintro d E H n' ⟨i, hi, hn4, h0, h1, h5, h6, h35, h36, hH1, hH5⟩
      have hn1 : 1 < n' := by omega
      by_cases c : (i : Int) < l.length
      · have hw_i : IntKind.i64.wrap ((i : Int) + 1) = (i : Int) + 1 := wr64 (by omega) (by omega)
        have cN : i < l.length := by omega
        have hpl := partsM_len l (i := i) (by omega)
        have hr : (ints (partsM l i))[i]? = some [.i .i64 ((partsM l i).getD i 0)] := ints_at (by omega)
        have hsucc := partsM_succ l i
        have hsd : startP l (partsM l i) i = startP l (partsM l i) i := rfl
        conv at hsd => rhs; unfold startP
        generalize partsM l i = out at hpl hr hsucc hsd hH5
        have hil := ints_len out
        generalize hx : out.getD i 0 = x at hr hsd
        by_cases c1 : x ≥ 0
        · rw [if_pos c1] at hsd
          refine AL ?_
          refine ⟨l.length - (i + 1), by omega, i + 1, by omega, ?_⟩
          simp [setF_if, upd_if, *]
        · rw [if_neg c1] at hsd
          have hset : (ints out).set i [PV.i .i64 i] = ints (out.set i (i : Int)) := by rw [ints_set]
          have hok0 : okP l (out.set i (i : Int), [(i : Int)]) := ⟨by simp [hpl], fun k hk => by simp only [List.mem_singleton] at hk; subst hk; omega⟩
          have hlt : i < (ints out).length := by omega
          replace hsd := Hid.mk hsd
          replace hok0 := Hid.mk hok0
          refine AL ?_
          refine .loop (.inv (fun d E H n' => ∃ (q e2 : Nat) (o2 dn rest : List Int), d = openN o2 + rest.length ∧ d + dn.length ≤ l.length + 1 ∧ okP l (o2, rest) ∧ runP l i d o2 rest = startP l out i ∧ 5 < q ∧ q < n' ∧ E 0 = .sl 0 (cells l) ∧ E 1 = .fn 166 [] ∧ E 5 = .own 1 0 ∧ E 6 = .own 5 0 ∧ E 9 = .i .i64 i ∧ E 10 = .own q e2 ∧ E 11 = .i .i64 dn.length ∧ E 35 = .i .i64 l.length ∧ E 36 = .i .i64 i ∧ H 1 = some (.mp F) ∧ H 5 = some (.arr 0 2 1 (ints o2) 1) ∧ H q = some (.arr e2 3 1 (ints (dn ++ rest)) 1)) (openN (out.set i (i : Int)) + 1) ?_ ?_)
          · refine ⟨n' + 14, 0, out.set i (i : Int), [], [(i : Int)], by simp, by have := openN_le (out.set i (i : Int)); simp at this; simp; omega, hok0.out, hsd.out.symm, by omega, by omega, by simp [setF_if, *], by simp [setF_if, *], by simp [setF_if, *], by simp [setF_if, *], by simp [setF_if, *], by simp [setF_if, *], by simp [setF_if, *], by simp [setF_if, *], by simp [setF_if, *], by simp [upd_if, *], by simp [upd_if, *], by simp [upd_if, ints]⟩
          clear h0 h1 h5 h6 h35 h36 hH1 hH5 hn4 hn1
          rintro d E H n' ⟨q, e2, o2, dn, rest, hd, hdl, hok, hrun, hq4, hqn, h0, h1, h5, h6, h9, h10, h11, h35, h36, hH1, hH5, hHq⟩
          have hn4 : 5 < n' := by omega
          have hn1 : 1 < n' := by omega
          have q4 : (q = 5) = False := by simp; omega
          have q4' : (5 = q) = False := by simp; omega
          have q1 : (q = 1) = False := by simp; omega
          have q1' : (1 = q) = False := by simp; omega
          have hol := ints_len o2
          have hol2 : o2.length = l.length := hok.1
          have hdr := ints_len (dn ++ rest)
          have hdr2 : (dn ++ rest).length = dn.length + rest.length := List.length_append
          by_cases cr : rest.length = 0
          · have hr0 : rest = [] := List.length_eq_zero_iff.mp cr
            rw [hr0, runP_nil] at hrun
            replace hok := Hid.mk hok
            clear hr0
            refine AL ?_
            refine ⟨l.length - (i + 1), by omega, i + 1, by omega, ?_⟩
            simp [setF_if, upd_if, *]
          · obtain ⟨c, rest, rfl⟩ : ∃ c r, rest = c :: r := by
              cases rest with
              | nil => simp at cr
              | cons c r => exact ⟨c, r, rfl⟩
            obtain ⟨hc0, hcl⟩ := hok.2 c List.mem_cons_self
            have hcN : c.toNat < l.length := by omega
            have hrc := cells_at (l := l) (i := c.toNat) hcN
            have hlt2 : ((dn.length : Int) < ((dn.length + (rest.length + 1) : Nat) : Int)) = True := by simp; omega
            have hr3 : (ints (dn ++ c :: rest))[dn.length]? = some [.i .i64 c] := by simp [ints]
            have hlt4 : (dn.length < dn.length + (rest.length + 1)) = True := by simp
            have hlt3 : dn.length < (ints (dn ++ c :: rest)).length := by rw [hdr, hdr2]; simp
            have hrunS : runP l i d o2 (c :: rest) = runP l i (d - 1) (lookAll l i (o2, rest) (l.getD c.toNat (0, 0))).1 (lookAll l i (o2, rest) (l.getD c.toNat (0, 0))).2 := by
              obtain ⟨d', rfl⟩ : ∃ d', d = d' + 1 := ⟨d - 1, by simp only [List.length_cons] at hd; omega⟩
              rfl
            have hokr : okP l (o2, rest) := ⟨hok.1, fun k hk => hok.2 k (List.mem_cons_of_mem _ hk)⟩
            have hf := foldP_ok (l := l) (i := (i : Int)) (by omega) (cs := aroundM (l.getD c.toNat (0, 0))) hokr
            have hdN : openN o2 + rest.length + 1 = d := by simp only [List.length_cons] at hd; omega
            have hwp : wf64 (l.getD c.toNat (0, 0)).1 ∧ wf64 (l.getD c.toNat (0, 0)).2 := hwf.out _ (by rw [List.getD_eq_getElem?_getD, List.getElem?_eq_getElem hcN]; exact List.getElem_mem _)
            clear hd hok hcl cr
            generalize hp : l.getD c.toNat (0, 0) = p at *
            have hwa : ∀ z ∈ aroundM p, wf64 z.1 ∧ wf64 z.2 := by
              intro z hz
              simp only [aroundM, List.mem_cons, List.not_mem_nil, or_false] at hz
              rcases hz with rfl | rfl | rfl | rfl
              · exact ⟨hwp.1, wf_wrap _⟩
              · exact ⟨wf_wrap _, hwp.2⟩
              · exact ⟨wf_wrap _, hwp.2⟩
              · exact ⟨hwp.1, wf_wrap _⟩
            replace hwa := Hid.mk hwa
            replace hf := Hid.mk hf
            replace hok := Hid.mk hokr
            replace hrunS := Hid.mk hrunS
            replace hrun := Hid.mk hrun
            clear hokr hp hx hwp
            have hal := around4 p
            have hal2 : (cells (aroundM p)).length = 4 := by rw [cells_len]; rfl
            have hw_dn_length : IntKind.i64.wrap ((dn.length : Int) + 1) = (dn.length : Int) + 1 := wr64 (by omega) (by omega)
            refine AL ?_
            refine CV (around_fn G _ _) ?_
            rw [aroundM_cells]
            refine AL ?_
            refine .loop (.inv (fun d2 E H n' => ∃ (k e3 : Nat) (s : List Int × List Int), k + d2 = 4 ∧ s = ((aroundM p).take k).foldl (lookP l i) (o2, rest) ∧ q < n' ∧ E 0 = .sl 0 (cells l) ∧ E 1 = .fn 166 [] ∧ E 5 = .own 1 0 ∧ E 6 = .own 5 0 ∧ E 9 = .i .i64 i ∧ E 10 = .own q e3 ∧ E 11 = .i .i64 dn.length ∧ E 35 = .i .i64 l.length ∧ E 36 = .i .i64 i ∧ E 64 = .sl 1 (cells (aroundM p)) ∧ E 65 = .i .i64 4 ∧ E 66 = .i .i64 k ∧ H 1 = some (.mp F) ∧ H 5 = some (.arr 0 2 1 (ints s.1) 1) ∧ H q = some (.arr e3 3 1 (ints (dn ++ c :: s.2)) 1)) 4 ?_ ?_)
            · exact ⟨0, e2, (o2, rest), by omega, rfl, by omega, by simp [setF_if, *], by simp [setF_if, *], by simp [setF_if, *], by simp [setF_if, *], by simp [setF_if, *], by simp [setF_if, *], by simp [setF_if, *], by simp [setF_if, *], by simp [setF_if, *], by simp [setF_if, *], by simp [setF_if, *], by simp [setF_if, *], by simp [upd_if, *], by simp [upd_if, *], by simp [upd_if, *]⟩
            clear h0 h1 h5 h6 h9 h10 h11 h35 h36 hH1 hH5 hHq hr3 hlt3 hdr hdr2 hlt4 hlt2
            rintro d2 E H n' ⟨k, e3, s, hk, hs, hqn2, h0, h1, h5, h6, h9, h10, h11, h35, h36, h64, h65, h66, hH1, hH5, hHq⟩
            have hn5 : 5 < n' := by omega
            have hn1 : 1 < n' := by omega
            by_cases ck : (k : Int) < 4
            · have hw_k : IntKind.i64.wrap ((k : Int) + 1) = (k : Int) + 1 := wr64 (by omega) (by omega)
              have hfk := foldP_take (l := l) (i := (i : Int)) (s := (o2, rest)) (cs := aroundM p) (k := k) (by rw [hal]; omega)
              rw [← hs] at hfk
              have hra := cells_at (l := aroundM p) (i := k) (by rw [hal]; omega)
              have hwk : wf64 ((aroundM p).getD k (0, 0)).1 ∧ wf64 ((aroundM p).getD k (0, 0)).2 := hwa.out _ (by rw [List.getD_eq_getElem?_getD, List.getElem?_eq_getElem (by rw [hal]; omega)]; exact List.getElem_mem _)
              generalize (aroundM p).getD k (0, 0) = pc at hra hfk hwk
              obtain ⟨hw1, hw2⟩ := hwk
              have hsok := foldP_ok (l := l) (i := (i : Int)) (by omega) (cs := (aroundM p).take k) hok.out
              rw [← hs] at hsok
              have hsl1 := hsok.1.1
              have hsum := hsok.2
              have hol3 := ints_len s.1
              have hoo := openN_le o2
              simp only at hsum
              have z1 : (n' = 2) = False := by simp; omega
              have z2 : (q = n' + 3) = False := by simp; omega
              have hll : (ints (dn ++ c :: s.2)).length = dn.length + (s.2.length + 1) := by simp [ints]
              have hbd : (dn.length + (s.2.length + 1) + 1) * 8 ≤ 140737488355328 := by omega
              have happ : ints (dn ++ c :: s.2) ++ [[.i .i64 (idxM l pc)]] = ints (dn ++ c :: (s.2 ++ [idxM l pc])) := by simp [ints]
              clear hsok hs hsum hoo hok hf hrun hrunS hwa
              have ha : lookP l (i : Int) s pc = if 0 ≤ idxM l pc ∧ s.1.getD (idxM l pc).toNat 0 < 0 then (s.1.set (idxM l pc).toNat (i : Int), s.2 ++ [idxM l pc]) else s := rfl
              replace ha := Hid.mk ha
              replace hfk := Hid.mk hfk
              have hF := hfF.out pc
              refine AL ?_
              refine MG cellMap hw1 hw2 ?_
              have hil3 : 0 ≤ idxM l pc → (idxM l pc).toNat < l.length := fun h => (idxM_lt h).1
              generalize idxM l pc = ix at ha hil3 hF happ
              by_cases ci : ix ≥ 0
              · rw [if_pos ci] at hF
                have hilt := hil3 ci
                have hri : (ints s.1)[ix.toNat]? = some [.i .i64 (s.1.getD ix.toNat 0)] := ints_at (by omega)
                have hset2 : (ints s.1).set ix.toNat [PV.i .i64 i] = ints (s.1.set ix.toNat (i : Int)) := by rw [ints_set]
                generalize hyv : s.1.getD ix.toNat 0 = y at hri ha
                clear hil3 hyv
                simp only [hF, Option.getD_some, Option.isSome_some]
                by_cases cy : y < 0
                · refine AL ?_
                  refine ⟨4 - (k + 1), by omega, k + 1, e3 + 1, (s.1.set ix.toNat (i : Int), s.2 ++ [ix]), by omega, by rw [hfk.out, ha.out, if_pos ⟨ci, cy⟩], by omega, by simp [setF_if, *], by simp [setF_if, *], by simp [setF_if, *], by simp [setF_if, *], by simp [setF_if, *], by simp [setF_if, *], by simp [setF_if, *], by simp [setF_if, *], by simp [setF_if, *], by simp [setF_if, *], by simp [setF_if, *], by simp [setF_if, *], by simp [upd_if, *], by simp [upd_if, *], by simp [upd_if, *]⟩
                · refine AL ?_
                  refine ⟨4 - (k + 1), by omega, k + 1, e3, s, by omega, by rw [hfk.out, ha.out, if_neg (fun h => cy h.2)], by omega, by simp [setF_if, *], by simp [setF_if, *], by simp [setF_if, *], by simp [setF_if, *], by simp [setF_if, *], by simp [setF_if, *], by simp [setF_if, *], by simp [setF_if, *], by simp [setF_if, *], by simp [setF_if, *], by simp [setF_if, *], by simp [setF_if, *], by simp [upd_if, *], by simp [upd_if, *], by simp [upd_if, *]⟩
              · rw [if_neg ci] at hF
                simp only [hF, Option.getD_none, Option.isSome_none]
                refine AL ?_
                refine ⟨4 - (k + 1), by omega, k + 1, e3, s, by omega, by rw [hfk.out, ha.out, if_neg (fun h => ci h.1)], by omega, by simp [setF_if, *], by simp [setF_if, *], by simp [setF_if, *], by simp [setF_if, *], by simp [setF_if, *], by simp [setF_if, *], by simp [setF_if, *], by simp [setF_if, *], by simp [setF_if, *], by simp [setF_if, *], by simp [setF_if, *], by simp [setF_if, *], by simp [upd_if, *], by simp [upd_if, *], by simp [upd_if, *]⟩
            · have ek : k = 4 := by omega
              subst ek
              have hs4 : s = lookAll l i (o2, rest) p := by rw [hs, show (4 : Nat) = (aroundM p).length from rfl, List.take_length]; rfl
              clear hs
              refine AL ?_
              have hf4 : okP l s ∧ openN s.1 + s.2.length = openN o2 + rest.length := by rw [hs4]; exact hf.out
              refine ⟨d - 1, by omega, q, e3, s.1, dn ++ [c], s.2, by omega, by simp only [List.length_append, List.length_singleton]; omega, hf4.1, by rw [← hrun.out, hrunS.out, ← hs4], by omega, by omega, by simp [setF_if, *], by simp [setF_if, *], by simp [setF_if, *], by simp [setF_if, *], by simp [setF_if, *], by simp [setF_if, *], by simp [setF_if, *], by simp [setF_if, *], by simp [setF_if, *], by simp [upd_if, *], by simp [upd_if, *], by simp [upd_if, *]⟩
      · have e' : i = l.length := by omega
        subst e'
        refine AL ?_
        simp [retA, backA, newSl, newB, hH5]
end Go.Proofs
end
section
open Go Go.Big
namespace Go.Proofs
set_option maxHeartbeats 2000000
def maxLF (l : List Int) (i : Nat) : Int := (l.take i).foldl maxI (l.getD 0 0)
theorem maxLF_succ {l : List Int} {i : Nat} (h : i < l.length) : maxLF l (i + 1) = maxI (maxLF l i) (l.getD i 0) := by
  unfold maxLF
  rw [List.take_succ_eq_append_getElem h, List.foldl_append]
  simp only [List.foldl_cons, List.foldl_nil, List.getD_eq_getElem?_getD, List.getElem?_eq_getElem h, Option.getD_some]
theorem maxLF_one {l : List Int} (h : 0 < l.length) : maxLF l 1 = l.getD 0 0 := by
  rw [maxLF_succ h]; simp [maxLF, maxI]
theorem max_fn (G : Gv) (l : List Int) (h1 : 0 < l.length) (hl : l.length < 1000000000) : Gives Tryz.prog G 213 [.sl 0 (ints l)] (.i .i64 (maxLF l l.length)) := by
  refine .of (.body Tryz.func213 rfl (by simp [Tryz.ntmps213]) ?_)
  rw [Tryz.ntmps213, Tryz.results213]
  have hlen := ints_len l
  have hr0 := ints_at (l := l) (i := 0) h1
  have hlt : ((l.length : Int) < 1) = False := by simp; omega
  refine AL ?_
  refine .loop (.inv (fun d E H n' => ∃ i : Nat, i + d = l.length ∧ 0 < i ∧ E 0 = .sl 0 (ints l) ∧ E 3 = .i .i64 (maxLF l i) ∧ E 4 = .i .i64 i) (l.length - 1) ?_ ?_)
  · exact ⟨1, by omega, by omega, by simp [setF_if, argE], by simp [setF_if, argE, maxLF_one h1], by simp [setF_if, argE]⟩
  rintro d E H n' ⟨i, hi, hi0, h0, h3, h4⟩
  by_cases c : (i : Int) < l.length
  · have hr := ints_at (l := l) (i := i) (by omega)
    have hw_i : IntKind.i64.wrap ((i : Int) + 1) = (i : Int) + 1 := wr64 (by omega) (by omega)
    have hs := maxLF_succ (l := l) (i := i) (by omega)
    refine AL ?_
    refine ⟨l.length - (i + 1), by omega, i + 1, by omega, ?_⟩
    simp [setF_if, *, maxI]
  · have e : i = l.length := by omega
    subst e
    refine AL ?_
    simp [retA, backA]
def connM (l : List (Int × Int)) : Bool := maxLF (partsM l l.length) l.length == 0
theorem connected_fn (G : Gv) (l : List (Int × Int)) (h1 : 0 < l.length) (hl : l.length < 1000000000) (hnd : l.Nodup) (hwf : ∀ p ∈ l, wf64 p.1 ∧ wf64 p.2) : Gives Tryz.prog G 165 [.sl 0 (cells l), .fn 166 []] (.b (connM l)) := by
  refine .of (.body Tryz.func165 rfl (by simp [Tryz.ntmps165]) ?_)
  rw [Tryz.ntmps165, Tryz.results165]
  have hp := partsM_len l (i := l.length) (Nat.le_refl _)
  refine AL ?_
  refine CV (parts_fn G l hl hnd hwf) ?_
  clear hwf hnd
  refine CV (max_fn G _ (by rw [hp]; exact h1) (by rw [hp]; exact hl)) ?_
  refine AL ?_
  simp [retA, backA, connM, hp]
def connS (l : List (Int × Int)) : Bool := zerosM (partsM l l.length)
theorem specIsConnected_fn (G : Gv) (l : List (Int × Int)) (hl : l.length < 1000000000) : Gives Tryz.prog G 160 [.sl 0 (cells l)] (.b (shapeM l && connS l)) := by
  refine .of (.body Tryz.func160 rfl (by simp [Tryz.ntmps160]) ?_)
  rw [Tryz.ntmps160, Tryz.results160]
  have hp := partsM_len l (i := l.length) (Nat.le_refl _)
  refine AL ?_
  refine CV (specIsShape_fn G l hl) ?_
  by_cases c : shapeM l = true
  · refine AL ?_
    refine CV (l02Parts_fn G l hl) ?_
    refine CV (l02One_fn G _ (by rw [hp]; exact hl)) ?_
    refine AL ?_
    simp [retA, backA, connS, c]
  · refine AL ?_
    simp [retA, backA, c]
def pieceM (p : PieceM) : Bool := regionM p.cs && connM p.cs && (decide (p.k ≥ 1) && decide (p.k ≤ 8))
def pieceS (p : PieceM) : Bool := regionS p.cs && (shapeM p.cs && connS p.cs) && (decide (p.k ≥ 1) && decide (p.k ≤ 8))
theorem lessC_trans {a b c : Int × Int} (h1 : lessC a.1 a.2 b.1 b.2 = true) (h2 : lessC b.1 b.2 c.1 c.2 = true) : lessC a.1 a.2 c.1 c.2 = true := by
  simp only [lessC, Bool.or_eq_true, Bool.and_eq_true, decide_eq_true_eq, beq_iff_eq] at *; omega
theorem lessC_irrefl (a : Int × Int) : lessC a.1 a.2 a.1 a.2 = false := by simp [lessC]
theorem shapeM_spec {l : List (Int × Int)} (h : shapeM l = true) : l.Pairwise (fun a b => lessC a.1 a.2 b.1 b.2 = true) ∧ (∀ p ∈ l, inC p.1 = true ∧ inC p.2 = true) ∧ 1 ≤ l.length ∧ l.length ≤ 40 := by
  unfold shapeM at h
  simp only [Bool.and_eq_true, List.all_eq_true, List.mem_range, decide_eq_true_eq] at h
  obtain ⟨h1, h2, h3⟩ := h
  have hat : ∀ i, (hi : i < l.length) → (inC l[i].1 = true ∧ inC l[i].2 = true) ∧ (∀ j, (hj : j + 1 = i) → lessC (l[j]'(by omega)).1 (l[j]'(by omega)).2 l[i].1 l[i].2 = true) := by
    intro i hi
    have := h1 i hi
    unfold shapeAt at this
    simp only [List.getD_eq_getElem?_getD, List.getElem?_eq_getElem hi, Option.getD_some, Bool.and_eq_true, Bool.not_eq_true', Bool.and_eq_false_iff, decide_eq_false_iff_not, Bool.not_eq_false'] at this
    refine ⟨this.1, fun j hj => ?_⟩
    subst hj
    rcases this.2 with h | h
    · omega
    · simpa [List.getElem?_eq_getElem (show j < l.length by omega)] using h
  refine ⟨?_, ?_, by omega, by omega⟩
  · rw [List.pairwise_iff_getElem]
    intro i j hi hj hij
    obtain ⟨d, rfl⟩ : ∃ d, j = i + 1 + d := ⟨j - (i + 1), by omega⟩
    clear hij
    induction d with
    | zero => exact (hat _ hj).2 i rfl
    | succ d ih => exact lessC_trans (ih (by omega)) ((hat _ hj).2 (i + 1 + d) rfl)
  · intro p hp
    obtain ⟨i, hi, rfl⟩ := List.getElem_of_mem hp
    exact (hat i hi).1
theorem shapeM_nodup {l : List (Int × Int)} (h : shapeM l = true) : l.Nodup :=
  (shapeM_spec h).1.imp fun {a b} hab e => by subst e; rw [lessC_irrefl] at hab; simp at hab
theorem inC_wf {n : Int} (h : inC n = true) : wf64 n := by
  simp only [inC, Bool.and_eq_true, decide_eq_true_eq] at h
  simp only [wf64, Lit.wf, IntKind.min, IntKind.max, IntKind.bits, IntKind.signed, Bool.and_eq_true, decide_eq_true_eq]
  simp; omega
theorem regionM_shape {l : List (Int × Int)} (h : regionM l = true) : shapeM l = true := by
  unfold regionM at h; simp only [Bool.and_eq_true] at h; exact h.1.1
theorem implIsPiece_fn (G : Gv) (p : PieceM) (hl : p.cs.length < 1000000000) : Gives Tryz.prog G 97 [pieceA 0 p] (.b (pieceM p)) := by
  refine .of (.body Tryz.func97 rfl (by simp [Tryz.ntmps97]) ?_)
  rw [Tryz.ntmps97, Tryz.results97]
  refine AL ?_
  refine CV (implIsRegion_fn G _ hl) ?_
  by_cases c : regionM p.cs = true
  · have hs := regionM_shape c
    have hsp := shapeM_spec hs
    refine AL ?_
    refine CV (connected_fn G _ (by omega) hl (shapeM_nodup hs) (fun q hq => ⟨inC_wf (hsp.2.1 q hq).1, inC_wf (hsp.2.1 q hq).2⟩)) ?_
    clear hsp
    by_cases c2 : connM p.cs = true
    · refine AL ?_
      refine CV (within_fn G _ _ _) ?_
      refine AL ?_
      simp [retA, backA, pieceM, c, c2]
    · refine AL ?_
      simp [retA, backA, pieceM, c, c2]
  · refine AL ?_
    simp [retA, backA, pieceM, c]
theorem specIsPiece_fn (G : Gv) (p : PieceM) (hl : p.cs.length < 1000000000) : Gives Tryz.prog G 94 [pieceA 0 p] (.b (pieceS p)) := by
  refine .of (.body Tryz.func94 rfl (by simp [Tryz.ntmps94]) ?_)
  rw [Tryz.ntmps94, Tryz.results94]
  refine AL ?_
  refine CV (specIsRegion_fn G _ hl) ?_
  by_cases c : regionS p.cs = true
  · refine AL ?_
    refine CV (specIsConnected_fn G _ hl) ?_
    by_cases c2 : (shapeM p.cs && connS p.cs) = true
    · refine AL ?_
      refine CV (l01In_fn G _ _ _) ?_
      refine AL ?_
      simp only [retA, backA, pieceS, c, c2, decide_true, decide_false, Bool.not_true, Bool.not_false, Bool.and_true, Bool.true_and, Bool.and_false, Bool.false_and, Bool.and_self]
    · refine AL ?_
      simp only [Bool.not_eq_true] at c2
      simp only [retA, backA, pieceS, c, c2, decide_true, decide_false, Bool.not_true, Bool.not_false, Bool.and_true, Bool.true_and, Bool.and_false, Bool.false_and, Bool.and_self]
  · refine AL ?_
    simp [retA, backA, pieceS, c]
end Go.Proofs
end
section
open Go Go.Big
namespace Go.Proofs
set_option maxHeartbeats 2000000
/-- A function value that asks one question of a shape, and leaves old objects as they are. -/
def Asks (G : Gv) (f : FuncId) (caps : List AV) (H0 : Heap) (n0 tg : Nat) (p : Shape → Bool) (ls : List Shape) : Prop :=
  ∀ x ∈ ls, ∀ (H : Heap) (n : Nat), n0 ≤ n → (∀ k, k < n0 → H k = H0 k) → WC Tryz.prog G f (.sl tg (cells x) :: caps) H n (fun r H' n' => r = .b (p x) ∧ n ≤ n' ∧ ∀ k, k < n0 → H' k = H0 k)
def findS (p : Shape → Bool) (ls : List Shape) : Int := match (List.range ls.length).find? (fun i => p (ls.getD i [])) with
  | some i => i
  | none => -1
theorem indexFunc_fn (G : Gv) (f : FuncId) (caps : List AV) (H0 : Heap) (n0 tg : Nat) (p : Shape → Bool) (ls : List Shape) (hp : Asks G f caps H0 n0 tg p ls) (hff : (Tryz.prog.funcs[f]?).any (fun fn => fn.body.isSome && (fn.name != "runtime.NumGoroutine")) = true) (hls : ls.length < 1000000000)
    (H : Heap) (n : Nat) (hn : n0 ≤ n) (hH : ∀ k, k < n0 → H k = H0 k) :
    WC Tryz.prog G 290 [.sl tg (shapesR ls), .fn f caps] H n (fun r H' n' => r = .i .i64 (findS p ls) ∧ n ≤ n' ∧ ∀ k, k < n0 → H' k = H0 k) := by
  refine (.body Tryz.func290 rfl (by simp [Tryz.ntmps290]) ?_)
  rw [Tryz.ntmps290, Tryz.results290]
  have hlen := shapesR_len ls
  replace hH := Hid.mk hH
  replace hp := Hid.mk hp
  refine AL ?_
  refine .loop (.inv (fun d E H n' => ∃ i : Nat, i + d = ls.length ∧ n ≤ n' ∧ E 0 = .sl tg (shapesR ls) ∧ E 1 = .fn f caps ∧ E 7 = .i .i64 ls.length ∧ E 8 = .i .i64 i ∧ (∀ k, k < n0 → H k = H0 k) ∧ (∀ j, j < i → p (ls.getD j []) = false)) ls.length ?_ ?_)
  · exact ⟨0, by omega, by omega, by simp [setF_if, argE], by simp [setF_if, argE], by simp [setF_if, argE, hlen], by simp [setF_if, argE], hH.out, fun j hj => by omega⟩
  clear hH
  rintro d E H n' ⟨i, hi, hnn, h0, h1, h7, h8, hH, hall⟩
  replace hH := Hid.mk hH
  replace hall := Hid.mk hall
  by_cases c : (i : Int) < ls.length
  · have hw_i : IntKind.i64.wrap ((i : Int) + 1) = (i : Int) + 1 := wr64 (by omega) (by omega)
    have hr := shapesR_at (ls := ls) (i := i) (by omega)
    have hmem : ls.getD i [] ∈ ls := by rw [List.getD_eq_getElem?_getD, List.getElem?_eq_getElem (by omega)]; exact List.getElem_mem _
    have hyes : p (ls.getD i []) = true → findS p ls = i := fun h => by
      unfold findS; rw [find_yes (p := fun i => p (ls.getD i [])) (i := i) (by omega) h (fun j hj => hall.out j hj)]
    have hmore : p (ls.getD i []) = false → ∀ j, j < i + 1 → p (ls.getD j []) = false := fun h j hj => by
      by_cases q : j = i
      · rw [q]; exact h
      · exact hall.out j (by omega)
    replace hyes := Hid.mk hyes
    replace hmore := Hid.mk hmore
    replace hmem := Hid.mk hmem
    generalize ls.getD i [] = x at hr hmem hyes hmore
    refine AL ?_
    refine CI (hf := hff) ?_
    refine (hp.out x hmem.out _ _ (by omega) hH.out).mono ?_
    rintro r H2 n2 ⟨rfl, hn2, hH2⟩
    replace hH2 := Hid.mk hH2
    cases cq : p x with
    | true =>
      refine AL ?_
      exact ⟨by simp [retA, setF_if, hyes.out cq], by omega, hH2.out⟩
    | false =>
      refine AL ?_
      exact ⟨ls.length - (i + 1), by omega, i + 1, by omega, by omega, by simp [setF_if, *], by simp [setF_if, *], by simp [setF_if, *], by simp [setF_if, *], hH2.out, hmore.out cq⟩
  · refine AL ?_
    have : findS p ls = -1 := by
      unfold findS; rw [find_no (p := fun i => p (ls.getD i [])) (fun j hj => hall.out j (by omega))]
    exact ⟨by simp [retA, setF_if, this], by omega, hH.out⟩
theorem findS_any (p : Shape → Bool) (ls : List Shape) : decide (findS p ls ≥ 0) = ls.any p := by
  unfold findS
  cases h : (List.range ls.length).find? (fun i => p (ls.getD i [])) with
  | none =>
    rw [List.find?_range_eq_none] at h
    symm
    simp only [List.any_eq_false]
    simp
    intro x hx
    obtain ⟨i, hi, rfl⟩ := List.getElem_of_mem hx
    have := h i hi
    simpa [List.getD_eq_getElem?_getD, hi] using this
  | some i =>
    have h1 := List.find?_some h
    have h2 := List.mem_range.mp (List.mem_of_find?_eq_some h)
    simp only [decide_eq_true_eq] at *
    have h3 : ls.any p = true := List.any_eq_true.mpr ⟨ls[i], List.getElem_mem _, by simpa [List.getD_eq_getElem?_getD, h2] using h1⟩
    rw [h3]; simp
theorem containsFunc_fn (G : Gv) (f : FuncId) (caps : List AV) (H0 : Heap) (n0 tg : Nat) (p : Shape → Bool) (ls : List Shape) (hp : Asks G f caps H0 n0 tg p ls) (hff : (Tryz.prog.funcs[f]?).any (fun fn => fn.body.isSome && (fn.name != "runtime.NumGoroutine")) = true) (hls : ls.length < 1000000000)
    (H : Heap) (n : Nat) (hn : n0 ≤ n) (hH : ∀ k, k < n0 → H k = H0 k) :
    WC Tryz.prog G 248 [.sl tg (shapesR ls), .fn f caps] H n (fun r H' n' => r = .b (ls.any p) ∧ n ≤ n' ∧ ∀ k, k < n0 → H' k = H0 k) := by
  refine (.body Tryz.func248 rfl (by simp [Tryz.ntmps248]) ?_)
  rw [Tryz.ntmps248, Tryz.results248]
  replace hH := Hid.mk hH
  replace hp := Hid.mk hp
  refine AL ?_
  refine CI ?_
  refine (indexFunc_fn G f caps H0 n0 tg p ls hp.out hff hls _ _ (by omega) hH.out).mono ?_
  rintro r H2 n2 ⟨rfl, hn2, hH2⟩
  replace hH2 := Hid.mk hH2
  have ha := findS_any p ls
  refine AL ?_
  exact ⟨by simp [retA, setF_if, ha], by omega, hH2.out⟩
theorem alike11_fn (G : Gv) (a b : Shape) (o : Nat) (T : TypeId) (H : Heap) (n tg tb : Nat) (ho : o < n) (hH : H o = some (.box T [.sl tg (cells a)])) (ha : a.length < 1000000000) (hb : b.length < 1000000000) :
    WC Tryz.prog G 250 [.sl tb (cells b), .ptr o 0 0 0] H n (fun r H' n' => r = .b (decide (a = b)) ∧ n ≤ n' ∧ H' = H) := by
  refine (.body Tryz.func250 rfl (by simp [Tryz.ntmps250]) ?_)
  rw [Tryz.ntmps250, Tryz.results250]
  refine AL ?_
  refine CV (equal_fn G a b ha hb) ?_
  refine AL ?_
  refine ⟨by simp [retA, setF_if], by omega, ?_⟩
  first | rfl | trivial
theorem alike1_fn (G : Gv) (a : Shape) (bs : List Shape) (o : Nat) (T : TypeId) (H : Heap) (n tg ta : Nat) (ho : o < n) (hH : H o = some (.box T [.sl tg (shapesR bs)])) (ha : a.length < 1000000000) (hbs : bs.length < 1000000000) (hb : ∀ b ∈ bs, b.length < 1000000000) :
    WC Tryz.prog G 249 [.sl ta (cells a), .ptr o 0 0 0] H n (fun r H' n' => r = .b (bs.any fun b => decide (a = b)) ∧ n ≤ n' ∧ ∀ k, k < n → H' k = H k) := by
  refine (.body Tryz.func249 rfl (by simp [Tryz.ntmps249]) ?_)
  rw [Tryz.ntmps249, Tryz.results249]
  replace hb := Hid.mk hb
  have hno : (o = n) = False := by simp; omega
  refine AL ?_
  refine CI ?_
  refine (containsFunc_fn G 250 [.ptr n 0 0 0] (H.upd n (.box 32 [.sl ta (cells a)])) (n + 1) tg (fun b => decide (a = b)) bs ?_ (by kernel_rfl) hbs _ _ (by omega) (fun k hk => rfl)).mono ?_
  · intro x hx H2 n2 hn2 hH2
    refine (alike11_fn G a x n _ H2 n2 ta tg (by omega) (by rw [hH2 n (by omega)]; exact Heap.upd_same _ _ _) ha (hb.out x hx)).mono ?_
    rintro r H3 n3 ⟨h1, h2, rfl⟩
    exact ⟨h1, h2, hH2⟩
  · rintro r H2 n2 ⟨rfl, hn2, hH2⟩
    replace hH2 := Hid.mk hH2
    refine AL ?_
    refine ⟨by simp [retA, setF_if], by omega, fun k hk => ?_⟩
    rw [hH2.out k (by omega), Heap.upd_ne _ _ (by omega)]
def alikeI (p q : PieceM) : Bool := (formsI p).any fun a => (formsI q).any fun b => decide (a = b)
theorem formsI_ok (p : PieceM) : (formsI p).length ≤ 8 ∧ ∀ x ∈ formsI p, x.length = p.cs.length := by
  have hc : ∀ ls : List Shape, (compactS ls).length ≤ ls.length ∧ ∀ x ∈ compactS ls, x ∈ ls := by
    intro ls
    cases ls with
    | nil => simp [compactS]
    | cons x l =>
      have : ∀ (l : List Shape) (x : Shape), (cptA x l).length ≤ l.length ∧ ∀ y ∈ cptA x l, y ∈ l := by
        intro l
        induction l with
        | nil => simp [cptA]
        | cons y l ih =>
          intro x
          unfold cptA
          split
          · obtain ⟨h1, h2⟩ := ih y
            exact ⟨by simp; omega, fun z hz => List.mem_cons_of_mem _ (h2 z hz)⟩
          · obtain ⟨h1, h2⟩ := ih y
            refine ⟨by simp; omega, fun z hz => ?_⟩
            rcases List.mem_cons.mp hz with rfl | hz
            · exact List.mem_cons_self
            · exact List.mem_cons_of_mem _ (h2 z hz)
      obtain ⟨h1, h2⟩ := this l x
      refine ⟨by simp [compactS]; omega, fun z hz => ?_⟩
      rcases List.mem_cons.mp hz with rfl | hz
      · exact List.mem_cons_self
      · exact List.mem_cons_of_mem _ (h2 z hz)
  have hp := orderS_perm (formsL p.cs (if p.b then 8 else 4))
  unfold formsI tidyM
  obtain ⟨h1, h2⟩ := hc (orderS (formsL p.cs (if p.b then 8 else 4)))
  constructor
  · have h3 : (formsL p.cs (if p.b then 8 else 4)).length ≤ 8 := by unfold formsL; simp; split <;> omega
    have := hp.length_eq
    omega
  · intro x hx
    have := hp.mem_iff.mp (h2 x hx)
    obtain ⟨i, _, rfl⟩ := List.mem_map.mp this
    exact formM_len _ _
theorem alike_fn (G : Gv) (hG : ∀ f args H n r H' n', sortsG f args H n r H' n' → G f args H n r H' n') (hG1 : ∀ f args H n r H' n', sortsG1 f args H n r H' n' → G f args H n r H' n') (p q : PieceM) (h1 : 0 < p.cs.length) (hl : p.cs.length < 1000000000) (h2 : 0 < q.cs.length) (hl2 : q.cs.length < 1000000000) : Gives Tryz.prog G 200 [pieceA 0 p, pieceA 0 q] (.b (alikeI p q)) := by
  refine .of (.body Tryz.func200 rfl (by simp [Tryz.ntmps200]) ?_)
  rw [Tryz.ntmps200, Tryz.results200]
  replace hG := Hid.mk hG
  replace hG1 := Hid.mk hG1
  refine AL ?_
  refine CV (formsOf_fn G hG.out hG1.out q h2 hl2) ?_
  refine AL ?_
  refine CV (formsOf_fn G hG.out hG1.out p h1 hl) ?_
  refine AL ?_
  refine CI ?_
  obtain ⟨k1, k2⟩ := formsI_ok p
  obtain ⟨k3, k4⟩ := formsI_ok q
  refine (containsFunc_fn G _ _ _ 10 1 (fun a => (formsI q).any fun b => decide (a = b)) (formsI p) ?_ (by kernel_rfl) (by omega) _ _ (Nat.le_refl _) (fun _ _ => rfl)).mono ?_
  · intro x hx H n hn hH
    refine (alike1_fn G x (formsI q) 5 146 H n 1 1 (by omega) (by rw [hH 5 (by omega)]; exact Heap.upd_same _ _ _) (by rw [k2 x hx]; exact hl) (by omega) (fun b hb => by rw [k4 b hb]; exact hl2)).mono ?_
    rintro r H2 n2 ⟨rfl, hn2, hH2⟩
    exact ⟨rfl, by omega, fun k hk => by rw [hH2 k (by omega), hH k hk]⟩
  · rintro r H2 n2 ⟨rfl, hn2, hH2⟩
    replace hH2 := Hid.mk hH2
    refine AL ?_
    simp [retA, backA, setF_if, alikeI]
end Go.Proofs
end
section
open Go Go.Big
namespace Go.Proofs
set_option maxHeartbeats 2000000
theorem pieces_at {l : List PieceM} {i : Nat} {p : PieceM} (h : l[i]? = some p) : (pieces l)[i]? = some (pieceR p) := by simp [pieces, h]
theorem pieceM_pos {p : PieceM} (h : pieceM p = true) : 0 < p.cs.length := by
  unfold pieceM at h; simp only [Bool.and_eq_true] at h
  exact shapeM_pos (regionM_shape h.1.1)
theorem pieceS_pos {p : PieceM} (h : pieceS p = true) : 0 < p.cs.length := by
  unfold pieceS regionS at h; simp only [Bool.and_eq_true] at h
  exact shapeM_pos h.1.1.1
/-- No piece before this one has as many cells and is alike. -/
def apartI (l : List PieceM) (i : Nat) (p : PieceM) : Bool := (l.take i).all fun q => !(decide (p.cs.length = q.cs.length) && alikeI p q)
def puzzleI (r : List (Int × Int)) (l : List PieceM) : Bool := regionM r && (decide (1 ≤ l.length) && decide (l.length ≤ 12)) && (List.range l.length).all fun i => pieceM (l.getD i ⟨[], 0, false⟩) && apartI l i (l.getD i ⟨[], 0, false⟩)
theorem take_all {p : PieceM → Bool} {l : List PieceM} {i : Nat} {x : PieceM} (h : l[i]? = some x) : (l.take (i + 1)).all p = ((l.take i).all p && p x) := by
  obtain ⟨hi, hx⟩ := List.getElem?_eq_some_iff.mp h
  rw [List.take_succ_eq_append_getElem hi, List.all_append, hx]; simp
theorem implIsPuzzle_fn (G : Gv) (hG : ∀ f args H n r H' n', sortsG f args H n r H' n' → G f args H n r H' n') (hG1 : ∀ f args H n r H' n', sortsG1 f args H n r H' n' → G f args H n r H' n') (r : List (Int × Int)) (l : List PieceM) (hr : r.length < 1000000000) (hl : l.length < 1000000000) (hc : ∀ p ∈ l, p.cs.length < 1000000000) :
    Gives Tryz.prog G 140 [.ag [.sl 0 (cells r), .sl 0 (pieces l)]] (.b (puzzleI r l)) := by
  refine .of (.body Tryz.func140 rfl (by simp [Tryz.ntmps140]) ?_)
  rw [Tryz.ntmps140, Tryz.results140]
  replace hG := Hid.mk hG
  replace hG1 := Hid.mk hG1
  replace hc := Hid.mk hc
  have hlen := pieces_len l
  refine AL ?_
  refine CV (implIsRegion_fn G r hr) ?_
  by_cases c : regionM r = true
  · by_cases c1 : (l.length : Int) < 1
    · have : puzzleI r l = false := by unfold puzzleI; simp; intro _ h; omega
      refine AL ?_
      simp [retA, backA, this]
    · by_cases c3 : (l.length : Int) > 12
      · have : puzzleI r l = false := by unfold puzzleI; simp; intro _ _ h; omega
        refine AL ?_
        simp [retA, backA, this]
      · have hno : ∀ i, i < l.length → (pieceM (l.getD i ⟨[], 0, false⟩) && apartI l i (l.getD i ⟨[], 0, false⟩)) = false → puzzleI r l = false := fun i hi h => by
          unfold puzzleI
          rw [all_no (f := fun i => pieceM (l.getD i ⟨[], 0, false⟩) && apartI l i (l.getD i ⟨[], 0, false⟩)) hi h]; simp
        replace hno := Hid.mk hno
        refine AL ?_
        refine .loop (.inv (fun d E H n' => ∃ i : Nat, i + d = l.length ∧ 0 < n' ∧ E 1 = .ptr 0 0 0 0 ∧ E 24 = .sl 0 (pieces l) ∧ E 25 = .i .i64 l.length ∧ E 26 = .i .i64 i ∧ H 0 = some (.box 35 [.sl 0 (cells r), .sl 0 (pieces l)]) ∧ (∀ j, j < i → (pieceM (l.getD j ⟨[], 0, false⟩) && apartI l j (l.getD j ⟨[], 0, false⟩)) = true)) l.length ?_ ?_)
        · exact ⟨0, by omega, by omega, by simp [setF_if, argE], by simp [setF_if, argE], by simp [setF_if, argE, hlen], by simp [setF_if, argE], by simp [upd_if], fun j hj => by omega⟩
        rintro d E H n' ⟨i, hi, hn0, h1, h24, h25, h26, hH, hall⟩
        replace hall := Hid.mk hall
        by_cases ci : (i : Int) < l.length
        · have hw_i : IntKind.i64.wrap ((i : Int) + 1) = (i : Int) + 1 := wr64 (by omega) (by omega)
          have ciN : i < l.length := by omega
          obtain ⟨p, hpi⟩ : ∃ p, l[i]? = some p := ⟨_, List.getElem?_eq_getElem ciN⟩
          have hrow := pieces_at hpi
          have hpd : l.getD i ⟨[], 0, false⟩ = p := by rw [List.getD_eq_getElem?_getD, hpi]; rfl
          have hpl := hc.out p (List.mem_of_getElem? hpi)
          have hile : (i ≤ l.length) = True := by simp; omega
          have hs0 : i - 0 = i := rfl
          have hfd : decide (∀ x ∈ pieces l, x.length = 3) = true := decide_eq_true (fun x hx => by
            obtain ⟨p, _, rfl⟩ := List.mem_map.mp hx; rfl)
          have htl : ((pieces l).take i).length = i := by rw [List.length_take, hlen]; omega
          refine AL ?_
          refine CV (implIsPiece_fn G p hpl) ?_
          by_cases cp : pieceM p = true
          · have hpos := pieceM_pos cp
            refine AL ?_
            refine .loop (.inv (fun d2 E H n' => ∃ (j n0 : Nat), j + d2 = i ∧ 0 < n0 ∧ n0 < n' ∧ E 1 = .ptr 0 0 0 0 ∧ E 4 = .ptr n0 0 0 0 ∧ E 24 = .sl 0 (pieces l) ∧ E 25 = .i .i64 l.length ∧ E 26 = .i .i64 i ∧ E 37 = .sl 0 ((pieces l).take i) ∧ E 38 = .i .i64 i ∧ E 39 = .i .i64 j ∧ H 0 = some (.box 35 [.sl 0 (cells r), .sl 0 (pieces l)]) ∧ H n0 = some (.box 68 [.sl 0 (cells p.cs), .i .i64 p.k, .b p.b]) ∧ (l.take j).all (fun q => !(decide (p.cs.length = q.cs.length) && alikeI p q)) = true) i ?_ ?_)
            · exact ⟨0, n' + 4, by omega, by omega, by omega, by simp [setF_if, *], by simp [setF_if, *], by simp [setF_if, *], by simp [setF_if, *], by simp [setF_if, *], by simp [setF_if, *], by simp [setF_if, *], by simp [setF_if, *], by simp [upd_if, *], by simp [upd_if, *], by simp⟩
            clear h1 h24 h25 h26 hH hn0 hfd hrow
            rintro d2 E H n' ⟨j, n0, hj, hn00, hn0n, h1, h4, h24, h25, h26, h37, h38, h39, hH, hH0, hap⟩
            replace hap := Hid.mk hap
            have hn0' : 0 < n' := by omega
            have z1 : (n0 = 0) = False := by simp; omega
            have z2 : (0 = n0) = False := by simp; omega
            by_cases cj : (j : Int) < i
            · have hw_j : IntKind.i64.wrap ((j : Int) + 1) = (j : Int) + 1 := wr64 (by omega) (by omega)
              have cjN : j < i := by omega
              obtain ⟨q, hqi⟩ : ∃ q, l[j]? = some q := ⟨_, List.getElem?_eq_getElem (by omega)⟩
              have hrow : ((pieces l).take i)[j]? = some (pieceR q) := by rw [List.getElem?_take_of_lt cjN]; exact pieces_at hqi
              have hql := hc.out q (List.mem_of_getElem? hqi)
              have hqp : pieceM q = true := by
                have := hall.out j cjN
                rw [List.getD_eq_getElem?_getD, hqi] at this
                simp only [Option.getD_some, Bool.and_eq_true] at this
                exact this.1
              have hq0 := pieceM_pos hqp
              have hta := take_all (p := fun q => !(decide (p.cs.length = q.cs.length) && alikeI p q)) hqi
              replace hta := Hid.mk hta
              have hpc := cells_len p.cs
              have hqc := cells_len q.cs
              by_cases ce : p.cs.length = q.cs.length
              · have hde : ((p.cs.length : Int) == (q.cs.length : Int)) = true := by simp [ce]
                replace ce := Hid.mk ce
                refine AL ?_
                refine CV (alike_fn G hG.out hG1.out p q hpos hpl hq0 hql) ?_
                by_cases ca : alikeI p q = true
                · refine AL ?_
                  have hf : apartI l i p = false := by
                    unfold apartI
                    rw [List.all_eq_false]
                    exact ⟨q, List.mem_of_getElem? (i := j) (by rw [List.getElem?_take_of_lt cjN]; exact hqi), by simp [ce.out, ca]⟩
                  have := hno.out i ciN (by rw [hpd, hf]; simp)
                  simp [retA, backA, this]
                · refine AL ?_
                  refine ⟨d2 - 1, by omega, j + 1, n0, by omega, by omega, by omega, by simp [setF_if, *], by simp [setF_if, *], by simp [setF_if, *], by simp [setF_if, *], by simp [setF_if, *], by simp [setF_if, *], by simp [setF_if, *], by simp [setF_if, *], ?_, ?_, by rw [hta.out, hap.out]; simp [ca]⟩
                  · simp only [upd_if, neAdd hn0', reduceIte, hH]
                  · simp only [upd_if, neAdd hn0n, reduceIte, hH0]
              · have hde : ((p.cs.length : Int) == (q.cs.length : Int)) = false := by simp; omega
                replace ce := Hid.mk ce
                refine AL ?_
                refine ⟨d2 - 1, by omega, j + 1, n0, by omega, by omega, by omega, by simp [setF_if, *], by simp [setF_if, *], by simp [setF_if, *], by simp [setF_if, *], by simp [setF_if, *], by simp [setF_if, *], by simp [setF_if, *], by simp [setF_if, *], ?_, ?_, by rw [hta.out, hap.out]; simp [ce.out]⟩
                · simp only [upd_if, neAdd hn0', reduceIte, hH]
                · simp only [upd_if, neAdd hn0n, reduceIte, hH0]
            · have ej : j = i := by omega
              rw [ej] at hap
              refine AL ?_
              refine ⟨l.length - (i + 1), by omega, i + 1, by omega, by omega, by simp [setF_if, *], by simp [setF_if, *], by simp [setF_if, *], by simp [setF_if, *], by simp [*], fun k hk => ?_⟩
              by_cases q : k = i
              · rw [q, hpd, cp]; exact hap.out
              · exact hall.out k (by omega)
          · refine AL ?_
            have := hno.out i ciN (by rw [hpd]; simp [cp])
            simp [retA, backA, this]
        · have : puzzleI r l = true := by
            unfold puzzleI
            rw [all_yes (f := fun i => pieceM (l.getD i ⟨[], 0, false⟩) && apartI l i (l.getD i ⟨[], 0, false⟩)) (fun j hj => hall.out j (by omega)), c]
            simp; omega
          refine AL ?_
          simp [retA, backA, this]
  · have : puzzleI r l = false := by unfold puzzleI; simp [c]
    refine AL ?_
    simp [retA, backA, this]
end Go.Proofs
end
section
open Go Go.Big
namespace Go.Proofs
set_option maxHeartbeats 2000000
theorem formsP_ok (p : PieceM) : (formsP p).length ≤ 8 ∧ ∀ x ∈ formsP p, x.length = p.cs.length := by
  unfold formsP
  obtain ⟨h1, h2⟩ := formsF_ok p.cs (if p.b then 8 else 4)
  refine ⟨Nat.le_trans h1 (by split <;> omega), h2⟩
def alikeS (p q : PieceM) : Bool := (formsP p).any fun a => (formsP q).any fun b => cmpM a b == 0
theorem take_any {p : Shape → Bool} {l : List Shape} {i : Nat} (h : i < l.length) : (l.take (i + 1)).any p = ((l.take i).any p || p (l.getD i [])) := by
  rw [List.take_succ_eq_append_getElem h, List.any_append]; simp [List.getD_eq_getElem?_getD, h]
theorem any_at {p : Shape → Bool} {l : List Shape} {i : Nat} (h : i < l.length) (hp : p (l.getD i []) = true) : l.any p = true :=
  List.any_eq_true.mpr ⟨l[i], List.getElem_mem _, by simpa [List.getD_eq_getElem?_getD, h] using hp⟩
theorem l11Alike_fn (G : Gv) (p q : PieceM) (h1 : 0 < p.cs.length) (hl : p.cs.length < 1000000000) (h2 : 0 < q.cs.length) (hl2 : q.cs.length < 1000000000) : Gives Tryz.prog G 199 [pieceA 0 p, pieceA 0 q] (.b (alikeS p q)) := by
  refine .of (.body Tryz.func199 rfl (by simp [Tryz.ntmps199]) ?_)
  rw [Tryz.ntmps199, Tryz.results199]
  obtain ⟨a1, a2⟩ := formsP_ok p
  obtain ⟨b1, b2⟩ := formsP_ok q
  replace a2 := Hid.mk a2
  replace b2 := Hid.mk b2
  have hal := shapesR_len (formsP p)
  have hbl := shapesR_len (formsP q)
  refine AL ?_
  refine CQ (l11Forms_fn G p h1 hl) ?_
  refine AL ?_
  refine CQ (l11Forms_fn G q h2 hl2) ?_
  unfold alikeS
  generalize formsP p = fa at *
  generalize formsP q = fb at *
  refine AL ?_
  refine .loop (.inv (fun d E H n' => ∃ i : Nat, i + d = fa.length ∧ E 5 = .sl 1 (shapesR fa) ∧ E 6 = .sl 1 (shapesR fb) ∧ E 7 = .i .i64 i ∧ (fa.take i).any (fun a => fb.any fun b => cmpM a b == 0) = false) fa.length ?_ ?_)
  · exact ⟨0, by omega, by simp [setF_if, argE], by simp [setF_if, argE], by simp [setF_if, argE], by simp⟩
  rintro d E H n' ⟨i, hi, h5, h6, h7, hany⟩
  replace hany := Hid.mk hany
  by_cases c : (i : Int) < fa.length
  · have hw_i : IntKind.i64.wrap ((i : Int) + 1) = (i : Int) + 1 := wr64 (by omega) (by omega)
    have cN : i < fa.length := by omega
    have hr := shapesR_at (ls := fa) (i := i) cN
    have hta := take_any (p := fun a => fb.any fun b => cmpM a b == 0) cN
    have hat := any_at (p := fun a => fb.any fun b => cmpM a b == 0) cN
    have hxl : (fa.getD i []).length < 1000000000 := by rw [a2.out _ (by rw [List.getD_eq_getElem?_getD, List.getElem?_eq_getElem cN]; exact List.getElem_mem _)]; exact hl
    replace hta := Hid.mk hta
    replace hat := Hid.mk hat
    generalize fa.getD i [] = x at hr hta hat hxl
    refine AL ?_
    refine .loop (.inv (fun d2 E H n' => ∃ j : Nat, j + d2 = fb.length ∧ E 5 = .sl 1 (shapesR fa) ∧ E 6 = .sl 1 (shapesR fb) ∧ E 7 = .i .i64 i ∧ E 8 = .i .i64 j ∧ (fb.take j).any (fun b => cmpM x b == 0) = false) fb.length ?_ ?_)
    · exact ⟨0, by omega, by simp [setF_if, *], by simp [setF_if, *], by simp [setF_if, *], by simp [setF_if, *], by simp⟩
    clear h5 h6 h7
    rintro d2 E H n' ⟨j, hj, h5, h6, h7, h8, hany2⟩
    replace hany2 := Hid.mk hany2
    by_cases cj : (j : Int) < fb.length
    · have hw_j : IntKind.i64.wrap ((j : Int) + 1) = (j : Int) + 1 := wr64 (by omega) (by omega)
      have cjN : j < fb.length := by omega
      have hrb := shapesR_at (ls := fb) (i := j) cjN
      have htb := take_any (p := fun b => cmpM x b == 0) cjN
      have hbt := any_at (p := fun b => cmpM x b == 0) cjN
      have hyl : (fb.getD j []).length < 1000000000 := by rw [b2.out _ (by rw [List.getD_eq_getElem?_getD, List.getElem?_eq_getElem cjN]; exact List.getElem_mem _)]; exact hl2
      replace htb := Hid.mk htb
      replace hbt := Hid.mk hbt
      generalize fb.getD j [] = y at hrb htb hbt hyl
      refine AL ?_
      refine CQ (specCompareShapes_fn G x y hxl hyl) ?_
      by_cases cc : (cmpM x y == 0) = true
      · refine AL ?_
        simp [retA, backA, hat.out (hbt.out cc)]
      · simp only [Bool.not_eq_true] at cc
        refine AL ?_
        exact ⟨fb.length - (j + 1), by omega, j + 1, by omega, by simp [setF_if, *], by simp [setF_if, *], by simp [setF_if, *], by simp [setF_if, *], by rw [htb.out, hany2.out, cc]; rfl⟩
    · have ej : j = fb.length := by omega
      rw [ej, List.take_length] at hany2
      refine AL ?_
      exact ⟨fa.length - (i + 1), by omega, i + 1, by omega, by simp [setF_if, *], by simp [setF_if, *], by simp [setF_if, *], by rw [hta.out, hany.out, hany2.out]; rfl⟩
  · have e' : i = fa.length := by omega
    rw [e', List.take_length] at hany
    refine AL ?_
    simp [retA, backA, hany.out]
def apartS (l : List PieceM) (i : Nat) (p : PieceM) : Bool := (l.take i).all fun q => !alikeS p q
def puzzleS (r : List (Int × Int)) (l : List PieceM) : Bool := regionS r && (decide ((l.length : Int) ≥ 1) && decide ((l.length : Int) ≤ 12)) && (List.range l.length).all fun i => pieceS (l.getD i ⟨[], 0, false⟩) && apartS l i (l.getD i ⟨[], 0, false⟩)
theorem specIsPuzzle_fn (G : Gv) (r : List (Int × Int)) (l : List PieceM) (hr : r.length < 1000000000) (hl : l.length < 1000000000) (hc : ∀ p ∈ l, p.cs.length < 1000000000) :
    Gives Tryz.prog G 136 [.ag [.sl 0 (cells r), .sl 0 (pieces l)]] (.b (puzzleS r l)) := by
  refine .of (.body Tryz.func136 rfl (by simp [Tryz.ntmps136]) ?_)
  rw [Tryz.ntmps136, Tryz.results136]
  replace hc := Hid.mk hc
  have hlen := pieces_len l
  refine AL ?_
  refine CV (specIsRegion_fn G r hr) ?_
  by_cases c : regionS r = true
  · refine AL ?_
    refine CV (l01In_fn G _ _ _) ?_
    by_cases c1 : (decide ((l.length : Int) ≥ 1) && decide ((l.length : Int) ≤ 12)) = true
    · have hno : ∀ i, i < l.length → (pieceS (l.getD i ⟨[], 0, false⟩) && apartS l i (l.getD i ⟨[], 0, false⟩)) = false → puzzleS r l = false := fun i hi h => by
        unfold puzzleS
        rw [all_no (f := fun i => pieceS (l.getD i ⟨[], 0, false⟩) && apartS l i (l.getD i ⟨[], 0, false⟩)) hi h]; simp
      replace hno := Hid.mk hno
      refine AL ?_
      refine .loop (.inv (fun d E H n' => ∃ i : Nat, i + d = l.length ∧ E 1 = .ptr 0 0 0 0 ∧ E 3 = .i .i64 i ∧ H 0 = some (.box 35 [.sl 0 (cells r), .sl 0 (pieces l)]) ∧ (∀ j, j < i → (pieceS (l.getD j ⟨[], 0, false⟩) && apartS l j (l.getD j ⟨[], 0, false⟩)) = true)) l.length ?_ ?_)
      · exact ⟨0, by omega, by simp [setF_if, argE], by simp [setF_if, argE], by simp [upd_if], fun j hj => by omega⟩
      rintro d E H n' ⟨i, hi, h1, h3, hH, hall⟩
      replace hall := Hid.mk hall
      by_cases ci : (i : Int) < l.length
      · have hw_i : IntKind.i64.wrap ((i : Int) + 1) = (i : Int) + 1 := wr64 (by omega) (by omega)
        have ciN : i < l.length := by omega
        obtain ⟨p, hpi⟩ : ∃ p, l[i]? = some p := ⟨_, List.getElem?_eq_getElem ciN⟩
        have hrow := pieces_at hpi
        have hpd : l.getD i ⟨[], 0, false⟩ = p := by rw [List.getD_eq_getElem?_getD, hpi]; rfl
        have hpl := hc.out p (List.mem_of_getElem? hpi)
        replace hpd := Hid.mk hpd
        refine AL ?_
        refine CV (specIsPiece_fn G p hpl) ?_
        by_cases cp : pieceS p = true
        · have hpos := pieceS_pos cp
          refine AL ?_
          refine .loop (.inv (fun d2 E H n' => ∃ j : Nat, j + d2 = i ∧ E 1 = .ptr 0 0 0 0 ∧ E 3 = .i .i64 i ∧ E 4 = .i .i64 j ∧ H 0 = some (.box 35 [.sl 0 (cells r), .sl 0 (pieces l)]) ∧ (l.take j).all (fun q => !alikeS p q) = true) i ?_ ?_)
          · exact ⟨0, by omega, by simp [setF_if, *], by simp [setF_if, *], by simp [setF_if, *], by simp [upd_if, *], by simp⟩
          clear h1 h3 hH
          rintro d2 E H n' ⟨j, hj, h1, h3, h4, hH, hap⟩
          replace hap := Hid.mk hap
          by_cases cj : (j : Int) < i
          · have hw_j : IntKind.i64.wrap ((j : Int) + 1) = (j : Int) + 1 := wr64 (by omega) (by omega)
            have cjN : j < i := by omega
            obtain ⟨q, hqi⟩ : ∃ q, l[j]? = some q := ⟨_, List.getElem?_eq_getElem (by omega)⟩
            have hrow2 := pieces_at hqi
            have hql := hc.out q (List.mem_of_getElem? hqi)
            have hqp : pieceS q = true := by
              have := hall.out j cjN
              rw [List.getD_eq_getElem?_getD, hqi] at this
              simp only [Option.getD_some, Bool.and_eq_true] at this
              exact this.1
            have hq0 := pieceS_pos hqp
            have hta := take_all (p := fun q => !alikeS p q) hqi
            replace hta := Hid.mk hta
            refine AL ?_
            refine CQ (l11Alike_fn G p q hpos hpl hq0 hql) ?_
            by_cases ca : alikeS p q = true
            · refine AL ?_
              have hf : apartS l i p = false := by
                unfold apartS
                rw [List.all_eq_false]
                exact ⟨q, List.mem_of_getElem? (i := j) (by rw [List.getElem?_take_of_lt cjN]; exact hqi), by simp [ca]⟩
              have := hno.out i ciN (by rw [hpd.out, hf]; simp)
              simp [retA, backA, this]
            · refine AL ?_
              exact ⟨d2 - 1, by omega, j + 1, by omega, by simp [setF_if, *], by simp [setF_if, *], by simp [setF_if, *], by simp [upd_if, *], by rw [hta.out, hap.out]; simp [ca]⟩
          · have ej : j = i := by omega
            rw [ej] at hap
            refine AL ?_
            refine ⟨l.length - (i + 1), by omega, i + 1, by omega, by simp [setF_if, *], by simp [setF_if, *], by simp [*], fun k hk => ?_⟩
            by_cases q : k = i
            · rw [q, hpd.out, cp]; exact hap.out
            · exact hall.out k (by omega)
        · refine AL ?_
          have := hno.out i ciN (by rw [hpd.out]; simp [cp])
          simp [retA, backA, this]
      · have : puzzleS r l = true := by
          unfold puzzleS
          rw [all_yes (f := fun i => pieceS (l.getD i ⟨[], 0, false⟩) && apartS l i (l.getD i ⟨[], 0, false⟩)) (fun j hj => hall.out j (by omega)), c, c1]; rfl
        refine AL ?_
        simp [retA, backA, this]
    · have : puzzleS r l = false := by
        simp only [Bool.not_eq_true] at c1
        unfold puzzleS; rw [c1]; simp
      refine AL ?_
      simp [retA, backA, this]
  · have : puzzleS r l = false := by unfold puzzleS; simp [c]
    refine AL ?_
    simp [retA, backA, this]
end Go.Proofs
end
