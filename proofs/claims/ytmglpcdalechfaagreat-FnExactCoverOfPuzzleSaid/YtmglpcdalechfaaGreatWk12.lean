/- The statement's law: it answers true if the two agree. No condition. -/
import Derived.Test.YtmglpcdalechfaaGreatBO
import Derived.Test.YtmglpcdalechfaaGreatWk11
import Derived.Test.YtmglpcdalechfaaGreatBC
set_option linter.unusedVariables false
set_option linter.unusedSimpArgs false
section
open Go Go.Big
namespace Go.Proofs
set_option maxHeartbeats 2000000
theorem giveOf_last {H : Heap} {a za b : AV} {q : List (List PV)} {S : List Nat} (h : ownX H (.ag [a, za]) (.ag [b, .sl 1 q]) S) : giveA H za = some (.sl 0 q) := by
  obtain ⟨zi, z, s1, s2, e, _, _, h2⟩ := ownX_ag2 h
  cases e
  exact ownX_gives h2
theorem szP_cnt : ∀ {l : List PieceM} {left : Int}, ¬ szP l left < 0 → cntQ l ≤ 2 * left + 2 * l.length
  | [], left, h => by simp only [szP] at h; simp only [cntQ, List.length_nil]; omega
  | p :: l, left, h => by
    unfold szP at h
    split at h
    · simp at h
    · rename_i c
      have := szP_cnt h
      unfold szN at c this
      split at c
      · simp at c
      · rename_i c2
        rw [if_neg c2] at this
        simp only [cntQ, List.length_cons]; omega
theorem szPz_cnt {r : List (Int × Int)} {l : List PieceM} {left : Int} (h : ¬ szPz r l left < 0) : cntQ l ≤ 2 * left + 2 * left := by
  unfold szPz at h
  split at h
  · simp at h
  · rename_i c
    unfold szPS at h
    split at h
    · simp at h
    · rename_i c2
      have := szP_cnt h
      have := szN_le c
      omega
theorem szPL_cnt : ∀ {l : List (Int × List Int)} {left : Int}, ¬ szPL l left < 0 → cntP l ≤ left + l.length
  | [], left, h => by simp only [szPL] at h; simp only [cntP, List.length_nil]; omega
  | p :: l, left, h => by
    unfold szPL at h
    split at h
    · simp at h
    · rename_i c
      have := szPL_cnt h
      unfold szN at c this
      split at c
      · simp at c
      · rename_i c2
        rw [if_neg c2] at this
        simp only [cntP, List.length_cons]; omega
theorem szPLS_cnt {l : List (Int × List Int)} {left : Int} (h : ¬ szPLS l left < 0) : cntP l ≤ left + left := by
  unfold szPLS at h
  split at h
  · simp at h
  · have := szPL_cnt h
    omega
theorem law_fn (G : Gv) (hA : AllC G) (r : List (Int × Int)) (l : List PieceM)
    (hr : r.length ≤ 9223372036854775807) (hl : l.length ≤ 9223372036854775807) (hc : ∀ p ∈ l, p.cs.length ≤ 9223372036854775807)
    (hpure : r.length < 1000000000 → l.length < 1000000000 → (∀ p ∈ l, p.cs.length < 1000000000) → covM (fitsI r l) r l = covM (fitsS r l) r l ∧ ((covM (fitsI r l) r l).1.2.length < 1000000000) ∧ (∀ x ∈ (covM (fitsI r l) r l).1.2, x.length < 1000000000) ∧ (cntL (covM (fitsI r l) r l).1.2 < 100000000000)) :
    Gives Tryz.prog G 3 [.ag [.sl 0 (cells r), .sl 0 (pieces l)]] (.b true) := by
  refine .of (.body Tryz.func3 rfl (by simp [Tryz.ntmps3]) ?_)
  rw [Tryz.ntmps3, Tryz.results3]
  replace hA := Hid.mk hA
  replace hc := Hid.mk hc
  replace hpure := Hid.mk hpure
  refine AX ?_
  refine CV (szPuzzle_fn G r l 1048576 hr hl hc.out (by omega) (by omega)) ?_
  by_cases c1 : szPz r l 1048576 < 0
  · refine AX ?_
    simp [retA, backA]
  obtain ⟨ga1, gb1, gc1, gd1, ge1⟩ := szPz_le (left := 1048576) (by omega) c1
  replace gc1 := Hid.mk gc1
  have hr9 : r.length < 1000000000 := by omega
  have hl9 : l.length < 1000000000 := by omega
  have hc9 : ∀ p ∈ l, p.cs.length < 1000000000 := fun p hp => by have := gc1.out p hp; omega
  have hkq : cntQ l < 100000000000 := by have := szPz_cnt c1; omega
  have hkq0 := cntQ_nn l
  obtain ⟨hp, hwl, hwc, hwk⟩ := hpure.out hr9 hl9 hc9
  replace hc9 := Hid.mk hc9
  have hspec := specCoverOfPuzzle_fn G hA.out.ok r l hr9 hl9 hc9.out (fun h => cov_ord h)
  have himpl := implCoverOfPuzzle_o G hA.out.toAllG hA.out.ok r l hr9 hl9 hc9.out
  rw [← hp] at hspec
  clear hp
  generalize covM (fitsI r l) r l = W at hspec himpl hwl hwc hwk
  obtain ⟨⟨wj, w⟩, wc⟩ := W
  simp only at hspec himpl hwl hwc hwk
  have hbb : (wc != wc) = false := by simp
  have hwk0 := cntL_nn w
  replace hwc := Hid.mk hwc
  replace hspec := Hid.mk hspec
  replace himpl := Hid.mk himpl
  clear gc1
  refine AX ?_
  refine CV (toPuzzle_fn G r l hr9 hl9 hc9.out) ?_
  refine AX ?_
  refine CV hspec.out ?_
  refine AX ?_
  refine CWO (toPuzzle_o G r l hr9 hl9 hc9.out) ?_
  intro z1 Hh1 S1 m1 hz1 hn1 hS1 hf1 hm1
  have B0 := hf1 0 (by omega)
  simp [upd_if] at B0
  have B15 := hf1 15 (by omega)
  simp [upd_if] at B15
  obtain ⟨za1, zb1, sa1, sb1, rfl, rfl, Xa1, Xb1⟩ := ownX_ag2 hz1
  have Ra1 := fun o (ho : o ∈ sa1) => hS1 o (by simp [ho])
  have Rb1 := fun o (ho : o ∈ sb1) => hS1 o (by simp [ho])
  clear hz1 hS1 hf1
  replace Xa1 := Hid.mk Xa1
  replace Ra1 := Hid.mk Ra1
  replace Xb1 := Hid.mk Xb1
  replace Rb1 := Hid.mk Rb1
  replace hn1 := Hid.mk hn1
  refine AX ?_
  have pl_za1 := (ownX_plain (ownX_congr (H' := Hh1.upd (m1) (.box 35 [.nil, .nil])) (fun o ho => by rw [upd_if, if_neg (by have := Ra1.out o ho; omega)]) Xa1.out)).1
  have pl_zb1 := (ownX_plain (ownX_congr (H' := Hh1.upd (m1) (.box 35 [.nil, .nil])) (fun o ho => by rw [upd_if, if_neg (by have := Rb1.out o ho; omega)]) Xb1.out)).1
  refine OPN (op := .store 35 (.tmp 6) (.tmp 26)) (H1 := (Hh1.upd (m1) (.box 35 [.nil, .nil])).upd (m1) (.box 35 [za1, zb1])) (y := .un) ?_ (hs := by
    rw [st_store]
    simp only [look_tmp, setF_if, Nat.reduceEqDiff, reduceIte, flatA, List.all_cons, List.all_nil, pl_za1, pl_zb1, Bool.and_self, BT.all, storeA, upd_if, putA, List.length_cons, List.length_nil, Nat.reduceAdd, Nat.reduceLeDiff, List.set_cons_zero, List.set_cons_succ, Option.map_some])
  repeat first | refine OP ?_ | refine SK ?_ | refine OPN ?_ | refine WR.nil ?_
  refine TH ?_
  refine W.cutn ?_
  intro EX1 HX1 NX1 hEX hHX hNX
  have e1_1 := hEX 1
  have e4_1 := hEX 4
  have e5_1 := hEX 5
  have e6_1 := hEX 6
  simp only [setF_if, argE, Nat.reduceEqDiff, reduceIte, List.getElem?_cons_zero, List.getElem?_cons_succ, Option.getD_some] at e1_1 e4_1 e5_1 e6_1
  have hN1 : m1 < NX1 := by omega
  have B0' := (show HX1 (0) = Hh1 (0) by rw [hHX, upd_if, if_neg (by omega), upd_if, if_neg (by omega)]).trans B0
  have B15' := (show HX1 (15) = Hh1 (15) by rw [hHX, upd_if, if_neg (by omega), upd_if, if_neg (by omega)]).trans B15
  have bx1 : HX1 (m1) = some (.box 35 [za1, zb1]) := by rw [hHX, upd_if, if_pos rfl]
  have Xa1' := ownX_congr (H' := HX1) (fun o ho => by have := Ra1.out o ho; rw [hHX, upd_if, if_neg (by omega), upd_if, if_neg (by omega)]) Xa1.out
  clear Xa1
  replace Xa1' := Hid.mk Xa1'
  have Xb1' := ownX_congr (H' := HX1) (fun o ho => by have := Rb1.out o ho; rw [hHX, upd_if, if_neg (by omega), upd_if, if_neg (by omega)]) Xb1.out
  clear Xb1
  replace Xb1' := Hid.mk Xb1'
  clear hEX hHX hNX pl_za1 pl_zb1 B0 B15
  have ga1 := ownX_gives Xa1'.out
  have gb1 := ownX_gives Xb1'.out
  refine AX ?_
  refine CWO himpl.out ?_
  intro z2 Hh2 S2 m2 hz2 hn2 hS2 hf2 hm2
  try clear ga1
  try clear gb1
  have B0'' := (hf2 (0) (by omega)).trans B0'
  clear B0'
  have B15'' := (hf2 (15) (by omega)).trans B15'
  clear B15'
  have bx1' := (hf2 (m1) (by omega)).trans bx1
  clear bx1
  have Xa1'' := ownX_congr (fun o ho => hf2 o (by have := Ra1.out o ho; omega)) Xa1'.out
  clear Xa1'
  replace Xa1'' := Hid.mk Xa1''
  have Xb1'' := ownX_congr (fun o ho => hf2 o (by have := Rb1.out o ho; omega)) Xb1'.out
  clear Xb1'
  replace Xb1'' := Hid.mk Xb1''
  obtain ⟨zw2, zc2, Sw2, Sc2, rfl, rfl, hw2, hc2⟩ := ownX_tup2 hz2
  obtain ⟨rfl, rfl⟩ := ownX_i hc2
  simp only [List.append_nil] at hn2 hS2
  clear hc2 hz2
  obtain ⟨za2, zb2, zc2, sa2, sb2, sc2, rfl, rfl, Xa2, Xb2, Xc2⟩ := ownX_ag3 hw2
  obtain ⟨rfl, rfl⟩ := ownX_i Xa2
  clear Xa2
  obtain ⟨rfl, rfl⟩ := ownX_i Xb2
  clear Xb2
  have Rc2 := fun o (ho : o ∈ sc2) => hS2 o (by simp [ho])
  clear hw2 hS2 hf2
  replace Xc2 := Hid.mk Xc2
  replace Rc2 := Hid.mk Rc2
  replace hn2 := Hid.mk hn2
  refine AX ?_
  have pl_ii64wj : plainA (Hh2.upd (m2 + 3) (.box 29 [.i .i64 0, .i .i64 0, .nil])) ((.i .i64 wj)) = true := rfl
  have pl_zc2 := (ownX_plain (ownX_congr (H' := Hh2.upd (m2 + 3) (.box 29 [.i .i64 0, .i .i64 0, .nil])) (fun o ho => by rw [upd_if, if_neg (by have := Rc2.out o ho; omega)]) Xc2.out)).1
  refine OPN (op := .store 29 (.tmp 7) (.tmp 30)) (H1 := (Hh2.upd (m2 + 3) (.box 29 [.i .i64 0, .i .i64 0, .nil])).upd (m2 + 3) (.box 29 [(.i .i64 wj), (.i .i64 wj), zc2])) (y := .un) ?_ (hs := by
    rw [st_store]
    simp only [look_tmp, setF_if, Nat.reduceEqDiff, reduceIte, flatA, List.all_cons, List.all_nil, pl_ii64wj, pl_ii64wj, pl_zc2, Bool.and_self, BT.all, storeA, upd_if, putA, List.length_cons, List.length_nil, Nat.reduceAdd, Nat.reduceLeDiff, List.set_cons_zero, List.set_cons_succ, Option.map_some])
  repeat first | refine OP ?_ | refine SK ?_ | refine OPN ?_ | refine WR.nil ?_
  refine TH ?_
  refine W.cutn ?_
  intro EX2 HX2 NX2 hEX hHX hNX
  have e1_2 := hEX 1
  have e4_2 := hEX 4
  have e5_2 := hEX 5
  have e6_2 := hEX 6
  have e7_2 := hEX 7
  have e8_2 := hEX 8
  simp only [setF_if, argE, Nat.reduceEqDiff, reduceIte, List.getElem?_cons_zero, List.getElem?_cons_succ, Option.getD_some, e1_1, e4_1, e5_1, e6_1] at e1_2 e4_2 e5_2 e6_2 e7_2 e8_2
  have hN2 : m2 + 3 < NX2 := by omega
  have B0''' := (show HX2 (0) = Hh2 (0) by rw [hHX, upd_if, if_neg (by omega), upd_if, if_neg (by omega)]).trans B0''
  have B15''' := (show HX2 (15) = Hh2 (15) by rw [hHX, upd_if, if_neg (by omega), upd_if, if_neg (by omega)]).trans B15''
  have bx1'' := (show HX2 (m1) = Hh2 (m1) by rw [hHX, upd_if, if_neg (by omega), upd_if, if_neg (by omega)]).trans bx1'
  have bx2 : HX2 (m2 + 3) = some (.box 29 [(.i .i64 wj), (.i .i64 wj), zc2]) := by rw [hHX, upd_if, if_pos rfl]
  have Xa1''' := ownX_congr (H' := HX2) (fun o ho => by have := Ra1.out o ho; rw [hHX, upd_if, if_neg (by omega), upd_if, if_neg (by omega)]) Xa1''.out
  clear Xa1''
  replace Xa1''' := Hid.mk Xa1'''
  have Xb1''' := ownX_congr (H' := HX2) (fun o ho => by have := Rb1.out o ho; rw [hHX, upd_if, if_neg (by omega), upd_if, if_neg (by omega)]) Xb1''.out
  clear Xb1''
  replace Xb1''' := Hid.mk Xb1'''
  have Xc2' := ownX_congr (H' := HX2) (fun o ho => by have := Rc2.out o ho; rw [hHX, upd_if, if_neg (by omega), upd_if, if_neg (by omega)]) Xc2.out
  clear Xc2
  replace Xc2' := Hid.mk Xc2'
  clear hEX hHX hNX pl_ii64wj pl_zc2 B0'' B15'' bx1' e1_1 e4_1 e5_1 e6_1
  have ga1 := ownX_gives Xa1'''.out
  have gb1 := ownX_gives Xb1'''.out
  have gc2 := ownX_gives Xc2'.out
  refine AX ?_
  refine CV (eqCover_fn G wj wj w hwl hwc.out) ?_
  refine AX ?_
  refine DR ?_
  refine AX ?_
  refine CQ (toPuzzle_fn G r l hr9 hl9 hc9.out) ?_
  refine AX ?_
  refine CQ (eqPuzzle_fn G r l hr9 hl9 hc9.out) ?_
  refine AX ?_
  refine CI ?_
  refine WC.mono (markPuzzle_m G r l 1 hr9 hl9 hc9.out (by omega) (by omega) _ _ _ (sa1 ++ sb1) (ownX_mk2 Xa1'''.out Xb1'''.out) (by simpa using hn1.out) (fun o ho => by simp only [List.nil_append, List.mem_append] at ho; rcases ho with ho | ho; have := Ra1.out o ho; omega; have := Rb1.out o ho; omega)) ?_
  rintro _ Hh3 m3 ⟨rfl, hm3, hw3, hf3⟩
  try clear ga1
  try clear gb1
  try clear gc2
  have B0'''' := (hf3 (0) (by omega) (fun h => by simp only [List.nil_append, List.mem_append] at h; rcases h with h | h; have := Ra1.out _ h; omega; have := Rb1.out _ h; omega)).trans B0'''
  clear B0'''
  have B15'''' := (hf3 (15) (by omega) (fun h => by simp only [List.nil_append, List.mem_append] at h; rcases h with h | h; have := Ra1.out _ h; omega; have := Rb1.out _ h; omega)).trans B15'''
  clear B15'''
  have bx1''' := (hf3 (m1) (by omega) (fun h => by simp only [List.nil_append, List.mem_append] at h; rcases h with h | h; have := Ra1.out _ h; omega; have := Rb1.out _ h; omega)).trans bx1''
  clear bx1''
  have bx2' := (hf3 (m2 + 3) (by omega) (fun h => by simp only [List.nil_append, List.mem_append] at h; rcases h with h | h; have := Ra1.out _ h; omega; have := Rb1.out _ h; omega)).trans bx2
  clear bx2
  have Xc2'' := ownX_congr (fun o ho => hf3 o (by have := Rc2.out o ho; omega) (fun h => by have := Rc2.out o ho; simp only [List.nil_append, List.mem_append] at h; rcases h with h | h; have := Ra1.out _ h; omega; have := Rb1.out _ h; omega)) Xc2'.out
  clear Xc2'
  replace Xc2'' := Hid.mk Xc2''
  clear hf3 hw3
  have hkn : ¬ (1 + 2 * r.length + cntQ l < 0) := by omega
  have gc2 := ownX_gives Xc2''.out
  refine AX ?_
  refine CV (eqCover_fn G wj wj w hwl hwc.out) ?_
  refine AX ?_
  refine CI ?_
  refine WC.mono (markCover_m G wj wj w 1 hwl hwc.out (by omega) (by omega) _ _ _ (([] : List Nat) ++ (([] : List Nat) ++ sc2)) (ownX_mk3 ownX_mki ownX_mki Xc2''.out) (by simpa using hn2.out) (fun o ho => by simp only [List.nil_append, List.mem_append] at ho; skip; have := Rc2.out o ho; omega)) ?_
  rintro _ Hh4 m4 ⟨rfl, hm4, hw4, hf4⟩
  try clear gc2
  have B0''''' := (hf4 (0) (by omega) (fun h => by simp only [List.nil_append, List.mem_append] at h; have := Rc2.out _ h; omega)).trans B0''''
  clear B0''''
  have B15''''' := (hf4 (15) (by omega) (fun h => by simp only [List.nil_append, List.mem_append] at h; have := Rc2.out _ h; omega)).trans B15''''
  clear B15''''
  have bx1'''' := (hf4 (m1) (by omega) (fun h => by simp only [List.nil_append, List.mem_append] at h; have := Rc2.out _ h; omega)).trans bx1'''
  clear bx1'''
  have bx2'' := (hf4 (m2 + 3) (by omega) (fun h => by simp only [List.nil_append, List.mem_append] at h; have := Rc2.out _ h; omega)).trans bx2'
  clear bx2'
  clear hf4
  try clear hkn
  have hkn : ¬ (1 + cntL w < 0) := by omega
  have hkk : (1 + cntL w != 1 + cntL w) = false := by simp
  have gc2 := giveOf_last3 hw4
  replace hw4 := Hid.mk hw4
  refine AX ?_
  refine CV (heldCover_fn G wj wj w 1 hwl hwc.out (by omega) (by omega)) ?_
  refine AX ?_
  refine CV (toPuzzle_fn G r l hr9 hl9 hc9.out) ?_
  have hlt0 : 0 < m4 := by omega
  have hlt1 : 15 < m4 := by omega
  have hlt2 : m1 < m4 := by omega
  have hlt3 : m2 + 3 < m4 := by omega
  have hltb3 : m2 < m4 := by omega
  refine AX ?_
  refine CV himpl.out.gives ?_
  repeat first | refine OP ?_ | refine OPN ?_ | refine WR.nil ?_
  refine TH ?_
  refine W.cutn ?_
  intro EX3 HX3 NX3 hEX hHX hNX
  have e4_3 := hEX 4
  have e5_3 := hEX 5
  have e7_3 := hEX 7
  have e10_3 := hEX 10
  have e12_3 := hEX 12
  have e13_3 := hEX 13
  simp only [setF_if, argE, Nat.reduceEqDiff, reduceIte, List.getElem?_cons_zero, List.getElem?_cons_succ, Option.getD_some, e1_2, e4_2, e5_2, e6_2, e7_2, e8_2] at e4_3 e5_3 e7_3 e10_3 e12_3 e13_3
  have hN3 : m4 + 17 < NX3 := by omega
  have B0'''''' := (show HX3 (0) = Hh4 (0) by rw [hHX, upd_if, if_neg (by omega), upd_if, if_neg (by omega)]).trans B0'''''
  have B15'''''' := (show HX3 (15) = Hh4 (15) by rw [hHX, upd_if, if_neg (by omega), upd_if, if_neg (by omega)]).trans B15'''''
  have bx1''''' := (show HX3 (m1) = Hh4 (m1) by rw [hHX, upd_if, if_neg (by omega), upd_if, if_neg (by omega)]).trans bx1''''
  have bx2''' := (show HX3 (m2 + 3) = Hh4 (m2 + 3) by rw [hHX, upd_if, if_neg (by omega), upd_if, if_neg (by omega)]).trans bx2''
  have bxL : HX3 (m4 + 17) = some (.box 29 [.i .i64 wj, .i .i64 wj, .sl 1 (listsR w)]) := by rw [hHX, upd_if, if_pos rfl]
  clear gc2
  have gc2 := giveOf_last3 (ownX_congr (H' := HX3) (fun o ho => by simp only [List.nil_append] at ho; have := Rc2.out o ho; rw [hHX, upd_if, if_neg (by omega), upd_if, if_neg (by omega)]) hw4.out)
  clear hEX hHX hNX B0''''' B15''''' bx1'''' bx2'' e1_2 e4_2 e5_2 e6_2 e7_2 e8_2
  refine AX ?_
  refine CV (eqCover_fn G wj wj w hwl hwc.out) ?_
  refine AX ?_
  refine CV (heldCover_fn G wj wj w 1 hwl hwc.out (by omega) (by omega)) ?_
  refine AX ?_
  simp [retA, backA]
end Go.Proofs
end
