/- The statement's law: it answers true if the two agree. No condition. -/
import Derived.Test.YtdbkkjoejomcmaaGreatBO
import Derived.Test.YtdbkkjoejomcmaaGreatWk14
import Derived.Test.YtdbkkjoejomcmaaGreatBC
set_option linter.unusedVariables false
set_option linter.unusedSimpArgs false
section
open Go Go.Big
namespace Go.Proofs
set_option maxHeartbeats 2000000
theorem giveOf_last {H : Heap} {a za b : AV} {q : List (List PV)} {S : List Nat} (h : ownX H (.ag [a, za]) (.ag [b, .sl 1 q]) S) : giveA H za = some (.sl 0 q) := by
  obtain ⟨zi, z, s1, s2, e, _, _, h2⟩ := ownX_ag2 h
  cases e
  exact ownX_gives h2
theorem szP_cnt : ∀ {l : List PieceM} {left : Int}, ¬ szP l left < 0 → cntQ l ≤ 2 * left + 2 * l.length
  | [], left, h => by simp only [szP] at h; simp only [cntQ, List.length_nil]; omega
  | p :: l, left, h => by
    unfold szP at h
    split at h
    · simp at h
    · rename_i c
      have := szP_cnt h
      unfold szN at c this
      split at c
      · simp at c
      · rename_i c2
        rw [if_neg c2] at this
        simp only [cntQ, List.length_cons]; omega
theorem szPz_cnt {r : List (Int × Int)} {l : List PieceM} {left : Int} (h : ¬ szPz r l left < 0) : cntQ l ≤ 2 * left + 2 * left := by
  unfold szPz at h
  split at h
  · simp at h
  · rename_i c
    unfold szPS at h
    split at h
    · simp at h
    · rename_i c2
      have := szP_cnt h
      have := szN_le c
      omega
theorem szPL_cnt : ∀ {l : List (Int × List Int)} {left : Int}, ¬ szPL l left < 0 → cntP l ≤ left + l.length
  | [], left, h => by simp only [szPL] at h; simp only [cntP, List.length_nil]; omega
  | p :: l, left, h => by
    unfold szPL at h
    split at h
    · simp at h
    · rename_i c
      have := szPL_cnt h
      unfold szN at c this
      split at c
      · simp at c
      · rename_i c2
        rw [if_neg c2] at this
        simp only [cntP, List.length_cons]; omega
theorem szPLS_cnt {l : List (Int × List Int)} {left : Int} (h : ¬ szPLS l left < 0) : cntP l ≤ left + left := by
  unfold szPLS at h
  split at h
  · simp at h
  · have := szPL_cnt h
    omega
theorem law_fn (G : Gv) (hA : AllK G) (r : List (Int × Int)) (l : List PieceM) (s : List (Int × List Int))
    (hr : r.length ≤ 9223372036854775807) (hl : l.length ≤ 9223372036854775807) (hc : ∀ p ∈ l, p.cs.length ≤ 9223372036854775807) (hs : s.length ≤ 9223372036854775807) (hsc : ∀ x ∈ s, x.2.length ≤ 9223372036854775807)
    (hpure : r.length < 1000000000 → l.length < 1000000000 → (∀ p ∈ l, p.cs.length < 1000000000) → s.length < 1000000000 → (∀ x ∈ s, x.2.length < 1000000000) → stabI r l s = stabS r l s ∧ ((stabI r l s).1.length < 1000000000)) :
    Gives Tryz.prog G 12 [.ag [.sl 0 (cells r), .sl 0 (pieces l)], .sl 0 (places s)] (.b true) := by
  refine .of (.body Tryz.func12 rfl (by simp [Tryz.ntmps12]) ?_)
  rw [Tryz.ntmps12, Tryz.results12]
  replace hA := Hid.mk hA
  replace hc := Hid.mk hc
  replace hsc := Hid.mk hsc
  replace hpure := Hid.mk hpure
  refine AX ?_
  refine CV (szPuzzle_fn G r l 1048576 hr hl hc.out (by omega) (by omega)) ?_
  by_cases c1 : szPz r l 1048576 < 0
  · refine AX ?_
    simp [retA, backA]
  obtain ⟨ga1, gb1, gc1, gd1, ge1⟩ := szPz_le (left := 1048576) (by omega) c1
  replace gc1 := Hid.mk gc1
  refine AX ?_
  refine CV (szPlacementS_fn G s _ hs hsc.out (by omega) (by omega)) ?_
  by_cases c2 : szPLS s (szPz r l 1048576) < 0
  · refine AX ?_
    simp [retA, backA]
  obtain ⟨ga2, gc2⟩ := szPLS_le (left := szPz r l 1048576) (by omega) c2
  replace gc2 := Hid.mk gc2
  have hr9 : r.length < 1000000000 := by omega
  have hl9 : l.length < 1000000000 := by omega
  have hc9 : ∀ p ∈ l, p.cs.length < 1000000000 := fun p hp => by have := gc1.out p hp; omega
  have hs9 : s.length < 1000000000 := by omega
  have hsc9 : ∀ x ∈ s, x.2.length < 1000000000 := fun p hp => by have := gc2.out p hp; omega
  have hkq : cntQ l < 100000000000 := by have := szPz_cnt c1; omega
  have hkq0 := cntQ_nn l
  have hkp : cntP s < 100000000000 := by have := szPLS_cnt c2; omega
  have hkp0 := cntP_nn s
  obtain ⟨hp, hwl⟩ := hpure.out hr9 hl9 hc9 hs9 hsc9
  replace hc9 := Hid.mk hc9
  replace hsc9 := Hid.mk hsc9
  have hspec := specStabilizerOf_fn G r l s hr9 hl9 hc9.out hs9 hsc9.out
  have himpl := implStabilizerOf_o G hA.out r l s hr9 hl9 hc9.out hs9 hsc9.out
  rw [← hp] at hspec
  clear hp
  generalize stabI r l s = W at hspec himpl hwl
  obtain ⟨w, wc⟩ := W
  simp only at hspec himpl hwl
  have hbb : (wc != wc) = false := by simp
  replace hspec := Hid.mk hspec
  replace himpl := Hid.mk himpl
  clear gc1 gc2
  refine AX ?_
  refine CV (toPuzzle_fn G r l hr9 hl9 hc9.out) ?_
  refine AX ?_
  refine CV (toPlacementS_fn G s hs9 hsc9.out) ?_
  refine AX ?_
  refine CV hspec.out ?_
  refine AX ?_
  refine CWO (toPuzzle_o G r l hr9 hl9 hc9.out) ?_
  intro z1 Hh1 S1 m1 hz1 hn1 hS1 hf1 hm1
  have B0 := hf1 0 (by omega)
  simp [upd_if] at B0
  obtain ⟨za1, zb1, sa1, sb1, rfl, rfl, Xa1, Xb1⟩ := ownX_ag2 hz1
  have Ra1 := fun o (ho : o ∈ sa1) => hS1 o (by simp [ho])
  have Rb1 := fun o (ho : o ∈ sb1) => hS1 o (by simp [ho])
  clear hz1 hS1 hf1
  replace Xa1 := Hid.mk Xa1
  replace Ra1 := Hid.mk Ra1
  replace Xb1 := Hid.mk Xb1
  replace Rb1 := Hid.mk Rb1
  replace hn1 := Hid.mk hn1
  refine AX ?_
  have pl_za1 := (ownX_plain (ownX_congr (H' := Hh1.upd (m1) (.box 35 [.nil, .nil])) (fun o ho => by rw [upd_if, if_neg (by have := Ra1.out o ho; omega)]) Xa1.out)).1
  have pl_zb1 := (ownX_plain (ownX_congr (H' := Hh1.upd (m1) (.box 35 [.nil, .nil])) (fun o ho => by rw [upd_if, if_neg (by have := Rb1.out o ho; omega)]) Xb1.out)).1
  refine OPN (op := .store 35 (.tmp 8) (.tmp 36)) (H1 := (Hh1.upd (m1) (.box 35 [.nil, .nil])).upd (m1) (.box 35 [za1, zb1])) (y := .un) ?_ (hs := by
    rw [st_store]
    simp only [look_tmp, setF_if, Nat.reduceEqDiff, reduceIte, flatA, List.all_cons, List.all_nil, pl_za1, pl_zb1, Bool.and_self, BT.all, storeA, upd_if, putA, List.length_cons, List.length_nil, Nat.reduceAdd, Nat.reduceLeDiff, List.set_cons_zero, List.set_cons_succ, Option.map_some])
  repeat first | refine OP ?_ | refine SK ?_ | refine OPN ?_ | refine WR.nil ?_
  refine TH ?_
  refine W.cutn ?_
  intro EX1 HX1 NX1 hEX hHX hNX
  have e1_1 := hEX 1
  have e2_1 := hEX 2
  have e6_1 := hEX 6
  have e7_1 := hEX 7
  have e8_1 := hEX 8
  simp only [setF_if, argE, Nat.reduceEqDiff, reduceIte, List.getElem?_cons_zero, List.getElem?_cons_succ, Option.getD_some] at e1_1 e2_1 e6_1 e7_1 e8_1
  have hN1 : m1 < NX1 := by omega
  have B0' := (show HX1 (0) = Hh1 (0) by rw [hHX, upd_if, if_neg (by omega), upd_if, if_neg (by omega)]).trans B0
  have bx1 : HX1 (m1) = some (.box 35 [za1, zb1]) := by rw [hHX, upd_if, if_pos rfl]
  have Xa1' := ownX_congr (H' := HX1) (fun o ho => by have := Ra1.out o ho; rw [hHX, upd_if, if_neg (by omega), upd_if, if_neg (by omega)]) Xa1.out
  clear Xa1
  replace Xa1' := Hid.mk Xa1'
  have Xb1' := ownX_congr (H' := HX1) (fun o ho => by have := Rb1.out o ho; rw [hHX, upd_if, if_neg (by omega), upd_if, if_neg (by omega)]) Xb1.out
  clear Xb1
  replace Xb1' := Hid.mk Xb1'
  clear hEX hHX hNX pl_za1 pl_zb1 B0
  refine AX ?_
  refine CWO (toPlacementS_o G s hs9 hsc9.out) ?_
  intro z2 Hh2 S2 m2 hz2 hn2 hS2 hf2 hm2
  have B0'' := (hf2 (0) (by omega)).trans B0'
  clear B0'
  have bx1' := (hf2 (m1) (by omega)).trans bx1
  clear bx1
  have Xa1'' := ownX_congr (fun o ho => hf2 o (by have := Ra1.out o ho; omega)) Xa1'.out
  clear Xa1'
  replace Xa1'' := Hid.mk Xa1''
  have Xb1'' := ownX_congr (fun o ho => hf2 o (by have := Rb1.out o ho; omega)) Xb1'.out
  clear Xb1'
  replace Xb1'' := Hid.mk Xb1''
  have R2 := hS2
  clear hS2 hf2
  have gl2 := ownX_gives hz2
  clear gl2
  replace hz2 := Hid.mk hz2
  replace R2 := Hid.mk R2
  replace hn2 := Hid.mk hn2
  have ga1 := ownX_gives Xa1''.out
  have gb1 := ownX_gives Xb1''.out
  have g2 := ownX_gives hz2.out
  refine AX ?_
  refine CWO himpl.out ?_
  intro z3 Hh3 S3 m3 hz3 hn3 hS3 hf3 hm3
  try clear ga1
  try clear gb1
  try clear g2
  have B0''' := (hf3 (0) (by omega)).trans B0''
  clear B0''
  have bx1'' := (hf3 (m1) (by omega)).trans bx1'
  clear bx1'
  have Xa1''' := ownX_congr (fun o ho => hf3 o (by have := Ra1.out o ho; omega)) Xa1''.out
  clear Xa1''
  replace Xa1''' := Hid.mk Xa1'''
  have Xb1''' := ownX_congr (fun o ho => hf3 o (by have := Rb1.out o ho; omega)) Xb1''.out
  clear Xb1''
  replace Xb1''' := Hid.mk Xb1'''
  have hz2' := ownX_congr (fun o ho => hf3 o (by have := R2.out o ho; omega)) hz2.out
  clear hz2
  replace hz2' := Hid.mk hz2'
  obtain ⟨zw3, zc3, Sw3, Sc3, rfl, rfl, hw3, hc3⟩ := ownX_tup2 hz3
  obtain ⟨rfl, rfl⟩ := ownX_i hc3
  simp only [List.append_nil] at hn3 hS3
  clear hc3 hz3
  have R3 := hS3
  clear hS3 hf3
  replace hw3 := Hid.mk hw3
  replace R3 := Hid.mk R3
  replace hn3 := Hid.mk hn3
  have ga1 := ownX_gives Xa1'''.out
  have gb1 := ownX_gives Xb1'''.out
  have g2 := ownX_gives hz2'.out
  have g3 := ownX_gives hw3.out
  refine AX ?_
  refine CV (eqInt64S_fn G w hwl) ?_
  refine AX ?_
  refine DR ?_
  refine AX ?_
  refine CQ (toPuzzle_fn G r l hr9 hl9 hc9.out) ?_
  refine AX ?_
  refine CQ (eqPuzzle_fn G r l hr9 hl9 hc9.out) ?_
  refine AX ?_
  refine CV (toPlacementS_fn G s hs9 hsc9.out) ?_
  refine AX ?_
  refine CV (eqPlacementS_fn G s hs9 hsc9.out) ?_
  refine AX ?_
  refine CI ?_
  refine WC.mono (markPuzzle_m G r l 1 hr9 hl9 hc9.out (by omega) (by omega) _ _ _ (sa1 ++ sb1) (ownX_mk2 Xa1'''.out Xb1'''.out) (by simpa using hn1.out) (fun o ho => by simp only [List.nil_append, List.mem_append] at ho; rcases ho with ho | ho; have := Ra1.out o ho; omega; have := Rb1.out o ho; omega)) ?_
  rintro _ Hh4 m4 ⟨rfl, hm4, hw4, hf4⟩
  try clear ga1
  try clear gb1
  try clear g2
  try clear g3
  have B0'''' := (hf4 (0) (by omega) (fun h => by simp only [List.nil_append, List.mem_append] at h; rcases h with h | h; have := Ra1.out _ h; omega; have := Rb1.out _ h; omega)).trans B0'''
  clear B0'''
  have bx1''' := (hf4 (m1) (by omega) (fun h => by simp only [List.nil_append, List.mem_append] at h; rcases h with h | h; have := Ra1.out _ h; omega; have := Rb1.out _ h; omega)).trans bx1''
  clear bx1''
  have hz2'' := ownX_congr (fun o ho => hf4 o (by have := R2.out o ho; omega) (fun h => by have := R2.out o ho; simp only [List.nil_append, List.mem_append] at h; rcases h with h | h; have := Ra1.out _ h; omega; have := Rb1.out _ h; omega)) hz2'.out
  clear hz2'
  replace hz2'' := Hid.mk hz2''
  have hw3' := ownX_congr (fun o ho => hf4 o (by have := R3.out o ho; omega) (fun h => by have := R3.out o ho; simp only [List.nil_append, List.mem_append] at h; rcases h with h | h; have := Ra1.out _ h; omega; have := Rb1.out _ h; omega)) hw3.out
  clear hw3
  replace hw3' := Hid.mk hw3'
  clear hf4 hw4
  refine AX ?_
  refine CI ?_
  refine WC.mono (markPlacementS_m G s (1 + 2 * r.length + cntQ l) hs9 hsc9.out (by omega) (by omega) _ _ _ S2 hz2''.out hn2.out (fun o ho => by have := R2.out o ho; omega)) ?_
  rintro _ Hh5 m5 ⟨rfl, hm5, hw5, hf5⟩
  try clear g2
  try clear g3
  have B0''''' := (hf5 (0) (by omega) (fun h => by have := R2.out _ h; omega)).trans B0''''
  clear B0''''
  have bx1'''' := (hf5 (m1) (by omega) (fun h => by have := R2.out _ h; omega)).trans bx1'''
  clear bx1'''
  have hw3'' := ownX_congr (fun o ho => hf5 o (by have := R3.out o ho; omega) (fun h => by have := R3.out o ho; have := R2.out _ h; omega)) hw3'.out
  clear hw3'
  replace hw3'' := Hid.mk hw3''
  clear hf5 hw5
  have hkn : ¬ (1 + 2 * r.length + cntQ l + cntP s < 0) := by omega
  have g3 := ownX_gives hw3''.out
  refine AX ?_
  refine CV (eqInt64S_fn G w hwl) ?_
  refine AX ?_
  refine CI ?_
  refine WC.mono (markInt64S_m G w 1 hwl (by omega) (by omega) _ _ _ Sw3 hw3''.out hn3.out (fun o ho => by have := R3.out o ho; omega)) ?_
  rintro _ Hh6 m6 ⟨rfl, hm6, hw6, hf6⟩
  try clear g3
  have B0'''''' := (hf6 (0) (by omega) (fun h => by have := R3.out _ h; omega)).trans B0'''''
  clear B0'''''
  have bx1''''' := (hf6 (m1) (by omega) (fun h => by have := R3.out _ h; omega)).trans bx1''''
  clear bx1''''
  clear hf6
  try clear hkn
  have hkn : ¬ (1 + (w.length : Int) < 0) := by omega
  have hkk : (1 + (w.length : Int) != 1 + (w.length : Int)) = false := by simp
  have g3 := ownX_gives hw6
  clear hw6
  refine AX ?_
  refine CV (heldInt64S_fn G 1 w.length hwl (by omega) (by omega)) ?_
  refine AX ?_
  refine CV (toPuzzle_fn G r l hr9 hl9 hc9.out) ?_
  refine AX ?_
  refine CV (toPlacementS_fn G s hs9 hsc9.out) ?_
  have hlt0 : 0 < m6 := by omega
  have hlt1 : m1 < m6 := by omega
  refine AX ?_
  refine CV himpl.out.gives ?_
  refine AX ?_
  refine CV (eqInt64S_fn G w hwl) ?_
  refine AX ?_
  refine CV (heldInt64S_fn G 1 w.length hwl (by omega) (by omega)) ?_
  refine AX ?_
  simp [retA, backA]
end Go.Proofs
end
