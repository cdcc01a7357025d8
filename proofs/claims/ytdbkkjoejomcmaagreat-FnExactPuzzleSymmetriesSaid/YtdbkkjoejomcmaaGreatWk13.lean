/- Walks: The statement's law: it answers true if the two agree. No condition. | The row of FnExactPuzzleSymmetries, out of what is left: two plain functions agree. No condition. | Plain law: the symmetries of a puzzle, both programs. No condition. | The sorts' contracts hold. No condition. | The sorts' contracts hold, that of numbers too. No condition. | The sorts' contracts hold, and are known to hold. No condition. -/
import Derived.Test.YtdbkkjoejomcmaaGreatBO
import Derived.Test.YtdbkkjoejomcmaaGreatWk12
import Derived.Test.YtdbkkjoejomcmaaGreatBC
import Derived.Test.YtdbkkjoejomcmaaGreatBigOpen
import Derived.Test.YtdbkkjoejomcmaaGreatRows
import Derived.WalkKit
import Derived.ProofKit
import Derived.OpenShut
import Derived.ShutString
import Derived.ChangeOld
import Derived.Below
import Derived.SizedLaws
import Derived.Test.YtdbkkjoejomcmaaGreatWk9
import Derived.Test.YtdbkkjoejomcmaaGreatShelf
import Derived.Test.YtdbkkjoejomcmaaGreatWk11
import Derived.Test.YtdbkkjoejomcmaaGreatShelfI
set_option linter.unusedVariables false
set_option linter.unusedSimpArgs false
section
open Go Go.Big
namespace Go.Proofs
set_option maxHeartbeats 2000000
theorem giveOf_last {H : Heap} {a za b : AV} {q : List (List PV)} {S : List Nat} (h : ownX H (.ag [a, za]) (.ag [b, .sl 1 q]) S) : giveA H za = some (.sl 0 q) := by
  obtain ⟨zi, z, s1, s2, e, _, _, h2⟩ := ownX_ag2 h
  cases e
  exact ownX_gives h2
theorem szP_cnt : ∀ {l : List PieceM} {left : Int}, ¬ szP l left < 0 → cntQ l ≤ 2 * left + 2 * l.length
  | [], left, h => by simp only [szP] at h; simp only [cntQ, List.length_nil]; omega
  | p :: l, left, h => by
    unfold szP at h
    split at h
    · simp at h
    · rename_i c
      have := szP_cnt h
      unfold szN at c this
      split at c
      · simp at c
      · rename_i c2
        rw [if_neg c2] at this
        simp only [cntQ, List.length_cons]; omega
theorem szPz_cnt {r : List (Int × Int)} {l : List PieceM} {left : Int} (h : ¬ szPz r l left < 0) : cntQ l ≤ 2 * left + 2 * left := by
  unfold szPz at h
  split at h
  · simp at h
  · rename_i c
    unfold szPS at h
    split at h
    · simp at h
    · rename_i c2
      have := szP_cnt h
      have := szN_le c
      omega
theorem szPL_cnt : ∀ {l : List (Int × List Int)} {left : Int}, ¬ szPL l left < 0 → cntP l ≤ left + l.length
  | [], left, h => by simp only [szPL] at h; simp only [cntP, List.length_nil]; omega
  | p :: l, left, h => by
    unfold szPL at h
    split at h
    · simp at h
    · rename_i c
      have := szPL_cnt h
      unfold szN at c this
      split at c
      · simp at c
      · rename_i c2
        rw [if_neg c2] at this
        simp only [cntP, List.length_cons]; omega
theorem szPLS_cnt {l : List (Int × List Int)} {left : Int} (h : ¬ szPLS l left < 0) : cntP l ≤ left + left := by
  unfold szPLS at h
  split at h
  · simp at h
  · have := szPL_cnt h
    omega
theorem law_fn (G : Gv) (hA : AllK G) (r : List (Int × Int)) (l : List PieceM)
    (hr : r.length ≤ 9223372036854775807) (hl : l.length ≤ 9223372036854775807) (hc : ∀ p ∈ l, p.cs.length ≤ 9223372036854775807)
    (hpure : r.length < 1000000000 → l.length < 1000000000 → (∀ p ∈ l, p.cs.length < 1000000000) → psymI r l = psymS r l ∧ ((psymI r l).1.length < 1000000000)) :
    Gives Tryz.prog G 10 [.ag [.sl 0 (cells r), .sl 0 (pieces l)]] (.b true) := by
  refine .of (.body Tryz.func10 rfl (by simp [Tryz.ntmps10]) ?_)
  rw [Tryz.ntmps10, Tryz.results10]
  replace hA := Hid.mk hA
  replace hc := Hid.mk hc
  replace hpure := Hid.mk hpure
  refine AX ?_
  refine CV (szPuzzle_fn G r l 1048576 hr hl hc.out (by omega) (by omega)) ?_
  by_cases c1 : szPz r l 1048576 < 0
  · refine AX ?_
    simp [retA, backA]
  obtain ⟨ga1, gb1, gc1, gd1, ge1⟩ := szPz_le (left := 1048576) (by omega) c1
  replace gc1 := Hid.mk gc1
  have hr9 : r.length < 1000000000 := by omega
  have hl9 : l.length < 1000000000 := by omega
  have hc9 : ∀ p ∈ l, p.cs.length < 1000000000 := fun p hp => by have := gc1.out p hp; omega
  have hkq : cntQ l < 100000000000 := by have := szPz_cnt c1; omega
  have hkq0 := cntQ_nn l
  obtain ⟨hp, hwl⟩ := hpure.out hr9 hl9 hc9
  replace hc9 := Hid.mk hc9
  have hspec := specPuzzleSymmetries_fn G r l hr9 hl9 hc9.out
  have himpl := implPuzzleSymmetries_o G hA.out r l hr9 hl9 hc9.out
  rw [← hp] at hspec
  clear hp
  generalize psymI r l = W at hspec himpl hwl
  obtain ⟨w, wc⟩ := W
  simp only at hspec himpl hwl
  have hbb : (wc != wc) = false := by simp
  replace hspec := Hid.mk hspec
  replace himpl := Hid.mk himpl
  clear gc1
  refine AX ?_
  refine CV (toPuzzle_fn G r l hr9 hl9 hc9.out) ?_
  refine AX ?_
  refine CV hspec.out ?_
  refine AX ?_
  refine CWO (toPuzzle_o G r l hr9 hl9 hc9.out) ?_
  intro z1 Hh1 S1 m1 hz1 hn1 hS1 hf1 hm1
  have B0 := hf1 0 (by omega)
  simp [upd_if] at B0
  obtain ⟨za1, zb1, sa1, sb1, rfl, rfl, Xa1, Xb1⟩ := ownX_ag2 hz1
  have Ra1 := fun o (ho : o ∈ sa1) => hS1 o (by simp [ho])
  have Rb1 := fun o (ho : o ∈ sb1) => hS1 o (by simp [ho])
  clear hz1 hS1 hf1
  replace Xa1 := Hid.mk Xa1
  replace Ra1 := Hid.mk Ra1
  replace Xb1 := Hid.mk Xb1
  replace Rb1 := Hid.mk Rb1
  replace hn1 := Hid.mk hn1
  refine AX ?_
  have pl_za1 := (ownX_plain (ownX_congr (H' := Hh1.upd (m1) (.box 35 [.nil, .nil])) (fun o ho => by rw [upd_if, if_neg (by have := Ra1.out o ho; omega)]) Xa1.out)).1
  have pl_zb1 := (ownX_plain (ownX_congr (H' := Hh1.upd (m1) (.box 35 [.nil, .nil])) (fun o ho => by rw [upd_if, if_neg (by have := Rb1.out o ho; omega)]) Xb1.out)).1
  refine OPN (op := .store 35 (.tmp 6) (.tmp 26)) (H1 := (Hh1.upd (m1) (.box 35 [.nil, .nil])).upd (m1) (.box 35 [za1, zb1])) (y := .un) ?_ (hs := by
    rw [st_store]
    simp only [look_tmp, setF_if, Nat.reduceEqDiff, reduceIte, flatA, List.all_cons, List.all_nil, pl_za1, pl_zb1, Bool.and_self, BT.all, storeA, upd_if, putA, List.length_cons, List.length_nil, Nat.reduceAdd, Nat.reduceLeDiff, List.set_cons_zero, List.set_cons_succ, Option.map_some])
  repeat first | refine OP ?_ | refine SK ?_ | refine OPN ?_ | refine WR.nil ?_
  refine TH ?_
  refine W.cutn ?_
  intro EX1 HX1 NX1 hEX hHX hNX
  have e1_1 := hEX 1
  have e4_1 := hEX 4
  have e5_1 := hEX 5
  have e6_1 := hEX 6
  simp only [setF_if, argE, Nat.reduceEqDiff, reduceIte, List.getElem?_cons_zero, List.getElem?_cons_succ, Option.getD_some] at e1_1 e4_1 e5_1 e6_1
  have hN1 : m1 < NX1 := by omega
  have B0' := (show HX1 (0) = Hh1 (0) by rw [hHX, upd_if, if_neg (by omega), upd_if, if_neg (by omega)]).trans B0
  have bx1 : HX1 (m1) = some (.box 35 [za1, zb1]) := by rw [hHX, upd_if, if_pos rfl]
  have Xa1' := ownX_congr (H' := HX1) (fun o ho => by have := Ra1.out o ho; rw [hHX, upd_if, if_neg (by omega), upd_if, if_neg (by omega)]) Xa1.out
  clear Xa1
  replace Xa1' := Hid.mk Xa1'
  have Xb1' := ownX_congr (H' := HX1) (fun o ho => by have := Rb1.out o ho; rw [hHX, upd_if, if_neg (by omega), upd_if, if_neg (by omega)]) Xb1.out
  clear Xb1
  replace Xb1' := Hid.mk Xb1'
  clear hEX hHX hNX pl_za1 pl_zb1 B0
  have ga1 := ownX_gives Xa1'.out
  have gb1 := ownX_gives Xb1'.out
  refine AX ?_
  refine CWO himpl.out ?_
  intro z2 Hh2 S2 m2 hz2 hn2 hS2 hf2 hm2
  try clear ga1
  try clear gb1
  have B0'' := (hf2 (0) (by omega)).trans B0'
  clear B0'
  have bx1' := (hf2 (m1) (by omega)).trans bx1
  clear bx1
  have Xa1'' := ownX_congr (fun o ho => hf2 o (by have := Ra1.out o ho; omega)) Xa1'.out
  clear Xa1'
  replace Xa1'' := Hid.mk Xa1''
  have Xb1'' := ownX_congr (fun o ho => hf2 o (by have := Rb1.out o ho; omega)) Xb1'.out
  clear Xb1'
  replace Xb1'' := Hid.mk Xb1''
  obtain ⟨zw2, zc2, Sw2, Sc2, rfl, rfl, hw2, hc2⟩ := ownX_tup2 hz2
  obtain ⟨rfl, rfl⟩ := ownX_i hc2
  simp only [List.append_nil] at hn2 hS2
  clear hc2 hz2
  have R2 := hS2
  clear hS2 hf2
  replace hw2 := Hid.mk hw2
  replace R2 := Hid.mk R2
  replace hn2 := Hid.mk hn2
  have ga1 := ownX_gives Xa1''.out
  have gb1 := ownX_gives Xb1''.out
  have g2 := ownX_gives hw2.out
  refine AX ?_
  refine CV (eqInt64S_fn G w hwl) ?_
  refine AX ?_
  refine DR ?_
  refine AX ?_
  refine CQ (toPuzzle_fn G r l hr9 hl9 hc9.out) ?_
  refine AX ?_
  refine CQ (eqPuzzle_fn G r l hr9 hl9 hc9.out) ?_
  refine AX ?_
  refine CI ?_
  refine WC.mono (markPuzzle_m G r l 1 hr9 hl9 hc9.out (by omega) (by omega) _ _ _ (sa1 ++ sb1) (ownX_mk2 Xa1''.out Xb1''.out) (by simpa using hn1.out) (fun o ho => by simp only [List.nil_append, List.mem_append] at ho; rcases ho with ho | ho; have := Ra1.out o ho; omega; have := Rb1.out o ho; omega)) ?_
  rintro _ Hh3 m3 ⟨rfl, hm3, hw3, hf3⟩
  try clear ga1
  try clear gb1
  try clear g2
  have B0''' := (hf3 (0) (by omega) (fun h => by simp only [List.nil_append, List.mem_append] at h; rcases h with h | h; have := Ra1.out _ h; omega; have := Rb1.out _ h; omega)).trans B0''
  clear B0''
  have bx1'' := (hf3 (m1) (by omega) (fun h => by simp only [List.nil_append, List.mem_append] at h; rcases h with h | h; have := Ra1.out _ h; omega; have := Rb1.out _ h; omega)).trans bx1'
  clear bx1'
  have hw2' := ownX_congr (fun o ho => hf3 o (by have := R2.out o ho; omega) (fun h => by have := R2.out o ho; simp only [List.nil_append, List.mem_append] at h; rcases h with h | h; have := Ra1.out _ h; omega; have := Rb1.out _ h; omega)) hw2.out
  clear hw2
  replace hw2' := Hid.mk hw2'
  clear hf3 hw3
  have hkn : ¬ (1 + 2 * r.length + cntQ l < 0) := by omega
  have g2 := ownX_gives hw2'.out
  refine AX ?_
  refine CV (eqInt64S_fn G w hwl) ?_
  refine AX ?_
  refine CI ?_
  refine WC.mono (markInt64S_m G w 1 hwl (by omega) (by omega) _ _ _ Sw2 hw2'.out hn2.out (fun o ho => by have := R2.out o ho; omega)) ?_
  rintro _ Hh4 m4 ⟨rfl, hm4, hw4, hf4⟩
  try clear g2
  have B0'''' := (hf4 (0) (by omega) (fun h => by have := R2.out _ h; omega)).trans B0'''
  clear B0'''
  have bx1''' := (hf4 (m1) (by omega) (fun h => by have := R2.out _ h; omega)).trans bx1''
  clear bx1''
  clear hf4
  try clear hkn
  have hkn : ¬ (1 + (w.length : Int) < 0) := by omega
  have hkk : (1 + (w.length : Int) != 1 + (w.length : Int)) = false := by simp
  have g2 := ownX_gives hw4
  clear hw4
  refine AX ?_
  refine CV (heldInt64S_fn G 1 w.length hwl (by omega) (by omega)) ?_
  refine AX ?_
  refine CV (toPuzzle_fn G r l hr9 hl9 hc9.out) ?_
  have hlt0 : 0 < m4 := by omega
  have hlt1 : m1 < m4 := by omega
  refine AX ?_
  refine CV himpl.out.gives ?_
  refine AX ?_
  refine CV (eqInt64S_fn G w hwl) ?_
  refine AX ?_
  refine CV (heldInt64S_fn G 1 w.length hwl (by omega) (by omega)) ?_
  refine AX ?_
  simp [retA, backA]
end Go.Proofs
end
section
namespace Go.Proofs.YtdbkkjoejomcmaaGreat.fnExactPuzzleSymmetries
open Go Go.Big Go.ChangeShapes Go.WideShapes Go.ChangeAt Go.RowKit Go.Proofs
set_option maxHeartbeats 2000000
def Pure : Prop := ∀ (r : List (Int × Int)) (l : List PieceM), (∀ x ∈ r, wf64 x.1 ∧ wf64 x.2) → (∀ p ∈ l, (∀ x ∈ p.cs, wf64 x.1 ∧ wf64 x.2) ∧ wf64 p.k) → r.length < 1000000000 → l.length < 1000000000 → (∀ p ∈ l, p.cs.length < 1000000000) → psymI r l = psymS r l ∧ ((psymI r l).1.length < 1000000000)
theorem own : ownKnob Tryz.prog.godebug = none := by kernel_rfl
theorem laidOut : laidOutB Tryz.prog = true := by kernel_rfl
section
variable {H : Type} {enc : TypeId × Value → H} {w : World} {base : Nat} {spare : Nat → Bool} {held : Bool}
theorem op_cell : Opens enc Tryz.prog w base spare held 119 (fun x : Int × Int => [.i .i64 x.1, .i .i64 x.2]) (fun x => wf64 x.1 ∧ wf64 x.2) :=
  op_fields2 Tryz.underlying119 (by kernel_rfl) rfl (by kernel_rfl) (op_int Tryz.underlying2) (op_int Tryz.underlying2)
theorem op_cells : Opens enc Tryz.prog w base spare held 22 (fun x : List (Int × Int) => [.sl (cells x)]) (fun l => l.length ≤ maxLen ∧ ∀ x ∈ l, wf64 x.1 ∧ wf64 x.2) :=
  op_slice Tryz.underlying22 (of_decide_eq_true (by kernel_rfl)) op_cell
theorem op_piece : Opens enc Tryz.prog w base spare held 114 pieceR (fun p => (p.cs.length ≤ maxLen ∧ ∀ x ∈ p.cs, wf64 x.1 ∧ wf64 x.2) ∧ wf64 p.k ∧ True) :=
  op_iso (fun p : PieceM => (p.cs, p.k, p.b)) (fun a => ⟨a.1, a.2.1, a.2.2⟩) (fun _ => rfl) (op_fields3 Tryz.underlying114 (by kernel_rfl) rfl (by kernel_rfl) (by kernel_rfl) op_cells (op_int Tryz.underlying2) (op_bool Tryz.underlying4))
theorem op_pieces : Opens enc Tryz.prog w base spare held 23 (fun x : List PieceM => [.sl (pieces x)]) (fun l => l.length ≤ maxLen ∧ ∀ p ∈ l, (p.cs.length ≤ maxLen ∧ ∀ x ∈ p.cs, wf64 x.1 ∧ wf64 x.2) ∧ wf64 p.k ∧ True) :=
  op_slice Tryz.underlying23 (of_decide_eq_true (by kernel_rfl)) op_piece
theorem op_puzzle : Opens enc Tryz.prog w base spare held 25 (fun x : List (Int × Int) × List PieceM => [.sl (cells x.1), .sl (pieces x.2)]) (fun x => (x.1.length ≤ maxLen ∧ ∀ y ∈ x.1, wf64 y.1 ∧ wf64 y.2) ∧ (x.2.length ≤ maxLen ∧ ∀ p ∈ x.2, (p.cs.length ≤ maxLen ∧ ∀ y ∈ p.cs, wf64 y.1 ∧ wf64 y.2) ∧ wf64 p.k ∧ True)) :=
  op_fields2 Tryz.underlying25 (by kernel_rfl) rfl (by kernel_rfl) op_cells op_pieces
theorem op_ints : Opens enc Tryz.prog w base spare held 29 (fun x : List Int => [.sl (ints x)]) (fun l => l.length ≤ maxLen ∧ ∀ x ∈ l, wf64 x) :=
  op_slice Tryz.underlying29 (of_decide_eq_true (by kernel_rfl)) (op_int Tryz.underlying2)
theorem op_placement : Opens enc Tryz.prog w base spare held 53 (fun x : Int × List Int => [.i .i64 x.1, .sl (ints x.2)]) (fun x => wf64 x.1 ∧ (x.2.length ≤ maxLen ∧ ∀ y ∈ x.2, wf64 y)) :=
  op_fields2 Tryz.underlying53 (by kernel_rfl) rfl (by kernel_rfl) (op_int Tryz.underlying2) op_ints
theorem op_places : Opens enc Tryz.prog w base spare held 26 (fun x : List (Int × List Int) => [.sl (places x)]) (fun l => l.length ≤ maxLen ∧ ∀ x ∈ l, wf64 x.1 ∧ (x.2.length ≤ maxLen ∧ ∀ y ∈ x.2, wf64 y)) :=
  op_slice Tryz.underlying26 (of_decide_eq_true (by kernel_rfl)) op_placement
end
set_option maxRecDepth 100000 in
theorem lifted {G : Gv} (hGv : GvOk Tryz.prog G) (hA : AllK G) (Pu : Pure) (os : Os) (started : os.Started) (H : Type) (enc : TypeId × Value → H) :
    ReturnsInHanded {} Tryz.checked os 10 .any (Rows.fnExactPuzzleSymmetriesSpec.pre6 enc Tryz.prog Tryz.f10 Rows.fnExactPuzzleSymmetriesRow.domain false) (Rows.fnExactPuzzleSymmetriesSpec.post enc Tryz.prog Tryz.f10 false true false false) := by
  refine returnsInHanded_of_change_sized (C := Tryz.checked) own started (by kernel_rfl) Tryz.func10
    (ChangeSpec.witness6 (enc := enc) (C := Tryz.checked) false ⟨#[], #[.agg #[.slice none 0 0, .slice none 0 0]], []⟩ 8 (by kernel_rfl) (by kernel_rfl) (by kernel_rfl) (by kernel_rfl)) ?_
  intro W base args ds gs before hval0 hW _ _ _
  have hval : ∀ (j : Nat) t v, Tryz.f10.params[j]? = some t → args[j]? = some v → Value.okWide Tryz.prog W .any base t v := hval0
  have hW' := hW
  obtain ⟨p, q, hA0, hV, rfl, hfz, hnd⟩ := hW
  have hAr : DataW.TrodAll enc Tryz.prog W 0 (fun _ => true) true Tryz.f10.params.toList args.toList ds p := hA0
  rw [Tryz.params10] at hAr hval
  obtain ⟨v0, vs0, d0, ds0, p0, q0, hargs, rfl, rfl, h0, r0⟩ := trodAll_cons hAr
  obtain ⟨rfl, rfl, rfl⟩ := trodAll_nil r0
  obtain rfl : args = #[v0] := by cases args; simp_all
  obtain ⟨rfl, rfl⟩ := trodVars_none hV
  obtain ⟨cs0, rfl, _⟩ := okWide_struct Tryz.underlying25 (hval 0 25 v0 rfl rfl)
  have k0 := h0
  have lt0 : ∀ x ∈ p0, x.block < W.heap.size := by obtain ⟨m, hm⟩ := k0; exact DataW.trod_lt m _ _ _ hm
  obtain ⟨fu0, hf0⟩ := h0
  obtain ⟨⟨r, l⟩, ha0, ⟨wr1, wr2⟩, wl1, wl2⟩ := op_puzzle _ _ _ hf0
  have wr3 : r.length ≤ maxLen := wr1
  have wl3 : l.length ≤ maxLen := wl1
  clear hA0 hval0
  have hm : maxLen = 9223372036854775807 := rfl
  have hlaw := law_fn G hA r l (by omega) (by omega) (fun p hp => by have := (wl2 p hp).1.1; omega) (Pu r l wr2 (fun p hp => ⟨(wl2 p hp).1.2, (wl2 p hp).2.1⟩))
  refine (calls_of hGv hlaw W [.agg cs0] ⟨?_, trivial⟩).mono fun e W' ⟨he, bel⟩ => ?_
  · simp only [vrep]
    exact ⟨cs0, rfl, avsP_ok (ps := [.sl (cells r), .sl (pieces l)]) (by simpa [Value.cells] using ha0)⟩
  subst he
  exact ⟨_, rfl, _, _, _, [], _, [], hW', trodAll_mk1 (shut_bool Tryz.underlying4 _), (trodAll_cons_mk (Below.trod laidOut (by kernel_rfl) (of_decide_eq_true (by kernel_rfl)) k0 bel lt0) trodAll_mk0), rfl, bel.frame _, fun h => by cases h⟩
theorem j0 : (Rows.fnExactPuzzleSymmetriesRow.inPlace == Tryz.prog.inPlace 10) = true := by kernel_rfl
theorem j1 : (Rows.fnExactPuzzleSymmetriesRow.unfollowed == Tryz.prog.unfollowed 10) = true := by kernel_rfl
theorem j2 : (Rows.fnExactPuzzleSymmetriesRow.recurses == Tryz.prog.recurses 10) = true := by kernel_rfl
theorem j3 : (Rows.fnExactPuzzleSymmetriesRow.named == Tryz.prog.varsNamed 10) = true := by kernel_rfl
theorem closedF : joinedFacts Tryz.prog 10 Tryz.f10 Rows.fnExactPuzzleSymmetriesSpec Rows.fnExactPuzzleSymmetriesRow = true := by
  unfold joinedFacts
  rw [j0, j1, j2, j3]
  kernel_rfl
theorem over {G : Gv} (hGv : GvOk Tryz.prog G) (hA : AllK G) (Pu : Pure) : Rows.fnExactPuzzleSymmetriesRow.holds Tryz.pinned (OpenSpec.ofChange Rows.fnExactPuzzleSymmetriesSpec) :=
  OpenClaim.holds_of_wide 10 Tryz.f10 rfl rfl rfl rfl rfl rfl rfl ⟨rfl, rfl, rfl, rfl, rfl⟩ rfl rfl rfl rfl rfl (by kernel_rfl) Tryz.func10 closedF
    (of_decide_eq_true (by kernel_rfl)) (by unfold Func.isWrapper; first | (rw [if_pos (by decide +kernel)]; kernel_rfl) | (rw [if_neg (by decide +kernel)]; exact ⟨rfl, rfl⟩))
    (fun os started H enc _ => lifted hGv hA Pu os started H enc)
/-- The row, out of what is left. -/
theorem of_pure {G : Gv} (hGv : GvOk Tryz.prog G) (hA : AllK G) (Pu : Pure) : Rows.FnExactPuzzleSymmetriesSaid := over hGv hA Pu
end Go.Proofs.YtdbkkjoejomcmaaGreat.fnExactPuzzleSymmetries
end
section
open Go Go.Big
namespace Go.Proofs
set_option maxHeartbeats 2000000
theorem stepT_inj {p q : Int × Int} (hp : inB p) (hq : inB q) (h : stepT p = stepT q) : p = q := by
  unfold stepT at h
  unfold inB at hp hq
  simp only [Prod.mk.injEq] at h
  rw [wr1 (by omega) (by omega), wr1 (by omega) (by omega)] at h
  exact Prod.ext h.2 (by omega)
theorem iterT_inj {p q : Int × Int} (hp : inB p) (hq : inB q) : ∀ {n : Nat}, iterT p n = iterT q n → p = q
  | 0, h => h
  | n + 1, h => iterT_inj hp hq (n := n) (stepT_inj (inB_iter hp n) (inB_iter hq n) h)
theorem turnM_inj {p q : Int × Int} (hp : inB p) (hq : inB q) {t : Nat} (h : turnM p t = turnM q t) : p = q := by
  have hf : ∀ {x : Int × Int}, inB x → inB (flipT x t) := fun {x} hx => by
    unfold flipT
    unfold inB at hx ⊢
    split
    · rw [wr1 (by omega) (by omega)]
      (try simp only)
      omega
    · exact hx
  have := iterT_inj (hf hp) (hf hq) h
  unfold flipT at this
  unfold inB at hp hq
  split at this
  · simp only [Prod.mk.injEq] at this
    rw [wr1 (by omega) (by omega), wr1 (by omega) (by omega)] at this
    exact Prod.ext (by omega) this.2
  · exact this
theorem norm_map {l : Shape} (hl : 0 < l.length) (h : ∀ p ∈ l, inB p) : normM l = l.map fun p => (p.1 + (0 - (minF l l.length).1), p.2 + (0 - (minF l l.length).2)) := by
  obtain ⟨g1, ⟨p, hp, g2⟩, ⟨q, hq, g3⟩⟩ := minF_spec hl
  have kp := h p hp
  have kq := h q hq
  unfold inB at kp kq
  unfold normM
  rw [wr1 (by omega) (by omega), wr1 (by omega) (by omega), movedM_small (fun x hx => by have := h x hx; unfold inB at this; omega) (by omega) (by omega)]
theorem minF_perm {l k : Shape} (hp : l.Perm k) (hl : 0 < l.length) : minF l l.length = minF k k.length := by
  have hk : 0 < k.length := by rw [← hp.length_eq]; exact hl
  obtain ⟨g1, ⟨p, hp1, g2⟩, ⟨q, hq, g3⟩⟩ := minF_spec hk
  exact minF_is hl (fun x hx => g1 x (hp.mem_iff.mp hx)) ⟨p, hp.mem_iff.mpr hp1, g2⟩ ⟨q, hp.mem_iff.mpr hq, g3⟩
theorem nodup_le {α : Type} [DecidableEq α] : ∀ {l k : List α}, l.Nodup → (∀ x ∈ l, x ∈ k) → l.length ≤ k.length
  | [], _, _, _ => Nat.zero_le _
  | x :: l, k, hn, h => by
    rw [List.nodup_cons] at hn
    have hx := h x List.mem_cons_self
    have := nodup_le (l := l) (k := k.erase x) hn.2 (fun y hy => (List.mem_erase_of_ne (fun (e : y = x) => hn.1 (e ▸ hy))).mpr (h y (List.mem_cons_of_mem _ hy)))
    rw [List.length_erase_of_mem hx] at this
    have hk := List.length_pos_of_mem hx
    rw [List.length_cons]; omega
theorem region_norm {r : Shape} (h : regionS r = true) : normM r = r := by
  have hb := boxed_of h
  unfold regionS at h
  simp only [Bool.and_eq_true, beq_iff_eq, decide_eq_true_eq] at h
  obtain ⟨hs, ⟨⟨m1, m2⟩, _⟩, _⟩ := h
  obtain ⟨_, _, hp, _⟩ := shapeM_spec hs
  rw [norm_map (by omega) (fun p hp => by have := hb.box p hp; unfold inB; omega), m1, m2]
  simp
theorem sym_eq {r : Shape} (h : regionS r = true) (t : Nat) : symQI r t = symQS r t := by
  have hb := boxed_of h
  have hn := region_norm h
  have hs : r.Pairwise (fun a b => lessC a.1 a.2 b.1 b.2 = true) := by
    unfold regionS at h
    simp only [Bool.and_eq_true] at h
    exact (shapeM_spec h.1).1
  have h0 : 0 < r.length := by
    unfold regionS at h
    simp only [Bool.and_eq_true] at h
    have := (shapeM_spec h.1).2.2.1
    omega
  have hin : ∀ p ∈ r, inB p := fun p hp => by have := hb.box p hp; unfold inB; omega
  have hT : ∀ p ∈ turnL r t, inB p := fun p hp => by
    obtain ⟨q, hq, rfl⟩ := List.mem_map.mp hp
    exact inB_turn (hin q hq) t
  have hTl : (turnL r t).length = r.length := turnL_len r t
  have hTn : (turnL r t).Nodup := by
    unfold turnL
    rw [List.Nodup, List.pairwise_map]
    exact hb.nodup.imp_of_mem (fun ha hc hne e => hne (turnM_inj (hin _ ha) (hin _ hc) e))
  unfold symQI symQS numsM formM
  rw [hn]
  generalize turnL r t = T at hT hTl hTn
  have hsp := sortM_perm T
  have hss := sortM_sorted T
  have hsl : (sortM T).length = T.length := hsp.length_eq
  have e1 := norm_map (l := T) (by omega) hT
  have e2 := norm_map (l := sortM T) (by omega) (fun p hp => hT p (hsp.mem_iff.mp hp))
  rw [minF_perm hsp (by omega)] at e2
  generalize minF T T.length = m at e1 e2
  have hperm : (normM (sortM T)).Perm (normM T) := by rw [e1, e2]; exact hsp.map _
  have hnd : (normM (sortM T)).Nodup := by
    rw [e2, List.Nodup, List.pairwise_map]
    exact (hsp.nodup_iff.mpr hTn).imp (fun {a b} hne e => hne (by
      simp only [Prod.mk.injEq] at e
      exact Prod.ext (by omega) (by omega)))
  have hst : (normM (sortM T)).Pairwise (fun a b => lessC b.1 b.2 a.1 a.2 = false) := by
    rw [e2, List.pairwise_map]
    refine hss.imp fun {a b} hab => ?_
    simp only [lessC, Bool.or_eq_false_iff, Bool.and_eq_false_iff, decide_eq_false_iff_not, beq_eq_false_iff_ne] at hab ⊢
    omega
  have hlen : (normM (sortM T)).length = r.length := by rw [normM_len]; omega
  generalize normM (sortM T) = N at hperm hnd hst hlen
  generalize normM T = M at hperm
  have hr2 : r.Pairwise (fun a b => lessC b.1 b.2 a.1 a.2 = false) := hs.imp fun {a b} hab => by
    cases z : lessC b.1 b.2 a.1 a.2 with
    | false => rfl
    | true => have := lessC_trans' hab z; rw [lessC_self] at this; simp at this
  by_cases c : N = r
  · subst c
    obtain ⟨s, hs⟩ := setM_yes (r := N) (cs := M) (fun x hx => hperm.mem_iff.mpr hx)
    rw [hs]; simp
  · rw [decide_eq_false c]
    symm
    cases hq : setM r M with
    | none => rfl
    | some s =>
      exfalso
      apply c
      have hsub := (setM_some hq).1
      have hNr : ∀ x ∈ N, x ∈ r := fun x hx => hsub x (hperm.mem_iff.mp hx)
      have hrN : ∀ x ∈ r, x ∈ N := fun x hx => by
        apply Classical.byContradiction
        intro hx2
        have := nodup_le (l := x :: N) (k := r) (List.nodup_cons.mpr ⟨hx2, hnd⟩) (fun y hy => by
          rcases List.mem_cons.mp hy with rfl | hy
          · exact hx
          · exact hNr y hy)
        rw [List.length_cons] at this; omega
      have hp2 := perm_of_nodup hnd hb.nodup (fun x => ⟨hNr x, hrN x⟩)
      exact List.Perm.eq_of_pairwise (fun a b _ _ h1 h2 => lessC_total h2 h1) hst hr2 hp2
theorem tidy_forms (cs : Shape) (t : Nat) (b : Bool) (ht : t = if b then 8 else 4) : tidyM (formsL cs t) = formsF cs t := by
  have := forms_eq ⟨cs, 0, b⟩
  unfold formsI formsP at this
  rw [ht]; exact this
theorem hand_eq (p : PieceM) : handS p = !handP p := by
  unfold handS handP formsP
  rw [tidy_forms p.cs 4 false rfl, tidy_forms p.cs 8 true rfl]
  cases p.b with
  | true => simp
  | false => simp
theorem symT_congr {p q : Nat → Bool} (h : ∀ t, p t = q t) (n : Nat) : symT p n = symT q n := by
  rw [show p = q from funext h]
theorem symsP_eq {r : Shape} {l : List PieceM} (h : regionS r = true) : symsI r l = symsS r l := by
  unfold symsI symsS
  rw [symT_congr (sym_eq h) 8]
  have e : l.all handS = !l.any handP := by
    rw [show handS = fun p => !handP p from funext hand_eq]
    induction l with
    | nil => rfl
    | cons x l ih => rw [List.all_cons, List.any_cons, ih]; simp
  rw [e]
  refine List.filter_congr fun x _ => ?_
  by_cases c : x < 4
  · simp [c, show ¬ x ≥ 4 by omega]
  · simp [c, show x ≥ 4 by omega]
theorem symsS_len (r : Shape) (l : List PieceM) : (symsS r l).length ≤ 8 := by
  unfold symsS
  have := List.length_filter_le (fun x => decide (x < 4) || l.all handS) (symT (symQS r) 8)
  have := symT_len (symQS r) 8
  omega
theorem psym_eq (r : Shape) (l : List PieceM) : psymI r l = psymS r l ∧ (psymI r l).1.length < 1000000000 := by
  unfold psymI psymS
  rw [fits_eq]
  by_cases c : fitsS r l = true
  · rw [if_pos c, if_pos c, symsP_eq (puzzle_parts (fits_puzzle c)).1]
    have := symsS_len r l
    exact ⟨rfl, by show (symsS r l).length < _; omega⟩
  · rw [if_neg c, if_neg c]; simp
end Go.Proofs
end
section
open Go Go.Big
namespace Go.Proofs
set_option maxHeartbeats 2000000
theorem noG_ok : GvOk Tryz.prog noG := fun _ _ _ _ _ _ _ h => h.elim
def allG : Gv := fun f args H n r H' n' => sortsG f args H n r H' n' ∨ sortsG1 f args H n r H' n' ∨ sortsG2 f args H n r H' n' ∨ sortsN2 f args H n r H' n'
theorem allG_all : AllG allG := ⟨fun _ _ _ _ _ _ _ h => .inl h, fun _ _ _ _ _ _ _ h => .inr (.inl h), fun _ _ _ _ _ _ _ h => .inr (.inr (.inl h)), fun _ _ _ _ _ _ _ h => .inr (.inr (.inr h))⟩
theorem allG_ok : GvOk Tryz.prog allG := by
  rintro f args H n r H' n' (h | h | h | h)
  · exact sortK_ok Tryz.sortCell (by decide) Tryz.isAgg117 Tryz.sizeOf117 noG_ok _ _ _ _ _ _ _ h
  · exact sort1_ok Tryz.sortShape noG_ok _ _ _ _ _ _ _ h
  · exact sortO_ok Tryz.sortPlace (by decide) Tryz.isAgg55 Tryz.sizeOf55 noG_ok _ _ _ _ _ _ _ h
  · exact sortN_ok Tryz.sortPlace _ _ _ _ _ _ _ h
end Go.Proofs
end
section
open Go Go.Big
namespace Go.Proofs
set_option maxHeartbeats 2000000
def allH : Gv := fun f args H n r H' n' => allG f args H n r H' n' ∨ sortsI4 f args H n r H' n'
theorem allH_all : AllH allH where
  c1 := fun _ _ _ _ _ _ _ h => .inl (allG_all.c1 _ _ _ _ _ _ _ h)
  c2 := fun _ _ _ _ _ _ _ h => .inl (allG_all.c2 _ _ _ _ _ _ _ h)
  c3 := fun _ _ _ _ _ _ _ h => .inl (allG_all.c3 _ _ _ _ _ _ _ h)
  c4 := fun _ _ _ _ _ _ _ h => .inl (allG_all.c4 _ _ _ _ _ _ _ h)
  c5 := fun _ _ _ _ _ _ _ h => .inr h
theorem allH_ok : GvOk Tryz.prog allH := by
  rintro f args H n r H' n' (h | h)
  · exact allG_ok _ _ _ _ _ _ _ h
  · exact sortI_ok Tryz.sortInts _ _ _ _ _ _ _ h
end Go.Proofs
end
section
open Go Go.Big
namespace Go.Proofs
set_option maxHeartbeats 2000000
theorem allK_all : AllK allH where
  toAllH := allH_all
  ok := allH_ok
end Go.Proofs
end
