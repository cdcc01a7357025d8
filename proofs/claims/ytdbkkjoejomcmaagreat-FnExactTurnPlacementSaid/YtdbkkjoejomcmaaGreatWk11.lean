/- Walks: Numbers written into puzzles and placements; held in them. No condition. | Placements whose numbers are still those that were written. No condition. | More words. No condition. | The statement's law: it answers true if the two agree. No condition. | The row of FnExactTurnPlacement, out of what is left: two plain functions agree. No condition. | Plain law: a placement turned, both programs. No condition. | The sorts' contracts hold. No condition. | The sorts' contracts hold, that of numbers too. No condition. -/
import Derived.Test.YtdbkkjoejomcmaaGreatBO
import Derived.Test.YtdbkkjoejomcmaaGreatWk3
import Derived.Test.YtdbkkjoejomcmaaGreatWk6
import Derived.Test.YtdbkkjoejomcmaaGreatBC
import Derived.Test.YtdbkkjoejomcmaaGreatWk10
import Derived.Test.YtdbkkjoejomcmaaGreatBigOpen
import Derived.Test.YtdbkkjoejomcmaaGreatRows
import Derived.WalkKit
import Derived.ProofKit
import Derived.OpenShut
import Derived.ShutString
import Derived.ChangeOld
import Derived.Below
import Derived.SizedLaws
import Derived.Test.YtdbkkjoejomcmaaGreatWk8
import Derived.Test.YtdbkkjoejomcmaaGreatShelf
import Derived.Test.YtdbkkjoejomcmaaGreatShelfI
set_option linter.unusedVariables false
set_option linter.unusedSimpArgs false
section
open Go Go.Big
namespace Go.Proofs
set_option maxHeartbeats 2000000
theorem markPuzzle_m (G : Gv) (r : List (Int × Int)) (l : List PieceM) (k : Int) (hr : r.length < 1000000000) (hl : l.length < 1000000000) (hc : ∀ p ∈ l, p.cs.length < 1000000000) (hk0 : 0 ≤ k) (hk : k + 2 * r.length + cntQ l < 1000000000000) :
    Marks Tryz.prog G 24 (.ag [.sl 1 (cells r), .sl 1 (pieces l)]) (.ag [.sl 1 (cells (runC k r.length)), .sl 1 (pieces (mkQ (k + 2 * r.length) l))]) k (k + 2 * r.length + cntQ l) := by
  intro x H0 n0 S hx hn hS
  have hcn := cntQ_nn l
  obtain ⟨za, zb, s1, s2, rfl, rfl, hxa, hxb⟩ := ownX_ag2 hx
  clear hx
  rw [List.nodup_append] at hn
  obtain ⟨hn1, hn2, hn3⟩ := hn
  have hS1 : ∀ o ∈ s1, o < n0 := fun o ho => hS o (by simp [ho])
  have hS2 : ∀ o ∈ s2, o < n0 := fun o ho => hS o (by simp [ho])
  have pa := (ownX_plain hxa).1
  have pb := (ownX_plain hxb).1
  replace hxa := Hid.mk hxa
  replace hxb := Hid.mk hxb
  replace hn1 := Hid.mk hn1
  replace hn2 := Hid.mk hn2
  replace hn3 := Hid.mk hn3
  replace hS1 := Hid.mk hS1
  replace hS2 := Hid.mk hS2
  replace hc := Hid.mk hc
  clear hS
  refine (.body Tryz.func24 rfl (by simp [Tryz.ntmps24]) ?_)
  rw [Tryz.ntmps24, Tryz.results24]
  refine W.seq ?_
  refine W.region ?_
  refine OP (y := .ptr n0 0 0 0) (H1 := H0.upd n0 (.box 35 [za, zb])) (op := .box 35 (.tmp 0)) ?_ (hs := by rw [st_box]; simp [flatA, pa, pb, argE])
  refine AL ?_
  refine CI ?_
  refine WC.mono (markCellS_m G r k hr hk0 (by omega) _ _ _ s1 (ownX_congr (fun o ho => by rw [upd_if, if_neg (by have := hS1.out o ho; omega)]) hxa.out) hn1.out (fun o ho => by have := hS1.out o ho; omega)) ?_
  rintro _ H1 m ⟨rfl, hm, hz1, hf1⟩
  have hb := hf1 n0 (by omega) (fun h => by have := hS1.out _ h; omega)
  rw [upd_if, if_pos rfl] at hb
  have hxb1 := ownX_congr (H' := H1) (fun o ho => by rw [hf1 o (by have := hS2.out o ho; omega) (fun h => hn3.out o h o ho rfl), upd_if, if_neg (by have := hS2.out o ho; omega)]) hxb.out
  replace hxb1 := Hid.mk hxb1
  replace hz1 := Hid.mk hz1
  replace hf1 := Hid.mk hf1
  clear pa pb
  refine AL ?_
  refine CI ?_
  refine WC.mono (markPieceS_m G l (k + 2 * r.length) hl hc.out (by omega) (by omega) _ _ _ s2 hxb1.out hn2.out (fun o ho => by have := hS2.out o ho; omega)) ?_
  rintro _ H2 m2 ⟨rfl, hm2, hz2, hf2⟩
  have hb2 := hf2 n0 (by omega) (fun h => by have := hS2.out _ h; omega)
  replace hz2 := Hid.mk hz2
  replace hf2 := Hid.mk hf2
  refine AL ?_
  refine ⟨rfl, by omega, ownX_mk2 (ownX_congr (fun o ho => hf2.out o (by have := hS1.out o ho; omega) (fun h => hn3.out o ho o h rfl)) hz1.out) hz2.out, fun o ho hno => ?_⟩
  rw [hf2.out o (by omega) (fun h => hno (by simp [h])), hf1.out o (by omega) (fun h => hno (by simp [h])), upd_if, if_neg (by omega)]
theorem markPlacement_m (G : Gv) (j : Int) (l : List Int) (k : Int) (hl : l.length < 1000000000) (hk0 : 0 ≤ k) (hk : k < 1000000000000) :
    Marks Tryz.prog G 44 (.ag [.i .i64 j, .sl 1 (ints l)]) (.ag [.i .i64 j, .sl 1 (ints (runI k l.length))]) k (k + l.length) := by
  intro x H0 n0 S hx hn hS
  obtain ⟨zi, za, s2, s1, rfl, rfl, hxi, hxa⟩ := ownX_ag2 hx
  obtain ⟨rfl, rfl⟩ := ownX_i hxi
  clear hx hxi
  rw [List.nil_append] at hn hS ⊢
  have pa := (ownX_plain hxa).1
  have pi : plainA H0 (.i .i64 j) = true := rfl
  replace hxa := Hid.mk hxa
  replace hn := Hid.mk hn
  replace hS := Hid.mk hS
  refine (.body Tryz.func44 rfl (by simp [Tryz.ntmps44]) ?_)
  rw [Tryz.ntmps44, Tryz.results44]
  refine W.seq ?_
  refine W.region ?_
  refine OP (y := .ptr n0 0 0 0) (H1 := H0.upd n0 (.box 55 [.i .i64 j, za])) (op := .box 55 (.tmp 0)) ?_ (hs := by rw [st_box]; simp [flatA, pa, pi, argE])
  clear pa pi
  refine AL ?_
  refine CI ?_
  refine WC.mono (markInt64S_m G l k hl hk0 hk _ _ _ s1 (ownX_congr (fun o ho => by rw [upd_if, if_neg (by have := hS.out o ho; omega)]) hxa.out) hn.out (fun o ho => by have := hS.out o ho; omega)) ?_
  rintro _ H1 m ⟨rfl, hm, hz1, hf1⟩
  replace hz1 := Hid.mk hz1
  replace hf1 := Hid.mk hf1
  refine AL ?_
  refine ⟨rfl, by omega, ownX_mk2 (s1 := []) ownX_mki hz1.out, fun o ho hno => ?_⟩
  rw [hf1.out o (by omega) hno, upd_if, if_neg (by omega)]
end Go.Proofs
end
section
open Go Go.Big
namespace Go.Proofs
set_option maxHeartbeats 2000000
theorem mkP_length : ∀ (k : Int) (l : List (Int × List Int)), (mkP k l).length = l.length
  | _, [] => rfl
  | k, p :: l => by simp only [mkP, List.length_cons, mkP_length]
theorem heldPlacementS_fn (G : Gv) (l : List (Int × List Int)) (k : Int) (hl : l.length < 1000000000) (hc : ∀ p ∈ l, p.2.length < 1000000000) (hk0 : 0 ≤ k) (hk : k + cntP l < 1000000000000) :
    Gives Tryz.prog G 32 [.sl 0 (places (mkP k l)), .i .i64 k] (.i .i64 (k + cntP l)) := by
  refine .of (.body Tryz.func32 rfl (by simp [Tryz.ntmps32]) ?_)
  rw [Tryz.ntmps32, Tryz.results32]
  have hlen : (places (mkP k l)).length = l.length := by rw [places_len, mkP_length]
  replace hc := Hid.mk hc
  generalize hM : mkP k l = M at hlen
  replace hM := Hid.mk hM
  refine AL ?_
  refine .loop (.inv (fun d E H n' => ∃ (i : Nat) (k' : Int), i + d = l.length ∧ E 0 = .sl 0 (places M) ∧ E 1 = .i .i64 k' ∧ E 5 = .i .i64 i ∧ M.drop i = mkP k' (l.drop i) ∧ k' + cntP (l.drop i) = k + cntP l ∧ 0 ≤ k') l.length ?_ ?_)
  · exact ⟨0, k, by omega, by simp [setF_if, argE], by simp [setF_if, argE], by simp [setF_if, argE], by simp [hM.out], by simp, hk0⟩
  rintro d E H n' ⟨i, k', hi, h0, h1, h5, hd, hn, hk'⟩
  replace hn := Hid.mk hn
  replace hd := Hid.mk hd
  by_cases c : (i : Int) < l.length
  · have hw_i : IntKind.i64.wrap ((i : Int) + 1) = (i : Int) + 1 := wr64 (by omega) (by omega)
    obtain ⟨p, hp⟩ : ∃ p, l[i]? = some p := ⟨_, List.getElem?_eq_getElem (by omega)⟩
    have hpl := hc.out p (List.mem_of_getElem? hp)
    have hld := drop_cons hp
    have hd2 := hd.out
    have hn2 := hn.out
    rw [hld] at hd2 hn2
    simp only [mkP, cntP] at hd2 hn2
    have hnn := cntP_nn (l.drop (i + 1))
    have hro : (places M)[i]? = some (placR (k', runI (k' + 1) p.2.length)) := places_at (by
      have : (M.drop i)[0]? = some (k', runI (k' + 1) p.2.length) := by rw [hd2]; rfl
      rwa [List.getElem?_drop, Nat.add_zero] at this)
    have hd3 : M.drop (i + 1) = mkP (k' + 1 + p.2.length) (l.drop (i + 1)) := by
      rw [← List.drop_drop (i := 1), hd2]; rfl
    have hw1 : IntKind.i64.wrap (k' + 1) = k' + 1 := wr64 (by omega) (by omega)
    have hbne : (k' != k') = false := by simp
    have hneg : ¬ (k' + 1 + (p.2.length : Int) < 0) := by omega
    replace hd2 := Hid.mk hd2
    replace hd3 := Hid.mk hd3
    replace hld := Hid.mk hld
    replace hp := Hid.mk hp
    replace hn2 := Hid.mk hn2
    replace hnn := Hid.mk hnn
    refine AL ?_
    refine CV (heldInt64S_fn G (k' + 1) p.2.length hpl (by omega) (by have := hn2.out; have := hnn.out; omega)) ?_
    refine AL ?_
    exact ⟨l.length - (i + 1), by omega, i + 1, k' + 1 + p.2.length, by omega, by simp [setF_if, *], by simp [setF_if, *], by simp [setF_if, *], hd3.out, by have := hn2.out; omega, by omega⟩
  · have ei : i = l.length := by omega
    have hn2 := hn.out
    rw [ei, List.drop_length] at hn2
    simp only [cntP] at hn2
    refine AL ?_
    simp [retA, backA, setF_if, h1]; omega
theorem heldPlacement_fn (G : Gv) (j : Int) (k : Int) (m : Nat) (hl : m < 1000000000) (hk0 : 0 ≤ k) (hk : k < 1000000000000) :
    Gives Tryz.prog G 45 [.ag [.i .i64 j, .sl 0 (ints (runI k m))], .i .i64 k] (.i .i64 (k + m)) := by
  refine .of (.body Tryz.func45 rfl (by simp [Tryz.ntmps45]) ?_)
  rw [Tryz.ntmps45, Tryz.results45]
  have hneg : ¬ (k + (m : Int) < 0) := by omega
  refine AL ?_
  refine CV (heldInt64S_fn G k m hl hk0 hk) ?_
  refine AL ?_
  simp [retA, backA]
end Go.Proofs
end
section
open Go Go.Big
namespace Go.Proofs
set_option maxHeartbeats 2000000
theorem FCP {ob : List Nat} {wr : List (Nat × Nat)} {rd : List (Nat × List Nat)} {N : Nat} {ds : List (Option Tmp)} {l : List Oper} {E : Env} {H : Heap} {n m : Nat} {K : Env → Heap → Nat → Prop} {o : Oper} {c : Call} {f : FuncId} {args args' : List AV} {y : AV} {d : Nat} {G : Gv}
    (hF : Gives Tryz.prog G f args' y)
    (h : WF Tryz.prog G ob wr rd N ds l (setF E d y) H m K)
    (hop : o.op = .call c := by rfl) (hdst : o.dst = some d := by rfl) (hw : wantR ds E o.guard = some true := by exact vB)
    (hc : calleeA E c = some (f, args) := by exact vD)
    (hg : ∀ Hx : Heap, Agrees ob (fpL wr rd o) Hx H → givesA Hx args = some args' := by (intro Hx hx; exact vE))
    (hwr : wrL wr o = none := by rfl)
    (hf : (Tryz.prog.funcs[f]?).any (fun fn => fn.body.isSome && (fn.name != "runtime.NumGoroutine")) = true := by kernel_rfl)
    (hn : n + 1 = m := by exact vG)
    (hd : d < N := by decide) : WF Tryz.prog G ob wr rd N ds (o :: l) E H n K :=
  FC hF hg h hop hdst hw hc hwr hf hn hd
end Go.Proofs
end
section
open Go Go.Big
namespace Go.Proofs
set_option maxHeartbeats 2000000
theorem giveOf_last {H : Heap} {a za b : AV} {q : List (List PV)} {S : List Nat} (h : ownX H (.ag [a, za]) (.ag [b, .sl 1 q]) S) : giveA H za = some (.sl 0 q) := by
  obtain ⟨zi, z, s1, s2, e, _, _, h2⟩ := ownX_ag2 h
  cases e
  exact ownX_gives h2
theorem szP_cnt : ∀ {l : List PieceM} {left : Int}, ¬ szP l left < 0 → cntQ l ≤ 2 * left + 2 * l.length
  | [], left, h => by simp only [szP] at h; simp only [cntQ, List.length_nil]; omega
  | p :: l, left, h => by
    unfold szP at h
    split at h
    · simp at h
    · rename_i c
      have := szP_cnt h
      unfold szN at c this
      split at c
      · simp at c
      · rename_i c2
        rw [if_neg c2] at this
        simp only [cntQ, List.length_cons]; omega
theorem szPz_cnt {r : List (Int × Int)} {l : List PieceM} {left : Int} (h : ¬ szPz r l left < 0) : cntQ l ≤ 2 * left + 2 * left := by
  unfold szPz at h
  split at h
  · simp at h
  · rename_i c
    unfold szPS at h
    split at h
    · simp at h
    · rename_i c2
      have := szP_cnt h
      have := szN_le c
      omega
theorem szPL_cnt : ∀ {l : List (Int × List Int)} {left : Int}, ¬ szPL l left < 0 → cntP l ≤ left + l.length
  | [], left, h => by simp only [szPL] at h; simp only [cntP, List.length_nil]; omega
  | p :: l, left, h => by
    unfold szPL at h
    split at h
    · simp at h
    · rename_i c
      have := szPL_cnt h
      unfold szN at c this
      split at c
      · simp at c
      · rename_i c2
        rw [if_neg c2] at this
        simp only [cntP, List.length_cons]; omega
theorem szPLS_cnt {l : List (Int × List Int)} {left : Int} (h : ¬ szPLS l left < 0) : cntP l ≤ left + left := by
  unfold szPLS at h
  split at h
  · simp at h
  · have := szPL_cnt h
    omega
theorem law_fn (G : Gv) (hA : AllH G) (r : List (Int × Int)) (l : List PieceM) (j : Int) (t : List Int) (k : Int)
    (hr : r.length ≤ 9223372036854775807) (hl : l.length ≤ 9223372036854775807) (hc : ∀ p ∈ l, p.cs.length ≤ 9223372036854775807) (ht : t.length ≤ 9223372036854775807)
    (hpure : r.length < 1000000000 → l.length < 1000000000 → (∀ p ∈ l, p.cs.length < 1000000000) → t.length < 1000000000 → turnPI r l j t k = turnPS r l j t k ∧ ((turnPI r l j t k).1.2.length < 1000000000)) :
    Gives Tryz.prog G 9 [.ag [.sl 0 (cells r), .sl 0 (pieces l)], .ag [.i .i64 j, .sl 0 (ints t)], .i .i64 k] (.b true) := by
  refine .of (.body Tryz.func9 rfl (by simp [Tryz.ntmps9]) ?_)
  rw [Tryz.ntmps9, Tryz.results9]
  replace hA := Hid.mk hA
  replace hc := Hid.mk hc
  replace hpure := Hid.mk hpure
  refine AX ?_
  refine CV (szPuzzle_fn G r l 1048576 hr hl hc.out (by omega) (by omega)) ?_
  by_cases c1 : szPz r l 1048576 < 0
  · refine AX ?_
    simp [retA, backA]
  obtain ⟨ga1, gb1, gc1, gd1, ge1⟩ := szPz_le (left := 1048576) (by omega) c1
  replace gc1 := Hid.mk gc1
  refine AX ?_
  refine CV (szPlacement_fn G j t (_) ht (by omega) (by omega)) ?_
  by_cases c2 : szN t.length (szPz r l 1048576) < 0
  · refine AX ?_
    simp [retA, backA]
  obtain ⟨ga2, gd2, ge2⟩ := szN_le (left := szPz r l 1048576) c2
  have hr9 : r.length < 1000000000 := by omega
  have hl9 : l.length < 1000000000 := by omega
  have hc9 : ∀ p ∈ l, p.cs.length < 1000000000 := fun p hp => by have := gc1.out p hp; omega
  have ht9 : t.length < 1000000000 := by omega
  have hkq : cntQ l < 100000000000 := by have := szPz_cnt c1; omega
  have hkq0 := cntQ_nn l
  obtain ⟨hp, hwl⟩ := hpure.out hr9 hl9 hc9 ht9
  replace hc9 := Hid.mk hc9
  have hspec := specTurnPlacement_fn G r l j t k hr9 hl9 hc9.out ht9
  have himpl := implTurnPlacement_o G hA.out r l j t k hr9 hl9 hc9.out ht9
  rw [← hp] at hspec
  clear hp
  generalize turnPI r l j t k = W at hspec himpl hwl
  obtain ⟨⟨wj, w⟩, wc⟩ := W
  simp only at hspec himpl hwl
  have hbb : (wc != wc) = false := by simp
  replace hspec := Hid.mk hspec
  replace himpl := Hid.mk himpl
  clear gc1
  refine AX ?_
  have hnd : [25].Nodup := by simp
  refine FD [25] [(8, 0), (999999, 0)] [] hnd ?_
  refine FQ ?_ (hs := by
    intro Hx hx
    have f0 : Hx (0) = _ := hx.off (by simp only [List.mem_cons, List.not_mem_nil, or_false, not_or]; omega)
    simp only [setF_if, upd_if, neAdd, neLt, ltAdd, addNe, ltNe, Nat.left_eq_add, Nat.add_eq_left, Nat.reduceEqDiff, Nat.add_assoc, Nat.reduceAdd, reduceIte, *] at f0
    exact EV)
  refine FCP (toPuzzle_fn G r l hr9 hl9 hc9.out) ?_
  refine FQ ?_ (hs := by
    intro Hx hx
    have f0 : Hx (1) = _ := hx.off (by simp only [List.mem_cons, List.not_mem_nil, or_false, not_or]; omega)
    simp only [setF_if, upd_if, neAdd, neLt, ltAdd, addNe, ltNe, Nat.left_eq_add, Nat.add_eq_left, Nat.reduceEqDiff, Nat.add_assoc, Nat.reduceAdd, reduceIte, *] at f0
    exact EV)
  refine FCP (toPlacement_fn G j t ht9) ?_
  refine FF ?_
  refine FCP hspec.out ?_
  refine FF ?_
  refine FF ?_
  refine FF ?_
  refine FM 0 (25) ?_ (hs := by
    intro Hx hx
    exact EVM)
  refine FMN 0 (25) ?_ (hs := by
    intro Hx hx
    have f0 : Hx (25) = _ := hx.at hnd 0 rfl (by decide)
    simp only [setF_if, upd_if, neAdd, neLt, ltAdd, addNe, ltNe, Nat.left_eq_add, Nat.add_eq_left, Nat.reduceEqDiff, Nat.add_assoc, Nat.reduceAdd, reduceIte, *] at f0
    exact EVM)
  refine FF ?_
  refine WF.nil ?_
  clear hnd
  refine AX ?_
  refine CWO (toPuzzle_o G r l hr9 hl9 hc9.out) ?_
  intro z1 Hh1 S1 m1 hz1 hn1 hS1 hf1 hm1
  have B0 := hf1 0 (by omega)
  simp [upd_if] at B0
  have B1 := hf1 1 (by omega)
  simp [upd_if] at B1
  have B25 := hf1 25 (by omega)
  simp [upd_if] at B25
  obtain ⟨za1, zb1, sa1, sb1, rfl, rfl, Xa1, Xb1⟩ := ownX_ag2 hz1
  have Ra1 := fun o (ho : o ∈ sa1) => hS1 o (by simp [ho])
  have Rb1 := fun o (ho : o ∈ sb1) => hS1 o (by simp [ho])
  clear hz1 hS1 hf1
  replace Xa1 := Hid.mk Xa1
  replace Ra1 := Hid.mk Ra1
  replace Xb1 := Hid.mk Xb1
  replace Rb1 := Hid.mk Rb1
  replace hn1 := Hid.mk hn1
  refine AX ?_
  have pl_za1 := (ownX_plain (ownX_congr (H' := Hh1.upd (m1) (.box 35 [.nil, .nil])) (fun o ho => by rw [upd_if, if_neg (by have := Ra1.out o ho; omega)]) Xa1.out)).1
  have pl_zb1 := (ownX_plain (ownX_congr (H' := Hh1.upd (m1) (.box 35 [.nil, .nil])) (fun o ho => by rw [upd_if, if_neg (by have := Rb1.out o ho; omega)]) Xb1.out)).1
  refine OPN (op := .store 35 (.tmp 10) (.tmp 39)) (H1 := (Hh1.upd (m1) (.box 35 [.nil, .nil])).upd (m1) (.box 35 [za1, zb1])) (y := .un) ?_ (hs := by
    rw [st_store]
    simp only [look_tmp, setF_if, Nat.reduceEqDiff, reduceIte, flatA, List.all_cons, List.all_nil, pl_za1, pl_zb1, Bool.and_self, BT.all, storeA, upd_if, putA, List.length_cons, List.length_nil, Nat.reduceAdd, Nat.reduceLeDiff, List.set_cons_zero, List.set_cons_succ, Option.map_some])
  repeat first | refine OP ?_ | refine SK ?_ | refine OPN ?_ | refine WR.nil ?_
  refine TH ?_
  refine W.cutn ?_
  intro EX1 HX1 NX1 hEX hHX hNX
  have e2_1 := hEX 2
  have e3_1 := hEX 3
  have e4_1 := hEX 4
  have e8_1 := hEX 8
  have e9_1 := hEX 9
  have e10_1 := hEX 10
  simp only [setF_if, argE, Nat.reduceEqDiff, reduceIte, List.getElem?_cons_zero, List.getElem?_cons_succ, Option.getD_some] at e2_1 e3_1 e4_1 e8_1 e9_1 e10_1
  have hN1 : m1 < NX1 := by omega
  have B0' := (show HX1 (0) = Hh1 (0) by rw [hHX, upd_if, if_neg (by omega), upd_if, if_neg (by omega)]).trans B0
  have B1' := (show HX1 (1) = Hh1 (1) by rw [hHX, upd_if, if_neg (by omega), upd_if, if_neg (by omega)]).trans B1
  have B25' := (show HX1 (25) = Hh1 (25) by rw [hHX, upd_if, if_neg (by omega), upd_if, if_neg (by omega)]).trans B25
  have bx1 : HX1 (m1) = some (.box 35 [za1, zb1]) := by rw [hHX, upd_if, if_pos rfl]
  have Xa1' := ownX_congr (H' := HX1) (fun o ho => by have := Ra1.out o ho; rw [hHX, upd_if, if_neg (by omega), upd_if, if_neg (by omega)]) Xa1.out
  clear Xa1
  replace Xa1' := Hid.mk Xa1'
  have Xb1' := ownX_congr (H' := HX1) (fun o ho => by have := Rb1.out o ho; rw [hHX, upd_if, if_neg (by omega), upd_if, if_neg (by omega)]) Xb1.out
  clear Xb1
  replace Xb1' := Hid.mk Xb1'
  clear hEX hHX hNX pl_za1 pl_zb1 B0 B1 B25
  refine AX ?_
  refine CWO (toPlacement_o G j t ht9) ?_
  intro z2 Hh2 S2 m2 hz2 hn2 hS2 hf2 hm2
  have B0'' := (hf2 (0) (by omega)).trans B0'
  clear B0'
  have B1'' := (hf2 (1) (by omega)).trans B1'
  clear B1'
  have B25'' := (hf2 (25) (by omega)).trans B25'
  clear B25'
  have bx1' := (hf2 (m1) (by omega)).trans bx1
  clear bx1
  have Xa1'' := ownX_congr (fun o ho => hf2 o (by have := Ra1.out o ho; omega)) Xa1'.out
  clear Xa1'
  replace Xa1'' := Hid.mk Xa1''
  have Xb1'' := ownX_congr (fun o ho => hf2 o (by have := Rb1.out o ho; omega)) Xb1'.out
  clear Xb1'
  replace Xb1'' := Hid.mk Xb1''
  obtain ⟨za2, zb2, sa2, sb2, rfl, rfl, Xa2, Xb2⟩ := ownX_ag2 hz2
  obtain ⟨rfl, rfl⟩ := ownX_i Xa2
  clear Xa2
  have Rb2 := fun o (ho : o ∈ sb2) => hS2 o (by simp [ho])
  clear hz2 hS2 hf2
  replace Xb2 := Hid.mk Xb2
  replace Rb2 := Hid.mk Rb2
  replace hn2 := Hid.mk hn2
  refine AX ?_
  have pl_ii64j : plainA (Hh2.upd (m2) (.box 55 [.i .i64 0, .nil])) ((.i .i64 j)) = true := rfl
  have pl_zb2 := (ownX_plain (ownX_congr (H' := Hh2.upd (m2) (.box 55 [.i .i64 0, .nil])) (fun o ho => by rw [upd_if, if_neg (by have := Rb2.out o ho; omega)]) Xb2.out)).1
  refine OPN (op := .store 55 (.tmp 11) (.tmp 41)) (H1 := (Hh2.upd (m2) (.box 55 [.i .i64 0, .nil])).upd (m2) (.box 55 [(.i .i64 j), zb2])) (y := .un) ?_ (hs := by
    rw [st_store]
    simp only [look_tmp, setF_if, Nat.reduceEqDiff, reduceIte, flatA, List.all_cons, List.all_nil, pl_ii64j, pl_zb2, Bool.and_self, BT.all, storeA, upd_if, putA, List.length_cons, List.length_nil, Nat.reduceAdd, Nat.reduceLeDiff, List.set_cons_zero, List.set_cons_succ, Option.map_some])
  repeat first | refine OP ?_ | refine SK ?_ | refine OPN ?_ | refine WR.nil ?_
  refine TH ?_
  refine W.cutn ?_
  intro EX2 HX2 NX2 hEX hHX hNX
  have e2_2 := hEX 2
  have e3_2 := hEX 3
  have e4_2 := hEX 4
  have e8_2 := hEX 8
  have e9_2 := hEX 9
  have e10_2 := hEX 10
  have e11_2 := hEX 11
  simp only [setF_if, argE, Nat.reduceEqDiff, reduceIte, List.getElem?_cons_zero, List.getElem?_cons_succ, Option.getD_some, e2_1, e3_1, e4_1, e8_1, e9_1, e10_1] at e2_2 e3_2 e4_2 e8_2 e9_2 e10_2 e11_2
  have hN2 : m2 < NX2 := by omega
  have B0''' := (show HX2 (0) = Hh2 (0) by rw [hHX, upd_if, if_neg (by omega), upd_if, if_neg (by omega)]).trans B0''
  have B1''' := (show HX2 (1) = Hh2 (1) by rw [hHX, upd_if, if_neg (by omega), upd_if, if_neg (by omega)]).trans B1''
  have B25''' := (show HX2 (25) = Hh2 (25) by rw [hHX, upd_if, if_neg (by omega), upd_if, if_neg (by omega)]).trans B25''
  have bx1'' := (show HX2 (m1) = Hh2 (m1) by rw [hHX, upd_if, if_neg (by omega), upd_if, if_neg (by omega)]).trans bx1'
  have bx2 : HX2 (m2) = some (.box 55 [(.i .i64 j), zb2]) := by rw [hHX, upd_if, if_pos rfl]
  have Xa1''' := ownX_congr (H' := HX2) (fun o ho => by have := Ra1.out o ho; rw [hHX, upd_if, if_neg (by omega), upd_if, if_neg (by omega)]) Xa1''.out
  clear Xa1''
  replace Xa1''' := Hid.mk Xa1'''
  have Xb1''' := ownX_congr (H' := HX2) (fun o ho => by have := Rb1.out o ho; rw [hHX, upd_if, if_neg (by omega), upd_if, if_neg (by omega)]) Xb1''.out
  clear Xb1''
  replace Xb1''' := Hid.mk Xb1'''
  have Xb2' := ownX_congr (H' := HX2) (fun o ho => by have := Rb2.out o ho; rw [hHX, upd_if, if_neg (by omega), upd_if, if_neg (by omega)]) Xb2.out
  clear Xb2
  replace Xb2' := Hid.mk Xb2'
  clear hEX hHX hNX pl_ii64j pl_zb2 B0'' B1'' B25'' bx1' e2_1 e3_1 e4_1 e8_1 e9_1 e10_1
  have ga1 := ownX_gives Xa1'''.out
  have gb1 := ownX_gives Xb1'''.out
  have gb2 := ownX_gives Xb2'.out
  refine AX ?_
  refine CWO himpl.out ?_
  intro z3 Hh3 S3 m3 hz3 hn3 hS3 hf3 hm3
  try clear ga1
  try clear gb1
  try clear gb2
  have B0'''' := (hf3 (0) (by omega)).trans B0'''
  clear B0'''
  have B1'''' := (hf3 (1) (by omega)).trans B1'''
  clear B1'''
  have B25'''' := (hf3 (25) (by omega)).trans B25'''
  clear B25'''
  have bx1''' := (hf3 (m1) (by omega)).trans bx1''
  clear bx1''
  have bx2' := (hf3 (m2) (by omega)).trans bx2
  clear bx2
  have Xa1'''' := ownX_congr (fun o ho => hf3 o (by have := Ra1.out o ho; omega)) Xa1'''.out
  clear Xa1'''
  replace Xa1'''' := Hid.mk Xa1''''
  have Xb1'''' := ownX_congr (fun o ho => hf3 o (by have := Rb1.out o ho; omega)) Xb1'''.out
  clear Xb1'''
  replace Xb1'''' := Hid.mk Xb1''''
  have Xb2'' := ownX_congr (fun o ho => hf3 o (by have := Rb2.out o ho; omega)) Xb2'.out
  clear Xb2'
  replace Xb2'' := Hid.mk Xb2''
  obtain ⟨zw3, zc3, Sw3, Sc3, rfl, rfl, hw3, hc3⟩ := ownX_tup2 hz3
  obtain ⟨rfl, rfl⟩ := ownX_i hc3
  simp only [List.append_nil] at hn3 hS3
  clear hc3 hz3
  obtain ⟨za3, zb3, sa3, sb3, rfl, rfl, Xa3, Xb3⟩ := ownX_ag2 hw3
  obtain ⟨rfl, rfl⟩ := ownX_i Xa3
  clear Xa3
  have Rb3 := fun o (ho : o ∈ sb3) => hS3 o (by simp [ho])
  clear hw3 hS3 hf3
  replace Xb3 := Hid.mk Xb3
  replace Rb3 := Hid.mk Rb3
  replace hn3 := Hid.mk hn3
  refine AX ?_
  have pl_ii64wj : plainA (Hh3.upd (m3 + 3) (.box 55 [.i .i64 0, .nil])) ((.i .i64 wj)) = true := rfl
  have pl_zb3 := (ownX_plain (ownX_congr (H' := Hh3.upd (m3 + 3) (.box 55 [.i .i64 0, .nil])) (fun o ho => by rw [upd_if, if_neg (by have := Rb3.out o ho; omega)]) Xb3.out)).1
  refine OPN (op := .store 55 (.tmp 12) (.tmp 47)) (H1 := (Hh3.upd (m3 + 3) (.box 55 [.i .i64 0, .nil])).upd (m3 + 3) (.box 55 [(.i .i64 wj), zb3])) (y := .un) ?_ (hs := by
    rw [st_store]
    simp only [look_tmp, setF_if, Nat.reduceEqDiff, reduceIte, flatA, List.all_cons, List.all_nil, pl_ii64wj, pl_zb3, Bool.and_self, BT.all, storeA, upd_if, putA, List.length_cons, List.length_nil, Nat.reduceAdd, Nat.reduceLeDiff, List.set_cons_zero, List.set_cons_succ, Option.map_some])
  repeat first | refine OP ?_ | refine SK ?_ | refine OPN ?_ | refine WR.nil ?_
  refine TH ?_
  refine W.cutn ?_
  intro EX3 HX3 NX3 hEX hHX hNX
  have e2_3 := hEX 2
  have e3_3 := hEX 3
  have e4_3 := hEX 4
  have e8_3 := hEX 8
  have e9_3 := hEX 9
  have e10_3 := hEX 10
  have e11_3 := hEX 11
  have e12_3 := hEX 12
  have e13_3 := hEX 13
  simp only [setF_if, argE, Nat.reduceEqDiff, reduceIte, List.getElem?_cons_zero, List.getElem?_cons_succ, Option.getD_some, e2_2, e3_2, e4_2, e8_2, e9_2, e10_2, e11_2] at e2_3 e3_3 e4_3 e8_3 e9_3 e10_3 e11_3 e12_3 e13_3
  have hN3 : m3 + 3 < NX3 := by omega
  have B0''''' := (show HX3 (0) = Hh3 (0) by rw [hHX, upd_if, if_neg (by omega), upd_if, if_neg (by omega)]).trans B0''''
  have B1''''' := (show HX3 (1) = Hh3 (1) by rw [hHX, upd_if, if_neg (by omega), upd_if, if_neg (by omega)]).trans B1''''
  have B25''''' := (show HX3 (25) = Hh3 (25) by rw [hHX, upd_if, if_neg (by omega), upd_if, if_neg (by omega)]).trans B25''''
  have bx1'''' := (show HX3 (m1) = Hh3 (m1) by rw [hHX, upd_if, if_neg (by omega), upd_if, if_neg (by omega)]).trans bx1'''
  have bx2'' := (show HX3 (m2) = Hh3 (m2) by rw [hHX, upd_if, if_neg (by omega), upd_if, if_neg (by omega)]).trans bx2'
  have bx3 : HX3 (m3 + 3) = some (.box 55 [(.i .i64 wj), zb3]) := by rw [hHX, upd_if, if_pos rfl]
  have Xa1''''' := ownX_congr (H' := HX3) (fun o ho => by have := Ra1.out o ho; rw [hHX, upd_if, if_neg (by omega), upd_if, if_neg (by omega)]) Xa1''''.out
  clear Xa1''''
  replace Xa1''''' := Hid.mk Xa1'''''
  have Xb1''''' := ownX_congr (H' := HX3) (fun o ho => by have := Rb1.out o ho; rw [hHX, upd_if, if_neg (by omega), upd_if, if_neg (by omega)]) Xb1''''.out
  clear Xb1''''
  replace Xb1''''' := Hid.mk Xb1'''''
  have Xb2''' := ownX_congr (H' := HX3) (fun o ho => by have := Rb2.out o ho; rw [hHX, upd_if, if_neg (by omega), upd_if, if_neg (by omega)]) Xb2''.out
  clear Xb2''
  replace Xb2''' := Hid.mk Xb2'''
  have Xb3' := ownX_congr (H' := HX3) (fun o ho => by have := Rb3.out o ho; rw [hHX, upd_if, if_neg (by omega), upd_if, if_neg (by omega)]) Xb3.out
  clear Xb3
  replace Xb3' := Hid.mk Xb3'
  clear hEX hHX hNX pl_ii64wj pl_zb3 B0'''' B1'''' B25'''' bx1''' bx2' e2_2 e3_2 e4_2 e8_2 e9_2 e10_2 e11_2
  have ga1 := ownX_gives Xa1'''''.out
  have gb1 := ownX_gives Xb1'''''.out
  have gb2 := ownX_gives Xb2'''.out
  have gb3 := ownX_gives Xb3'.out
  refine AX ?_
  refine CV (eqPlacement_fn G wj w hwl) ?_
  refine AX ?_
  refine DR ?_
  refine AX ?_
  refine CQ (toPuzzle_fn G r l hr9 hl9 hc9.out) ?_
  refine AX ?_
  refine CQ (eqPuzzle_fn G r l hr9 hl9 hc9.out) ?_
  refine AX ?_
  refine DR ?_
  refine AX ?_
  refine CQ (toPlacement_fn G j t ht9) ?_
  refine AX ?_
  refine CQ (eqPlacement_fn G j t ht9) ?_
  refine AX ?_
  refine CI ?_
  refine WC.mono (markPuzzle_m G r l 1 hr9 hl9 hc9.out (by omega) (by omega) _ _ _ (sa1 ++ sb1) (ownX_mk2 Xa1'''''.out Xb1'''''.out) (by simpa using hn1.out) (fun o ho => by simp only [List.nil_append, List.mem_append] at ho; rcases ho with ho | ho; have := Ra1.out o ho; omega; have := Rb1.out o ho; omega)) ?_
  rintro _ Hh4 m4 ⟨rfl, hm4, hw4, hf4⟩
  try clear ga1
  try clear gb1
  try clear gb2
  try clear gb3
  have B0'''''' := (hf4 (0) (by omega) (fun h => by simp only [List.nil_append, List.mem_append] at h; rcases h with h | h; have := Ra1.out _ h; omega; have := Rb1.out _ h; omega)).trans B0'''''
  clear B0'''''
  have B1'''''' := (hf4 (1) (by omega) (fun h => by simp only [List.nil_append, List.mem_append] at h; rcases h with h | h; have := Ra1.out _ h; omega; have := Rb1.out _ h; omega)).trans B1'''''
  clear B1'''''
  have B25'''''' := (hf4 (25) (by omega) (fun h => by simp only [List.nil_append, List.mem_append] at h; rcases h with h | h; have := Ra1.out _ h; omega; have := Rb1.out _ h; omega)).trans B25'''''
  clear B25'''''
  have bx1''''' := (hf4 (m1) (by omega) (fun h => by simp only [List.nil_append, List.mem_append] at h; rcases h with h | h; have := Ra1.out _ h; omega; have := Rb1.out _ h; omega)).trans bx1''''
  clear bx1''''
  have bx2''' := (hf4 (m2) (by omega) (fun h => by simp only [List.nil_append, List.mem_append] at h; rcases h with h | h; have := Ra1.out _ h; omega; have := Rb1.out _ h; omega)).trans bx2''
  clear bx2''
  have bx3' := (hf4 (m3 + 3) (by omega) (fun h => by simp only [List.nil_append, List.mem_append] at h; rcases h with h | h; have := Ra1.out _ h; omega; have := Rb1.out _ h; omega)).trans bx3
  clear bx3
  have Xb2'''' := ownX_congr (fun o ho => hf4 o (by have := Rb2.out o ho; omega) (fun h => by have := Rb2.out o ho; simp only [List.nil_append, List.mem_append] at h; rcases h with h | h; have := Ra1.out _ h; omega; have := Rb1.out _ h; omega)) Xb2'''.out
  clear Xb2'''
  replace Xb2'''' := Hid.mk Xb2''''
  have Xb3'' := ownX_congr (fun o ho => hf4 o (by have := Rb3.out o ho; omega) (fun h => by have := Rb3.out o ho; simp only [List.nil_append, List.mem_append] at h; rcases h with h | h; have := Ra1.out _ h; omega; have := Rb1.out _ h; omega)) Xb3'.out
  clear Xb3'
  replace Xb3'' := Hid.mk Xb3''
  clear hf4 hw4
  refine AX ?_
  refine CI ?_
  refine WC.mono (markPlacement_m G j t (1 + 2 * r.length + cntQ l) ht9 (by omega) (by omega) _ _ _ (([] : List Nat) ++ sb2) (ownX_mk2 ownX_mki Xb2''''.out) (by simpa using hn2.out) (fun o ho => by simp only [List.nil_append, List.mem_append] at ho; skip; have := Rb2.out o ho; omega)) ?_
  rintro _ Hh5 m5 ⟨rfl, hm5, hw5, hf5⟩
  try clear gb2
  try clear gb3
  have B0''''''' := (hf5 (0) (by omega) (fun h => by simp only [List.nil_append, List.mem_append] at h; have := Rb2.out _ h; omega)).trans B0''''''
  clear B0''''''
  have B1''''''' := (hf5 (1) (by omega) (fun h => by simp only [List.nil_append, List.mem_append] at h; have := Rb2.out _ h; omega)).trans B1''''''
  clear B1''''''
  have B25''''''' := (hf5 (25) (by omega) (fun h => by simp only [List.nil_append, List.mem_append] at h; have := Rb2.out _ h; omega)).trans B25''''''
  clear B25''''''
  have bx1'''''' := (hf5 (m1) (by omega) (fun h => by simp only [List.nil_append, List.mem_append] at h; have := Rb2.out _ h; omega)).trans bx1'''''
  clear bx1'''''
  have bx2'''' := (hf5 (m2) (by omega) (fun h => by simp only [List.nil_append, List.mem_append] at h; have := Rb2.out _ h; omega)).trans bx2'''
  clear bx2'''
  have bx3'' := (hf5 (m3 + 3) (by omega) (fun h => by simp only [List.nil_append, List.mem_append] at h; have := Rb2.out _ h; omega)).trans bx3'
  clear bx3'
  have Xb3''' := ownX_congr (fun o ho => hf5 o (by have := Rb3.out o ho; omega) (fun h => by have := Rb3.out o ho; simp only [List.nil_append, List.mem_append] at h; have := Rb2.out _ h; omega)) Xb3''.out
  clear Xb3''
  replace Xb3''' := Hid.mk Xb3'''
  clear hf5 hw5
  have hkn : ¬ (1 + 2 * r.length + cntQ l + t.length < 0) := by omega
  have gb3 := ownX_gives Xb3'''.out
  refine AX ?_
  refine CV (eqPlacement_fn G wj w hwl) ?_
  refine AX ?_
  refine CI ?_
  refine WC.mono (markPlacement_m G wj w 1 hwl (by omega) (by omega) _ _ _ (([] : List Nat) ++ sb3) (ownX_mk2 ownX_mki Xb3'''.out) (by simpa using hn3.out) (fun o ho => by simp only [List.nil_append, List.mem_append] at ho; skip; have := Rb3.out o ho; omega)) ?_
  rintro _ Hh6 m6 ⟨rfl, hm6, hw6, hf6⟩
  try clear gb3
  have B0'''''''' := (hf6 (0) (by omega) (fun h => by simp only [List.nil_append, List.mem_append] at h; have := Rb3.out _ h; omega)).trans B0'''''''
  clear B0'''''''
  have B1'''''''' := (hf6 (1) (by omega) (fun h => by simp only [List.nil_append, List.mem_append] at h; have := Rb3.out _ h; omega)).trans B1'''''''
  clear B1'''''''
  have B25'''''''' := (hf6 (25) (by omega) (fun h => by simp only [List.nil_append, List.mem_append] at h; have := Rb3.out _ h; omega)).trans B25'''''''
  clear B25'''''''
  have bx1''''''' := (hf6 (m1) (by omega) (fun h => by simp only [List.nil_append, List.mem_append] at h; have := Rb3.out _ h; omega)).trans bx1''''''
  clear bx1''''''
  have bx2''''' := (hf6 (m2) (by omega) (fun h => by simp only [List.nil_append, List.mem_append] at h; have := Rb3.out _ h; omega)).trans bx2''''
  clear bx2''''
  have bx3''' := (hf6 (m3 + 3) (by omega) (fun h => by simp only [List.nil_append, List.mem_append] at h; have := Rb3.out _ h; omega)).trans bx3''
  clear bx3''
  clear hf6
  try clear hkn
  have hkn : ¬ (1 + (w.length : Int) < 0) := by omega
  have hkk : (1 + (w.length : Int) != 1 + (w.length : Int)) = false := by simp
  have gb3 := giveOf_last hw6
  replace hw6 := Hid.mk hw6
  refine AX ?_
  refine CV (heldPlacement_fn G wj 1 w.length hwl (by omega) (by omega)) ?_
  refine AX ?_
  have hnd : [m6 + 20].Nodup := by simp
  refine FD [m6 + 20] [(17, 0), (999999, 0)] [] hnd ?_
  refine FQ ?_ (hs := by
    intro Hx hx
    have f0 : Hx (0) = _ := hx.off (by simp only [List.mem_cons, List.not_mem_nil, or_false, not_or]; omega)
    simp only [setF_if, upd_if, neAdd, neLt, ltAdd, addNe, ltNe, Nat.left_eq_add, Nat.add_eq_left, Nat.reduceEqDiff, Nat.add_assoc, Nat.reduceAdd, reduceIte, *] at f0
    exact EV)
  refine FCP (toPuzzle_fn G r l hr9 hl9 hc9.out) ?_
  refine FQ ?_ (hs := by
    intro Hx hx
    have f0 : Hx (1) = _ := hx.off (by simp only [List.mem_cons, List.not_mem_nil, or_false, not_or]; omega)
    simp only [setF_if, upd_if, neAdd, neLt, ltAdd, addNe, ltNe, Nat.left_eq_add, Nat.add_eq_left, Nat.reduceEqDiff, Nat.add_assoc, Nat.reduceAdd, reduceIte, *] at f0
    exact EV)
  refine FCP (toPlacement_fn G j t ht9) ?_
  refine FF ?_
  refine FCP himpl.out.gives ?_
  refine FF ?_
  refine FF ?_
  refine FF ?_
  refine FM 0 (m6 + 20) ?_ (hs := by
    intro Hx hx
    exact EVM)
  refine FMN 0 (m6 + 20) ?_ (hs := by
    intro Hx hx
    have f0 : Hx (m6 + 20) = _ := hx.at hnd 0 rfl (by decide)
    simp only [setF_if, upd_if, neAdd, neLt, ltAdd, addNe, ltNe, Nat.left_eq_add, Nat.add_eq_left, Nat.reduceEqDiff, Nat.add_assoc, Nat.reduceAdd, reduceIte, *] at f0
    exact EVM)
  refine FF ?_
  refine WF.nil ?_
  clear hnd
  refine TH ?_
  refine W.cutn ?_
  intro EX4 HX4 NX4 hEX hHX hNX
  have e8_4 := hEX 8
  have e9_4 := hEX 9
  have e12_4 := hEX 12
  have e15_4 := hEX 15
  have e17_4 := hEX 17
  have e18_4 := hEX 18
  simp only [setF_if, argE, Nat.reduceEqDiff, reduceIte, List.getElem?_cons_zero, List.getElem?_cons_succ, Option.getD_some, e2_3, e3_3, e4_3, e8_3, e9_3, e10_3, e11_3, e12_3, e13_3] at e8_4 e9_4 e12_4 e15_4 e17_4 e18_4
  have hN4 : m6 + 20 < NX4 := by omega
  have B0''''''''' := (show HX4 (0) = Hh6 (0) by rw [hHX, upd_if, if_neg (by omega), upd_if, if_neg (by omega)]).trans B0''''''''
  have B1''''''''' := (show HX4 (1) = Hh6 (1) by rw [hHX, upd_if, if_neg (by omega), upd_if, if_neg (by omega)]).trans B1''''''''
  have B25''''''''' := (show HX4 (25) = Hh6 (25) by rw [hHX, upd_if, if_neg (by omega), upd_if, if_neg (by omega)]).trans B25''''''''
  have bx1'''''''' := (show HX4 (m1) = Hh6 (m1) by rw [hHX, upd_if, if_neg (by omega), upd_if, if_neg (by omega)]).trans bx1'''''''
  have bx2'''''' := (show HX4 (m2) = Hh6 (m2) by rw [hHX, upd_if, if_neg (by omega), upd_if, if_neg (by omega)]).trans bx2'''''
  have bx3'''' := (show HX4 (m3 + 3) = Hh6 (m3 + 3) by rw [hHX, upd_if, if_neg (by omega), upd_if, if_neg (by omega)]).trans bx3'''
  have bxL : HX4 (m6 + 20) = some (.box 55 [.i .i64 wj, .sl 1 (ints w)]) := by rw [hHX, upd_if, if_pos rfl]
  clear gb3
  have gb3 := giveOf_last (ownX_congr (H' := HX4) (fun o ho => by simp only [List.nil_append] at ho; have := Rb3.out o ho; rw [hHX, upd_if, if_neg (by omega), upd_if, if_neg (by omega)]) hw6.out)
  clear hEX hHX hNX B0'''''''' B1'''''''' B25'''''''' bx1''''''' bx2''''' bx3''' e2_3 e3_3 e4_3 e8_3 e9_3 e10_3 e11_3 e12_3 e13_3
  refine AX ?_
  refine CV (eqPlacement_fn G wj w hwl) ?_
  refine AX ?_
  refine CV (heldPlacement_fn G wj 1 w.length hwl (by omega) (by omega)) ?_
  refine AX ?_
  simp [retA, backA]
end Go.Proofs
end
section
namespace Go.Proofs.YtdbkkjoejomcmaaGreat.fnExactTurnPlacement
open Go Go.Big Go.ChangeShapes Go.WideShapes Go.ChangeAt Go.RowKit Go.Proofs
set_option maxHeartbeats 2000000
def Pure : Prop := ∀ (r : List (Int × Int)) (l : List PieceM) (j : Int) (t : List Int) (k : Int), (∀ x ∈ r, wf64 x.1 ∧ wf64 x.2) → (∀ p ∈ l, (∀ x ∈ p.cs, wf64 x.1 ∧ wf64 x.2) ∧ wf64 p.k) → wf64 j → (∀ y ∈ t, wf64 y) → wf64 k → r.length < 1000000000 → l.length < 1000000000 → (∀ p ∈ l, p.cs.length < 1000000000) → t.length < 1000000000 → turnPI r l j t k = turnPS r l j t k ∧ ((turnPI r l j t k).1.2.length < 1000000000)
theorem own : ownKnob Tryz.prog.godebug = none := by kernel_rfl
theorem laidOut : laidOutB Tryz.prog = true := by kernel_rfl
section
variable {H : Type} {enc : TypeId × Value → H} {w : World} {base : Nat} {spare : Nat → Bool} {held : Bool}
theorem op_cell : Opens enc Tryz.prog w base spare held 119 (fun x : Int × Int => [.i .i64 x.1, .i .i64 x.2]) (fun x => wf64 x.1 ∧ wf64 x.2) :=
  op_fields2 Tryz.underlying119 (by kernel_rfl) rfl (by kernel_rfl) (op_int Tryz.underlying2) (op_int Tryz.underlying2)
theorem op_cells : Opens enc Tryz.prog w base spare held 22 (fun x : List (Int × Int) => [.sl (cells x)]) (fun l => l.length ≤ maxLen ∧ ∀ x ∈ l, wf64 x.1 ∧ wf64 x.2) :=
  op_slice Tryz.underlying22 (of_decide_eq_true (by kernel_rfl)) op_cell
theorem op_piece : Opens enc Tryz.prog w base spare held 114 pieceR (fun p => (p.cs.length ≤ maxLen ∧ ∀ x ∈ p.cs, wf64 x.1 ∧ wf64 x.2) ∧ wf64 p.k ∧ True) :=
  op_iso (fun p : PieceM => (p.cs, p.k, p.b)) (fun a => ⟨a.1, a.2.1, a.2.2⟩) (fun _ => rfl) (op_fields3 Tryz.underlying114 (by kernel_rfl) rfl (by kernel_rfl) (by kernel_rfl) op_cells (op_int Tryz.underlying2) (op_bool Tryz.underlying4))
theorem op_pieces : Opens enc Tryz.prog w base spare held 23 (fun x : List PieceM => [.sl (pieces x)]) (fun l => l.length ≤ maxLen ∧ ∀ p ∈ l, (p.cs.length ≤ maxLen ∧ ∀ x ∈ p.cs, wf64 x.1 ∧ wf64 x.2) ∧ wf64 p.k ∧ True) :=
  op_slice Tryz.underlying23 (of_decide_eq_true (by kernel_rfl)) op_piece
theorem op_puzzle : Opens enc Tryz.prog w base spare held 25 (fun x : List (Int × Int) × List PieceM => [.sl (cells x.1), .sl (pieces x.2)]) (fun x => (x.1.length ≤ maxLen ∧ ∀ y ∈ x.1, wf64 y.1 ∧ wf64 y.2) ∧ (x.2.length ≤ maxLen ∧ ∀ p ∈ x.2, (p.cs.length ≤ maxLen ∧ ∀ y ∈ p.cs, wf64 y.1 ∧ wf64 y.2) ∧ wf64 p.k ∧ True)) :=
  op_fields2 Tryz.underlying25 (by kernel_rfl) rfl (by kernel_rfl) op_cells op_pieces
theorem op_ints : Opens enc Tryz.prog w base spare held 29 (fun x : List Int => [.sl (ints x)]) (fun l => l.length ≤ maxLen ∧ ∀ x ∈ l, wf64 x) :=
  op_slice Tryz.underlying29 (of_decide_eq_true (by kernel_rfl)) (op_int Tryz.underlying2)
theorem op_placement : Opens enc Tryz.prog w base spare held 53 (fun x : Int × List Int => [.i .i64 x.1, .sl (ints x.2)]) (fun x => wf64 x.1 ∧ (x.2.length ≤ maxLen ∧ ∀ y ∈ x.2, wf64 y)) :=
  op_fields2 Tryz.underlying53 (by kernel_rfl) rfl (by kernel_rfl) (op_int Tryz.underlying2) op_ints
theorem op_places : Opens enc Tryz.prog w base spare held 26 (fun x : List (Int × List Int) => [.sl (places x)]) (fun l => l.length ≤ maxLen ∧ ∀ x ∈ l, wf64 x.1 ∧ (x.2.length ≤ maxLen ∧ ∀ y ∈ x.2, wf64 y)) :=
  op_slice Tryz.underlying26 (of_decide_eq_true (by kernel_rfl)) op_placement
end
set_option maxRecDepth 100000 in
theorem lifted {G : Gv} (hGv : GvOk Tryz.prog G) (hA : AllH G) (Pu : Pure) (os : Os) (started : os.Started) (H : Type) (enc : TypeId × Value → H) :
    ReturnsInHanded {} Tryz.checked os 9 .any (Rows.fnExactTurnPlacementSpec.pre6 enc Tryz.prog Tryz.f9 Rows.fnExactTurnPlacementRow.domain false) (Rows.fnExactTurnPlacementSpec.post enc Tryz.prog Tryz.f9 false true false false) := by
  refine returnsInHanded_of_change_sized (C := Tryz.checked) own started (by kernel_rfl) Tryz.func9
    (ChangeSpec.witness6 (enc := enc) (C := Tryz.checked) false ⟨#[], #[.agg #[.slice none 0 0, .slice none 0 0], .agg #[.int .i64 0, .slice none 0 0], .int .i64 0], []⟩ 8 (by kernel_rfl) (by kernel_rfl) (by kernel_rfl) (by kernel_rfl)) ?_
  intro W base args ds gs before hval0 hW _ _ _
  have hval : ∀ (j : Nat) t v, Tryz.f9.params[j]? = some t → args[j]? = some v → Value.okWide Tryz.prog W .any base t v := hval0
  have hW' := hW
  obtain ⟨p, q, hA0, hV, rfl, hfz, hnd⟩ := hW
  have hAr : DataW.TrodAll enc Tryz.prog W 0 (fun _ => true) true Tryz.f9.params.toList args.toList ds p := hA0
  rw [Tryz.params9] at hAr hval
  obtain ⟨v0, vs0, d0, ds0, p0, q0, hargs, rfl, rfl, h0, r0⟩ := trodAll_cons hAr
  obtain ⟨v1, vs1, d1, ds1, p1, q1, rfl, rfl, rfl, h1, r1⟩ := trodAll_cons r0
  obtain ⟨v2, vs2, d2, ds2, p2, q2, rfl, rfl, rfl, h2, r2⟩ := trodAll_cons r1
  obtain ⟨rfl, rfl, rfl⟩ := trodAll_nil r2
  obtain rfl : args = #[v0, v1, v2] := by cases args; simp_all
  obtain ⟨rfl, rfl⟩ := trodVars_none hV
  obtain ⟨cs0, rfl, _⟩ := okWide_struct Tryz.underlying25 (hval 0 25 v0 rfl rfl)
  obtain ⟨cs1, rfl, _⟩ := okWide_struct Tryz.underlying53 (hval 1 53 v1 rfl rfl)
  obtain ⟨n2, rfl⟩ := okWide_int Tryz.underlying2 (hval 2 2 v2 rfl rfl)
  have k0 := h0
  have lt0 : ∀ x ∈ p0, x.block < W.heap.size := by obtain ⟨m, hm⟩ := k0; exact DataW.trod_lt m _ _ _ hm
  obtain ⟨fu0, hf0⟩ := h0
  have k1 := h1
  have lt1 : ∀ x ∈ p1, x.block < W.heap.size := by obtain ⟨m, hm⟩ := k1; exact DataW.trod_lt m _ _ _ hm
  obtain ⟨fu1, hf1⟩ := h1
  have k2 := h2
  have lt2 : ∀ x ∈ p2, x.block < W.heap.size := by obtain ⟨m, hm⟩ := k2; exact DataW.trod_lt m _ _ _ hm
  obtain ⟨fu2, hf2⟩ := h2
  obtain ⟨⟨r, l⟩, ha0, ⟨wr1, wr2⟩, wl1, wl2⟩ := op_puzzle _ _ _ hf0
  have wr3 : r.length ≤ maxLen := wr1
  have wl3 : l.length ≤ maxLen := wl1
  obtain ⟨⟨j, t⟩, ha1, wj, wt1, wt2⟩ := op_placement _ _ _ hf1
  have wt3 : t.length ≤ maxLen := wt1
  obtain ⟨k, ha2, w_k⟩ := op_int Tryz.underlying2 _ _ _ hf2
  clear hA0 hval0
  have hm : maxLen = 9223372036854775807 := rfl
  have hlaw := law_fn G hA r l j t k (by omega) (by omega) (fun p hp => by have := (wl2 p hp).1.1; omega) (by omega) (Pu r l j t k wr2 (fun p hp => ⟨(wl2 p hp).1.2, (wl2 p hp).2.1⟩) wj wt2 w_k)
  refine (calls_of hGv hlaw W [.agg cs0, .agg cs1, .int .i64 n2] ⟨?_, ?_, ?_, trivial⟩).mono fun e W' ⟨he, bel⟩ => ?_
  · simp only [vrep]
    exact ⟨cs0, rfl, avsP_ok (ps := [.sl (cells r), .sl (pieces l)]) (by simpa [Value.cells] using ha0)⟩
  · simp only [vrep]
    exact ⟨cs1, rfl, avsP_ok (ps := [.i .i64 j, .sl (ints t)]) (by simpa [Value.cells] using ha1)⟩
  · exact avP_ok (p := .i .i64 k) (by simpa [Value.cells] using ha2.1)
  subst he
  exact ⟨_, rfl, _, _, _, [], _, [], hW', trodAll_mk1 (shut_bool Tryz.underlying4 _), (trodAll_cons_mk (Below.trod laidOut (by kernel_rfl) (of_decide_eq_true (by kernel_rfl)) k0 bel lt0) (trodAll_cons_mk (Below.trod laidOut (by kernel_rfl) (of_decide_eq_true (by kernel_rfl)) k1 bel lt1) (trodAll_cons_mk (Below.trod laidOut (by kernel_rfl) (of_decide_eq_true (by kernel_rfl)) k2 bel lt2) trodAll_mk0))), rfl, bel.frame _, fun h => by cases h⟩
theorem j0 : (Rows.fnExactTurnPlacementRow.inPlace == Tryz.prog.inPlace 9) = true := by kernel_rfl
theorem j1 : (Rows.fnExactTurnPlacementRow.unfollowed == Tryz.prog.unfollowed 9) = true := by kernel_rfl
theorem j2 : (Rows.fnExactTurnPlacementRow.recurses == Tryz.prog.recurses 9) = true := by kernel_rfl
theorem j3 : (Rows.fnExactTurnPlacementRow.named == Tryz.prog.varsNamed 9) = true := by kernel_rfl
theorem closedF : joinedFacts Tryz.prog 9 Tryz.f9 Rows.fnExactTurnPlacementSpec Rows.fnExactTurnPlacementRow = true := by
  unfold joinedFacts
  rw [j0, j1, j2, j3]
  kernel_rfl
theorem over {G : Gv} (hGv : GvOk Tryz.prog G) (hA : AllH G) (Pu : Pure) : Rows.fnExactTurnPlacementRow.holds Tryz.pinned (OpenSpec.ofChange Rows.fnExactTurnPlacementSpec) :=
  OpenClaim.holds_of_wide 9 Tryz.f9 rfl rfl rfl rfl rfl rfl rfl ⟨rfl, rfl, rfl, rfl, rfl⟩ rfl rfl rfl rfl rfl (by kernel_rfl) Tryz.func9 closedF
    (of_decide_eq_true (by kernel_rfl)) (by unfold Func.isWrapper; first | (rw [if_pos (by decide +kernel)]; kernel_rfl) | (rw [if_neg (by decide +kernel)]; exact ⟨rfl, rfl⟩))
    (fun os started H enc _ => lifted hGv hA Pu os started H enc)
/-- The row, out of what is left. -/
theorem of_pure {G : Gv} (hGv : GvOk Tryz.prog G) (hA : AllH G) (Pu : Pure) : Rows.FnExactTurnPlacementSaid := over hGv hA Pu
end Go.Proofs.YtdbkkjoejomcmaaGreat.fnExactTurnPlacement
end
section
open Go Go.Big
namespace Go.Proofs
set_option maxHeartbeats 2000000
theorem turnP_eq (r : Shape) (l : List PieceM) (j : Int) (t : List Int) (k : Int) (ht : t.length < 1000000000) : turnPI r l j t k = turnPS r l j t k ∧ (turnPI r l j t k).1.2.length < 1000000000 := by
  have e : turnPI r l j t k = turnPS r l j t k := by
    unfold turnPI turnPS
    rw [puzzle_eq, regionM_S, show placeI r l = placeS r l from funext fun a => funext fun b => place_eq r l a b]
  rw [e]
  refine ⟨rfl, ?_⟩
  unfold turnPS turnPM
  split
  · split
    · split
      · split
        · show (sortedB _).length < _
          rw [sortedB_len, turnX_len]; exact ht
        · simp
      · simp
    · simp
  · simp
end Go.Proofs
end
section
open Go Go.Big
namespace Go.Proofs
set_option maxHeartbeats 2000000
theorem noG_ok : GvOk Tryz.prog noG := fun _ _ _ _ _ _ _ h => h.elim
def allG : Gv := fun f args H n r H' n' => sortsG f args H n r H' n' ∨ sortsG1 f args H n r H' n' ∨ sortsG2 f args H n r H' n' ∨ sortsN2 f args H n r H' n'
theorem allG_all : AllG allG := ⟨fun _ _ _ _ _ _ _ h => .inl h, fun _ _ _ _ _ _ _ h => .inr (.inl h), fun _ _ _ _ _ _ _ h => .inr (.inr (.inl h)), fun _ _ _ _ _ _ _ h => .inr (.inr (.inr h))⟩
theorem allG_ok : GvOk Tryz.prog allG := by
  rintro f args H n r H' n' (h | h | h | h)
  · exact sortK_ok Tryz.sortCell (by decide) Tryz.isAgg117 Tryz.sizeOf117 noG_ok _ _ _ _ _ _ _ h
  · exact sort1_ok Tryz.sortShape noG_ok _ _ _ _ _ _ _ h
  · exact sortO_ok Tryz.sortPlace (by decide) Tryz.isAgg55 Tryz.sizeOf55 noG_ok _ _ _ _ _ _ _ h
  · exact sortN_ok Tryz.sortPlace _ _ _ _ _ _ _ h
end Go.Proofs
end
section
open Go Go.Big
namespace Go.Proofs
set_option maxHeartbeats 2000000
def allH : Gv := fun f args H n r H' n' => allG f args H n r H' n' ∨ sortsI4 f args H n r H' n'
theorem allH_all : AllH allH where
  c1 := fun _ _ _ _ _ _ _ h => .inl (allG_all.c1 _ _ _ _ _ _ _ h)
  c2 := fun _ _ _ _ _ _ _ h => .inl (allG_all.c2 _ _ _ _ _ _ _ h)
  c3 := fun _ _ _ _ _ _ _ h => .inl (allG_all.c3 _ _ _ _ _ _ _ h)
  c4 := fun _ _ _ _ _ _ _ h => .inl (allG_all.c4 _ _ _ _ _ _ _ h)
  c5 := fun _ _ _ _ _ _ _ h => .inr h
theorem allH_ok : GvOk Tryz.prog allH := by
  rintro f args H n r H' n' (h | h)
  · exact allG_ok _ _ _ _ _ _ _ h
  · exact sortI_ok Tryz.sortInts _ _ _ _ _ _ _ h
end Go.Proofs
end
