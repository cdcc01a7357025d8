/- Walks: Lists out of which elements are taken in place. No condition. | Elements taken out of an array of one's own by the library. No condition. | Corners and sizes of cells. No condition. | The reference's moves, normal forms, turns. No condition. | Turns. No condition. | Shapes compared. No condition. | Cells in order. No condition. | Shapes equal; cells sorted by the reference. No condition. | The reference's forms. No condition. -/
import Derived.Test.YtdbkkjoejomcmaaGreatBO
import Derived.Test.YtdbkkjoejomcmaaGreatWk2
import Derived.Test.YtdbkkjoejomcmaaGreatWk3
import Derived.Test.YtdbkkjoejomcmaaGreatBC
set_option linter.unusedVariables false
set_option linter.unusedSimpArgs false
section
open Go Go.Big
namespace Go.Proofs
set_option maxHeartbeats 2000000
theorem setL_drop {α : Type} {C l : List α} {i j : Nat} {x : α} (h : C.drop j = l.drop j) (hij : i < j) : (C.set i x).drop (j + 1) = l.drop (j + 1) := by
  rw [List.drop_set_of_lt (by omega), ← List.drop_drop (i := 1) (l := C), h, List.drop_drop]
theorem setL_take {α : Type} {C : List α} {i : Nat} {x : α} (h : i < C.length) : (C.set i x).take (i + 1) = C.take i ++ [x] := by
  rw [List.take_succ_eq_append_getElem (by simpa using h), List.take_set_of_le (Nat.le_refl _)]; simp
theorem filter_take {α : Type} {q : α → Bool} {l : List α} {j : Nat} {x : α} (h : l[j]? = some x) : (l.take (j + 1)).filter q = (l.take j).filter q ++ (if q x then [x] else []) := by
  obtain ⟨hj, rfl⟩ := List.getElem?_eq_some_iff.mp h
  rw [List.take_succ_eq_append_getElem hj, List.filter_append]
  congr 1
  by_cases c : q l[j] = true <;> simp [c]
theorem find_filter {α : Type} {p : α → Bool} {l : List α} {z : α} {i : Nat} (h : (List.range l.length).find? (fun i => p (l.getD i z)) = some i) : i < l.length ∧ l.take i = (l.take (i + 1)).filter fun x => !p x := by
  rw [List.find?_range_eq_some] at h
  obtain ⟨h1, h2, h3⟩ := h
  have hi : i < l.length := by simpa using h2
  refine ⟨hi, ?_⟩
  have e1 : (l.take i).filter (fun x => !p x) = l.take i := by
    rw [List.filter_eq_self]
    intro x hx
    obtain ⟨j, hj, rfl⟩ := List.mem_iff_getElem.mp hx
    have hji : j < i := by rw [List.length_take] at hj; omega
    have := h3 j hji
    simpa [List.getD_eq_getElem?_getD, show j < l.length by omega] using this
  rw [filter_take (x := l[i]) (List.getElem?_eq_getElem hi), e1, if_neg, List.append_nil]
  simpa [List.getD_eq_getElem?_getD, hi] using h1
theorem find_filter_no {α : Type} {p : α → Bool} {l : List α} {z : α} (h : (List.range l.length).find? (fun i => p (l.getD i z)) = none) : (l.filter fun x => !p x) = l := by
  rw [List.find?_range_eq_none] at h
  rw [List.filter_eq_self]
  intro x hx
  obtain ⟨j, hj, rfl⟩ := List.mem_iff_getElem.mp hx
  have := h j hj
  simpa [List.getD_eq_getElem?_getD, hj] using this
end Go.Proofs
end
section
open Go Go.Big
namespace Go.Proofs
set_option maxHeartbeats 2000000
/-- Rows that own what they lead to. -/
abbrev rowO (x : Int × Nat × Nat) : List PV := [.i .i64 x.1, .ob x.2.1 x.2.2]
def rowsO (l : List (Int × Nat × Nat)) : List (List PV) := l.map rowO
theorem rowsO_len (l : List (Int × Nat × Nat)) : (rowsO l).length = l.length := by simp [rowsO]
theorem rowsO_at {l : List (Int × Nat × Nat)} {i : Nat} {x : Int × Nat × Nat} (h : l[i]? = some x) : (rowsO l)[i]? = some (rowO x) := by simp [rowsO, h]
theorem rowsO_set (l : List (Int × Nat × Nat)) (i : Nat) (x : Int × Nat × Nat) : (rowsO l).set i (rowO x) = rowsO (l.set i x) := by simp [rowsO, List.map_set]
def findPo (p : (Int × Nat × Nat) → Bool) (ls : List (Int × Nat × Nat)) : Int := match (List.range ls.length).find? (fun i => p (ls.getD i (0, 0, 0))) with
  | some i => i
  | none => -1
/-- A function value that asks one question of an element, and leaves all objects as they are. -/
def AskOPo (G : Gv) (f : FuncId) (caps : List AV) (H0 : Heap) (n0 o : Nat) (p : (Int × Nat × Nat) → Bool) (ls : List (Int × Nat × Nat)) : Prop :=
  ∀ x ∈ ls, ∀ (H : Heap) (n : Nat), n0 ≤ n → (∀ k, k < n0 → k ≠ o → H k = H0 k) → WC Tryz.prog G f ((.ag [.i .i64 x.1, .own x.2.1 x.2.2]) :: caps) H n (fun r H' n' => r = .b (p x) ∧ n ≤ n' ∧ ∀ k, k < n → H' k = H k)
theorem indexFuncPo_own (G : Gv) (f : FuncId) (caps : List AV) (H0 : Heap) (n0 o e t : Nat) (T : TypeId) (p : (Int × Nat × Nat) → Bool) (ls : List (Int × Nat × Nat)) (hp : AskOPo G f caps H0 n0 o p ls) (hff : (Tryz.prog.funcs[f]?).any (fun fn => fn.body.isSome && (fn.name != "runtime.NumGoroutine")) = true) (hls : ls.length < 1000000000) (ho : o < n0) (hH0 : H0 o = some (.arr e T 2 (rowsO ls) t))
    (H : Heap) (n : Nat) (hn : n0 ≤ n) (hH : ∀ k, k < n0 → H k = H0 k) :
    WC Tryz.prog G 122 [.own o e, .fn f caps] H n (fun r H' n' => r = .i .i64 (findPo p ls) ∧ n ≤ n' ∧ ∀ k, k < n0 → H' k = H0 k) := by
  refine (.body Tryz.func122 rfl (by simp [Tryz.ntmps122]) ?_)
  rw [Tryz.ntmps122, Tryz.results122]
  have hlen := rowsO_len ls
  have hHo : H o = some (.arr e T 2 (rowsO ls) t) := (hH o ho).trans hH0
  replace hH := Hid.mk hH
  replace hp := Hid.mk hp
  refine AL ?_
  refine .loop (.inv (fun d E H n' => ∃ i : Nat, i + d = ls.length ∧ n ≤ n' ∧ E 0 = .own o e ∧ E 1 = .fn f caps ∧ E 7 = .i .i64 ls.length ∧ E 8 = .i .i64 i ∧ (∀ k, k < n0 → H k = H0 k) ∧ (∀ j, j < i → p (ls.getD j (0, 0, 0)) = false)) ls.length ?_ ?_)
  · exact ⟨0, by omega, by omega, by simp [setF_if, argE], by simp [setF_if, argE], by simp [setF_if, argE, hlen], by simp [setF_if, argE], hH.out, fun j hj => by omega⟩
  clear hH hHo
  rintro d E H n' ⟨i, hi, hnn, h0, h1, h7, h8, hH, hall⟩
  have hHo : H o = some (.arr e T 2 (rowsO ls) t) := (hH o ho).trans hH0
  replace hH := Hid.mk hH
  replace hall := Hid.mk hall
  by_cases c : (i : Int) < ls.length
  · have hw_i : IntKind.i64.wrap ((i : Int) + 1) = (i : Int) + 1 := wr64 (by omega) (by omega)
    have cN : i < ls.length := by omega
    have hr := rowsO_at (l := ls) (i := i) (x := ls.getD i (0, 0, 0)) (by simp [List.getD_eq_getElem?_getD, show i < ls.length by omega])
    have hmem : ls.getD i (0, 0, 0) ∈ ls := by rw [List.getD_eq_getElem?_getD, List.getElem?_eq_getElem (by omega)]; exact List.getElem_mem _
    have hyes : p (ls.getD i (0, 0, 0)) = true → findPo p ls = i := fun h => by
      unfold findPo; rw [find_yes (p := fun i => p (ls.getD i (0, 0, 0))) (i := i) (by omega) h (fun j hj => hall.out j hj)]
    have hmore : p (ls.getD i (0, 0, 0)) = false → ∀ j, j < i + 1 → p (ls.getD j (0, 0, 0)) = false := fun h j hj => by
      by_cases q : j = i
      · rw [q]; exact h
      · exact hall.out j (by omega)
    replace hyes := Hid.mk hyes
    replace hmore := Hid.mk hmore
    replace hmem := Hid.mk hmem
    generalize ls.getD i (0, 0, 0) = x at hr hmem hyes hmore
    refine AL ?_
    refine CI (hf := hff) ?_
    refine (hp.out x hmem.out _ _ (by omega) (fun k hk _ => hH.out k hk)).mono ?_
    rintro r H2 n2 ⟨rfl, hn2, hH2⟩
    have hH3 : ∀ k, k < n0 → H2 k = H0 k := fun k hk => (hH2 k (by omega)).trans (hH.out k hk)
    clear hH2 hHo
    replace hH3 := Hid.mk hH3
    cases cq : p x with
    | true =>
      refine AL ?_
      exact ⟨by simp [retA, setF_if, hyes.out cq], by omega, hH3.out⟩
    | false =>
      refine AL ?_
      exact ⟨ls.length - (i + 1), by omega, i + 1, by omega, by omega, by simp [setF_if, *], by simp [setF_if, *], by simp [setF_if, *], by simp [setF_if, *], hH3.out, hmore.out cq⟩
  · refine AL ?_
    have : findPo p ls = -1 := by
      unfold findPo; rw [find_no (p := fun i => p (ls.getD i (0, 0, 0))) (fun j hj => hall.out j (by omega))]
    exact ⟨by simp [retA, setF_if, this], by omega, hH.out⟩
theorem deleteFuncPo_own (G : Gv) (f : FuncId) (caps : List AV) (H0 : Heap) (n0 o e t : Nat) (T : TypeId) (p : (Int × Nat × Nat) → Bool) (ls : List (Int × Nat × Nat)) (hp : AskOPo G f caps H0 n0 o p ls) (hff : (Tryz.prog.funcs[f]?).any (fun fn => fn.body.isSome && (fn.name != "runtime.NumGoroutine")) = true) (hls : ls.length < 1000000000) (ho : o < n0) (hH0 : H0 o = some (.arr e T 2 (rowsO ls) t)) (ht : (ls = [] ∨ t = 2)) (hob : ∀ x ∈ ls, (∃ T' sz rr t', H0 x.2.1 = some (.arr x.2.2 T' sz rr t')) ∧ x.2.1 < n0 ∧ x.2.1 ≠ o) :
    WC Tryz.prog G 82 [.own o e, .fn f caps] H0 n0 (fun r H' n' => n0 ≤ n' ∧ (∀ k, k < n0 → k ≠ o → H' k = H0 k) ∧ ((∃ e' t', r = .own o e' ∧ (t' = 2 ∨ ls = [] ∧ t' = t) ∧ (ls ≠ [] → (ls.filter fun x => !p x) ≠ []) ∧ H' o = some (.arr e' T 2 (rowsO (ls.filter fun x => !p x)) t')) ∨ (r = .sl 1 [] ∧ (ls.filter fun x => !p x) = []))) := by
  refine (.body Tryz.func82 rfl (by simp [Tryz.ntmps82]) ?_)
  rw [Tryz.ntmps82, Tryz.results82]
  have hlen := rowsO_len ls
  have hidx := indexFuncPo_own G f caps H0 n0 o e t T p ls hp hff hls ho hH0
  replace hidx := Hid.mk hidx
  replace hp := Hid.mk hp
  replace ht := Hid.mk ht
  replace hob := Hid.mk hob
  refine AL ?_
  refine CI ?_
  refine (hidx.out _ _ (by omega) (fun _ _ => rfl)).mono ?_
  rintro r H1 n1 ⟨rfl, hn1, hH1⟩
  have hHo : H1 o = some (.arr e T 2 (rowsO ls) t) := (hH1 o ho).trans hH0
  replace hH1 := Hid.mk hH1
  cases hfd : (List.range ls.length).find? (fun i => p (ls.getD i (0, 0, 0))) with
  | none =>
    have hneg : findPo p ls = -1 := by unfold findPo; rw [hfd]
    have hfl := find_filter_no hfd
    clear hfd
    replace hfl := Hid.mk hfl
    refine AL ?_
    exact ⟨by omega, fun k hk _ => hH1.out k hk, .inl ⟨e, t, by simp [retA, setF_if, argE], ht.out.elim (fun h => .inr ⟨h, rfl⟩) .inl, by rw [hfl.out]; exact id, by rw [hfl.out]; exact hHo⟩⟩
  | some i0 =>
    have hneg : findPo p ls = (i0 : Int) := by unfold findPo; rw [hfd]
    obtain ⟨hi0, hfl⟩ := find_filter hfd
    have hne1 : ((i0 : Int) == -1) = false := by simp <;> omega
    have hne2 : ¬ ((i0 : Int) = -1) := by omega
    have hz0 : IntKind.i64.wrap ((i0 : Int) + 1) = (i0 : Int) + 1 := wr64 (by omega) (by omega)
    clear hfd
    replace hfl := Hid.mk hfl
    refine AL ?_
    refine .loop (.inv (fun d E H n' => ∃ (i j t' : Nat) (C : List (Int × Nat × Nat)), j + d = ls.length ∧ n0 ≤ n' ∧ E 0 = .own o e ∧ E 1 = .fn f caps ∧ E 5 = .i .i64 i ∧ E 6 = .i .i64 j ∧ H o = some (.arr e T 2 (rowsO C) t') ∧ (ls = [] ∨ t' = 2) ∧ (∀ k, k < n0 → k ≠ o → H k = H0 k) ∧ i < j ∧ C.length = ls.length ∧ C.drop j = ls.drop j ∧ C.take i = (ls.take j).filter fun x => !p x) (ls.length - (i0 + 1)) ?_ ?_)
    · exact ⟨i0, i0 + 1, t, ls, by omega, by omega, by simp [setF_if, argE], by simp [setF_if, argE], by simp [setF_if, argE, *], by simp [setF_if, argE, *], hHo, ht.out, fun k hk _ => hH1.out k hk, by omega, rfl, rfl, hfl.out⟩
    clear hHo hH1 hn1 hneg hne1 hne2 hz0 hfl hi0
    rintro d E H n' ⟨i, j, t', C, hj, hnn, h0, h1, h5, h6, hHo, ht', hH, hij, hCl, hCd, hCt⟩
    have hlen2 := rowsO_len C
    rw [hCl] at hlen2
    have hon : o < n' := by omega
    replace hH := Hid.mk hH
    replace ht' := Hid.mk ht'
    replace hCd := Hid.mk hCd
    replace hCt := Hid.mk hCt
    by_cases c : (j : Int) < ls.length
    · have hw_j : IntKind.i64.wrap ((j : Int) + 1) = (j : Int) + 1 := wr64 (by omega) (by omega)
      have cN : j < ls.length := by omega
      have cM : i < ls.length := by omega
      have hwi : IntKind.i64.wrap ((i : Int) + 1) = (i : Int) + 1 := wr64 (by omega) (by omega)
      obtain ⟨x, hx⟩ : ∃ x, ls[j]? = some x := ⟨_, List.getElem?_eq_getElem (by omega)⟩
      have hxm := List.mem_of_getElem? hx
      have hCx : C[j]? = some x := by
        have : (C.drop j)[0]? = (ls.drop j)[0]? := by rw [hCd.out]
        simpa [hx] using this
      have hr := rowsO_at hCx
      have hir : i < (rowsO C).length := by omega
      obtain ⟨ri, hri⟩ : ∃ ri, (rowsO C)[i]? = some ri := ⟨_, List.getElem?_eq_getElem hir⟩
      have hft := filter_take (q := fun x => !p x) hx
      have hset := rowsO_set C i x
      have hril : ∃ r0 r1, ri = [r0, r1] := by
        obtain ⟨y, _, rfl⟩ := List.mem_map.mp (List.mem_of_getElem? hri)
        exact ⟨_, _, rfl⟩
      obtain ⟨r0, r1, rfl⟩ := hril
      obtain ⟨⟨T', sz', rr, tq, hox⟩, hox1, hox2⟩ := hob.out x hxm
      have hox3 := (hH.out _ hox1 hox2).trans hox
      have hox4 : x.2.1 < n' := by omega
      have hox5 : ¬ (x.2.1 = n' + 8) := by omega
      obtain ⟨xk, xo, xe⟩ := x
      simp only at hox hox1 hox2 hox3 hox4 hox5 hr
      have ht2 : t' = 2 := ht'.out.resolve_left (fun h => by rw [h] at hx; simp at hx)
      subst ht2
      clear hox
      replace hx := Hid.mk hx
      replace hxm := Hid.mk hxm
      replace hCx := Hid.mk hCx
      replace hft := Hid.mk hft
      refine AL ?_
      refine CI (hf := hff) ?_
      refine (hp.out _ hxm.out _ _ (by omega) (fun k hk hko => by simp only [upd_if, show ¬ (k = n' + 8) by omega, if_false]; exact hH.out k hk hko)).mono ?_
      rintro r H2 n2 ⟨rfl, hn2, hH2⟩
      have hHo2 := hH2 o (by omega)
      have hbx2 := hH2 (n' + 8) (by omega)
      have hox6 := hH2 xo (by omega)
      simp only [upd_if, show ¬ (o = n' + 8) by omega, if_false, if_true, hox5, hHo, hox3] at hHo2 hbx2 hox6
      have hH3 : ∀ k, k < n0 → k ≠ o → H2 k = H0 k := fun k hk hko => (hH2 k (by omega)).trans (by simp only [upd_if, show ¬ (k = n' + 8) by omega, if_false]; exact hH.out k hk hko)
      clear hH2 hHo
      replace hH3 := Hid.mk hH3
      cases cq : p (xk, xo, xe) with
      | true =>
        have hft2 := hft.out
        simp only [cq, Bool.not_true, Bool.false_eq_true, if_false, List.append_nil] at hft2
        replace hft2 := Hid.mk hft2
        refine AL ?_
        exact ⟨ls.length - (j + 1), by omega, i, j + 1, 2, C, by omega, by omega, by simp [setF_if, *], by simp [setF_if, *], by simp [setF_if, *], by simp [setF_if, *], hHo2, .inr rfl, hH3.out, by omega, hCl, by rw [← List.drop_drop (i := 1), hCd.out, List.drop_drop], by rw [hCt.out, ← hft2.out]⟩
      | false =>
        have hft2 := hft.out
        simp only [cq, Bool.not_false, if_true] at hft2
        have hCt2 : (C.set i (xk, xo, xe)).take (i + 1) = (ls.take (j + 1)).filter fun x => !p x := by
          rw [setL_take (by omega), hCt.out]; exact hft2.symm
        have hCd2 : (C.set i (xk, xo, xe)).drop (j + 1) = ls.drop (j + 1) := setL_drop hCd.out hij
        have hcl2 : (C.set i (xk, xo, xe)).length = ls.length := by rw [List.length_set]; exact hCl
        clear hft2
        generalize C.set i (xk, xo, xe) = C2 at hCt2 hCd2 hcl2 hset
        replace hCt2 := Hid.mk hCt2
        replace hCd2 := Hid.mk hCd2
        refine AL ?_
        exact ⟨ls.length - (j + 1), by omega, i + 1, j + 1, 2, C2, by omega, by omega, by simp [setF_if, *], by simp [setF_if, *], by simp [setF_if, *], by simp [setF_if, *], by simp [upd_if, joinT, *], .inr rfl, fun k hk hko => by rw [upd_if, if_neg hko]; exact hH3.out k hk hko, by omega, hcl2, hCd2.out, hCt2.out⟩
    · have ej : j = ls.length := by omega
      have hCt2 := hCt.out
      rw [ej, List.take_length] at hCt2
      have hle : i ≤ ls.length := by omega
      have hzi : (0 : Int) ≤ i := by omega
      have hsub : i + (ls.length - i) = ls.length := by omega
      have hs0 : i - 0 = i := rfl
      have hfil : (ls.filter fun x => !p x).length = i := by rw [← hCt2, List.length_take]; omega
      have hrt : (rowsO C).take i = rowsO (ls.filter fun x => !p x) := by rw [← hCt2]; simp [rowsO, List.map_take]
      have hrl2 : (rowsO (ls.filter fun x => !p x)).length = i := by rw [rowsO_len]; exact hfil
      have hle2 : i ≤ i + (ls.length - i) := by omega
      generalize hF : (ls.filter fun x => !p x) = F at hfil hrt hrl2
      replace hF := Hid.mk hF
      replace hCt2 := Hid.mk hCt2
      replace hfil := Hid.mk hfil
      refine AX ?_
      have hL3 : (rowsO F ++ List.replicate (ls.length - i) [PV.i .i64 0, PV.sl []]).length = ls.length := by rw [List.length_append, hrl2, List.length_replicate]; omega
      refine OP ?_
      refine OP ?_
      by_cases hi00 : i = 0
      · subst hi00
        have hF0 : F = [] := List.length_eq_zero_iff.mp hfil.out
        refine WR.trim0 4 (o := o) (e := e) (lo := 0) (ty := T) (sz := 2) (rows := rowsO F ++ List.replicate (ls.length - 0) [PV.i .i64 0, PV.sl []]) (t := joinT t' 1) (by simp [setF_if]) (by simp [upd_if, joinT]) ?_
        refine AL ?_
        exact ⟨by omega, fun k hk hko => by rw [upd_if, if_neg hko]; exact hH.out k hk hko, .inr ⟨by simp [retA, setF_if], hF0⟩⟩
      · refine WR.trim 4 (o := o) (e := e) (lo := 0) (m := i) (ty := T) (sz := 2) (rows := rowsO F ++ List.replicate (ls.length - i) [PV.i .i64 0, PV.sl []]) (t := joinT t' 1) (by simp [setF_if]) (by simp [upd_if, joinT]) (by omega) ?_
        refine AL ?_
        refine ⟨by omega, fun k hk hko => by rw [upd_if, if_neg hko, upd_if, if_neg hko]; exact hH.out k hk hko, .inl ⟨e + 1, joinT t' 1, by simp [retA, setF_if], (ht'.out.elim (fun h => by have h2 : ls.length = 0 := List.length_eq_zero_iff.mpr h; omega) fun h => .inl (by subst h; rfl)), fun _ h => by have h2 := hfil.out; rw [h] at h2; exact hi00 h2.symm, ?_⟩⟩
        rw [upd_if, if_pos rfl]
        simp [hrl2, List.take_append_of_le_length, List.take_of_length_le]
end Go.Proofs
end
section
open Go Go.Big
namespace Go.Proofs
set_option maxHeartbeats 2000000

theorem corner_fn (G : Gv) (l : List (Int × Int)) (h1 : 0 < l.length) (hl : l.length < 1000000000) : Gives Tryz.prog G 177 [.sl 0 (cells l)] (cellA (minF l l.length).1 (minF l l.length).2) := by
  refine .of (.body Tryz.func177 rfl (by simp [Tryz.ntmps177]) ?_)
  rw [Tryz.ntmps177, Tryz.results177]
  have hlen := cells_len l
  have hr0 := cells_at (l := l) (i := 0) h1
  have z : ((0 : Int).toNat) = 0 := rfl
  refine AL ?_
  refine .loop (.inv (fun d E H n' => ∃ i : Nat, i + d = l.length ∧ 4 < n' ∧ E 2 = .ptr 0 0 0 0 ∧ E 3 = .ptr 4 0 0 0 ∧ E 9 = .sl 0 (cells l) ∧ E 10 = .i .i64 l.length ∧ E 11 = .i .i64 i ∧ H 0 = some (.box 117 [.i .i64 0, .i .i64 0]) ∧ H 4 = some (.box 117 [.i .i64 (minF l i).1, .i .i64 (minF l i).2])) l.length ?_ ?_)
  · simp [setF_if, argE, upd_if, minF]
  rintro d E H n' ⟨i, hi, hn4, h2, h3, h9, h10, h11, hH0, hH4⟩
  have hn0 : 0 < n' := by omega
  by_cases c : (i : Int) < l.length
  · have hr := cells_at (l := l) (i := i) (by omega)
    have hw_i : IntKind.i64.wrap ((i : Int) + 1) = (i : Int) + 1 := wr64 (by omega) (by omega)
    have hs := minF_succ (l := l) (i := i) (by omega)
    refine AL ?_
    refine ⟨l.length - (i + 1), by omega, i + 1, by omega, ?_⟩
    simp [setF_if, upd_if, *, minI]
  · have e : i = l.length := by omega
    subst e
    refine AL ?_
    simp [retA, backA, backsA]
def maxI (a b : Int) : Int := if a < b then b else a
def maxF (l : List (Int × Int)) (i : Nat) : Int × Int := (l.take i).foldl (fun q p => (maxI q.1 p.1, maxI q.2 p.2)) (l.getD 0 (0, 0))
theorem maxF_succ {l : List (Int × Int)} {i : Nat} (h : i < l.length) : maxF l (i + 1) = (maxI (maxF l i).1 (l.getD i (0, 0)).1, maxI (maxF l i).2 (l.getD i (0, 0)).2) := by
  unfold maxF
  rw [List.take_succ_eq_append_getElem h, List.foldl_append]
  simp only [List.foldl_cons, List.foldl_nil, List.getD_eq_getElem?_getD, List.getElem?_eq_getElem h, Option.getD_some]
theorem reach_fn (G : Gv) (l : List (Int × Int)) (h1 : 0 < l.length) (hl : l.length < 1000000000) : Gives Tryz.prog G 178 [.sl 0 (cells l)] (cellA (maxF l l.length).1 (maxF l l.length).2) := by
  refine .of (.body Tryz.func178 rfl (by simp [Tryz.ntmps178]) ?_)
  rw [Tryz.ntmps178, Tryz.results178]
  have hlen := cells_len l
  have hr0 := cells_at (l := l) (i := 0) h1
  have z : ((0 : Int).toNat) = 0 := rfl
  refine AL ?_
  refine .loop (.inv (fun d E H n' => ∃ i : Nat, i + d = l.length ∧ 4 < n' ∧ E 2 = .ptr 0 0 0 0 ∧ E 3 = .ptr 4 0 0 0 ∧ E 9 = .sl 0 (cells l) ∧ E 10 = .i .i64 l.length ∧ E 11 = .i .i64 i ∧ H 0 = some (.box 117 [.i .i64 0, .i .i64 0]) ∧ H 4 = some (.box 117 [.i .i64 (maxF l i).1, .i .i64 (maxF l i).2])) l.length ?_ ?_)
  · simp [setF_if, argE, upd_if, maxF]
  rintro d E H n' ⟨i, hi, hn4, h2, h3, h9, h10, h11, hH0, hH4⟩
  have hn0 : 0 < n' := by omega
  by_cases c : (i : Int) < l.length
  · have hr := cells_at (l := l) (i := i) (by omega)
    have hw_i : IntKind.i64.wrap ((i : Int) + 1) = (i : Int) + 1 := wr64 (by omega) (by omega)
    have hs := maxF_succ (l := l) (i := i) (by omega)
    refine AL ?_
    refine ⟨l.length - (i + 1), by omega, i + 1, by omega, ?_⟩
    simp [setF_if, upd_if, *, maxI]
  · have e : i = l.length := by omega
    subst e
    refine AL ?_
    simp [retA, backA, backsA]
/-- The width and the height, as the reference takes them. -/
def sizeF (l : List (Int × Int)) (q : Int × Int) (i : Nat) : Int × Int := (l.take i).foldl (fun s p => (maxI s.1 (IntKind.i64.wrap (IntKind.i64.wrap (p.1 - q.1) + 1)), maxI s.2 (IntKind.i64.wrap (IntKind.i64.wrap (p.2 - q.2) + 1)))) (0, 0)
theorem sizeF_succ {l : List (Int × Int)} {q : Int × Int} {i : Nat} (h : i < l.length) : sizeF l q (i + 1) = (maxI (sizeF l q i).1 (IntKind.i64.wrap (IntKind.i64.wrap ((l.getD i (0, 0)).1 - q.1) + 1)), maxI (sizeF l q i).2 (IntKind.i64.wrap (IntKind.i64.wrap ((l.getD i (0, 0)).2 - q.2) + 1))) := by
  unfold sizeF
  rw [List.take_succ_eq_append_getElem h, List.foldl_append]
  simp only [List.foldl_cons, List.foldl_nil, List.getD_eq_getElem?_getD, List.getElem?_eq_getElem h, Option.getD_some]
def sizeM (l : List (Int × Int)) : Int × Int := sizeF l (minF l l.length) l.length
theorem l04Size_fn (G : Gv) (l : List (Int × Int)) (h1 : 0 < l.length) (hl : l.length < 1000000000) : Gives Tryz.prog G 128 [.sl 0 (cells l)] (.tup [.i .i64 (sizeM l).1, .i .i64 (sizeM l).2]) := by
  refine .of (.body Tryz.func128 rfl (by simp [Tryz.ntmps128]) ?_)
  rw [Tryz.ntmps128, Tryz.results128]
  have hlen := cells_len l
  unfold sizeM
  refine AL ?_
  refine CV (l02Least_fn G _ h1 hl) ?_
  refine AL ?_
  refine .loop (.inv (fun d E H n' => ∃ i : Nat, i + d = l.length ∧ E 0 = .sl 0 (cells l) ∧ E 4 = .i .i64 (minF l l.length).1 ∧ E 5 = .i .i64 (minF l l.length).2 ∧ E 6 = .i .i64 (sizeF l (minF l l.length) i).1 ∧ E 7 = .i .i64 (sizeF l (minF l l.length) i).2 ∧ E 8 = .i .i64 i) l.length ?_ ?_)
  · simp [setF_if, argE, upd_if, sizeF]
  rintro d E H n' ⟨i, hi, h0, h4, h5, h6, h7, h8⟩
  by_cases c : (i : Int) < l.length
  · have hr := cells_at (l := l) (i := i) (by omega)
    have hw_i : IntKind.i64.wrap ((i : Int) + 1) = (i : Int) + 1 := wr64 (by omega) (by omega)
    have hs := sizeF_succ (l := l) (q := minF l l.length) (i := i) (by omega)
    generalize minF l l.length = q at *
    refine AL ?_
    refine ⟨l.length - (i + 1), by omega, i + 1, by omega, ?_⟩
    simp [setF_if, upd_if, *, maxI]
  · have e : i = l.length := by omega
    subst e
    refine AL ?_
    simp [retA, backA, backsA]
def regionM (l : List (Int × Int)) : Bool := shapeM l && (minF l l.length == (0, 0)) && (decide ((maxF l l.length).1 < 20) && decide ((maxF l l.length).2 < 20))
def regionS (l : List (Int × Int)) : Bool := shapeM l && ((minF l l.length).1 == 0 && (minF l l.length).2 == 0 && decide ((sizeM l).1 ≤ 20) && decide ((sizeM l).2 ≤ 20))
theorem shapeM_pos {l : List (Int × Int)} (h : shapeM l = true) : 0 < l.length := by
  unfold shapeM at h; simp only [Bool.and_eq_true, decide_eq_true_eq] at h; omega
theorem implIsRegion_fn (G : Gv) (l : List (Int × Int)) (hl : l.length < 1000000000) : Gives Tryz.prog G 132 [.sl 0 (cells l)] (.b (regionM l)) := by
  refine .of (.body Tryz.func132 rfl (by simp [Tryz.ntmps132]) ?_)
  rw [Tryz.ntmps132, Tryz.results132]
  refine AL ?_
  refine CV (implIsShape_fn G _ hl) ?_
  by_cases c : shapeM l = true
  · refine AL ?_
    refine CV (corner_fn G _ (shapeM_pos c) hl) ?_
    by_cases c1 : ((minF l l.length).1 == 0 && (minF l l.length).2 == 0) = true
    · refine AL ?_
      refine CV (reach_fn G _ (shapeM_pos c) hl) ?_
      have e : minF l l.length = (0, 0) := by simp only [Bool.and_eq_true, beq_iff_eq] at c1; exact Prod.ext c1.1 c1.2
      by_cases c2 : (maxF l l.length).1 < 20
      · refine AL ?_
        simp [retA, backA, regionM, c, e, c2]
      · refine AL ?_
        simp [retA, backA, regionM, c, e, c2]
    · refine AL ?_
      have e : ¬ minF l l.length = (0, 0) := fun e => c1 (by rw [e]; rfl)
      simp [retA, backA, regionM, c, e]
  · refine AL ?_
    simp [retA, backA, regionM, c]
theorem specIsRegion_fn (G : Gv) (l : List (Int × Int)) (hl : l.length < 1000000000) : Gives Tryz.prog G 124 [.sl 0 (cells l)] (.b (regionS l)) := by
  refine .of (.body Tryz.func124 rfl (by simp [Tryz.ntmps124]) ?_)
  rw [Tryz.ntmps124, Tryz.results124]
  refine AL ?_
  refine CV (specIsShape_fn G _ hl) ?_
  by_cases c : shapeM l = true
  · refine AL ?_
    refine CV (l04Size_fn G _ (shapeM_pos c) hl) ?_
    refine AL ?_
    refine CV (l02Least_fn G _ (shapeM_pos c) hl) ?_
    by_cases c1 : ((minF l l.length).1 == 0) = true <;> by_cases c2 : ((minF l l.length).2 == 0) = true <;> by_cases c3 : (sizeM l).1 ≤ 20
    all_goals
      refine AL ?_
      simp [retA, backA, regionS, c, *]
  · refine AL ?_
    simp [retA, backA, regionS, c]
end Go.Proofs
end
section
open Go Go.Big
namespace Go.Proofs
set_option maxHeartbeats 2000000
theorem moved_take {l : List (Int × Int)} {i : Nat} (a b : Int) (h : i < l.length) : cells (movedM (l.take i) a b) ++ [[.i .i64 (IntKind.i64.wrap ((l.getD i (0, 0)).1 + a)), .i .i64 (IntKind.i64.wrap ((l.getD i (0, 0)).2 + b))]] = cells (movedM (l.take (i + 1)) a b) := by
  rw [List.take_succ_eq_append_getElem h]; simp only [cells, movedM, List.map_append, List.map_cons, List.map_nil, List.getD_eq_getElem?_getD, List.getElem?_eq_getElem h, Option.getD_some]
theorem l02Move_fn (G : Gv) (l : List (Int × Int)) (a b : Int) (hl : l.length < 1000000000) : Gives Tryz.prog G 130 [.sl 0 (cells l), .i .i64 a, .i .i64 b] (.sl 1 (cells (movedM l a b))) := by
  refine .of (.body Tryz.func130 rfl (by simp [Tryz.ntmps130]) ?_)
  rw [Tryz.ntmps130, Tryz.results130]
  have hlen := cells_len l
  refine AL ?_
  refine .loop (.inv (fun d E H n' => ∃ i : Nat, i + d = l.length ∧ 1 < n' ∧ E 0 = .sl 0 (cells l) ∧ E 1 = .i .i64 a ∧ E 2 = .i .i64 b ∧ E 8 = .i .i64 i ∧ ∃ e, E 7 = .own 1 e ∧ H 1 = some (.arr e 117 2 (cells (movedM (l.take i) a b)) 1)) l.length ?_ ?_)
  · simp [setF_if, argE, upd_if, movedM, cells]
  rintro d E H n' ⟨i, hi, hn1, h0, h1, h2, h8, e, h7, hH⟩
  by_cases c : (i : Int) < l.length
  · have hr := cells_at (l := l) (i := i) (by omega)
    have hw_i : IntKind.i64.wrap ((i : Int) + 1) = (i : Int) + 1 := wr64 (by omega) (by omega)
    have hrl : (cells (movedM (l.take i) a b)).length = i := by simp [cells, movedM]; omega
    have hb : (i + 1) * 16 ≤ 140737488355328 := by omega
    have htk := moved_take (l := l) (i := i) a b (by omega)
    generalize l.getD i (0, 0) = p at hr htk
    refine AM ?_
    refine ⟨l.length - (i + 1), by omega, i + 1, by omega, ?_⟩
    simp [setF_if, upd_if, *]
  · have e' : i = l.length := by omega
    subst e'
    refine AL ?_
    simp [retA, backA, newSl, newB, hH, List.take_length]
def normM (l : List (Int × Int)) : List (Int × Int) := movedM l (IntKind.i64.wrap (0 - (minF l l.length).1)) (IntKind.i64.wrap (0 - (minF l l.length).2))
theorem movedM_len (l : List (Int × Int)) (a b : Int) : (movedM l a b).length = l.length := by simp [movedM]
theorem l02Normal_fn (G : Gv) (l : List (Int × Int)) (h1 : 0 < l.length) (hl : l.length < 1000000000) : Gives Tryz.prog G 189 [.sl 0 (cells l)] (.sl 1 (cells (normM l))) := by
  refine .of (.body Tryz.func189 rfl (by simp [Tryz.ntmps189]) ?_)
  rw [Tryz.ntmps189, Tryz.results189]
  refine AL ?_
  refine CV (l02Least_fn G _ h1 hl) ?_
  refine AL ?_
  refine CV (l02Move_fn G _ _ _ hl) ?_
  refine AL ?_
  simp [retA, backA, newSl, newB, normM]
theorem normal_fn (G : Gv) (l : List (Int × Int)) (h1 : 0 < l.length) (hl : l.length < 1000000000) : Gives Tryz.prog G 146 [.sl 0 (cells l)] (.sl 1 (cells (normM l))) := by
  refine .of (.body Tryz.func146 rfl (by simp [Tryz.ntmps146]) ?_)
  rw [Tryz.ntmps146, Tryz.results146]
  refine AL ?_
  refine CV (corner_fn G _ h1 hl) ?_
  refine AL ?_
  refine CV (moved_fn G _ _ _ hl) ?_
  refine AL ?_
  simp [retA, backA, newSl, newB, normM]
end Go.Proofs
end
section
open Go Go.Big
namespace Go.Proofs
set_option maxHeartbeats 2000000
def stepT (p : Int × Int) : Int × Int := (IntKind.i64.wrap (0 - p.2), p.1)
def iterT (p : Int × Int) : Nat → Int × Int
  | 0 => p
  | n + 1 => stepT (iterT p n)
def flipT (p : Int × Int) (t : Nat) : Int × Int := if 4 ≤ t then (IntKind.i64.wrap (0 - p.1), p.2) else p
def turnM (p : Int × Int) (t : Nat) : Int × Int := iterT (flipT p t) (t % 4)
theorem rem4 {t : Nat} : (t : Int).tmod 4 = ((t % 4 : Nat) : Int) := by
  rw [Int.tmod_eq_emod_of_nonneg (by omega)]; omega
theorem turnCell_fn (G : Gv) (x y : Int) (t : Nat) : Gives Tryz.prog G 193 [cellA x y, .i .i64 t] (cellA (turnM (x, y) t).1 (turnM (x, y) t).2) := by
  refine .of (.body Tryz.func193 rfl (by simp [Tryz.ntmps193]) ?_)
  rw [Tryz.ntmps193, Tryz.results193]
  have h4 := rem4 (t := t)
  unfold turnM
  obtain ⟨m, hm⟩ : ∃ m, t % 4 = m := ⟨_, rfl⟩
  have hm4 : m < 4 := by omega
  have hmw : IntKind.i64.wrap (m : Int) = m := wr64 (by omega) (by omega)
  rw [hm] at h4 ⊢
  obtain ⟨q, hf⟩ : ∃ q, flipT (x, y) t = q := ⟨_, rfl⟩
  rw [hf]
  by_cases c4 : (t : Int) ≥ 4
  all_goals
    unfold flipT at hf
    first | rw [if_pos (by omega)] at hf | rw [if_neg (by omega)] at hf
    have hq1 := congrArg Prod.fst hf
    have hq2 := congrArg Prod.snd hf
    simp only at hq1 hq2
    clear hf
    refine AL ?_
    refine .loop (.inv (fun d E H n' => ∃ i : Nat, i + d = m ∧ 1 < n' ∧ E 2 = .ptr 0 0 0 0 ∧ E 4 = .ptr 1 0 0 0 ∧ E 12 = .i .i64 (m : Int) ∧ E 13 = .i .i64 i ∧ H 1 = some (.box 117 [.i .i64 0, .i .i64 0]) ∧ H 0 = some (.box 117 [.i .i64 (iterT q i).1, .i .i64 (iterT q i).2])) m ?_ ?_)
    · simp [setF_if, argE, upd_if, iterT, h4, *]
    rintro d E H n' ⟨i, hi, hn1, h2, h4', h12, h13, hH1, hH0⟩
    have hn0 : 0 < n' := by omega
    have hs : iterT q (i + 1) = stepT (iterT q i) := rfl
    have hs1 : (stepT (iterT q i)).1 = IntKind.i64.wrap (0 - (iterT q i).2) := rfl
    have hs2 : (stepT (iterT q i)).2 = (iterT q i).1 := rfl
    by_cases c : (i : Int) < (m : Int)
    · have hw_i : IntKind.i64.wrap ((i : Int) + 1) = (i : Int) + 1 := wr64 (by omega) (by omega)
      refine AL ?_
      refine ⟨m - (i + 1), by omega, i + 1, by omega, ?_⟩
      simp [setF_if, upd_if, *]
    · have e' : i = m := by omega
      subst e'
      refine AL ?_
      simp [retA, backA, backsA]
theorem l03Turn_fn (G : Gv) (x y : Int) (t : Nat) : Gives Tryz.prog G 191 [cellA x y, .i .i64 t] (cellA (turnM (x, y) t).1 (turnM (x, y) t).2) := by
  refine .of (.body Tryz.func191 rfl (by simp [Tryz.ntmps191]) ?_)
  rw [Tryz.ntmps191, Tryz.results191]
  have h4 := rem4 (t := t)
  unfold turnM
  obtain ⟨m, hm⟩ : ∃ m, t % 4 = m := ⟨_, rfl⟩
  have hm4 : m < 4 := by omega
  have hmw : IntKind.i64.wrap (m : Int) = m := wr64 (by omega) (by omega)
  rw [hm] at h4 ⊢
  obtain ⟨q, hf⟩ : ∃ q, flipT (x, y) t = q := ⟨_, rfl⟩
  rw [hf]
  by_cases c4 : (t : Int) ≥ 4
  all_goals
    unfold flipT at hf
    first | rw [if_pos (by omega)] at hf | rw [if_neg (by omega)] at hf
    have hq1 := congrArg Prod.fst hf
    have hq2 := congrArg Prod.snd hf
    simp only at hq1 hq2
    clear hf
    refine AL ?_
    refine .loop (.inv (fun d E H n' => ∃ i : Nat, i + d = m ∧ 1 < n' ∧ E 2 = .ptr 0 0 0 0 ∧ E 4 = .ptr 1 0 0 0 ∧ E 5 = .i .i64 (d : Int) ∧ H 1 = some (.box 117 [.i .i64 0, .i .i64 0]) ∧ H 0 = some (.box 117 [.i .i64 (iterT q i).1, .i .i64 (iterT q i).2])) m ?_ ?_)
    · simp [setF_if, argE, upd_if, iterT, h4, *]
    rintro d E H n' ⟨i, hi, hn1, h2, h4', h5, hH1, hH0⟩
    have hn0 : 0 < n' := by omega
    have hs : iterT q (i + 1) = stepT (iterT q i) := rfl
    have hs1 : (stepT (iterT q i)).1 = IntKind.i64.wrap (0 - (iterT q i).2) := rfl
    have hs2 : (stepT (iterT q i)).2 = (iterT q i).1 := rfl
    by_cases c : (d : Int) > 0
    · have hw : IntKind.i64.wrap ((d : Int) - 1) = ((d - 1 : Nat) : Int) := by rw [wr64 (by omega) (by omega)]; omega
      refine AL ?_
      refine ⟨d - 1, by omega, i + 1, by omega, ?_⟩
      simp [setF_if, upd_if, *]
    · have e' : i = m := by omega
      subst e'
      refine AL ?_
      simp [retA, backA, backsA]
end Go.Proofs
end
section
open Go Go.Big
namespace Go.Proofs
set_option maxHeartbeats 2000000
theorem drop_at {l : List (Int × Int)} {i : Nat} (h : i < l.length) : l.drop i = l.getD i (0, 0) :: l.drop (i + 1) := by
  rw [List.drop_eq_getElem_cons h]; simp [List.getD_eq_getElem?_getD, h]
/-- The first place where two lists differ decides. -/
def cmpL : List (Int × Int) → List (Int × Int) → Int
  | [], _ => 0
  | _ :: _, [] => 0
  | p :: l, q :: k => if lessC p.1 p.2 q.1 q.2 then -1 else if lessC q.1 q.2 p.1 p.2 then 1 else cmpL l k
def cmpM (l k : List (Int × Int)) : Int := if l.length = k.length then cmpL l k else if l.length < k.length then -1 else 1
theorem cmpL_same {l k : List (Int × Int)} {i : Nat} (hi : i < l.length) (hk : i < k.length) (h1 : lessC (l.getD i (0, 0)).1 (l.getD i (0, 0)).2 (k.getD i (0, 0)).1 (k.getD i (0, 0)).2 = false) (h2 : lessC (k.getD i (0, 0)).1 (k.getD i (0, 0)).2 (l.getD i (0, 0)).1 (l.getD i (0, 0)).2 = false) : cmpL (l.drop i) (k.drop i) = cmpL (l.drop (i + 1)) (k.drop (i + 1)) := by
  rw [drop_at hi, drop_at hk, cmpL, h1, h2]; simp
theorem specCompareShapes_fn (G : Gv) (l k : List (Int × Int)) (hl : l.length < 1000000000) (hk : k.length < 1000000000) : Gives Tryz.prog G 174 [.sl 0 (cells l), .sl 0 (cells k)] (.i .i64 (cmpM l k)) := by
  refine .of (.body Tryz.func174 rfl (by simp [Tryz.ntmps174]) ?_)
  rw [Tryz.ntmps174, Tryz.results174]
  have hlen := cells_len l
  have hlen2 := cells_len k
  by_cases ce : l.length = k.length
  · have hne : ((l.length : Int) != (l.length : Int)) = false := by simp
    replace ce := ce.symm
    refine AL ?_
    refine .loop (.inv (fun d E H n' => ∃ i : Nat, i + d = l.length ∧ E 0 = .sl 0 (cells l) ∧ E 1 = .sl 0 (cells k) ∧ E 5 = .i .i64 i ∧ cmpL (l.drop i) (k.drop i) = cmpL l k) l.length ?_ ?_)
    · simp [setF_if, argE]
    rintro d E H n' ⟨i, hi, h0, h1, h5, hc⟩
    by_cases c : (i : Int) < l.length
    · have hr := cells_at (l := l) (i := i) (by omega)
      have hr2 := cells_at (l := k) (i := i) (by omega)
      have hw_i : IntKind.i64.wrap ((i : Int) + 1) = (i : Int) + 1 := wr64 (by omega) (by omega)
      have hs := cmpL_same (l := l) (k := k) (i := i) (by omega) (by omega)
      have hd1 := drop_at (l := l) (i := i) (by omega)
      have hd2 := drop_at (l := k) (i := i) (by omega)
      rw [hd1, hd2] at hc
      rw [hd1, hd2] at hs
      generalize l.getD i (0, 0) = p at hr hs hc
      generalize k.getD i (0, 0) = q at hr2 hs hc
      clear hd1 hd2
      refine AL ?_
      refine CQ (l02Less_fn G _ _ _ _) ?_
      by_cases c1 : lessC p.1 p.2 q.1 q.2 = true
      · refine AL ?_
        have : cmpM l k = -1 := by unfold cmpM; rw [if_pos ce.symm, ← hc, cmpL, if_pos c1]
        simp [retA, backA, this]
      · refine AL ?_
        refine CQ (l02Less_fn G _ _ _ _) ?_
        by_cases c2 : lessC q.1 q.2 p.1 p.2 = true
        · refine AL ?_
          have : cmpM l k = 1 := by unfold cmpM; rw [if_pos ce.symm, ← hc, cmpL, if_neg c1, if_pos c2]
          simp [retA, backA, this]
        · refine AL ?_
          simp only [Bool.not_eq_true] at c1 c2
          have hs := hs c1 c2
          refine ⟨l.length - (i + 1), by omega, i + 1, by omega, ?_⟩
          simp [setF_if, *]
          rw [← hs, hc]
    · have e : i = l.length := by omega
      subst e
      refine AL ?_
      have : cmpM l k = 0 := by unfold cmpM; rw [if_pos ce.symm, ← hc, List.drop_length, cmpL]
      simp [retA, backA, this]
  · have hne : ((l.length : Int) != (k.length : Int)) = true := by simp; omega
    by_cases c : (l.length : Int) < k.length
    · refine AL ?_
      have : cmpM l k = -1 := by unfold cmpM; rw [if_neg ce, if_pos (by omega)]
      simp [retA, backA, this]
    · refine AL ?_
      have : cmpM l k = 1 := by unfold cmpM; rw [if_neg ce, if_neg (by omega)]
      simp [retA, backA, this]
theorem cmpC_cases (a b c d : Int) : cmpC a b c d = if lessC a b c d then -1 else if lessC c d a b then 1 else 0 := by
  unfold cmpC lessC cmpI
  by_cases h1 : b < d <;> by_cases h2 : d < b <;> by_cases h3 : a < c <;> by_cases h4 : c < a <;> simp [h1, h2, h3, h4] <;> omega
theorem compareFunc_fn (G : Gv) (l k : List (Int × Int)) (hl : l.length < 1000000000) (ce : k.length = l.length) : Gives Tryz.prog G 233 [.sl 0 (cells l), .sl 0 (cells k), .fn 184 []] (.i .i64 (cmpL l k)) := by
  refine .of (.body Tryz.func233 rfl (by simp [Tryz.ntmps233]) ?_)
  rw [Tryz.ntmps233, Tryz.results233]
  have hlen := cells_len l
  have hlen2 := cells_len k
  refine AL ?_
  refine .loop (.inv (fun d E H n' => ∃ i : Nat, i + d = l.length ∧ E 0 = .sl 0 (cells l) ∧ E 1 = .sl 0 (cells k) ∧ E 2 = .fn 184 [] ∧ E 11 = .sl 0 (cells l) ∧ E 12 = .i .i64 l.length ∧ E 13 = .i .i64 i ∧ cmpL (l.drop i) (k.drop i) = cmpL l k) l.length ?_ ?_)
  · simp [setF_if, argE]
  rintro d E H n' ⟨i, hi, h0, h1, h2, h11, h12, h13, hc⟩
  by_cases c : (i : Int) < l.length
  · have hr := cells_at (l := l) (i := i) (by omega)
    have hr2 := cells_at (l := k) (i := i) (by omega)
    have hw_i : IntKind.i64.wrap ((i : Int) + 1) = (i : Int) + 1 := wr64 (by omega) (by omega)
    have hg : ((i : Int) ≥ l.length) = False := by simp; omega
    have hs := cmpL_same (l := l) (k := k) (i := i) (by omega) (by omega)
    have hd1 := drop_at (l := l) (i := i) (by omega)
    have hd2 := drop_at (l := k) (i := i) (by omega)
    rw [hd1, hd2] at hc
    rw [hd1, hd2] at hs
    generalize l.getD i (0, 0) = p at hr hs hc
    generalize k.getD i (0, 0) = q at hr2 hs hc
    clear hd1 hd2
    have hcc := cmpC_cases p.1 p.2 q.1 q.2
    refine AL ?_
    refine CV (compareCells_fn G _ _ _ _) ?_
    by_cases c1 : lessC p.1 p.2 q.1 q.2 = true
    · rw [if_pos c1] at hcc
      have hb : ((-1 : Int) != 0) = true := rfl
      refine AL ?_
      have : cmpL l k = -1 := by rw [← hc, cmpL, if_pos c1]
      simp [retA, backA, this]
    · rw [if_neg c1] at hcc
      by_cases c2 : lessC q.1 q.2 p.1 p.2 = true
      · rw [if_pos c2] at hcc
        have hb : ((1 : Int) != 0) = true := rfl
        refine AL ?_
        have : cmpL l k = 1 := by rw [← hc, cmpL, if_neg c1, if_pos c2]
        simp [retA, backA, this]
      · rw [if_neg c2] at hcc
        have hb : ((0 : Int) != 0) = false := rfl
        refine AL ?_
        simp only [Bool.not_eq_true] at c1 c2
        have hs := hs c1 c2
        refine ⟨l.length - (i + 1), by omega, i + 1, by omega, ?_⟩
        simp [setF_if, *]
        rw [← hs, hc]
  · have e : i = l.length := by omega
    subst e
    have hg : ((l.length : Int) < l.length) = False := by simp
    refine AL ?_
    have : cmpL l k = 0 := by rw [← hc, List.drop_length, cmpL]
    simp [retA, backA, this]
theorem compareShapes_fn (G : Gv) (l k : List (Int × Int)) (hl : l.length < 1000000000) (hk : k.length < 1000000000) : Gives Tryz.prog G 198 [.sl 0 (cells l), .sl 0 (cells k)] (.i .i64 (cmpM l k)) := by
  refine .of (.body Tryz.func198 rfl (by simp [Tryz.ntmps198]) ?_)
  rw [Tryz.ntmps198, Tryz.results198]
  have hlen := cells_len l
  have hlen2 := cells_len k
  by_cases ce : l.length = k.length
  · have hne : ((l.length : Int) != (l.length : Int)) = false := by simp
    replace ce := ce.symm
    refine AL ?_
    refine CV (compareFunc_fn G l k hl ce) ?_
    refine AL ?_
    have : cmpM l k = cmpL l k := by unfold cmpM; rw [if_pos ce.symm]
    simp [retA, backA, this]
  · have hne : ((l.length : Int) != (k.length : Int)) = true := by simp; omega
    by_cases c : (l.length : Int) < k.length
    · refine AL ?_
      have : cmpM l k = -1 := by unfold cmpM; rw [if_neg ce, if_pos (by omega)]
      simp [retA, backA, this]
    · refine AL ?_
      have : cmpM l k = 1 := by unfold cmpM; rw [if_neg ce, if_neg (by omega)]
      simp [retA, backA, this]
end Go.Proofs
end
section
open Go Go.Big
namespace Go.Proofs
set_option maxHeartbeats 2000000
def insM (c : Int × Int) : List (Int × Int) → List (Int × Int)
  | [] => [c]
  | p :: l => if lessC c.1 c.2 p.1 p.2 then c :: p :: l else p :: insM c l
theorem insM_len (c : Int × Int) : ∀ l, (insM c l).length = l.length + 1
  | [] => rfl
  | p :: l => by unfold insM; split <;> simp [insM_len c l]
theorem cells_app (l k : List (Int × Int)) : cells l ++ cells k = cells (l ++ k) := by simp [cells]
theorem cells_one (p : Int × Int) : ([[.i .i64 p.1, .i .i64 p.2]] : List (List PV)) = cells [p] := rfl
theorem cells_two (a b : Int) : ([[.i .i64 a, .i .i64 b]] : List (List PV)) = cells [(a, b)] := rfl
theorem l02Insert_fn (G : Gv) (l : List (Int × Int)) (x y : Int) (hl : l.length < 1000000000) : Gives Tryz.prog G 245 [.sl 0 (cells l), cellA x y] (.sl 1 (cells (insM (x, y) l))) := by
  refine .of (.body Tryz.func245 rfl (by simp [Tryz.ntmps245]) ?_)
  rw [Tryz.ntmps245, Tryz.results245]
  have hlen := cells_len l
  refine AL ?_
  refine .loop (.inv (fun d E H n' => ∃ i : Nat, i + d = l.length ∧ 2 < n' ∧ E 0 = .sl 0 (cells l) ∧ E 3 = .ptr 0 0 0 0 ∧ E 7 = .i .i64 i ∧ H 0 = some (.box 117 [.i .i64 x, .i .i64 y]) ∧ ∃ e out done, E 6 = .b done ∧ E 5 = .own 2 e ∧ H 2 = some (.arr e 117 2 (cells out) 1) ∧ out.length ≤ i + done.toNat ∧ (if done then out ++ l.drop i else out ++ insM (x, y) (l.drop i)) = insM (x, y) l) l.length ?_ ?_)
  · exact ⟨0, by omega, by omega, by simp [setF_if, argE, upd_if], by simp [setF_if, argE, upd_if], by simp [setF_if, argE, upd_if], by simp [setF_if, argE, upd_if], 0, [], false, by simp [setF_if, argE, upd_if], by simp [setF_if, argE, upd_if], by simp [setF_if, argE, upd_if, cells], by simp, by simp⟩
  rintro d E H n' ⟨i, hi, hn2, h0, h3, h7, hH0, e, out, done, h6, h5, hH2, hol, heq⟩
  have hn0 : 0 < n' := by omega
  have hor := cells_len out
  by_cases c : (i : Int) < l.length
  · have hr := cells_at (l := l) (i := i) (by omega)
    have hw_i : IntKind.i64.wrap ((i : Int) + 1) = (i : Int) + 1 := wr64 (by omega) (by omega)
    have hd := drop_at (l := l) (i := i) (by omega)
    rw [hd] at heq
    generalize l.getD i (0, 0) = p at hr heq
    have hol' : out.length ≤ i + 1 := by cases done <;> simp at hol <;> omega
    have hb : ∀ k, k ≤ i + 4 → k * 16 ≤ 140737488355328 := fun k hk => by omega
    have hb1 : (out.length + 1) * 16 ≤ 140737488355328 := by omega
    have hb2 : (out.length + 1 + 1) * 16 ≤ 140737488355328 := by omega
    have hx : (cells out ++ [[PV.i .i64 x, PV.i .i64 y]]).length = out.length + 1 := by simp [cells]
    cases done with
    | true =>
      have bt : (!true) = false := rfl
      refine AL ?_
      refine ⟨l.length - (i + 1), by omega, i + 1, by omega, ?_⟩
      simp only [if_true] at heq
      exact ⟨by omega, by simp [setF_if, upd_if, *], by simp [setF_if, upd_if, *], by simp [setF_if, upd_if, *], by simp [setF_if, upd_if, *], e + 1, out ++ [p], true, by simp [setF_if, upd_if, *], by simp [setF_if, upd_if, *], by simp [setF_if, upd_if, cells, *], by simp at hol ⊢; omega, by simp; exact heq⟩
    | false =>
      have bt : (!false) = true := rfl
      simp only [Bool.false_eq_true, if_false] at heq
      refine AL ?_
      refine CQ (l02Less_fn G _ _ _ _) ?_
      by_cases cl : lessC x y p.1 p.2 = true
      · refine AL ?_
        refine ⟨l.length - (i + 1), by omega, i + 1, by omega, ?_⟩
        rw [insM, if_pos cl] at heq
        exact ⟨by omega, by simp [setF_if, upd_if, *], by simp [setF_if, upd_if, *], by simp [setF_if, upd_if, *], by simp [setF_if, upd_if, *], e + 1 + 1, out ++ [(x, y), p], true, by simp [setF_if, upd_if, *], by simp [setF_if, upd_if, *], by simp [setF_if, upd_if, cells, *], by
          simp at hol ⊢
          omega, by simpa using heq⟩
      · refine AL ?_
        refine ⟨l.length - (i + 1), by omega, i + 1, by omega, ?_⟩
        rw [insM, if_neg cl] at heq
        exact ⟨by omega, by simp [setF_if, upd_if, *], by simp [setF_if, upd_if, *], by simp [setF_if, upd_if, *], by simp [setF_if, upd_if, *], e + 1, out ++ [p], false, by simp [setF_if, upd_if, *], by simp [setF_if, upd_if, *], by simp [setF_if, upd_if, cells, *], by simp at hol ⊢; omega, by simpa using heq⟩
  · have e' : i = l.length := by omega
    subst e'
    rw [List.drop_length] at heq
    have hol' : out.length ≤ l.length + 1 := by cases done <;> simp at hol <;> omega
    have hb1 : (out.length + 1) * 16 ≤ 140737488355328 := by omega
    cases done with
    | true =>
      have bt : (!true) = false := rfl
      simp only [if_true, List.append_nil] at heq
      refine AL ?_
      simp [retA, backA, newSl, newB, hH2, heq]
    | false =>
      have bt : (!false) = true := rfl
      simp only [Bool.false_eq_true, if_false, insM] at heq
      refine AL ?_
      simp [retA, backA, newSl, newB, upd_if, ← heq, cells]
end Go.Proofs
end
section
open Go Go.Big
namespace Go.Proofs
set_option maxHeartbeats 2000000
theorem equal_fn (G : Gv) (l k : List (Int × Int)) (hl : l.length < 1000000000) (hk : k.length < 1000000000) : Gives Tryz.prog G 150 [.sl 0 (cells l), .sl 0 (cells k)] (.b (decide (l = k))) := by
  refine .of (.body Tryz.func150 rfl (by simp [Tryz.ntmps150]) ?_)
  rw [Tryz.ntmps150, Tryz.results150]
  have hlen := cells_len l
  have hlen2 := cells_len k
  by_cases ce : k.length = l.length
  · have hne : ((l.length : Int) != (l.length : Int)) = false := by simp
    refine AL ?_
    refine .loop (.inv (fun d E H n' => ∃ i : Nat, i + d = l.length ∧ E 0 = .sl 0 (cells l) ∧ E 1 = .sl 0 (cells k) ∧ E 12 = .i .i64 l.length ∧ E 13 = .i .i64 i ∧ (∀ j, j < i → l.getD j (0, 0) = k.getD j (0, 0))) l.length ?_ ?_)
    · simp [setF_if, argE]
    rintro d E H n' ⟨i, hi, h0, h1, h12, h13, hall⟩
    by_cases c : (i : Int) < l.length
    · have hr := cells_at (l := l) (i := i) (by omega)
      have hr2 := cells_at (l := k) (i := i) (by omega)
      have hw_i : IntKind.i64.wrap ((i : Int) + 1) = (i : Int) + 1 := wr64 (by omega) (by omega)
      have hno : l.getD i (0, 0) ≠ k.getD i (0, 0) → decide (l = k) = false := fun h => by
        simp only [decide_eq_false_iff_not]; intro e; exact h (by rw [e])
      have more : l.getD i (0, 0) = k.getD i (0, 0) → ∀ j, j < i + 1 → l.getD j (0, 0) = k.getD j (0, 0) := fun h j hj => by
        by_cases e : j = i
        · rw [e]; exact h
        · exact hall j (by omega)
      generalize l.getD i (0, 0) = p at hr hno more
      generalize k.getD i (0, 0) = q at hr2 hno more
      by_cases c1 : (p.1 == q.1 && p.2 == q.2) = true
      · refine AL ?_
        refine ⟨l.length - (i + 1), by omega, i + 1, by omega, ?_⟩
        simp [setF_if, *]
        simp only [Bool.and_eq_true, beq_iff_eq] at c1
        exact more (Prod.ext c1.1 c1.2)
      · refine AL ?_
        have := hno (fun e => c1 (by rw [e]; simp))
        simp [retA, backA, this]
    · refine AL ?_
      have : decide (l = k) = true := by
        simp only [decide_eq_true_eq]
        apply List.ext_getElem?
        intro j
        by_cases hj : j < l.length
        · have := hall j (by omega)
          simp only [List.getD_eq_getElem?_getD, List.getElem?_eq_getElem hj, List.getElem?_eq_getElem (show j < k.length by omega), Option.getD_some] at this
          rw [List.getElem?_eq_getElem hj, List.getElem?_eq_getElem (show j < k.length by omega), this]
        · rw [List.getElem?_eq_none (by omega), List.getElem?_eq_none (by omega)]
      simp [retA, backA, this]
  · have hne : ((l.length : Int) != (k.length : Int)) = true := by simp; omega
    refine AL ?_
    have : decide (l = k) = false := by simp only [decide_eq_false_iff_not]; intro e; exact ce (by rw [e])
    simp [retA, backA, this]
theorem equalShapes_fn (G : Gv) (l k : List (Int × Int)) (hl : l.length < 1000000000) (hk : k.length < 1000000000) : Gives Tryz.prog G 200 [.sl 0 (cells l), .sl 0 (cells k)] (.b (decide (l = k))) := by
  refine .of (.body Tryz.func200 rfl (by simp [Tryz.ntmps200]) ?_)
  rw [Tryz.ntmps200, Tryz.results200]
  refine AL ?_
  refine CV (equal_fn G l k hl hk) ?_
  refine AL ?_
  simp [retA, backA]
def sortM (l : List (Int × Int)) : List (Int × Int) := l.foldl (fun a c => insM c a) []
theorem sortM_take {l : List (Int × Int)} {i : Nat} (h : i < l.length) : sortM (l.take (i + 1)) = insM (l.getD i (0, 0)) (sortM (l.take i)) := by
  unfold sortM
  rw [List.take_succ_eq_append_getElem h, List.foldl_append]
  simp only [List.foldl_cons, List.foldl_nil, List.getD_eq_getElem?_getD, List.getElem?_eq_getElem h, Option.getD_some]
theorem foldl_ins_len : ∀ (l a : List (Int × Int)), (l.foldl (fun a c => insM c a) a).length = a.length + l.length
  | [], a => by simp
  | c :: l, a => by rw [List.foldl_cons, foldl_ins_len l, insM_len, List.length_cons]; omega
theorem sortM_len (l : List (Int × Int)) : (sortM l).length = l.length := by unfold sortM; rw [foldl_ins_len]; simp
theorem l02Sort_fn (G : Gv) (l : List (Int × Int)) (h1 : 0 < l.length) (hl : l.length < 1000000000) : Gives Tryz.prog G 231 [.sl 0 (cells l)] (.sl 1 (cells (sortM l))) := by
  refine .of (.body Tryz.func231 rfl (by simp [Tryz.ntmps231]) ?_)
  rw [Tryz.ntmps231, Tryz.results231]
  have hlen := cells_len l
  refine AL ?_
  refine .loop (.inv (fun d E H n' => ∃ i : Nat, i + d = l.length ∧ E 0 = .sl 0 (cells l) ∧ E 4 = .i .i64 i ∧ (E 3 = .own 1 0 ∧ H 1 = some (.arr 0 117 2 (cells (sortM (l.take i))) 1) ∧ i = 0 ∨ E 3 = .sl 1 (cells (sortM (l.take i))))) l.length ?_ ?_)
  · simp [setF_if, argE, upd_if, sortM, cells]
  rintro d E H n' ⟨i, hi, h0, h4, h3⟩
  by_cases c : (i : Int) < l.length
  · have hr := cells_at (l := l) (i := i) (by omega)
    have hw_i : IntKind.i64.wrap ((i : Int) + 1) = (i : Int) + 1 := wr64 (by omega) (by omega)
    have hsl : (sortM (l.take i)).length < 1000000000 := by rw [sortM_len, List.length_take]; omega
    have hs := sortM_take (l := l) (i := i) (by omega)
    generalize sortM (l.take i) = a at h3 hsl hs
    rcases h3 with ⟨h3, hH, hi0⟩ | h3
    · clear hi0
      refine AL ?_
      refine CV (l02Insert_fn G _ _ _ hsl) ?_
      refine AL ?_
      refine ⟨l.length - (i + 1), by omega, i + 1, by omega, ?_⟩
      simp [setF_if, *]
    · refine AL ?_
      refine CV (l02Insert_fn G _ _ _ hsl) ?_
      refine AL ?_
      refine ⟨l.length - (i + 1), by omega, i + 1, by omega, ?_⟩
      simp [setF_if, *]
  · have e' : i = l.length := by omega
    subst e'
    rcases h3 with ⟨h3, hH, hi0⟩ | h3
    · omega
    · refine AL ?_
      simp [retA, backA, newSl, newB, List.take_length]
end Go.Proofs
end
section
open Go Go.Big
namespace Go.Proofs
set_option maxHeartbeats 2000000
def turnL (l : List (Int × Int)) (t : Nat) : List (Int × Int) := l.map fun p => turnM p t
def formM (l : List (Int × Int)) (t : Nat) : List (Int × Int) := normM (sortM (turnL l t))
theorem turnL_len (l : List (Int × Int)) (t : Nat) : (turnL l t).length = l.length := by simp [turnL]
theorem normM_len (l : List (Int × Int)) : (normM l).length = l.length := by simp [normM, movedM]
theorem formM_len (l : List (Int × Int)) (t : Nat) : (formM l t).length = l.length := by unfold formM; rw [normM_len, sortM_len, turnL_len]
theorem turn_take {l : List (Int × Int)} {i : Nat} (t : Nat) (h : i < l.length) : cells (turnL (l.take i) t) ++ [[.i .i64 (turnM (l.getD i (0, 0)) t).1, .i .i64 (turnM (l.getD i (0, 0)) t).2]] = cells (turnL (l.take (i + 1)) t) := by
  rw [List.take_succ_eq_append_getElem h]; simp only [cells, turnL, List.map_append, List.map_cons, List.map_nil, List.getD_eq_getElem?_getD, List.getElem?_eq_getElem h, Option.getD_some]
theorem l03Form_fn (G : Gv) (l : List (Int × Int)) (t : Nat) (h1 : 0 < l.length) (hl : l.length < 1000000000) : Gives Tryz.prog G 196 [.sl 0 (cells l), .i .i64 t] (.sl 1 (cells (formM l t))) := by
  refine .of (.body Tryz.func196 rfl (by simp [Tryz.ntmps196]) ?_)
  rw [Tryz.ntmps196, Tryz.results196]
  have hlen := cells_len l
  refine AL ?_
  refine .loop (.inv (fun d E H n' => ∃ i : Nat, i + d = l.length ∧ 1 < n' ∧ E 0 = .sl 0 (cells l) ∧ E 1 = .i .i64 t ∧ E 6 = .i .i64 i ∧ ∃ e, E 5 = .own 1 e ∧ H 1 = some (.arr e 117 2 (cells (turnL (l.take i) t)) 1)) l.length ?_ ?_)
  · simp [setF_if, argE, upd_if, turnL, cells]
  rintro d E H n' ⟨i, hi, hn1, h0, h1', h6, e, h5, hH⟩
  by_cases c : (i : Int) < l.length
  · have hr := cells_at (l := l) (i := i) (by omega)
    have hw_i : IntKind.i64.wrap ((i : Int) + 1) = (i : Int) + 1 := wr64 (by omega) (by omega)
    have hrl : (cells (turnL (l.take i) t)).length = i := by simp [cells, turnL]; omega
    have hb : (i + 1) * 16 ≤ 140737488355328 := by omega
    have htk := turn_take (l := l) (i := i) t (by omega)
    generalize l.getD i (0, 0) = p at hr htk
    refine AL ?_
    refine CV (l03Turn_fn G _ _ _) ?_
    refine AL ?_
    refine ⟨l.length - (i + 1), by omega, i + 1, by omega, ?_⟩
    simp [setF_if, upd_if, *]
  · have e' : i = l.length := by omega
    subst e'
    rw [List.take_length] at hH
    have k1 : 0 < (turnL l t).length := by rw [turnL_len]; exact h1
    have k2 : (turnL l t).length < 1000000000 := by rw [turnL_len]; exact hl
    refine AL ?_
    refine CV (l02Sort_fn G _ k1 k2) ?_
    refine AL ?_
    refine CV (l02Normal_fn G _ (by rw [sortM_len]; exact k1) (by rw [sortM_len]; exact k2)) ?_
    refine AL ?_
    simp [retA, backA, newSl, newB, formM]
def shapesR (ls : List (List (Int × Int))) : List (List PV) := ls.map fun l => [.sl (cells l)]
theorem shapesR_len (ls : List (List (Int × Int))) : (shapesR ls).length = ls.length := by simp [shapesR]
theorem shapesR_at {ls : List (List (Int × Int))} {i : Nat} (h : i < ls.length) : (shapesR ls)[i]? = some [.sl (cells (ls.getD i []))] := by
  simp [shapesR, h, List.getD_eq_getElem?_getD]
theorem dropS_at {l : List (List (Int × Int))} {i : Nat} (h : i < l.length) : l.drop i = l.getD i [] :: l.drop (i + 1) := by
  rw [List.drop_eq_getElem_cons h]; simp [List.getD_eq_getElem?_getD, h]
def insS (c : List (Int × Int)) : List (List (Int × Int)) → List (List (Int × Int))
  | [] => [c]
  | x :: l => if cmpM c x < 0 then c :: x :: l else x :: insS c l
theorem insS_len (c : List (Int × Int)) : ∀ l, (insS c l).length = l.length + 1
  | [] => rfl
  | p :: l => by unfold insS; split <;> simp [insS_len c l]
def sameAt (c : List (Int × Int)) (ls : List (List (Int × Int))) (i : Nat) : Bool := cmpM c (ls.getD i []) == 0
def addS (c : List (Int × Int)) (ls : List (List (Int × Int))) : List (List (Int × Int)) := if (List.range ls.length).any (sameAt c ls) then ls else insS c ls
theorem any_yes {p : Nat → Bool} {n i : Nat} (hi : i < n) (h : p i = true) : (List.range n).any p = true := by
  rw [List.any_eq_true]; exact ⟨i, List.mem_range.mpr hi, h⟩
theorem any_no {p : Nat → Bool} {n : Nat} (h : ∀ j, j < n → p j = false) : (List.range n).any p = false := by
  rw [List.any_eq_false]; intro x hx; simp [h x (List.mem_range.mp hx)]
end Go.Proofs
end
