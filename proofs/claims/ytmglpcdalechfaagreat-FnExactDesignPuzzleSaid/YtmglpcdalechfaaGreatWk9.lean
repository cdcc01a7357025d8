/- Walks: Whole numbers sorted: both programs; placements turned. No condition. | Weights, in plain words. No condition. | Lists out of which elements are taken in place. No condition. | Neighbours that are equal are taken out of an array of numbers. No condition. | Neighbours that are equal are taken out of an array of cells. No condition. -/
import Derived.Test.YtmglpcdalechfaaGreatBO
import Derived.Test.YtmglpcdalechfaaGreatWk5
import Derived.Test.YtmglpcdalechfaaGreatWk6
import Derived.Test.YtmglpcdalechfaaGreatWk7
import Derived.Test.YtmglpcdalechfaaGreatWk8
import Derived.Test.YtmglpcdalechfaaGreatBigSortI
import Derived.Test.YtmglpcdalechfaaGreatBC
import Derived.Test.YtmglpcdalechfaaGreatWk1
set_option linter.unusedVariables false
set_option linter.unusedSimpArgs false
section
open Go Go.Big
namespace Go.Proofs
set_option maxHeartbeats 2000000
/-- A number put into a list in order. -/
def insI (x : Int) : List Int → List Int
  | [] => [x]
  | y :: l => if y < x then y :: insI x l else x :: y :: l
def sortedB (l : List Int) : List Int := l.foldl (fun a x => insI x a) []
theorem insI_at {x : Int} : ∀ {l : List Int} {i : Nat}, i ≤ l.length → (∀ k (h : k < l.length), k < i → l[k] < x) → (∀ h : i < l.length, ¬ l[i] < x) → insI x l = l.take i ++ x :: l.drop i
  | [], i, hi, _, _ => by
    obtain rfl : i = 0 := by simpa using hi
    rfl
  | y :: l, 0, _, _, h => by
    have := h (by simp)
    simp only [List.getElem_cons_zero] at this
    unfold insI
    rw [if_neg this]; rfl
  | y :: l, i + 1, hi, h1, h2 => by
    have h0 := h1 0 (by simp) (by omega)
    simp only [List.getElem_cons_zero] at h0
    unfold insI
    rw [if_pos h0, insI_at (i := i) (by simpa using hi) (fun k hk hki => by have := h1 (k + 1) (by simpa using hk) (by omega); simpa using this) (fun h => by have := h2 (by simpa using h); simpa using this)]
    simp
theorem insI_perm (x : Int) : ∀ l, (insI x l).Perm (x :: l)
  | [] => .refl _
  | y :: l => by
    unfold insI
    split
    · exact ((insI_perm x l).cons y).trans (.swap x y l)
    · exact .refl _
theorem insI_sorted (x : Int) : ∀ {l : List Int}, l.Pairwise (fun a b => a ≤ b) → (insI x l).Pairwise (fun a b => a ≤ b)
  | [], _ => by simp [insI]
  | y :: l, h => by
    rw [List.pairwise_cons] at h
    unfold insI
    split
    · rename_i q
      rw [List.pairwise_cons]
      refine ⟨fun z hz => ?_, insI_sorted x h.2⟩
      rcases List.mem_cons.mp ((insI_perm x l).mem_iff.mp hz) with rfl | hz
      · omega
      · exact h.1 z hz
    · rename_i q
      rw [List.pairwise_cons, List.pairwise_cons]
      refine ⟨fun z hz => ?_, h⟩
      rcases List.mem_cons.mp hz with rfl | hz
      · omega
      · have := h.1 z hz; omega
theorem sortedB_props (l : List Int) : (sortedB l).Perm l ∧ (sortedB l).Pairwise (fun a b => a ≤ b) := by
  have : ∀ (l a : List Int), a.Pairwise (fun a b => a ≤ b) → (l.foldl (fun a x => insI x a) a).Perm (l ++ a) ∧ (l.foldl (fun a x => insI x a) a).Pairwise (fun a b => a ≤ b) := by
    intro l
    induction l with
    | nil => intro a h; exact ⟨.refl _, h⟩
    | cons x l ih =>
      intro a h
      rw [List.foldl_cons]
      obtain ⟨h1, h2⟩ := ih _ (insI_sorted x h)
      exact ⟨h1.trans (((insI_perm x a).append_left l).trans List.perm_middle), h2⟩
  have h := this l [] .nil
  rw [List.append_nil] at h
  exact h
theorem sortI_eq (l : List Int) : sortI l = sortedB l := by
  obtain ⟨h1, h2⟩ := sortedB_props l
  refine List.Perm.eq_of_pairwise (fun a b _ _ h1 h2 => Int.le_antisymm h1 h2) ?_ h2 ((List.mergeSort_perm _ _).trans h1.symm)
  have := List.pairwise_mergeSort (le := fun x y : Int => decide (x ≤ y)) (fun a b c h1 h2 => by simp only [decide_eq_true_eq] at *; omega) (fun a b => by simp only [Bool.or_eq_true, decide_eq_true_eq]; omega) l
  exact this.imp fun h => by simpa using h
theorem sortedB_len (l : List Int) : (sortedB l).length = l.length := (sortedB_props l).1.length_eq
theorem sortedB_take {l : List Int} {i : Nat} {x : Int} (h : l[i]? = some x) : sortedB (l.take (i + 1)) = insI x (sortedB (l.take i)) := by
  obtain ⟨hi, rfl⟩ := List.getElem?_eq_some_iff.mp h
  unfold sortedB
  rw [List.take_succ_eq_append_getElem hi, List.foldl_append]; rfl
theorem l12Sorted_fn (G : Gv) (l : List Int) (hl : l.length < 1000000000) : Gives Tryz.prog G 146 [.sl 0 (ints l)] (.sl 1 (ints (sortedB l))) := by
  refine .of (.body Tryz.func146 rfl (by simp [Tryz.ntmps146]) ?_)
  rw [Tryz.ntmps146, Tryz.results146]
  have hlen := ints_len l
  refine AL ?_
  refine .loop (.inv (fun d E H n' => ∃ (i o e : Nat), i + d = l.length ∧ o < n' ∧ E 0 = .sl 0 (ints l) ∧ E 3 = .own o e ∧ E 4 = .i .i64 i ∧ H o = some (.arr e 2 1 (ints (sortedB (l.take i))) 1)) l.length ?_ ?_)
  · exact ⟨0, 1, 0, by omega, by omega, by simp [setF_if, argE], by simp [setF_if, argE], by simp [setF_if, argE], by simp [upd_if, sortedB, ints]⟩
  rintro d E H n' ⟨i, o, e, hi, hn, h0, h3, h4, hH⟩
  by_cases c : (i : Int) < l.length
  · have hw_i : IntKind.i64.wrap ((i : Int) + 1) = (i : Int) + 1 := wr64 (by omega) (by omega)
    obtain ⟨x, hx⟩ : ∃ x, l[i]? = some x := ⟨_, List.getElem?_eq_getElem (by omega)⟩
    have hxr := ints_row hx
    have hst := sortedB_take hx
    have hsl := sortedB_len (l.take i)
    rw [List.length_take] at hsl
    have hsl2 : (sortedB (l.take i)).length = i := by omega
    generalize sortedB (l.take i) = s at hH hst hsl2
    have hil := ints_len s
    rw [hsl2] at hil
    clear hsl
    replace hst := Hid.mk hst
    replace hx := Hid.mk hx
    refine AL ?_
    refine .loop (.inv (fun d2 E H2 n2 => ∃ j : Nat, j + d2 = i ∧ n' ≤ n2 ∧ E 0 = .sl 0 (ints l) ∧ E 3 = .own o e ∧ E 4 = .i .i64 i ∧ E 5 = .i .i64 j ∧ H2 o = some (.arr e 2 1 (ints s) 1) ∧ (∀ k (h : k < s.length), k < j → s[k] < x)) i ?_ ?_)
    · exact ⟨0, by omega, by omega, by simp [setF_if, *], by simp [setF_if, *], by simp [setF_if, *], by simp [setF_if, *], hH, fun k _ hk => by omega⟩
    clear h0 h3 h4 hH
    rintro d2 E H n2 ⟨j, hj, hnn, h0, h3, h4, h5, hH, hlo⟩
    have hon : o < n2 := by omega
    replace hlo := Hid.mk hlo
    by_cases cj : (j : Int) < i
    · have hw_j : IntKind.i64.wrap ((j : Int) + 1) = (j : Int) + 1 := wr64 (by omega) (by omega)
      have cN : j < i := by omega
      obtain ⟨y, hy⟩ : ∃ y, s[j]? = some y := ⟨_, List.getElem?_eq_getElem (by omega)⟩
      have hyr := ints_row hy
      replace hy := Hid.mk hy
      by_cases cy : y < x
      · refine AL ?_
        exact ⟨i - (j + 1), by omega, j + 1, by omega, by omega, by simp [setF_if, *], by simp [setF_if, *], by simp [setF_if, *], by simp [setF_if, *], hH, fun k hk hki => by
          by_cases q : k = j
          · subst q
            have := hy.out
            rw [List.getElem?_eq_getElem hk] at this
            simp only [Option.some.injEq] at this
            rw [this]; exact cy
          · exact hlo.out k hk (by omega)⟩
      · have heq := insI_at (x := x) (l := s) (i := j) (by omega) hlo.out (fun h => by
          have := hy.out
          rw [List.getElem?_eq_getElem h] at this
          simp only [Option.some.injEq] at this
          rw [this]; exact cy)
        have htk : (ints s).take j = ints (s.take j) := by simp [ints, List.map_take]
        have htd : ((ints s).drop j).take (i - j) = ints (s.drop j) := by unfold ints; rw [← List.map_drop, List.take_of_length_le (by simp; omega)]
        have hfin : ints (s.take j) ++ [[PV.i .i64 x]] ++ ints (s.drop j) = ints (sortedB (l.take (i + 1))) := by rw [hst.out, heq]; simp [ints]
        have hl1 : (ints (s.take j)).length = j := by rw [ints_len, List.length_take]; omega
        have hl2 : (ints (s.drop j)).length = i - j := by rw [ints_len, List.length_drop]; omega
        have hl3 : (ints (s.take j) ++ [[PV.i .i64 x]]).length = j + 1 := by rw [List.length_append, hl1]; rfl
        have hdr : (ints s).drop 0 = ints s := rfl
        have hs0 : j - 0 = j := rfl
        have hle : j ≤ i := by omega
        have hzi : (0 : Int) ≤ j := by omega
        have hb1 : j * 8 ≤ 140737488355328 := by omega
        have hb2 : (j + 1) * 8 ≤ 140737488355328 := by omega
        have hb3 : (j + 1 + (i - j)) * 8 ≤ 140737488355328 := by omega
        have hfit1 : decide (∀ r ∈ ints (s.take j), r.length = 1) = true := decide_eq_true (ints_fit _)
        have hfit2 : decide (∀ r ∈ ints (s.drop j), r.length = 1) = true := decide_eq_true (ints_fit _)
        have hnd : [n2, n2 + 9].Nodup := by simp
        have hno1 : ¬ (o = n2) := by omega
        have hno2 : ¬ (o = n2 + 9) := by omega
        have h09 : ¬ (n2 = n2 + 9) := by omega
        have h90 : ¬ (n2 + 9 = n2) := by omega
        clear hlo
        replace heq := Hid.mk heq
        refine AX ?_
        refine DR ?_
        refine AX ?_
        refine FD [n2, n2 + 9] [(30, 0), (34, 0), (39, 1), (40, 0), (44, 0)] [(40, [1])] hnd ?_
        refine FM 0 (n2) ?_ (hs := by
          intro Hx hx
          exact EVM)
        repeat first | refine FF ?_ | refine FS ?_
        refine FQ ?_ (hs := by
          intro Hx hx
          have f0 : Hx (o) = _ := hx.off (by simp only [List.mem_cons, List.not_mem_nil, or_false, not_or]; omega)
          simp only [setF_if, upd_if, neAdd, neLt, ltAdd, addNe, ltNe, Nat.left_eq_add, Nat.add_eq_left, Nat.reduceEqDiff, Nat.add_assoc, Nat.reduceAdd, reduceIte, *] at f0
          exact EV)
        refine FM 0 (n2) ?_ (hs := by
          intro Hx hx
          have f0 : Hx (n2) = _ := hx.at hnd 0 rfl (by decide)
          simp only [setF_if, upd_if, neAdd, neLt, ltAdd, addNe, ltNe, Nat.left_eq_add, Nat.add_eq_left, Nat.reduceEqDiff, Nat.add_assoc, Nat.reduceAdd, reduceIte, *] at f0
          have f1 : Hx (o) = _ := hx.off (by simp only [List.mem_cons, List.not_mem_nil, or_false, not_or]; omega)
          simp only [setF_if, upd_if, neAdd, neLt, ltAdd, addNe, ltNe, Nat.left_eq_add, Nat.add_eq_left, Nat.reduceEqDiff, Nat.add_assoc, Nat.reduceAdd, reduceIte, *] at f1
          exact EVM)
        repeat first | refine FF ?_ | refine FS ?_
        refine FQ ?_ (hs := by
          intro Hx hx
          exact EV)
        refine FQ ?_ (hs := by
          intro Hx hx
          exact EV)
        refine FM 1 (n2 + 9) ?_ (hs := by
          intro Hx hx
          exact EVM)
        refine FM 0 (n2) ?_ (hs := by
          intro Hx hx
          have f0 : Hx (n2) = _ := hx.at hnd 0 rfl (by decide)
          simp only [setF_if, upd_if, neAdd, neLt, ltAdd, addNe, ltNe, Nat.left_eq_add, Nat.add_eq_left, Nat.reduceEqDiff, Nat.add_assoc, Nat.reduceAdd, reduceIte, *] at f0
          have f1 : Hx (n2 + 9) = _ := hx.at hnd 1 rfl (by decide)
          simp only [setF_if, upd_if, neAdd, neLt, ltAdd, addNe, ltNe, Nat.left_eq_add, Nat.add_eq_left, Nat.reduceEqDiff, Nat.add_assoc, Nat.reduceAdd, reduceIte, *] at f1
          exact EVM)
        repeat first | refine FF ?_ | refine FS ?_
        refine FQ ?_ (hs := by
          intro Hx hx
          have f0 : Hx (o) = _ := hx.off (by simp only [List.mem_cons, List.not_mem_nil, or_false, not_or]; omega)
          simp only [setF_if, upd_if, neAdd, neLt, ltAdd, addNe, ltNe, Nat.left_eq_add, Nat.add_eq_left, Nat.reduceEqDiff, Nat.add_assoc, Nat.reduceAdd, reduceIte, *] at f0
          exact EV)
        refine FM 0 (n2) ?_ (hs := by
          intro Hx hx
          have f0 : Hx (n2) = _ := hx.at hnd 0 rfl (by decide)
          simp only [setF_if, upd_if, neAdd, neLt, ltAdd, addNe, ltNe, Nat.left_eq_add, Nat.add_eq_left, Nat.reduceEqDiff, Nat.add_assoc, Nat.reduceAdd, reduceIte, *] at f0
          have f1 : Hx (o) = _ := hx.off (by simp only [List.mem_cons, List.not_mem_nil, or_false, not_or]; omega)
          simp only [setF_if, upd_if, neAdd, neLt, ltAdd, addNe, ltNe, Nat.left_eq_add, Nat.add_eq_left, Nat.reduceEqDiff, Nat.add_assoc, Nat.reduceAdd, reduceIte, *] at f1
          exact EVM)
        repeat first | refine FF ?_ | refine FS ?_
        refine WF.nil ?_
        refine AL ?_
        exact ⟨l.length - (i + 1), by omega, i + 1, n2, 3, by omega, by omega, by simp [setF_if, *], by simp [setF_if, *], by simp [setF_if, *], by simp [upd_if, *]⟩
    · have ej : j = i := by omega
      have heq := insI_at (x := x) (l := s) (i := j) (by omega) hlo.out (fun h => by omega)
      clear ej
      have htk : (ints s).take j = ints (s.take j) := by simp [ints, List.map_take]
      have htd : ((ints s).drop j).take (i - j) = ints (s.drop j) := by unfold ints; rw [← List.map_drop, List.take_of_length_le (by simp; omega)]
      have hfin : ints (s.take j) ++ [[PV.i .i64 x]] ++ ints (s.drop j) = ints (sortedB (l.take (i + 1))) := by rw [hst.out, heq]; simp [ints]
      have hl1 : (ints (s.take j)).length = j := by rw [ints_len, List.length_take]; omega
      have hl2 : (ints (s.drop j)).length = i - j := by rw [ints_len, List.length_drop]; omega
      have hl3 : (ints (s.take j) ++ [[PV.i .i64 x]]).length = j + 1 := by rw [List.length_append, hl1]; rfl
      have hdr : (ints s).drop 0 = ints s := rfl
      have hs0 : j - 0 = j := rfl
      have hle : j ≤ i := by omega
      have hzi : (0 : Int) ≤ j := by omega
      have hb1 : j * 8 ≤ 140737488355328 := by omega
      have hb2 : (j + 1) * 8 ≤ 140737488355328 := by omega
      have hb3 : (j + 1 + (i - j)) * 8 ≤ 140737488355328 := by omega
      have hfit1 : decide (∀ r ∈ ints (s.take j), r.length = 1) = true := decide_eq_true (ints_fit _)
      have hfit2 : decide (∀ r ∈ ints (s.drop j), r.length = 1) = true := decide_eq_true (ints_fit _)
      have hnd : [n2, n2 + 9].Nodup := by simp
      have hno1 : ¬ (o = n2) := by omega
      have hno2 : ¬ (o = n2 + 9) := by omega
      have h09 : ¬ (n2 = n2 + 9) := by omega
      have h90 : ¬ (n2 + 9 = n2) := by omega
      clear hlo
      replace heq := Hid.mk heq
      refine AX ?_
      refine DR ?_
      refine AX ?_
      refine FD [n2, n2 + 9] [(30, 0), (34, 0), (39, 1), (40, 0), (44, 0)] [(40, [1])] hnd ?_
      refine FM 0 (n2) ?_ (hs := by
        intro Hx hx
        exact EVM)
      repeat first | refine FF ?_ | refine FS ?_
      refine FQ ?_ (hs := by
        intro Hx hx
        have f0 : Hx (o) = _ := hx.off (by simp only [List.mem_cons, List.not_mem_nil, or_false, not_or]; omega)
        simp only [setF_if, upd_if, neAdd, neLt, ltAdd, addNe, ltNe, Nat.left_eq_add, Nat.add_eq_left, Nat.reduceEqDiff, Nat.add_assoc, Nat.reduceAdd, reduceIte, *] at f0
        exact EV)
      refine FM 0 (n2) ?_ (hs := by
        intro Hx hx
        have f0 : Hx (n2) = _ := hx.at hnd 0 rfl (by decide)
        simp only [setF_if, upd_if, neAdd, neLt, ltAdd, addNe, ltNe, Nat.left_eq_add, Nat.add_eq_left, Nat.reduceEqDiff, Nat.add_assoc, Nat.reduceAdd, reduceIte, *] at f0
        have f1 : Hx (o) = _ := hx.off (by simp only [List.mem_cons, List.not_mem_nil, or_false, not_or]; omega)
        simp only [setF_if, upd_if, neAdd, neLt, ltAdd, addNe, ltNe, Nat.left_eq_add, Nat.add_eq_left, Nat.reduceEqDiff, Nat.add_assoc, Nat.reduceAdd, reduceIte, *] at f1
        exact EVM)
      repeat first | refine FF ?_ | refine FS ?_
      refine FQ ?_ (hs := by
        intro Hx hx
        exact EV)
      refine FQ ?_ (hs := by
        intro Hx hx
        exact EV)
      refine FM 1 (n2 + 9) ?_ (hs := by
        intro Hx hx
        exact EVM)
      refine FM 0 (n2) ?_ (hs := by
        intro Hx hx
        have f0 : Hx (n2) = _ := hx.at hnd 0 rfl (by decide)
        simp only [setF_if, upd_if, neAdd, neLt, ltAdd, addNe, ltNe, Nat.left_eq_add, Nat.add_eq_left, Nat.reduceEqDiff, Nat.add_assoc, Nat.reduceAdd, reduceIte, *] at f0
        have f1 : Hx (n2 + 9) = _ := hx.at hnd 1 rfl (by decide)
        simp only [setF_if, upd_if, neAdd, neLt, ltAdd, addNe, ltNe, Nat.left_eq_add, Nat.add_eq_left, Nat.reduceEqDiff, Nat.add_assoc, Nat.reduceAdd, reduceIte, *] at f1
        exact EVM)
      repeat first | refine FF ?_ | refine FS ?_
      refine FQ ?_ (hs := by
        intro Hx hx
        have f0 : Hx (o) = _ := hx.off (by simp only [List.mem_cons, List.not_mem_nil, or_false, not_or]; omega)
        simp only [setF_if, upd_if, neAdd, neLt, ltAdd, addNe, ltNe, Nat.left_eq_add, Nat.add_eq_left, Nat.reduceEqDiff, Nat.add_assoc, Nat.reduceAdd, reduceIte, *] at f0
        exact EV)
      refine FM 0 (n2) ?_ (hs := by
        intro Hx hx
        have f0 : Hx (n2) = _ := hx.at hnd 0 rfl (by decide)
        simp only [setF_if, upd_if, neAdd, neLt, ltAdd, addNe, ltNe, Nat.left_eq_add, Nat.add_eq_left, Nat.reduceEqDiff, Nat.add_assoc, Nat.reduceAdd, reduceIte, *] at f0
        have f1 : Hx (o) = _ := hx.off (by simp only [List.mem_cons, List.not_mem_nil, or_false, not_or]; omega)
        simp only [setF_if, upd_if, neAdd, neLt, ltAdd, addNe, ltNe, Nat.left_eq_add, Nat.add_eq_left, Nat.reduceEqDiff, Nat.add_assoc, Nat.reduceAdd, reduceIte, *] at f1
        exact EVM)
      repeat first | refine FF ?_ | refine FS ?_
      refine WF.nil ?_
      refine AL ?_
      exact ⟨l.length - (i + 1), by omega, i + 1, n2, 3, by omega, by omega, by simp [setF_if, *], by simp [setF_if, *], by simp [setF_if, *], by simp [upd_if, *]⟩
  · have ei : i = l.length := by omega
    rw [ei, List.take_length] at hH
    have hnb : newB 1 (ints (sortedB l)) := .inl (by decide)
    refine AL ?_
    simp [retA, backA, newSl, *]
end Go.Proofs
end
section
open Go Go.Big
namespace Go.Proofs
set_option maxHeartbeats 2000000
def addI (out : List Int) (x : Int) : List Int := if hasM out x then out else out ++ [x]
def distinctL (l : List Int) : List Int := l.foldl addI []
def cptI (x : Int) : List Int → List Int
  | [] => []
  | y :: l => if y = x then cptI y l else y :: cptI y l
def compactI : List Int → List Int
  | [] => []
  | x :: l => x :: cptI x l
theorem hasM_iff {l : List Int} {x : Int} : hasM l x = true ↔ x ∈ l := by simp [hasM]
theorem distinct_spec : ∀ (l a : List Int), a.Nodup → (l.foldl addI a).Nodup ∧ ∀ x, x ∈ l.foldl addI a ↔ x ∈ a ∨ x ∈ l
  | [], a, h => ⟨h, fun x => by simp⟩
  | y :: l, a, h => by
    rw [List.foldl_cons]
    by_cases c : hasM a y = true
    · have e : addI a y = a := by unfold addI; rw [if_pos c]
      rw [e]
      obtain ⟨h1, h2⟩ := distinct_spec l a h
      refine ⟨h1, fun x => ?_⟩
      rw [h2, List.mem_cons]
      have := hasM_iff.mp c
      constructor
      · rintro (h | h)
        · exact .inl h
        · exact .inr (.inr h)
      · rintro (h | rfl | h)
        · exact .inl h
        · exact .inl this
        · exact .inr h
    · have e : addI a y = a ++ [y] := by unfold addI; rw [if_neg c]
      rw [e]
      have hn : y ∉ a := fun h => c (hasM_iff.mpr h)
      obtain ⟨h1, h2⟩ := distinct_spec l (a ++ [y]) (by
        rw [List.nodup_append]
        exact ⟨h, by simp, fun a ha b hb => by simp at hb; subst hb; exact fun e => hn (e ▸ ha)⟩)
      refine ⟨h1, fun x => ?_⟩
      rw [h2]; simp [or_assoc]
theorem cptI_spec : ∀ (l : List Int) (x : Int), (∀ y ∈ l, x ≤ y) → l.Pairwise (fun a b => a ≤ b) → (cptI x l).Pairwise (fun a b => a < b) ∧ (∀ y ∈ cptI x l, x < y) ∧ ∀ y, (y = x ∨ y ∈ cptI x l) ↔ (y = x ∨ y ∈ l)
  | [], x, _, _ => ⟨.nil, by simp [cptI], fun y => by simp [cptI]⟩
  | z :: l, x, hx, hl => by
    rw [List.pairwise_cons] at hl
    obtain ⟨h1, h2, h3⟩ := cptI_spec l z hl.1 hl.2
    have hxz := hx z List.mem_cons_self
    unfold cptI
    by_cases c : z = x
    · subst c
      rw [if_pos rfl]
      refine ⟨h1, h2, fun y => ?_⟩
      rw [h3, List.mem_cons]
      constructor
      · rintro (h | h)
        · exact .inl h
        · exact .inr (.inr h)
      · rintro (h | h | h)
        · exact .inl h
        · exact .inl h
        · exact .inr h
    · rw [if_neg c]
      refine ⟨List.pairwise_cons.mpr ⟨h2, h1⟩, fun y hy => ?_, fun y => ?_⟩
      · rcases List.mem_cons.mp hy with rfl | hy
        · omega
        · have := h2 y hy; omega
      · rw [List.mem_cons, List.mem_cons, h3]
theorem compactI_spec {l : List Int} (h : l.Pairwise (fun a b => a ≤ b)) : (compactI l).Pairwise (fun a b => a < b) ∧ ∀ y, y ∈ compactI l ↔ y ∈ l := by
  cases l with
  | nil => exact ⟨.nil, fun y => Iff.rfl⟩
  | cons x l =>
    rw [List.pairwise_cons] at h
    obtain ⟨h1, h2, h3⟩ := cptI_spec l x h.1 h.2
    exact ⟨List.pairwise_cons.mpr ⟨h2, h1⟩, fun y => by
      show y ∈ x :: cptI x l ↔ _
      rw [List.mem_cons, List.mem_cons]; exact h3 y⟩
theorem strict_ext {a b : List Int} (ha : a.Pairwise (fun x y => x < y)) (hb : b.Pairwise (fun x y => x < y)) (h : ∀ x, x ∈ a ↔ x ∈ b) : a = b := by
  have na : a.Nodup := ha.imp fun h e => by omega
  have nb : b.Nodup := hb.imp fun h e => by omega
  have hp : a.Perm b := (List.perm_ext_iff_of_nodup na nb).mpr h
  exact hp.eq_of_pairwise (fun a b _ _ h1 h2 => by omega) ha hb
theorem diff_eq (l : List Int) : compactI (sortI l) = sortedB (distinctL l) := by
  obtain ⟨p1, p2⟩ := sortedB_props l
  obtain ⟨q1, q2⟩ := sortedB_props (distinctL l)
  obtain ⟨d1, d2⟩ := distinct_spec l [] .nil
  rw [sortI_eq]
  obtain ⟨c1, c2⟩ := compactI_spec p2
  refine strict_ext c1 ?_ (fun x => ?_)
  · have : (sortedB (distinctL l)).Nodup := q1.nodup_iff.mpr d1
    exact (List.pairwise_and_iff.mpr ⟨q2, this⟩).imp fun {a b} h => by
      obtain ⟨h1, h2⟩ := h
      have : a ≠ b := h2
      omega
  · rw [c2, p1.mem_iff, q1.mem_iff]
    have := d2 x
    simp only [List.not_mem_nil, false_or] at this
    exact this.symm
/-- The weight of a list of cells. -/
def sumW (w cells : List Int) : Int := (cells.map fun i => w.getD i.toNat 0).sum
def weiM (m : Int) (w cells : List Int) : Int := sumW w cells % m
theorem sumW_take {w cells : List Int} {i : Nat} {x : Int} (h : cells[i]? = some x) : sumW w (cells.take (i + 1)) = sumW w (cells.take i) + w.getD x.toNat 0 := by
  obtain ⟨hi, rfl⟩ := List.getElem?_eq_some_iff.mp h
  unfold sumW
  rw [List.take_succ_eq_append_getElem hi, List.map_append, List.sum_append]; simp
theorem sumW_bd {w cells : List Int} (hw : ∀ x ∈ w, 0 ≤ x ∧ x ≤ 5) : 0 ≤ sumW w cells ∧ sumW w cells ≤ 5 * cells.length := by
  induction cells with
  | nil => simp [sumW]
  | cons c l ih =>
    have e : sumW w (c :: l) = w.getD c.toNat 0 + sumW w l := by simp [sumW]
    have : 0 ≤ w.getD c.toNat 0 ∧ w.getD c.toNat 0 ≤ 5 := by
      rw [List.getD_eq_getElem?_getD]
      cases q : w[c.toNat]? with
      | none => simp
      | some x => simpa using hw x (List.mem_of_getElem? q)
    rw [e, List.length_cons]
    push_cast
    omega
theorem sum_take {w : List Int} {i : Nat} {x : Int} (h : w[i]? = some x) : (w.take (i + 1)).sum = (w.take i).sum + x := by
  obtain ⟨hi, rfl⟩ := List.getElem?_eq_some_iff.mp h
  rw [List.take_succ_eq_append_getElem hi, List.sum_append]; simp
theorem sum_bd : ∀ {w : List Int}, (∀ x ∈ w, 0 ≤ x ∧ x ≤ 5) → 0 ≤ w.sum ∧ w.sum ≤ 5 * w.length
  | [], _ => by simp
  | x :: w, h => by
    have h1 := h x List.mem_cons_self
    have h2 := sum_bd (w := w) (fun y hy => h y (List.mem_cons_of_mem _ hy))
    rw [List.sum_cons, List.length_cons]
    push_cast
    omega
theorem take_all5 {w : List Int} (h : ∀ x ∈ w, 0 ≤ x ∧ x ≤ 5) (i : Nat) : ∀ x ∈ w.take i, 0 ≤ x ∧ x ≤ 5 := fun x hx => h x (List.mem_of_mem_take hx)
def pieceW (m : Int) (w : List Int) (L : List (Int × List Int)) : List Int := sortedB (distinctL (L.map fun x => weiM m w x.2))
theorem pieceW_mem {m : Int} {w : List Int} {L : List (Int × List Int)} {x : Int} (h : x ∈ pieceW m w L) : ∃ p ∈ L, x = weiM m w p.2 := by
  unfold pieceW at h
  rw [(sortedB_props _).1.mem_iff] at h
  rcases ((distinct_spec _ [] .nil).2 x).mp h with h | h
  · simp at h
  · obtain ⟨p, hp, rfl⟩ := List.mem_map.mp h
    exact ⟨p, hp, rfl⟩
theorem distinct_len : ∀ (l a : List Int), (l.foldl addI a).length ≤ a.length + l.length
  | [], a => by simp
  | y :: l, a => by
    rw [List.foldl_cons]
    have := distinct_len l (addI a y)
    have h2 : (addI a y).length ≤ a.length + 1 := by unfold addI; split <;> simp
    rw [List.length_cons]; omega
theorem pieceW_len (m : Int) (w : List Int) (L : List (Int × List Int)) : (pieceW m w L).length ≤ L.length := by
  unfold pieceW
  rw [(sortedB_props _).1.length_eq]
  have := distinct_len (L.map fun x => weiM m w x.2) []
  unfold distinctL
  simpa using this
/-- Weights that are valid. -/
def weightB (n : Nat) (m : Int) (w : List Int) : Bool := decide (m ≥ 2) && decide (m ≤ 6) && decide (w.length = n) && w.all fun x => decide (x ≥ 0) && decide (x ≤ m - 1)
structure OkW (n : Nat) (m : Int) (w : List Int) : Prop where
  m2 : 2 ≤ m
  m6 : m ≤ 6
  len : w.length = n
  all : ∀ x ∈ w, 0 ≤ x ∧ x ≤ m - 1
theorem OkW.five {n : Nat} {m : Int} {w : List Int} (h : OkW n m w) : ∀ x ∈ w, 0 ≤ x ∧ x ≤ 5 := fun x hx => by
  have := h.all x hx; have := h.m6; omega
theorem weightB_ok {n : Nat} {m : Int} {w : List Int} (h : weightB n m w = true) : OkW n m w := by
  simp only [weightB, Bool.and_eq_true, decide_eq_true_eq, List.all_eq_true] at h
  exact ⟨h.1.1.1, h.1.1.2, h.1.2, fun x hx => h.2 x hx⟩
def modV (a m : Int) : Int := (IntKind.i64.wrap (a.tmod m + m)).tmod m
theorem modV_bd {a m : Int} (h1 : 2 ≤ m) (h2 : m ≤ 6) : 0 ≤ modV a m ∧ modV a m ≤ m - 1 := by
  unfold modV
  have h3 := Int.tmod_lt_of_pos a (b := m) (by omega)
  have h4 : -m < a.tmod m := by
    have := Int.lt_tmod_of_pos a (b := m) (by omega)
    exact this
  rw [wr64s (by omega) (by omega), Int.tmod_eq_emod_of_nonneg (by omega)]
  have := Int.emod_nonneg (a.tmod m + m) (show m ≠ 0 by omega)
  have := Int.emod_lt_of_pos (a.tmod m + m) (show 0 < m by omega)
  omega
def planeV (m a b c : Int) (p : Int × Int) : Int := modV (IntKind.i64.wrap (IntKind.i64.wrap (IntKind.i64.wrap (a * p.1) + IntKind.i64.wrap (b * p.2)) + c)) m
def planeM (r : List (Int × Int)) (m a b c : Int) : List Int := r.map (planeV m a b c)
theorem planeM_ok {r : List (Int × Int)} {m a b c : Int} (h1 : 2 ≤ m) (h2 : m ≤ 6) : OkW r.length m (planeM r m a b c) :=
  ⟨h1, h2, by simp [planeM], fun x hx => by obtain ⟨p, _, rfl⟩ := List.mem_map.mp hx; exact modV_bd h1 h2⟩
/-- What pieces take away of the whole weight. -/
def sumC (ks : List Int) (Ds : List (List Int)) : Nat → Int
  | 0 => 0
  | j + 1 => sumC ks Ds j + ks.getD j 0 * (Ds.getD j []).getD 0 0
theorem sumC_bd {ks : List Int} {Ds : List (List Int)} (hk : ∀ k ∈ ks, 0 ≤ k ∧ k ≤ 8) (hD : ∀ D ∈ Ds, ∀ x ∈ D, 0 ≤ x ∧ x ≤ 5) : ∀ j, 0 ≤ sumC ks Ds j ∧ sumC ks Ds j ≤ 40 * j
  | 0 => by simp [sumC]
  | j + 1 => by
    have ih := sumC_bd hk hD j
    have h1 : 0 ≤ ks.getD j 0 ∧ ks.getD j 0 ≤ 8 := by
      rw [List.getD_eq_getElem?_getD]
      cases q : ks[j]? with
      | none => simp
      | some x => simpa using hk x (List.mem_of_getElem? q)
    have h2 : 0 ≤ (Ds.getD j []).getD 0 0 ∧ (Ds.getD j []).getD 0 0 ≤ 5 := by
      rw [List.getD_eq_getElem?_getD (l := Ds)]
      cases q : Ds[j]? with
      | none => simp
      | some D =>
        simp only [Option.getD_some]
        rw [List.getD_eq_getElem?_getD]
        cases q2 : D[0]? with
        | none => simp
        | some x => simpa using hD D (List.mem_of_getElem? q) x (List.mem_of_getElem? q2)
    simp only [sumC]
    have h3 : 0 ≤ ks.getD j 0 * (Ds.getD j []).getD 0 0 := Int.mul_nonneg h1.1 h2.1
    have h4 : ks.getD j 0 * (Ds.getD j []).getD 0 0 ≤ 8 * 5 := Int.mul_le_mul h1.2 h2.2 h2.1 (by omega)
    push_cast
    omega
def bigD (D : List Int) : Bool := decide ((D.length : Int) > 1)
def nilD (D : List Int) : Bool := ((D.length : Int) == 0)
def refM (m : Int) (w ks : List Int) (Ds : List (List Int)) : Bool := !Ds.any bigD && (Ds.any nilD || modV (w.sum - sumC ks Ds Ds.length) m != 0)
/-- The first pair for which a question is answered with yes. -/
def findK (q : Nat → Bool) : Nat → Nat → Option Nat
  | 0, _ => none
  | d + 1, k => if q k then some k else findK q d (k + 1)
def findMK (q : Nat → Nat → Bool) : Nat → Nat → Option (Nat × Nat)
  | 0, _ => none
  | d + 1, m => match findK (q m) (m * m * m) 0 with
    | some k => some (m, k)
    | none => findMK q d (m + 1)
end Go.Proofs
end
section
open Go Go.Big
namespace Go.Proofs
set_option maxHeartbeats 2000000
theorem setL_drop {α : Type} {C l : List α} {i j : Nat} {x : α} (h : C.drop j = l.drop j) (hij : i < j) : (C.set i x).drop (j + 1) = l.drop (j + 1) := by
  rw [List.drop_set_of_lt (by omega), ← List.drop_drop (i := 1) (l := C), h, List.drop_drop]
theorem setL_take {α : Type} {C : List α} {i : Nat} {x : α} (h : i < C.length) : (C.set i x).take (i + 1) = C.take i ++ [x] := by
  rw [List.take_succ_eq_append_getElem (by simpa using h), List.take_set_of_le (Nat.le_refl _)]; simp
theorem filter_take {α : Type} {q : α → Bool} {l : List α} {j : Nat} {x : α} (h : l[j]? = some x) : (l.take (j + 1)).filter q = (l.take j).filter q ++ (if q x then [x] else []) := by
  obtain ⟨hj, rfl⟩ := List.getElem?_eq_some_iff.mp h
  rw [List.take_succ_eq_append_getElem hj, List.filter_append]
  congr 1
  by_cases c : q l[j] = true <;> simp [c]
theorem find_filter {α : Type} {p : α → Bool} {l : List α} {z : α} {i : Nat} (h : (List.range l.length).find? (fun i => p (l.getD i z)) = some i) : i < l.length ∧ l.take i = (l.take (i + 1)).filter fun x => !p x := by
  rw [List.find?_range_eq_some] at h
  obtain ⟨h1, h2, h3⟩ := h
  have hi : i < l.length := by simpa using h2
  refine ⟨hi, ?_⟩
  have e1 : (l.take i).filter (fun x => !p x) = l.take i := by
    rw [List.filter_eq_self]
    intro x hx
    obtain ⟨j, hj, rfl⟩ := List.mem_iff_getElem.mp hx
    have hji : j < i := by rw [List.length_take] at hj; omega
    have := h3 j hji
    simpa [List.getD_eq_getElem?_getD, show j < l.length by omega] using this
  rw [filter_take (x := l[i]) (List.getElem?_eq_getElem hi), e1, if_neg, List.append_nil]
  simpa [List.getD_eq_getElem?_getD, hi] using h1
theorem find_filter_no {α : Type} {p : α → Bool} {l : List α} {z : α} (h : (List.range l.length).find? (fun i => p (l.getD i z)) = none) : (l.filter fun x => !p x) = l := by
  rw [List.find?_range_eq_none] at h
  rw [List.filter_eq_self]
  intro x hx
  obtain ⟨j, hj, rfl⟩ := List.mem_iff_getElem.mp hx
  have := h j hj
  simpa [List.getD_eq_getElem?_getD, hj] using this
end Go.Proofs
end
section
open Go Go.Big
namespace Go.Proofs
set_option maxHeartbeats 2000000
theorem dropI_at {ls : List Int} {i : Nat} (h : i < ls.length) : ls.drop i = ls.getD i 0 :: ls.drop (i + 1) := by
  rw [List.drop_eq_getElem_cons h, List.getD_eq_getElem?_getD, List.getElem?_eq_getElem h]; rfl
theorem compactI_prefix {ls : List Int} : ∀ {k : Nat}, 1 ≤ k → k ≤ ls.length → (∀ j, 1 ≤ j → j < k → ls.getD j 0 ≠ ls.getD (j - 1) 0) → compactI ls = ls.take k ++ cptI (ls.getD (k - 1) 0) (ls.drop k)
  | 0, h, _, _ => by omega
  | 1, _, hk, _ => by
    cases ls with
    | nil => simp at hk
    | cons x l => simp [compactI]
  | k + 2, _, hk, hall => by
    have ih := compactI_prefix (ls := ls) (k := k + 1) (by omega) (by omega) (fun j h1 h2 => hall j h1 (by omega))
    rw [ih, dropI_at (ls := ls) (i := k + 1) (by omega), cptI]
    have hne := hall (k + 1) (by omega) (by omega)
    rw [show k + 1 - 1 = k by omega] at hne ⊢
    have ht : ls.take (k + 2) = ls.take (k + 1) ++ [ls[k + 1]] := List.take_succ_eq_append_getElem (show k + 1 < ls.length by omega)
    rw [if_neg hne]
    show _ = List.take (k + 2) ls ++ cptI (ls.getD (k + 1) 0) (List.drop (k + 2) ls)
    rw [ht, List.append_assoc]
    simp only [List.getD_eq_getElem?_getD, List.getElem?_eq_getElem (show k + 1 < ls.length by omega), Option.getD_some, List.singleton_append]
theorem compactI_one {ls : List Int} (h : (ls.length : Int) < 2) : compactI ls = ls := by
  match ls, h with
  | [], _ => rfl
  | [x], _ => rfl
  | _ :: _ :: _, h => simp at h; omega
theorem compactI_own (G : Gv) (ls : List Int) (H0 : Heap) (n0 o e t : Nat) (T : TypeId) (ho : o < n0) (hH : H0 o = some (.arr e T 1 (ints ls) t)) (hls : ls.length < 1000000000) (ht : t ≠ 2) :
    WC Tryz.prog G 152 [.own o e] H0 n0 (fun r H' n' => n0 ≤ n' ∧ (∀ k, k < n0 → k ≠ o → H' k = H0 k) ∧ ∃ e' t', r = .own o e' ∧ t' ≠ 2 ∧ H' o = some (.arr e' T 1 (ints (compactI ls)) t')) := by
  refine (.body Tryz.func152 rfl (by simp [Tryz.ntmps152]) ?_)
  rw [Tryz.ntmps152, Tryz.results152]
  have hlen := ints_len ls
  replace ht := Hid.mk ht
  by_cases c2 : (ls.length : Int) < 2
  · have hc := compactI_one c2
    refine AL ?_
    exact ⟨by omega, fun _ _ _ => by first | rfl | trivial, e, t, by simp [retA, setF_if, argE], ht.out, by rw [hc]; exact hH⟩
  · have hlo : 2 ≤ ls.length := by omega
    refine AL ?_
    refine .loop (.inv (fun d E H n' => ∃ k : Nat, k + d = ls.length ∧ 1 ≤ k ∧ n0 ≤ n' ∧ E 0 = .own o e ∧ E 3 = .i .i64 k ∧ H = H0 ∧ (∀ j, 1 ≤ j → j < k → ls.getD j 0 ≠ ls.getD (j - 1) 0)) (ls.length - 1) ?_ ?_)
    · exact ⟨1, by omega, by omega, by omega, by simp [setF_if, argE], by simp [setF_if, argE], by first | rfl | trivial, fun j h1 h2 => by omega⟩
    clear c2
    rintro d E H n' ⟨k, hk, hk1, hn, h0, h3, rfl, hall⟩
    replace hall := Hid.mk hall
    by_cases c : (k : Int) < ls.length
    · have hw_k : IntKind.i64.wrap ((k : Int) + 1) = (k : Int) + 1 := wr64 (by omega) (by omega)
      have cN : k < ls.length := by omega
      have hr := ints_at (l := ls) (i := k) cN
      have hr2 : (ints ls)[((k : Int) - 1).toNat]? = some [.i .i64 (ls.getD (k - 1) 0)] := by rw [show ((k : Int) - 1).toNat = k - 1 by omega]; exact ints_at (by omega)
      have hw1 : IntKind.i64.wrap ((k : Int) - 1) = (k : Int) - 1 := wr64 (by omega) (by omega)
      have h01 : 0 ≤ (k : Int) - 1 := by omega
      have hlt2 : ((k : Int) - 1).toNat < ls.length := by omega
      have hpre := compactI_prefix (ls := ls) (k := k) hk1 (by omega) hall.out
      rw [dropI_at cN, cptI] at hpre
      have hnx : ls.getD k 0 ≠ ls.getD (k - 1) 0 → ∀ j, 1 ≤ j → j < k + 1 → ls.getD j 0 ≠ ls.getD (j - 1) 0 := fun h j h1 h2 => by
        by_cases q : j = k
        · rw [q]; exact h
        · exact hall.out j h1 (by omega)
      replace hnx := Hid.mk hnx
      replace hpre := Hid.mk hpre
      generalize hxe : ls.getD k 0 = x at hr hpre hnx
      generalize ls.getD (k - 1) 0 = y at hr2 hpre hnx
      replace hxe := Hid.mk hxe
      by_cases ceq : x = y
      · have hd : (x == y) = true := by simp [ceq]
        have hpre2 := hpre.out
        rw [if_pos ceq] at hpre2
        replace hpre2 := Hid.mk hpre2
        replace ceq := Hid.mk ceq
        clear hpre hnx
        have hkn : (k ≤ ls.length) = True := by simp; omega
        refine AL ?_
        refine .loop (.inv (fun d2 E H2 n' => ∃ (j kk t2 : Nat) (R : List Int), k + j + d2 = ls.length ∧ 1 ≤ j ∧ 1 ≤ kk ∧ kk ≤ k + j - 1 ∧ R.length = ls.length ∧ R.drop (k + j - 1) = ls.drop (k + j - 1) ∧ R.take kk ++ cptI (ls.getD (k + j - 1) 0) (ls.drop (k + j)) = compactI ls ∧ n0 ≤ n' ∧ E 0 = .own o e ∧ E 3 = .i .i64 kk ∧ E 4 = .vw o e k (ls.length - k) ∧ E 5 = .i .i64 j ∧ H2 o = some (.arr e T 1 (ints R) t2) ∧ t2 ≠ 2 ∧ (∀ k, k < n0 → k ≠ o → H2 k = H k)) (ls.length - k - 1) ?_ ?_)
        · exact ⟨1, k, t, ls, by omega, by omega, by omega, by omega, rfl, rfl, by rw [show k + 1 - 1 = k by omega, hxe.out]; exact hpre2.out.symm, by omega, by simp [setF_if, *], by simp [setF_if, *], by simp [setF_if, *], by simp [setF_if, *], by simp [*], ht.out, fun _ _ _ => by first | rfl | trivial⟩
        clear h0 h3 hn hpre2 hxe hw_k hw1 h01 hlt2 hall hr hr2
        rintro d2 E H2 n' ⟨j, kk, t2, R, hj, hj1, hkk1, hkk, hRl, hRd, hRt, hn, h0, h3, h4, h5, hHo, ht2, hfr⟩
        replace ht2 := Hid.mk ht2
        replace hfr := Hid.mk hfr
        have hon : o < n' := by omega
        have hRlen := ints_len R
        have htl : ((ints R).drop k |>.take (ls.length - k)).length = ls.length - k := by rw [List.length_take, List.length_drop, hRlen, hRl]; omega
        by_cases cj : (j : Int) < ((ls.length - k : Nat) : Int)
        · have hw_j : IntKind.i64.wrap ((j : Int) + 1) = (j : Int) + 1 := wr64 (by omega) (by omega)
          have hRx : R.getD (k + j) 0 = ls.getD (k + j) 0 := by
            have := congrArg (fun z : List Int => z[1]?) hRd
            simp only [List.getElem?_drop] at this
            rw [show k + j - 1 + 1 = k + j by omega] at this
            simp only [List.getD_eq_getElem?_getD, this]
          have hRy : R.getD (k + j - 1) 0 = ls.getD (k + j - 1) 0 := by
            have := congrArg (fun z : List Int => z[0]?) hRd
            simp only [List.getElem?_drop, Nat.add_zero] at this
            simp only [List.getD_eq_getElem?_getD, this]
          have hr := ints_at (l := R) (i := k + j) (by omega)
          have hr2 : (ints R)[k + ((j : Int) - 1).toNat]? = some [.i .i64 (R.getD (k + j - 1) 0)] := by rw [show k + ((j : Int) - 1).toNat = k + j - 1 by omega]; exact ints_at (by omega)
          have hr3 := ints_at (l := R) (i := kk) (by omega)
          rw [hRx] at hr
          rw [hRy] at hr2
          have hw1 : IntKind.i64.wrap ((j : Int) - 1) = (j : Int) - 1 := wr64 (by omega) (by omega)
          have hwk : IntKind.i64.wrap ((kk : Int) + 1) = (kk : Int) + 1 := wr64 (by omega) (by omega)
          have h01 : 0 ≤ (j : Int) - 1 := by omega
          have hlt2 : ((j : Int) - 1).toNat < ls.length - k := by omega
          have hlt3 : j < ls.length - k := by omega
          have hlt4 : kk < ls.length := by omega
          rw [dropI_at (ls := ls) (i := k + j) (by omega), cptI] at hRt
          have hRd2 : R.drop (k + j) = ls.drop (k + j) := by
            have := congrArg (fun z : List Int => z.drop 1) hRd
            simp only [List.drop_drop] at this
            rw [show k + j - 1 + 1 = k + j by omega] at this
            exact this
          have hset : ∀ z, (ints R).set kk [PV.i .i64 z] = ints (R.set kk z) := fun z => (ints_set R kk z).symm
          replace hRt := Hid.mk hRt
          replace hRd := Hid.mk hRd2
          clear hRx hRy hRd2
          generalize hxe : ls.getD (k + j) 0 = x at hr hRt
          generalize ls.getD (k + j - 1) 0 = y at hr2 hRt
          replace hxe := Hid.mk hxe
          by_cases ceq : x = y
          · have hd : (x != y) = false := by simp [ceq]
            have hRt2 := hRt.out
            rw [if_pos ceq] at hRt2
            replace ceq := Hid.mk ceq
            replace hRt2 := Hid.mk hRt2
            refine AL ?_
            exact ⟨d2 - 1, by omega, j + 1, kk, t2, R, by omega, by omega, by omega, by omega, hRl, by rw [show k + (j + 1) - 1 = k + j by omega]; exact hRd.out, by rw [show k + (j + 1) - 1 = k + j by omega, hxe.out]; exact hRt2.out, by omega, by simp [setF_if, *], by simp [setF_if, *], by simp [setF_if, *], by simp [setF_if, *], by simp [*], ht2.out, hfr.out⟩
          · have hd : (x != y) = true := by simp [ceq]
            have hRt2 := hRt.out
            rw [if_neg ceq] at hRt2
            replace ceq := Hid.mk ceq
            replace hRt2 := Hid.mk hRt2
            refine AL ?_
            refine ⟨d2 - 1, by omega, j + 1, kk + 1, joinT t2 1, R.set kk x, by omega, by omega, by omega, by omega, by rw [List.length_set]; exact hRl, ?_, ?_, by omega, by simp [setF_if, *], by simp [setF_if, *], by simp [setF_if, *], by simp [setF_if, *], by simp [upd_if, joinT, *], joinT_ne ht2.out (by decide), fun k hk hko => by rw [upd_if, if_neg hko]; exact hfr.out k hk hko⟩
            · rw [show k + (j + 1) - 1 = k + j by omega, List.drop_set_of_lt (by omega)]; exact hRd.out
            · rw [show k + (j + 1) - 1 = k + j by omega, hxe.out, List.take_succ_eq_append_getElem (by rw [List.length_set]; omega), List.take_set_of_le (Nat.le_refl _), List.getElem_set_self]
              have := hRt2.out
              simpa [Nat.add_assoc] using this
        · have ej : k + j = ls.length := by omega
          have hRt2 : R.take kk = compactI ls := by
            rw [ej, List.drop_length, cptI, List.append_nil] at hRt
            exact hRt
          clear hRt hRd
          have hkl : (kk ≤ ls.length) = True := by simp; omega
          have hsum : (kk + (ls.length - kk) = ls.length) = True := by simp; omega
          have hzi : (0 : Int) ≤ kk := by omega
          have hs0 : kk - 0 = kk := rfl
          have hrt : (ints R).take kk = ints (compactI ls) := by rw [← hRt2]; simp [ints, List.map_take]
          have hrl2 : (ints (compactI ls)).length = kk := by rw [← hrt, List.length_take]; omega
          generalize ints (compactI ls) = F at hrt hrl2 ⊢
          replace hRt2 := Hid.mk hRt2
          refine AX ?_
          have hL3 : (F ++ List.replicate (ls.length - kk) [PV.i .i64 0]).length = ls.length := by rw [List.length_append, hrl2, List.length_replicate]; omega
          refine OP ?_
          refine OP ?_
          refine WR.trim 2 (o := o) (e := e) (lo := 0) (m := kk) (ty := T) (sz := 1) (rows := F ++ List.replicate (ls.length - kk) [PV.i .i64 0]) (t := joinT t2 1) (by simp [setF_if]) (by simp [upd_if, joinT]) (by omega) ?_
          refine AL ?_
          refine ⟨by omega, fun k hk hko => by rw [upd_if, if_neg hko, upd_if, if_neg hko]; exact hfr.out k hk hko, e + 1, joinT t2 1, by simp [retA, setF_if], joinT_ne ht2.out (by decide), ?_⟩
          rw [upd_if, if_pos rfl]
          simp [hrl2, List.take_append_of_le_length, List.take_of_length_le]
      · have hd : (x == y) = false := by simp [ceq]
        replace hnx := Hid.mk (hnx.out ceq)
        clear ceq
        refine AL ?_
        refine ⟨ls.length - (k + 1), by omega, k + 1, by omega, ?_⟩
        exact ⟨by omega, by omega, by simp [setF_if, *], by simp [setF_if, *], by first | rfl | trivial, hnx.out⟩
    · have e' : k = ls.length := by omega
      have hpre := compactI_prefix (ls := ls) (k := k) hk1 (by omega) hall.out
      rw [e', List.drop_length, cptI, List.append_nil, List.take_length] at hpre
      refine AL ?_
      exact ⟨by omega, fun _ _ _ => by first | rfl | trivial, e, t, by simp [retA, setF_if, h0], ht.out, by rw [hpre]; exact hH⟩
end Go.Proofs
end
section
open Go Go.Big
namespace Go.Proofs
set_option maxHeartbeats 2000000
def cptC (x : Int × Int) : Shape → Shape
  | [] => []
  | y :: l => if y = x then cptC y l else y :: cptC y l
def compactC : Shape → Shape
  | [] => []
  | x :: l => x :: cptC x l
theorem dropC_at {ls : Shape} {i : Nat} (h : i < ls.length) : ls.drop i = ls.getD i (0, 0) :: ls.drop (i + 1) := by
  rw [List.drop_eq_getElem_cons h, List.getD_eq_getElem?_getD, List.getElem?_eq_getElem h]; rfl
theorem compactC_prefix {ls : Shape} : ∀ {k : Nat}, 1 ≤ k → k ≤ ls.length → (∀ j, 1 ≤ j → j < k → ls.getD j (0, 0) ≠ ls.getD (j - 1) (0, 0)) → compactC ls = ls.take k ++ cptC (ls.getD (k - 1) (0, 0)) (ls.drop k)
  | 0, h, _, _ => by omega
  | 1, _, hk, _ => by
    cases ls with
    | nil => simp at hk
    | cons x l => simp [compactC]
  | k + 2, _, hk, hall => by
    have ih := compactC_prefix (ls := ls) (k := k + 1) (by omega) (by omega) (fun j h1 h2 => hall j h1 (by omega))
    rw [ih, dropC_at (ls := ls) (i := k + 1) (by omega), cptC]
    have hne := hall (k + 1) (by omega) (by omega)
    rw [show k + 1 - 1 = k by omega] at hne ⊢
    have ht : ls.take (k + 2) = ls.take (k + 1) ++ [ls[k + 1]] := List.take_succ_eq_append_getElem (show k + 1 < ls.length by omega)
    rw [if_neg hne]
    show _ = List.take (k + 2) ls ++ cptC (ls.getD (k + 1) (0, 0)) (List.drop (k + 2) ls)
    rw [ht, List.append_assoc]
    simp only [List.getD_eq_getElem?_getD, List.getElem?_eq_getElem (show k + 1 < ls.length by omega), Option.getD_some, List.singleton_append]
theorem compactC_one {ls : Shape} (h : (ls.length : Int) < 2) : compactC ls = ls := by
  match ls, h with
  | [], _ => rfl
  | [x], _ => rfl
  | _ :: _ :: _, h => simp at h; omega
theorem cells_set2 (l : Shape) (k : Nat) (v : Int × Int) : cells (l.set k v) = (cells l).set k [.i .i64 v.1, .i .i64 v.2] := by simp [cells, List.map_set]
theorem compactC_own (G : Gv) (ls : Shape) (H0 : Heap) (n0 o e t : Nat) (T : TypeId) (ho : o < n0) (hH : H0 o = some (.arr e T 2 (cells ls) t)) (hls : ls.length < 1000000000) (ht : t ≠ 2) :
    WC Tryz.prog G 315 [.own o e] H0 n0 (fun r H' n' => n0 ≤ n' ∧ (∀ k, k < n0 → k ≠ o → H' k = H0 k) ∧ ∃ e' t', r = .own o e' ∧ t' ≠ 2 ∧ H' o = some (.arr e' T 2 (cells (compactC ls)) t')) := by
  refine (.body Tryz.func315 rfl (by simp [Tryz.ntmps315]) ?_)
  rw [Tryz.ntmps315, Tryz.results315]
  have hlen := cells_len ls
  replace ht := Hid.mk ht
  by_cases c2 : (ls.length : Int) < 2
  · have hc := compactC_one c2
    refine AL ?_
    exact ⟨by omega, fun _ _ _ => by first | rfl | trivial, e, t, by simp [retA, setF_if, argE], ht.out, by rw [hc]; exact hH⟩
  · have hlo : 2 ≤ ls.length := by omega
    refine AL ?_
    refine .loop (.inv (fun d E H n' => ∃ k : Nat, k + d = ls.length ∧ 1 ≤ k ∧ n0 ≤ n' ∧ E 0 = .own o e ∧ E 3 = .i .i64 k ∧ H = H0 ∧ (∀ j, 1 ≤ j → j < k → ls.getD j (0, 0) ≠ ls.getD (j - 1) (0, 0))) (ls.length - 1) ?_ ?_)
    · exact ⟨1, by omega, by omega, by omega, by simp [setF_if, argE], by simp [setF_if, argE], by first | rfl | trivial, fun j h1 h2 => by omega⟩
    clear c2
    rintro d E H n' ⟨k, hk, hk1, hn, h0, h3, rfl, hall⟩
    replace hall := Hid.mk hall
    by_cases c : (k : Int) < ls.length
    · have hw_k : IntKind.i64.wrap ((k : Int) + 1) = (k : Int) + 1 := wr64 (by omega) (by omega)
      have cN : k < ls.length := by omega
      have hr := cells_at (l := ls) (i := k) cN
      have hr2 : (cells ls)[((k : Int) - 1).toNat]? = some [.i .i64 (ls.getD (k - 1) (0, 0)).1, .i .i64 (ls.getD (k - 1) (0, 0)).2] := by rw [show ((k : Int) - 1).toNat = k - 1 by omega]; exact cells_at (by omega)
      have hw1 : IntKind.i64.wrap ((k : Int) - 1) = (k : Int) - 1 := wr64 (by omega) (by omega)
      have h01 : 0 ≤ (k : Int) - 1 := by omega
      have hlt2 : ((k : Int) - 1).toNat < ls.length := by omega
      have hpre := compactC_prefix (ls := ls) (k := k) hk1 (by omega) hall.out
      rw [dropC_at cN, cptC] at hpre
      have hnx : ls.getD k (0, 0) ≠ ls.getD (k - 1) (0, 0) → ∀ j, 1 ≤ j → j < k + 1 → ls.getD j (0, 0) ≠ ls.getD (j - 1) (0, 0) := fun h j h1 h2 => by
        by_cases q : j = k
        · rw [q]; exact h
        · exact hall.out j h1 (by omega)
      replace hnx := Hid.mk hnx
      replace hpre := Hid.mk hpre
      generalize hxe : ls.getD k (0, 0) = x at hr hpre hnx
      generalize ls.getD (k - 1) (0, 0) = y at hr2 hpre hnx
      replace hxe := Hid.mk hxe
      by_cases ceq : x = y
      · have hd : (x.1 == y.1 && x.2 == y.2) = true := by simp [ceq]
        have hpre2 := hpre.out
        rw [if_pos ceq] at hpre2
        replace hpre2 := Hid.mk hpre2
        replace ceq := Hid.mk ceq
        clear hpre hnx
        have hkn : (k ≤ ls.length) = True := by simp; omega
        refine AL ?_
        refine .loop (.inv (fun d2 E H2 n' => ∃ (j kk t2 : Nat) (R : Shape), k + j + d2 = ls.length ∧ 1 ≤ j ∧ 1 ≤ kk ∧ kk ≤ k + j - 1 ∧ R.length = ls.length ∧ R.drop (k + j - 1) = ls.drop (k + j - 1) ∧ R.take kk ++ cptC (ls.getD (k + j - 1) (0, 0)) (ls.drop (k + j)) = compactC ls ∧ n0 ≤ n' ∧ E 0 = .own o e ∧ E 3 = .i .i64 kk ∧ E 4 = .vw o e k (ls.length - k) ∧ E 5 = .i .i64 j ∧ H2 o = some (.arr e T 2 (cells R) t2) ∧ t2 ≠ 2 ∧ (∀ k, k < n0 → k ≠ o → H2 k = H k)) (ls.length - k - 1) ?_ ?_)
        · exact ⟨1, k, t, ls, by omega, by omega, by omega, by omega, rfl, rfl, by rw [show k + 1 - 1 = k by omega, hxe.out]; exact hpre2.out.symm, by omega, by simp [setF_if, *], by simp [setF_if, *], by simp [setF_if, *], by simp [setF_if, *], by simp [*], ht.out, fun _ _ _ => by first | rfl | trivial⟩
        clear h0 h3 hn hpre2 hxe hw_k hw1 h01 hlt2 hall hr hr2
        rintro d2 E H2 n' ⟨j, kk, t2, R, hj, hj1, hkk1, hkk, hRl, hRd, hRt, hn, h0, h3, h4, h5, hHo, ht2, hfr⟩
        replace ht2 := Hid.mk ht2
        replace hfr := Hid.mk hfr
        have hon : o < n' := by omega
        have hRlen := cells_len R
        have htl : ((cells R).drop k |>.take (ls.length - k)).length = ls.length - k := by rw [List.length_take, List.length_drop, hRlen, hRl]; omega
        by_cases cj : (j : Int) < ((ls.length - k : Nat) : Int)
        · have hw_j : IntKind.i64.wrap ((j : Int) + 1) = (j : Int) + 1 := wr64 (by omega) (by omega)
          have hRx : R.getD (k + j) (0, 0) = ls.getD (k + j) (0, 0) := by
            have := congrArg (fun z : Shape => z[1]?) hRd
            simp only [List.getElem?_drop] at this
            rw [show k + j - 1 + 1 = k + j by omega] at this
            simp only [List.getD_eq_getElem?_getD, this]
          have hRy : R.getD (k + j - 1) (0, 0) = ls.getD (k + j - 1) (0, 0) := by
            have := congrArg (fun z : Shape => z[0]?) hRd
            simp only [List.getElem?_drop, Nat.add_zero] at this
            simp only [List.getD_eq_getElem?_getD, this]
          have hr := cells_at (l := R) (i := k + j) (by omega)
          have hr2 : (cells R)[k + ((j : Int) - 1).toNat]? = some [.i .i64 (R.getD (k + j - 1) (0, 0)).1, .i .i64 (R.getD (k + j - 1) (0, 0)).2] := by rw [show k + ((j : Int) - 1).toNat = k + j - 1 by omega]; exact cells_at (by omega)
          have hr3 := cells_at (l := R) (i := kk) (by omega)
          rw [hRx] at hr
          rw [hRy] at hr2
          have hw1 : IntKind.i64.wrap ((j : Int) - 1) = (j : Int) - 1 := wr64 (by omega) (by omega)
          have hwk : IntKind.i64.wrap ((kk : Int) + 1) = (kk : Int) + 1 := wr64 (by omega) (by omega)
          have h01 : 0 ≤ (j : Int) - 1 := by omega
          have hlt2 : ((j : Int) - 1).toNat < ls.length - k := by omega
          have hlt3 : j < ls.length - k := by omega
          have hlt4 : kk < ls.length := by omega
          rw [dropC_at (ls := ls) (i := k + j) (by omega), cptC] at hRt
          have hRd2 : R.drop (k + j) = ls.drop (k + j) := by
            have := congrArg (fun z : Shape => z.drop 1) hRd
            simp only [List.drop_drop] at this
            rw [show k + j - 1 + 1 = k + j by omega] at this
            exact this
          have hset : ∀ z, (cells R).set kk [PV.i .i64 z.1, PV.i .i64 z.2] = cells (R.set kk z) := fun z => (cells_set2 R kk z).symm
          replace hRt := Hid.mk hRt
          replace hRd := Hid.mk hRd2
          clear hRx hRy hRd2
          generalize hxe : ls.getD (k + j) (0, 0) = x at hr hRt
          generalize ls.getD (k + j - 1) (0, 0) = y at hr2 hRt
          replace hxe := Hid.mk hxe
          by_cases ceq : x = y
          · have hd : (x.1 == y.1 && x.2 == y.2) = true := by simp [ceq]
            have hRt2 := hRt.out
            rw [if_pos ceq] at hRt2
            replace ceq := Hid.mk ceq
            replace hRt2 := Hid.mk hRt2
            refine AL ?_
            exact ⟨d2 - 1, by omega, j + 1, kk, t2, R, by omega, by omega, by omega, by omega, hRl, by rw [show k + (j + 1) - 1 = k + j by omega]; exact hRd.out, by rw [show k + (j + 1) - 1 = k + j by omega, hxe.out]; exact hRt2.out, by omega, by simp [setF_if, *], by simp [setF_if, *], by simp [setF_if, *], by simp [setF_if, *], by simp [*], ht2.out, hfr.out⟩
          · have hd : (x.1 == y.1 && x.2 == y.2) = false := by rw [Bool.eq_false_iff]; intro h; simp at h; exact ceq (Prod.ext h.1 h.2)
            have hRt2 := hRt.out
            rw [if_neg ceq] at hRt2
            replace ceq := Hid.mk ceq
            replace hRt2 := Hid.mk hRt2
            refine AL ?_
            refine ⟨d2 - 1, by omega, j + 1, kk + 1, joinT t2 1, R.set kk x, by omega, by omega, by omega, by omega, by rw [List.length_set]; exact hRl, ?_, ?_, by omega, by simp [setF_if, *], by simp [setF_if, *], by simp [setF_if, *], by simp [setF_if, *], by simp [upd_if, joinT, *], joinT_ne ht2.out (by decide), fun k hk hko => by rw [upd_if, if_neg hko]; exact hfr.out k hk hko⟩
            · rw [show k + (j + 1) - 1 = k + j by omega, List.drop_set_of_lt (by omega)]; exact hRd.out
            · rw [show k + (j + 1) - 1 = k + j by omega, hxe.out, List.take_succ_eq_append_getElem (by rw [List.length_set]; omega), List.take_set_of_le (Nat.le_refl _), List.getElem_set_self]
              have := hRt2.out
              simpa [Nat.add_assoc] using this
        · have ej : k + j = ls.length := by omega
          have hRt2 : R.take kk = compactC ls := by
            rw [ej, List.drop_length, cptC, List.append_nil] at hRt
            exact hRt
          clear hRt hRd
          have hkl : (kk ≤ ls.length) = True := by simp; omega
          have hsum : (kk + (ls.length - kk) = ls.length) = True := by simp; omega
          have hzi : (0 : Int) ≤ kk := by omega
          have hs0 : kk - 0 = kk := rfl
          have hrt : (cells R).take kk = cells (compactC ls) := by rw [← hRt2]; simp [cells, List.map_take]
          have hrl2 : (cells (compactC ls)).length = kk := by rw [← hrt, List.length_take]; omega
          generalize cells (compactC ls) = F at hrt hrl2 ⊢
          replace hRt2 := Hid.mk hRt2
          refine AX ?_
          have hL3 : (F ++ List.replicate (ls.length - kk) [PV.i .i64 0, PV.i .i64 0]).length = ls.length := by rw [List.length_append, hrl2, List.length_replicate]; omega
          refine OP ?_
          refine OP ?_
          refine WR.trim 2 (o := o) (e := e) (lo := 0) (m := kk) (ty := T) (sz := 2) (rows := F ++ List.replicate (ls.length - kk) [PV.i .i64 0, PV.i .i64 0]) (t := joinT t2 1) (by simp [setF_if]) (by simp [upd_if, joinT]) (by omega) ?_
          refine AL ?_
          refine ⟨by omega, fun k hk hko => by rw [upd_if, if_neg hko, upd_if, if_neg hko]; exact hfr.out k hk hko, e + 1, joinT t2 1, by simp [retA, setF_if], joinT_ne ht2.out (by decide), ?_⟩
          rw [upd_if, if_pos rfl]
          simp [hrl2, List.take_append_of_le_length, List.take_of_length_le]
      · have hd : (x.1 == y.1 && x.2 == y.2) = false := by rw [Bool.eq_false_iff]; intro h; simp at h; exact ceq (Prod.ext h.1 h.2)
        replace hnx := Hid.mk (hnx.out ceq)
        clear ceq
        refine AL ?_
        refine ⟨ls.length - (k + 1), by omega, k + 1, by omega, ?_⟩
        exact ⟨by omega, by omega, by simp [setF_if, *], by simp [setF_if, *], by first | rfl | trivial, hnx.out⟩
    · have e' : k = ls.length := by omega
      have hpre := compactC_prefix (ls := ls) (k := k) hk1 (by omega) hall.out
      rw [e', List.drop_length, cptC, List.append_nil, List.take_length] at hpre
      refine AL ?_
      exact ⟨by omega, fun _ _ _ => by first | rfl | trivial, e, t, by simp [retA, setF_if, h0], ht.out, by rw [hpre]; exact hH⟩
end Go.Proofs
end
