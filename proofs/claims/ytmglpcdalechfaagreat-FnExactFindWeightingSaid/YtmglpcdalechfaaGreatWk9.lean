/- Walks: Whole numbers sorted: both programs; placements turned. No condition. | Weights, in plain words. No condition. | A placement put into a list in order: the other program. No condition. | All placements of a piece: the other program. No condition. | The area of all pieces; whether a puzzle fits. No condition. -/
import Derived.Test.YtmglpcdalechfaaGreatBO
import Derived.Test.YtmglpcdalechfaaGreatWk1
import Derived.Test.YtmglpcdalechfaaGreatWk2
import Derived.Test.YtmglpcdalechfaaGreatWk3
import Derived.Test.YtmglpcdalechfaaGreatWk8
import Derived.Test.YtmglpcdalechfaaGreatWk7
import Derived.Test.YtmglpcdalechfaaGreatBigSortI
import Derived.Test.YtmglpcdalechfaaGreatBC
import Derived.Test.YtmglpcdalechfaaGreatWk6
set_option linter.unusedVariables false
set_option linter.unusedSimpArgs false
section
open Go Go.Big
namespace Go.Proofs
set_option maxHeartbeats 2000000
/-- A number put into a list in order. -/
def insI (x : Int) : List Int → List Int
  | [] => [x]
  | y :: l => if y < x then y :: insI x l else x :: y :: l
def sortedB (l : List Int) : List Int := l.foldl (fun a x => insI x a) []
theorem insI_at {x : Int} : ∀ {l : List Int} {i : Nat}, i ≤ l.length → (∀ k (h : k < l.length), k < i → l[k] < x) → (∀ h : i < l.length, ¬ l[i] < x) → insI x l = l.take i ++ x :: l.drop i
  | [], i, hi, _, _ => by
    obtain rfl : i = 0 := by simpa using hi
    rfl
  | y :: l, 0, _, _, h => by
    have := h (by simp)
    simp only [List.getElem_cons_zero] at this
    unfold insI
    rw [if_neg this]; rfl
  | y :: l, i + 1, hi, h1, h2 => by
    have h0 := h1 0 (by simp) (by omega)
    simp only [List.getElem_cons_zero] at h0
    unfold insI
    rw [if_pos h0, insI_at (i := i) (by simpa using hi) (fun k hk hki => by have := h1 (k + 1) (by simpa using hk) (by omega); simpa using this) (fun h => by have := h2 (by simpa using h); simpa using this)]
    simp
theorem insI_perm (x : Int) : ∀ l, (insI x l).Perm (x :: l)
  | [] => .refl _
  | y :: l => by
    unfold insI
    split
    · exact ((insI_perm x l).cons y).trans (.swap x y l)
    · exact .refl _
theorem insI_sorted (x : Int) : ∀ {l : List Int}, l.Pairwise (fun a b => a ≤ b) → (insI x l).Pairwise (fun a b => a ≤ b)
  | [], _ => by simp [insI]
  | y :: l, h => by
    rw [List.pairwise_cons] at h
    unfold insI
    split
    · rename_i q
      rw [List.pairwise_cons]
      refine ⟨fun z hz => ?_, insI_sorted x h.2⟩
      rcases List.mem_cons.mp ((insI_perm x l).mem_iff.mp hz) with rfl | hz
      · omega
      · exact h.1 z hz
    · rename_i q
      rw [List.pairwise_cons, List.pairwise_cons]
      refine ⟨fun z hz => ?_, h⟩
      rcases List.mem_cons.mp hz with rfl | hz
      · omega
      · have := h.1 z hz; omega
theorem sortedB_props (l : List Int) : (sortedB l).Perm l ∧ (sortedB l).Pairwise (fun a b => a ≤ b) := by
  have : ∀ (l a : List Int), a.Pairwise (fun a b => a ≤ b) → (l.foldl (fun a x => insI x a) a).Perm (l ++ a) ∧ (l.foldl (fun a x => insI x a) a).Pairwise (fun a b => a ≤ b) := by
    intro l
    induction l with
    | nil => intro a h; exact ⟨.refl _, h⟩
    | cons x l ih =>
      intro a h
      rw [List.foldl_cons]
      obtain ⟨h1, h2⟩ := ih _ (insI_sorted x h)
      exact ⟨h1.trans (((insI_perm x a).append_left l).trans List.perm_middle), h2⟩
  have h := this l [] .nil
  rw [List.append_nil] at h
  exact h
theorem sortI_eq (l : List Int) : sortI l = sortedB l := by
  obtain ⟨h1, h2⟩ := sortedB_props l
  refine List.Perm.eq_of_pairwise (fun a b _ _ h1 h2 => Int.le_antisymm h1 h2) ?_ h2 ((List.mergeSort_perm _ _).trans h1.symm)
  have := List.pairwise_mergeSort (le := fun x y : Int => decide (x ≤ y)) (fun a b c h1 h2 => by simp only [decide_eq_true_eq] at *; omega) (fun a b => by simp only [Bool.or_eq_true, decide_eq_true_eq]; omega) l
  exact this.imp fun h => by simpa using h
theorem sortedB_len (l : List Int) : (sortedB l).length = l.length := (sortedB_props l).1.length_eq
theorem sortedB_take {l : List Int} {i : Nat} {x : Int} (h : l[i]? = some x) : sortedB (l.take (i + 1)) = insI x (sortedB (l.take i)) := by
  obtain ⟨hi, rfl⟩ := List.getElem?_eq_some_iff.mp h
  unfold sortedB
  rw [List.take_succ_eq_append_getElem hi, List.foldl_append]; rfl
theorem l12Sorted_fn (G : Gv) (l : List Int) (hl : l.length < 1000000000) : Gives Tryz.prog G 146 [.sl 0 (ints l)] (.sl 1 (ints (sortedB l))) := by
  refine .of (.body Tryz.func146 rfl (by simp [Tryz.ntmps146]) ?_)
  rw [Tryz.ntmps146, Tryz.results146]
  have hlen := ints_len l
  refine AL ?_
  refine .loop (.inv (fun d E H n' => ∃ (i o e : Nat), i + d = l.length ∧ o < n' ∧ E 0 = .sl 0 (ints l) ∧ E 3 = .own o e ∧ E 4 = .i .i64 i ∧ H o = some (.arr e 2 1 (ints (sortedB (l.take i))) 1)) l.length ?_ ?_)
  · exact ⟨0, 1, 0, by omega, by omega, by simp [setF_if, argE], by simp [setF_if, argE], by simp [setF_if, argE], by simp [upd_if, sortedB, ints]⟩
  rintro d E H n' ⟨i, o, e, hi, hn, h0, h3, h4, hH⟩
  by_cases c : (i : Int) < l.length
  · have hw_i : IntKind.i64.wrap ((i : Int) + 1) = (i : Int) + 1 := wr64 (by omega) (by omega)
    obtain ⟨x, hx⟩ : ∃ x, l[i]? = some x := ⟨_, List.getElem?_eq_getElem (by omega)⟩
    have hxr := ints_row hx
    have hst := sortedB_take hx
    have hsl := sortedB_len (l.take i)
    rw [List.length_take] at hsl
    have hsl2 : (sortedB (l.take i)).length = i := by omega
    generalize sortedB (l.take i) = s at hH hst hsl2
    have hil := ints_len s
    rw [hsl2] at hil
    clear hsl
    replace hst := Hid.mk hst
    replace hx := Hid.mk hx
    refine AL ?_
    refine .loop (.inv (fun d2 E H2 n2 => ∃ j : Nat, j + d2 = i ∧ n' ≤ n2 ∧ E 0 = .sl 0 (ints l) ∧ E 3 = .own o e ∧ E 4 = .i .i64 i ∧ E 5 = .i .i64 j ∧ H2 o = some (.arr e 2 1 (ints s) 1) ∧ (∀ k (h : k < s.length), k < j → s[k] < x)) i ?_ ?_)
    · exact ⟨0, by omega, by omega, by simp [setF_if, *], by simp [setF_if, *], by simp [setF_if, *], by simp [setF_if, *], hH, fun k _ hk => by omega⟩
    clear h0 h3 h4 hH
    rintro d2 E H n2 ⟨j, hj, hnn, h0, h3, h4, h5, hH, hlo⟩
    have hon : o < n2 := by omega
    replace hlo := Hid.mk hlo
    by_cases cj : (j : Int) < i
    · have hw_j : IntKind.i64.wrap ((j : Int) + 1) = (j : Int) + 1 := wr64 (by omega) (by omega)
      have cN : j < i := by omega
      obtain ⟨y, hy⟩ : ∃ y, s[j]? = some y := ⟨_, List.getElem?_eq_getElem (by omega)⟩
      have hyr := ints_row hy
      replace hy := Hid.mk hy
      by_cases cy : y < x
      · refine AL ?_
        exact ⟨i - (j + 1), by omega, j + 1, by omega, by omega, by simp [setF_if, *], by simp [setF_if, *], by simp [setF_if, *], by simp [setF_if, *], hH, fun k hk hki => by
          by_cases q : k = j
          · subst q
            have := hy.out
            rw [List.getElem?_eq_getElem hk] at this
            simp only [Option.some.injEq] at this
            rw [this]; exact cy
          · exact hlo.out k hk (by omega)⟩
      · have heq := insI_at (x := x) (l := s) (i := j) (by omega) hlo.out (fun h => by
          have := hy.out
          rw [List.getElem?_eq_getElem h] at this
          simp only [Option.some.injEq] at this
          rw [this]; exact cy)
        have htk : (ints s).take j = ints (s.take j) := by simp [ints, List.map_take]
        have htd : ((ints s).drop j).take (i - j) = ints (s.drop j) := by unfold ints; rw [← List.map_drop, List.take_of_length_le (by simp; omega)]
        have hfin : ints (s.take j) ++ [[PV.i .i64 x]] ++ ints (s.drop j) = ints (sortedB (l.take (i + 1))) := by rw [hst.out, heq]; simp [ints]
        have hl1 : (ints (s.take j)).length = j := by rw [ints_len, List.length_take]; omega
        have hl2 : (ints (s.drop j)).length = i - j := by rw [ints_len, List.length_drop]; omega
        have hl3 : (ints (s.take j) ++ [[PV.i .i64 x]]).length = j + 1 := by rw [List.length_append, hl1]; rfl
        have hdr : (ints s).drop 0 = ints s := rfl
        have hs0 : j - 0 = j := rfl
        have hle : j ≤ i := by omega
        have hzi : (0 : Int) ≤ j := by omega
        have hb1 : j * 8 ≤ 140737488355328 := by omega
        have hb2 : (j + 1) * 8 ≤ 140737488355328 := by omega
        have hb3 : (j + 1 + (i - j)) * 8 ≤ 140737488355328 := by omega
        have hfit1 : decide (∀ r ∈ ints (s.take j), r.length = 1) = true := decide_eq_true (ints_fit _)
        have hfit2 : decide (∀ r ∈ ints (s.drop j), r.length = 1) = true := decide_eq_true (ints_fit _)
        have hnd : [n2, n2 + 9].Nodup := by simp
        have hno1 : ¬ (o = n2) := by omega
        have hno2 : ¬ (o = n2 + 9) := by omega
        have h09 : ¬ (n2 = n2 + 9) := by omega
        have h90 : ¬ (n2 + 9 = n2) := by omega
        clear hlo
        replace heq := Hid.mk heq
        refine AX ?_
        refine DR ?_
        refine AX ?_
        refine FD [n2, n2 + 9] [(30, 0), (34, 0), (39, 1), (40, 0), (44, 0)] [(40, [1])] hnd ?_
        refine FM 0 (n2) ?_ (hs := by
          intro Hx hx
          exact EVM)
        repeat first | refine FF ?_ | refine FS ?_
        refine FQ ?_ (hs := by
          intro Hx hx
          have f0 : Hx (o) = _ := hx.off (by simp only [List.mem_cons, List.not_mem_nil, or_false, not_or]; omega)
          simp only [setF_if, upd_if, neAdd, neLt, ltAdd, addNe, ltNe, Nat.left_eq_add, Nat.add_eq_left, Nat.reduceEqDiff, Nat.add_assoc, Nat.reduceAdd, reduceIte, *] at f0
          exact EV)
        refine FM 0 (n2) ?_ (hs := by
          intro Hx hx
          have f0 : Hx (n2) = _ := hx.at hnd 0 rfl (by decide)
          simp only [setF_if, upd_if, neAdd, neLt, ltAdd, addNe, ltNe, Nat.left_eq_add, Nat.add_eq_left, Nat.reduceEqDiff, Nat.add_assoc, Nat.reduceAdd, reduceIte, *] at f0
          have f1 : Hx (o) = _ := hx.off (by simp only [List.mem_cons, List.not_mem_nil, or_false, not_or]; omega)
          simp only [setF_if, upd_if, neAdd, neLt, ltAdd, addNe, ltNe, Nat.left_eq_add, Nat.add_eq_left, Nat.reduceEqDiff, Nat.add_assoc, Nat.reduceAdd, reduceIte, *] at f1
          exact EVM)
        repeat first | refine FF ?_ | refine FS ?_
        refine FQ ?_ (hs := by
          intro Hx hx
          exact EV)
        refine FQ ?_ (hs := by
          intro Hx hx
          exact EV)
        refine FM 1 (n2 + 9) ?_ (hs := by
          intro Hx hx
          exact EVM)
        refine FM 0 (n2) ?_ (hs := by
          intro Hx hx
          have f0 : Hx (n2) = _ := hx.at hnd 0 rfl (by decide)
          simp only [setF_if, upd_if, neAdd, neLt, ltAdd, addNe, ltNe, Nat.left_eq_add, Nat.add_eq_left, Nat.reduceEqDiff, Nat.add_assoc, Nat.reduceAdd, reduceIte, *] at f0
          have f1 : Hx (n2 + 9) = _ := hx.at hnd 1 rfl (by decide)
          simp only [setF_if, upd_if, neAdd, neLt, ltAdd, addNe, ltNe, Nat.left_eq_add, Nat.add_eq_left, Nat.reduceEqDiff, Nat.add_assoc, Nat.reduceAdd, reduceIte, *] at f1
          exact EVM)
        repeat first | refine FF ?_ | refine FS ?_
        refine FQ ?_ (hs := by
          intro Hx hx
          have f0 : Hx (o) = _ := hx.off (by simp only [List.mem_cons, List.not_mem_nil, or_false, not_or]; omega)
          simp only [setF_if, upd_if, neAdd, neLt, ltAdd, addNe, ltNe, Nat.left_eq_add, Nat.add_eq_left, Nat.reduceEqDiff, Nat.add_assoc, Nat.reduceAdd, reduceIte, *] at f0
          exact EV)
        refine FM 0 (n2) ?_ (hs := by
          intro Hx hx
          have f0 : Hx (n2) = _ := hx.at hnd 0 rfl (by decide)
          simp only [setF_if, upd_if, neAdd, neLt, ltAdd, addNe, ltNe, Nat.left_eq_add, Nat.add_eq_left, Nat.reduceEqDiff, Nat.add_assoc, Nat.reduceAdd, reduceIte, *] at f0
          have f1 : Hx (o) = _ := hx.off (by simp only [List.mem_cons, List.not_mem_nil, or_false, not_or]; omega)
          simp only [setF_if, upd_if, neAdd, neLt, ltAdd, addNe, ltNe, Nat.left_eq_add, Nat.add_eq_left, Nat.reduceEqDiff, Nat.add_assoc, Nat.reduceAdd, reduceIte, *] at f1
          exact EVM)
        repeat first | refine FF ?_ | refine FS ?_
        refine WF.nil ?_
        refine AL ?_
        exact ⟨l.length - (i + 1), by omega, i + 1, n2, 3, by omega, by omega, by simp [setF_if, *], by simp [setF_if, *], by simp [setF_if, *], by simp [upd_if, *]⟩
    · have ej : j = i := by omega
      have heq := insI_at (x := x) (l := s) (i := j) (by omega) hlo.out (fun h => by omega)
      clear ej
      have htk : (ints s).take j = ints (s.take j) := by simp [ints, List.map_take]
      have htd : ((ints s).drop j).take (i - j) = ints (s.drop j) := by unfold ints; rw [← List.map_drop, List.take_of_length_le (by simp; omega)]
      have hfin : ints (s.take j) ++ [[PV.i .i64 x]] ++ ints (s.drop j) = ints (sortedB (l.take (i + 1))) := by rw [hst.out, heq]; simp [ints]
      have hl1 : (ints (s.take j)).length = j := by rw [ints_len, List.length_take]; omega
      have hl2 : (ints (s.drop j)).length = i - j := by rw [ints_len, List.length_drop]; omega
      have hl3 : (ints (s.take j) ++ [[PV.i .i64 x]]).length = j + 1 := by rw [List.length_append, hl1]; rfl
      have hdr : (ints s).drop 0 = ints s := rfl
      have hs0 : j - 0 = j := rfl
      have hle : j ≤ i := by omega
      have hzi : (0 : Int) ≤ j := by omega
      have hb1 : j * 8 ≤ 140737488355328 := by omega
      have hb2 : (j + 1) * 8 ≤ 140737488355328 := by omega
      have hb3 : (j + 1 + (i - j)) * 8 ≤ 140737488355328 := by omega
      have hfit1 : decide (∀ r ∈ ints (s.take j), r.length = 1) = true := decide_eq_true (ints_fit _)
      have hfit2 : decide (∀ r ∈ ints (s.drop j), r.length = 1) = true := decide_eq_true (ints_fit _)
      have hnd : [n2, n2 + 9].Nodup := by simp
      have hno1 : ¬ (o = n2) := by omega
      have hno2 : ¬ (o = n2 + 9) := by omega
      have h09 : ¬ (n2 = n2 + 9) := by omega
      have h90 : ¬ (n2 + 9 = n2) := by omega
      clear hlo
      replace heq := Hid.mk heq
      refine AX ?_
      refine DR ?_
      refine AX ?_
      refine FD [n2, n2 + 9] [(30, 0), (34, 0), (39, 1), (40, 0), (44, 0)] [(40, [1])] hnd ?_
      refine FM 0 (n2) ?_ (hs := by
        intro Hx hx
        exact EVM)
      repeat first | refine FF ?_ | refine FS ?_
      refine FQ ?_ (hs := by
        intro Hx hx
        have f0 : Hx (o) = _ := hx.off (by simp only [List.mem_cons, List.not_mem_nil, or_false, not_or]; omega)
        simp only [setF_if, upd_if, neAdd, neLt, ltAdd, addNe, ltNe, Nat.left_eq_add, Nat.add_eq_left, Nat.reduceEqDiff, Nat.add_assoc, Nat.reduceAdd, reduceIte, *] at f0
        exact EV)
      refine FM 0 (n2) ?_ (hs := by
        intro Hx hx
        have f0 : Hx (n2) = _ := hx.at hnd 0 rfl (by decide)
        simp only [setF_if, upd_if, neAdd, neLt, ltAdd, addNe, ltNe, Nat.left_eq_add, Nat.add_eq_left, Nat.reduceEqDiff, Nat.add_assoc, Nat.reduceAdd, reduceIte, *] at f0
        have f1 : Hx (o) = _ := hx.off (by simp only [List.mem_cons, List.not_mem_nil, or_false, not_or]; omega)
        simp only [setF_if, upd_if, neAdd, neLt, ltAdd, addNe, ltNe, Nat.left_eq_add, Nat.add_eq_left, Nat.reduceEqDiff, Nat.add_assoc, Nat.reduceAdd, reduceIte, *] at f1
        exact EVM)
      repeat first | refine FF ?_ | refine FS ?_
      refine FQ ?_ (hs := by
        intro Hx hx
        exact EV)
      refine FQ ?_ (hs := by
        intro Hx hx
        exact EV)
      refine FM 1 (n2 + 9) ?_ (hs := by
        intro Hx hx
        exact EVM)
      refine FM 0 (n2) ?_ (hs := by
        intro Hx hx
        have f0 : Hx (n2) = _ := hx.at hnd 0 rfl (by decide)
        simp only [setF_if, upd_if, neAdd, neLt, ltAdd, addNe, ltNe, Nat.left_eq_add, Nat.add_eq_left, Nat.reduceEqDiff, Nat.add_assoc, Nat.reduceAdd, reduceIte, *] at f0
        have f1 : Hx (n2 + 9) = _ := hx.at hnd 1 rfl (by decide)
        simp only [setF_if, upd_if, neAdd, neLt, ltAdd, addNe, ltNe, Nat.left_eq_add, Nat.add_eq_left, Nat.reduceEqDiff, Nat.add_assoc, Nat.reduceAdd, reduceIte, *] at f1
        exact EVM)
      repeat first | refine FF ?_ | refine FS ?_
      refine FQ ?_ (hs := by
        intro Hx hx
        have f0 : Hx (o) = _ := hx.off (by simp only [List.mem_cons, List.not_mem_nil, or_false, not_or]; omega)
        simp only [setF_if, upd_if, neAdd, neLt, ltAdd, addNe, ltNe, Nat.left_eq_add, Nat.add_eq_left, Nat.reduceEqDiff, Nat.add_assoc, Nat.reduceAdd, reduceIte, *] at f0
        exact EV)
      refine FM 0 (n2) ?_ (hs := by
        intro Hx hx
        have f0 : Hx (n2) = _ := hx.at hnd 0 rfl (by decide)
        simp only [setF_if, upd_if, neAdd, neLt, ltAdd, addNe, ltNe, Nat.left_eq_add, Nat.add_eq_left, Nat.reduceEqDiff, Nat.add_assoc, Nat.reduceAdd, reduceIte, *] at f0
        have f1 : Hx (o) = _ := hx.off (by simp only [List.mem_cons, List.not_mem_nil, or_false, not_or]; omega)
        simp only [setF_if, upd_if, neAdd, neLt, ltAdd, addNe, ltNe, Nat.left_eq_add, Nat.add_eq_left, Nat.reduceEqDiff, Nat.add_assoc, Nat.reduceAdd, reduceIte, *] at f1
        exact EVM)
      repeat first | refine FF ?_ | refine FS ?_
      refine WF.nil ?_
      refine AL ?_
      exact ⟨l.length - (i + 1), by omega, i + 1, n2, 3, by omega, by omega, by simp [setF_if, *], by simp [setF_if, *], by simp [setF_if, *], by simp [upd_if, *]⟩
  · have ei : i = l.length := by omega
    rw [ei, List.take_length] at hH
    have hnb : newB 1 (ints (sortedB l)) := .inl (by decide)
    refine AL ?_
    simp [retA, backA, newSl, *]
end Go.Proofs
end
section
open Go Go.Big
namespace Go.Proofs
set_option maxHeartbeats 2000000
def addI (out : List Int) (x : Int) : List Int := if hasM out x then out else out ++ [x]
def distinctL (l : List Int) : List Int := l.foldl addI []
def cptI (x : Int) : List Int → List Int
  | [] => []
  | y :: l => if y = x then cptI y l else y :: cptI y l
def compactI : List Int → List Int
  | [] => []
  | x :: l => x :: cptI x l
theorem hasM_iff {l : List Int} {x : Int} : hasM l x = true ↔ x ∈ l := by simp [hasM]
theorem distinct_spec : ∀ (l a : List Int), a.Nodup → (l.foldl addI a).Nodup ∧ ∀ x, x ∈ l.foldl addI a ↔ x ∈ a ∨ x ∈ l
  | [], a, h => ⟨h, fun x => by simp⟩
  | y :: l, a, h => by
    rw [List.foldl_cons]
    by_cases c : hasM a y = true
    · have e : addI a y = a := by unfold addI; rw [if_pos c]
      rw [e]
      obtain ⟨h1, h2⟩ := distinct_spec l a h
      refine ⟨h1, fun x => ?_⟩
      rw [h2, List.mem_cons]
      have := hasM_iff.mp c
      constructor
      · rintro (h | h)
        · exact .inl h
        · exact .inr (.inr h)
      · rintro (h | rfl | h)
        · exact .inl h
        · exact .inl this
        · exact .inr h
    · have e : addI a y = a ++ [y] := by unfold addI; rw [if_neg c]
      rw [e]
      have hn : y ∉ a := fun h => c (hasM_iff.mpr h)
      obtain ⟨h1, h2⟩ := distinct_spec l (a ++ [y]) (by
        rw [List.nodup_append]
        exact ⟨h, by simp, fun a ha b hb => by simp at hb; subst hb; exact fun e => hn (e ▸ ha)⟩)
      refine ⟨h1, fun x => ?_⟩
      rw [h2]; simp [or_assoc]
theorem cptI_spec : ∀ (l : List Int) (x : Int), (∀ y ∈ l, x ≤ y) → l.Pairwise (fun a b => a ≤ b) → (cptI x l).Pairwise (fun a b => a < b) ∧ (∀ y ∈ cptI x l, x < y) ∧ ∀ y, (y = x ∨ y ∈ cptI x l) ↔ (y = x ∨ y ∈ l)
  | [], x, _, _ => ⟨.nil, by simp [cptI], fun y => by simp [cptI]⟩
  | z :: l, x, hx, hl => by
    rw [List.pairwise_cons] at hl
    obtain ⟨h1, h2, h3⟩ := cptI_spec l z hl.1 hl.2
    have hxz := hx z List.mem_cons_self
    unfold cptI
    by_cases c : z = x
    · subst c
      rw [if_pos rfl]
      refine ⟨h1, h2, fun y => ?_⟩
      rw [h3, List.mem_cons]
      constructor
      · rintro (h | h)
        · exact .inl h
        · exact .inr (.inr h)
      · rintro (h | h | h)
        · exact .inl h
        · exact .inl h
        · exact .inr h
    · rw [if_neg c]
      refine ⟨List.pairwise_cons.mpr ⟨h2, h1⟩, fun y hy => ?_, fun y => ?_⟩
      · rcases List.mem_cons.mp hy with rfl | hy
        · omega
        · have := h2 y hy; omega
      · rw [List.mem_cons, List.mem_cons, h3]
theorem compactI_spec {l : List Int} (h : l.Pairwise (fun a b => a ≤ b)) : (compactI l).Pairwise (fun a b => a < b) ∧ ∀ y, y ∈ compactI l ↔ y ∈ l := by
  cases l with
  | nil => exact ⟨.nil, fun y => Iff.rfl⟩
  | cons x l =>
    rw [List.pairwise_cons] at h
    obtain ⟨h1, h2, h3⟩ := cptI_spec l x h.1 h.2
    exact ⟨List.pairwise_cons.mpr ⟨h2, h1⟩, fun y => by
      show y ∈ x :: cptI x l ↔ _
      rw [List.mem_cons, List.mem_cons]; exact h3 y⟩
theorem strict_ext {a b : List Int} (ha : a.Pairwise (fun x y => x < y)) (hb : b.Pairwise (fun x y => x < y)) (h : ∀ x, x ∈ a ↔ x ∈ b) : a = b := by
  have na : a.Nodup := ha.imp fun h e => by omega
  have nb : b.Nodup := hb.imp fun h e => by omega
  have hp : a.Perm b := (List.perm_ext_iff_of_nodup na nb).mpr h
  exact hp.eq_of_pairwise (fun a b _ _ h1 h2 => by omega) ha hb
theorem diff_eq (l : List Int) : compactI (sortI l) = sortedB (distinctL l) := by
  obtain ⟨p1, p2⟩ := sortedB_props l
  obtain ⟨q1, q2⟩ := sortedB_props (distinctL l)
  obtain ⟨d1, d2⟩ := distinct_spec l [] .nil
  rw [sortI_eq]
  obtain ⟨c1, c2⟩ := compactI_spec p2
  refine strict_ext c1 ?_ (fun x => ?_)
  · have : (sortedB (distinctL l)).Nodup := q1.nodup_iff.mpr d1
    exact (List.pairwise_and_iff.mpr ⟨q2, this⟩).imp fun {a b} h => by
      obtain ⟨h1, h2⟩ := h
      have : a ≠ b := h2
      omega
  · rw [c2, p1.mem_iff, q1.mem_iff]
    have := d2 x
    simp only [List.not_mem_nil, false_or] at this
    exact this.symm
/-- The weight of a list of cells. -/
def sumW (w cells : List Int) : Int := (cells.map fun i => w.getD i.toNat 0).sum
def weiM (m : Int) (w cells : List Int) : Int := sumW w cells % m
theorem sumW_take {w cells : List Int} {i : Nat} {x : Int} (h : cells[i]? = some x) : sumW w (cells.take (i + 1)) = sumW w (cells.take i) + w.getD x.toNat 0 := by
  obtain ⟨hi, rfl⟩ := List.getElem?_eq_some_iff.mp h
  unfold sumW
  rw [List.take_succ_eq_append_getElem hi, List.map_append, List.sum_append]; simp
theorem sumW_bd {w cells : List Int} (hw : ∀ x ∈ w, 0 ≤ x ∧ x ≤ 5) : 0 ≤ sumW w cells ∧ sumW w cells ≤ 5 * cells.length := by
  induction cells with
  | nil => simp [sumW]
  | cons c l ih =>
    have e : sumW w (c :: l) = w.getD c.toNat 0 + sumW w l := by simp [sumW]
    have : 0 ≤ w.getD c.toNat 0 ∧ w.getD c.toNat 0 ≤ 5 := by
      rw [List.getD_eq_getElem?_getD]
      cases q : w[c.toNat]? with
      | none => simp
      | some x => simpa using hw x (List.mem_of_getElem? q)
    rw [e, List.length_cons]
    push_cast
    omega
theorem sum_take {w : List Int} {i : Nat} {x : Int} (h : w[i]? = some x) : (w.take (i + 1)).sum = (w.take i).sum + x := by
  obtain ⟨hi, rfl⟩ := List.getElem?_eq_some_iff.mp h
  rw [List.take_succ_eq_append_getElem hi, List.sum_append]; simp
theorem sum_bd : ∀ {w : List Int}, (∀ x ∈ w, 0 ≤ x ∧ x ≤ 5) → 0 ≤ w.sum ∧ w.sum ≤ 5 * w.length
  | [], _ => by simp
  | x :: w, h => by
    have h1 := h x List.mem_cons_self
    have h2 := sum_bd (w := w) (fun y hy => h y (List.mem_cons_of_mem _ hy))
    rw [List.sum_cons, List.length_cons]
    push_cast
    omega
theorem take_all5 {w : List Int} (h : ∀ x ∈ w, 0 ≤ x ∧ x ≤ 5) (i : Nat) : ∀ x ∈ w.take i, 0 ≤ x ∧ x ≤ 5 := fun x hx => h x (List.mem_of_mem_take hx)
def pieceW (m : Int) (w : List Int) (L : List (Int × List Int)) : List Int := sortedB (distinctL (L.map fun x => weiM m w x.2))
theorem pieceW_mem {m : Int} {w : List Int} {L : List (Int × List Int)} {x : Int} (h : x ∈ pieceW m w L) : ∃ p ∈ L, x = weiM m w p.2 := by
  unfold pieceW at h
  rw [(sortedB_props _).1.mem_iff] at h
  rcases ((distinct_spec _ [] .nil).2 x).mp h with h | h
  · simp at h
  · obtain ⟨p, hp, rfl⟩ := List.mem_map.mp h
    exact ⟨p, hp, rfl⟩
theorem distinct_len : ∀ (l a : List Int), (l.foldl addI a).length ≤ a.length + l.length
  | [], a => by simp
  | y :: l, a => by
    rw [List.foldl_cons]
    have := distinct_len l (addI a y)
    have h2 : (addI a y).length ≤ a.length + 1 := by unfold addI; split <;> simp
    rw [List.length_cons]; omega
theorem pieceW_len (m : Int) (w : List Int) (L : List (Int × List Int)) : (pieceW m w L).length ≤ L.length := by
  unfold pieceW
  rw [(sortedB_props _).1.length_eq]
  have := distinct_len (L.map fun x => weiM m w x.2) []
  unfold distinctL
  simpa using this
/-- Weights that are valid. -/
def weightB (n : Nat) (m : Int) (w : List Int) : Bool := decide (m ≥ 2) && decide (m ≤ 6) && decide (w.length = n) && w.all fun x => decide (x ≥ 0) && decide (x ≤ m - 1)
structure OkW (n : Nat) (m : Int) (w : List Int) : Prop where
  m2 : 2 ≤ m
  m6 : m ≤ 6
  len : w.length = n
  all : ∀ x ∈ w, 0 ≤ x ∧ x ≤ m - 1
theorem OkW.five {n : Nat} {m : Int} {w : List Int} (h : OkW n m w) : ∀ x ∈ w, 0 ≤ x ∧ x ≤ 5 := fun x hx => by
  have := h.all x hx; have := h.m6; omega
theorem weightB_ok {n : Nat} {m : Int} {w : List Int} (h : weightB n m w = true) : OkW n m w := by
  simp only [weightB, Bool.and_eq_true, decide_eq_true_eq, List.all_eq_true] at h
  exact ⟨h.1.1.1, h.1.1.2, h.1.2, fun x hx => h.2 x hx⟩
def modV (a m : Int) : Int := (IntKind.i64.wrap (a.tmod m + m)).tmod m
theorem modV_bd {a m : Int} (h1 : 2 ≤ m) (h2 : m ≤ 6) : 0 ≤ modV a m ∧ modV a m ≤ m - 1 := by
  unfold modV
  have h3 := Int.tmod_lt_of_pos a (b := m) (by omega)
  have h4 : -m < a.tmod m := by
    have := Int.lt_tmod_of_pos a (b := m) (by omega)
    exact this
  rw [wr64s (by omega) (by omega), Int.tmod_eq_emod_of_nonneg (by omega)]
  have := Int.emod_nonneg (a.tmod m + m) (show m ≠ 0 by omega)
  have := Int.emod_lt_of_pos (a.tmod m + m) (show 0 < m by omega)
  omega
def planeV (m a b c : Int) (p : Int × Int) : Int := modV (IntKind.i64.wrap (IntKind.i64.wrap (IntKind.i64.wrap (a * p.1) + IntKind.i64.wrap (b * p.2)) + c)) m
def planeM (r : List (Int × Int)) (m a b c : Int) : List Int := r.map (planeV m a b c)
theorem planeM_ok {r : List (Int × Int)} {m a b c : Int} (h1 : 2 ≤ m) (h2 : m ≤ 6) : OkW r.length m (planeM r m a b c) :=
  ⟨h1, h2, by simp [planeM], fun x hx => by obtain ⟨p, _, rfl⟩ := List.mem_map.mp hx; exact modV_bd h1 h2⟩
/-- What pieces take away of the whole weight. -/
def sumC (ks : List Int) (Ds : List (List Int)) : Nat → Int
  | 0 => 0
  | j + 1 => sumC ks Ds j + ks.getD j 0 * (Ds.getD j []).getD 0 0
theorem sumC_bd {ks : List Int} {Ds : List (List Int)} (hk : ∀ k ∈ ks, 0 ≤ k ∧ k ≤ 8) (hD : ∀ D ∈ Ds, ∀ x ∈ D, 0 ≤ x ∧ x ≤ 5) : ∀ j, 0 ≤ sumC ks Ds j ∧ sumC ks Ds j ≤ 40 * j
  | 0 => by simp [sumC]
  | j + 1 => by
    have ih := sumC_bd hk hD j
    have h1 : 0 ≤ ks.getD j 0 ∧ ks.getD j 0 ≤ 8 := by
      rw [List.getD_eq_getElem?_getD]
      cases q : ks[j]? with
      | none => simp
      | some x => simpa using hk x (List.mem_of_getElem? q)
    have h2 : 0 ≤ (Ds.getD j []).getD 0 0 ∧ (Ds.getD j []).getD 0 0 ≤ 5 := by
      rw [List.getD_eq_getElem?_getD (l := Ds)]
      cases q : Ds[j]? with
      | none => simp
      | some D =>
        simp only [Option.getD_some]
        rw [List.getD_eq_getElem?_getD]
        cases q2 : D[0]? with
        | none => simp
        | some x => simpa using hD D (List.mem_of_getElem? q) x (List.mem_of_getElem? q2)
    simp only [sumC]
    have h3 : 0 ≤ ks.getD j 0 * (Ds.getD j []).getD 0 0 := Int.mul_nonneg h1.1 h2.1
    have h4 : ks.getD j 0 * (Ds.getD j []).getD 0 0 ≤ 8 * 5 := Int.mul_le_mul h1.2 h2.2 h2.1 (by omega)
    push_cast
    omega
def bigD (D : List Int) : Bool := decide ((D.length : Int) > 1)
def nilD (D : List Int) : Bool := ((D.length : Int) == 0)
def refM (m : Int) (w ks : List Int) (Ds : List (List Int)) : Bool := !Ds.any bigD && (Ds.any nilD || modV (w.sum - sumC ks Ds Ds.length) m != 0)
/-- The first pair for which a question is answered with yes. -/
def findK (q : Nat → Bool) : Nat → Nat → Option Nat
  | 0, _ => none
  | d + 1, k => if q k then some k else findK q d (k + 1)
def findMK (q : Nat → Nat → Bool) : Nat → Nat → Option (Nat × Nat)
  | 0, _ => none
  | d + 1, m => match findK (q m) (m * m * m) 0 with
    | some k => some (m, k)
    | none => findMK q d (m + 1)
end Go.Proofs
end
section
open Go Go.Big
namespace Go.Proofs
set_option maxHeartbeats 2000000
theorem insP_at {x : Int × List Int} : ∀ {l : List (Int × List Int)} {i : Nat}, i ≤ l.length → (∀ k (h : k < l.length), k < i → cmpP l[k] x < 0) → (∀ h : i < l.length, ¬ cmpP l[i] x < 0) → insP x l = l.take i ++ x :: l.drop i
  | [], i, hi, _, _ => by
    obtain rfl : i = 0 := by simpa using hi
    rfl
  | y :: l, 0, _, _, h => by
    have := h (by simp)
    simp only [List.getElem_cons_zero] at this
    unfold insP
    rw [if_neg this]; rfl
  | y :: l, i + 1, hi, h1, h2 => by
    have h0 := h1 0 (by simp) (by omega)
    simp only [List.getElem_cons_zero] at h0
    unfold insP
    rw [if_pos h0, insP_at (i := i) (by simpa using hi) (fun k hk hki => by have := h1 (k + 1) (by simpa using hk) (by omega); simpa using this) (fun h => by have := h2 (by simpa using h); simpa using this)]
    simp
theorem l12Insert_wc (G : Gv) (l : List (Int × List Int)) (x : Int × List Int) (o e : Nat) (H : Heap) (n : Nat) (ho : o < n) (hH : H o = some (.arr e 110 2 (places l) 1)) (hl : l.length < 1000000000) (hlc : ∀ y ∈ l, y.2.length < 1000000000) (hx : x.2.length < 1000000000) :
    WC Tryz.prog G 202 [.own o e, placA 1 x] H n (fun r H' n' => n ≤ n' ∧ ∃ o' e', r = .own o' e' ∧ o' < n' ∧ H' o' = some (.arr e' 110 2 (places (insP x l)) 1) ∧ ∀ k, k < n → H' k = H k) := by
  refine (.body Tryz.func202 rfl (by simp [Tryz.ntmps202]) ?_)
  rw [Tryz.ntmps202, Tryz.results202]
  have hlen := places_len l
  have hno : ¬ (o = n) := by omega
  replace hlc := Hid.mk hlc
  refine AL ?_
  refine .loop (.inv (fun d E H' n' => ∃ i : Nat, i + d = l.length ∧ n < n' ∧ E 0 = .own o e ∧ E 3 = .ptr n 0 0 0 ∧ E 5 = .i .i64 i ∧ H' = H.upd n (.box 110 [.i .i64 x.1, .sl 1 (ints x.2)]) ∧ (∀ k (h : k < l.length), k < i → cmpP l[k] x < 0)) l.length ?_ ?_)
  · exact ⟨0, by omega, by omega, by simp [setF_if, argE], by simp [setF_if, argE], by simp [setF_if, argE], rfl, fun k _ hk => by omega⟩
  rintro d E H' n' ⟨i, hi, hn, h0, h3, h5, rfl, hlo⟩
  replace hlo := Hid.mk hlo
  by_cases c : (i : Int) < l.length
  · have hw_i : IntKind.i64.wrap ((i : Int) + 1) = (i : Int) + 1 := wr64 (by omega) (by omega)
    have hil : i < l.length := by omega
    have hrow : (places l)[i]? = some (placR (l[i]'hil)) := places_at (List.getElem?_eq_getElem hil)
    have hyl := hlc.out _ (List.getElem_mem hil)
    have hnext : cmpP (l[i]'hil) x < 0 → ∀ k (h : k < l.length), k < i + 1 → cmpP l[k] x < 0 := fun h k hk hki => by
      by_cases q : k = i
      · subst q; exact h
      · exact hlo.out k hk (by omega)
    obtain ⟨y, hy⟩ : ∃ y, l[i]'hil = y := ⟨_, rfl⟩
    rw [hy] at hrow hyl hnext
    replace hy := Hid.mk hy
    replace hnext := Hid.mk hnext
    obtain ⟨yk, ys⟩ := y
    obtain ⟨xk, xs⟩ := x
    simp only at hyl
    by_cases cy : cmpP (yk, ys) (xk, xs) < 0
    · refine AL ?_
      refine CQ (specComparePl_fn G (yk, ys) (xk, xs) hyl hx) ?_
      refine AL ?_
      exact ⟨l.length - (i + 1), by omega, i + 1, by omega, by omega, by simp [setF_if, *], by simp [setF_if, *], by simp [setF_if, *], by first | rfl | trivial, hnext.out cy⟩
    · have heq := insP_at (x := (xk, xs)) (l := l) (i := i) (by omega) hlo.out (fun h => by rw [hy.out]; exact cy)
      replace heq := Hid.mk heq
      refine AL ?_
      refine CQ (specComparePl_fn G (yk, ys) (xk, xs) hyl hx) ?_
      refine AX ?_
      have hle : i ≤ l.length := by omega
      have hzi : 0 ≤ i := by omega
      have hs0 : i - 0 = i := rfl
      have hdr : (places l).drop 0 = places l := rfl
      have htk : (places l).take i = places (l.take i) := by simp [places, List.map_take]
      have htd : ((places l).drop i).take (l.length - i) = places (l.drop i) := by unfold places; rw [← List.map_drop, List.take_of_length_le (by simp)]
      have hl1 : (places (l.take i)).length = i := by rw [places_len, List.length_take]; omega
      have hl2 : (places (l.drop i)).length = l.length - i := by rw [places_len, List.length_drop]
      have hb1 : i * 32 ≤ 140737488355328 := by omega
      have hb2 : (i + 1) * 32 ≤ 140737488355328 := by omega
      have hb3 : (i + 1 + (l.length - i)) * 32 ≤ 140737488355328 := by omega
      have hfit1 : decide (∀ r ∈ places (l.take i), r.length = 2) = true := decide_eq_true fun r hr => by obtain ⟨y, _, rfl⟩ := List.mem_map.mp hr; rfl
      have hfit2 : decide (∀ r ∈ places (l.drop i), r.length = 2) = true := decide_eq_true fun r hr => by obtain ⟨y, _, rfl⟩ := List.mem_map.mp hr; rfl
      have hl3 : (places (l.take i) ++ [[PV.i .i64 xk, PV.sl (ints xs)]]).length = i + 1 := by simp [hl1]
      have hno' : ¬ (o = n') := by omega
      have hnn' : ¬ (n = n') := by omega
      have hno6 : ¬ (o = n' + 6) := by omega
      have hnn6 : ¬ (n = n' + 6) := by omega
      have h06 : ¬ (n' = n' + 6) := by omega
      have h60 : ¬ (n' + 6 = n') := by omega
      have hnd : [n', n' + 6].Nodup := by simp
      refine FD [n', n' + 6] [(21, 0), (25, 0), (27, 1), (28, 0), (32, 0)] [(28, [1])] hnd ?_
      repeat first | refine FF ?_ | refine FS ?_
      refine FM 0 (n') ?_ (hs := by
        intro Hx hx
        exact EVM)
      repeat first | refine FF ?_ | refine FS ?_
      refine FQ ?_ (hs := by
        intro Hx hx
        have f0 : Hx (o) = _ := hx.off (by simp only [List.mem_cons, List.not_mem_nil, or_false, not_or]; omega)
        simp only [setF_if, upd_if, neAdd, neLt, ltAdd, addNe, ltNe, Nat.left_eq_add, Nat.add_eq_left, Nat.reduceEqDiff, Nat.add_assoc, Nat.reduceAdd, reduceIte, *] at f0
        exact EV)
      refine FM 0 (n') ?_ (hs := by
        intro Hx hx
        have f0 : Hx (n') = _ := hx.at hnd 0 rfl (by decide)
        simp only [setF_if, upd_if, neAdd, neLt, ltAdd, addNe, ltNe, Nat.left_eq_add, Nat.add_eq_left, Nat.reduceEqDiff, Nat.add_assoc, Nat.reduceAdd, reduceIte, *] at f0
        have f1 : Hx (o) = _ := hx.off (by simp only [List.mem_cons, List.not_mem_nil, or_false, not_or]; omega)
        simp only [setF_if, upd_if, neAdd, neLt, ltAdd, addNe, ltNe, Nat.left_eq_add, Nat.add_eq_left, Nat.reduceEqDiff, Nat.add_assoc, Nat.reduceAdd, reduceIte, *] at f1
        exact EVM)
      refine FQ ?_ (hs := by
        intro Hx hx
        have f0 : Hx (n) = _ := hx.off (by simp only [List.mem_cons, List.not_mem_nil, or_false, not_or]; omega)
        simp only [setF_if, upd_if, neAdd, neLt, ltAdd, addNe, ltNe, Nat.left_eq_add, Nat.add_eq_left, Nat.reduceEqDiff, Nat.add_assoc, Nat.reduceAdd, reduceIte, *] at f0
        exact EV)
      refine FM 1 (n' + 6) ?_ (hs := by
        intro Hx hx
        exact EVM)
      refine FM 0 (n') ?_ (hs := by
        intro Hx hx
        have f0 : Hx (n') = _ := hx.at hnd 0 rfl (by decide)
        simp only [setF_if, upd_if, neAdd, neLt, ltAdd, addNe, ltNe, Nat.left_eq_add, Nat.add_eq_left, Nat.reduceEqDiff, Nat.add_assoc, Nat.reduceAdd, reduceIte, *] at f0
        have f1 : Hx (n' + 6) = _ := hx.at hnd 1 rfl (by decide)
        simp only [setF_if, upd_if, neAdd, neLt, ltAdd, addNe, ltNe, Nat.left_eq_add, Nat.add_eq_left, Nat.reduceEqDiff, Nat.add_assoc, Nat.reduceAdd, reduceIte, *] at f1
        exact EVM)
      repeat first | refine FF ?_ | refine FS ?_
      refine FQ ?_ (hs := by
        intro Hx hx
        have f0 : Hx (o) = _ := hx.off (by simp only [List.mem_cons, List.not_mem_nil, or_false, not_or]; omega)
        simp only [setF_if, upd_if, neAdd, neLt, ltAdd, addNe, ltNe, Nat.left_eq_add, Nat.add_eq_left, Nat.reduceEqDiff, Nat.add_assoc, Nat.reduceAdd, reduceIte, *] at f0
        exact EV)
      refine FM 0 (n') ?_ (hs := by
        intro Hx hx
        have f0 : Hx (n') = _ := hx.at hnd 0 rfl (by decide)
        simp only [setF_if, upd_if, neAdd, neLt, ltAdd, addNe, ltNe, Nat.left_eq_add, Nat.add_eq_left, Nat.reduceEqDiff, Nat.add_assoc, Nat.reduceAdd, reduceIte, *] at f0
        have f1 : Hx (o) = _ := hx.off (by simp only [List.mem_cons, List.not_mem_nil, or_false, not_or]; omega)
        simp only [setF_if, upd_if, neAdd, neLt, ltAdd, addNe, ltNe, Nat.left_eq_add, Nat.add_eq_left, Nat.reduceEqDiff, Nat.add_assoc, Nat.reduceAdd, reduceIte, *] at f1
        exact EVM)
      repeat first | refine FF ?_ | refine FS ?_
      refine WF.nil ?_
      refine AL ?_
      refine ⟨by omega, n', 3, by simp [retA], by omega, ?_, fun k hk => ?_⟩
      · rw [heq.out]
        simp [upd_if, places]
      · simp [upd_if, show ¬ k = n' by omega, show ¬ k = n' + 6 by omega, show ¬ k = n by omega]
  · have heq := insP_at (x := x) (l := l) (i := i) (by omega) hlo.out (fun h => by omega)
    replace heq := Hid.mk heq
    obtain ⟨xk, xs⟩ := x
    refine AX ?_
    refine DR ?_
    refine AX ?_
    have hle : i ≤ l.length := by omega
    have hzi : 0 ≤ i := by omega
    have hs0 : i - 0 = i := rfl
    have hdr : (places l).drop 0 = places l := rfl
    have htk : (places l).take i = places (l.take i) := by simp [places, List.map_take]
    have htd : ((places l).drop i).take (l.length - i) = places (l.drop i) := by unfold places; rw [← List.map_drop, List.take_of_length_le (by simp)]
    have hl1 : (places (l.take i)).length = i := by rw [places_len, List.length_take]; omega
    have hl2 : (places (l.drop i)).length = l.length - i := by rw [places_len, List.length_drop]
    have hb1 : i * 32 ≤ 140737488355328 := by omega
    have hb2 : (i + 1) * 32 ≤ 140737488355328 := by omega
    have hb3 : (i + 1 + (l.length - i)) * 32 ≤ 140737488355328 := by omega
    have hfit1 : decide (∀ r ∈ places (l.take i), r.length = 2) = true := decide_eq_true fun r hr => by obtain ⟨y, _, rfl⟩ := List.mem_map.mp hr; rfl
    have hfit2 : decide (∀ r ∈ places (l.drop i), r.length = 2) = true := decide_eq_true fun r hr => by obtain ⟨y, _, rfl⟩ := List.mem_map.mp hr; rfl
    have hl3 : (places (l.take i) ++ [[PV.i .i64 xk, PV.sl (ints xs)]]).length = i + 1 := by simp [hl1]
    have hno' : ¬ (o = n') := by omega
    have hnn' : ¬ (n = n') := by omega
    have hno6 : ¬ (o = n' + 6) := by omega
    have hnn6 : ¬ (n = n' + 6) := by omega
    have h06 : ¬ (n' = n' + 6) := by omega
    have h60 : ¬ (n' + 6 = n') := by omega
    have hnd : [n', n' + 6].Nodup := by simp
    refine FD [n', n' + 6] [(21, 0), (25, 0), (27, 1), (28, 0), (32, 0)] [(28, [1])] hnd ?_
    repeat first | refine FF ?_ | refine FS ?_
    refine FM 0 (n') ?_ (hs := by
      intro Hx hx
      exact EVM)
    repeat first | refine FF ?_ | refine FS ?_
    refine FQ ?_ (hs := by
      intro Hx hx
      have f0 : Hx (o) = _ := hx.off (by simp only [List.mem_cons, List.not_mem_nil, or_false, not_or]; omega)
      simp only [setF_if, upd_if, neAdd, neLt, ltAdd, addNe, ltNe, Nat.left_eq_add, Nat.add_eq_left, Nat.reduceEqDiff, Nat.add_assoc, Nat.reduceAdd, reduceIte, *] at f0
      exact EV)
    refine FM 0 (n') ?_ (hs := by
      intro Hx hx
      have f0 : Hx (n') = _ := hx.at hnd 0 rfl (by decide)
      simp only [setF_if, upd_if, neAdd, neLt, ltAdd, addNe, ltNe, Nat.left_eq_add, Nat.add_eq_left, Nat.reduceEqDiff, Nat.add_assoc, Nat.reduceAdd, reduceIte, *] at f0
      have f1 : Hx (o) = _ := hx.off (by simp only [List.mem_cons, List.not_mem_nil, or_false, not_or]; omega)
      simp only [setF_if, upd_if, neAdd, neLt, ltAdd, addNe, ltNe, Nat.left_eq_add, Nat.add_eq_left, Nat.reduceEqDiff, Nat.add_assoc, Nat.reduceAdd, reduceIte, *] at f1
      exact EVM)
    refine FQ ?_ (hs := by
      intro Hx hx
      have f0 : Hx (n) = _ := hx.off (by simp only [List.mem_cons, List.not_mem_nil, or_false, not_or]; omega)
      simp only [setF_if, upd_if, neAdd, neLt, ltAdd, addNe, ltNe, Nat.left_eq_add, Nat.add_eq_left, Nat.reduceEqDiff, Nat.add_assoc, Nat.reduceAdd, reduceIte, *] at f0
      exact EV)
    refine FM 1 (n' + 6) ?_ (hs := by
      intro Hx hx
      exact EVM)
    refine FM 0 (n') ?_ (hs := by
      intro Hx hx
      have f0 : Hx (n') = _ := hx.at hnd 0 rfl (by decide)
      simp only [setF_if, upd_if, neAdd, neLt, ltAdd, addNe, ltNe, Nat.left_eq_add, Nat.add_eq_left, Nat.reduceEqDiff, Nat.add_assoc, Nat.reduceAdd, reduceIte, *] at f0
      have f1 : Hx (n' + 6) = _ := hx.at hnd 1 rfl (by decide)
      simp only [setF_if, upd_if, neAdd, neLt, ltAdd, addNe, ltNe, Nat.left_eq_add, Nat.add_eq_left, Nat.reduceEqDiff, Nat.add_assoc, Nat.reduceAdd, reduceIte, *] at f1
      exact EVM)
    repeat first | refine FF ?_ | refine FS ?_
    refine FQ ?_ (hs := by
      intro Hx hx
      have f0 : Hx (o) = _ := hx.off (by simp only [List.mem_cons, List.not_mem_nil, or_false, not_or]; omega)
      simp only [setF_if, upd_if, neAdd, neLt, ltAdd, addNe, ltNe, Nat.left_eq_add, Nat.add_eq_left, Nat.reduceEqDiff, Nat.add_assoc, Nat.reduceAdd, reduceIte, *] at f0
      exact EV)
    refine FM 0 (n') ?_ (hs := by
      intro Hx hx
      have f0 : Hx (n') = _ := hx.at hnd 0 rfl (by decide)
      simp only [setF_if, upd_if, neAdd, neLt, ltAdd, addNe, ltNe, Nat.left_eq_add, Nat.add_eq_left, Nat.reduceEqDiff, Nat.add_assoc, Nat.reduceAdd, reduceIte, *] at f0
      have f1 : Hx (o) = _ := hx.off (by simp only [List.mem_cons, List.not_mem_nil, or_false, not_or]; omega)
      simp only [setF_if, upd_if, neAdd, neLt, ltAdd, addNe, ltNe, Nat.left_eq_add, Nat.add_eq_left, Nat.reduceEqDiff, Nat.add_assoc, Nat.reduceAdd, reduceIte, *] at f1
      exact EVM)
    repeat first | refine FF ?_ | refine FS ?_
    refine WF.nil ?_
    refine AL ?_
    refine ⟨by omega, n', 3, by simp [retA], by omega, ?_, fun k hk => ?_⟩
    · rw [heq.out]
      simp [upd_if, places]
    · simp [upd_if, show ¬ k = n' by omega, show ¬ k = n' + 6 by omega, show ¬ k = n by omega]
end Go.Proofs
end
section
open Go Go.Big
namespace Go.Proofs
set_option maxHeartbeats 2000000
theorem insP_mem {x y : Int × List Int} : ∀ {l : List (Int × List Int)}, y ∈ insP x l → y = x ∨ y ∈ l
  | [], h => by simpa [insP] using h
  | z :: l, h => by
    unfold insP at h
    split at h
    · rcases List.mem_cons.mp h with rfl | h
      · exact .inr List.mem_cons_self
      · exact (insP_mem h).imp id (List.mem_cons_of_mem _)
    · rcases List.mem_cons.mp h with rfl | h
      · exact .inl rfl
      · exact .inr h
theorem insP_length (x : Int × List Int) : ∀ (l : List (Int × List Int)), (insP x l).length = l.length + 1
  | [] => rfl
  | y :: l => by
    unfold insP
    split
    · simp [insP_length x l]
    · simp
theorem bnd0 {a i : Nat} (h : a ≤ i * 1000000) : a ≤ i * 1000000 + 0 * 1000 := by rw [Nat.zero_mul, Nat.add_zero]; exact h
theorem bnd0' {a i y : Nat} (h : a ≤ i * 1000000 + y * 1000) : a ≤ i * 1000000 + y * 1000 + 0 := by rw [Nat.add_zero]; exact h
theorem bnd1 {a i y x : Nat} (h : a ≤ i * 1000000 + y * 1000 + x) : a ≤ i * 1000000 + y * 1000 + (x + 1) := by omega
theorem bnd1' {a i y x : Nat} (h : a ≤ i * 1000000 + y * 1000 + x) : a + 1 ≤ i * 1000000 + y * 1000 + (x + 1) := by omega
theorem bnd2 {a i y w : Nat} (h : a ≤ i * 1000000 + y * 1000 + w) (hw : w ≤ 1000) : a ≤ i * 1000000 + (y + 1) * 1000 := by
  refine Nat.le_trans h ?_
  rw [Nat.add_mul, Nat.one_mul, Nat.add_assoc]
  exact Nat.add_le_add_left (Nat.add_le_add_left hw _) _
theorem bnd3 {a i w : Nat} (h : a ≤ i * 1000000 + w * 1000) (hw : w ≤ 1000) : a ≤ (i + 1) * 1000000 := by omega
theorem range_foldl {β : Type} (f : β → Nat → β) (z : β) (n : Nat) : (List.range (n + 1)).foldl f z = f ((List.range n).foldl f z) n := by
  rw [List.range_succ, List.foldl_append]; rfl
theorem l12Of_fn (G : Gv) (r : Shape) (l : List PieceM) (k : Nat) (p : PieceM) (hp : l[k]? = some p) (hp0 : 0 < p.cs.length) (hpl : p.cs.length < 1000000) (hr1 : 1 ≤ r.length) (hr : r.length < 1000000000) (hl : l.length < 1000000000) (hw : (sizeM r).1 ≤ 1000 ∧ (sizeM r).2 ≤ 1000) :
    Gives Tryz.prog G 144 [.ag [.sl 0 (cells r), .sl 0 (pieces l)], .i .i64 k] (.sl 1 (places (listB r k (formsP p)))) := by
  refine .of (.body Tryz.func144 rfl (by simp [Tryz.ntmps144]) ?_)
  rw [Tryz.ntmps144, Tryz.results144]
  have hrow := pieces_at hp
  obtain ⟨hf1, hf2⟩ := formsP_ok p
  have hk : k < l.length := (List.getElem?_eq_some_iff.mp hp).1
  have hlenf := shapesR_len (formsP p)
  replace hp := Hid.mk hp
  refine AL ?_
  refine CV (l11Forms_fn G p hp0 (by omega)) ?_
  refine AL ?_
  refine CV (l04Size_fn G r (by omega) hr) ?_
  unfold listB
  have hfl : ∀ f ∈ formsP p, f.length < 1000000 := fun f hf => by rw [hf2 f hf]; exact hpl
  generalize formsP p = fs at hf1 hf2 hlenf hfl
  obtain ⟨hw1, hw2⟩ := hw
  generalize (sizeM r).1 = wide at hw1
  generalize (sizeM r).2 = high at hw2
  generalize hwN : wide.toNat = wN
  generalize hhN : high.toNat = hN
  have hwN9 : wN ≤ 1000 := by omega
  have hhN9 : hN ≤ 1000 := by omega
  replace hfl := Hid.mk hfl
  replace hf2 := Hid.mk hf2
  clear hrow
  refine AL ?_
  refine .loop (.inv (fun d E H n' => ∃ (i : Nat) (out : List (Int × List Int)) (o e : Nat), i + d = fs.length ∧ 0 < n' ∧ o < n' ∧ E 1 = .i .i64 k ∧ E 2 = .ptr 0 0 0 0 ∧ E 5 = .own o e ∧ E 6 = .sl 1 (shapesR fs) ∧ E 7 = .i .i64 wide ∧ E 8 = .i .i64 high ∧ E 9 = .i .i64 i ∧ H 0 = some (.box 35 [.sl 0 (cells r), .sl 0 (pieces l)]) ∧ H o = some (.arr e 110 2 (places out) 1) ∧
      out = (fs.take i).foldl (formB r k wN hN) [] ∧ out.length ≤ i * 1000000 ∧ ∀ z ∈ out, z.2.length < 1000000) fs.length ?_ ?_)
  · exact ⟨0, [], 2, 0, by omega, by omega, by omega, by simp [setF_if, argE], by simp [setF_if, argE], by simp [setF_if, argE], by simp [setF_if, argE], by simp [setF_if, argE], by simp [setF_if, argE], by simp [setF_if, argE], by simp [upd_if], by simp [upd_if, places], rfl, by simp, by simp⟩
  rintro d E H n' ⟨i, out, o, e, hi, hn, hon, h1, h2, h5, h6, h7, h8, h9, hH0, hHo, hout, hlen, hmem⟩
  by_cases c : (i : Int) < fs.length
  · have hw_i : IntKind.i64.wrap ((i : Int) + 1) = (i : Int) + 1 := wr64 (by omega) (by omega)
    have hfi : i < fs.length := by omega
    have hfs := foldl_take (f := formB r k wN hN) (z := []) (List.getElem?_eq_getElem hfi)
    rw [← hout] at hfs
    have hrf := shapesR_at (ls := fs) (i := i) hfi
    rw [show fs.getD i [] = fs[i]'hfi by rw [List.getD_eq_getElem?_getD, List.getElem?_eq_getElem hfi]; rfl] at hrf
    have hff := hfl.out _ (List.getElem_mem hfi)
    generalize fs[i]'hfi = f at hfs hrf hff
    replace hfs := Hid.mk hfs
    replace hmem := Hid.mk hmem
    replace hlen := Hid.mk hlen
    replace hout := Hid.mk hout
    refine AL ?_
    refine .loop (.inv (fun d2 E H n' => ∃ (y : Nat) (out2 : List (Int × List Int)) (o e : Nat), y + d2 = hN ∧ 0 < n' ∧ o < n' ∧ E 1 = .i .i64 k ∧ E 2 = .ptr 0 0 0 0 ∧ E 5 = .own o e ∧ E 6 = .sl 1 (shapesR fs) ∧ E 7 = .i .i64 wide ∧ E 8 = .i .i64 high ∧ E 9 = .i .i64 i ∧ E 10 = .i .i64 y ∧ H 0 = some (.box 35 [.sl 0 (cells r), .sl 0 (pieces l)]) ∧ H o = some (.arr e 110 2 (places out2) 1) ∧
        out2 = (List.range y).foldl (rowB r k f wN) out ∧ out2.length ≤ i * 1000000 + y * 1000 ∧ ∀ z ∈ out2, z.2.length < 1000000) hN ?_ ?_)
    · exact ⟨0, out, o, e, by omega, by omega, by omega, by simp [setF_if, *], by simp [setF_if, *], by simp [setF_if, *], by simp [setF_if, *], by simp [setF_if, *], by simp [setF_if, *], by simp [setF_if, *], by simp [setF_if, *], by first | exact hH0 | simp [*], by first | exact hHo | simp [*], rfl, bnd0 hlen.out, hmem.out⟩
    clear h1 h2 h5 h6 h7 h8 h9 hH0 hHo hn hon
    rintro d2 E H n' ⟨y, out2, o, e, hy, hn, hon, h1, h2, h5, h6, h7, h8, h9, h10, hH0, hHo, hout2, hlen2, hmem2⟩
    by_cases cy : (y : Int) < high
    · have hw_y : IntKind.i64.wrap ((y : Int) + 1) = (y : Int) + 1 := wr64 (by omega) (by omega)
      have hyN : y < hN := by omega
      have hrs := range_foldl (rowB r k f wN) out y
      rw [← hout2] at hrs
      replace hrs := Hid.mk hrs
      replace hmem2 := Hid.mk hmem2
      replace hlen2 := Hid.mk hlen2
      replace hout2 := Hid.mk hout2
      refine AL ?_
      refine .loop (.inv (fun d3 E H n' => ∃ (x : Nat) (out3 : List (Int × List Int)) (o e : Nat), x + d3 = wN ∧ 0 < n' ∧ o < n' ∧ E 1 = .i .i64 k ∧ E 2 = .ptr 0 0 0 0 ∧ E 5 = .own o e ∧ E 6 = .sl 1 (shapesR fs) ∧ E 7 = .i .i64 wide ∧ E 8 = .i .i64 high ∧ E 9 = .i .i64 i ∧ E 10 = .i .i64 y ∧ E 11 = .i .i64 x ∧ H 0 = some (.box 35 [.sl 0 (cells r), .sl 0 (pieces l)]) ∧ H o = some (.arr e 110 2 (places out3) 1) ∧
          out3 = (List.range x).foldl (stepB r k f y) out2 ∧ out3.length ≤ i * 1000000 + y * 1000 + x ∧ ∀ z ∈ out3, z.2.length < 1000000) wN ?_ ?_)
      · exact ⟨0, out2, o, e, by omega, by omega, by omega, by simp [setF_if, *], by simp [setF_if, *], by simp [setF_if, *], by simp [setF_if, *], by simp [setF_if, *], by simp [setF_if, *], by simp [setF_if, *], by simp [setF_if, *], by simp [setF_if, *], by first | exact hH0 | simp [*], by first | exact hHo | simp [*], rfl, bnd0' hlen2.out, hmem2.out⟩
      clear h1 h2 h5 h6 h7 h8 h9 h10 hH0 hHo hn hon
      rintro d3 E H n' ⟨x, out3, o, e, hx, hn, hon, h1, h2, h5, h6, h7, h8, h9, h10, h11, hH0, hHo, hout3, hlen3, hmem3⟩
      by_cases cx : (x : Int) < wide
      · have hw_x : IntKind.i64.wrap ((x : Int) + 1) = (x : Int) + 1 := wr64 (by omega) (by omega)
        have hxN : x < wN := by omega
        have hss := range_foldl (stepB r k f y) out2 x
        rw [← hout3] at hss
        have hset := l10Set_fn G r (movedM f x y) hr (by rw [movedM_len]; omega)
        have hsl : ∀ s, setM r (movedM f x y) = some s → s.length < 1000000 := fun s hs => by rw [setM_len hs, movedM_len]; exact hff
        have hst : stepB r k f y out3 x = match setM r (movedM f x y) with | some s => insP ((k : Int), s) out3 | none => out3 := by
          unfold stepB gM
          cases setM r (movedM f x y) <;> rfl
        rw [hst] at hss
        have hl9 : out3.length < 1000000000 := by omega
        replace hmem3 := Hid.mk hmem3
        replace hlen3 := Hid.mk hlen3
        replace hout3 := Hid.mk hout3
        clear hst
        cases hsm : setM r (movedM f x y) with
        | none =>
          rw [hsm] at hset hss
          simp only [setA] at hset hss
          replace hset := Hid.mk hset
          replace hss := Hid.mk hss
          clear hsm hsl
          refine AL ?_
          refine CQ (l02Move_fn G f x y (by omega)) ?_
          refine AL ?_
          refine CQ hset.out ?_
          refine AL ?_
          exact ⟨wN - (x + 1), by omega, x + 1, out3, o, e, by omega, by omega, by omega, by simp [setF_if, *], by simp [setF_if, *], by simp [setF_if, *], by simp [setF_if, *], by simp [setF_if, *], by simp [setF_if, *], by simp [setF_if, *], by simp [setF_if, *], by simp [setF_if, *], by first | exact hH02 | exact hH0 | simp [*], by first | exact hHo2 | exact hHo | simp [*], hss.out.symm, bnd1 hlen3.out, hmem3.out⟩
        | some s =>
          have hsl2 := hsl s hsm
          rw [hsm] at hset hss
          simp only [setA] at hset hss
          replace hset := Hid.mk hset
          replace hss := Hid.mk hss
          clear hsm hsl
          refine AL ?_
          refine CQ (l02Move_fn G f x y (by omega)) ?_
          refine AL ?_
          refine CQ hset.out ?_
          refine AL ?_
          refine CI ?_
          refine (l12Insert_wc G out3 ((k : Int), s) o e H _ (by omega) hHo hl9 (fun z hz => by have := hmem3.out z hz; omega) (by simp only; omega)).mono ?_
          rintro _ H2 n2 ⟨hn2, o2, e2, rfl, ho2, hHo2, hfr⟩
          have hH02 := (hfr 0 (by omega)).trans hH0
          clear hfr hHo hH0
          refine AL ?_
          exact ⟨wN - (x + 1), by omega, x + 1, insP ((k : Int), s) out3, o2, e2, by omega, by omega, by omega, by simp [setF_if, *], by simp [setF_if, *], by simp [setF_if, *], by simp [setF_if, *], by simp [setF_if, *], by simp [setF_if, *], by simp [setF_if, *], by simp [setF_if, *], by simp [setF_if, *], by first | exact hH02 | exact hH0 | simp [*], by first | exact hHo2 | exact hHo | simp [*], hss.out.symm, by rw [insP_length]; exact bnd1' hlen3.out, fun z hz => by
            rcases insP_mem hz with rfl | hz
            · exact hsl2
            · exact hmem3.out z hz⟩
      · have ex : x = wN := by omega
        rw [ex] at hout3 hlen3
        have hro : rowB r k f wN out2 y = out3 := hout3.symm
        have hrs' := hrs.out
        rw [hro] at hrs'
        replace hrs' := Hid.mk hrs'
        replace hlen3 := Hid.mk hlen3
        replace hmem3 := Hid.mk hmem3
        clear hro hout3 hx ex
        refine AL ?_
        exact ⟨hN - (y + 1), by omega, y + 1, out3, o, e, by omega, by omega, by omega, by simp [setF_if, *], by simp [setF_if, *], by simp [setF_if, *], by simp [setF_if, *], by simp [setF_if, *], by simp [setF_if, *], by simp [setF_if, *], by simp [setF_if, *], by first | exact hH0 | simp [*], by first | exact hHo | simp [*], hrs'.out.symm, bnd2 hlen3.out hwN9, hmem3.out⟩
    · have ey : y = hN := by omega
      rw [ey] at hout2 hlen2
      have hfo : formB r k wN hN out f = out2 := hout2.symm
      have hfs' := hfs.out
      rw [hfo] at hfs'
      replace hfs' := Hid.mk hfs'
      replace hlen2 := Hid.mk hlen2
      replace hmem2 := Hid.mk hmem2
      clear hfo hout2 hy ey
      refine AL ?_
      exact ⟨fs.length - (i + 1), by omega, i + 1, out2, o, e, by omega, by omega, by omega, by simp [setF_if, *], by simp [setF_if, *], by simp [setF_if, *], by simp [setF_if, *], by simp [setF_if, *], by simp [setF_if, *], by simp [setF_if, *], by first | exact hH0 | simp [*], by first | exact hHo | simp [*], hfs'.out.symm, bnd3 hlen2.out hhN9, hmem2.out⟩
  · have ei : i = fs.length := by omega
    rw [ei, List.take_length] at hout
    subst hout
    refine AL ?_
    simp [retA, backA, newSl, newB, setF_if, h5, hHo]
end Go.Proofs
end
section
open Go Go.Big
namespace Go.Proofs
set_option maxHeartbeats 2000000
def areaF (l : List PieceM) : Int := l.foldl (fun n p => IntKind.i64.wrap (n + IntKind.i64.wrap (p.k * p.cs.length))) 0
theorem areaF_take {l : List PieceM} {i : Nat} {p : PieceM} (h : l[i]? = some p) : areaF (l.take (i + 1)) = IntKind.i64.wrap (areaF (l.take i) + IntKind.i64.wrap (p.k * p.cs.length)) := by
  obtain ⟨hi, rfl⟩ := List.getElem?_eq_some_iff.mp h
  unfold areaF
  rw [List.take_succ_eq_append_getElem hi, List.foldl_append]; rfl
theorem pieceArea_fn (G : Gv) (r : List (Int × Int)) (l : List PieceM) (hl : l.length < 1000000000) : Gives Tryz.prog G 141 [.ag [.sl 0 (cells r), .sl 0 (pieces l)]] (.i .i64 (areaF l)) := by
  refine .of (.body Tryz.func141 rfl (by simp [Tryz.ntmps141]) ?_)
  rw [Tryz.ntmps141, Tryz.results141]
  have hlen := pieces_len l
  refine AL ?_
  refine .loop (.inv (fun d E H n' => ∃ i : Nat, i + d = l.length ∧ E 3 = .i .i64 (areaF (l.take i)) ∧ E 7 = .sl 0 (pieces l) ∧ E 8 = .i .i64 l.length ∧ E 9 = .i .i64 i) l.length ?_ ?_)
  · exact ⟨0, by omega, by simp [setF_if, argE, areaF], by simp [setF_if, argE], by simp [setF_if, argE, hlen], by simp [setF_if, argE]⟩
  rintro d E H n' ⟨i, hi, h3, h7, h8, h9⟩
  by_cases c : (i : Int) < l.length
  · have hw_i : IntKind.i64.wrap ((i : Int) + 1) = (i : Int) + 1 := wr64 (by omega) (by omega)
    obtain ⟨p, hp⟩ : ∃ p, l[i]? = some p := ⟨_, List.getElem?_eq_getElem (by omega)⟩
    have hr := pieces_at hp
    have ha := areaF_take hp
    have hcl := cells_len p.cs
    replace ha := Hid.mk ha
    replace hp := Hid.mk hp
    refine AL ?_
    exact ⟨l.length - (i + 1), by omega, i + 1, by omega, by simp [setF_if, *, ha.out], by simp [setF_if, *], by simp [setF_if, *], by simp [setF_if, *]⟩
  · have e : i = l.length := by omega
    rw [e, List.take_length] at h3
    refine AL ?_
    simp [retA, backA, *]
theorem l11Area_fn (G : Gv) (r : List (Int × Int)) (l : List PieceM) (hl : l.length < 1000000000) : Gives Tryz.prog G 137 [.ag [.sl 0 (cells r), .sl 0 (pieces l)]] (.i .i64 (areaF l)) := by
  refine .of (.body Tryz.func137 rfl (by simp [Tryz.ntmps137]) ?_)
  rw [Tryz.ntmps137, Tryz.results137]
  have hlen := pieces_len l
  refine AL ?_
  refine .loop (.inv (fun d E H n' => ∃ i : Nat, i + d = l.length ∧ 0 < n' ∧ E 1 = .ptr 0 0 0 0 ∧ E 3 = .i .i64 (areaF (l.take i)) ∧ E 4 = .i .i64 i ∧ H 0 = some (.box 35 [.sl 0 (cells r), .sl 0 (pieces l)])) l.length ?_ ?_)
  · exact ⟨0, by omega, by omega, by simp [setF_if, argE], by simp [setF_if, argE, areaF], by simp [setF_if, argE], by simp [upd_if]⟩
  rintro d E H n' ⟨i, hi, hn, h1, h3, h4, hH⟩
  by_cases c : (i : Int) < l.length
  · have hw_i : IntKind.i64.wrap ((i : Int) + 1) = (i : Int) + 1 := wr64 (by omega) (by omega)
    obtain ⟨p, hp⟩ : ∃ p, l[i]? = some p := ⟨_, List.getElem?_eq_getElem (by omega)⟩
    have hr := pieces_at hp
    have ha := areaF_take hp
    have hcl := cells_len p.cs
    replace ha := Hid.mk ha
    replace hp := Hid.mk hp
    refine AL ?_
    exact ⟨l.length - (i + 1), by omega, i + 1, by omega, by omega, by simp [setF_if, *], by simp [setF_if, *, ha.out], by simp [setF_if, *], by simp [upd_if, *]⟩
  · have e : i = l.length := by omega
    rw [e, List.take_length] at h3
    refine AL ?_
    simp [retA, backA, *]
def fitsI (r : List (Int × Int)) (l : List PieceM) : Bool := puzzleI r l && areaF l == r.length
def fitsS (r : List (Int × Int)) (l : List PieceM) : Bool := puzzleS r l && areaF l == r.length
theorem implDoesFit_fn (G : Gv) (hG : ∀ f args H n r H' n', sortsG f args H n r H' n' → G f args H n r H' n') (hG1 : ∀ f args H n r H' n', sortsG1 f args H n r H' n' → G f args H n r H' n') (r : List (Int × Int)) (l : List PieceM) (hr : r.length < 1000000000) (hl : l.length < 1000000000) (hc : ∀ p ∈ l, p.cs.length < 1000000000) : Gives Tryz.prog G 74 [.ag [.sl 0 (cells r), .sl 0 (pieces l)]] (.b (fitsI r l)) := by
  refine .of (.body Tryz.func74 rfl (by simp [Tryz.ntmps74]) ?_)
  rw [Tryz.ntmps74, Tryz.results74]
  have hlen := cells_len r
  replace hG := Hid.mk hG
  replace hG1 := Hid.mk hG1
  replace hc := Hid.mk hc
  refine AL ?_
  refine CQ (implIsPuzzle_fn G hG.out hG1.out r l hr hl hc.out) ?_
  by_cases c : puzzleI r l = true
  · refine AL ?_
    refine CQ (pieceArea_fn G r l hl) ?_
    refine AL ?_
    simp [retA, backA, fitsI, *]
  · refine AL ?_
    simp [retA, backA, fitsI, *]
theorem specDoesFit_fn (G : Gv) (r : List (Int × Int)) (l : List PieceM) (hr : r.length < 1000000000) (hl : l.length < 1000000000) (hc : ∀ p ∈ l, p.cs.length < 1000000000) : Gives Tryz.prog G 70 [.ag [.sl 0 (cells r), .sl 0 (pieces l)]] (.b (fitsS r l)) := by
  refine .of (.body Tryz.func70 rfl (by simp [Tryz.ntmps70]) ?_)
  rw [Tryz.ntmps70, Tryz.results70]
  have hlen := cells_len r
  replace hc := Hid.mk hc
  refine AL ?_
  refine CQ (specIsPuzzle_fn G r l hr hl hc.out) ?_
  by_cases c : puzzleS r l = true
  · refine AL ?_
    refine CQ (l11Area_fn G r l hl) ?_
    refine AL ?_
    simp [retA, backA, fitsS, *]
  · refine AL ?_
    simp [retA, backA, fitsS, *]
end Go.Proofs
end
