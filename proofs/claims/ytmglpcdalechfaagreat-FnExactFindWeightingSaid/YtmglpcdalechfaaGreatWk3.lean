/- Walks: Arguments turned into ones that the caller owns. No condition. | Numbers written into lists of one's own. No condition. | Numbers written into lists of what owns lists. No condition. | Numbers written into placements and puzzles. No condition. | Puzzles and placements turned into ones that the caller owns. No condition. -/
import Derived.Test.YtmglpcdalechfaaGreatBO
import Derived.Test.YtmglpcdalechfaaGreatWk2
import Derived.Test.YtmglpcdalechfaaGreatWk1
import Derived.Test.YtmglpcdalechfaaGreatBC
set_option linter.unusedVariables false
set_option linter.unusedSimpArgs false
section
open Go Go.Big
namespace Go.Proofs
set_option maxHeartbeats 2000000
theorem cells_scal (l : List (Int × Int)) : scalRows (cells l) := fun r hr p hp => by
  obtain ⟨c, _, rfl⟩ := List.mem_map.mp hr
  simp at hp; rcases hp with rfl | rfl <;> rfl
theorem cells_fit (l : List (Int × Int)) : fitR 2 (cells l) := fun r hr => by
  obtain ⟨c, _, rfl⟩ := List.mem_map.mp hr; rfl
theorem ints_scal (l : List Int) : scalRows (ints l) := fun r hr p hp => by
  obtain ⟨c, _, rfl⟩ := List.mem_map.mp hr
  simp at hp; subst hp; rfl
theorem ints_fit (l : List Int) : fitR 1 (ints l) := fun r hr => by
  obtain ⟨c, _, rfl⟩ := List.mem_map.mp hr; rfl
theorem toCellS_o (G : Gv) (l : List (Int × Int)) (hl : l.length < 1000000000) : GivesO Tryz.prog G 54 [.sl 0 (cells l)] (.sl 1 (cells l)) := by
  refine .of (.body Tryz.func54 rfl (by simp [Tryz.ntmps54]) ?_)
  rw [Tryz.ntmps54, Tryz.results54]
  have hlen := cells_len l
  have b1 : ((16 : Nat) : Int) * l.length ≤ 281474976710656 := by simp; omega
  have b2 : (l.length : Int) ≤ 9223372036854775807 := by omega
  have b3 : (0 : Int) ≤ l.length := by omega
  refine AG ?_
  refine .block (.loop (.inv (fun d E H n' => ∃ i : Nat, i + d = l.length ∧ E 0 = .sl 0 (cells l) ∧ E 3 = .own 3 0 ∧ E 4 = .i .i64 i ∧ H 3 = some (.arr 0 142 2 (part (cells l) [.i .i64 0, .i .i64 0] i) 1)) l.length ?_ ?_))
  · simp [setF_if, argE, upd_if, part_zero, hlen]
  rintro d E H n' ⟨i, hi, h0, h3, h4, hH⟩
  refine AG ?_
  by_cases c : (i : Int) < l.length
  · refine IFT ?_
    have hr := cells_at (l := l) (i := i) (by omega)
    have hp := part_at (l := cells l) (z := [PV.i .i64 0, PV.i .i64 0]) (i := i) (by omega)
    have hs := part_set (z := [PV.i .i64 0, PV.i .i64 0]) hr
    have hpl : i < (part (cells l) [PV.i .i64 0, PV.i .i64 0] i).length := (List.getElem?_eq_some_iff.mp hp).1
    have hw2 : IntKind.i64.wrap ((i : Int) + 1) = (i : Int) + 1 := wr64 (by omega) (by omega)
    refine .skip ?_
    refine AG ?_
    refine .block ?_
    refine AG ?_
    refine CV (toCell_fn G _ _) ?_
    refine AG ?_
    (try simp only [tN, tR, tE, rN, rR, rE, xN, xR, xE, reduceIte])
    refine AG ?_
    (try simp only [tN, tR, tE, rN, rR, rE, xN, xR, xE, reduceIte])
    refine ⟨l.length - (i + 1), by omega, i + 1, by omega, ?_⟩
    simp [setF_if, upd_if, *]
  · have e : i = (cells l).length := by omega
    rw [e, part_all] at hH
    refine AL ?_
    exact ⟨[3], ownX_sl (ownA_mk hH (cells_scal l) (by decide) (cells_fit l)), by simp⟩
theorem toInt64S_o (G : Gv) (l : List Int) (hl : l.length < 1000000000) : GivesO Tryz.prog G 55 [.sl 0 (ints l)] (.sl 1 (ints l)) := by
  refine .of (.body Tryz.func55 rfl (by simp [Tryz.ntmps55]) ?_)
  rw [Tryz.ntmps55, Tryz.results55]
  have hlen := ints_len l
  have b1 : ((8 : Nat) : Int) * l.length ≤ 281474976710656 := by simp; omega
  have b2 : (l.length : Int) ≤ 9223372036854775807 := by omega
  have b3 : (0 : Int) ≤ l.length := by omega
  refine AG ?_
  refine .block (.loop (.inv (fun d E H n' => ∃ i : Nat, i + d = l.length ∧ E 0 = .sl 0 (ints l) ∧ E 3 = .own 3 0 ∧ E 4 = .i .i64 i ∧ H 3 = some (.arr 0 2 1 (part (ints l) [.i .i64 0] i) 1)) l.length ?_ ?_))
  · simp [setF_if, argE, upd_if, part_zero, hlen]
  rintro d E H n' ⟨i, hi, h0, h3, h4, hH⟩
  refine AG ?_
  by_cases c : (i : Int) < l.length
  · refine IFT ?_
    have hr := ints_at (l := l) (i := i) (by omega)
    have hp := part_at (l := ints l) (z := [PV.i .i64 0]) (i := i) (by omega)
    have hs := part_set (z := [PV.i .i64 0]) hr
    have hpl : i < (part (ints l) [PV.i .i64 0] i).length := (List.getElem?_eq_some_iff.mp hp).1
    have hw2 : IntKind.i64.wrap ((i : Int) + 1) = (i : Int) + 1 := wr64 (by omega) (by omega)
    refine .skip ?_
    refine AG ?_
    refine .block ?_
    refine AG ?_
    (try simp only [tN, tR, tE, rN, rR, rE, xN, xR, xE, reduceIte])
    refine AG ?_
    (try simp only [tN, tR, tE, rN, rR, rE, xN, xR, xE, reduceIte])
    refine ⟨l.length - (i + 1), by omega, i + 1, by omega, ?_⟩
    simp [setF_if, upd_if, *]
  · have e : i = (ints l).length := by omega
    rw [e, part_all] at hH
    refine AL ?_
    exact ⟨[3], ownX_sl (ownA_mk hH (ints_scal l) (by decide) (ints_fit l)), by simp⟩
end Go.Proofs
end
section
open Go Go.Big
namespace Go.Proofs
set_option maxHeartbeats 2000000
/-- So many numbers from one on. -/
def runI (k : Int) (n : Nat) : List Int := (List.range n).map fun i : Nat => k + (i : Int)
theorem runI_len (k : Int) (n : Nat) : (runI k n).length = n := by simp [runI]
theorem runI_succ (k : Int) (n : Nat) : runI k (n + 1) = runI k n ++ [k + n] := by simp [runI, List.range_succ]
theorem runI_at {k : Int} {n i : Nat} (h : i < n) : (runI k n)[i]? = some (k + i) := by simp [runI, h]
theorem mark_set (k : Int) {l : List Int} {i : Nat} (h : i < l.length) : (ints (runI k i ++ l.drop i)).set i [.i .i64 (k + i)] = ints (runI k (i + 1) ++ l.drop (i + 1)) := by
  rw [← ints_set]
  congr 1
  have e : l.drop i = l[i] :: l.drop (i + 1) := List.drop_eq_getElem_cons h
  rw [e, List.set_append_right _ _ (by rw [runI_len]; omega), runI_len, Nat.sub_self, List.set_cons_zero, runI_succ]
  simp
theorem mark_at (k : Int) {l : List Int} {i : Nat} (h : i < l.length) : (ints (runI k i ++ l.drop i))[i]? = some [.i .i64 (l.getD i 0)] := by
  have e : l.drop i = l[i] :: l.drop (i + 1) := List.drop_eq_getElem_cons h
  simp only [ints, List.getElem?_map]
  rw [List.getElem?_append_right (by rw [runI_len]; omega), runI_len, Nat.sub_self, e]
  simp [List.getD_eq_getElem?_getD, h]
theorem ints_nil {l : List Int} (h : ints l = []) : l = [] := by
  cases l with
  | nil => rfl
  | cons x l => simp [ints] at h
theorem fit_one {l : List Int} {sz : Nat} (h : fitR sz (ints l)) (h0 : 0 < l.length) : sz = 1 := by
  cases l with
  | nil => simp at h0
  | cons x l => exact (h [.i .i64 x] (by simp [ints])).symm
theorem markInt64S_m (G : Gv) (l : List Int) (k : Int) (hl : l.length < 1000000000) (hk0 : 0 ≤ k) (hk : k < 1000000000000) :
    Marks Tryz.prog G 30 (.sl 1 (ints l)) (.sl 1 (ints (runI k l.length))) k (k + l.length) := by
  intro x H0 n0 S hx hn hS
  rcases ownA_flat (ownX_un hx) (ints_scal l) with ⟨o, e, ty, sz, t, rfl, hH0, rfl, ht, hf⟩ | ⟨hx', hq, rfl⟩
  · have hlen := ints_len l
    clear hx hn hS
    refine (.body Tryz.func30 rfl (by simp [Tryz.ntmps30]) ?_)
    rw [Tryz.ntmps30, Tryz.results30]
    refine AL ?_
    refine .loop (.inv (fun d E H n' => ∃ (i t' : Nat), i + d = l.length ∧ E 0 = .own o e ∧ E 1 = .i .i64 (k + i) ∧ E 5 = .i .i64 i ∧ H o = some (.arr e ty sz (ints (runI k i ++ l.drop i)) t') ∧ t' ≠ 2 ∧ n0 ≤ n' ∧ (∀ o', o' ≠ o → H o' = H0 o')) l.length ?_ ?_)
    · exact ⟨0, t, by omega, by simp [setF_if, argE], by simp [setF_if, argE], by simp [setF_if, argE], by simpa [runI] using hH0, ht, by omega, fun _ _ => rfl⟩
    rintro d E H n' ⟨i, t', hi, h0, h1, h5, hH, ht', hn', hfr⟩
    replace hfr := Hid.mk hfr
    have hle : (ints (runI k i ++ l.drop i)).length = l.length := by rw [ints_len, List.length_append, runI_len, List.length_drop]; omega
    by_cases c : (i : Int) < l.length
    · have hw_i : IntKind.i64.wrap ((i : Int) + 1) = (i : Int) + 1 := wr64 (by omega) (by omega)
      have hwk : IntKind.i64.wrap (k + i + 1) = k + ((i + 1 : Nat) : Int) := by rw [wr64 (by omega) (by omega)]; omega
      obtain rfl := fit_one hf (by omega)
      have hro := mark_at k (l := l) (i := i) (by omega)
      have hset := mark_set k (l := l) (i := i) (by omega)
      have hj : joinT t' 1 ≠ 2 := joinT_ne ht' (by decide)
      have cN : i < l.length := by omega
      generalize ints (runI k i ++ l.drop i) = R at hH hro hset hle
      replace hj := Hid.mk hj
      replace ht' := Hid.mk ht'
      refine AL ?_
      exact ⟨l.length - (i + 1), by omega, i + 1, joinT t' 1, by omega, by simp [setF_if, *], by simp [setF_if, *], by simp [setF_if, *], by simp [upd_if, joinT, *], hj.out, by omega, fun o' ho' => by rw [upd_if, if_neg ho']; exact hfr.out o' ho'⟩
    · refine AL ?_
      have ei : i = l.length := by omega
      rw [ei, List.drop_length, List.append_nil] at hH
      refine ⟨by simp [retA, setF_if, h1, ei], by omega, ownX_sl (ownA_mk hH (ints_scal _) ht' ?_), fun o' h1 h2 => hfr.out o' (by simpa using h2)⟩
      intro r hr
      have h3 := ints_fit _ r hr
      obtain ⟨y, hy, rfl⟩ := List.mem_map.mp hr
      have h4 : 0 < l.length := by
        have := List.length_pos_of_mem hy
        rw [runI_len] at this; exact this
      rw [fit_one hf h4]; rfl
  · obtain rfl := ints_nil hq
    clear hx
    rcases hx' with rfl | ⟨t, rfl⟩
    all_goals
      refine (.body Tryz.func30 rfl (by simp [Tryz.ntmps30]) ?_)
      rw [Tryz.ntmps30, Tryz.results30]
      refine AL ?_
      refine .loop (.inv (fun d E H n' => E 0 = (_ : AV) ∧ E 1 = .i .i64 k ∧ E 5 = .i .i64 0 ∧ n0 ≤ n' ∧ ∀ o, H o = H0 o) 0 ⟨by simp [setF_if, argE]; rfl, by simp [setF_if, argE], by simp [setF_if, argE], by omega, fun _ => rfl⟩ ?_)
      rintro d E H n' ⟨h0, h1, h5, hn', hfr⟩
      replace hfr := Hid.mk hfr
      have c : ¬ ((0 : Int) < ((0 : Nat) : Int)) := by omega
      refine AL ?_
      exact ⟨by simp [retA, setF_if, h1], by omega, ownX_sl (.inr ⟨by first | exact .inl rfl | exact .inr ⟨_, rfl⟩, rfl, rfl⟩), fun o' _ _ => hfr.out o'⟩
/-- A list of such numbers is held. -/
theorem heldInt64S_fn (G : Gv) (k : Int) (m : Nat) (hl : m < 1000000000) (hk0 : 0 ≤ k) (hk : k < 1000000000000) : Gives Tryz.prog G 31 [.sl 0 (ints (runI k m)), .i .i64 k] (.i .i64 (k + m)) := by
  refine .of (.body Tryz.func31 rfl (by simp [Tryz.ntmps31]) ?_)
  rw [Tryz.ntmps31, Tryz.results31]
  have hlen : (ints (runI k m)).length = m := by rw [ints_len, runI_len]
  refine AL ?_
  refine .loop (.inv (fun d E H n' => ∃ i : Nat, i + d = m ∧ E 0 = .sl 0 (ints (runI k m)) ∧ E 1 = .i .i64 (k + i) ∧ E 5 = .i .i64 i) m ?_ ?_)
  · exact ⟨0, by omega, by simp [setF_if, argE], by simp [setF_if, argE], by simp [setF_if, argE]⟩
  rintro d E H n' ⟨i, hi, h0, h1, h5⟩
  by_cases c : (i : Int) < m
  · have hw_i : IntKind.i64.wrap ((i : Int) + 1) = (i : Int) + 1 := wr64 (by omega) (by omega)
    have hwk : IntKind.i64.wrap (k + i + 1) = k + ((i + 1 : Nat) : Int) := by rw [wr64 (by omega) (by omega)]; omega
    have hr := ints_row (runI_at (k := k) (n := m) (i := i) (by omega))
    refine AL ?_
    exact ⟨m - (i + 1), by omega, i + 1, by omega, by simp [setF_if, *], by simp [setF_if, *], by simp [setF_if, *]⟩
  · refine AL ?_
    have ei : i = m := by omega
    simp [retA, backA, setF_if, h1, ei]
/-- Cells of such numbers. -/
def runC (k : Int) (n : Nat) : List (Int × Int) := (List.range n).map fun i : Nat => (k + 2 * (i : Int), k + 2 * (i : Int) + 1)
theorem runC_len (k : Int) (n : Nat) : (runC k n).length = n := by simp [runC]
theorem runC_succ (k : Int) (n : Nat) : runC k (n + 1) = runC k n ++ [(k + 2 * (n : Int), k + 2 * (n : Int) + 1)] := by simp [runC, List.range_succ]
theorem cmark_set (k : Int) {l : List (Int × Int)} {i : Nat} (h : i < l.length) : ((cells (runC k i ++ l.drop i)).set i [.i .i64 (k + 2 * (i : Int)), .i .i64 (l.getD i (0, 0)).2]).set i [.i .i64 (k + 2 * (i : Int)), .i .i64 (k + 2 * (i : Int) + 1)] = cells (runC k (i + 1) ++ l.drop (i + 1)) := by
  have e : l.drop i = l[i] :: l.drop (i + 1) := List.drop_eq_getElem_cons h
  rw [List.set_set, e]
  unfold cells
  rw [List.map_append, List.set_append_right _ _ (by rw [List.length_map, runC_len]; omega), List.length_map, runC_len, Nat.sub_self, List.map_cons, List.set_cons_zero, runC_succ]
  simp
theorem cmark_at (k : Int) {l : List (Int × Int)} {i : Nat} (h : i < l.length) : (cells (runC k i ++ l.drop i))[i]? = some [.i .i64 (l.getD i (0, 0)).1, .i .i64 (l.getD i (0, 0)).2] := by
  have e : l.drop i = l[i] :: l.drop (i + 1) := List.drop_eq_getElem_cons h
  simp only [cells, List.getElem?_map]
  rw [List.getElem?_append_right (by rw [runC_len]; omega), runC_len, Nat.sub_self, e]
  simp [List.getD_eq_getElem?_getD, h]
theorem cells_nil {l : List (Int × Int)} (h : cells l = []) : l = [] := by
  cases l with
  | nil => rfl
  | cons x l => simp [cells] at h
theorem fit_two {l : List (Int × Int)} {sz : Nat} (h : fitR sz (cells l)) (h0 : 0 < l.length) : sz = 2 := by
  cases l with
  | nil => simp at h0
  | cons x l => exact (h [.i .i64 x.1, .i .i64 x.2] (by simp [cells])).symm
theorem markCellS_m (G : Gv) (l : List (Int × Int)) (k : Int) (hl : l.length < 1000000000) (hk0 : 0 ≤ k) (hk : k < 1000000000000) :
    Marks Tryz.prog G 58 (.sl 1 (cells l)) (.sl 1 (cells (runC k l.length))) k (k + 2 * l.length) := by
  intro x H0 n0 S hx hn hS
  rcases ownA_flat (ownX_un hx) (cells_scal l) with ⟨o, e, ty, sz, t, rfl, hH0, rfl, ht, hf⟩ | ⟨hx', hq, rfl⟩
  · have hlen := cells_len l
    clear hx hn hS
    refine (.body Tryz.func58 rfl (by simp [Tryz.ntmps58]) ?_)
    rw [Tryz.ntmps58, Tryz.results58]
    refine AL ?_
    refine .loop (.inv (fun d E H n' => ∃ (i t' : Nat), i + d = l.length ∧ E 0 = .own o e ∧ E 1 = .i .i64 (k + 2 * i) ∧ E 5 = .i .i64 i ∧ H o = some (.arr e ty sz (cells (runC k i ++ l.drop i)) t') ∧ t' ≠ 2 ∧ n0 ≤ n' ∧ (∀ o', o' ≠ o → H o' = H0 o')) l.length ?_ ?_)
    · exact ⟨0, t, by omega, by simp [setF_if, argE], by simp [setF_if, argE], by simp [setF_if, argE], by simpa [runC] using hH0, ht, by omega, fun _ _ => rfl⟩
    rintro d E H n' ⟨i, t', hi, h0, h1, h5, hH, ht', hn', hfr⟩
    replace hfr := Hid.mk hfr
    have hle : (cells (runC k i ++ l.drop i)).length = l.length := by rw [cells_len, List.length_append, runC_len, List.length_drop]; omega
    by_cases c : (i : Int) < l.length
    · have hw_i : IntKind.i64.wrap ((i : Int) + 1) = (i : Int) + 1 := wr64 (by omega) (by omega)
      have hwk : IntKind.i64.wrap (k + 2 * (i : Int) + 1) = k + 2 * (i : Int) + 1 := wr64 (by omega) (by omega)
      have hwk2 : IntKind.i64.wrap (k + 2 * (i : Int) + 1 + 1) = k + 2 * ((i + 1 : Nat) : Int) := by rw [wr64 (by omega) (by omega)]; omega
      obtain rfl := fit_two hf (by omega)
      have hro := cmark_at k (l := l) (i := i) (by omega)
      have hset := cmark_set k (l := l) (i := i) (by omega)
      have hj : joinT (joinT t' 1) 1 ≠ 2 := joinT_ne (joinT_ne ht' (by decide)) (by decide)
      have cN : i < l.length := by omega
      generalize cells (runC k i ++ l.drop i) = R at hH hro hset hle
      generalize (l.getD i (0, 0)).1 = y1 at hro hset
      generalize (l.getD i (0, 0)).2 = y2 at hro hset
      have hR2 : (R.set i [.i .i64 (k + 2 * (i : Int)), .i .i64 y2])[i]? = some [.i .i64 (k + 2 * (i : Int)), .i .i64 y2] := by rw [List.getElem?_set_self]; omega
      have hRl : (R.set i [.i .i64 (k + 2 * (i : Int)), .i .i64 y2]).length = l.length := by rw [List.length_set]; exact hle
      generalize hR0 : R.set i [.i .i64 (k + 2 * (i : Int)), .i .i64 y2] = R2 at hset hR2 hRl
      replace hj := Hid.mk hj
      replace ht' := Hid.mk ht'
      refine AL ?_
      exact ⟨l.length - (i + 1), by omega, i + 1, joinT (joinT t' 1) 1, by omega, by simp [setF_if, *], by simp [setF_if, *], by simp [setF_if, *], by simp [upd_if, joinT, *], hj.out, by omega, fun o' ho' => by rw [upd_if, if_neg ho', upd_if, if_neg ho']; exact hfr.out o' ho'⟩
    · refine AL ?_
      have ei : i = l.length := by omega
      rw [ei, List.drop_length, List.append_nil] at hH
      refine ⟨by simp [retA, setF_if, h1, ei], by omega, ownX_sl (ownA_mk hH (cells_scal _) ht' ?_), fun o' h1 h2 => hfr.out o' (by simpa using h2)⟩
      intro r hr
      have h3 := cells_fit _ r hr
      obtain ⟨y, hy, rfl⟩ := List.mem_map.mp hr
      have h4 : 0 < l.length := by
        have := List.length_pos_of_mem hy
        rw [runC_len] at this; exact this
      rw [fit_two hf h4]; rfl
  · obtain rfl := cells_nil hq
    clear hx
    rcases hx' with rfl | ⟨t, rfl⟩
    all_goals
      refine (.body Tryz.func58 rfl (by simp [Tryz.ntmps58]) ?_)
      rw [Tryz.ntmps58, Tryz.results58]
      refine AL ?_
      refine .loop (.inv (fun d E H n' => E 0 = (_ : AV) ∧ E 1 = .i .i64 k ∧ E 5 = .i .i64 0 ∧ n0 ≤ n' ∧ ∀ o, H o = H0 o) 0 ⟨by simp [setF_if, argE]; rfl, by simp [setF_if, argE], by simp [setF_if, argE], by omega, fun _ => rfl⟩ ?_)
      rintro d E H n' ⟨h0, h1, h5, hn', hfr⟩
      replace hfr := Hid.mk hfr
      have c : ¬ ((0 : Int) < ((0 : Nat) : Int)) := by omega
      refine AL ?_
      exact ⟨by simp [retA, setF_if, h1], by omega, ownX_sl (.inr ⟨by first | exact .inl rfl | exact .inr ⟨_, rfl⟩, rfl, rfl⟩), fun o' _ _ => hfr.out o'⟩
end Go.Proofs
end
section
open Go Go.Big
namespace Go.Proofs
set_option maxHeartbeats 2000000
theorem ownP_load {H : Heap} {q : PV} {rows : List (List PV)} {s : List Nat} (h : ownP H q (.sl rows) s) (tg : Nat) : ownX H (avOf tg q) (.sl 1 rows) s := by
  cases q with
  | ob o e =>
    obtain ⟨rfl, ty, sz, rows', t, h1, h2, h3, e1, h4⟩ := h
    cases e1
    exact ownX_sl (ownA_mk h1 h3 h2 h4)
  | sl r => obtain ⟨rfl, e1, rfl⟩ := h; cases e1; exact ownX_sl (.inr ⟨.inr ⟨tg, rfl⟩, rfl, rfl⟩)
  | i => obtain ⟨_, e⟩ := h; cases e
  | b => obtain ⟨_, e⟩ := h; cases e
  | s => obtain ⟨_, e⟩ := h; cases e
theorem ownP_forms {H : Heap} {q : PV} {rows : List (List PV)} {s : List Nat} (h : ownP H q (.sl rows) s) : (∃ o e, q = .ob o e) ∨ q = .sl [] := by
  cases q with
  | ob o e => exact .inl ⟨o, e, rfl⟩
  | sl r => obtain ⟨rfl, _⟩ := h; exact .inr rfl
  | i => obtain ⟨_, e⟩ := h; cases e
  | b => obtain ⟨_, e⟩ := h; cases e
  | s => obtain ⟨_, e⟩ := h; cases e
theorem ownP_back {H H0 : Heap} {q : PV} {rows rows0 : List (List PV)} {s s0 : List Nat} {tg : Nat} (h0 : ownP H0 q (.sl rows0) s0) (h : ownX H (avOf tg q) (.sl 1 rows) s) (hs : scalRows rows) : ownP H q (.sl rows) s := by
  cases q with
  | ob o e =>
    rcases ownA_flat (ownX_un h) hs with ⟨o', e', ty, sz, t, e1, h1, rfl, h2, h3⟩ | ⟨e1 | ⟨_, e1⟩, _⟩
    · cases e1; exact ownP_mk h1 hs h2 h3
    · cases e1
    · cases e1
  | sl r =>
    rcases ownA_flat (ownX_un h) hs with ⟨o', e', ty, sz, t, e1, _⟩ | ⟨e1 | ⟨_, e1⟩, rfl, rfl⟩
    · cases e1
    · cases e1
    · cases e1; exact ⟨rfl, rfl, rfl⟩
  | i => obtain ⟨_, e⟩ := h0; cases e
  | b => obtain ⟨_, e⟩ := h0; cases e
  | s => obtain ⟨_, e⟩ := h0; cases e
theorem ownPs_cons {H : Heap} {p q : PV} {ps qs : List PV} {s s' : List Nat} (h : ownP H p q s) (g : ownPs H ps qs s') : ownPs H (p :: ps) (q :: qs) (s ++ s') := ⟨q, qs, s, s', rfl, rfl, h, g⟩
theorem ownP_isI {H : Heap} {p : PV} {k : IntKind} {n : Int} {s : List Nat} (h : ownP H p (.i k n) s) : p = .i k n ∧ s = [] := by
  cases p with
  | ob o e => obtain ⟨_, _, _, _, _, _, _, _, e1, _⟩ := h; cases e1
  | sl r => obtain ⟨_, e1, _⟩ := h; cases e1
  | i => obtain ⟨rfl, e1⟩ := h; cases e1; exact ⟨rfl, rfl⟩
  | b => obtain ⟨_, e1⟩ := h; cases e1
  | s => obtain ⟨_, e1⟩ := h; cases e1
theorem ownP_isB {H : Heap} {p : PV} {b : Bool} {s : List Nat} (h : ownP H p (.b b) s) : p = .b b ∧ s = [] := by
  cases p with
  | ob o e => obtain ⟨_, _, _, _, _, _, _, _, e1, _⟩ := h; cases e1
  | sl r => obtain ⟨_, e1, _⟩ := h; cases e1
  | i => obtain ⟨_, e1⟩ := h; cases e1
  | b => obtain ⟨rfl, e1⟩ := h; cases e1; exact ⟨rfl, rfl⟩
  | s => obtain ⟨_, e1⟩ := h; cases e1
theorem ownPs_nilI {H : Heap} {ps : List PV} {s : List Nat} (h : ownPs H ps [] s) : ps = [] ∧ s = [] := by
  cases ps with
  | nil => exact ⟨rfl, h.2⟩
  | cons p ps => obtain ⟨_, _, _, _, e, _⟩ := h; cases e
theorem ownPs_consI {H : Heap} {ps : List PV} {q : PV} {qs : List PV} {s : List Nat} (h : ownPs H ps (q :: qs) s) : ∃ p ps' s1 s2, ps = p :: ps' ∧ s = s1 ++ s2 ∧ ownP H p q s1 ∧ ownPs H ps' qs s2 := by
  cases ps with
  | nil => have := h.1; cases this
  | cons p ps => obtain ⟨_, _, s1, s2, e, e2, h1, h2⟩ := h; cases e; exact ⟨p, ps, s1, s2, rfl, e2, h1, h2⟩
theorem ownRs_consI {H : Heap} {rows : List (List PV)} {q : List PV} {qs : List (List PV)} {S : List Nat} (h : ownRs H rows (q :: qs) S) : ∃ r rs s1 s2, rows = r :: rs ∧ S = s1 ++ s2 ∧ ownPs H r q s1 ∧ ownRs H rs qs s2 := by
  cases rows with
  | nil => have := h.1; cases this
  | cons r rs => obtain ⟨_, _, s1, s2, e, e2, h1, h2⟩ := h; cases e; exact ⟨r, rs, s1, s2, rfl, e2, h1, h2⟩
theorem ownRs_nilI {H : Heap} {rows : List (List PV)} {S : List Nat} (h : ownRs H rows [] S) : rows = [] ∧ S = [] := by
  cases rows with
  | nil => exact ⟨rfl, h.2⟩
  | cons r rs => obtain ⟨_, _, _, _, e, _⟩ := h; cases e
/-- One row has been written. -/
theorem mark_step {H H1 H2 : Heap} {r1 r2 : List (List PV)} {row' : List PV} {q1 q2 : List (List PV)} {qr : List PV} {S1 s S2 : List Nat} {o n : Nat} (hnd : (o :: (S1 ++ (s ++ S2))).Nodup) (hlt : ∀ x ∈ S1 ++ (s ++ S2), x < n)
    (h1 : ownRs H r1 q1 S1) (h2 : ownRs H r2 q2 S2) (hp : ownPs H1 row' qr s) (fr : ∀ x, x < n → x ≠ o → x ∉ s → H1 x = H x) (fo : ∀ x, x ≠ o → H2 x = H1 x) : ownRs H2 (r1 ++ [row']) (q1 ++ [qr]) (S1 ++ s) ∧ ownRs H2 r2 q2 S2 := by
  rw [List.nodup_cons] at hnd
  obtain ⟨ho, hnd⟩ := hnd
  rw [List.nodup_append] at hnd
  obtain ⟨n1, n2, n3⟩ := hnd
  rw [List.nodup_append] at n2
  obtain ⟨m1, m2, m3⟩ := n2
  have away : ∀ x, x ∈ S1 ++ (s ++ S2) → x ≠ o := fun x hx e => ho (e ▸ hx)
  refine ⟨ownRs_append (ownRs_congr (fun x hx => ?_) h1) (ownRs_one (ownPs_congr (fun x hx => fo x (away x (by simp [hx]))) hp)), ownRs_congr (fun x hx => ?_) h2⟩
  · rw [fo x (away x (by simp [hx])), fr x (hlt x (by simp [hx])) (away x (by simp [hx])) (fun h => n3 x hx x (by simp [h]) rfl)]
  · rw [fo x (away x (by simp [hx])), fr x (hlt x (by simp [hx])) (away x (by simp [hx])) (fun h => m3 x h x hx rfl)]
/-- What is marked in pieces. -/
def mkQ : Int → List PieceM → List PieceM
  | _, [] => []
  | k, p :: l => ⟨runC k p.cs.length, k + 2 * p.cs.length, (k + 2 * p.cs.length + 1).tmod 3 == 0⟩ :: mkQ (k + 2 * p.cs.length + 2) l
def cntQ : List PieceM → Int
  | [] => 0
  | p :: l => 2 * p.cs.length + 2 + cntQ l
theorem cntQ_nn : ∀ l, 0 ≤ cntQ l
  | [] => Int.le_refl _
  | p :: l => by have := cntQ_nn l; simp only [cntQ]; omega
theorem pieces_app (a b : List PieceM) : pieces (a ++ b) = pieces a ++ pieces b := by simp [pieces]
theorem row_noScal {q0 : PV} {rows : List (List PV)} {s : List Nat} {H : Heap} (h : ownP H q0 (.sl rows) s) : scalB q0 = false := by
  cases q0 with
  | ob => rfl
  | sl => rfl
  | i => obtain ⟨_, e⟩ := h; cases e
  | b => obtain ⟨_, e⟩ := h; cases e
  | s => obtain ⟨_, e⟩ := h; cases e
theorem set_mid {α : Type} (r1 r2 : List α) (a b : α) {i : Nat} (h : r1.length = i) : (r1 ++ a :: r2).set i b = r1 ++ b :: r2 := by
  subst h; simp
theorem at_mid {α : Type} (r1 r2 : List α) (a : α) {i : Nat} (h : r1.length = i) : (r1 ++ a :: r2)[i]? = some a := by
  subst h; simp
/-- The tag of an array some of whose rows may own something. -/
def tagOk (t : Nat) (rows : List (List PV)) : Prop := t = 2 ∨ noObs rows
theorem tag_join {t : Nat} {rows : List (List PV)} (h : tagOk t rows) : tagOk (joinT t 1) rows := h.imp (fun e => by subst e; rfl) id
theorem tagOk_own {H : Heap} {o e : Nat} {ty : TypeId} {sz t : Nat} {rows q : List (List PV)} {S : List Nat} (h : H o = some (.arr e ty sz rows t)) (hr : ownRs H rows q S) (ht : tagOk t rows) (hq : ∀ r ∈ rows, ∃ p ∈ r, scalB p = false) (hf : fitR sz rows) (ht2 : rows = [] → t ≠ 2) : ownA H (.own o e) q (o :: S) := by
  refine .inl ⟨o, e, ty, sz, rows, t, S, rfl, h, rfl, hr, ht, fun hs => ?_, hf⟩
  · cases rows with
    | nil => exact ht2 rfl
    | cons r rs =>
      obtain ⟨p, hp, hs2⟩ := hq r List.mem_cons_self
      rw [hs r List.mem_cons_self p hp] at hs2; cases hs2

theorem ownPs_ns {H : Heap} : ∀ {ps qs : List PV} {s : List Nat}, ownPs H ps qs s → (∃ q ∈ qs, scalB q = false) → ∃ p ∈ ps, scalB p = false
  | [], _, _, h, ⟨q, hq, _⟩ => by rw [h.1] at hq; simp at hq
  | p :: ps, _, _, ⟨q, qs', s1, s2, e1, _, h1, h2⟩, ⟨z, hz, hs⟩ => by
    subst e1
    rcases List.mem_cons.mp hz with rfl | hz
    · refine ⟨p, List.mem_cons_self, ?_⟩
      cases q0 : scalB p with
      | false => rfl
      | true => obtain ⟨_, rfl⟩ := ownP_scal q0 h1; rw [q0] at hs; cases hs
    · obtain ⟨p', g1, g2⟩ := ownPs_ns h2 ⟨z, hz, hs⟩
      exact ⟨p', List.mem_cons_of_mem _ g1, g2⟩
theorem ownRs_ns {H : Heap} : ∀ {rows q : List (List PV)} {S : List Nat}, ownRs H rows q S → (∀ r ∈ q, ∃ p ∈ r, scalB p = false) → ∀ r ∈ rows, ∃ p ∈ r, scalB p = false
  | [], _, _, _, _ => by simp
  | r :: rs, _, _, ⟨a, b, s1, s2, e1, _, h1, h2⟩, hq => fun x hx => by
    subst e1
    rcases List.mem_cons.mp hx with rfl | hx
    · exact ownPs_ns h1 (hq a List.mem_cons_self)
    · exact ownRs_ns h2 (fun y hy => hq y (List.mem_cons_of_mem _ hy)) x hx
theorem pieces_ns (l : List PieceM) : ∀ r ∈ pieces l, ∃ p ∈ r, scalB p = false := fun r hr => by
  obtain ⟨p, _, rfl⟩ := List.mem_map.mp hr
  exact ⟨_, List.mem_cons_self, rfl⟩
theorem mkQ_len : ∀ (k : Int) (l : List PieceM), (mkQ k l).length = l.length
  | _, [] => rfl
  | k, p :: l => by simp [mkQ, mkQ_len]
theorem noObs_join {t : Nat} {r1 r2 : List (List PV)} {a : List PV} {b a0 b0 : PV} (h : tagOk t (r1 ++ a :: r2)) (ha : a = [b, a0, b0]) (c1 c2 : PV) (hc1 : noOb c1 = true) (hc2 : noOb c2 = true) : tagOk t (r1 ++ [b, c1, c2] :: r2) := by
  rcases h with h | h1
  · exact .inl h
  · refine .inr fun r hr p hp => ?_
    rcases List.mem_append.mp hr with hr | hr
    · exact h1 r (List.mem_append.mpr (.inl hr)) p hp
    · rcases List.mem_cons.mp hr with rfl | hr
      · simp only [List.mem_cons, List.not_mem_nil, or_false] at hp
        rcases hp with rfl | rfl | rfl
        · exact h1 a (by simp) _ (by rw [ha]; simp)
        · exact hc1
        · exact hc2
      · exact h1 r (List.mem_append.mpr (.inr (List.mem_cons_of_mem _ hr))) p hp
theorem markPieceS_m (G : Gv) (l : List PieceM) (k : Int) (hl : l.length < 1000000000) (hc : ∀ p ∈ l, p.cs.length < 1000000000) (hk0 : 0 ≤ k) (hk : k + cntQ l < 1000000000000) :
    Marks Tryz.prog G 80 (.sl 1 (pieces l)) (.sl 1 (pieces (mkQ k l))) k (k + cntQ l) := by
  intro x H0 n0 S hx hn hS
  rcases ownX_un hx with ⟨o, e, ty, sz, rows0, t0, S', rfl, hH0, rfl, hR0, ht0, ht0', hf0⟩ | ⟨hx', hq, rfl⟩
  · have hlen := pieces_len l
    have hr0l := ownRs_len hR0
    have htag0 : tagOk t0 rows0 := ht0
    have hnil0 : rows0 = [] → t0 ≠ 2 := fun e => ht0' (by rw [e]; intro r hr; simp at hr)
    have hon : o < n0 := hS o List.mem_cons_self
    have hSn : ∀ x ∈ S', x < n0 := fun x hx => hS x (List.mem_cons_of_mem _ hx)
    clear hx ht0 ht0' hS
    replace hn := Hid.mk hn
    replace hSn := Hid.mk hSn
    replace hc := Hid.mk hc
    replace hnil0 := Hid.mk hnil0
    refine (.body Tryz.func80 rfl (by simp [Tryz.ntmps80]) ?_)
    rw [Tryz.ntmps80, Tryz.results80]
    refine AL ?_
    refine .loop (.inv (fun d E H n' => ∃ (i t' : Nat) (r1 r2 : List (List PV)) (S1 S2 : List Nat) (D : List PieceM) (k' : Int), i + d = l.length ∧ E 0 = .own o e ∧ E 1 = .i .i64 k' ∧ E 5 = .i .i64 i ∧ H o = some (.arr e ty sz (r1 ++ r2) t') ∧ n0 ≤ n' ∧ (r1.length = i ∧ D.length = i ∧ (r1 ++ r2).length = l.length ∧ (l = [] → t' ≠ 2)) ∧ tagOk t' (r1 ++ r2) ∧ fitR sz (r1 ++ r2) ∧
        (S' = S1 ++ S2 ∧ ownRs H r1 (pieces D) S1 ∧ ownRs H r2 (pieces (l.drop i)) S2) ∧ (D ++ mkQ k' (l.drop i) = mkQ k l ∧ k' + cntQ (l.drop i) = k + cntQ l ∧ 0 ≤ k') ∧ ∀ o', o' < n0 → o' ∉ o :: S' → H o' = H0 o') l.length ?_ ?_)
    · refine ⟨0, t0, [], rows0, [], S', [], k, by omega, by simp [setF_if, argE], by simp [setF_if, argE], by simp [setF_if, argE], by simpa using hH0, by omega, ⟨rfl, rfl, by simp [hr0l, hlen], fun e => hnil0.out ?_⟩, by simpa using htag0, by simpa using hf0, ⟨rfl, ⟨rfl, rfl⟩, by simpa using hR0⟩, ⟨rfl, rfl, hk0⟩, fun _ _ _ => rfl⟩
      subst e; exact List.length_eq_zero_iff.mp (by rw [hr0l]; rfl)
    clear hH0 hR0 htag0 hf0
    rintro d E H n' ⟨i, t', r1, r2, S1, S2, D, k', hi, h0, h1, h5, hH, hn', ⟨hr1, hD, hrl, hnil⟩, htag, hfit, hown, hnum, hfr⟩
    replace hfr := Hid.mk hfr
    replace htag := Hid.mk htag
    replace hfit := Hid.mk hfit
    replace hown := Hid.mk hown
    replace hnum := Hid.mk hnum
    replace hnil := Hid.mk hnil
    replace hr1 := Hid.mk hr1
    replace hD := Hid.mk hD
    by_cases c : (i : Int) < l.length
    · have hw_i : IntKind.i64.wrap ((i : Int) + 1) = (i : Int) + 1 := wr64 (by omega) (by omega)
      obtain ⟨p, hp⟩ : ∃ p, l[i]? = some p := ⟨_, List.getElem?_eq_getElem (by omega)⟩
      have hpl := hc.out p (List.mem_of_getElem? hp)
      obtain ⟨hS', hr1o, hr2o⟩ := hown.out
      obtain ⟨hN1, hN2, hN3⟩ := hnum.out
      rw [drop_cons hp] at hr2o hN1 hN2
      obtain ⟨row, r2, s, S2, rfl, rfl, hrow, hr2n⟩ := ownRs_consI hr2o
      clear hr2o
      obtain ⟨q0, ps, s, s', rfl, rfl, hq0, hps⟩ := ownPs_consI hrow
      obtain ⟨p1, ps, s1, s', rfl, rfl, hp1, hps1⟩ := ownPs_consI hps
      obtain ⟨p2, ps, s2, s', rfl, rfl, hp2, hps2⟩ := ownPs_consI hps1
      obtain ⟨rfl, rfl⟩ := ownPs_nilI hps2
      obtain ⟨rfl, rfl⟩ := ownP_isI hp1
      obtain ⟨rfl, rfl⟩ := ownP_isB hp2
      clear hp1 hp2 hps hps1 hps2 hrow
      simp only [List.nil_append, List.append_nil] at hS'
      have hcnt := cntQ_nn (l.drop (i + 1))
      simp only [mkQ, cntQ] at hN1 hN2
      have hsz : sz = 3 := by have := hfit.out [q0, .i .i64 p.k, .b p.b] (by simp); simpa using this.symm
      subst hsz
      have hro : (r1 ++ [q0, .i .i64 p.k, .b p.b] :: r2)[i]? = some [q0, .i .i64 p.k, .b p.b] := at_mid _ _ _ hr1.out
      have cN : i < l.length := by omega
      have hw1 : IntKind.i64.wrap (k' + 2 * (p.cs.length : Int) + 1) = k' + 2 * (p.cs.length : Int) + 1 := wr64 (by omega) (by omega)
      have hw2 : IntKind.i64.wrap (k' + 2 * (p.cs.length : Int) + 1 + 1) = k' + 2 * (p.cs.length : Int) + 2 := by rw [wr64 (by omega) (by omega)]; omega
      have hz := ownP_load hq0 (ftag t')
      obtain ⟨row', hrow'⟩ : ∃ row', row' = [q0, .i .i64 (k' + 2 * (p.cs.length : Int)), .b ((k' + 2 * (p.cs.length : Int) + 1).tmod 3 == 0)] := ⟨_, rfl⟩
      have hset : ((r1 ++ [q0, .i .i64 p.k, .b p.b] :: r2).set i [q0, .i .i64 (k' + 2 * (p.cs.length : Int)), .b p.b]).set i [q0, .i .i64 (k' + 2 * (p.cs.length : Int)), .b ((k' + 2 * (p.cs.length : Int) + 1).tmod 3 == 0)] = r1 ++ row' :: r2 := by rw [set_mid _ _ _ _ hr1.out, set_mid _ _ _ _ hr1.out, hrow']
      have hro2 : ((r1 ++ [q0, .i .i64 p.k, .b p.b] :: r2).set i [q0, .i .i64 (k' + 2 * (p.cs.length : Int)), .b p.b])[i]? = some [q0, .i .i64 (k' + 2 * (p.cs.length : Int)), .b p.b] := by rw [set_mid _ _ _ _ hr1.out]; exact at_mid _ _ _ hr1.out
      have hrl2 : ((r1 ++ [q0, .i .i64 p.k, .b p.b] :: r2).set i [q0, .i .i64 (k' + 2 * (p.cs.length : Int)), .b p.b]).length = l.length := by rw [List.length_set]; exact hrl
      have htag2 : tagOk (joinT (joinT t' 1) 1) (r1 ++ row' :: r2) := by rw [hrow']; exact tag_join <| tag_join <| noObs_join htag.out rfl _ _ rfl rfl
      have hfit2 : fitR 3 (r1 ++ row' :: r2) := fun r hr => by
        rcases List.mem_append.mp hr with hr | hr
        · exact hfit.out r (List.mem_append.mpr (.inl hr))
        · rcases List.mem_cons.mp hr with rfl | hr
          · rw [hrow']; rfl
          · exact hfit.out r (List.mem_append.mpr (.inr (List.mem_cons_of_mem _ hr)))
      have hnd : (o :: (S1 ++ (s ++ S2))).Nodup := by rw [← hS']; exact hn.out
      have hlt : ∀ x ∈ S1 ++ (s ++ S2), x < n0 := by rw [← hS']; exact hSn.out
      have hos : o ∉ s := fun h => by rw [List.nodup_cons] at hnd; exact hnd.1 (by simp [h])
      have hsn : s.Nodup := by
        rw [List.nodup_cons, List.nodup_append, List.nodup_append] at hnd; exact hnd.2.2.1.1
      generalize r1 ++ [q0, .i .i64 p.k, .b p.b] :: r2 = R at hH hro hset hro2 hrl2 hrl
      generalize hR1 : R.set i [q0, .i .i64 (k' + 2 * (p.cs.length : Int)), .b p.b] = R1 at hset hro2 hrl2
      replace htag2 := Hid.mk htag2
      replace hfit2 := Hid.mk hfit2
      replace hnd := Hid.mk hnd
      replace hlt := Hid.mk hlt
      replace hos := Hid.mk hos
      replace hsn := Hid.mk hsn
      replace hq0 := Hid.mk hq0
      replace hr1o := Hid.mk hr1o
      replace hr2n := Hid.mk hr2n
      replace hS' := Hid.mk hS'
      replace hrow' := Hid.mk hrow'
      replace hp := Hid.mk hp
      replace hz := Hid.mk hz
      replace hN1 := Hid.mk hN1
      obtain ⟨T, hT⟩ : ∃ T, T = joinT (joinT t' 1) 1 := ⟨_, rfl⟩
      replace hT := Hid.mk hT
      refine AL ?_
      refine CI ?_
      refine (markCellS_m G p.cs k' hpl (by omega) (by omega) _ H _ s hz.out hsn.out (fun x hx => by have := hlt.out x (by simp [hx]); omega)).mono ?_
      rintro _ H1 m ⟨rfl, hm, hz1, hf1⟩
      have hH1 := hf1 o (by omega) hos.out
      rw [hH] at hH1
      replace hf1 := Hid.mk hf1
      replace hz1 := Hid.mk hz1
      clear hH
      refine AL ?_
      have hq1 := ownP_back hq0.out hz1.out (cells_scal _)
      have hp' : ownPs H1 row' (pieceR ⟨runC k' p.cs.length, k' + 2 * p.cs.length, (k' + 2 * p.cs.length + 1).tmod 3 == 0⟩) s := by
        rw [hrow'.out, ← List.append_nil s]
        exact ownPs_cons hq1 (ownPs_scal_mk (by simp [scalB]))
      have hlt2 : ∀ x ∈ S1 ++ (s ++ S2), x < n' := fun x hx => Nat.lt_of_lt_of_le (hlt.out x hx) hn'
      have hfr2 : ∀ x, x < n' → x ≠ o → x ∉ s → H1 x = H x := fun x hx _ hs => hf1.out x (by omega) hs
      refine ⟨l.length - (i + 1), by omega, i + 1, T, r1 ++ [row'], r2, S1 ++ s, S2, D ++ [⟨runC k' p.cs.length, k' + 2 * p.cs.length, (k' + 2 * p.cs.length + 1).tmod 3 == 0⟩], k' + 2 * p.cs.length + 2, by omega, by simp [setF_if, *], by simp [setF_if, *], by simp [setF_if, *], ?_, by omega, ⟨by simp [hr1.out], by simp [hD.out], ?_, fun e => by rw [e] at cN; simp at cN⟩, ?_, ?_, ⟨?_, ?_, ?_⟩, ⟨?_, by omega, by omega⟩, ?_⟩
      · rw [hT.out]; simp [upd_if, joinT]
      · have := congrArg List.length hset
        simp only [List.length_set, hrl2] at this
        simp only [List.append_assoc, List.singleton_append]; exact this.symm
      · rw [hT.out]; simpa using htag2.out
      · simpa using hfit2.out
      · rw [hS'.out]; simp
      · rw [pieces_app]
        exact (mark_step hnd.out hlt2 hr1o.out hr2n.out hp' hfr2 (fun x hx => by rw [upd_if, if_neg hx, upd_if, if_neg hx])).1
      · exact (mark_step hnd.out hlt2 hr1o.out hr2n.out hp' hfr2 (fun x hx => by rw [upd_if, if_neg hx, upd_if, if_neg hx])).2
      · simpa using hN1.out
      · intro o' h1 h2
        have h3 : o' ≠ o := fun e => h2 (by rw [e]; exact List.mem_cons_self)
        rw [upd_if, if_neg h3, upd_if, if_neg h3, hf1.out o' (by omega) (fun h => h2 (List.mem_cons_of_mem _ (by rw [hS'.out]; simp [h])))]
        exact hfr.out o' h1 h2
    · refine AL ?_
      have ei : i = l.length := by omega
      obtain ⟨hS', hr1o, hr2o⟩ := hown.out
      obtain ⟨hN1, hN2, hN3⟩ := hnum.out
      rw [ei, List.drop_length] at hr2o hN1 hN2
      obtain ⟨rfl, rfl⟩ := ownRs_nilI hr2o
      simp only [mkQ, cntQ, List.append_nil] at hN1 hN2 hS' hH
      subst hS' hN1
      have ht := htag.out
      have hf := hfit.out
      rw [List.append_nil] at ht hf
      refine ⟨by simp [retA, setF_if, h1]; omega, by omega, ownX_sl (tagOk_own hH hr1o ht (ownRs_ns hr1o (pieces_ns _)) hf ?_), fun o' h1 h2 => hfr.out o' h1 h2⟩
      intro e
      refine hnil.out (List.length_eq_zero_iff.mp ?_)
      have := hr1.out
      rw [e] at this; simp at this; omega
  · obtain rfl : l = [] := by
      cases l with
      | nil => rfl
      | cons x l => simp [pieces] at hq
    clear hx
    rcases hx' with rfl | ⟨t, rfl⟩
    all_goals
      refine (.body Tryz.func80 rfl (by simp [Tryz.ntmps80]) ?_)
      rw [Tryz.ntmps80, Tryz.results80]
      refine AL ?_
      refine .loop (.inv (fun d E H n' => E 0 = (_ : AV) ∧ E 1 = .i .i64 k ∧ E 5 = .i .i64 0 ∧ n0 ≤ n' ∧ ∀ o, H o = H0 o) 0 ⟨by simp [setF_if, argE]; rfl, by simp [setF_if, argE], by simp [setF_if, argE], by omega, fun _ => rfl⟩ ?_)
      rintro d E H n' ⟨h0, h1, h5, hn', hfr⟩
      replace hfr := Hid.mk hfr
      have c : ¬ ((0 : Int) < ((0 : Nat) : Int)) := by omega
      refine AL ?_
      exact ⟨by simp [retA, setF_if, h1, cntQ], by omega, ownX_sl (.inr ⟨by first | exact .inl rfl | exact .inr ⟨_, rfl⟩, rfl, rfl⟩), fun o' _ _ => hfr.out o'⟩
end Go.Proofs
end
section
open Go Go.Big
namespace Go.Proofs
set_option maxHeartbeats 2000000
/-- What is marked in placements. -/
def mkP : Int → List (Int × List Int) → List (Int × List Int)
  | _, [] => []
  | k, p :: l => (k, runI (k + 1) p.2.length) :: mkP (k + 1 + p.2.length) l
def cntP : List (Int × List Int) → Int
  | [] => 0
  | p :: l => 1 + p.2.length + cntP l
theorem cntP_nn : ∀ l, 0 ≤ cntP l
  | [] => Int.le_refl _
  | p :: l => by have := cntP_nn l; simp only [cntP]; omega
theorem places_app (a b : List (Int × List Int)) : places (a ++ b) = places a ++ places b := by simp [places]
theorem places_ns (l : List (Int × List Int)) : ∀ r ∈ places l, ∃ p ∈ r, scalB p = false := fun r hr => by
  obtain ⟨p, _, rfl⟩ := List.mem_map.mp hr
  exact ⟨_, List.mem_cons_of_mem _ List.mem_cons_self, rfl⟩
theorem noObs_join2 {t : Nat} {r1 r2 : List (List PV)} {a : List PV} {b a0 : PV} (h : tagOk t (r1 ++ a :: r2)) (ha : a = [a0, b]) (c1 : PV) (hc1 : noOb c1 = true) : tagOk t (r1 ++ [c1, b] :: r2) := by
  rcases h with h | h1
  · exact .inl h
  · refine .inr fun r hr p hp => ?_
    rcases List.mem_append.mp hr with hr | hr
    · exact h1 r (List.mem_append.mpr (.inl hr)) p hp
    · rcases List.mem_cons.mp hr with rfl | hr
      · simp only [List.mem_cons, List.not_mem_nil, or_false] at hp
        rcases hp with rfl | rfl
        · exact hc1
        · exact h1 a (by simp) _ (by rw [ha]; simp)
      · exact h1 r (List.mem_append.mpr (.inr (List.mem_cons_of_mem _ hr))) p hp
end Go.Proofs
end
section
open Go Go.Big
namespace Go.Proofs
set_option maxHeartbeats 2000000
theorem ownX_leaf {H : Heap} {z : AV} {rows : List (List PV)} {s : List Nat} (h : ownX H z (.sl 1 rows) s) (hs : scalRows rows) : ∃ q tg, pvOf z = some q ∧ tagOf z = tg ∧ ownP H q (.sl rows) s ∧ (noOb q = true ∨ tg = 2) := by
  rcases ownA_flat (ownX_un h) hs with ⟨o, e, ty, sz, t, rfl, h1, rfl, h2, h3⟩ | ⟨rfl | ⟨t, rfl⟩, rfl, rfl⟩
  · exact ⟨.ob o e, 2, rfl, rfl, ownP_mk h1 hs h2 h3, .inr rfl⟩
  · exact ⟨.sl [], 1, rfl, rfl, ⟨rfl, rfl, rfl⟩, .inl rfl⟩
  · exact ⟨.sl [], t, rfl, rfl, ⟨rfl, rfl, rfl⟩, .inl rfl⟩
theorem toPiece_o (G : Gv) (p : PieceM) (hl : p.cs.length < 1000000000) : GivesO Tryz.prog G 39 [pieceA 0 p] (pieceA 1 p) := by
  refine .of (.body Tryz.func39 rfl (by simp [Tryz.ntmps39]) ?_)
  rw [Tryz.ntmps39, Tryz.results39]
  refine AL ?_
  refine CWO (toCellS_o G _ hl) ?_
  intro z H1 S m hz hn hS hf hm
  have f1 := hf 1 (by omega)
  have f2 := hf 2 (by omega)
  have f0 := hf 0 (by omega)
  simp [upd_if] at f0 f1 f2
  have hS1 : ∀ o ∈ S, 5 ≤ o := fun o ho => (hS o ho).1
  replace hS := Hid.mk hS
  replace hf := Hid.mk hf
  replace hn := Hid.mk hn
  replace hS1 := Hid.mk hS1
  have hz' := Hid.mk hz
  rcases ownX_cases hz with ⟨o, e, ty, sz, rows, t, rfl, hH, ho⟩ | rfl | ⟨t, rfl⟩
  · clear hz
    have ho5 := hS1.out o ho
    have n1 : ¬ o = 1 := by omega
    have n2 : ¬ o = 2 := by omega
    clear ho
    refine AL ?_
    refine ⟨S, ?_, hn.out⟩
    rw [← List.append_nil S]
    exact ownX_mk3 (s2 := []) (s3 := []) (ownX_congr (fun o ho => by have := hS1.out o ho; simp [upd_if, show ¬ o = 1 by omega, show ¬ o = 2 by omega]) hz'.out) ownX_mki ownX_mkb
  · clear hz
    refine AL ?_
    refine ⟨S, ?_, hn.out⟩
    rw [← List.append_nil S]
    exact ownX_mk3 (s2 := []) (s3 := []) (ownX_congr (fun o ho => by have := hS1.out o ho; simp [upd_if, show ¬ o = 1 by omega, show ¬ o = 2 by omega]) hz'.out) ownX_mki ownX_mkb
  · clear hz
    refine AL ?_
    refine ⟨S, ?_, hn.out⟩
    rw [← List.append_nil S]
    exact ownX_mk3 (s2 := []) (s3 := []) (ownX_congr (fun o ho => by have := hS1.out o ho; simp [upd_if, show ¬ o = 1 by omega, show ¬ o = 2 by omega]) hz'.out) ownX_mki ownX_mkb
theorem toPlacement_o (G : Gv) (k : Int) (l : List Int) (hl : l.length < 1000000000) : GivesO Tryz.prog G 106 [.ag [.i .i64 k, .sl 0 (ints l)]] (.ag [.i .i64 k, .sl 1 (ints l)]) := by
  refine .of (.body Tryz.func106 rfl (by simp [Tryz.ntmps106]) ?_)
  rw [Tryz.ntmps106, Tryz.results106]
  refine AL ?_
  refine CWO (toInt64S_o G _ hl) ?_
  intro z H1 S m hz hn hS hf hm
  have f1 := hf 1 (by omega)
  have f2 := hf 2 (by omega)
  have f0 := hf 0 (by omega)
  simp [upd_if] at f0 f1 f2
  have hS1 : ∀ o ∈ S, 5 ≤ o := fun o ho => Nat.le_trans (by omega) (hS o ho).1
  replace hS := Hid.mk hS
  replace hf := Hid.mk hf
  replace hn := Hid.mk hn
  replace hS1 := Hid.mk hS1
  have hz' := Hid.mk hz
  rcases ownX_cases hz with ⟨o, e, ty, sz, rows, t, rfl, hH, ho⟩ | rfl | ⟨t, rfl⟩
  · clear hz
    have ho5 := hS1.out o ho
    have n1 : ¬ o = 1 := by omega
    have n2 : ¬ o = 2 := by omega
    clear ho
    refine AL ?_
    exact ⟨S, ownX_mk2 (s1 := []) ownX_mki (ownX_congr (fun o ho => by have := hS1.out o ho; simp [upd_if, show ¬ o = 1 by omega, show ¬ o = 2 by omega]) hz'.out), hn.out⟩
  · clear hz
    refine AL ?_
    exact ⟨S, ownX_mk2 (s1 := []) ownX_mki (ownX_congr (fun o ho => by have := hS1.out o ho; simp [upd_if, show ¬ o = 1 by omega, show ¬ o = 2 by omega]) hz'.out), hn.out⟩
  · clear hz
    refine AL ?_
    exact ⟨S, ownX_mk2 (s1 := []) ownX_mki (ownX_congr (fun o ho => by have := hS1.out o ho; simp [upd_if, show ¬ o = 1 by omega, show ¬ o = 2 by omega]) hz'.out), hn.out⟩
theorem tag_store {t t2 : Nat} {rows : List (List PV)} {row : List PV} (h : tagOk t rows) (hr : t2 = 2 ∨ noObs [row]) : tagOk (joinT t t2) (rows ++ [row]) := by
  rcases h with h | h
  · exact .inl ((join_2 t t2).1 h)
  · rcases hr with hr | hr
    · exact .inl ((join_2 t t2).2 hr)
    · refine .inr fun r hm p hp => ?_
      rcases List.mem_append.mp hm with hm | hm
      · exact h r hm p hp
      · exact hr r hm p hp
theorem take_map {α β : Type} (f : α → β) {l : List α} {i : Nat} {x : α} (h : l[i]? = some x) : (l.take (i + 1)).map f = (l.take i).map f ++ [f x] := by
  obtain ⟨hi, rfl⟩ := List.getElem?_eq_some_iff.mp h
  rw [List.take_succ_eq_append_getElem hi, List.map_append]; rfl
theorem toPieceS_o (G : Gv) (l : List PieceM) (hl : l.length < 1000000000) (hc : ∀ p ∈ l, p.cs.length < 1000000000) : GivesO Tryz.prog G 73 [.sl 0 (pieces l)] (.sl 1 (pieces l)) := by
  refine .of (.body Tryz.func73 rfl (by simp [Tryz.ntmps73]) ?_)
  rw [Tryz.ntmps73, Tryz.results73]
  have hlen := pieces_len l
  have b1 : ((40 : Nat) : Int) * l.length ≤ 281474976710656 := by simp; omega
  have b2 : (l.length : Int) ≤ 9223372036854775807 := by omega
  have b3 : (0 : Int) ≤ l.length := by omega
  replace hc := Hid.mk hc
  refine AG ?_
  refine .block (.loop (.inv (fun d E H n' => ∃ (i t' : Nat) (r1 : List (List PV)) (S1 : List Nat), i + d = l.length ∧ E 0 = .sl 0 (pieces l) ∧ E 3 = .own 3 0 ∧ E 4 = .i .i64 i ∧ H 3 = some (.arr 0 68 3 (r1 ++ List.replicate d [PV.sl [], PV.i .i64 0, PV.b false]) t') ∧ 3 < n' ∧ r1.length = i ∧ tagOk t' r1 ∧ fitR 3 r1 ∧ (l = [] → t' ≠ 2) ∧ ownRs H r1 (pieces (l.take i)) S1 ∧ S1.Nodup ∧ ∀ o ∈ S1, 3 < o ∧ o < n') l.length ?_ ?_))
  · refine ⟨0, 1, [], [], by omega, by simp [setF_if, argE], by simp [setF_if, argE], by simp [setF_if, argE], by simp [upd_if, hlen], by omega, rfl, .inr (fun r hr => by simp at hr), fun r hr => by simp at hr, fun _ => by decide, ⟨rfl, rfl⟩, by simp, by simp⟩
  clear b1 b2 b3
  rintro d E H n' ⟨i, t', r1, S1, hi, h0, h3, h4, hH, hn3, hr1, htag, hfit, hnil, hown, hnd, hlt⟩
  replace hr1 := Hid.mk hr1
  replace htag := Hid.mk htag
  replace hfit := Hid.mk hfit
  replace hnil := Hid.mk hnil
  replace hown := Hid.mk hown
  replace hnd := Hid.mk hnd
  replace hlt := Hid.mk hlt
  by_cases c : (i : Int) < l.length
  · have hw_i : IntKind.i64.wrap ((i : Int) + 1) = (i : Int) + 1 := wr64 (by omega) (by omega)
    obtain ⟨p, hp⟩ : ∃ p, l[i]? = some p := ⟨_, List.getElem?_eq_getElem (by omega)⟩
    have hpl := hc.out p (List.mem_of_getElem? hp)
    have hr : (pieces l)[i]? = some (pieceR p) := by simp [pieces, hp]
    obtain ⟨d, rfl⟩ : ∃ d', d = d' + 1 := ⟨d - 1, by omega⟩
    rw [List.replicate_succ] at hH
    have hro : (r1 ++ [PV.sl [], PV.i .i64 0, PV.b false] :: List.replicate d [PV.sl [], PV.i .i64 0, PV.b false])[i]? = some [PV.sl [], PV.i .i64 0, PV.b false] := at_mid _ _ _ hr1.out
    have hset : ∀ x, (r1 ++ [PV.sl [], PV.i .i64 0, PV.b false] :: List.replicate d [PV.sl [], PV.i .i64 0, PV.b false]).set i x = r1 ++ x :: List.replicate d [PV.sl [], PV.i .i64 0, PV.b false] := fun x => set_mid _ _ _ _ hr1.out
    have hrl : i < (r1 ++ [PV.sl [], PV.i .i64 0, PV.b false] :: List.replicate d [PV.sl [], PV.i .i64 0, PV.b false]).length := (List.getElem?_eq_some_iff.mp hro).1
    generalize r1 ++ [PV.sl [], PV.i .i64 0, PV.b false] :: List.replicate d [PV.sl [], PV.i .i64 0, PV.b false] = R at hH hro hset hrl
    have htk := take_map pieceR hp
    replace htk := Hid.mk htk
    replace hp := Hid.mk hp
    replace hpl := Hid.mk hpl
    skip
    refine AL ?_
    refine CWO (toPiece_o G p hpl.out) ?_
    intro z H1 S m hz hn hS hf hm
    have hH1 := hf 3 (by omega)
    rw [hH] at hH1
    obtain ⟨z, zk, zb, S, s2, s3, rfl, rfl, hz2, h2, h3'⟩ := ownX_ag3 hz
    obtain ⟨rfl, rfl⟩ := ownX_i h2
    obtain ⟨rfl, rfl⟩ := ownX_b h3'
    clear h2 h3' hz
    simp only [List.append_nil] at hn hS
    have hq := ownX_leaf hz2 (cells_scal _)
    have hSd : ∀ o ∈ S1, o ∉ S := fun o h1 h2 => by have := hlt.out o h1; have := hS o h2; omega
    have hS3 : ∀ o ∈ S, 3 < o ∧ o < m := fun o h => by have := hS o h; omega
    have hS4 : ∀ o ∈ S1, 3 < o ∧ o < m := fun o h => by have := hlt.out o h; omega
    have hf1 : ∀ o ∈ S1, H1 o = H o := fun o h => hf o (by have := hlt.out o h; omega)
    have hcs := ownX_cases hz2
    clear hz2
    replace hq := Hid.mk hq
    replace hSd := Hid.mk hSd
    replace hS3 := Hid.mk hS3
    replace hS4 := Hid.mk hS4
    replace hf1 := Hid.mk hf1
    replace hf := Hid.mk hf
    replace hS := Hid.mk hS
    replace hn := Hid.mk hn
    clear hH
    have fin : ∀ (q : PV) (t2 : Nat) (H2 : Heap), ownP H1 q (.sl (cells p.cs)) S → (noOb q = true ∨ t2 = 2) → (∀ o, o ≠ 3 → H2 o = H1 o) → tagOk (joinT t' t2) (r1 ++ [[q, .i .i64 p.k, .b p.b]]) ∧ ownRs H2 (r1 ++ [[q, .i .i64 p.k, .b p.b]]) (pieces (l.take (i + 1))) (S1 ++ S) := by
      intro q t2 H2 h1 h2 h3
      refine ⟨tag_store htag.out (h2.symm.imp id fun h2 r hr p hp => ?_), ?_⟩
      · obtain rfl := List.mem_singleton.mp hr
        simp only [List.mem_cons, List.not_mem_nil, or_false] at hp
        rcases hp with rfl | rfl | rfl <;> first | rfl | exact h2
      · have e : pieces (l.take (i + 1)) = pieces (l.take i) ++ [pieceR p] := htk.out
        rw [e]
        refine ownRs_append (ownRs_congr (H := H) (fun o ho => ?_) hown.out) (ownRs_one (ownPs_congr (H := H1) (fun o ho => ?_) ?_))
        · rw [h3 o (by have := hlt.out o ho; omega)]; exact hf1.out o ho
        · exact h3 o (by have := hS3.out o ho; omega)
        · rw [← List.append_nil S]; exact ownPs_cons h1 (ownPs_scal_mk (by simp [scalB]))
    replace fin := Hid.mk fin
    replace htk := Hid.mk htk
    rcases hcs with ⟨o, e, ty, sz, rows, t, rfl, hHo, ho⟩ | rfl | ⟨t, rfl⟩
    · have ho3 := hS3.out o ho
      have n3 : ¬ o = 3 := by omega
      clear ho
      obtain ⟨q, tg, e1, e2, hq1, hq2⟩ := hq.out
      cases e1
      clear hq2 e2
      replace hq1 := Hid.mk hq1
      replace hset := Hid.mk hset
      refine AL ?_
      refine ⟨d, by omega, i + 1, joinT t' (2), r1 ++ [[PV.ob o e, PV.i .i64 p.k, PV.b p.b]], S1 ++ S, by omega, by simp [setF_if, *], by simp [setF_if, *], by simp [setF_if, *], ?_, by omega, by simp [hr1.out], (fin.out _ _ H1 hq1.out (.inr rfl) (fun _ _ => rfl)).1, ?_, fun e => by rw [e] at hi; simp at hi, (fin.out _ (2) _ hq1.out (.inr rfl) (fun k hk => by rw [upd_if, if_neg hk])).2, ?_, ?_⟩
      · simp [upd_if, joinT, hset.out]
      · intro r hr
        rcases List.mem_append.mp hr with hr | hr
        · exact hfit.out r hr
        · rw [List.mem_singleton.mp hr]; rfl
      · exact List.nodup_append.mpr ⟨hnd.out, hn.out, fun x hx y hy e => hSd.out x hx (e ▸ hy)⟩
      · intro x hx
        rcases List.mem_append.mp hx with hx | hx
        · exact ⟨(hS4.out x hx).1, by have := (hS4.out x hx).2; omega⟩
        · exact ⟨(hS3.out x hx).1, by have := (hS3.out x hx).2; omega⟩
    · skip
      obtain ⟨q, tg, e1, e2, hq1, hq2⟩ := hq.out
      cases e1
      clear hq2 e2
      replace hq1 := Hid.mk hq1
      replace hset := Hid.mk hset
      refine AL ?_
      refine ⟨d, by omega, i + 1, joinT t' (1), r1 ++ [[PV.sl [], PV.i .i64 p.k, PV.b p.b]], S1 ++ S, by omega, by simp [setF_if, *], by simp [setF_if, *], by simp [setF_if, *], ?_, by omega, by simp [hr1.out], (fin.out _ _ H1 hq1.out (.inl rfl) (fun _ _ => rfl)).1, ?_, fun e => by rw [e] at hi; simp at hi, (fin.out _ (1) _ hq1.out (.inl rfl) (fun k hk => by rw [upd_if, if_neg hk])).2, ?_, ?_⟩
      · simp [upd_if, joinT, hset.out]
      · intro r hr
        rcases List.mem_append.mp hr with hr | hr
        · exact hfit.out r hr
        · rw [List.mem_singleton.mp hr]; rfl
      · exact List.nodup_append.mpr ⟨hnd.out, hn.out, fun x hx y hy e => hSd.out x hx (e ▸ hy)⟩
      · intro x hx
        rcases List.mem_append.mp hx with hx | hx
        · exact ⟨(hS4.out x hx).1, by have := (hS4.out x hx).2; omega⟩
        · exact ⟨(hS3.out x hx).1, by have := (hS3.out x hx).2; omega⟩
    · skip
      obtain ⟨q, tg, e1, e2, hq1, hq2⟩ := hq.out
      cases e1
      clear hq2 e2
      replace hq1 := Hid.mk hq1
      replace hset := Hid.mk hset
      refine AL ?_
      refine ⟨d, by omega, i + 1, joinT t' (joinT t 1), r1 ++ [[PV.sl [], PV.i .i64 p.k, PV.b p.b]], S1 ++ S, by omega, by simp [setF_if, *], by simp [setF_if, *], by simp [setF_if, *], ?_, by omega, by simp [hr1.out], (fin.out _ _ H1 hq1.out (.inl rfl) (fun _ _ => rfl)).1, ?_, fun e => by rw [e] at hi; simp at hi, (fin.out _ (joinT t 1) _ hq1.out (.inl rfl) (fun k hk => by rw [upd_if, if_neg hk])).2, ?_, ?_⟩
      · simp [upd_if, joinT, hset.out]
      · intro r hr
        rcases List.mem_append.mp hr with hr | hr
        · exact hfit.out r hr
        · rw [List.mem_singleton.mp hr]; rfl
      · exact List.nodup_append.mpr ⟨hnd.out, hn.out, fun x hx y hy e => hSd.out x hx (e ▸ hy)⟩
      · intro x hx
        rcases List.mem_append.mp hx with hx | hx
        · exact ⟨(hS4.out x hx).1, by have := (hS4.out x hx).2; omega⟩
        · exact ⟨(hS3.out x hx).1, by have := (hS3.out x hx).2; omega⟩
  · refine AL ?_
    have ei : i = l.length := by omega
    have hd : d = 0 := by omega
    subst hd
    rw [List.replicate_zero, List.append_nil] at hH
    have ho := hown.out
    rw [ei, List.take_length] at ho
    refine ⟨3 :: S1, ownX_sl (tagOk_own hH ho htag.out (ownRs_ns ho (pieces_ns _)) hfit.out fun e => hnil.out ?_), List.nodup_cons.mpr ⟨fun h => by have := hlt.out 3 h; omega, hnd.out⟩⟩
    refine List.length_eq_zero_iff.mp ?_
    have := hr1.out
    rw [e] at this; simp at this; omega
end Go.Proofs
end
