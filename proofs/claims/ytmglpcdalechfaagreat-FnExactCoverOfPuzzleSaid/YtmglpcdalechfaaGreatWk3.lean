/- Walks: Numbers written into lists of one's own. No condition. | Numbers written into lists of what owns lists. No condition. | Lists of lists of numbers: equal, numbered anew, still numbered; and covers. No condition. | Corners and sizes of cells. No condition. | The reference's moves, normal forms, turns. No condition. -/
import Derived.Test.YtmglpcdalechfaaGreatBO
import Derived.Test.YtmglpcdalechfaaGreatWk2
import Derived.Test.YtmglpcdalechfaaGreatWk1
set_option linter.unusedVariables false
set_option linter.unusedSimpArgs false
section
open Go Go.Big
namespace Go.Proofs
set_option maxHeartbeats 2000000
/-- So many numbers from one on. -/
def runI (k : Int) (n : Nat) : List Int := (List.range n).map fun i : Nat => k + (i : Int)
theorem runI_len (k : Int) (n : Nat) : (runI k n).length = n := by simp [runI]
theorem runI_succ (k : Int) (n : Nat) : runI k (n + 1) = runI k n ++ [k + n] := by simp [runI, List.range_succ]
theorem runI_at {k : Int} {n i : Nat} (h : i < n) : (runI k n)[i]? = some (k + i) := by simp [runI, h]
theorem mark_set (k : Int) {l : List Int} {i : Nat} (h : i < l.length) : (ints (runI k i ++ l.drop i)).set i [.i .i64 (k + i)] = ints (runI k (i + 1) ++ l.drop (i + 1)) := by
  rw [← ints_set]
  congr 1
  have e : l.drop i = l[i] :: l.drop (i + 1) := List.drop_eq_getElem_cons h
  rw [e, List.set_append_right _ _ (by rw [runI_len]; omega), runI_len, Nat.sub_self, List.set_cons_zero, runI_succ]
  simp
theorem mark_at (k : Int) {l : List Int} {i : Nat} (h : i < l.length) : (ints (runI k i ++ l.drop i))[i]? = some [.i .i64 (l.getD i 0)] := by
  have e : l.drop i = l[i] :: l.drop (i + 1) := List.drop_eq_getElem_cons h
  simp only [ints, List.getElem?_map]
  rw [List.getElem?_append_right (by rw [runI_len]; omega), runI_len, Nat.sub_self, e]
  simp [List.getD_eq_getElem?_getD, h]
theorem ints_nil {l : List Int} (h : ints l = []) : l = [] := by
  cases l with
  | nil => rfl
  | cons x l => simp [ints] at h
theorem fit_one {l : List Int} {sz : Nat} (h : fitR sz (ints l)) (h0 : 0 < l.length) : sz = 1 := by
  cases l with
  | nil => simp at h0
  | cons x l => exact (h [.i .i64 x] (by simp [ints])).symm
theorem markInt64S_m (G : Gv) (l : List Int) (k : Int) (hl : l.length < 1000000000) (hk0 : 0 ≤ k) (hk : k < 1000000000000) :
    Marks Tryz.prog G 30 (.sl 1 (ints l)) (.sl 1 (ints (runI k l.length))) k (k + l.length) := by
  intro x H0 n0 S hx hn hS
  rcases ownA_flat (ownX_un hx) (ints_scal l) with ⟨o, e, ty, sz, t, rfl, hH0, rfl, ht, hf⟩ | ⟨hx', hq, rfl⟩
  · have hlen := ints_len l
    clear hx hn hS
    refine (.body Tryz.func30 rfl (by simp [Tryz.ntmps30]) ?_)
    rw [Tryz.ntmps30, Tryz.results30]
    refine AL ?_
    refine .loop (.inv (fun d E H n' => ∃ (i t' : Nat), i + d = l.length ∧ E 0 = .own o e ∧ E 1 = .i .i64 (k + i) ∧ E 5 = .i .i64 i ∧ H o = some (.arr e ty sz (ints (runI k i ++ l.drop i)) t') ∧ t' ≠ 2 ∧ n0 ≤ n' ∧ (∀ o', o' ≠ o → H o' = H0 o')) l.length ?_ ?_)
    · exact ⟨0, t, by omega, by simp [setF_if, argE], by simp [setF_if, argE], by simp [setF_if, argE], by simpa [runI] using hH0, ht, by omega, fun _ _ => rfl⟩
    rintro d E H n' ⟨i, t', hi, h0, h1, h5, hH, ht', hn', hfr⟩
    replace hfr := Hid.mk hfr
    have hle : (ints (runI k i ++ l.drop i)).length = l.length := by rw [ints_len, List.length_append, runI_len, List.length_drop]; omega
    by_cases c : (i : Int) < l.length
    · have hw_i : IntKind.i64.wrap ((i : Int) + 1) = (i : Int) + 1 := wr64 (by omega) (by omega)
      have hwk : IntKind.i64.wrap (k + i + 1) = k + ((i + 1 : Nat) : Int) := by rw [wr64 (by omega) (by omega)]; omega
      obtain rfl := fit_one hf (by omega)
      have hro := mark_at k (l := l) (i := i) (by omega)
      have hset := mark_set k (l := l) (i := i) (by omega)
      have hj : joinT t' 1 ≠ 2 := joinT_ne ht' (by decide)
      have cN : i < l.length := by omega
      generalize ints (runI k i ++ l.drop i) = R at hH hro hset hle
      replace hj := Hid.mk hj
      replace ht' := Hid.mk ht'
      refine AL ?_
      exact ⟨l.length - (i + 1), by omega, i + 1, joinT t' 1, by omega, by simp [setF_if, *], by simp [setF_if, *], by simp [setF_if, *], by simp [upd_if, joinT, *], hj.out, by omega, fun o' ho' => by rw [upd_if, if_neg ho']; exact hfr.out o' ho'⟩
    · refine AL ?_
      have ei : i = l.length := by omega
      rw [ei, List.drop_length, List.append_nil] at hH
      refine ⟨by simp [retA, setF_if, h1, ei], by omega, ownX_sl (ownA_mk hH (ints_scal _) ht' ?_), fun o' h1 h2 => hfr.out o' (by simpa using h2)⟩
      intro r hr
      have h3 := ints_fit _ r hr
      obtain ⟨y, hy, rfl⟩ := List.mem_map.mp hr
      have h4 : 0 < l.length := by
        have := List.length_pos_of_mem hy
        rw [runI_len] at this; exact this
      rw [fit_one hf h4]; rfl
  · obtain rfl := ints_nil hq
    clear hx
    rcases hx' with rfl | ⟨t, rfl⟩
    all_goals
      refine (.body Tryz.func30 rfl (by simp [Tryz.ntmps30]) ?_)
      rw [Tryz.ntmps30, Tryz.results30]
      refine AL ?_
      refine .loop (.inv (fun d E H n' => E 0 = (_ : AV) ∧ E 1 = .i .i64 k ∧ E 5 = .i .i64 0 ∧ n0 ≤ n' ∧ ∀ o, H o = H0 o) 0 ⟨by simp [setF_if, argE]; rfl, by simp [setF_if, argE], by simp [setF_if, argE], by omega, fun _ => rfl⟩ ?_)
      rintro d E H n' ⟨h0, h1, h5, hn', hfr⟩
      replace hfr := Hid.mk hfr
      have c : ¬ ((0 : Int) < ((0 : Nat) : Int)) := by omega
      refine AL ?_
      exact ⟨by simp [retA, setF_if, h1], by omega, ownX_sl (.inr ⟨by first | exact .inl rfl | exact .inr ⟨_, rfl⟩, rfl, rfl⟩), fun o' _ _ => hfr.out o'⟩
/-- A list of such numbers is held. -/
theorem heldInt64S_fn (G : Gv) (k : Int) (m : Nat) (hl : m < 1000000000) (hk0 : 0 ≤ k) (hk : k < 1000000000000) : Gives Tryz.prog G 31 [.sl 0 (ints (runI k m)), .i .i64 k] (.i .i64 (k + m)) := by
  refine .of (.body Tryz.func31 rfl (by simp [Tryz.ntmps31]) ?_)
  rw [Tryz.ntmps31, Tryz.results31]
  have hlen : (ints (runI k m)).length = m := by rw [ints_len, runI_len]
  refine AL ?_
  refine .loop (.inv (fun d E H n' => ∃ i : Nat, i + d = m ∧ E 0 = .sl 0 (ints (runI k m)) ∧ E 1 = .i .i64 (k + i) ∧ E 5 = .i .i64 i) m ?_ ?_)
  · exact ⟨0, by omega, by simp [setF_if, argE], by simp [setF_if, argE], by simp [setF_if, argE]⟩
  rintro d E H n' ⟨i, hi, h0, h1, h5⟩
  by_cases c : (i : Int) < m
  · have hw_i : IntKind.i64.wrap ((i : Int) + 1) = (i : Int) + 1 := wr64 (by omega) (by omega)
    have hwk : IntKind.i64.wrap (k + i + 1) = k + ((i + 1 : Nat) : Int) := by rw [wr64 (by omega) (by omega)]; omega
    have hr := ints_row (runI_at (k := k) (n := m) (i := i) (by omega))
    refine AL ?_
    exact ⟨m - (i + 1), by omega, i + 1, by omega, by simp [setF_if, *], by simp [setF_if, *], by simp [setF_if, *]⟩
  · refine AL ?_
    have ei : i = m := by omega
    simp [retA, backA, setF_if, h1, ei]
/-- Cells of such numbers. -/
def runC (k : Int) (n : Nat) : List (Int × Int) := (List.range n).map fun i : Nat => (k + 2 * (i : Int), k + 2 * (i : Int) + 1)
theorem runC_len (k : Int) (n : Nat) : (runC k n).length = n := by simp [runC]
theorem runC_succ (k : Int) (n : Nat) : runC k (n + 1) = runC k n ++ [(k + 2 * (n : Int), k + 2 * (n : Int) + 1)] := by simp [runC, List.range_succ]
theorem cmark_set (k : Int) {l : List (Int × Int)} {i : Nat} (h : i < l.length) : ((cells (runC k i ++ l.drop i)).set i [.i .i64 (k + 2 * (i : Int)), .i .i64 (l.getD i (0, 0)).2]).set i [.i .i64 (k + 2 * (i : Int)), .i .i64 (k + 2 * (i : Int) + 1)] = cells (runC k (i + 1) ++ l.drop (i + 1)) := by
  have e : l.drop i = l[i] :: l.drop (i + 1) := List.drop_eq_getElem_cons h
  rw [List.set_set, e]
  unfold cells
  rw [List.map_append, List.set_append_right _ _ (by rw [List.length_map, runC_len]; omega), List.length_map, runC_len, Nat.sub_self, List.map_cons, List.set_cons_zero, runC_succ]
  simp
theorem cmark_at (k : Int) {l : List (Int × Int)} {i : Nat} (h : i < l.length) : (cells (runC k i ++ l.drop i))[i]? = some [.i .i64 (l.getD i (0, 0)).1, .i .i64 (l.getD i (0, 0)).2] := by
  have e : l.drop i = l[i] :: l.drop (i + 1) := List.drop_eq_getElem_cons h
  simp only [cells, List.getElem?_map]
  rw [List.getElem?_append_right (by rw [runC_len]; omega), runC_len, Nat.sub_self, e]
  simp [List.getD_eq_getElem?_getD, h]
theorem cells_nil {l : List (Int × Int)} (h : cells l = []) : l = [] := by
  cases l with
  | nil => rfl
  | cons x l => simp [cells] at h
theorem fit_two {l : List (Int × Int)} {sz : Nat} (h : fitR sz (cells l)) (h0 : 0 < l.length) : sz = 2 := by
  cases l with
  | nil => simp at h0
  | cons x l => exact (h [.i .i64 x.1, .i .i64 x.2] (by simp [cells])).symm
theorem markCellS_m (G : Gv) (l : List (Int × Int)) (k : Int) (hl : l.length < 1000000000) (hk0 : 0 ≤ k) (hk : k < 1000000000000) :
    Marks Tryz.prog G 58 (.sl 1 (cells l)) (.sl 1 (cells (runC k l.length))) k (k + 2 * l.length) := by
  intro x H0 n0 S hx hn hS
  rcases ownA_flat (ownX_un hx) (cells_scal l) with ⟨o, e, ty, sz, t, rfl, hH0, rfl, ht, hf⟩ | ⟨hx', hq, rfl⟩
  · have hlen := cells_len l
    clear hx hn hS
    refine (.body Tryz.func58 rfl (by simp [Tryz.ntmps58]) ?_)
    rw [Tryz.ntmps58, Tryz.results58]
    refine AL ?_
    refine .loop (.inv (fun d E H n' => ∃ (i t' : Nat), i + d = l.length ∧ E 0 = .own o e ∧ E 1 = .i .i64 (k + 2 * i) ∧ E 5 = .i .i64 i ∧ H o = some (.arr e ty sz (cells (runC k i ++ l.drop i)) t') ∧ t' ≠ 2 ∧ n0 ≤ n' ∧ (∀ o', o' ≠ o → H o' = H0 o')) l.length ?_ ?_)
    · exact ⟨0, t, by omega, by simp [setF_if, argE], by simp [setF_if, argE], by simp [setF_if, argE], by simpa [runC] using hH0, ht, by omega, fun _ _ => rfl⟩
    rintro d E H n' ⟨i, t', hi, h0, h1, h5, hH, ht', hn', hfr⟩
    replace hfr := Hid.mk hfr
    have hle : (cells (runC k i ++ l.drop i)).length = l.length := by rw [cells_len, List.length_append, runC_len, List.length_drop]; omega
    by_cases c : (i : Int) < l.length
    · have hw_i : IntKind.i64.wrap ((i : Int) + 1) = (i : Int) + 1 := wr64 (by omega) (by omega)
      have hwk : IntKind.i64.wrap (k + 2 * (i : Int) + 1) = k + 2 * (i : Int) + 1 := wr64 (by omega) (by omega)
      have hwk2 : IntKind.i64.wrap (k + 2 * (i : Int) + 1 + 1) = k + 2 * ((i + 1 : Nat) : Int) := by rw [wr64 (by omega) (by omega)]; omega
      obtain rfl := fit_two hf (by omega)
      have hro := cmark_at k (l := l) (i := i) (by omega)
      have hset := cmark_set k (l := l) (i := i) (by omega)
      have hj : joinT (joinT t' 1) 1 ≠ 2 := joinT_ne (joinT_ne ht' (by decide)) (by decide)
      have cN : i < l.length := by omega
      generalize cells (runC k i ++ l.drop i) = R at hH hro hset hle
      generalize (l.getD i (0, 0)).1 = y1 at hro hset
      generalize (l.getD i (0, 0)).2 = y2 at hro hset
      have hR2 : (R.set i [.i .i64 (k + 2 * (i : Int)), .i .i64 y2])[i]? = some [.i .i64 (k + 2 * (i : Int)), .i .i64 y2] := by rw [List.getElem?_set_self]; omega
      have hRl : (R.set i [.i .i64 (k + 2 * (i : Int)), .i .i64 y2]).length = l.length := by rw [List.length_set]; exact hle
      generalize hR0 : R.set i [.i .i64 (k + 2 * (i : Int)), .i .i64 y2] = R2 at hset hR2 hRl
      replace hj := Hid.mk hj
      replace ht' := Hid.mk ht'
      refine AL ?_
      exact ⟨l.length - (i + 1), by omega, i + 1, joinT (joinT t' 1) 1, by omega, by simp [setF_if, *], by simp [setF_if, *], by simp [setF_if, *], by simp [upd_if, joinT, *], hj.out, by omega, fun o' ho' => by rw [upd_if, if_neg ho', upd_if, if_neg ho']; exact hfr.out o' ho'⟩
    · refine AL ?_
      have ei : i = l.length := by omega
      rw [ei, List.drop_length, List.append_nil] at hH
      refine ⟨by simp [retA, setF_if, h1, ei], by omega, ownX_sl (ownA_mk hH (cells_scal _) ht' ?_), fun o' h1 h2 => hfr.out o' (by simpa using h2)⟩
      intro r hr
      have h3 := cells_fit _ r hr
      obtain ⟨y, hy, rfl⟩ := List.mem_map.mp hr
      have h4 : 0 < l.length := by
        have := List.length_pos_of_mem hy
        rw [runC_len] at this; exact this
      rw [fit_two hf h4]; rfl
  · obtain rfl := cells_nil hq
    clear hx
    rcases hx' with rfl | ⟨t, rfl⟩
    all_goals
      refine (.body Tryz.func58 rfl (by simp [Tryz.ntmps58]) ?_)
      rw [Tryz.ntmps58, Tryz.results58]
      refine AL ?_
      refine .loop (.inv (fun d E H n' => E 0 = (_ : AV) ∧ E 1 = .i .i64 k ∧ E 5 = .i .i64 0 ∧ n0 ≤ n' ∧ ∀ o, H o = H0 o) 0 ⟨by simp [setF_if, argE]; rfl, by simp [setF_if, argE], by simp [setF_if, argE], by omega, fun _ => rfl⟩ ?_)
      rintro d E H n' ⟨h0, h1, h5, hn', hfr⟩
      replace hfr := Hid.mk hfr
      have c : ¬ ((0 : Int) < ((0 : Nat) : Int)) := by omega
      refine AL ?_
      exact ⟨by simp [retA, setF_if, h1], by omega, ownX_sl (.inr ⟨by first | exact .inl rfl | exact .inr ⟨_, rfl⟩, rfl, rfl⟩), fun o' _ _ => hfr.out o'⟩
end Go.Proofs
end
section
open Go Go.Big
namespace Go.Proofs
set_option maxHeartbeats 2000000
theorem ownP_load {H : Heap} {q : PV} {rows : List (List PV)} {s : List Nat} (h : ownP H q (.sl rows) s) (tg : Nat) : ownX H (avOf tg q) (.sl 1 rows) s := by
  cases q with
  | ob o e =>
    obtain ⟨rfl, ty, sz, rows', t, h1, h2, h3, e1, h4⟩ := h
    cases e1
    exact ownX_sl (ownA_mk h1 h3 h2 h4)
  | sl r => obtain ⟨rfl, e1, rfl⟩ := h; cases e1; exact ownX_sl (.inr ⟨.inr ⟨tg, rfl⟩, rfl, rfl⟩)
  | i => obtain ⟨_, e⟩ := h; cases e
  | b => obtain ⟨_, e⟩ := h; cases e
  | s => obtain ⟨_, e⟩ := h; cases e
theorem ownP_forms {H : Heap} {q : PV} {rows : List (List PV)} {s : List Nat} (h : ownP H q (.sl rows) s) : (∃ o e, q = .ob o e) ∨ q = .sl [] := by
  cases q with
  | ob o e => exact .inl ⟨o, e, rfl⟩
  | sl r => obtain ⟨rfl, _⟩ := h; exact .inr rfl
  | i => obtain ⟨_, e⟩ := h; cases e
  | b => obtain ⟨_, e⟩ := h; cases e
  | s => obtain ⟨_, e⟩ := h; cases e
theorem ownP_back {H H0 : Heap} {q : PV} {rows rows0 : List (List PV)} {s s0 : List Nat} {tg : Nat} (h0 : ownP H0 q (.sl rows0) s0) (h : ownX H (avOf tg q) (.sl 1 rows) s) (hs : scalRows rows) : ownP H q (.sl rows) s := by
  cases q with
  | ob o e =>
    rcases ownA_flat (ownX_un h) hs with ⟨o', e', ty, sz, t, e1, h1, rfl, h2, h3⟩ | ⟨e1 | ⟨_, e1⟩, _⟩
    · cases e1; exact ownP_mk h1 hs h2 h3
    · cases e1
    · cases e1
  | sl r =>
    rcases ownA_flat (ownX_un h) hs with ⟨o', e', ty, sz, t, e1, _⟩ | ⟨e1 | ⟨_, e1⟩, rfl, rfl⟩
    · cases e1
    · cases e1
    · cases e1; exact ⟨rfl, rfl, rfl⟩
  | i => obtain ⟨_, e⟩ := h0; cases e
  | b => obtain ⟨_, e⟩ := h0; cases e
  | s => obtain ⟨_, e⟩ := h0; cases e
theorem ownPs_cons {H : Heap} {p q : PV} {ps qs : List PV} {s s' : List Nat} (h : ownP H p q s) (g : ownPs H ps qs s') : ownPs H (p :: ps) (q :: qs) (s ++ s') := ⟨q, qs, s, s', rfl, rfl, h, g⟩
theorem ownP_isI {H : Heap} {p : PV} {k : IntKind} {n : Int} {s : List Nat} (h : ownP H p (.i k n) s) : p = .i k n ∧ s = [] := by
  cases p with
  | ob o e => obtain ⟨_, _, _, _, _, _, _, _, e1, _⟩ := h; cases e1
  | sl r => obtain ⟨_, e1, _⟩ := h; cases e1
  | i => obtain ⟨rfl, e1⟩ := h; cases e1; exact ⟨rfl, rfl⟩
  | b => obtain ⟨_, e1⟩ := h; cases e1
  | s => obtain ⟨_, e1⟩ := h; cases e1
theorem ownP_isB {H : Heap} {p : PV} {b : Bool} {s : List Nat} (h : ownP H p (.b b) s) : p = .b b ∧ s = [] := by
  cases p with
  | ob o e => obtain ⟨_, _, _, _, _, _, _, _, e1, _⟩ := h; cases e1
  | sl r => obtain ⟨_, e1, _⟩ := h; cases e1
  | i => obtain ⟨_, e1⟩ := h; cases e1
  | b => obtain ⟨rfl, e1⟩ := h; cases e1; exact ⟨rfl, rfl⟩
  | s => obtain ⟨_, e1⟩ := h; cases e1
theorem ownPs_nilI {H : Heap} {ps : List PV} {s : List Nat} (h : ownPs H ps [] s) : ps = [] ∧ s = [] := by
  cases ps with
  | nil => exact ⟨rfl, h.2⟩
  | cons p ps => obtain ⟨_, _, _, _, e, _⟩ := h; cases e
theorem ownPs_consI {H : Heap} {ps : List PV} {q : PV} {qs : List PV} {s : List Nat} (h : ownPs H ps (q :: qs) s) : ∃ p ps' s1 s2, ps = p :: ps' ∧ s = s1 ++ s2 ∧ ownP H p q s1 ∧ ownPs H ps' qs s2 := by
  cases ps with
  | nil => have := h.1; cases this
  | cons p ps => obtain ⟨_, _, s1, s2, e, e2, h1, h2⟩ := h; cases e; exact ⟨p, ps, s1, s2, rfl, e2, h1, h2⟩
theorem ownRs_consI {H : Heap} {rows : List (List PV)} {q : List PV} {qs : List (List PV)} {S : List Nat} (h : ownRs H rows (q :: qs) S) : ∃ r rs s1 s2, rows = r :: rs ∧ S = s1 ++ s2 ∧ ownPs H r q s1 ∧ ownRs H rs qs s2 := by
  cases rows with
  | nil => have := h.1; cases this
  | cons r rs => obtain ⟨_, _, s1, s2, e, e2, h1, h2⟩ := h; cases e; exact ⟨r, rs, s1, s2, rfl, e2, h1, h2⟩
theorem ownRs_nilI {H : Heap} {rows : List (List PV)} {S : List Nat} (h : ownRs H rows [] S) : rows = [] ∧ S = [] := by
  cases rows with
  | nil => exact ⟨rfl, h.2⟩
  | cons r rs => obtain ⟨_, _, _, _, e, _⟩ := h; cases e
/-- One row has been written. -/
theorem mark_step {H H1 H2 : Heap} {r1 r2 : List (List PV)} {row' : List PV} {q1 q2 : List (List PV)} {qr : List PV} {S1 s S2 : List Nat} {o n : Nat} (hnd : (o :: (S1 ++ (s ++ S2))).Nodup) (hlt : ∀ x ∈ S1 ++ (s ++ S2), x < n)
    (h1 : ownRs H r1 q1 S1) (h2 : ownRs H r2 q2 S2) (hp : ownPs H1 row' qr s) (fr : ∀ x, x < n → x ≠ o → x ∉ s → H1 x = H x) (fo : ∀ x, x ≠ o → H2 x = H1 x) : ownRs H2 (r1 ++ [row']) (q1 ++ [qr]) (S1 ++ s) ∧ ownRs H2 r2 q2 S2 := by
  rw [List.nodup_cons] at hnd
  obtain ⟨ho, hnd⟩ := hnd
  rw [List.nodup_append] at hnd
  obtain ⟨n1, n2, n3⟩ := hnd
  rw [List.nodup_append] at n2
  obtain ⟨m1, m2, m3⟩ := n2
  have away : ∀ x, x ∈ S1 ++ (s ++ S2) → x ≠ o := fun x hx e => ho (e ▸ hx)
  refine ⟨ownRs_append (ownRs_congr (fun x hx => ?_) h1) (ownRs_one (ownPs_congr (fun x hx => fo x (away x (by simp [hx]))) hp)), ownRs_congr (fun x hx => ?_) h2⟩
  · rw [fo x (away x (by simp [hx])), fr x (hlt x (by simp [hx])) (away x (by simp [hx])) (fun h => n3 x hx x (by simp [h]) rfl)]
  · rw [fo x (away x (by simp [hx])), fr x (hlt x (by simp [hx])) (away x (by simp [hx])) (fun h => m3 x h x hx rfl)]
/-- What is marked in pieces. -/
def mkQ : Int → List PieceM → List PieceM
  | _, [] => []
  | k, p :: l => ⟨runC k p.cs.length, k + 2 * p.cs.length, (k + 2 * p.cs.length + 1).tmod 3 == 0⟩ :: mkQ (k + 2 * p.cs.length + 2) l
def cntQ : List PieceM → Int
  | [] => 0
  | p :: l => 2 * p.cs.length + 2 + cntQ l
theorem cntQ_nn : ∀ l, 0 ≤ cntQ l
  | [] => Int.le_refl _
  | p :: l => by have := cntQ_nn l; simp only [cntQ]; omega
theorem pieces_app (a b : List PieceM) : pieces (a ++ b) = pieces a ++ pieces b := by simp [pieces]
theorem row_noScal {q0 : PV} {rows : List (List PV)} {s : List Nat} {H : Heap} (h : ownP H q0 (.sl rows) s) : scalB q0 = false := by
  cases q0 with
  | ob => rfl
  | sl => rfl
  | i => obtain ⟨_, e⟩ := h; cases e
  | b => obtain ⟨_, e⟩ := h; cases e
  | s => obtain ⟨_, e⟩ := h; cases e
theorem set_mid {α : Type} (r1 r2 : List α) (a b : α) {i : Nat} (h : r1.length = i) : (r1 ++ a :: r2).set i b = r1 ++ b :: r2 := by
  subst h; simp
theorem at_mid {α : Type} (r1 r2 : List α) (a : α) {i : Nat} (h : r1.length = i) : (r1 ++ a :: r2)[i]? = some a := by
  subst h; simp
/-- The tag of an array some of whose rows may own something. -/
def tagOk (t : Nat) (rows : List (List PV)) : Prop := t = 2 ∨ noObs rows
theorem tag_join {t : Nat} {rows : List (List PV)} (h : tagOk t rows) : tagOk (joinT t 1) rows := h.imp (fun e => by subst e; rfl) id
theorem tagOk_own {H : Heap} {o e : Nat} {ty : TypeId} {sz t : Nat} {rows q : List (List PV)} {S : List Nat} (h : H o = some (.arr e ty sz rows t)) (hr : ownRs H rows q S) (ht : tagOk t rows) (hq : ∀ r ∈ rows, ∃ p ∈ r, scalB p = false) (hf : fitR sz rows) (ht2 : rows = [] → t ≠ 2) : ownA H (.own o e) q (o :: S) := by
  refine .inl ⟨o, e, ty, sz, rows, t, S, rfl, h, rfl, hr, ht, fun hs => ?_, hf⟩
  · cases rows with
    | nil => exact ht2 rfl
    | cons r rs =>
      obtain ⟨p, hp, hs2⟩ := hq r List.mem_cons_self
      rw [hs r List.mem_cons_self p hp] at hs2; cases hs2

theorem ownPs_ns {H : Heap} : ∀ {ps qs : List PV} {s : List Nat}, ownPs H ps qs s → (∃ q ∈ qs, scalB q = false) → ∃ p ∈ ps, scalB p = false
  | [], _, _, h, ⟨q, hq, _⟩ => by rw [h.1] at hq; simp at hq
  | p :: ps, _, _, ⟨q, qs', s1, s2, e1, _, h1, h2⟩, ⟨z, hz, hs⟩ => by
    subst e1
    rcases List.mem_cons.mp hz with rfl | hz
    · refine ⟨p, List.mem_cons_self, ?_⟩
      cases q0 : scalB p with
      | false => rfl
      | true => obtain ⟨_, rfl⟩ := ownP_scal q0 h1; rw [q0] at hs; cases hs
    · obtain ⟨p', g1, g2⟩ := ownPs_ns h2 ⟨z, hz, hs⟩
      exact ⟨p', List.mem_cons_of_mem _ g1, g2⟩
theorem ownRs_ns {H : Heap} : ∀ {rows q : List (List PV)} {S : List Nat}, ownRs H rows q S → (∀ r ∈ q, ∃ p ∈ r, scalB p = false) → ∀ r ∈ rows, ∃ p ∈ r, scalB p = false
  | [], _, _, _, _ => by simp
  | r :: rs, _, _, ⟨a, b, s1, s2, e1, _, h1, h2⟩, hq => fun x hx => by
    subst e1
    rcases List.mem_cons.mp hx with rfl | hx
    · exact ownPs_ns h1 (hq a List.mem_cons_self)
    · exact ownRs_ns h2 (fun y hy => hq y (List.mem_cons_of_mem _ hy)) x hx
theorem pieces_ns (l : List PieceM) : ∀ r ∈ pieces l, ∃ p ∈ r, scalB p = false := fun r hr => by
  obtain ⟨p, _, rfl⟩ := List.mem_map.mp hr
  exact ⟨_, List.mem_cons_self, rfl⟩
theorem mkQ_len : ∀ (k : Int) (l : List PieceM), (mkQ k l).length = l.length
  | _, [] => rfl
  | k, p :: l => by simp [mkQ, mkQ_len]
theorem noObs_join {t : Nat} {r1 r2 : List (List PV)} {a : List PV} {b a0 b0 : PV} (h : tagOk t (r1 ++ a :: r2)) (ha : a = [b, a0, b0]) (c1 c2 : PV) (hc1 : noOb c1 = true) (hc2 : noOb c2 = true) : tagOk t (r1 ++ [b, c1, c2] :: r2) := by
  rcases h with h | h1
  · exact .inl h
  · refine .inr fun r hr p hp => ?_
    rcases List.mem_append.mp hr with hr | hr
    · exact h1 r (List.mem_append.mpr (.inl hr)) p hp
    · rcases List.mem_cons.mp hr with rfl | hr
      · simp only [List.mem_cons, List.not_mem_nil, or_false] at hp
        rcases hp with rfl | rfl | rfl
        · exact h1 a (by simp) _ (by rw [ha]; simp)
        · exact hc1
        · exact hc2
      · exact h1 r (List.mem_append.mpr (.inr (List.mem_cons_of_mem _ hr))) p hp
theorem markPieceS_m (G : Gv) (l : List PieceM) (k : Int) (hl : l.length < 1000000000) (hc : ∀ p ∈ l, p.cs.length < 1000000000) (hk0 : 0 ≤ k) (hk : k + cntQ l < 1000000000000) :
    Marks Tryz.prog G 80 (.sl 1 (pieces l)) (.sl 1 (pieces (mkQ k l))) k (k + cntQ l) := by
  intro x H0 n0 S hx hn hS
  rcases ownX_un hx with ⟨o, e, ty, sz, rows0, t0, S', rfl, hH0, rfl, hR0, ht0, ht0', hf0⟩ | ⟨hx', hq, rfl⟩
  · have hlen := pieces_len l
    have hr0l := ownRs_len hR0
    have htag0 : tagOk t0 rows0 := ht0
    have hnil0 : rows0 = [] → t0 ≠ 2 := fun e => ht0' (by rw [e]; intro r hr; simp at hr)
    have hon : o < n0 := hS o List.mem_cons_self
    have hSn : ∀ x ∈ S', x < n0 := fun x hx => hS x (List.mem_cons_of_mem _ hx)
    clear hx ht0 ht0' hS
    replace hn := Hid.mk hn
    replace hSn := Hid.mk hSn
    replace hc := Hid.mk hc
    replace hnil0 := Hid.mk hnil0
    refine (.body Tryz.func80 rfl (by simp [Tryz.ntmps80]) ?_)
    rw [Tryz.ntmps80, Tryz.results80]
    refine AL ?_
    refine .loop (.inv (fun d E H n' => ∃ (i t' : Nat) (r1 r2 : List (List PV)) (S1 S2 : List Nat) (D : List PieceM) (k' : Int), i + d = l.length ∧ E 0 = .own o e ∧ E 1 = .i .i64 k' ∧ E 5 = .i .i64 i ∧ H o = some (.arr e ty sz (r1 ++ r2) t') ∧ n0 ≤ n' ∧ (r1.length = i ∧ D.length = i ∧ (r1 ++ r2).length = l.length ∧ (l = [] → t' ≠ 2)) ∧ tagOk t' (r1 ++ r2) ∧ fitR sz (r1 ++ r2) ∧
        (S' = S1 ++ S2 ∧ ownRs H r1 (pieces D) S1 ∧ ownRs H r2 (pieces (l.drop i)) S2) ∧ (D ++ mkQ k' (l.drop i) = mkQ k l ∧ k' + cntQ (l.drop i) = k + cntQ l ∧ 0 ≤ k') ∧ ∀ o', o' < n0 → o' ∉ o :: S' → H o' = H0 o') l.length ?_ ?_)
    · refine ⟨0, t0, [], rows0, [], S', [], k, by omega, by simp [setF_if, argE], by simp [setF_if, argE], by simp [setF_if, argE], by simpa using hH0, by omega, ⟨rfl, rfl, by simp [hr0l, hlen], fun e => hnil0.out ?_⟩, by simpa using htag0, by simpa using hf0, ⟨rfl, ⟨rfl, rfl⟩, by simpa using hR0⟩, ⟨rfl, rfl, hk0⟩, fun _ _ _ => rfl⟩
      subst e; exact List.length_eq_zero_iff.mp (by rw [hr0l]; rfl)
    clear hH0 hR0 htag0 hf0
    rintro d E H n' ⟨i, t', r1, r2, S1, S2, D, k', hi, h0, h1, h5, hH, hn', ⟨hr1, hD, hrl, hnil⟩, htag, hfit, hown, hnum, hfr⟩
    replace hfr := Hid.mk hfr
    replace htag := Hid.mk htag
    replace hfit := Hid.mk hfit
    replace hown := Hid.mk hown
    replace hnum := Hid.mk hnum
    replace hnil := Hid.mk hnil
    replace hr1 := Hid.mk hr1
    replace hD := Hid.mk hD
    by_cases c : (i : Int) < l.length
    · have hw_i : IntKind.i64.wrap ((i : Int) + 1) = (i : Int) + 1 := wr64 (by omega) (by omega)
      obtain ⟨p, hp⟩ : ∃ p, l[i]? = some p := ⟨_, List.getElem?_eq_getElem (by omega)⟩
      have hpl := hc.out p (List.mem_of_getElem? hp)
      obtain ⟨hS', hr1o, hr2o⟩ := hown.out
      obtain ⟨hN1, hN2, hN3⟩ := hnum.out
      rw [drop_cons hp] at hr2o hN1 hN2
      obtain ⟨row, r2, s, S2, rfl, rfl, hrow, hr2n⟩ := ownRs_consI hr2o
      clear hr2o
      obtain ⟨q0, ps, s, s', rfl, rfl, hq0, hps⟩ := ownPs_consI hrow
      obtain ⟨p1, ps, s1, s', rfl, rfl, hp1, hps1⟩ := ownPs_consI hps
      obtain ⟨p2, ps, s2, s', rfl, rfl, hp2, hps2⟩ := ownPs_consI hps1
      obtain ⟨rfl, rfl⟩ := ownPs_nilI hps2
      obtain ⟨rfl, rfl⟩ := ownP_isI hp1
      obtain ⟨rfl, rfl⟩ := ownP_isB hp2
      clear hp1 hp2 hps hps1 hps2 hrow
      simp only [List.nil_append, List.append_nil] at hS'
      have hcnt := cntQ_nn (l.drop (i + 1))
      simp only [mkQ, cntQ] at hN1 hN2
      have hsz : sz = 3 := by have := hfit.out [q0, .i .i64 p.k, .b p.b] (by simp); simpa using this.symm
      subst hsz
      have hro : (r1 ++ [q0, .i .i64 p.k, .b p.b] :: r2)[i]? = some [q0, .i .i64 p.k, .b p.b] := at_mid _ _ _ hr1.out
      have cN : i < l.length := by omega
      have hw1 : IntKind.i64.wrap (k' + 2 * (p.cs.length : Int) + 1) = k' + 2 * (p.cs.length : Int) + 1 := wr64 (by omega) (by omega)
      have hw2 : IntKind.i64.wrap (k' + 2 * (p.cs.length : Int) + 1 + 1) = k' + 2 * (p.cs.length : Int) + 2 := by rw [wr64 (by omega) (by omega)]; omega
      have hz := ownP_load hq0 (ftag t')
      obtain ⟨row', hrow'⟩ : ∃ row', row' = [q0, .i .i64 (k' + 2 * (p.cs.length : Int)), .b ((k' + 2 * (p.cs.length : Int) + 1).tmod 3 == 0)] := ⟨_, rfl⟩
      have hset : ((r1 ++ [q0, .i .i64 p.k, .b p.b] :: r2).set i [q0, .i .i64 (k' + 2 * (p.cs.length : Int)), .b p.b]).set i [q0, .i .i64 (k' + 2 * (p.cs.length : Int)), .b ((k' + 2 * (p.cs.length : Int) + 1).tmod 3 == 0)] = r1 ++ row' :: r2 := by rw [set_mid _ _ _ _ hr1.out, set_mid _ _ _ _ hr1.out, hrow']
      have hro2 : ((r1 ++ [q0, .i .i64 p.k, .b p.b] :: r2).set i [q0, .i .i64 (k' + 2 * (p.cs.length : Int)), .b p.b])[i]? = some [q0, .i .i64 (k' + 2 * (p.cs.length : Int)), .b p.b] := by rw [set_mid _ _ _ _ hr1.out]; exact at_mid _ _ _ hr1.out
      have hrl2 : ((r1 ++ [q0, .i .i64 p.k, .b p.b] :: r2).set i [q0, .i .i64 (k' + 2 * (p.cs.length : Int)), .b p.b]).length = l.length := by rw [List.length_set]; exact hrl
      have htag2 : tagOk (joinT (joinT t' 1) 1) (r1 ++ row' :: r2) := by rw [hrow']; exact tag_join <| tag_join <| noObs_join htag.out rfl _ _ rfl rfl
      have hfit2 : fitR 3 (r1 ++ row' :: r2) := fun r hr => by
        rcases List.mem_append.mp hr with hr | hr
        · exact hfit.out r (List.mem_append.mpr (.inl hr))
        · rcases List.mem_cons.mp hr with rfl | hr
          · rw [hrow']; rfl
          · exact hfit.out r (List.mem_append.mpr (.inr (List.mem_cons_of_mem _ hr)))
      have hnd : (o :: (S1 ++ (s ++ S2))).Nodup := by rw [← hS']; exact hn.out
      have hlt : ∀ x ∈ S1 ++ (s ++ S2), x < n0 := by rw [← hS']; exact hSn.out
      have hos : o ∉ s := fun h => by rw [List.nodup_cons] at hnd; exact hnd.1 (by simp [h])
      have hsn : s.Nodup := by
        rw [List.nodup_cons, List.nodup_append, List.nodup_append] at hnd; exact hnd.2.2.1.1
      generalize r1 ++ [q0, .i .i64 p.k, .b p.b] :: r2 = R at hH hro hset hro2 hrl2 hrl
      generalize hR1 : R.set i [q0, .i .i64 (k' + 2 * (p.cs.length : Int)), .b p.b] = R1 at hset hro2 hrl2
      replace htag2 := Hid.mk htag2
      replace hfit2 := Hid.mk hfit2
      replace hnd := Hid.mk hnd
      replace hlt := Hid.mk hlt
      replace hos := Hid.mk hos
      replace hsn := Hid.mk hsn
      replace hq0 := Hid.mk hq0
      replace hr1o := Hid.mk hr1o
      replace hr2n := Hid.mk hr2n
      replace hS' := Hid.mk hS'
      replace hrow' := Hid.mk hrow'
      replace hp := Hid.mk hp
      replace hz := Hid.mk hz
      replace hN1 := Hid.mk hN1
      obtain ⟨T, hT⟩ : ∃ T, T = joinT (joinT t' 1) 1 := ⟨_, rfl⟩
      replace hT := Hid.mk hT
      refine AL ?_
      refine CI ?_
      refine (markCellS_m G p.cs k' hpl (by omega) (by omega) _ H _ s hz.out hsn.out (fun x hx => by have := hlt.out x (by simp [hx]); omega)).mono ?_
      rintro _ H1 m ⟨rfl, hm, hz1, hf1⟩
      have hH1 := hf1 o (by omega) hos.out
      rw [hH] at hH1
      replace hf1 := Hid.mk hf1
      replace hz1 := Hid.mk hz1
      clear hH
      refine AL ?_
      have hq1 := ownP_back hq0.out hz1.out (cells_scal _)
      have hp' : ownPs H1 row' (pieceR ⟨runC k' p.cs.length, k' + 2 * p.cs.length, (k' + 2 * p.cs.length + 1).tmod 3 == 0⟩) s := by
        rw [hrow'.out, ← List.append_nil s]
        exact ownPs_cons hq1 (ownPs_scal_mk (by simp [scalB]))
      have hlt2 : ∀ x ∈ S1 ++ (s ++ S2), x < n' := fun x hx => Nat.lt_of_lt_of_le (hlt.out x hx) hn'
      have hfr2 : ∀ x, x < n' → x ≠ o → x ∉ s → H1 x = H x := fun x hx _ hs => hf1.out x (by omega) hs
      refine ⟨l.length - (i + 1), by omega, i + 1, T, r1 ++ [row'], r2, S1 ++ s, S2, D ++ [⟨runC k' p.cs.length, k' + 2 * p.cs.length, (k' + 2 * p.cs.length + 1).tmod 3 == 0⟩], k' + 2 * p.cs.length + 2, by omega, by simp [setF_if, *], by simp [setF_if, *], by simp [setF_if, *], ?_, by omega, ⟨by simp [hr1.out], by simp [hD.out], ?_, fun e => by rw [e] at cN; simp at cN⟩, ?_, ?_, ⟨?_, ?_, ?_⟩, ⟨?_, by omega, by omega⟩, ?_⟩
      · rw [hT.out]; simp [upd_if, joinT]
      · have := congrArg List.length hset
        simp only [List.length_set, hrl2] at this
        simp only [List.append_assoc, List.singleton_append]; exact this.symm
      · rw [hT.out]; simpa using htag2.out
      · simpa using hfit2.out
      · rw [hS'.out]; simp
      · rw [pieces_app]
        exact (mark_step hnd.out hlt2 hr1o.out hr2n.out hp' hfr2 (fun x hx => by rw [upd_if, if_neg hx, upd_if, if_neg hx])).1
      · exact (mark_step hnd.out hlt2 hr1o.out hr2n.out hp' hfr2 (fun x hx => by rw [upd_if, if_neg hx, upd_if, if_neg hx])).2
      · simpa using hN1.out
      · intro o' h1 h2
        have h3 : o' ≠ o := fun e => h2 (by rw [e]; exact List.mem_cons_self)
        rw [upd_if, if_neg h3, upd_if, if_neg h3, hf1.out o' (by omega) (fun h => h2 (List.mem_cons_of_mem _ (by rw [hS'.out]; simp [h])))]
        exact hfr.out o' h1 h2
    · refine AL ?_
      have ei : i = l.length := by omega
      obtain ⟨hS', hr1o, hr2o⟩ := hown.out
      obtain ⟨hN1, hN2, hN3⟩ := hnum.out
      rw [ei, List.drop_length] at hr2o hN1 hN2
      obtain ⟨rfl, rfl⟩ := ownRs_nilI hr2o
      simp only [mkQ, cntQ, List.append_nil] at hN1 hN2 hS' hH
      subst hS' hN1
      have ht := htag.out
      have hf := hfit.out
      rw [List.append_nil] at ht hf
      refine ⟨by simp [retA, setF_if, h1]; omega, by omega, ownX_sl (tagOk_own hH hr1o ht (ownRs_ns hr1o (pieces_ns _)) hf ?_), fun o' h1 h2 => hfr.out o' h1 h2⟩
      intro e
      refine hnil.out (List.length_eq_zero_iff.mp ?_)
      have := hr1.out
      rw [e] at this; simp at this; omega
  · obtain rfl : l = [] := by
      cases l with
      | nil => rfl
      | cons x l => simp [pieces] at hq
    clear hx
    rcases hx' with rfl | ⟨t, rfl⟩
    all_goals
      refine (.body Tryz.func80 rfl (by simp [Tryz.ntmps80]) ?_)
      rw [Tryz.ntmps80, Tryz.results80]
      refine AL ?_
      refine .loop (.inv (fun d E H n' => E 0 = (_ : AV) ∧ E 1 = .i .i64 k ∧ E 5 = .i .i64 0 ∧ n0 ≤ n' ∧ ∀ o, H o = H0 o) 0 ⟨by simp [setF_if, argE]; rfl, by simp [setF_if, argE], by simp [setF_if, argE], by omega, fun _ => rfl⟩ ?_)
      rintro d E H n' ⟨h0, h1, h5, hn', hfr⟩
      replace hfr := Hid.mk hfr
      have c : ¬ ((0 : Int) < ((0 : Nat) : Int)) := by omega
      refine AL ?_
      exact ⟨by simp [retA, setF_if, h1, cntQ], by omega, ownX_sl (.inr ⟨by first | exact .inl rfl | exact .inr ⟨_, rfl⟩, rfl, rfl⟩), fun o' _ _ => hfr.out o'⟩
end Go.Proofs
end
section
open Go Go.Big
namespace Go.Proofs
set_option maxHeartbeats 2000000
def listsR (w : List (List Int)) : List (List PV) := w.map fun x => [.sl (ints x)]
theorem listsR_len (w : List (List Int)) : (listsR w).length = w.length := by simp [listsR]
theorem listsR_at {w : List (List Int)} {i : Nat} {x : List Int} (h : w[i]? = some x) : (listsR w)[i]? = some [.sl (ints x)] := by simp [listsR, h]
theorem listsR_app (a : List (List Int)) (x : List Int) : listsR (a ++ [x]) = listsR a ++ [[.sl (ints x)]] := by simp [listsR]
theorem listsR_ns (l : List (List Int)) : ∀ r ∈ listsR l, ∃ p ∈ r, scalB p = false := fun r hr => by
  obtain ⟨p, _, rfl⟩ := List.mem_map.mp hr
  exact ⟨_, List.mem_cons_self, rfl⟩
def cntL : List (List Int) → Int
  | [] => 0
  | x :: w => x.length + cntL w
def mkL (k : Int) : List (List Int) → List (List Int)
  | [] => []
  | x :: w => runI k x.length :: mkL (k + x.length) w
theorem cntL_nn : ∀ w, 0 ≤ cntL w
  | [] => Int.le_refl _
  | x :: w => by have := cntL_nn w; simp only [cntL]; omega
theorem mkL_len : ∀ (k : Int) (w : List (List Int)), (mkL k w).length = w.length
  | _, [] => rfl
  | k, x :: w => by simp only [mkL, List.length_cons, mkL_len]
theorem eqInt64SS_fn (G : Gv) (w : List (List Int)) (hl : w.length < 1000000000) (hc : ∀ x ∈ w, x.length < 1000000000) : Gives Tryz.prog G 42 [.sl 0 (listsR w), .sl 0 (listsR w)] (.b true) := by
  refine .of (.body Tryz.func42 rfl (by simp [Tryz.ntmps42]) ?_)
  rw [Tryz.ntmps42, Tryz.results42]
  have hlen := listsR_len w
  have hn : ((w.length : Int) != w.length) = false := by simp
  replace hc := Hid.mk hc
  refine AL ?_
  refine .loop (.inv (fun d E H n' => ∃ i : Nat, i + d = w.length ∧ E 0 = .sl 0 (listsR w) ∧ E 1 = .sl 0 (listsR w) ∧ E 5 = .i .i64 i) w.length ?_ ?_)
  · exact ⟨0, by omega, by simp [setF_if, argE], by simp [setF_if, argE], by simp [setF_if, argE]⟩
  rintro d E H n' ⟨i, hi, h0, h1, h5⟩
  by_cases c : (i : Int) < w.length
  · have hw_i : IntKind.i64.wrap ((i : Int) + 1) = (i : Int) + 1 := wr64 (by omega) (by omega)
    obtain ⟨x, hx⟩ : ∃ x, w[i]? = some x := ⟨_, List.getElem?_eq_getElem (by omega)⟩
    have hro := listsR_at hx
    have hf := eqInt64S_fn G x (hc.out x (List.mem_of_getElem? hx))
    replace hx := Hid.mk hx
    replace hf := Hid.mk hf
    refine AL ?_
    refine CQ hf.out ?_
    refine AL ?_
    exact ⟨w.length - (i + 1), by omega, i + 1, by omega, by simp [setF_if, *], by simp [setF_if, *], by simp [setF_if, *]⟩
  · refine AL ?_
    simp [retA, backA, setF_if]
def coverA (t : Nat) (c q : Int) (w : List (List Int)) : AV := .ag [.i .i64 c, .i .i64 q, .sl t (listsR w)]
theorem eqCover_fn (G : Gv) (a b : Int) (w : List (List Int)) (hl : w.length < 1000000000) (hc : ∀ x ∈ w, x.length < 1000000000) : Gives Tryz.prog G 18 [.ag [.i .i64 a, .i .i64 b, .sl 0 (listsR w)], .ag [.i .i64 a, .i .i64 b, .sl 0 (listsR w)]] (.b true) := by
  refine .of (.body Tryz.func18 rfl (by simp [Tryz.ntmps18]) ?_)
  rw [Tryz.ntmps18, Tryz.results18]
  have hf := eqInt64SS_fn G w hl hc
  have hn1 : (a != a) = false := by simp
  have hn2 : (b != b) = false := by simp
  clear hc
  replace hf := Hid.mk hf
  refine AL ?_
  refine CV hf.out ?_
  refine AL ?_
  simp [retA, backA, setF_if]
theorem heldInt64SS_fn (G : Gv) (l : List (List Int)) (k : Int) (hl : l.length < 1000000000) (hc : ∀ p ∈ l, p.length < 1000000000) (hk0 : 0 ≤ k) (hk : k + cntL l < 1000000000000) :
    Gives Tryz.prog G 46 [.sl 0 (listsR (mkL k l)), .i .i64 k] (.i .i64 (k + cntL l)) := by
  refine .of (.body Tryz.func46 rfl (by simp [Tryz.ntmps46]) ?_)
  rw [Tryz.ntmps46, Tryz.results46]
  have hlen : (listsR (mkL k l)).length = l.length := by rw [listsR_len, mkL_len]
  replace hc := Hid.mk hc
  generalize hM : mkL k l = M at hlen
  replace hM := Hid.mk hM
  refine AL ?_
  refine .loop (.inv (fun d E H n' => ∃ (i : Nat) (k' : Int), i + d = l.length ∧ E 0 = .sl 0 (listsR M) ∧ E 1 = .i .i64 k' ∧ E 5 = .i .i64 i ∧ M.drop i = mkL k' (l.drop i) ∧ k' + cntL (l.drop i) = k + cntL l ∧ 0 ≤ k') l.length ?_ ?_)
  · exact ⟨0, k, by omega, by simp [setF_if, argE], by simp [setF_if, argE], by simp [setF_if, argE], by simp [hM.out], by simp, hk0⟩
  rintro d E H n' ⟨i, k', hi, h0, h1, h5, hd, hn, hk'⟩
  replace hn := Hid.mk hn
  replace hd := Hid.mk hd
  by_cases c : (i : Int) < l.length
  · have hw_i : IntKind.i64.wrap ((i : Int) + 1) = (i : Int) + 1 := wr64 (by omega) (by omega)
    obtain ⟨p, hp⟩ : ∃ p, l[i]? = some p := ⟨_, List.getElem?_eq_getElem (by omega)⟩
    have hpl := hc.out p (List.mem_of_getElem? hp)
    have hld := drop_cons hp
    have hd2 := hd.out
    have hn2 := hn.out
    rw [hld] at hd2 hn2
    simp only [mkL, cntL] at hd2 hn2
    have hnn := cntL_nn (l.drop (i + 1))
    have hro : (listsR M)[i]? = some [.sl (ints (runI k' p.length))] := listsR_at (by
      have : (M.drop i)[0]? = some (runI k' p.length) := by rw [hd2]; rfl
      rwa [List.getElem?_drop, Nat.add_zero] at this)
    have hd3 : M.drop (i + 1) = mkL (k' + p.length) (l.drop (i + 1)) := by
      rw [← List.drop_drop (i := 1), hd2]; rfl
    have hneg : ¬ (k' + (p.length : Int) < 0) := by omega
    have hcall := heldInt64S_fn G k' p.length hpl hk' (by omega)
    replace hcall := Hid.mk hcall
    replace hd2 := Hid.mk hd2
    replace hd3 := Hid.mk hd3
    replace hld := Hid.mk hld
    replace hp := Hid.mk hp
    replace hn2 := Hid.mk hn2
    replace hnn := Hid.mk hnn
    refine AL ?_
    refine CV hcall.out ?_
    refine AL ?_
    exact ⟨l.length - (i + 1), by omega, i + 1, k' + p.length, by omega, by simp [setF_if, *], by simp [setF_if, *], by simp [setF_if, *], hd3.out, by have := hn2.out; omega, by omega⟩
  · have ei : i = l.length := by omega
    have hn2 := hn.out
    rw [ei, List.drop_length] at hn2
    simp only [cntL] at hn2
    refine AL ?_
    simp [retA, backA, setF_if, h1]; omega
theorem heldCover_fn (G : Gv) (a b : Int) (l : List (List Int)) (k : Int) (hl : l.length < 1000000000) (hc : ∀ p ∈ l, p.length < 1000000000) (hk0 : 0 ≤ k) (hk : k + cntL l < 1000000000000) :
    Gives Tryz.prog G 22 [.ag [.i .i64 a, .i .i64 b, .sl 0 (listsR (mkL k l))], .i .i64 k] (.i .i64 (k + cntL l)) := by
  refine .of (.body Tryz.func22 rfl (by simp [Tryz.ntmps22]) ?_)
  rw [Tryz.ntmps22, Tryz.results22]
  have hf := heldInt64SS_fn G l k hl hc hk0 hk
  have hneg : ¬ (k + cntL l < 0) := by have := cntL_nn l; omega
  clear hc
  replace hf := Hid.mk hf
  refine AL ?_
  refine CV hf.out ?_
  refine AL ?_
  simp [retA, backA, setF_if]
theorem markInt64SS_m (G : Gv) (l : List (List Int)) (k : Int) (hl : l.length < 1000000000) (hc : ∀ p ∈ l, p.length < 1000000000) (hk0 : 0 ≤ k) (hk : k + cntL l < 1000000000000) :
    Marks Tryz.prog G 45 (.sl 1 (listsR l)) (.sl 1 (listsR (mkL k l))) k (k + cntL l) := by
  intro x H0 n0 S hx hn hS
  rcases ownX_un hx with ⟨o, e, ty, sz, rows0, t0, S', rfl, hH0, rfl, hR0, ht0, ht0', hf0⟩ | ⟨hx', hq, rfl⟩
  · have hlen := listsR_len l
    have hr0l := ownRs_len hR0
    have htag0 : tagOk t0 rows0 := ht0
    have hnil0 : rows0 = [] → t0 ≠ 2 := fun e => ht0' (by rw [e]; intro r hr; simp at hr)
    have hon : o < n0 := hS o List.mem_cons_self
    have hSn : ∀ x ∈ S', x < n0 := fun x hx => hS x (List.mem_cons_of_mem _ hx)
    clear hx ht0 ht0' hS
    replace hn := Hid.mk hn
    replace hSn := Hid.mk hSn
    replace hc := Hid.mk hc
    replace hnil0 := Hid.mk hnil0
    refine (.body Tryz.func45 rfl (by simp [Tryz.ntmps45]) ?_)
    rw [Tryz.ntmps45, Tryz.results45]
    refine AL ?_
    refine .loop (.inv (fun d E H n' => ∃ (i : Nat) (r1 r2 : List (List PV)) (S1 S2 : List Nat) (D : List (List Int)) (k' : Int), i + d = l.length ∧ E 0 = .own o e ∧ E 1 = .i .i64 k' ∧ E 5 = .i .i64 i ∧ H o = some (.arr e ty sz (r1 ++ r2) t0) ∧ n0 ≤ n' ∧ (r1.length = i ∧ D.length = i ∧ (r1 ++ r2).length = l.length ∧ (r1 ++ r2 = rows0)) ∧
        (S' = S1 ++ S2 ∧ ownRs H r1 (listsR D) S1 ∧ ownRs H r2 (listsR (l.drop i)) S2) ∧ (D ++ mkL k' (l.drop i) = mkL k l ∧ k' + cntL (l.drop i) = k + cntL l ∧ 0 ≤ k') ∧ ∀ o', o' < n0 → o' ∉ o :: S' → H o' = H0 o') l.length ?_ ?_)
    · exact ⟨0, [], rows0, [], S', [], k, by omega, by simp [setF_if, argE], by simp [setF_if, argE], by simp [setF_if, argE], by simpa using hH0, by omega, ⟨rfl, rfl, by simp [hr0l, hlen], rfl⟩, ⟨rfl, ⟨rfl, rfl⟩, by simpa using hR0⟩, ⟨rfl, rfl, hk0⟩, fun _ _ _ => rfl⟩
    clear hH0 hR0
    rintro d E H n' ⟨i, r1, r2, S1, S2, D, k', hi, h0, h1, h5, hH, hn', ⟨hr1, hD, hrl, hr0⟩, hown, hnum, hfr⟩
    replace hfr := Hid.mk hfr
    replace hown := Hid.mk hown
    replace hnum := Hid.mk hnum
    replace hr1 := Hid.mk hr1
    replace hr0 := Hid.mk hr0
    replace hD := Hid.mk hD
    replace htag0 := Hid.mk htag0
    replace hf0 := Hid.mk hf0
    by_cases c : (i : Int) < l.length
    · have hw_i : IntKind.i64.wrap ((i : Int) + 1) = (i : Int) + 1 := wr64 (by omega) (by omega)
      obtain ⟨p, hp⟩ : ∃ p, l[i]? = some p := ⟨_, List.getElem?_eq_getElem (by omega)⟩
      have hpl := hc.out p (List.mem_of_getElem? hp)
      obtain ⟨hS', hr1o, hr2o⟩ := hown.out
      obtain ⟨hN1, hN2, hN3⟩ := hnum.out
      rw [drop_cons hp] at hr2o hN1 hN2
      obtain ⟨row, r2, s, S2, rfl, rfl, hrow, hr2n⟩ := ownRs_consI hr2o
      clear hr2o
      obtain ⟨q0, ps, s, s', rfl, rfl, hq0, hps⟩ := ownPs_consI hrow
      obtain ⟨rfl, rfl⟩ := ownPs_nilI hps
      clear hps hrow
      simp only [List.nil_append, List.append_nil] at hS'
      have hcnt := cntL_nn (l.drop (i + 1))
      simp only [mkL, cntL] at hN1 hN2
      have hsz : sz = 1 := by have := hf0.out [q0] (by rw [← hr0.out]; simp); simpa using this.symm
      subst hsz
      have hro : (r1 ++ [q0] :: r2)[i]? = some [q0] := at_mid _ _ _ hr1.out
      have cN : i < l.length := by omega
      have hz := ownP_load hq0 (ftag t0)
      have hnd : (o :: (S1 ++ (s ++ S2))).Nodup := by rw [← hS']; exact hn.out
      have hlt : ∀ x ∈ S1 ++ (s ++ S2), x < n0 := by rw [← hS']; exact hSn.out
      have hos : o ∉ s := fun h => by rw [List.nodup_cons] at hnd; exact hnd.1 (by simp [h])
      have hsn : s.Nodup := by
        rw [List.nodup_cons, List.nodup_append, List.nodup_append] at hnd; exact hnd.2.2.1.1
      have hreq : r1 ++ [q0] :: r2 = (r1 ++ [[q0]]) ++ r2 := by simp
      have hmk := markInt64S_m G p k' hpl hN3 (by omega)
      replace hreq := Hid.mk hreq
      generalize hR : r1 ++ [q0] :: r2 = R at hH hro hrl
      replace hR := Hid.mk hR
      replace hmk := Hid.mk hmk
      replace hnd := Hid.mk hnd
      replace hlt := Hid.mk hlt
      replace hos := Hid.mk hos
      replace hsn := Hid.mk hsn
      replace hq0 := Hid.mk hq0
      replace hr1o := Hid.mk hr1o
      replace hr2n := Hid.mk hr2n
      replace hS' := Hid.mk hS'
      replace hp := Hid.mk hp
      replace hz := Hid.mk hz
      replace hN1 := Hid.mk hN1
      refine AL ?_
      refine CI ?_
      refine (hmk.out _ H _ s hz.out hsn.out (fun x hx => by have := hlt.out x (by simp [hx]); omega)).mono ?_
      rintro _ H1 m ⟨rfl, hm, hz1, hf1⟩
      have hH1 := hf1 o (by omega) hos.out
      rw [hH] at hH1
      replace hf1 := Hid.mk hf1
      replace hz1 := Hid.mk hz1
      clear hH
      refine AL ?_
      have hq1 := ownP_back hq0.out hz1.out (ints_scal _)
      have hp' : ownPs H1 [q0] [.sl (ints (runI k' p.length))] s := by
        rw [← List.append_nil s]
        exact ownPs_cons hq1 (ownPs_scal_mk (by simp))
      have hlt2 : ∀ x ∈ S1 ++ (s ++ S2), x < n' := fun x hx => Nat.lt_of_lt_of_le (hlt.out x hx) hn'
      have hfr2 : ∀ x, x < n' → x ≠ o → x ∉ s → H1 x = H x := fun x hx _ hs => hf1.out x (by omega) hs
      have hms := mark_step hnd.out hlt2 hr1o.out hr2n.out hp' hfr2 (H2 := H1) (fun x hx => rfl)
      have hRR : R = (r1 ++ [[q0]]) ++ r2 := by rw [← hR.out, hreq.out]
      refine ⟨l.length - (i + 1), by omega, i + 1, r1 ++ [[q0]], r2, S1 ++ s, S2, D ++ [runI k' p.length], k' + p.length, by omega, by simp [setF_if, *], by simp [setF_if, *], by simp [setF_if, *], by rw [← hRR]; exact hH1, by omega, ⟨by simp [hr1.out], by simp [hD.out], by rw [← hRR]; exact hrl, by rw [← hRR, ← hR.out]; exact hr0.out⟩, ⟨by rw [hS'.out]; simp, ?_, hms.2⟩, ⟨by simpa using hN1.out, by omega, by omega⟩, ?_⟩
      · rw [listsR_app]; exact hms.1
      · intro o' h1 h2
        rw [hf1.out o' (by omega) (fun h => h2 (List.mem_cons_of_mem _ (by rw [hS'.out]; simp [h])))]
        exact hfr.out o' h1 h2
    · refine AL ?_
      have ei : i = l.length := by omega
      obtain ⟨hS', hr1o, hr2o⟩ := hown.out
      obtain ⟨hN1, hN2, hN3⟩ := hnum.out
      rw [ei, List.drop_length] at hr2o hN1 hN2
      obtain ⟨rfl, rfl⟩ := ownRs_nilI hr2o
      simp only [mkL, cntL, List.append_nil] at hN1 hN2 hS' hH
      have hr0' := hr0.out
      rw [List.append_nil] at hr0'
      subst hS' hN1 hr0'
      exact ⟨by simp [retA, setF_if, h1]; omega, by omega, ownX_sl (tagOk_own hH hr1o htag0.out (ownRs_ns hr1o (listsR_ns _)) hf0.out hnil0.out), fun o' h1 h2 => hfr.out o' h1 h2⟩
  · obtain rfl : l = [] := by
      cases l with
      | nil => rfl
      | cons x l => simp [listsR] at hq
    clear hx
    rcases hx' with rfl | ⟨t, rfl⟩
    all_goals
      refine (.body Tryz.func45 rfl (by simp [Tryz.ntmps45]) ?_)
      rw [Tryz.ntmps45, Tryz.results45]
      refine AL ?_
      refine .loop (.inv (fun d E H n' => E 0 = (_ : AV) ∧ E 1 = .i .i64 k ∧ E 5 = .i .i64 0 ∧ n0 ≤ n' ∧ ∀ o, H o = H0 o) 0 ⟨by simp [setF_if, argE]; rfl, by simp [setF_if, argE], by simp [setF_if, argE], by omega, fun _ => rfl⟩ ?_)
      rintro d E H n' ⟨h0, h1, h5, hn', hfr⟩
      replace hfr := Hid.mk hfr
      have c : ¬ ((0 : Int) < ((0 : Nat) : Int)) := by omega
      refine AL ?_
      exact ⟨by simp [retA, setF_if, h1, cntL], by omega, ownX_sl (.inr ⟨by first | exact .inl rfl | exact .inr ⟨_, rfl⟩, rfl, rfl⟩), fun o' _ _ => hfr.out o'⟩
end Go.Proofs
end
section
open Go Go.Big
namespace Go.Proofs
set_option maxHeartbeats 2000000

theorem corner_fn (G : Gv) (l : List (Int × Int)) (h1 : 0 < l.length) (hl : l.length < 1000000000) : Gives Tryz.prog G 179 [.sl 0 (cells l)] (cellA (minF l l.length).1 (minF l l.length).2) := by
  refine .of (.body Tryz.func179 rfl (by simp [Tryz.ntmps179]) ?_)
  rw [Tryz.ntmps179, Tryz.results179]
  have hlen := cells_len l
  have hr0 := cells_at (l := l) (i := 0) h1
  have z : ((0 : Int).toNat) = 0 := rfl
  refine AL ?_
  refine .loop (.inv (fun d E H n' => ∃ i : Nat, i + d = l.length ∧ 4 < n' ∧ E 2 = .ptr 0 0 0 0 ∧ E 3 = .ptr 4 0 0 0 ∧ E 9 = .sl 0 (cells l) ∧ E 10 = .i .i64 l.length ∧ E 11 = .i .i64 i ∧ H 0 = some (.box 142 [.i .i64 0, .i .i64 0]) ∧ H 4 = some (.box 142 [.i .i64 (minF l i).1, .i .i64 (minF l i).2])) l.length ?_ ?_)
  · simp [setF_if, argE, upd_if, minF]
  rintro d E H n' ⟨i, hi, hn4, h2, h3, h9, h10, h11, hH0, hH4⟩
  have hn0 : 0 < n' := by omega
  by_cases c : (i : Int) < l.length
  · have hr := cells_at (l := l) (i := i) (by omega)
    have hw_i : IntKind.i64.wrap ((i : Int) + 1) = (i : Int) + 1 := wr64 (by omega) (by omega)
    have hs := minF_succ (l := l) (i := i) (by omega)
    refine AL ?_
    refine ⟨l.length - (i + 1), by omega, i + 1, by omega, ?_⟩
    simp [setF_if, upd_if, *, minI]
  · have e : i = l.length := by omega
    subst e
    refine AL ?_
    simp [retA, backA, backsA]
def maxI (a b : Int) : Int := if a < b then b else a
def maxF (l : List (Int × Int)) (i : Nat) : Int × Int := (l.take i).foldl (fun q p => (maxI q.1 p.1, maxI q.2 p.2)) (l.getD 0 (0, 0))
theorem maxF_succ {l : List (Int × Int)} {i : Nat} (h : i < l.length) : maxF l (i + 1) = (maxI (maxF l i).1 (l.getD i (0, 0)).1, maxI (maxF l i).2 (l.getD i (0, 0)).2) := by
  unfold maxF
  rw [List.take_succ_eq_append_getElem h, List.foldl_append]
  simp only [List.foldl_cons, List.foldl_nil, List.getD_eq_getElem?_getD, List.getElem?_eq_getElem h, Option.getD_some]
theorem reach_fn (G : Gv) (l : List (Int × Int)) (h1 : 0 < l.length) (hl : l.length < 1000000000) : Gives Tryz.prog G 176 [.sl 0 (cells l)] (cellA (maxF l l.length).1 (maxF l l.length).2) := by
  refine .of (.body Tryz.func176 rfl (by simp [Tryz.ntmps176]) ?_)
  rw [Tryz.ntmps176, Tryz.results176]
  have hlen := cells_len l
  have hr0 := cells_at (l := l) (i := 0) h1
  have z : ((0 : Int).toNat) = 0 := rfl
  refine AL ?_
  refine .loop (.inv (fun d E H n' => ∃ i : Nat, i + d = l.length ∧ 4 < n' ∧ E 2 = .ptr 0 0 0 0 ∧ E 3 = .ptr 4 0 0 0 ∧ E 9 = .sl 0 (cells l) ∧ E 10 = .i .i64 l.length ∧ E 11 = .i .i64 i ∧ H 0 = some (.box 142 [.i .i64 0, .i .i64 0]) ∧ H 4 = some (.box 142 [.i .i64 (maxF l i).1, .i .i64 (maxF l i).2])) l.length ?_ ?_)
  · simp [setF_if, argE, upd_if, maxF]
  rintro d E H n' ⟨i, hi, hn4, h2, h3, h9, h10, h11, hH0, hH4⟩
  have hn0 : 0 < n' := by omega
  by_cases c : (i : Int) < l.length
  · have hr := cells_at (l := l) (i := i) (by omega)
    have hw_i : IntKind.i64.wrap ((i : Int) + 1) = (i : Int) + 1 := wr64 (by omega) (by omega)
    have hs := maxF_succ (l := l) (i := i) (by omega)
    refine AL ?_
    refine ⟨l.length - (i + 1), by omega, i + 1, by omega, ?_⟩
    simp [setF_if, upd_if, *, maxI]
  · have e : i = l.length := by omega
    subst e
    refine AL ?_
    simp [retA, backA, backsA]
/-- The width and the height, as the reference takes them. -/
def sizeF (l : List (Int × Int)) (q : Int × Int) (i : Nat) : Int × Int := (l.take i).foldl (fun s p => (maxI s.1 (IntKind.i64.wrap (IntKind.i64.wrap (p.1 - q.1) + 1)), maxI s.2 (IntKind.i64.wrap (IntKind.i64.wrap (p.2 - q.2) + 1)))) (0, 0)
theorem sizeF_succ {l : List (Int × Int)} {q : Int × Int} {i : Nat} (h : i < l.length) : sizeF l q (i + 1) = (maxI (sizeF l q i).1 (IntKind.i64.wrap (IntKind.i64.wrap ((l.getD i (0, 0)).1 - q.1) + 1)), maxI (sizeF l q i).2 (IntKind.i64.wrap (IntKind.i64.wrap ((l.getD i (0, 0)).2 - q.2) + 1))) := by
  unfold sizeF
  rw [List.take_succ_eq_append_getElem h, List.foldl_append]
  simp only [List.foldl_cons, List.foldl_nil, List.getD_eq_getElem?_getD, List.getElem?_eq_getElem h, Option.getD_some]
def sizeM (l : List (Int × Int)) : Int × Int := sizeF l (minF l l.length) l.length
theorem l04Size_fn (G : Gv) (l : List (Int × Int)) (h1 : 0 < l.length) (hl : l.length < 1000000000) : Gives Tryz.prog G 171 [.sl 0 (cells l)] (.tup [.i .i64 (sizeM l).1, .i .i64 (sizeM l).2]) := by
  refine .of (.body Tryz.func171 rfl (by simp [Tryz.ntmps171]) ?_)
  rw [Tryz.ntmps171, Tryz.results171]
  have hlen := cells_len l
  unfold sizeM
  refine AL ?_
  refine CV (l02Least_fn G _ h1 hl) ?_
  refine AL ?_
  refine .loop (.inv (fun d E H n' => ∃ i : Nat, i + d = l.length ∧ E 0 = .sl 0 (cells l) ∧ E 4 = .i .i64 (minF l l.length).1 ∧ E 5 = .i .i64 (minF l l.length).2 ∧ E 6 = .i .i64 (sizeF l (minF l l.length) i).1 ∧ E 7 = .i .i64 (sizeF l (minF l l.length) i).2 ∧ E 8 = .i .i64 i) l.length ?_ ?_)
  · simp [setF_if, argE, upd_if, sizeF]
  rintro d E H n' ⟨i, hi, h0, h4, h5, h6, h7, h8⟩
  by_cases c : (i : Int) < l.length
  · have hr := cells_at (l := l) (i := i) (by omega)
    have hw_i : IntKind.i64.wrap ((i : Int) + 1) = (i : Int) + 1 := wr64 (by omega) (by omega)
    have hs := sizeF_succ (l := l) (q := minF l l.length) (i := i) (by omega)
    generalize minF l l.length = q at *
    refine AL ?_
    refine ⟨l.length - (i + 1), by omega, i + 1, by omega, ?_⟩
    simp [setF_if, upd_if, *, maxI]
  · have e : i = l.length := by omega
    subst e
    refine AL ?_
    simp [retA, backA, backsA]
def regionM (l : List (Int × Int)) : Bool := shapeM l && (minF l l.length == (0, 0)) && (decide ((maxF l l.length).1 < 20) && decide ((maxF l l.length).2 < 20))
def regionS (l : List (Int × Int)) : Bool := shapeM l && ((minF l l.length).1 == 0 && (minF l l.length).2 == 0 && decide ((sizeM l).1 ≤ 20) && decide ((sizeM l).2 ≤ 20))
theorem shapeM_pos {l : List (Int × Int)} (h : shapeM l = true) : 0 < l.length := by
  unfold shapeM at h; simp only [Bool.and_eq_true, decide_eq_true_eq] at h; omega
theorem implIsRegion_fn (G : Gv) (l : List (Int × Int)) (hl : l.length < 1000000000) : Gives Tryz.prog G 118 [.sl 0 (cells l)] (.b (regionM l)) := by
  refine .of (.body Tryz.func118 rfl (by simp [Tryz.ntmps118]) ?_)
  rw [Tryz.ntmps118, Tryz.results118]
  refine AL ?_
  refine CV (implIsShape_fn G _ hl) ?_
  by_cases c : shapeM l = true
  · refine AL ?_
    refine CV (corner_fn G _ (shapeM_pos c) hl) ?_
    by_cases c1 : ((minF l l.length).1 == 0 && (minF l l.length).2 == 0) = true
    · refine AL ?_
      refine CV (reach_fn G _ (shapeM_pos c) hl) ?_
      have e : minF l l.length = (0, 0) := by simp only [Bool.and_eq_true, beq_iff_eq] at c1; exact Prod.ext c1.1 c1.2
      by_cases c2 : (maxF l l.length).1 < 20
      · refine AL ?_
        simp [retA, backA, regionM, c, e, c2]
      · refine AL ?_
        simp [retA, backA, regionM, c, e, c2]
    · refine AL ?_
      have e : ¬ minF l l.length = (0, 0) := fun e => c1 (by rw [e]; rfl)
      simp [retA, backA, regionM, c, e]
  · refine AL ?_
    simp [retA, backA, regionM, c]
theorem specIsRegion_fn (G : Gv) (l : List (Int × Int)) (hl : l.length < 1000000000) : Gives Tryz.prog G 111 [.sl 0 (cells l)] (.b (regionS l)) := by
  refine .of (.body Tryz.func111 rfl (by simp [Tryz.ntmps111]) ?_)
  rw [Tryz.ntmps111, Tryz.results111]
  refine AL ?_
  refine CV (specIsShape_fn G _ hl) ?_
  by_cases c : shapeM l = true
  · refine AL ?_
    refine CV (l04Size_fn G _ (shapeM_pos c) hl) ?_
    refine AL ?_
    refine CV (l02Least_fn G _ (shapeM_pos c) hl) ?_
    by_cases c1 : ((minF l l.length).1 == 0) = true <;> by_cases c2 : ((minF l l.length).2 == 0) = true <;> by_cases c3 : (sizeM l).1 ≤ 20
    all_goals
      refine AL ?_
      simp [retA, backA, regionS, c, *]
  · refine AL ?_
    simp [retA, backA, regionS, c]
end Go.Proofs
end
section
open Go Go.Big
namespace Go.Proofs
set_option maxHeartbeats 2000000
theorem moved_take {l : List (Int × Int)} {i : Nat} (a b : Int) (h : i < l.length) : cells (movedM (l.take i) a b) ++ [[.i .i64 (IntKind.i64.wrap ((l.getD i (0, 0)).1 + a)), .i .i64 (IntKind.i64.wrap ((l.getD i (0, 0)).2 + b))]] = cells (movedM (l.take (i + 1)) a b) := by
  rw [List.take_succ_eq_append_getElem h]; simp only [cells, movedM, List.map_append, List.map_cons, List.map_nil, List.getD_eq_getElem?_getD, List.getElem?_eq_getElem h, Option.getD_some]
theorem l02Move_fn (G : Gv) (l : List (Int × Int)) (a b : Int) (hl : l.length < 1000000000) : Gives Tryz.prog G 164 [.sl 0 (cells l), .i .i64 a, .i .i64 b] (.sl 1 (cells (movedM l a b))) := by
  refine .of (.body Tryz.func164 rfl (by simp [Tryz.ntmps164]) ?_)
  rw [Tryz.ntmps164, Tryz.results164]
  have hlen := cells_len l
  refine AL ?_
  refine .loop (.inv (fun d E H n' => ∃ i : Nat, i + d = l.length ∧ 1 < n' ∧ E 0 = .sl 0 (cells l) ∧ E 1 = .i .i64 a ∧ E 2 = .i .i64 b ∧ E 8 = .i .i64 i ∧ ∃ e, E 7 = .own 1 e ∧ H 1 = some (.arr e 142 2 (cells (movedM (l.take i) a b)) 1)) l.length ?_ ?_)
  · simp [setF_if, argE, upd_if, movedM, cells]
  rintro d E H n' ⟨i, hi, hn1, h0, h1, h2, h8, e, h7, hH⟩
  by_cases c : (i : Int) < l.length
  · have hr := cells_at (l := l) (i := i) (by omega)
    have hw_i : IntKind.i64.wrap ((i : Int) + 1) = (i : Int) + 1 := wr64 (by omega) (by omega)
    have hrl : (cells (movedM (l.take i) a b)).length = i := by simp [cells, movedM]; omega
    have hb : (i + 1) * 16 ≤ 140737488355328 := by omega
    have htk := moved_take (l := l) (i := i) a b (by omega)
    generalize l.getD i (0, 0) = p at hr htk
    refine AM ?_
    refine ⟨l.length - (i + 1), by omega, i + 1, by omega, ?_⟩
    simp [setF_if, upd_if, *]
  · have e' : i = l.length := by omega
    subst e'
    refine AL ?_
    simp [retA, backA, newSl, newB, hH, List.take_length]
def normM (l : List (Int × Int)) : List (Int × Int) := movedM l (IntKind.i64.wrap (0 - (minF l l.length).1)) (IntKind.i64.wrap (0 - (minF l l.length).2))
theorem movedM_len (l : List (Int × Int)) (a b : Int) : (movedM l a b).length = l.length := by simp [movedM]
theorem l02Normal_fn (G : Gv) (l : List (Int × Int)) (h1 : 0 < l.length) (hl : l.length < 1000000000) : Gives Tryz.prog G 172 [.sl 0 (cells l)] (.sl 1 (cells (normM l))) := by
  refine .of (.body Tryz.func172 rfl (by simp [Tryz.ntmps172]) ?_)
  rw [Tryz.ntmps172, Tryz.results172]
  refine AL ?_
  refine CV (l02Least_fn G _ h1 hl) ?_
  refine AL ?_
  refine CV (l02Move_fn G _ _ _ hl) ?_
  refine AL ?_
  simp [retA, backA, newSl, newB, normM]
theorem normal_fn (G : Gv) (l : List (Int × Int)) (h1 : 0 < l.length) (hl : l.length < 1000000000) : Gives Tryz.prog G 175 [.sl 0 (cells l)] (.sl 1 (cells (normM l))) := by
  refine .of (.body Tryz.func175 rfl (by simp [Tryz.ntmps175]) ?_)
  rw [Tryz.ntmps175, Tryz.results175]
  refine AL ?_
  refine CV (corner_fn G _ h1 hl) ?_
  refine AL ?_
  refine CV (moved_fn G _ _ _ hl) ?_
  refine AL ?_
  simp [retA, backA, newSl, newB, normM]
end Go.Proofs
end
