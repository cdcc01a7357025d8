/- Walks: The permutation of a turn: both programs. No condition. | Whole numbers sorted: both programs; placements turned. No condition. | All placements of a piece: the one program; what it makes is the caller's. No condition. -/
import Derived.Test.YtdbkkjoejomcmaaGreatBO
import Derived.Test.YtdbkkjoejomcmaaGreatWk9
import Derived.Test.YtdbkkjoejomcmaaGreatWk2
import Derived.Test.YtdbkkjoejomcmaaGreatWk1
import Derived.Test.YtdbkkjoejomcmaaGreatWk4
import Derived.Test.YtdbkkjoejomcmaaGreatWk5
import Derived.Test.YtdbkkjoejomcmaaGreatWk6
import Derived.Test.YtdbkkjoejomcmaaGreatWk8
import Derived.Test.YtdbkkjoejomcmaaGreatBigSortI
import Derived.Test.YtdbkkjoejomcmaaGreatBC
import Derived.Test.YtdbkkjoejomcmaaGreatWk7
set_option linter.unusedVariables false
set_option linter.unusedSimpArgs false
section
open Go Go.Big
namespace Go.Proofs
set_option maxHeartbeats 2000000
def numsM (r : Shape) (t : Nat) : Option (List Int) := setM r (normM (turnL r t))
theorem turnL_length (r : Shape) (t : Nat) : (turnL r t).length = r.length := by simp [turnL]
theorem l10Numbers_fn (G : Gv) (r : Shape) (t : Nat) (h1 : 0 < r.length) (hr : r.length < 1000000000) : Gives Tryz.prog G 143 [.sl 0 (cells r), .i .i64 t] (setA (numsM r t)) := by
  refine .of (.body Tryz.func143 rfl (by simp [Tryz.ntmps143]) ?_)
  rw [Tryz.ntmps143, Tryz.results143]
  have hlen := cells_len r
  refine AL ?_
  refine .loop (.inv (fun d E H n' => ∃ i : Nat, i + d = r.length ∧ 2 < n' ∧ E 0 = .sl 0 (cells r) ∧ E 1 = .i .i64 t ∧ E 7 = .i .i64 i ∧ ∃ e, E 6 = .own 2 e ∧ H 2 = some (.arr e 117 2 (cells (turnL (r.take i) t)) 1)) r.length ?_ ?_)
  · simp [setF_if, argE, upd_if, turnL, cells]
  rintro d E H n' ⟨i, hi, hn1, h0, h1', h6, e, h5, hH⟩
  by_cases c : (i : Int) < r.length
  · have hro := cells_at (l := r) (i := i) (by omega)
    have hw_i : IntKind.i64.wrap ((i : Int) + 1) = (i : Int) + 1 := wr64 (by omega) (by omega)
    have hrl : (cells (turnL (r.take i) t)).length = i := by simp [cells, turnL]; omega
    have hb : (i + 1) * 16 ≤ 140737488355328 := by omega
    have htk := turn_take (l := r) (i := i) t (by omega)
    generalize r.getD i (0, 0) = p at hro htk
    refine AL ?_
    refine CV (l03Turn_fn G _ _ _) ?_
    refine AL ?_
    refine ⟨r.length - (i + 1), by omega, i + 1, by omega, ?_⟩
    simp [setF_if, upd_if, *]
  · have e' : i = r.length := by omega
    subst e'
    rw [List.take_length] at hH
    have k1 : 0 < (turnL r t).length := by rw [turnL_len]; exact h1
    have k2 : (turnL r t).length < 1000000000 := by rw [turnL_len]; exact hr
    refine AL ?_
    refine CV (l02Least_fn G _ k1 k2) ?_
    refine AL ?_
    refine CV (l02Move_fn G _ _ _ k2) ?_
    have hcsd : movedM (turnL r t) (IntKind.i64.wrap (0 - (minF (turnL r t) (turnL r t).length).1)) (IntKind.i64.wrap (0 - (minF (turnL r t) (turnL r t).length).2)) = normM (turnL r t) := rfl
    rw [hcsd]
    have hcl : (normM (turnL r t)).length = r.length := by rw [normM_len, turnL_len]
    unfold numsM
    generalize normM (turnL r t) = cs at hcl
    have hlen2 := cells_len cs
    rw [hcl] at hlen2
    clear hcsd k1 k2
    refine AL ?_
    refine .loop (.inv (fun d E H n2 => ∃ (i : Nat) (s : List Int) (o e : Nat), i + d = r.length ∧ o < n2 ∧ E 0 = .sl 0 (cells r) ∧ E 6 = .sl 1 (cells cs) ∧ E 10 = .own o e ∧ E 11 = .i .i64 i ∧ H o = some (.arr e 2 1 (ints s) 1) ∧ setM r (cs.take i) = some s) r.length ?_ ?_)
    · exact ⟨0, [], n' + 18, 0, by omega, by omega, by simp [setF_if, *], by simp [setF_if, *], by simp [setF_if, *], by simp [setF_if, *], by simp [upd_if, ints], rfl⟩
    clear h0 h1' h6 h5 hH hn1 hi c
    rintro d E H n' ⟨i, s, o, e, hi, hn, h0, h6, h10, h11, hH, hs⟩
    replace hs := Hid.mk hs
    by_cases c : (i : Int) < r.length
    · have hw_i : IntKind.i64.wrap ((i : Int) + 1) = (i : Int) + 1 := wr64 (by omega) (by omega)
      have hro := cells_at (l := cs) (i := i) (by omega)
      have hst := setM_take (i := i) (by omega) hs.out
      have hsl := setM_len hs.out
      have hstop := fun h => setM_stop (r := r) (cs := cs) (i := i) (by omega) h
      rw [List.length_take] at hsl
      have hle : (ints s).length = s.length := ints_len s
      have hb : (s.length + 1) * 8 ≤ 140737488355328 := by omega
      generalize cs.getD i (0, 0) = p at hro hst
      obtain ⟨px, py⟩ := p
      have hap : ints s ++ [[.i .i64 (idxM r (px, py))]] = ints (s ++ [idxM r (px, py)]) := by simp [ints]
      replace hst := Hid.mk hst
      replace hstop := Hid.mk hstop
      clear hsl
      refine AL ?_
      refine CV (l02Index_fn G r px py hr) ?_
      by_cases ck : idxM r (px, py) < 0
      · have := hstop.out (by rw [hst.out, if_pos ck])
        replace this := Hid.mk this
        clear hb
        refine AL ?_
        simp [retA, backA, backsA, setA, this.out]
      · have hst2 := hst.out
        rw [if_neg ck] at hst2
        replace hst2 := Hid.mk hst2
        refine AL ?_
        exact ⟨r.length - (i + 1), by omega, i + 1, s ++ [idxM r (px, py)], o, e + 1, by omega, by omega, by simp [setF_if, *], by simp [setF_if, *], by simp [setF_if, *], by simp [setF_if, *], by simp [upd_if, *], hst2.out⟩
    · have ei : i = cs.length := by omega
      have hs' := hs.out
      rw [ei, List.take_length] at hs'
      refine AL ?_
      rw [hs']
      simp [retA, backA, backsA, newSl, newB, setA, setF_if, h10, hH]
theorem turnNumbers_o (G : Gv) (r : Shape) (t : Nat) (h1 : 0 < r.length) (hr : r.length < 1000000000) (hrs : r.Pairwise fun a b => lessC a.1 a.2 b.1 b.2 = true) : GivesO Tryz.prog G 152 [.sl 0 (cells r), .i .i64 t] (setA (numsM r t)) := by
  refine .of (.body Tryz.func152 rfl (by simp [Tryz.ntmps152]) ?_)
  rw [Tryz.ntmps152, Tryz.results152]
  have hlen := cells_len r
  replace hrs := Hid.mk hrs
  refine AL ?_
  refine .loop (.inv (fun d E H n' => ∃ i : Nat, i + d = r.length ∧ 2 < n' ∧ E 0 = .sl 0 (cells r) ∧ E 1 = .i .i64 t ∧ E 10 = .sl 0 (cells r) ∧ E 11 = .i .i64 r.length ∧ E 12 = .i .i64 i ∧ ∃ e, E 6 = .own 2 e ∧ H 2 = some (.arr e 117 2 (cells (turnL (r.take i) t)) 1)) r.length ?_ ?_)
  · exact ⟨0, by omega, by omega, by simp [setF_if, argE], by simp [setF_if, argE], by simp [setF_if, argE], by simp [setF_if, argE, hlen], by simp [setF_if, argE], 0, by simp [setF_if, argE], by simp [upd_if, turnL, cells]⟩
  rintro d E H n' ⟨i, hi, hn1, h0, h1', h10, h11, h12, e, h5, hH⟩
  by_cases c : (i : Int) < r.length
  · have hro := cells_at (l := r) (i := i) (by omega)
    have hw_i : IntKind.i64.wrap ((i : Int) + 1) = (i : Int) + 1 := wr64 (by omega) (by omega)
    have hrl : (cells (turnL (r.take i) t)).length = i := by simp [cells, turnL]; omega
    have hb : (i + 1) * 16 ≤ 140737488355328 := by omega
    have htk := turn_take (l := r) (i := i) t (by omega)
    have n3 : ¬ (2 = n' + 3) := by omega
    generalize r.getD i (0, 0) = p at hro htk
    refine AL ?_
    refine CV (turnCell_fn G _ _ _) ?_
    refine AL ?_
    exact ⟨r.length - (i + 1), by omega, i + 1, by omega, by omega, by simp [setF_if, *], by simp [setF_if, *], by simp [setF_if, *], by simp [setF_if, *], by simp [setF_if, *], e + 1, by simp [setF_if, *], by simp [upd_if, *]⟩
  · have e' : i = r.length := by omega
    subst e'
    rw [List.take_length] at hH
    have k1 : 0 < (turnL r t).length := by rw [turnL_len]; exact h1
    have k2 : (turnL r t).length < 1000000000 := by rw [turnL_len]; exact hr
    have hf := cellsToSet_o G r (normM (turnL r t)) hrs.out hr (by rw [normM_len]; exact k2)
    rw [show setM r (normM (turnL r t)) = numsM r t from rfl] at hf
    replace hf := Hid.mk hf
    refine AL ?_
    refine CV (normal_fn G _ k1 k2) ?_
    refine AL ?_
    refine CWO hf.out ?_
    intro z H1 S m hz hn hS hf1 hm
    clear hf
    cases hq : numsM r t with
    | none =>
      rw [hq] at hz
      obtain ⟨za, zb, s1, s2, rfl, rfl, hza, hzb⟩ := ownX_tup2 hz
      obtain ⟨rfl, rfl⟩ := ownX_b hzb
      rw [List.append_nil] at hn
      clear hz hzb
      replace hza := Hid.mk hza
      replace hn := Hid.mk hn
      refine AL ?_
      refine ⟨s1, ?_, hn.out⟩
      have := ownX_mkT hza.out (ownX_mkb (H := H1) (b := false))
      rwa [List.append_nil] at this
    | some s =>
      rw [hq] at hz
      obtain ⟨za, zb, s1, s2, rfl, rfl, hza, hzb⟩ := ownX_tup2 hz
      obtain ⟨rfl, rfl⟩ := ownX_b hzb
      rw [List.append_nil] at hn
      clear hz hzb
      replace hza := Hid.mk hza
      replace hn := Hid.mk hn
      refine AL ?_
      refine ⟨s1, ?_, hn.out⟩
      have := ownX_mkT hza.out (ownX_mkb (H := H1) (b := true))
      rwa [List.append_nil] at this
/-- What both TurnNumbers give. -/
def tnM (b : Bool) (r : Shape) (k : Int) : List Int × Int := if b then (if inT k then (match numsM r k.toNat with
  | some s => (s, 0)
  | none => ([], 5)) else ([], 2)) else ([], 1)
where inT (k : Int) : Bool := decide (k ≥ 0) && decide (k ≤ 7)
theorem l03Is_fn (G : Gv) (k : Int) : Gives Tryz.prog G 142 [.i .i64 k] (.b (tnM.inT k)) := by
  refine .of (.body Tryz.func142 rfl (by simp [Tryz.ntmps142]) ?_)
  rw [Tryz.ntmps142, Tryz.results142]
  refine AL ?_
  refine CV (l01In_fn G _ _ _) ?_
  refine AL ?_
  simp [retA, backA, tnM.inT]
theorem isTurn_fn (G : Gv) (k : Int) : Gives Tryz.prog G 151 [.i .i64 k] (.b (tnM.inT k)) := by
  refine .of (.body Tryz.func151 rfl (by simp [Tryz.ntmps151]) ?_)
  rw [Tryz.ntmps151, Tryz.results151]
  refine AL ?_
  refine CV (within_fn G _ _ _) ?_
  refine AL ?_
  simp [retA, backA, tnM.inT]
theorem specTurnNumbers_fn (G : Gv) (r : Shape) (k : Int) (h1 : 0 < r.length) (hr : r.length < 1000000000) : Gives Tryz.prog G 86 [.sl 0 (cells r), .i .i64 k] (.tup [.sl 1 (ints (tnM (regionS r) r k).1), .i .i64 (tnM (regionS r) r k).2]) := by
  refine .of (.body Tryz.func86 rfl (by simp [Tryz.ntmps86]) ?_)
  rw [Tryz.ntmps86, Tryz.results86]
  refine AL ?_
  refine CV (specIsRegion_fn G r hr) ?_
  cases c1 : regionS r with
  | false =>
    refine AL ?_
    simp [retA, backA, backsA, tnM, ints]
  | true =>
    refine AL ?_
    refine CV (l03Is_fn G k) ?_
    cases c2 : tnM.inT k with
    | false =>
      have hres : tnM true r k = ([], 2) := by unfold tnM; rw [c2]; rfl
      rw [hres]
      clear hres
      refine AL ?_
      simp [retA, backA, backsA, ints]
    | true =>
      obtain ⟨k0, k1⟩ : 0 ≤ k ∧ k ≤ 7 := by simpa [tnM.inT] using c2
      have hf := l10Numbers_fn G r k.toNat h1 hr
      rw [Int.toNat_of_nonneg k0] at hf
      cases hq : numsM r k.toNat with
      | none =>
        have hres : tnM true r k = ([], 5) := by unfold tnM; rw [c2, hq]; rfl
        rw [hres]
        rw [hq] at hf
        unfold setA at hf
        clear hres
        replace hf := Hid.mk hf
        refine AL ?_
        refine CV hf.out ?_
        refine AL ?_
        simp [retA, backA, backsA, ints]
      | some s =>
        have hres : tnM true r k = (s, 0) := by unfold tnM; rw [c2, hq]; rfl
        rw [hres]
        rw [hq] at hf
        unfold setA at hf
        clear hres
        replace hf := Hid.mk hf
        refine AL ?_
        refine CV hf.out ?_
        refine AL ?_
        simp [retA, backA, backsA, newSl]
theorem implTurnNumbers_fn (G : Gv) (r : Shape) (k : Int) (h1 : 0 < r.length) (hr : r.length < 1000000000) (hrs : r.Pairwise fun a b => lessC a.1 a.2 b.1 b.2 = true) : Gives Tryz.prog G 90 [.sl 0 (cells r), .i .i64 k] (.tup [.sl 1 (ints (tnM (regionM r) r k).1), .i .i64 (tnM (regionM r) r k).2]) := by
  refine .of (.body Tryz.func90 rfl (by simp [Tryz.ntmps90]) ?_)
  rw [Tryz.ntmps90, Tryz.results90]
  replace hrs := Hid.mk hrs
  refine AL ?_
  refine CV (implIsRegion_fn G r hr) ?_
  cases c1 : regionM r with
  | false =>
    refine AL ?_
    simp [retA, backA, backsA, tnM, ints]
  | true =>
    refine AL ?_
    refine CV (isTurn_fn G k) ?_
    cases c2 : tnM.inT k with
    | false =>
      have hres : tnM true r k = ([], 2) := by unfold tnM; rw [c2]; rfl
      rw [hres]
      clear hres
      refine AL ?_
      simp [retA, backA, backsA, ints]
    | true =>
      obtain ⟨k0, k1⟩ : 0 ≤ k ∧ k ≤ 7 := by simpa [tnM.inT] using c2
      have hf := (turnNumbers_o G r k.toNat h1 hr hrs.out).gives
      rw [Int.toNat_of_nonneg k0] at hf
      cases hq : numsM r k.toNat with
      | none =>
        have hres : tnM true r k = ([], 5) := by unfold tnM; rw [c2, hq]; rfl
        rw [hres]
        rw [hq] at hf
        unfold setA at hf
        clear hres
        replace hf := Hid.mk hf
        refine AL ?_
        refine CV hf.out ?_
        refine AL ?_
        simp [retA, backA, backsA, ints]
      | some s =>
        have hres : tnM true r k = (s, 0) := by unfold tnM; rw [c2, hq]; rfl
        rw [hres]
        rw [hq] at hf
        unfold setA at hf
        clear hres
        replace hf := Hid.mk hf
        refine AL ?_
        refine CV hf.out ?_
        refine AL ?_
        simp [retA, backA, backsA, newSl]
end Go.Proofs
end
section
open Go Go.Big
namespace Go.Proofs
set_option maxHeartbeats 2000000
/-- A number put into a list in order. -/
def insI (x : Int) : List Int → List Int
  | [] => [x]
  | y :: l => if y < x then y :: insI x l else x :: y :: l
def sortedB (l : List Int) : List Int := l.foldl (fun a x => insI x a) []
theorem insI_at {x : Int} : ∀ {l : List Int} {i : Nat}, i ≤ l.length → (∀ k (h : k < l.length), k < i → l[k] < x) → (∀ h : i < l.length, ¬ l[i] < x) → insI x l = l.take i ++ x :: l.drop i
  | [], i, hi, _, _ => by
    obtain rfl : i = 0 := by simpa using hi
    rfl
  | y :: l, 0, _, _, h => by
    have := h (by simp)
    simp only [List.getElem_cons_zero] at this
    unfold insI
    rw [if_neg this]; rfl
  | y :: l, i + 1, hi, h1, h2 => by
    have h0 := h1 0 (by simp) (by omega)
    simp only [List.getElem_cons_zero] at h0
    unfold insI
    rw [if_pos h0, insI_at (i := i) (by simpa using hi) (fun k hk hki => by have := h1 (k + 1) (by simpa using hk) (by omega); simpa using this) (fun h => by have := h2 (by simpa using h); simpa using this)]
    simp
theorem insI_perm (x : Int) : ∀ l, (insI x l).Perm (x :: l)
  | [] => .refl _
  | y :: l => by
    unfold insI
    split
    · exact ((insI_perm x l).cons y).trans (.swap x y l)
    · exact .refl _
theorem insI_sorted (x : Int) : ∀ {l : List Int}, l.Pairwise (fun a b => a ≤ b) → (insI x l).Pairwise (fun a b => a ≤ b)
  | [], _ => by simp [insI]
  | y :: l, h => by
    rw [List.pairwise_cons] at h
    unfold insI
    split
    · rename_i q
      rw [List.pairwise_cons]
      refine ⟨fun z hz => ?_, insI_sorted x h.2⟩
      rcases List.mem_cons.mp ((insI_perm x l).mem_iff.mp hz) with rfl | hz
      · omega
      · exact h.1 z hz
    · rename_i q
      rw [List.pairwise_cons, List.pairwise_cons]
      refine ⟨fun z hz => ?_, h⟩
      rcases List.mem_cons.mp hz with rfl | hz
      · omega
      · have := h.1 z hz; omega
theorem sortedB_props (l : List Int) : (sortedB l).Perm l ∧ (sortedB l).Pairwise (fun a b => a ≤ b) := by
  have : ∀ (l a : List Int), a.Pairwise (fun a b => a ≤ b) → (l.foldl (fun a x => insI x a) a).Perm (l ++ a) ∧ (l.foldl (fun a x => insI x a) a).Pairwise (fun a b => a ≤ b) := by
    intro l
    induction l with
    | nil => intro a h; exact ⟨.refl _, h⟩
    | cons x l ih =>
      intro a h
      rw [List.foldl_cons]
      obtain ⟨h1, h2⟩ := ih _ (insI_sorted x h)
      exact ⟨h1.trans (((insI_perm x a).append_left l).trans List.perm_middle), h2⟩
  have h := this l [] .nil
  rw [List.append_nil] at h
  exact h
theorem sortI_eq (l : List Int) : sortI l = sortedB l := by
  obtain ⟨h1, h2⟩ := sortedB_props l
  refine List.Perm.eq_of_pairwise (fun a b _ _ h1 h2 => Int.le_antisymm h1 h2) ?_ h2 ((List.mergeSort_perm _ _).trans h1.symm)
  have := List.pairwise_mergeSort (le := fun x y : Int => decide (x ≤ y)) (fun a b c h1 h2 => by simp only [decide_eq_true_eq] at *; omega) (fun a b => by simp only [Bool.or_eq_true, decide_eq_true_eq]; omega) l
  exact this.imp fun h => by simpa using h
theorem sortedB_len (l : List Int) : (sortedB l).length = l.length := (sortedB_props l).1.length_eq
theorem sortedB_take {l : List Int} {i : Nat} {x : Int} (h : l[i]? = some x) : sortedB (l.take (i + 1)) = insI x (sortedB (l.take i)) := by
  obtain ⟨hi, rfl⟩ := List.getElem?_eq_some_iff.mp h
  unfold sortedB
  rw [List.take_succ_eq_append_getElem hi, List.foldl_append]; rfl
theorem l12Sorted_fn (G : Gv) (l : List Int) (hl : l.length < 1000000000) : Gives Tryz.prog G 144 [.sl 0 (ints l)] (.sl 1 (ints (sortedB l))) := by
  refine .of (.body Tryz.func144 rfl (by simp [Tryz.ntmps144]) ?_)
  rw [Tryz.ntmps144, Tryz.results144]
  have hlen := ints_len l
  refine AL ?_
  refine .loop (.inv (fun d E H n' => ∃ (i o e : Nat), i + d = l.length ∧ o < n' ∧ E 0 = .sl 0 (ints l) ∧ E 3 = .own o e ∧ E 4 = .i .i64 i ∧ H o = some (.arr e 2 1 (ints (sortedB (l.take i))) 1)) l.length ?_ ?_)
  · exact ⟨0, 1, 0, by omega, by omega, by simp [setF_if, argE], by simp [setF_if, argE], by simp [setF_if, argE], by simp [upd_if, sortedB, ints]⟩
  rintro d E H n' ⟨i, o, e, hi, hn, h0, h3, h4, hH⟩
  by_cases c : (i : Int) < l.length
  · have hw_i : IntKind.i64.wrap ((i : Int) + 1) = (i : Int) + 1 := wr64 (by omega) (by omega)
    obtain ⟨x, hx⟩ : ∃ x, l[i]? = some x := ⟨_, List.getElem?_eq_getElem (by omega)⟩
    have hxr := ints_row hx
    have hst := sortedB_take hx
    have hsl := sortedB_len (l.take i)
    rw [List.length_take] at hsl
    have hsl2 : (sortedB (l.take i)).length = i := by omega
    generalize sortedB (l.take i) = s at hH hst hsl2
    have hil := ints_len s
    rw [hsl2] at hil
    clear hsl
    replace hst := Hid.mk hst
    replace hx := Hid.mk hx
    refine AL ?_
    refine .loop (.inv (fun d2 E H2 n2 => ∃ j : Nat, j + d2 = i ∧ n' ≤ n2 ∧ E 0 = .sl 0 (ints l) ∧ E 3 = .own o e ∧ E 4 = .i .i64 i ∧ E 5 = .i .i64 j ∧ H2 o = some (.arr e 2 1 (ints s) 1) ∧ (∀ k (h : k < s.length), k < j → s[k] < x)) i ?_ ?_)
    · exact ⟨0, by omega, by omega, by simp [setF_if, *], by simp [setF_if, *], by simp [setF_if, *], by simp [setF_if, *], hH, fun k _ hk => by omega⟩
    clear h0 h3 h4 hH
    rintro d2 E H n2 ⟨j, hj, hnn, h0, h3, h4, h5, hH, hlo⟩
    have hon : o < n2 := by omega
    replace hlo := Hid.mk hlo
    by_cases cj : (j : Int) < i
    · have hw_j : IntKind.i64.wrap ((j : Int) + 1) = (j : Int) + 1 := wr64 (by omega) (by omega)
      have cN : j < i := by omega
      obtain ⟨y, hy⟩ : ∃ y, s[j]? = some y := ⟨_, List.getElem?_eq_getElem (by omega)⟩
      have hyr := ints_row hy
      replace hy := Hid.mk hy
      by_cases cy : y < x
      · refine AL ?_
        exact ⟨i - (j + 1), by omega, j + 1, by omega, by omega, by simp [setF_if, *], by simp [setF_if, *], by simp [setF_if, *], by simp [setF_if, *], hH, fun k hk hki => by
          by_cases q : k = j
          · subst q
            have := hy.out
            rw [List.getElem?_eq_getElem hk] at this
            simp only [Option.some.injEq] at this
            rw [this]; exact cy
          · exact hlo.out k hk (by omega)⟩
      · have heq := insI_at (x := x) (l := s) (i := j) (by omega) hlo.out (fun h => by
          have := hy.out
          rw [List.getElem?_eq_getElem h] at this
          simp only [Option.some.injEq] at this
          rw [this]; exact cy)
        have htk : (ints s).take j = ints (s.take j) := by simp [ints, List.map_take]
        have htd : ((ints s).drop j).take (i - j) = ints (s.drop j) := by unfold ints; rw [← List.map_drop, List.take_of_length_le (by simp; omega)]
        have hfin : ints (s.take j) ++ [[PV.i .i64 x]] ++ ints (s.drop j) = ints (sortedB (l.take (i + 1))) := by rw [hst.out, heq]; simp [ints]
        have hl1 : (ints (s.take j)).length = j := by rw [ints_len, List.length_take]; omega
        have hl2 : (ints (s.drop j)).length = i - j := by rw [ints_len, List.length_drop]; omega
        have hl3 : (ints (s.take j) ++ [[PV.i .i64 x]]).length = j + 1 := by rw [List.length_append, hl1]; rfl
        have hdr : (ints s).drop 0 = ints s := rfl
        have hs0 : j - 0 = j := rfl
        have hle : j ≤ i := by omega
        have hzi : (0 : Int) ≤ j := by omega
        have hb1 : j * 8 ≤ 140737488355328 := by omega
        have hb2 : (j + 1) * 8 ≤ 140737488355328 := by omega
        have hb3 : (j + 1 + (i - j)) * 8 ≤ 140737488355328 := by omega
        have hfit1 : decide (∀ r ∈ ints (s.take j), r.length = 1) = true := decide_eq_true (ints_fit _)
        have hfit2 : decide (∀ r ∈ ints (s.drop j), r.length = 1) = true := decide_eq_true (ints_fit _)
        have hnd : [n2, n2 + 9].Nodup := by simp
        have hno1 : ¬ (o = n2) := by omega
        have hno2 : ¬ (o = n2 + 9) := by omega
        have h09 : ¬ (n2 = n2 + 9) := by omega
        have h90 : ¬ (n2 + 9 = n2) := by omega
        clear hlo
        replace heq := Hid.mk heq
        refine AX ?_
        refine DR ?_
        refine AX ?_
        refine FD [n2, n2 + 9] [(30, 0), (34, 0), (39, 1), (40, 0), (44, 0)] [(40, [1])] hnd ?_
        refine FM 0 (n2) ?_ (hs := by
          intro Hx hx
          exact EVM)
        repeat first | refine FF ?_ | refine FS ?_
        refine FQ ?_ (hs := by
          intro Hx hx
          have f0 : Hx (o) = _ := hx.off (by simp only [List.mem_cons, List.not_mem_nil, or_false, not_or]; omega)
          simp only [setF_if, upd_if, neAdd, neLt, ltAdd, addNe, ltNe, Nat.left_eq_add, Nat.add_eq_left, Nat.reduceEqDiff, Nat.add_assoc, Nat.reduceAdd, reduceIte, *] at f0
          exact EV)
        refine FM 0 (n2) ?_ (hs := by
          intro Hx hx
          have f0 : Hx (n2) = _ := hx.at hnd 0 rfl (by decide)
          simp only [setF_if, upd_if, neAdd, neLt, ltAdd, addNe, ltNe, Nat.left_eq_add, Nat.add_eq_left, Nat.reduceEqDiff, Nat.add_assoc, Nat.reduceAdd, reduceIte, *] at f0
          have f1 : Hx (o) = _ := hx.off (by simp only [List.mem_cons, List.not_mem_nil, or_false, not_or]; omega)
          simp only [setF_if, upd_if, neAdd, neLt, ltAdd, addNe, ltNe, Nat.left_eq_add, Nat.add_eq_left, Nat.reduceEqDiff, Nat.add_assoc, Nat.reduceAdd, reduceIte, *] at f1
          exact EVM)
        repeat first | refine FF ?_ | refine FS ?_
        refine FQ ?_ (hs := by
          intro Hx hx
          exact EV)
        refine FQ ?_ (hs := by
          intro Hx hx
          exact EV)
        refine FM 1 (n2 + 9) ?_ (hs := by
          intro Hx hx
          exact EVM)
        refine FM 0 (n2) ?_ (hs := by
          intro Hx hx
          have f0 : Hx (n2) = _ := hx.at hnd 0 rfl (by decide)
          simp only [setF_if, upd_if, neAdd, neLt, ltAdd, addNe, ltNe, Nat.left_eq_add, Nat.add_eq_left, Nat.reduceEqDiff, Nat.add_assoc, Nat.reduceAdd, reduceIte, *] at f0
          have f1 : Hx (n2 + 9) = _ := hx.at hnd 1 rfl (by decide)
          simp only [setF_if, upd_if, neAdd, neLt, ltAdd, addNe, ltNe, Nat.left_eq_add, Nat.add_eq_left, Nat.reduceEqDiff, Nat.add_assoc, Nat.reduceAdd, reduceIte, *] at f1
          exact EVM)
        repeat first | refine FF ?_ | refine FS ?_
        refine FQ ?_ (hs := by
          intro Hx hx
          have f0 : Hx (o) = _ := hx.off (by simp only [List.mem_cons, List.not_mem_nil, or_false, not_or]; omega)
          simp only [setF_if, upd_if, neAdd, neLt, ltAdd, addNe, ltNe, Nat.left_eq_add, Nat.add_eq_left, Nat.reduceEqDiff, Nat.add_assoc, Nat.reduceAdd, reduceIte, *] at f0
          exact EV)
        refine FM 0 (n2) ?_ (hs := by
          intro Hx hx
          have f0 : Hx (n2) = _ := hx.at hnd 0 rfl (by decide)
          simp only [setF_if, upd_if, neAdd, neLt, ltAdd, addNe, ltNe, Nat.left_eq_add, Nat.add_eq_left, Nat.reduceEqDiff, Nat.add_assoc, Nat.reduceAdd, reduceIte, *] at f0
          have f1 : Hx (o) = _ := hx.off (by simp only [List.mem_cons, List.not_mem_nil, or_false, not_or]; omega)
          simp only [setF_if, upd_if, neAdd, neLt, ltAdd, addNe, ltNe, Nat.left_eq_add, Nat.add_eq_left, Nat.reduceEqDiff, Nat.add_assoc, Nat.reduceAdd, reduceIte, *] at f1
          exact EVM)
        repeat first | refine FF ?_ | refine FS ?_
        refine WF.nil ?_
        refine AL ?_
        exact ⟨l.length - (i + 1), by omega, i + 1, n2, 3, by omega, by omega, by simp [setF_if, *], by simp [setF_if, *], by simp [setF_if, *], by simp [upd_if, *]⟩
    · have ej : j = i := by omega
      have heq := insI_at (x := x) (l := s) (i := j) (by omega) hlo.out (fun h => by omega)
      clear ej
      have htk : (ints s).take j = ints (s.take j) := by simp [ints, List.map_take]
      have htd : ((ints s).drop j).take (i - j) = ints (s.drop j) := by unfold ints; rw [← List.map_drop, List.take_of_length_le (by simp; omega)]
      have hfin : ints (s.take j) ++ [[PV.i .i64 x]] ++ ints (s.drop j) = ints (sortedB (l.take (i + 1))) := by rw [hst.out, heq]; simp [ints]
      have hl1 : (ints (s.take j)).length = j := by rw [ints_len, List.length_take]; omega
      have hl2 : (ints (s.drop j)).length = i - j := by rw [ints_len, List.length_drop]; omega
      have hl3 : (ints (s.take j) ++ [[PV.i .i64 x]]).length = j + 1 := by rw [List.length_append, hl1]; rfl
      have hdr : (ints s).drop 0 = ints s := rfl
      have hs0 : j - 0 = j := rfl
      have hle : j ≤ i := by omega
      have hzi : (0 : Int) ≤ j := by omega
      have hb1 : j * 8 ≤ 140737488355328 := by omega
      have hb2 : (j + 1) * 8 ≤ 140737488355328 := by omega
      have hb3 : (j + 1 + (i - j)) * 8 ≤ 140737488355328 := by omega
      have hfit1 : decide (∀ r ∈ ints (s.take j), r.length = 1) = true := decide_eq_true (ints_fit _)
      have hfit2 : decide (∀ r ∈ ints (s.drop j), r.length = 1) = true := decide_eq_true (ints_fit _)
      have hnd : [n2, n2 + 9].Nodup := by simp
      have hno1 : ¬ (o = n2) := by omega
      have hno2 : ¬ (o = n2 + 9) := by omega
      have h09 : ¬ (n2 = n2 + 9) := by omega
      have h90 : ¬ (n2 + 9 = n2) := by omega
      clear hlo
      replace heq := Hid.mk heq
      refine AX ?_
      refine DR ?_
      refine AX ?_
      refine FD [n2, n2 + 9] [(30, 0), (34, 0), (39, 1), (40, 0), (44, 0)] [(40, [1])] hnd ?_
      refine FM 0 (n2) ?_ (hs := by
        intro Hx hx
        exact EVM)
      repeat first | refine FF ?_ | refine FS ?_
      refine FQ ?_ (hs := by
        intro Hx hx
        have f0 : Hx (o) = _ := hx.off (by simp only [List.mem_cons, List.not_mem_nil, or_false, not_or]; omega)
        simp only [setF_if, upd_if, neAdd, neLt, ltAdd, addNe, ltNe, Nat.left_eq_add, Nat.add_eq_left, Nat.reduceEqDiff, Nat.add_assoc, Nat.reduceAdd, reduceIte, *] at f0
        exact EV)
      refine FM 0 (n2) ?_ (hs := by
        intro Hx hx
        have f0 : Hx (n2) = _ := hx.at hnd 0 rfl (by decide)
        simp only [setF_if, upd_if, neAdd, neLt, ltAdd, addNe, ltNe, Nat.left_eq_add, Nat.add_eq_left, Nat.reduceEqDiff, Nat.add_assoc, Nat.reduceAdd, reduceIte, *] at f0
        have f1 : Hx (o) = _ := hx.off (by simp only [List.mem_cons, List.not_mem_nil, or_false, not_or]; omega)
        simp only [setF_if, upd_if, neAdd, neLt, ltAdd, addNe, ltNe, Nat.left_eq_add, Nat.add_eq_left, Nat.reduceEqDiff, Nat.add_assoc, Nat.reduceAdd, reduceIte, *] at f1
        exact EVM)
      repeat first | refine FF ?_ | refine FS ?_
      refine FQ ?_ (hs := by
        intro Hx hx
        exact EV)
      refine FQ ?_ (hs := by
        intro Hx hx
        exact EV)
      refine FM 1 (n2 + 9) ?_ (hs := by
        intro Hx hx
        exact EVM)
      refine FM 0 (n2) ?_ (hs := by
        intro Hx hx
        have f0 : Hx (n2) = _ := hx.at hnd 0 rfl (by decide)
        simp only [setF_if, upd_if, neAdd, neLt, ltAdd, addNe, ltNe, Nat.left_eq_add, Nat.add_eq_left, Nat.reduceEqDiff, Nat.add_assoc, Nat.reduceAdd, reduceIte, *] at f0
        have f1 : Hx (n2 + 9) = _ := hx.at hnd 1 rfl (by decide)
        simp only [setF_if, upd_if, neAdd, neLt, ltAdd, addNe, ltNe, Nat.left_eq_add, Nat.add_eq_left, Nat.reduceEqDiff, Nat.add_assoc, Nat.reduceAdd, reduceIte, *] at f1
        exact EVM)
      repeat first | refine FF ?_ | refine FS ?_
      refine FQ ?_ (hs := by
        intro Hx hx
        have f0 : Hx (o) = _ := hx.off (by simp only [List.mem_cons, List.not_mem_nil, or_false, not_or]; omega)
        simp only [setF_if, upd_if, neAdd, neLt, ltAdd, addNe, ltNe, Nat.left_eq_add, Nat.add_eq_left, Nat.reduceEqDiff, Nat.add_assoc, Nat.reduceAdd, reduceIte, *] at f0
        exact EV)
      refine FM 0 (n2) ?_ (hs := by
        intro Hx hx
        have f0 : Hx (n2) = _ := hx.at hnd 0 rfl (by decide)
        simp only [setF_if, upd_if, neAdd, neLt, ltAdd, addNe, ltNe, Nat.left_eq_add, Nat.add_eq_left, Nat.reduceEqDiff, Nat.add_assoc, Nat.reduceAdd, reduceIte, *] at f0
        have f1 : Hx (o) = _ := hx.off (by simp only [List.mem_cons, List.not_mem_nil, or_false, not_or]; omega)
        simp only [setF_if, upd_if, neAdd, neLt, ltAdd, addNe, ltNe, Nat.left_eq_add, Nat.add_eq_left, Nat.reduceEqDiff, Nat.add_assoc, Nat.reduceAdd, reduceIte, *] at f1
        exact EVM)
      repeat first | refine FF ?_ | refine FS ?_
      refine WF.nil ?_
      refine AL ?_
      exact ⟨l.length - (i + 1), by omega, i + 1, n2, 3, by omega, by omega, by simp [setF_if, *], by simp [setF_if, *], by simp [setF_if, *], by simp [upd_if, *]⟩
  · have ei : i = l.length := by omega
    rw [ei, List.take_length] at hH
    have hnb : newB 1 (ints (sortedB l)) := .inl (by decide)
    refine AL ?_
    simp [retA, backA, newSl, *]
end Go.Proofs
end
section
open Go Go.Big
namespace Go.Proofs
set_option maxHeartbeats 2000000
theorem rowA_take {r : Shape} {k : Int} {f : Shape} {j : Nat} {c : Int × Int} (h : r[j]? = some c) : (r.take (j + 1)).filterMap (fun c => gM r k f (offA f c).1 (offA f c).2) = (r.take j).filterMap (fun c => gM r k f (offA f c).1 (offA f c).2) ++ (match gM r k f (offA f c).1 (offA f c).2 with | some t => [t] | none => []) := by
  obtain ⟨hj, rfl⟩ := List.getElem?_eq_some_iff.mp h
  rw [List.take_succ_eq_append_getElem hj, List.filterMap_append]
  congr 1
  cases q : gM r k f (offA f r[j]).1 (offA f r[j]).2 with
  | none => rw [List.filterMap_cons_none (f := fun c => gM r k f (offA f c).1 (offA f c).2) q]; rfl
  | some t => rw [List.filterMap_cons_some (f := fun c => gM r k f (offA f c).1 (offA f c).2) q]; rfl
theorem tag_app {t t2 : Nat} {rows row : List (List PV)} (h : tagOk t rows) (hr : t2 = 2 ∨ noObs row) : tagOk (joinT t t2) (rows ++ row) := by
  rcases h with h | h
  · exact .inl ((join_2 t t2).1 h)
  · rcases hr with hr | hr
    · exact .inl ((join_2 t t2).2 hr)
    · refine .inr fun r hm p hp => ?_
      rcases List.mem_append.mp hm with hm | hm
      · exact h r hm p hp
      · exact hr r hm p hp
theorem take_flatMap {α β : Type} {f : α → List β} {l : List α} {i : Nat} {x : α} (h : l[i]? = some x) : (l.take (i + 1)).flatMap f = (l.take i).flatMap f ++ f x := by
  obtain ⟨hi, rfl⟩ := List.getElem?_eq_some_iff.mp h
  rw [List.take_succ_eq_append_getElem hi, List.flatMap_append]; simp
theorem bq1 {a x j : Nat} (h : a ≤ x + j) : a + 1 ≤ x + (j + 1) := by omega
theorem bq1' {a x j : Nat} (h : a ≤ x + j) : a ≤ x + (j + 1) := by omega
theorem bq2 {a i n : Nat} (h : a ≤ i * 1000 + n) (hn : n ≤ 1000) : a ≤ (i + 1) * 1000 := by rw [Nat.add_mul]; omega
theorem bq3 {a i j : Nat} (h : a ≤ i * 1000 + j) (hi : i < 1000) (hn : j ≤ 1000) : a < 1002000 := by have := Nat.mul_le_mul_right 1000 (Nat.le_of_lt hi); omega
theorem bq4 {a i : Nat} (h : a ≤ i * 1000) (hi : i ≤ 8) : a < 1000000000 := by omega
theorem listA_cells {r : Shape} {i : Int} {fs : List Shape} {n : Nat} (h : ∀ f ∈ fs, f.length = n) : ∀ x ∈ listA r i fs, x.2.length = n := by
  intro x hx
  unfold listA rowA at hx
  obtain ⟨f, hf, hx⟩ := List.mem_flatMap.mp hx
  obtain ⟨c, hc, hx⟩ := List.mem_filterMap.mp hx
  rw [(setM_some (gM_some hx).2).2.2.1, movedM_len]
  exact h f hf
theorem placementsOf_o (G : Gv) (hA : AllG G) (r : Shape) (l : List PieceM) (k : Nat) (p : PieceM) (hp : l[k]? = some p) (hp0 : 0 < p.cs.length) (hpl : p.cs.length < 1000000) (hrs : r.Pairwise fun a b => lessC a.1 a.2 b.1 b.2 = true) (hr : r.length ≤ 1000) (hl : l.length < 1000000000) (hdup : (listA r k (formsI p)).Nodup) :
    GivesO Tryz.prog G 79 [.ag [.sl 0 (cells r), .sl 0 (pieces l)], .i .i64 k] (.sl 1 (places (orderP (listA r k (formsI p))))) := by
  refine .of (.body Tryz.func79 rfl (by simp [Tryz.ntmps79]) ?_)
  rw [Tryz.ntmps79, Tryz.results79]
  have hrow := pieces_at hp
  obtain ⟨hf1, hf2⟩ := formsI_ok p
  have hk : k < l.length := (List.getElem?_eq_some_iff.mp hp).1
  have hlenf := shapesR_len (formsI p)
  have hlenr := cells_len r
  replace hp := Hid.mk hp
  have hcel : ∀ x ∈ listA r k (formsI p), x.2.length < 1000000000 := fun x hx => by rw [listA_cells (n := p.cs.length) hf2 x hx]; omega
  replace hcel := Hid.mk hcel
  replace hdup := Hid.mk hdup
  replace hA := Hid.mk hA
  replace hrs := Hid.mk hrs
  refine AL ?_
  refine CV (formsOf_fn G hA.out.c1 hA.out.c2 p hp0 (by omega)) ?_
  have hfl : ∀ f ∈ formsI p, 0 < f.length ∧ f.length < 1000000 := fun f hf => by rw [hf2 f hf]; exact ⟨hp0, hpl⟩
  generalize formsI p = fs at hf1 hf2 hlenf hfl hcel hdup
  replace hfl := Hid.mk hfl
  replace hf2 := Hid.mk hf2
  clear hrow
  refine AL ?_
  refine .loop (.inv (fun d E H n' => ∃ (i e t' : Nat) (rows : List (List PV)) (S : List Nat), i + d = fs.length ∧ 2 < n' ∧ E 1 = .i .i64 k ∧ E 2 = .ptr 0 0 0 0 ∧ E 5 = .own 2 e ∧ E 18 = .sl 1 (shapesR fs) ∧ E 19 = .i .i64 fs.length ∧ E 20 = .i .i64 i ∧ H 0 = some (.box 35 [.sl 0 (cells r), .sl 0 (pieces l)]) ∧ H 2 = some (.arr e 55 2 rows t') ∧
      tagOk t' rows ∧ fitR 2 rows ∧ ownRs H rows (places ((fs.take i).flatMap (rowA r k))) S ∧ S.Nodup ∧ (∀ o ∈ S, 2 < o ∧ o < n') ∧ rows.length ≤ i * 1000 ∧ (rows = [] → t' ≠ 2)) fs.length ?_ ?_)
  · exact ⟨0, 0, 1, [], [], by omega, by omega, by simp [setF_if, argE], by simp [setF_if, argE], by simp [setF_if, argE], by simp [setF_if, argE], by simp [setF_if, argE, hlenf], by simp [setF_if, argE], by simp [upd_if], by simp [upd_if], .inr (fun r hr => by simp at hr), fun r hr => by simp at hr, ⟨rfl, rfl⟩, by simp, by simp, by simp, fun _ => by decide⟩
  rintro d E H n' ⟨i, e, t', rows, S, hi, hn, h1, h2, h5, h18, h19, h20, hH0, hH2, htag, hfit, hown, hnd, hlt, hlen, hnil⟩
  by_cases c : (i : Int) < fs.length
  · have hw_i : IntKind.i64.wrap ((i : Int) + 1) = (i : Int) + 1 := wr64 (by omega) (by omega)
    have hfi : i < fs.length := by omega
    have hfm := take_flatMap (f := rowA r k) (List.getElem?_eq_getElem hfi)
    have hrf := shapesR_at (ls := fs) (i := i) hfi
    rw [show fs.getD i [] = fs[i]'hfi by rw [List.getD_eq_getElem?_getD, List.getElem?_eq_getElem hfi]; rfl] at hrf
    obtain ⟨hff0, hff⟩ := hfl.out _ (List.getElem_mem hfi)
    generalize fs[i]'hfi = f at hfm hrf hff hff0
    replace hfm := Hid.mk hfm
    replace htag := Hid.mk htag
    replace hfit := Hid.mk hfit
    replace hown := Hid.mk hown
    replace hnd := Hid.mk hnd
    replace hlt := Hid.mk hlt
    replace hlen := Hid.mk hlen
    replace hnil := Hid.mk hnil
    refine AL ?_
    refine .loop (.inv (fun d2 E H n' => ∃ (j e t' : Nat) (rows : List (List PV)) (S : List Nat), j + d2 = r.length ∧ 2 < n' ∧ E 1 = .i .i64 k ∧ E 2 = .ptr 0 0 0 0 ∧ E 5 = .own 2 e ∧ E 18 = .sl 1 (shapesR fs) ∧ E 19 = .i .i64 fs.length ∧ E 20 = .i .i64 i ∧ E 7 = .sl 1 (cells f) ∧ E 25 = .sl 0 (cells r) ∧ E 26 = .i .i64 r.length ∧ E 27 = .i .i64 j ∧ H 0 = some (.box 35 [.sl 0 (cells r), .sl 0 (pieces l)]) ∧ H 2 = some (.arr e 55 2 rows t') ∧
        tagOk t' rows ∧ fitR 2 rows ∧ ownRs H rows (places ((fs.take i).flatMap (rowA r k) ++ (r.take j).filterMap (fun c => gM r k f (offA f c).1 (offA f c).2))) S ∧ S.Nodup ∧ (∀ o ∈ S, 2 < o ∧ o < n') ∧ rows.length ≤ i * 1000 + j ∧ (rows = [] → t' ≠ 2)) r.length ?_ ?_)
    · exact ⟨0, e, t', rows, S, by omega, by omega, by simp [setF_if, *], by simp [setF_if, *], by simp [setF_if, *], by simp [setF_if, *], by simp [setF_if, *], by simp [setF_if, *], by simp [setF_if, *], by simp [setF_if, *], by simp [setF_if, *], by simp [setF_if, *], by first | exact hH0 | simp [*], by first | exact hH2 | simp [*], htag.out, hfit.out, by simpa using hown.out, hnd.out, fun o ho => ⟨(hlt.out o ho).1, by have := (hlt.out o ho).2; omega⟩, Nat.le_trans hlen.out (Nat.le_add_right _ _), hnil.out⟩
    clear h1 h2 h5 h18 h19 h20 hH0 hH2 hn
    rintro d2 E H n' ⟨j, e, t', rows, S, hj, hn, h1, h2, h5, h18, h19, h20, h7, h25, h26, h27, hH0, hH2, htag, hfit, hown, hnd, hlt, hlen, hnil⟩
    replace htag := Hid.mk htag
    replace hfit := Hid.mk hfit
    replace hown := Hid.mk hown
    replace hnd := Hid.mk hnd
    replace hlt := Hid.mk hlt
    replace hlen := Hid.mk hlen
    replace hnil := Hid.mk hnil
    by_cases cj : (j : Int) < r.length
    · have hw_j : IntKind.i64.wrap ((j : Int) + 1) = (j : Int) + 1 := wr64 (by omega) (by omega)
      have hro := cells_at (l := r) (i := j) (by omega)
      have hjr : j < r.length := by omega
      have hrt := rowA_take (r := r) (k := k) (f := f) (List.getElem?_eq_getElem hjr)
      rw [show r.getD j (0, 0) = r[j]'hjr by rw [List.getD_eq_getElem?_getD, List.getElem?_eq_getElem hjr]; rfl] at hro
      generalize r[j]'hjr = c at hro hrt
      obtain ⟨cx, cy⟩ := c
      have hset := cellsToSet_o G r (movedM f (offA f (cx, cy)).1 (offA f (cx, cy)).2) hrs.out (by omega) (by rw [movedM_len]; omega)
      have hrf0 := cells_at (l := f) (i := 0) hff0
      have hg : gM r k f (offA f (cx, cy)).1 (offA f (cx, cy)).2 = (setM r (movedM f (offA f (cx, cy)).1 (offA f (cx, cy)).2)).map fun s => ((k : Int), s) := rfl
      rw [hg] at hrt
      generalize setM r (movedM f (offA f (cx, cy)).1 (offA f (cx, cy)).2) = sm at hset hrt
      clear hg
      have hmv := moved_fn G f (offA f (cx, cy)).1 (offA f (cx, cy)).2 (by omega)
      simp only [offA] at hset hmv
      generalize f.getD 0 (0, 0) = c0 at hset hmv hrf0
      obtain ⟨fx, fy⟩ := c0
      simp only at hset hmv hrf0
      replace hrt := Hid.mk hrt
      replace hset := Hid.mk hset
      replace hmv := Hid.mk hmv
      refine AX ?_
      refine DMF [136] [] 0 ?_
      refine AX ?_
      refine CM hmv.out ?_
      refine AX ?_
      refine CWM hset.out ?_
      intro z H1 S1 m hz hn1 hS hf hm
      have f0 := hf 0 (by omega)
      have f2 := hf 2 (by omega)
      simp only [upd_if, show ¬ (0 = n' + 3) by omega, show ¬ (2 = n' + 3) by omega, if_false, hH0, hH2] at f0 f2
      have hS3 : ∀ o ∈ S1, 2 < o ∧ o < m := fun o h => by have := hS o h; omega
      have hS4 : ∀ o ∈ S, 2 < o ∧ o < m := fun o h => by have := hlt.out o h; omega
      have hSd : ∀ o ∈ S, o ∉ S1 := fun o h1 h2 => by have := hlt.out o h1; have := hS o h2; omega
      have hf1 : ∀ o ∈ S, H1 o = H o := fun o h => by
        have h1 := (hlt.out o h).2
        rw [hf o (by omega)]; simp [upd_if, show ¬ o = n' + 3 by omega]
      clear hset hmv
      replace hS3 := Hid.mk hS3
      replace hS4 := Hid.mk hS4
      replace hSd := Hid.mk hSd
      replace hf1 := Hid.mk hf1
      replace hf := Hid.mk hf
      replace hS := Hid.mk hS
      replace hn1 := Hid.mk hn1
      have hm2 : 2 < m := by omega
      cases sm with
      | none =>
        simp only [setA] at hz
        obtain ⟨za, zb, s1, s2, rfl, rfl, hza, hzb⟩ := ownX_tup2 hz
        obtain ⟨rfl, rfl⟩ := ownX_b hzb
        clear hz hza hzb hH0 hH2
        have hrt2 := hrt.out
        simp only [Option.map_none, List.append_nil] at hrt2
        clear hrt
        replace hrt2 := Hid.mk hrt2
        refine AX ?_
        exact ⟨r.length - (j + 1), by omega, j + 1, e, t', rows, S, by omega, by omega, by simp [setF_if, *], by simp [setF_if, *], by simp [setF_if, *], by simp [setF_if, *], by simp [setF_if, *], by simp [setF_if, *], by simp [setF_if, *], by simp [setF_if, *], by simp [setF_if, *], by simp [setF_if, *], f0, f2, htag.out, hfit.out, by rw [hrt2.out]; exact ownRs_congr hf1.out hown.out, hnd.out, fun o ho => ⟨(hS4.out o ho).1, by have := (hS4.out o ho).2; omega⟩, bq1' hlen.out, hnil.out⟩
      | some s =>
        simp only [setA] at hz
        obtain ⟨za, zb, s1, s2, rfl, rfl, hza, hzb⟩ := ownX_tup2 hz
        obtain ⟨rfl, rfl⟩ := ownX_b hzb
        have hrt2 := hrt.out
        simp only [Option.map_some] at hrt2
        rw [List.append_nil] at hS3 hSd hS hn1
        have hq := ownX_leaf hza (ints_scal _)
        have hcs := ownX_cases hza
        have hlen1 := bq3 hlen.out (by omega) (by omega)
        have hb : (rows.length + 1) * 32 ≤ 140737488355328 := by omega
        clear hrt hz hza hzb hH0 hH2
        replace hrt2 := Hid.mk hrt2
        replace hq := Hid.mk hq
        have fin : ∀ (q : PV) (t2 : Nat) (H2 : Heap), ownP H1 q (.sl (ints s)) s1 → (noOb q = true ∨ t2 = 2) → (∀ o, 2 < o → o < m → H2 o = H1 o) → tagOk (joinT t' t2) (rows ++ [[.i .i64 k, q]]) ∧ ownRs H2 (rows ++ [[.i .i64 k, q]]) (places ((fs.take i).flatMap (rowA r k) ++ (r.take (j + 1)).filterMap (fun c => gM r k f (offA f c).1 (offA f c).2))) (S ++ s1) := by
          intro q t2 H2 h1 h2 h3
          refine ⟨tag_store htag.out (h2.symm.imp id fun h2 r hr p hp => ?_), ?_⟩
          · obtain rfl := List.mem_singleton.mp hr
            simp only [List.mem_cons, List.not_mem_nil, or_false] at hp
            rcases hp with rfl | rfl <;> first | rfl | exact h2
          · rw [hrt2.out, ← List.append_assoc, places_app]
            refine ownRs_append (ownRs_congr (H := H) (fun o ho => ?_) hown.out) (ownRs_one (ownPs_congr (H := H1) (fun o ho => ?_) ?_))
            · rw [h3 o (hS4.out o ho).1 (hS4.out o ho).2]; exact hf1.out o ho
            · exact h3 o (hS3.out o ho).1 (hS3.out o ho).2
            · rw [← List.nil_append s1]; exact ownPs_cons (ownP_scal_mk rfl) (by rw [← List.append_nil s1]; exact ownPs_cons h1 (ownPs_scal_mk (by simp)))
        replace fin := Hid.mk fin
        rcases hcs with ⟨o, eo, ty, sz, ro, t, rfl, hHo, ho⟩ | rfl | ⟨t, rfl⟩
        · have ho3 := hS3.out o ho
          have n3 : ¬ o = 2 := by omega
          clear ho
          obtain ⟨q, tg, e1, e2, hq1, hq2⟩ := hq.out
          cases e1
          clear hq2 e2
          replace hq1 := Hid.mk hq1
          refine AX ?_
          refine ⟨r.length - (j + 1), by omega, j + 1, e + 1, joinT t' (2), rows ++ [[PV.i .i64 k, PV.ob o eo]], S ++ s1, by omega, by omega, by simp [setF_if, *], by simp [setF_if, *], by simp [setF_if, *], by simp [setF_if, *], by simp [setF_if, *], by simp [setF_if, *], by simp [setF_if, *], by simp [setF_if, *], by simp [setF_if, *], by simp [setF_if, *], by simp [upd_if, *], by simp [upd_if, joinT, *], (fin.out _ _ H1 hq1.out (.inr rfl) (fun _ _ _ => rfl)).1, ?_, (fin.out _ (2) _ hq1.out (.inr rfl) (fun x h1 h2 => by simp [upd_if, show ¬ x = 2 by omega, show ¬ x = m + 10 by omega])).2, ?_, ?_, by rw [List.length_append]; exact bq1 hlen.out, fun h => by simp at h⟩
          · intro r hr
            rcases List.mem_append.mp hr with hr | hr
            · exact hfit.out r hr
            · rw [List.mem_singleton.mp hr]; rfl
          · exact List.nodup_append.mpr ⟨hnd.out, hn1.out, fun x hx y hy e => hSd.out x hx (e ▸ hy)⟩
          · intro x hx
            rcases List.mem_append.mp hx with hx | hx
            · exact ⟨(hS4.out x hx).1, by have := (hS4.out x hx).2; omega⟩
            · exact ⟨(hS3.out x hx).1, by have := (hS3.out x hx).2; omega⟩
        · skip
          obtain ⟨q, tg, e1, e2, hq1, hq2⟩ := hq.out
          cases e1
          clear hq2 e2
          replace hq1 := Hid.mk hq1
          refine AX ?_
          refine ⟨r.length - (j + 1), by omega, j + 1, e + 1, joinT t' (1), rows ++ [[PV.i .i64 k, PV.sl []]], S ++ s1, by omega, by omega, by simp [setF_if, *], by simp [setF_if, *], by simp [setF_if, *], by simp [setF_if, *], by simp [setF_if, *], by simp [setF_if, *], by simp [setF_if, *], by simp [setF_if, *], by simp [setF_if, *], by simp [setF_if, *], by simp [upd_if, *], by simp [upd_if, joinT, *], (fin.out _ _ H1 hq1.out (.inl rfl) (fun _ _ _ => rfl)).1, ?_, (fin.out _ (1) _ hq1.out (.inl rfl) (fun x h1 h2 => by simp [upd_if, show ¬ x = 2 by omega, show ¬ x = m + 10 by omega])).2, ?_, ?_, by rw [List.length_append]; exact bq1 hlen.out, fun h => by simp at h⟩
          · intro r hr
            rcases List.mem_append.mp hr with hr | hr
            · exact hfit.out r hr
            · rw [List.mem_singleton.mp hr]; rfl
          · exact List.nodup_append.mpr ⟨hnd.out, hn1.out, fun x hx y hy e => hSd.out x hx (e ▸ hy)⟩
          · intro x hx
            rcases List.mem_append.mp hx with hx | hx
            · exact ⟨(hS4.out x hx).1, by have := (hS4.out x hx).2; omega⟩
            · exact ⟨(hS3.out x hx).1, by have := (hS3.out x hx).2; omega⟩
        · skip
          obtain ⟨q, tg, e1, e2, hq1, hq2⟩ := hq.out
          cases e1
          clear hq2 e2
          replace hq1 := Hid.mk hq1
          refine AX ?_
          refine ⟨r.length - (j + 1), by omega, j + 1, e + 1, joinT t' (joinT 1 (joinT t 1)), rows ++ [[PV.i .i64 k, PV.sl []]], S ++ s1, by omega, by omega, by simp [setF_if, *], by simp [setF_if, *], by simp [setF_if, *], by simp [setF_if, *], by simp [setF_if, *], by simp [setF_if, *], by simp [setF_if, *], by simp [setF_if, *], by simp [setF_if, *], by simp [setF_if, *], by simp [upd_if, *], by simp [upd_if, joinT, *] <;> (by_cases g1 : t = 1 <;> by_cases g2 : t = 2 <;> by_cases g0 : t = 0 <;> simp [*] <;> omega), (fin.out _ _ H1 hq1.out (.inl rfl) (fun _ _ _ => rfl)).1, ?_, (fin.out _ (joinT 1 (joinT t 1)) _ hq1.out (.inl rfl) (fun x h1 h2 => by simp [upd_if, show ¬ x = 2 by omega, show ¬ x = m + 10 by omega])).2, ?_, ?_, by rw [List.length_append]; exact bq1 hlen.out, fun h => by simp at h⟩
          · intro r hr
            rcases List.mem_append.mp hr with hr | hr
            · exact hfit.out r hr
            · rw [List.mem_singleton.mp hr]; rfl
          · exact List.nodup_append.mpr ⟨hnd.out, hn1.out, fun x hx y hy e => hSd.out x hx (e ▸ hy)⟩
          · intro x hx
            rcases List.mem_append.mp hx with hx | hx
            · exact ⟨(hS4.out x hx).1, by have := (hS4.out x hx).2; omega⟩
            · exact ⟨(hS3.out x hx).1, by have := (hS3.out x hx).2; omega⟩
    · have ej : j = r.length := by omega
      have hown2 := hown.out
      rw [ej, List.take_length] at hown2
      have e2 : (fs.take (i + 1)).flatMap (rowA r k) = (fs.take i).flatMap (rowA r k) ++ r.filterMap (fun c => gM r k f (offA f c).1 (offA f c).2) := hfm.out
      rw [← e2] at hown2
      clear e2
      replace hown2 := Hid.mk hown2
      refine AL ?_
      exact ⟨fs.length - (i + 1), by omega, i + 1, e, t', rows, S, by omega, by omega, by simp [setF_if, *], by simp [setF_if, *], by simp [setF_if, *], by simp [setF_if, *], by simp [setF_if, *], by simp [setF_if, *], hH0, hH2, htag.out, hfit.out, hown2.out, hnd.out, fun o ho => ⟨(hlt.out o ho).1, by have := (hlt.out o ho).2; omega⟩, bq2 hlen.out (by omega), hnil.out⟩
  · have ei : i = fs.length := by omega
    rw [ei, List.take_length] at hown
    have hb9 : rows.length < 1000000000 := bq4 hlen (ei ▸ hf1)
    have h2S : 2 ∉ S := fun h => by have := (hlt 2 h).1; omega
    by_cases hne : rows = []
    · subst hne
      obtain ⟨e1, rfl⟩ := hown
      have hL0 : listA r k fs = [] := List.map_eq_nil_iff.mp e1
      rw [hL0]
      clear hcel hdup e1
      refine AL ?_
      refine CI ?_
      refine WC_given (hA.out.c4 _ _ _ _ (.tup []) H _ ⟨rfl, rfl, rfl, rfl, _, 2, e, _, 2, t', rfl, hH2⟩) ?_
      refine AL ?_
      exact ⟨[2], ownX_sl (tagOk_own hH2 ⟨by simp [orderP, places], rfl⟩ htag (by simp) hfit hnil), by simp⟩
    · obtain ⟨rows', S', hcall, g1, g2, g3, g4, g5⟩ := sortPl (L := listA r k fs) hA.out.c3 hH2 hown h2S hne hb9 hcel.out hdup.out htag hfit
      have h2S' : 2 ∉ S' := fun h => h2S (g2.mem_iff.mp h)
      have hndS := g2.nodup_iff.mpr hnd
      replace htag := Hid.mk htag
      replace hfit := Hid.mk hfit
      replace hown := Hid.mk hown
      replace hnd := Hid.mk hnd
      replace hlt := Hid.mk hlt
      replace hnil := Hid.mk hnil
      replace g1 := Hid.mk g1
      replace g2 := Hid.mk g2
      replace g4 := Hid.mk g4
      replace g5 := Hid.mk g5
      replace hcall := Hid.mk hcall
      replace hndS := Hid.mk hndS
      refine AL ?_
      refine CI ?_
      refine WC_given (hcall.out _) ?_
      refine AL ?_
      exact ⟨2 :: S', ownX_sl (tagOk_own (by simp [upd_if]; rfl) (ownRs_congr (fun o ho => by rw [upd_if, if_neg (by rintro rfl; exact h2S' ho)]) g1.out) g4.out (ownRs_ns g1.out (places_ns _)) g5.out (fun h => absurd h g3)), List.nodup_cons.mpr ⟨h2S', hndS.out⟩⟩
end Go.Proofs
end
