/- Walks: Neighbours of cells: the reference. No condition. | Whether a placement overlaps none of a list; the copies that are left. No condition. | Numbers written into lists of one's own. No condition. | Numbers written into lists of what owns lists. No condition. | Numbers written into placements and puzzles. No condition. -/
import Derived.Test.YtmglpcdalechfaaGreatBO
import Derived.Test.YtmglpcdalechfaaGreatWk5
import Derived.Test.YtmglpcdalechfaaGreatWk2
import Derived.Test.YtmglpcdalechfaaGreatWk3
import Derived.Test.YtmglpcdalechfaaGreatWk1
set_option linter.unusedVariables false
set_option linter.unusedSimpArgs false
section
open Go Go.Big
namespace Go.Proofs
set_option maxHeartbeats 2000000
def nbrP (l out : Shape) (a : Int × Int) : Shape := if idxM l a < 0 then (if idxM out a < 0 then insM a out else out) else out
def nbrC (l out : Shape) (c : Int × Int) : Shape := (aroundM c).foldl (nbrP l) out
def nbrS (l : Shape) : Shape := l.foldl (nbrC l) []
theorem nbrP_len (l out : Shape) (a : Int × Int) : (nbrP l out a).length ≤ out.length + 1 := by
  unfold nbrP
  split
  · split
    · rw [insM_len]; omega
    · omega
  · omega
theorem nbrF_len (l : Shape) : ∀ (cs out : Shape), (cs.foldl (nbrP l) out).length ≤ out.length + cs.length
  | [], out => by simp
  | a :: cs, out => by
    rw [List.foldl_cons, List.length_cons]
    have h1 := nbrF_len l cs (nbrP l out a)
    have h2 := nbrP_len l out a
    omega
theorem nbrC_len (l out : Shape) (c : Int × Int) : (nbrC l out c).length ≤ out.length + 4 := nbrF_len l (aroundM c) out
theorem nbrCs_len (l : Shape) : ∀ (cs out : Shape), (cs.foldl (nbrC l) out).length ≤ out.length + 4 * cs.length
  | [], out => by simp
  | c :: cs, out => by
    rw [List.foldl_cons, List.length_cons]
    have h1 := nbrCs_len l cs (nbrC l out c)
    have h2 := nbrC_len l out c
    omega
theorem nbrS_len (l : Shape) : (nbrS l).length ≤ 4 * l.length := by have := nbrCs_len l l []; simpa [nbrS] using this
theorem fold_take {α β : Type} (f : β → α → β) (z : β) {l : List α} {i : Nat} {x : α} (h : l[i]? = some x) : (l.take (i + 1)).foldl f z = f ((l.take i).foldl f z) x := by
  obtain ⟨hi, rfl⟩ := List.getElem?_eq_some_iff.mp h
  rw [List.take_succ_eq_append_getElem hi, List.foldl_append]; rfl
theorem cells_row {l : Shape} {i : Nat} {x : Int × Int} (h : l[i]? = some x) : (cells l)[i]? = some [.i .i64 x.1, .i .i64 x.2] := by simp [cells, h]
/-- A slice of cells, however it lies. -/
def okX (H : Heap) (x : AV) (out : Shape) : Prop := giveA H x = some (.sl 0 (cells out)) ∧ backA H x = some (.sl 1 (cells out))
theorem okX_sl (H : Heap) (out : Shape) : okX H (.sl 1 (cells out)) out := ⟨rfl, by simp [backA, newSl]⟩
theorem l02Neighbours_fn (G : Gv) (l : Shape) (hl : l.length < 100000000) : Gives Tryz.prog G 229 [.sl 0 (cells l)] (.sl 1 (cells (nbrS l))) := by
  refine .of (.body Tryz.func229 rfl (by simp [Tryz.ntmps229]) ?_)
  rw [Tryz.ntmps229, Tryz.results229]
  have hlen := cells_len l
  have hcl : ∀ i, ((l.take i).foldl (nbrC l) []).length ≤ 4 * i := fun i => by
    have h1 := nbrCs_len l (l.take i) []
    have h2 : (l.take i).length ≤ i := by rw [List.length_take]; omega
    simp only [List.length_nil] at h1
    omega
  replace hcl := Hid.mk hcl
  refine AL ?_
  refine .loop (.inv (fun d E H n' => ∃ (i : Nat) (x : AV), i + d = l.length ∧ 1 < n' ∧ E 0 = .sl 0 (cells l) ∧ E 3 = x ∧ E 4 = .i .i64 i ∧ okX H x ((l.take i).foldl (nbrC l) [])) l.length ?_ ?_)
  · exact ⟨0, .own 1 0, by omega, by omega, by simp [setF_if, argE], by simp [setF_if, argE], by simp [setF_if, argE], by simp [okX, giveA, backA, newSl, upd_if, cells, newB]⟩
  rintro d E H n' ⟨i, x, hi, hn, h0, h3, h4, hx⟩
  replace hx := Hid.mk hx
  by_cases c : (i : Int) < l.length
  · have hw_i : IntKind.i64.wrap ((i : Int) + 1) = (i : Int) + 1 := wr64 (by omega) (by omega)
    obtain ⟨p, hp⟩ : ∃ p, l[i]? = some p := ⟨_, List.getElem?_eq_getElem (by omega)⟩
    have hpr := cells_row hp
    have har : Gives Tryz.prog G 272 [cellA p.1 p.2] (.sl 1 (cells (aroundM p))) := l02Around_fn G p.1 p.2
    have hal : (cells (aroundM p)).length = 4 := by rw [cells_len]; rfl
    have hft := fold_take (nbrC l) [] hp
    have hol := hcl.out i
    generalize (l.take i).foldl (nbrC l) [] = o0 at hx hft hol
    have hfl : ∀ k, (((aroundM p).take k).foldl (nbrP l) o0).length ≤ o0.length + k := fun k => by
      have h1 := nbrF_len l ((aroundM p).take k) o0
      have h2 : ((aroundM p).take k).length ≤ k := by rw [List.length_take]; omega
      omega
    replace hfl := Hid.mk hfl
    replace hp := Hid.mk hp
    replace har := Hid.mk har
    replace hft := Hid.mk hft
    refine AL ?_
    refine CV har.out ?_
    refine AL ?_
    refine .loop (.inv (fun d2 E H n' => ∃ (k : Nat) (x : AV), k + d2 = 4 ∧ 1 < n' ∧ E 0 = .sl 0 (cells l) ∧ E 3 = x ∧ E 4 = .i .i64 i ∧ E 5 = .sl 1 (cells (aroundM p)) ∧ E 6 = .i .i64 k ∧ okX H x (((aroundM p).take k).foldl (nbrP l) o0)) 4 ?_ ?_)
    · exact ⟨0, x, by omega, by omega, by simp [setF_if, *], by simp [setF_if, *], by simp [setF_if, *], by simp [setF_if, *], by simp [setF_if, *], hx.out⟩
    clear h0 h3 h4 hx hn hpr
    rintro d2 E H n' ⟨k, x, hk, hn, h0, h3, h4, h5, h6, hx⟩
    obtain ⟨hgx, hbx⟩ := hx
    replace hbx := Hid.mk hbx
    by_cases ck : (k : Int) < 4
    · have hw_k : IntKind.i64.wrap ((k : Int) + 1) = (k : Int) + 1 := wr64 (by omega) (by omega)
      obtain ⟨a, ha⟩ : ∃ a, (aroundM p)[k]? = some a := ⟨_, List.getElem?_eq_getElem (by rw [around4]; omega)⟩
      have hak := cells_row ha
      have hfk := fold_take (nbrP l) o0 ha
      have hol2 := hfl.out k
      generalize ((aroundM p).take k).foldl (nbrP l) o0 = o1 at hgx hbx hfk hol2
      have hi1 := l02Index_fn G l a.1 a.2 (by omega)
      have hi2 := l02Index_fn G o1 a.1 a.2 (by omega)
      have hin := l02Insert_fn G o1 a.1 a.2 (by omega)
      have hk4 : k < 4 := by omega
      rw [show nbrP l o1 a = (if idxM l (a.1, a.2) < 0 then (if idxM o1 (a.1, a.2) < 0 then insM (a.1, a.2) o1 else o1) else o1) from rfl] at hfk
      generalize idxM l (a.1, a.2) = v1 at hi1 hfk
      generalize idxM o1 (a.1, a.2) = v2 at hi2 hfk
      generalize insM (a.1, a.2) o1 = o2 at hin hfk
      replace ha := Hid.mk ha
      replace hi1 := Hid.mk hi1
      replace hi2 := Hid.mk hi2
      replace hin := Hid.mk hin
      replace hfk := Hid.mk hfk
      by_cases c1 : v1 < 0
      · by_cases c2 : v2 < 0
        · refine AL ?_
          refine CV hi1.out ?_
          refine AL ?_
          refine CV hi2.out ?_
          refine AL ?_
          refine CV hin.out ?_
          refine AL ?_
          exact ⟨4 - (k + 1), by omega, k + 1, .sl 1 (cells o2), by omega, by omega, by simp [setF_if, *], by simp [setF_if, *], by simp [setF_if, *], by simp [setF_if, *], by simp [setF_if, *], by rw [hfk.out, if_pos c1, if_pos c2]; exact okX_sl _ _⟩
        · refine AL ?_
          refine CV hi1.out ?_
          refine AL ?_
          refine CV hi2.out ?_
          refine AL ?_
          exact ⟨4 - (k + 1), by omega, k + 1, x, by omega, by omega, by simp [setF_if, *], by simp [setF_if, *], by simp [setF_if, *], by simp [setF_if, *], by simp [setF_if, *], by rw [hfk.out, if_pos c1, if_neg c2]; exact ⟨hgx, hbx.out⟩⟩
      · refine AL ?_
        refine CV hi1.out ?_
        refine AL ?_
        exact ⟨4 - (k + 1), by omega, k + 1, x, by omega, by omega, by simp [setF_if, *], by simp [setF_if, *], by simp [setF_if, *], by simp [setF_if, *], by simp [setF_if, *], by rw [hfk.out, if_neg c1]; exact ⟨hgx, hbx.out⟩⟩
    · have ek : k = 4 := by omega
      have hx2 : okX H x (nbrC l o0 p) := by
        refine ⟨?_, ?_⟩
        · rw [hgx, ek, show (4 : Nat) = (aroundM p).length from rfl, List.take_length]; rfl
        · rw [hbx.out, ek, show (4 : Nat) = (aroundM p).length from rfl, List.take_length]; rfl
      rw [← hft.out] at hx2
      clear hgx hbx
      replace hx2 := Hid.mk hx2
      refine AL ?_
      exact ⟨l.length - (i + 1), by omega, i + 1, x, by omega, by omega, by simp [setF_if, *], by simp [setF_if, *], by simp [setF_if, *], hx2.out⟩
  · have ei : i = l.length := by omega
    obtain ⟨hgx, hbx⟩ := hx.out
    rw [ei, List.take_length] at hbx
    replace hbx := Hid.mk hbx
    clear hgx
    refine AL ?_
    simpa [retA, setF_if, h3, nbrS] using hbx.out
end Go.Proofs
end
section
open Go Go.Big
namespace Go.Proofs
set_option maxHeartbeats 2000000
theorem take_allG {α : Type} {p : α → Bool} {l : List α} {i : Nat} {x : α} (h : l[i]? = some x) : (l.take (i + 1)).all p = ((l.take i).all p && p x) := by
  obtain ⟨hi, rfl⟩ := List.getElem?_eq_some_iff.mp h
  rw [List.take_succ_eq_append_getElem hi, List.all_append]; simp
theorem all_noG {α : Type} {p : α → Bool} {l : List α} {i : Nat} {x : α} (h : l[i]? = some x) (hp : p x = false) : l.all p = false :=
  List.all_eq_false.mpr ⟨x, List.mem_of_getElem? h, by simp [hp]⟩
def clearM (l : List (Int × List Int)) (x : List Int) : Bool := l.all fun y => !overM y.2 x
theorem l15Clear_fn (G : Gv) (l : List (Int × List Int)) (x : Int × List Int) (hl : l.length < 1000000000) (hc : ∀ p ∈ l, p.2.length < 1000000000) (hx : x.2.length < 1000000000) : Gives Tryz.prog G 103 [.sl 0 (places l), placA 0 x] (.b (clearM l x.2)) := by
  refine .of (.body Tryz.func103 rfl (by simp [Tryz.ntmps103]) ?_)
  rw [Tryz.ntmps103, Tryz.results103]
  obtain ⟨k, s⟩ := x
  have hlen := places_len l
  replace hc := Hid.mk hc
  refine AL ?_
  refine .loop (.inv (fun d E H n' => ∃ i : Nat, i + d = l.length ∧ 0 < n' ∧ E 0 = .sl 0 (places l) ∧ E 3 = .ptr 0 0 0 0 ∧ E 5 = .i .i64 i ∧ H 0 = some (.box 110 [.i .i64 k, .sl 0 (ints s)]) ∧ (l.take i).all (fun y => !overM y.2 s) = true) l.length ?_ ?_)
  · exact ⟨0, by omega, by omega, by simp [setF_if, argE], by simp [setF_if, argE], by simp [setF_if, argE], by simp [upd_if], by simp⟩
  rintro d E H n' ⟨i, hi, hn, h0, h3, h5, hH, hall⟩
  replace hall := Hid.mk hall
  by_cases c : (i : Int) < l.length
  · have hw_i : IntKind.i64.wrap ((i : Int) + 1) = (i : Int) + 1 := wr64 (by omega) (by omega)
    obtain ⟨p, hp⟩ : ∃ p, l[i]? = some p := ⟨_, List.getElem?_eq_getElem (by omega)⟩
    have hr := places_at hp
    have hta := take_allG (p := fun y : Int × List Int => !overM y.2 s) hp
    have hat := all_noG (p := fun y : Int × List Int => !overM y.2 s) hp
    have hpl := hc.out p (List.mem_of_getElem? hp)
    replace hta := Hid.mk hta
    replace hat := Hid.mk hat
    replace hp := Hid.mk hp
    refine AL ?_
    refine CQ (l12Overlap_fn G p.2 s hpl hx) ?_
    by_cases ce : overM p.2 s = true
    · refine AL ?_
      simp [retA, backA, clearM, hat.out (by simp [ce])]
    · refine AL ?_
      exact ⟨l.length - (i + 1), by omega, i + 1, by omega, by omega, by simp [setF_if, *], by simp [setF_if, *], by simp [setF_if, *], by simp [upd_if, *], by rw [hta.out, hall.out]; simpa using ce⟩
  · have e : i = l.length := by omega
    rw [e, List.take_length] at hall
    refine AL ?_
    simp [retA, backA, clearM, hall.out]
def decM (out : List Int) (x : Int × List Int) : List Int := out.set x.1.toNat (IntKind.i64.wrap (out.getD x.1.toNat 0 - 1))
def copiesM (l : List PieceM) : List Int := l.map fun p => p.k
def leftM (l : List PieceM) (s : List (Int × List Int)) : List Int := s.foldl decM (copiesM l)
theorem foldl_take {α β : Type} {f : β → α → β} {z : β} {l : List α} {i : Nat} {x : α} (h : l[i]? = some x) : (l.take (i + 1)).foldl f z = f ((l.take i).foldl f z) x := by
  obtain ⟨hi, rfl⟩ := List.getElem?_eq_some_iff.mp h
  rw [List.take_succ_eq_append_getElem hi, List.foldl_append]; rfl
theorem dec_len : ∀ (s : List (Int × List Int)) (o : List Int), (s.foldl decM o).length = o.length
  | [], _ => rfl
  | x :: s, o => by rw [List.foldl_cons, dec_len s]; simp [decM]
end Go.Proofs
end
section
open Go Go.Big
namespace Go.Proofs
set_option maxHeartbeats 2000000
/-- So many numbers from one on. -/
def runI (k : Int) (n : Nat) : List Int := (List.range n).map fun i : Nat => k + (i : Int)
theorem runI_len (k : Int) (n : Nat) : (runI k n).length = n := by simp [runI]
theorem runI_succ (k : Int) (n : Nat) : runI k (n + 1) = runI k n ++ [k + n] := by simp [runI, List.range_succ]
theorem runI_at {k : Int} {n i : Nat} (h : i < n) : (runI k n)[i]? = some (k + i) := by simp [runI, h]
theorem mark_set (k : Int) {l : List Int} {i : Nat} (h : i < l.length) : (ints (runI k i ++ l.drop i)).set i [.i .i64 (k + i)] = ints (runI k (i + 1) ++ l.drop (i + 1)) := by
  rw [← ints_set]
  congr 1
  have e : l.drop i = l[i] :: l.drop (i + 1) := List.drop_eq_getElem_cons h
  rw [e, List.set_append_right _ _ (by rw [runI_len]; omega), runI_len, Nat.sub_self, List.set_cons_zero, runI_succ]
  simp
theorem mark_at (k : Int) {l : List Int} {i : Nat} (h : i < l.length) : (ints (runI k i ++ l.drop i))[i]? = some [.i .i64 (l.getD i 0)] := by
  have e : l.drop i = l[i] :: l.drop (i + 1) := List.drop_eq_getElem_cons h
  simp only [ints, List.getElem?_map]
  rw [List.getElem?_append_right (by rw [runI_len]; omega), runI_len, Nat.sub_self, e]
  simp [List.getD_eq_getElem?_getD, h]
theorem ints_nil {l : List Int} (h : ints l = []) : l = [] := by
  cases l with
  | nil => rfl
  | cons x l => simp [ints] at h
theorem fit_one {l : List Int} {sz : Nat} (h : fitR sz (ints l)) (h0 : 0 < l.length) : sz = 1 := by
  cases l with
  | nil => simp at h0
  | cons x l => exact (h [.i .i64 x] (by simp [ints])).symm
theorem markInt64S_m (G : Gv) (l : List Int) (k : Int) (hl : l.length < 1000000000) (hk0 : 0 ≤ k) (hk : k < 1000000000000) :
    Marks Tryz.prog G 30 (.sl 1 (ints l)) (.sl 1 (ints (runI k l.length))) k (k + l.length) := by
  intro x H0 n0 S hx hn hS
  rcases ownA_flat (ownX_un hx) (ints_scal l) with ⟨o, e, ty, sz, t, rfl, hH0, rfl, ht, hf⟩ | ⟨hx', hq, rfl⟩
  · have hlen := ints_len l
    clear hx hn hS
    refine (.body Tryz.func30 rfl (by simp [Tryz.ntmps30]) ?_)
    rw [Tryz.ntmps30, Tryz.results30]
    refine AL ?_
    refine .loop (.inv (fun d E H n' => ∃ (i t' : Nat), i + d = l.length ∧ E 0 = .own o e ∧ E 1 = .i .i64 (k + i) ∧ E 5 = .i .i64 i ∧ H o = some (.arr e ty sz (ints (runI k i ++ l.drop i)) t') ∧ t' ≠ 2 ∧ n0 ≤ n' ∧ (∀ o', o' ≠ o → H o' = H0 o')) l.length ?_ ?_)
    · exact ⟨0, t, by omega, by simp [setF_if, argE], by simp [setF_if, argE], by simp [setF_if, argE], by simpa [runI] using hH0, ht, by omega, fun _ _ => rfl⟩
    rintro d E H n' ⟨i, t', hi, h0, h1, h5, hH, ht', hn', hfr⟩
    replace hfr := Hid.mk hfr
    have hle : (ints (runI k i ++ l.drop i)).length = l.length := by rw [ints_len, List.length_append, runI_len, List.length_drop]; omega
    by_cases c : (i : Int) < l.length
    · have hw_i : IntKind.i64.wrap ((i : Int) + 1) = (i : Int) + 1 := wr64 (by omega) (by omega)
      have hwk : IntKind.i64.wrap (k + i + 1) = k + ((i + 1 : Nat) : Int) := by rw [wr64 (by omega) (by omega)]; omega
      obtain rfl := fit_one hf (by omega)
      have hro := mark_at k (l := l) (i := i) (by omega)
      have hset := mark_set k (l := l) (i := i) (by omega)
      have hj : joinT t' 1 ≠ 2 := joinT_ne ht' (by decide)
      have cN : i < l.length := by omega
      generalize ints (runI k i ++ l.drop i) = R at hH hro hset hle
      replace hj := Hid.mk hj
      replace ht' := Hid.mk ht'
      refine AL ?_
      exact ⟨l.length - (i + 1), by omega, i + 1, joinT t' 1, by omega, by simp [setF_if, *], by simp [setF_if, *], by simp [setF_if, *], by simp [upd_if, joinT, *], hj.out, by omega, fun o' ho' => by rw [upd_if, if_neg ho']; exact hfr.out o' ho'⟩
    · refine AL ?_
      have ei : i = l.length := by omega
      rw [ei, List.drop_length, List.append_nil] at hH
      refine ⟨by simp [retA, setF_if, h1, ei], by omega, ownX_sl (ownA_mk hH (ints_scal _) ht' ?_), fun o' h1 h2 => hfr.out o' (by simpa using h2)⟩
      intro r hr
      have h3 := ints_fit _ r hr
      obtain ⟨y, hy, rfl⟩ := List.mem_map.mp hr
      have h4 : 0 < l.length := by
        have := List.length_pos_of_mem hy
        rw [runI_len] at this; exact this
      rw [fit_one hf h4]; rfl
  · obtain rfl := ints_nil hq
    clear hx
    rcases hx' with rfl | ⟨t, rfl⟩
    all_goals
      refine (.body Tryz.func30 rfl (by simp [Tryz.ntmps30]) ?_)
      rw [Tryz.ntmps30, Tryz.results30]
      refine AL ?_
      refine .loop (.inv (fun d E H n' => E 0 = (_ : AV) ∧ E 1 = .i .i64 k ∧ E 5 = .i .i64 0 ∧ n0 ≤ n' ∧ ∀ o, H o = H0 o) 0 ⟨by simp [setF_if, argE]; rfl, by simp [setF_if, argE], by simp [setF_if, argE], by omega, fun _ => rfl⟩ ?_)
      rintro d E H n' ⟨h0, h1, h5, hn', hfr⟩
      replace hfr := Hid.mk hfr
      have c : ¬ ((0 : Int) < ((0 : Nat) : Int)) := by omega
      refine AL ?_
      exact ⟨by simp [retA, setF_if, h1], by omega, ownX_sl (.inr ⟨by first | exact .inl rfl | exact .inr ⟨_, rfl⟩, rfl, rfl⟩), fun o' _ _ => hfr.out o'⟩
/-- A list of such numbers is held. -/
theorem heldInt64S_fn (G : Gv) (k : Int) (m : Nat) (hl : m < 1000000000) (hk0 : 0 ≤ k) (hk : k < 1000000000000) : Gives Tryz.prog G 31 [.sl 0 (ints (runI k m)), .i .i64 k] (.i .i64 (k + m)) := by
  refine .of (.body Tryz.func31 rfl (by simp [Tryz.ntmps31]) ?_)
  rw [Tryz.ntmps31, Tryz.results31]
  have hlen : (ints (runI k m)).length = m := by rw [ints_len, runI_len]
  refine AL ?_
  refine .loop (.inv (fun d E H n' => ∃ i : Nat, i + d = m ∧ E 0 = .sl 0 (ints (runI k m)) ∧ E 1 = .i .i64 (k + i) ∧ E 5 = .i .i64 i) m ?_ ?_)
  · exact ⟨0, by omega, by simp [setF_if, argE], by simp [setF_if, argE], by simp [setF_if, argE]⟩
  rintro d E H n' ⟨i, hi, h0, h1, h5⟩
  by_cases c : (i : Int) < m
  · have hw_i : IntKind.i64.wrap ((i : Int) + 1) = (i : Int) + 1 := wr64 (by omega) (by omega)
    have hwk : IntKind.i64.wrap (k + i + 1) = k + ((i + 1 : Nat) : Int) := by rw [wr64 (by omega) (by omega)]; omega
    have hr := ints_row (runI_at (k := k) (n := m) (i := i) (by omega))
    refine AL ?_
    exact ⟨m - (i + 1), by omega, i + 1, by omega, by simp [setF_if, *], by simp [setF_if, *], by simp [setF_if, *]⟩
  · refine AL ?_
    have ei : i = m := by omega
    simp [retA, backA, setF_if, h1, ei]
/-- Cells of such numbers. -/
def runC (k : Int) (n : Nat) : List (Int × Int) := (List.range n).map fun i : Nat => (k + 2 * (i : Int), k + 2 * (i : Int) + 1)
theorem runC_len (k : Int) (n : Nat) : (runC k n).length = n := by simp [runC]
theorem runC_succ (k : Int) (n : Nat) : runC k (n + 1) = runC k n ++ [(k + 2 * (n : Int), k + 2 * (n : Int) + 1)] := by simp [runC, List.range_succ]
theorem cmark_set (k : Int) {l : List (Int × Int)} {i : Nat} (h : i < l.length) : ((cells (runC k i ++ l.drop i)).set i [.i .i64 (k + 2 * (i : Int)), .i .i64 (l.getD i (0, 0)).2]).set i [.i .i64 (k + 2 * (i : Int)), .i .i64 (k + 2 * (i : Int) + 1)] = cells (runC k (i + 1) ++ l.drop (i + 1)) := by
  have e : l.drop i = l[i] :: l.drop (i + 1) := List.drop_eq_getElem_cons h
  rw [List.set_set, e]
  unfold cells
  rw [List.map_append, List.set_append_right _ _ (by rw [List.length_map, runC_len]; omega), List.length_map, runC_len, Nat.sub_self, List.map_cons, List.set_cons_zero, runC_succ]
  simp
theorem cmark_at (k : Int) {l : List (Int × Int)} {i : Nat} (h : i < l.length) : (cells (runC k i ++ l.drop i))[i]? = some [.i .i64 (l.getD i (0, 0)).1, .i .i64 (l.getD i (0, 0)).2] := by
  have e : l.drop i = l[i] :: l.drop (i + 1) := List.drop_eq_getElem_cons h
  simp only [cells, List.getElem?_map]
  rw [List.getElem?_append_right (by rw [runC_len]; omega), runC_len, Nat.sub_self, e]
  simp [List.getD_eq_getElem?_getD, h]
theorem cells_nil {l : List (Int × Int)} (h : cells l = []) : l = [] := by
  cases l with
  | nil => rfl
  | cons x l => simp [cells] at h
theorem fit_two {l : List (Int × Int)} {sz : Nat} (h : fitR sz (cells l)) (h0 : 0 < l.length) : sz = 2 := by
  cases l with
  | nil => simp at h0
  | cons x l => exact (h [.i .i64 x.1, .i .i64 x.2] (by simp [cells])).symm
theorem markCellS_m (G : Gv) (l : List (Int × Int)) (k : Int) (hl : l.length < 1000000000) (hk0 : 0 ≤ k) (hk : k < 1000000000000) :
    Marks Tryz.prog G 58 (.sl 1 (cells l)) (.sl 1 (cells (runC k l.length))) k (k + 2 * l.length) := by
  intro x H0 n0 S hx hn hS
  rcases ownA_flat (ownX_un hx) (cells_scal l) with ⟨o, e, ty, sz, t, rfl, hH0, rfl, ht, hf⟩ | ⟨hx', hq, rfl⟩
  · have hlen := cells_len l
    clear hx hn hS
    refine (.body Tryz.func58 rfl (by simp [Tryz.ntmps58]) ?_)
    rw [Tryz.ntmps58, Tryz.results58]
    refine AL ?_
    refine .loop (.inv (fun d E H n' => ∃ (i t' : Nat), i + d = l.length ∧ E 0 = .own o e ∧ E 1 = .i .i64 (k + 2 * i) ∧ E 5 = .i .i64 i ∧ H o = some (.arr e ty sz (cells (runC k i ++ l.drop i)) t') ∧ t' ≠ 2 ∧ n0 ≤ n' ∧ (∀ o', o' ≠ o → H o' = H0 o')) l.length ?_ ?_)
    · exact ⟨0, t, by omega, by simp [setF_if, argE], by simp [setF_if, argE], by simp [setF_if, argE], by simpa [runC] using hH0, ht, by omega, fun _ _ => rfl⟩
    rintro d E H n' ⟨i, t', hi, h0, h1, h5, hH, ht', hn', hfr⟩
    replace hfr := Hid.mk hfr
    have hle : (cells (runC k i ++ l.drop i)).length = l.length := by rw [cells_len, List.length_append, runC_len, List.length_drop]; omega
    by_cases c : (i : Int) < l.length
    · have hw_i : IntKind.i64.wrap ((i : Int) + 1) = (i : Int) + 1 := wr64 (by omega) (by omega)
      have hwk : IntKind.i64.wrap (k + 2 * (i : Int) + 1) = k + 2 * (i : Int) + 1 := wr64 (by omega) (by omega)
      have hwk2 : IntKind.i64.wrap (k + 2 * (i : Int) + 1 + 1) = k + 2 * ((i + 1 : Nat) : Int) := by rw [wr64 (by omega) (by omega)]; omega
      obtain rfl := fit_two hf (by omega)
      have hro := cmark_at k (l := l) (i := i) (by omega)
      have hset := cmark_set k (l := l) (i := i) (by omega)
      have hj : joinT (joinT t' 1) 1 ≠ 2 := joinT_ne (joinT_ne ht' (by decide)) (by decide)
      have cN : i < l.length := by omega
      generalize cells (runC k i ++ l.drop i) = R at hH hro hset hle
      generalize (l.getD i (0, 0)).1 = y1 at hro hset
      generalize (l.getD i (0, 0)).2 = y2 at hro hset
      have hR2 : (R.set i [.i .i64 (k + 2 * (i : Int)), .i .i64 y2])[i]? = some [.i .i64 (k + 2 * (i : Int)), .i .i64 y2] := by rw [List.getElem?_set_self]; omega
      have hRl : (R.set i [.i .i64 (k + 2 * (i : Int)), .i .i64 y2]).length = l.length := by rw [List.length_set]; exact hle
      generalize hR0 : R.set i [.i .i64 (k + 2 * (i : Int)), .i .i64 y2] = R2 at hset hR2 hRl
      replace hj := Hid.mk hj
      replace ht' := Hid.mk ht'
      refine AL ?_
      exact ⟨l.length - (i + 1), by omega, i + 1, joinT (joinT t' 1) 1, by omega, by simp [setF_if, *], by simp [setF_if, *], by simp [setF_if, *], by simp [upd_if, joinT, *], hj.out, by omega, fun o' ho' => by rw [upd_if, if_neg ho', upd_if, if_neg ho']; exact hfr.out o' ho'⟩
    · refine AL ?_
      have ei : i = l.length := by omega
      rw [ei, List.drop_length, List.append_nil] at hH
      refine ⟨by simp [retA, setF_if, h1, ei], by omega, ownX_sl (ownA_mk hH (cells_scal _) ht' ?_), fun o' h1 h2 => hfr.out o' (by simpa using h2)⟩
      intro r hr
      have h3 := cells_fit _ r hr
      obtain ⟨y, hy, rfl⟩ := List.mem_map.mp hr
      have h4 : 0 < l.length := by
        have := List.length_pos_of_mem hy
        rw [runC_len] at this; exact this
      rw [fit_two hf h4]; rfl
  · obtain rfl := cells_nil hq
    clear hx
    rcases hx' with rfl | ⟨t, rfl⟩
    all_goals
      refine (.body Tryz.func58 rfl (by simp [Tryz.ntmps58]) ?_)
      rw [Tryz.ntmps58, Tryz.results58]
      refine AL ?_
      refine .loop (.inv (fun d E H n' => E 0 = (_ : AV) ∧ E 1 = .i .i64 k ∧ E 5 = .i .i64 0 ∧ n0 ≤ n' ∧ ∀ o, H o = H0 o) 0 ⟨by simp [setF_if, argE]; rfl, by simp [setF_if, argE], by simp [setF_if, argE], by omega, fun _ => rfl⟩ ?_)
      rintro d E H n' ⟨h0, h1, h5, hn', hfr⟩
      replace hfr := Hid.mk hfr
      have c : ¬ ((0 : Int) < ((0 : Nat) : Int)) := by omega
      refine AL ?_
      exact ⟨by simp [retA, setF_if, h1], by omega, ownX_sl (.inr ⟨by first | exact .inl rfl | exact .inr ⟨_, rfl⟩, rfl, rfl⟩), fun o' _ _ => hfr.out o'⟩
end Go.Proofs
end
section
open Go Go.Big
namespace Go.Proofs
set_option maxHeartbeats 2000000
theorem ownP_load {H : Heap} {q : PV} {rows : List (List PV)} {s : List Nat} (h : ownP H q (.sl rows) s) (tg : Nat) : ownX H (avOf tg q) (.sl 1 rows) s := by
  cases q with
  | ob o e =>
    obtain ⟨rfl, ty, sz, rows', t, h1, h2, h3, e1, h4⟩ := h
    cases e1
    exact ownX_sl (ownA_mk h1 h3 h2 h4)
  | sl r => obtain ⟨rfl, e1, rfl⟩ := h; cases e1; exact ownX_sl (.inr ⟨.inr ⟨tg, rfl⟩, rfl, rfl⟩)
  | i => obtain ⟨_, e⟩ := h; cases e
  | b => obtain ⟨_, e⟩ := h; cases e
  | s => obtain ⟨_, e⟩ := h; cases e
theorem ownP_forms {H : Heap} {q : PV} {rows : List (List PV)} {s : List Nat} (h : ownP H q (.sl rows) s) : (∃ o e, q = .ob o e) ∨ q = .sl [] := by
  cases q with
  | ob o e => exact .inl ⟨o, e, rfl⟩
  | sl r => obtain ⟨rfl, _⟩ := h; exact .inr rfl
  | i => obtain ⟨_, e⟩ := h; cases e
  | b => obtain ⟨_, e⟩ := h; cases e
  | s => obtain ⟨_, e⟩ := h; cases e
theorem ownP_back {H H0 : Heap} {q : PV} {rows rows0 : List (List PV)} {s s0 : List Nat} {tg : Nat} (h0 : ownP H0 q (.sl rows0) s0) (h : ownX H (avOf tg q) (.sl 1 rows) s) (hs : scalRows rows) : ownP H q (.sl rows) s := by
  cases q with
  | ob o e =>
    rcases ownA_flat (ownX_un h) hs with ⟨o', e', ty, sz, t, e1, h1, rfl, h2, h3⟩ | ⟨e1 | ⟨_, e1⟩, _⟩
    · cases e1; exact ownP_mk h1 hs h2 h3
    · cases e1
    · cases e1
  | sl r =>
    rcases ownA_flat (ownX_un h) hs with ⟨o', e', ty, sz, t, e1, _⟩ | ⟨e1 | ⟨_, e1⟩, rfl, rfl⟩
    · cases e1
    · cases e1
    · cases e1; exact ⟨rfl, rfl, rfl⟩
  | i => obtain ⟨_, e⟩ := h0; cases e
  | b => obtain ⟨_, e⟩ := h0; cases e
  | s => obtain ⟨_, e⟩ := h0; cases e
theorem ownPs_cons {H : Heap} {p q : PV} {ps qs : List PV} {s s' : List Nat} (h : ownP H p q s) (g : ownPs H ps qs s') : ownPs H (p :: ps) (q :: qs) (s ++ s') := ⟨q, qs, s, s', rfl, rfl, h, g⟩
theorem ownP_isI {H : Heap} {p : PV} {k : IntKind} {n : Int} {s : List Nat} (h : ownP H p (.i k n) s) : p = .i k n ∧ s = [] := by
  cases p with
  | ob o e => obtain ⟨_, _, _, _, _, _, _, _, e1, _⟩ := h; cases e1
  | sl r => obtain ⟨_, e1, _⟩ := h; cases e1
  | i => obtain ⟨rfl, e1⟩ := h; cases e1; exact ⟨rfl, rfl⟩
  | b => obtain ⟨_, e1⟩ := h; cases e1
  | s => obtain ⟨_, e1⟩ := h; cases e1
theorem ownP_isB {H : Heap} {p : PV} {b : Bool} {s : List Nat} (h : ownP H p (.b b) s) : p = .b b ∧ s = [] := by
  cases p with
  | ob o e => obtain ⟨_, _, _, _, _, _, _, _, e1, _⟩ := h; cases e1
  | sl r => obtain ⟨_, e1, _⟩ := h; cases e1
  | i => obtain ⟨_, e1⟩ := h; cases e1
  | b => obtain ⟨rfl, e1⟩ := h; cases e1; exact ⟨rfl, rfl⟩
  | s => obtain ⟨_, e1⟩ := h; cases e1
theorem ownPs_nilI {H : Heap} {ps : List PV} {s : List Nat} (h : ownPs H ps [] s) : ps = [] ∧ s = [] := by
  cases ps with
  | nil => exact ⟨rfl, h.2⟩
  | cons p ps => obtain ⟨_, _, _, _, e, _⟩ := h; cases e
theorem ownPs_consI {H : Heap} {ps : List PV} {q : PV} {qs : List PV} {s : List Nat} (h : ownPs H ps (q :: qs) s) : ∃ p ps' s1 s2, ps = p :: ps' ∧ s = s1 ++ s2 ∧ ownP H p q s1 ∧ ownPs H ps' qs s2 := by
  cases ps with
  | nil => have := h.1; cases this
  | cons p ps => obtain ⟨_, _, s1, s2, e, e2, h1, h2⟩ := h; cases e; exact ⟨p, ps, s1, s2, rfl, e2, h1, h2⟩
theorem ownRs_consI {H : Heap} {rows : List (List PV)} {q : List PV} {qs : List (List PV)} {S : List Nat} (h : ownRs H rows (q :: qs) S) : ∃ r rs s1 s2, rows = r :: rs ∧ S = s1 ++ s2 ∧ ownPs H r q s1 ∧ ownRs H rs qs s2 := by
  cases rows with
  | nil => have := h.1; cases this
  | cons r rs => obtain ⟨_, _, s1, s2, e, e2, h1, h2⟩ := h; cases e; exact ⟨r, rs, s1, s2, rfl, e2, h1, h2⟩
theorem ownRs_nilI {H : Heap} {rows : List (List PV)} {S : List Nat} (h : ownRs H rows [] S) : rows = [] ∧ S = [] := by
  cases rows with
  | nil => exact ⟨rfl, h.2⟩
  | cons r rs => obtain ⟨_, _, _, _, e, _⟩ := h; cases e
/-- One row has been written. -/
theorem mark_step {H H1 H2 : Heap} {r1 r2 : List (List PV)} {row' : List PV} {q1 q2 : List (List PV)} {qr : List PV} {S1 s S2 : List Nat} {o n : Nat} (hnd : (o :: (S1 ++ (s ++ S2))).Nodup) (hlt : ∀ x ∈ S1 ++ (s ++ S2), x < n)
    (h1 : ownRs H r1 q1 S1) (h2 : ownRs H r2 q2 S2) (hp : ownPs H1 row' qr s) (fr : ∀ x, x < n → x ≠ o → x ∉ s → H1 x = H x) (fo : ∀ x, x ≠ o → H2 x = H1 x) : ownRs H2 (r1 ++ [row']) (q1 ++ [qr]) (S1 ++ s) ∧ ownRs H2 r2 q2 S2 := by
  rw [List.nodup_cons] at hnd
  obtain ⟨ho, hnd⟩ := hnd
  rw [List.nodup_append] at hnd
  obtain ⟨n1, n2, n3⟩ := hnd
  rw [List.nodup_append] at n2
  obtain ⟨m1, m2, m3⟩ := n2
  have away : ∀ x, x ∈ S1 ++ (s ++ S2) → x ≠ o := fun x hx e => ho (e ▸ hx)
  refine ⟨ownRs_append (ownRs_congr (fun x hx => ?_) h1) (ownRs_one (ownPs_congr (fun x hx => fo x (away x (by simp [hx]))) hp)), ownRs_congr (fun x hx => ?_) h2⟩
  · rw [fo x (away x (by simp [hx])), fr x (hlt x (by simp [hx])) (away x (by simp [hx])) (fun h => n3 x hx x (by simp [h]) rfl)]
  · rw [fo x (away x (by simp [hx])), fr x (hlt x (by simp [hx])) (away x (by simp [hx])) (fun h => m3 x h x hx rfl)]
/-- What is marked in pieces. -/
def mkQ : Int → List PieceM → List PieceM
  | _, [] => []
  | k, p :: l => ⟨runC k p.cs.length, k + 2 * p.cs.length, (k + 2 * p.cs.length + 1).tmod 3 == 0⟩ :: mkQ (k + 2 * p.cs.length + 2) l
def cntQ : List PieceM → Int
  | [] => 0
  | p :: l => 2 * p.cs.length + 2 + cntQ l
theorem cntQ_nn : ∀ l, 0 ≤ cntQ l
  | [] => Int.le_refl _
  | p :: l => by have := cntQ_nn l; simp only [cntQ]; omega
theorem pieces_app (a b : List PieceM) : pieces (a ++ b) = pieces a ++ pieces b := by simp [pieces]
theorem row_noScal {q0 : PV} {rows : List (List PV)} {s : List Nat} {H : Heap} (h : ownP H q0 (.sl rows) s) : scalB q0 = false := by
  cases q0 with
  | ob => rfl
  | sl => rfl
  | i => obtain ⟨_, e⟩ := h; cases e
  | b => obtain ⟨_, e⟩ := h; cases e
  | s => obtain ⟨_, e⟩ := h; cases e
theorem set_mid {α : Type} (r1 r2 : List α) (a b : α) {i : Nat} (h : r1.length = i) : (r1 ++ a :: r2).set i b = r1 ++ b :: r2 := by
  subst h; simp
theorem at_mid {α : Type} (r1 r2 : List α) (a : α) {i : Nat} (h : r1.length = i) : (r1 ++ a :: r2)[i]? = some a := by
  subst h; simp
/-- The tag of an array some of whose rows may own something. -/
def tagOk (t : Nat) (rows : List (List PV)) : Prop := t = 2 ∨ noObs rows
theorem tag_join {t : Nat} {rows : List (List PV)} (h : tagOk t rows) : tagOk (joinT t 1) rows := h.imp (fun e => by subst e; rfl) id
theorem tagOk_own {H : Heap} {o e : Nat} {ty : TypeId} {sz t : Nat} {rows q : List (List PV)} {S : List Nat} (h : H o = some (.arr e ty sz rows t)) (hr : ownRs H rows q S) (ht : tagOk t rows) (hq : ∀ r ∈ rows, ∃ p ∈ r, scalB p = false) (hf : fitR sz rows) (ht2 : rows = [] → t ≠ 2) : ownA H (.own o e) q (o :: S) := by
  refine .inl ⟨o, e, ty, sz, rows, t, S, rfl, h, rfl, hr, ht, fun hs => ?_, hf⟩
  · cases rows with
    | nil => exact ht2 rfl
    | cons r rs =>
      obtain ⟨p, hp, hs2⟩ := hq r List.mem_cons_self
      rw [hs r List.mem_cons_self p hp] at hs2; cases hs2

theorem ownPs_ns {H : Heap} : ∀ {ps qs : List PV} {s : List Nat}, ownPs H ps qs s → (∃ q ∈ qs, scalB q = false) → ∃ p ∈ ps, scalB p = false
  | [], _, _, h, ⟨q, hq, _⟩ => by rw [h.1] at hq; simp at hq
  | p :: ps, _, _, ⟨q, qs', s1, s2, e1, _, h1, h2⟩, ⟨z, hz, hs⟩ => by
    subst e1
    rcases List.mem_cons.mp hz with rfl | hz
    · refine ⟨p, List.mem_cons_self, ?_⟩
      cases q0 : scalB p with
      | false => rfl
      | true => obtain ⟨_, rfl⟩ := ownP_scal q0 h1; rw [q0] at hs; cases hs
    · obtain ⟨p', g1, g2⟩ := ownPs_ns h2 ⟨z, hz, hs⟩
      exact ⟨p', List.mem_cons_of_mem _ g1, g2⟩
theorem ownRs_ns {H : Heap} : ∀ {rows q : List (List PV)} {S : List Nat}, ownRs H rows q S → (∀ r ∈ q, ∃ p ∈ r, scalB p = false) → ∀ r ∈ rows, ∃ p ∈ r, scalB p = false
  | [], _, _, _, _ => by simp
  | r :: rs, _, _, ⟨a, b, s1, s2, e1, _, h1, h2⟩, hq => fun x hx => by
    subst e1
    rcases List.mem_cons.mp hx with rfl | hx
    · exact ownPs_ns h1 (hq a List.mem_cons_self)
    · exact ownRs_ns h2 (fun y hy => hq y (List.mem_cons_of_mem _ hy)) x hx
theorem pieces_ns (l : List PieceM) : ∀ r ∈ pieces l, ∃ p ∈ r, scalB p = false := fun r hr => by
  obtain ⟨p, _, rfl⟩ := List.mem_map.mp hr
  exact ⟨_, List.mem_cons_self, rfl⟩
theorem mkQ_len : ∀ (k : Int) (l : List PieceM), (mkQ k l).length = l.length
  | _, [] => rfl
  | k, p :: l => by simp [mkQ, mkQ_len]
theorem noObs_join {t : Nat} {r1 r2 : List (List PV)} {a : List PV} {b a0 b0 : PV} (h : tagOk t (r1 ++ a :: r2)) (ha : a = [b, a0, b0]) (c1 c2 : PV) (hc1 : noOb c1 = true) (hc2 : noOb c2 = true) : tagOk t (r1 ++ [b, c1, c2] :: r2) := by
  rcases h with h | h1
  · exact .inl h
  · refine .inr fun r hr p hp => ?_
    rcases List.mem_append.mp hr with hr | hr
    · exact h1 r (List.mem_append.mpr (.inl hr)) p hp
    · rcases List.mem_cons.mp hr with rfl | hr
      · simp only [List.mem_cons, List.not_mem_nil, or_false] at hp
        rcases hp with rfl | rfl | rfl
        · exact h1 a (by simp) _ (by rw [ha]; simp)
        · exact hc1
        · exact hc2
      · exact h1 r (List.mem_append.mpr (.inr (List.mem_cons_of_mem _ hr))) p hp
theorem markPieceS_m (G : Gv) (l : List PieceM) (k : Int) (hl : l.length < 1000000000) (hc : ∀ p ∈ l, p.cs.length < 1000000000) (hk0 : 0 ≤ k) (hk : k + cntQ l < 1000000000000) :
    Marks Tryz.prog G 80 (.sl 1 (pieces l)) (.sl 1 (pieces (mkQ k l))) k (k + cntQ l) := by
  intro x H0 n0 S hx hn hS
  rcases ownX_un hx with ⟨o, e, ty, sz, rows0, t0, S', rfl, hH0, rfl, hR0, ht0, ht0', hf0⟩ | ⟨hx', hq, rfl⟩
  · have hlen := pieces_len l
    have hr0l := ownRs_len hR0
    have htag0 : tagOk t0 rows0 := ht0
    have hnil0 : rows0 = [] → t0 ≠ 2 := fun e => ht0' (by rw [e]; intro r hr; simp at hr)
    have hon : o < n0 := hS o List.mem_cons_self
    have hSn : ∀ x ∈ S', x < n0 := fun x hx => hS x (List.mem_cons_of_mem _ hx)
    clear hx ht0 ht0' hS
    replace hn := Hid.mk hn
    replace hSn := Hid.mk hSn
    replace hc := Hid.mk hc
    replace hnil0 := Hid.mk hnil0
    refine (.body Tryz.func80 rfl (by simp [Tryz.ntmps80]) ?_)
    rw [Tryz.ntmps80, Tryz.results80]
    refine AL ?_
    refine .loop (.inv (fun d E H n' => ∃ (i t' : Nat) (r1 r2 : List (List PV)) (S1 S2 : List Nat) (D : List PieceM) (k' : Int), i + d = l.length ∧ E 0 = .own o e ∧ E 1 = .i .i64 k' ∧ E 5 = .i .i64 i ∧ H o = some (.arr e ty sz (r1 ++ r2) t') ∧ n0 ≤ n' ∧ (r1.length = i ∧ D.length = i ∧ (r1 ++ r2).length = l.length ∧ (l = [] → t' ≠ 2)) ∧ tagOk t' (r1 ++ r2) ∧ fitR sz (r1 ++ r2) ∧
        (S' = S1 ++ S2 ∧ ownRs H r1 (pieces D) S1 ∧ ownRs H r2 (pieces (l.drop i)) S2) ∧ (D ++ mkQ k' (l.drop i) = mkQ k l ∧ k' + cntQ (l.drop i) = k + cntQ l ∧ 0 ≤ k') ∧ ∀ o', o' < n0 → o' ∉ o :: S' → H o' = H0 o') l.length ?_ ?_)
    · refine ⟨0, t0, [], rows0, [], S', [], k, by omega, by simp [setF_if, argE], by simp [setF_if, argE], by simp [setF_if, argE], by simpa using hH0, by omega, ⟨rfl, rfl, by simp [hr0l, hlen], fun e => hnil0.out ?_⟩, by simpa using htag0, by simpa using hf0, ⟨rfl, ⟨rfl, rfl⟩, by simpa using hR0⟩, ⟨rfl, rfl, hk0⟩, fun _ _ _ => rfl⟩
      subst e; exact List.length_eq_zero_iff.mp (by rw [hr0l]; rfl)
    clear hH0 hR0 htag0 hf0
    rintro d E H n' ⟨i, t', r1, r2, S1, S2, D, k', hi, h0, h1, h5, hH, hn', ⟨hr1, hD, hrl, hnil⟩, htag, hfit, hown, hnum, hfr⟩
    replace hfr := Hid.mk hfr
    replace htag := Hid.mk htag
    replace hfit := Hid.mk hfit
    replace hown := Hid.mk hown
    replace hnum := Hid.mk hnum
    replace hnil := Hid.mk hnil
    replace hr1 := Hid.mk hr1
    replace hD := Hid.mk hD
    by_cases c : (i : Int) < l.length
    · have hw_i : IntKind.i64.wrap ((i : Int) + 1) = (i : Int) + 1 := wr64 (by omega) (by omega)
      obtain ⟨p, hp⟩ : ∃ p, l[i]? = some p := ⟨_, List.getElem?_eq_getElem (by omega)⟩
      have hpl := hc.out p (List.mem_of_getElem? hp)
      obtain ⟨hS', hr1o, hr2o⟩ := hown.out
      obtain ⟨hN1, hN2, hN3⟩ := hnum.out
      rw [drop_cons hp] at hr2o hN1 hN2
      obtain ⟨row, r2, s, S2, rfl, rfl, hrow, hr2n⟩ := ownRs_consI hr2o
      clear hr2o
      obtain ⟨q0, ps, s, s', rfl, rfl, hq0, hps⟩ := ownPs_consI hrow
      obtain ⟨p1, ps, s1, s', rfl, rfl, hp1, hps1⟩ := ownPs_consI hps
      obtain ⟨p2, ps, s2, s', rfl, rfl, hp2, hps2⟩ := ownPs_consI hps1
      obtain ⟨rfl, rfl⟩ := ownPs_nilI hps2
      obtain ⟨rfl, rfl⟩ := ownP_isI hp1
      obtain ⟨rfl, rfl⟩ := ownP_isB hp2
      clear hp1 hp2 hps hps1 hps2 hrow
      simp only [List.nil_append, List.append_nil] at hS'
      have hcnt := cntQ_nn (l.drop (i + 1))
      simp only [mkQ, cntQ] at hN1 hN2
      have hsz : sz = 3 := by have := hfit.out [q0, .i .i64 p.k, .b p.b] (by simp); simpa using this.symm
      subst hsz
      have hro : (r1 ++ [q0, .i .i64 p.k, .b p.b] :: r2)[i]? = some [q0, .i .i64 p.k, .b p.b] := at_mid _ _ _ hr1.out
      have cN : i < l.length := by omega
      have hw1 : IntKind.i64.wrap (k' + 2 * (p.cs.length : Int) + 1) = k' + 2 * (p.cs.length : Int) + 1 := wr64 (by omega) (by omega)
      have hw2 : IntKind.i64.wrap (k' + 2 * (p.cs.length : Int) + 1 + 1) = k' + 2 * (p.cs.length : Int) + 2 := by rw [wr64 (by omega) (by omega)]; omega
      have hz := ownP_load hq0 (ftag t')
      obtain ⟨row', hrow'⟩ : ∃ row', row' = [q0, .i .i64 (k' + 2 * (p.cs.length : Int)), .b ((k' + 2 * (p.cs.length : Int) + 1).tmod 3 == 0)] := ⟨_, rfl⟩
      have hset : ((r1 ++ [q0, .i .i64 p.k, .b p.b] :: r2).set i [q0, .i .i64 (k' + 2 * (p.cs.length : Int)), .b p.b]).set i [q0, .i .i64 (k' + 2 * (p.cs.length : Int)), .b ((k' + 2 * (p.cs.length : Int) + 1).tmod 3 == 0)] = r1 ++ row' :: r2 := by rw [set_mid _ _ _ _ hr1.out, set_mid _ _ _ _ hr1.out, hrow']
      have hro2 : ((r1 ++ [q0, .i .i64 p.k, .b p.b] :: r2).set i [q0, .i .i64 (k' + 2 * (p.cs.length : Int)), .b p.b])[i]? = some [q0, .i .i64 (k' + 2 * (p.cs.length : Int)), .b p.b] := by rw [set_mid _ _ _ _ hr1.out]; exact at_mid _ _ _ hr1.out
      have hrl2 : ((r1 ++ [q0, .i .i64 p.k, .b p.b] :: r2).set i [q0, .i .i64 (k' + 2 * (p.cs.length : Int)), .b p.b]).length = l.length := by rw [List.length_set]; exact hrl
      have htag2 : tagOk (joinT (joinT t' 1) 1) (r1 ++ row' :: r2) := by rw [hrow']; exact tag_join <| tag_join <| noObs_join htag.out rfl _ _ rfl rfl
      have hfit2 : fitR 3 (r1 ++ row' :: r2) := fun r hr => by
        rcases List.mem_append.mp hr with hr | hr
        · exact hfit.out r (List.mem_append.mpr (.inl hr))
        · rcases List.mem_cons.mp hr with rfl | hr
          · rw [hrow']; rfl
          · exact hfit.out r (List.mem_append.mpr (.inr (List.mem_cons_of_mem _ hr)))
      have hnd : (o :: (S1 ++ (s ++ S2))).Nodup := by rw [← hS']; exact hn.out
      have hlt : ∀ x ∈ S1 ++ (s ++ S2), x < n0 := by rw [← hS']; exact hSn.out
      have hos : o ∉ s := fun h => by rw [List.nodup_cons] at hnd; exact hnd.1 (by simp [h])
      have hsn : s.Nodup := by
        rw [List.nodup_cons, List.nodup_append, List.nodup_append] at hnd; exact hnd.2.2.1.1
      generalize r1 ++ [q0, .i .i64 p.k, .b p.b] :: r2 = R at hH hro hset hro2 hrl2 hrl
      generalize hR1 : R.set i [q0, .i .i64 (k' + 2 * (p.cs.length : Int)), .b p.b] = R1 at hset hro2 hrl2
      replace htag2 := Hid.mk htag2
      replace hfit2 := Hid.mk hfit2
      replace hnd := Hid.mk hnd
      replace hlt := Hid.mk hlt
      replace hos := Hid.mk hos
      replace hsn := Hid.mk hsn
      replace hq0 := Hid.mk hq0
      replace hr1o := Hid.mk hr1o
      replace hr2n := Hid.mk hr2n
      replace hS' := Hid.mk hS'
      replace hrow' := Hid.mk hrow'
      replace hp := Hid.mk hp
      replace hz := Hid.mk hz
      replace hN1 := Hid.mk hN1
      obtain ⟨T, hT⟩ : ∃ T, T = joinT (joinT t' 1) 1 := ⟨_, rfl⟩
      replace hT := Hid.mk hT
      refine AL ?_
      refine CI ?_
      refine (markCellS_m G p.cs k' hpl (by omega) (by omega) _ H _ s hz.out hsn.out (fun x hx => by have := hlt.out x (by simp [hx]); omega)).mono ?_
      rintro _ H1 m ⟨rfl, hm, hz1, hf1⟩
      have hH1 := hf1 o (by omega) hos.out
      rw [hH] at hH1
      replace hf1 := Hid.mk hf1
      replace hz1 := Hid.mk hz1
      clear hH
      refine AL ?_
      have hq1 := ownP_back hq0.out hz1.out (cells_scal _)
      have hp' : ownPs H1 row' (pieceR ⟨runC k' p.cs.length, k' + 2 * p.cs.length, (k' + 2 * p.cs.length + 1).tmod 3 == 0⟩) s := by
        rw [hrow'.out, ← List.append_nil s]
        exact ownPs_cons hq1 (ownPs_scal_mk (by simp [scalB]))
      have hlt2 : ∀ x ∈ S1 ++ (s ++ S2), x < n' := fun x hx => Nat.lt_of_lt_of_le (hlt.out x hx) hn'
      have hfr2 : ∀ x, x < n' → x ≠ o → x ∉ s → H1 x = H x := fun x hx _ hs => hf1.out x (by omega) hs
      refine ⟨l.length - (i + 1), by omega, i + 1, T, r1 ++ [row'], r2, S1 ++ s, S2, D ++ [⟨runC k' p.cs.length, k' + 2 * p.cs.length, (k' + 2 * p.cs.length + 1).tmod 3 == 0⟩], k' + 2 * p.cs.length + 2, by omega, by simp [setF_if, *], by simp [setF_if, *], by simp [setF_if, *], ?_, by omega, ⟨by simp [hr1.out], by simp [hD.out], ?_, fun e => by rw [e] at cN; simp at cN⟩, ?_, ?_, ⟨?_, ?_, ?_⟩, ⟨?_, by omega, by omega⟩, ?_⟩
      · rw [hT.out]; simp [upd_if, joinT]
      · have := congrArg List.length hset
        simp only [List.length_set, hrl2] at this
        simp only [List.append_assoc, List.singleton_append]; exact this.symm
      · rw [hT.out]; simpa using htag2.out
      · simpa using hfit2.out
      · rw [hS'.out]; simp
      · rw [pieces_app]
        exact (mark_step hnd.out hlt2 hr1o.out hr2n.out hp' hfr2 (fun x hx => by rw [upd_if, if_neg hx, upd_if, if_neg hx])).1
      · exact (mark_step hnd.out hlt2 hr1o.out hr2n.out hp' hfr2 (fun x hx => by rw [upd_if, if_neg hx, upd_if, if_neg hx])).2
      · simpa using hN1.out
      · intro o' h1 h2
        have h3 : o' ≠ o := fun e => h2 (by rw [e]; exact List.mem_cons_self)
        rw [upd_if, if_neg h3, upd_if, if_neg h3, hf1.out o' (by omega) (fun h => h2 (List.mem_cons_of_mem _ (by rw [hS'.out]; simp [h])))]
        exact hfr.out o' h1 h2
    · refine AL ?_
      have ei : i = l.length := by omega
      obtain ⟨hS', hr1o, hr2o⟩ := hown.out
      obtain ⟨hN1, hN2, hN3⟩ := hnum.out
      rw [ei, List.drop_length] at hr2o hN1 hN2
      obtain ⟨rfl, rfl⟩ := ownRs_nilI hr2o
      simp only [mkQ, cntQ, List.append_nil] at hN1 hN2 hS' hH
      subst hS' hN1
      have ht := htag.out
      have hf := hfit.out
      rw [List.append_nil] at ht hf
      refine ⟨by simp [retA, setF_if, h1]; omega, by omega, ownX_sl (tagOk_own hH hr1o ht (ownRs_ns hr1o (pieces_ns _)) hf ?_), fun o' h1 h2 => hfr.out o' h1 h2⟩
      intro e
      refine hnil.out (List.length_eq_zero_iff.mp ?_)
      have := hr1.out
      rw [e] at this; simp at this; omega
  · obtain rfl : l = [] := by
      cases l with
      | nil => rfl
      | cons x l => simp [pieces] at hq
    clear hx
    rcases hx' with rfl | ⟨t, rfl⟩
    all_goals
      refine (.body Tryz.func80 rfl (by simp [Tryz.ntmps80]) ?_)
      rw [Tryz.ntmps80, Tryz.results80]
      refine AL ?_
      refine .loop (.inv (fun d E H n' => E 0 = (_ : AV) ∧ E 1 = .i .i64 k ∧ E 5 = .i .i64 0 ∧ n0 ≤ n' ∧ ∀ o, H o = H0 o) 0 ⟨by simp [setF_if, argE]; rfl, by simp [setF_if, argE], by simp [setF_if, argE], by omega, fun _ => rfl⟩ ?_)
      rintro d E H n' ⟨h0, h1, h5, hn', hfr⟩
      replace hfr := Hid.mk hfr
      have c : ¬ ((0 : Int) < ((0 : Nat) : Int)) := by omega
      refine AL ?_
      exact ⟨by simp [retA, setF_if, h1, cntQ], by omega, ownX_sl (.inr ⟨by first | exact .inl rfl | exact .inr ⟨_, rfl⟩, rfl, rfl⟩), fun o' _ _ => hfr.out o'⟩
end Go.Proofs
end
section
open Go Go.Big
namespace Go.Proofs
set_option maxHeartbeats 2000000
/-- What is marked in placements. -/
def mkP : Int → List (Int × List Int) → List (Int × List Int)
  | _, [] => []
  | k, p :: l => (k, runI (k + 1) p.2.length) :: mkP (k + 1 + p.2.length) l
def cntP : List (Int × List Int) → Int
  | [] => 0
  | p :: l => 1 + p.2.length + cntP l
theorem cntP_nn : ∀ l, 0 ≤ cntP l
  | [] => Int.le_refl _
  | p :: l => by have := cntP_nn l; simp only [cntP]; omega
theorem places_app (a b : List (Int × List Int)) : places (a ++ b) = places a ++ places b := by simp [places]
theorem places_ns (l : List (Int × List Int)) : ∀ r ∈ places l, ∃ p ∈ r, scalB p = false := fun r hr => by
  obtain ⟨p, _, rfl⟩ := List.mem_map.mp hr
  exact ⟨_, List.mem_cons_of_mem _ List.mem_cons_self, rfl⟩
theorem noObs_join2 {t : Nat} {r1 r2 : List (List PV)} {a : List PV} {b a0 : PV} (h : tagOk t (r1 ++ a :: r2)) (ha : a = [a0, b]) (c1 : PV) (hc1 : noOb c1 = true) : tagOk t (r1 ++ [c1, b] :: r2) := by
  rcases h with h | h1
  · exact .inl h
  · refine .inr fun r hr p hp => ?_
    rcases List.mem_append.mp hr with hr | hr
    · exact h1 r (List.mem_append.mpr (.inl hr)) p hp
    · rcases List.mem_cons.mp hr with rfl | hr
      · simp only [List.mem_cons, List.not_mem_nil, or_false] at hp
        rcases hp with rfl | rfl
        · exact hc1
        · exact h1 a (by simp) _ (by rw [ha]; simp)
      · exact h1 r (List.mem_append.mpr (.inr (List.mem_cons_of_mem _ hr))) p hp
end Go.Proofs
end
