/- Walks: Which element of a list has a property: the library's search. No condition. | Lists out of which elements are taken in place. No condition. | Elements taken out of an array of one's own by the library. No condition. | The area of all pieces; whether a puzzle fits. No condition. | The symmetries of a puzzle: both programs. Condition: the given contracts hold. | Ascending lists of placements. No condition. -/
import Derived.Test.YtdbkkjoejomcmaaGreatBO
import Derived.Test.YtdbkkjoejomcmaaGreatWk1
import Derived.Test.YtdbkkjoejomcmaaGreatWk4
import Derived.Test.YtdbkkjoejomcmaaGreatBC
import Derived.Test.YtdbkkjoejomcmaaGreatWk5
import Derived.Test.YtdbkkjoejomcmaaGreatWk7
import Derived.Test.YtdbkkjoejomcmaaGreatWk11
import Derived.Test.YtdbkkjoejomcmaaGreatWk8
set_option linter.unusedVariables false
set_option linter.unusedSimpArgs false
section
open Go Go.Big
namespace Go.Proofs
set_option maxHeartbeats 2000000
/-- A function value that asks one question of an element, and leaves old objects as they are. -/
def AsksIn (G : Gv) (f : FuncId) (caps : List AV) (H0 : Heap) (n0 tg : Nat) (p : Int → Bool) (ls : List Int) : Prop :=
  ∀ x ∈ ls, ∀ (H : Heap) (n : Nat), n0 ≤ n → (∀ k, k < n0 → H k = H0 k) → WC Tryz.prog G f ((.i .i64 x) :: caps) H n (fun r H' n' => r = .b (p x) ∧ n ≤ n' ∧ ∀ k, k < n0 → H' k = H0 k)
def findIn (p : Int → Bool) (ls : List Int) : Int := match (List.range ls.length).find? (fun i => p (ls.getD i 0)) with
  | some i => i
  | none => -1
theorem indexFuncIn_fn (G : Gv) (f : FuncId) (caps : List AV) (H0 : Heap) (n0 tg : Nat) (p : Int → Bool) (ls : List Int) (hp : AsksIn G f caps H0 n0 tg p ls) (hff : (Tryz.prog.funcs[f]?).any (fun fn => fn.body.isSome && (fn.name != "runtime.NumGoroutine")) = true) (hls : ls.length < 1000000000)
    (H : Heap) (n : Nat) (hn : n0 ≤ n) (hH : ∀ k, k < n0 → H k = H0 k) :
    WC Tryz.prog G 168 [.sl tg (ints ls), .fn f caps] H n (fun r H' n' => r = .i .i64 (findIn p ls) ∧ n ≤ n' ∧ ∀ k, k < n0 → H' k = H0 k) := by
  refine (.body Tryz.func168 rfl (by simp [Tryz.ntmps168]) ?_)
  rw [Tryz.ntmps168, Tryz.results168]
  have hlen := ints_len ls
  replace hH := Hid.mk hH
  replace hp := Hid.mk hp
  refine AL ?_
  refine .loop (.inv (fun d E H n' => ∃ i : Nat, i + d = ls.length ∧ n ≤ n' ∧ E 0 = .sl tg (ints ls) ∧ E 1 = .fn f caps ∧ E 7 = .i .i64 ls.length ∧ E 8 = .i .i64 i ∧ (∀ k, k < n0 → H k = H0 k) ∧ (∀ j, j < i → p (ls.getD j 0) = false)) ls.length ?_ ?_)
  · exact ⟨0, by omega, by omega, by simp [setF_if, argE], by simp [setF_if, argE], by simp [setF_if, argE, hlen], by simp [setF_if, argE], hH.out, fun j hj => by omega⟩
  clear hH
  rintro d E H n' ⟨i, hi, hnn, h0, h1, h7, h8, hH, hall⟩
  replace hH := Hid.mk hH
  replace hall := Hid.mk hall
  by_cases c : (i : Int) < ls.length
  · have hw_i : IntKind.i64.wrap ((i : Int) + 1) = (i : Int) + 1 := wr64 (by omega) (by omega)
    have hr := ints_at (l := ls) (i := i) (by omega)
    have hmem : ls.getD i 0 ∈ ls := by rw [List.getD_eq_getElem?_getD, List.getElem?_eq_getElem (by omega)]; exact List.getElem_mem _
    have hyes : p (ls.getD i 0) = true → findIn p ls = i := fun h => by
      unfold findIn; rw [find_yes (p := fun i => p (ls.getD i 0)) (i := i) (by omega) h (fun j hj => hall.out j hj)]
    have hmore : p (ls.getD i 0) = false → ∀ j, j < i + 1 → p (ls.getD j 0) = false := fun h j hj => by
      by_cases q : j = i
      · rw [q]; exact h
      · exact hall.out j (by omega)
    replace hyes := Hid.mk hyes
    replace hmore := Hid.mk hmore
    replace hmem := Hid.mk hmem
    generalize ls.getD i 0 = x at hr hmem hyes hmore
    refine AL ?_
    refine CI (hf := hff) ?_
    refine (hp.out x hmem.out _ _ (by omega) hH.out).mono ?_
    rintro r H2 n2 ⟨rfl, hn2, hH2⟩
    replace hH2 := Hid.mk hH2
    cases cq : p x with
    | true =>
      refine AL ?_
      exact ⟨by simp [retA, setF_if, hyes.out cq], by omega, hH2.out⟩
    | false =>
      refine AL ?_
      exact ⟨ls.length - (i + 1), by omega, i + 1, by omega, by omega, by simp [setF_if, *], by simp [setF_if, *], by simp [setF_if, *], by simp [setF_if, *], hH2.out, hmore.out cq⟩
  · refine AL ?_
    have : findIn p ls = -1 := by
      unfold findIn; rw [find_no (p := fun i => p (ls.getD i 0)) (fun j hj => hall.out j (by omega))]
    exact ⟨by simp [retA, setF_if, this], by omega, hH.out⟩
theorem findIn_any (p : Int → Bool) (ls : List Int) : decide (findIn p ls ≥ 0) = ls.any p := by
  unfold findIn
  cases h : (List.range ls.length).find? (fun i => p (ls.getD i 0)) with
  | none =>
    rw [List.find?_range_eq_none] at h
    have : ls.any p = false := by
      rw [List.any_eq_false]
      intro x hx
      obtain ⟨i, hi, e⟩ := List.mem_iff_getElem.mp hx
      have := h i hi
      rw [← e]
      simpa [List.getD_eq_getElem?_getD, hi] using this
    rw [this]; rfl
  | some i =>
    have h1 := List.find?_some h
    have h2 := List.mem_range.mp (List.mem_of_find?_eq_some h)
    simp only [decide_eq_true_eq] at *
    have h3 : ls.any p = true := List.any_eq_true.mpr ⟨ls[i], List.getElem_mem _, by simpa [List.getD_eq_getElem?_getD, h2] using h1⟩
    rw [h3]; simp
end Go.Proofs
end
section
open Go Go.Big
namespace Go.Proofs
set_option maxHeartbeats 2000000
theorem setL_drop {α : Type} {C l : List α} {i j : Nat} {x : α} (h : C.drop j = l.drop j) (hij : i < j) : (C.set i x).drop (j + 1) = l.drop (j + 1) := by
  rw [List.drop_set_of_lt (by omega), ← List.drop_drop (i := 1) (l := C), h, List.drop_drop]
theorem setL_take {α : Type} {C : List α} {i : Nat} {x : α} (h : i < C.length) : (C.set i x).take (i + 1) = C.take i ++ [x] := by
  rw [List.take_succ_eq_append_getElem (by simpa using h), List.take_set_of_le (Nat.le_refl _)]; simp
theorem filter_take {α : Type} {q : α → Bool} {l : List α} {j : Nat} {x : α} (h : l[j]? = some x) : (l.take (j + 1)).filter q = (l.take j).filter q ++ (if q x then [x] else []) := by
  obtain ⟨hj, rfl⟩ := List.getElem?_eq_some_iff.mp h
  rw [List.take_succ_eq_append_getElem hj, List.filter_append]
  congr 1
  by_cases c : q l[j] = true <;> simp [c]
theorem find_filter {α : Type} {p : α → Bool} {l : List α} {z : α} {i : Nat} (h : (List.range l.length).find? (fun i => p (l.getD i z)) = some i) : i < l.length ∧ l.take i = (l.take (i + 1)).filter fun x => !p x := by
  rw [List.find?_range_eq_some] at h
  obtain ⟨h1, h2, h3⟩ := h
  have hi : i < l.length := by simpa using h2
  refine ⟨hi, ?_⟩
  have e1 : (l.take i).filter (fun x => !p x) = l.take i := by
    rw [List.filter_eq_self]
    intro x hx
    obtain ⟨j, hj, rfl⟩ := List.mem_iff_getElem.mp hx
    have hji : j < i := by rw [List.length_take] at hj; omega
    have := h3 j hji
    simpa [List.getD_eq_getElem?_getD, show j < l.length by omega] using this
  rw [filter_take (x := l[i]) (List.getElem?_eq_getElem hi), e1, if_neg, List.append_nil]
  simpa [List.getD_eq_getElem?_getD, hi] using h1
theorem find_filter_no {α : Type} {p : α → Bool} {l : List α} {z : α} (h : (List.range l.length).find? (fun i => p (l.getD i z)) = none) : (l.filter fun x => !p x) = l := by
  rw [List.find?_range_eq_none] at h
  rw [List.filter_eq_self]
  intro x hx
  obtain ⟨j, hj, rfl⟩ := List.mem_iff_getElem.mp hx
  have := h j hj
  simpa [List.getD_eq_getElem?_getD, hj] using this
end Go.Proofs
end
section
open Go Go.Big
namespace Go.Proofs
set_option maxHeartbeats 2000000
/-- A function value that asks one question of an element, and leaves all objects as they are. -/
def AskOIn (G : Gv) (f : FuncId) (caps : List AV) (H0 : Heap) (n0 o : Nat) (p : Int → Bool) (ls : List Int) : Prop :=
  ∀ x ∈ ls, ∀ (H : Heap) (n : Nat), n0 ≤ n → (∀ k, k < n0 → k ≠ o → H k = H0 k) → WC Tryz.prog G f ((.i .i64 x) :: caps) H n (fun r H' n' => r = .b (p x) ∧ n ≤ n' ∧ ∀ k, k < n → H' k = H k)
theorem indexFuncIn_own (G : Gv) (f : FuncId) (caps : List AV) (H0 : Heap) (n0 o e t : Nat) (T : TypeId) (p : Int → Bool) (ls : List Int) (hp : AskOIn G f caps H0 n0 o p ls) (hff : (Tryz.prog.funcs[f]?).any (fun fn => fn.body.isSome && (fn.name != "runtime.NumGoroutine")) = true) (hls : ls.length < 1000000000) (ho : o < n0) (hH0 : H0 o = some (.arr e T 1 (ints ls) t))
    (H : Heap) (n : Nat) (hn : n0 ≤ n) (hH : ∀ k, k < n0 → H k = H0 k) :
    WC Tryz.prog G 168 [.own o e, .fn f caps] H n (fun r H' n' => r = .i .i64 (findIn p ls) ∧ n ≤ n' ∧ ∀ k, k < n0 → H' k = H0 k) := by
  refine (.body Tryz.func168 rfl (by simp [Tryz.ntmps168]) ?_)
  rw [Tryz.ntmps168, Tryz.results168]
  have hlen := ints_len ls
  have hHo : H o = some (.arr e T 1 (ints ls) t) := (hH o ho).trans hH0
  replace hH := Hid.mk hH
  replace hp := Hid.mk hp
  refine AL ?_
  refine .loop (.inv (fun d E H n' => ∃ i : Nat, i + d = ls.length ∧ n ≤ n' ∧ E 0 = .own o e ∧ E 1 = .fn f caps ∧ E 7 = .i .i64 ls.length ∧ E 8 = .i .i64 i ∧ (∀ k, k < n0 → H k = H0 k) ∧ (∀ j, j < i → p (ls.getD j 0) = false)) ls.length ?_ ?_)
  · exact ⟨0, by omega, by omega, by simp [setF_if, argE], by simp [setF_if, argE], by simp [setF_if, argE, hlen], by simp [setF_if, argE], hH.out, fun j hj => by omega⟩
  clear hH hHo
  rintro d E H n' ⟨i, hi, hnn, h0, h1, h7, h8, hH, hall⟩
  have hHo : H o = some (.arr e T 1 (ints ls) t) := (hH o ho).trans hH0
  replace hH := Hid.mk hH
  replace hall := Hid.mk hall
  by_cases c : (i : Int) < ls.length
  · have hw_i : IntKind.i64.wrap ((i : Int) + 1) = (i : Int) + 1 := wr64 (by omega) (by omega)
    have cN : i < ls.length := by omega
    have hr := ints_row (l := ls) (i := i) (x := ls.getD i 0) (by simp [List.getD_eq_getElem?_getD, show i < ls.length by omega])
    have hmem : ls.getD i 0 ∈ ls := by rw [List.getD_eq_getElem?_getD, List.getElem?_eq_getElem (by omega)]; exact List.getElem_mem _
    have hyes : p (ls.getD i 0) = true → findIn p ls = i := fun h => by
      unfold findIn; rw [find_yes (p := fun i => p (ls.getD i 0)) (i := i) (by omega) h (fun j hj => hall.out j hj)]
    have hmore : p (ls.getD i 0) = false → ∀ j, j < i + 1 → p (ls.getD j 0) = false := fun h j hj => by
      by_cases q : j = i
      · rw [q]; exact h
      · exact hall.out j (by omega)
    replace hyes := Hid.mk hyes
    replace hmore := Hid.mk hmore
    replace hmem := Hid.mk hmem
    generalize ls.getD i 0 = x at hr hmem hyes hmore
    refine AL ?_
    refine CI (hf := hff) ?_
    refine (hp.out x hmem.out _ _ (by omega) (fun k hk _ => hH.out k hk)).mono ?_
    rintro r H2 n2 ⟨rfl, hn2, hH2⟩
    have hH3 : ∀ k, k < n0 → H2 k = H0 k := fun k hk => (hH2 k (by omega)).trans (hH.out k hk)
    clear hH2 hHo
    replace hH3 := Hid.mk hH3
    cases cq : p x with
    | true =>
      refine AL ?_
      exact ⟨by simp [retA, setF_if, hyes.out cq], by omega, hH3.out⟩
    | false =>
      refine AL ?_
      exact ⟨ls.length - (i + 1), by omega, i + 1, by omega, by omega, by simp [setF_if, *], by simp [setF_if, *], by simp [setF_if, *], by simp [setF_if, *], hH3.out, hmore.out cq⟩
  · refine AL ?_
    have : findIn p ls = -1 := by
      unfold findIn; rw [find_no (p := fun i => p (ls.getD i 0)) (fun j hj => hall.out j (by omega))]
    exact ⟨by simp [retA, setF_if, this], by omega, hH.out⟩
theorem deleteFuncIn_own (G : Gv) (f : FuncId) (caps : List AV) (H0 : Heap) (n0 o e t : Nat) (T : TypeId) (p : Int → Bool) (ls : List Int) (hp : AskOIn G f caps H0 n0 o p ls) (hff : (Tryz.prog.funcs[f]?).any (fun fn => fn.body.isSome && (fn.name != "runtime.NumGoroutine")) = true) (hls : ls.length < 1000000000) (ho : o < n0) (hH0 : H0 o = some (.arr e T 1 (ints ls) t)) (ht : t ≠ 2) :
    WC Tryz.prog G 108 [.own o e, .fn f caps] H0 n0 (fun r H' n' => n0 ≤ n' ∧ (∀ k, k < n0 → k ≠ o → H' k = H0 k) ∧ ((∃ e' t', r = .own o e' ∧ t' ≠ 2 ∧ H' o = some (.arr e' T 1 (ints (ls.filter fun x => !p x)) t')) ∨ (r = .sl 1 [] ∧ (ls.filter fun x => !p x) = []))) := by
  refine (.body Tryz.func108 rfl (by simp [Tryz.ntmps108]) ?_)
  rw [Tryz.ntmps108, Tryz.results108]
  have hlen := ints_len ls
  have hidx := indexFuncIn_own G f caps H0 n0 o e t T p ls hp hff hls ho hH0
  replace hidx := Hid.mk hidx
  replace hp := Hid.mk hp
  replace ht := Hid.mk ht
  refine AL ?_
  refine CI ?_
  refine (hidx.out _ _ (by omega) (fun _ _ => rfl)).mono ?_
  rintro r H1 n1 ⟨rfl, hn1, hH1⟩
  have hHo : H1 o = some (.arr e T 1 (ints ls) t) := (hH1 o ho).trans hH0
  replace hH1 := Hid.mk hH1
  cases hfd : (List.range ls.length).find? (fun i => p (ls.getD i 0)) with
  | none =>
    have hneg : findIn p ls = -1 := by unfold findIn; rw [hfd]
    have hfl := find_filter_no hfd
    clear hfd
    replace hfl := Hid.mk hfl
    refine AL ?_
    exact ⟨by omega, fun k hk _ => hH1.out k hk, .inl ⟨e, t, by simp [retA, setF_if, argE], ht.out, by rw [hfl.out]; exact hHo⟩⟩
  | some i0 =>
    have hneg : findIn p ls = (i0 : Int) := by unfold findIn; rw [hfd]
    obtain ⟨hi0, hfl⟩ := find_filter hfd
    have hne1 : ((i0 : Int) == -1) = false := by simp <;> omega
    have hne2 : ¬ ((i0 : Int) = -1) := by omega
    have hz0 : IntKind.i64.wrap ((i0 : Int) + 1) = (i0 : Int) + 1 := wr64 (by omega) (by omega)
    clear hfd
    replace hfl := Hid.mk hfl
    refine AL ?_
    refine .loop (.inv (fun d E H n' => ∃ (i j t' : Nat) (C : List Int), j + d = ls.length ∧ n0 ≤ n' ∧ E 0 = .own o e ∧ E 1 = .fn f caps ∧ E 5 = .i .i64 i ∧ E 6 = .i .i64 j ∧ H o = some (.arr e T 1 (ints C) t') ∧ t' ≠ 2 ∧ (∀ k, k < n0 → k ≠ o → H k = H0 k) ∧ i < j ∧ C.length = ls.length ∧ C.drop j = ls.drop j ∧ C.take i = (ls.take j).filter fun x => !p x) (ls.length - (i0 + 1)) ?_ ?_)
    · exact ⟨i0, i0 + 1, t, ls, by omega, by omega, by simp [setF_if, argE], by simp [setF_if, argE], by simp [setF_if, argE, *], by simp [setF_if, argE, *], hHo, ht.out, fun k hk _ => hH1.out k hk, by omega, rfl, rfl, hfl.out⟩
    clear hHo hH1 hn1 hneg hne1 hne2 hz0 hfl hi0
    rintro d E H n' ⟨i, j, t', C, hj, hnn, h0, h1, h5, h6, hHo, ht', hH, hij, hCl, hCd, hCt⟩
    have hlen2 := ints_len C
    rw [hCl] at hlen2
    have hon : o < n' := by omega
    replace hH := Hid.mk hH
    replace ht' := Hid.mk ht'
    replace hCd := Hid.mk hCd
    replace hCt := Hid.mk hCt
    by_cases c : (j : Int) < ls.length
    · have hw_j : IntKind.i64.wrap ((j : Int) + 1) = (j : Int) + 1 := wr64 (by omega) (by omega)
      have cN : j < ls.length := by omega
      have cM : i < ls.length := by omega
      have hwi : IntKind.i64.wrap ((i : Int) + 1) = (i : Int) + 1 := wr64 (by omega) (by omega)
      obtain ⟨x, hx⟩ : ∃ x, ls[j]? = some x := ⟨_, List.getElem?_eq_getElem (by omega)⟩
      have hxm := List.mem_of_getElem? hx
      have hCx : C[j]? = some x := by
        have : (C.drop j)[0]? = (ls.drop j)[0]? := by rw [hCd.out]
        simpa [hx] using this
      have hr := ints_row hCx
      have hir : i < (ints C).length := by omega
      obtain ⟨ri, hri⟩ : ∃ ri, (ints C)[i]? = some ri := ⟨_, List.getElem?_eq_getElem hir⟩
      have hft := filter_take (q := fun x => !p x) hx
      have hset := ints_set C i x
      have hril : ri.length = 1 := by
        obtain ⟨y, _, rfl⟩ := List.mem_map.mp (List.mem_of_getElem? hri)
        rfl
      obtain ⟨r0, rfl⟩ := List.length_eq_one_iff.mp hril
      clear hril
      replace hx := Hid.mk hx
      replace hxm := Hid.mk hxm
      replace hCx := Hid.mk hCx
      replace hft := Hid.mk hft
      refine AL ?_
      refine CI (hf := hff) ?_
      refine (hp.out _ hxm.out _ _ (by omega) (fun k hk hko => hH.out k hk hko)).mono ?_
      rintro r H2 n2 ⟨rfl, hn2, hH2⟩
      have hHo2 := (hH2 o (by omega)).trans hHo
      have hH3 : ∀ k, k < n0 → k ≠ o → H2 k = H0 k := fun k hk hko => (hH2 k (by omega)).trans (hH.out k hk hko)
      clear hH2 hHo
      replace hH3 := Hid.mk hH3
      cases cq : p x with
      | true =>
        have hft2 := hft.out
        simp only [cq, Bool.not_true, Bool.false_eq_true, if_false, List.append_nil] at hft2
        replace hft2 := Hid.mk hft2
        refine AL ?_
        exact ⟨ls.length - (j + 1), by omega, i, j + 1, t', C, by omega, by omega, by simp [setF_if, *], by simp [setF_if, *], by simp [setF_if, *], by simp [setF_if, *], hHo2, ht'.out, hH3.out, by omega, hCl, by rw [← List.drop_drop (i := 1), hCd.out, List.drop_drop], by rw [hCt.out, ← hft2.out]⟩
      | false =>
        have hft2 := hft.out
        simp only [cq, Bool.not_false, if_true] at hft2
        have hCt2 : (C.set i x).take (i + 1) = (ls.take (j + 1)).filter fun x => !p x := by
          rw [setL_take (by omega), hCt.out]; exact hft2.symm
        have hCd2 : (C.set i x).drop (j + 1) = ls.drop (j + 1) := setL_drop hCd.out hij
        have hcl2 : (C.set i x).length = ls.length := by rw [List.length_set]; exact hCl
        clear hft2
        generalize C.set i x = C2 at hCt2 hCd2 hcl2 hset
        replace hCt2 := Hid.mk hCt2
        replace hCd2 := Hid.mk hCd2
        refine AL ?_
        exact ⟨ls.length - (j + 1), by omega, i + 1, j + 1, joinT t' 1, C2, by omega, by omega, by simp [setF_if, *], by simp [setF_if, *], by simp [setF_if, *], by simp [setF_if, *], by simp [upd_if, joinT, *], joinT_ne ht'.out (by decide), fun k hk hko => by rw [upd_if, if_neg hko]; exact hH3.out k hk hko, by omega, hcl2, hCd2.out, hCt2.out⟩
    · have ej : j = ls.length := by omega
      have hCt2 := hCt.out
      rw [ej, List.take_length] at hCt2
      have hle : i ≤ ls.length := by omega
      have hzi : (0 : Int) ≤ i := by omega
      have hsub : i + (ls.length - i) = ls.length := by omega
      have hs0 : i - 0 = i := rfl
      have hfil : (ls.filter fun x => !p x).length = i := by rw [← hCt2, List.length_take]; omega
      have hrt : (ints C).take i = ints (ls.filter fun x => !p x) := by rw [← hCt2]; simp [ints, List.map_take]
      have hrl2 : (ints (ls.filter fun x => !p x)).length = i := by rw [ints_len]; exact hfil
      have hle2 : i ≤ i + (ls.length - i) := by omega
      generalize hF : (ls.filter fun x => !p x) = F at hfil hrt hrl2
      replace hF := Hid.mk hF
      replace hCt2 := Hid.mk hCt2
      replace hfil := Hid.mk hfil
      refine AX ?_
      have hL3 : (ints F ++ List.replicate (ls.length - i) [PV.i .i64 0]).length = ls.length := by rw [List.length_append, hrl2, List.length_replicate]; omega
      refine OP ?_
      refine OP ?_
      by_cases hi00 : i = 0
      · subst hi00
        have hF0 : F = [] := List.length_eq_zero_iff.mp hfil.out
        refine WR.trim0 4 (o := o) (e := e) (lo := 0) (ty := T) (sz := 1) (rows := ints F ++ List.replicate (ls.length - 0) [PV.i .i64 0]) (t := joinT t' 1) (by simp [setF_if]) (by simp [upd_if, joinT]) ?_
        refine AL ?_
        exact ⟨by omega, fun k hk hko => by rw [upd_if, if_neg hko]; exact hH.out k hk hko, .inr ⟨by simp [retA, setF_if], hF0⟩⟩
      · refine WR.trim 4 (o := o) (e := e) (lo := 0) (m := i) (ty := T) (sz := 1) (rows := ints F ++ List.replicate (ls.length - i) [PV.i .i64 0]) (t := joinT t' 1) (by simp [setF_if]) (by simp [upd_if, joinT]) (by omega) ?_
        refine AL ?_
        refine ⟨by omega, fun k hk hko => by rw [upd_if, if_neg hko, upd_if, if_neg hko]; exact hH.out k hk hko, .inl ⟨e + 1, joinT t' 1, by simp [retA, setF_if], joinT_ne ht'.out (by decide), ?_⟩⟩
        rw [upd_if, if_pos rfl]
        simp [hrl2, List.take_append_of_le_length, List.take_of_length_le]
end Go.Proofs
end
section
open Go Go.Big
namespace Go.Proofs
set_option maxHeartbeats 2000000
def areaF (l : List PieceM) : Int := l.foldl (fun n p => IntKind.i64.wrap (n + IntKind.i64.wrap (p.k * p.cs.length))) 0
theorem areaF_take {l : List PieceM} {i : Nat} {p : PieceM} (h : l[i]? = some p) : areaF (l.take (i + 1)) = IntKind.i64.wrap (areaF (l.take i) + IntKind.i64.wrap (p.k * p.cs.length)) := by
  obtain ⟨hi, rfl⟩ := List.getElem?_eq_some_iff.mp h
  unfold areaF
  rw [List.take_succ_eq_append_getElem hi, List.foldl_append]; rfl
theorem pieceArea_fn (G : Gv) (r : List (Int × Int)) (l : List PieceM) (hl : l.length < 1000000000) : Gives Tryz.prog G 157 [.ag [.sl 0 (cells r), .sl 0 (pieces l)]] (.i .i64 (areaF l)) := by
  refine .of (.body Tryz.func157 rfl (by simp [Tryz.ntmps157]) ?_)
  rw [Tryz.ntmps157, Tryz.results157]
  have hlen := pieces_len l
  refine AL ?_
  refine .loop (.inv (fun d E H n' => ∃ i : Nat, i + d = l.length ∧ E 3 = .i .i64 (areaF (l.take i)) ∧ E 7 = .sl 0 (pieces l) ∧ E 8 = .i .i64 l.length ∧ E 9 = .i .i64 i) l.length ?_ ?_)
  · exact ⟨0, by omega, by simp [setF_if, argE, areaF], by simp [setF_if, argE], by simp [setF_if, argE, hlen], by simp [setF_if, argE]⟩
  rintro d E H n' ⟨i, hi, h3, h7, h8, h9⟩
  by_cases c : (i : Int) < l.length
  · have hw_i : IntKind.i64.wrap ((i : Int) + 1) = (i : Int) + 1 := wr64 (by omega) (by omega)
    obtain ⟨p, hp⟩ : ∃ p, l[i]? = some p := ⟨_, List.getElem?_eq_getElem (by omega)⟩
    have hr := pieces_at hp
    have ha := areaF_take hp
    have hcl := cells_len p.cs
    replace ha := Hid.mk ha
    replace hp := Hid.mk hp
    refine AL ?_
    exact ⟨l.length - (i + 1), by omega, i + 1, by omega, by simp [setF_if, *, ha.out], by simp [setF_if, *], by simp [setF_if, *], by simp [setF_if, *]⟩
  · have e : i = l.length := by omega
    rw [e, List.take_length] at h3
    refine AL ?_
    simp [retA, backA, *]
theorem l11Area_fn (G : Gv) (r : List (Int × Int)) (l : List PieceM) (hl : l.length < 1000000000) : Gives Tryz.prog G 154 [.ag [.sl 0 (cells r), .sl 0 (pieces l)]] (.i .i64 (areaF l)) := by
  refine .of (.body Tryz.func154 rfl (by simp [Tryz.ntmps154]) ?_)
  rw [Tryz.ntmps154, Tryz.results154]
  have hlen := pieces_len l
  refine AL ?_
  refine .loop (.inv (fun d E H n' => ∃ i : Nat, i + d = l.length ∧ 0 < n' ∧ E 1 = .ptr 0 0 0 0 ∧ E 3 = .i .i64 (areaF (l.take i)) ∧ E 4 = .i .i64 i ∧ H 0 = some (.box 35 [.sl 0 (cells r), .sl 0 (pieces l)])) l.length ?_ ?_)
  · exact ⟨0, by omega, by omega, by simp [setF_if, argE], by simp [setF_if, argE, areaF], by simp [setF_if, argE], by simp [upd_if]⟩
  rintro d E H n' ⟨i, hi, hn, h1, h3, h4, hH⟩
  by_cases c : (i : Int) < l.length
  · have hw_i : IntKind.i64.wrap ((i : Int) + 1) = (i : Int) + 1 := wr64 (by omega) (by omega)
    obtain ⟨p, hp⟩ : ∃ p, l[i]? = some p := ⟨_, List.getElem?_eq_getElem (by omega)⟩
    have hr := pieces_at hp
    have ha := areaF_take hp
    have hcl := cells_len p.cs
    replace ha := Hid.mk ha
    replace hp := Hid.mk hp
    refine AL ?_
    exact ⟨l.length - (i + 1), by omega, i + 1, by omega, by omega, by simp [setF_if, *], by simp [setF_if, *, ha.out], by simp [setF_if, *], by simp [upd_if, *]⟩
  · have e : i = l.length := by omega
    rw [e, List.take_length] at h3
    refine AL ?_
    simp [retA, backA, *]
def fitsI (r : List (Int × Int)) (l : List PieceM) : Bool := puzzleI r l && areaF l == r.length
def fitsS (r : List (Int × Int)) (l : List PieceM) : Bool := puzzleS r l && areaF l == r.length
theorem implDoesFit_fn (G : Gv) (hG : ∀ f args H n r H' n', sortsG f args H n r H' n' → G f args H n r H' n') (hG1 : ∀ f args H n r H' n', sortsG1 f args H n r H' n' → G f args H n r H' n') (r : List (Int × Int)) (l : List PieceM) (hr : r.length < 1000000000) (hl : l.length < 1000000000) (hc : ∀ p ∈ l, p.cs.length < 1000000000) : Gives Tryz.prog G 94 [.ag [.sl 0 (cells r), .sl 0 (pieces l)]] (.b (fitsI r l)) := by
  refine .of (.body Tryz.func94 rfl (by simp [Tryz.ntmps94]) ?_)
  rw [Tryz.ntmps94, Tryz.results94]
  have hlen := cells_len r
  replace hG := Hid.mk hG
  replace hG1 := Hid.mk hG1
  replace hc := Hid.mk hc
  refine AL ?_
  refine CQ (implIsPuzzle_fn G hG.out hG1.out r l hr hl hc.out) ?_
  by_cases c : puzzleI r l = true
  · refine AL ?_
    refine CQ (pieceArea_fn G r l hl) ?_
    refine AL ?_
    simp [retA, backA, fitsI, *]
  · refine AL ?_
    simp [retA, backA, fitsI, *]
theorem specDoesFit_fn (G : Gv) (r : List (Int × Int)) (l : List PieceM) (hr : r.length < 1000000000) (hl : l.length < 1000000000) (hc : ∀ p ∈ l, p.cs.length < 1000000000) : Gives Tryz.prog G 92 [.ag [.sl 0 (cells r), .sl 0 (pieces l)]] (.b (fitsS r l)) := by
  refine .of (.body Tryz.func92 rfl (by simp [Tryz.ntmps92]) ?_)
  rw [Tryz.ntmps92, Tryz.results92]
  have hlen := cells_len r
  replace hc := Hid.mk hc
  refine AL ?_
  refine CQ (specIsPuzzle_fn G r l hr hl hc.out) ?_
  by_cases c : puzzleS r l = true
  · refine AL ?_
    refine CQ (l11Area_fn G r l hl) ?_
    refine AL ?_
    simp [retA, backA, fitsS, *]
  · refine AL ?_
    simp [retA, backA, fitsS, *]
end Go.Proofs
end
section
open Go Go.Big
namespace Go.Proofs
set_option maxHeartbeats 2000000
structure AllK (G : Gv) : Prop extends AllH G where
  ok : GvOk Tryz.prog G
def symT (q : Nat → Bool) (n : Nat) : List Int := ((List.range n).filter q).map fun (t : Nat) => (t : Int)
theorem symT_succ (q : Nat → Bool) (n : Nat) : symT q (n + 1) = symT q n ++ (if q n then [(n : Int)] else []) := by
  unfold symT
  rw [List.range_succ, List.filter_append, List.map_append]
  cases h : q n <;> simp [h]
theorem symT_len (q : Nat → Bool) (n : Nat) : (symT q n).length ≤ n := by
  unfold symT
  rw [List.length_map]
  have := List.length_filter_le q (List.range n)
  rwa [List.length_range] at this
theorem symT_mem {q : Nat → Bool} {n : Nat} {x : Int} (h : x ∈ symT q n) : ∃ t : Nat, x = t ∧ t < n ∧ q t = true := by
  unfold symT at h
  obtain ⟨t, h1, rfl⟩ := List.mem_map.mp h
  rw [List.mem_filter, List.mem_range] at h1
  exact ⟨t, rfl, h1.1, h1.2⟩
def symQI (r : Shape) (t : Nat) : Bool := decide (formM r t = normM r)
def symQS (r : Shape) (t : Nat) : Bool := (numsM r t).isSome
def symsI (r : Shape) (l : List PieceM) : List Int := (symT (symQI r) 8).filter fun x => !(decide (x ≥ 4) && !(!l.any handP))
def handS (p : PieceM) : Bool := decide ((formsP p).length = (formsF p.cs 8).length)
def symsS (r : Shape) (l : List PieceM) : List Int := (symT (symQS r) 8).filter fun x => decide (x < 4) || l.all handS
def psymS (r : Shape) (l : List PieceM) : List Int × Int := if fitsS r l then (symsS r l, 0) else ([], 1)
def psymI (r : Shape) (l : List PieceM) : List Int × Int := if fitsI r l then (symsI r l, 0) else ([], 1)
theorem fits_eq (r : Shape) (l : List PieceM) : fitsI r l = fitsS r l := by unfold fitsI fitsS; rw [puzzle_eq]
theorem fits_puzzle {r : Shape} {l : List PieceM} (h : fitsS r l = true) : puzzleS r l = true := by
  unfold fitsS at h; rw [Bool.and_eq_true] at h; exact h.1
theorem fits_facts {r : Shape} {l : List PieceM} (h : fitsS r l = true) : 0 < r.length ∧ ∀ p ∈ l, 0 < p.cs.length ∧ p.cs.length < 1000000000 := by
  obtain ⟨g1, g2, g3, g4, g5, g6, g8⟩ := puzzle_facts (fits_puzzle h)
  exact ⟨g2, fun p hp => ⟨(g8 p hp).1, by have := (g8 p hp).2; omega⟩⟩
theorem l10Symmetries_fn (G : Gv) (r : Shape) (h1 : 0 < r.length) (hr : r.length < 1000000000) : Gives Tryz.prog G 156 [.sl 0 (cells r)] (.sl 1 (ints (symT (symQS r) 8))) := by
  refine .of (.body Tryz.func156 rfl (by simp [Tryz.ntmps156]) ?_)
  rw [Tryz.ntmps156, Tryz.results156]
  refine AL ?_
  refine .loop (.inv (fun d E H n' => ∃ i : Nat, i + d = 8 ∧ 1 < n' ∧ E 0 = .sl 0 (cells r) ∧ E 4 = .i .i64 i ∧ ∃ e, E 3 = .own 1 e ∧ H 1 = some (.arr e 2 1 (ints (symT (symQS r) i)) 1)) 8 ?_ ?_)
  · exact ⟨0, by omega, by omega, by simp [setF_if, argE], by simp [setF_if, argE], 0, by simp [setF_if, argE], by simp [upd_if, ints, symT]⟩
  rintro d E H n' ⟨i, hi, hn, h0, h4, e, h3, hH⟩
  by_cases c : (i : Int) < 8
  · have hw_i : IntKind.i64.wrap ((i : Int) + 1) = (i : Int) + 1 := wr64 (by omega) (by omega)
    have hf := l10Numbers_fn G r i h1 hr
    have hsl := symT_len (symQS r) i
    have hs := symT_succ (symQS r) i
    have hil : (ints (symT (symQS r) i)).length = (symT (symQS r) i).length := ints_len _
    have hb : ((ints (symT (symQS r) i)).length + 1) * 8 ≤ 140737488355328 := by omega
    unfold symQS at hs
    generalize hq : numsM r i = q at hf hs
    replace hf := Hid.mk hf
    replace hs := Hid.mk hs
    replace hq := Hid.mk hq
    cases q with
    | none =>
      have hs2 := hs.out
      simp only [Option.isSome_none, Bool.false_eq_true, if_false, List.append_nil] at hs2
      replace hs2 := Hid.mk hs2
      clear hs
      refine AL ?_
      refine CV hf.out ?_
      unfold setA
      refine AL ?_
      exact ⟨8 - (i + 1), by omega, i + 1, by omega, by omega, by simp [setF_if, *], by simp [setF_if, *], e, by simp [setF_if, *], hH.trans (by rw [← show symT (symQS r) (i + 1) = symT (symQS r) i from hs2.out])⟩
    | some s =>
      have hs2 := hs.out
      simp only [Option.isSome_some, if_true] at hs2
      have hap : ints (symT (symQS r) i) ++ [[PV.i .i64 i]] = ints (symT (symQS r) (i + 1)) := by rw [show symT (symQS r) (i + 1) = _ from hs2]; exact ints_app1 _ _
      clear hs hs2
      generalize ints (symT (symQS r) i) = R at hH hil hb hap
      clear hil
      refine AL ?_
      refine CV hf.out ?_
      unfold setA
      refine AL ?_
      exact ⟨8 - (i + 1), by omega, i + 1, by omega, by omega, by simp [setF_if, *], by simp [setF_if, *], e + 1, by simp [setF_if, *], by simp [upd_if, *]⟩
  · have ei : i = 8 := by omega
    subst ei
    refine AL ?_
    simp [retA, backA, newSl, newB, hH]
theorem symmetries_own (G : Gv) (hA : AllH G) (r : Shape) (h1 : 0 < r.length) (hr : r.length < 1000000000) (H0 : Heap) (n0 : Nat) :
    WC Tryz.prog G 161 [.sl 0 (cells r)] H0 n0 (fun x H' n' => n0 ≤ n' ∧ (∀ k, k < n0 → H' k = H0 k) ∧ ∃ o e, n0 ≤ o ∧ o < n' ∧ x = .own o e ∧ H' o = some (.arr e 2 1 (ints (symT (symQI r) 8)) 1)) := by
  refine (.body Tryz.func161 rfl (by simp [Tryz.ntmps161]) ?_)
  rw [Tryz.ntmps161, Tryz.results161]
  replace hA := Hid.mk hA
  have hn := normal_fn G r h1 hr
  replace hn := Hid.mk hn
  obtain ⟨m, hm⟩ : ∃ m, m = n0 + 1 := ⟨_, rfl⟩
  have hnl : (normM r).length < 1000000000 := by rw [normM_len]; exact hr
  generalize hq : normM r = q at hn hnl
  replace hq := Hid.mk hq
  refine AL ?_
  refine CV hn.out ?_
  refine AL ?_
  refine .loop (.inv (fun d E H n' => ∃ i : Nat, i + d = 8 ∧ m < n' ∧ (∀ k, k < n0 → H k = H0 k) ∧ E 0 = .sl 0 (cells r) ∧ E 4 = .sl 1 (cells q) ∧ E 9 = .i .i64 i ∧ ∃ e, E 3 = .own m e ∧ H m = some (.arr e 2 1 (ints (symT (symQI r) i)) 1)) 8 ?_ ?_)
  · subst hm
    exact ⟨0, by omega, by omega, fun k hk => by rw [upd_if, if_neg (by omega)], by simp [setF_if, argE], by simp [setF_if, argE], by simp [setF_if, argE], 0, by simp [setF_if, argE], by simp [upd_if, ints, symT]⟩
  rintro d E H n' ⟨i, hi, hmn, hfr, h0, h4, h9, e, h3, hH⟩
  replace hfr := Hid.mk hfr
  replace hm := Hid.mk hm
  by_cases c : (i : Int) < 8
  · have hw_i : IntKind.i64.wrap ((i : Int) + 1) = (i : Int) + 1 := wr64 (by omega) (by omega)
    have hf := form_fn G hA.out.c1 r i h1 hr
    have hsl := symT_len (symQI r) i
    have hs := symT_succ (symQI r) i
    have hil : (ints (symT (symQI r) i)).length = (symT (symQI r) i).length := ints_len _
    have hb : ((ints (symT (symQI r) i)).length + 1) * 8 ≤ 140737488355328 := by omega
    have hfl : (formM r i).length < 1000000000 := by rw [formM_len]; exact hr
    have hsq : symQI r i = decide (formM r i = q) := by unfold symQI; rw [hq.out]
    rw [hsq] at hs
    clear hsq
    generalize formM r i = g at hf hs hfl
    replace hf := Hid.mk hf
    replace hs := Hid.mk hs
    refine AL ?_
    refine CV hf.out ?_
    refine AL ?_
    refine CV (equal_fn G g q hfl hnl) ?_
    by_cases cg : g = q
    · have hd : decide (g = q) = true := by simp [cg]
      have hs2 := hs.out
      rw [hd] at hs2
      simp only [if_true] at hs2
      have hap : ints (symT (symQI r) i) ++ [[PV.i .i64 i]] = ints (symT (symQI r) (i + 1)) := by rw [hs2]; exact ints_app1 _ _
      clear hs hs2
      replace cg := Hid.mk cg
      generalize ints (symT (symQI r) i) = R at hH hil hb hap
      clear hil
      refine AL ?_
      have hm' := hm.out
      refine ⟨8 - (i + 1), by omega, i + 1, by omega, by omega, fun k hk => ?_, by simp [setF_if, *], by simp [setF_if, *], by simp [setF_if, *], e + 1, by simp [setF_if, *], ?_⟩
      · simp only [upd_if]
        rw [if_neg (by omega)]
        rw [if_neg (by omega)]
        exact hfr.out k hk
      · simp only [upd_if, neAdd hmn, reduceIte, hap]
    · have hd : decide (g = q) = false := by simp [cg]
      have hs2 := hs.out
      rw [hd] at hs2
      simp only [Bool.false_eq_true, if_false, List.append_nil] at hs2
      clear hs
      replace hs2 := Hid.mk hs2
      replace cg := Hid.mk cg
      refine AL ?_
      exact ⟨8 - (i + 1), by omega, i + 1, by omega, by omega, hfr.out, by simp [setF_if, *], by simp [setF_if, *], by simp [setF_if, *], e, by simp [setF_if, *], by rw [hs2.out]; exact hH⟩
  · have ei : i = 8 := by omega
    subst ei
    refine AL ?_
    have hm' := hm.out
    exact ⟨by omega, hfr.out, m, e, by omega, by omega, by simp [retA, setF_if, *], hH⟩
theorem psym2_wc (G : Gv) (x : Int) (b : Nat) (fl : Bool) (T : TypeId) (H : Heap) (n : Nat) (hb : H b = some (.box T [.b fl])) (hbn : b < n) :
    WC Tryz.prog G 162 [.i .i64 x, .ptr b 0 0 0] H n (fun r H' n' => r = .b (decide (x ≥ 4) && !fl) ∧ n ≤ n' ∧ ∀ k, k < n → H' k = H k) := by
  refine (.body Tryz.func162 rfl (by simp [Tryz.ntmps162]) ?_)
  rw [Tryz.ntmps162, Tryz.results162]
  by_cases c : x ≥ 4
  · have hd : decide (x ≥ 4) = true := by simp [c]
    refine AL ?_
    exact ⟨by simp [retA, setF_if]; intro _; omega, by omega, fun j hj => by first | rfl | trivial⟩
  · have hd : decide (x ≥ 4) = false := by simp [c]
    refine AL ?_
    exact ⟨by simp [retA, setF_if]; intro _; omega, by omega, fun j hj => by first | rfl | trivial⟩
theorem all_take {q : PieceM → Bool} {l : List PieceM} {i : Nat} {p : PieceM} (h : l[i]? = some p) : (l.take (i + 1)).all q = ((l.take i).all q && q p) := by
  rw [List.take_add_one, h, List.all_append]; simp
theorem l16Symmetries_fn (G : Gv) (r : Shape) (l : List PieceM) (h1 : 0 < r.length) (hr : r.length < 1000000000) (hl : l.length < 1000000000) (hpl : ∀ p ∈ l, 0 < p.cs.length ∧ p.cs.length < 1000000000) :
    Gives Tryz.prog G 93 [.ag [.sl 0 (cells r), .sl 0 (pieces l)]] (.sl 1 (ints (symsS r l))) := by
  refine .of (.body Tryz.func93 rfl (by simp [Tryz.ntmps93]) ?_)
  rw [Tryz.ntmps93, Tryz.results93]
  have hlen := pieces_len l
  replace hpl := Hid.mk hpl
  refine AL ?_
  refine .loop (.inv (fun d E H n' => ∃ i : Nat, i + d = l.length ∧ 0 < n' ∧ E 1 = .ptr 0 0 0 0 ∧ E 3 = .b ((l.take i).all handS) ∧ E 4 = .i .i64 i ∧ H 0 = some (.box 35 [.sl 0 (cells r), .sl 0 (pieces l)])) l.length ?_ ?_)
  · exact ⟨0, by omega, by omega, by simp [setF_if, argE], by simp [setF_if, argE], by simp [setF_if, argE], by simp [upd_if]⟩
  rintro d E H n' ⟨i, hi, hn, e1, e3, e4, hH⟩
  by_cases c : (i : Int) < l.length
  · have hw_i : IntKind.i64.wrap ((i : Int) + 1) = (i : Int) + 1 := wr64 (by omega) (by omega)
    obtain ⟨p, hp⟩ : ∃ p, l[i]? = some p := ⟨_, List.getElem?_eq_getElem (by omega)⟩
    have hro : (pieces l)[i]? = some (pieceR p) := by simp [pieces, hp]
    obtain ⟨m1, m2⟩ := hpl.out p (List.mem_of_getElem? hp)
    have hst := all_take (q := handS) hp
    have hhs : handS p = decide ((formsP p).length = (formsF p.cs 8).length) := rfl
    have hf1 := l11Forms_fn G p m1 m2
    have hf2 := l03Forms_fn G p.cs 8 m1 m2 (by omega)
    replace hp := Hid.mk hp
    cases cb : (l.take i).all handS with
    | false =>
      rw [cb] at hst e3
      simp only [Bool.false_and] at hst
      replace cb := Hid.mk cb
      refine AL ?_
      exact ⟨l.length - (i + 1), by omega, i + 1, by omega, by omega, by simp [setF_if, *], by simp [setF_if, *], by simp [setF_if, *], by simp [upd_if, *]⟩
    | true =>
      rw [cb] at hst e3
      simp only [Bool.true_and] at hst
      have s1 := shapesR_len (formsP p)
      have s2 := shapesR_len (formsF p.cs 8)
      replace cb := Hid.mk cb
      generalize formsP p = A1 at hf1 hhs s1
      generalize formsF p.cs 8 = A2 at hf2 hhs s2
      replace hf1 := Hid.mk hf1
      replace hf2 := Hid.mk hf2
      generalize handS p = hb at hst hhs
      replace hhs := Hid.mk hhs
      refine AL ?_
      refine CQ hf1.out ?_
      refine AL ?_
      refine CQ hf2.out ?_
      refine AL ?_
      refine ⟨l.length - (i + 1), by omega, i + 1, by omega, by omega, by simp [setF_if, *], ?_, by simp [setF_if, *], by simp [upd_if, *]⟩
      rw [hst, hhs.out]
      by_cases cc : A1.length = A2.length
      · simp [setF_if, cc]
      · have : (A1.length : Int) ≠ A2.length := by omega
        simp [setF_if, cc, this]
  · have ei : i = l.length := by omega
    rw [ei, List.take_length] at e3
    have hf := l10Symmetries_fn G r h1 hr
    have hres : symsS r l = (symT (symQS r) 8).filter fun x => decide (x < 4) || l.all handS := rfl
    rw [hres]
    have hL := symT_len (symQS r) 8
    generalize symT (symQS r) 8 = L at hf hL
    generalize l.all handS = B at e3
    have hLn := ints_len L
    clear hres
    replace hf := Hid.mk hf
    refine AL ?_
    refine CV hf.out ?_
    refine AL ?_
    refine .loop (.inv (fun d E H n2 => ∃ (i o e : Nat), i + d = L.length ∧ o < n2 ∧ E 3 = .b B ∧ E 5 = .sl 1 (ints L) ∧ E 6 = .own o e ∧ E 7 = .i .i64 i ∧ H o = some (.arr e 2 1 (ints ((L.take i).filter fun x => decide (x < 4) || B)) 1)) L.length ?_ ?_)
    · exact ⟨0, n' + 9, 0, by omega, by omega, by simp [setF_if, *], by simp [setF_if, *], by simp [setF_if, *], by simp [setF_if, *], by simp [upd_if, ints]⟩
    clear hH hn e1 e3 e4 hf c hi
    rintro d E H n2 ⟨i, o, e, hi, hn, e3, e5, e6, e7, hH⟩
    by_cases c : (i : Int) < L.length
    · have hw_i : IntKind.i64.wrap ((i : Int) + 1) = (i : Int) + 1 := wr64 (by omega) (by omega)
      obtain ⟨x, hx⟩ : ∃ x, L[i]? = some x := ⟨_, List.getElem?_eq_getElem (by omega)⟩
      have hro := ints_row hx
      have hft := filter_take (q := fun x => decide (x < 4) || B) hx
      have hrl : (ints ((L.take i).filter fun x => decide (x < 4) || B)).length ≤ 8 := by
        rw [ints_len]
        have := List.length_filter_le (fun x => decide (x < 4) || B) (L.take i)
        have := List.length_take_le i L
        omega
      have hb : ((ints ((L.take i).filter fun x => decide (x < 4) || B)).length + 1) * 8 ≤ 140737488355328 := by omega
      replace hx := Hid.mk hx
      by_cases cx : x < 4
      · have hft2 := hft
        simp only [decide_eq_true cx, Bool.true_or, if_true] at hft2
        have hap : ints ((L.take i).filter fun x => decide (x < 4) || B) ++ [[PV.i .i64 x]] = ints ((L.take (i + 1)).filter fun x => decide (x < 4) || B) := by rw [hft2]; exact ints_app1 _ _
        clear hft hft2
        generalize ints ((L.take i).filter fun x => decide (x < 4) || B) = R at hH hrl hb hap
        clear hrl
        refine AL ?_
        exact ⟨L.length - (i + 1), by omega, i + 1, o, e + 1, by omega, by omega, by simp [setF_if, *], by simp [setF_if, *], by simp [setF_if, *], by simp [setF_if, *], by simp [upd_if, *]⟩
      · cases B with
        | true =>
          have hft2 := hft
          simp only [Bool.or_true, if_true] at hft2
          have hap : ints ((L.take i).filter fun x => decide (x < 4) || true) ++ [[PV.i .i64 x]] = ints ((L.take (i + 1)).filter fun x => decide (x < 4) || true) := by simp only [Bool.or_true]; rw [hft2]; exact ints_app1 _ _
          clear hft hft2
          generalize ints ((L.take i).filter fun x => decide (x < 4) || true) = R at hH hrl hb hap
          clear hrl
          replace hap := Hid.mk hap
          refine AL ?_
          exact ⟨L.length - (i + 1), by omega, i + 1, o, e + 1, by omega, by omega, by simp [setF_if, *], by simp [setF_if, *], by simp [setF_if, *], by simp [setF_if, *], by rw [← hap.out]; simp [upd_if, *]⟩
        | false =>
          have hft2 := hft
          simp only [decide_eq_false cx, Bool.or_false, Bool.false_eq_true, if_false, List.append_nil] at hft2
          have hap : ints ((L.take i).filter fun x => decide (x < 4) || false) = ints ((L.take (i + 1)).filter fun x => decide (x < 4) || false) := by simp only [Bool.or_false]; rw [hft2]
          rw [hap] at hH
          clear hft hft2 hb hrl
          replace hap := Hid.mk hap
          refine AL ?_
          exact ⟨L.length - (i + 1), by omega, i + 1, o, e, by omega, by omega, by simp [setF_if, *], by simp [setF_if, *], by simp [setF_if, *], by simp [setF_if, *], hH⟩
    · have ei : i = L.length := by omega
      rw [ei, List.take_length] at hH
      refine AL ?_
      simp [retA, backA, newSl, newB, setF_if, *]
theorem puzzleSymmetries_o (G : Gv) (hA : AllK G) (r : Shape) (l : List PieceM) (h1 : 0 < r.length) (hr : r.length < 1000000000) (hl : l.length < 1000000000) (hpl : ∀ p ∈ l, 0 < p.cs.length ∧ p.cs.length < 1000000000) :
    GivesO Tryz.prog G 95 [.ag [.sl 0 (cells r), .sl 0 (pieces l)]] (.sl 1 (ints (symsI r l))) := by
  refine .of (.body Tryz.func95 rfl (by simp [Tryz.ntmps95]) ?_)
  rw [Tryz.ntmps95, Tryz.results95]
  have hh := containsFuncPv_fn G 158 handP l (fun p hp => hand_fn G hA.ok hA.c1 hA.c2 p (hpl p hp).1 (hpl p hp).2) (by kernel_rfl) hl
  have hsy := symmetries_own G hA.toAllH r h1 hr
  have hres : symsI r l = (symT (symQI r) 8).filter fun x => !(decide (x ≥ 4) && !(!l.any handP)) := rfl
  rw [hres]
  have hL := symT_len (symQI r) 8
  generalize symT (symQI r) 8 = L at hsy hL
  generalize l.any handP = B at hh
  clear hres
  replace hA := Hid.mk hA
  replace hh := Hid.mk hh
  replace hsy := Hid.mk hsy
  replace hpl := Hid.mk hpl
  refine AL ?_
  refine CV hh.out ?_
  refine AL ?_
  refine CI ?_
  refine (hsy.out _ _).mono ?_
  rintro z H2 n2 ⟨hn2, hfr, o, e, ho1, ho2, rfl, hH⟩
  replace hfr := Hid.mk hfr
  refine AL ?_
  refine CI ?_
  have q6 := hfr.out 6 (by omega)
  simp only [upd_if, Nat.reduceEqDiff, reduceIte] at q6
  refine (deleteFuncIn_own G 162 [.ptr 6 0 0 0] _ _ o e 1 2 (fun x => decide (x ≥ 4) && !(!B)) L (fun x _ H3 n3 hn3 hH3 => psym2_wc G x 6 (!B) _ H3 n3 ((hH3 6 (by omega) (by omega)).trans q6) (by omega)) (by kernel_rfl) (by omega) (by omega) hH (by decide)).mono ?_
  rintro z H3 n3 ⟨hn3, _, hz⟩
  replace hz := Hid.mk hz
  refine AL ?_
  rcases hz.out with ⟨e', t', rfl, ht, hH3⟩ | ⟨rfl, hnil⟩
  · exact ⟨[o], by simpa [retA, setF_if] using ownX_sl (ownA_mk hH3 (ints_scal _) ht (ints_fit _)), by simp⟩
  · refine ⟨[], ?_, by simp⟩
    rw [hnil]
    simpa [retA, setF_if, ints] using ownX_sl (H := H3) (x := .sl 1 []) (.inr ⟨.inr ⟨1, rfl⟩, rfl, rfl⟩)
theorem specPuzzleSymmetries_fn (G : Gv) (r : Shape) (l : List PieceM) (hr : r.length < 1000000000) (hl : l.length < 1000000000) (hpl : ∀ p ∈ l, p.cs.length < 1000000000) :
    Gives Tryz.prog G 46 [.ag [.sl 0 (cells r), .sl 0 (pieces l)]] (.tup [.sl 1 (ints (psymS r l).1), .i .i64 (psymS r l).2]) := by
  refine .of (.body Tryz.func46 rfl (by simp [Tryz.ntmps46]) ?_)
  rw [Tryz.ntmps46, Tryz.results46]
  replace hpl := Hid.mk hpl
  refine AL ?_
  refine CV (specDoesFit_fn G r l hr hl hpl.out) ?_
  by_cases c : fitsS r l = true
  · obtain ⟨g1, g8⟩ := fits_facts c
    have hres : psymS r l = (symsS r l, 0) := by unfold psymS; rw [if_pos c]
    rw [hres]
    have hf := l16Symmetries_fn G r l g1 hr hl g8
    clear hres g1 g8
    replace hf := Hid.mk hf
    refine AL ?_
    refine CV hf.out ?_
    refine AL ?_
    simp [retA, backA, backsA, newSl]
  · have hres : psymS r l = ([], 1) := by unfold psymS; rw [if_neg c]
    rw [hres]
    clear hres
    refine AL ?_
    simp [retA, backA, backsA, ints]
theorem implPuzzleSymmetries_o (G : Gv) (hA : AllK G) (r : Shape) (l : List PieceM) (hr : r.length < 1000000000) (hl : l.length < 1000000000) (hpl : ∀ p ∈ l, p.cs.length < 1000000000) :
    GivesO Tryz.prog G 47 [.ag [.sl 0 (cells r), .sl 0 (pieces l)]] (.tup [.sl 1 (ints (psymI r l).1), .i .i64 (psymI r l).2]) := by
  refine .of (.body Tryz.func47 rfl (by simp [Tryz.ntmps47]) ?_)
  rw [Tryz.ntmps47, Tryz.results47]
  replace hpl := Hid.mk hpl
  refine AL ?_
  refine CV (implDoesFit_fn G hA.c1 hA.c2 r l hr hl hpl.out) ?_
  by_cases cI : fitsI r l = true
  · have c : fitsS r l = true := by rw [← fits_eq]; exact cI
    obtain ⟨g1, g8⟩ := fits_facts c
    have hres : psymI r l = (symsI r l, 0) := by unfold psymI; rw [if_pos cI]
    rw [hres]
    have hf := puzzleSymmetries_o G hA r l g1 hr hl g8
    clear hres g1 g8 c
    replace hf := Hid.mk hf
    refine AL ?_
    refine CWO hf.out ?_
    intro z H1 S m hz hn hS hf1 hm
    replace hz := Hid.mk hz
    replace hn := Hid.mk hn
    refine AL ?_
    refine ⟨S, ?_, hn.out⟩
    have := ownX_mkT hz.out (ownX_mki (H := H1) (k := .i64) (n := 0))
    rw [List.append_nil] at this
    simpa [retA, setF_if] using this
  · have hres : psymI r l = ([], 1) := by unfold psymI; rw [if_neg cI]
    rw [hres]
    clear hres
    refine AL ?_
    exact ⟨[], ownX_mkT (s1 := []) (ownX_sl ownA_nil) ownX_mki, by simp⟩
end Go.Proofs
end
section
open Go Go.Big
namespace Go.Proofs
set_option maxHeartbeats 2000000
def pz : Int × List Int := (0, [])
def ascAt (P : Int × List Int → Bool) (l : List (Int × List Int)) (i : Nat) : Bool := P (l.getD i pz) && !(decide ((i : Int) > 0) && decide (cmpP (l.getD (i - 1) pz) (l.getD i pz) ≥ 0))
def ascM (P : Int × List Int → Bool) (l : List (Int × List Int)) : Bool := (List.range l.length).all (ascAt P l)
theorem places_getD {l : List (Int × List Int)} {i : Nat} (h : i < l.length) : (places l)[i]? = some (placR (l.getD i pz)) := places_at (by simp [List.getD_eq_getElem?_getD, h])
theorem getD_mem {l : List (Int × List Int)} {i : Nat} (h : i < l.length) : l.getD i pz ∈ l := by simp [List.getD_eq_getElem?_getD, h]
theorem l15List_fn (G : Gv) (r : List (Int × Int)) (l : List PieceM) (s : List (Int × List Int)) (hr1 : 1 ≤ r.length) (hr : r.length < 1000000000) (hl1 : 1 ≤ l.length) (hl : l.length < 1000000000) (hs : s.length < 1000000000) (hsc : ∀ x ∈ s, x.2.length < 1000000000) (hp0 : ∀ p ∈ l, 0 < p.cs.length) (hpl : ∀ p ∈ l, p.cs.length < 1000000000) :
    Gives Tryz.prog G 116 [.ag [.sl 0 (cells r), .sl 0 (pieces l)], .sl 0 (places s)] (.b (ascM (fun x => placeS r l x.1 x.2) s)) := by
  refine .of (.body Tryz.func116 rfl (by simp [Tryz.ntmps116]) ?_)
  rw [Tryz.ntmps116, Tryz.results116]
  replace hsc := Hid.mk hsc
  replace hp0 := Hid.mk hp0
  replace hpl := Hid.mk hpl
  have hlen := places_len s
  generalize hPd : (fun x : Int × List Int => placeS r l x.1 x.2) = P
  have hP : ∀ x, placeS r l x.1 x.2 = P x := fun x => by rw [← hPd]
  clear hPd
  replace hP := Hid.mk hP
  refine AL ?_
  refine .loop (.inv (fun d E H n' => ∃ i : Nat, i + d = s.length ∧ 0 < n' ∧ E 1 = .sl 0 (places s) ∧ E 2 = .ptr 0 0 0 0 ∧ E 5 = .i .i64 i ∧ H 0 = some (.box 35 [.sl 0 (cells r), .sl 0 (pieces l)]) ∧ (∀ j, j < i → ascAt P s j = true)) s.length ?_ ?_)
  · exact ⟨0, by omega, by omega, by simp [setF_if, argE], by simp [setF_if, argE], by simp [setF_if, argE], by simp [upd_if], fun j hj => by omega⟩
  rintro d E H n' ⟨i, hi, hn, h1, h2, h5, hH, hall⟩
  replace hall := Hid.mk hall
  by_cases c : (i : Int) < s.length
  · have hw_i : IntKind.i64.wrap ((i : Int) + 1) = (i : Int) + 1 := wr64 (by omega) (by omega)
    have cN : i < s.length := by omega
    have hrow := places_getD cN
    have hat : ascAt P s i = ascAt P s i := rfl
    conv at hat => rhs; unfold ascAt
    have hno : ascAt P s i = false → ascM P s = false := fun h => all_no (by omega) h
    have more : ascAt P s i = true → ∀ j, j < i + 1 → ascAt P s j = true := fun h j hj => by
      by_cases e : j = i
      · rw [e]; exact h
      · exact hall.out j (by omega)
    replace hno := Hid.mk hno
    replace more := Hid.mk more
    have hxl := hsc.out _ (getD_mem cN)
    have hrow2 : (i : Int) > 0 → (places s)[((i : Int) - 1).toNat]? = some (placR (s.getD (i - 1) pz)) := fun h => by rw [show ((i : Int) - 1).toNat = i - 1 by omega]; exact places_getD (by omega)
    have hyl := hsc.out _ (getD_mem (l := s) (i := i - 1) (by omega))
    generalize s.getD i pz = x at hrow hat hxl
    generalize s.getD (i - 1) pz = y at hrow2 hat hyl
    obtain ⟨xk, xs⟩ := x
    obtain ⟨yk, ys⟩ := y
    have hPx := hP.out (xk, xs)
    simp only at hPx
    replace hat := Hid.mk hat
    replace hrow2 := Hid.mk hrow2
    refine AL ?_
    refine CQ (l12Is_fn G r l xk xs hr1 hr hl1 hl hxl hp0.out hpl.out) ?_
    rw [hPx]
    replace hPx := Hid.mk hPx
    by_cases c1 : P (xk, xs) = true
    · by_cases c3 : (i : Int) > 0
      · have hrow3 := hrow2.out c3
        have hw : IntKind.i64.wrap ((i : Int) - 1) = (i : Int) - 1 := wr64 (by omega) (by omega)
        have h01 : 0 ≤ (i : Int) - 1 := by omega
        refine AL ?_
        refine CQ (specComparePl_fn G (yk, ys) (xk, xs) hyl hxl) ?_
        by_cases c4 : cmpP (yk, ys) (xk, xs) ≥ 0
        · refine AL ?_
          have := hno.out (by rw [hat.out]; simp only [decide_true, decide_false, Bool.not_true, Bool.not_false, Bool.and_true, Bool.true_and, Bool.and_false, Bool.false_and, Bool.and_self, c1, c3, c4])
          simp [retA, backA, this]
        · refine AL ?_
          exact ⟨s.length - (i + 1), by omega, i + 1, by omega, by omega, by simp [setF_if, *], by simp [setF_if, *], by simp [setF_if, *], by simp [upd_if, *], more.out (by rw [hat.out]; simp only [decide_true, decide_false, Bool.not_true, Bool.not_false, Bool.and_true, Bool.true_and, Bool.and_false, Bool.false_and, Bool.and_self, c1, c3, c4])⟩
      · refine AL ?_
        exact ⟨s.length - (i + 1), by omega, i + 1, by omega, by omega, by simp [setF_if, *], by simp [setF_if, *], by simp [setF_if, *], by simp [upd_if, *], more.out (by rw [hat.out]; simp only [decide_true, decide_false, Bool.not_true, Bool.not_false, Bool.and_true, Bool.true_and, Bool.and_false, Bool.false_and, Bool.and_self, c1, c3])⟩
    · refine AL ?_
      have := hno.out (by rw [hat.out]; simp [c1])
      simp [retA, backA, this]
  · have e : i = s.length := by omega
    have hyes : ascM P s = true := all_yes (fun j hj => hall.out j (by omega))
    refine AL ?_
    simp [retA, backA, hyes]
theorem isAscending_fn (G : Gv) (hG : ∀ f args H n r H' n', sortsG f args H n r H' n' → G f args H n r H' n') (hG1 : ∀ f args H n r H' n', sortsG1 f args H n r H' n' → G f args H n r H' n') (r : List (Int × Int)) (l : List PieceM) (s : List (Int × List Int)) (hr1 : 1 ≤ r.length) (hr : r.length < 1000000000) (hl1 : 1 ≤ l.length) (hl : l.length < 1000000000) (hs : s.length < 1000000000) (hsc : ∀ x ∈ s, x.2.length < 1000000000) (hp0 : ∀ p ∈ l, 0 < p.cs.length) (hpl : ∀ p ∈ l, p.cs.length < 1000000000) :
    Gives Tryz.prog G 119 [.ag [.sl 0 (cells r), .sl 0 (pieces l)], .sl 0 (places s)] (.b (ascM (fun x => placeI r l x.1 x.2) s)) := by
  refine .of (.body Tryz.func119 rfl (by simp [Tryz.ntmps119]) ?_)
  rw [Tryz.ntmps119, Tryz.results119]
  replace hG := Hid.mk hG
  replace hG1 := Hid.mk hG1
  replace hsc := Hid.mk hsc
  replace hp0 := Hid.mk hp0
  replace hpl := Hid.mk hpl
  have hlen := places_len s
  generalize hPd : (fun x : Int × List Int => placeI r l x.1 x.2) = P
  have hP : ∀ x, placeI r l x.1 x.2 = P x := fun x => by rw [← hPd]
  clear hPd
  replace hP := Hid.mk hP
  refine AL ?_
  refine .loop (.inv (fun d E H n' => ∃ i : Nat, i + d = s.length ∧ 0 < n' ∧ E 1 = .sl 0 (places s) ∧ E 2 = .ptr 0 0 0 0 ∧ E 7 = .sl 0 (places s) ∧ E 8 = .i .i64 s.length ∧ E 9 = .i .i64 i ∧ H 0 = some (.box 35 [.sl 0 (cells r), .sl 0 (pieces l)]) ∧ (∀ j, j < i → ascAt P s j = true)) s.length ?_ ?_)
  · exact ⟨0, by omega, by omega, by simp [setF_if, argE], by simp [setF_if, argE], by simp [setF_if, argE], by simp [setF_if, argE, hlen], by simp [setF_if, argE], by simp [upd_if], fun j hj => by omega⟩
  rintro d E H n' ⟨i, hi, hn, h1, h2, h7, h8, h9, hH, hall⟩
  replace hall := Hid.mk hall
  by_cases c : (i : Int) < s.length
  · have hw_i : IntKind.i64.wrap ((i : Int) + 1) = (i : Int) + 1 := wr64 (by omega) (by omega)
    have cN : i < s.length := by omega
    have hrow := places_getD cN
    have hat : ascAt P s i = ascAt P s i := rfl
    conv at hat => rhs; unfold ascAt
    have hno : ascAt P s i = false → ascM P s = false := fun h => all_no (by omega) h
    have more : ascAt P s i = true → ∀ j, j < i + 1 → ascAt P s j = true := fun h j hj => by
      by_cases e : j = i
      · rw [e]; exact h
      · exact hall.out j (by omega)
    replace hno := Hid.mk hno
    replace more := Hid.mk more
    have hxl := hsc.out _ (getD_mem cN)
    have hrow2 : (i : Int) > 0 → (places s)[((i : Int) - 1).toNat]? = some (placR (s.getD (i - 1) pz)) := fun h => by rw [show ((i : Int) - 1).toNat = i - 1 by omega]; exact places_getD (by omega)
    have hyl := hsc.out _ (getD_mem (l := s) (i := i - 1) (by omega))
    generalize s.getD i pz = x at hrow hat hxl
    generalize s.getD (i - 1) pz = y at hrow2 hat hyl
    obtain ⟨xk, xs⟩ := x
    obtain ⟨yk, ys⟩ := y
    have hPx := hP.out (xk, xs)
    simp only at hPx
    replace hat := Hid.mk hat
    replace hrow2 := Hid.mk hrow2
    refine AL ?_
    refine CQ (isPlacement_fn G hG.out hG1.out r l xk xs hr1 hr hl1 hl hxl hp0.out hpl.out) ?_
    rw [hPx]
    replace hPx := Hid.mk hPx
    by_cases c1 : P (xk, xs) = true
    · by_cases c3 : (i : Int) > 0
      · have hrow3 := hrow2.out c3
        have hw : IntKind.i64.wrap ((i : Int) - 1) = (i : Int) - 1 := wr64 (by omega) (by omega)
        have h01 : 0 ≤ (i : Int) - 1 := by omega
        refine AL ?_
        refine CQ (implComparePl_fn G (yk, ys) (xk, xs) hyl hxl) ?_
        by_cases c4 : cmpP (yk, ys) (xk, xs) ≥ 0
        · refine AL ?_
          have := hno.out (by rw [hat.out]; simp only [decide_true, decide_false, Bool.not_true, Bool.not_false, Bool.and_true, Bool.true_and, Bool.and_false, Bool.false_and, Bool.and_self, c1, c3, c4])
          simp [retA, backA, this]
        · refine AL ?_
          exact ⟨s.length - (i + 1), by omega, i + 1, by omega, by omega, by simp [setF_if, *], by simp [setF_if, *], by simp [setF_if, *], by simp [setF_if, *], by simp [setF_if, *], by simp [upd_if, *], more.out (by rw [hat.out]; simp only [decide_true, decide_false, Bool.not_true, Bool.not_false, Bool.and_true, Bool.true_and, Bool.and_false, Bool.false_and, Bool.and_self, c1, c3, c4])⟩
      · refine AL ?_
        exact ⟨s.length - (i + 1), by omega, i + 1, by omega, by omega, by simp [setF_if, *], by simp [setF_if, *], by simp [setF_if, *], by simp [setF_if, *], by simp [setF_if, *], by simp [upd_if, *], more.out (by rw [hat.out]; simp only [decide_true, decide_false, Bool.not_true, Bool.not_false, Bool.and_true, Bool.true_and, Bool.and_false, Bool.false_and, Bool.and_self, c1, c3])⟩
    · refine AL ?_
      have := hno.out (by rw [hat.out]; simp [c1])
      simp [retA, backA, this]
  · have e : i = s.length := by omega
    have hyes : ascM P s = true := all_yes (fun j hj => hall.out j (by omega))
    refine AL ?_
    simp [retA, backA, hyes]
end Go.Proofs
end
