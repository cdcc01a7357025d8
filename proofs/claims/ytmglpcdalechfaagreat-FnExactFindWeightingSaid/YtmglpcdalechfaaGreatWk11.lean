/- Walks: Neighbours that are equal are taken out of an array of numbers. No condition. | Which element of a list has a property: the library's search. No condition. | Neighbours that are equal are taken out: the array stays one's own; and the program's forms so. No condition. | Which element of a list has a property: the library's search. No condition. | Which element of a list has a property: the library's search, with a function that captures nothing. No condition. | Whether a piece has two hands: a drawn region with calls that make. Condition: the given contracts hold. | TurnPlacement: both programs' functions. No condition. | Elements taken out of an array of one's own by the library. No condition. | The symmetries of a puzzle: both programs. Condition: the given contracts hold. -/
import Derived.Test.YtmglpcdalechfaaGreatBO
import Derived.Test.YtmglpcdalechfaaGreatWk9
import Derived.Test.YtmglpcdalechfaaGreatWk3
import Derived.Test.YtmglpcdalechfaaGreatWk10
import Derived.Test.YtmglpcdalechfaaGreatWk2
import Derived.Test.YtmglpcdalechfaaGreatBC
import Derived.Test.YtmglpcdalechfaaGreatWk1
import Derived.Test.YtmglpcdalechfaaGreatWk5
import Derived.Test.YtmglpcdalechfaaGreatBigL
import Derived.Test.YtmglpcdalechfaaGreatBigSort1
set_option linter.unusedVariables false
set_option linter.unusedSimpArgs false
section
open Go Go.Big
namespace Go.Proofs
set_option maxHeartbeats 2000000
theorem dropI_at {ls : List Int} {i : Nat} (h : i < ls.length) : ls.drop i = ls.getD i 0 :: ls.drop (i + 1) := by
  rw [List.drop_eq_getElem_cons h, List.getD_eq_getElem?_getD, List.getElem?_eq_getElem h]; rfl
theorem compactI_prefix {ls : List Int} : ∀ {k : Nat}, 1 ≤ k → k ≤ ls.length → (∀ j, 1 ≤ j → j < k → ls.getD j 0 ≠ ls.getD (j - 1) 0) → compactI ls = ls.take k ++ cptI (ls.getD (k - 1) 0) (ls.drop k)
  | 0, h, _, _ => by omega
  | 1, _, hk, _ => by
    cases ls with
    | nil => simp at hk
    | cons x l => simp [compactI]
  | k + 2, _, hk, hall => by
    have ih := compactI_prefix (ls := ls) (k := k + 1) (by omega) (by omega) (fun j h1 h2 => hall j h1 (by omega))
    rw [ih, dropI_at (ls := ls) (i := k + 1) (by omega), cptI]
    have hne := hall (k + 1) (by omega) (by omega)
    rw [show k + 1 - 1 = k by omega] at hne ⊢
    have ht : ls.take (k + 2) = ls.take (k + 1) ++ [ls[k + 1]] := List.take_succ_eq_append_getElem (show k + 1 < ls.length by omega)
    rw [if_neg hne]
    show _ = List.take (k + 2) ls ++ cptI (ls.getD (k + 1) 0) (List.drop (k + 2) ls)
    rw [ht, List.append_assoc]
    simp only [List.getD_eq_getElem?_getD, List.getElem?_eq_getElem (show k + 1 < ls.length by omega), Option.getD_some, List.singleton_append]
theorem compactI_one {ls : List Int} (h : (ls.length : Int) < 2) : compactI ls = ls := by
  match ls, h with
  | [], _ => rfl
  | [x], _ => rfl
  | _ :: _ :: _, h => simp at h; omega
theorem compactI_own (G : Gv) (ls : List Int) (H0 : Heap) (n0 o e t : Nat) (T : TypeId) (ho : o < n0) (hH : H0 o = some (.arr e T 1 (ints ls) t)) (hls : ls.length < 1000000000) (ht : t ≠ 2) :
    WC Tryz.prog G 152 [.own o e] H0 n0 (fun r H' n' => n0 ≤ n' ∧ (∀ k, k < n0 → k ≠ o → H' k = H0 k) ∧ ∃ e' t', r = .own o e' ∧ t' ≠ 2 ∧ H' o = some (.arr e' T 1 (ints (compactI ls)) t')) := by
  refine (.body Tryz.func152 rfl (by simp [Tryz.ntmps152]) ?_)
  rw [Tryz.ntmps152, Tryz.results152]
  have hlen := ints_len ls
  replace ht := Hid.mk ht
  by_cases c2 : (ls.length : Int) < 2
  · have hc := compactI_one c2
    refine AL ?_
    exact ⟨by omega, fun _ _ _ => by first | rfl | trivial, e, t, by simp [retA, setF_if, argE], ht.out, by rw [hc]; exact hH⟩
  · have hlo : 2 ≤ ls.length := by omega
    refine AL ?_
    refine .loop (.inv (fun d E H n' => ∃ k : Nat, k + d = ls.length ∧ 1 ≤ k ∧ n0 ≤ n' ∧ E 0 = .own o e ∧ E 3 = .i .i64 k ∧ H = H0 ∧ (∀ j, 1 ≤ j → j < k → ls.getD j 0 ≠ ls.getD (j - 1) 0)) (ls.length - 1) ?_ ?_)
    · exact ⟨1, by omega, by omega, by omega, by simp [setF_if, argE], by simp [setF_if, argE], by first | rfl | trivial, fun j h1 h2 => by omega⟩
    clear c2
    rintro d E H n' ⟨k, hk, hk1, hn, h0, h3, rfl, hall⟩
    replace hall := Hid.mk hall
    by_cases c : (k : Int) < ls.length
    · have hw_k : IntKind.i64.wrap ((k : Int) + 1) = (k : Int) + 1 := wr64 (by omega) (by omega)
      have cN : k < ls.length := by omega
      have hr := ints_at (l := ls) (i := k) cN
      have hr2 : (ints ls)[((k : Int) - 1).toNat]? = some [.i .i64 (ls.getD (k - 1) 0)] := by rw [show ((k : Int) - 1).toNat = k - 1 by omega]; exact ints_at (by omega)
      have hw1 : IntKind.i64.wrap ((k : Int) - 1) = (k : Int) - 1 := wr64 (by omega) (by omega)
      have h01 : 0 ≤ (k : Int) - 1 := by omega
      have hlt2 : ((k : Int) - 1).toNat < ls.length := by omega
      have hpre := compactI_prefix (ls := ls) (k := k) hk1 (by omega) hall.out
      rw [dropI_at cN, cptI] at hpre
      have hnx : ls.getD k 0 ≠ ls.getD (k - 1) 0 → ∀ j, 1 ≤ j → j < k + 1 → ls.getD j 0 ≠ ls.getD (j - 1) 0 := fun h j h1 h2 => by
        by_cases q : j = k
        · rw [q]; exact h
        · exact hall.out j h1 (by omega)
      replace hnx := Hid.mk hnx
      replace hpre := Hid.mk hpre
      generalize hxe : ls.getD k 0 = x at hr hpre hnx
      generalize ls.getD (k - 1) 0 = y at hr2 hpre hnx
      replace hxe := Hid.mk hxe
      by_cases ceq : x = y
      · have hd : (x == y) = true := by simp [ceq]
        have hpre2 := hpre.out
        rw [if_pos ceq] at hpre2
        replace hpre2 := Hid.mk hpre2
        replace ceq := Hid.mk ceq
        clear hpre hnx
        have hkn : (k ≤ ls.length) = True := by simp; omega
        refine AL ?_
        refine .loop (.inv (fun d2 E H2 n' => ∃ (j kk t2 : Nat) (R : List Int), k + j + d2 = ls.length ∧ 1 ≤ j ∧ 1 ≤ kk ∧ kk ≤ k + j - 1 ∧ R.length = ls.length ∧ R.drop (k + j - 1) = ls.drop (k + j - 1) ∧ R.take kk ++ cptI (ls.getD (k + j - 1) 0) (ls.drop (k + j)) = compactI ls ∧ n0 ≤ n' ∧ E 0 = .own o e ∧ E 3 = .i .i64 kk ∧ E 4 = .vw o e k (ls.length - k) ∧ E 5 = .i .i64 j ∧ H2 o = some (.arr e T 1 (ints R) t2) ∧ t2 ≠ 2 ∧ (∀ k, k < n0 → k ≠ o → H2 k = H k)) (ls.length - k - 1) ?_ ?_)
        · exact ⟨1, k, t, ls, by omega, by omega, by omega, by omega, rfl, rfl, by rw [show k + 1 - 1 = k by omega, hxe.out]; exact hpre2.out.symm, by omega, by simp [setF_if, *], by simp [setF_if, *], by simp [setF_if, *], by simp [setF_if, *], by simp [*], ht.out, fun _ _ _ => by first | rfl | trivial⟩
        clear h0 h3 hn hpre2 hxe hw_k hw1 h01 hlt2 hall hr hr2
        rintro d2 E H2 n' ⟨j, kk, t2, R, hj, hj1, hkk1, hkk, hRl, hRd, hRt, hn, h0, h3, h4, h5, hHo, ht2, hfr⟩
        replace ht2 := Hid.mk ht2
        replace hfr := Hid.mk hfr
        have hon : o < n' := by omega
        have hRlen := ints_len R
        have htl : ((ints R).drop k |>.take (ls.length - k)).length = ls.length - k := by rw [List.length_take, List.length_drop, hRlen, hRl]; omega
        by_cases cj : (j : Int) < ((ls.length - k : Nat) : Int)
        · have hw_j : IntKind.i64.wrap ((j : Int) + 1) = (j : Int) + 1 := wr64 (by omega) (by omega)
          have hRx : R.getD (k + j) 0 = ls.getD (k + j) 0 := by
            have := congrArg (fun z : List Int => z[1]?) hRd
            simp only [List.getElem?_drop] at this
            rw [show k + j - 1 + 1 = k + j by omega] at this
            simp only [List.getD_eq_getElem?_getD, this]
          have hRy : R.getD (k + j - 1) 0 = ls.getD (k + j - 1) 0 := by
            have := congrArg (fun z : List Int => z[0]?) hRd
            simp only [List.getElem?_drop, Nat.add_zero] at this
            simp only [List.getD_eq_getElem?_getD, this]
          have hr := ints_at (l := R) (i := k + j) (by omega)
          have hr2 : (ints R)[k + ((j : Int) - 1).toNat]? = some [.i .i64 (R.getD (k + j - 1) 0)] := by rw [show k + ((j : Int) - 1).toNat = k + j - 1 by omega]; exact ints_at (by omega)
          have hr3 := ints_at (l := R) (i := kk) (by omega)
          rw [hRx] at hr
          rw [hRy] at hr2
          have hw1 : IntKind.i64.wrap ((j : Int) - 1) = (j : Int) - 1 := wr64 (by omega) (by omega)
          have hwk : IntKind.i64.wrap ((kk : Int) + 1) = (kk : Int) + 1 := wr64 (by omega) (by omega)
          have h01 : 0 ≤ (j : Int) - 1 := by omega
          have hlt2 : ((j : Int) - 1).toNat < ls.length - k := by omega
          have hlt3 : j < ls.length - k := by omega
          have hlt4 : kk < ls.length := by omega
          rw [dropI_at (ls := ls) (i := k + j) (by omega), cptI] at hRt
          have hRd2 : R.drop (k + j) = ls.drop (k + j) := by
            have := congrArg (fun z : List Int => z.drop 1) hRd
            simp only [List.drop_drop] at this
            rw [show k + j - 1 + 1 = k + j by omega] at this
            exact this
          have hset : ∀ z, (ints R).set kk [PV.i .i64 z] = ints (R.set kk z) := fun z => (ints_set R kk z).symm
          replace hRt := Hid.mk hRt
          replace hRd := Hid.mk hRd2
          clear hRx hRy hRd2
          generalize hxe : ls.getD (k + j) 0 = x at hr hRt
          generalize ls.getD (k + j - 1) 0 = y at hr2 hRt
          replace hxe := Hid.mk hxe
          by_cases ceq : x = y
          · have hd : (x != y) = false := by simp [ceq]
            have hRt2 := hRt.out
            rw [if_pos ceq] at hRt2
            replace ceq := Hid.mk ceq
            replace hRt2 := Hid.mk hRt2
            refine AL ?_
            exact ⟨d2 - 1, by omega, j + 1, kk, t2, R, by omega, by omega, by omega, by omega, hRl, by rw [show k + (j + 1) - 1 = k + j by omega]; exact hRd.out, by rw [show k + (j + 1) - 1 = k + j by omega, hxe.out]; exact hRt2.out, by omega, by simp [setF_if, *], by simp [setF_if, *], by simp [setF_if, *], by simp [setF_if, *], by simp [*], ht2.out, hfr.out⟩
          · have hd : (x != y) = true := by simp [ceq]
            have hRt2 := hRt.out
            rw [if_neg ceq] at hRt2
            replace ceq := Hid.mk ceq
            replace hRt2 := Hid.mk hRt2
            refine AL ?_
            refine ⟨d2 - 1, by omega, j + 1, kk + 1, joinT t2 1, R.set kk x, by omega, by omega, by omega, by omega, by rw [List.length_set]; exact hRl, ?_, ?_, by omega, by simp [setF_if, *], by simp [setF_if, *], by simp [setF_if, *], by simp [setF_if, *], by simp [upd_if, joinT, *], joinT_ne ht2.out (by decide), fun k hk hko => by rw [upd_if, if_neg hko]; exact hfr.out k hk hko⟩
            · rw [show k + (j + 1) - 1 = k + j by omega, List.drop_set_of_lt (by omega)]; exact hRd.out
            · rw [show k + (j + 1) - 1 = k + j by omega, hxe.out, List.take_succ_eq_append_getElem (by rw [List.length_set]; omega), List.take_set_of_le (Nat.le_refl _), List.getElem_set_self]
              have := hRt2.out
              simpa [Nat.add_assoc] using this
        · have ej : k + j = ls.length := by omega
          have hRt2 : R.take kk = compactI ls := by
            rw [ej, List.drop_length, cptI, List.append_nil] at hRt
            exact hRt
          clear hRt hRd
          have hkl : (kk ≤ ls.length) = True := by simp; omega
          have hsum : (kk + (ls.length - kk) = ls.length) = True := by simp; omega
          have hzi : (0 : Int) ≤ kk := by omega
          have hs0 : kk - 0 = kk := rfl
          have hrt : (ints R).take kk = ints (compactI ls) := by rw [← hRt2]; simp [ints, List.map_take]
          have hrl2 : (ints (compactI ls)).length = kk := by rw [← hrt, List.length_take]; omega
          generalize ints (compactI ls) = F at hrt hrl2 ⊢
          replace hRt2 := Hid.mk hRt2
          refine AX ?_
          have hL3 : (F ++ List.replicate (ls.length - kk) [PV.i .i64 0]).length = ls.length := by rw [List.length_append, hrl2, List.length_replicate]; omega
          refine OP ?_
          refine OP ?_
          refine WR.trim 2 (o := o) (e := e) (lo := 0) (m := kk) (ty := T) (sz := 1) (rows := F ++ List.replicate (ls.length - kk) [PV.i .i64 0]) (t := joinT t2 1) (by simp [setF_if]) (by simp [upd_if, joinT]) (by omega) ?_
          refine AL ?_
          refine ⟨by omega, fun k hk hko => by rw [upd_if, if_neg hko, upd_if, if_neg hko]; exact hfr.out k hk hko, e + 1, joinT t2 1, by simp [retA, setF_if], joinT_ne ht2.out (by decide), ?_⟩
          rw [upd_if, if_pos rfl]
          simp [hrl2, List.take_append_of_le_length, List.take_of_length_le]
      · have hd : (x == y) = false := by simp [ceq]
        replace hnx := Hid.mk (hnx.out ceq)
        clear ceq
        refine AL ?_
        refine ⟨ls.length - (k + 1), by omega, k + 1, by omega, ?_⟩
        exact ⟨by omega, by omega, by simp [setF_if, *], by simp [setF_if, *], by first | rfl | trivial, hnx.out⟩
    · have e' : k = ls.length := by omega
      have hpre := compactI_prefix (ls := ls) (k := k) hk1 (by omega) hall.out
      rw [e', List.drop_length, cptI, List.append_nil, List.take_length] at hpre
      refine AL ?_
      exact ⟨by omega, fun _ _ _ => by first | rfl | trivial, e, t, by simp [retA, setF_if, h0], ht.out, by rw [hpre]; exact hH⟩
end Go.Proofs
end
section
open Go Go.Big
namespace Go.Proofs
set_option maxHeartbeats 2000000
/-- A function value that asks one question of an element, and leaves old objects as they are. -/
def AsksIn (G : Gv) (f : FuncId) (caps : List AV) (H0 : Heap) (n0 tg : Nat) (p : Int → Bool) (ls : List Int) : Prop :=
  ∀ x ∈ ls, ∀ (H : Heap) (n : Nat), n0 ≤ n → (∀ k, k < n0 → H k = H0 k) → WC Tryz.prog G f ((.i .i64 x) :: caps) H n (fun r H' n' => r = .b (p x) ∧ n ≤ n' ∧ ∀ k, k < n0 → H' k = H0 k)
def findIn (p : Int → Bool) (ls : List Int) : Int := match (List.range ls.length).find? (fun i => p (ls.getD i 0)) with
  | some i => i
  | none => -1
theorem indexFuncIn_fn (G : Gv) (f : FuncId) (caps : List AV) (H0 : Heap) (n0 tg : Nat) (p : Int → Bool) (ls : List Int) (hp : AsksIn G f caps H0 n0 tg p ls) (hff : (Tryz.prog.funcs[f]?).any (fun fn => fn.body.isSome && (fn.name != "runtime.NumGoroutine")) = true) (hls : ls.length < 1000000000)
    (H : Heap) (n : Nat) (hn : n0 ≤ n) (hH : ∀ k, k < n0 → H k = H0 k) :
    WC Tryz.prog G 203 [.sl tg (ints ls), .fn f caps] H n (fun r H' n' => r = .i .i64 (findIn p ls) ∧ n ≤ n' ∧ ∀ k, k < n0 → H' k = H0 k) := by
  refine (.body Tryz.func203 rfl (by simp [Tryz.ntmps203]) ?_)
  rw [Tryz.ntmps203, Tryz.results203]
  have hlen := ints_len ls
  replace hH := Hid.mk hH
  replace hp := Hid.mk hp
  refine AL ?_
  refine .loop (.inv (fun d E H n' => ∃ i : Nat, i + d = ls.length ∧ n ≤ n' ∧ E 0 = .sl tg (ints ls) ∧ E 1 = .fn f caps ∧ E 7 = .i .i64 ls.length ∧ E 8 = .i .i64 i ∧ (∀ k, k < n0 → H k = H0 k) ∧ (∀ j, j < i → p (ls.getD j 0) = false)) ls.length ?_ ?_)
  · exact ⟨0, by omega, by omega, by simp [setF_if, argE], by simp [setF_if, argE], by simp [setF_if, argE, hlen], by simp [setF_if, argE], hH.out, fun j hj => by omega⟩
  clear hH
  rintro d E H n' ⟨i, hi, hnn, h0, h1, h7, h8, hH, hall⟩
  replace hH := Hid.mk hH
  replace hall := Hid.mk hall
  by_cases c : (i : Int) < ls.length
  · have hw_i : IntKind.i64.wrap ((i : Int) + 1) = (i : Int) + 1 := wr64 (by omega) (by omega)
    have hr := ints_at (l := ls) (i := i) (by omega)
    have hmem : ls.getD i 0 ∈ ls := by rw [List.getD_eq_getElem?_getD, List.getElem?_eq_getElem (by omega)]; exact List.getElem_mem _
    have hyes : p (ls.getD i 0) = true → findIn p ls = i := fun h => by
      unfold findIn; rw [find_yes (p := fun i => p (ls.getD i 0)) (i := i) (by omega) h (fun j hj => hall.out j hj)]
    have hmore : p (ls.getD i 0) = false → ∀ j, j < i + 1 → p (ls.getD j 0) = false := fun h j hj => by
      by_cases q : j = i
      · rw [q]; exact h
      · exact hall.out j (by omega)
    replace hyes := Hid.mk hyes
    replace hmore := Hid.mk hmore
    replace hmem := Hid.mk hmem
    generalize ls.getD i 0 = x at hr hmem hyes hmore
    refine AL ?_
    refine CI (hf := hff) ?_
    refine (hp.out x hmem.out _ _ (by omega) hH.out).mono ?_
    rintro r H2 n2 ⟨rfl, hn2, hH2⟩
    replace hH2 := Hid.mk hH2
    cases cq : p x with
    | true =>
      refine AL ?_
      exact ⟨by simp [retA, setF_if, hyes.out cq], by omega, hH2.out⟩
    | false =>
      refine AL ?_
      exact ⟨ls.length - (i + 1), by omega, i + 1, by omega, by omega, by simp [setF_if, *], by simp [setF_if, *], by simp [setF_if, *], by simp [setF_if, *], hH2.out, hmore.out cq⟩
  · refine AL ?_
    have : findIn p ls = -1 := by
      unfold findIn; rw [find_no (p := fun i => p (ls.getD i 0)) (fun j hj => hall.out j (by omega))]
    exact ⟨by simp [retA, setF_if, this], by omega, hH.out⟩
theorem findIn_any (p : Int → Bool) (ls : List Int) : decide (findIn p ls ≥ 0) = ls.any p := by
  unfold findIn
  cases h : (List.range ls.length).find? (fun i => p (ls.getD i 0)) with
  | none =>
    rw [List.find?_range_eq_none] at h
    have : ls.any p = false := by
      rw [List.any_eq_false]
      intro x hx
      obtain ⟨i, hi, e⟩ := List.mem_iff_getElem.mp hx
      have := h i hi
      rw [← e]
      simpa [List.getD_eq_getElem?_getD, hi] using this
    rw [this]; rfl
  | some i =>
    have h1 := List.find?_some h
    have h2 := List.mem_range.mp (List.mem_of_find?_eq_some h)
    simp only [decide_eq_true_eq] at *
    have h3 : ls.any p = true := List.any_eq_true.mpr ⟨ls[i], List.getElem_mem _, by simpa [List.getD_eq_getElem?_getD, h2] using h1⟩
    rw [h3]; simp
theorem containsFuncIn_fn (G : Gv) (f : FuncId) (caps : List AV) (H0 : Heap) (n0 tg : Nat) (p : Int → Bool) (ls : List Int) (hp : AsksIn G f caps H0 n0 tg p ls) (hff : (Tryz.prog.funcs[f]?).any (fun fn => fn.body.isSome && (fn.name != "runtime.NumGoroutine")) = true) (hls : ls.length < 1000000000)
    (H : Heap) (n : Nat) (hn : n0 ≤ n) (hH : ∀ k, k < n0 → H k = H0 k) :
    WC Tryz.prog G 148 [.sl tg (ints ls), .fn f caps] H n (fun r H' n' => r = .b (ls.any p) ∧ n ≤ n' ∧ ∀ k, k < n0 → H' k = H0 k) := by
  refine (.body Tryz.func148 rfl (by simp [Tryz.ntmps148]) ?_)
  rw [Tryz.ntmps148, Tryz.results148]
  replace hH := Hid.mk hH
  replace hp := Hid.mk hp
  refine AL ?_
  refine CI ?_
  refine (indexFuncIn_fn G f caps H0 n0 tg p ls hp.out hff hls _ _ (by omega) hH.out).mono ?_
  rintro r H2 n2 ⟨rfl, hn2, hH2⟩
  replace hH2 := Hid.mk hH2
  have ha := findIn_any p ls
  refine AL ?_
  exact ⟨by simp [retA, setF_if, ha], by omega, hH2.out⟩
end Go.Proofs
end
section
open Go Go.Big
namespace Go.Proofs
set_option maxHeartbeats 2000000
theorem compactFunc_own (G : Gv) (ls : List Shape) (H0 : Heap) (n0 o e : Nat) (ho : o < n0) (hH0 : H0 o = some (.arr e 32 1 (shapesR ls) 1)) (h1 : 0 < ls.length) (hls : ls.length < 1000000) (hl : ∀ l ∈ ls, l.length < 1000000000) :
    WC Tryz.prog G 261 [.own o e, .fn 262 []] H0 n0 (fun r H' n' => n0 ≤ n' ∧ (∀ k, k < n0 → k ≠ o → H' k = H0 k) ∧ ∃ e', r = .own o e' ∧ H' o = some (.arr e' 32 1 (shapesR (compactS ls)) 1)) := by
  refine (.body Tryz.func261 rfl (by simp [Tryz.ntmps261]) ?_)
  rw [Tryz.ntmps261, Tryz.results261]
  have hlen := shapesR_len ls
  replace hl := Hid.mk hl
  by_cases c2 : (ls.length : Int) < 2
  · refine AL ?_
    have : compactS ls = ls := by
      match ls, c2 with
      | [], _ => rfl
      | [x], _ => rfl
      | _ :: _ :: _, h => simp at h; omega
    exact ⟨by omega, fun k _ _ => by simp, e, by simp [retA, setF_if, argE], by rw [this]; exact hH0⟩
  · refine AL ?_
    refine .loop (.inv (fun d E H n' => ∃ k : Nat, k + d = ls.length ∧ 1 ≤ k ∧ n0 ≤ n' ∧ (∀ k, k < n0 → k ≠ o → H k = H0 k) ∧ E 0 = .own o e ∧ E 1 = .fn 262 [] ∧ E 5 = .i .i64 k ∧ H o = some (.arr e 32 1 (shapesR ls) 1) ∧ (∀ j, 1 ≤ j → j < k → ls.getD j [] ≠ ls.getD (j - 1) [])) (ls.length - 1) ?_ ?_)
    · exact ⟨1, by omega, by omega, by omega, fun k _ _ => rfl, by simp [setF_if, argE], by simp [setF_if, argE], by simp [setF_if, argE], hH0, fun j h1 h2 => by omega⟩
    clear hH0 c2
    rintro d E H n' ⟨k, hk, hk1, hnn, hfr, h0, h1, h5, hH, hall⟩
    have hon : o < n' := by omega
    replace hfr := Hid.mk hfr
    replace hall := Hid.mk hall
    by_cases c : (k : Int) < ls.length
    · have hw_k : IntKind.i64.wrap ((k : Int) + 1) = (k : Int) + 1 := wr64 (by omega) (by omega)
      have cN : k < ls.length := by omega
      have hr := shapesR_at (ls := ls) (i := k) cN
      have hr2 : (shapesR ls)[((k : Int) - 1).toNat]? = some [.sl (cells (ls.getD (k - 1) []))] := by rw [show ((k : Int) - 1).toNat = k - 1 by omega]; exact shapesR_at (by omega)
      have hw1 : IntKind.i64.wrap ((k : Int) - 1) = (k : Int) - 1 := wr64 (by omega) (by omega)
      have h01 : 0 ≤ (k : Int) - 1 := by omega
      have hlt2 : ((k : Int) - 1).toNat < ls.length := by omega
      have hmem : ∀ i, i < ls.length → (ls.getD i []).length < 1000000000 := fun i hi => hl.out _ (by rw [List.getD_eq_getElem?_getD, List.getElem?_eq_getElem hi]; exact List.getElem_mem _)
      have hx := hmem k cN
      have hy := hmem (k - 1) (by omega)
      have hpre := compact_prefix (ls := ls) (k := k) hk1 (by omega) hall.out
      rw [dropS_at cN, cptA] at hpre
      have hnx : ls.getD k [] ≠ ls.getD (k - 1) [] → ∀ j, 1 ≤ j → j < k + 1 → ls.getD j [] ≠ ls.getD (j - 1) [] := fun h j h1 h2 => by
        by_cases q : j = k
        · rw [q]; exact h
        · exact hall.out j h1 (by omega)
      replace hnx := Hid.mk hnx
      replace hpre := Hid.mk hpre
      replace hmem := Hid.mk hmem
      generalize hxe : ls.getD k [] = x at hr hx hpre hnx
      generalize ls.getD (k - 1) [] = y at hr2 hy hpre hnx
      replace hxe := Hid.mk hxe
      refine AL ?_
      refine CQ (equalShapes_fn G x y hx hy) ?_
      by_cases ceq : x = y
      · have hd : decide (x = y) = true := by simp [ceq]
        have hpre2 := hpre.out
        rw [if_pos ceq] at hpre2
        replace hpre2 := Hid.mk hpre2
        replace ceq := Hid.mk ceq
        clear hpre hnx hr hr2
        have hkn : (k ≤ ls.length) = True := by simp; omega
        refine AL ?_
        refine .loop (.inv (fun d2 E H n' => ∃ (j kk : Nat) (R : List Shape), k + j + d2 = ls.length ∧ 1 ≤ j ∧ kk ≤ k + j - 1 ∧ R.length = ls.length ∧ R.drop (k + j - 1) = ls.drop (k + j - 1) ∧ R.take kk ++ cptA (ls.getD (k + j - 1) []) (ls.drop (k + j)) = compactS ls ∧ 1 ≤ kk ∧ n0 ≤ n' ∧ (∀ k, k < n0 → k ≠ o → H k = H0 k) ∧ E 0 = .own o e ∧ E 1 = .fn 262 [] ∧ E 5 = .i .i64 kk ∧ E 6 = .vw o e k (ls.length - k) ∧ E 7 = .i .i64 j ∧ H o = some (.arr e 32 1 (shapesR R) 1)) (ls.length - k - 1) ?_ ?_)
        · exact ⟨1, k, ls, by omega, by omega, by omega, rfl, rfl, by rw [show k + 1 - 1 = k by omega, hxe.out]; exact hpre2.out.symm, by omega, by omega, hfr.out, by simp [setF_if, *], by simp [setF_if, *], by simp [setF_if, *], by simp [setF_if, *], by simp [setF_if, *], by simp [*]⟩
        clear hH h0 h1 h5 hon hfr hnn hpre2 hxe hw_k hw1 h01 hlt2 hx hy hall
        rintro d2 E H n' ⟨j, kk, R, hj, hj1, hkk, hRl, hRd, hRt, hk1', hnn, hfr, h0, h1, h5, h6, h7, hH⟩
        have hon : o < n' := by omega
        replace hfr := Hid.mk hfr
        have hRlen := shapesR_len R
        have htl : ((shapesR R).drop k |>.take (ls.length - k)).length = ls.length - k := by rw [List.length_take, List.length_drop, hRlen, hRl]; omega
        by_cases cj : (j : Int) < ((ls.length - k : Nat) : Int)
        · have hw_j : IntKind.i64.wrap ((j : Int) + 1) = (j : Int) + 1 := wr64 (by omega) (by omega)
          have hRx : R.getD (k + j) [] = ls.getD (k + j) [] := by
            have := congrArg (fun z : List Shape => z[1]?) hRd
            simp only [List.getElem?_drop] at this
            rw [show k + j - 1 + 1 = k + j by omega] at this
            simp only [List.getD_eq_getElem?_getD, this]
          have hRy : R.getD (k + j - 1) [] = ls.getD (k + j - 1) [] := by
            have := congrArg (fun z : List Shape => z[0]?) hRd
            simp only [List.getElem?_drop, Nat.add_zero] at this
            simp only [List.getD_eq_getElem?_getD, this]
          have hr := shapesR_at (ls := R) (i := k + j) (by omega)
          have hr2 : (shapesR R)[k + ((j : Int) - 1).toNat]? = some [.sl (cells (R.getD (k + j - 1) []))] := by rw [show k + ((j : Int) - 1).toNat = k + j - 1 by omega]; exact shapesR_at (by omega)
          have hr3 := shapesR_at (ls := R) (i := kk) (by omega)
          rw [hRx] at hr
          rw [hRy] at hr2
          have hw1 : IntKind.i64.wrap ((j : Int) - 1) = (j : Int) - 1 := wr64 (by omega) (by omega)
          have hwk : IntKind.i64.wrap ((kk : Int) + 1) = (kk : Int) + 1 := wr64 (by omega) (by omega)
          have h01 : 0 ≤ (j : Int) - 1 := by omega
          have hlt2 : ((j : Int) - 1).toNat < ls.length - k := by omega
          have hlt3 : j < ls.length - k := by omega
          have hlt4 : kk < ls.length := by omega
          have hx := hmem.out (k + j) (by omega)
          have hy := hmem.out (k + j - 1) (by omega)
          rw [dropS_at (l := ls) (i := k + j) (by omega), cptA] at hRt
          have hRd2 : R.drop (k + j) = ls.drop (k + j) := by
            have := congrArg (fun z : List Shape => z.drop 1) hRd
            simp only [List.drop_drop] at this
            rw [show k + j - 1 + 1 = k + j by omega] at this
            exact this
          have hset : ∀ z, (shapesR R).set kk [PV.sl (cells z)] = shapesR (R.set kk z) := fun z => (shapesR_set R kk z).symm
          replace hRt := Hid.mk hRt
          replace hRd := Hid.mk hRd2
          clear hRx hRy hRd2
          generalize hxe : ls.getD (k + j) [] = x at hr hx hRt
          generalize ls.getD (k + j - 1) [] = y at hr2 hy hRt
          replace hxe := Hid.mk hxe
          refine AL ?_
          refine CQ (equalShapes_fn G x y hx hy) ?_
          by_cases ceq : x = y
          · have hd : decide (x = y) = true := by simp [ceq]
            have hRt2 := hRt.out
            rw [if_pos ceq] at hRt2
            replace ceq := Hid.mk ceq
            replace hRt2 := Hid.mk hRt2
            have bt : (!true) = false := rfl
            refine AL ?_
            refine ⟨d2 - 1, by omega, j + 1, kk, R, by omega, by omega, by omega, hRl, by rw [show k + (j + 1) - 1 = k + j by omega]; exact hRd.out, by rw [show k + (j + 1) - 1 = k + j by omega, hxe.out]; exact hRt2.out, by omega, by omega, hfr.out, by simp [setF_if, *], by simp [setF_if, *], by simp [setF_if, *], by simp [setF_if, *], by simp [setF_if, *], by simp [*]⟩
          · have hd : decide (x = y) = false := by simp [ceq]
            have hRt2 := hRt.out
            rw [if_neg ceq] at hRt2
            replace ceq := Hid.mk ceq
            replace hRt2 := Hid.mk hRt2
            have bt : (!false) = true := rfl
            refine AL ?_
            refine ⟨d2 - 1, by omega, j + 1, kk + 1, R.set kk x, by omega, by omega, by omega, by rw [List.length_set]; exact hRl, ?_, ?_, by omega, by omega, fun k hk hko => by rw [upd_if, if_neg hko]; exact hfr.out k hk hko, by simp [setF_if, *], by simp [setF_if, *], by simp [setF_if, *], by simp [setF_if, *], by simp [setF_if, *], by simp [upd_if, *]⟩
            · rw [show k + (j + 1) - 1 = k + j by omega, List.drop_set_of_lt (by omega)]; exact hRd.out
            · rw [show k + (j + 1) - 1 = k + j by omega, hxe.out, List.take_succ_eq_append_getElem (by rw [List.length_set]; omega), List.take_set_of_le (Nat.le_refl _), List.getElem_set_self]
              have := hRt2.out
              simpa [Nat.add_assoc] using this
        · have ej : k + j = ls.length := by omega
          have hRt2 : R.take kk = compactS ls := by
            rw [ej, List.drop_length, cptA, List.append_nil] at hRt
            exact hRt
          replace hRt2 := Hid.mk hRt2
          clear hRt hRd hmem
          have hkl : (kk ≤ ls.length) = True := by simp; omega
          have hsum : (kk + (ls.length - kk) = ls.length) = True := by simp; omega
          have hfin : (((List.take kk (shapesR R) ++ List.replicate (ls.length - kk) [PV.sl []]).drop 0).take kk) = shapesR (compactS ls) := by
            rw [List.drop_zero, List.take_append_of_le_length (by rw [List.length_take, hRlen]; omega), List.take_take, Nat.min_self, ← shapesR_take, hRt2.out]
          replace hfin := Hid.mk hfin
          refine AX ?_
          have hcl : (List.take kk (shapesR R) ++ List.replicate (ls.length - kk) [PV.sl []]).length = ls.length := by simp; omega
          refine OP ?_
          refine OP ?_
          refine WR.trim 4 (o := o) (e := e) (lo := 0) (m := kk) (ty := 32) (sz := 1) (rows := List.take kk (shapesR R) ++ List.replicate (ls.length - kk) [PV.sl []]) (t := 1) (by simp [setF_if]) (by simp [upd_if]) (by omega) ?_
          refine AL ?_
          refine ⟨by omega, fun k hk hko => by rw [upd_if, if_neg hko, upd_if, if_neg hko]; exact hfr.out k hk hko, e + 1, by simp [retA, setF_if], ?_⟩
          rw [upd_if, if_pos rfl, hfin.out]
      · have hd : decide (x = y) = false := by simp [ceq]
        replace hnx := Hid.mk (hnx.out ceq)
        clear ceq
        refine AL ?_
        refine ⟨ls.length - (k + 1), by omega, k + 1, by omega, ?_⟩
        exact ⟨by omega, by omega, hfr.out, by simp [setF_if, *], by simp [setF_if, *], by simp [setF_if, *], by simp [*], hnx.out⟩
    · have e' : k = ls.length := by omega
      have hpre := compact_prefix (ls := ls) (k := k) hk1 (by omega) hall.out
      subst e'
      rw [List.drop_length, cptA, List.append_nil, List.take_length] at hpre
      refine AL ?_
      exact ⟨by omega, hfr.out, e, by simp [retA, setF_if, h0], by rw [hpre]; exact hH⟩
theorem tidyShapes_own (G : Gv) (hG : ∀ f args H n r H' n', sortsG1 f args H n r H' n' → G f args H n r H' n') (ls : List Shape) (H0 : Heap) (n0 o e : Nat) (ho : o < n0) (hH : H0 o = some (.arr e 32 1 (shapesR ls) 1)) (h1 : 0 < ls.length) (hls : ls.length < 1000000) (hl : ∀ l ∈ ls, l.length < 1000000000) :
    WC Tryz.prog G 205 [.own o e] H0 n0 (fun r H' n' => n0 ≤ n' ∧ (∀ k, k < n0 → k ≠ o → H' k = H0 k) ∧ ∃ e', r = .own o e' ∧ H' o = some (.arr e' 32 1 (shapesR (tidyM ls)) 1)) := by
  refine (.body Tryz.func205 rfl (by simp [Tryz.ntmps205]) ?_)
  rw [Tryz.ntmps205, Tryz.results205]
  replace hG := Hid.mk hG
  replace hl := Hid.mk hl
  refine AL ?_
  refine CI ?_
  refine WC_given (hG.out _ _ _ _ (.tup []) (H0.upd o (.arr e 32 1 (shapesR (orderS ls)) 1)) _ ⟨rfl, rfl, rfl, 235, o, e, 32, shapesR ls, 1, shapesR (orderS ls), goodS, cfS, rfl, hH, rfl, fun h0 => ?_, ?_, by decide, ?_, cmpShapes_ok, enters_cmpShapes, fun rows2 => shapes_unique⟩) ?_
  · have := shapesR_len ls; rw [h0] at this; simp at this; omega
  · rw [shapesR_len]; omega
  · intro r hr
    obtain ⟨p, hp, rfl⟩ := List.mem_map.mp hr
    exact ⟨p, rfl, hl.out p hp⟩
  refine AL ?_
  refine CI ?_
  have hp := orderS_perm ls
  refine (compactFunc_own G (orderS ls) _ _ o e (by omega) (Heap.upd_same _ _ _) (by rw [hp.length_eq]; exact h1) (by rw [hp.length_eq]; exact hls) (fun l hl' => hl.out l (hp.mem_iff.mp hl'))).mono ?_
  clear hp
  rintro r H2 n2 ⟨q1, q2, e', rfl, q3⟩
  replace q2 := Hid.mk q2
  refine AL ?_
  exact ⟨by omega, fun k hk hko => by rw [q2.out k (by omega) hko, Heap.upd_ne _ _ hko], e', by simp [retA, setF_if], q3⟩
theorem forms_own (G : Gv) (hG : ∀ f args H n r H' n', sortsG f args H n r H' n' → G f args H n r H' n') (l : Shape) (t : Nat) (H0 : Heap) (n0 : Nat) (h1 : 0 < l.length) (hl : l.length < 1000000000) (ht : t < 1000000) :
    WC Tryz.prog G 189 [.sl 0 (cells l), .i .i64 t] H0 n0 (fun r H' n' => n0 ≤ n' ∧ (∀ k, k < n0 → H' k = H0 k) ∧ ∃ o e, n0 ≤ o ∧ o < n' ∧ r = .own o e ∧ H' o = some (.arr e 32 1 (shapesR (formsL l t)) 1)) := by
  refine (.body Tryz.func189 rfl (by simp [Tryz.ntmps189]) ?_)
  rw [Tryz.ntmps189, Tryz.results189]
  replace hG := Hid.mk hG
  obtain ⟨m, hm⟩ : ∃ m, m = n0 + 1 := ⟨_, rfl⟩
  refine AL ?_
  refine .loop (.inv (fun d E H n' => ∃ (i : Nat), i + d = t ∧ m < n' ∧ (∀ k, k < n0 → H k = H0 k) ∧ E 0 = .sl 0 (cells l) ∧ E 8 = .i .i64 t ∧ E 9 = .i .i64 i ∧ ∃ e, E 5 = .own m e ∧ H m = some (.arr e 32 1 (shapesR (formsL l i)) 1)) t ?_ ?_)
  · subst hm
    exact ⟨0, by omega, by omega, fun k hk => by rw [upd_if, if_neg (by omega)], by simp [setF_if, argE], by simp [setF_if, argE], by simp [setF_if, argE], 0, by simp [setF_if, argE], by simp [upd_if, formsL, shapesR]⟩
  rintro d E H n' ⟨i, hi, hmn, hfr, h0, h8, h9, e, h5, hH⟩
  replace hfr := Hid.mk hfr
  replace hm := Hid.mk hm
  by_cases c : (i : Int) < t
  · have hw_i : IntKind.i64.wrap ((i : Int) + 1) = (i : Int) + 1 := wr64 (by omega) (by omega)
    have hrl : (shapesR (formsL l i)).length = i := by simp [shapesR, formsL]
    have hb : (i + 1) * 24 ≤ 140737488355328 := by omega
    have htk : shapesR (formsL l i) ++ [[.sl (cells (formM l i))]] = shapesR (formsL l (i + 1)) := by simp [shapesR, formsL, List.range_succ]
    refine AL ?_
    refine CV (form_fn G hG.out l i h1 hl) ?_
    refine AL ?_
    have hm' := hm.out
    refine ⟨t - (i + 1), by omega, i + 1, by omega, by omega, fun k hk => ?_, by simp [setF_if, *], by simp [setF_if, *], by simp [setF_if, *], e + 1, by simp [setF_if, *], ?_⟩
    · simp only [upd_if]
      rw [if_neg (by omega)]
      rw [if_neg (by omega)]
      exact hfr.out k hk
    simp only [upd_if, neAdd hmn, reduceIte, htk]
  · have e' : i = t := by omega
    subst e'
    refine AL ?_
    have hm' := hm.out
    exact ⟨by omega, hfr.out, m, e, by omega, by omega, by simp [retA, setF_if, *], hH⟩
end Go.Proofs
end
section
open Go Go.Big
namespace Go.Proofs
set_option maxHeartbeats 2000000
/-- A function value that asks one question of an element, and leaves old objects as they are. -/
def AsksPc (G : Gv) (f : FuncId) (caps : List AV) (H0 : Heap) (n0 tg : Nat) (p : PieceM → Bool) (ls : List PieceM) : Prop :=
  ∀ x ∈ ls, ∀ (H : Heap) (n : Nat), n0 ≤ n → (∀ k, k < n0 → H k = H0 k) → WC Tryz.prog G f ((pieceA tg x) :: caps) H n (fun r H' n' => r = .b (p x) ∧ n ≤ n' ∧ ∀ k, k < n0 → H' k = H0 k)
def findPc (p : PieceM → Bool) (ls : List PieceM) : Int := match (List.range ls.length).find? (fun i => p (ls.getD i ⟨[], 0, false⟩)) with
  | some i => i
  | none => -1
theorem indexFuncPc_fn (G : Gv) (f : FuncId) (caps : List AV) (H0 : Heap) (n0 tg : Nat) (p : PieceM → Bool) (ls : List PieceM) (hp : AsksPc G f caps H0 n0 tg p ls) (hff : (Tryz.prog.funcs[f]?).any (fun fn => fn.body.isSome && (fn.name != "runtime.NumGoroutine")) = true) (hls : ls.length < 1000000000)
    (H : Heap) (n : Nat) (hn : n0 ≤ n) (hH : ∀ k, k < n0 → H k = H0 k) :
    WC Tryz.prog G 142 [.sl tg (pieces ls), .fn f caps] H n (fun r H' n' => r = .i .i64 (findPc p ls) ∧ n ≤ n' ∧ ∀ k, k < n0 → H' k = H0 k) := by
  refine (.body Tryz.func142 rfl (by simp [Tryz.ntmps142]) ?_)
  rw [Tryz.ntmps142, Tryz.results142]
  have hlen := pieces_len ls
  replace hH := Hid.mk hH
  replace hp := Hid.mk hp
  refine AL ?_
  refine .loop (.inv (fun d E H n' => ∃ i : Nat, i + d = ls.length ∧ n ≤ n' ∧ E 0 = .sl tg (pieces ls) ∧ E 1 = .fn f caps ∧ E 7 = .i .i64 ls.length ∧ E 8 = .i .i64 i ∧ (∀ k, k < n0 → H k = H0 k) ∧ (∀ j, j < i → p (ls.getD j ⟨[], 0, false⟩) = false)) ls.length ?_ ?_)
  · exact ⟨0, by omega, by omega, by simp [setF_if, argE], by simp [setF_if, argE], by simp [setF_if, argE, hlen], by simp [setF_if, argE], hH.out, fun j hj => by omega⟩
  clear hH
  rintro d E H n' ⟨i, hi, hnn, h0, h1, h7, h8, hH, hall⟩
  replace hH := Hid.mk hH
  replace hall := Hid.mk hall
  by_cases c : (i : Int) < ls.length
  · have hw_i : IntKind.i64.wrap ((i : Int) + 1) = (i : Int) + 1 := wr64 (by omega) (by omega)
    have hr : (pieces ls)[i]? = some (pieceR (ls.getD i ⟨[], 0, false⟩)) := by simp [pieces, List.getD_eq_getElem?_getD, show i < ls.length by omega]
    have hmem : ls.getD i ⟨[], 0, false⟩ ∈ ls := by rw [List.getD_eq_getElem?_getD, List.getElem?_eq_getElem (by omega)]; exact List.getElem_mem _
    have hyes : p (ls.getD i ⟨[], 0, false⟩) = true → findPc p ls = i := fun h => by
      unfold findPc; rw [find_yes (p := fun i => p (ls.getD i ⟨[], 0, false⟩)) (i := i) (by omega) h (fun j hj => hall.out j hj)]
    have hmore : p (ls.getD i ⟨[], 0, false⟩) = false → ∀ j, j < i + 1 → p (ls.getD j ⟨[], 0, false⟩) = false := fun h j hj => by
      by_cases q : j = i
      · rw [q]; exact h
      · exact hall.out j (by omega)
    replace hyes := Hid.mk hyes
    replace hmore := Hid.mk hmore
    replace hmem := Hid.mk hmem
    generalize ls.getD i ⟨[], 0, false⟩ = x at hr hmem hyes hmore
    refine AL ?_
    refine CI (hf := hff) ?_
    refine (hp.out x hmem.out _ _ (by omega) hH.out).mono ?_
    rintro r H2 n2 ⟨rfl, hn2, hH2⟩
    replace hH2 := Hid.mk hH2
    cases cq : p x with
    | true =>
      refine AL ?_
      exact ⟨by simp [retA, setF_if, hyes.out cq], by omega, hH2.out⟩
    | false =>
      refine AL ?_
      exact ⟨ls.length - (i + 1), by omega, i + 1, by omega, by omega, by simp [setF_if, *], by simp [setF_if, *], by simp [setF_if, *], by simp [setF_if, *], hH2.out, hmore.out cq⟩
  · refine AL ?_
    have : findPc p ls = -1 := by
      unfold findPc; rw [find_no (p := fun i => p (ls.getD i ⟨[], 0, false⟩)) (fun j hj => hall.out j (by omega))]
    exact ⟨by simp [retA, setF_if, this], by omega, hH.out⟩
theorem findPc_any (p : PieceM → Bool) (ls : List PieceM) : decide (findPc p ls ≥ 0) = ls.any p := by
  unfold findPc
  cases h : (List.range ls.length).find? (fun i => p (ls.getD i ⟨[], 0, false⟩)) with
  | none =>
    rw [List.find?_range_eq_none] at h
    have : ls.any p = false := by
      rw [List.any_eq_false]
      intro x hx
      obtain ⟨i, hi, e⟩ := List.mem_iff_getElem.mp hx
      have := h i hi
      rw [← e]
      simpa [List.getD_eq_getElem?_getD, hi] using this
    rw [this]; rfl
  | some i =>
    have h1 := List.find?_some h
    have h2 := List.mem_range.mp (List.mem_of_find?_eq_some h)
    simp only [decide_eq_true_eq] at *
    have h3 : ls.any p = true := List.any_eq_true.mpr ⟨ls[i], List.getElem_mem _, by simpa [List.getD_eq_getElem?_getD, h2] using h1⟩
    rw [h3]; simp
theorem containsFuncPc_fn (G : Gv) (f : FuncId) (caps : List AV) (H0 : Heap) (n0 tg : Nat) (p : PieceM → Bool) (ls : List PieceM) (hp : AsksPc G f caps H0 n0 tg p ls) (hff : (Tryz.prog.funcs[f]?).any (fun fn => fn.body.isSome && (fn.name != "runtime.NumGoroutine")) = true) (hls : ls.length < 1000000000)
    (H : Heap) (n : Nat) (hn : n0 ≤ n) (hH : ∀ k, k < n0 → H k = H0 k) :
    WC Tryz.prog G 75 [.sl tg (pieces ls), .fn f caps] H n (fun r H' n' => r = .b (ls.any p) ∧ n ≤ n' ∧ ∀ k, k < n0 → H' k = H0 k) := by
  refine (.body Tryz.func75 rfl (by simp [Tryz.ntmps75]) ?_)
  rw [Tryz.ntmps75, Tryz.results75]
  replace hH := Hid.mk hH
  replace hp := Hid.mk hp
  refine AL ?_
  refine CI ?_
  refine (indexFuncPc_fn G f caps H0 n0 tg p ls hp.out hff hls _ _ (by omega) hH.out).mono ?_
  rintro r H2 n2 ⟨rfl, hn2, hH2⟩
  replace hH2 := Hid.mk hH2
  have ha := findPc_any p ls
  refine AL ?_
  exact ⟨by simp [retA, setF_if, ha], by omega, hH2.out⟩
end Go.Proofs
end
section
open Go Go.Big
namespace Go.Proofs
set_option maxHeartbeats 2000000
theorem indexFuncPv_fn (G : Gv) (f : FuncId) (p : PieceM → Bool) (ls : List PieceM) (hp : ∀ x ∈ ls, Gives Tryz.prog G f [pieceA 0 x] (.b (p x))) (hff : (Tryz.prog.funcs[f]?).any (fun fn => fn.body.isSome && (fn.name != "runtime.NumGoroutine")) = true) (hls : ls.length < 1000000000) :
    Gives Tryz.prog G 142 [.sl 0 (pieces ls), .fn f []] (.i .i64 (findPc p ls)) := by
  refine .of (.body Tryz.func142 rfl (by simp [Tryz.ntmps142]) ?_)
  rw [Tryz.ntmps142, Tryz.results142]
  have hlen := pieces_len ls
  replace hp := Hid.mk hp
  refine AL ?_
  refine .loop (.inv (fun d E H n' => ∃ i : Nat, i + d = ls.length ∧ E 0 = .sl 0 (pieces ls) ∧ E 1 = .fn f [] ∧ E 7 = .i .i64 ls.length ∧ E 8 = .i .i64 i ∧ (∀ j, j < i → p (ls.getD j ⟨[], 0, false⟩) = false)) ls.length ?_ ?_)
  · exact ⟨0, by omega, by simp [setF_if, argE], by simp [setF_if, argE], by simp [setF_if, argE, hlen], by simp [setF_if, argE], fun j hj => by omega⟩
  rintro d E H n' ⟨i, hi, h0, h1, h7, h8, hall⟩
  replace hall := Hid.mk hall
  by_cases c : (i : Int) < ls.length
  · have hw_i : IntKind.i64.wrap ((i : Int) + 1) = (i : Int) + 1 := wr64 (by omega) (by omega)
    have hr : (pieces ls)[i]? = some (pieceR (ls.getD i ⟨[], 0, false⟩)) := by simp [pieces, List.getD_eq_getElem?_getD, show i < ls.length by omega]
    have hmem : ls.getD i ⟨[], 0, false⟩ ∈ ls := by rw [List.getD_eq_getElem?_getD, List.getElem?_eq_getElem (by omega)]; exact List.getElem_mem _
    have hyes : p (ls.getD i ⟨[], 0, false⟩) = true → findPc p ls = i := fun h => by
      unfold findPc; rw [find_yes (p := fun i => p (ls.getD i ⟨[], 0, false⟩)) (i := i) (by omega) h (fun j hj => hall.out j hj)]
    have hmore : p (ls.getD i ⟨[], 0, false⟩) = false → ∀ j, j < i + 1 → p (ls.getD j ⟨[], 0, false⟩) = false := fun h j hj => by
      by_cases q : j = i
      · rw [q]; exact h
      · exact hall.out j (by omega)
    replace hyes := Hid.mk hyes
    replace hmore := Hid.mk hmore
    replace hmem := Hid.mk hmem
    generalize ls.getD i ⟨[], 0, false⟩ = x at hr hmem hyes hmore
    refine AL ?_
    refine CV (hf := hff) (hp.out x hmem.out) ?_
    cases cq : p x with
    | true =>
      refine AL ?_
      simp [retA, backA, setF_if, hyes.out cq]
    | false =>
      refine AL ?_
      exact ⟨ls.length - (i + 1), by omega, i + 1, by omega, by simp [setF_if, *], by simp [setF_if, *], by simp [setF_if, *], by simp [setF_if, *], hmore.out cq⟩
  · refine AL ?_
    have : findPc p ls = -1 := by
      unfold findPc; rw [find_no (p := fun i => p (ls.getD i ⟨[], 0, false⟩)) (fun j hj => hall.out j (by omega))]
    simp [retA, backA, setF_if, this]
theorem containsFuncPv_fn (G : Gv) (f : FuncId) (p : PieceM → Bool) (ls : List PieceM) (hp : ∀ x ∈ ls, Gives Tryz.prog G f [pieceA 0 x] (.b (p x))) (hff : (Tryz.prog.funcs[f]?).any (fun fn => fn.body.isSome && (fn.name != "runtime.NumGoroutine")) = true) (hls : ls.length < 1000000000) :
    Gives Tryz.prog G 75 [.sl 0 (pieces ls), .fn f []] (.b (ls.any p)) := by
  refine .of (.body Tryz.func75 rfl (by simp [Tryz.ntmps75]) ?_)
  rw [Tryz.ntmps75, Tryz.results75]
  replace hp := Hid.mk hp
  refine AL ?_
  refine CV (indexFuncPv_fn G f p ls hp.out hff hls) ?_
  have ha := findPc_any p ls
  refine AL ?_
  simp [retA, backA, setF_if, ha]
end Go.Proofs
end
section
open Go Go.Big
namespace Go.Proofs
set_option maxHeartbeats 2000000
def handP (p : PieceM) : Bool := !p.b && decide ((tidyM (formsL p.cs 4)).length ≠ (tidyM (formsL p.cs 8)).length)
end Go.Proofs
end
section
open Go Go.Big
namespace Go.Proofs
set_option maxHeartbeats 2000000
def turnPM (puz : Bool) (pl : Int → List Int → Bool) (tn : List Int × Int) (j : Int) (t : List Int) : (Int × List Int) × Int :=
  if puz then (if pl j t then (if tn.2 = 0 then (if pl j (sortedB (turnX tn.1 t)) then ((j, sortedB (turnX tn.1 t)), 0) else ((0, []), 4)) else ((0, []), tn.2)) else ((0, []), 2)) else ((0, []), 1)
def turnPS (r : Shape) (l : List PieceM) (j : Int) (t : List Int) (k : Int) := turnPM (puzzleS r l) (placeS r l) (tnM (regionS r) r k) j t
def turnPI (r : Shape) (l : List PieceM) (j : Int) (t : List Int) (k : Int) := turnPM (puzzleI r l) (placeI r l) (tnM (regionM r) r k) j t
theorem numsM_facts {r : Shape} {t : Nat} {s : List Int} (h : numsM r t = some s) : s.length = r.length ∧ ∀ i ∈ s, 0 ≤ i ∧ i < r.length := by
  obtain ⟨_, _, h1, h2⟩ := setM_some h
  exact ⟨by rw [h1, normM_len, turnL_length], h2⟩
theorem tnM_facts {b : Bool} {r : Shape} {k : Int} (h : (tnM b r k).2 = 0) : (tnM b r k).1.length = r.length ∧ ∀ i ∈ (tnM b r k).1, 0 ≤ i ∧ i < r.length := by
  unfold tnM at *
  cases b with
  | false => simp at h
  | true =>
    simp only [if_true] at *
    cases c : tnM.inT k with
    | false => rw [c] at h; simp at h
    | true =>
      rw [c] at h
      simp only [if_true] at *
      cases q : numsM r k.toNat with
      | none => rw [q] at h; simp at h
      | some s => exact numsM_facts q
theorem place_cells {r : Shape} {l : List PieceM} {j : Int} {t : List Int} (h : placeS r l j t = true) : 0 < t.length ∧ ∀ i ∈ t, 0 ≤ i ∧ i < r.length := by
  unfold placeS at h
  simp only [Bool.and_eq_true, decide_eq_true_eq] at h
  obtain ⟨⟨⟨_, h2⟩, h3⟩, _⟩ := h
  exact ⟨by omega, fun i hi => by have := inc_mem h3 i hi; omega⟩
theorem placeI_cells {r : Shape} {l : List PieceM} {j : Int} {t : List Int} (h : placeI r l j t = true) : 0 < t.length ∧ ∀ i ∈ t, 0 ≤ i ∧ i < r.length := by
  unfold placeI at h
  simp only [Bool.and_eq_true, decide_eq_true_eq] at h
  obtain ⟨⟨⟨_, h2⟩, h3⟩, _⟩ := h
  exact ⟨by omega, fun i hi => by have := inc_mem h3 i hi; omega⟩
end Go.Proofs
end
section
open Go Go.Big
namespace Go.Proofs
set_option maxHeartbeats 2000000
/-- A function value that asks one question of an element, and leaves all objects as they are. -/
def AskOIn (G : Gv) (f : FuncId) (caps : List AV) (H0 : Heap) (n0 o : Nat) (p : Int → Bool) (ls : List Int) : Prop :=
  ∀ x ∈ ls, ∀ (H : Heap) (n : Nat), n0 ≤ n → (∀ k, k < n0 → k ≠ o → H k = H0 k) → WC Tryz.prog G f ((.i .i64 x) :: caps) H n (fun r H' n' => r = .b (p x) ∧ n ≤ n' ∧ ∀ k, k < n → H' k = H k)
theorem indexFuncIn_own (G : Gv) (f : FuncId) (caps : List AV) (H0 : Heap) (n0 o e t : Nat) (T : TypeId) (p : Int → Bool) (ls : List Int) (hp : AskOIn G f caps H0 n0 o p ls) (hff : (Tryz.prog.funcs[f]?).any (fun fn => fn.body.isSome && (fn.name != "runtime.NumGoroutine")) = true) (hls : ls.length < 1000000000) (ho : o < n0) (hH0 : H0 o = some (.arr e T 1 (ints ls) t))
    (H : Heap) (n : Nat) (hn : n0 ≤ n) (hH : ∀ k, k < n0 → H k = H0 k) :
    WC Tryz.prog G 203 [.own o e, .fn f caps] H n (fun r H' n' => r = .i .i64 (findIn p ls) ∧ n ≤ n' ∧ ∀ k, k < n0 → H' k = H0 k) := by
  refine (.body Tryz.func203 rfl (by simp [Tryz.ntmps203]) ?_)
  rw [Tryz.ntmps203, Tryz.results203]
  have hlen := ints_len ls
  have hHo : H o = some (.arr e T 1 (ints ls) t) := (hH o ho).trans hH0
  replace hH := Hid.mk hH
  replace hp := Hid.mk hp
  refine AL ?_
  refine .loop (.inv (fun d E H n' => ∃ i : Nat, i + d = ls.length ∧ n ≤ n' ∧ E 0 = .own o e ∧ E 1 = .fn f caps ∧ E 7 = .i .i64 ls.length ∧ E 8 = .i .i64 i ∧ (∀ k, k < n0 → H k = H0 k) ∧ (∀ j, j < i → p (ls.getD j 0) = false)) ls.length ?_ ?_)
  · exact ⟨0, by omega, by omega, by simp [setF_if, argE], by simp [setF_if, argE], by simp [setF_if, argE, hlen], by simp [setF_if, argE], hH.out, fun j hj => by omega⟩
  clear hH hHo
  rintro d E H n' ⟨i, hi, hnn, h0, h1, h7, h8, hH, hall⟩
  have hHo : H o = some (.arr e T 1 (ints ls) t) := (hH o ho).trans hH0
  replace hH := Hid.mk hH
  replace hall := Hid.mk hall
  by_cases c : (i : Int) < ls.length
  · have hw_i : IntKind.i64.wrap ((i : Int) + 1) = (i : Int) + 1 := wr64 (by omega) (by omega)
    have cN : i < ls.length := by omega
    have hr := ints_row (l := ls) (i := i) (x := ls.getD i 0) (by simp [List.getD_eq_getElem?_getD, show i < ls.length by omega])
    have hmem : ls.getD i 0 ∈ ls := by rw [List.getD_eq_getElem?_getD, List.getElem?_eq_getElem (by omega)]; exact List.getElem_mem _
    have hyes : p (ls.getD i 0) = true → findIn p ls = i := fun h => by
      unfold findIn; rw [find_yes (p := fun i => p (ls.getD i 0)) (i := i) (by omega) h (fun j hj => hall.out j hj)]
    have hmore : p (ls.getD i 0) = false → ∀ j, j < i + 1 → p (ls.getD j 0) = false := fun h j hj => by
      by_cases q : j = i
      · rw [q]; exact h
      · exact hall.out j (by omega)
    replace hyes := Hid.mk hyes
    replace hmore := Hid.mk hmore
    replace hmem := Hid.mk hmem
    generalize ls.getD i 0 = x at hr hmem hyes hmore
    refine AL ?_
    refine CI (hf := hff) ?_
    refine (hp.out x hmem.out _ _ (by omega) (fun k hk _ => hH.out k hk)).mono ?_
    rintro r H2 n2 ⟨rfl, hn2, hH2⟩
    have hH3 : ∀ k, k < n0 → H2 k = H0 k := fun k hk => (hH2 k (by omega)).trans (hH.out k hk)
    clear hH2 hHo
    replace hH3 := Hid.mk hH3
    cases cq : p x with
    | true =>
      refine AL ?_
      exact ⟨by simp [retA, setF_if, hyes.out cq], by omega, hH3.out⟩
    | false =>
      refine AL ?_
      exact ⟨ls.length - (i + 1), by omega, i + 1, by omega, by omega, by simp [setF_if, *], by simp [setF_if, *], by simp [setF_if, *], by simp [setF_if, *], hH3.out, hmore.out cq⟩
  · refine AL ?_
    have : findIn p ls = -1 := by
      unfold findIn; rw [find_no (p := fun i => p (ls.getD i 0)) (fun j hj => hall.out j (by omega))]
    exact ⟨by simp [retA, setF_if, this], by omega, hH.out⟩
end Go.Proofs
end
section
open Go Go.Big
namespace Go.Proofs
set_option maxHeartbeats 2000000
structure AllK (G : Gv) : Prop extends AllH G where
  ok : GvOk Tryz.prog G
def symT (q : Nat → Bool) (n : Nat) : List Int := ((List.range n).filter q).map fun (t : Nat) => (t : Int)
theorem symT_succ (q : Nat → Bool) (n : Nat) : symT q (n + 1) = symT q n ++ (if q n then [(n : Int)] else []) := by
  unfold symT
  rw [List.range_succ, List.filter_append, List.map_append]
  cases h : q n <;> simp [h]
theorem symT_len (q : Nat → Bool) (n : Nat) : (symT q n).length ≤ n := by
  unfold symT
  rw [List.length_map]
  have := List.length_filter_le q (List.range n)
  rwa [List.length_range] at this
theorem symT_mem {q : Nat → Bool} {n : Nat} {x : Int} (h : x ∈ symT q n) : ∃ t : Nat, x = t ∧ t < n ∧ q t = true := by
  unfold symT at h
  obtain ⟨t, h1, rfl⟩ := List.mem_map.mp h
  rw [List.mem_filter, List.mem_range] at h1
  exact ⟨t, rfl, h1.1, h1.2⟩
def symQI (r : Shape) (t : Nat) : Bool := decide (formM r t = normM r)
def symQS (r : Shape) (t : Nat) : Bool := (numsM r t).isSome
def symsI (r : Shape) (l : List PieceM) : List Int := (symT (symQI r) 8).filter fun x => !(decide (x ≥ 4) && !(!l.any handP))
def handS (p : PieceM) : Bool := decide ((formsP p).length = (formsF p.cs 8).length)
def symsS (r : Shape) (l : List PieceM) : List Int := (symT (symQS r) 8).filter fun x => decide (x < 4) || l.all handS
def psymS (r : Shape) (l : List PieceM) : List Int × Int := if fitsS r l then (symsS r l, 0) else ([], 1)
def psymI (r : Shape) (l : List PieceM) : List Int × Int := if fitsI r l then (symsI r l, 0) else ([], 1)
theorem fits_eq (r : Shape) (l : List PieceM) : fitsI r l = fitsS r l := by unfold fitsI fitsS; rw [puzzle_eq]
theorem fits_puzzle {r : Shape} {l : List PieceM} (h : fitsS r l = true) : puzzleS r l = true := by
  unfold fitsS at h; rw [Bool.and_eq_true] at h; exact h.1
theorem fits_facts {r : Shape} {l : List PieceM} (h : fitsS r l = true) : 0 < r.length ∧ ∀ p ∈ l, 0 < p.cs.length ∧ p.cs.length < 1000000000 := by
  obtain ⟨g1, g2, g3, g4, g5, g6, g8⟩ := puzzle_facts (fits_puzzle h)
  exact ⟨g2, fun p hp => ⟨(g8 p hp).1, by have := (g8 p hp).2; omega⟩⟩
theorem all_take {q : PieceM → Bool} {l : List PieceM} {i : Nat} {p : PieceM} (h : l[i]? = some p) : (l.take (i + 1)).all q = ((l.take i).all q && q p) := by
  rw [List.take_add_one, h, List.all_append]; simp
end Go.Proofs
end
