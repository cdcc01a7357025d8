/- Walks: Neighbours that are equal are taken out. No condition. | Cells sorted by the library. No condition. | The program's forms. No condition. | The parts of cells, without memory. No condition. | The reference's parts. No condition. | Cells as keys of a map. No condition. -/
import Derived.Test.YtmglpcdalechfaaGreatBO
import Derived.Test.YtmglpcdalechfaaGreatWk2
import Derived.Test.YtmglpcdalechfaaGreatBigSort
import Derived.Test.YtmglpcdalechfaaGreatBC
import Derived.Test.YtmglpcdalechfaaGreatWk1
import Derived.Test.YtmglpcdalechfaaGreatBigSort1
import Derived.DeepKeys5
set_option linter.unusedVariables false
set_option linter.unusedSimpArgs false
section
open Go Go.Big
namespace Go.Proofs
set_option maxHeartbeats 2000000
abbrev Shape := List (Int × Int)
def cptA (x : Shape) : List Shape → List Shape
  | [] => []
  | y :: l => if y = x then cptA y l else y :: cptA y l
def compactS : List Shape → List Shape
  | [] => []
  | x :: l => x :: cptA x l
theorem compact_prefix {ls : List Shape} : ∀ {k : Nat}, 1 ≤ k → k ≤ ls.length → (∀ j, 1 ≤ j → j < k → ls.getD j [] ≠ ls.getD (j - 1) []) → compactS ls = ls.take k ++ cptA (ls.getD (k - 1) []) (ls.drop k)
  | 0, h, _, _ => by omega
  | 1, _, hk, _ => by
    cases ls with
    | nil => simp at hk
    | cons x l => simp [compactS]
  | k + 2, _, hk, hall => by
    have ih := compact_prefix (ls := ls) (k := k + 1) (by omega) (by omega) (fun j h1 h2 => hall j h1 (by omega))
    rw [ih, dropS_at (l := ls) (i := k + 1) (by omega), cptA]
    have hne := hall (k + 1) (by omega) (by omega)
    rw [show k + 1 - 1 = k by omega] at hne ⊢
    have ht : ls.take (k + 2) = ls.take (k + 1) ++ [ls[k + 1]] := List.take_succ_eq_append_getElem (show k + 1 < ls.length by omega)
    rw [if_neg hne]
    show _ = List.take (k + 2) ls ++ cptA (ls.getD (k + 1) []) (List.drop (k + 2) ls)
    rw [ht, List.append_assoc]
    simp only [List.getD_eq_getElem?_getD, List.getElem?_eq_getElem (show k + 1 < ls.length by omega), Option.getD_some, List.singleton_append]
theorem shapesR_set (l : List Shape) (k : Nat) (v : Shape) : shapesR (l.set k v) = (shapesR l).set k [.sl (cells v)] := by simp [shapesR, List.map_set]
theorem shapesR_take (l : List Shape) (k : Nat) : shapesR (l.take k) = (shapesR l).take k := by simp [shapesR, List.map_take]
theorem shapesR_drop (l : List Shape) (k : Nat) : shapesR (l.drop k) = (shapesR l).drop k := by simp [shapesR, List.map_drop]
theorem compactFunc_fn (G : Gv) (ls : List Shape) (H : Heap) (n o e : Nat) (ho : o < n) (hH : H o = some (.arr e 32 1 (shapesR ls) 1)) (hls : ls.length < 1000000) (hl : ∀ l ∈ ls, l.length < 1000000000) :
    WC Tryz.prog G 261 [.own o e, .fn 262 []] H n (fun r H' n' => backA H' r = some (.sl 1 (shapesR (compactS ls)))) := by
  refine (.body Tryz.func261 rfl (by simp [Tryz.ntmps261]) ?_)
  rw [Tryz.ntmps261, Tryz.results261]
  have hlen := shapesR_len ls
  replace hl := Hid.mk hl
  by_cases c2 : (ls.length : Int) < 2
  · refine AL ?_
    have : compactS ls = ls := by
      match ls, c2 with
      | [], _ => rfl
      | [x], _ => rfl
      | _ :: _ :: _, h => simp at h; omega
    simp [retA, backA, newSl, newB, setF_if, this, hH]
  · refine AL ?_
    refine .loop (.inv (fun d E H n' => ∃ k : Nat, k + d = ls.length ∧ 1 ≤ k ∧ o < n' ∧ E 0 = .own o e ∧ E 1 = .fn 262 [] ∧ E 5 = .i .i64 k ∧ H o = some (.arr e 32 1 (shapesR ls) 1) ∧ (∀ j, 1 ≤ j → j < k → ls.getD j [] ≠ ls.getD (j - 1) [])) (ls.length - 1) ?_ ?_)
    · exact ⟨1, by omega, by omega, by omega, by simp [setF_if, argE], by simp [setF_if, argE], by simp [setF_if, argE], hH, fun j h1 h2 => by omega⟩
    clear hH ho c2
    rintro d E H n' ⟨k, hk, hk1, hon, h0, h1, h5, hH, hall⟩
    replace hall := Hid.mk hall
    by_cases c : (k : Int) < ls.length
    · have hw_k : IntKind.i64.wrap ((k : Int) + 1) = (k : Int) + 1 := wr64 (by omega) (by omega)
      have cN : k < ls.length := by omega
      have hr := shapesR_at (ls := ls) (i := k) cN
      have hr2 : (shapesR ls)[((k : Int) - 1).toNat]? = some [.sl (cells (ls.getD (k - 1) []))] := by rw [show ((k : Int) - 1).toNat = k - 1 by omega]; exact shapesR_at (by omega)
      have hw1 : IntKind.i64.wrap ((k : Int) - 1) = (k : Int) - 1 := wr64 (by omega) (by omega)
      have h01 : 0 ≤ (k : Int) - 1 := by omega
      have hlt2 : ((k : Int) - 1).toNat < ls.length := by omega
      have hmem : ∀ i, i < ls.length → (ls.getD i []).length < 1000000000 := fun i hi => hl.out _ (by rw [List.getD_eq_getElem?_getD, List.getElem?_eq_getElem hi]; exact List.getElem_mem _)
      have hx := hmem k cN
      have hy := hmem (k - 1) (by omega)
      have hpre := compact_prefix (ls := ls) (k := k) hk1 (by omega) hall.out
      rw [dropS_at cN, cptA] at hpre
      have hnx : ls.getD k [] ≠ ls.getD (k - 1) [] → ∀ j, 1 ≤ j → j < k + 1 → ls.getD j [] ≠ ls.getD (j - 1) [] := fun h j h1 h2 => by
        by_cases q : j = k
        · rw [q]; exact h
        · exact hall.out j h1 (by omega)
      replace hnx := Hid.mk hnx
      replace hpre := Hid.mk hpre
      replace hmem := Hid.mk hmem
      generalize hxe : ls.getD k [] = x at hr hx hpre hnx
      generalize ls.getD (k - 1) [] = y at hr2 hy hpre hnx
      replace hxe := Hid.mk hxe
      refine AL ?_
      refine CQ (equalShapes_fn G x y hx hy) ?_
      by_cases ceq : x = y
      · have hd : decide (x = y) = true := by simp [ceq]
        have hpre2 := hpre.out
        rw [if_pos ceq] at hpre2
        replace hpre2 := Hid.mk hpre2
        replace ceq := Hid.mk ceq
        clear hpre hnx hr hr2
        have hkn : (k ≤ ls.length) = True := by simp; omega
        refine AL ?_
        refine .loop (.inv (fun d2 E H n' => ∃ (j kk : Nat) (R : List Shape), k + j + d2 = ls.length ∧ 1 ≤ j ∧ kk ≤ k + j - 1 ∧ R.length = ls.length ∧ R.drop (k + j - 1) = ls.drop (k + j - 1) ∧ R.take kk ++ cptA (ls.getD (k + j - 1) []) (ls.drop (k + j)) = compactS ls ∧ o < n' ∧ E 0 = .own o e ∧ E 1 = .fn 262 [] ∧ E 5 = .i .i64 kk ∧ E 6 = .vw o e k (ls.length - k) ∧ E 7 = .i .i64 j ∧ H o = some (.arr e 32 1 (shapesR R) 1)) (ls.length - k - 1) ?_ ?_)
        · exact ⟨1, k, ls, by omega, by omega, by omega, rfl, rfl, by rw [show k + 1 - 1 = k by omega, hxe.out]; exact hpre2.out.symm, by omega, by simp [setF_if, *], by simp [setF_if, *], by simp [setF_if, *], by simp [setF_if, *], by simp [setF_if, *], by simp [*]⟩
        clear hH h0 h1 h5 hon hpre2 hxe hw_k hw1 h01 hlt2 hx hy hall
        rintro d2 E H n' ⟨j, kk, R, hj, hj1, hkk, hRl, hRd, hRt, hon, h0, h1, h5, h6, h7, hH⟩
        have hRlen := shapesR_len R
        have htl : ((shapesR R).drop k |>.take (ls.length - k)).length = ls.length - k := by rw [List.length_take, List.length_drop, hRlen, hRl]; omega
        by_cases cj : (j : Int) < ((ls.length - k : Nat) : Int)
        · have hw_j : IntKind.i64.wrap ((j : Int) + 1) = (j : Int) + 1 := wr64 (by omega) (by omega)
          have hRx : R.getD (k + j) [] = ls.getD (k + j) [] := by
            have := congrArg (fun z : List Shape => z[1]?) hRd
            simp only [List.getElem?_drop] at this
            rw [show k + j - 1 + 1 = k + j by omega] at this
            simp only [List.getD_eq_getElem?_getD, this]
          have hRy : R.getD (k + j - 1) [] = ls.getD (k + j - 1) [] := by
            have := congrArg (fun z : List Shape => z[0]?) hRd
            simp only [List.getElem?_drop, Nat.add_zero] at this
            simp only [List.getD_eq_getElem?_getD, this]
          have hr := shapesR_at (ls := R) (i := k + j) (by omega)
          have hr2 : (shapesR R)[k + ((j : Int) - 1).toNat]? = some [.sl (cells (R.getD (k + j - 1) []))] := by rw [show k + ((j : Int) - 1).toNat = k + j - 1 by omega]; exact shapesR_at (by omega)
          have hr3 := shapesR_at (ls := R) (i := kk) (by omega)
          rw [hRx] at hr
          rw [hRy] at hr2
          have hw1 : IntKind.i64.wrap ((j : Int) - 1) = (j : Int) - 1 := wr64 (by omega) (by omega)
          have hwk : IntKind.i64.wrap ((kk : Int) + 1) = (kk : Int) + 1 := wr64 (by omega) (by omega)
          have h01 : 0 ≤ (j : Int) - 1 := by omega
          have hlt2 : ((j : Int) - 1).toNat < ls.length - k := by omega
          have hlt3 : j < ls.length - k := by omega
          have hlt4 : kk < ls.length := by omega
          have hx := hmem.out (k + j) (by omega)
          have hy := hmem.out (k + j - 1) (by omega)
          rw [dropS_at (l := ls) (i := k + j) (by omega), cptA] at hRt
          have hRd2 : R.drop (k + j) = ls.drop (k + j) := by
            have := congrArg (fun z : List Shape => z.drop 1) hRd
            simp only [List.drop_drop] at this
            rw [show k + j - 1 + 1 = k + j by omega] at this
            exact this
          have hset : ∀ z, (shapesR R).set kk [PV.sl (cells z)] = shapesR (R.set kk z) := fun z => (shapesR_set R kk z).symm
          replace hRt := Hid.mk hRt
          replace hRd := Hid.mk hRd2
          clear hRx hRy hRd2
          generalize hxe : ls.getD (k + j) [] = x at hr hx hRt
          generalize ls.getD (k + j - 1) [] = y at hr2 hy hRt
          replace hxe := Hid.mk hxe
          refine AL ?_
          refine CQ (equalShapes_fn G x y hx hy) ?_
          by_cases ceq : x = y
          · have hd : decide (x = y) = true := by simp [ceq]
            have hRt2 := hRt.out
            rw [if_pos ceq] at hRt2
            replace ceq := Hid.mk ceq
            replace hRt2 := Hid.mk hRt2
            have bt : (!true) = false := rfl
            refine AL ?_
            refine ⟨d2 - 1, by omega, j + 1, kk, R, by omega, by omega, by omega, hRl, by rw [show k + (j + 1) - 1 = k + j by omega]; exact hRd.out, by rw [show k + (j + 1) - 1 = k + j by omega, hxe.out]; exact hRt2.out, by omega, by simp [setF_if, *], by simp [setF_if, *], by simp [setF_if, *], by simp [setF_if, *], by simp [setF_if, *], by simp [*]⟩
          · have hd : decide (x = y) = false := by simp [ceq]
            have hRt2 := hRt.out
            rw [if_neg ceq] at hRt2
            replace ceq := Hid.mk ceq
            replace hRt2 := Hid.mk hRt2
            have bt : (!false) = true := rfl
            refine AL ?_
            refine ⟨d2 - 1, by omega, j + 1, kk + 1, R.set kk x, by omega, by omega, by omega, by rw [List.length_set]; exact hRl, ?_, ?_, by omega, by simp [setF_if, *], by simp [setF_if, *], by simp [setF_if, *], by simp [setF_if, *], by simp [setF_if, *], by simp [upd_if, *]⟩
            · rw [show k + (j + 1) - 1 = k + j by omega, List.drop_set_of_lt (by omega)]; exact hRd.out
            · rw [show k + (j + 1) - 1 = k + j by omega, hxe.out, List.take_succ_eq_append_getElem (by rw [List.length_set]; omega), List.take_set_of_le (Nat.le_refl _), List.getElem_set_self]
              have := hRt2.out
              simpa [Nat.add_assoc] using this
        · have ej : k + j = ls.length := by omega
          have hRt2 : R.take kk = compactS ls := by
            rw [ej, List.drop_length, cptA, List.append_nil] at hRt
            exact hRt
          replace hRt2 := Hid.mk hRt2
          clear hRt hRd hmem
          have hkl : (kk ≤ ls.length) = True := by simp; omega
          have hsum : (kk + (ls.length - kk) = ls.length) = True := by simp; omega
          have hcl : (List.take kk (shapesR R) ++ List.replicate (ls.length - kk) [PV.sl []]).length = ls.length := by simp; omega
          refine AL ?_
          rw [← hRt2.out, shapesR_take]
          simp [retA, backA, newSl, newB, upd_if, List.take_append, List.take_take, hRlen]
          omega
      · have hd : decide (x = y) = false := by simp [ceq]
        replace hnx := Hid.mk (hnx.out ceq)
        clear ceq
        refine AL ?_
        refine ⟨ls.length - (k + 1), by omega, k + 1, by omega, ?_⟩
        exact ⟨by omega, by omega, by simp [setF_if, *], by simp [setF_if, *], by simp [setF_if, *], by simp [*], hnx.out⟩
    · have e' : k = ls.length := by omega
      have hpre := compact_prefix (ls := ls) (k := k) hk1 (by omega) hall.out
      subst e'
      rw [List.drop_length, cptA, List.append_nil, List.take_length] at hpre
      refine AL ?_
      simp [retA, backA, newSl, newB, setF_if, hH, hpre]
end Go.Proofs
end
section
open Go Go.Big
namespace Go.Proofs
set_option maxHeartbeats 2000000
theorem clone_fn (G : Gv) (l : List (Int × Int)) (H : Heap) (n : Nat) (h1 : 0 < l.length) (hl : l.length < 1000000000) :
    WC Tryz.prog G 190 [.sl 0 (cells l)] H n (fun r H' n' => ∃ o e, r = .own o e ∧ o < n' ∧ H' o = some (.arr e 142 2 (cells l) 0)) := by
  refine (.body Tryz.func190 rfl (by simp [Tryz.ntmps190]) ?_)
  rw [Tryz.ntmps190, Tryz.results190]
  have hfit : ∀ r ∈ cells l, r.length = 2 := by
    intro r hr
    obtain ⟨p, _, rfl⟩ := List.mem_map.mp hr; rfl
  have hlen := cells_len l
  have hb : l.length * 16 ≤ 140737488355328 := by omega
  generalize cells l = rows at *
  cases rows with
  | nil => simp at hlen; omega
  | cons r rs =>
    have hb2 : (rs.length + 1) * 16 ≤ 140737488355328 := by simp only [List.length_cons] at hlen; omega
    have hfd : decide (∀ x ∈ r :: rs, x.length = 2) = true := decide_eq_true hfit
    clear hb hlen hfit
    refine AL ?_
    exact ⟨n + 3, 1, by simp [retA, setF_if], by omega, by simp [upd_if]⟩
theorem decode_cells {l : List (Int × Int)} {rows : List (List PV)} (h : ∀ r ∈ rows, r ∈ cells l) : ∃ k, rows = cells k ∧ ∀ p ∈ k, p ∈ l := by
  induction rows with
  | nil => exact ⟨[], rfl, by simp⟩
  | cons r rs ih =>
    obtain ⟨k, h1, h2⟩ := ih (fun x hx => h x (List.mem_cons_of_mem _ hx))
    obtain ⟨p, hp, rfl⟩ := List.mem_map.mp (h r List.mem_cons_self)
    refine ⟨p :: k, by rw [h1]; rfl, fun x hx => ?_⟩
    rcases List.mem_cons.mp hx with rfl | hx
    · exact hp
    · exact h2 x hx
def rowC (r : List PV) : Int × Int := match r with
  | [.i _ a, .i _ b] => (a, b)
  | _ => (0, 0)
def cfC (a b : List PV) : Int := cmpC (rowC a).1 (rowC a).2 (rowC b).1 (rowC b).2
def goodC (r : List PV) : Prop := ∃ a b, r = [.i .i64 a, .i .i64 b]
def noG : Gv := fun _ _ _ _ _ _ _ => False
theorem cmpC_neg {a b c d : Int} : cmpC a b c d < 0 ↔ lessC a b c d = true := by
  rw [cmpC_cases]
  by_cases h1 : lessC a b c d = true
  · simp [h1]
  · rw [if_neg h1]
    simp only [h1]
    split <;> simp
theorem lessC_total {a b : Int × Int} (h1 : lessC a.1 a.2 b.1 b.2 = false) (h2 : lessC b.1 b.2 a.1 a.2 = false) : a = b := by
  simp only [lessC, Bool.or_eq_false_iff, Bool.and_eq_false_iff, decide_eq_false_iff_not, beq_eq_false_iff_ne] at h1 h2
  apply Prod.ext <;> omega
theorem lessC_trans' {a b c : Int × Int} (h1 : lessC a.1 a.2 b.1 b.2 = true) (h2 : lessC b.1 b.2 c.1 c.2 = true) : lessC a.1 a.2 c.1 c.2 = true := by
  simp only [lessC, Bool.or_eq_true, Bool.and_eq_true, decide_eq_true_eq, beq_iff_eq] at *; omega
theorem lessC_ntrans {a b c : Int × Int} (h1 : lessC a.1 a.2 b.1 b.2 = false) (h2 : lessC b.1 b.2 c.1 c.2 = false) : lessC a.1 a.2 c.1 c.2 = false := by
  simp only [lessC, Bool.or_eq_false_iff, Bool.and_eq_false_iff, decide_eq_false_iff_not, beq_eq_false_iff_ne] at *; omega
theorem lessC_self (a b : Int) : lessC a b a b = false := by simp [lessC]
theorem cmpCells_ok : CmpOk Tryz.prog noG 207 goodC cfC where
  gives := by
    rintro _ _ ⟨a, b, rfl⟩ ⟨c, d, rfl⟩
    exact compareCells_fn noG a b c d
  irrefl := by
    rintro _ ⟨a, b, rfl⟩
    simp [cfC, rowC, cmpC_neg, lessC_self]
  trans := by
    rintro _ _ _ ⟨a, b, rfl⟩ ⟨c, d, rfl⟩ ⟨e, f, rfl⟩
    simp only [cfC, rowC, cmpC_neg]
    exact fun h1 h2 => lessC_trans' (a := (a, b)) (b := (c, d)) (c := (e, f)) h1 h2
  ntrans := by
    rintro _ _ _ ⟨a, b, rfl⟩ ⟨c, d, rfl⟩ ⟨e, f, rfl⟩
    simp only [cfC, rowC, cmpC_neg, Bool.not_eq_true]
    exact fun h1 h2 => lessC_ntrans (a := (a, b)) (b := (c, d)) (c := (e, f)) h1 h2
theorem insM_perm (c : Int × Int) : ∀ l, (insM c l).Perm (c :: l)
  | [] => .refl _
  | p :: l => by
    unfold insM
    split
    · exact .refl _
    · exact ((insM_perm c l).cons p).trans (.swap c p l)
theorem sortM_perm (l : List (Int × Int)) : (sortM l).Perm l := by
  have : ∀ (l a : List (Int × Int)), (l.foldl (fun a c => insM c a) a).Perm (l ++ a) := by
    intro l
    induction l with
    | nil => intro a; exact .refl _
    | cons c l ih =>
      intro a
      rw [List.foldl_cons]
      refine (ih _).trans ?_
      refine ((insM_perm c a).append_left l).trans ?_
      exact List.perm_middle
  have h := this l []
  rw [List.append_nil] at h
  exact h
theorem insM_sorted (c : Int × Int) : ∀ {l : List (Int × Int)}, l.Pairwise (fun a b => lessC b.1 b.2 a.1 a.2 = false) → (insM c l).Pairwise (fun a b => lessC b.1 b.2 a.1 a.2 = false)
  | [], _ => by simp [insM]
  | p :: l, h => by
    rw [List.pairwise_cons] at h
    unfold insM
    split
    · rename_i q
      have hq : lessC p.1 p.2 c.1 c.2 = false := by
        cases z : lessC p.1 p.2 c.1 c.2 with
        | false => rfl
        | true => have := lessC_trans' (a := c) (b := p) (c := c) q z; rw [lessC_self] at this; simp at this
      rw [List.pairwise_cons, List.pairwise_cons]
      refine ⟨fun x hx => ?_, h⟩
      rcases List.mem_cons.mp hx with rfl | hx
      · exact hq
      · exact lessC_ntrans (h.1 x hx) hq
    · rename_i q
      rw [List.pairwise_cons]
      refine ⟨fun x hx => ?_, insM_sorted c h.2⟩
      rcases List.mem_cons.mp ((insM_perm c l).mem_iff.mp hx) with rfl | hx
      · simpa using q
      · exact h.1 x hx
theorem sortM_sorted (l : List (Int × Int)) : (sortM l).Pairwise (fun a b => lessC b.1 b.2 a.1 a.2 = false) := by
  have : ∀ (l a : List (Int × Int)), a.Pairwise (fun a b => lessC b.1 b.2 a.1 a.2 = false) → (l.foldl (fun a c => insM c a) a).Pairwise (fun a b => lessC b.1 b.2 a.1 a.2 = false) := by
    intro l
    induction l with
    | nil => intro a h; exact h
    | cons c l ih => intro a h; exact ih _ (insM_sorted c h)
  exact this l [] .nil
theorem sorted_unique {l : List (Int × Int)} {rows2 : List (List PV)} (hp : rows2.Perm (cells l)) (hs : rows2.Pairwise (fun a b => ¬ cfC b a < 0)) : rows2 = cells (sortM l) := by
  obtain ⟨k, rfl, _⟩ := decode_cells (l := l) (fun r hr => hp.mem_iff.mp hr)
  have hk : k.Pairwise (fun a b => lessC b.1 b.2 a.1 a.2 = false) := by
    unfold cells at hs
    rw [List.pairwise_map] at hs
    refine hs.imp fun {a b} h => ?_
    simpa [cfC, rowC, cmpC_neg] using h
  have hpk : k.Perm l := by
    have : ∀ z : List (Int × Int), (cells z).map rowC = z := fun z => by simp [cells, rowC, Function.comp_def]
    have h2 := hp.map rowC
    rwa [this, this] at h2
  congr 1
  exact List.Perm.eq_of_pairwise (fun a b _ _ h1 h2 => lessC_total h2 h1) hk (sortM_sorted l) (hpk.trans (sortM_perm l).symm)
theorem enters_cmpCells (args : Array Value) (w : World) : (callFunc 207 args).run Tryz.prog w = .ok (.enter 207 args) w := enters_of Tryz.func207 (by kernel_rfl) rfl args w
/-- The sorts that are given. -/
def sortsG : Gv := SortG Tryz.prog noG 302 2
theorem sorted_fn (G : Gv) (hG : ∀ f args H n r H' n', sortsG f args H n r H' n' → G f args H n r H' n') (l : List (Int × Int)) (h1 : 0 < l.length) (hl : l.length < 1000000000) : Gives Tryz.prog G 284 [.sl 0 (cells l)] (.sl 1 (cells (sortM l))) := by
  refine .of (.body Tryz.func284 rfl (by simp [Tryz.ntmps284]) ?_)
  rw [Tryz.ntmps284, Tryz.results284]
  replace hG := Hid.mk hG
  refine AL ?_
  refine CI ?_
  refine (clone_fn G l _ _ h1 hl).mono ?_
  rintro r H n ⟨o, e, rfl, hon, hH⟩
  refine AL ?_
  refine CI ?_
  refine WC_given (hG.out _ _ _ _ (.tup []) (H.upd o (.arr e 142 2 (cells (sortM l)) 0)) _ ⟨rfl, rfl, rfl, 207, o, e, 142, cells l, 0, cells (sortM l), goodC, cfC, rfl, hH, rfl, fun h0 => ?_, ?_, by decide, ?_, cmpCells_ok, enters_cmpCells, fun rows2 => sorted_unique⟩) ?_
  · have := cells_len l; rw [h0] at this; simp at this; omega
  · rw [cells_len]; omega
  · intro r hr
    obtain ⟨p, _, rfl⟩ := List.mem_map.mp hr
    exact ⟨_, _, rfl⟩
  have hnb : newB 0 (cells (sortM l)) := .inr (fun r hr p hp => by
    obtain ⟨c, _, rfl⟩ := List.mem_map.mp hr
    simp at hp; rcases hp with rfl | rfl <;> rfl)
  refine AL ?_
  simp [retA, backA, newSl, setF_if, upd_if, hnb]
end Go.Proofs
end
section
open Go Go.Big
namespace Go.Proofs
set_option maxHeartbeats 2000000
theorem cmpL_trich : ∀ {l k : Shape}, l.length = k.length → cmpL l k < 0 ∨ l = k ∨ cmpL k l < 0
  | [], [], _ => .inr (.inl rfl)
  | [], _ :: _, h => by simp at h
  | _ :: _, [], h => by simp at h
  | p :: l, q :: k, h => by
    have hl : l.length = k.length := by simpa using h
    simp only [cmpL]
    by_cases c1 : lessC p.1 p.2 q.1 q.2 = true
    · rw [if_pos c1]; exact .inl (by decide)
    · by_cases c2 : lessC q.1 q.2 p.1 p.2 = true
      · exact .inr (.inr (by rw [if_pos c2]; decide))
      · rw [if_neg c1, if_neg c2, if_neg c2, if_neg c1]
        simp only [Bool.not_eq_true] at c1 c2
        rcases cmpL_trich hl with h | h | h
        · exact .inl h
        · exact .inr (.inl (by rw [lessC_total c1 c2, h]))
        · exact .inr (.inr h)
theorem cmpL_self : ∀ l : Shape, cmpL l l = 0
  | [] => rfl
  | p :: l => by simp only [cmpL, lessC_self]; simpa using cmpL_self l
theorem cmpL_trans : ∀ {l k m : Shape}, l.length = k.length → k.length = m.length → cmpL l k < 0 → cmpL k m < 0 → cmpL l m < 0
  | [], [], _, _, _, h, _ => by simp [cmpL] at h
  | [], _ :: _, _, h, _, _, _ => by simp at h
  | _ :: _, [], _, h, _, _, _ => by simp at h
  | p :: l, q :: k, [], _, h, _, _ => by simp at h
  | p :: l, q :: k, r :: m, h1, h2, h3, h4 => by
    have e1 : l.length = k.length := by simpa using h1
    have e2 : k.length = m.length := by simpa using h2
    simp only [cmpL] at h3 h4 ⊢
    by_cases a1 : lessC p.1 p.2 q.1 q.2 = true
    · by_cases b1 : lessC q.1 q.2 r.1 r.2 = true
      · rw [if_pos (lessC_trans' a1 b1)]; decide
      · rw [if_neg b1] at h4
        by_cases b2 : lessC r.1 r.2 q.1 q.2 = true
        · rw [if_pos b2] at h4; simp at h4
        · simp only [Bool.not_eq_true] at b1 b2
          obtain rfl := lessC_total b1 b2
          rw [if_pos a1]; decide
    · rw [if_neg a1] at h3
      by_cases a2 : lessC q.1 q.2 p.1 p.2 = true
      · rw [if_pos a2] at h3; simp at h3
      · rw [if_neg a2] at h3
        simp only [Bool.not_eq_true] at a1 a2
        obtain rfl := lessC_total a1 a2
        by_cases b1 : lessC p.1 p.2 r.1 r.2 = true
        · rw [if_pos b1]; decide
        · rw [if_neg b1] at h4 ⊢
          by_cases b2 : lessC r.1 r.2 p.1 p.2 = true
          · rw [if_pos b2] at h4; simp at h4
          · rw [if_neg b2] at h4 ⊢
            exact cmpL_trans e1 e2 h3 h4
theorem cmpM_lt {l k : Shape} : cmpM l k < 0 ↔ l.length < k.length ∨ l.length = k.length ∧ cmpL l k < 0 := by
  unfold cmpM
  split
  · rename_i h; simp [h]
  · rename_i h
    split
    · rename_i h2; simp [h2]
    · rename_i h2; simp [h, h2]
theorem cmpM_trich (l k : Shape) : cmpM l k < 0 ∨ l = k ∨ cmpM k l < 0 := by
  rw [cmpM_lt, cmpM_lt]
  by_cases h : l.length = k.length
  · rcases cmpL_trich h with q | q | q
    · exact .inl (.inr ⟨h, q⟩)
    · exact .inr (.inl q)
    · exact .inr (.inr (.inr ⟨h.symm, q⟩))
  · by_cases h2 : l.length < k.length
    · exact .inl (.inl h2)
    · exact .inr (.inr (.inl (by omega)))
theorem cmpM_irrefl (l : Shape) : ¬ cmpM l l < 0 := by rw [cmpM_lt, cmpL_self]; simp
theorem cmpM_trans {l k m : Shape} (h1 : cmpM l k < 0) (h2 : cmpM k m < 0) : cmpM l m < 0 := by
  rw [cmpM_lt] at *
  rcases h1 with h1 | ⟨e1, h1⟩ <;> rcases h2 with h2 | ⟨e2, h2⟩
  · exact .inl (by omega)
  · exact .inl (by omega)
  · exact .inl (by omega)
  · exact .inr ⟨e1.trans e2, cmpL_trans e1 e2 h1 h2⟩
theorem cmpM_ntrans {l k m : Shape} (h1 : ¬ cmpM l k < 0) (h2 : ¬ cmpM k m < 0) : ¬ cmpM l m < 0 := by
  intro h
  rcases cmpM_trich l k with q | q | q
  · exact h1 q
  · subst q; exact h2 h
  · exact h2 (cmpM_trans q h)
theorem cmpM_total {l k : Shape} (h1 : ¬ cmpM l k < 0) (h2 : ¬ cmpM k l < 0) : l = k := by
  rcases cmpM_trich l k with q | q | q
  · exact absurd q h1
  · exact q
  · exact absurd q h2
theorem cmpM_zero {l k : Shape} : cmpM l k = 0 ↔ l = k := by
  constructor
  · intro h
    refine cmpM_total (by omega) ?_
    intro h2
    rw [cmpM_lt] at h2
    unfold cmpM at h
    split at h
    · rename_i e
      rcases h2 with h2 | ⟨_, h2⟩
      · omega
      · have : ∀ {l k : Shape}, cmpL l k = 0 → cmpL k l < 0 → l.length = k.length → False := by
          intro l
          induction l with
          | nil => intro k _ h2 e; cases k with
            | nil => simp [cmpL] at h2
            | cons => simp at e
          | cons p l ih =>
            intro k h1 h2 e
            cases k with
            | nil => simp at e
            | cons q k =>
              simp only [cmpL] at h1 h2
              by_cases c1 : lessC p.1 p.2 q.1 q.2 = true
              · rw [if_pos c1] at h1; simp at h1
              · rw [if_neg c1] at h1
                by_cases c2 : lessC q.1 q.2 p.1 p.2 = true
                · rw [if_pos c2] at h1; simp at h1
                · rw [if_neg c2] at h1
                  rw [if_neg c2, if_neg c1] at h2
                  exact ih h1 h2 (by simpa using e)
        exact this h h2 e
    · split at h <;> simp at h
  · rintro rfl; unfold cmpM; rw [if_pos rfl, cmpL_self]
def rowS (r : List PV) : Shape := match r with
  | [.sl rows] => rows.map rowC
  | _ => []
def cfS (a b : List PV) : Int := cmpM (rowS a) (rowS b)
def goodS (r : List PV) : Prop := ∃ l : Shape, r = [.sl (cells l)] ∧ l.length < 1000000000
theorem rowS_cells (l : Shape) : rowS [.sl (cells l)] = l := by
  show (cells l).map rowC = l
  simp [cells, rowC, Function.comp_def]
theorem cmpShapes_ok : CmpOk1 Tryz.prog noG 235 goodS cfS where
  gives := by
    rintro a b ⟨l, h1, h2⟩ ⟨k, h3, h4⟩
    simp only [List.cons.injEq, and_true] at h1 h3
    subst h1; subst h3
    have := compareShapes_fn noG l k h2 h4
    simpa only [cfS, rowS_cells, avOf] using this
  irrefl := by
    rintro _ ⟨l, rfl, _⟩
    simp only [cfS]; exact cmpM_irrefl _
  trans := fun a b c _ _ _ h1 h2 => cmpM_trans h1 h2
  ntrans := fun a b c _ _ _ h1 h2 => cmpM_ntrans h1 h2
theorem decode_shapes {ls : List Shape} {rows : List (List PV)} (h : ∀ r ∈ rows, r ∈ shapesR ls) : ∃ k, rows = shapesR k := by
  induction rows with
  | nil => exact ⟨[], rfl⟩
  | cons r rs ih =>
    obtain ⟨k, h1⟩ := ih (fun x hx => h x (List.mem_cons_of_mem _ hx))
    obtain ⟨p, hp, rfl⟩ := List.mem_map.mp (h r List.mem_cons_self)
    exact ⟨p :: k, by rw [h1]; rfl⟩
/-- Shapes in order. -/
def orderS (ls : List Shape) : List Shape := ls.mergeSort fun a b => !decide (cmpM b a < 0)
theorem orderS_perm (ls : List Shape) : (orderS ls).Perm ls := List.mergeSort_perm _ _
theorem orderS_sorted (ls : List Shape) : (orderS ls).Pairwise fun a b => ¬ cmpM b a < 0 := by
  have := List.pairwise_mergeSort (le := fun a b : Shape => !decide (cmpM b a < 0)) (fun a b c h1 h2 => by
    simp only [Bool.not_eq_true', decide_eq_false_iff_not] at *; exact cmpM_ntrans h2 h1) (fun a b => by
    simp only [Bool.or_eq_true, Bool.not_eq_true', decide_eq_false_iff_not]
    by_cases h : cmpM b a < 0
    · exact .inr (fun h2 => cmpM_irrefl _ (cmpM_trans h h2))
    · exact .inl h) ls
  exact this.imp (fun h => by simpa using h)
theorem shapes_unique {ls : List Shape} {rows2 : List (List PV)} (hp : rows2.Perm (shapesR ls)) (hs : rows2.Pairwise (fun a b => ¬ cfS b a < 0)) : rows2 = shapesR (orderS ls) := by
  obtain ⟨k, rfl⟩ := decode_shapes (ls := ls) (fun r hr => hp.mem_iff.mp hr)
  have hk : k.Pairwise (fun a b => ¬ cmpM b a < 0) := by
    unfold shapesR at hs
    rw [List.pairwise_map] at hs
    refine hs.imp fun {a b} h => ?_
    simpa only [cfS, rowS_cells] using h
  have hpk : k.Perm ls := by
    have : ∀ z : List Shape, (shapesR z).map rowS = z := fun z => by
      unfold shapesR; rw [List.map_map]
      have : (rowS ∘ fun l : Shape => [PV.sl (cells l)]) = id := funext fun l => rowS_cells l
      rw [this, List.map_id]
    have h2 := hp.map rowS
    rwa [this, this] at h2
  congr 1
  exact List.Perm.eq_of_pairwise (fun a b _ _ h1 h2 => cmpM_total h2 h1) hk (orderS_sorted ls) (hpk.trans (orderS_perm ls).symm)
theorem enters_cmpShapes (args : Array Value) (w : World) : (callFunc 235 args).run Tryz.prog w = .ok (.enter 235 args) w := enters_of Tryz.func235 (by kernel_rfl) rfl args w
def sortsG1 : Gv := SortG1 Tryz.prog noG 260
def tidyM (ls : List Shape) : List Shape := compactS (orderS ls)
theorem tidyShapes_fn (G : Gv) (hG : ∀ f args H n r H' n', sortsG1 f args H n r H' n' → G f args H n r H' n') (ls : List Shape) (H : Heap) (n o e : Nat) (ho : o < n) (hH : H o = some (.arr e 32 1 (shapesR ls) 1)) (h1 : 0 < ls.length) (hls : ls.length < 1000000) (hl : ∀ l ∈ ls, l.length < 1000000000) :
    WC Tryz.prog G 205 [.own o e] H n (fun r H' n' => backA H' r = some (.sl 1 (shapesR (tidyM ls)))) := by
  refine (.body Tryz.func205 rfl (by simp [Tryz.ntmps205]) ?_)
  rw [Tryz.ntmps205, Tryz.results205]
  replace hG := Hid.mk hG
  replace hl := Hid.mk hl
  refine AL ?_
  refine CI ?_
  refine WC_given (hG.out _ _ _ _ (.tup []) (H.upd o (.arr e 32 1 (shapesR (orderS ls)) 1)) _ ⟨rfl, rfl, rfl, 235, o, e, 32, shapesR ls, 1, shapesR (orderS ls), goodS, cfS, rfl, hH, rfl, fun h0 => ?_, ?_, by decide, ?_, cmpShapes_ok, enters_cmpShapes, fun rows2 => shapes_unique⟩) ?_
  · have := shapesR_len ls; rw [h0] at this; simp at this; omega
  · rw [shapesR_len]; omega
  · intro r hr
    obtain ⟨p, hp, rfl⟩ := List.mem_map.mp hr
    exact ⟨p, rfl, hl.out p hp⟩
  refine AL ?_
  refine CI ?_
  have hp := orderS_perm ls
  refine (compactFunc_fn G (orderS ls) _ _ o e (by omega) (Heap.upd_same _ _ _) (by rw [hp.length_eq]; exact hls) (fun l hl' => hl.out l (hp.mem_iff.mp hl'))).mono ?_
  clear hp
  intro r H2 n2 hb
  refine AL ?_
  simpa [retA, setF_if, tidyM] using hb
theorem form_fn (G : Gv) (hG : ∀ f args H n r H' n', sortsG f args H n r H' n' → G f args H n r H' n') (l : List (Int × Int)) (t : Nat) (h1 : 0 < l.length) (hl : l.length < 1000000000) : Gives Tryz.prog G 236 [.sl 0 (cells l), .i .i64 t] (.sl 1 (cells (formM l t))) := by
  refine .of (.body Tryz.func236 rfl (by simp [Tryz.ntmps236]) ?_)
  rw [Tryz.ntmps236, Tryz.results236]
  have hlen := cells_len l
  have b1 : ((16 : Nat) : Int) * l.length ≤ 281474976710656 := by simp; omega
  have b2 : (l.length : Int) ≤ 9223372036854775807 := by omega
  have b3 : (0 : Int) ≤ l.length := by omega
  replace hG := Hid.mk hG
  refine AL ?_
  refine .loop (.inv (fun d E H n' => ∃ i : Nat, i + d = l.length ∧ 3 < n' ∧ E 1 = .i .i64 t ∧ E 11 = .sl 0 (cells l) ∧ E 12 = .i .i64 l.length ∧ E 13 = .i .i64 i ∧ ∃ e, E 5 = .own 3 e ∧ H 3 = some (.arr e 142 2 (cells (turnL (l.take i) t)) 1)) l.length ?_ ?_)
  · simp [setF_if, argE, upd_if, turnL, cells]
  rintro d E H n' ⟨i, hi, hn3, h1', h11, h12, h13, e, h5, hH⟩
  by_cases c : (i : Int) < l.length
  · have hr := cells_at (l := l) (i := i) (by omega)
    have hw_i : IntKind.i64.wrap ((i : Int) + 1) = (i : Int) + 1 := wr64 (by omega) (by omega)
    have hrl : (cells (turnL (l.take i) t)).length = i := by simp [cells, turnL]; omega
    have hb : (i + 1) * 16 ≤ 140737488355328 := by omega
    have htk := turn_take (l := l) (i := i) t (by omega)
    have hne : ∀ k, (3 = n' + k) = False := fun k => neAdd hn3
    have z1 : (n' = 0) = False := by simp; omega
    generalize l.getD i (0, 0) = p at hr htk
    refine AL ?_
    refine CV (turnCell_fn G _ _ _) ?_
    refine AL ?_
    refine ⟨l.length - (i + 1), by omega, i + 1, by omega, ?_⟩
    refine ⟨by omega, by simp [setF_if, *], by simp [setF_if, *], by simp [setF_if, *], by simp [setF_if, *], e + 1, by simp [setF_if, *], ?_⟩
    simp only [upd_if, neAdd hn3, reduceIte, htk]
  · have e' : i = l.length := by omega
    subst e'
    rw [List.take_length] at hH
    have k1 : 0 < (turnL l t).length := by rw [turnL_len]; exact h1
    have k2 : (turnL l t).length < 1000000000 := by rw [turnL_len]; exact hl
    refine AL ?_
    refine CV (sorted_fn G hG.out _ k1 k2) ?_
    refine AL ?_
    refine CV (normal_fn G _ (by rw [sortM_len]; exact k1) (by rw [sortM_len]; exact k2)) ?_
    refine AL ?_
    simp [retA, backA, newSl, newB, formM]
def formsL (l : Shape) (t : Nat) : List Shape := (List.range t).map (formM l)
theorem forms_fn (G : Gv) (hG : ∀ f args H n r H' n', sortsG f args H n r H' n' → G f args H n r H' n') (l : Shape) (t : Nat) (H : Heap) (n : Nat) (h1 : 0 < l.length) (hl : l.length < 1000000000) (ht : t < 1000000) :
    WC Tryz.prog G 189 [.sl 0 (cells l), .i .i64 t] H n (fun r H' n' => ∃ o e, r = .own o e ∧ o < n' ∧ H' o = some (.arr e 32 1 (shapesR (formsL l t)) 1)) := by
  refine (.body Tryz.func189 rfl (by simp [Tryz.ntmps189]) ?_)
  rw [Tryz.ntmps189, Tryz.results189]
  replace hG := Hid.mk hG
  obtain ⟨m, hm⟩ : ∃ m, m = n + 1 := ⟨_, rfl⟩
  refine AL ?_
  refine .loop (.inv (fun d E H n' => ∃ (i : Nat), i + d = t ∧ m < n' ∧ E 0 = .sl 0 (cells l) ∧ E 8 = .i .i64 t ∧ E 9 = .i .i64 i ∧ ∃ e, E 5 = .own m e ∧ H m = some (.arr e 32 1 (shapesR (formsL l i)) 1)) t ?_ ?_)
  · subst hm
    exact ⟨0, by omega, by omega, by simp [setF_if, argE], by simp [setF_if, argE], by simp [setF_if, argE], 0, by simp [setF_if, argE], by simp [upd_if, formsL, shapesR]⟩
  clear hm
  rintro d E H n' ⟨i, hi, hmn, h0, h8, h9, e, h5, hH⟩
  by_cases c : (i : Int) < t
  · have hw_i : IntKind.i64.wrap ((i : Int) + 1) = (i : Int) + 1 := wr64 (by omega) (by omega)
    have hrl : (shapesR (formsL l i)).length = i := by simp [shapesR, formsL]
    have hb : (i + 1) * 24 ≤ 140737488355328 := by omega
    have htk : shapesR (formsL l i) ++ [[.sl (cells (formM l i))]] = shapesR (formsL l (i + 1)) := by simp [shapesR, formsL, List.range_succ]
    refine AL ?_
    refine CV (form_fn G hG.out l i h1 hl) ?_
    refine AL ?_
    refine ⟨t - (i + 1), by omega, i + 1, by omega, by omega, by simp [setF_if, *], by simp [setF_if, *], by simp [setF_if, *], e + 1, by simp [setF_if, *], ?_⟩
    simp only [upd_if, neAdd hmn, reduceIte, htk]
  · have e' : i = t := by omega
    subst e'
    refine AL ?_
    exact ⟨m, e, by simp [retA, setF_if, *], by omega, hH⟩
def formsI (p : PieceM) : List Shape := tidyM (formsL p.cs (if p.b then 8 else 4))
theorem formsOf_fn (G : Gv) (hG : ∀ f args H n r H' n', sortsG f args H n r H' n' → G f args H n r H' n') (hG1 : ∀ f args H n r H' n', sortsG1 f args H n r H' n' → G f args H n r H' n') (p : PieceM) (h1 : 0 < p.cs.length) (hl : p.cs.length < 1000000000) : Gives Tryz.prog G 153 [pieceA 0 p] (.sl 1 (shapesR (formsI p))) := by
  refine .of (.body Tryz.func153 rfl (by simp [Tryz.ntmps153]) ?_)
  rw [Tryz.ntmps153, Tryz.results153]
  replace hG := Hid.mk hG
  replace hG1 := Hid.mk hG1
  cases q : p.b with
  | true =>
    have hf : formsI p = tidyM (formsL p.cs 8) := by unfold formsI; rw [if_pos q]
    refine AL ?_
    refine CI ?_
    refine (forms_fn G hG.out p.cs 8 _ _ h1 hl (by omega)).mono ?_
    rintro r H2 n2 ⟨o, e, rfl, hon, hH⟩
    refine CI ?_
    refine (tidyShapes_fn G hG1.out _ _ _ o e (by omega) hH (by simp [formsL]) (by simp [formsL]) (fun x hx => by
      obtain ⟨i, _, rfl⟩ := List.mem_map.mp hx
      rw [formM_len]; exact hl)).mono ?_
    intro r H3 n3 hb
    refine AL ?_
    simpa [retA, setF_if, hf] using hb
  | false =>
    have hf : formsI p = tidyM (formsL p.cs 4) := by unfold formsI; rw [if_neg (by simp [q])]
    refine AL ?_
    refine CI ?_
    refine (forms_fn G hG.out p.cs 4 _ _ h1 hl (by omega)).mono ?_
    rintro r H2 n2 ⟨o, e, rfl, hon, hH⟩
    refine CI ?_
    refine (tidyShapes_fn G hG1.out _ _ _ o e (by omega) hH (by simp [formsL]) (by simp [formsL]) (fun x hx => by
      obtain ⟨i, _, rfl⟩ := List.mem_map.mp hx
      rw [formM_len]; exact hl)).mono ?_
    intro r H3 n3 hb
    refine AL ?_
    simpa [retA, setF_if, hf] using hb
end Go.Proofs
end
section
open Go Go.Big
namespace Go.Proofs
set_option maxHeartbeats 2000000
def aroundM (c : Int × Int) : List (Int × Int) := [(c.1, IntKind.i64.wrap (c.2 - 1)), (IntKind.i64.wrap (c.1 - 1), c.2), (IntKind.i64.wrap (c.1 + 1), c.2), (c.1, IntKind.i64.wrap (c.2 + 1))]
/-- One neighbour is looked at: what is marked so far, and what is to be looked at later. -/
def lookP (l : List (Int × Int)) (i : Int) (s : List Int × List Int) (c : Int × Int) : List Int × List Int :=
  if 0 ≤ idxM l c ∧ s.1.getD (idxM l c).toNat 0 < 0 then (s.1.set (idxM l c).toNat i, s.2 ++ [idxM l c]) else s
def lookAll (l : List (Int × Int)) (i : Int) (s : List Int × List Int) (c : Int × Int) : List Int × List Int := (aroundM c).foldl (lookP l i) s
/-- How many are not marked. -/
def openN (out : List Int) : Nat := (out.filter fun x => decide (x < 0)).length
/-- All that is reached from a list of open ones. -/
def runP (l : List (Int × Int)) (i : Int) : Nat → List Int → List Int → List Int
  | 0, out, _ => out
  | _ + 1, out, [] => out
  | f + 1, out, c :: rest => runP l i f (lookAll l i (out, rest) (l.getD c.toNat (0, 0))).1 (lookAll l i (out, rest) (l.getD c.toNat (0, 0))).2
def startP (l : List (Int × Int)) (out : List Int) (i : Nat) : List Int := if out.getD i 0 ≥ 0 then out else runP l i (openN (out.set i (i : Int)) + 1) (out.set i (i : Int)) [(i : Int)]
def partsM (l : List (Int × Int)) (i : Nat) : List Int := (List.range i).foldl (startP l) (List.replicate l.length (-1))
theorem partsM_succ (l : List (Int × Int)) (i : Nat) : partsM l (i + 1) = startP l (partsM l i) i := by
  unfold partsM; rw [List.range_succ, List.foldl_append]; rfl
theorem idxM_lt {l : List (Int × Int)} {c : Int × Int} (h : 0 ≤ idxM l c) : (idxM l c).toNat < l.length ∧ ((idxM l c).toNat : Int) = idxM l c := by
  unfold idxM at *
  split at h
  · rename_i i hi
    have := List.mem_range.mp (List.mem_of_find?_eq_some hi)
    simp; exact this
  · omega
/-- What holds all along: places are places, marks are as long. -/
def okP (l : List (Int × Int)) (s : List Int × List Int) : Prop := s.1.length = l.length ∧ ∀ k ∈ s.2, 0 ≤ k ∧ k < l.length
theorem openN_set {out : List Int} {k : Nat} {v : Int} (hk : k < out.length) (h : out.getD k 0 < 0) (hv : 0 ≤ v) : openN (out.set k v) + 1 = openN out := by
  unfold openN
  induction out generalizing k with
  | nil => simp at hk
  | cons x xs ih =>
    cases k with
    | zero =>
      simp at h
      simp only [List.set_cons_zero, List.filter_cons, h, decide_true, if_true]
      simp [show ¬ v < 0 by omega]
    | succ k =>
      simp only [List.length_cons] at hk
      have h' : xs.getD k 0 < 0 := by simpa [List.getD_eq_getElem?_getD] using h
      have := ih (k := k) (by omega) h'
      simp only [List.set_cons_succ, List.filter_cons]
      by_cases c : x < 0
      · simp only [c, decide_true, if_true, List.length_cons]; omega
      · simp only [c, decide_false]; simpa using this
theorem lookP_ok {l : List (Int × Int)} {i : Int} {s : List Int × List Int} {c : Int × Int} (hi : 0 ≤ i) (h : okP l s) : okP l (lookP l i s c) ∧ openN (lookP l i s c).1 + (lookP l i s c).2.length = openN s.1 + s.2.length := by
  unfold lookP
  split
  · rename_i q
    obtain ⟨q1, q2⟩ := idxM_lt q.1
    refine ⟨⟨by simp [h.1], fun k hk => ?_⟩, ?_⟩
    · rcases List.mem_append.mp hk with hk | hk
      · exact h.2 k hk
      · simp only [List.mem_singleton] at hk; subst hk; exact ⟨q.1, by omega⟩
    · have := openN_set (v := i) (by rw [h.1]; exact q1) q.2 hi
      simp only [List.length_append, List.length_singleton]; omega
  · exact ⟨h, rfl⟩
theorem foldP_ok {l : List (Int × Int)} {i : Int} (hi : 0 ≤ i) : ∀ {cs : List (Int × Int)} {s : List Int × List Int}, okP l s → okP l (cs.foldl (lookP l i) s) ∧ openN (cs.foldl (lookP l i) s).1 + (cs.foldl (lookP l i) s).2.length = openN s.1 + s.2.length
  | [], s, h => ⟨h, rfl⟩
  | c :: cs, s, h => by
    obtain ⟨h1, h2⟩ := lookP_ok (c := c) hi h
    obtain ⟨h3, h4⟩ := foldP_ok hi (cs := cs) h1
    exact ⟨h3, by rw [List.foldl_cons, h4, h2]⟩
theorem runP_nil {l : List (Int × Int)} {i : Int} {f : Nat} {out : List Int} : runP l i f out [] = out := by cases f <;> rfl
theorem runP_len {l : List (Int × Int)} {i : Int} (hi : 0 ≤ i) : ∀ {f : Nat} {out rest : List Int}, okP l (out, rest) → (runP l i f out rest).length = l.length
  | 0, _, _, h => h.1
  | _ + 1, _, [], h => h.1
  | f + 1, out, c :: rest, h => runP_len hi (f := f) (foldP_ok hi (s := (out, rest)) ⟨h.1, fun k hk => h.2 k (List.mem_cons_of_mem _ hk)⟩).1
theorem startP_len {l : List (Int × Int)} {out : List Int} {i : Nat} (h : out.length = l.length) (hi : i < l.length) : (startP l out i).length = l.length := by
  unfold startP
  split
  · exact h
  · exact runP_len (by omega) ⟨by simp [h], fun k hk => by simp only [List.mem_singleton] at hk; subst hk; omega⟩
theorem partsM_len (l : List (Int × Int)) : ∀ {i : Nat}, i ≤ l.length → (partsM l i).length = l.length
  | 0, _ => by simp [partsM]
  | i + 1, h => by rw [partsM_succ]; exact startP_len (partsM_len l (by omega)) (by omega)
end Go.Proofs
end
section
open Go Go.Big
namespace Go.Proofs
set_option maxHeartbeats 2000000
theorem aroundM_cells (x y : Int) : ([[.i .i64 x, .i .i64 (IntKind.i64.wrap (y - 1))], [.i .i64 (IntKind.i64.wrap (x - 1)), .i .i64 y], [.i .i64 (IntKind.i64.wrap (x + 1)), .i .i64 y], [.i .i64 x, .i .i64 (IntKind.i64.wrap (y + 1))]] : List (List PV)) = cells (aroundM (x, y)) := rfl
theorem around4 (c : Int × Int) : (aroundM c).length = 4 := rfl
/-- The slice of open places: an array of one's own, or the rest of one. -/
def opn (T : TypeId) (x : AV) (H : Heap) (q e : Nat) (rest : List Int) : Prop := ∃ rows, H q = some (.arr e T 1 rows 1) ∧ (x = .own q e ∧ rows = ints rest ∨ ∃ lo, x = .vw q e lo rest.length ∧ lo + rest.length = rows.length ∧ rows.drop lo = ints rest)
theorem foldP_take {l : List (Int × Int)} {i : Int} {s : List Int × List Int} {cs : List (Int × Int)} {k : Nat} (h : k < cs.length) : (cs.take (k + 1)).foldl (lookP l i) s = lookP l i ((cs.take k).foldl (lookP l i) s) (cs.getD k (0, 0)) := by
  rw [List.take_succ_eq_append_getElem h, List.foldl_append]
  simp only [List.foldl_cons, List.foldl_nil, List.getD_eq_getElem?_getD, List.getElem?_eq_getElem h, Option.getD_some]
theorem ints_set (l : List Int) (k : Nat) (v : Int) : ints (l.set k v) = (ints l).set k [.i .i64 v] := by simp [ints, List.map_set]
theorem ints_app (l k : List Int) : ints (l ++ k) = ints l ++ ints k := by simp [ints]
theorem openN_le (l : List Int) : openN l ≤ l.length := List.length_filter_le _ _
theorem l02Parts_fn (G : Gv) (l : List (Int × Int)) (hl : l.length < 1000000000) : Gives Tryz.prog G 211 [.sl 0 (cells l)] (.sl 1 (ints (partsM l l.length))) := by
  refine .of (.body Tryz.func211 rfl (by simp [Tryz.ntmps211]) ?_)
  rw [Tryz.ntmps211, Tryz.results211]
  have hlen := cells_len l
  refine AL ?_
  refine .loop (.inv (fun d E H n' => ∃ i : Nat, i + d = l.length ∧ 1 < n' ∧ E 0 = .sl 0 (cells l) ∧ E 4 = .i .i64 i ∧ ∃ e, E 3 = .own 1 e ∧ H 1 = some (.arr e 2 1 (ints (List.replicate i (-1))) 1)) l.length ?_ ?_)
  · simp [setF_if, argE, upd_if, ints]
  · rintro d E H n' ⟨i, hi, hn1, h0, h4, e, h3, hH⟩
    by_cases c : (i : Int) < l.length
    · have hw_i : IntKind.i64.wrap ((i : Int) + 1) = (i : Int) + 1 := wr64 (by omega) (by omega)
      have hrl : (ints (List.replicate i (-1))).length = i := by simp [ints]
      have hb : (i + 1) * 8 ≤ 140737488355328 := by omega
      have htk : ints (List.replicate i (-1)) ++ [[.i .i64 (-1)]] = ints (List.replicate (i + 1) (-1)) := by simp [ints, List.replicate_succ']
      refine AL ?_
      refine ⟨l.length - (i + 1), by omega, i + 1, by omega, ?_⟩
      simp [setF_if, upd_if, *]
    · have e' : i = l.length := by omega
      subst e'
      refine AL ?_
      refine .loop (.inv (fun d E H n' => ∃ i : Nat, i + d = l.length ∧ 1 < n' ∧ E 0 = .sl 0 (cells l) ∧ E 5 = .i .i64 i ∧ ∃ e, E 3 = .own 1 e ∧ H 1 = some (.arr e 2 1 (ints (partsM l i)) 1)) l.length ?_ ?_)
      · simp [setF_if, argE, upd_if, partsM, *]
      rintro d E H n' ⟨i, hi, hn1, h0, h5, e, h3, hH⟩
      by_cases c : (i : Int) < l.length
      · have hw_i : IntKind.i64.wrap ((i : Int) + 1) = (i : Int) + 1 := wr64 (by omega) (by omega)
        have cN : i < l.length := by omega
        have hpl := partsM_len l (i := i) (by omega)
        have hr : (ints (partsM l i))[i]? = some [.i .i64 ((partsM l i).getD i 0)] := ints_at (by omega)
        have hsucc := partsM_succ l i
        have hsd : startP l (partsM l i) i = startP l (partsM l i) i := rfl
        conv at hsd => rhs; unfold startP
        generalize partsM l i = out at hpl hr hsucc hsd hH
        have hil := ints_len out
        generalize hx : out.getD i 0 = x at hr hsd
        by_cases c1 : x ≥ 0
        · rw [if_pos c1] at hsd
          refine AL ?_
          refine ⟨l.length - (i + 1), by omega, i + 1, by omega, ?_⟩
          simp [setF_if, upd_if, *]
        · rw [if_neg c1] at hsd
          have hset : (ints out).set i [PV.i .i64 i] = ints (out.set i (i : Int)) := by rw [ints_set]
          have hok0 : okP l (out.set i (i : Int), [(i : Int)]) := ⟨by simp [hpl], fun k hk => by simp only [List.mem_singleton] at hk; subst hk; omega⟩
          have hlt : i < (ints out).length := by omega
          refine AL ?_
          refine .loop (.inv (fun d E H n' => ∃ (q e2 : Nat) (o2 rest : List Int), d = openN o2 + rest.length ∧ d ≤ l.length + 1 ∧ okP l (o2, rest) ∧ runP l i d o2 rest = startP l out i ∧ 1 < q ∧ q < n' ∧ E 0 = .sl 0 (cells l) ∧ E 5 = .i .i64 i ∧ E 3 = .own 1 e ∧ H 1 = some (.arr e 2 1 (ints o2) 1) ∧ opn 2 (E 6) H q e2 rest) (openN (out.set i (i : Int)) + 1) ?_ ?_)
          · refine ⟨n' + 15, 0, out.set i (i : Int), [(i : Int)], by simp, by have := openN_le (out.set i (i : Int)); simp at this; omega, hok0, hsd.symm, by omega, by omega, by simp [setF_if, *], by simp [setF_if, *], by simp [setF_if, *], by simp [setF_if, upd_if, *], [[.i .i64 i]], by simp [upd_if], .inl ⟨by simp [setF_if], rfl⟩⟩
          rintro d E H n' ⟨q, e2, o2, rest, hd, hdl, hok, hrun, hq1, hqn, h0, h5, h3, hH, hopn⟩
          have hn1 : 1 < n' := by omega
          have q1 : (q = 1) = False := by simp; omega
          have q2 : (1 = q) = False := by simp; omega
          have hol := ints_len o2
          have hol2 : o2.length = l.length := hok.1
          cases rest with
          | nil =>
            obtain ⟨rows, hHq, (⟨h6, rfl⟩ | ⟨lo, h6, hlo, hdr⟩)⟩ := hopn
            all_goals
              have hz : (ints ([] : List Int)) = [] := rfl
              have hzl : (([] : List Int)).length = 0 := rfl
              rw [runP_nil] at hrun
              refine AL ?_
              refine ⟨l.length - (i + 1), by omega, i + 1, by omega, ?_⟩
              simp [setF_if, upd_if, *]
          | cons c rest =>
            obtain ⟨hc0, hcl⟩ := hok.2 c List.mem_cons_self
            have hcN : c.toNat < l.length := by omega
            have hrc := cells_at (l := l) (i := c.toNat) hcN
            have hgt : ((((c :: rest).length : Nat) : Int) > 0) = True := by simp
            have hrunS : runP l i d o2 (c :: rest) = runP l i (d - 1) (lookAll l i (o2, rest) (l.getD c.toNat (0, 0))).1 (lookAll l i (o2, rest) (l.getD c.toNat (0, 0))).2 := by
              obtain ⟨d', rfl⟩ : ∃ d', d = d' + 1 := ⟨d - 1, by simp only [List.length_cons] at hd; omega⟩
              rfl
            have hokr : okP l (o2, rest) := ⟨hok.1, fun k hk => hok.2 k (List.mem_cons_of_mem _ hk)⟩
            have hf := foldP_ok (l := l) (i := (i : Int)) (by omega) (cs := aroundM (l.getD c.toNat (0, 0))) hokr
            obtain ⟨rows, hHq, hcase⟩ := hopn
            obtain ⟨lo, hsl, hlo, hdr, hE6⟩ : ∃ lo, (rows.length - lo) = rest.length + 1 ∧ lo < rows.length ∧ rows.drop lo = ints (c :: rest) ∧ (E 6 = .own q e2 ∧ lo = 0 ∨ E 6 = .vw q e2 lo (rest.length + 1)) := by
              rcases hcase with ⟨h6, rfl⟩ | ⟨lo, h6, hlo, hdr⟩
              · exact ⟨0, by simp [ints], by simp [ints], rfl, .inl ⟨h6, rfl⟩⟩
              · simp only [List.length_cons] at hlo h6
                exact ⟨lo, by omega, by omega, hdr, .inr h6⟩
            have hr0 : rows[lo]? = some [.i .i64 c] := by
              have := congrArg (fun z => z[0]?) hdr
              simpa [ints] using this
            have hdr1 : rows.drop (lo + 1) = ints rest := by
              have := congrArg (fun z => z.drop 1) hdr
              simpa [ints] using this
            clear hcase hdr
            have hrl : rows.length = lo + rest.length + 1 := by omega
            have hs1 : (1 ≤ rest.length + 1) = True := by simp
            have hz0 : (0 < rest.length + 1) = True := by simp
            have htl : ((rows.drop lo).take (rest.length + 1)).length = rest.length + 1 := by simp; omega
            have hdN : openN o2 + rest.length + 1 = d := by simp only [List.length_cons] at hd; omega
            clear hd hok hcl
            generalize hp : l.getD c.toNat (0, 0) = p at *
            replace hf := Hid.mk hf
            replace hok := Hid.mk hokr
            replace hrunS := Hid.mk hrunS
            replace hrun := Hid.mk hrun
            clear hokr hp hx
            have hal := around4 p
            have hop : ∀ a b, a + b = rows.length → b = rest.length → rows.drop a = ints rest → ∀ (H1 : Heap), H1 q = some (.arr e2 2 1 rows 1) → opn 2 (.vw q e2 a b) H1 q e2 rest := fun a b g1 g2 g3 H1 g4 => ⟨rows, g4, .inr ⟨a, by rw [g2], by omega, g3⟩⟩
            replace hop := Hid.mk hop
            rcases hE6 with ⟨h6, rfl⟩ | h6
            all_goals
              refine AL ?_
              refine CV (l02Around_fn G _ _) ?_
              rw [aroundM_cells]
              refine AL ?_
              refine .loop (.inv (fun d2 E H n' => ∃ (k e3 : Nat) (s : List Int × List Int), k + d2 = 4 ∧ s = ((aroundM p).take k).foldl (lookP l i) (o2, rest) ∧ q < n' ∧ E 0 = .sl 0 (cells l) ∧ E 5 = .i .i64 i ∧ E 3 = .own 1 e ∧ E 7 = .sl 1 (cells (aroundM p)) ∧ E 8 = .i .i64 k ∧ H 1 = some (.arr e 2 1 (ints s.1) 1) ∧ opn 2 (E 6) H q e3 s.2) 4 ?_ ?_)
              · exact ⟨0, e2, (o2, rest), by omega, rfl, by omega, by simp [setF_if, *], by simp [setF_if, *], by simp [setF_if, *], by simp [setF_if, *], by simp [setF_if, *], by simp [setF_if, *], by
                  simp only [setF_if, Nat.reduceEqDiff, reduceIte]
                  exact hop.out _ _ (by omega) (by omega) hdr1 _ (by simp [*])⟩
              clear h0 h5 h3 hH h6 hHq
              rintro d2 E H n' ⟨k, e3, s, hk, hs, hqn2, h0, h5, h3, h7, h8, hH, hopn⟩
              have hn1 : 1 < n' := by omega
              by_cases ck : (k : Int) < 4
              · have hw_k : IntKind.i64.wrap ((k : Int) + 1) = (k : Int) + 1 := wr64 (by omega) (by omega)
                have hfk := foldP_take (l := l) (i := (i : Int)) (s := (o2, rest)) (cs := aroundM p) (k := k) (by rw [hal]; omega)
                rw [← hs] at hfk
                have hra := cells_at (l := aroundM p) (i := k) (by rw [hal]; omega)
                generalize (aroundM p).getD k (0, 0) = pc at hra hfk
                have hsok := foldP_ok (l := l) (i := (i : Int)) (by omega) (cs := (aroundM p).take k) hok.out
                rw [← hs] at hsok
                have hsl1 := hsok.1.1
                have hsum := hsok.2
                have hol3 := ints_len s.1
                have hol4 := ints_len s.2
                have hoo := openN_le o2
                simp only at hsum
                have hbd : (s.2.length + 1) * 8 ≤ 140737488355328 := by omega
                clear hsok hs hsum hoo hok hf hrun hrunS hop
                have ha : lookP l (i : Int) s pc = if 0 ≤ idxM l pc ∧ s.1.getD (idxM l pc).toNat 0 < 0 then (s.1.set (idxM l pc).toNat (i : Int), s.2 ++ [idxM l pc]) else s := rfl
                replace ha := Hid.mk ha
                replace hfk := Hid.mk hfk
                refine AL ?_
                refine CV (l02Index_fn G l _ _ hl) ?_
                have hie : (pc.1, pc.2) = pc := rfl
                rw [hie]
                have hil3 : 0 ≤ idxM l pc → (idxM l pc).toNat < l.length := fun h => (idxM_lt h).1
                generalize idxM l pc = ix at ha hil3
                by_cases ci : ix ≥ 0
                · have hilt := hil3 ci
                  have hri : (ints s.1)[ix.toNat]? = some [.i .i64 (s.1.getD ix.toNat 0)] := ints_at (by omega)
                  have hset2 : (ints s.1).set ix.toNat [PV.i .i64 i] = ints (s.1.set ix.toNat (i : Int)) := by rw [ints_set]
                  generalize hyv : s.1.getD ix.toNat 0 = y at hri ha
                  clear hil3 hyv
                  by_cases cy : y < 0
                  · obtain ⟨rows, hHq, (⟨h6, rfl⟩ | ⟨lo, h6, hlo, hdr⟩)⟩ := hopn
                    all_goals
                      refine AL ?_
                      refine ⟨4 - (k + 1), by omega, k + 1, e3 + 1, (s.1.set ix.toNat (i : Int), s.2 ++ [ix]), by omega, by rw [hfk.out, ha.out, if_pos ⟨ci, cy⟩], by omega, by simp [setF_if, *], by simp [setF_if, *], by simp [setF_if, *], by simp [setF_if, *], by simp [setF_if, *], by simp [setF_if, upd_if, *], ?_⟩
                      first
                      | exact ⟨ints s.2 ++ [[.i .i64 ix]], by simp [upd_if, *], .inl ⟨by simp [setF_if], by rw [ints_app]; rfl⟩⟩
                      | exact ⟨rows.drop lo ++ [[.i .i64 ix]], by simp [upd_if, *], .inl ⟨by simp [setF_if], by rw [ints_app, hdr]; rfl⟩⟩
                  · refine AL ?_
                    refine ⟨4 - (k + 1), by omega, k + 1, e3, s, by omega, by rw [hfk.out, ha.out, if_neg (fun h => cy h.2)], by omega, by simp [setF_if, *], by simp [setF_if, *], by simp [setF_if, *], by simp [setF_if, *], by simp [setF_if, *], by simp [setF_if, upd_if, *], ?_⟩
                    simpa [setF_if] using hopn
                · refine AL ?_
                  refine ⟨4 - (k + 1), by omega, k + 1, e3, s, by omega, by rw [hfk.out, ha.out, if_neg (fun h => ci h.1)], by omega, by simp [setF_if, *], by simp [setF_if, *], by simp [setF_if, *], by simp [setF_if, *], by simp [setF_if, *], by simp [setF_if, upd_if, *], ?_⟩
                  simpa [setF_if] using hopn
              · have ek : k = 4 := by omega
                subst ek
                have hs4 : s = lookAll l i (o2, rest) p := by rw [hs, show (4 : Nat) = (aroundM p).length from rfl, List.take_length]; rfl
                refine AL ?_
                have hf4 : okP l s ∧ openN s.1 + s.2.length = openN o2 + rest.length := by rw [hs4]; exact hf.out
                refine ⟨d - 1, by omega, q, e3, s.1, s.2, by omega, by omega, hf4.1, by rw [← hrun.out, hrunS.out, ← hs4], by omega, by omega, by simp [setF_if, *], by simp [setF_if, *], by simp [setF_if, *], by simp [setF_if, upd_if, *], ?_⟩
                simpa [setF_if] using hopn
      · have e' : i = l.length := by omega
        subst e'
        refine AL ?_
        simp [retA, backA, newSl, newB, hH]
end Go.Proofs
end
section
open Go Go.Big
namespace Go.Proofs
set_option maxHeartbeats 2000000
theorem cellKeyLaw : WideMaps.KeyLaw Tryz.prog 142 := deep_law_gate (by kernel_rfl) (by rw [show Tryz.prog.types.size = 333 by kernel_rfl]; omega) (by rw [show Tryz.prog.types.size = 333 by kernel_rfl]; decide) (by kernel_rfl) (by kernel_rfl)
theorem cellDepth : Tryz.prog.types.size + 1 = 333 + 1 := by kernel_rfl
theorem cellKey (a b : Int) (ha : wf64 a) (hb : wf64 b) : ∃ l, keyOf Tryz.prog 142 (.agg #[.int .i64 a, .int .i64 b]) = some l := by
  unfold keyOf
  rw [Tryz.underlying142]
  simp only [show (Tryz.prog.keyType 142 && Value.formed Tryz.prog 142 (.agg #[.int .i64 a, .int .i64 b])) = true by kernel_rfl, if_true, cellDepth]
  have h1 : ∀ c, wf64 c → Tryz.prog.keyLits 333 2 [.int .i64 c] = some [.int .i64 c] := fun c hc => by
    simp only [Program.keyLits, Tryz.underlying2]
    rw [if_pos ⟨trivial, hc⟩]
  have h2 : Tryz.prog.keyLits (333 + 1) 142 (Value.agg #[.int .i64 a, .int .i64 b]).cells.toList = some [.int .i64 a, .int .i64 b] := by
    rw [Program.keyLits.eq_def]
    simp only [Tryz.underlying142]
    rw [if_pos ⟨by kernel_rfl, by kernel_rfl⟩]
    simp only [Value.cells, List.mapM_cons, List.mapM_nil, List.drop_zero, List.drop_succ_cons, show Tryz.prog.cellsOf 2 = 1 by kernel_rfl, List.take_succ_cons, List.take_zero]
    simp [h1 a ha, h1 b hb]
  rw [h2]
  exact ⟨_, rfl⟩
theorem cellMap : CellMap Tryz.prog 268 := ⟨142, 3, _, Tryz.underlying268, cellKeyLaw, cellKey, Go.Proofs.BT.i3, by kernel_rfl⟩
end Go.Proofs
end
