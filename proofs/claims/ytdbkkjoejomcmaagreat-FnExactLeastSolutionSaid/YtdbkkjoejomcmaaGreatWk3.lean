/- Walks: Neighbours that are equal are taken out. No condition. | Cells sorted by the library. No condition. | The program's forms. No condition. | Neighbours that are equal are taken out: the array stays one's own; and the program's forms so. No condition. | More words. No condition. | More words: shared calls as makers in drawn regions. No condition. -/
import Derived.Test.YtdbkkjoejomcmaaGreatBO
import Derived.Test.YtdbkkjoejomcmaaGreatWk2
import Derived.Test.YtdbkkjoejomcmaaGreatBigSort
import Derived.Test.YtdbkkjoejomcmaaGreatBC
import Derived.Test.YtdbkkjoejomcmaaGreatWk1
import Derived.Test.YtdbkkjoejomcmaaGreatBigSort1
import Derived.Test.YtdbkkjoejomcmaaGreatBigL
set_option linter.unusedVariables false
set_option linter.unusedSimpArgs false
section
open Go Go.Big
namespace Go.Proofs
set_option maxHeartbeats 2000000
abbrev Shape := List (Int × Int)
def cptA (x : Shape) : List Shape → List Shape
  | [] => []
  | y :: l => if y = x then cptA y l else y :: cptA y l
def compactS : List Shape → List Shape
  | [] => []
  | x :: l => x :: cptA x l
theorem compact_prefix {ls : List Shape} : ∀ {k : Nat}, 1 ≤ k → k ≤ ls.length → (∀ j, 1 ≤ j → j < k → ls.getD j [] ≠ ls.getD (j - 1) []) → compactS ls = ls.take k ++ cptA (ls.getD (k - 1) []) (ls.drop k)
  | 0, h, _, _ => by omega
  | 1, _, hk, _ => by
    cases ls with
    | nil => simp at hk
    | cons x l => simp [compactS]
  | k + 2, _, hk, hall => by
    have ih := compact_prefix (ls := ls) (k := k + 1) (by omega) (by omega) (fun j h1 h2 => hall j h1 (by omega))
    rw [ih, dropS_at (l := ls) (i := k + 1) (by omega), cptA]
    have hne := hall (k + 1) (by omega) (by omega)
    rw [show k + 1 - 1 = k by omega] at hne ⊢
    have ht : ls.take (k + 2) = ls.take (k + 1) ++ [ls[k + 1]] := List.take_succ_eq_append_getElem (show k + 1 < ls.length by omega)
    rw [if_neg hne]
    show _ = List.take (k + 2) ls ++ cptA (ls.getD (k + 1) []) (List.drop (k + 2) ls)
    rw [ht, List.append_assoc]
    simp only [List.getD_eq_getElem?_getD, List.getElem?_eq_getElem (show k + 1 < ls.length by omega), Option.getD_some, List.singleton_append]
theorem shapesR_set (l : List Shape) (k : Nat) (v : Shape) : shapesR (l.set k v) = (shapesR l).set k [.sl (cells v)] := by simp [shapesR, List.map_set]
theorem shapesR_take (l : List Shape) (k : Nat) : shapesR (l.take k) = (shapesR l).take k := by simp [shapesR, List.map_take]
theorem shapesR_drop (l : List Shape) (k : Nat) : shapesR (l.drop k) = (shapesR l).drop k := by simp [shapesR, List.map_drop]
theorem compactFunc_fn (G : Gv) (ls : List Shape) (H : Heap) (n o e : Nat) (ho : o < n) (hH : H o = some (.arr e 32 1 (shapesR ls) 1)) (hls : ls.length < 1000000) (hl : ∀ l ∈ ls, l.length < 1000000000) :
    WC Tryz.prog G 199 [.own o e, .fn 200 []] H n (fun r H' n' => backA H' r = some (.sl 1 (shapesR (compactS ls)))) := by
  refine (.body Tryz.func199 rfl (by simp [Tryz.ntmps199]) ?_)
  rw [Tryz.ntmps199, Tryz.results199]
  have hlen := shapesR_len ls
  replace hl := Hid.mk hl
  by_cases c2 : (ls.length : Int) < 2
  · refine AL ?_
    have : compactS ls = ls := by
      match ls, c2 with
      | [], _ => rfl
      | [x], _ => rfl
      | _ :: _ :: _, h => simp at h; omega
    simp [retA, backA, newSl, newB, setF_if, this, hH]
  · refine AL ?_
    refine .loop (.inv (fun d E H n' => ∃ k : Nat, k + d = ls.length ∧ 1 ≤ k ∧ o < n' ∧ E 0 = .own o e ∧ E 1 = .fn 200 [] ∧ E 5 = .i .i64 k ∧ H o = some (.arr e 32 1 (shapesR ls) 1) ∧ (∀ j, 1 ≤ j → j < k → ls.getD j [] ≠ ls.getD (j - 1) [])) (ls.length - 1) ?_ ?_)
    · exact ⟨1, by omega, by omega, by omega, by simp [setF_if, argE], by simp [setF_if, argE], by simp [setF_if, argE], hH, fun j h1 h2 => by omega⟩
    clear hH ho c2
    rintro d E H n' ⟨k, hk, hk1, hon, h0, h1, h5, hH, hall⟩
    replace hall := Hid.mk hall
    by_cases c : (k : Int) < ls.length
    · have hw_k : IntKind.i64.wrap ((k : Int) + 1) = (k : Int) + 1 := wr64 (by omega) (by omega)
      have cN : k < ls.length := by omega
      have hr := shapesR_at (ls := ls) (i := k) cN
      have hr2 : (shapesR ls)[((k : Int) - 1).toNat]? = some [.sl (cells (ls.getD (k - 1) []))] := by rw [show ((k : Int) - 1).toNat = k - 1 by omega]; exact shapesR_at (by omega)
      have hw1 : IntKind.i64.wrap ((k : Int) - 1) = (k : Int) - 1 := wr64 (by omega) (by omega)
      have h01 : 0 ≤ (k : Int) - 1 := by omega
      have hlt2 : ((k : Int) - 1).toNat < ls.length := by omega
      have hmem : ∀ i, i < ls.length → (ls.getD i []).length < 1000000000 := fun i hi => hl.out _ (by rw [List.getD_eq_getElem?_getD, List.getElem?_eq_getElem hi]; exact List.getElem_mem _)
      have hx := hmem k cN
      have hy := hmem (k - 1) (by omega)
      have hpre := compact_prefix (ls := ls) (k := k) hk1 (by omega) hall.out
      rw [dropS_at cN, cptA] at hpre
      have hnx : ls.getD k [] ≠ ls.getD (k - 1) [] → ∀ j, 1 ≤ j → j < k + 1 → ls.getD j [] ≠ ls.getD (j - 1) [] := fun h j h1 h2 => by
        by_cases q : j = k
        · rw [q]; exact h
        · exact hall.out j h1 (by omega)
      replace hnx := Hid.mk hnx
      replace hpre := Hid.mk hpre
      replace hmem := Hid.mk hmem
      generalize hxe : ls.getD k [] = x at hr hx hpre hnx
      generalize ls.getD (k - 1) [] = y at hr2 hy hpre hnx
      replace hxe := Hid.mk hxe
      refine AL ?_
      refine CQ (equalShapes_fn G x y hx hy) ?_
      by_cases ceq : x = y
      · have hd : decide (x = y) = true := by simp [ceq]
        have hpre2 := hpre.out
        rw [if_pos ceq] at hpre2
        replace hpre2 := Hid.mk hpre2
        replace ceq := Hid.mk ceq
        clear hpre hnx hr hr2
        have hkn : (k ≤ ls.length) = True := by simp; omega
        refine AL ?_
        refine .loop (.inv (fun d2 E H n' => ∃ (j kk : Nat) (R : List Shape), k + j + d2 = ls.length ∧ 1 ≤ j ∧ kk ≤ k + j - 1 ∧ R.length = ls.length ∧ R.drop (k + j - 1) = ls.drop (k + j - 1) ∧ R.take kk ++ cptA (ls.getD (k + j - 1) []) (ls.drop (k + j)) = compactS ls ∧ o < n' ∧ E 0 = .own o e ∧ E 1 = .fn 200 [] ∧ E 5 = .i .i64 kk ∧ E 6 = .vw o e k (ls.length - k) ∧ E 7 = .i .i64 j ∧ H o = some (.arr e 32 1 (shapesR R) 1)) (ls.length - k - 1) ?_ ?_)
        · exact ⟨1, k, ls, by omega, by omega, by omega, rfl, rfl, by rw [show k + 1 - 1 = k by omega, hxe.out]; exact hpre2.out.symm, by omega, by simp [setF_if, *], by simp [setF_if, *], by simp [setF_if, *], by simp [setF_if, *], by simp [setF_if, *], by simp [*]⟩
        clear hH h0 h1 h5 hon hpre2 hxe hw_k hw1 h01 hlt2 hx hy hall
        rintro d2 E H n' ⟨j, kk, R, hj, hj1, hkk, hRl, hRd, hRt, hon, h0, h1, h5, h6, h7, hH⟩
        have hRlen := shapesR_len R
        have htl : ((shapesR R).drop k |>.take (ls.length - k)).length = ls.length - k := by rw [List.length_take, List.length_drop, hRlen, hRl]; omega
        by_cases cj : (j : Int) < ((ls.length - k : Nat) : Int)
        · have hw_j : IntKind.i64.wrap ((j : Int) + 1) = (j : Int) + 1 := wr64 (by omega) (by omega)
          have hRx : R.getD (k + j) [] = ls.getD (k + j) [] := by
            have := congrArg (fun z : List Shape => z[1]?) hRd
            simp only [List.getElem?_drop] at this
            rw [show k + j - 1 + 1 = k + j by omega] at this
            simp only [List.getD_eq_getElem?_getD, this]
          have hRy : R.getD (k + j - 1) [] = ls.getD (k + j - 1) [] := by
            have := congrArg (fun z : List Shape => z[0]?) hRd
            simp only [List.getElem?_drop, Nat.add_zero] at this
            simp only [List.getD_eq_getElem?_getD, this]
          have hr := shapesR_at (ls := R) (i := k + j) (by omega)
          have hr2 : (shapesR R)[k + ((j : Int) - 1).toNat]? = some [.sl (cells (R.getD (k + j - 1) []))] := by rw [show k + ((j : Int) - 1).toNat = k + j - 1 by omega]; exact shapesR_at (by omega)
          have hr3 := shapesR_at (ls := R) (i := kk) (by omega)
          rw [hRx] at hr
          rw [hRy] at hr2
          have hw1 : IntKind.i64.wrap ((j : Int) - 1) = (j : Int) - 1 := wr64 (by omega) (by omega)
          have hwk : IntKind.i64.wrap ((kk : Int) + 1) = (kk : Int) + 1 := wr64 (by omega) (by omega)
          have h01 : 0 ≤ (j : Int) - 1 := by omega
          have hlt2 : ((j : Int) - 1).toNat < ls.length - k := by omega
          have hlt3 : j < ls.length - k := by omega
          have hlt4 : kk < ls.length := by omega
          have hx := hmem.out (k + j) (by omega)
          have hy := hmem.out (k + j - 1) (by omega)
          rw [dropS_at (l := ls) (i := k + j) (by omega), cptA] at hRt
          have hRd2 : R.drop (k + j) = ls.drop (k + j) := by
            have := congrArg (fun z : List Shape => z.drop 1) hRd
            simp only [List.drop_drop] at this
            rw [show k + j - 1 + 1 = k + j by omega] at this
            exact this
          have hset : ∀ z, (shapesR R).set kk [PV.sl (cells z)] = shapesR (R.set kk z) := fun z => (shapesR_set R kk z).symm
          replace hRt := Hid.mk hRt
          replace hRd := Hid.mk hRd2
          clear hRx hRy hRd2
          generalize hxe : ls.getD (k + j) [] = x at hr hx hRt
          generalize ls.getD (k + j - 1) [] = y at hr2 hy hRt
          replace hxe := Hid.mk hxe
          refine AL ?_
          refine CQ (equalShapes_fn G x y hx hy) ?_
          by_cases ceq : x = y
          · have hd : decide (x = y) = true := by simp [ceq]
            have hRt2 := hRt.out
            rw [if_pos ceq] at hRt2
            replace ceq := Hid.mk ceq
            replace hRt2 := Hid.mk hRt2
            have bt : (!true) = false := rfl
            refine AL ?_
            refine ⟨d2 - 1, by omega, j + 1, kk, R, by omega, by omega, by omega, hRl, by rw [show k + (j + 1) - 1 = k + j by omega]; exact hRd.out, by rw [show k + (j + 1) - 1 = k + j by omega, hxe.out]; exact hRt2.out, by omega, by simp [setF_if, *], by simp [setF_if, *], by simp [setF_if, *], by simp [setF_if, *], by simp [setF_if, *], by simp [*]⟩
          · have hd : decide (x = y) = false := by simp [ceq]
            have hRt2 := hRt.out
            rw [if_neg ceq] at hRt2
            replace ceq := Hid.mk ceq
            replace hRt2 := Hid.mk hRt2
            have bt : (!false) = true := rfl
            refine AL ?_
            refine ⟨d2 - 1, by omega, j + 1, kk + 1, R.set kk x, by omega, by omega, by omega, by rw [List.length_set]; exact hRl, ?_, ?_, by omega, by simp [setF_if, *], by simp [setF_if, *], by simp [setF_if, *], by simp [setF_if, *], by simp [setF_if, *], by simp [upd_if, *]⟩
            · rw [show k + (j + 1) - 1 = k + j by omega, List.drop_set_of_lt (by omega)]; exact hRd.out
            · rw [show k + (j + 1) - 1 = k + j by omega, hxe.out, List.take_succ_eq_append_getElem (by rw [List.length_set]; omega), List.take_set_of_le (Nat.le_refl _), List.getElem_set_self]
              have := hRt2.out
              simpa [Nat.add_assoc] using this
        · have ej : k + j = ls.length := by omega
          have hRt2 : R.take kk = compactS ls := by
            rw [ej, List.drop_length, cptA, List.append_nil] at hRt
            exact hRt
          replace hRt2 := Hid.mk hRt2
          clear hRt hRd hmem
          have hkl : (kk ≤ ls.length) = True := by simp; omega
          have hsum : (kk + (ls.length - kk) = ls.length) = True := by simp; omega
          have hcl : (List.take kk (shapesR R) ++ List.replicate (ls.length - kk) [PV.sl []]).length = ls.length := by simp; omega
          refine AL ?_
          rw [← hRt2.out, shapesR_take]
          simp [retA, backA, newSl, newB, upd_if, List.take_append, List.take_take, hRlen]
          omega
      · have hd : decide (x = y) = false := by simp [ceq]
        replace hnx := Hid.mk (hnx.out ceq)
        clear ceq
        refine AL ?_
        refine ⟨ls.length - (k + 1), by omega, k + 1, by omega, ?_⟩
        exact ⟨by omega, by omega, by simp [setF_if, *], by simp [setF_if, *], by simp [setF_if, *], by simp [*], hnx.out⟩
    · have e' : k = ls.length := by omega
      have hpre := compact_prefix (ls := ls) (k := k) hk1 (by omega) hall.out
      subst e'
      rw [List.drop_length, cptA, List.append_nil, List.take_length] at hpre
      refine AL ?_
      simp [retA, backA, newSl, newB, setF_if, hH, hpre]
end Go.Proofs
end
section
open Go Go.Big
namespace Go.Proofs
set_option maxHeartbeats 2000000
theorem clone_fn (G : Gv) (l : List (Int × Int)) (H : Heap) (n : Nat) (h1 : 0 < l.length) (hl : l.length < 1000000000) :
    WC Tryz.prog G 254 [.sl 0 (cells l)] H n (fun r H' n' => ∃ o e, r = .own o e ∧ o < n' ∧ H' o = some (.arr e 117 2 (cells l) 0)) := by
  refine (.body Tryz.func254 rfl (by simp [Tryz.ntmps254]) ?_)
  rw [Tryz.ntmps254, Tryz.results254]
  have hfit : ∀ r ∈ cells l, r.length = 2 := by
    intro r hr
    obtain ⟨p, _, rfl⟩ := List.mem_map.mp hr; rfl
  have hlen := cells_len l
  have hb : l.length * 16 ≤ 140737488355328 := by omega
  generalize cells l = rows at *
  cases rows with
  | nil => simp at hlen; omega
  | cons r rs =>
    have hb2 : (rs.length + 1) * 16 ≤ 140737488355328 := by simp only [List.length_cons] at hlen; omega
    have hfd : decide (∀ x ∈ r :: rs, x.length = 2) = true := decide_eq_true hfit
    clear hb hlen hfit
    refine AL ?_
    exact ⟨n + 3, 1, by simp [retA, setF_if], by omega, by simp [upd_if]⟩
theorem decode_cells {l : List (Int × Int)} {rows : List (List PV)} (h : ∀ r ∈ rows, r ∈ cells l) : ∃ k, rows = cells k ∧ ∀ p ∈ k, p ∈ l := by
  induction rows with
  | nil => exact ⟨[], rfl, by simp⟩
  | cons r rs ih =>
    obtain ⟨k, h1, h2⟩ := ih (fun x hx => h x (List.mem_cons_of_mem _ hx))
    obtain ⟨p, hp, rfl⟩ := List.mem_map.mp (h r List.mem_cons_self)
    refine ⟨p :: k, by rw [h1]; rfl, fun x hx => ?_⟩
    rcases List.mem_cons.mp hx with rfl | hx
    · exact hp
    · exact h2 x hx
def rowC (r : List PV) : Int × Int := match r with
  | [.i _ a, .i _ b] => (a, b)
  | _ => (0, 0)
def cfC (a b : List PV) : Int := cmpC (rowC a).1 (rowC a).2 (rowC b).1 (rowC b).2
def goodC (r : List PV) : Prop := ∃ a b, r = [.i .i64 a, .i .i64 b]
def noG : Gv := fun _ _ _ _ _ _ _ => False
theorem cmpC_neg {a b c d : Int} : cmpC a b c d < 0 ↔ lessC a b c d = true := by
  rw [cmpC_cases]
  by_cases h1 : lessC a b c d = true
  · simp [h1]
  · rw [if_neg h1]
    simp only [h1]
    split <;> simp
theorem lessC_total {a b : Int × Int} (h1 : lessC a.1 a.2 b.1 b.2 = false) (h2 : lessC b.1 b.2 a.1 a.2 = false) : a = b := by
  simp only [lessC, Bool.or_eq_false_iff, Bool.and_eq_false_iff, decide_eq_false_iff_not, beq_eq_false_iff_ne] at h1 h2
  apply Prod.ext <;> omega
theorem lessC_trans' {a b c : Int × Int} (h1 : lessC a.1 a.2 b.1 b.2 = true) (h2 : lessC b.1 b.2 c.1 c.2 = true) : lessC a.1 a.2 c.1 c.2 = true := by
  simp only [lessC, Bool.or_eq_true, Bool.and_eq_true, decide_eq_true_eq, beq_iff_eq] at *; omega
theorem lessC_ntrans {a b c : Int × Int} (h1 : lessC a.1 a.2 b.1 b.2 = false) (h2 : lessC b.1 b.2 c.1 c.2 = false) : lessC a.1 a.2 c.1 c.2 = false := by
  simp only [lessC, Bool.or_eq_false_iff, Bool.and_eq_false_iff, decide_eq_false_iff_not, beq_eq_false_iff_ne] at *; omega
theorem lessC_self (a b : Int) : lessC a b a b = false := by simp [lessC]
theorem cmpCells_ok : CmpOk Tryz.prog noG 184 goodC cfC where
  gives := by
    rintro _ _ ⟨a, b, rfl⟩ ⟨c, d, rfl⟩
    exact compareCells_fn noG a b c d
  irrefl := by
    rintro _ ⟨a, b, rfl⟩
    simp [cfC, rowC, cmpC_neg, lessC_self]
  trans := by
    rintro _ _ _ ⟨a, b, rfl⟩ ⟨c, d, rfl⟩ ⟨e, f, rfl⟩
    simp only [cfC, rowC, cmpC_neg]
    exact fun h1 h2 => lessC_trans' (a := (a, b)) (b := (c, d)) (c := (e, f)) h1 h2
  ntrans := by
    rintro _ _ _ ⟨a, b, rfl⟩ ⟨c, d, rfl⟩ ⟨e, f, rfl⟩
    simp only [cfC, rowC, cmpC_neg, Bool.not_eq_true]
    exact fun h1 h2 => lessC_ntrans (a := (a, b)) (b := (c, d)) (c := (e, f)) h1 h2
theorem insM_perm (c : Int × Int) : ∀ l, (insM c l).Perm (c :: l)
  | [] => .refl _
  | p :: l => by
    unfold insM
    split
    · exact .refl _
    · exact ((insM_perm c l).cons p).trans (.swap c p l)
theorem sortM_perm (l : List (Int × Int)) : (sortM l).Perm l := by
  have : ∀ (l a : List (Int × Int)), (l.foldl (fun a c => insM c a) a).Perm (l ++ a) := by
    intro l
    induction l with
    | nil => intro a; exact .refl _
    | cons c l ih =>
      intro a
      rw [List.foldl_cons]
      refine (ih _).trans ?_
      refine ((insM_perm c a).append_left l).trans ?_
      exact List.perm_middle
  have h := this l []
  rw [List.append_nil] at h
  exact h
theorem insM_sorted (c : Int × Int) : ∀ {l : List (Int × Int)}, l.Pairwise (fun a b => lessC b.1 b.2 a.1 a.2 = false) → (insM c l).Pairwise (fun a b => lessC b.1 b.2 a.1 a.2 = false)
  | [], _ => by simp [insM]
  | p :: l, h => by
    rw [List.pairwise_cons] at h
    unfold insM
    split
    · rename_i q
      have hq : lessC p.1 p.2 c.1 c.2 = false := by
        cases z : lessC p.1 p.2 c.1 c.2 with
        | false => rfl
        | true => have := lessC_trans' (a := c) (b := p) (c := c) q z; rw [lessC_self] at this; simp at this
      rw [List.pairwise_cons, List.pairwise_cons]
      refine ⟨fun x hx => ?_, h⟩
      rcases List.mem_cons.mp hx with rfl | hx
      · exact hq
      · exact lessC_ntrans (h.1 x hx) hq
    · rename_i q
      rw [List.pairwise_cons]
      refine ⟨fun x hx => ?_, insM_sorted c h.2⟩
      rcases List.mem_cons.mp ((insM_perm c l).mem_iff.mp hx) with rfl | hx
      · simpa using q
      · exact h.1 x hx
theorem sortM_sorted (l : List (Int × Int)) : (sortM l).Pairwise (fun a b => lessC b.1 b.2 a.1 a.2 = false) := by
  have : ∀ (l a : List (Int × Int)), a.Pairwise (fun a b => lessC b.1 b.2 a.1 a.2 = false) → (l.foldl (fun a c => insM c a) a).Pairwise (fun a b => lessC b.1 b.2 a.1 a.2 = false) := by
    intro l
    induction l with
    | nil => intro a h; exact h
    | cons c l ih => intro a h; exact ih _ (insM_sorted c h)
  exact this l [] .nil
theorem sorted_unique {l : List (Int × Int)} {rows2 : List (List PV)} (hp : rows2.Perm (cells l)) (hs : rows2.Pairwise (fun a b => ¬ cfC b a < 0)) : rows2 = cells (sortM l) := by
  obtain ⟨k, rfl, _⟩ := decode_cells (l := l) (fun r hr => hp.mem_iff.mp hr)
  have hk : k.Pairwise (fun a b => lessC b.1 b.2 a.1 a.2 = false) := by
    unfold cells at hs
    rw [List.pairwise_map] at hs
    refine hs.imp fun {a b} h => ?_
    simpa [cfC, rowC, cmpC_neg] using h
  have hpk : k.Perm l := by
    have : ∀ z : List (Int × Int), (cells z).map rowC = z := fun z => by simp [cells, rowC, Function.comp_def]
    have h2 := hp.map rowC
    rwa [this, this] at h2
  congr 1
  exact List.Perm.eq_of_pairwise (fun a b _ _ h1 h2 => lessC_total h2 h1) hk (sortM_sorted l) (hpk.trans (sortM_perm l).symm)
theorem enters_cmpCells (args : Array Value) (w : World) : (callFunc 184 args).run Tryz.prog w = .ok (.enter 184 args) w := enters_of Tryz.func184 (by kernel_rfl) rfl args w
/-- The sorts that are given. -/
def sortsG : Gv := SortG Tryz.prog noG 255 2
theorem sorted_fn (G : Gv) (hG : ∀ f args H n r H' n', sortsG f args H n r H' n' → G f args H n r H' n') (l : List (Int × Int)) (h1 : 0 < l.length) (hl : l.length < 1000000000) : Gives Tryz.prog G 234 [.sl 0 (cells l)] (.sl 1 (cells (sortM l))) := by
  refine .of (.body Tryz.func234 rfl (by simp [Tryz.ntmps234]) ?_)
  rw [Tryz.ntmps234, Tryz.results234]
  replace hG := Hid.mk hG
  refine AL ?_
  refine CI ?_
  refine (clone_fn G l _ _ h1 hl).mono ?_
  rintro r H n ⟨o, e, rfl, hon, hH⟩
  refine AL ?_
  refine CI ?_
  refine WC_given (hG.out _ _ _ _ (.tup []) (H.upd o (.arr e 117 2 (cells (sortM l)) 0)) _ ⟨rfl, rfl, rfl, 184, o, e, 117, cells l, 0, cells (sortM l), goodC, cfC, rfl, hH, rfl, fun h0 => ?_, ?_, by decide, ?_, cmpCells_ok, enters_cmpCells, fun rows2 => sorted_unique⟩) ?_
  · have := cells_len l; rw [h0] at this; simp at this; omega
  · rw [cells_len]; omega
  · intro r hr
    obtain ⟨p, _, rfl⟩ := List.mem_map.mp hr
    exact ⟨_, _, rfl⟩
  have hnb : newB 0 (cells (sortM l)) := .inr (fun r hr p hp => by
    obtain ⟨c, _, rfl⟩ := List.mem_map.mp hr
    simp at hp; rcases hp with rfl | rfl <;> rfl)
  refine AL ?_
  simp [retA, backA, newSl, setF_if, upd_if, hnb]
end Go.Proofs
end
section
open Go Go.Big
namespace Go.Proofs
set_option maxHeartbeats 2000000
theorem cmpL_trich : ∀ {l k : Shape}, l.length = k.length → cmpL l k < 0 ∨ l = k ∨ cmpL k l < 0
  | [], [], _ => .inr (.inl rfl)
  | [], _ :: _, h => by simp at h
  | _ :: _, [], h => by simp at h
  | p :: l, q :: k, h => by
    have hl : l.length = k.length := by simpa using h
    simp only [cmpL]
    by_cases c1 : lessC p.1 p.2 q.1 q.2 = true
    · rw [if_pos c1]; exact .inl (by decide)
    · by_cases c2 : lessC q.1 q.2 p.1 p.2 = true
      · exact .inr (.inr (by rw [if_pos c2]; decide))
      · rw [if_neg c1, if_neg c2, if_neg c2, if_neg c1]
        simp only [Bool.not_eq_true] at c1 c2
        rcases cmpL_trich hl with h | h | h
        · exact .inl h
        · exact .inr (.inl (by rw [lessC_total c1 c2, h]))
        · exact .inr (.inr h)
theorem cmpL_self : ∀ l : Shape, cmpL l l = 0
  | [] => rfl
  | p :: l => by simp only [cmpL, lessC_self]; simpa using cmpL_self l
theorem cmpL_trans : ∀ {l k m : Shape}, l.length = k.length → k.length = m.length → cmpL l k < 0 → cmpL k m < 0 → cmpL l m < 0
  | [], [], _, _, _, h, _ => by simp [cmpL] at h
  | [], _ :: _, _, h, _, _, _ => by simp at h
  | _ :: _, [], _, h, _, _, _ => by simp at h
  | p :: l, q :: k, [], _, h, _, _ => by simp at h
  | p :: l, q :: k, r :: m, h1, h2, h3, h4 => by
    have e1 : l.length = k.length := by simpa using h1
    have e2 : k.length = m.length := by simpa using h2
    simp only [cmpL] at h3 h4 ⊢
    by_cases a1 : lessC p.1 p.2 q.1 q.2 = true
    · by_cases b1 : lessC q.1 q.2 r.1 r.2 = true
      · rw [if_pos (lessC_trans' a1 b1)]; decide
      · rw [if_neg b1] at h4
        by_cases b2 : lessC r.1 r.2 q.1 q.2 = true
        · rw [if_pos b2] at h4; simp at h4
        · simp only [Bool.not_eq_true] at b1 b2
          obtain rfl := lessC_total b1 b2
          rw [if_pos a1]; decide
    · rw [if_neg a1] at h3
      by_cases a2 : lessC q.1 q.2 p.1 p.2 = true
      · rw [if_pos a2] at h3; simp at h3
      · rw [if_neg a2] at h3
        simp only [Bool.not_eq_true] at a1 a2
        obtain rfl := lessC_total a1 a2
        by_cases b1 : lessC p.1 p.2 r.1 r.2 = true
        · rw [if_pos b1]; decide
        · rw [if_neg b1] at h4 ⊢
          by_cases b2 : lessC r.1 r.2 p.1 p.2 = true
          · rw [if_pos b2] at h4; simp at h4
          · rw [if_neg b2] at h4 ⊢
            exact cmpL_trans e1 e2 h3 h4
theorem cmpM_lt {l k : Shape} : cmpM l k < 0 ↔ l.length < k.length ∨ l.length = k.length ∧ cmpL l k < 0 := by
  unfold cmpM
  split
  · rename_i h; simp [h]
  · rename_i h
    split
    · rename_i h2; simp [h2]
    · rename_i h2; simp [h, h2]
theorem cmpM_trich (l k : Shape) : cmpM l k < 0 ∨ l = k ∨ cmpM k l < 0 := by
  rw [cmpM_lt, cmpM_lt]
  by_cases h : l.length = k.length
  · rcases cmpL_trich h with q | q | q
    · exact .inl (.inr ⟨h, q⟩)
    · exact .inr (.inl q)
    · exact .inr (.inr (.inr ⟨h.symm, q⟩))
  · by_cases h2 : l.length < k.length
    · exact .inl (.inl h2)
    · exact .inr (.inr (.inl (by omega)))
theorem cmpM_irrefl (l : Shape) : ¬ cmpM l l < 0 := by rw [cmpM_lt, cmpL_self]; simp
theorem cmpM_trans {l k m : Shape} (h1 : cmpM l k < 0) (h2 : cmpM k m < 0) : cmpM l m < 0 := by
  rw [cmpM_lt] at *
  rcases h1 with h1 | ⟨e1, h1⟩ <;> rcases h2 with h2 | ⟨e2, h2⟩
  · exact .inl (by omega)
  · exact .inl (by omega)
  · exact .inl (by omega)
  · exact .inr ⟨e1.trans e2, cmpL_trans e1 e2 h1 h2⟩
theorem cmpM_ntrans {l k m : Shape} (h1 : ¬ cmpM l k < 0) (h2 : ¬ cmpM k m < 0) : ¬ cmpM l m < 0 := by
  intro h
  rcases cmpM_trich l k with q | q | q
  · exact h1 q
  · subst q; exact h2 h
  · exact h2 (cmpM_trans q h)
theorem cmpM_total {l k : Shape} (h1 : ¬ cmpM l k < 0) (h2 : ¬ cmpM k l < 0) : l = k := by
  rcases cmpM_trich l k with q | q | q
  · exact absurd q h1
  · exact q
  · exact absurd q h2
theorem cmpM_zero {l k : Shape} : cmpM l k = 0 ↔ l = k := by
  constructor
  · intro h
    refine cmpM_total (by omega) ?_
    intro h2
    rw [cmpM_lt] at h2
    unfold cmpM at h
    split at h
    · rename_i e
      rcases h2 with h2 | ⟨_, h2⟩
      · omega
      · have : ∀ {l k : Shape}, cmpL l k = 0 → cmpL k l < 0 → l.length = k.length → False := by
          intro l
          induction l with
          | nil => intro k _ h2 e; cases k with
            | nil => simp [cmpL] at h2
            | cons => simp at e
          | cons p l ih =>
            intro k h1 h2 e
            cases k with
            | nil => simp at e
            | cons q k =>
              simp only [cmpL] at h1 h2
              by_cases c1 : lessC p.1 p.2 q.1 q.2 = true
              · rw [if_pos c1] at h1; simp at h1
              · rw [if_neg c1] at h1
                by_cases c2 : lessC q.1 q.2 p.1 p.2 = true
                · rw [if_pos c2] at h1; simp at h1
                · rw [if_neg c2] at h1
                  rw [if_neg c2, if_neg c1] at h2
                  exact ih h1 h2 (by simpa using e)
        exact this h h2 e
    · split at h <;> simp at h
  · rintro rfl; unfold cmpM; rw [if_pos rfl, cmpL_self]
def rowS (r : List PV) : Shape := match r with
  | [.sl rows] => rows.map rowC
  | _ => []
def cfS (a b : List PV) : Int := cmpM (rowS a) (rowS b)
def goodS (r : List PV) : Prop := ∃ l : Shape, r = [.sl (cells l)] ∧ l.length < 1000000000
theorem rowS_cells (l : Shape) : rowS [.sl (cells l)] = l := by
  show (cells l).map rowC = l
  simp [cells, rowC, Function.comp_def]
theorem cmpShapes_ok : CmpOk1 Tryz.prog noG 198 goodS cfS where
  gives := by
    rintro a b ⟨l, h1, h2⟩ ⟨k, h3, h4⟩
    simp only [List.cons.injEq, and_true] at h1 h3
    subst h1; subst h3
    have := compareShapes_fn noG l k h2 h4
    simpa only [cfS, rowS_cells, avOf] using this
  irrefl := by
    rintro _ ⟨l, rfl, _⟩
    simp only [cfS]; exact cmpM_irrefl _
  trans := fun a b c _ _ _ h1 h2 => cmpM_trans h1 h2
  ntrans := fun a b c _ _ _ h1 h2 => cmpM_ntrans h1 h2
theorem decode_shapes {ls : List Shape} {rows : List (List PV)} (h : ∀ r ∈ rows, r ∈ shapesR ls) : ∃ k, rows = shapesR k := by
  induction rows with
  | nil => exact ⟨[], rfl⟩
  | cons r rs ih =>
    obtain ⟨k, h1⟩ := ih (fun x hx => h x (List.mem_cons_of_mem _ hx))
    obtain ⟨p, hp, rfl⟩ := List.mem_map.mp (h r List.mem_cons_self)
    exact ⟨p :: k, by rw [h1]; rfl⟩
/-- Shapes in order. -/
def orderS (ls : List Shape) : List Shape := ls.mergeSort fun a b => !decide (cmpM b a < 0)
theorem orderS_perm (ls : List Shape) : (orderS ls).Perm ls := List.mergeSort_perm _ _
theorem orderS_sorted (ls : List Shape) : (orderS ls).Pairwise fun a b => ¬ cmpM b a < 0 := by
  have := List.pairwise_mergeSort (le := fun a b : Shape => !decide (cmpM b a < 0)) (fun a b c h1 h2 => by
    simp only [Bool.not_eq_true', decide_eq_false_iff_not] at *; exact cmpM_ntrans h2 h1) (fun a b => by
    simp only [Bool.or_eq_true, Bool.not_eq_true', decide_eq_false_iff_not]
    by_cases h : cmpM b a < 0
    · exact .inr (fun h2 => cmpM_irrefl _ (cmpM_trans h h2))
    · exact .inl h) ls
  exact this.imp (fun h => by simpa using h)
theorem shapes_unique {ls : List Shape} {rows2 : List (List PV)} (hp : rows2.Perm (shapesR ls)) (hs : rows2.Pairwise (fun a b => ¬ cfS b a < 0)) : rows2 = shapesR (orderS ls) := by
  obtain ⟨k, rfl⟩ := decode_shapes (ls := ls) (fun r hr => hp.mem_iff.mp hr)
  have hk : k.Pairwise (fun a b => ¬ cmpM b a < 0) := by
    unfold shapesR at hs
    rw [List.pairwise_map] at hs
    refine hs.imp fun {a b} h => ?_
    simpa only [cfS, rowS_cells] using h
  have hpk : k.Perm ls := by
    have : ∀ z : List Shape, (shapesR z).map rowS = z := fun z => by
      unfold shapesR; rw [List.map_map]
      have : (rowS ∘ fun l : Shape => [PV.sl (cells l)]) = id := funext fun l => rowS_cells l
      rw [this, List.map_id]
    have h2 := hp.map rowS
    rwa [this, this] at h2
  congr 1
  exact List.Perm.eq_of_pairwise (fun a b _ _ h1 h2 => cmpM_total h2 h1) hk (orderS_sorted ls) (hpk.trans (orderS_perm ls).symm)
theorem enters_cmpShapes (args : Array Value) (w : World) : (callFunc 198 args).run Tryz.prog w = .ok (.enter 198 args) w := enters_of Tryz.func198 (by kernel_rfl) rfl args w
def sortsG1 : Gv := SortG1 Tryz.prog noG 197
def tidyM (ls : List Shape) : List Shape := compactS (orderS ls)
theorem tidyShapes_fn (G : Gv) (hG : ∀ f args H n r H' n', sortsG1 f args H n r H' n' → G f args H n r H' n') (ls : List Shape) (H : Heap) (n o e : Nat) (ho : o < n) (hH : H o = some (.arr e 32 1 (shapesR ls) 1)) (h1 : 0 < ls.length) (hls : ls.length < 1000000) (hl : ∀ l ∈ ls, l.length < 1000000000) :
    WC Tryz.prog G 159 [.own o e] H n (fun r H' n' => backA H' r = some (.sl 1 (shapesR (tidyM ls)))) := by
  refine (.body Tryz.func159 rfl (by simp [Tryz.ntmps159]) ?_)
  rw [Tryz.ntmps159, Tryz.results159]
  replace hG := Hid.mk hG
  replace hl := Hid.mk hl
  refine AL ?_
  refine CI ?_
  refine WC_given (hG.out _ _ _ _ (.tup []) (H.upd o (.arr e 32 1 (shapesR (orderS ls)) 1)) _ ⟨rfl, rfl, rfl, 198, o, e, 32, shapesR ls, 1, shapesR (orderS ls), goodS, cfS, rfl, hH, rfl, fun h0 => ?_, ?_, by decide, ?_, cmpShapes_ok, enters_cmpShapes, fun rows2 => shapes_unique⟩) ?_
  · have := shapesR_len ls; rw [h0] at this; simp at this; omega
  · rw [shapesR_len]; omega
  · intro r hr
    obtain ⟨p, hp, rfl⟩ := List.mem_map.mp hr
    exact ⟨p, rfl, hl.out p hp⟩
  refine AL ?_
  refine CI ?_
  have hp := orderS_perm ls
  refine (compactFunc_fn G (orderS ls) _ _ o e (by omega) (Heap.upd_same _ _ _) (by rw [hp.length_eq]; exact hls) (fun l hl' => hl.out l (hp.mem_iff.mp hl'))).mono ?_
  clear hp
  intro r H2 n2 hb
  refine AL ?_
  simpa [retA, setF_if, tidyM] using hb
theorem form_fn (G : Gv) (hG : ∀ f args H n r H' n', sortsG f args H n r H' n' → G f args H n r H' n') (l : List (Int × Int)) (t : Nat) (h1 : 0 < l.length) (hl : l.length < 1000000000) : Gives Tryz.prog G 201 [.sl 0 (cells l), .i .i64 t] (.sl 1 (cells (formM l t))) := by
  refine .of (.body Tryz.func201 rfl (by simp [Tryz.ntmps201]) ?_)
  rw [Tryz.ntmps201, Tryz.results201]
  have hlen := cells_len l
  have b1 : ((16 : Nat) : Int) * l.length ≤ 281474976710656 := by simp; omega
  have b2 : (l.length : Int) ≤ 9223372036854775807 := by omega
  have b3 : (0 : Int) ≤ l.length := by omega
  replace hG := Hid.mk hG
  refine AL ?_
  refine .loop (.inv (fun d E H n' => ∃ i : Nat, i + d = l.length ∧ 3 < n' ∧ E 1 = .i .i64 t ∧ E 11 = .sl 0 (cells l) ∧ E 12 = .i .i64 l.length ∧ E 13 = .i .i64 i ∧ ∃ e, E 5 = .own 3 e ∧ H 3 = some (.arr e 117 2 (cells (turnL (l.take i) t)) 1)) l.length ?_ ?_)
  · simp [setF_if, argE, upd_if, turnL, cells]
  rintro d E H n' ⟨i, hi, hn3, h1', h11, h12, h13, e, h5, hH⟩
  by_cases c : (i : Int) < l.length
  · have hr := cells_at (l := l) (i := i) (by omega)
    have hw_i : IntKind.i64.wrap ((i : Int) + 1) = (i : Int) + 1 := wr64 (by omega) (by omega)
    have hrl : (cells (turnL (l.take i) t)).length = i := by simp [cells, turnL]; omega
    have hb : (i + 1) * 16 ≤ 140737488355328 := by omega
    have htk := turn_take (l := l) (i := i) t (by omega)
    have hne : ∀ k, (3 = n' + k) = False := fun k => neAdd hn3
    have z1 : (n' = 0) = False := by simp; omega
    generalize l.getD i (0, 0) = p at hr htk
    refine AL ?_
    refine CV (turnCell_fn G _ _ _) ?_
    refine AL ?_
    refine ⟨l.length - (i + 1), by omega, i + 1, by omega, ?_⟩
    refine ⟨by omega, by simp [setF_if, *], by simp [setF_if, *], by simp [setF_if, *], by simp [setF_if, *], e + 1, by simp [setF_if, *], ?_⟩
    simp only [upd_if, neAdd hn3, reduceIte, htk]
  · have e' : i = l.length := by omega
    subst e'
    rw [List.take_length] at hH
    have k1 : 0 < (turnL l t).length := by rw [turnL_len]; exact h1
    have k2 : (turnL l t).length < 1000000000 := by rw [turnL_len]; exact hl
    refine AL ?_
    refine CV (sorted_fn G hG.out _ k1 k2) ?_
    refine AL ?_
    refine CV (normal_fn G _ (by rw [sortM_len]; exact k1) (by rw [sortM_len]; exact k2)) ?_
    refine AL ?_
    simp [retA, backA, newSl, newB, formM]
def formsL (l : Shape) (t : Nat) : List Shape := (List.range t).map (formM l)
theorem forms_fn (G : Gv) (hG : ∀ f args H n r H' n', sortsG f args H n r H' n' → G f args H n r H' n') (l : Shape) (t : Nat) (H : Heap) (n : Nat) (h1 : 0 < l.length) (hl : l.length < 1000000000) (ht : t < 1000000) :
    WC Tryz.prog G 160 [.sl 0 (cells l), .i .i64 t] H n (fun r H' n' => ∃ o e, r = .own o e ∧ o < n' ∧ H' o = some (.arr e 32 1 (shapesR (formsL l t)) 1)) := by
  refine (.body Tryz.func160 rfl (by simp [Tryz.ntmps160]) ?_)
  rw [Tryz.ntmps160, Tryz.results160]
  replace hG := Hid.mk hG
  obtain ⟨m, hm⟩ : ∃ m, m = n + 1 := ⟨_, rfl⟩
  refine AL ?_
  refine .loop (.inv (fun d E H n' => ∃ (i : Nat), i + d = t ∧ m < n' ∧ E 0 = .sl 0 (cells l) ∧ E 8 = .i .i64 t ∧ E 9 = .i .i64 i ∧ ∃ e, E 5 = .own m e ∧ H m = some (.arr e 32 1 (shapesR (formsL l i)) 1)) t ?_ ?_)
  · subst hm
    exact ⟨0, by omega, by omega, by simp [setF_if, argE], by simp [setF_if, argE], by simp [setF_if, argE], 0, by simp [setF_if, argE], by simp [upd_if, formsL, shapesR]⟩
  clear hm
  rintro d E H n' ⟨i, hi, hmn, h0, h8, h9, e, h5, hH⟩
  by_cases c : (i : Int) < t
  · have hw_i : IntKind.i64.wrap ((i : Int) + 1) = (i : Int) + 1 := wr64 (by omega) (by omega)
    have hrl : (shapesR (formsL l i)).length = i := by simp [shapesR, formsL]
    have hb : (i + 1) * 24 ≤ 140737488355328 := by omega
    have htk : shapesR (formsL l i) ++ [[.sl (cells (formM l i))]] = shapesR (formsL l (i + 1)) := by simp [shapesR, formsL, List.range_succ]
    refine AL ?_
    refine CV (form_fn G hG.out l i h1 hl) ?_
    refine AL ?_
    refine ⟨t - (i + 1), by omega, i + 1, by omega, by omega, by simp [setF_if, *], by simp [setF_if, *], by simp [setF_if, *], e + 1, by simp [setF_if, *], ?_⟩
    simp only [upd_if, neAdd hmn, reduceIte, htk]
  · have e' : i = t := by omega
    subst e'
    refine AL ?_
    exact ⟨m, e, by simp [retA, setF_if, *], by omega, hH⟩
def formsI (p : PieceM) : List Shape := tidyM (formsL p.cs (if p.b then 8 else 4))
theorem formsOf_fn (G : Gv) (hG : ∀ f args H n r H' n', sortsG f args H n r H' n' → G f args H n r H' n') (hG1 : ∀ f args H n r H' n', sortsG1 f args H n r H' n' → G f args H n r H' n') (p : PieceM) (h1 : 0 < p.cs.length) (hl : p.cs.length < 1000000000) : Gives Tryz.prog G 135 [pieceA 0 p] (.sl 1 (shapesR (formsI p))) := by
  refine .of (.body Tryz.func135 rfl (by simp [Tryz.ntmps135]) ?_)
  rw [Tryz.ntmps135, Tryz.results135]
  replace hG := Hid.mk hG
  replace hG1 := Hid.mk hG1
  cases q : p.b with
  | true =>
    have hf : formsI p = tidyM (formsL p.cs 8) := by unfold formsI; rw [if_pos q]
    refine AL ?_
    refine CI ?_
    refine (forms_fn G hG.out p.cs 8 _ _ h1 hl (by omega)).mono ?_
    rintro r H2 n2 ⟨o, e, rfl, hon, hH⟩
    refine CI ?_
    refine (tidyShapes_fn G hG1.out _ _ _ o e (by omega) hH (by simp [formsL]) (by simp [formsL]) (fun x hx => by
      obtain ⟨i, _, rfl⟩ := List.mem_map.mp hx
      rw [formM_len]; exact hl)).mono ?_
    intro r H3 n3 hb
    refine AL ?_
    simpa [retA, setF_if, hf] using hb
  | false =>
    have hf : formsI p = tidyM (formsL p.cs 4) := by unfold formsI; rw [if_neg (by simp [q])]
    refine AL ?_
    refine CI ?_
    refine (forms_fn G hG.out p.cs 4 _ _ h1 hl (by omega)).mono ?_
    rintro r H2 n2 ⟨o, e, rfl, hon, hH⟩
    refine CI ?_
    refine (tidyShapes_fn G hG1.out _ _ _ o e (by omega) hH (by simp [formsL]) (by simp [formsL]) (fun x hx => by
      obtain ⟨i, _, rfl⟩ := List.mem_map.mp hx
      rw [formM_len]; exact hl)).mono ?_
    intro r H3 n3 hb
    refine AL ?_
    simpa [retA, setF_if, hf] using hb
end Go.Proofs
end
section
open Go Go.Big
namespace Go.Proofs
set_option maxHeartbeats 2000000
theorem compactFunc_own (G : Gv) (ls : List Shape) (H0 : Heap) (n0 o e : Nat) (ho : o < n0) (hH0 : H0 o = some (.arr e 32 1 (shapesR ls) 1)) (h1 : 0 < ls.length) (hls : ls.length < 1000000) (hl : ∀ l ∈ ls, l.length < 1000000000) :
    WC Tryz.prog G 199 [.own o e, .fn 200 []] H0 n0 (fun r H' n' => n0 ≤ n' ∧ (∀ k, k < n0 → k ≠ o → H' k = H0 k) ∧ ∃ e', r = .own o e' ∧ H' o = some (.arr e' 32 1 (shapesR (compactS ls)) 1)) := by
  refine (.body Tryz.func199 rfl (by simp [Tryz.ntmps199]) ?_)
  rw [Tryz.ntmps199, Tryz.results199]
  have hlen := shapesR_len ls
  replace hl := Hid.mk hl
  by_cases c2 : (ls.length : Int) < 2
  · refine AL ?_
    have : compactS ls = ls := by
      match ls, c2 with
      | [], _ => rfl
      | [x], _ => rfl
      | _ :: _ :: _, h => simp at h; omega
    exact ⟨by omega, fun k _ _ => by simp, e, by simp [retA, setF_if, argE], by rw [this]; exact hH0⟩
  · refine AL ?_
    refine .loop (.inv (fun d E H n' => ∃ k : Nat, k + d = ls.length ∧ 1 ≤ k ∧ n0 ≤ n' ∧ (∀ k, k < n0 → k ≠ o → H k = H0 k) ∧ E 0 = .own o e ∧ E 1 = .fn 200 [] ∧ E 5 = .i .i64 k ∧ H o = some (.arr e 32 1 (shapesR ls) 1) ∧ (∀ j, 1 ≤ j → j < k → ls.getD j [] ≠ ls.getD (j - 1) [])) (ls.length - 1) ?_ ?_)
    · exact ⟨1, by omega, by omega, by omega, fun k _ _ => rfl, by simp [setF_if, argE], by simp [setF_if, argE], by simp [setF_if, argE], hH0, fun j h1 h2 => by omega⟩
    clear hH0 c2
    rintro d E H n' ⟨k, hk, hk1, hnn, hfr, h0, h1, h5, hH, hall⟩
    have hon : o < n' := by omega
    replace hfr := Hid.mk hfr
    replace hall := Hid.mk hall
    by_cases c : (k : Int) < ls.length
    · have hw_k : IntKind.i64.wrap ((k : Int) + 1) = (k : Int) + 1 := wr64 (by omega) (by omega)
      have cN : k < ls.length := by omega
      have hr := shapesR_at (ls := ls) (i := k) cN
      have hr2 : (shapesR ls)[((k : Int) - 1).toNat]? = some [.sl (cells (ls.getD (k - 1) []))] := by rw [show ((k : Int) - 1).toNat = k - 1 by omega]; exact shapesR_at (by omega)
      have hw1 : IntKind.i64.wrap ((k : Int) - 1) = (k : Int) - 1 := wr64 (by omega) (by omega)
      have h01 : 0 ≤ (k : Int) - 1 := by omega
      have hlt2 : ((k : Int) - 1).toNat < ls.length := by omega
      have hmem : ∀ i, i < ls.length → (ls.getD i []).length < 1000000000 := fun i hi => hl.out _ (by rw [List.getD_eq_getElem?_getD, List.getElem?_eq_getElem hi]; exact List.getElem_mem _)
      have hx := hmem k cN
      have hy := hmem (k - 1) (by omega)
      have hpre := compact_prefix (ls := ls) (k := k) hk1 (by omega) hall.out
      rw [dropS_at cN, cptA] at hpre
      have hnx : ls.getD k [] ≠ ls.getD (k - 1) [] → ∀ j, 1 ≤ j → j < k + 1 → ls.getD j [] ≠ ls.getD (j - 1) [] := fun h j h1 h2 => by
        by_cases q : j = k
        · rw [q]; exact h
        · exact hall.out j h1 (by omega)
      replace hnx := Hid.mk hnx
      replace hpre := Hid.mk hpre
      replace hmem := Hid.mk hmem
      generalize hxe : ls.getD k [] = x at hr hx hpre hnx
      generalize ls.getD (k - 1) [] = y at hr2 hy hpre hnx
      replace hxe := Hid.mk hxe
      refine AL ?_
      refine CQ (equalShapes_fn G x y hx hy) ?_
      by_cases ceq : x = y
      · have hd : decide (x = y) = true := by simp [ceq]
        have hpre2 := hpre.out
        rw [if_pos ceq] at hpre2
        replace hpre2 := Hid.mk hpre2
        replace ceq := Hid.mk ceq
        clear hpre hnx hr hr2
        have hkn : (k ≤ ls.length) = True := by simp; omega
        refine AL ?_
        refine .loop (.inv (fun d2 E H n' => ∃ (j kk : Nat) (R : List Shape), k + j + d2 = ls.length ∧ 1 ≤ j ∧ kk ≤ k + j - 1 ∧ R.length = ls.length ∧ R.drop (k + j - 1) = ls.drop (k + j - 1) ∧ R.take kk ++ cptA (ls.getD (k + j - 1) []) (ls.drop (k + j)) = compactS ls ∧ 1 ≤ kk ∧ n0 ≤ n' ∧ (∀ k, k < n0 → k ≠ o → H k = H0 k) ∧ E 0 = .own o e ∧ E 1 = .fn 200 [] ∧ E 5 = .i .i64 kk ∧ E 6 = .vw o e k (ls.length - k) ∧ E 7 = .i .i64 j ∧ H o = some (.arr e 32 1 (shapesR R) 1)) (ls.length - k - 1) ?_ ?_)
        · exact ⟨1, k, ls, by omega, by omega, by omega, rfl, rfl, by rw [show k + 1 - 1 = k by omega, hxe.out]; exact hpre2.out.symm, by omega, by omega, hfr.out, by simp [setF_if, *], by simp [setF_if, *], by simp [setF_if, *], by simp [setF_if, *], by simp [setF_if, *], by simp [*]⟩
        clear hH h0 h1 h5 hon hfr hnn hpre2 hxe hw_k hw1 h01 hlt2 hx hy hall
        rintro d2 E H n' ⟨j, kk, R, hj, hj1, hkk, hRl, hRd, hRt, hk1', hnn, hfr, h0, h1, h5, h6, h7, hH⟩
        have hon : o < n' := by omega
        replace hfr := Hid.mk hfr
        have hRlen := shapesR_len R
        have htl : ((shapesR R).drop k |>.take (ls.length - k)).length = ls.length - k := by rw [List.length_take, List.length_drop, hRlen, hRl]; omega
        by_cases cj : (j : Int) < ((ls.length - k : Nat) : Int)
        · have hw_j : IntKind.i64.wrap ((j : Int) + 1) = (j : Int) + 1 := wr64 (by omega) (by omega)
          have hRx : R.getD (k + j) [] = ls.getD (k + j) [] := by
            have := congrArg (fun z : List Shape => z[1]?) hRd
            simp only [List.getElem?_drop] at this
            rw [show k + j - 1 + 1 = k + j by omega] at this
            simp only [List.getD_eq_getElem?_getD, this]
          have hRy : R.getD (k + j - 1) [] = ls.getD (k + j - 1) [] := by
            have := congrArg (fun z : List Shape => z[0]?) hRd
            simp only [List.getElem?_drop, Nat.add_zero] at this
            simp only [List.getD_eq_getElem?_getD, this]
          have hr := shapesR_at (ls := R) (i := k + j) (by omega)
          have hr2 : (shapesR R)[k + ((j : Int) - 1).toNat]? = some [.sl (cells (R.getD (k + j - 1) []))] := by rw [show k + ((j : Int) - 1).toNat = k + j - 1 by omega]; exact shapesR_at (by omega)
          have hr3 := shapesR_at (ls := R) (i := kk) (by omega)
          rw [hRx] at hr
          rw [hRy] at hr2
          have hw1 : IntKind.i64.wrap ((j : Int) - 1) = (j : Int) - 1 := wr64 (by omega) (by omega)
          have hwk : IntKind.i64.wrap ((kk : Int) + 1) = (kk : Int) + 1 := wr64 (by omega) (by omega)
          have h01 : 0 ≤ (j : Int) - 1 := by omega
          have hlt2 : ((j : Int) - 1).toNat < ls.length - k := by omega
          have hlt3 : j < ls.length - k := by omega
          have hlt4 : kk < ls.length := by omega
          have hx := hmem.out (k + j) (by omega)
          have hy := hmem.out (k + j - 1) (by omega)
          rw [dropS_at (l := ls) (i := k + j) (by omega), cptA] at hRt
          have hRd2 : R.drop (k + j) = ls.drop (k + j) := by
            have := congrArg (fun z : List Shape => z.drop 1) hRd
            simp only [List.drop_drop] at this
            rw [show k + j - 1 + 1 = k + j by omega] at this
            exact this
          have hset : ∀ z, (shapesR R).set kk [PV.sl (cells z)] = shapesR (R.set kk z) := fun z => (shapesR_set R kk z).symm
          replace hRt := Hid.mk hRt
          replace hRd := Hid.mk hRd2
          clear hRx hRy hRd2
          generalize hxe : ls.getD (k + j) [] = x at hr hx hRt
          generalize ls.getD (k + j - 1) [] = y at hr2 hy hRt
          replace hxe := Hid.mk hxe
          refine AL ?_
          refine CQ (equalShapes_fn G x y hx hy) ?_
          by_cases ceq : x = y
          · have hd : decide (x = y) = true := by simp [ceq]
            have hRt2 := hRt.out
            rw [if_pos ceq] at hRt2
            replace ceq := Hid.mk ceq
            replace hRt2 := Hid.mk hRt2
            have bt : (!true) = false := rfl
            refine AL ?_
            refine ⟨d2 - 1, by omega, j + 1, kk, R, by omega, by omega, by omega, hRl, by rw [show k + (j + 1) - 1 = k + j by omega]; exact hRd.out, by rw [show k + (j + 1) - 1 = k + j by omega, hxe.out]; exact hRt2.out, by omega, by omega, hfr.out, by simp [setF_if, *], by simp [setF_if, *], by simp [setF_if, *], by simp [setF_if, *], by simp [setF_if, *], by simp [*]⟩
          · have hd : decide (x = y) = false := by simp [ceq]
            have hRt2 := hRt.out
            rw [if_neg ceq] at hRt2
            replace ceq := Hid.mk ceq
            replace hRt2 := Hid.mk hRt2
            have bt : (!false) = true := rfl
            refine AL ?_
            refine ⟨d2 - 1, by omega, j + 1, kk + 1, R.set kk x, by omega, by omega, by omega, by rw [List.length_set]; exact hRl, ?_, ?_, by omega, by omega, fun k hk hko => by rw [upd_if, if_neg hko]; exact hfr.out k hk hko, by simp [setF_if, *], by simp [setF_if, *], by simp [setF_if, *], by simp [setF_if, *], by simp [setF_if, *], by simp [upd_if, *]⟩
            · rw [show k + (j + 1) - 1 = k + j by omega, List.drop_set_of_lt (by omega)]; exact hRd.out
            · rw [show k + (j + 1) - 1 = k + j by omega, hxe.out, List.take_succ_eq_append_getElem (by rw [List.length_set]; omega), List.take_set_of_le (Nat.le_refl _), List.getElem_set_self]
              have := hRt2.out
              simpa [Nat.add_assoc] using this
        · have ej : k + j = ls.length := by omega
          have hRt2 : R.take kk = compactS ls := by
            rw [ej, List.drop_length, cptA, List.append_nil] at hRt
            exact hRt
          replace hRt2 := Hid.mk hRt2
          clear hRt hRd hmem
          have hkl : (kk ≤ ls.length) = True := by simp; omega
          have hsum : (kk + (ls.length - kk) = ls.length) = True := by simp; omega
          have hfin : (((List.take kk (shapesR R) ++ List.replicate (ls.length - kk) [PV.sl []]).drop 0).take kk) = shapesR (compactS ls) := by
            rw [List.drop_zero, List.take_append_of_le_length (by rw [List.length_take, hRlen]; omega), List.take_take, Nat.min_self, ← shapesR_take, hRt2.out]
          replace hfin := Hid.mk hfin
          refine AX ?_
          have hcl : (List.take kk (shapesR R) ++ List.replicate (ls.length - kk) [PV.sl []]).length = ls.length := by simp; omega
          refine OP ?_
          refine OP ?_
          refine WR.trim 4 (o := o) (e := e) (lo := 0) (m := kk) (ty := 32) (sz := 1) (rows := List.take kk (shapesR R) ++ List.replicate (ls.length - kk) [PV.sl []]) (t := 1) (by simp [setF_if]) (by simp [upd_if]) (by omega) ?_
          refine AL ?_
          refine ⟨by omega, fun k hk hko => by rw [upd_if, if_neg hko, upd_if, if_neg hko]; exact hfr.out k hk hko, e + 1, by simp [retA, setF_if], ?_⟩
          rw [upd_if, if_pos rfl, hfin.out]
      · have hd : decide (x = y) = false := by simp [ceq]
        replace hnx := Hid.mk (hnx.out ceq)
        clear ceq
        refine AL ?_
        refine ⟨ls.length - (k + 1), by omega, k + 1, by omega, ?_⟩
        exact ⟨by omega, by omega, hfr.out, by simp [setF_if, *], by simp [setF_if, *], by simp [setF_if, *], by simp [*], hnx.out⟩
    · have e' : k = ls.length := by omega
      have hpre := compact_prefix (ls := ls) (k := k) hk1 (by omega) hall.out
      subst e'
      rw [List.drop_length, cptA, List.append_nil, List.take_length] at hpre
      refine AL ?_
      exact ⟨by omega, hfr.out, e, by simp [retA, setF_if, h0], by rw [hpre]; exact hH⟩
theorem tidyShapes_own (G : Gv) (hG : ∀ f args H n r H' n', sortsG1 f args H n r H' n' → G f args H n r H' n') (ls : List Shape) (H0 : Heap) (n0 o e : Nat) (ho : o < n0) (hH : H0 o = some (.arr e 32 1 (shapesR ls) 1)) (h1 : 0 < ls.length) (hls : ls.length < 1000000) (hl : ∀ l ∈ ls, l.length < 1000000000) :
    WC Tryz.prog G 159 [.own o e] H0 n0 (fun r H' n' => n0 ≤ n' ∧ (∀ k, k < n0 → k ≠ o → H' k = H0 k) ∧ ∃ e', r = .own o e' ∧ H' o = some (.arr e' 32 1 (shapesR (tidyM ls)) 1)) := by
  refine (.body Tryz.func159 rfl (by simp [Tryz.ntmps159]) ?_)
  rw [Tryz.ntmps159, Tryz.results159]
  replace hG := Hid.mk hG
  replace hl := Hid.mk hl
  refine AL ?_
  refine CI ?_
  refine WC_given (hG.out _ _ _ _ (.tup []) (H0.upd o (.arr e 32 1 (shapesR (orderS ls)) 1)) _ ⟨rfl, rfl, rfl, 198, o, e, 32, shapesR ls, 1, shapesR (orderS ls), goodS, cfS, rfl, hH, rfl, fun h0 => ?_, ?_, by decide, ?_, cmpShapes_ok, enters_cmpShapes, fun rows2 => shapes_unique⟩) ?_
  · have := shapesR_len ls; rw [h0] at this; simp at this; omega
  · rw [shapesR_len]; omega
  · intro r hr
    obtain ⟨p, hp, rfl⟩ := List.mem_map.mp hr
    exact ⟨p, rfl, hl.out p hp⟩
  refine AL ?_
  refine CI ?_
  have hp := orderS_perm ls
  refine (compactFunc_own G (orderS ls) _ _ o e (by omega) (Heap.upd_same _ _ _) (by rw [hp.length_eq]; exact h1) (by rw [hp.length_eq]; exact hls) (fun l hl' => hl.out l (hp.mem_iff.mp hl'))).mono ?_
  clear hp
  rintro r H2 n2 ⟨q1, q2, e', rfl, q3⟩
  replace q2 := Hid.mk q2
  refine AL ?_
  exact ⟨by omega, fun k hk hko => by rw [q2.out k (by omega) hko, Heap.upd_ne _ _ hko], e', by simp [retA, setF_if], q3⟩
theorem forms_own (G : Gv) (hG : ∀ f args H n r H' n', sortsG f args H n r H' n' → G f args H n r H' n') (l : Shape) (t : Nat) (H0 : Heap) (n0 : Nat) (h1 : 0 < l.length) (hl : l.length < 1000000000) (ht : t < 1000000) :
    WC Tryz.prog G 160 [.sl 0 (cells l), .i .i64 t] H0 n0 (fun r H' n' => n0 ≤ n' ∧ (∀ k, k < n0 → H' k = H0 k) ∧ ∃ o e, n0 ≤ o ∧ o < n' ∧ r = .own o e ∧ H' o = some (.arr e 32 1 (shapesR (formsL l t)) 1)) := by
  refine (.body Tryz.func160 rfl (by simp [Tryz.ntmps160]) ?_)
  rw [Tryz.ntmps160, Tryz.results160]
  replace hG := Hid.mk hG
  obtain ⟨m, hm⟩ : ∃ m, m = n0 + 1 := ⟨_, rfl⟩
  refine AL ?_
  refine .loop (.inv (fun d E H n' => ∃ (i : Nat), i + d = t ∧ m < n' ∧ (∀ k, k < n0 → H k = H0 k) ∧ E 0 = .sl 0 (cells l) ∧ E 8 = .i .i64 t ∧ E 9 = .i .i64 i ∧ ∃ e, E 5 = .own m e ∧ H m = some (.arr e 32 1 (shapesR (formsL l i)) 1)) t ?_ ?_)
  · subst hm
    exact ⟨0, by omega, by omega, fun k hk => by rw [upd_if, if_neg (by omega)], by simp [setF_if, argE], by simp [setF_if, argE], by simp [setF_if, argE], 0, by simp [setF_if, argE], by simp [upd_if, formsL, shapesR]⟩
  rintro d E H n' ⟨i, hi, hmn, hfr, h0, h8, h9, e, h5, hH⟩
  replace hfr := Hid.mk hfr
  replace hm := Hid.mk hm
  by_cases c : (i : Int) < t
  · have hw_i : IntKind.i64.wrap ((i : Int) + 1) = (i : Int) + 1 := wr64 (by omega) (by omega)
    have hrl : (shapesR (formsL l i)).length = i := by simp [shapesR, formsL]
    have hb : (i + 1) * 24 ≤ 140737488355328 := by omega
    have htk : shapesR (formsL l i) ++ [[.sl (cells (formM l i))]] = shapesR (formsL l (i + 1)) := by simp [shapesR, formsL, List.range_succ]
    refine AL ?_
    refine CV (form_fn G hG.out l i h1 hl) ?_
    refine AL ?_
    have hm' := hm.out
    refine ⟨t - (i + 1), by omega, i + 1, by omega, by omega, fun k hk => ?_, by simp [setF_if, *], by simp [setF_if, *], by simp [setF_if, *], e + 1, by simp [setF_if, *], ?_⟩
    · simp only [upd_if]
      rw [if_neg (by omega)]
      rw [if_neg (by omega)]
      exact hfr.out k hk
    simp only [upd_if, neAdd hmn, reduceIte, htk]
  · have e' : i = t := by omega
    subst e'
    refine AL ?_
    have hm' := hm.out
    exact ⟨by omega, hfr.out, m, e, by omega, by omega, by simp [retA, setF_if, *], hH⟩
end Go.Proofs
end
section
open Go Go.Big
namespace Go.Proofs
set_option maxHeartbeats 2000000
theorem FCP {ob : List Nat} {wr : List (Nat × Nat)} {rd : List (Nat × List Nat)} {N : Nat} {ds : List (Option Tmp)} {l : List Oper} {E : Env} {H : Heap} {n m : Nat} {K : Env → Heap → Nat → Prop} {o : Oper} {c : Call} {f : FuncId} {args args' : List AV} {y : AV} {d : Nat} {G : Gv}
    (hF : Gives Tryz.prog G f args' y)
    (h : WF Tryz.prog G ob wr rd N ds l (setF E d y) H m K)
    (hop : o.op = .call c := by rfl) (hdst : o.dst = some d := by rfl) (hw : wantR ds E o.guard = some true := by exact vB)
    (hc : calleeA E c = some (f, args) := by exact vD)
    (hg : ∀ Hx : Heap, Agrees ob (fpL wr rd o) Hx H → givesA Hx args = some args' := by (intro Hx hx; exact vE))
    (hwr : wrL wr o = none := by rfl)
    (hf : (Tryz.prog.funcs[f]?).any (fun fn => fn.body.isSome && (fn.name != "runtime.NumGoroutine")) = true := by kernel_rfl)
    (hn : n + 1 = m := by exact vG)
    (hd : d < N := by decide) : WF Tryz.prog G ob wr rd N ds (o :: l) E H n K :=
  FC hF hg h hop hdst hw hc hwr hf hn hd
end Go.Proofs
end
section
open Go Go.Big
namespace Go.Proofs
set_option maxHeartbeats 2000000
theorem fn_of {f : FuncId} (hf : (Tryz.prog.funcs[f]?).any (fun fn => fn.body.isSome && (fn.name != "runtime.NumGoroutine")) = true) : ∃ fn, Tryz.prog.funcs[f]? = some fn ∧ fn.body.isSome = true ∧ (fn.name == "runtime.NumGoroutine") = false := by
  cases q : Tryz.prog.funcs[f]? with
  | none => rw [q] at hf; exact absurd hf (by simp)
  | some fn =>
    rw [q] at hf
    simp only [Option.any_some, Bool.and_eq_true, bne_iff_ne, ne_eq] at hf
    exact ⟨fn, rfl, hf.1, by simpa using hf.2⟩
theorem CSM {fs st : List Nat} {n0 : Nat} {N : Nat} {ds : List (Option Tmp)} {l : List Oper} {E : Env} {H : Heap} {n : Nat} {K : Env → Heap → Nat → Prop} {o : Oper} {c : Call} {f : FuncId} {args : List AV} {d : Nat} {G : Gv}
    (hG : GvOk Tryz.prog G)
    (hF : WC Tryz.prog G f args H n (fun y H1 n1 => (∀ k, k < n0 → cutH n1 H1 k = H k) ∧ WM Tryz.prog G fs st n0 N ds l (setF E d y) (cutH n1 H1) n1 K))
    (hop : o.op = .call c := by rfl) (hmk : mkF fs (.call c) = true := by rfl) (hdst : o.dst = some d := by rfl) (hw : wantR ds E o.guard = some true := by exact vB)
    (hc : calleeA E c = some (f, args) := by exact vD)
    (hf : (Tryz.prog.funcs[f]?).any (fun fn => fn.body.isSome && (fn.name != "runtime.NumGoroutine")) = true := by kernel_rfl)
    (hd : d < N := by decide) : WM Tryz.prog G fs st n0 N ds (o :: l) E H n K := by
  unfold WC at hF
  obtain ⟨y, H1, n1, hb, hlow, h⟩ := hF
  exact WM.sem hw (by rw [hdst]; simpa [dstOk] using hd) (fun hfree => ⟨fun k hk => cutH_ge hk, fun i => OneM_call hG hop hmk hc (fn_of hf) hfree hb hlow⟩) (by rw [hdst]; exact h)
theorem CSF {fs st : List Nat} {n0 : Nat} {N : Nat} {ds : List (Option Tmp)} {l : List Oper} {E : Env} {H : Heap} {n : Nat} {K : Env → Heap → Nat → Prop} {o : Oper} {c : Call} {f : FuncId} {args : List AV} {d : Nat} {G : Gv}
    (hG : GvOk Tryz.prog G)
    (hF : WC Tryz.prog G f args H n (fun y H1 n1 => ∃ x e sz t ty rows, y = .own x e ∧ H1 x = some (.arr e ty sz rows t) ∧ newB t rows ∧ t ≠ 2 ∧ (∀ k, k < n0 → cutH n1 (frzH H1 x e 1 rows) k = H k) ∧ WM Tryz.prog G fs st n0 N ds l (setF E d (.sl 1 rows)) (cutH n1 (frzH H1 x e 1 rows)) n1 K))
    (hop : o.op = .call c := by rfl) (hmk : mkF fs (.call c) = true := by rfl) (hdst : o.dst = some d := by rfl) (hw : wantR ds E o.guard = some true := by exact vB)
    (hc : calleeA E c = some (f, args) := by exact vD)
    (hf : (Tryz.prog.funcs[f]?).any (fun fn => fn.body.isSome && (fn.name != "runtime.NumGoroutine")) = true := by kernel_rfl)
    (hd : d < N := by decide) : WM Tryz.prog G fs st n0 N ds (o :: l) E H n K := by
  unfold WC at hF
  obtain ⟨y, H1, n1, hb, x, e, sz, t, ty, rows, rfl, hx, hnb, ht2, hlow, h⟩ := hF
  exact WM.sem hw (by rw [hdst]; simpa [dstOk] using hd) (fun hfree => ⟨fun k hk => cutH_ge hk, fun i => OneM_frz hG hop hmk hc (fn_of hf) hfree hb hx hnb ht2 hlow⟩) (by rw [hdst]; exact h)
theorem OSQ {fs st : List Nat} {n0 : Nat} {N : Nat} {ds : List (Option Tmp)} {l : List Oper} {E : Env} {H : Heap} {n m : Nat} {K : Env → Heap → Nat → Prop} {o : Oper} {op : Op} {d : Nat} {y : AV} {G : Gv}
    (h : WM Tryz.prog G fs st n0 N ds l (setF E d y) H m K)
    (hop : o.op = op := by rfl) (hdst : o.dst = some d := by rfl) (hw : wantR ds E o.guard = some true := by exact vB)
    (hs : ∀ Hx : Heap, (∀ k, k < n0 → Hx k = H k) → ∃ H1, stepOp Tryz.prog Hx 0 (Go.Big.look E) op = some (y, H1))
    (hn : n + 1 = m := by exact vG)
    (hk : quietOp op = true := by rfl) (hst : stD st o = true := by rfl) (hmk : mkF fs o.op = false := by rfl)
    (hd : d < N := by decide) : WM Tryz.prog G fs st n0 N ds (o :: l) E H n K := OST hs h hop hdst hw hn hk hst hmk hd
end Go.Proofs
end
