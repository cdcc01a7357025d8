/- Walks: The reference's forms, all of them. No condition. | Neighbours that are equal are taken out. No condition. | The program's forms. No condition. | Placements and puzzles turned into ones that the caller owns. No condition. | Cells as keys of a map. No condition. -/
import Derived.Test.YtmglpcdalechfaaGreatBO
import Derived.Test.YtmglpcdalechfaaGreatWk4
import Derived.Test.YtmglpcdalechfaaGreatWk1
import Derived.Test.YtmglpcdalechfaaGreatBC
import Derived.Test.YtmglpcdalechfaaGreatBigSort1
import Derived.Test.YtmglpcdalechfaaGreatWk3
import Derived.DeepKeys5
set_option linter.unusedVariables false
set_option linter.unusedSimpArgs false
section
open Go Go.Big
namespace Go.Proofs
set_option maxHeartbeats 2000000
def formsF (l : List (Int × Int)) (t : Nat) : List (List (Int × Int)) := (List.range t).foldl (fun a i => addS (formM l i) a) []
theorem formsF_succ (l : List (Int × Int)) (t : Nat) : formsF l (t + 1) = addS (formM l t) (formsF l t) := by
  unfold formsF; rw [List.range_succ, List.foldl_append]; rfl
theorem addS_len (c : List (Int × Int)) (ls : List (List (Int × Int))) : (addS c ls).length ≤ ls.length + 1 := by
  unfold addS; split
  · omega
  · rw [insS_len]; exact Nat.le_refl _
theorem insS_mem {c x : List (Int × Int)} : ∀ {ls}, x ∈ insS c ls → x = c ∨ x ∈ ls
  | [], h => by simp [insS] at h; exact .inl h
  | p :: ls, h => by
    unfold insS at h
    split at h
    · rcases List.mem_cons.mp h with h | h
      · exact .inl h
      · exact .inr h
    · rcases List.mem_cons.mp h with h | h
      · exact .inr (by rw [h]; exact List.mem_cons_self)
      · rcases insS_mem h with h | h
        · exact .inl h
        · exact .inr (List.mem_cons_of_mem _ h)
theorem addS_mem {c x : List (Int × Int)} {ls} (h : x ∈ addS c ls) : x = c ∨ x ∈ ls := by
  unfold addS at h; split at h
  · exact .inr h
  · exact insS_mem h
theorem formsF_ok (l : List (Int × Int)) : ∀ t, (formsF l t).length ≤ t ∧ ∀ x ∈ formsF l t, x.length = l.length
  | 0 => by simp [formsF]
  | t + 1 => by
    obtain ⟨h1, h2⟩ := formsF_ok l t
    rw [formsF_succ]
    refine ⟨Nat.le_trans (addS_len _ _) (by omega), fun x hx => ?_⟩
    rcases addS_mem hx with rfl | hx
    · exact formM_len l t
    · exact h2 x hx
theorem l03Forms_fn (G : Gv) (l : List (Int × Int)) (t : Nat) (h1 : 0 < l.length) (hl : l.length < 1000000000) (ht : t < 1000000) : Gives Tryz.prog G 212 [.sl 0 (cells l), .i .i64 t] (.sl 1 (shapesR (formsF l t))) := by
  refine .of (.body Tryz.func212 rfl (by simp [Tryz.ntmps212]) ?_)
  rw [Tryz.ntmps212, Tryz.results212]
  refine AL ?_
  refine .loop (.inv (fun d E H n' => ∃ (i o e : Nat), i + d = t ∧ o < n' ∧ E 0 = .sl 0 (cells l) ∧ E 1 = .i .i64 t ∧ E 6 = .i .i64 i ∧ E 5 = .own o e ∧ H o = some (.arr e 32 1 (shapesR (formsF l i)) 1)) t ?_ ?_)
  · exact ⟨0, 1, 0, by omega, by omega, by simp [setF_if, argE], by simp [setF_if, argE], by simp [setF_if, argE], by simp [setF_if, argE], by simp [upd_if, formsF, shapesR]⟩
  rintro d E H n' ⟨i, o, e, hi, hon, h0, h1', h6, h5, hH⟩
  by_cases c : (i : Int) < t
  · have hw_i : IntKind.i64.wrap ((i : Int) + 1) = (i : Int) + 1 := wr64 (by omega) (by omega)
    obtain ⟨k1, k2⟩ := formsF_ok l i
    have hs := formsF_succ l i
    refine AL ?_
    refine CV (l03Form_fn G l i h1 hl) ?_
    refine CI ?_
    have kf : (formM l i).length < 1000000000 := by rw [formM_len]; exact hl
    have kg : (formsF l i).length < 1000000 := by omega
    have ka : ∀ x ∈ formsF l i, x.length < 1000000000 := fun x hx => by rw [k2 x hx]; exact hl
    refine (l03Add_fn G _ _ H _ o e (by omega) hH kf kg ka).mono ?_
    clear kf kg ka k1 k2
    rintro r H2 n2 ⟨o2, e2, rfl, ho2, hH2⟩
    rw [← hs] at hH2
    refine AL ?_
    refine ⟨t - (i + 1), by omega, i + 1, o2, e2, by omega, by omega, by simp [setF_if, *], by simp [setF_if, *], by simp [setF_if, *], by simp [setF_if, *], hH2⟩
  · have e' : i = t := by omega
    subst e'
    refine AL ?_
    simp [retA, backA, newSl, newB, hH]
def formsP (p : PieceM) : List (List (Int × Int)) := formsF p.cs (if p.b then 8 else 4)
theorem l11Forms_fn (G : Gv) (p : PieceM) (h1 : 0 < p.cs.length) (hl : p.cs.length < 1000000000) : Gives Tryz.prog G 161 [pieceA 0 p] (.sl 1 (shapesR (formsP p))) := by
  refine .of (.body Tryz.func161 rfl (by simp [Tryz.ntmps161]) ?_)
  rw [Tryz.ntmps161, Tryz.results161]
  cases q : p.b with
  | true =>
    have hf : formsP p = formsF p.cs 8 := by unfold formsP; rw [if_pos q]
    refine AL ?_
    refine CV (l03Forms_fn G p.cs 8 h1 hl (by omega)) ?_
    refine AL ?_
    simp [retA, backA, newSl, hf]
  | false =>
    have hf : formsP p = formsF p.cs 4 := by unfold formsP; rw [if_neg (by simp [q])]
    refine AL ?_
    refine CV (l03Forms_fn G p.cs 4 h1 hl (by omega)) ?_
    refine AL ?_
    simp [retA, backA, newSl, hf]
end Go.Proofs
end
section
open Go Go.Big
namespace Go.Proofs
set_option maxHeartbeats 2000000
abbrev Shape := List (Int × Int)
def cptA (x : Shape) : List Shape → List Shape
  | [] => []
  | y :: l => if y = x then cptA y l else y :: cptA y l
def compactS : List Shape → List Shape
  | [] => []
  | x :: l => x :: cptA x l
theorem compact_prefix {ls : List Shape} : ∀ {k : Nat}, 1 ≤ k → k ≤ ls.length → (∀ j, 1 ≤ j → j < k → ls.getD j [] ≠ ls.getD (j - 1) []) → compactS ls = ls.take k ++ cptA (ls.getD (k - 1) []) (ls.drop k)
  | 0, h, _, _ => by omega
  | 1, _, hk, _ => by
    cases ls with
    | nil => simp at hk
    | cons x l => simp [compactS]
  | k + 2, _, hk, hall => by
    have ih := compact_prefix (ls := ls) (k := k + 1) (by omega) (by omega) (fun j h1 h2 => hall j h1 (by omega))
    rw [ih, dropS_at (l := ls) (i := k + 1) (by omega), cptA]
    have hne := hall (k + 1) (by omega) (by omega)
    rw [show k + 1 - 1 = k by omega] at hne ⊢
    have ht : ls.take (k + 2) = ls.take (k + 1) ++ [ls[k + 1]] := List.take_succ_eq_append_getElem (show k + 1 < ls.length by omega)
    rw [if_neg hne]
    show _ = List.take (k + 2) ls ++ cptA (ls.getD (k + 1) []) (List.drop (k + 2) ls)
    rw [ht, List.append_assoc]
    simp only [List.getD_eq_getElem?_getD, List.getElem?_eq_getElem (show k + 1 < ls.length by omega), Option.getD_some, List.singleton_append]
theorem shapesR_set (l : List Shape) (k : Nat) (v : Shape) : shapesR (l.set k v) = (shapesR l).set k [.sl (cells v)] := by simp [shapesR, List.map_set]
theorem shapesR_take (l : List Shape) (k : Nat) : shapesR (l.take k) = (shapesR l).take k := by simp [shapesR, List.map_take]
theorem shapesR_drop (l : List Shape) (k : Nat) : shapesR (l.drop k) = (shapesR l).drop k := by simp [shapesR, List.map_drop]
theorem compactFunc_fn (G : Gv) (ls : List Shape) (H : Heap) (n o e : Nat) (ho : o < n) (hH : H o = some (.arr e 32 1 (shapesR ls) 1)) (hls : ls.length < 1000000) (hl : ∀ l ∈ ls, l.length < 1000000000) :
    WC Tryz.prog G 261 [.own o e, .fn 262 []] H n (fun r H' n' => backA H' r = some (.sl 1 (shapesR (compactS ls)))) := by
  refine (.body Tryz.func261 rfl (by simp [Tryz.ntmps261]) ?_)
  rw [Tryz.ntmps261, Tryz.results261]
  have hlen := shapesR_len ls
  replace hl := Hid.mk hl
  by_cases c2 : (ls.length : Int) < 2
  · refine AL ?_
    have : compactS ls = ls := by
      match ls, c2 with
      | [], _ => rfl
      | [x], _ => rfl
      | _ :: _ :: _, h => simp at h; omega
    simp [retA, backA, newSl, newB, setF_if, this, hH]
  · refine AL ?_
    refine .loop (.inv (fun d E H n' => ∃ k : Nat, k + d = ls.length ∧ 1 ≤ k ∧ o < n' ∧ E 0 = .own o e ∧ E 1 = .fn 262 [] ∧ E 5 = .i .i64 k ∧ H o = some (.arr e 32 1 (shapesR ls) 1) ∧ (∀ j, 1 ≤ j → j < k → ls.getD j [] ≠ ls.getD (j - 1) [])) (ls.length - 1) ?_ ?_)
    · exact ⟨1, by omega, by omega, by omega, by simp [setF_if, argE], by simp [setF_if, argE], by simp [setF_if, argE], hH, fun j h1 h2 => by omega⟩
    clear hH ho c2
    rintro d E H n' ⟨k, hk, hk1, hon, h0, h1, h5, hH, hall⟩
    replace hall := Hid.mk hall
    by_cases c : (k : Int) < ls.length
    · have hw_k : IntKind.i64.wrap ((k : Int) + 1) = (k : Int) + 1 := wr64 (by omega) (by omega)
      have cN : k < ls.length := by omega
      have hr := shapesR_at (ls := ls) (i := k) cN
      have hr2 : (shapesR ls)[((k : Int) - 1).toNat]? = some [.sl (cells (ls.getD (k - 1) []))] := by rw [show ((k : Int) - 1).toNat = k - 1 by omega]; exact shapesR_at (by omega)
      have hw1 : IntKind.i64.wrap ((k : Int) - 1) = (k : Int) - 1 := wr64 (by omega) (by omega)
      have h01 : 0 ≤ (k : Int) - 1 := by omega
      have hlt2 : ((k : Int) - 1).toNat < ls.length := by omega
      have hmem : ∀ i, i < ls.length → (ls.getD i []).length < 1000000000 := fun i hi => hl.out _ (by rw [List.getD_eq_getElem?_getD, List.getElem?_eq_getElem hi]; exact List.getElem_mem _)
      have hx := hmem k cN
      have hy := hmem (k - 1) (by omega)
      have hpre := compact_prefix (ls := ls) (k := k) hk1 (by omega) hall.out
      rw [dropS_at cN, cptA] at hpre
      have hnx : ls.getD k [] ≠ ls.getD (k - 1) [] → ∀ j, 1 ≤ j → j < k + 1 → ls.getD j [] ≠ ls.getD (j - 1) [] := fun h j h1 h2 => by
        by_cases q : j = k
        · rw [q]; exact h
        · exact hall.out j h1 (by omega)
      replace hnx := Hid.mk hnx
      replace hpre := Hid.mk hpre
      replace hmem := Hid.mk hmem
      generalize hxe : ls.getD k [] = x at hr hx hpre hnx
      generalize ls.getD (k - 1) [] = y at hr2 hy hpre hnx
      replace hxe := Hid.mk hxe
      refine AL ?_
      refine CQ (equalShapes_fn G x y hx hy) ?_
      by_cases ceq : x = y
      · have hd : decide (x = y) = true := by simp [ceq]
        have hpre2 := hpre.out
        rw [if_pos ceq] at hpre2
        replace hpre2 := Hid.mk hpre2
        replace ceq := Hid.mk ceq
        clear hpre hnx hr hr2
        have hkn : (k ≤ ls.length) = True := by simp; omega
        refine AL ?_
        refine .loop (.inv (fun d2 E H n' => ∃ (j kk : Nat) (R : List Shape), k + j + d2 = ls.length ∧ 1 ≤ j ∧ kk ≤ k + j - 1 ∧ R.length = ls.length ∧ R.drop (k + j - 1) = ls.drop (k + j - 1) ∧ R.take kk ++ cptA (ls.getD (k + j - 1) []) (ls.drop (k + j)) = compactS ls ∧ o < n' ∧ E 0 = .own o e ∧ E 1 = .fn 262 [] ∧ E 5 = .i .i64 kk ∧ E 6 = .vw o e k (ls.length - k) ∧ E 7 = .i .i64 j ∧ H o = some (.arr e 32 1 (shapesR R) 1)) (ls.length - k - 1) ?_ ?_)
        · exact ⟨1, k, ls, by omega, by omega, by omega, rfl, rfl, by rw [show k + 1 - 1 = k by omega, hxe.out]; exact hpre2.out.symm, by omega, by simp [setF_if, *], by simp [setF_if, *], by simp [setF_if, *], by simp [setF_if, *], by simp [setF_if, *], by simp [*]⟩
        clear hH h0 h1 h5 hon hpre2 hxe hw_k hw1 h01 hlt2 hx hy hall
        rintro d2 E H n' ⟨j, kk, R, hj, hj1, hkk, hRl, hRd, hRt, hon, h0, h1, h5, h6, h7, hH⟩
        have hRlen := shapesR_len R
        have htl : ((shapesR R).drop k |>.take (ls.length - k)).length = ls.length - k := by rw [List.length_take, List.length_drop, hRlen, hRl]; omega
        by_cases cj : (j : Int) < ((ls.length - k : Nat) : Int)
        · have hw_j : IntKind.i64.wrap ((j : Int) + 1) = (j : Int) + 1 := wr64 (by omega) (by omega)
          have hRx : R.getD (k + j) [] = ls.getD (k + j) [] := by
            have := congrArg (fun z : List Shape => z[1]?) hRd
            simp only [List.getElem?_drop] at this
            rw [show k + j - 1 + 1 = k + j by omega] at this
            simp only [List.getD_eq_getElem?_getD, this]
          have hRy : R.getD (k + j - 1) [] = ls.getD (k + j - 1) [] := by
            have := congrArg (fun z : List Shape => z[0]?) hRd
            simp only [List.getElem?_drop, Nat.add_zero] at this
            simp only [List.getD_eq_getElem?_getD, this]
          have hr := shapesR_at (ls := R) (i := k + j) (by omega)
          have hr2 : (shapesR R)[k + ((j : Int) - 1).toNat]? = some [.sl (cells (R.getD (k + j - 1) []))] := by rw [show k + ((j : Int) - 1).toNat = k + j - 1 by omega]; exact shapesR_at (by omega)
          have hr3 := shapesR_at (ls := R) (i := kk) (by omega)
          rw [hRx] at hr
          rw [hRy] at hr2
          have hw1 : IntKind.i64.wrap ((j : Int) - 1) = (j : Int) - 1 := wr64 (by omega) (by omega)
          have hwk : IntKind.i64.wrap ((kk : Int) + 1) = (kk : Int) + 1 := wr64 (by omega) (by omega)
          have h01 : 0 ≤ (j : Int) - 1 := by omega
          have hlt2 : ((j : Int) - 1).toNat < ls.length - k := by omega
          have hlt3 : j < ls.length - k := by omega
          have hlt4 : kk < ls.length := by omega
          have hx := hmem.out (k + j) (by omega)
          have hy := hmem.out (k + j - 1) (by omega)
          rw [dropS_at (l := ls) (i := k + j) (by omega), cptA] at hRt
          have hRd2 : R.drop (k + j) = ls.drop (k + j) := by
            have := congrArg (fun z : List Shape => z.drop 1) hRd
            simp only [List.drop_drop] at this
            rw [show k + j - 1 + 1 = k + j by omega] at this
            exact this
          have hset : ∀ z, (shapesR R).set kk [PV.sl (cells z)] = shapesR (R.set kk z) := fun z => (shapesR_set R kk z).symm
          replace hRt := Hid.mk hRt
          replace hRd := Hid.mk hRd2
          clear hRx hRy hRd2
          generalize hxe : ls.getD (k + j) [] = x at hr hx hRt
          generalize ls.getD (k + j - 1) [] = y at hr2 hy hRt
          replace hxe := Hid.mk hxe
          refine AL ?_
          refine CQ (equalShapes_fn G x y hx hy) ?_
          by_cases ceq : x = y
          · have hd : decide (x = y) = true := by simp [ceq]
            have hRt2 := hRt.out
            rw [if_pos ceq] at hRt2
            replace ceq := Hid.mk ceq
            replace hRt2 := Hid.mk hRt2
            have bt : (!true) = false := rfl
            refine AL ?_
            refine ⟨d2 - 1, by omega, j + 1, kk, R, by omega, by omega, by omega, hRl, by rw [show k + (j + 1) - 1 = k + j by omega]; exact hRd.out, by rw [show k + (j + 1) - 1 = k + j by omega, hxe.out]; exact hRt2.out, by omega, by simp [setF_if, *], by simp [setF_if, *], by simp [setF_if, *], by simp [setF_if, *], by simp [setF_if, *], by simp [*]⟩
          · have hd : decide (x = y) = false := by simp [ceq]
            have hRt2 := hRt.out
            rw [if_neg ceq] at hRt2
            replace ceq := Hid.mk ceq
            replace hRt2 := Hid.mk hRt2
            have bt : (!false) = true := rfl
            refine AL ?_
            refine ⟨d2 - 1, by omega, j + 1, kk + 1, R.set kk x, by omega, by omega, by omega, by rw [List.length_set]; exact hRl, ?_, ?_, by omega, by simp [setF_if, *], by simp [setF_if, *], by simp [setF_if, *], by simp [setF_if, *], by simp [setF_if, *], by simp [upd_if, *]⟩
            · rw [show k + (j + 1) - 1 = k + j by omega, List.drop_set_of_lt (by omega)]; exact hRd.out
            · rw [show k + (j + 1) - 1 = k + j by omega, hxe.out, List.take_succ_eq_append_getElem (by rw [List.length_set]; omega), List.take_set_of_le (Nat.le_refl _), List.getElem_set_self]
              have := hRt2.out
              simpa [Nat.add_assoc] using this
        · have ej : k + j = ls.length := by omega
          have hRt2 : R.take kk = compactS ls := by
            rw [ej, List.drop_length, cptA, List.append_nil] at hRt
            exact hRt
          replace hRt2 := Hid.mk hRt2
          clear hRt hRd hmem
          have hkl : (kk ≤ ls.length) = True := by simp; omega
          have hsum : (kk + (ls.length - kk) = ls.length) = True := by simp; omega
          have hcl : (List.take kk (shapesR R) ++ List.replicate (ls.length - kk) [PV.sl []]).length = ls.length := by simp; omega
          refine AL ?_
          rw [← hRt2.out, shapesR_take]
          simp [retA, backA, newSl, newB, upd_if, List.take_append, List.take_take, hRlen]
          omega
      · have hd : decide (x = y) = false := by simp [ceq]
        replace hnx := Hid.mk (hnx.out ceq)
        clear ceq
        refine AL ?_
        refine ⟨ls.length - (k + 1), by omega, k + 1, by omega, ?_⟩
        exact ⟨by omega, by omega, by simp [setF_if, *], by simp [setF_if, *], by simp [setF_if, *], by simp [*], hnx.out⟩
    · have e' : k = ls.length := by omega
      have hpre := compact_prefix (ls := ls) (k := k) hk1 (by omega) hall.out
      subst e'
      rw [List.drop_length, cptA, List.append_nil, List.take_length] at hpre
      refine AL ?_
      simp [retA, backA, newSl, newB, setF_if, hH, hpre]
end Go.Proofs
end
section
open Go Go.Big
namespace Go.Proofs
set_option maxHeartbeats 2000000
theorem cmpL_trich : ∀ {l k : Shape}, l.length = k.length → cmpL l k < 0 ∨ l = k ∨ cmpL k l < 0
  | [], [], _ => .inr (.inl rfl)
  | [], _ :: _, h => by simp at h
  | _ :: _, [], h => by simp at h
  | p :: l, q :: k, h => by
    have hl : l.length = k.length := by simpa using h
    simp only [cmpL]
    by_cases c1 : lessC p.1 p.2 q.1 q.2 = true
    · rw [if_pos c1]; exact .inl (by decide)
    · by_cases c2 : lessC q.1 q.2 p.1 p.2 = true
      · exact .inr (.inr (by rw [if_pos c2]; decide))
      · rw [if_neg c1, if_neg c2, if_neg c2, if_neg c1]
        simp only [Bool.not_eq_true] at c1 c2
        rcases cmpL_trich hl with h | h | h
        · exact .inl h
        · exact .inr (.inl (by rw [lessC_total c1 c2, h]))
        · exact .inr (.inr h)
theorem cmpL_self : ∀ l : Shape, cmpL l l = 0
  | [] => rfl
  | p :: l => by simp only [cmpL, lessC_self]; simpa using cmpL_self l
theorem cmpL_trans : ∀ {l k m : Shape}, l.length = k.length → k.length = m.length → cmpL l k < 0 → cmpL k m < 0 → cmpL l m < 0
  | [], [], _, _, _, h, _ => by simp [cmpL] at h
  | [], _ :: _, _, h, _, _, _ => by simp at h
  | _ :: _, [], _, h, _, _, _ => by simp at h
  | p :: l, q :: k, [], _, h, _, _ => by simp at h
  | p :: l, q :: k, r :: m, h1, h2, h3, h4 => by
    have e1 : l.length = k.length := by simpa using h1
    have e2 : k.length = m.length := by simpa using h2
    simp only [cmpL] at h3 h4 ⊢
    by_cases a1 : lessC p.1 p.2 q.1 q.2 = true
    · by_cases b1 : lessC q.1 q.2 r.1 r.2 = true
      · rw [if_pos (lessC_trans' a1 b1)]; decide
      · rw [if_neg b1] at h4
        by_cases b2 : lessC r.1 r.2 q.1 q.2 = true
        · rw [if_pos b2] at h4; simp at h4
        · simp only [Bool.not_eq_true] at b1 b2
          obtain rfl := lessC_total b1 b2
          rw [if_pos a1]; decide
    · rw [if_neg a1] at h3
      by_cases a2 : lessC q.1 q.2 p.1 p.2 = true
      · rw [if_pos a2] at h3; simp at h3
      · rw [if_neg a2] at h3
        simp only [Bool.not_eq_true] at a1 a2
        obtain rfl := lessC_total a1 a2
        by_cases b1 : lessC p.1 p.2 r.1 r.2 = true
        · rw [if_pos b1]; decide
        · rw [if_neg b1] at h4 ⊢
          by_cases b2 : lessC r.1 r.2 p.1 p.2 = true
          · rw [if_pos b2] at h4; simp at h4
          · rw [if_neg b2] at h4 ⊢
            exact cmpL_trans e1 e2 h3 h4
theorem cmpM_lt {l k : Shape} : cmpM l k < 0 ↔ l.length < k.length ∨ l.length = k.length ∧ cmpL l k < 0 := by
  unfold cmpM
  split
  · rename_i h; simp [h]
  · rename_i h
    split
    · rename_i h2; simp [h2]
    · rename_i h2; simp [h, h2]
theorem cmpM_trich (l k : Shape) : cmpM l k < 0 ∨ l = k ∨ cmpM k l < 0 := by
  rw [cmpM_lt, cmpM_lt]
  by_cases h : l.length = k.length
  · rcases cmpL_trich h with q | q | q
    · exact .inl (.inr ⟨h, q⟩)
    · exact .inr (.inl q)
    · exact .inr (.inr (.inr ⟨h.symm, q⟩))
  · by_cases h2 : l.length < k.length
    · exact .inl (.inl h2)
    · exact .inr (.inr (.inl (by omega)))
theorem cmpM_irrefl (l : Shape) : ¬ cmpM l l < 0 := by rw [cmpM_lt, cmpL_self]; simp
theorem cmpM_trans {l k m : Shape} (h1 : cmpM l k < 0) (h2 : cmpM k m < 0) : cmpM l m < 0 := by
  rw [cmpM_lt] at *
  rcases h1 with h1 | ⟨e1, h1⟩ <;> rcases h2 with h2 | ⟨e2, h2⟩
  · exact .inl (by omega)
  · exact .inl (by omega)
  · exact .inl (by omega)
  · exact .inr ⟨e1.trans e2, cmpL_trans e1 e2 h1 h2⟩
theorem cmpM_ntrans {l k m : Shape} (h1 : ¬ cmpM l k < 0) (h2 : ¬ cmpM k m < 0) : ¬ cmpM l m < 0 := by
  intro h
  rcases cmpM_trich l k with q | q | q
  · exact h1 q
  · subst q; exact h2 h
  · exact h2 (cmpM_trans q h)
theorem cmpM_total {l k : Shape} (h1 : ¬ cmpM l k < 0) (h2 : ¬ cmpM k l < 0) : l = k := by
  rcases cmpM_trich l k with q | q | q
  · exact absurd q h1
  · exact q
  · exact absurd q h2
theorem cmpM_zero {l k : Shape} : cmpM l k = 0 ↔ l = k := by
  constructor
  · intro h
    refine cmpM_total (by omega) ?_
    intro h2
    rw [cmpM_lt] at h2
    unfold cmpM at h
    split at h
    · rename_i e
      rcases h2 with h2 | ⟨_, h2⟩
      · omega
      · have : ∀ {l k : Shape}, cmpL l k = 0 → cmpL k l < 0 → l.length = k.length → False := by
          intro l
          induction l with
          | nil => intro k _ h2 e; cases k with
            | nil => simp [cmpL] at h2
            | cons => simp at e
          | cons p l ih =>
            intro k h1 h2 e
            cases k with
            | nil => simp at e
            | cons q k =>
              simp only [cmpL] at h1 h2
              by_cases c1 : lessC p.1 p.2 q.1 q.2 = true
              · rw [if_pos c1] at h1; simp at h1
              · rw [if_neg c1] at h1
                by_cases c2 : lessC q.1 q.2 p.1 p.2 = true
                · rw [if_pos c2] at h1; simp at h1
                · rw [if_neg c2] at h1
                  rw [if_neg c2, if_neg c1] at h2
                  exact ih h1 h2 (by simpa using e)
        exact this h h2 e
    · split at h <;> simp at h
  · rintro rfl; unfold cmpM; rw [if_pos rfl, cmpL_self]
def rowS (r : List PV) : Shape := match r with
  | [.sl rows] => rows.map rowC
  | _ => []
def cfS (a b : List PV) : Int := cmpM (rowS a) (rowS b)
def goodS (r : List PV) : Prop := ∃ l : Shape, r = [.sl (cells l)] ∧ l.length < 1000000000
theorem rowS_cells (l : Shape) : rowS [.sl (cells l)] = l := by
  show (cells l).map rowC = l
  simp [cells, rowC, Function.comp_def]
theorem cmpShapes_ok : CmpOk1 Tryz.prog noG 235 goodS cfS where
  gives := by
    rintro a b ⟨l, h1, h2⟩ ⟨k, h3, h4⟩
    simp only [List.cons.injEq, and_true] at h1 h3
    subst h1; subst h3
    have := compareShapes_fn noG l k h2 h4
    simpa only [cfS, rowS_cells, avOf] using this
  irrefl := by
    rintro _ ⟨l, rfl, _⟩
    simp only [cfS]; exact cmpM_irrefl _
  trans := fun a b c _ _ _ h1 h2 => cmpM_trans h1 h2
  ntrans := fun a b c _ _ _ h1 h2 => cmpM_ntrans h1 h2
theorem decode_shapes {ls : List Shape} {rows : List (List PV)} (h : ∀ r ∈ rows, r ∈ shapesR ls) : ∃ k, rows = shapesR k := by
  induction rows with
  | nil => exact ⟨[], rfl⟩
  | cons r rs ih =>
    obtain ⟨k, h1⟩ := ih (fun x hx => h x (List.mem_cons_of_mem _ hx))
    obtain ⟨p, hp, rfl⟩ := List.mem_map.mp (h r List.mem_cons_self)
    exact ⟨p :: k, by rw [h1]; rfl⟩
/-- Shapes in order. -/
def orderS (ls : List Shape) : List Shape := ls.mergeSort fun a b => !decide (cmpM b a < 0)
theorem orderS_perm (ls : List Shape) : (orderS ls).Perm ls := List.mergeSort_perm _ _
theorem orderS_sorted (ls : List Shape) : (orderS ls).Pairwise fun a b => ¬ cmpM b a < 0 := by
  have := List.pairwise_mergeSort (le := fun a b : Shape => !decide (cmpM b a < 0)) (fun a b c h1 h2 => by
    simp only [Bool.not_eq_true', decide_eq_false_iff_not] at *; exact cmpM_ntrans h2 h1) (fun a b => by
    simp only [Bool.or_eq_true, Bool.not_eq_true', decide_eq_false_iff_not]
    by_cases h : cmpM b a < 0
    · exact .inr (fun h2 => cmpM_irrefl _ (cmpM_trans h h2))
    · exact .inl h) ls
  exact this.imp (fun h => by simpa using h)
theorem shapes_unique {ls : List Shape} {rows2 : List (List PV)} (hp : rows2.Perm (shapesR ls)) (hs : rows2.Pairwise (fun a b => ¬ cfS b a < 0)) : rows2 = shapesR (orderS ls) := by
  obtain ⟨k, rfl⟩ := decode_shapes (ls := ls) (fun r hr => hp.mem_iff.mp hr)
  have hk : k.Pairwise (fun a b => ¬ cmpM b a < 0) := by
    unfold shapesR at hs
    rw [List.pairwise_map] at hs
    refine hs.imp fun {a b} h => ?_
    simpa only [cfS, rowS_cells] using h
  have hpk : k.Perm ls := by
    have : ∀ z : List Shape, (shapesR z).map rowS = z := fun z => by
      unfold shapesR; rw [List.map_map]
      have : (rowS ∘ fun l : Shape => [PV.sl (cells l)]) = id := funext fun l => rowS_cells l
      rw [this, List.map_id]
    have h2 := hp.map rowS
    rwa [this, this] at h2
  congr 1
  exact List.Perm.eq_of_pairwise (fun a b _ _ h1 h2 => cmpM_total h2 h1) hk (orderS_sorted ls) (hpk.trans (orderS_perm ls).symm)
theorem enters_cmpShapes (args : Array Value) (w : World) : (callFunc 235 args).run Tryz.prog w = .ok (.enter 235 args) w := enters_of Tryz.func235 (by kernel_rfl) rfl args w
def sortsG1 : Gv := SortG1 Tryz.prog noG 260
def tidyM (ls : List Shape) : List Shape := compactS (orderS ls)
theorem tidyShapes_fn (G : Gv) (hG : ∀ f args H n r H' n', sortsG1 f args H n r H' n' → G f args H n r H' n') (ls : List Shape) (H : Heap) (n o e : Nat) (ho : o < n) (hH : H o = some (.arr e 32 1 (shapesR ls) 1)) (h1 : 0 < ls.length) (hls : ls.length < 1000000) (hl : ∀ l ∈ ls, l.length < 1000000000) :
    WC Tryz.prog G 205 [.own o e] H n (fun r H' n' => backA H' r = some (.sl 1 (shapesR (tidyM ls)))) := by
  refine (.body Tryz.func205 rfl (by simp [Tryz.ntmps205]) ?_)
  rw [Tryz.ntmps205, Tryz.results205]
  replace hG := Hid.mk hG
  replace hl := Hid.mk hl
  refine AL ?_
  refine CI ?_
  refine WC_given (hG.out _ _ _ _ (.tup []) (H.upd o (.arr e 32 1 (shapesR (orderS ls)) 1)) _ ⟨rfl, rfl, rfl, 235, o, e, 32, shapesR ls, 1, shapesR (orderS ls), goodS, cfS, rfl, hH, rfl, fun h0 => ?_, ?_, by decide, ?_, cmpShapes_ok, enters_cmpShapes, fun rows2 => shapes_unique⟩) ?_
  · have := shapesR_len ls; rw [h0] at this; simp at this; omega
  · rw [shapesR_len]; omega
  · intro r hr
    obtain ⟨p, hp, rfl⟩ := List.mem_map.mp hr
    exact ⟨p, rfl, hl.out p hp⟩
  refine AL ?_
  refine CI ?_
  have hp := orderS_perm ls
  refine (compactFunc_fn G (orderS ls) _ _ o e (by omega) (Heap.upd_same _ _ _) (by rw [hp.length_eq]; exact hls) (fun l hl' => hl.out l (hp.mem_iff.mp hl'))).mono ?_
  clear hp
  intro r H2 n2 hb
  refine AL ?_
  simpa [retA, setF_if, tidyM] using hb
theorem form_fn (G : Gv) (hG : ∀ f args H n r H' n', sortsG f args H n r H' n' → G f args H n r H' n') (l : List (Int × Int)) (t : Nat) (h1 : 0 < l.length) (hl : l.length < 1000000000) : Gives Tryz.prog G 236 [.sl 0 (cells l), .i .i64 t] (.sl 1 (cells (formM l t))) := by
  refine .of (.body Tryz.func236 rfl (by simp [Tryz.ntmps236]) ?_)
  rw [Tryz.ntmps236, Tryz.results236]
  have hlen := cells_len l
  have b1 : ((16 : Nat) : Int) * l.length ≤ 281474976710656 := by simp; omega
  have b2 : (l.length : Int) ≤ 9223372036854775807 := by omega
  have b3 : (0 : Int) ≤ l.length := by omega
  replace hG := Hid.mk hG
  refine AL ?_
  refine .loop (.inv (fun d E H n' => ∃ i : Nat, i + d = l.length ∧ 3 < n' ∧ E 1 = .i .i64 t ∧ E 11 = .sl 0 (cells l) ∧ E 12 = .i .i64 l.length ∧ E 13 = .i .i64 i ∧ ∃ e, E 5 = .own 3 e ∧ H 3 = some (.arr e 142 2 (cells (turnL (l.take i) t)) 1)) l.length ?_ ?_)
  · simp [setF_if, argE, upd_if, turnL, cells]
  rintro d E H n' ⟨i, hi, hn3, h1', h11, h12, h13, e, h5, hH⟩
  by_cases c : (i : Int) < l.length
  · have hr := cells_at (l := l) (i := i) (by omega)
    have hw_i : IntKind.i64.wrap ((i : Int) + 1) = (i : Int) + 1 := wr64 (by omega) (by omega)
    have hrl : (cells (turnL (l.take i) t)).length = i := by simp [cells, turnL]; omega
    have hb : (i + 1) * 16 ≤ 140737488355328 := by omega
    have htk := turn_take (l := l) (i := i) t (by omega)
    have hne : ∀ k, (3 = n' + k) = False := fun k => neAdd hn3
    have z1 : (n' = 0) = False := by simp; omega
    generalize l.getD i (0, 0) = p at hr htk
    refine AL ?_
    refine CV (turnCell_fn G _ _ _) ?_
    refine AL ?_
    refine ⟨l.length - (i + 1), by omega, i + 1, by omega, ?_⟩
    refine ⟨by omega, by simp [setF_if, *], by simp [setF_if, *], by simp [setF_if, *], by simp [setF_if, *], e + 1, by simp [setF_if, *], ?_⟩
    simp only [upd_if, neAdd hn3, reduceIte, htk]
  · have e' : i = l.length := by omega
    subst e'
    rw [List.take_length] at hH
    have k1 : 0 < (turnL l t).length := by rw [turnL_len]; exact h1
    have k2 : (turnL l t).length < 1000000000 := by rw [turnL_len]; exact hl
    refine AL ?_
    refine CV (sorted_fn G hG.out _ k1 k2) ?_
    refine AL ?_
    refine CV (normal_fn G _ (by rw [sortM_len]; exact k1) (by rw [sortM_len]; exact k2)) ?_
    refine AL ?_
    simp [retA, backA, newSl, newB, formM]
def formsL (l : Shape) (t : Nat) : List Shape := (List.range t).map (formM l)
theorem forms_fn (G : Gv) (hG : ∀ f args H n r H' n', sortsG f args H n r H' n' → G f args H n r H' n') (l : Shape) (t : Nat) (H : Heap) (n : Nat) (h1 : 0 < l.length) (hl : l.length < 1000000000) (ht : t < 1000000) :
    WC Tryz.prog G 189 [.sl 0 (cells l), .i .i64 t] H n (fun r H' n' => ∃ o e, r = .own o e ∧ o < n' ∧ H' o = some (.arr e 32 1 (shapesR (formsL l t)) 1)) := by
  refine (.body Tryz.func189 rfl (by simp [Tryz.ntmps189]) ?_)
  rw [Tryz.ntmps189, Tryz.results189]
  replace hG := Hid.mk hG
  obtain ⟨m, hm⟩ : ∃ m, m = n + 1 := ⟨_, rfl⟩
  refine AL ?_
  refine .loop (.inv (fun d E H n' => ∃ (i : Nat), i + d = t ∧ m < n' ∧ E 0 = .sl 0 (cells l) ∧ E 8 = .i .i64 t ∧ E 9 = .i .i64 i ∧ ∃ e, E 5 = .own m e ∧ H m = some (.arr e 32 1 (shapesR (formsL l i)) 1)) t ?_ ?_)
  · subst hm
    exact ⟨0, by omega, by omega, by simp [setF_if, argE], by simp [setF_if, argE], by simp [setF_if, argE], 0, by simp [setF_if, argE], by simp [upd_if, formsL, shapesR]⟩
  clear hm
  rintro d E H n' ⟨i, hi, hmn, h0, h8, h9, e, h5, hH⟩
  by_cases c : (i : Int) < t
  · have hw_i : IntKind.i64.wrap ((i : Int) + 1) = (i : Int) + 1 := wr64 (by omega) (by omega)
    have hrl : (shapesR (formsL l i)).length = i := by simp [shapesR, formsL]
    have hb : (i + 1) * 24 ≤ 140737488355328 := by omega
    have htk : shapesR (formsL l i) ++ [[.sl (cells (formM l i))]] = shapesR (formsL l (i + 1)) := by simp [shapesR, formsL, List.range_succ]
    refine AL ?_
    refine CV (form_fn G hG.out l i h1 hl) ?_
    refine AL ?_
    refine ⟨t - (i + 1), by omega, i + 1, by omega, by omega, by simp [setF_if, *], by simp [setF_if, *], by simp [setF_if, *], e + 1, by simp [setF_if, *], ?_⟩
    simp only [upd_if, neAdd hmn, reduceIte, htk]
  · have e' : i = t := by omega
    subst e'
    refine AL ?_
    exact ⟨m, e, by simp [retA, setF_if, *], by omega, hH⟩
def formsI (p : PieceM) : List Shape := tidyM (formsL p.cs (if p.b then 8 else 4))
theorem formsOf_fn (G : Gv) (hG : ∀ f args H n r H' n', sortsG f args H n r H' n' → G f args H n r H' n') (hG1 : ∀ f args H n r H' n', sortsG1 f args H n r H' n' → G f args H n r H' n') (p : PieceM) (h1 : 0 < p.cs.length) (hl : p.cs.length < 1000000000) : Gives Tryz.prog G 153 [pieceA 0 p] (.sl 1 (shapesR (formsI p))) := by
  refine .of (.body Tryz.func153 rfl (by simp [Tryz.ntmps153]) ?_)
  rw [Tryz.ntmps153, Tryz.results153]
  replace hG := Hid.mk hG
  replace hG1 := Hid.mk hG1
  cases q : p.b with
  | true =>
    have hf : formsI p = tidyM (formsL p.cs 8) := by unfold formsI; rw [if_pos q]
    refine AL ?_
    refine CI ?_
    refine (forms_fn G hG.out p.cs 8 _ _ h1 hl (by omega)).mono ?_
    rintro r H2 n2 ⟨o, e, rfl, hon, hH⟩
    refine CI ?_
    refine (tidyShapes_fn G hG1.out _ _ _ o e (by omega) hH (by simp [formsL]) (by simp [formsL]) (fun x hx => by
      obtain ⟨i, _, rfl⟩ := List.mem_map.mp hx
      rw [formM_len]; exact hl)).mono ?_
    intro r H3 n3 hb
    refine AL ?_
    simpa [retA, setF_if, hf] using hb
  | false =>
    have hf : formsI p = tidyM (formsL p.cs 4) := by unfold formsI; rw [if_neg (by simp [q])]
    refine AL ?_
    refine CI ?_
    refine (forms_fn G hG.out p.cs 4 _ _ h1 hl (by omega)).mono ?_
    rintro r H2 n2 ⟨o, e, rfl, hon, hH⟩
    refine CI ?_
    refine (tidyShapes_fn G hG1.out _ _ _ o e (by omega) hH (by simp [formsL]) (by simp [formsL]) (fun x hx => by
      obtain ⟨i, _, rfl⟩ := List.mem_map.mp hx
      rw [formM_len]; exact hl)).mono ?_
    intro r H3 n3 hb
    refine AL ?_
    simpa [retA, setF_if, hf] using hb
end Go.Proofs
end
section
open Go Go.Big
namespace Go.Proofs
set_option maxHeartbeats 2000000
theorem toPlacementS_o (G : Gv) (l : List (Int × List Int)) (hl : l.length < 1000000000) (hc : ∀ p ∈ l, p.2.length < 1000000000) : GivesO Tryz.prog G 49 [.sl 0 (places l)] (.sl 1 (places l)) := by
  refine .of (.body Tryz.func49 rfl (by simp [Tryz.ntmps49]) ?_)
  rw [Tryz.ntmps49, Tryz.results49]
  have hlen := places_len l
  have b1 : ((32 : Nat) : Int) * l.length ≤ 281474976710656 := by simp; omega
  have b2 : (l.length : Int) ≤ 9223372036854775807 := by omega
  have b3 : (0 : Int) ≤ l.length := by omega
  replace hc := Hid.mk hc
  refine AG ?_
  refine .block (.loop (.inv (fun d E H n' => ∃ (i t' : Nat) (r1 : List (List PV)) (S1 : List Nat), i + d = l.length ∧ E 0 = .sl 0 (places l) ∧ E 3 = .own 3 0 ∧ E 4 = .i .i64 i ∧ H 3 = some (.arr 0 110 2 (r1 ++ List.replicate d [PV.i .i64 0, PV.sl []]) t') ∧ 3 < n' ∧ r1.length = i ∧ tagOk t' r1 ∧ fitR 2 r1 ∧ (l = [] → t' ≠ 2) ∧ ownRs H r1 (places (l.take i)) S1 ∧ S1.Nodup ∧ ∀ o ∈ S1, 3 < o ∧ o < n') l.length ?_ ?_))
  · refine ⟨0, 1, [], [], by omega, by simp [setF_if, argE], by simp [setF_if, argE], by simp [setF_if, argE], by simp [upd_if, hlen], by omega, rfl, .inr (fun r hr => by simp at hr), fun r hr => by simp at hr, fun _ => by decide, ⟨rfl, rfl⟩, by simp, by simp⟩
  clear b1 b2 b3
  rintro d E H n' ⟨i, t', r1, S1, hi, h0, h3, h4, hH, hn3, hr1, htag, hfit, hnil, hown, hnd, hlt⟩
  replace hr1 := Hid.mk hr1
  replace htag := Hid.mk htag
  replace hfit := Hid.mk hfit
  replace hnil := Hid.mk hnil
  replace hown := Hid.mk hown
  replace hnd := Hid.mk hnd
  replace hlt := Hid.mk hlt
  by_cases c : (i : Int) < l.length
  · have hw_i : IntKind.i64.wrap ((i : Int) + 1) = (i : Int) + 1 := wr64 (by omega) (by omega)
    obtain ⟨p, hp⟩ : ∃ p, l[i]? = some p := ⟨_, List.getElem?_eq_getElem (by omega)⟩
    have hpl := hc.out p (List.mem_of_getElem? hp)
    have hr : (places l)[i]? = some (placR p) := by simp [places, hp]
    obtain ⟨d, rfl⟩ : ∃ d', d = d' + 1 := ⟨d - 1, by omega⟩
    rw [List.replicate_succ] at hH
    have hro : (r1 ++ [PV.i .i64 0, PV.sl []] :: List.replicate d [PV.i .i64 0, PV.sl []])[i]? = some [PV.i .i64 0, PV.sl []] := at_mid _ _ _ hr1.out
    have hset : ∀ x, (r1 ++ [PV.i .i64 0, PV.sl []] :: List.replicate d [PV.i .i64 0, PV.sl []]).set i x = r1 ++ x :: List.replicate d [PV.i .i64 0, PV.sl []] := fun x => set_mid _ _ _ _ hr1.out
    have hrl : i < (r1 ++ [PV.i .i64 0, PV.sl []] :: List.replicate d [PV.i .i64 0, PV.sl []]).length := (List.getElem?_eq_some_iff.mp hro).1
    generalize r1 ++ [PV.i .i64 0, PV.sl []] :: List.replicate d [PV.i .i64 0, PV.sl []] = R at hH hro hset hrl
    have htk := take_map placR hp
    replace htk := Hid.mk htk
    replace hp := Hid.mk hp
    replace hpl := Hid.mk hpl
    skip
    refine AL ?_
    refine CWO (toPlacement_o G p.1 p.2 hpl.out) ?_
    intro z H1 S m hz hn hS hf hm
    have hH1 := hf 3 (by omega)
    rw [hH] at hH1
    obtain ⟨zk, z, s2, S, rfl, rfl, h2, hz2⟩ := ownX_ag2 hz
    obtain ⟨rfl, rfl⟩ := ownX_i h2
    clear h2 hz
    simp only [List.nil_append] at hn hS
    have hq := ownX_leaf hz2 (ints_scal _)
    have hSd : ∀ o ∈ S1, o ∉ S := fun o h1 h2 => by have := hlt.out o h1; have := hS o h2; omega
    have hS3 : ∀ o ∈ S, 3 < o ∧ o < m := fun o h => by have := hS o h; omega
    have hS4 : ∀ o ∈ S1, 3 < o ∧ o < m := fun o h => by have := hlt.out o h; omega
    have hf1 : ∀ o ∈ S1, H1 o = H o := fun o h => hf o (by have := hlt.out o h; omega)
    have hcs := ownX_cases hz2
    clear hz2
    replace hq := Hid.mk hq
    replace hSd := Hid.mk hSd
    replace hS3 := Hid.mk hS3
    replace hS4 := Hid.mk hS4
    replace hf1 := Hid.mk hf1
    replace hf := Hid.mk hf
    replace hS := Hid.mk hS
    replace hn := Hid.mk hn
    clear hH
    have fin : ∀ (q : PV) (t2 : Nat) (H2 : Heap), ownP H1 q (.sl (ints p.2)) S → (noOb q = true ∨ t2 = 2) → (∀ o, o ≠ 3 → H2 o = H1 o) → tagOk (joinT t' t2) (r1 ++ [[.i .i64 p.1, q]]) ∧ ownRs H2 (r1 ++ [[.i .i64 p.1, q]]) (places (l.take (i + 1))) (S1 ++ S) := by
      intro q t2 H2 h1 h2 h3
      refine ⟨tag_store htag.out (h2.symm.imp id fun h2 r hr p hp => ?_), ?_⟩
      · obtain rfl := List.mem_singleton.mp hr
        simp only [List.mem_cons, List.not_mem_nil, or_false] at hp
        rcases hp with rfl | rfl <;> first | rfl | exact h2
      · have e : places (l.take (i + 1)) = places (l.take i) ++ [placR p] := htk.out
        rw [e]
        refine ownRs_append (ownRs_congr (H := H) (fun o ho => ?_) hown.out) (ownRs_one (ownPs_congr (H := H1) (fun o ho => ?_) ?_))
        · rw [h3 o (by have := hlt.out o ho; omega)]; exact hf1.out o ho
        · exact h3 o (by have := hS3.out o ho; omega)
        · exact ownPs_cons (s := []) (ownP_scal_mk rfl) (by rw [← List.append_nil S]; exact ownPs_cons h1 ⟨rfl, rfl⟩)
    replace fin := Hid.mk fin
    replace htk := Hid.mk htk
    rcases hcs with ⟨o, e, ty, sz, rows, t, rfl, hHo, ho⟩ | rfl | ⟨t, rfl⟩
    · have ho3 := hS3.out o ho
      have n3 : ¬ o = 3 := by omega
      clear ho
      obtain ⟨q, tg, e1, e2, hq1, hq2⟩ := hq.out
      cases e1
      clear hq2 e2
      replace hq1 := Hid.mk hq1
      replace hset := Hid.mk hset
      refine AL ?_
      refine ⟨d, by omega, i + 1, joinT t' (2), r1 ++ [[PV.i .i64 p.1, PV.ob o e]], S1 ++ S, by omega, by simp [setF_if, *], by simp [setF_if, *], by simp [setF_if, *], ?_, by omega, by simp [hr1.out], (fin.out _ _ H1 hq1.out (.inr rfl) (fun _ _ => rfl)).1, ?_, fun e => by rw [e] at hi; simp at hi, (fin.out _ (2) _ hq1.out (.inr rfl) (fun k hk => by rw [upd_if, if_neg hk])).2, ?_, ?_⟩
      · simp [upd_if, joinT, hset.out]
      · intro r hr
        rcases List.mem_append.mp hr with hr | hr
        · exact hfit.out r hr
        · rw [List.mem_singleton.mp hr]; rfl
      · exact List.nodup_append.mpr ⟨hnd.out, hn.out, fun x hx y hy e => hSd.out x hx (e ▸ hy)⟩
      · intro x hx
        rcases List.mem_append.mp hx with hx | hx
        · exact ⟨(hS4.out x hx).1, by have := (hS4.out x hx).2; omega⟩
        · exact ⟨(hS3.out x hx).1, by have := (hS3.out x hx).2; omega⟩
    · skip
      obtain ⟨q, tg, e1, e2, hq1, hq2⟩ := hq.out
      cases e1
      clear hq2 e2
      replace hq1 := Hid.mk hq1
      replace hset := Hid.mk hset
      refine AL ?_
      refine ⟨d, by omega, i + 1, joinT t' (1), r1 ++ [[PV.i .i64 p.1, PV.sl []]], S1 ++ S, by omega, by simp [setF_if, *], by simp [setF_if, *], by simp [setF_if, *], ?_, by omega, by simp [hr1.out], (fin.out _ _ H1 hq1.out (.inl rfl) (fun _ _ => rfl)).1, ?_, fun e => by rw [e] at hi; simp at hi, (fin.out _ (1) _ hq1.out (.inl rfl) (fun k hk => by rw [upd_if, if_neg hk])).2, ?_, ?_⟩
      · simp [upd_if, joinT, hset.out]
      · intro r hr
        rcases List.mem_append.mp hr with hr | hr
        · exact hfit.out r hr
        · rw [List.mem_singleton.mp hr]; rfl
      · exact List.nodup_append.mpr ⟨hnd.out, hn.out, fun x hx y hy e => hSd.out x hx (e ▸ hy)⟩
      · intro x hx
        rcases List.mem_append.mp hx with hx | hx
        · exact ⟨(hS4.out x hx).1, by have := (hS4.out x hx).2; omega⟩
        · exact ⟨(hS3.out x hx).1, by have := (hS3.out x hx).2; omega⟩
    · skip
      obtain ⟨q, tg, e1, e2, hq1, hq2⟩ := hq.out
      cases e1
      clear hq2 e2
      replace hq1 := Hid.mk hq1
      replace hset := Hid.mk hset
      refine AL ?_
      refine ⟨d, by omega, i + 1, joinT t' (joinT 1 (joinT t 1)), r1 ++ [[PV.i .i64 p.1, PV.sl []]], S1 ++ S, by omega, by simp [setF_if, *], by simp [setF_if, *], by simp [setF_if, *], ?_, by omega, by simp [hr1.out], (fin.out _ _ H1 hq1.out (.inl rfl) (fun _ _ => rfl)).1, ?_, fun e => by rw [e] at hi; simp at hi, (fin.out _ (joinT 1 (joinT t 1)) _ hq1.out (.inl rfl) (fun k hk => by rw [upd_if, if_neg hk])).2, ?_, ?_⟩
      · simp [upd_if, joinT, hset.out]
      · intro r hr
        rcases List.mem_append.mp hr with hr | hr
        · exact hfit.out r hr
        · rw [List.mem_singleton.mp hr]; rfl
      · exact List.nodup_append.mpr ⟨hnd.out, hn.out, fun x hx y hy e => hSd.out x hx (e ▸ hy)⟩
      · intro x hx
        rcases List.mem_append.mp hx with hx | hx
        · exact ⟨(hS4.out x hx).1, by have := (hS4.out x hx).2; omega⟩
        · exact ⟨(hS3.out x hx).1, by have := (hS3.out x hx).2; omega⟩
  · refine AL ?_
    have ei : i = l.length := by omega
    have hd : d = 0 := by omega
    subst hd
    rw [List.replicate_zero, List.append_nil] at hH
    have ho := hown.out
    rw [ei, List.take_length] at ho
    refine ⟨3 :: S1, ownX_sl (tagOk_own hH ho htag.out (ownRs_ns ho (places_ns _)) hfit.out fun e => hnil.out ?_), List.nodup_cons.mpr ⟨fun h => by have := hlt.out 3 h; omega, hnd.out⟩⟩
    refine List.length_eq_zero_iff.mp ?_
    have := hr1.out
    rw [e] at this; simp at this; omega
theorem toPuzzle_o (G : Gv) (l : List (Int × Int)) (ps : List PieceM) (hl : l.length < 1000000000) (hp : ps.length < 1000000000) (hc : ∀ p ∈ ps, p.cs.length < 1000000000) :
    GivesO Tryz.prog G 16 [.ag [.sl 0 (cells l), .sl 0 (pieces ps)]] (.ag [.sl 1 (cells l), .sl 1 (pieces ps)]) := by
  refine .of (.body Tryz.func16 rfl (by simp [Tryz.ntmps16]) ?_)
  rw [Tryz.ntmps16, Tryz.results16]
  replace hc := Hid.mk hc
  refine AL ?_
  refine CWO (toCellS_o G _ hl) ?_
  intro z H1 S m hz hn hS hf hm
  have f1 := hf 1 (by omega)
  have f2 := hf 2 (by omega)
  have f0 := hf 0 (by omega)
  simp [upd_if] at f0 f1 f2
  have hS1 : ∀ o ∈ S, 5 ≤ o ∧ o < m := hS
  clear hS hf
  replace hn := Hid.mk hn
  replace hS1 := Hid.mk hS1
  have hz' := Hid.mk hz
  rcases ownX_cases hz with ⟨o, e, ty, sz, rows, t, rfl, hH, ho⟩ | rfl | ⟨t, rfl⟩
  · clear hz
    have ho5 := (hS1.out o ho).1
    have n1 : ¬ o = 1 := by omega
    have n2 : ¬ o = 2 := by omega
    refine AL ?_
    refine CWO (toPieceS_o G _ hp hc.out) ?_
    intro z2 H2 S2 m2 hz2 hn2 hS2 hf2 hm2
    have g1 := hf2 1 (by omega)
    have g2 := hf2 2 (by omega)
    have g0 := hf2 0 (by omega)
    simp [upd_if, f0, f1, f2] at g0 g1 g2
    have hzz := ownX_congr (fun k hk => (hf2 k (by have := (hS1.out k hk).2; omega)).trans (by have := (hS1.out k hk).1; simp [upd_if, show ¬ k = 2 by omega])) hz'.out
    have hHo := hf2 o (by have := (hS1.out o ho).2; omega)
    simp [upd_if, n2, hH] at hHo
    clear ho
    have hSS : ∀ k ∈ S2, m ≤ k := fun k hk => by have := (hS2 k hk).1; omega
    have hS21 : ∀ k ∈ S2, 5 ≤ k := fun k hk => by have := hSS k hk; omega
    clear hf2 hS2 f0 f1 f2
    replace hn2 := Hid.mk hn2
    replace hzz := Hid.mk hzz
    replace hSS := Hid.mk hSS
    replace hS21 := Hid.mk hS21
    have hz2' := Hid.mk hz2
    rcases ownX_cases hz2 with ⟨o2, e2, ty2, sz2, rows2, t2, rfl, hH2, ho2⟩ | rfl | ⟨t2, rfl⟩
    · clear hz2
      have k5 := hS21.out o2 ho2
      have k1 : ¬ o2 = 1 := by omega
      have k2 : ¬ o2 = 2 := by omega
      clear ho2
      refine AL ?_
      refine ⟨S ++ S2, ownX_mk2 (ownX_congr (fun k hk => by have := (hS1.out k hk).1; simp [upd_if, show ¬ k = 1 by omega, show ¬ k = 2 by omega]) hzz.out) (ownX_congr (fun k hk => by have := hS21.out k hk; simp [upd_if, show ¬ k = 1 by omega, show ¬ k = 2 by omega]) hz2'.out), List.nodup_append.mpr ⟨hn.out, hn2.out, fun a ha b hb e => ?_⟩⟩
      have := (hS1.out a ha).2
      have := hSS.out b hb
      omega
    · clear hz2
      refine AL ?_
      refine ⟨S ++ S2, ownX_mk2 (ownX_congr (fun k hk => by have := (hS1.out k hk).1; simp [upd_if, show ¬ k = 1 by omega, show ¬ k = 2 by omega]) hzz.out) (ownX_congr (fun k hk => by have := hS21.out k hk; simp [upd_if, show ¬ k = 1 by omega, show ¬ k = 2 by omega]) hz2'.out), List.nodup_append.mpr ⟨hn.out, hn2.out, fun a ha b hb e => ?_⟩⟩
      have := (hS1.out a ha).2
      have := hSS.out b hb
      omega
    · clear hz2
      refine AL ?_
      refine ⟨S ++ S2, ownX_mk2 (ownX_congr (fun k hk => by have := (hS1.out k hk).1; simp [upd_if, show ¬ k = 1 by omega, show ¬ k = 2 by omega]) hzz.out) (ownX_congr (fun k hk => by have := hS21.out k hk; simp [upd_if, show ¬ k = 1 by omega, show ¬ k = 2 by omega]) hz2'.out), List.nodup_append.mpr ⟨hn.out, hn2.out, fun a ha b hb e => ?_⟩⟩
      have := (hS1.out a ha).2
      have := hSS.out b hb
      omega
  · clear hz
    refine AL ?_
    refine CWO (toPieceS_o G _ hp hc.out) ?_
    intro z2 H2 S2 m2 hz2 hn2 hS2 hf2 hm2
    have g1 := hf2 1 (by omega)
    have g2 := hf2 2 (by omega)
    have g0 := hf2 0 (by omega)
    simp [upd_if, f0, f1, f2] at g0 g1 g2
    have hzz := ownX_congr (fun k hk => (hf2 k (by have := (hS1.out k hk).2; omega)).trans (by have := (hS1.out k hk).1; simp [upd_if, show ¬ k = 2 by omega])) hz'.out
    have hSS : ∀ k ∈ S2, m ≤ k := fun k hk => by have := (hS2 k hk).1; omega
    have hS21 : ∀ k ∈ S2, 5 ≤ k := fun k hk => by have := hSS k hk; omega
    clear hf2 hS2 f0 f1 f2
    replace hn2 := Hid.mk hn2
    replace hzz := Hid.mk hzz
    replace hSS := Hid.mk hSS
    replace hS21 := Hid.mk hS21
    have hz2' := Hid.mk hz2
    rcases ownX_cases hz2 with ⟨o2, e2, ty2, sz2, rows2, t2, rfl, hH2, ho2⟩ | rfl | ⟨t2, rfl⟩
    · clear hz2
      have k5 := hS21.out o2 ho2
      have k1 : ¬ o2 = 1 := by omega
      have k2 : ¬ o2 = 2 := by omega
      clear ho2
      refine AL ?_
      refine ⟨S ++ S2, ownX_mk2 (ownX_congr (fun k hk => by have := (hS1.out k hk).1; simp [upd_if, show ¬ k = 1 by omega, show ¬ k = 2 by omega]) hzz.out) (ownX_congr (fun k hk => by have := hS21.out k hk; simp [upd_if, show ¬ k = 1 by omega, show ¬ k = 2 by omega]) hz2'.out), List.nodup_append.mpr ⟨hn.out, hn2.out, fun a ha b hb e => ?_⟩⟩
      have := (hS1.out a ha).2
      have := hSS.out b hb
      omega
    · clear hz2
      refine AL ?_
      refine ⟨S ++ S2, ownX_mk2 (ownX_congr (fun k hk => by have := (hS1.out k hk).1; simp [upd_if, show ¬ k = 1 by omega, show ¬ k = 2 by omega]) hzz.out) (ownX_congr (fun k hk => by have := hS21.out k hk; simp [upd_if, show ¬ k = 1 by omega, show ¬ k = 2 by omega]) hz2'.out), List.nodup_append.mpr ⟨hn.out, hn2.out, fun a ha b hb e => ?_⟩⟩
      have := (hS1.out a ha).2
      have := hSS.out b hb
      omega
    · clear hz2
      refine AL ?_
      refine ⟨S ++ S2, ownX_mk2 (ownX_congr (fun k hk => by have := (hS1.out k hk).1; simp [upd_if, show ¬ k = 1 by omega, show ¬ k = 2 by omega]) hzz.out) (ownX_congr (fun k hk => by have := hS21.out k hk; simp [upd_if, show ¬ k = 1 by omega, show ¬ k = 2 by omega]) hz2'.out), List.nodup_append.mpr ⟨hn.out, hn2.out, fun a ha b hb e => ?_⟩⟩
      have := (hS1.out a ha).2
      have := hSS.out b hb
      omega
  · clear hz
    refine AL ?_
    refine CWO (toPieceS_o G _ hp hc.out) ?_
    intro z2 H2 S2 m2 hz2 hn2 hS2 hf2 hm2
    have g1 := hf2 1 (by omega)
    have g2 := hf2 2 (by omega)
    have g0 := hf2 0 (by omega)
    simp [upd_if, f0, f1, f2] at g0 g1 g2
    have hzz := ownX_congr (fun k hk => (hf2 k (by have := (hS1.out k hk).2; omega)).trans (by have := (hS1.out k hk).1; simp [upd_if, show ¬ k = 2 by omega])) hz'.out
    have hSS : ∀ k ∈ S2, m ≤ k := fun k hk => by have := (hS2 k hk).1; omega
    have hS21 : ∀ k ∈ S2, 5 ≤ k := fun k hk => by have := hSS k hk; omega
    clear hf2 hS2 f0 f1 f2
    replace hn2 := Hid.mk hn2
    replace hzz := Hid.mk hzz
    replace hSS := Hid.mk hSS
    replace hS21 := Hid.mk hS21
    have hz2' := Hid.mk hz2
    rcases ownX_cases hz2 with ⟨o2, e2, ty2, sz2, rows2, t2, rfl, hH2, ho2⟩ | rfl | ⟨t2, rfl⟩
    · clear hz2
      have k5 := hS21.out o2 ho2
      have k1 : ¬ o2 = 1 := by omega
      have k2 : ¬ o2 = 2 := by omega
      clear ho2
      refine AL ?_
      refine ⟨S ++ S2, ownX_mk2 (ownX_congr (fun k hk => by have := (hS1.out k hk).1; simp [upd_if, show ¬ k = 1 by omega, show ¬ k = 2 by omega]) hzz.out) (ownX_congr (fun k hk => by have := hS21.out k hk; simp [upd_if, show ¬ k = 1 by omega, show ¬ k = 2 by omega]) hz2'.out), List.nodup_append.mpr ⟨hn.out, hn2.out, fun a ha b hb e => ?_⟩⟩
      have := (hS1.out a ha).2
      have := hSS.out b hb
      omega
    · clear hz2
      refine AL ?_
      refine ⟨S ++ S2, ownX_mk2 (ownX_congr (fun k hk => by have := (hS1.out k hk).1; simp [upd_if, show ¬ k = 1 by omega, show ¬ k = 2 by omega]) hzz.out) (ownX_congr (fun k hk => by have := hS21.out k hk; simp [upd_if, show ¬ k = 1 by omega, show ¬ k = 2 by omega]) hz2'.out), List.nodup_append.mpr ⟨hn.out, hn2.out, fun a ha b hb e => ?_⟩⟩
      have := (hS1.out a ha).2
      have := hSS.out b hb
      omega
    · clear hz2
      refine AL ?_
      refine ⟨S ++ S2, ownX_mk2 (ownX_congr (fun k hk => by have := (hS1.out k hk).1; simp [upd_if, show ¬ k = 1 by omega, show ¬ k = 2 by omega]) hzz.out) (ownX_congr (fun k hk => by have := hS21.out k hk; simp [upd_if, show ¬ k = 1 by omega, show ¬ k = 2 by omega]) hz2'.out), List.nodup_append.mpr ⟨hn.out, hn2.out, fun a ha b hb e => ?_⟩⟩
      have := (hS1.out a ha).2
      have := hSS.out b hb
      omega
end Go.Proofs
end
section
open Go Go.Big
namespace Go.Proofs
set_option maxHeartbeats 2000000
theorem cellKeyLaw : WideMaps.KeyLaw Tryz.prog 142 := deep_law_gate (by kernel_rfl) (by rw [show Tryz.prog.types.size = 333 by kernel_rfl]; omega) (by rw [show Tryz.prog.types.size = 333 by kernel_rfl]; decide) (by kernel_rfl) (by kernel_rfl)
theorem cellDepth : Tryz.prog.types.size + 1 = 333 + 1 := by kernel_rfl
theorem cellKey (a b : Int) (ha : wf64 a) (hb : wf64 b) : ∃ l, keyOf Tryz.prog 142 (.agg #[.int .i64 a, .int .i64 b]) = some l := by
  unfold keyOf
  rw [Tryz.underlying142]
  simp only [show (Tryz.prog.keyType 142 && Value.formed Tryz.prog 142 (.agg #[.int .i64 a, .int .i64 b])) = true by kernel_rfl, if_true, cellDepth]
  have h1 : ∀ c, wf64 c → Tryz.prog.keyLits 333 2 [.int .i64 c] = some [.int .i64 c] := fun c hc => by
    simp only [Program.keyLits, Tryz.underlying2]
    rw [if_pos ⟨trivial, hc⟩]
  have h2 : Tryz.prog.keyLits (333 + 1) 142 (Value.agg #[.int .i64 a, .int .i64 b]).cells.toList = some [.int .i64 a, .int .i64 b] := by
    rw [Program.keyLits.eq_def]
    simp only [Tryz.underlying142]
    rw [if_pos ⟨by kernel_rfl, by kernel_rfl⟩]
    simp only [Value.cells, List.mapM_cons, List.mapM_nil, List.drop_zero, List.drop_succ_cons, show Tryz.prog.cellsOf 2 = 1 by kernel_rfl, List.take_succ_cons, List.take_zero]
    simp [h1 a ha, h1 b hb]
  rw [h2]
  exact ⟨_, rfl⟩
theorem cellMap : CellMap Tryz.prog 268 := ⟨142, 3, _, Tryz.underlying268, cellKeyLaw, cellKey, Go.Proofs.BT.i3, by kernel_rfl⟩
end Go.Proofs
end
