/- Walks: A placement put into a list in order: the other program. No condition. | All placements of a piece: the other program. No condition. | All placements of a piece: both programs' functions. No condition. | All placements of a puzzle: both programs. No condition. | Rows that own their cells beside the placements that they are. No condition. | AllPlacements: both programs' functions. No condition. -/
import Derived.Test.YtdbkkjoejomcmaaGreatBO
import Derived.Test.YtdbkkjoejomcmaaGreatWk7
import Derived.Test.YtdbkkjoejomcmaaGreatWk1
import Derived.Test.YtdbkkjoejomcmaaGreatBC
import Derived.Test.YtdbkkjoejomcmaaGreatWk6
import Derived.Test.YtdbkkjoejomcmaaGreatWk9
import Derived.Test.YtdbkkjoejomcmaaGreatWk4
set_option linter.unusedVariables false
set_option linter.unusedSimpArgs false
section
open Go Go.Big
namespace Go.Proofs
set_option maxHeartbeats 2000000
theorem insP_at {x : Int × List Int} : ∀ {l : List (Int × List Int)} {i : Nat}, i ≤ l.length → (∀ k (h : k < l.length), k < i → cmpP l[k] x < 0) → (∀ h : i < l.length, ¬ cmpP l[i] x < 0) → insP x l = l.take i ++ x :: l.drop i
  | [], i, hi, _, _ => by
    obtain rfl : i = 0 := by simpa using hi
    rfl
  | y :: l, 0, _, _, h => by
    have := h (by simp)
    simp only [List.getElem_cons_zero] at this
    unfold insP
    rw [if_neg this]; rfl
  | y :: l, i + 1, hi, h1, h2 => by
    have h0 := h1 0 (by simp) (by omega)
    simp only [List.getElem_cons_zero] at h0
    unfold insP
    rw [if_pos h0, insP_at (i := i) (by simpa using hi) (fun k hk hki => by have := h1 (k + 1) (by simpa using hk) (by omega); simpa using this) (fun h => by have := h2 (by simpa using h); simpa using this)]
    simp
theorem l12Insert_wc (G : Gv) (l : List (Int × List Int)) (x : Int × List Int) (o e : Nat) (H : Heap) (n : Nat) (ho : o < n) (hH : H o = some (.arr e 55 2 (places l) 1)) (hl : l.length < 1000000000) (hlc : ∀ y ∈ l, y.2.length < 1000000000) (hx : x.2.length < 1000000000) :
    WC Tryz.prog G 131 [.own o e, placA 1 x] H n (fun r H' n' => n ≤ n' ∧ ∃ o' e', r = .own o' e' ∧ o' < n' ∧ H' o' = some (.arr e' 55 2 (places (insP x l)) 1) ∧ ∀ k, k < n → H' k = H k) := by
  refine (.body Tryz.func131 rfl (by simp [Tryz.ntmps131]) ?_)
  rw [Tryz.ntmps131, Tryz.results131]
  have hlen := places_len l
  have hno : ¬ (o = n) := by omega
  replace hlc := Hid.mk hlc
  refine AL ?_
  refine .loop (.inv (fun d E H' n' => ∃ i : Nat, i + d = l.length ∧ n < n' ∧ E 0 = .own o e ∧ E 3 = .ptr n 0 0 0 ∧ E 5 = .i .i64 i ∧ H' = H.upd n (.box 55 [.i .i64 x.1, .sl 1 (ints x.2)]) ∧ (∀ k (h : k < l.length), k < i → cmpP l[k] x < 0)) l.length ?_ ?_)
  · exact ⟨0, by omega, by omega, by simp [setF_if, argE], by simp [setF_if, argE], by simp [setF_if, argE], rfl, fun k _ hk => by omega⟩
  rintro d E H' n' ⟨i, hi, hn, h0, h3, h5, rfl, hlo⟩
  replace hlo := Hid.mk hlo
  by_cases c : (i : Int) < l.length
  · have hw_i : IntKind.i64.wrap ((i : Int) + 1) = (i : Int) + 1 := wr64 (by omega) (by omega)
    have hil : i < l.length := by omega
    have hrow : (places l)[i]? = some (placR (l[i]'hil)) := places_at (List.getElem?_eq_getElem hil)
    have hyl := hlc.out _ (List.getElem_mem hil)
    have hnext : cmpP (l[i]'hil) x < 0 → ∀ k (h : k < l.length), k < i + 1 → cmpP l[k] x < 0 := fun h k hk hki => by
      by_cases q : k = i
      · subst q; exact h
      · exact hlo.out k hk (by omega)
    obtain ⟨y, hy⟩ : ∃ y, l[i]'hil = y := ⟨_, rfl⟩
    rw [hy] at hrow hyl hnext
    replace hy := Hid.mk hy
    replace hnext := Hid.mk hnext
    obtain ⟨yk, ys⟩ := y
    obtain ⟨xk, xs⟩ := x
    simp only at hyl
    by_cases cy : cmpP (yk, ys) (xk, xs) < 0
    · refine AL ?_
      refine CQ (specComparePl_fn G (yk, ys) (xk, xs) hyl hx) ?_
      refine AL ?_
      exact ⟨l.length - (i + 1), by omega, i + 1, by omega, by omega, by simp [setF_if, *], by simp [setF_if, *], by simp [setF_if, *], by first | rfl | trivial, hnext.out cy⟩
    · have heq := insP_at (x := (xk, xs)) (l := l) (i := i) (by omega) hlo.out (fun h => by rw [hy.out]; exact cy)
      replace heq := Hid.mk heq
      refine AL ?_
      refine CQ (specComparePl_fn G (yk, ys) (xk, xs) hyl hx) ?_
      refine AX ?_
      have hle : i ≤ l.length := by omega
      have hzi : 0 ≤ i := by omega
      have hs0 : i - 0 = i := rfl
      have hdr : (places l).drop 0 = places l := rfl
      have htk : (places l).take i = places (l.take i) := by simp [places, List.map_take]
      have htd : ((places l).drop i).take (l.length - i) = places (l.drop i) := by unfold places; rw [← List.map_drop, List.take_of_length_le (by simp)]
      have hl1 : (places (l.take i)).length = i := by rw [places_len, List.length_take]; omega
      have hl2 : (places (l.drop i)).length = l.length - i := by rw [places_len, List.length_drop]
      have hb1 : i * 32 ≤ 140737488355328 := by omega
      have hb2 : (i + 1) * 32 ≤ 140737488355328 := by omega
      have hb3 : (i + 1 + (l.length - i)) * 32 ≤ 140737488355328 := by omega
      have hfit1 : decide (∀ r ∈ places (l.take i), r.length = 2) = true := decide_eq_true fun r hr => by obtain ⟨y, _, rfl⟩ := List.mem_map.mp hr; rfl
      have hfit2 : decide (∀ r ∈ places (l.drop i), r.length = 2) = true := decide_eq_true fun r hr => by obtain ⟨y, _, rfl⟩ := List.mem_map.mp hr; rfl
      have hl3 : (places (l.take i) ++ [[PV.i .i64 xk, PV.sl (ints xs)]]).length = i + 1 := by simp [hl1]
      have hno' : ¬ (o = n') := by omega
      have hnn' : ¬ (n = n') := by omega
      have hno6 : ¬ (o = n' + 6) := by omega
      have hnn6 : ¬ (n = n' + 6) := by omega
      have h06 : ¬ (n' = n' + 6) := by omega
      have h60 : ¬ (n' + 6 = n') := by omega
      have hnd : [n', n' + 6].Nodup := by simp
      refine FD [n', n' + 6] [(21, 0), (25, 0), (27, 1), (28, 0), (32, 0)] [(28, [1])] hnd ?_
      repeat first | refine FF ?_ | refine FS ?_
      refine FM 0 (n') ?_ (hs := by
        intro Hx hx
        exact EVM)
      repeat first | refine FF ?_ | refine FS ?_
      refine FQ ?_ (hs := by
        intro Hx hx
        have f0 : Hx (o) = _ := hx.off (by simp only [List.mem_cons, List.not_mem_nil, or_false, not_or]; omega)
        simp only [setF_if, upd_if, neAdd, neLt, ltAdd, addNe, ltNe, Nat.left_eq_add, Nat.add_eq_left, Nat.reduceEqDiff, Nat.add_assoc, Nat.reduceAdd, reduceIte, *] at f0
        exact EV)
      refine FM 0 (n') ?_ (hs := by
        intro Hx hx
        have f0 : Hx (n') = _ := hx.at hnd 0 rfl (by decide)
        simp only [setF_if, upd_if, neAdd, neLt, ltAdd, addNe, ltNe, Nat.left_eq_add, Nat.add_eq_left, Nat.reduceEqDiff, Nat.add_assoc, Nat.reduceAdd, reduceIte, *] at f0
        have f1 : Hx (o) = _ := hx.off (by simp only [List.mem_cons, List.not_mem_nil, or_false, not_or]; omega)
        simp only [setF_if, upd_if, neAdd, neLt, ltAdd, addNe, ltNe, Nat.left_eq_add, Nat.add_eq_left, Nat.reduceEqDiff, Nat.add_assoc, Nat.reduceAdd, reduceIte, *] at f1
        exact EVM)
      refine FQ ?_ (hs := by
        intro Hx hx
        have f0 : Hx (n) = _ := hx.off (by simp only [List.mem_cons, List.not_mem_nil, or_false, not_or]; omega)
        simp only [setF_if, upd_if, neAdd, neLt, ltAdd, addNe, ltNe, Nat.left_eq_add, Nat.add_eq_left, Nat.reduceEqDiff, Nat.add_assoc, Nat.reduceAdd, reduceIte, *] at f0
        exact EV)
      refine FM 1 (n' + 6) ?_ (hs := by
        intro Hx hx
        exact EVM)
      refine FM 0 (n') ?_ (hs := by
        intro Hx hx
        have f0 : Hx (n') = _ := hx.at hnd 0 rfl (by decide)
        simp only [setF_if, upd_if, neAdd, neLt, ltAdd, addNe, ltNe, Nat.left_eq_add, Nat.add_eq_left, Nat.reduceEqDiff, Nat.add_assoc, Nat.reduceAdd, reduceIte, *] at f0
        have f1 : Hx (n' + 6) = _ := hx.at hnd 1 rfl (by decide)
        simp only [setF_if, upd_if, neAdd, neLt, ltAdd, addNe, ltNe, Nat.left_eq_add, Nat.add_eq_left, Nat.reduceEqDiff, Nat.add_assoc, Nat.reduceAdd, reduceIte, *] at f1
        exact EVM)
      repeat first | refine FF ?_ | refine FS ?_
      refine FQ ?_ (hs := by
        intro Hx hx
        have f0 : Hx (o) = _ := hx.off (by simp only [List.mem_cons, List.not_mem_nil, or_false, not_or]; omega)
        simp only [setF_if, upd_if, neAdd, neLt, ltAdd, addNe, ltNe, Nat.left_eq_add, Nat.add_eq_left, Nat.reduceEqDiff, Nat.add_assoc, Nat.reduceAdd, reduceIte, *] at f0
        exact EV)
      refine FM 0 (n') ?_ (hs := by
        intro Hx hx
        have f0 : Hx (n') = _ := hx.at hnd 0 rfl (by decide)
        simp only [setF_if, upd_if, neAdd, neLt, ltAdd, addNe, ltNe, Nat.left_eq_add, Nat.add_eq_left, Nat.reduceEqDiff, Nat.add_assoc, Nat.reduceAdd, reduceIte, *] at f0
        have f1 : Hx (o) = _ := hx.off (by simp only [List.mem_cons, List.not_mem_nil, or_false, not_or]; omega)
        simp only [setF_if, upd_if, neAdd, neLt, ltAdd, addNe, ltNe, Nat.left_eq_add, Nat.add_eq_left, Nat.reduceEqDiff, Nat.add_assoc, Nat.reduceAdd, reduceIte, *] at f1
        exact EVM)
      repeat first | refine FF ?_ | refine FS ?_
      refine WF.nil ?_
      refine AL ?_
      refine ⟨by omega, n', 3, by simp [retA], by omega, ?_, fun k hk => ?_⟩
      · rw [heq.out]
        simp [upd_if, places]
      · simp [upd_if, show ¬ k = n' by omega, show ¬ k = n' + 6 by omega, show ¬ k = n by omega]
  · have heq := insP_at (x := x) (l := l) (i := i) (by omega) hlo.out (fun h => by omega)
    replace heq := Hid.mk heq
    obtain ⟨xk, xs⟩ := x
    refine AX ?_
    refine DR ?_
    refine AX ?_
    have hle : i ≤ l.length := by omega
    have hzi : 0 ≤ i := by omega
    have hs0 : i - 0 = i := rfl
    have hdr : (places l).drop 0 = places l := rfl
    have htk : (places l).take i = places (l.take i) := by simp [places, List.map_take]
    have htd : ((places l).drop i).take (l.length - i) = places (l.drop i) := by unfold places; rw [← List.map_drop, List.take_of_length_le (by simp)]
    have hl1 : (places (l.take i)).length = i := by rw [places_len, List.length_take]; omega
    have hl2 : (places (l.drop i)).length = l.length - i := by rw [places_len, List.length_drop]
    have hb1 : i * 32 ≤ 140737488355328 := by omega
    have hb2 : (i + 1) * 32 ≤ 140737488355328 := by omega
    have hb3 : (i + 1 + (l.length - i)) * 32 ≤ 140737488355328 := by omega
    have hfit1 : decide (∀ r ∈ places (l.take i), r.length = 2) = true := decide_eq_true fun r hr => by obtain ⟨y, _, rfl⟩ := List.mem_map.mp hr; rfl
    have hfit2 : decide (∀ r ∈ places (l.drop i), r.length = 2) = true := decide_eq_true fun r hr => by obtain ⟨y, _, rfl⟩ := List.mem_map.mp hr; rfl
    have hl3 : (places (l.take i) ++ [[PV.i .i64 xk, PV.sl (ints xs)]]).length = i + 1 := by simp [hl1]
    have hno' : ¬ (o = n') := by omega
    have hnn' : ¬ (n = n') := by omega
    have hno6 : ¬ (o = n' + 6) := by omega
    have hnn6 : ¬ (n = n' + 6) := by omega
    have h06 : ¬ (n' = n' + 6) := by omega
    have h60 : ¬ (n' + 6 = n') := by omega
    have hnd : [n', n' + 6].Nodup := by simp
    refine FD [n', n' + 6] [(21, 0), (25, 0), (27, 1), (28, 0), (32, 0)] [(28, [1])] hnd ?_
    repeat first | refine FF ?_ | refine FS ?_
    refine FM 0 (n') ?_ (hs := by
      intro Hx hx
      exact EVM)
    repeat first | refine FF ?_ | refine FS ?_
    refine FQ ?_ (hs := by
      intro Hx hx
      have f0 : Hx (o) = _ := hx.off (by simp only [List.mem_cons, List.not_mem_nil, or_false, not_or]; omega)
      simp only [setF_if, upd_if, neAdd, neLt, ltAdd, addNe, ltNe, Nat.left_eq_add, Nat.add_eq_left, Nat.reduceEqDiff, Nat.add_assoc, Nat.reduceAdd, reduceIte, *] at f0
      exact EV)
    refine FM 0 (n') ?_ (hs := by
      intro Hx hx
      have f0 : Hx (n') = _ := hx.at hnd 0 rfl (by decide)
      simp only [setF_if, upd_if, neAdd, neLt, ltAdd, addNe, ltNe, Nat.left_eq_add, Nat.add_eq_left, Nat.reduceEqDiff, Nat.add_assoc, Nat.reduceAdd, reduceIte, *] at f0
      have f1 : Hx (o) = _ := hx.off (by simp only [List.mem_cons, List.not_mem_nil, or_false, not_or]; omega)
      simp only [setF_if, upd_if, neAdd, neLt, ltAdd, addNe, ltNe, Nat.left_eq_add, Nat.add_eq_left, Nat.reduceEqDiff, Nat.add_assoc, Nat.reduceAdd, reduceIte, *] at f1
      exact EVM)
    refine FQ ?_ (hs := by
      intro Hx hx
      have f0 : Hx (n) = _ := hx.off (by simp only [List.mem_cons, List.not_mem_nil, or_false, not_or]; omega)
      simp only [setF_if, upd_if, neAdd, neLt, ltAdd, addNe, ltNe, Nat.left_eq_add, Nat.add_eq_left, Nat.reduceEqDiff, Nat.add_assoc, Nat.reduceAdd, reduceIte, *] at f0
      exact EV)
    refine FM 1 (n' + 6) ?_ (hs := by
      intro Hx hx
      exact EVM)
    refine FM 0 (n') ?_ (hs := by
      intro Hx hx
      have f0 : Hx (n') = _ := hx.at hnd 0 rfl (by decide)
      simp only [setF_if, upd_if, neAdd, neLt, ltAdd, addNe, ltNe, Nat.left_eq_add, Nat.add_eq_left, Nat.reduceEqDiff, Nat.add_assoc, Nat.reduceAdd, reduceIte, *] at f0
      have f1 : Hx (n' + 6) = _ := hx.at hnd 1 rfl (by decide)
      simp only [setF_if, upd_if, neAdd, neLt, ltAdd, addNe, ltNe, Nat.left_eq_add, Nat.add_eq_left, Nat.reduceEqDiff, Nat.add_assoc, Nat.reduceAdd, reduceIte, *] at f1
      exact EVM)
    repeat first | refine FF ?_ | refine FS ?_
    refine FQ ?_ (hs := by
      intro Hx hx
      have f0 : Hx (o) = _ := hx.off (by simp only [List.mem_cons, List.not_mem_nil, or_false, not_or]; omega)
      simp only [setF_if, upd_if, neAdd, neLt, ltAdd, addNe, ltNe, Nat.left_eq_add, Nat.add_eq_left, Nat.reduceEqDiff, Nat.add_assoc, Nat.reduceAdd, reduceIte, *] at f0
      exact EV)
    refine FM 0 (n') ?_ (hs := by
      intro Hx hx
      have f0 : Hx (n') = _ := hx.at hnd 0 rfl (by decide)
      simp only [setF_if, upd_if, neAdd, neLt, ltAdd, addNe, ltNe, Nat.left_eq_add, Nat.add_eq_left, Nat.reduceEqDiff, Nat.add_assoc, Nat.reduceAdd, reduceIte, *] at f0
      have f1 : Hx (o) = _ := hx.off (by simp only [List.mem_cons, List.not_mem_nil, or_false, not_or]; omega)
      simp only [setF_if, upd_if, neAdd, neLt, ltAdd, addNe, ltNe, Nat.left_eq_add, Nat.add_eq_left, Nat.reduceEqDiff, Nat.add_assoc, Nat.reduceAdd, reduceIte, *] at f1
      exact EVM)
    repeat first | refine FF ?_ | refine FS ?_
    refine WF.nil ?_
    refine AL ?_
    refine ⟨by omega, n', 3, by simp [retA], by omega, ?_, fun k hk => ?_⟩
    · rw [heq.out]
      simp [upd_if, places]
    · simp [upd_if, show ¬ k = n' by omega, show ¬ k = n' + 6 by omega, show ¬ k = n by omega]
end Go.Proofs
end
section
open Go Go.Big
namespace Go.Proofs
set_option maxHeartbeats 2000000
theorem insP_mem {x y : Int × List Int} : ∀ {l : List (Int × List Int)}, y ∈ insP x l → y = x ∨ y ∈ l
  | [], h => by simpa [insP] using h
  | z :: l, h => by
    unfold insP at h
    split at h
    · rcases List.mem_cons.mp h with rfl | h
      · exact .inr List.mem_cons_self
      · exact (insP_mem h).imp id (List.mem_cons_of_mem _)
    · rcases List.mem_cons.mp h with rfl | h
      · exact .inl rfl
      · exact .inr h
theorem insP_length (x : Int × List Int) : ∀ (l : List (Int × List Int)), (insP x l).length = l.length + 1
  | [] => rfl
  | y :: l => by
    unfold insP
    split
    · simp [insP_length x l]
    · simp
theorem bnd0 {a i : Nat} (h : a ≤ i * 1000000) : a ≤ i * 1000000 + 0 * 1000 := by rw [Nat.zero_mul, Nat.add_zero]; exact h
theorem bnd0' {a i y : Nat} (h : a ≤ i * 1000000 + y * 1000) : a ≤ i * 1000000 + y * 1000 + 0 := by rw [Nat.add_zero]; exact h
theorem bnd1 {a i y x : Nat} (h : a ≤ i * 1000000 + y * 1000 + x) : a ≤ i * 1000000 + y * 1000 + (x + 1) := by omega
theorem bnd1' {a i y x : Nat} (h : a ≤ i * 1000000 + y * 1000 + x) : a + 1 ≤ i * 1000000 + y * 1000 + (x + 1) := by omega
theorem bnd2 {a i y w : Nat} (h : a ≤ i * 1000000 + y * 1000 + w) (hw : w ≤ 1000) : a ≤ i * 1000000 + (y + 1) * 1000 := by
  refine Nat.le_trans h ?_
  rw [Nat.add_mul, Nat.one_mul, Nat.add_assoc]
  exact Nat.add_le_add_left (Nat.add_le_add_left hw _) _
theorem bnd3 {a i w : Nat} (h : a ≤ i * 1000000 + w * 1000) (hw : w ≤ 1000) : a ≤ (i + 1) * 1000000 := by omega
theorem range_foldl {β : Type} (f : β → Nat → β) (z : β) (n : Nat) : (List.range (n + 1)).foldl f z = f ((List.range n).foldl f z) n := by
  rw [List.range_succ, List.foldl_append]; rfl
theorem l12Of_fn (G : Gv) (r : Shape) (l : List PieceM) (k : Nat) (p : PieceM) (hp : l[k]? = some p) (hp0 : 0 < p.cs.length) (hpl : p.cs.length < 1000000) (hr1 : 1 ≤ r.length) (hr : r.length < 1000000000) (hl : l.length < 1000000000) (hw : (sizeM r).1 ≤ 1000 ∧ (sizeM r).2 ≤ 1000) :
    Gives Tryz.prog G 76 [.ag [.sl 0 (cells r), .sl 0 (pieces l)], .i .i64 k] (.sl 1 (places (listB r k (formsP p)))) := by
  refine .of (.body Tryz.func76 rfl (by simp [Tryz.ntmps76]) ?_)
  rw [Tryz.ntmps76, Tryz.results76]
  have hrow := pieces_at hp
  obtain ⟨hf1, hf2⟩ := formsP_ok p
  have hk : k < l.length := (List.getElem?_eq_some_iff.mp hp).1
  have hlenf := shapesR_len (formsP p)
  replace hp := Hid.mk hp
  refine AL ?_
  refine CV (l11Forms_fn G p hp0 (by omega)) ?_
  refine AL ?_
  refine CV (l04Size_fn G r (by omega) hr) ?_
  unfold listB
  have hfl : ∀ f ∈ formsP p, f.length < 1000000 := fun f hf => by rw [hf2 f hf]; exact hpl
  generalize formsP p = fs at hf1 hf2 hlenf hfl
  obtain ⟨hw1, hw2⟩ := hw
  generalize (sizeM r).1 = wide at hw1
  generalize (sizeM r).2 = high at hw2
  generalize hwN : wide.toNat = wN
  generalize hhN : high.toNat = hN
  have hwN9 : wN ≤ 1000 := by omega
  have hhN9 : hN ≤ 1000 := by omega
  replace hfl := Hid.mk hfl
  replace hf2 := Hid.mk hf2
  clear hrow
  refine AL ?_
  refine .loop (.inv (fun d E H n' => ∃ (i : Nat) (out : List (Int × List Int)) (o e : Nat), i + d = fs.length ∧ 0 < n' ∧ o < n' ∧ E 1 = .i .i64 k ∧ E 2 = .ptr 0 0 0 0 ∧ E 5 = .own o e ∧ E 6 = .sl 1 (shapesR fs) ∧ E 7 = .i .i64 wide ∧ E 8 = .i .i64 high ∧ E 9 = .i .i64 i ∧ H 0 = some (.box 35 [.sl 0 (cells r), .sl 0 (pieces l)]) ∧ H o = some (.arr e 55 2 (places out) 1) ∧
      out = (fs.take i).foldl (formB r k wN hN) [] ∧ out.length ≤ i * 1000000 ∧ ∀ z ∈ out, z.2.length < 1000000) fs.length ?_ ?_)
  · exact ⟨0, [], 2, 0, by omega, by omega, by omega, by simp [setF_if, argE], by simp [setF_if, argE], by simp [setF_if, argE], by simp [setF_if, argE], by simp [setF_if, argE], by simp [setF_if, argE], by simp [setF_if, argE], by simp [upd_if], by simp [upd_if, places], rfl, by simp, by simp⟩
  rintro d E H n' ⟨i, out, o, e, hi, hn, hon, h1, h2, h5, h6, h7, h8, h9, hH0, hHo, hout, hlen, hmem⟩
  by_cases c : (i : Int) < fs.length
  · have hw_i : IntKind.i64.wrap ((i : Int) + 1) = (i : Int) + 1 := wr64 (by omega) (by omega)
    have hfi : i < fs.length := by omega
    have hfs := foldl_take (f := formB r k wN hN) (z := []) (List.getElem?_eq_getElem hfi)
    rw [← hout] at hfs
    have hrf := shapesR_at (ls := fs) (i := i) hfi
    rw [show fs.getD i [] = fs[i]'hfi by rw [List.getD_eq_getElem?_getD, List.getElem?_eq_getElem hfi]; rfl] at hrf
    have hff := hfl.out _ (List.getElem_mem hfi)
    generalize fs[i]'hfi = f at hfs hrf hff
    replace hfs := Hid.mk hfs
    replace hmem := Hid.mk hmem
    replace hlen := Hid.mk hlen
    replace hout := Hid.mk hout
    refine AL ?_
    refine .loop (.inv (fun d2 E H n' => ∃ (y : Nat) (out2 : List (Int × List Int)) (o e : Nat), y + d2 = hN ∧ 0 < n' ∧ o < n' ∧ E 1 = .i .i64 k ∧ E 2 = .ptr 0 0 0 0 ∧ E 5 = .own o e ∧ E 6 = .sl 1 (shapesR fs) ∧ E 7 = .i .i64 wide ∧ E 8 = .i .i64 high ∧ E 9 = .i .i64 i ∧ E 10 = .i .i64 y ∧ H 0 = some (.box 35 [.sl 0 (cells r), .sl 0 (pieces l)]) ∧ H o = some (.arr e 55 2 (places out2) 1) ∧
        out2 = (List.range y).foldl (rowB r k f wN) out ∧ out2.length ≤ i * 1000000 + y * 1000 ∧ ∀ z ∈ out2, z.2.length < 1000000) hN ?_ ?_)
    · exact ⟨0, out, o, e, by omega, by omega, by omega, by simp [setF_if, *], by simp [setF_if, *], by simp [setF_if, *], by simp [setF_if, *], by simp [setF_if, *], by simp [setF_if, *], by simp [setF_if, *], by simp [setF_if, *], by first | exact hH0 | simp [*], by first | exact hHo | simp [*], rfl, bnd0 hlen.out, hmem.out⟩
    clear h1 h2 h5 h6 h7 h8 h9 hH0 hHo hn hon
    rintro d2 E H n' ⟨y, out2, o, e, hy, hn, hon, h1, h2, h5, h6, h7, h8, h9, h10, hH0, hHo, hout2, hlen2, hmem2⟩
    by_cases cy : (y : Int) < high
    · have hw_y : IntKind.i64.wrap ((y : Int) + 1) = (y : Int) + 1 := wr64 (by omega) (by omega)
      have hyN : y < hN := by omega
      have hrs := range_foldl (rowB r k f wN) out y
      rw [← hout2] at hrs
      replace hrs := Hid.mk hrs
      replace hmem2 := Hid.mk hmem2
      replace hlen2 := Hid.mk hlen2
      replace hout2 := Hid.mk hout2
      refine AL ?_
      refine .loop (.inv (fun d3 E H n' => ∃ (x : Nat) (out3 : List (Int × List Int)) (o e : Nat), x + d3 = wN ∧ 0 < n' ∧ o < n' ∧ E 1 = .i .i64 k ∧ E 2 = .ptr 0 0 0 0 ∧ E 5 = .own o e ∧ E 6 = .sl 1 (shapesR fs) ∧ E 7 = .i .i64 wide ∧ E 8 = .i .i64 high ∧ E 9 = .i .i64 i ∧ E 10 = .i .i64 y ∧ E 11 = .i .i64 x ∧ H 0 = some (.box 35 [.sl 0 (cells r), .sl 0 (pieces l)]) ∧ H o = some (.arr e 55 2 (places out3) 1) ∧
          out3 = (List.range x).foldl (stepB r k f y) out2 ∧ out3.length ≤ i * 1000000 + y * 1000 + x ∧ ∀ z ∈ out3, z.2.length < 1000000) wN ?_ ?_)
      · exact ⟨0, out2, o, e, by omega, by omega, by omega, by simp [setF_if, *], by simp [setF_if, *], by simp [setF_if, *], by simp [setF_if, *], by simp [setF_if, *], by simp [setF_if, *], by simp [setF_if, *], by simp [setF_if, *], by simp [setF_if, *], by first | exact hH0 | simp [*], by first | exact hHo | simp [*], rfl, bnd0' hlen2.out, hmem2.out⟩
      clear h1 h2 h5 h6 h7 h8 h9 h10 hH0 hHo hn hon
      rintro d3 E H n' ⟨x, out3, o, e, hx, hn, hon, h1, h2, h5, h6, h7, h8, h9, h10, h11, hH0, hHo, hout3, hlen3, hmem3⟩
      by_cases cx : (x : Int) < wide
      · have hw_x : IntKind.i64.wrap ((x : Int) + 1) = (x : Int) + 1 := wr64 (by omega) (by omega)
        have hxN : x < wN := by omega
        have hss := range_foldl (stepB r k f y) out2 x
        rw [← hout3] at hss
        have hset := l10Set_fn G r (movedM f x y) hr (by rw [movedM_len]; omega)
        have hsl : ∀ s, setM r (movedM f x y) = some s → s.length < 1000000 := fun s hs => by rw [setM_len hs, movedM_len]; exact hff
        have hst : stepB r k f y out3 x = match setM r (movedM f x y) with | some s => insP ((k : Int), s) out3 | none => out3 := by
          unfold stepB gM
          cases setM r (movedM f x y) <;> rfl
        rw [hst] at hss
        have hl9 : out3.length < 1000000000 := by omega
        replace hmem3 := Hid.mk hmem3
        replace hlen3 := Hid.mk hlen3
        replace hout3 := Hid.mk hout3
        clear hst
        cases hsm : setM r (movedM f x y) with
        | none =>
          rw [hsm] at hset hss
          simp only [setA] at hset hss
          replace hset := Hid.mk hset
          replace hss := Hid.mk hss
          clear hsm hsl
          refine AL ?_
          refine CQ (l02Move_fn G f x y (by omega)) ?_
          refine AL ?_
          refine CQ hset.out ?_
          refine AL ?_
          exact ⟨wN - (x + 1), by omega, x + 1, out3, o, e, by omega, by omega, by omega, by simp [setF_if, *], by simp [setF_if, *], by simp [setF_if, *], by simp [setF_if, *], by simp [setF_if, *], by simp [setF_if, *], by simp [setF_if, *], by simp [setF_if, *], by simp [setF_if, *], by first | exact hH02 | exact hH0 | simp [*], by first | exact hHo2 | exact hHo | simp [*], hss.out.symm, bnd1 hlen3.out, hmem3.out⟩
        | some s =>
          have hsl2 := hsl s hsm
          rw [hsm] at hset hss
          simp only [setA] at hset hss
          replace hset := Hid.mk hset
          replace hss := Hid.mk hss
          clear hsm hsl
          refine AL ?_
          refine CQ (l02Move_fn G f x y (by omega)) ?_
          refine AL ?_
          refine CQ hset.out ?_
          refine AL ?_
          refine CI ?_
          refine (l12Insert_wc G out3 ((k : Int), s) o e H _ (by omega) hHo hl9 (fun z hz => by have := hmem3.out z hz; omega) (by simp only; omega)).mono ?_
          rintro _ H2 n2 ⟨hn2, o2, e2, rfl, ho2, hHo2, hfr⟩
          have hH02 := (hfr 0 (by omega)).trans hH0
          clear hfr hHo hH0
          refine AL ?_
          exact ⟨wN - (x + 1), by omega, x + 1, insP ((k : Int), s) out3, o2, e2, by omega, by omega, by omega, by simp [setF_if, *], by simp [setF_if, *], by simp [setF_if, *], by simp [setF_if, *], by simp [setF_if, *], by simp [setF_if, *], by simp [setF_if, *], by simp [setF_if, *], by simp [setF_if, *], by first | exact hH02 | exact hH0 | simp [*], by first | exact hHo2 | exact hHo | simp [*], hss.out.symm, by rw [insP_length]; exact bnd1' hlen3.out, fun z hz => by
            rcases insP_mem hz with rfl | hz
            · exact hsl2
            · exact hmem3.out z hz⟩
      · have ex : x = wN := by omega
        rw [ex] at hout3 hlen3
        have hro : rowB r k f wN out2 y = out3 := hout3.symm
        have hrs' := hrs.out
        rw [hro] at hrs'
        replace hrs' := Hid.mk hrs'
        replace hlen3 := Hid.mk hlen3
        replace hmem3 := Hid.mk hmem3
        clear hro hout3 hx ex
        refine AL ?_
        exact ⟨hN - (y + 1), by omega, y + 1, out3, o, e, by omega, by omega, by omega, by simp [setF_if, *], by simp [setF_if, *], by simp [setF_if, *], by simp [setF_if, *], by simp [setF_if, *], by simp [setF_if, *], by simp [setF_if, *], by simp [setF_if, *], by first | exact hH0 | simp [*], by first | exact hHo | simp [*], hrs'.out.symm, bnd2 hlen3.out hwN9, hmem3.out⟩
    · have ey : y = hN := by omega
      rw [ey] at hout2 hlen2
      have hfo : formB r k wN hN out f = out2 := hout2.symm
      have hfs' := hfs.out
      rw [hfo] at hfs'
      replace hfs' := Hid.mk hfs'
      replace hlen2 := Hid.mk hlen2
      replace hmem2 := Hid.mk hmem2
      clear hfo hout2 hy ey
      refine AL ?_
      exact ⟨fs.length - (i + 1), by omega, i + 1, out2, o, e, by omega, by omega, by omega, by simp [setF_if, *], by simp [setF_if, *], by simp [setF_if, *], by simp [setF_if, *], by simp [setF_if, *], by simp [setF_if, *], by simp [setF_if, *], by first | exact hH0 | simp [*], by first | exact hHo | simp [*], hfs'.out.symm, bnd3 hlen2.out hhN9, hmem2.out⟩
  · have ei : i = fs.length := by omega
    rw [ei, List.take_length] at hout
    subst hout
    refine AL ?_
    simp [retA, backA, newSl, newB, setF_if, h5, hHo]
end Go.Proofs
end
section
open Go Go.Big
namespace Go.Proofs
set_option maxHeartbeats 2000000
/-- What is known of a puzzle that both programs take. -/
theorem puzzle_facts {r : Shape} {l : List PieceM} (h : puzzleS r l = true) : (r.Pairwise fun a b => lessC a.1 a.2 b.1 b.2 = true) ∧ 1 ≤ r.length ∧ r.length ≤ 40 ∧ 1 ≤ l.length ∧ l.length ≤ 12 ∧ ((sizeM r).1 ≤ 20 ∧ (sizeM r).2 ≤ 20) ∧ ∀ p ∈ l, 0 < p.cs.length ∧ p.cs.length ≤ 40 := by
  obtain ⟨h1, h2, h3⟩ := puzzle_parts h
  obtain ⟨g1, g2, g3⟩ := puzzleS_ok h
  have hs : shapeM r = true := by unfold regionS at h1; simp only [Bool.and_eq_true] at h1; exact h1.1
  obtain ⟨k1, _, k2, k3⟩ := shapeM_spec hs
  have hb := boxed_of h1
  refine ⟨k1, k2, k3, g2, h2, hb.wide20, fun p hp => ⟨g3 p hp, ?_⟩⟩
  have := h3 p hp
  unfold pieceS regionS at this
  simp only [Bool.and_eq_true] at this
  exact (shapeM_spec this.1.1.1).2.2.2
def inM (k : Int) (n : Nat) : Bool := decide (k ≥ 0) && decide (k ≤ (n : Int) - 1)
def pofS (r : Shape) (l : List PieceM) (k : Int) : List (Int × List Int) × Int := if puzzleS r l then (if inM k l.length then (listB r k (formsP (l.getD k.toNat pc0)), 0) else ([], 2)) else ([], 1)
def pofI (r : Shape) (l : List PieceM) (k : Int) : List (Int × List Int) × Int := if puzzleI r l then (if inM k l.length then (orderP (listA r k (formsI (l.getD k.toNat pc0))), 0) else ([], 2)) else ([], 1)
theorem places_nil : places [] = [] := rfl
theorem specPlacementsOf_fn (G : Gv) (r : Shape) (l : List PieceM) (k : Int) (hr : r.length < 1000000000) (hl : l.length < 1000000000) (hpl : ∀ p ∈ l, p.cs.length < 1000000000) :
    Gives Tryz.prog G 30 [.ag [.sl 0 (cells r), .sl 0 (pieces l)], .i .i64 k] (.tup [.sl 1 (places (pofS r l k).1), .i .i64 (pofS r l k).2]) := by
  refine .of (.body Tryz.func30 rfl (by simp [Tryz.ntmps30]) ?_)
  rw [Tryz.ntmps30, Tryz.results30]
  have hlen := pieces_len l
  replace hpl := Hid.mk hpl
  refine AL ?_
  refine CV (specIsPuzzle_fn G r l hr hl hpl.out) ?_
  by_cases c : puzzleS r l = true
  · obtain ⟨g1, g2, g3, g4, g5, ⟨g6, g7⟩, g8⟩ := puzzle_facts c
    have hw1 : IntKind.i64.wrap ((l.length : Int) - 1) = (l.length : Int) - 1 := wr64 (by omega) (by omega)
    replace g1 := Hid.mk g1
    replace g8 := Hid.mk g8
    refine AL ?_
    refine CV (l01In_fn G _ _ _) ?_
    by_cases c1 : (decide (k ≥ 0) && decide (k ≤ (l.length : Int) - 1)) = true
    · obtain ⟨k0, k1⟩ : 0 ≤ k ∧ k ≤ (l.length : Int) - 1 := by simpa using c1
      obtain ⟨p, hp⟩ : ∃ p, l[k.toNat]? = some p := ⟨_, List.getElem?_eq_getElem (by omega)⟩
      have hkk : ((k.toNat : Nat) : Int) = k := Int.toNat_of_nonneg k0
      have hf := l12Of_fn G r l k.toNat p hp (g8.out p (List.mem_of_getElem? hp)).1 (by have := (g8.out p (List.mem_of_getElem? hp)).2; omega) g2 hr hl (by omega)
      rw [hkk] at hf
      have hpd : l.getD k.toNat pc0 = p := by rw [List.getD_eq_getElem?_getD, hp]; rfl
      have hres : pofS r l k = (listB r k (formsP p), 0) := by
        unfold pofS inM; rw [if_pos c, if_pos c1, hpd]
      rw [hres]
      clear hres
      replace hkk := Hid.mk hkk
      replace hf := Hid.mk hf
      refine AL ?_
      refine CV hf.out ?_
      refine AL ?_
      simp [retA, backA, backsA, newSl]
    · have hres : pofS r l k = ([], 2) := by
        unfold pofS inM; rw [if_pos c, if_neg c1]
      rw [hres]
      clear hres
      refine AL ?_
      simp [retA, backA, backsA, places_nil]
  · have hres : pofS r l k = ([], 1) := by
      unfold pofS; rw [if_neg c]
    rw [hres]
    clear hres
    refine AL ?_
    simp [retA, backA, backsA, places_nil]
theorem ownX_kt {z : AV} {a : AV} {H : Heap} {S : List Nat} {k : IntKind} {n : Int} (h : ownX H z a S) : ownX H (.tup [z, .i k n]) (.tup [a, .i k n]) S := by
  have := ownX_mkT h (ownX_mki (H := H) (k := k) (n := n))
  rwa [List.append_nil] at this
theorem implPlacementsOf_o (G : Gv) (hA : AllG G) (r : Shape) (l : List PieceM) (k : Int) (hr : r.length < 1000000000) (hl : l.length < 1000000000) (hpl : ∀ p ∈ l, p.cs.length < 1000000000) :
    GivesO Tryz.prog G 31 [.ag [.sl 0 (cells r), .sl 0 (pieces l)], .i .i64 k] (.tup [.sl 1 (places (pofI r l k).1), .i .i64 (pofI r l k).2]) := by
  refine .of (.body Tryz.func31 rfl (by simp [Tryz.ntmps31]) ?_)
  rw [Tryz.ntmps31, Tryz.results31]
  have hlen := pieces_len l
  replace hpl := Hid.mk hpl
  replace hA := Hid.mk hA
  refine AL ?_
  refine CV (implIsPuzzle_fn G hA.out.c1 hA.out.c2 r l hr hl hpl.out) ?_
  by_cases c : puzzleI r l = true
  · have cS : puzzleS r l = true := by rw [← puzzle_eq]; exact c
    obtain ⟨g1, g2, g3, g4, g5, g6, g8⟩ := puzzle_facts cS
    have hw1 : IntKind.i64.wrap ((l.length : Int) - 1) = (l.length : Int) - 1 := wr64 (by omega) (by omega)
    replace g1 := Hid.mk g1
    replace g6 := Hid.mk g6
    replace g8 := Hid.mk g8
    replace cS := Hid.mk cS
    refine AL ?_
    refine CV (within_fn G _ _ _) ?_
    by_cases c1 : (decide (k ≥ 0) && decide (k ≤ (l.length : Int) - 1)) = true
    · obtain ⟨k0, k1⟩ : 0 ≤ k ∧ k ≤ (l.length : Int) - 1 := by simpa using c1
      obtain ⟨p, hp⟩ : ∃ p, l[k.toNat]? = some p := ⟨_, List.getElem?_eq_getElem (by omega)⟩
      have hkk : ((k.toNat : Nat) : Int) = k := Int.toNat_of_nonneg k0
      have hf := placementsOf_o G hA.out r l k.toNat p hp (g8.out p (List.mem_of_getElem? hp)).1 (by have := (g8.out p (List.mem_of_getElem? hp)).2; omega) g1.out (by omega) hl (listA_nodup' cS.out (List.mem_of_getElem? hp) _)
      rw [hkk] at hf
      have hpd : l.getD k.toNat pc0 = p := by rw [List.getD_eq_getElem?_getD, hp]; rfl
      have hres : pofI r l k = (orderP (listA r k (formsI p)), 0) := by
        unfold pofI inM; rw [if_pos c, if_pos c1, hpd]
      rw [hres]
      clear hres
      replace hkk := Hid.mk hkk
      replace hf := Hid.mk hf
      refine AL ?_
      refine CWO hf.out ?_
      intro z H1 S m hz hn hS hf hm
      replace hz := Hid.mk hz
      refine AL ?_
      exact ⟨S, ownX_kt hz.out, hn⟩
    · have hres : pofI r l k = ([], 2) := by
        unfold pofI inM; rw [if_pos c, if_neg c1]
      rw [hres]
      clear hres
      refine AL ?_
      exact ⟨[], ownX_mkT (s1 := []) (ownX_sl ownA_nil) ownX_mki, by simp⟩
  · have hres : pofI r l k = ([], 1) := by
      unfold pofI; rw [if_neg c]
    rw [hres]
    clear hres
    refine AL ?_
    exact ⟨[], ownX_mkT (s1 := []) (ownX_sl ownA_nil) ownX_mki, by simp⟩
end Go.Proofs
end
section
open Go Go.Big
namespace Go.Proofs
set_option maxHeartbeats 2000000
def allB (r : Shape) (l : List PieceM) (i : Nat) : List (Int × List Int) := (List.range i).flatMap fun k : Nat => listB r k (formsP (l.getD k pc0))
theorem allB_succ (r : Shape) (l : List PieceM) (i : Nat) : allB r l (i + 1) = allB r l i ++ listB r i (formsP (l.getD i pc0)) := by simp [allB, List.range_succ]
theorem flatMap_len {α β : Type} {f : α → List β} {n : Nat} : ∀ {l : List α}, (∀ x ∈ l, (f x).length ≤ n) → (l.flatMap f).length ≤ l.length * n
  | [], _ => by simp
  | x :: l, h => by
    have h1 := h x List.mem_cons_self
    have h2 := flatMap_len (l := l) (fun y hy => h y (List.mem_cons_of_mem _ hy))
    rw [List.flatMap_cons, List.length_append, List.length_cons, Nat.add_mul, Nat.one_mul]; omega
theorem listA_len (r : Shape) (i : Int) (fs : List Shape) : (listA r i fs).length ≤ fs.length * r.length := flatMap_len fun f _ => List.length_filterMap_le _ _
theorem getD_mem {l : List PieceM} {i : Nat} (hi : i < l.length) : l.getD i pc0 ∈ l := by
  rw [List.getD_eq_getElem?_getD, List.getElem?_eq_getElem hi]; exact List.getElem_mem hi
theorem listB_len {r : Shape} {l : List PieceM} (h : puzzleS r l = true) {p : PieceM} (hp : p ∈ l) (i : Int) : (listB r i (formsP p)).length ≤ 320 := by
  rw [← places_eq h hp i, (orderP_perm _).length_eq]
  have h1 := listA_len r i (formsI p)
  have h2 := (formsI_ok p).1
  have h3 := (puzzle_facts h).2.2.1
  have := Nat.mul_le_mul h2 h3
  omega
theorem allB_len {r : Shape} {l : List PieceM} (h : puzzleS r l = true) {i : Nat} (hi : i ≤ l.length) : (allB r l i).length ≤ i * 320 := by
  have := flatMap_len (l := List.range i) (f := fun k : Nat => listB r k (formsP (l.getD k pc0))) (n := 320) (fun k hk => listB_len h (getD_mem (by have := List.mem_range.mp hk; omega)) _)
  rwa [List.length_range] at this
theorem listB_mem {r : Shape} {l : List PieceM} (h : puzzleS r l = true) {p : PieceM} (hp : p ∈ l) {i : Int} {x : Int × List Int} (hx : x ∈ listB r i (formsP p)) : x.1 = i ∧ x.2.length = p.cs.length ∧ (∀ c ∈ x.2, 0 ≤ c ∧ c < r.length) := by
  rw [← places_eq h hp i] at hx
  have hx := (orderP_perm _).mem_iff.mp hx
  have hc := listA_cells (r := r) (i := i) (fs := formsI p) (n := p.cs.length) (formsI_ok p).2 x hx
  unfold listA rowA at hx
  obtain ⟨f, hf, hx⟩ := List.mem_flatMap.mp hx
  obtain ⟨c, _, hx⟩ := List.mem_filterMap.mp hx
  obtain ⟨e1, e2⟩ := gM_some hx
  exact ⟨e1, hc, (setM_some e2).2.2.2⟩
theorem allB_mem {r : Shape} {l : List PieceM} (h : puzzleS r l = true) {i : Nat} (hi : i ≤ l.length) {x : Int × List Int} (hx : x ∈ allB r l i) : (0 ≤ x.1 ∧ x.1 < i) ∧ 0 < x.2.length ∧ x.2.length ≤ 40 ∧ ∀ c ∈ x.2, 0 ≤ c ∧ c < r.length := by
  obtain ⟨k, hk, hx⟩ := List.mem_flatMap.mp hx
  have hk := List.mem_range.mp hk
  have hm := getD_mem (l := l) (i := k) (by omega)
  obtain ⟨e1, e2, e3⟩ := listB_mem h hm hx
  obtain ⟨g1, g2⟩ := (puzzle_facts h).2.2.2.2.2.2 _ hm
  exact ⟨by omega, by omega, by omega, e3⟩
theorem ownPs_len {H : Heap} : ∀ {ps qs : List PV} {S : List Nat}, ownPs H ps qs S → ps.length = qs.length
  | [], _, _, ⟨rfl, _⟩ => rfl
  | p :: ps, _, _, ⟨q, qs', s, s', rfl, _, _, h2⟩ => by simp [ownPs_len h2]
theorem ownRs_row {H : Heap} : ∀ {rows q : List (List PV)} {S : List Nat}, ownRs H rows q S → ∀ r ∈ rows, ∃ q2 ∈ q, ∃ s, ownPs H r q2 s
  | [], _, _, _ => by simp
  | r :: rs, _, _, ⟨a, b, s, s', rfl, _, h1, h2⟩ => fun x hx => by
    rcases List.mem_cons.mp hx with rfl | hx
    · exact ⟨a, List.mem_cons_self, s, h1⟩
    · obtain ⟨q2, g1, g2⟩ := ownRs_row h2 x hx
      exact ⟨q2, List.mem_cons_of_mem _ g1, g2⟩
theorem places_fit (l : List (Int × List Int)) : decide (∀ r ∈ places l, r.length = 2) = true := decide_eq_true fun r hr => by obtain ⟨y, _, rfl⟩ := List.mem_map.mp hr; rfl
theorem l12All_fn (G : Gv) (r : Shape) (l : List PieceM) (c : puzzleS r l = true) :
    Gives Tryz.prog G 80 [.ag [.sl 0 (cells r), .sl 0 (pieces l)]] (.sl 1 (places (allB r l l.length))) := by
  refine .of (.body Tryz.func80 rfl (by simp [Tryz.ntmps80]) ?_)
  rw [Tryz.ntmps80, Tryz.results80]
  have hlen := pieces_len l
  obtain ⟨g1, g2, g3, g4, g5, ⟨g6, g7⟩, g8⟩ := puzzle_facts c
  replace g1 := Hid.mk g1
  replace g8 := Hid.mk g8
  refine AL ?_
  refine .loop (.inv (fun d E H n' => ∃ i : Nat, i + d = l.length ∧ 2 < n' ∧ E 1 = .ptr 0 0 0 0 ∧ E 4 = .i .i64 i ∧ H 0 = some (.box 35 [.sl 0 (cells r), .sl 0 (pieces l)]) ∧ ∃ e, E 3 = .own 2 e ∧ H 2 = some (.arr e 55 2 (places (allB r l i)) 1)) l.length ?_ ?_)
  · exact ⟨0, by omega, by omega, by simp [setF_if, argE], by simp [setF_if, argE], by simp [upd_if], 0, by simp [setF_if, argE], by simp [upd_if, allB, places]⟩
  rintro d E H n' ⟨i, hi, hn, h1, h4, hH0, e, h3, hH2⟩
  by_cases ci : (i : Int) < l.length
  · have hw_i : IntKind.i64.wrap ((i : Int) + 1) = (i : Int) + 1 := wr64 (by omega) (by omega)
    have hil : i < l.length := by omega
    obtain ⟨p, hp⟩ : ∃ p, l[i]? = some p := ⟨_, List.getElem?_eq_getElem hil⟩
    have hpm := List.mem_of_getElem? hp
    have hpd : l.getD i pc0 = p := by rw [List.getD_eq_getElem?_getD, hp]; rfl
    have hf := l12Of_fn G r l i p hp (g8.out p hpm).1 (by have := (g8.out p hpm).2; omega) g2 (by omega) (by omega) (by omega)
    have hs := allB_succ r l i
    rw [hpd] at hs
    have htk : places (allB r l i) ++ places (listB r i (formsP p)) = places (allB r l (i + 1)) := by rw [hs, places_app]
    have hl1 := places_len (allB r l i)
    have hl2 := places_len (listB r i (formsP p))
    have hb1 := allB_len c (i := i) (by omega)
    have hb2 := listB_len c hpm i
    have hft := places_fit (listB r i (formsP p))
    generalize places (allB r l i) = R1 at hH2 htk hl1
    generalize places (listB r i (formsP p)) = R2 at hf htk hl2 hft
    have hb : (R1.length + R2.length) * 32 ≤ 140737488355328 := by omega
    clear hl1 hl2 hb1 hb2 hs
    replace hf := Hid.mk hf
    replace hp := Hid.mk hp
    replace hpm := Hid.mk hpm
    replace hpd := Hid.mk hpd
    refine AL ?_
    refine CV hf.out ?_
    refine AL ?_
    exact ⟨l.length - (i + 1), by omega, i + 1, by omega, by omega, by simp [setF_if, *], by simp [setF_if, *], by simp [upd_if, *], e + 1, by simp [setF_if, *], by simp [upd_if, joinT, *]⟩
  · have ei : i = l.length := by omega
    rw [ei] at hH2
    have hnb : newB 1 (places (allB r l l.length)) := .inl (by decide)
    refine AL ?_
    simp [retA, backA, newSl, *]
theorem allPlacements_o (G : Gv) (hA : AllG G) (r : Shape) (l : List PieceM) (c : puzzleS r l = true) :
    GivesO Tryz.prog G 81 [.ag [.sl 0 (cells r), .sl 0 (pieces l)]] (.sl 1 (places (allB r l l.length))) := by
  refine .of (.body Tryz.func81 rfl (by simp [Tryz.ntmps81]) ?_)
  rw [Tryz.ntmps81, Tryz.results81]
  have hlen := pieces_len l
  obtain ⟨g1, g2, g3, g4, g5, g6, g8⟩ := puzzle_facts c
  replace g1 := Hid.mk g1
  replace g6 := Hid.mk g6
  replace g8 := Hid.mk g8
  replace hA := Hid.mk hA
  refine AL ?_
  refine .loop (.inv (fun d E H n' => ∃ (i e t' : Nat) (rows : List (List PV)) (S : List Nat), i + d = l.length ∧ 2 < n' ∧ E 1 = .ptr 0 0 0 0 ∧ E 3 = .own 2 e ∧ E 8 = .i .i64 l.length ∧ E 9 = .i .i64 i ∧ H 0 = some (.box 35 [.sl 0 (cells r), .sl 0 (pieces l)]) ∧ H 2 = some (.arr e 55 2 rows t') ∧
      tagOk t' rows ∧ fitR 2 rows ∧ ownRs H rows (places (allB r l i)) S ∧ S.Nodup ∧ (∀ o ∈ S, 2 < o ∧ o < n') ∧ (rows = [] → t' ≠ 2)) l.length ?_ ?_)
  · exact ⟨0, 0, 1, [], [], by omega, by omega, by simp [setF_if, argE], by simp [setF_if, argE], by simp [setF_if, argE, hlen], by simp [setF_if, argE], by simp [upd_if], by simp [upd_if], .inr (fun r hr => by simp at hr), fun r hr => by simp at hr, ⟨rfl, rfl⟩, by simp, by simp, fun _ => by decide⟩
  rintro d E H n' ⟨i, e, t', rows, S, hi, hn, h1, h3, h8, h9, hH0, hH2, htag, hfit, hown, hnd, hlt, hnil⟩
  have hrl := ownRs_len hown
  rw [places_len] at hrl
  replace htag := Hid.mk htag
  replace hfit := Hid.mk hfit
  replace hown := Hid.mk hown
  replace hnd := Hid.mk hnd
  replace hlt := Hid.mk hlt
  replace hnil := Hid.mk hnil
  by_cases ci : (i : Int) < l.length
  · have hw_i : IntKind.i64.wrap ((i : Int) + 1) = (i : Int) + 1 := wr64 (by omega) (by omega)
    have hil : i < l.length := by omega
    obtain ⟨p, hp⟩ : ∃ p, l[i]? = some p := ⟨_, List.getElem?_eq_getElem hil⟩
    have hpm := List.mem_of_getElem? hp
    have hpd : l.getD i pc0 = p := by rw [List.getD_eq_getElem?_getD, hp]; rfl
    have hf := placementsOf_o G hA.out r l i p hp (g8.out p hpm).1 (by have := (g8.out p hpm).2; omega) g1.out (by omega) (by omega) (listA_nodup' c hpm _)
    rw [places_eq c hpm i] at hf
    have hs := allB_succ r l i
    rw [hpd] at hs
    have hb1 := allB_len c (i := i) (by omega)
    have hb2 := listB_len c hpm i
    have hra : rows.length ≤ 3840 := by omega
    generalize listB r i (formsP p) = L2 at hf hs hb2
    clear hrl hb1
    replace hf := Hid.mk hf
    replace hp := Hid.mk hp
    replace hpm := Hid.mk hpm
    replace hpd := Hid.mk hpd
    replace hs := Hid.mk hs
    refine AL ?_
    refine CWO1 hf.out ?_
    intro z H1 S1 m hz hn1 hS hf1 hm hz1
    have f0 := (hf1 0 (by omega)).trans hH0
    have f2 := (hf1 2 (by omega)).trans hH2
    have hS3 : ∀ o ∈ S1, 2 < o ∧ o < m := fun o h => by have := hS o h; omega
    have hSd : ∀ o ∈ S, o ∉ S1 := fun o h1 h2 => by have := hlt.out o h1; have := hS o h2; omega
    have hown1 := ownRs_congr (fun o ho => hf1 o (by have := hlt.out o ho; omega)) hown.out
    have hlt1 : ∀ o ∈ S, 2 < o ∧ o < m := fun o h => by have := hlt.out o h; omega
    have hm2 : 2 < m := by omega
    have hnd1 := hnd.out
    clear hf hf1 hown hlt hS hH0 hH2
    replace hSd := Hid.mk hSd
    replace hown1 := Hid.mk hown1
    replace hlt1 := Hid.mk hlt1
    replace hnd1 := Hid.mk hnd1
    replace hn1 := Hid.mk hn1
    have hm0 : ¬ (0 = m) := by omega
    replace hz1 := Hid.mk hz1
    rcases ownX_un hz with ⟨o, eo, ty, sz, rows2, t2, S', rfl, hHo, rfl, hR2, ht2, ht2', hf2⟩ | ⟨hz2, hq, rfl⟩
    · have ho3 := hS3 o List.mem_cons_self
      have hS4 : ∀ o ∈ S', 2 < o ∧ o < m := fun o h => hS3 o (List.mem_cons_of_mem _ h)
      have n3 : ¬ o = 2 := by omega
      have hr2l := ownRs_len hR2
      rw [places_len] at hr2l
      have hb : (rows.length + rows2.length) * 32 ≤ 140737488355328 := by omega
      have hfit2 : (sz == 2) = true ∨ rows2 = [] := by
        by_cases q : rows2 = []
        · exact .inr q
        · obtain ⟨r0, hr0⟩ := List.exists_mem_of_ne_nil _ q
          have h5 := hf2 r0 hr0
          have h6 : r0.length = 2 := by
            obtain ⟨q2, hq2, s, e1⟩ := ownRs_row hR2 r0 hr0
            obtain ⟨y, _, rfl⟩ := List.mem_map.mp hq2
            rw [ownPs_len e1]; rfl
          exact .inl (by rw [← h5, h6]; rfl)
      have hfit3 : fitR 2 (rows ++ rows2) := fun r hr => by
        rcases List.mem_append.mp hr with hr | hr
        · exact hfit.out r hr
        · rcases hfit2 with q | q
          · rw [hf2 r hr]; simpa using q
          · rw [q] at hr; simp at hr
      clear hz hS3 hr2l hf2
      replace hR2 := Hid.mk hR2
      replace ht2 := Hid.mk ht2
      replace ht2' := Hid.mk ht2'
      replace hS4 := Hid.mk hS4
      replace hfit3 := Hid.mk hfit3
      have hn1' := List.nodup_cons.mp hn1.out
      replace hn1' := Hid.mk hn1'
      refine AL ?_
      refine ⟨l.length - (i + 1), by omega, i + 1, e + 1, joinT t' t2, rows ++ rows2, S ++ S', by omega, by omega, by simp [setF_if, *], by simp [setF_if, *], by simp [setF_if, *], by simp [setF_if, *], by simp [upd_if, *], by simp [upd_if, joinT, *], tag_app htag.out ht2.out, hfit3.out, ?_, ?_, ?_, fun h => ?_⟩
      · rw [hs.out, places_app]
        exact ownRs_append (ownRs_congr (fun x hx => by have := hlt1.out x hx; rw [upd_if, if_neg (by omega)]) hown1.out) (ownRs_congr (fun x hx => by have := hS4.out x hx; rw [upd_if, if_neg (by omega)]) hR2.out)
      · exact List.nodup_append.mpr ⟨hnd1.out, hn1'.out.2, fun x hx y hy e => hSd.out x hx (e ▸ List.mem_cons_of_mem _ hy)⟩
      · intro x hx
        rcases List.mem_append.mp hx with hx | hx
        · exact ⟨(hlt1.out x hx).1, by have := (hlt1.out x hx).2; omega⟩
        · exact ⟨(hS4.out x hx).1, by have := (hS4.out x hx).2; omega⟩
      · obtain ⟨e1, e2⟩ := List.append_eq_nil_iff.mp h
        subst e1 e2
        exact joinT_ne (hnil.out rfl) (ht2'.out (fun r hr => by simp at hr))
    · have hL : L2 = [] := List.map_eq_nil_iff.mp hq
      subst hL
      have hs2 : allB r l (i + 1) = allB r l i := by rw [hs.out, List.append_nil]
      have hb : rows.length * 32 ≤ 140737488355328 := by omega
      clear hz hS3 hq
      replace hs2 := Hid.mk hs2
      rcases hz2 with rfl | ⟨t2, rfl⟩
      · refine AL ?_
        exact ⟨l.length - (i + 1), by omega, i + 1, e + 1, joinT t' 1, rows, S, by omega, by omega, by simp [setF_if, *], by simp [setF_if, *], by simp [setF_if, *], by simp [setF_if, *], by simp [upd_if, *], by simp [upd_if, joinT, *], tag_join htag.out, hfit.out, by rw [hs2.out]; exact ownRs_congr (fun x hx => by have := hlt1.out x hx; rw [upd_if, if_neg (by omega)]) hown1.out, hnd1.out, fun x hx => ⟨(hlt1.out x hx).1, by have := (hlt1.out x hx).2; omega⟩, fun h => joinT_ne (hnil.out h) (by decide)⟩
      · obtain rfl := hz1.out _ _ rfl
        clear hz1
        refine AL ?_
        exact ⟨l.length - (i + 1), by omega, i + 1, e + 1, joinT t' 1, rows, S, by omega, by omega, by simp [setF_if, *], by simp [setF_if, *], by simp [setF_if, *], by simp [setF_if, *], by simp [upd_if, *], by simp [upd_if, joinT, *], tag_join htag.out, hfit.out, by rw [hs2.out]; exact ownRs_congr (fun x hx => by have := hlt1.out x hx; rw [upd_if, if_neg (by omega)]) hown1.out, hnd1.out, fun x hx => ⟨(hlt1.out x hx).1, by have := (hlt1.out x hx).2; omega⟩, fun h => joinT_ne (hnil.out h) (by decide)⟩
  · have ei : i = l.length := by omega
    rw [ei] at hown
    refine AL ?_
    exact ⟨2 :: S, ownX_sl (tagOk_own hH2 hown.out htag.out (ownRs_ns hown.out (places_ns _)) hfit.out hnil.out), List.nodup_cons.mpr ⟨fun h => by have := (hlt.out 2 h).1; omega, hnd.out⟩⟩
end Go.Proofs
end
section
open Go Go.Big
namespace Go.Proofs
set_option maxHeartbeats 2000000
def relO (H : Heap) : List (Int × Nat × Nat) → List (Int × List Int) → Prop
  | [], L => L = []
  | a :: R, L => ∃ x L', L = x :: L' ∧ a.1 = x.1 ∧ (∃ ty sz t, H a.2.1 = some (.arr a.2.2 ty sz (ints x.2) t) ∧ t ≠ 2 ∧ fitR sz (ints x.2)) ∧ relO H R L'
theorem ints_inj : ∀ {a b : List Int}, ints a = ints b → a = b
  | [], [], _ => rfl
  | [], _ :: _, h => by simp [ints] at h
  | _ :: _, [], h => by simp [ints] at h
  | x :: a, y :: b, h => by
    simp only [ints, List.map_cons, List.cons.injEq, PV.i.injEq, and_true, true_and] at h
    rw [h.1, ints_inj h.2]
theorem ownP_int {H : Heap} {p : PV} {k : Int} {s : List Nat} (h : ownP H p (.i .i64 k) s) : p = .i .i64 k ∧ s = [] := by
  cases p with
  | ob o e => obtain ⟨_, _, _, _, _, _, _, _, e, _⟩ := h; cases e
  | sl rows => obtain ⟨_, e, _⟩ := h; cases e
  | i => obtain ⟨e1, e2⟩ := h; exact ⟨e2.symm, e1⟩
  | b => obtain ⟨_, e⟩ := h; cases e
  | s => obtain ⟨_, e⟩ := h; cases e
theorem ownP_slice {H : Heap} {p : PV} {xs : List Int} {s : List Nat} (h : ownP H p (.sl (ints xs)) s) (h0 : 0 < xs.length) : ∃ o e ty sz t, p = .ob o e ∧ s = [o] ∧ H o = some (.arr e ty sz (ints xs) t) ∧ t ≠ 2 ∧ fitR sz (ints xs) := by
  cases p with
  | ob o e => obtain ⟨rfl, ty, sz, rows, t, h1, h2, h3, e1, h5⟩ := h; cases e1; exact ⟨o, e, ty, sz, t, rfl, rfl, h1, h2, h5⟩
  | sl rows =>
    obtain ⟨_, e, _⟩ := h
    simp only [PV.sl.injEq] at e
    have : (ints xs).length = 0 := by rw [e]; rfl
    rw [ints_len] at this; omega
  | i => obtain ⟨_, e⟩ := h; cases e
  | b => obtain ⟨_, e⟩ := h; cases e
  | s => obtain ⟨_, e⟩ := h; cases e
theorem ownRs_rel {H : Heap} : ∀ {rows : List (List PV)} {L : List (Int × List Int)} {S : List Nat}, ownRs H rows (places L) S → (∀ x ∈ L, 0 < x.2.length) → ∃ R, rows = rowsO R ∧ relO H R L ∧ S = R.map (·.2.1)
  | [], L, S, h, _ => by
    obtain ⟨e1, rfl⟩ := h
    exact ⟨[], rfl, List.map_eq_nil_iff.mp e1, rfl⟩
  | r :: rows, [], S, ⟨a, b, s, s', e, _⟩, _ => by cases e
  | r :: rows, x :: L, S, ⟨a, b, s, s', e, e2, h1, h2⟩, hL => by
    simp only [places, List.map_cons, List.cons.injEq] at e
    obtain ⟨rfl, rfl⟩ := e
    subst e2
    obtain ⟨R, rfl, g2, rfl⟩ := ownRs_rel h2 (fun y hy => hL y (List.mem_cons_of_mem _ hy))
    cases r with
    | nil => obtain ⟨e, _⟩ := h1; cases e
    | cons p ps =>
      obtain ⟨q, qs, s1, s2, e, rfl, k1, k2⟩ := h1
      cases e
      obtain ⟨rfl, rfl⟩ := ownP_int k1
      cases ps with
      | nil => obtain ⟨e, _⟩ := k2; cases e
      | cons p2 ps2 =>
        obtain ⟨q2, qs2, s3, s4, e, rfl, k3, k4⟩ := k2
        cases e
        cases ps2 with
        | cons => obtain ⟨_, _, _, _, e, _⟩ := k4; cases e
        | nil =>
          obtain ⟨_, rfl⟩ := k4
          obtain ⟨o, e, ty, sz, t, rfl, rfl, m1, m2, m3⟩ := ownP_slice k3 (hL x List.mem_cons_self)
          exact ⟨(x.1, o, e) :: R, rfl, ⟨x, L, rfl, rfl, ⟨ty, sz, t, m1, m2, m3⟩, g2⟩, by simp⟩
theorem rel_own {H : Heap} : ∀ {R : List (Int × Nat × Nat)} {L : List (Int × List Int)}, relO H R L → ownRs H (rowsO R) (places L) (R.map (·.2.1))
  | [], L, h => by subst h; exact ⟨rfl, rfl⟩
  | a :: R, _, ⟨x, L', rfl, e1, ⟨ty, sz, t, m1, m2, m3⟩, g⟩ => by
    have hr : ownPs H (rowO a) (placR x) [a.2.1] := by
      refine ⟨.i .i64 x.1, [.sl (ints x.2)], [], [a.2.1], rfl, rfl, ⟨rfl, by rw [e1]⟩, .sl (ints x.2), [], [a.2.1], [], rfl, by simp, ownP_mk m1 (ints_scal _) m2 m3, rfl, rfl⟩
    exact ownRs_cons hr (rel_own g)
theorem rel_congr {H H' : Heap} : ∀ {R : List (Int × Nat × Nat)} {L : List (Int × List Int)}, (∀ a ∈ R, H' a.2.1 = H a.2.1) → relO H R L → relO H' R L
  | [], _, _, h => h
  | a :: R, _, hH, ⟨x, L', e, e1, ⟨ty, sz, t, m1, m2⟩, g⟩ => ⟨x, L', e, e1, ⟨ty, sz, t, (hH a List.mem_cons_self).trans m1, m2⟩, rel_congr (fun b hb => hH b (List.mem_cons_of_mem _ hb)) g⟩
theorem rel_mem {H : Heap} : ∀ {R : List (Int × Nat × Nat)} {L : List (Int × List Int)}, relO H R L → ∀ a ∈ R, ∃ x ∈ L, a.1 = x.1 ∧ ∃ ty sz t, H a.2.1 = some (.arr a.2.2 ty sz (ints x.2) t) ∧ t ≠ 2 ∧ fitR sz (ints x.2)
  | [], _, _ => by simp
  | a :: R, _, ⟨x, L', rfl, e1, ⟨ty, sz, t, m1, m2, m3⟩, g⟩ => fun b hb => by
    rcases List.mem_cons.mp hb with rfl | hb
    · exact ⟨x, List.mem_cons_self, e1, ty, sz, t, m1, m2, m3⟩
    · obtain ⟨y, h1, h2⟩ := rel_mem g b hb
      exact ⟨y, List.mem_cons_of_mem _ h1, h2⟩
theorem rel_filter {H : Heap} {p' : Int × Nat × Nat → Bool} {p : Int × List Int → Bool} (hp : ∀ a x, (∃ ty sz t, H a.2.1 = some (.arr a.2.2 ty sz (ints x.2) t)) → p' a = p x) : ∀ {R : List (Int × Nat × Nat)} {L : List (Int × List Int)}, relO H R L → relO H (R.filter p') (L.filter p)
  | [], _, h => by subst h; rfl
  | a :: R, _, ⟨x, L', rfl, e1, ⟨ty, sz, t, m1, m2⟩, g⟩ => by
    have h1 := hp a x ⟨ty, sz, t, m1⟩
    by_cases c : p x = true
    · rw [List.filter_cons_of_pos (by rw [h1]; exact c), List.filter_cons_of_pos c]
      exact ⟨x, _, rfl, e1, ⟨ty, sz, t, m1, m2⟩, rel_filter hp g⟩
    · rw [List.filter_cons_of_neg (by rw [h1]; exact c), List.filter_cons_of_neg c]
      exact rel_filter hp g
theorem rel_len {H : Heap} : ∀ {R : List (Int × Nat × Nat)} {L : List (Int × List Int)}, relO H R L → R.length = L.length
  | [], _, h => by subst h; rfl
  | a :: R, _, ⟨x, L', rfl, _, _, g⟩ => by simp [rel_len g]
theorem fit_ints {sz : Nat} {l : List Int} (h : fitR sz (ints l)) (h0 : 0 < l.length) : sz = 1 := by
  cases l with
  | nil => simp at h0
  | cons x l => exact (h [.i .i64 x] (by simp [ints])).symm
/-- The first cell of a placement that lies in memory. -/
def firstO (H : Heap) (o : Nat) : Int := match H o with
  | some (.arr _ _ _ ([.i _ c] :: _) _) => c
  | _ => 0
theorem firstO_eq {H : Heap} {o e sz t : Nat} {ty : TypeId} {xs : List Int} (h : H o = some (.arr e ty sz (ints xs) t)) : firstO H o = xs.getD 0 0 := by
  unfold firstO
  rw [h]
  cases xs <;> rfl
end Go.Proofs
end
section
open Go Go.Big
namespace Go.Proofs
set_option maxHeartbeats 2000000
def pallS (r : Shape) (l : List PieceM) : List (Int × List Int) × Int := if puzzleS r l then (allB r l l.length, 0) else ([], 1)
def pallI (r : Shape) (l : List PieceM) : List (Int × List Int) × Int := if puzzleI r l then (allB r l l.length, 0) else ([], 1)
theorem specAllPlacements_fn (G : Gv) (r : Shape) (l : List PieceM) (hr : r.length < 1000000000) (hl : l.length < 1000000000) (hpl : ∀ p ∈ l, p.cs.length < 1000000000) :
    Gives Tryz.prog G 33 [.ag [.sl 0 (cells r), .sl 0 (pieces l)]] (.tup [.sl 1 (places (pallS r l).1), .i .i64 (pallS r l).2]) := by
  refine .of (.body Tryz.func33 rfl (by simp [Tryz.ntmps33]) ?_)
  rw [Tryz.ntmps33, Tryz.results33]
  replace hpl := Hid.mk hpl
  refine AL ?_
  refine CV (specIsPuzzle_fn G r l hr hl hpl.out) ?_
  by_cases c : puzzleS r l = true
  · have hf := l12All_fn G r l c
    have hres : pallS r l = (allB r l l.length, 0) := by unfold pallS; rw [if_pos c]
    rw [hres]
    clear hres
    replace hf := Hid.mk hf
    refine AL ?_
    refine CV hf.out ?_
    refine AL ?_
    simp [retA, backA, backsA, newSl]
  · have hres : pallS r l = ([], 1) := by unfold pallS; rw [if_neg c]
    rw [hres]
    clear hres
    refine AL ?_
    simp [retA, backA, backsA, places_nil]
theorem implAllPlacements_o (G : Gv) (hA : AllG G) (r : Shape) (l : List PieceM) (hr : r.length < 1000000000) (hl : l.length < 1000000000) (hpl : ∀ p ∈ l, p.cs.length < 1000000000) :
    GivesO Tryz.prog G 34 [.ag [.sl 0 (cells r), .sl 0 (pieces l)]] (.tup [.sl 1 (places (pallI r l).1), .i .i64 (pallI r l).2]) := by
  refine .of (.body Tryz.func34 rfl (by simp [Tryz.ntmps34]) ?_)
  rw [Tryz.ntmps34, Tryz.results34]
  replace hpl := Hid.mk hpl
  replace hA := Hid.mk hA
  refine AL ?_
  refine CV (implIsPuzzle_fn G hA.out.c1 hA.out.c2 r l hr hl hpl.out) ?_
  by_cases cI : puzzleI r l = true
  · have c : puzzleS r l = true := by rw [← puzzle_eq]; exact cI
    have hf := allPlacements_o G hA.out r l c
    have hres : pallI r l = (allB r l l.length, 0) := by unfold pallI; rw [if_pos cI]
    rw [hres]
    clear hres
    replace hf := Hid.mk hf
    refine AL ?_
    refine CWO hf.out ?_
    intro z H1 S m hz hn hS hf hm
    replace hz := Hid.mk hz
    refine AL ?_
    exact ⟨S, ownX_kt hz.out, hn⟩
  · have hres : pallI r l = ([], 1) := by unfold pallI; rw [if_neg cI]
    rw [hres]
    clear hres
    refine AL ?_
    exact ⟨[], ownX_mkT (s1 := []) (ownX_sl ownA_nil) ownX_mki, by simp⟩
end Go.Proofs
end
