/- Walks: A placement put into a list in order: the other program. No condition. | All placements of a piece: the other program. No condition. | All placements of a piece: both programs' functions. No condition. | A placement turned: both programs. No condition. | TurnPlacement: both programs' functions. No condition. -/
import Derived.Test.YtdbkkjoejomcmaaGreatBO
import Derived.Test.YtdbkkjoejomcmaaGreatWk8
import Derived.Test.YtdbkkjoejomcmaaGreatWk4
import Derived.Test.YtdbkkjoejomcmaaGreatBC
import Derived.Test.YtdbkkjoejomcmaaGreatWk9
import Derived.Test.YtdbkkjoejomcmaaGreatWk7
import Derived.Test.YtdbkkjoejomcmaaGreatWk5
import Derived.Test.YtdbkkjoejomcmaaGreatWk10
set_option linter.unusedVariables false
set_option linter.unusedSimpArgs false
section
open Go Go.Big
namespace Go.Proofs
set_option maxHeartbeats 2000000
theorem insP_at {x : Int × List Int} : ∀ {l : List (Int × List Int)} {i : Nat}, i ≤ l.length → (∀ k (h : k < l.length), k < i → cmpP l[k] x < 0) → (∀ h : i < l.length, ¬ cmpP l[i] x < 0) → insP x l = l.take i ++ x :: l.drop i
  | [], i, hi, _, _ => by
    obtain rfl : i = 0 := by simpa using hi
    rfl
  | y :: l, 0, _, _, h => by
    have := h (by simp)
    simp only [List.getElem_cons_zero] at this
    unfold insP
    rw [if_neg this]; rfl
  | y :: l, i + 1, hi, h1, h2 => by
    have h0 := h1 0 (by simp) (by omega)
    simp only [List.getElem_cons_zero] at h0
    unfold insP
    rw [if_pos h0, insP_at (i := i) (by simpa using hi) (fun k hk hki => by have := h1 (k + 1) (by simpa using hk) (by omega); simpa using this) (fun h => by have := h2 (by simpa using h); simpa using this)]
    simp
theorem l12Insert_wc (G : Gv) (l : List (Int × List Int)) (x : Int × List Int) (o e : Nat) (H : Heap) (n : Nat) (ho : o < n) (hH : H o = some (.arr e 55 2 (places l) 1)) (hl : l.length < 1000000000) (hlc : ∀ y ∈ l, y.2.length < 1000000000) (hx : x.2.length < 1000000000) :
    WC Tryz.prog G 131 [.own o e, placA 1 x] H n (fun r H' n' => n ≤ n' ∧ ∃ o' e', r = .own o' e' ∧ o' < n' ∧ H' o' = some (.arr e' 55 2 (places (insP x l)) 1) ∧ ∀ k, k < n → H' k = H k) := by
  refine (.body Tryz.func131 rfl (by simp [Tryz.ntmps131]) ?_)
  rw [Tryz.ntmps131, Tryz.results131]
  have hlen := places_len l
  have hno : ¬ (o = n) := by omega
  replace hlc := Hid.mk hlc
  refine AL ?_
  refine .loop (.inv (fun d E H' n' => ∃ i : Nat, i + d = l.length ∧ n < n' ∧ E 0 = .own o e ∧ E 3 = .ptr n 0 0 0 ∧ E 5 = .i .i64 i ∧ H' = H.upd n (.box 55 [.i .i64 x.1, .sl 1 (ints x.2)]) ∧ (∀ k (h : k < l.length), k < i → cmpP l[k] x < 0)) l.length ?_ ?_)
  · exact ⟨0, by omega, by omega, by simp [setF_if, argE], by simp [setF_if, argE], by simp [setF_if, argE], rfl, fun k _ hk => by omega⟩
  rintro d E H' n' ⟨i, hi, hn, h0, h3, h5, rfl, hlo⟩
  replace hlo := Hid.mk hlo
  by_cases c : (i : Int) < l.length
  · have hw_i : IntKind.i64.wrap ((i : Int) + 1) = (i : Int) + 1 := wr64 (by omega) (by omega)
    have hil : i < l.length := by omega
    have hrow : (places l)[i]? = some (placR (l[i]'hil)) := places_at (List.getElem?_eq_getElem hil)
    have hyl := hlc.out _ (List.getElem_mem hil)
    have hnext : cmpP (l[i]'hil) x < 0 → ∀ k (h : k < l.length), k < i + 1 → cmpP l[k] x < 0 := fun h k hk hki => by
      by_cases q : k = i
      · subst q; exact h
      · exact hlo.out k hk (by omega)
    obtain ⟨y, hy⟩ : ∃ y, l[i]'hil = y := ⟨_, rfl⟩
    rw [hy] at hrow hyl hnext
    replace hy := Hid.mk hy
    replace hnext := Hid.mk hnext
    obtain ⟨yk, ys⟩ := y
    obtain ⟨xk, xs⟩ := x
    simp only at hyl
    by_cases cy : cmpP (yk, ys) (xk, xs) < 0
    · refine AL ?_
      refine CQ (specComparePl_fn G (yk, ys) (xk, xs) hyl hx) ?_
      refine AL ?_
      exact ⟨l.length - (i + 1), by omega, i + 1, by omega, by omega, by simp [setF_if, *], by simp [setF_if, *], by simp [setF_if, *], by first | rfl | trivial, hnext.out cy⟩
    · have heq := insP_at (x := (xk, xs)) (l := l) (i := i) (by omega) hlo.out (fun h => by rw [hy.out]; exact cy)
      replace heq := Hid.mk heq
      refine AL ?_
      refine CQ (specComparePl_fn G (yk, ys) (xk, xs) hyl hx) ?_
      refine AX ?_
      have hle : i ≤ l.length := by omega
      have hzi : 0 ≤ i := by omega
      have hs0 : i - 0 = i := rfl
      have hdr : (places l).drop 0 = places l := rfl
      have htk : (places l).take i = places (l.take i) := by simp [places, List.map_take]
      have htd : ((places l).drop i).take (l.length - i) = places (l.drop i) := by unfold places; rw [← List.map_drop, List.take_of_length_le (by simp)]
      have hl1 : (places (l.take i)).length = i := by rw [places_len, List.length_take]; omega
      have hl2 : (places (l.drop i)).length = l.length - i := by rw [places_len, List.length_drop]
      have hb1 : i * 32 ≤ 140737488355328 := by omega
      have hb2 : (i + 1) * 32 ≤ 140737488355328 := by omega
      have hb3 : (i + 1 + (l.length - i)) * 32 ≤ 140737488355328 := by omega
      have hfit1 : decide (∀ r ∈ places (l.take i), r.length = 2) = true := decide_eq_true fun r hr => by obtain ⟨y, _, rfl⟩ := List.mem_map.mp hr; rfl
      have hfit2 : decide (∀ r ∈ places (l.drop i), r.length = 2) = true := decide_eq_true fun r hr => by obtain ⟨y, _, rfl⟩ := List.mem_map.mp hr; rfl
      have hl3 : (places (l.take i) ++ [[PV.i .i64 xk, PV.sl (ints xs)]]).length = i + 1 := by simp [hl1]
      have hno' : ¬ (o = n') := by omega
      have hnn' : ¬ (n = n') := by omega
      have hno6 : ¬ (o = n' + 6) := by omega
      have hnn6 : ¬ (n = n' + 6) := by omega
      have h06 : ¬ (n' = n' + 6) := by omega
      have h60 : ¬ (n' + 6 = n') := by omega
      have hnd : [n', n' + 6].Nodup := by simp
      refine FD [n', n' + 6] [(21, 0), (25, 0), (27, 1), (28, 0), (32, 0)] [(28, [1])] hnd ?_
      repeat first | refine FF ?_ | refine FS ?_
      refine FM 0 (n') ?_ (hs := by
        intro Hx hx
        exact EVM)
      repeat first | refine FF ?_ | refine FS ?_
      refine FQ ?_ (hs := by
        intro Hx hx
        have f0 : Hx (o) = _ := hx.off (by simp only [List.mem_cons, List.not_mem_nil, or_false, not_or]; omega)
        simp only [setF_if, upd_if, neAdd, neLt, ltAdd, addNe, ltNe, Nat.left_eq_add, Nat.add_eq_left, Nat.reduceEqDiff, Nat.add_assoc, Nat.reduceAdd, reduceIte, *] at f0
        exact EV)
      refine FM 0 (n') ?_ (hs := by
        intro Hx hx
        have f0 : Hx (n') = _ := hx.at hnd 0 rfl (by decide)
        simp only [setF_if, upd_if, neAdd, neLt, ltAdd, addNe, ltNe, Nat.left_eq_add, Nat.add_eq_left, Nat.reduceEqDiff, Nat.add_assoc, Nat.reduceAdd, reduceIte, *] at f0
        have f1 : Hx (o) = _ := hx.off (by simp only [List.mem_cons, List.not_mem_nil, or_false, not_or]; omega)
        simp only [setF_if, upd_if, neAdd, neLt, ltAdd, addNe, ltNe, Nat.left_eq_add, Nat.add_eq_left, Nat.reduceEqDiff, Nat.add_assoc, Nat.reduceAdd, reduceIte, *] at f1
        exact EVM)
      refine FQ ?_ (hs := by
        intro Hx hx
        have f0 : Hx (n) = _ := hx.off (by simp only [List.mem_cons, List.not_mem_nil, or_false, not_or]; omega)
        simp only [setF_if, upd_if, neAdd, neLt, ltAdd, addNe, ltNe, Nat.left_eq_add, Nat.add_eq_left, Nat.reduceEqDiff, Nat.add_assoc, Nat.reduceAdd, reduceIte, *] at f0
        exact EV)
      refine FM 1 (n' + 6) ?_ (hs := by
        intro Hx hx
        exact EVM)
      refine FM 0 (n') ?_ (hs := by
        intro Hx hx
        have f0 : Hx (n') = _ := hx.at hnd 0 rfl (by decide)
        simp only [setF_if, upd_if, neAdd, neLt, ltAdd, addNe, ltNe, Nat.left_eq_add, Nat.add_eq_left, Nat.reduceEqDiff, Nat.add_assoc, Nat.reduceAdd, reduceIte, *] at f0
        have f1 : Hx (n' + 6) = _ := hx.at hnd 1 rfl (by decide)
        simp only [setF_if, upd_if, neAdd, neLt, ltAdd, addNe, ltNe, Nat.left_eq_add, Nat.add_eq_left, Nat.reduceEqDiff, Nat.add_assoc, Nat.reduceAdd, reduceIte, *] at f1
        exact EVM)
      repeat first | refine FF ?_ | refine FS ?_
      refine FQ ?_ (hs := by
        intro Hx hx
        have f0 : Hx (o) = _ := hx.off (by simp only [List.mem_cons, List.not_mem_nil, or_false, not_or]; omega)
        simp only [setF_if, upd_if, neAdd, neLt, ltAdd, addNe, ltNe, Nat.left_eq_add, Nat.add_eq_left, Nat.reduceEqDiff, Nat.add_assoc, Nat.reduceAdd, reduceIte, *] at f0
        exact EV)
      refine FM 0 (n') ?_ (hs := by
        intro Hx hx
        have f0 : Hx (n') = _ := hx.at hnd 0 rfl (by decide)
        simp only [setF_if, upd_if, neAdd, neLt, ltAdd, addNe, ltNe, Nat.left_eq_add, Nat.add_eq_left, Nat.reduceEqDiff, Nat.add_assoc, Nat.reduceAdd, reduceIte, *] at f0
        have f1 : Hx (o) = _ := hx.off (by simp only [List.mem_cons, List.not_mem_nil, or_false, not_or]; omega)
        simp only [setF_if, upd_if, neAdd, neLt, ltAdd, addNe, ltNe, Nat.left_eq_add, Nat.add_eq_left, Nat.reduceEqDiff, Nat.add_assoc, Nat.reduceAdd, reduceIte, *] at f1
        exact EVM)
      repeat first | refine FF ?_ | refine FS ?_
      refine WF.nil ?_
      refine AL ?_
      refine ⟨by omega, n', 3, by simp [retA], by omega, ?_, fun k hk => ?_⟩
      · rw [heq.out]
        simp [upd_if, places]
      · simp [upd_if, show ¬ k = n' by omega, show ¬ k = n' + 6 by omega, show ¬ k = n by omega]
  · have heq := insP_at (x := x) (l := l) (i := i) (by omega) hlo.out (fun h => by omega)
    replace heq := Hid.mk heq
    obtain ⟨xk, xs⟩ := x
    refine AX ?_
    refine DR ?_
    refine AX ?_
    have hle : i ≤ l.length := by omega
    have hzi : 0 ≤ i := by omega
    have hs0 : i - 0 = i := rfl
    have hdr : (places l).drop 0 = places l := rfl
    have htk : (places l).take i = places (l.take i) := by simp [places, List.map_take]
    have htd : ((places l).drop i).take (l.length - i) = places (l.drop i) := by unfold places; rw [← List.map_drop, List.take_of_length_le (by simp)]
    have hl1 : (places (l.take i)).length = i := by rw [places_len, List.length_take]; omega
    have hl2 : (places (l.drop i)).length = l.length - i := by rw [places_len, List.length_drop]
    have hb1 : i * 32 ≤ 140737488355328 := by omega
    have hb2 : (i + 1) * 32 ≤ 140737488355328 := by omega
    have hb3 : (i + 1 + (l.length - i)) * 32 ≤ 140737488355328 := by omega
    have hfit1 : decide (∀ r ∈ places (l.take i), r.length = 2) = true := decide_eq_true fun r hr => by obtain ⟨y, _, rfl⟩ := List.mem_map.mp hr; rfl
    have hfit2 : decide (∀ r ∈ places (l.drop i), r.length = 2) = true := decide_eq_true fun r hr => by obtain ⟨y, _, rfl⟩ := List.mem_map.mp hr; rfl
    have hl3 : (places (l.take i) ++ [[PV.i .i64 xk, PV.sl (ints xs)]]).length = i + 1 := by simp [hl1]
    have hno' : ¬ (o = n') := by omega
    have hnn' : ¬ (n = n') := by omega
    have hno6 : ¬ (o = n' + 6) := by omega
    have hnn6 : ¬ (n = n' + 6) := by omega
    have h06 : ¬ (n' = n' + 6) := by omega
    have h60 : ¬ (n' + 6 = n') := by omega
    have hnd : [n', n' + 6].Nodup := by simp
    refine FD [n', n' + 6] [(21, 0), (25, 0), (27, 1), (28, 0), (32, 0)] [(28, [1])] hnd ?_
    repeat first | refine FF ?_ | refine FS ?_
    refine FM 0 (n') ?_ (hs := by
      intro Hx hx
      exact EVM)
    repeat first | refine FF ?_ | refine FS ?_
    refine FQ ?_ (hs := by
      intro Hx hx
      have f0 : Hx (o) = _ := hx.off (by simp only [List.mem_cons, List.not_mem_nil, or_false, not_or]; omega)
      simp only [setF_if, upd_if, neAdd, neLt, ltAdd, addNe, ltNe, Nat.left_eq_add, Nat.add_eq_left, Nat.reduceEqDiff, Nat.add_assoc, Nat.reduceAdd, reduceIte, *] at f0
      exact EV)
    refine FM 0 (n') ?_ (hs := by
      intro Hx hx
      have f0 : Hx (n') = _ := hx.at hnd 0 rfl (by decide)
      simp only [setF_if, upd_if, neAdd, neLt, ltAdd, addNe, ltNe, Nat.left_eq_add, Nat.add_eq_left, Nat.reduceEqDiff, Nat.add_assoc, Nat.reduceAdd, reduceIte, *] at f0
      have f1 : Hx (o) = _ := hx.off (by simp only [List.mem_cons, List.not_mem_nil, or_false, not_or]; omega)
      simp only [setF_if, upd_if, neAdd, neLt, ltAdd, addNe, ltNe, Nat.left_eq_add, Nat.add_eq_left, Nat.reduceEqDiff, Nat.add_assoc, Nat.reduceAdd, reduceIte, *] at f1
      exact EVM)
    refine FQ ?_ (hs := by
      intro Hx hx
      have f0 : Hx (n) = _ := hx.off (by simp only [List.mem_cons, List.not_mem_nil, or_false, not_or]; omega)
      simp only [setF_if, upd_if, neAdd, neLt, ltAdd, addNe, ltNe, Nat.left_eq_add, Nat.add_eq_left, Nat.reduceEqDiff, Nat.add_assoc, Nat.reduceAdd, reduceIte, *] at f0
      exact EV)
    refine FM 1 (n' + 6) ?_ (hs := by
      intro Hx hx
      exact EVM)
    refine FM 0 (n') ?_ (hs := by
      intro Hx hx
      have f0 : Hx (n') = _ := hx.at hnd 0 rfl (by decide)
      simp only [setF_if, upd_if, neAdd, neLt, ltAdd, addNe, ltNe, Nat.left_eq_add, Nat.add_eq_left, Nat.reduceEqDiff, Nat.add_assoc, Nat.reduceAdd, reduceIte, *] at f0
      have f1 : Hx (n' + 6) = _ := hx.at hnd 1 rfl (by decide)
      simp only [setF_if, upd_if, neAdd, neLt, ltAdd, addNe, ltNe, Nat.left_eq_add, Nat.add_eq_left, Nat.reduceEqDiff, Nat.add_assoc, Nat.reduceAdd, reduceIte, *] at f1
      exact EVM)
    repeat first | refine FF ?_ | refine FS ?_
    refine FQ ?_ (hs := by
      intro Hx hx
      have f0 : Hx (o) = _ := hx.off (by simp only [List.mem_cons, List.not_mem_nil, or_false, not_or]; omega)
      simp only [setF_if, upd_if, neAdd, neLt, ltAdd, addNe, ltNe, Nat.left_eq_add, Nat.add_eq_left, Nat.reduceEqDiff, Nat.add_assoc, Nat.reduceAdd, reduceIte, *] at f0
      exact EV)
    refine FM 0 (n') ?_ (hs := by
      intro Hx hx
      have f0 : Hx (n') = _ := hx.at hnd 0 rfl (by decide)
      simp only [setF_if, upd_if, neAdd, neLt, ltAdd, addNe, ltNe, Nat.left_eq_add, Nat.add_eq_left, Nat.reduceEqDiff, Nat.add_assoc, Nat.reduceAdd, reduceIte, *] at f0
      have f1 : Hx (o) = _ := hx.off (by simp only [List.mem_cons, List.not_mem_nil, or_false, not_or]; omega)
      simp only [setF_if, upd_if, neAdd, neLt, ltAdd, addNe, ltNe, Nat.left_eq_add, Nat.add_eq_left, Nat.reduceEqDiff, Nat.add_assoc, Nat.reduceAdd, reduceIte, *] at f1
      exact EVM)
    repeat first | refine FF ?_ | refine FS ?_
    refine WF.nil ?_
    refine AL ?_
    refine ⟨by omega, n', 3, by simp [retA], by omega, ?_, fun k hk => ?_⟩
    · rw [heq.out]
      simp [upd_if, places]
    · simp [upd_if, show ¬ k = n' by omega, show ¬ k = n' + 6 by omega, show ¬ k = n by omega]
end Go.Proofs
end
section
open Go Go.Big
namespace Go.Proofs
set_option maxHeartbeats 2000000
theorem insP_mem {x y : Int × List Int} : ∀ {l : List (Int × List Int)}, y ∈ insP x l → y = x ∨ y ∈ l
  | [], h => by simpa [insP] using h
  | z :: l, h => by
    unfold insP at h
    split at h
    · rcases List.mem_cons.mp h with rfl | h
      · exact .inr List.mem_cons_self
      · exact (insP_mem h).imp id (List.mem_cons_of_mem _)
    · rcases List.mem_cons.mp h with rfl | h
      · exact .inl rfl
      · exact .inr h
theorem insP_length (x : Int × List Int) : ∀ (l : List (Int × List Int)), (insP x l).length = l.length + 1
  | [] => rfl
  | y :: l => by
    unfold insP
    split
    · simp [insP_length x l]
    · simp
theorem bnd0 {a i : Nat} (h : a ≤ i * 1000000) : a ≤ i * 1000000 + 0 * 1000 := by rw [Nat.zero_mul, Nat.add_zero]; exact h
theorem bnd0' {a i y : Nat} (h : a ≤ i * 1000000 + y * 1000) : a ≤ i * 1000000 + y * 1000 + 0 := by rw [Nat.add_zero]; exact h
theorem bnd1 {a i y x : Nat} (h : a ≤ i * 1000000 + y * 1000 + x) : a ≤ i * 1000000 + y * 1000 + (x + 1) := by omega
theorem bnd1' {a i y x : Nat} (h : a ≤ i * 1000000 + y * 1000 + x) : a + 1 ≤ i * 1000000 + y * 1000 + (x + 1) := by omega
theorem bnd2 {a i y w : Nat} (h : a ≤ i * 1000000 + y * 1000 + w) (hw : w ≤ 1000) : a ≤ i * 1000000 + (y + 1) * 1000 := by
  refine Nat.le_trans h ?_
  rw [Nat.add_mul, Nat.one_mul, Nat.add_assoc]
  exact Nat.add_le_add_left (Nat.add_le_add_left hw _) _
theorem bnd3 {a i w : Nat} (h : a ≤ i * 1000000 + w * 1000) (hw : w ≤ 1000) : a ≤ (i + 1) * 1000000 := by omega
theorem range_foldl {β : Type} (f : β → Nat → β) (z : β) (n : Nat) : (List.range (n + 1)).foldl f z = f ((List.range n).foldl f z) n := by
  rw [List.range_succ, List.foldl_append]; rfl
theorem l12Of_fn (G : Gv) (r : Shape) (l : List PieceM) (k : Nat) (p : PieceM) (hp : l[k]? = some p) (hp0 : 0 < p.cs.length) (hpl : p.cs.length < 1000000) (hr1 : 1 ≤ r.length) (hr : r.length < 1000000000) (hl : l.length < 1000000000) (hw : (sizeM r).1 ≤ 1000 ∧ (sizeM r).2 ≤ 1000) :
    Gives Tryz.prog G 76 [.ag [.sl 0 (cells r), .sl 0 (pieces l)], .i .i64 k] (.sl 1 (places (listB r k (formsP p)))) := by
  refine .of (.body Tryz.func76 rfl (by simp [Tryz.ntmps76]) ?_)
  rw [Tryz.ntmps76, Tryz.results76]
  have hrow := pieces_at hp
  obtain ⟨hf1, hf2⟩ := formsP_ok p
  have hk : k < l.length := (List.getElem?_eq_some_iff.mp hp).1
  have hlenf := shapesR_len (formsP p)
  replace hp := Hid.mk hp
  refine AL ?_
  refine CV (l11Forms_fn G p hp0 (by omega)) ?_
  refine AL ?_
  refine CV (l04Size_fn G r (by omega) hr) ?_
  unfold listB
  have hfl : ∀ f ∈ formsP p, f.length < 1000000 := fun f hf => by rw [hf2 f hf]; exact hpl
  generalize formsP p = fs at hf1 hf2 hlenf hfl
  obtain ⟨hw1, hw2⟩ := hw
  generalize (sizeM r).1 = wide at hw1
  generalize (sizeM r).2 = high at hw2
  generalize hwN : wide.toNat = wN
  generalize hhN : high.toNat = hN
  have hwN9 : wN ≤ 1000 := by omega
  have hhN9 : hN ≤ 1000 := by omega
  replace hfl := Hid.mk hfl
  replace hf2 := Hid.mk hf2
  clear hrow
  refine AL ?_
  refine .loop (.inv (fun d E H n' => ∃ (i : Nat) (out : List (Int × List Int)) (o e : Nat), i + d = fs.length ∧ 0 < n' ∧ o < n' ∧ E 1 = .i .i64 k ∧ E 2 = .ptr 0 0 0 0 ∧ E 5 = .own o e ∧ E 6 = .sl 1 (shapesR fs) ∧ E 7 = .i .i64 wide ∧ E 8 = .i .i64 high ∧ E 9 = .i .i64 i ∧ H 0 = some (.box 35 [.sl 0 (cells r), .sl 0 (pieces l)]) ∧ H o = some (.arr e 55 2 (places out) 1) ∧
      out = (fs.take i).foldl (formB r k wN hN) [] ∧ out.length ≤ i * 1000000 ∧ ∀ z ∈ out, z.2.length < 1000000) fs.length ?_ ?_)
  · exact ⟨0, [], 2, 0, by omega, by omega, by omega, by simp [setF_if, argE], by simp [setF_if, argE], by simp [setF_if, argE], by simp [setF_if, argE], by simp [setF_if, argE], by simp [setF_if, argE], by simp [setF_if, argE], by simp [upd_if], by simp [upd_if, places], rfl, by simp, by simp⟩
  rintro d E H n' ⟨i, out, o, e, hi, hn, hon, h1, h2, h5, h6, h7, h8, h9, hH0, hHo, hout, hlen, hmem⟩
  by_cases c : (i : Int) < fs.length
  · have hw_i : IntKind.i64.wrap ((i : Int) + 1) = (i : Int) + 1 := wr64 (by omega) (by omega)
    have hfi : i < fs.length := by omega
    have hfs := foldl_take (f := formB r k wN hN) (z := []) (List.getElem?_eq_getElem hfi)
    rw [← hout] at hfs
    have hrf := shapesR_at (ls := fs) (i := i) hfi
    rw [show fs.getD i [] = fs[i]'hfi by rw [List.getD_eq_getElem?_getD, List.getElem?_eq_getElem hfi]; rfl] at hrf
    have hff := hfl.out _ (List.getElem_mem hfi)
    generalize fs[i]'hfi = f at hfs hrf hff
    replace hfs := Hid.mk hfs
    replace hmem := Hid.mk hmem
    replace hlen := Hid.mk hlen
    replace hout := Hid.mk hout
    refine AL ?_
    refine .loop (.inv (fun d2 E H n' => ∃ (y : Nat) (out2 : List (Int × List Int)) (o e : Nat), y + d2 = hN ∧ 0 < n' ∧ o < n' ∧ E 1 = .i .i64 k ∧ E 2 = .ptr 0 0 0 0 ∧ E 5 = .own o e ∧ E 6 = .sl 1 (shapesR fs) ∧ E 7 = .i .i64 wide ∧ E 8 = .i .i64 high ∧ E 9 = .i .i64 i ∧ E 10 = .i .i64 y ∧ H 0 = some (.box 35 [.sl 0 (cells r), .sl 0 (pieces l)]) ∧ H o = some (.arr e 55 2 (places out2) 1) ∧
        out2 = (List.range y).foldl (rowB r k f wN) out ∧ out2.length ≤ i * 1000000 + y * 1000 ∧ ∀ z ∈ out2, z.2.length < 1000000) hN ?_ ?_)
    · exact ⟨0, out, o, e, by omega, by omega, by omega, by simp [setF_if, *], by simp [setF_if, *], by simp [setF_if, *], by simp [setF_if, *], by simp [setF_if, *], by simp [setF_if, *], by simp [setF_if, *], by simp [setF_if, *], by first | exact hH0 | simp [*], by first | exact hHo | simp [*], rfl, bnd0 hlen.out, hmem.out⟩
    clear h1 h2 h5 h6 h7 h8 h9 hH0 hHo hn hon
    rintro d2 E H n' ⟨y, out2, o, e, hy, hn, hon, h1, h2, h5, h6, h7, h8, h9, h10, hH0, hHo, hout2, hlen2, hmem2⟩
    by_cases cy : (y : Int) < high
    · have hw_y : IntKind.i64.wrap ((y : Int) + 1) = (y : Int) + 1 := wr64 (by omega) (by omega)
      have hyN : y < hN := by omega
      have hrs := range_foldl (rowB r k f wN) out y
      rw [← hout2] at hrs
      replace hrs := Hid.mk hrs
      replace hmem2 := Hid.mk hmem2
      replace hlen2 := Hid.mk hlen2
      replace hout2 := Hid.mk hout2
      refine AL ?_
      refine .loop (.inv (fun d3 E H n' => ∃ (x : Nat) (out3 : List (Int × List Int)) (o e : Nat), x + d3 = wN ∧ 0 < n' ∧ o < n' ∧ E 1 = .i .i64 k ∧ E 2 = .ptr 0 0 0 0 ∧ E 5 = .own o e ∧ E 6 = .sl 1 (shapesR fs) ∧ E 7 = .i .i64 wide ∧ E 8 = .i .i64 high ∧ E 9 = .i .i64 i ∧ E 10 = .i .i64 y ∧ E 11 = .i .i64 x ∧ H 0 = some (.box 35 [.sl 0 (cells r), .sl 0 (pieces l)]) ∧ H o = some (.arr e 55 2 (places out3) 1) ∧
          out3 = (List.range x).foldl (stepB r k f y) out2 ∧ out3.length ≤ i * 1000000 + y * 1000 + x ∧ ∀ z ∈ out3, z.2.length < 1000000) wN ?_ ?_)
      · exact ⟨0, out2, o, e, by omega, by omega, by omega, by simp [setF_if, *], by simp [setF_if, *], by simp [setF_if, *], by simp [setF_if, *], by simp [setF_if, *], by simp [setF_if, *], by simp [setF_if, *], by simp [setF_if, *], by simp [setF_if, *], by first | exact hH0 | simp [*], by first | exact hHo | simp [*], rfl, bnd0' hlen2.out, hmem2.out⟩
      clear h1 h2 h5 h6 h7 h8 h9 h10 hH0 hHo hn hon
      rintro d3 E H n' ⟨x, out3, o, e, hx, hn, hon, h1, h2, h5, h6, h7, h8, h9, h10, h11, hH0, hHo, hout3, hlen3, hmem3⟩
      by_cases cx : (x : Int) < wide
      · have hw_x : IntKind.i64.wrap ((x : Int) + 1) = (x : Int) + 1 := wr64 (by omega) (by omega)
        have hxN : x < wN := by omega
        have hss := range_foldl (stepB r k f y) out2 x
        rw [← hout3] at hss
        have hset := l10Set_fn G r (movedM f x y) hr (by rw [movedM_len]; omega)
        have hsl : ∀ s, setM r (movedM f x y) = some s → s.length < 1000000 := fun s hs => by rw [setM_len hs, movedM_len]; exact hff
        have hst : stepB r k f y out3 x = match setM r (movedM f x y) with | some s => insP ((k : Int), s) out3 | none => out3 := by
          unfold stepB gM
          cases setM r (movedM f x y) <;> rfl
        rw [hst] at hss
        have hl9 : out3.length < 1000000000 := by omega
        replace hmem3 := Hid.mk hmem3
        replace hlen3 := Hid.mk hlen3
        replace hout3 := Hid.mk hout3
        clear hst
        cases hsm : setM r (movedM f x y) with
        | none =>
          rw [hsm] at hset hss
          simp only [setA] at hset hss
          replace hset := Hid.mk hset
          replace hss := Hid.mk hss
          clear hsm hsl
          refine AL ?_
          refine CQ (l02Move_fn G f x y (by omega)) ?_
          refine AL ?_
          refine CQ hset.out ?_
          refine AL ?_
          exact ⟨wN - (x + 1), by omega, x + 1, out3, o, e, by omega, by omega, by omega, by simp [setF_if, *], by simp [setF_if, *], by simp [setF_if, *], by simp [setF_if, *], by simp [setF_if, *], by simp [setF_if, *], by simp [setF_if, *], by simp [setF_if, *], by simp [setF_if, *], by first | exact hH02 | exact hH0 | simp [*], by first | exact hHo2 | exact hHo | simp [*], hss.out.symm, bnd1 hlen3.out, hmem3.out⟩
        | some s =>
          have hsl2 := hsl s hsm
          rw [hsm] at hset hss
          simp only [setA] at hset hss
          replace hset := Hid.mk hset
          replace hss := Hid.mk hss
          clear hsm hsl
          refine AL ?_
          refine CQ (l02Move_fn G f x y (by omega)) ?_
          refine AL ?_
          refine CQ hset.out ?_
          refine AL ?_
          refine CI ?_
          refine (l12Insert_wc G out3 ((k : Int), s) o e H _ (by omega) hHo hl9 (fun z hz => by have := hmem3.out z hz; omega) (by simp only; omega)).mono ?_
          rintro _ H2 n2 ⟨hn2, o2, e2, rfl, ho2, hHo2, hfr⟩
          have hH02 := (hfr 0 (by omega)).trans hH0
          clear hfr hHo hH0
          refine AL ?_
          exact ⟨wN - (x + 1), by omega, x + 1, insP ((k : Int), s) out3, o2, e2, by omega, by omega, by omega, by simp [setF_if, *], by simp [setF_if, *], by simp [setF_if, *], by simp [setF_if, *], by simp [setF_if, *], by simp [setF_if, *], by simp [setF_if, *], by simp [setF_if, *], by simp [setF_if, *], by first | exact hH02 | exact hH0 | simp [*], by first | exact hHo2 | exact hHo | simp [*], hss.out.symm, by rw [insP_length]; exact bnd1' hlen3.out, fun z hz => by
            rcases insP_mem hz with rfl | hz
            · exact hsl2
            · exact hmem3.out z hz⟩
      · have ex : x = wN := by omega
        rw [ex] at hout3 hlen3
        have hro : rowB r k f wN out2 y = out3 := hout3.symm
        have hrs' := hrs.out
        rw [hro] at hrs'
        replace hrs' := Hid.mk hrs'
        replace hlen3 := Hid.mk hlen3
        replace hmem3 := Hid.mk hmem3
        clear hro hout3 hx ex
        refine AL ?_
        exact ⟨hN - (y + 1), by omega, y + 1, out3, o, e, by omega, by omega, by omega, by simp [setF_if, *], by simp [setF_if, *], by simp [setF_if, *], by simp [setF_if, *], by simp [setF_if, *], by simp [setF_if, *], by simp [setF_if, *], by simp [setF_if, *], by first | exact hH0 | simp [*], by first | exact hHo | simp [*], hrs'.out.symm, bnd2 hlen3.out hwN9, hmem3.out⟩
    · have ey : y = hN := by omega
      rw [ey] at hout2 hlen2
      have hfo : formB r k wN hN out f = out2 := hout2.symm
      have hfs' := hfs.out
      rw [hfo] at hfs'
      replace hfs' := Hid.mk hfs'
      replace hlen2 := Hid.mk hlen2
      replace hmem2 := Hid.mk hmem2
      clear hfo hout2 hy ey
      refine AL ?_
      exact ⟨fs.length - (i + 1), by omega, i + 1, out2, o, e, by omega, by omega, by omega, by simp [setF_if, *], by simp [setF_if, *], by simp [setF_if, *], by simp [setF_if, *], by simp [setF_if, *], by simp [setF_if, *], by simp [setF_if, *], by first | exact hH0 | simp [*], by first | exact hHo | simp [*], hfs'.out.symm, bnd3 hlen2.out hhN9, hmem2.out⟩
  · have ei : i = fs.length := by omega
    rw [ei, List.take_length] at hout
    subst hout
    refine AL ?_
    simp [retA, backA, newSl, newB, setF_if, h5, hHo]
end Go.Proofs
end
section
open Go Go.Big
namespace Go.Proofs
set_option maxHeartbeats 2000000
/-- What is known of a puzzle that both programs take. -/
theorem puzzle_facts {r : Shape} {l : List PieceM} (h : puzzleS r l = true) : (r.Pairwise fun a b => lessC a.1 a.2 b.1 b.2 = true) ∧ 1 ≤ r.length ∧ r.length ≤ 40 ∧ 1 ≤ l.length ∧ l.length ≤ 12 ∧ ((sizeM r).1 ≤ 20 ∧ (sizeM r).2 ≤ 20) ∧ ∀ p ∈ l, 0 < p.cs.length ∧ p.cs.length ≤ 40 := by
  obtain ⟨h1, h2, h3⟩ := puzzle_parts h
  obtain ⟨g1, g2, g3⟩ := puzzleS_ok h
  have hs : shapeM r = true := by unfold regionS at h1; simp only [Bool.and_eq_true] at h1; exact h1.1
  obtain ⟨k1, _, k2, k3⟩ := shapeM_spec hs
  have hb := boxed_of h1
  refine ⟨k1, k2, k3, g2, h2, hb.wide20, fun p hp => ⟨g3 p hp, ?_⟩⟩
  have := h3 p hp
  unfold pieceS regionS at this
  simp only [Bool.and_eq_true] at this
  exact (shapeM_spec this.1.1.1).2.2.2
def inM (k : Int) (n : Nat) : Bool := decide (k ≥ 0) && decide (k ≤ (n : Int) - 1)
def pofS (r : Shape) (l : List PieceM) (k : Int) : List (Int × List Int) × Int := if puzzleS r l then (if inM k l.length then (listB r k (formsP (l.getD k.toNat pc0)), 0) else ([], 2)) else ([], 1)
def pofI (r : Shape) (l : List PieceM) (k : Int) : List (Int × List Int) × Int := if puzzleI r l then (if inM k l.length then (orderP (listA r k (formsI (l.getD k.toNat pc0))), 0) else ([], 2)) else ([], 1)
theorem places_nil : places [] = [] := rfl
theorem specPlacementsOf_fn (G : Gv) (r : Shape) (l : List PieceM) (k : Int) (hr : r.length < 1000000000) (hl : l.length < 1000000000) (hpl : ∀ p ∈ l, p.cs.length < 1000000000) :
    Gives Tryz.prog G 30 [.ag [.sl 0 (cells r), .sl 0 (pieces l)], .i .i64 k] (.tup [.sl 1 (places (pofS r l k).1), .i .i64 (pofS r l k).2]) := by
  refine .of (.body Tryz.func30 rfl (by simp [Tryz.ntmps30]) ?_)
  rw [Tryz.ntmps30, Tryz.results30]
  have hlen := pieces_len l
  replace hpl := Hid.mk hpl
  refine AL ?_
  refine CV (specIsPuzzle_fn G r l hr hl hpl.out) ?_
  by_cases c : puzzleS r l = true
  · obtain ⟨g1, g2, g3, g4, g5, ⟨g6, g7⟩, g8⟩ := puzzle_facts c
    have hw1 : IntKind.i64.wrap ((l.length : Int) - 1) = (l.length : Int) - 1 := wr64 (by omega) (by omega)
    replace g1 := Hid.mk g1
    replace g8 := Hid.mk g8
    refine AL ?_
    refine CV (l01In_fn G _ _ _) ?_
    by_cases c1 : (decide (k ≥ 0) && decide (k ≤ (l.length : Int) - 1)) = true
    · obtain ⟨k0, k1⟩ : 0 ≤ k ∧ k ≤ (l.length : Int) - 1 := by simpa using c1
      obtain ⟨p, hp⟩ : ∃ p, l[k.toNat]? = some p := ⟨_, List.getElem?_eq_getElem (by omega)⟩
      have hkk : ((k.toNat : Nat) : Int) = k := Int.toNat_of_nonneg k0
      have hf := l12Of_fn G r l k.toNat p hp (g8.out p (List.mem_of_getElem? hp)).1 (by have := (g8.out p (List.mem_of_getElem? hp)).2; omega) g2 hr hl (by omega)
      rw [hkk] at hf
      have hpd : l.getD k.toNat pc0 = p := by rw [List.getD_eq_getElem?_getD, hp]; rfl
      have hres : pofS r l k = (listB r k (formsP p), 0) := by
        unfold pofS inM; rw [if_pos c, if_pos c1, hpd]
      rw [hres]
      clear hres
      replace hkk := Hid.mk hkk
      replace hf := Hid.mk hf
      refine AL ?_
      refine CV hf.out ?_
      refine AL ?_
      simp [retA, backA, backsA, newSl]
    · have hres : pofS r l k = ([], 2) := by
        unfold pofS inM; rw [if_pos c, if_neg c1]
      rw [hres]
      clear hres
      refine AL ?_
      simp [retA, backA, backsA, places_nil]
  · have hres : pofS r l k = ([], 1) := by
      unfold pofS; rw [if_neg c]
    rw [hres]
    clear hres
    refine AL ?_
    simp [retA, backA, backsA, places_nil]
theorem ownX_kt {z : AV} {a : AV} {H : Heap} {S : List Nat} {k : IntKind} {n : Int} (h : ownX H z a S) : ownX H (.tup [z, .i k n]) (.tup [a, .i k n]) S := by
  have := ownX_mkT h (ownX_mki (H := H) (k := k) (n := n))
  rwa [List.append_nil] at this
theorem implPlacementsOf_o (G : Gv) (hA : AllG G) (r : Shape) (l : List PieceM) (k : Int) (hr : r.length < 1000000000) (hl : l.length < 1000000000) (hpl : ∀ p ∈ l, p.cs.length < 1000000000) :
    GivesO Tryz.prog G 31 [.ag [.sl 0 (cells r), .sl 0 (pieces l)], .i .i64 k] (.tup [.sl 1 (places (pofI r l k).1), .i .i64 (pofI r l k).2]) := by
  refine .of (.body Tryz.func31 rfl (by simp [Tryz.ntmps31]) ?_)
  rw [Tryz.ntmps31, Tryz.results31]
  have hlen := pieces_len l
  replace hpl := Hid.mk hpl
  replace hA := Hid.mk hA
  refine AL ?_
  refine CV (implIsPuzzle_fn G hA.out.c1 hA.out.c2 r l hr hl hpl.out) ?_
  by_cases c : puzzleI r l = true
  · have cS : puzzleS r l = true := by rw [← puzzle_eq]; exact c
    obtain ⟨g1, g2, g3, g4, g5, g6, g8⟩ := puzzle_facts cS
    have hw1 : IntKind.i64.wrap ((l.length : Int) - 1) = (l.length : Int) - 1 := wr64 (by omega) (by omega)
    replace g1 := Hid.mk g1
    replace g6 := Hid.mk g6
    replace g8 := Hid.mk g8
    replace cS := Hid.mk cS
    refine AL ?_
    refine CV (within_fn G _ _ _) ?_
    by_cases c1 : (decide (k ≥ 0) && decide (k ≤ (l.length : Int) - 1)) = true
    · obtain ⟨k0, k1⟩ : 0 ≤ k ∧ k ≤ (l.length : Int) - 1 := by simpa using c1
      obtain ⟨p, hp⟩ : ∃ p, l[k.toNat]? = some p := ⟨_, List.getElem?_eq_getElem (by omega)⟩
      have hkk : ((k.toNat : Nat) : Int) = k := Int.toNat_of_nonneg k0
      have hf := placementsOf_o G hA.out r l k.toNat p hp (g8.out p (List.mem_of_getElem? hp)).1 (by have := (g8.out p (List.mem_of_getElem? hp)).2; omega) g1.out (by omega) hl (listA_nodup' cS.out (List.mem_of_getElem? hp) _)
      rw [hkk] at hf
      have hpd : l.getD k.toNat pc0 = p := by rw [List.getD_eq_getElem?_getD, hp]; rfl
      have hres : pofI r l k = (orderP (listA r k (formsI p)), 0) := by
        unfold pofI inM; rw [if_pos c, if_pos c1, hpd]
      rw [hres]
      clear hres
      replace hkk := Hid.mk hkk
      replace hf := Hid.mk hf
      refine AL ?_
      refine CWO hf.out ?_
      intro z H1 S m hz hn hS hf hm
      replace hz := Hid.mk hz
      refine AL ?_
      exact ⟨S, ownX_kt hz.out, hn⟩
    · have hres : pofI r l k = ([], 2) := by
        unfold pofI inM; rw [if_pos c, if_neg c1]
      rw [hres]
      clear hres
      refine AL ?_
      exact ⟨[], ownX_mkT (s1 := []) (ownX_sl ownA_nil) ownX_mki, by simp⟩
  · have hres : pofI r l k = ([], 1) := by
      unfold pofI; rw [if_neg c]
    rw [hres]
    clear hres
    refine AL ?_
    exact ⟨[], ownX_mkT (s1 := []) (ownX_sl ownA_nil) ownX_mki, by simp⟩
end Go.Proofs
end
section
open Go Go.Big
namespace Go.Proofs
set_option maxHeartbeats 2000000
def sortsI4 : Gv := SortI 153
/-- All sorts that are given, that of numbers too. -/
structure AllH (G : Gv) : Prop extends AllG G where
  c5 : ∀ f args H n r H' n', sortsI4 f args H n r H' n' → G f args H n r H' n'
def turnX (ns s : List Int) : List Int := s.map fun i => ns.getD i.toNat 0
theorem turnX_len (ns s : List Int) : (turnX ns s).length = s.length := by simp [turnX]
theorem turnX_take {ns s : List Int} {i : Nat} {x : Int} (h : s[i]? = some x) : turnX ns (s.take (i + 1)) = turnX ns (s.take i) ++ [ns.getD x.toNat 0] := by
  unfold turnX; rw [take_map _ h]
theorem ints_app1 (a : List Int) (x : Int) : ints a ++ [[.i .i64 x]] = ints (a ++ [x]) := by simp [ints]
theorem l12Turn_fn (G : Gv) (k : Int) (s ns : List Int) (hs : s.length < 1000000000) (hns : ns.length < 1000000000) (hm : ∀ i ∈ s, 0 ≤ i ∧ i < ns.length) :
    Gives Tryz.prog G 87 [.ag [.i .i64 k, .sl 0 (ints s)], .sl 0 (ints ns)] (.ag [.i .i64 k, .sl 1 (ints (sortedB (turnX ns s)))]) := by
  refine .of (.body Tryz.func87 rfl (by simp [Tryz.ntmps87]) ?_)
  rw [Tryz.ntmps87, Tryz.results87]
  have hlen := ints_len s
  have hlen2 := ints_len ns
  replace hm := Hid.mk hm
  refine AL ?_
  refine .loop (.inv (fun d E H n' => ∃ i e : Nat, i + d = s.length ∧ 2 < n' ∧ E 1 = .sl 0 (ints ns) ∧ E 2 = .ptr 0 0 0 0 ∧ E 4 = .ptr 1 0 0 0 ∧ E 5 = .own 2 e ∧ E 6 = .i .i64 i ∧ H 0 = some (.box 55 [.i .i64 k, .sl 0 (ints s)]) ∧ H 1 = some (.box 55 [.i .i64 0, .nil]) ∧ H 2 = some (.arr e 2 1 (ints (turnX ns (s.take i))) 1)) s.length ?_ ?_)
  · exact ⟨0, 0, by omega, by omega, by simp [setF_if, argE], by simp [setF_if, argE], by simp [setF_if, argE], by simp [setF_if, argE], by simp [setF_if, argE], by simp [upd_if], by simp [upd_if], by simp [upd_if, turnX, ints]⟩
  rintro d E H n' ⟨i, e, hi, hn, h1, h2, h4, h5, h6, hH0, hH1, hH2⟩
  by_cases c : (i : Int) < s.length
  · have hw_i : IntKind.i64.wrap ((i : Int) + 1) = (i : Int) + 1 := wr64 (by omega) (by omega)
    obtain ⟨x, hx⟩ : ∃ x, s[i]? = some x := ⟨_, List.getElem?_eq_getElem (by omega)⟩
    have hxr := ints_row hx
    obtain ⟨x0, x1⟩ := hm.out x (List.mem_of_getElem? hx)
    have hnr := ints_at (l := ns) (i := x.toNat) (by omega)
    have hxx : ((x.toNat : Nat) : Int) = x := Int.toNat_of_nonneg x0
    have htk := ints_app1 (turnX ns (s.take i)) (ns.getD x.toNat 0)
    rw [← turnX_take hx] at htk
    have hrl : (ints (turnX ns (s.take i))).length = i := by rw [ints_len, turnX_len, List.length_take]; omega
    have hb : (i + 1) * 8 ≤ 140737488355328 := by omega
    generalize ns.getD x.toNat 0 = v at hnr htk
    generalize ints (turnX ns (s.take i)) = R at hH2 htk hrl
    replace hx := Hid.mk hx
    refine AL ?_
    exact ⟨s.length - (i + 1), by omega, i + 1, e + 1, by omega, by omega, by simp [setF_if, *], by simp [setF_if, *], by simp [setF_if, *], by simp [setF_if, *], by simp [setF_if, *], by simp [upd_if, *], by simp [upd_if, *], by simp [upd_if, *]⟩
  · have ei : i = s.length := by omega
    rw [ei, List.take_length] at hH2
    have hf := l12Sorted_fn G (turnX ns s) (by rw [turnX_len]; exact hs)
    replace hf := Hid.mk hf
    refine AX ?_
    refine DM ?_
    refine AX ?_
    refine CM hf.out ?_
    refine AX ?_
    simp [retA, backA, backsA, newSl]
theorem turned_o (G : Gv) (hA : AllH G) (k : Int) (s ns : List Int) (h0 : 0 < s.length) (hs : s.length < 1000000000) (hns : ns.length < 1000000000) (hm : ∀ i ∈ s, 0 ≤ i ∧ i < ns.length) :
    GivesO Tryz.prog G 91 [.ag [.i .i64 k, .sl 0 (ints s)], .sl 0 (ints ns)] (.ag [.i .i64 k, .sl 1 (ints (sortedB (turnX ns s)))]) := by
  refine .of (.body Tryz.func91 rfl (by simp [Tryz.ntmps91]) ?_)
  rw [Tryz.ntmps91, Tryz.results91]
  have hlen := ints_len s
  have hlen2 := ints_len ns
  replace hm := Hid.mk hm
  replace hA := Hid.mk hA
  refine AL ?_
  refine .loop (.inv (fun d E H n' => ∃ (i : Nat) (za : AV), i + d = s.length ∧ 5 < n' ∧ E 1 = .sl 0 (ints ns) ∧ E 4 = .ptr 1 0 0 0 ∧ E 5 = .ptr 5 0 0 0 ∧ E 12 = .sl 0 (ints s) ∧ E 13 = .i .i64 s.length ∧ E 14 = .i .i64 i ∧ H 1 = some (.box 55 [.i .i64 0, .nil]) ∧ H 5 = some (.box 55 [.i .i64 k, za]) ∧ (i = 0 ∧ za = .nil ∨ ∃ o e, za = .own o e ∧ 5 < o ∧ o < n' ∧ H o = some (.arr e 2 1 (ints (turnX ns (s.take i))) 1))) s.length ?_ ?_)
  · exact ⟨0, .nil, by omega, by omega, by simp [setF_if, argE], by simp [setF_if, argE], by simp [setF_if, argE], by simp [setF_if, argE], by simp [setF_if, argE, hlen], by simp [setF_if, argE], by simp [upd_if], by simp [upd_if], .inl ⟨rfl, rfl⟩⟩
  rintro d E H n' ⟨i, za, hi, hn, h1, h4, h5, h12, h13, h14, hH1, hH5, hza⟩
  by_cases c : (i : Int) < s.length
  · have hw_i : IntKind.i64.wrap ((i : Int) + 1) = (i : Int) + 1 := wr64 (by omega) (by omega)
    obtain ⟨x, hx⟩ : ∃ x, s[i]? = some x := ⟨_, List.getElem?_eq_getElem (by omega)⟩
    have hxr := ints_row hx
    obtain ⟨x0, x1⟩ := hm.out x (List.mem_of_getElem? hx)
    have hnr := ints_at (l := ns) (i := x.toNat) (by omega)
    have hxx : ((x.toNat : Nat) : Int) = x := Int.toNat_of_nonneg x0
    have htk := ints_app1 (turnX ns (s.take i)) (ns.getD x.toNat 0)
    rw [← turnX_take hx] at htk
    have hrl : (ints (turnX ns (s.take i))).length = i := by rw [ints_len, turnX_len, List.length_take]; omega
    have hb : (i + 1) * 8 ≤ 140737488355328 := by omega
    generalize ns.getD x.toNat 0 = v at hnr htk
    replace hx := Hid.mk hx
    rcases hza with ⟨rfl, rfl⟩ | ⟨o, e, rfl, ho, hon, hHo⟩
    · have htk0 : ints (turnX ns (s.take 1)) = [[.i .i64 v]] := by rw [← htk]; rfl
      clear htk hrl
      have hn5 : ¬ (5 = n' + 10) := by omega
      have hn6 : ¬ (n' + 11 = 5) := by omega
      have hnd : [5, n' + 10, n' + 11].Nodup := by simp <;> omega
      have hnx1 : ¬ (5 = n' + 11) := by omega
      refine AX ?_
      refine FD [5, n' + 10, n' + 11] [(24, 1), (25, 2), (999999, 0)] [(18, [0]), (19, [0]), (26, [0]), (25, [1]), (999999, [2])] hnd ?_
      refine FQ ?_ (hs := by
        intro Hx hx
        have f0 : Hx (5) = _ := hx.at hnd 0 rfl (by decide)
        simp only [setF_if, upd_if, neAdd, neLt, ltAdd, addNe, ltNe, Nat.left_eq_add, Nat.add_eq_left, Nat.reduceEqDiff, Nat.add_assoc, Nat.reduceAdd, reduceIte, *] at f0
        exact EV)
      refine FQ ?_ (hs := by
        intro Hx hx
        have f0 : Hx (5) = _ := hx.at hnd 0 rfl (by decide)
        simp only [setF_if, upd_if, neAdd, neLt, ltAdd, addNe, ltNe, Nat.left_eq_add, Nat.add_eq_left, Nat.reduceEqDiff, Nat.add_assoc, Nat.reduceAdd, reduceIte, *] at f0
        exact EV)
      repeat first | refine FF ?_ | refine FS ?_
      refine FQ ?_ (hs := by
        intro Hx hx
        exact EV)
      refine FQ ?_ (hs := by
        intro Hx hx
        exact EV)
      refine FM 1 (n' + 10) ?_ (hs := by
        intro Hx hx
        exact EVM)
      refine FM 2 (n' + 11) ?_ (hs := by
        intro Hx hx
        have f0 : Hx (n' + 10) = _ := hx.at hnd 1 rfl (by decide)
        simp only [setF_if, upd_if, neAdd, neLt, ltAdd, addNe, ltNe, Nat.left_eq_add, Nat.add_eq_left, Nat.reduceEqDiff, Nat.add_assoc, Nat.reduceAdd, reduceIte, *] at f0
        exact EVM)
      refine FQ ?_ (hs := by
        intro Hx hx
        have f0 : Hx (5) = _ := hx.at hnd 0 rfl (by decide)
        simp only [setF_if, upd_if, neAdd, neLt, ltAdd, addNe, ltNe, Nat.left_eq_add, Nat.add_eq_left, Nat.reduceEqDiff, Nat.add_assoc, Nat.reduceAdd, reduceIte, *] at f0
        exact EV)
      refine FMN 0 (5) ?_ (hs := by
        intro Hx hx
        have f0 : Hx (5) = _ := hx.at hnd 0 rfl (by decide)
        simp only [setF_if, upd_if, neAdd, neLt, ltAdd, addNe, ltNe, Nat.left_eq_add, Nat.add_eq_left, Nat.reduceEqDiff, Nat.add_assoc, Nat.reduceAdd, reduceIte, *] at f0
        have f1 : Hx (n' + 11) = _ := hx.at hnd 2 rfl (by decide)
        simp only [setF_if, upd_if, neAdd, neLt, ltAdd, addNe, ltNe, Nat.left_eq_add, Nat.add_eq_left, Nat.reduceEqDiff, Nat.add_assoc, Nat.reduceAdd, reduceIte, *] at f1
        exact EVM)
      refine WF.nil ?_
      refine AX ?_
      exact ⟨s.length - (0 + 1), by omega, 0 + 1, .own (n' + 11) 0, by omega, by omega, by simp [setF_if, *], by simp [setF_if, *], by simp [setF_if, *], by simp [setF_if, *], by simp [setF_if, *], by simp [setF_if, *], by simp [upd_if, *], by simp [upd_if, *], .inr ⟨n' + 11, 0, rfl, by omega, by omega, by simp [upd_if, *]⟩⟩
    · generalize ints (turnX ns (s.take i)) = R at hHo htk hrl
      have hno5 : ¬ (o = 5) := by omega
      have hno1 : ¬ (1 = o) := by omega
      have hnd : [5, n' + 10, o].Nodup := by simp <;> omega
      have hnx1 : ¬ (5 = o) := by omega
      have hnx2 : ¬ (n' + 10 = o) := by omega
      have hnx3 : ¬ (o = n' + 10) := by omega
      have hnx4 : ¬ (5 = n' + 10) := by omega
      refine AX ?_
      refine FD [5, n' + 10, o] [(24, 1), (25, 2), (999999, 0)] [(18, [0]), (19, [0]), (26, [0]), (25, [1]), (999999, [2])] hnd ?_
      refine FQ ?_ (hs := by
        intro Hx hx
        have f0 : Hx (5) = _ := hx.at hnd 0 rfl (by decide)
        simp only [setF_if, upd_if, neAdd, neLt, ltAdd, addNe, ltNe, Nat.left_eq_add, Nat.add_eq_left, Nat.reduceEqDiff, Nat.add_assoc, Nat.reduceAdd, reduceIte, *] at f0
        exact EV)
      refine FQ ?_ (hs := by
        intro Hx hx
        have f0 : Hx (5) = _ := hx.at hnd 0 rfl (by decide)
        simp only [setF_if, upd_if, neAdd, neLt, ltAdd, addNe, ltNe, Nat.left_eq_add, Nat.add_eq_left, Nat.reduceEqDiff, Nat.add_assoc, Nat.reduceAdd, reduceIte, *] at f0
        exact EV)
      repeat first | refine FF ?_ | refine FS ?_
      refine FQ ?_ (hs := by
        intro Hx hx
        exact EV)
      refine FQ ?_ (hs := by
        intro Hx hx
        exact EV)
      refine FM 1 (n' + 10) ?_ (hs := by
        intro Hx hx
        exact EVM)
      refine FM 2 (o) ?_ (hs := by
        intro Hx hx
        have f0 : Hx (n' + 10) = _ := hx.at hnd 1 rfl (by decide)
        simp only [setF_if, upd_if, neAdd, neLt, ltAdd, addNe, ltNe, Nat.left_eq_add, Nat.add_eq_left, Nat.reduceEqDiff, Nat.add_assoc, Nat.reduceAdd, reduceIte, *] at f0
        have f1 : Hx (o) = _ := hx.at hnd 2 rfl (by decide)
        simp only [setF_if, upd_if, neAdd, neLt, ltAdd, addNe, ltNe, Nat.left_eq_add, Nat.add_eq_left, Nat.reduceEqDiff, Nat.add_assoc, Nat.reduceAdd, reduceIte, *] at f1
        exact EVM)
      refine FQ ?_ (hs := by
        intro Hx hx
        have f0 : Hx (5) = _ := hx.at hnd 0 rfl (by decide)
        simp only [setF_if, upd_if, neAdd, neLt, ltAdd, addNe, ltNe, Nat.left_eq_add, Nat.add_eq_left, Nat.reduceEqDiff, Nat.add_assoc, Nat.reduceAdd, reduceIte, *] at f0
        exact EV)
      refine FMN 0 (5) ?_ (hs := by
        intro Hx hx
        have f0 : Hx (5) = _ := hx.at hnd 0 rfl (by decide)
        simp only [setF_if, upd_if, neAdd, neLt, ltAdd, addNe, ltNe, Nat.left_eq_add, Nat.add_eq_left, Nat.reduceEqDiff, Nat.add_assoc, Nat.reduceAdd, reduceIte, *] at f0
        have f1 : Hx (o) = _ := hx.at hnd 2 rfl (by decide)
        simp only [setF_if, upd_if, neAdd, neLt, ltAdd, addNe, ltNe, Nat.left_eq_add, Nat.add_eq_left, Nat.reduceEqDiff, Nat.add_assoc, Nat.reduceAdd, reduceIte, *] at f1
        exact EVM)
      refine WF.nil ?_
      refine AX ?_
      exact ⟨s.length - (i + 1), by omega, i + 1, .own o (e + 1), by omega, by omega, by simp [setF_if, *], by simp [setF_if, *], by simp [setF_if, *], by simp [setF_if, *], by simp [setF_if, *], by simp [setF_if, *], by simp [upd_if, *], by simp [upd_if, *], .inr ⟨o, e + 1, rfl, by omega, by omega, by simp [upd_if, *]⟩⟩
  · have ei : i = s.length := by omega
    rcases hza with ⟨e1, _⟩ | ⟨o, e, rfl, ho, hon, hHo⟩
    · omega
    rw [ei, List.take_length] at hHo
    have hso : sortI (turnX ns s) = sortedB (turnX ns s) := sortI_eq _
    have hno5 : ¬ (o = 5) := by omega
    have hno1 : ¬ (o = 1) := by omega
    have hno2 : ¬ (1 = o) := by omega
    have hno3 : ¬ (5 = o) := by omega
    refine AX ?_
    refine CI ?_
    refine WC_given (hA.out.c5 _ _ _ _ (.tup []) (H.upd o (.arr e 2 1 (ints (sortedB (turnX ns s))) 1)) _ ⟨rfl, rfl, rfl, o, e, _, turnX ns s, 1, rfl, hHo, by rw [hso]; rfl, by rw [turnX_len]; omega⟩) ?_
    refine AX ?_
    exact ⟨[o], ownX_mk2 (s1 := []) ownX_mki (ownX_sl (ownA_mk (ty := 2) (sz := 1) (t := 1) (by simp [upd_if, *]) (ints_scal _) (by decide) (ints_fit _))), by simp⟩
end Go.Proofs
end
section
open Go Go.Big
namespace Go.Proofs
set_option maxHeartbeats 2000000
def turnPM (puz : Bool) (pl : Int → List Int → Bool) (tn : List Int × Int) (j : Int) (t : List Int) : (Int × List Int) × Int :=
  if puz then (if pl j t then (if tn.2 = 0 then (if pl j (sortedB (turnX tn.1 t)) then ((j, sortedB (turnX tn.1 t)), 0) else ((0, []), 4)) else ((0, []), tn.2)) else ((0, []), 2)) else ((0, []), 1)
def turnPS (r : Shape) (l : List PieceM) (j : Int) (t : List Int) (k : Int) := turnPM (puzzleS r l) (placeS r l) (tnM (regionS r) r k) j t
def turnPI (r : Shape) (l : List PieceM) (j : Int) (t : List Int) (k : Int) := turnPM (puzzleI r l) (placeI r l) (tnM (regionM r) r k) j t
theorem numsM_facts {r : Shape} {t : Nat} {s : List Int} (h : numsM r t = some s) : s.length = r.length ∧ ∀ i ∈ s, 0 ≤ i ∧ i < r.length := by
  obtain ⟨_, _, h1, h2⟩ := setM_some h
  exact ⟨by rw [h1, normM_len, turnL_length], h2⟩
theorem tnM_facts {b : Bool} {r : Shape} {k : Int} (h : (tnM b r k).2 = 0) : (tnM b r k).1.length = r.length ∧ ∀ i ∈ (tnM b r k).1, 0 ≤ i ∧ i < r.length := by
  unfold tnM at *
  cases b with
  | false => simp at h
  | true =>
    simp only [if_true] at *
    cases c : tnM.inT k with
    | false => rw [c] at h; simp at h
    | true =>
      rw [c] at h
      simp only [if_true] at *
      cases q : numsM r k.toNat with
      | none => rw [q] at h; simp at h
      | some s => exact numsM_facts q
theorem place_cells {r : Shape} {l : List PieceM} {j : Int} {t : List Int} (h : placeS r l j t = true) : 0 < t.length ∧ ∀ i ∈ t, 0 ≤ i ∧ i < r.length := by
  unfold placeS at h
  simp only [Bool.and_eq_true, decide_eq_true_eq] at h
  obtain ⟨⟨⟨_, h2⟩, h3⟩, _⟩ := h
  exact ⟨by omega, fun i hi => by have := inc_mem h3 i hi; omega⟩
theorem placeI_cells {r : Shape} {l : List PieceM} {j : Int} {t : List Int} (h : placeI r l j t = true) : 0 < t.length ∧ ∀ i ∈ t, 0 ≤ i ∧ i < r.length := by
  unfold placeI at h
  simp only [Bool.and_eq_true, decide_eq_true_eq] at h
  obtain ⟨⟨⟨_, h2⟩, h3⟩, _⟩ := h
  exact ⟨by omega, fun i hi => by have := inc_mem h3 i hi; omega⟩
theorem specTurnPlacement_fn (G : Gv) (r : Shape) (l : List PieceM) (j : Int) (t : List Int) (k : Int) (hr : r.length < 1000000000) (hl : l.length < 1000000000) (hpl : ∀ p ∈ l, p.cs.length < 1000000000) (ht : t.length < 1000000000) :
    Gives Tryz.prog G 40 [.ag [.sl 0 (cells r), .sl 0 (pieces l)], .ag [.i .i64 j, .sl 0 (ints t)], .i .i64 k] (.tup [.ag [.i .i64 (turnPS r l j t k).1.1, .sl 1 (ints (turnPS r l j t k).1.2)], .i .i64 (turnPS r l j t k).2]) := by
  refine .of (.body Tryz.func40 rfl (by simp [Tryz.ntmps40]) ?_)
  rw [Tryz.ntmps40, Tryz.results40]
  replace hpl := Hid.mk hpl
  refine AL ?_
  refine CV (specIsPuzzle_fn G r l hr hl hpl.out) ?_
  by_cases c : puzzleS r l = true
  · obtain ⟨g1, g2, g3, g4, g5, g6, g8⟩ := puzzle_facts c
    replace g1 := Hid.mk g1
    replace g6 := Hid.mk g6
    replace g8 := Hid.mk g8
    refine AL ?_
    refine CV (l12Is_fn G r l j t g2 hr g4 hl ht (fun p hp => (g8.out p hp).1) hpl.out) ?_
    by_cases c1 : placeS r l j t = true
    · obtain ⟨k1, k2⟩ := place_cells c1
      replace k2 := Hid.mk k2
      refine AL ?_
      refine CV (specTurnNumbers_fn G r k (by omega) hr) ?_
      have hres : turnPS r l j t k = if (tnM (regionS r) r k).2 = 0 then (if placeS r l j (sortedB (turnX (tnM (regionS r) r k).1 t)) then ((j, sortedB (turnX (tnM (regionS r) r k).1 t)), 0) else ((0, []), 4)) else ((0, []), (tnM (regionS r) r k).2) := by
        unfold turnPS turnPM; rw [if_pos c, if_pos c1]
      rw [hres]
      have hfx := tnM_facts (b := regionS r) (r := r) (k := k)
      generalize tnM (regionS r) r k = tn at hfx
      obtain ⟨ns, code⟩ := tn
      simp only at hfx
      clear hres
      replace hfx := Hid.mk hfx
      by_cases c2 : code = 0
      · subst c2
        obtain ⟨m1, m2⟩ := hfx.out rfl
        have hf := l12Turn_fn G j t ns ht (by omega) (fun i hi => by have := k2.out i hi; omega)
        have hl2 : (sortedB (turnX ns t)).length < 1000000000 := by rw [sortedB_len, turnX_len]; exact ht
        simp only [if_true]
        generalize sortedB (turnX ns t) = o at hf hl2
        clear hfx m2
        replace hf := Hid.mk hf
        refine AL ?_
        refine CV hf.out ?_
        refine AL ?_
        refine CV (l12Is_fn G r l j o g2 hr g4 hl hl2 (fun p hp => (g8.out p hp).1) hpl.out) ?_
        by_cases c3 : placeS r l j o = true
        · rw [if_pos c3]
          refine AL ?_
          simp [retA, backA, backsA, newSl]
        · rw [if_neg c3]
          refine AL ?_
          simp [retA, backA, backsA, ints]
      · rw [if_neg c2]
        have c2' : (code != 0) = true := by simpa using c2
        replace c2 := Hid.mk c2
        refine AL ?_
        simp [retA, backA, backsA, ints]
    · have hres : turnPS r l j t k = ((0, []), 2) := by unfold turnPS turnPM; rw [if_pos c, if_neg c1]
      rw [hres]
      clear hres
      refine AL ?_
      simp [retA, backA, backsA, ints]
  · have hres : turnPS r l j t k = ((0, []), 1) := by unfold turnPS turnPM; rw [if_neg c]
    rw [hres]
    clear hres
    refine AL ?_
    simp [retA, backA, backsA, ints]
theorem implTurnPlacement_o (G : Gv) (hA : AllH G) (r : Shape) (l : List PieceM) (j : Int) (t : List Int) (k : Int) (hr : r.length < 1000000000) (hl : l.length < 1000000000) (hpl : ∀ p ∈ l, p.cs.length < 1000000000) (ht : t.length < 1000000000) :
    GivesO Tryz.prog G 42 [.ag [.sl 0 (cells r), .sl 0 (pieces l)], .ag [.i .i64 j, .sl 0 (ints t)], .i .i64 k] (.tup [.ag [.i .i64 (turnPI r l j t k).1.1, .sl 1 (ints (turnPI r l j t k).1.2)], .i .i64 (turnPI r l j t k).2]) := by
  refine .of (.body Tryz.func42 rfl (by simp [Tryz.ntmps42]) ?_)
  rw [Tryz.ntmps42, Tryz.results42]
  replace hpl := Hid.mk hpl
  replace hA := Hid.mk hA
  have hnil : ∀ (H : Heap) (n : Int), ∃ S, ownX H (.tup [.ag [.i .i64 0, .nil], .i .i64 n]) (.tup [.ag [.i .i64 0, .sl 1 (ints [])], .i .i64 n]) S ∧ S.Nodup := fun H n => ⟨_, ownX_mkT (ownX_mk2 (s1 := []) (s2 := []) ownX_mki (ownX_sl ownA_nil)) ownX_mki, by simp⟩
  replace hnil := Hid.mk hnil
  refine AL ?_
  refine CV (implIsPuzzle_fn G hA.out.c1 hA.out.c2 r l hr hl hpl.out) ?_
  by_cases cI : puzzleI r l = true
  · have c : puzzleS r l = true := by rw [← puzzle_eq]; exact cI
    obtain ⟨g1, g2, g3, g4, g5, g6, g8⟩ := puzzle_facts c
    replace g1 := Hid.mk g1
    replace g6 := Hid.mk g6
    replace g8 := Hid.mk g8
    replace c := Hid.mk c
    refine AL ?_
    refine CV (isPlacement_fn G hA.out.c1 hA.out.c2 r l j t g2 hr g4 hl ht (fun p hp => (g8.out p hp).1) hpl.out) ?_
    by_cases c1 : placeI r l j t = true
    · obtain ⟨k1, k2⟩ := placeI_cells c1
      replace k2 := Hid.mk k2
      refine AL ?_
      refine CV (implTurnNumbers_fn G r k (by omega) hr g1.out) ?_
      have hres : turnPI r l j t k = if (tnM (regionM r) r k).2 = 0 then (if placeI r l j (sortedB (turnX (tnM (regionM r) r k).1 t)) then ((j, sortedB (turnX (tnM (regionM r) r k).1 t)), 0) else ((0, []), 4)) else ((0, []), (tnM (regionM r) r k).2) := by
        unfold turnPI turnPM; rw [if_pos cI, if_pos c1]
      rw [hres]
      have hfx := tnM_facts (b := regionM r) (r := r) (k := k)
      generalize tnM (regionM r) r k = tn at hfx
      obtain ⟨ns, code⟩ := tn
      simp only at hfx
      clear hres
      replace hfx := Hid.mk hfx
      by_cases c2 : code = 0
      · subst c2
        obtain ⟨m1, m2⟩ := hfx.out rfl
        have hf := turned_o G hA.out j t ns k1 ht (by omega) (fun i hi => by have := k2.out i hi; omega)
        have hl2 : (sortedB (turnX ns t)).length = t.length := by rw [sortedB_len, turnX_len]
        simp only [if_true]
        generalize sortedB (turnX ns t) = out at hf hl2
        clear hfx m2
        replace hf := Hid.mk hf
        refine AL ?_
        refine CWO hf.out ?_
        intro z H1 S m hz hn hS hf1 hm
        obtain ⟨zi, za, s1, s2, rfl, rfl, hzi, hza⟩ := ownX_ag2 hz
        obtain ⟨rfl, rfl⟩ := ownX_i hzi
        rcases ownA_flat (ownX_un hza) (ints_scal _) with ⟨o, e, ty, sz, tg, rfl, hHo, rfl, htg, hft⟩ | ⟨_, hq, _⟩
        · have ho := hS o (by simp)
          have f0 := hf1 0 (by omega)
          have f1 := hf1 1 (by omega)
          have f2 := hf1 2 (by omega)
          simp [upd_if] at f0 f1 f2
          have ho1 : ¬ (o = m) := by omega
          have ho2 : ¬ (2 = m) := by omega
          have ho3 : ¬ (0 = m) := by omega
          have ho4 : ¬ (o = 2) := by omega
          clear hz hzi hza hn hS hf1 hf
          replace hft := Hid.mk hft
          refine AL ?_
          refine CV (isPlacement_fn G hA.out.c1 hA.out.c2 r l j out g2 hr g4 hl (by omega) (fun p hp => (g8.out p hp).1) hpl.out) ?_
          by_cases c3 : placeI r l j out = true
          · rw [if_pos c3]
            refine AL ?_
            exact ⟨[o], ownX_kt (ownX_mk2 (s1 := []) ownX_mki (ownX_sl (ownA_mk (ty := ty) (sz := sz) (t := tg) (by simp [upd_if, *]) (ints_scal _) htg hft.out))), by simp⟩
          · rw [if_neg c3]
            refine AL ?_
            exact hnil.out _ _
        · exact absurd (congrArg List.length hq) (by rw [ints_len]; exact Nat.pos_iff_ne_zero.mp (by omega))
      · rw [if_neg c2]
        have c2' : (code != 0) = true := by simpa using c2
        replace c2 := Hid.mk c2
        refine AL ?_
        exact hnil.out _ _
    · have hres : turnPI r l j t k = ((0, []), 2) := by unfold turnPI turnPM; rw [if_pos cI, if_neg c1]
      rw [hres]
      clear hres
      refine AL ?_
      exact hnil.out _ _
  · have hres : turnPI r l j t k = ((0, []), 1) := by unfold turnPI turnPM; rw [if_neg cI]
    rw [hres]
    clear hres
    refine AL ?_
    exact hnil.out _ _
end Go.Proofs
end
