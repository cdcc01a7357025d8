/- Walks: Which element of a list has a property: the library's search. No condition. | Which element of a list has a property: the library's search, with a function that captures nothing. No condition. | Whether a piece has two hands: a drawn region with calls that make. Condition: the given contracts hold. | A placement put into a list in order: the other program. No condition. | All placements of a piece: the other program. No condition. | All placements of a piece: both programs' functions. No condition. | A placement turned: both programs. No condition. | TurnPlacement: both programs' functions. No condition. | Which element of a list has a property: the library's search. No condition. | Elements taken out of an array of one's own by the library. No condition. | The area of all pieces; whether a puzzle fits. No condition. -/
import Derived.Test.YtmglpcdalechfaaGreatBO
import Derived.Test.YtmglpcdalechfaaGreatWk1
import Derived.Test.YtmglpcdalechfaaGreatBC
import Derived.Test.YtmglpcdalechfaaGreatWk12
import Derived.Test.YtmglpcdalechfaaGreatWk11
import Derived.Test.YtmglpcdalechfaaGreatWk5
import Derived.Test.YtmglpcdalechfaaGreatWk8
import Derived.Test.YtmglpcdalechfaaGreatWk4
import Derived.Test.YtmglpcdalechfaaGreatWk6
import Derived.Test.YtmglpcdalechfaaGreatWk9
set_option linter.unusedVariables false
set_option linter.unusedSimpArgs false
section
open Go Go.Big
namespace Go.Proofs
set_option maxHeartbeats 2000000
/-- A function value that asks one question of an element, and leaves old objects as they are. -/
def AsksPc (G : Gv) (f : FuncId) (caps : List AV) (H0 : Heap) (n0 tg : Nat) (p : PieceM → Bool) (ls : List PieceM) : Prop :=
  ∀ x ∈ ls, ∀ (H : Heap) (n : Nat), n0 ≤ n → (∀ k, k < n0 → H k = H0 k) → WC Tryz.prog G f ((pieceA tg x) :: caps) H n (fun r H' n' => r = .b (p x) ∧ n ≤ n' ∧ ∀ k, k < n0 → H' k = H0 k)
def findPc (p : PieceM → Bool) (ls : List PieceM) : Int := match (List.range ls.length).find? (fun i => p (ls.getD i ⟨[], 0, false⟩)) with
  | some i => i
  | none => -1
theorem indexFuncPc_fn (G : Gv) (f : FuncId) (caps : List AV) (H0 : Heap) (n0 tg : Nat) (p : PieceM → Bool) (ls : List PieceM) (hp : AsksPc G f caps H0 n0 tg p ls) (hff : (Tryz.prog.funcs[f]?).any (fun fn => fn.body.isSome && (fn.name != "runtime.NumGoroutine")) = true) (hls : ls.length < 1000000000)
    (H : Heap) (n : Nat) (hn : n0 ≤ n) (hH : ∀ k, k < n0 → H k = H0 k) :
    WC Tryz.prog G 142 [.sl tg (pieces ls), .fn f caps] H n (fun r H' n' => r = .i .i64 (findPc p ls) ∧ n ≤ n' ∧ ∀ k, k < n0 → H' k = H0 k) := by
  refine (.body Tryz.func142 rfl (by simp [Tryz.ntmps142]) ?_)
  rw [Tryz.ntmps142, Tryz.results142]
  have hlen := pieces_len ls
  replace hH := Hid.mk hH
  replace hp := Hid.mk hp
  refine AL ?_
  refine .loop (.inv (fun d E H n' => ∃ i : Nat, i + d = ls.length ∧ n ≤ n' ∧ E 0 = .sl tg (pieces ls) ∧ E 1 = .fn f caps ∧ E 7 = .i .i64 ls.length ∧ E 8 = .i .i64 i ∧ (∀ k, k < n0 → H k = H0 k) ∧ (∀ j, j < i → p (ls.getD j ⟨[], 0, false⟩) = false)) ls.length ?_ ?_)
  · exact ⟨0, by omega, by omega, by simp [setF_if, argE], by simp [setF_if, argE], by simp [setF_if, argE, hlen], by simp [setF_if, argE], hH.out, fun j hj => by omega⟩
  clear hH
  rintro d E H n' ⟨i, hi, hnn, h0, h1, h7, h8, hH, hall⟩
  replace hH := Hid.mk hH
  replace hall := Hid.mk hall
  by_cases c : (i : Int) < ls.length
  · have hw_i : IntKind.i64.wrap ((i : Int) + 1) = (i : Int) + 1 := wr64 (by omega) (by omega)
    have hr : (pieces ls)[i]? = some (pieceR (ls.getD i ⟨[], 0, false⟩)) := by simp [pieces, List.getD_eq_getElem?_getD, show i < ls.length by omega]
    have hmem : ls.getD i ⟨[], 0, false⟩ ∈ ls := by rw [List.getD_eq_getElem?_getD, List.getElem?_eq_getElem (by omega)]; exact List.getElem_mem _
    have hyes : p (ls.getD i ⟨[], 0, false⟩) = true → findPc p ls = i := fun h => by
      unfold findPc; rw [find_yes (p := fun i => p (ls.getD i ⟨[], 0, false⟩)) (i := i) (by omega) h (fun j hj => hall.out j hj)]
    have hmore : p (ls.getD i ⟨[], 0, false⟩) = false → ∀ j, j < i + 1 → p (ls.getD j ⟨[], 0, false⟩) = false := fun h j hj => by
      by_cases q : j = i
      · rw [q]; exact h
      · exact hall.out j (by omega)
    replace hyes := Hid.mk hyes
    replace hmore := Hid.mk hmore
    replace hmem := Hid.mk hmem
    generalize ls.getD i ⟨[], 0, false⟩ = x at hr hmem hyes hmore
    refine AL ?_
    refine CI (hf := hff) ?_
    refine (hp.out x hmem.out _ _ (by omega) hH.out).mono ?_
    rintro r H2 n2 ⟨rfl, hn2, hH2⟩
    replace hH2 := Hid.mk hH2
    cases cq : p x with
    | true =>
      refine AL ?_
      exact ⟨by simp [retA, setF_if, hyes.out cq], by omega, hH2.out⟩
    | false =>
      refine AL ?_
      exact ⟨ls.length - (i + 1), by omega, i + 1, by omega, by omega, by simp [setF_if, *], by simp [setF_if, *], by simp [setF_if, *], by simp [setF_if, *], hH2.out, hmore.out cq⟩
  · refine AL ?_
    have : findPc p ls = -1 := by
      unfold findPc; rw [find_no (p := fun i => p (ls.getD i ⟨[], 0, false⟩)) (fun j hj => hall.out j (by omega))]
    exact ⟨by simp [retA, setF_if, this], by omega, hH.out⟩
theorem findPc_any (p : PieceM → Bool) (ls : List PieceM) : decide (findPc p ls ≥ 0) = ls.any p := by
  unfold findPc
  cases h : (List.range ls.length).find? (fun i => p (ls.getD i ⟨[], 0, false⟩)) with
  | none =>
    rw [List.find?_range_eq_none] at h
    have : ls.any p = false := by
      rw [List.any_eq_false]
      intro x hx
      obtain ⟨i, hi, e⟩ := List.mem_iff_getElem.mp hx
      have := h i hi
      rw [← e]
      simpa [List.getD_eq_getElem?_getD, hi] using this
    rw [this]; rfl
  | some i =>
    have h1 := List.find?_some h
    have h2 := List.mem_range.mp (List.mem_of_find?_eq_some h)
    simp only [decide_eq_true_eq] at *
    have h3 : ls.any p = true := List.any_eq_true.mpr ⟨ls[i], List.getElem_mem _, by simpa [List.getD_eq_getElem?_getD, h2] using h1⟩
    rw [h3]; simp
theorem containsFuncPc_fn (G : Gv) (f : FuncId) (caps : List AV) (H0 : Heap) (n0 tg : Nat) (p : PieceM → Bool) (ls : List PieceM) (hp : AsksPc G f caps H0 n0 tg p ls) (hff : (Tryz.prog.funcs[f]?).any (fun fn => fn.body.isSome && (fn.name != "runtime.NumGoroutine")) = true) (hls : ls.length < 1000000000)
    (H : Heap) (n : Nat) (hn : n0 ≤ n) (hH : ∀ k, k < n0 → H k = H0 k) :
    WC Tryz.prog G 75 [.sl tg (pieces ls), .fn f caps] H n (fun r H' n' => r = .b (ls.any p) ∧ n ≤ n' ∧ ∀ k, k < n0 → H' k = H0 k) := by
  refine (.body Tryz.func75 rfl (by simp [Tryz.ntmps75]) ?_)
  rw [Tryz.ntmps75, Tryz.results75]
  replace hH := Hid.mk hH
  replace hp := Hid.mk hp
  refine AL ?_
  refine CI ?_
  refine (indexFuncPc_fn G f caps H0 n0 tg p ls hp.out hff hls _ _ (by omega) hH.out).mono ?_
  rintro r H2 n2 ⟨rfl, hn2, hH2⟩
  replace hH2 := Hid.mk hH2
  have ha := findPc_any p ls
  refine AL ?_
  exact ⟨by simp [retA, setF_if, ha], by omega, hH2.out⟩
end Go.Proofs
end
section
open Go Go.Big
namespace Go.Proofs
set_option maxHeartbeats 2000000
theorem indexFuncPv_fn (G : Gv) (f : FuncId) (p : PieceM → Bool) (ls : List PieceM) (hp : ∀ x ∈ ls, Gives Tryz.prog G f [pieceA 0 x] (.b (p x))) (hff : (Tryz.prog.funcs[f]?).any (fun fn => fn.body.isSome && (fn.name != "runtime.NumGoroutine")) = true) (hls : ls.length < 1000000000) :
    Gives Tryz.prog G 142 [.sl 0 (pieces ls), .fn f []] (.i .i64 (findPc p ls)) := by
  refine .of (.body Tryz.func142 rfl (by simp [Tryz.ntmps142]) ?_)
  rw [Tryz.ntmps142, Tryz.results142]
  have hlen := pieces_len ls
  replace hp := Hid.mk hp
  refine AL ?_
  refine .loop (.inv (fun d E H n' => ∃ i : Nat, i + d = ls.length ∧ E 0 = .sl 0 (pieces ls) ∧ E 1 = .fn f [] ∧ E 7 = .i .i64 ls.length ∧ E 8 = .i .i64 i ∧ (∀ j, j < i → p (ls.getD j ⟨[], 0, false⟩) = false)) ls.length ?_ ?_)
  · exact ⟨0, by omega, by simp [setF_if, argE], by simp [setF_if, argE], by simp [setF_if, argE, hlen], by simp [setF_if, argE], fun j hj => by omega⟩
  rintro d E H n' ⟨i, hi, h0, h1, h7, h8, hall⟩
  replace hall := Hid.mk hall
  by_cases c : (i : Int) < ls.length
  · have hw_i : IntKind.i64.wrap ((i : Int) + 1) = (i : Int) + 1 := wr64 (by omega) (by omega)
    have hr : (pieces ls)[i]? = some (pieceR (ls.getD i ⟨[], 0, false⟩)) := by simp [pieces, List.getD_eq_getElem?_getD, show i < ls.length by omega]
    have hmem : ls.getD i ⟨[], 0, false⟩ ∈ ls := by rw [List.getD_eq_getElem?_getD, List.getElem?_eq_getElem (by omega)]; exact List.getElem_mem _
    have hyes : p (ls.getD i ⟨[], 0, false⟩) = true → findPc p ls = i := fun h => by
      unfold findPc; rw [find_yes (p := fun i => p (ls.getD i ⟨[], 0, false⟩)) (i := i) (by omega) h (fun j hj => hall.out j hj)]
    have hmore : p (ls.getD i ⟨[], 0, false⟩) = false → ∀ j, j < i + 1 → p (ls.getD j ⟨[], 0, false⟩) = false := fun h j hj => by
      by_cases q : j = i
      · rw [q]; exact h
      · exact hall.out j (by omega)
    replace hyes := Hid.mk hyes
    replace hmore := Hid.mk hmore
    replace hmem := Hid.mk hmem
    generalize ls.getD i ⟨[], 0, false⟩ = x at hr hmem hyes hmore
    refine AL ?_
    refine CV (hf := hff) (hp.out x hmem.out) ?_
    cases cq : p x with
    | true =>
      refine AL ?_
      simp [retA, backA, setF_if, hyes.out cq]
    | false =>
      refine AL ?_
      exact ⟨ls.length - (i + 1), by omega, i + 1, by omega, by simp [setF_if, *], by simp [setF_if, *], by simp [setF_if, *], by simp [setF_if, *], hmore.out cq⟩
  · refine AL ?_
    have : findPc p ls = -1 := by
      unfold findPc; rw [find_no (p := fun i => p (ls.getD i ⟨[], 0, false⟩)) (fun j hj => hall.out j (by omega))]
    simp [retA, backA, setF_if, this]
theorem containsFuncPv_fn (G : Gv) (f : FuncId) (p : PieceM → Bool) (ls : List PieceM) (hp : ∀ x ∈ ls, Gives Tryz.prog G f [pieceA 0 x] (.b (p x))) (hff : (Tryz.prog.funcs[f]?).any (fun fn => fn.body.isSome && (fn.name != "runtime.NumGoroutine")) = true) (hls : ls.length < 1000000000) :
    Gives Tryz.prog G 75 [.sl 0 (pieces ls), .fn f []] (.b (ls.any p)) := by
  refine .of (.body Tryz.func75 rfl (by simp [Tryz.ntmps75]) ?_)
  rw [Tryz.ntmps75, Tryz.results75]
  replace hp := Hid.mk hp
  refine AL ?_
  refine CV (indexFuncPv_fn G f p ls hp.out hff hls) ?_
  have ha := findPc_any p ls
  refine AL ?_
  simp [retA, backA, setF_if, ha]
end Go.Proofs
end
section
open Go Go.Big
namespace Go.Proofs
set_option maxHeartbeats 2000000
def handP (p : PieceM) : Bool := !p.b && decide ((tidyM (formsL p.cs 4)).length ≠ (tidyM (formsL p.cs 8)).length)
end Go.Proofs
end
section
open Go Go.Big
namespace Go.Proofs
set_option maxHeartbeats 2000000
theorem insP_at {x : Int × List Int} : ∀ {l : List (Int × List Int)} {i : Nat}, i ≤ l.length → (∀ k (h : k < l.length), k < i → cmpP l[k] x < 0) → (∀ h : i < l.length, ¬ cmpP l[i] x < 0) → insP x l = l.take i ++ x :: l.drop i
  | [], i, hi, _, _ => by
    obtain rfl : i = 0 := by simpa using hi
    rfl
  | y :: l, 0, _, _, h => by
    have := h (by simp)
    simp only [List.getElem_cons_zero] at this
    unfold insP
    rw [if_neg this]; rfl
  | y :: l, i + 1, hi, h1, h2 => by
    have h0 := h1 0 (by simp) (by omega)
    simp only [List.getElem_cons_zero] at h0
    unfold insP
    rw [if_pos h0, insP_at (i := i) (by simpa using hi) (fun k hk hki => by have := h1 (k + 1) (by simpa using hk) (by omega); simpa using this) (fun h => by have := h2 (by simpa using h); simpa using this)]
    simp
theorem l12Insert_wc (G : Gv) (l : List (Int × List Int)) (x : Int × List Int) (o e : Nat) (H : Heap) (n : Nat) (ho : o < n) (hH : H o = some (.arr e 110 2 (places l) 1)) (hl : l.length < 1000000000) (hlc : ∀ y ∈ l, y.2.length < 1000000000) (hx : x.2.length < 1000000000) :
    WC Tryz.prog G 202 [.own o e, placA 1 x] H n (fun r H' n' => n ≤ n' ∧ ∃ o' e', r = .own o' e' ∧ o' < n' ∧ H' o' = some (.arr e' 110 2 (places (insP x l)) 1) ∧ ∀ k, k < n → H' k = H k) := by
  refine (.body Tryz.func202 rfl (by simp [Tryz.ntmps202]) ?_)
  rw [Tryz.ntmps202, Tryz.results202]
  have hlen := places_len l
  have hno : ¬ (o = n) := by omega
  replace hlc := Hid.mk hlc
  refine AL ?_
  refine .loop (.inv (fun d E H' n' => ∃ i : Nat, i + d = l.length ∧ n < n' ∧ E 0 = .own o e ∧ E 3 = .ptr n 0 0 0 ∧ E 5 = .i .i64 i ∧ H' = H.upd n (.box 110 [.i .i64 x.1, .sl 1 (ints x.2)]) ∧ (∀ k (h : k < l.length), k < i → cmpP l[k] x < 0)) l.length ?_ ?_)
  · exact ⟨0, by omega, by omega, by simp [setF_if, argE], by simp [setF_if, argE], by simp [setF_if, argE], rfl, fun k _ hk => by omega⟩
  rintro d E H' n' ⟨i, hi, hn, h0, h3, h5, rfl, hlo⟩
  replace hlo := Hid.mk hlo
  by_cases c : (i : Int) < l.length
  · have hw_i : IntKind.i64.wrap ((i : Int) + 1) = (i : Int) + 1 := wr64 (by omega) (by omega)
    have hil : i < l.length := by omega
    have hrow : (places l)[i]? = some (placR (l[i]'hil)) := places_at (List.getElem?_eq_getElem hil)
    have hyl := hlc.out _ (List.getElem_mem hil)
    have hnext : cmpP (l[i]'hil) x < 0 → ∀ k (h : k < l.length), k < i + 1 → cmpP l[k] x < 0 := fun h k hk hki => by
      by_cases q : k = i
      · subst q; exact h
      · exact hlo.out k hk (by omega)
    obtain ⟨y, hy⟩ : ∃ y, l[i]'hil = y := ⟨_, rfl⟩
    rw [hy] at hrow hyl hnext
    replace hy := Hid.mk hy
    replace hnext := Hid.mk hnext
    obtain ⟨yk, ys⟩ := y
    obtain ⟨xk, xs⟩ := x
    simp only at hyl
    by_cases cy : cmpP (yk, ys) (xk, xs) < 0
    · refine AL ?_
      refine CQ (specComparePl_fn G (yk, ys) (xk, xs) hyl hx) ?_
      refine AL ?_
      exact ⟨l.length - (i + 1), by omega, i + 1, by omega, by omega, by simp [setF_if, *], by simp [setF_if, *], by simp [setF_if, *], by first | rfl | trivial, hnext.out cy⟩
    · have heq := insP_at (x := (xk, xs)) (l := l) (i := i) (by omega) hlo.out (fun h => by rw [hy.out]; exact cy)
      replace heq := Hid.mk heq
      refine AL ?_
      refine CQ (specComparePl_fn G (yk, ys) (xk, xs) hyl hx) ?_
      refine AX ?_
      have hle : i ≤ l.length := by omega
      have hzi : 0 ≤ i := by omega
      have hs0 : i - 0 = i := rfl
      have hdr : (places l).drop 0 = places l := rfl
      have htk : (places l).take i = places (l.take i) := by simp [places, List.map_take]
      have htd : ((places l).drop i).take (l.length - i) = places (l.drop i) := by unfold places; rw [← List.map_drop, List.take_of_length_le (by simp)]
      have hl1 : (places (l.take i)).length = i := by rw [places_len, List.length_take]; omega
      have hl2 : (places (l.drop i)).length = l.length - i := by rw [places_len, List.length_drop]
      have hb1 : i * 32 ≤ 140737488355328 := by omega
      have hb2 : (i + 1) * 32 ≤ 140737488355328 := by omega
      have hb3 : (i + 1 + (l.length - i)) * 32 ≤ 140737488355328 := by omega
      have hfit1 : decide (∀ r ∈ places (l.take i), r.length = 2) = true := decide_eq_true fun r hr => by obtain ⟨y, _, rfl⟩ := List.mem_map.mp hr; rfl
      have hfit2 : decide (∀ r ∈ places (l.drop i), r.length = 2) = true := decide_eq_true fun r hr => by obtain ⟨y, _, rfl⟩ := List.mem_map.mp hr; rfl
      have hl3 : (places (l.take i) ++ [[PV.i .i64 xk, PV.sl (ints xs)]]).length = i + 1 := by simp [hl1]
      have hno' : ¬ (o = n') := by omega
      have hnn' : ¬ (n = n') := by omega
      have hno6 : ¬ (o = n' + 6) := by omega
      have hnn6 : ¬ (n = n' + 6) := by omega
      have h06 : ¬ (n' = n' + 6) := by omega
      have h60 : ¬ (n' + 6 = n') := by omega
      have hnd : [n', n' + 6].Nodup := by simp
      refine FD [n', n' + 6] [(21, 0), (25, 0), (27, 1), (28, 0), (32, 0)] [(28, [1])] hnd ?_
      repeat first | refine FF ?_ | refine FS ?_
      refine FM 0 (n') ?_ (hs := by
        intro Hx hx
        exact EVM)
      repeat first | refine FF ?_ | refine FS ?_
      refine FQ ?_ (hs := by
        intro Hx hx
        have f0 : Hx (o) = _ := hx.off (by simp only [List.mem_cons, List.not_mem_nil, or_false, not_or]; omega)
        simp only [setF_if, upd_if, neAdd, neLt, ltAdd, addNe, ltNe, Nat.left_eq_add, Nat.add_eq_left, Nat.reduceEqDiff, Nat.add_assoc, Nat.reduceAdd, reduceIte, *] at f0
        exact EV)
      refine FM 0 (n') ?_ (hs := by
        intro Hx hx
        have f0 : Hx (n') = _ := hx.at hnd 0 rfl (by decide)
        simp only [setF_if, upd_if, neAdd, neLt, ltAdd, addNe, ltNe, Nat.left_eq_add, Nat.add_eq_left, Nat.reduceEqDiff, Nat.add_assoc, Nat.reduceAdd, reduceIte, *] at f0
        have f1 : Hx (o) = _ := hx.off (by simp only [List.mem_cons, List.not_mem_nil, or_false, not_or]; omega)
        simp only [setF_if, upd_if, neAdd, neLt, ltAdd, addNe, ltNe, Nat.left_eq_add, Nat.add_eq_left, Nat.reduceEqDiff, Nat.add_assoc, Nat.reduceAdd, reduceIte, *] at f1
        exact EVM)
      refine FQ ?_ (hs := by
        intro Hx hx
        have f0 : Hx (n) = _ := hx.off (by simp only [List.mem_cons, List.not_mem_nil, or_false, not_or]; omega)
        simp only [setF_if, upd_if, neAdd, neLt, ltAdd, addNe, ltNe, Nat.left_eq_add, Nat.add_eq_left, Nat.reduceEqDiff, Nat.add_assoc, Nat.reduceAdd, reduceIte, *] at f0
        exact EV)
      refine FM 1 (n' + 6) ?_ (hs := by
        intro Hx hx
        exact EVM)
      refine FM 0 (n') ?_ (hs := by
        intro Hx hx
        have f0 : Hx (n') = _ := hx.at hnd 0 rfl (by decide)
        simp only [setF_if, upd_if, neAdd, neLt, ltAdd, addNe, ltNe, Nat.left_eq_add, Nat.add_eq_left, Nat.reduceEqDiff, Nat.add_assoc, Nat.reduceAdd, reduceIte, *] at f0
        have f1 : Hx (n' + 6) = _ := hx.at hnd 1 rfl (by decide)
        simp only [setF_if, upd_if, neAdd, neLt, ltAdd, addNe, ltNe, Nat.left_eq_add, Nat.add_eq_left, Nat.reduceEqDiff, Nat.add_assoc, Nat.reduceAdd, reduceIte, *] at f1
        exact EVM)
      repeat first | refine FF ?_ | refine FS ?_
      refine FQ ?_ (hs := by
        intro Hx hx
        have f0 : Hx (o) = _ := hx.off (by simp only [List.mem_cons, List.not_mem_nil, or_false, not_or]; omega)
        simp only [setF_if, upd_if, neAdd, neLt, ltAdd, addNe, ltNe, Nat.left_eq_add, Nat.add_eq_left, Nat.reduceEqDiff, Nat.add_assoc, Nat.reduceAdd, reduceIte, *] at f0
        exact EV)
      refine FM 0 (n') ?_ (hs := by
        intro Hx hx
        have f0 : Hx (n') = _ := hx.at hnd 0 rfl (by decide)
        simp only [setF_if, upd_if, neAdd, neLt, ltAdd, addNe, ltNe, Nat.left_eq_add, Nat.add_eq_left, Nat.reduceEqDiff, Nat.add_assoc, Nat.reduceAdd, reduceIte, *] at f0
        have f1 : Hx (o) = _ := hx.off (by simp only [List.mem_cons, List.not_mem_nil, or_false, not_or]; omega)
        simp only [setF_if, upd_if, neAdd, neLt, ltAdd, addNe, ltNe, Nat.left_eq_add, Nat.add_eq_left, Nat.reduceEqDiff, Nat.add_assoc, Nat.reduceAdd, reduceIte, *] at f1
        exact EVM)
      repeat first | refine FF ?_ | refine FS ?_
      refine WF.nil ?_
      refine AL ?_
      refine ⟨by omega, n', 3, by simp [retA], by omega, ?_, fun k hk => ?_⟩
      · rw [heq.out]
        simp [upd_if, places]
      · simp [upd_if, show ¬ k = n' by omega, show ¬ k = n' + 6 by omega, show ¬ k = n by omega]
  · have heq := insP_at (x := x) (l := l) (i := i) (by omega) hlo.out (fun h => by omega)
    replace heq := Hid.mk heq
    obtain ⟨xk, xs⟩ := x
    refine AX ?_
    refine DR ?_
    refine AX ?_
    have hle : i ≤ l.length := by omega
    have hzi : 0 ≤ i := by omega
    have hs0 : i - 0 = i := rfl
    have hdr : (places l).drop 0 = places l := rfl
    have htk : (places l).take i = places (l.take i) := by simp [places, List.map_take]
    have htd : ((places l).drop i).take (l.length - i) = places (l.drop i) := by unfold places; rw [← List.map_drop, List.take_of_length_le (by simp)]
    have hl1 : (places (l.take i)).length = i := by rw [places_len, List.length_take]; omega
    have hl2 : (places (l.drop i)).length = l.length - i := by rw [places_len, List.length_drop]
    have hb1 : i * 32 ≤ 140737488355328 := by omega
    have hb2 : (i + 1) * 32 ≤ 140737488355328 := by omega
    have hb3 : (i + 1 + (l.length - i)) * 32 ≤ 140737488355328 := by omega
    have hfit1 : decide (∀ r ∈ places (l.take i), r.length = 2) = true := decide_eq_true fun r hr => by obtain ⟨y, _, rfl⟩ := List.mem_map.mp hr; rfl
    have hfit2 : decide (∀ r ∈ places (l.drop i), r.length = 2) = true := decide_eq_true fun r hr => by obtain ⟨y, _, rfl⟩ := List.mem_map.mp hr; rfl
    have hl3 : (places (l.take i) ++ [[PV.i .i64 xk, PV.sl (ints xs)]]).length = i + 1 := by simp [hl1]
    have hno' : ¬ (o = n') := by omega
    have hnn' : ¬ (n = n') := by omega
    have hno6 : ¬ (o = n' + 6) := by omega
    have hnn6 : ¬ (n = n' + 6) := by omega
    have h06 : ¬ (n' = n' + 6) := by omega
    have h60 : ¬ (n' + 6 = n') := by omega
    have hnd : [n', n' + 6].Nodup := by simp
    refine FD [n', n' + 6] [(21, 0), (25, 0), (27, 1), (28, 0), (32, 0)] [(28, [1])] hnd ?_
    repeat first | refine FF ?_ | refine FS ?_
    refine FM 0 (n') ?_ (hs := by
      intro Hx hx
      exact EVM)
    repeat first | refine FF ?_ | refine FS ?_
    refine FQ ?_ (hs := by
      intro Hx hx
      have f0 : Hx (o) = _ := hx.off (by simp only [List.mem_cons, List.not_mem_nil, or_false, not_or]; omega)
      simp only [setF_if, upd_if, neAdd, neLt, ltAdd, addNe, ltNe, Nat.left_eq_add, Nat.add_eq_left, Nat.reduceEqDiff, Nat.add_assoc, Nat.reduceAdd, reduceIte, *] at f0
      exact EV)
    refine FM 0 (n') ?_ (hs := by
      intro Hx hx
      have f0 : Hx (n') = _ := hx.at hnd 0 rfl (by decide)
      simp only [setF_if, upd_if, neAdd, neLt, ltAdd, addNe, ltNe, Nat.left_eq_add, Nat.add_eq_left, Nat.reduceEqDiff, Nat.add_assoc, Nat.reduceAdd, reduceIte, *] at f0
      have f1 : Hx (o) = _ := hx.off (by simp only [List.mem_cons, List.not_mem_nil, or_false, not_or]; omega)
      simp only [setF_if, upd_if, neAdd, neLt, ltAdd, addNe, ltNe, Nat.left_eq_add, Nat.add_eq_left, Nat.reduceEqDiff, Nat.add_assoc, Nat.reduceAdd, reduceIte, *] at f1
      exact EVM)
    refine FQ ?_ (hs := by
      intro Hx hx
      have f0 : Hx (n) = _ := hx.off (by simp only [List.mem_cons, List.not_mem_nil, or_false, not_or]; omega)
      simp only [setF_if, upd_if, neAdd, neLt, ltAdd, addNe, ltNe, Nat.left_eq_add, Nat.add_eq_left, Nat.reduceEqDiff, Nat.add_assoc, Nat.reduceAdd, reduceIte, *] at f0
      exact EV)
    refine FM 1 (n' + 6) ?_ (hs := by
      intro Hx hx
      exact EVM)
    refine FM 0 (n') ?_ (hs := by
      intro Hx hx
      have f0 : Hx (n') = _ := hx.at hnd 0 rfl (by decide)
      simp only [setF_if, upd_if, neAdd, neLt, ltAdd, addNe, ltNe, Nat.left_eq_add, Nat.add_eq_left, Nat.reduceEqDiff, Nat.add_assoc, Nat.reduceAdd, reduceIte, *] at f0
      have f1 : Hx (n' + 6) = _ := hx.at hnd 1 rfl (by decide)
      simp only [setF_if, upd_if, neAdd, neLt, ltAdd, addNe, ltNe, Nat.left_eq_add, Nat.add_eq_left, Nat.reduceEqDiff, Nat.add_assoc, Nat.reduceAdd, reduceIte, *] at f1
      exact EVM)
    repeat first | refine FF ?_ | refine FS ?_
    refine FQ ?_ (hs := by
      intro Hx hx
      have f0 : Hx (o) = _ := hx.off (by simp only [List.mem_cons, List.not_mem_nil, or_false, not_or]; omega)
      simp only [setF_if, upd_if, neAdd, neLt, ltAdd, addNe, ltNe, Nat.left_eq_add, Nat.add_eq_left, Nat.reduceEqDiff, Nat.add_assoc, Nat.reduceAdd, reduceIte, *] at f0
      exact EV)
    refine FM 0 (n') ?_ (hs := by
      intro Hx hx
      have f0 : Hx (n') = _ := hx.at hnd 0 rfl (by decide)
      simp only [setF_if, upd_if, neAdd, neLt, ltAdd, addNe, ltNe, Nat.left_eq_add, Nat.add_eq_left, Nat.reduceEqDiff, Nat.add_assoc, Nat.reduceAdd, reduceIte, *] at f0
      have f1 : Hx (o) = _ := hx.off (by simp only [List.mem_cons, List.not_mem_nil, or_false, not_or]; omega)
      simp only [setF_if, upd_if, neAdd, neLt, ltAdd, addNe, ltNe, Nat.left_eq_add, Nat.add_eq_left, Nat.reduceEqDiff, Nat.add_assoc, Nat.reduceAdd, reduceIte, *] at f1
      exact EVM)
    repeat first | refine FF ?_ | refine FS ?_
    refine WF.nil ?_
    refine AL ?_
    refine ⟨by omega, n', 3, by simp [retA], by omega, ?_, fun k hk => ?_⟩
    · rw [heq.out]
      simp [upd_if, places]
    · simp [upd_if, show ¬ k = n' by omega, show ¬ k = n' + 6 by omega, show ¬ k = n by omega]
end Go.Proofs
end
section
open Go Go.Big
namespace Go.Proofs
set_option maxHeartbeats 2000000
theorem insP_mem {x y : Int × List Int} : ∀ {l : List (Int × List Int)}, y ∈ insP x l → y = x ∨ y ∈ l
  | [], h => by simpa [insP] using h
  | z :: l, h => by
    unfold insP at h
    split at h
    · rcases List.mem_cons.mp h with rfl | h
      · exact .inr List.mem_cons_self
      · exact (insP_mem h).imp id (List.mem_cons_of_mem _)
    · rcases List.mem_cons.mp h with rfl | h
      · exact .inl rfl
      · exact .inr h
theorem insP_length (x : Int × List Int) : ∀ (l : List (Int × List Int)), (insP x l).length = l.length + 1
  | [] => rfl
  | y :: l => by
    unfold insP
    split
    · simp [insP_length x l]
    · simp
theorem bnd0 {a i : Nat} (h : a ≤ i * 1000000) : a ≤ i * 1000000 + 0 * 1000 := by rw [Nat.zero_mul, Nat.add_zero]; exact h
theorem bnd0' {a i y : Nat} (h : a ≤ i * 1000000 + y * 1000) : a ≤ i * 1000000 + y * 1000 + 0 := by rw [Nat.add_zero]; exact h
theorem bnd1 {a i y x : Nat} (h : a ≤ i * 1000000 + y * 1000 + x) : a ≤ i * 1000000 + y * 1000 + (x + 1) := by omega
theorem bnd1' {a i y x : Nat} (h : a ≤ i * 1000000 + y * 1000 + x) : a + 1 ≤ i * 1000000 + y * 1000 + (x + 1) := by omega
theorem bnd2 {a i y w : Nat} (h : a ≤ i * 1000000 + y * 1000 + w) (hw : w ≤ 1000) : a ≤ i * 1000000 + (y + 1) * 1000 := by
  refine Nat.le_trans h ?_
  rw [Nat.add_mul, Nat.one_mul, Nat.add_assoc]
  exact Nat.add_le_add_left (Nat.add_le_add_left hw _) _
theorem bnd3 {a i w : Nat} (h : a ≤ i * 1000000 + w * 1000) (hw : w ≤ 1000) : a ≤ (i + 1) * 1000000 := by omega
theorem range_foldl {β : Type} (f : β → Nat → β) (z : β) (n : Nat) : (List.range (n + 1)).foldl f z = f ((List.range n).foldl f z) n := by
  rw [List.range_succ, List.foldl_append]; rfl
theorem l12Of_fn (G : Gv) (r : Shape) (l : List PieceM) (k : Nat) (p : PieceM) (hp : l[k]? = some p) (hp0 : 0 < p.cs.length) (hpl : p.cs.length < 1000000) (hr1 : 1 ≤ r.length) (hr : r.length < 1000000000) (hl : l.length < 1000000000) (hw : (sizeM r).1 ≤ 1000 ∧ (sizeM r).2 ≤ 1000) :
    Gives Tryz.prog G 144 [.ag [.sl 0 (cells r), .sl 0 (pieces l)], .i .i64 k] (.sl 1 (places (listB r k (formsP p)))) := by
  refine .of (.body Tryz.func144 rfl (by simp [Tryz.ntmps144]) ?_)
  rw [Tryz.ntmps144, Tryz.results144]
  have hrow := pieces_at hp
  obtain ⟨hf1, hf2⟩ := formsP_ok p
  have hk : k < l.length := (List.getElem?_eq_some_iff.mp hp).1
  have hlenf := shapesR_len (formsP p)
  replace hp := Hid.mk hp
  refine AL ?_
  refine CV (l11Forms_fn G p hp0 (by omega)) ?_
  refine AL ?_
  refine CV (l04Size_fn G r (by omega) hr) ?_
  unfold listB
  have hfl : ∀ f ∈ formsP p, f.length < 1000000 := fun f hf => by rw [hf2 f hf]; exact hpl
  generalize formsP p = fs at hf1 hf2 hlenf hfl
  obtain ⟨hw1, hw2⟩ := hw
  generalize (sizeM r).1 = wide at hw1
  generalize (sizeM r).2 = high at hw2
  generalize hwN : wide.toNat = wN
  generalize hhN : high.toNat = hN
  have hwN9 : wN ≤ 1000 := by omega
  have hhN9 : hN ≤ 1000 := by omega
  replace hfl := Hid.mk hfl
  replace hf2 := Hid.mk hf2
  clear hrow
  refine AL ?_
  refine .loop (.inv (fun d E H n' => ∃ (i : Nat) (out : List (Int × List Int)) (o e : Nat), i + d = fs.length ∧ 0 < n' ∧ o < n' ∧ E 1 = .i .i64 k ∧ E 2 = .ptr 0 0 0 0 ∧ E 5 = .own o e ∧ E 6 = .sl 1 (shapesR fs) ∧ E 7 = .i .i64 wide ∧ E 8 = .i .i64 high ∧ E 9 = .i .i64 i ∧ H 0 = some (.box 35 [.sl 0 (cells r), .sl 0 (pieces l)]) ∧ H o = some (.arr e 110 2 (places out) 1) ∧
      out = (fs.take i).foldl (formB r k wN hN) [] ∧ out.length ≤ i * 1000000 ∧ ∀ z ∈ out, z.2.length < 1000000) fs.length ?_ ?_)
  · exact ⟨0, [], 2, 0, by omega, by omega, by omega, by simp [setF_if, argE], by simp [setF_if, argE], by simp [setF_if, argE], by simp [setF_if, argE], by simp [setF_if, argE], by simp [setF_if, argE], by simp [setF_if, argE], by simp [upd_if], by simp [upd_if, places], rfl, by simp, by simp⟩
  rintro d E H n' ⟨i, out, o, e, hi, hn, hon, h1, h2, h5, h6, h7, h8, h9, hH0, hHo, hout, hlen, hmem⟩
  by_cases c : (i : Int) < fs.length
  · have hw_i : IntKind.i64.wrap ((i : Int) + 1) = (i : Int) + 1 := wr64 (by omega) (by omega)
    have hfi : i < fs.length := by omega
    have hfs := foldl_take (f := formB r k wN hN) (z := []) (List.getElem?_eq_getElem hfi)
    rw [← hout] at hfs
    have hrf := shapesR_at (ls := fs) (i := i) hfi
    rw [show fs.getD i [] = fs[i]'hfi by rw [List.getD_eq_getElem?_getD, List.getElem?_eq_getElem hfi]; rfl] at hrf
    have hff := hfl.out _ (List.getElem_mem hfi)
    generalize fs[i]'hfi = f at hfs hrf hff
    replace hfs := Hid.mk hfs
    replace hmem := Hid.mk hmem
    replace hlen := Hid.mk hlen
    replace hout := Hid.mk hout
    refine AL ?_
    refine .loop (.inv (fun d2 E H n' => ∃ (y : Nat) (out2 : List (Int × List Int)) (o e : Nat), y + d2 = hN ∧ 0 < n' ∧ o < n' ∧ E 1 = .i .i64 k ∧ E 2 = .ptr 0 0 0 0 ∧ E 5 = .own o e ∧ E 6 = .sl 1 (shapesR fs) ∧ E 7 = .i .i64 wide ∧ E 8 = .i .i64 high ∧ E 9 = .i .i64 i ∧ E 10 = .i .i64 y ∧ H 0 = some (.box 35 [.sl 0 (cells r), .sl 0 (pieces l)]) ∧ H o = some (.arr e 110 2 (places out2) 1) ∧
        out2 = (List.range y).foldl (rowB r k f wN) out ∧ out2.length ≤ i * 1000000 + y * 1000 ∧ ∀ z ∈ out2, z.2.length < 1000000) hN ?_ ?_)
    · exact ⟨0, out, o, e, by omega, by omega, by omega, by simp [setF_if, *], by simp [setF_if, *], by simp [setF_if, *], by simp [setF_if, *], by simp [setF_if, *], by simp [setF_if, *], by simp [setF_if, *], by simp [setF_if, *], by first | exact hH0 | simp [*], by first | exact hHo | simp [*], rfl, bnd0 hlen.out, hmem.out⟩
    clear h1 h2 h5 h6 h7 h8 h9 hH0 hHo hn hon
    rintro d2 E H n' ⟨y, out2, o, e, hy, hn, hon, h1, h2, h5, h6, h7, h8, h9, h10, hH0, hHo, hout2, hlen2, hmem2⟩
    by_cases cy : (y : Int) < high
    · have hw_y : IntKind.i64.wrap ((y : Int) + 1) = (y : Int) + 1 := wr64 (by omega) (by omega)
      have hyN : y < hN := by omega
      have hrs := range_foldl (rowB r k f wN) out y
      rw [← hout2] at hrs
      replace hrs := Hid.mk hrs
      replace hmem2 := Hid.mk hmem2
      replace hlen2 := Hid.mk hlen2
      replace hout2 := Hid.mk hout2
      refine AL ?_
      refine .loop (.inv (fun d3 E H n' => ∃ (x : Nat) (out3 : List (Int × List Int)) (o e : Nat), x + d3 = wN ∧ 0 < n' ∧ o < n' ∧ E 1 = .i .i64 k ∧ E 2 = .ptr 0 0 0 0 ∧ E 5 = .own o e ∧ E 6 = .sl 1 (shapesR fs) ∧ E 7 = .i .i64 wide ∧ E 8 = .i .i64 high ∧ E 9 = .i .i64 i ∧ E 10 = .i .i64 y ∧ E 11 = .i .i64 x ∧ H 0 = some (.box 35 [.sl 0 (cells r), .sl 0 (pieces l)]) ∧ H o = some (.arr e 110 2 (places out3) 1) ∧
          out3 = (List.range x).foldl (stepB r k f y) out2 ∧ out3.length ≤ i * 1000000 + y * 1000 + x ∧ ∀ z ∈ out3, z.2.length < 1000000) wN ?_ ?_)
      · exact ⟨0, out2, o, e, by omega, by omega, by omega, by simp [setF_if, *], by simp [setF_if, *], by simp [setF_if, *], by simp [setF_if, *], by simp [setF_if, *], by simp [setF_if, *], by simp [setF_if, *], by simp [setF_if, *], by simp [setF_if, *], by first | exact hH0 | simp [*], by first | exact hHo | simp [*], rfl, bnd0' hlen2.out, hmem2.out⟩
      clear h1 h2 h5 h6 h7 h8 h9 h10 hH0 hHo hn hon
      rintro d3 E H n' ⟨x, out3, o, e, hx, hn, hon, h1, h2, h5, h6, h7, h8, h9, h10, h11, hH0, hHo, hout3, hlen3, hmem3⟩
      by_cases cx : (x : Int) < wide
      · have hw_x : IntKind.i64.wrap ((x : Int) + 1) = (x : Int) + 1 := wr64 (by omega) (by omega)
        have hxN : x < wN := by omega
        have hss := range_foldl (stepB r k f y) out2 x
        rw [← hout3] at hss
        have hset := l10Set_fn G r (movedM f x y) hr (by rw [movedM_len]; omega)
        have hsl : ∀ s, setM r (movedM f x y) = some s → s.length < 1000000 := fun s hs => by rw [setM_len hs, movedM_len]; exact hff
        have hst : stepB r k f y out3 x = match setM r (movedM f x y) with | some s => insP ((k : Int), s) out3 | none => out3 := by
          unfold stepB gM
          cases setM r (movedM f x y) <;> rfl
        rw [hst] at hss
        have hl9 : out3.length < 1000000000 := by omega
        replace hmem3 := Hid.mk hmem3
        replace hlen3 := Hid.mk hlen3
        replace hout3 := Hid.mk hout3
        clear hst
        cases hsm : setM r (movedM f x y) with
        | none =>
          rw [hsm] at hset hss
          simp only [setA] at hset hss
          replace hset := Hid.mk hset
          replace hss := Hid.mk hss
          clear hsm hsl
          refine AL ?_
          refine CQ (l02Move_fn G f x y (by omega)) ?_
          refine AL ?_
          refine CQ hset.out ?_
          refine AL ?_
          exact ⟨wN - (x + 1), by omega, x + 1, out3, o, e, by omega, by omega, by omega, by simp [setF_if, *], by simp [setF_if, *], by simp [setF_if, *], by simp [setF_if, *], by simp [setF_if, *], by simp [setF_if, *], by simp [setF_if, *], by simp [setF_if, *], by simp [setF_if, *], by first | exact hH02 | exact hH0 | simp [*], by first | exact hHo2 | exact hHo | simp [*], hss.out.symm, bnd1 hlen3.out, hmem3.out⟩
        | some s =>
          have hsl2 := hsl s hsm
          rw [hsm] at hset hss
          simp only [setA] at hset hss
          replace hset := Hid.mk hset
          replace hss := Hid.mk hss
          clear hsm hsl
          refine AL ?_
          refine CQ (l02Move_fn G f x y (by omega)) ?_
          refine AL ?_
          refine CQ hset.out ?_
          refine AL ?_
          refine CI ?_
          refine (l12Insert_wc G out3 ((k : Int), s) o e H _ (by omega) hHo hl9 (fun z hz => by have := hmem3.out z hz; omega) (by simp only; omega)).mono ?_
          rintro _ H2 n2 ⟨hn2, o2, e2, rfl, ho2, hHo2, hfr⟩
          have hH02 := (hfr 0 (by omega)).trans hH0
          clear hfr hHo hH0
          refine AL ?_
          exact ⟨wN - (x + 1), by omega, x + 1, insP ((k : Int), s) out3, o2, e2, by omega, by omega, by omega, by simp [setF_if, *], by simp [setF_if, *], by simp [setF_if, *], by simp [setF_if, *], by simp [setF_if, *], by simp [setF_if, *], by simp [setF_if, *], by simp [setF_if, *], by simp [setF_if, *], by first | exact hH02 | exact hH0 | simp [*], by first | exact hHo2 | exact hHo | simp [*], hss.out.symm, by rw [insP_length]; exact bnd1' hlen3.out, fun z hz => by
            rcases insP_mem hz with rfl | hz
            · exact hsl2
            · exact hmem3.out z hz⟩
      · have ex : x = wN := by omega
        rw [ex] at hout3 hlen3
        have hro : rowB r k f wN out2 y = out3 := hout3.symm
        have hrs' := hrs.out
        rw [hro] at hrs'
        replace hrs' := Hid.mk hrs'
        replace hlen3 := Hid.mk hlen3
        replace hmem3 := Hid.mk hmem3
        clear hro hout3 hx ex
        refine AL ?_
        exact ⟨hN - (y + 1), by omega, y + 1, out3, o, e, by omega, by omega, by omega, by simp [setF_if, *], by simp [setF_if, *], by simp [setF_if, *], by simp [setF_if, *], by simp [setF_if, *], by simp [setF_if, *], by simp [setF_if, *], by simp [setF_if, *], by first | exact hH0 | simp [*], by first | exact hHo | simp [*], hrs'.out.symm, bnd2 hlen3.out hwN9, hmem3.out⟩
    · have ey : y = hN := by omega
      rw [ey] at hout2 hlen2
      have hfo : formB r k wN hN out f = out2 := hout2.symm
      have hfs' := hfs.out
      rw [hfo] at hfs'
      replace hfs' := Hid.mk hfs'
      replace hlen2 := Hid.mk hlen2
      replace hmem2 := Hid.mk hmem2
      clear hfo hout2 hy ey
      refine AL ?_
      exact ⟨fs.length - (i + 1), by omega, i + 1, out2, o, e, by omega, by omega, by omega, by simp [setF_if, *], by simp [setF_if, *], by simp [setF_if, *], by simp [setF_if, *], by simp [setF_if, *], by simp [setF_if, *], by simp [setF_if, *], by first | exact hH0 | simp [*], by first | exact hHo | simp [*], hfs'.out.symm, bnd3 hlen2.out hhN9, hmem2.out⟩
  · have ei : i = fs.length := by omega
    rw [ei, List.take_length] at hout
    subst hout
    refine AL ?_
    simp [retA, backA, newSl, newB, setF_if, h5, hHo]
end Go.Proofs
end
section
open Go Go.Big
namespace Go.Proofs
set_option maxHeartbeats 2000000
/-- What is known of a puzzle that both programs take. -/
theorem puzzle_facts {r : Shape} {l : List PieceM} (h : puzzleS r l = true) : (r.Pairwise fun a b => lessC a.1 a.2 b.1 b.2 = true) ∧ 1 ≤ r.length ∧ r.length ≤ 40 ∧ 1 ≤ l.length ∧ l.length ≤ 12 ∧ ((sizeM r).1 ≤ 20 ∧ (sizeM r).2 ≤ 20) ∧ ∀ p ∈ l, 0 < p.cs.length ∧ p.cs.length ≤ 40 := by
  obtain ⟨h1, h2, h3⟩ := puzzle_parts h
  obtain ⟨g1, g2, g3⟩ := puzzleS_ok h
  have hs : shapeM r = true := by unfold regionS at h1; simp only [Bool.and_eq_true] at h1; exact h1.1
  obtain ⟨k1, _, k2, k3⟩ := shapeM_spec hs
  have hb := boxed_of h1
  refine ⟨k1, k2, k3, g2, h2, hb.wide20, fun p hp => ⟨g3 p hp, ?_⟩⟩
  have := h3 p hp
  unfold pieceS regionS at this
  simp only [Bool.and_eq_true] at this
  exact (shapeM_spec this.1.1.1).2.2.2
def inM (k : Int) (n : Nat) : Bool := decide (k ≥ 0) && decide (k ≤ (n : Int) - 1)
def pofS (r : Shape) (l : List PieceM) (k : Int) : List (Int × List Int) × Int := if puzzleS r l then (if inM k l.length then (listB r k (formsP (l.getD k.toNat pc0)), 0) else ([], 2)) else ([], 1)
def pofI (r : Shape) (l : List PieceM) (k : Int) : List (Int × List Int) × Int := if puzzleI r l then (if inM k l.length then (orderP (listA r k (formsI (l.getD k.toNat pc0))), 0) else ([], 2)) else ([], 1)
theorem places_nil : places [] = [] := rfl
theorem ownX_kt {z : AV} {a : AV} {H : Heap} {S : List Nat} {k : IntKind} {n : Int} (h : ownX H z a S) : ownX H (.tup [z, .i k n]) (.tup [a, .i k n]) S := by
  have := ownX_mkT h (ownX_mki (H := H) (k := k) (n := n))
  rwa [List.append_nil] at this
end Go.Proofs
end
section
open Go Go.Big
namespace Go.Proofs
set_option maxHeartbeats 2000000
def sortsI4 : Gv := SortI 151
/-- All sorts that are given, that of numbers too. -/
structure AllH (G : Gv) : Prop extends AllG G where
  c5 : ∀ f args H n r H' n', sortsI4 f args H n r H' n' → G f args H n r H' n'
def turnX (ns s : List Int) : List Int := s.map fun i => ns.getD i.toNat 0
theorem turnX_len (ns s : List Int) : (turnX ns s).length = s.length := by simp [turnX]
theorem turnX_take {ns s : List Int} {i : Nat} {x : Int} (h : s[i]? = some x) : turnX ns (s.take (i + 1)) = turnX ns (s.take i) ++ [ns.getD x.toNat 0] := by
  unfold turnX; rw [take_map _ h]
theorem ints_app1 (a : List Int) (x : Int) : ints a ++ [[.i .i64 x]] = ints (a ++ [x]) := by simp [ints]
end Go.Proofs
end
section
open Go Go.Big
namespace Go.Proofs
set_option maxHeartbeats 2000000
def turnPM (puz : Bool) (pl : Int → List Int → Bool) (tn : List Int × Int) (j : Int) (t : List Int) : (Int × List Int) × Int :=
  if puz then (if pl j t then (if tn.2 = 0 then (if pl j (sortedB (turnX tn.1 t)) then ((j, sortedB (turnX tn.1 t)), 0) else ((0, []), 4)) else ((0, []), tn.2)) else ((0, []), 2)) else ((0, []), 1)
def turnPS (r : Shape) (l : List PieceM) (j : Int) (t : List Int) (k : Int) := turnPM (puzzleS r l) (placeS r l) (tnM (regionS r) r k) j t
def turnPI (r : Shape) (l : List PieceM) (j : Int) (t : List Int) (k : Int) := turnPM (puzzleI r l) (placeI r l) (tnM (regionM r) r k) j t
theorem numsM_facts {r : Shape} {t : Nat} {s : List Int} (h : numsM r t = some s) : s.length = r.length ∧ ∀ i ∈ s, 0 ≤ i ∧ i < r.length := by
  obtain ⟨_, _, h1, h2⟩ := setM_some h
  exact ⟨by rw [h1, normM_len, turnL_length], h2⟩
theorem tnM_facts {b : Bool} {r : Shape} {k : Int} (h : (tnM b r k).2 = 0) : (tnM b r k).1.length = r.length ∧ ∀ i ∈ (tnM b r k).1, 0 ≤ i ∧ i < r.length := by
  unfold tnM at *
  cases b with
  | false => simp at h
  | true =>
    simp only [if_true] at *
    cases c : tnM.inT k with
    | false => rw [c] at h; simp at h
    | true =>
      rw [c] at h
      simp only [if_true] at *
      cases q : numsM r k.toNat with
      | none => rw [q] at h; simp at h
      | some s => exact numsM_facts q
theorem place_cells {r : Shape} {l : List PieceM} {j : Int} {t : List Int} (h : placeS r l j t = true) : 0 < t.length ∧ ∀ i ∈ t, 0 ≤ i ∧ i < r.length := by
  unfold placeS at h
  simp only [Bool.and_eq_true, decide_eq_true_eq] at h
  obtain ⟨⟨⟨_, h2⟩, h3⟩, _⟩ := h
  exact ⟨by omega, fun i hi => by have := inc_mem h3 i hi; omega⟩
theorem placeI_cells {r : Shape} {l : List PieceM} {j : Int} {t : List Int} (h : placeI r l j t = true) : 0 < t.length ∧ ∀ i ∈ t, 0 ≤ i ∧ i < r.length := by
  unfold placeI at h
  simp only [Bool.and_eq_true, decide_eq_true_eq] at h
  obtain ⟨⟨⟨_, h2⟩, h3⟩, _⟩ := h
  exact ⟨by omega, fun i hi => by have := inc_mem h3 i hi; omega⟩
end Go.Proofs
end
section
open Go Go.Big
namespace Go.Proofs
set_option maxHeartbeats 2000000
/-- A function value that asks one question of an element, and leaves old objects as they are. -/
def AsksIn (G : Gv) (f : FuncId) (caps : List AV) (H0 : Heap) (n0 tg : Nat) (p : Int → Bool) (ls : List Int) : Prop :=
  ∀ x ∈ ls, ∀ (H : Heap) (n : Nat), n0 ≤ n → (∀ k, k < n0 → H k = H0 k) → WC Tryz.prog G f ((.i .i64 x) :: caps) H n (fun r H' n' => r = .b (p x) ∧ n ≤ n' ∧ ∀ k, k < n0 → H' k = H0 k)
def findIn (p : Int → Bool) (ls : List Int) : Int := match (List.range ls.length).find? (fun i => p (ls.getD i 0)) with
  | some i => i
  | none => -1
theorem indexFuncIn_fn (G : Gv) (f : FuncId) (caps : List AV) (H0 : Heap) (n0 tg : Nat) (p : Int → Bool) (ls : List Int) (hp : AsksIn G f caps H0 n0 tg p ls) (hff : (Tryz.prog.funcs[f]?).any (fun fn => fn.body.isSome && (fn.name != "runtime.NumGoroutine")) = true) (hls : ls.length < 1000000000)
    (H : Heap) (n : Nat) (hn : n0 ≤ n) (hH : ∀ k, k < n0 → H k = H0 k) :
    WC Tryz.prog G 203 [.sl tg (ints ls), .fn f caps] H n (fun r H' n' => r = .i .i64 (findIn p ls) ∧ n ≤ n' ∧ ∀ k, k < n0 → H' k = H0 k) := by
  refine (.body Tryz.func203 rfl (by simp [Tryz.ntmps203]) ?_)
  rw [Tryz.ntmps203, Tryz.results203]
  have hlen := ints_len ls
  replace hH := Hid.mk hH
  replace hp := Hid.mk hp
  refine AL ?_
  refine .loop (.inv (fun d E H n' => ∃ i : Nat, i + d = ls.length ∧ n ≤ n' ∧ E 0 = .sl tg (ints ls) ∧ E 1 = .fn f caps ∧ E 7 = .i .i64 ls.length ∧ E 8 = .i .i64 i ∧ (∀ k, k < n0 → H k = H0 k) ∧ (∀ j, j < i → p (ls.getD j 0) = false)) ls.length ?_ ?_)
  · exact ⟨0, by omega, by omega, by simp [setF_if, argE], by simp [setF_if, argE], by simp [setF_if, argE, hlen], by simp [setF_if, argE], hH.out, fun j hj => by omega⟩
  clear hH
  rintro d E H n' ⟨i, hi, hnn, h0, h1, h7, h8, hH, hall⟩
  replace hH := Hid.mk hH
  replace hall := Hid.mk hall
  by_cases c : (i : Int) < ls.length
  · have hw_i : IntKind.i64.wrap ((i : Int) + 1) = (i : Int) + 1 := wr64 (by omega) (by omega)
    have hr := ints_at (l := ls) (i := i) (by omega)
    have hmem : ls.getD i 0 ∈ ls := by rw [List.getD_eq_getElem?_getD, List.getElem?_eq_getElem (by omega)]; exact List.getElem_mem _
    have hyes : p (ls.getD i 0) = true → findIn p ls = i := fun h => by
      unfold findIn; rw [find_yes (p := fun i => p (ls.getD i 0)) (i := i) (by omega) h (fun j hj => hall.out j hj)]
    have hmore : p (ls.getD i 0) = false → ∀ j, j < i + 1 → p (ls.getD j 0) = false := fun h j hj => by
      by_cases q : j = i
      · rw [q]; exact h
      · exact hall.out j (by omega)
    replace hyes := Hid.mk hyes
    replace hmore := Hid.mk hmore
    replace hmem := Hid.mk hmem
    generalize ls.getD i 0 = x at hr hmem hyes hmore
    refine AL ?_
    refine CI (hf := hff) ?_
    refine (hp.out x hmem.out _ _ (by omega) hH.out).mono ?_
    rintro r H2 n2 ⟨rfl, hn2, hH2⟩
    replace hH2 := Hid.mk hH2
    cases cq : p x with
    | true =>
      refine AL ?_
      exact ⟨by simp [retA, setF_if, hyes.out cq], by omega, hH2.out⟩
    | false =>
      refine AL ?_
      exact ⟨ls.length - (i + 1), by omega, i + 1, by omega, by omega, by simp [setF_if, *], by simp [setF_if, *], by simp [setF_if, *], by simp [setF_if, *], hH2.out, hmore.out cq⟩
  · refine AL ?_
    have : findIn p ls = -1 := by
      unfold findIn; rw [find_no (p := fun i => p (ls.getD i 0)) (fun j hj => hall.out j (by omega))]
    exact ⟨by simp [retA, setF_if, this], by omega, hH.out⟩
theorem findIn_any (p : Int → Bool) (ls : List Int) : decide (findIn p ls ≥ 0) = ls.any p := by
  unfold findIn
  cases h : (List.range ls.length).find? (fun i => p (ls.getD i 0)) with
  | none =>
    rw [List.find?_range_eq_none] at h
    have : ls.any p = false := by
      rw [List.any_eq_false]
      intro x hx
      obtain ⟨i, hi, e⟩ := List.mem_iff_getElem.mp hx
      have := h i hi
      rw [← e]
      simpa [List.getD_eq_getElem?_getD, hi] using this
    rw [this]; rfl
  | some i =>
    have h1 := List.find?_some h
    have h2 := List.mem_range.mp (List.mem_of_find?_eq_some h)
    simp only [decide_eq_true_eq] at *
    have h3 : ls.any p = true := List.any_eq_true.mpr ⟨ls[i], List.getElem_mem _, by simpa [List.getD_eq_getElem?_getD, h2] using h1⟩
    rw [h3]; simp
theorem containsFuncIn_fn (G : Gv) (f : FuncId) (caps : List AV) (H0 : Heap) (n0 tg : Nat) (p : Int → Bool) (ls : List Int) (hp : AsksIn G f caps H0 n0 tg p ls) (hff : (Tryz.prog.funcs[f]?).any (fun fn => fn.body.isSome && (fn.name != "runtime.NumGoroutine")) = true) (hls : ls.length < 1000000000)
    (H : Heap) (n : Nat) (hn : n0 ≤ n) (hH : ∀ k, k < n0 → H k = H0 k) :
    WC Tryz.prog G 148 [.sl tg (ints ls), .fn f caps] H n (fun r H' n' => r = .b (ls.any p) ∧ n ≤ n' ∧ ∀ k, k < n0 → H' k = H0 k) := by
  refine (.body Tryz.func148 rfl (by simp [Tryz.ntmps148]) ?_)
  rw [Tryz.ntmps148, Tryz.results148]
  replace hH := Hid.mk hH
  replace hp := Hid.mk hp
  refine AL ?_
  refine CI ?_
  refine (indexFuncIn_fn G f caps H0 n0 tg p ls hp.out hff hls _ _ (by omega) hH.out).mono ?_
  rintro r H2 n2 ⟨rfl, hn2, hH2⟩
  replace hH2 := Hid.mk hH2
  have ha := findIn_any p ls
  refine AL ?_
  exact ⟨by simp [retA, setF_if, ha], by omega, hH2.out⟩
end Go.Proofs
end
section
open Go Go.Big
namespace Go.Proofs
set_option maxHeartbeats 2000000
/-- A function value that asks one question of an element, and leaves all objects as they are. -/
def AskOIn (G : Gv) (f : FuncId) (caps : List AV) (H0 : Heap) (n0 o : Nat) (p : Int → Bool) (ls : List Int) : Prop :=
  ∀ x ∈ ls, ∀ (H : Heap) (n : Nat), n0 ≤ n → (∀ k, k < n0 → k ≠ o → H k = H0 k) → WC Tryz.prog G f ((.i .i64 x) :: caps) H n (fun r H' n' => r = .b (p x) ∧ n ≤ n' ∧ ∀ k, k < n → H' k = H k)
theorem indexFuncIn_own (G : Gv) (f : FuncId) (caps : List AV) (H0 : Heap) (n0 o e t : Nat) (T : TypeId) (p : Int → Bool) (ls : List Int) (hp : AskOIn G f caps H0 n0 o p ls) (hff : (Tryz.prog.funcs[f]?).any (fun fn => fn.body.isSome && (fn.name != "runtime.NumGoroutine")) = true) (hls : ls.length < 1000000000) (ho : o < n0) (hH0 : H0 o = some (.arr e T 1 (ints ls) t))
    (H : Heap) (n : Nat) (hn : n0 ≤ n) (hH : ∀ k, k < n0 → H k = H0 k) :
    WC Tryz.prog G 203 [.own o e, .fn f caps] H n (fun r H' n' => r = .i .i64 (findIn p ls) ∧ n ≤ n' ∧ ∀ k, k < n0 → H' k = H0 k) := by
  refine (.body Tryz.func203 rfl (by simp [Tryz.ntmps203]) ?_)
  rw [Tryz.ntmps203, Tryz.results203]
  have hlen := ints_len ls
  have hHo : H o = some (.arr e T 1 (ints ls) t) := (hH o ho).trans hH0
  replace hH := Hid.mk hH
  replace hp := Hid.mk hp
  refine AL ?_
  refine .loop (.inv (fun d E H n' => ∃ i : Nat, i + d = ls.length ∧ n ≤ n' ∧ E 0 = .own o e ∧ E 1 = .fn f caps ∧ E 7 = .i .i64 ls.length ∧ E 8 = .i .i64 i ∧ (∀ k, k < n0 → H k = H0 k) ∧ (∀ j, j < i → p (ls.getD j 0) = false)) ls.length ?_ ?_)
  · exact ⟨0, by omega, by omega, by simp [setF_if, argE], by simp [setF_if, argE], by simp [setF_if, argE, hlen], by simp [setF_if, argE], hH.out, fun j hj => by omega⟩
  clear hH hHo
  rintro d E H n' ⟨i, hi, hnn, h0, h1, h7, h8, hH, hall⟩
  have hHo : H o = some (.arr e T 1 (ints ls) t) := (hH o ho).trans hH0
  replace hH := Hid.mk hH
  replace hall := Hid.mk hall
  by_cases c : (i : Int) < ls.length
  · have hw_i : IntKind.i64.wrap ((i : Int) + 1) = (i : Int) + 1 := wr64 (by omega) (by omega)
    have cN : i < ls.length := by omega
    have hr := ints_row (l := ls) (i := i) (x := ls.getD i 0) (by simp [List.getD_eq_getElem?_getD, show i < ls.length by omega])
    have hmem : ls.getD i 0 ∈ ls := by rw [List.getD_eq_getElem?_getD, List.getElem?_eq_getElem (by omega)]; exact List.getElem_mem _
    have hyes : p (ls.getD i 0) = true → findIn p ls = i := fun h => by
      unfold findIn; rw [find_yes (p := fun i => p (ls.getD i 0)) (i := i) (by omega) h (fun j hj => hall.out j hj)]
    have hmore : p (ls.getD i 0) = false → ∀ j, j < i + 1 → p (ls.getD j 0) = false := fun h j hj => by
      by_cases q : j = i
      · rw [q]; exact h
      · exact hall.out j (by omega)
    replace hyes := Hid.mk hyes
    replace hmore := Hid.mk hmore
    replace hmem := Hid.mk hmem
    generalize ls.getD i 0 = x at hr hmem hyes hmore
    refine AL ?_
    refine CI (hf := hff) ?_
    refine (hp.out x hmem.out _ _ (by omega) (fun k hk _ => hH.out k hk)).mono ?_
    rintro r H2 n2 ⟨rfl, hn2, hH2⟩
    have hH3 : ∀ k, k < n0 → H2 k = H0 k := fun k hk => (hH2 k (by omega)).trans (hH.out k hk)
    clear hH2 hHo
    replace hH3 := Hid.mk hH3
    cases cq : p x with
    | true =>
      refine AL ?_
      exact ⟨by simp [retA, setF_if, hyes.out cq], by omega, hH3.out⟩
    | false =>
      refine AL ?_
      exact ⟨ls.length - (i + 1), by omega, i + 1, by omega, by omega, by simp [setF_if, *], by simp [setF_if, *], by simp [setF_if, *], by simp [setF_if, *], hH3.out, hmore.out cq⟩
  · refine AL ?_
    have : findIn p ls = -1 := by
      unfold findIn; rw [find_no (p := fun i => p (ls.getD i 0)) (fun j hj => hall.out j (by omega))]
    exact ⟨by simp [retA, setF_if, this], by omega, hH.out⟩
end Go.Proofs
end
section
open Go Go.Big
namespace Go.Proofs
set_option maxHeartbeats 2000000
def areaF (l : List PieceM) : Int := l.foldl (fun n p => IntKind.i64.wrap (n + IntKind.i64.wrap (p.k * p.cs.length))) 0
theorem areaF_take {l : List PieceM} {i : Nat} {p : PieceM} (h : l[i]? = some p) : areaF (l.take (i + 1)) = IntKind.i64.wrap (areaF (l.take i) + IntKind.i64.wrap (p.k * p.cs.length)) := by
  obtain ⟨hi, rfl⟩ := List.getElem?_eq_some_iff.mp h
  unfold areaF
  rw [List.take_succ_eq_append_getElem hi, List.foldl_append]; rfl
theorem pieceArea_fn (G : Gv) (r : List (Int × Int)) (l : List PieceM) (hl : l.length < 1000000000) : Gives Tryz.prog G 141 [.ag [.sl 0 (cells r), .sl 0 (pieces l)]] (.i .i64 (areaF l)) := by
  refine .of (.body Tryz.func141 rfl (by simp [Tryz.ntmps141]) ?_)
  rw [Tryz.ntmps141, Tryz.results141]
  have hlen := pieces_len l
  refine AL ?_
  refine .loop (.inv (fun d E H n' => ∃ i : Nat, i + d = l.length ∧ E 3 = .i .i64 (areaF (l.take i)) ∧ E 7 = .sl 0 (pieces l) ∧ E 8 = .i .i64 l.length ∧ E 9 = .i .i64 i) l.length ?_ ?_)
  · exact ⟨0, by omega, by simp [setF_if, argE, areaF], by simp [setF_if, argE], by simp [setF_if, argE, hlen], by simp [setF_if, argE]⟩
  rintro d E H n' ⟨i, hi, h3, h7, h8, h9⟩
  by_cases c : (i : Int) < l.length
  · have hw_i : IntKind.i64.wrap ((i : Int) + 1) = (i : Int) + 1 := wr64 (by omega) (by omega)
    obtain ⟨p, hp⟩ : ∃ p, l[i]? = some p := ⟨_, List.getElem?_eq_getElem (by omega)⟩
    have hr := pieces_at hp
    have ha := areaF_take hp
    have hcl := cells_len p.cs
    replace ha := Hid.mk ha
    replace hp := Hid.mk hp
    refine AL ?_
    exact ⟨l.length - (i + 1), by omega, i + 1, by omega, by simp [setF_if, *, ha.out], by simp [setF_if, *], by simp [setF_if, *], by simp [setF_if, *]⟩
  · have e : i = l.length := by omega
    rw [e, List.take_length] at h3
    refine AL ?_
    simp [retA, backA, *]
theorem l11Area_fn (G : Gv) (r : List (Int × Int)) (l : List PieceM) (hl : l.length < 1000000000) : Gives Tryz.prog G 137 [.ag [.sl 0 (cells r), .sl 0 (pieces l)]] (.i .i64 (areaF l)) := by
  refine .of (.body Tryz.func137 rfl (by simp [Tryz.ntmps137]) ?_)
  rw [Tryz.ntmps137, Tryz.results137]
  have hlen := pieces_len l
  refine AL ?_
  refine .loop (.inv (fun d E H n' => ∃ i : Nat, i + d = l.length ∧ 0 < n' ∧ E 1 = .ptr 0 0 0 0 ∧ E 3 = .i .i64 (areaF (l.take i)) ∧ E 4 = .i .i64 i ∧ H 0 = some (.box 35 [.sl 0 (cells r), .sl 0 (pieces l)])) l.length ?_ ?_)
  · exact ⟨0, by omega, by omega, by simp [setF_if, argE], by simp [setF_if, argE, areaF], by simp [setF_if, argE], by simp [upd_if]⟩
  rintro d E H n' ⟨i, hi, hn, h1, h3, h4, hH⟩
  by_cases c : (i : Int) < l.length
  · have hw_i : IntKind.i64.wrap ((i : Int) + 1) = (i : Int) + 1 := wr64 (by omega) (by omega)
    obtain ⟨p, hp⟩ : ∃ p, l[i]? = some p := ⟨_, List.getElem?_eq_getElem (by omega)⟩
    have hr := pieces_at hp
    have ha := areaF_take hp
    have hcl := cells_len p.cs
    replace ha := Hid.mk ha
    replace hp := Hid.mk hp
    refine AL ?_
    exact ⟨l.length - (i + 1), by omega, i + 1, by omega, by omega, by simp [setF_if, *], by simp [setF_if, *, ha.out], by simp [setF_if, *], by simp [upd_if, *]⟩
  · have e : i = l.length := by omega
    rw [e, List.take_length] at h3
    refine AL ?_
    simp [retA, backA, *]
def fitsI (r : List (Int × Int)) (l : List PieceM) : Bool := puzzleI r l && areaF l == r.length
def fitsS (r : List (Int × Int)) (l : List PieceM) : Bool := puzzleS r l && areaF l == r.length
theorem implDoesFit_fn (G : Gv) (hG : ∀ f args H n r H' n', sortsG f args H n r H' n' → G f args H n r H' n') (hG1 : ∀ f args H n r H' n', sortsG1 f args H n r H' n' → G f args H n r H' n') (r : List (Int × Int)) (l : List PieceM) (hr : r.length < 1000000000) (hl : l.length < 1000000000) (hc : ∀ p ∈ l, p.cs.length < 1000000000) : Gives Tryz.prog G 74 [.ag [.sl 0 (cells r), .sl 0 (pieces l)]] (.b (fitsI r l)) := by
  refine .of (.body Tryz.func74 rfl (by simp [Tryz.ntmps74]) ?_)
  rw [Tryz.ntmps74, Tryz.results74]
  have hlen := cells_len r
  replace hG := Hid.mk hG
  replace hG1 := Hid.mk hG1
  replace hc := Hid.mk hc
  refine AL ?_
  refine CQ (implIsPuzzle_fn G hG.out hG1.out r l hr hl hc.out) ?_
  by_cases c : puzzleI r l = true
  · refine AL ?_
    refine CQ (pieceArea_fn G r l hl) ?_
    refine AL ?_
    simp [retA, backA, fitsI, *]
  · refine AL ?_
    simp [retA, backA, fitsI, *]
theorem specDoesFit_fn (G : Gv) (r : List (Int × Int)) (l : List PieceM) (hr : r.length < 1000000000) (hl : l.length < 1000000000) (hc : ∀ p ∈ l, p.cs.length < 1000000000) : Gives Tryz.prog G 70 [.ag [.sl 0 (cells r), .sl 0 (pieces l)]] (.b (fitsS r l)) := by
  refine .of (.body Tryz.func70 rfl (by simp [Tryz.ntmps70]) ?_)
  rw [Tryz.ntmps70, Tryz.results70]
  have hlen := cells_len r
  replace hc := Hid.mk hc
  refine AL ?_
  refine CQ (specIsPuzzle_fn G r l hr hl hc.out) ?_
  by_cases c : puzzleS r l = true
  · refine AL ?_
    refine CQ (l11Area_fn G r l hl) ?_
    refine AL ?_
    simp [retA, backA, fitsS, *]
  · refine AL ?_
    simp [retA, backA, fitsS, *]
end Go.Proofs
end
