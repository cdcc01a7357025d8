/- Walks: LeastSolution: both programs' functions. Condition: the given contracts hold. | Numbers written into puzzles and placements; held in them. No condition. | Placements whose numbers are still those that were written. No condition. | The statement's law: it answers true if the two agree. No condition. -/
import Derived.Test.YtdbkkjoejomcmaaGreatBO
import Derived.Test.YtdbkkjoejomcmaaGreatWk14
import Derived.Test.YtdbkkjoejomcmaaGreatBC
import Derived.Test.YtdbkkjoejomcmaaGreatWk6
set_option linter.unusedVariables false
set_option linter.unusedSimpArgs false
section
open Go Go.Big
namespace Go.Proofs
set_option maxHeartbeats 2000000
theorem l01Own_fn (G : Gv) (xs : List Int) (hx : xs.length < 1000000000) : Gives Tryz.prog G 163 [.sl 0 (ints xs)] (.sl 1 (ints xs)) := by
  refine .of (.body Tryz.func163 rfl (by simp [Tryz.ntmps163]) ?_)
  rw [Tryz.ntmps163, Tryz.results163]
  have hlen := ints_len xs
  have hb : (0 + xs.length) * 8 ≤ 140737488355328 := by omega
  have hb2 : xs.length * 8 ≤ 140737488355328 := by omega
  have hrs : (∀ (r : List PV), r ∈ ints xs → r.length = 1) = True := by
    simp only [eq_iff_iff, iff_true]
    intro r hr
    obtain ⟨y, _, rfl⟩ := List.mem_map.mp hr
    rfl
  have hnb : newB 0 (ints xs) := .inr (ints_scal xs)
  refine AL ?_
  simp [retA, backA, newSl, setF_if, upd_if, hnb]
theorem l15Own_fn (G : Gv) (s : List (Int × List Int)) (hs : s.length < 1000000000) (hsc : ∀ x ∈ s, x.2.length < 1000000000) : Gives Tryz.prog G 170 [.sl 0 (places s)] (.sl 1 (places s)) := by
  refine .of (.body Tryz.func170 rfl (by simp [Tryz.ntmps170]) ?_)
  rw [Tryz.ntmps170, Tryz.results170]
  have hlen := places_len s
  replace hsc := Hid.mk hsc
  refine AL ?_
  refine .loop (.inv (fun d E H n' => ∃ (i e : Nat), i + d = s.length ∧ 1 < n' ∧ E 0 = .sl 0 (places s) ∧ E 3 = .own 1 e ∧ E 4 = .i .i64 i ∧ H 1 = some (.arr e 55 2 (places (s.take i)) 1)) s.length ?_ ?_)
  · exact ⟨0, 0, by omega, by omega, by simp [setF_if, argE], by simp [setF_if, argE], by simp [setF_if, argE], by simp [upd_if, places]⟩
  rintro d E H n' ⟨i, e, hi, hn, e0, e3, e4, hH⟩
  by_cases c : (i : Int) < s.length
  · have hw_i : IntKind.i64.wrap ((i : Int) + 1) = (i : Int) + 1 := wr64 (by omega) (by omega)
    obtain ⟨x, hx⟩ : ∃ x, s[i]? = some x := ⟨_, List.getElem?_eq_getElem (by omega)⟩
    have hro := places_at hx
    have hown := l01Own_fn G x.2 (hsc.out x (List.mem_of_getElem? hx))
    have htk : places (s.take i) ++ [[.i .i64 x.1, .sl (ints x.2)]] = places (s.take (i + 1)) := by
      rw [List.take_add_one, hx]; simp [places]
    have hrl : (places (s.take i)).length = i := by rw [places_len, List.length_take]; omega
    have hb : (i + 1) * 32 ≤ 140737488355328 := by omega
    obtain ⟨xk, xs⟩ := x
    simp only at hown htk
    have hq2 : ∀ j, (1 = n' + j) = False := fun j => by simp; omega
    replace hx := Hid.mk hx
    replace hown := Hid.mk hown
    refine AX ?_
    refine DMF [] [15, 16, 17, 20, 21, 22] 0 ?_
    refine AX ?_
    refine OSQ ?_ (hs := by
      intro Hx hx
      exact EV)
    refine OSQ ?_ (hs := by
      intro Hx hx
      exact EV)
    refine OSQ ?_ (hs := by
      intro Hx hx
      exact EV)
    refine AX ?_
    refine OSQ ?_ (hs := by
      intro Hx hx
      exact EV)
    refine OSQ ?_ (hs := by
      intro Hx hx
      exact EV)
    refine OSQ ?_ (hs := by
      intro Hx hx
      exact EV)
    refine CM hown.out ?_
    refine AX ?_
    exact ⟨s.length - (i + 1), by omega, i + 1, e + 1, by omega, by omega, by simp [setF_if, *], by simp [setF_if, *], by simp [setF_if, *], by simp [upd_if, joinT, *]⟩
  · have ei : i = s.length := by omega
    rw [ei, List.take_length] at hH
    have hnb : newB 1 (places s) := .inl (by decide)
    refine AL ?_
    simp [retA, backA, newSl, setF_if, *]
def stepQ (F : Int → List (Int × List Int)) (b : List (Int × List Int)) (x : Int) : List (Int × List Int) := if cmpQ (F x) b < 0 then F x else b
def leastQ (F : Int → List (Int × List Int)) (b : List (Int × List Int)) (Y : List Int) : List (Int × List Int) := Y.foldl (stepQ F) b
theorem leastQ_take {F : Int → List (Int × List Int)} {b : List (Int × List Int)} {Y : List Int} {i : Nat} {x : Int} (h : Y[i]? = some x) : leastQ F b (Y.take (i + 1)) = stepQ F (leastQ F b (Y.take i)) x := by
  obtain ⟨hi, rfl⟩ := List.getElem?_eq_some_iff.mp h
  unfold leastQ
  rw [List.take_succ_eq_append_getElem hi, List.foldl_append]; rfl
theorem l16Least_fn (G : Gv) (r : Shape) (l : List PieceM) (s : List (Int × List Int)) (F : Int → List (Int × List Int)) (Y : List Int) (hs : s.length < 1000000000) (hsc : ∀ x ∈ s, x.2.length < 1000000000) (hY : Y.length ≤ 8)
    (hsy : Gives Tryz.prog G 93 [.ag [.sl 0 (cells r), .sl 0 (pieces l)]] (.sl 1 (ints Y)))
    (hT : ∀ k ∈ Y, Gives Tryz.prog G 106 [.ag [.sl 0 (cells r), .sl 0 (pieces l)], .sl 0 (places s), .i .i64 k] (.sl 1 (places (F k))))
    (hF : ∀ k ∈ Y, (F k).length = s.length ∧ ∀ x ∈ F k, x.2.length < 1000000000) :
    Gives Tryz.prog G 113 [.ag [.sl 0 (cells r), .sl 0 (pieces l)], .sl 0 (places s)] (.sl 1 (places (leastQ F s Y))) := by
  refine .of (.body Tryz.func113 rfl (by simp [Tryz.ntmps113]) ?_)
  rw [Tryz.ntmps113, Tryz.results113]
  have hYn := ints_len Y
  have ho := l15Own_fn G s hs hsc
  replace ho := Hid.mk ho
  replace hsc := Hid.mk hsc
  replace hsy := Hid.mk hsy
  replace hT := Hid.mk hT
  replace hF := Hid.mk hF
  refine AL ?_
  refine CV ho.out ?_
  refine AL ?_
  refine CV hsy.out ?_
  refine AL ?_
  refine .loop (.inv (fun d E H n' => ∃ (i : Nat) (b : List (Int × List Int)), i + d = Y.length ∧ 0 < n' ∧ E 1 = .sl 0 (places s) ∧ E 2 = .ptr 0 0 0 0 ∧ E 5 = .sl 1 (places b) ∧ E 6 = .sl 1 (ints Y) ∧ E 7 = .i .i64 i ∧ H 0 = some (.box 35 [.sl 0 (cells r), .sl 0 (pieces l)]) ∧ b = leastQ F s (Y.take i) ∧ b.length = s.length ∧ ∀ x ∈ b, x.2.length < 1000000000) Y.length ?_ ?_)
  · exact ⟨0, s, by omega, by omega, by simp [setF_if, argE], by simp [setF_if, argE], by simp [setF_if, argE], by simp [setF_if, argE], by simp [setF_if, argE], by simp [upd_if], rfl, rfl, hsc.out⟩
  rintro d E H n' ⟨i, b, hi, hn, e1, e2, e5, e6, e7, hH, hb, hbl, hbc⟩
  replace hb := Hid.mk hb
  replace hbc := Hid.mk hbc
  by_cases c : (i : Int) < Y.length
  · have hw_i : IntKind.i64.wrap ((i : Int) + 1) = (i : Int) + 1 := wr64 (by omega) (by omega)
    obtain ⟨x, hx⟩ : ∃ x, Y[i]? = some x := ⟨_, List.getElem?_eq_getElem (by omega)⟩
    have hro := ints_row hx
    have hTx := hT.out x (List.mem_of_getElem? hx)
    obtain ⟨f1, f2⟩ := hF.out x (List.mem_of_getElem? hx)
    have hst := leastQ_take (F := F) (b := s) hx
    rw [← hb.out] at hst
    unfold stepQ at hst
    have hcm := l16Compare_fn G (F x) b (by omega) f2 hbc.out (by omega)
    replace hx := Hid.mk hx
    generalize F x = fx at hTx f1 f2 hst hcm
    generalize cmpQ fx b = v at hst hcm
    replace f2 := Hid.mk f2
    replace hTx := Hid.mk hTx
    replace hcm := Hid.mk hcm
    replace hst := Hid.mk hst
    refine AL ?_
    refine CQ hTx.out ?_
    refine AL ?_
    refine CV hcm.out ?_
    by_cases cv : v < 0
    · have hst2 := hst.out
      rw [if_pos cv] at hst2
      replace hst2 := Hid.mk hst2
      refine AL ?_
      exact ⟨Y.length - (i + 1), by omega, i + 1, fx, by omega, by omega, by simp [setF_if, *], by simp [setF_if, *], by simp [setF_if, *], by simp [setF_if, *], by simp [setF_if, *], hH, hst2.out.symm, f1, f2.out⟩
    · have hst2 := hst.out
      rw [if_neg cv] at hst2
      replace hst2 := Hid.mk hst2
      refine AL ?_
      exact ⟨Y.length - (i + 1), by omega, i + 1, b, by omega, by omega, by simp [setF_if, *], by simp [setF_if, *], by simp [setF_if, *], by simp [setF_if, *], by simp [setF_if, *], hH, hst2.out.symm, hbl, hbc.out⟩
  · have ei : i = Y.length := by omega
    have hb2 := hb.out
    rw [ei, List.take_length] at hb2
    replace hb2 := Hid.mk hb2
    refine AL ?_
    simp [retA, backA, newSl, setF_if, e5, hb2.out]
def minQ : List (List (Int × List Int)) → List (Int × List Int)
  | [] => []
  | a :: L => L.foldl (fun b x => if cmpQ x b < 0 then x else b) a
theorem minQ_take {L : List (List (Int × List Int))} {i : Nat} {x : List (Int × List Int)} (h0 : 0 < i) (h : L[i]? = some x) : minQ (L.take (i + 1)) = if cmpQ x (minQ (L.take i)) < 0 then x else minQ (L.take i) := by
  cases L with
  | nil => simp at h
  | cons a L =>
    obtain ⟨j, rfl⟩ : ∃ j, i = j + 1 := ⟨i - 1, by omega⟩
    rw [List.getElem?_cons_succ] at h
    obtain ⟨hj, rfl⟩ := List.getElem?_eq_some_iff.mp h
    simp only [List.take_succ_cons, minQ]
    rw [List.take_succ_eq_append_getElem hj, List.foldl_append]; rfl
theorem minFuncPl_wc (G : Gv) (L : List (List (Int × List Int))) (H : Heap) (n o e t B : Nat) (T : TypeId) (rows : List (List PV)) (ho : o < n) (hH : H o = some (.arr e T 1 rows t)) (hrl : rows.length = L.length) (h0 : 0 < L.length) (hB : B < 1000000000) (hLn : L.length < 1000000000)
    (hL : ∀ (i : Nat) (x : List (Int × List Int)), L[i]? = some x → x.length = B ∧ (∀ y ∈ x, y.2.length < 1000000000) ∧ ∃ oi ei, rows[i]? = some [PV.ob oi ei] ∧ giveA H (.own oi ei) = some (.sl 0 (places x))) :
    WC Tryz.prog G 114 [.own o e, .fn 110 []] H n (fun z H' n' => n ≤ n' ∧ H' = H ∧ ∃ (i oi ei : Nat), L[i]? = some (minQ L) ∧ rows[i]? = some [PV.ob oi ei] ∧ z = .own oi ei) := by
  refine (.body Tryz.func114 rfl (by simp [Tryz.ntmps114]) ?_)
  rw [Tryz.ntmps114, Tryz.results114]
  replace hL := Hid.mk hL
  obtain ⟨x0, hx0⟩ : ∃ x, L[0]? = some x := ⟨_, List.getElem?_eq_getElem h0⟩
  obtain ⟨_, _, o0, e0, hr0, hg0⟩ := hL.out 0 x0 hx0
  have hge : ¬ ((L.length : Int) < 1) := by omega
  have hm0 : minQ (L.take 1) = x0 := by
    cases L with
    | nil => simp at hx0
    | cons a L => simp at hx0; subst hx0; simp [minQ]
  replace hx0 := Hid.mk hx0
  replace hm0 := Hid.mk hm0
  refine AL ?_
  refine .loop (.inv (fun d E H2 n' => ∃ (i j oj ej : Nat), i + d = L.length ∧ 1 ≤ i ∧ n ≤ n' ∧ H2 = H ∧ E 0 = .own o e ∧ E 1 = .fn 110 [] ∧ E 5 = .own oj ej ∧ E 6 = .i .i64 i ∧ L[j]? = some (minQ (L.take i)) ∧ rows[j]? = some [PV.ob oj ej]) (L.length - 1) ?_ ?_)
  · exact ⟨1, 0, o0, e0, by omega, by omega, by omega, by first | rfl | trivial, by simp [setF_if, argE], by simp [setF_if, argE], by simp [setF_if, argE], by simp [setF_if, argE], by rw [hm0.out]; exact hx0.out, hr0⟩
  clear hr0 hg0 hge
  rintro d E H2 n' ⟨i, j, oj, ej, hi, hi1, hn, rfl, e0', e1, e5, e6, hj, hrj⟩
  replace hj := Hid.mk hj
  by_cases c : (i : Int) < L.length
  · have hw_i : IntKind.i64.wrap ((i : Int) + 1) = (i : Int) + 1 := wr64 (by omega) (by omega)
    obtain ⟨x, hx⟩ : ∃ x, L[i]? = some x := ⟨_, List.getElem?_eq_getElem (by omega)⟩
    obtain ⟨b1, b2, oi, ei, hri, hgi⟩ := hL.out i x hx
    obtain ⟨c1, c2, oj2, ej2, hrj2, hgj⟩ := hL.out j _ hj.out
    obtain ⟨rfl, rfl⟩ : oj = oj2 ∧ ej = ej2 := by
      rw [hrj] at hrj2
      simp only [Option.some.injEq, List.cons.injEq, PV.ob.injEq, and_true] at hrj2
      exact hrj2
    have cN : i < L.length := by omega
    have hst := minQ_take hi1 hx
    have hcm := compareLists_fn G x (minQ (L.take i)) (by omega) b2 c2 (by omega)
    generalize minQ (L.take i) = b at hj hgj hst hcm c1
    replace hx := Hid.mk hx
    replace hrj := Hid.mk hrj
    replace b2 := Hid.mk b2
    clear hrj2 c2
    generalize cmpQ x b = v at hst hcm
    replace hcm := Hid.mk hcm
    replace hst := Hid.mk hst
    refine AL ?_
    refine CV hcm.out ?_ (hg := by simp only [givesA, hgi, hgj])
    by_cases cv : v < 0
    · have hst2 := hst.out
      rw [if_pos cv] at hst2
      replace hst2 := Hid.mk hst2
      refine AL ?_
      exact ⟨L.length - (i + 1), by omega, i + 1, i, oi, ei, by omega, by omega, by omega, by first | rfl | trivial, by simp [setF_if, *], by simp [setF_if, *], by simp [setF_if, *], by simp [setF_if, *], by rw [hst2.out]; exact hx.out, hri⟩
    · have hst2 := hst.out
      rw [if_neg cv] at hst2
      replace hst2 := Hid.mk hst2
      refine AL ?_
      exact ⟨L.length - (i + 1), by omega, i + 1, j, oj, ej, by omega, by omega, by omega, by first | rfl | trivial, by simp [setF_if, *], by simp [setF_if, *], by simp [setF_if, *], by simp [setF_if, *], by rw [hst2.out]; exact hj.out, hrj.out⟩
  · have ei' : i = L.length := by omega
    have hj2 := hj.out
    rw [ei', List.take_length] at hj2
    replace hj2 := Hid.mk hj2
    refine AL ?_
    exact ⟨by omega, by first | rfl | trivial, j, oj, ej, hj2.out, hrj, by simp [retA, setF_if, e5]⟩
theorem solved_ne {r : Shape} {l : List PieceM} {s : List (Int × List Int)} (h : solvedS r l s = true) : 0 < s.length := by
  cases s with
  | cons x s => simp
  | nil =>
    exfalso
    have hf := (solved_facts h).1
    obtain ⟨_, _, _, g4, _⟩ := puzzle_facts (fits_puzzle hf)
    have hk := puzzle_k (fits_puzzle hf)
    unfold solvedS at h
    simp only [Bool.and_eq_true] at h
    have := List.all_eq_true.mp h.2 0 (List.mem_range.mpr (by simp only [leftM, copiesM, List.foldl_nil, List.length_map]; omega))
    unfold zeroAt leftM at this
    rw [List.foldl_nil, copies_at (by omega)] at this
    have h2 := hk (l.getD 0 pc0) (by rw [List.getD_eq_getElem?_getD, List.getElem?_eq_getElem (show 0 < l.length by omega)]; exact List.getElem_mem _)
    simp only [beq_iff_eq] at this
    omega
def lsolS (r : Shape) (l : List PieceM) (s : List (Int × List Int)) : List (Int × List Int) × Int := if codS r l s = 0 then (leastQ (fun k => l16T (nsM r k) s) s (symsS r l), 0) else ([], codS r l s)
def lsolI (r : Shape) (l : List PieceM) (s : List (Int × List Int)) : List (Int × List Int) × Int := if codI r l s = 0 then (minQ ((symsI r l).map fun k => orderP (s.map (turnPl (nsM r k)))), 0) else ([], codI r l s)
theorem specLeastSolution_fn (G : Gv) (r : Shape) (l : List PieceM) (s : List (Int × List Int)) (hr : r.length < 1000000000) (hl : l.length < 1000000000) (hpl : ∀ p ∈ l, p.cs.length < 1000000000) (hs : s.length < 1000000000) (hsc : ∀ x ∈ s, x.2.length < 1000000000) :
    Gives Tryz.prog G 57 [.ag [.sl 0 (cells r), .sl 0 (pieces l)], .sl 0 (places s)] (.tup [.sl 1 (places (lsolS r l s).1), .i .i64 (lsolS r l s).2]) := by
  refine .of (.body Tryz.func57 rfl (by simp [Tryz.ntmps57]) ?_)
  rw [Tryz.ntmps57, Tryz.results57]
  have hcod := l16Code_fn G r l s hr hl hpl hs hsc
  by_cases c : codS r l s = 0
  · have hsol := cod_zero c
    obtain ⟨hfit, hx, _⟩ := solved_facts hsol
    obtain ⟨g1, g8⟩ := fits_facts hfit
    have hsy := l16Symmetries_fn G r l g1 hr hl g8
    have hres : lsolS r l s = (leastQ (fun k => l16T (nsM r k) s) s (symsS r l), 0) := by unfold lsolS; rw [if_pos c]
    rw [hres]
    rw [c] at hcod
    have hL := l16Least_fn G r l s (fun k => l16T (nsM r k) s) (symsS r l) hs hsc (symsS_len r l) hsy (fun k h => by
      obtain ⟨t, e, _, hn⟩ := sym_mem h
      show Gives _ _ _ _ (.sl 1 (places (l16T (nsM r k) s)))
      rw [e] at hn ⊢
      exact l16Turn_fn G r l s t _ hn g1 hr hs (fun x hx' => ⟨hsc x hx', (hx x hx').2⟩)) (fun k _ => ⟨l16T_len _ _, l16T_cells hsc⟩)
    generalize leastQ (fun k => l16T (nsM r k) s) s (symsS r l) = OUT at hL
    clear hres c hsol hfit hx g1 g8 hpl hsc hsy
    replace hcod := Hid.mk hcod
    replace hL := Hid.mk hL
    refine AL ?_
    refine CV hcod.out ?_
    refine AL ?_
    refine CV hL.out ?_
    refine AL ?_
    simp [retA, backA, backsA, newSl]
  · have hres : lsolS r l s = ([], codS r l s) := by unfold lsolS; rw [if_neg c]
    rw [hres]
    have c3 : (codS r l s != 0) = true := by simpa using c
    generalize codS r l s = cd at hcod c c3
    clear hres hpl hsc
    replace hcod := Hid.mk hcod
    refine AL ?_
    refine CV hcod.out ?_
    refine AL ?_
    simp [retA, backA, backsA, places_nil]
theorem ownA_own {H : Heap} {x : AV} {q : List (List PV)} {S : List Nat} (h : ownA H x q S) : (∃ o e ty sz rows t, x = .own o e ∧ H o = some (.arr e ty sz rows t) ∧ o ∈ S) ∨ q = [] := by
  rcases h with ⟨o, e, ty, sz, rows, t, S', rfl, h1, rfl, _⟩ | ⟨_, h, _⟩
  · exact .inl ⟨o, e, ty, sz, rows, t, rfl, h1, List.mem_cons_self⟩
  · exact .inr h
def heldQ (H : Heap) (nn : Nat) (F : Int → List (Int × List Int)) (Y : List Int) (rows : List (List PV)) : Prop :=
  ∀ (j : Nat) (x : Int), Y[j]? = some x → ∃ (o eo : Nat) (S : List Nat), rows[j]? = some [PV.ob o eo] ∧ ownX H (.own o eo) (.sl 1 (places (F x))) S ∧ S.Nodup ∧ ∀ k ∈ S, 9 < k ∧ k < nn
theorem implLeastSolution_o (G : Gv) (hA : AllK G) (r : Shape) (l : List PieceM) (s : List (Int × List Int)) (hr : r.length < 1000000000) (hl : l.length < 1000000000) (hpl : ∀ p ∈ l, p.cs.length < 1000000000) (hs : s.length < 1000000000) (hsc : ∀ x ∈ s, x.2.length < 1000000000) :
    GivesO Tryz.prog G 58 [.ag [.sl 0 (cells r), .sl 0 (pieces l)], .sl 0 (places s)] (.tup [.sl 1 (places (lsolI r l s).1), .i .i64 (lsolI r l s).2]) := by
  refine .of (.body Tryz.func58 rfl (by simp [Tryz.ntmps58]) ?_)
  rw [Tryz.ntmps58, Tryz.results58]
  have hcod := solutionCode_fn G hA r l s hr hl hpl hs hsc
  by_cases c : codI r l s = 0
  · have c' : codS r l s = 0 := by rw [← cod_eq r l s hs]; exact c
    have hsol := cod_zero c'
    have hne := solved_ne hsol
    obtain ⟨hfit, hx, _⟩ := solved_facts hsol
    obtain ⟨g1, g8⟩ := fits_facts hfit
    have grs := (puzzle_facts (fits_puzzle hfit)).1
    have hsy := (puzzleSymmetries_o G hA r l g1 hr hl g8).gives
    have hyl := symsS_len r l
    have hyp := symsS_pos (l := l) (puzzle_parts (fits_puzzle hfit)).1
    have hTS : ∀ k ∈ symsS r l, GivesO Tryz.prog G 111 [.ag [.sl 0 (cells r), .sl 0 (pieces l)], .sl 0 (places s), .i .i64 k] (.sl 1 (places (orderP (s.map (turnPl (nsM r k)))))) := fun k h => by
      obtain ⟨t, e, _, hn⟩ := sym_mem h
      have hnd := turnPl_nodup hsol hn
      rw [e] at hn hnd ⊢
      exact turnList_o G hA r l s t _ hn grs g1 hr hs (fun x hx' => ⟨(hx x hx').1, hsc x hx', (hx x hx').2⟩) hnd
    rw [← symsP_eq (puzzle_parts (fits_puzzle hfit)).1] at hyl hTS hyp
    have hres : lsolI r l s = (minQ ((symsI r l).map fun k => orderP (s.map (turnPl (nsM r k)))), 0) := by unfold lsolI; rw [if_pos c]
    rw [hres]
    rw [c] at hcod
    obtain ⟨F, hF⟩ : ∃ F : Int → List (Int × List Int), F = fun k => orderP (s.map (turnPl (nsM r k))) := ⟨_, rfl⟩
    have hFl : ∀ k, (F k).length = s.length ∧ ∀ y ∈ F k, y.2.length < 1000000000 := fun k => by
      rw [hF]
      simp only
      rw [← l16T_eq]
      exact ⟨l16T_len _ _, l16T_cells hsc⟩
    replace hTS : ∀ k ∈ symsI r l, GivesO Tryz.prog G 111 [.ag [.sl 0 (cells r), .sl 0 (pieces l)], .sl 0 (places s), .i .i64 k] (.sl 1 (places (F k))) := by rw [hF]; exact hTS
    rw [← hF]
    generalize symsI r l = Y at hsy hTS hyl hyp
    clear hres c c' hsol hfit hx g1 g8 hpl hsc grs hF
    have hYn := ints_len Y
    replace hcod := Hid.mk hcod
    replace hsy := Hid.mk hsy
    replace hTS := Hid.mk hTS
    replace hFl := Hid.mk hFl
    refine AL ?_
    refine CV hcod.out ?_
    refine AL ?_
    refine CV hsy.out ?_
    refine AL ?_
    refine .loop (.inv (fun d E H n' => ∃ (i e t' : Nat) (rows : List (List PV)), i + d = Y.length ∧ 9 < n' ∧ E 1 = .sl 0 (places s) ∧ E 2 = .ptr 0 0 0 0 ∧ E 7 = .own 9 e ∧ E 18 = .sl 1 (ints Y) ∧ E 19 = .i .i64 Y.length ∧ E 20 = .i .i64 i ∧ H 0 = some (.box 35 [.sl 0 (cells r), .sl 0 (pieces l)]) ∧ H 9 = some (.arr e 37 1 rows t') ∧ rows.length = i ∧ heldQ H n' F (Y.take i) rows) Y.length ?_ ?_)
    · exact ⟨0, 0, 1, [], by omega, by omega, by simp [setF_if, argE], by simp [setF_if, argE], by simp [setF_if, argE], by simp [setF_if, argE], by simp [setF_if, argE, hYn], by simp [setF_if, argE], by simp [upd_if], by simp [upd_if], rfl, fun j x h => by simp at h⟩
    rintro d E H n' ⟨i, e, t', rows, hi, hn, e1, e2, e7, e18, e19, e20, hH0, hH9, hrl, hh⟩
    replace hh := Hid.mk hh
    by_cases ci : (i : Int) < Y.length
    · have hw_i : IntKind.i64.wrap ((i : Int) + 1) = (i : Int) + 1 := wr64 (by omega) (by omega)
      obtain ⟨x, hx⟩ : ∃ x, Y[i]? = some x := ⟨_, List.getElem?_eq_getElem (by omega)⟩
      have hro := ints_row hx
      have hT := hTS.out x (List.mem_of_getElem? hx)
      have hFx := (hFl.out x).1
      have hb : (rows.length + 1) * 24 ≤ 140737488355328 := by omega
      have htk : Y.take (i + 1) = Y.take i ++ [x] := by rw [List.take_add_one, hx]; rfl
      have hq1 : ∀ j, (9 = n' + j) = False := fun j => by simp; omega
      have hq0 : ∀ j, (0 = n' + j) = False := fun j => by simp; omega
      replace hx := Hid.mk hx
      replace hT := Hid.mk hT
      replace htk := Hid.mk htk
      refine AL ?_
      refine CWO hT.out ?_
      intro z H2 S m hz hn1 hS hf hm
      obtain ⟨ob, eb, tyb, szb, rb, tb, rfl, hHb, hbS⟩ : ∃ o e ty sz rows t, z = .own o e ∧ H2 o = some (.arr e ty sz rows t) ∧ o ∈ S := by
        rcases ownA_own (ownX_un hz) with h | e1
        · exact h
        · have : (places (F x)).length = 0 := by rw [e1]; rfl
          rw [places_len] at this; omega
      obtain ⟨hb1, hb2⟩ := hS ob hbS
      have f0 := (hf 0 (by omega)).trans hH0
      have f9 := (hf 9 (by omega)).trans hH9
      have hr1 : ∀ j, (9 = m + j) = False := fun j => by simp; omega
      have hr0 : ∀ j, (0 = m + j) = False := fun j => by simp; omega
      have hr4 : ∀ j, (ob = m + j) = False := fun j => by simp; omega
      have hr5 : (9 = m) = False := by simp; omega
      have hr6 : (0 = m) = False := by simp; omega
      have hr7 : (ob = m) = False := by simp; omega
      have hr8 : (9 = ob) = False := by simp; omega
      have hh2 : ∀ H3 : Heap, ∀ nn, m ≤ nn → (∀ k, 9 < k → k < m → H3 k = H2 k) → heldQ H3 nn F (Y.take (i + 1)) (rows ++ [[PV.ob ob eb]]) := fun H3 nn hmn h3 j y hy => by
        rw [htk.out] at hy
        by_cases cj : j < i
        · rw [List.getElem?_append_left (by rw [List.length_take]; omega)] at hy
          obtain ⟨o2, e2, S2, k1, k2, k3, k4⟩ := hh.out j y hy
          refine ⟨o2, e2, S2, by rw [List.getElem?_append_left (by omega)]; exact k1, ownX_congr (fun k hk => ?_) k2, k3, fun k hk => ⟨(k4 k hk).1, by have := (k4 k hk).2; omega⟩⟩
          have := k4 k hk
          rw [h3 k (by omega) (by omega)]
          exact hf k (by omega)
        · rw [List.getElem?_append_right (by rw [List.length_take]; omega), List.length_take] at hy
          have hj0 : j - min i Y.length = 0 := by
            have := (List.getElem?_eq_some_iff.mp hy).1
            simp at this; omega
          rw [hj0] at hy
          simp only [List.getElem?_cons_zero, Option.some.injEq] at hy
          subst hy
          have hji : j = i := by
            have : min i Y.length = i := by omega
            omega
          refine ⟨ob, eb, S, by rw [hji, ← hrl, List.getElem?_append_right (by omega)]; simp, ownX_congr (fun k hk => h3 k (by have := hS k hk; omega) (hS k hk).2) hz, hn1, fun k hk => ⟨by have := hS k hk; omega, by have := hS k hk; omega⟩⟩
      clear hz hn1 hS hf hH0 hH9
      replace hrl := Hid.mk hrl
      replace hh2 := Hid.mk hh2
      have hm9 : 9 < m := by omega
      refine AL ?_
      refine ⟨Y.length - (i + 1), by omega, i + 1, e + 1, joinT t' 2, rows ++ [[PV.ob ob eb]], by omega, by omega, by simp [setF_if, *], by simp [setF_if, *], by simp [setF_if, *], by simp [setF_if, *], by simp [setF_if, *], by simp [setF_if, *], by simp [upd_if, *], by simp [upd_if, joinT, *], by rw [List.length_append, hrl.out]; rfl, hh2.out _ _ (by omega) (fun k h1 h2 => ?_)⟩
      simp only [upd_if]
      rw [if_neg (by omega)]
      rw [if_neg (by omega)]
    · have ei : i = Y.length := by omega
      have hh2 := hh.out
      rw [ei, List.take_length] at hh2
      have hml := minFuncPl_wc G (Y.map F)
      replace hml := Hid.mk hml
      replace hh2 := Hid.mk hh2
      refine AL ?_
      refine CI ?_
      refine (hml.out H _ 9 e t' s.length _ rows (by omega) hH9 (by rw [List.length_map]; omega) (by rw [List.length_map]; exact hyp) hs (by rw [List.length_map]; omega) (fun j x hx => ?_)).mono ?_
      · rw [List.getElem?_map] at hx
        obtain ⟨y, hy, rfl⟩ := Option.map_eq_some_iff.mp hx
        obtain ⟨o, eo, S, k1, k2, _, _⟩ := hh2.out j y hy
        exact ⟨(hFl.out y).1, (hFl.out y).2, o, eo, k1, ownX_gives k2⟩
      rintro z H2 n2 ⟨hn2, rfl, j, oj, ej, hj, hrj, rfl⟩
      rw [List.getElem?_map] at hj
      obtain ⟨y, hy, hFy⟩ := Option.map_eq_some_iff.mp hj
      obtain ⟨o, eo, S, k1, k2, k3, _⟩ := hh2.out j y hy
      obtain ⟨rfl, rfl⟩ : oj = o ∧ ej = eo := by
        rw [hrj] at k1
        simp only [Option.some.injEq, List.cons.injEq, PV.ob.injEq, and_true] at k1
        exact k1
      rw [hFy] at k2
      clear hj hy hFy k1 hrj
      replace k2 := Hid.mk k2
      replace k3 := Hid.mk k3
      refine AL ?_
      refine ⟨S, ?_, k3.out⟩
      have := ownX_mkT k2.out (ownX_mki (H := H2) (k := .i64) (n := 0))
      rw [List.append_nil] at this
      simpa [retA, setF_if] using this
  · have hres : lsolI r l s = ([], codI r l s) := by unfold lsolI; rw [if_neg c]
    rw [hres]
    have c3 : (codI r l s != 0) = true := by simpa using c
    generalize codI r l s = cd at hcod c c3
    clear hres hpl hsc
    replace hcod := Hid.mk hcod
    refine AL ?_
    refine CV hcod.out ?_
    refine AL ?_
    exact ⟨[], ownX_mkT (s1 := []) (ownX_sl ownA_nil) ownX_mki, by simp⟩
end Go.Proofs
end
section
open Go Go.Big
namespace Go.Proofs
set_option maxHeartbeats 2000000
theorem markPuzzle_m (G : Gv) (r : List (Int × Int)) (l : List PieceM) (k : Int) (hr : r.length < 1000000000) (hl : l.length < 1000000000) (hc : ∀ p ∈ l, p.cs.length < 1000000000) (hk0 : 0 ≤ k) (hk : k + 2 * r.length + cntQ l < 1000000000000) :
    Marks Tryz.prog G 24 (.ag [.sl 1 (cells r), .sl 1 (pieces l)]) (.ag [.sl 1 (cells (runC k r.length)), .sl 1 (pieces (mkQ (k + 2 * r.length) l))]) k (k + 2 * r.length + cntQ l) := by
  intro x H0 n0 S hx hn hS
  have hcn := cntQ_nn l
  obtain ⟨za, zb, s1, s2, rfl, rfl, hxa, hxb⟩ := ownX_ag2 hx
  clear hx
  rw [List.nodup_append] at hn
  obtain ⟨hn1, hn2, hn3⟩ := hn
  have hS1 : ∀ o ∈ s1, o < n0 := fun o ho => hS o (by simp [ho])
  have hS2 : ∀ o ∈ s2, o < n0 := fun o ho => hS o (by simp [ho])
  have pa := (ownX_plain hxa).1
  have pb := (ownX_plain hxb).1
  replace hxa := Hid.mk hxa
  replace hxb := Hid.mk hxb
  replace hn1 := Hid.mk hn1
  replace hn2 := Hid.mk hn2
  replace hn3 := Hid.mk hn3
  replace hS1 := Hid.mk hS1
  replace hS2 := Hid.mk hS2
  replace hc := Hid.mk hc
  clear hS
  refine (.body Tryz.func24 rfl (by simp [Tryz.ntmps24]) ?_)
  rw [Tryz.ntmps24, Tryz.results24]
  refine W.seq ?_
  refine W.region ?_
  refine OP (y := .ptr n0 0 0 0) (H1 := H0.upd n0 (.box 35 [za, zb])) (op := .box 35 (.tmp 0)) ?_ (hs := by rw [st_box]; simp [flatA, pa, pb, argE])
  refine AL ?_
  refine CI ?_
  refine WC.mono (markCellS_m G r k hr hk0 (by omega) _ _ _ s1 (ownX_congr (fun o ho => by rw [upd_if, if_neg (by have := hS1.out o ho; omega)]) hxa.out) hn1.out (fun o ho => by have := hS1.out o ho; omega)) ?_
  rintro _ H1 m ⟨rfl, hm, hz1, hf1⟩
  have hb := hf1 n0 (by omega) (fun h => by have := hS1.out _ h; omega)
  rw [upd_if, if_pos rfl] at hb
  have hxb1 := ownX_congr (H' := H1) (fun o ho => by rw [hf1 o (by have := hS2.out o ho; omega) (fun h => hn3.out o h o ho rfl), upd_if, if_neg (by have := hS2.out o ho; omega)]) hxb.out
  replace hxb1 := Hid.mk hxb1
  replace hz1 := Hid.mk hz1
  replace hf1 := Hid.mk hf1
  clear pa pb
  refine AL ?_
  refine CI ?_
  refine WC.mono (markPieceS_m G l (k + 2 * r.length) hl hc.out (by omega) (by omega) _ _ _ s2 hxb1.out hn2.out (fun o ho => by have := hS2.out o ho; omega)) ?_
  rintro _ H2 m2 ⟨rfl, hm2, hz2, hf2⟩
  have hb2 := hf2 n0 (by omega) (fun h => by have := hS2.out _ h; omega)
  replace hz2 := Hid.mk hz2
  replace hf2 := Hid.mk hf2
  refine AL ?_
  refine ⟨rfl, by omega, ownX_mk2 (ownX_congr (fun o ho => hf2.out o (by have := hS1.out o ho; omega) (fun h => hn3.out o ho o h rfl)) hz1.out) hz2.out, fun o ho hno => ?_⟩
  rw [hf2.out o (by omega) (fun h => hno (by simp [h])), hf1.out o (by omega) (fun h => hno (by simp [h])), upd_if, if_neg (by omega)]
theorem markPlacement_m (G : Gv) (j : Int) (l : List Int) (k : Int) (hl : l.length < 1000000000) (hk0 : 0 ≤ k) (hk : k < 1000000000000) :
    Marks Tryz.prog G 44 (.ag [.i .i64 j, .sl 1 (ints l)]) (.ag [.i .i64 j, .sl 1 (ints (runI k l.length))]) k (k + l.length) := by
  intro x H0 n0 S hx hn hS
  obtain ⟨zi, za, s2, s1, rfl, rfl, hxi, hxa⟩ := ownX_ag2 hx
  obtain ⟨rfl, rfl⟩ := ownX_i hxi
  clear hx hxi
  rw [List.nil_append] at hn hS ⊢
  have pa := (ownX_plain hxa).1
  have pi : plainA H0 (.i .i64 j) = true := rfl
  replace hxa := Hid.mk hxa
  replace hn := Hid.mk hn
  replace hS := Hid.mk hS
  refine (.body Tryz.func44 rfl (by simp [Tryz.ntmps44]) ?_)
  rw [Tryz.ntmps44, Tryz.results44]
  refine W.seq ?_
  refine W.region ?_
  refine OP (y := .ptr n0 0 0 0) (H1 := H0.upd n0 (.box 55 [.i .i64 j, za])) (op := .box 55 (.tmp 0)) ?_ (hs := by rw [st_box]; simp [flatA, pa, pi, argE])
  clear pa pi
  refine AL ?_
  refine CI ?_
  refine WC.mono (markInt64S_m G l k hl hk0 hk _ _ _ s1 (ownX_congr (fun o ho => by rw [upd_if, if_neg (by have := hS.out o ho; omega)]) hxa.out) hn.out (fun o ho => by have := hS.out o ho; omega)) ?_
  rintro _ H1 m ⟨rfl, hm, hz1, hf1⟩
  replace hz1 := Hid.mk hz1
  replace hf1 := Hid.mk hf1
  refine AL ?_
  refine ⟨rfl, by omega, ownX_mk2 (s1 := []) ownX_mki hz1.out, fun o ho hno => ?_⟩
  rw [hf1.out o (by omega) hno, upd_if, if_neg (by omega)]
end Go.Proofs
end
section
open Go Go.Big
namespace Go.Proofs
set_option maxHeartbeats 2000000
theorem mkP_length : ∀ (k : Int) (l : List (Int × List Int)), (mkP k l).length = l.length
  | _, [] => rfl
  | k, p :: l => by simp only [mkP, List.length_cons, mkP_length]
theorem heldPlacementS_fn (G : Gv) (l : List (Int × List Int)) (k : Int) (hl : l.length < 1000000000) (hc : ∀ p ∈ l, p.2.length < 1000000000) (hk0 : 0 ≤ k) (hk : k + cntP l < 1000000000000) :
    Gives Tryz.prog G 32 [.sl 0 (places (mkP k l)), .i .i64 k] (.i .i64 (k + cntP l)) := by
  refine .of (.body Tryz.func32 rfl (by simp [Tryz.ntmps32]) ?_)
  rw [Tryz.ntmps32, Tryz.results32]
  have hlen : (places (mkP k l)).length = l.length := by rw [places_len, mkP_length]
  replace hc := Hid.mk hc
  generalize hM : mkP k l = M at hlen
  replace hM := Hid.mk hM
  refine AL ?_
  refine .loop (.inv (fun d E H n' => ∃ (i : Nat) (k' : Int), i + d = l.length ∧ E 0 = .sl 0 (places M) ∧ E 1 = .i .i64 k' ∧ E 5 = .i .i64 i ∧ M.drop i = mkP k' (l.drop i) ∧ k' + cntP (l.drop i) = k + cntP l ∧ 0 ≤ k') l.length ?_ ?_)
  · exact ⟨0, k, by omega, by simp [setF_if, argE], by simp [setF_if, argE], by simp [setF_if, argE], by simp [hM.out], by simp, hk0⟩
  rintro d E H n' ⟨i, k', hi, h0, h1, h5, hd, hn, hk'⟩
  replace hn := Hid.mk hn
  replace hd := Hid.mk hd
  by_cases c : (i : Int) < l.length
  · have hw_i : IntKind.i64.wrap ((i : Int) + 1) = (i : Int) + 1 := wr64 (by omega) (by omega)
    obtain ⟨p, hp⟩ : ∃ p, l[i]? = some p := ⟨_, List.getElem?_eq_getElem (by omega)⟩
    have hpl := hc.out p (List.mem_of_getElem? hp)
    have hld := drop_cons hp
    have hd2 := hd.out
    have hn2 := hn.out
    rw [hld] at hd2 hn2
    simp only [mkP, cntP] at hd2 hn2
    have hnn := cntP_nn (l.drop (i + 1))
    have hro : (places M)[i]? = some (placR (k', runI (k' + 1) p.2.length)) := places_at (by
      have : (M.drop i)[0]? = some (k', runI (k' + 1) p.2.length) := by rw [hd2]; rfl
      rwa [List.getElem?_drop, Nat.add_zero] at this)
    have hd3 : M.drop (i + 1) = mkP (k' + 1 + p.2.length) (l.drop (i + 1)) := by
      rw [← List.drop_drop (i := 1), hd2]; rfl
    have hw1 : IntKind.i64.wrap (k' + 1) = k' + 1 := wr64 (by omega) (by omega)
    have hbne : (k' != k') = false := by simp
    have hneg : ¬ (k' + 1 + (p.2.length : Int) < 0) := by omega
    replace hd2 := Hid.mk hd2
    replace hd3 := Hid.mk hd3
    replace hld := Hid.mk hld
    replace hp := Hid.mk hp
    replace hn2 := Hid.mk hn2
    replace hnn := Hid.mk hnn
    refine AL ?_
    refine CV (heldInt64S_fn G (k' + 1) p.2.length hpl (by omega) (by have := hn2.out; have := hnn.out; omega)) ?_
    refine AL ?_
    exact ⟨l.length - (i + 1), by omega, i + 1, k' + 1 + p.2.length, by omega, by simp [setF_if, *], by simp [setF_if, *], by simp [setF_if, *], hd3.out, by have := hn2.out; omega, by omega⟩
  · have ei : i = l.length := by omega
    have hn2 := hn.out
    rw [ei, List.drop_length] at hn2
    simp only [cntP] at hn2
    refine AL ?_
    simp [retA, backA, setF_if, h1]; omega
theorem heldPlacement_fn (G : Gv) (j : Int) (k : Int) (m : Nat) (hl : m < 1000000000) (hk0 : 0 ≤ k) (hk : k < 1000000000000) :
    Gives Tryz.prog G 45 [.ag [.i .i64 j, .sl 0 (ints (runI k m))], .i .i64 k] (.i .i64 (k + m)) := by
  refine .of (.body Tryz.func45 rfl (by simp [Tryz.ntmps45]) ?_)
  rw [Tryz.ntmps45, Tryz.results45]
  have hneg : ¬ (k + (m : Int) < 0) := by omega
  refine AL ?_
  refine CV (heldInt64S_fn G k m hl hk0 hk) ?_
  refine AL ?_
  simp [retA, backA]
end Go.Proofs
end
section
open Go Go.Big
namespace Go.Proofs
set_option maxHeartbeats 2000000
theorem giveOf_last {H : Heap} {a za b : AV} {q : List (List PV)} {S : List Nat} (h : ownX H (.ag [a, za]) (.ag [b, .sl 1 q]) S) : giveA H za = some (.sl 0 q) := by
  obtain ⟨zi, z, s1, s2, e, _, _, h2⟩ := ownX_ag2 h
  cases e
  exact ownX_gives h2
theorem szP_cnt : ∀ {l : List PieceM} {left : Int}, ¬ szP l left < 0 → cntQ l ≤ 2 * left + 2 * l.length
  | [], left, h => by simp only [szP] at h; simp only [cntQ, List.length_nil]; omega
  | p :: l, left, h => by
    unfold szP at h
    split at h
    · simp at h
    · rename_i c
      have := szP_cnt h
      unfold szN at c this
      split at c
      · simp at c
      · rename_i c2
        rw [if_neg c2] at this
        simp only [cntQ, List.length_cons]; omega
theorem szPz_cnt {r : List (Int × Int)} {l : List PieceM} {left : Int} (h : ¬ szPz r l left < 0) : cntQ l ≤ 2 * left + 2 * left := by
  unfold szPz at h
  split at h
  · simp at h
  · rename_i c
    unfold szPS at h
    split at h
    · simp at h
    · rename_i c2
      have := szP_cnt h
      have := szN_le c
      omega
theorem szPL_cnt : ∀ {l : List (Int × List Int)} {left : Int}, ¬ szPL l left < 0 → cntP l ≤ left + l.length
  | [], left, h => by simp only [szPL] at h; simp only [cntP, List.length_nil]; omega
  | p :: l, left, h => by
    unfold szPL at h
    split at h
    · simp at h
    · rename_i c
      have := szPL_cnt h
      unfold szN at c this
      split at c
      · simp at c
      · rename_i c2
        rw [if_neg c2] at this
        simp only [cntP, List.length_cons]; omega
theorem szPLS_cnt {l : List (Int × List Int)} {left : Int} (h : ¬ szPLS l left < 0) : cntP l ≤ left + left := by
  unfold szPLS at h
  split at h
  · simp at h
  · have := szPL_cnt h
    omega
theorem law_fn (G : Gv) (hA : AllK G) (r : List (Int × Int)) (l : List PieceM) (s : List (Int × List Int))
    (hr : r.length ≤ 9223372036854775807) (hl : l.length ≤ 9223372036854775807) (hc : ∀ p ∈ l, p.cs.length ≤ 9223372036854775807) (hs : s.length ≤ 9223372036854775807) (hsc : ∀ x ∈ s, x.2.length ≤ 9223372036854775807)
    (hpure : r.length < 1000000000 → l.length < 1000000000 → (∀ p ∈ l, p.cs.length < 1000000000) → s.length < 1000000000 → (∀ x ∈ s, x.2.length < 1000000000) → lsolI r l s = lsolS r l s ∧ ((lsolI r l s).1.length < 1000000000) ∧ (∀ x ∈ (lsolI r l s).1, x.2.length < 1000000000) ∧ (cntP (lsolI r l s).1 < 100000000000)) :
    Gives Tryz.prog G 14 [.ag [.sl 0 (cells r), .sl 0 (pieces l)], .sl 0 (places s)] (.b true) := by
  refine .of (.body Tryz.func14 rfl (by simp [Tryz.ntmps14]) ?_)
  rw [Tryz.ntmps14, Tryz.results14]
  replace hA := Hid.mk hA
  replace hc := Hid.mk hc
  replace hsc := Hid.mk hsc
  replace hpure := Hid.mk hpure
  refine AX ?_
  refine CV (szPuzzle_fn G r l 1048576 hr hl hc.out (by omega) (by omega)) ?_
  by_cases c1 : szPz r l 1048576 < 0
  · refine AX ?_
    simp [retA, backA]
  obtain ⟨ga1, gb1, gc1, gd1, ge1⟩ := szPz_le (left := 1048576) (by omega) c1
  replace gc1 := Hid.mk gc1
  refine AX ?_
  refine CV (szPlacementS_fn G s _ hs hsc.out (by omega) (by omega)) ?_
  by_cases c2 : szPLS s (szPz r l 1048576) < 0
  · refine AX ?_
    simp [retA, backA]
  obtain ⟨ga2, gc2⟩ := szPLS_le (left := szPz r l 1048576) (by omega) c2
  replace gc2 := Hid.mk gc2
  have hr9 : r.length < 1000000000 := by omega
  have hl9 : l.length < 1000000000 := by omega
  have hc9 : ∀ p ∈ l, p.cs.length < 1000000000 := fun p hp => by have := gc1.out p hp; omega
  have hs9 : s.length < 1000000000 := by omega
  have hsc9 : ∀ x ∈ s, x.2.length < 1000000000 := fun p hp => by have := gc2.out p hp; omega
  have hkq : cntQ l < 100000000000 := by have := szPz_cnt c1; omega
  have hkq0 := cntQ_nn l
  have hkp : cntP s < 100000000000 := by have := szPLS_cnt c2; omega
  have hkp0 := cntP_nn s
  obtain ⟨hp, hwl, hwc, hwk⟩ := hpure.out hr9 hl9 hc9 hs9 hsc9
  replace hc9 := Hid.mk hc9
  replace hsc9 := Hid.mk hsc9
  have hspec := specLeastSolution_fn G r l s hr9 hl9 hc9.out hs9 hsc9.out
  have himpl := implLeastSolution_o G hA.out r l s hr9 hl9 hc9.out hs9 hsc9.out
  rw [← hp] at hspec
  clear hp
  generalize lsolI r l s = W at hspec himpl hwl hwc hwk
  obtain ⟨w, wc⟩ := W
  simp only at hspec himpl hwl hwc hwk
  have hbb : (wc != wc) = false := by simp
  have hwk0 := cntP_nn w
  replace hwc := Hid.mk hwc
  replace hspec := Hid.mk hspec
  replace himpl := Hid.mk himpl
  clear gc1 gc2
  refine AX ?_
  refine CV (toPuzzle_fn G r l hr9 hl9 hc9.out) ?_
  refine AX ?_
  refine CV (toPlacementS_fn G s hs9 hsc9.out) ?_
  refine AX ?_
  refine CV hspec.out ?_
  refine AX ?_
  refine CWO (toPuzzle_o G r l hr9 hl9 hc9.out) ?_
  intro z1 Hh1 S1 m1 hz1 hn1 hS1 hf1 hm1
  have B0 := hf1 0 (by omega)
  simp [upd_if] at B0
  obtain ⟨za1, zb1, sa1, sb1, rfl, rfl, Xa1, Xb1⟩ := ownX_ag2 hz1
  have Ra1 := fun o (ho : o ∈ sa1) => hS1 o (by simp [ho])
  have Rb1 := fun o (ho : o ∈ sb1) => hS1 o (by simp [ho])
  clear hz1 hS1 hf1
  replace Xa1 := Hid.mk Xa1
  replace Ra1 := Hid.mk Ra1
  replace Xb1 := Hid.mk Xb1
  replace Rb1 := Hid.mk Rb1
  replace hn1 := Hid.mk hn1
  refine AX ?_
  have pl_za1 := (ownX_plain (ownX_congr (H' := Hh1.upd (m1) (.box 35 [.nil, .nil])) (fun o ho => by rw [upd_if, if_neg (by have := Ra1.out o ho; omega)]) Xa1.out)).1
  have pl_zb1 := (ownX_plain (ownX_congr (H' := Hh1.upd (m1) (.box 35 [.nil, .nil])) (fun o ho => by rw [upd_if, if_neg (by have := Rb1.out o ho; omega)]) Xb1.out)).1
  refine OPN (op := .store 35 (.tmp 8) (.tmp 36)) (H1 := (Hh1.upd (m1) (.box 35 [.nil, .nil])).upd (m1) (.box 35 [za1, zb1])) (y := .un) ?_ (hs := by
    rw [st_store]
    simp only [look_tmp, setF_if, Nat.reduceEqDiff, reduceIte, flatA, List.all_cons, List.all_nil, pl_za1, pl_zb1, Bool.and_self, BT.all, storeA, upd_if, putA, List.length_cons, List.length_nil, Nat.reduceAdd, Nat.reduceLeDiff, List.set_cons_zero, List.set_cons_succ, Option.map_some])
  repeat first | refine OP ?_ | refine SK ?_ | refine OPN ?_ | refine WR.nil ?_
  refine TH ?_
  refine W.cutn ?_
  intro EX1 HX1 NX1 hEX hHX hNX
  have e1_1 := hEX 1
  have e2_1 := hEX 2
  have e6_1 := hEX 6
  have e7_1 := hEX 7
  have e8_1 := hEX 8
  simp only [setF_if, argE, Nat.reduceEqDiff, reduceIte, List.getElem?_cons_zero, List.getElem?_cons_succ, Option.getD_some] at e1_1 e2_1 e6_1 e7_1 e8_1
  have hN1 : m1 < NX1 := by omega
  have B0' := (show HX1 (0) = Hh1 (0) by rw [hHX, upd_if, if_neg (by omega), upd_if, if_neg (by omega)]).trans B0
  have bx1 : HX1 (m1) = some (.box 35 [za1, zb1]) := by rw [hHX, upd_if, if_pos rfl]
  have Xa1' := ownX_congr (H' := HX1) (fun o ho => by have := Ra1.out o ho; rw [hHX, upd_if, if_neg (by omega), upd_if, if_neg (by omega)]) Xa1.out
  clear Xa1
  replace Xa1' := Hid.mk Xa1'
  have Xb1' := ownX_congr (H' := HX1) (fun o ho => by have := Rb1.out o ho; rw [hHX, upd_if, if_neg (by omega), upd_if, if_neg (by omega)]) Xb1.out
  clear Xb1
  replace Xb1' := Hid.mk Xb1'
  clear hEX hHX hNX pl_za1 pl_zb1 B0
  refine AX ?_
  refine CWO (toPlacementS_o G s hs9 hsc9.out) ?_
  intro z2 Hh2 S2 m2 hz2 hn2 hS2 hf2 hm2
  have B0'' := (hf2 (0) (by omega)).trans B0'
  clear B0'
  have bx1' := (hf2 (m1) (by omega)).trans bx1
  clear bx1
  have Xa1'' := ownX_congr (fun o ho => hf2 o (by have := Ra1.out o ho; omega)) Xa1'.out
  clear Xa1'
  replace Xa1'' := Hid.mk Xa1''
  have Xb1'' := ownX_congr (fun o ho => hf2 o (by have := Rb1.out o ho; omega)) Xb1'.out
  clear Xb1'
  replace Xb1'' := Hid.mk Xb1''
  have R2 := hS2
  clear hS2 hf2
  have gl2 := ownX_gives hz2
  clear gl2
  replace hz2 := Hid.mk hz2
  replace R2 := Hid.mk R2
  replace hn2 := Hid.mk hn2
  have ga1 := ownX_gives Xa1''.out
  have gb1 := ownX_gives Xb1''.out
  have g2 := ownX_gives hz2.out
  refine AX ?_
  refine CWO himpl.out ?_
  intro z3 Hh3 S3 m3 hz3 hn3 hS3 hf3 hm3
  try clear ga1
  try clear gb1
  try clear g2
  have B0''' := (hf3 (0) (by omega)).trans B0''
  clear B0''
  have bx1'' := (hf3 (m1) (by omega)).trans bx1'
  clear bx1'
  have Xa1''' := ownX_congr (fun o ho => hf3 o (by have := Ra1.out o ho; omega)) Xa1''.out
  clear Xa1''
  replace Xa1''' := Hid.mk Xa1'''
  have Xb1''' := ownX_congr (fun o ho => hf3 o (by have := Rb1.out o ho; omega)) Xb1''.out
  clear Xb1''
  replace Xb1''' := Hid.mk Xb1'''
  have hz2' := ownX_congr (fun o ho => hf3 o (by have := R2.out o ho; omega)) hz2.out
  clear hz2
  replace hz2' := Hid.mk hz2'
  obtain ⟨zw3, zc3, Sw3, Sc3, rfl, rfl, hw3, hc3⟩ := ownX_tup2 hz3
  obtain ⟨rfl, rfl⟩ := ownX_i hc3
  simp only [List.append_nil] at hn3 hS3
  clear hc3 hz3
  have R3 := hS3
  clear hS3 hf3
  replace hw3 := Hid.mk hw3
  replace R3 := Hid.mk R3
  replace hn3 := Hid.mk hn3
  have ga1 := ownX_gives Xa1'''.out
  have gb1 := ownX_gives Xb1'''.out
  have g2 := ownX_gives hz2'.out
  have g3 := ownX_gives hw3.out
  refine AX ?_
  refine CV (eqPlacementS_fn G w hwl hwc.out) ?_
  refine AX ?_
  refine DR ?_
  refine AX ?_
  refine CQ (toPuzzle_fn G r l hr9 hl9 hc9.out) ?_
  refine AX ?_
  refine CQ (eqPuzzle_fn G r l hr9 hl9 hc9.out) ?_
  refine AX ?_
  refine CV (toPlacementS_fn G s hs9 hsc9.out) ?_
  refine AX ?_
  refine CV (eqPlacementS_fn G s hs9 hsc9.out) ?_
  refine AX ?_
  refine CI ?_
  refine WC.mono (markPuzzle_m G r l 1 hr9 hl9 hc9.out (by omega) (by omega) _ _ _ (sa1 ++ sb1) (ownX_mk2 Xa1'''.out Xb1'''.out) (by simpa using hn1.out) (fun o ho => by simp only [List.nil_append, List.mem_append] at ho; rcases ho with ho | ho; have := Ra1.out o ho; omega; have := Rb1.out o ho; omega)) ?_
  rintro _ Hh4 m4 ⟨rfl, hm4, hw4, hf4⟩
  try clear ga1
  try clear gb1
  try clear g2
  try clear g3
  have B0'''' := (hf4 (0) (by omega) (fun h => by simp only [List.nil_append, List.mem_append] at h; rcases h with h | h; have := Ra1.out _ h; omega; have := Rb1.out _ h; omega)).trans B0'''
  clear B0'''
  have bx1''' := (hf4 (m1) (by omega) (fun h => by simp only [List.nil_append, List.mem_append] at h; rcases h with h | h; have := Ra1.out _ h; omega; have := Rb1.out _ h; omega)).trans bx1''
  clear bx1''
  have hz2'' := ownX_congr (fun o ho => hf4 o (by have := R2.out o ho; omega) (fun h => by have := R2.out o ho; simp only [List.nil_append, List.mem_append] at h; rcases h with h | h; have := Ra1.out _ h; omega; have := Rb1.out _ h; omega)) hz2'.out
  clear hz2'
  replace hz2'' := Hid.mk hz2''
  have hw3' := ownX_congr (fun o ho => hf4 o (by have := R3.out o ho; omega) (fun h => by have := R3.out o ho; simp only [List.nil_append, List.mem_append] at h; rcases h with h | h; have := Ra1.out _ h; omega; have := Rb1.out _ h; omega)) hw3.out
  clear hw3
  replace hw3' := Hid.mk hw3'
  clear hf4 hw4
  refine AX ?_
  refine CI ?_
  refine WC.mono (markPlacementS_m G s (1 + 2 * r.length + cntQ l) hs9 hsc9.out (by omega) (by omega) _ _ _ S2 hz2''.out hn2.out (fun o ho => by have := R2.out o ho; omega)) ?_
  rintro _ Hh5 m5 ⟨rfl, hm5, hw5, hf5⟩
  try clear g2
  try clear g3
  have B0''''' := (hf5 (0) (by omega) (fun h => by have := R2.out _ h; omega)).trans B0''''
  clear B0''''
  have bx1'''' := (hf5 (m1) (by omega) (fun h => by have := R2.out _ h; omega)).trans bx1'''
  clear bx1'''
  have hw3'' := ownX_congr (fun o ho => hf5 o (by have := R3.out o ho; omega) (fun h => by have := R3.out o ho; have := R2.out _ h; omega)) hw3'.out
  clear hw3'
  replace hw3'' := Hid.mk hw3''
  clear hf5 hw5
  have hkn : ¬ (1 + 2 * r.length + cntQ l + cntP s < 0) := by omega
  have g3 := ownX_gives hw3''.out
  refine AX ?_
  refine CV (eqPlacementS_fn G w hwl hwc.out) ?_
  refine AX ?_
  refine CI ?_
  refine WC.mono (markPlacementS_m G w 1 hwl hwc.out (by omega) (by omega) _ _ _ Sw3 hw3''.out hn3.out (fun o ho => by have := R3.out o ho; omega)) ?_
  rintro _ Hh6 m6 ⟨rfl, hm6, hw6, hf6⟩
  try clear g3
  have B0'''''' := (hf6 (0) (by omega) (fun h => by have := R3.out _ h; omega)).trans B0'''''
  clear B0'''''
  have bx1''''' := (hf6 (m1) (by omega) (fun h => by have := R3.out _ h; omega)).trans bx1''''
  clear bx1''''
  clear hf6
  try clear hkn
  have hkn : ¬ (1 + cntP w < 0) := by omega
  have hkk : (1 + cntP w != 1 + cntP w) = false := by simp
  have g3 := ownX_gives hw6
  clear hw6
  refine AX ?_
  refine CV (heldPlacementS_fn G w 1 hwl hwc.out (by omega) (by omega)) ?_
  refine AX ?_
  refine CV (toPuzzle_fn G r l hr9 hl9 hc9.out) ?_
  refine AX ?_
  refine CV (toPlacementS_fn G s hs9 hsc9.out) ?_
  have hlt0 : 0 < m6 := by omega
  have hlt1 : m1 < m6 := by omega
  refine AX ?_
  refine CV himpl.out.gives ?_
  refine AX ?_
  refine CV (eqPlacementS_fn G w hwl hwc.out) ?_
  refine AX ?_
  refine CV (heldPlacementS_fn G w 1 hwl hwc.out (by omega) (by omega)) ?_
  refine AX ?_
  simp [retA, backA]
end Go.Proofs
end
