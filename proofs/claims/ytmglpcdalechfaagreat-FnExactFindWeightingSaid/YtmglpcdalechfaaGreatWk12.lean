/- Walks: Weights: the program's own functions. Condition: the given contracts hold. | Weights: lists of all pieces, planes, what refutes. Condition: the given contracts hold. | All placements of a puzzle: both programs. No condition. -/
import Derived.Test.YtmglpcdalechfaaGreatBO
import Derived.Test.YtmglpcdalechfaaGreatWk10
import Derived.Test.YtmglpcdalechfaaGreatWk11
import Derived.Test.YtmglpcdalechfaaGreatBC
set_option linter.unusedVariables false
set_option linter.unusedSimpArgs false
section
open Go Go.Big
namespace Go.Proofs
set_option maxHeartbeats 2000000
theorem modOf_fn (G : Gv) (a m : Int) (h2 : 2 ≤ m) (h6 : m ≤ 6) : Gives Tryz.prog G 159 [.i .i64 a, .i .i64 m] (.i .i64 (modV a m)) := by
  refine .of (.body Tryz.func159 rfl (by simp [Tryz.ntmps159]) ?_)
  rw [Tryz.ntmps159, Tryz.results159]
  have hm : ¬ (m = 0) := by omega
  refine AL ?_
  simp [retA, backA, modV]
theorem isModulus_fn (G : Gv) (m : Int) : Gives Tryz.prog G 147 [.i .i64 m] (.b (decide (m ≥ 2) && decide (m ≤ 6))) := by
  refine .of (.body Tryz.func147 rfl (by simp [Tryz.ntmps147]) ?_)
  rw [Tryz.ntmps147, Tryz.results147]
  refine AL ?_
  refine CV (within_fn G _ _ _) ?_
  refine AL ?_
  simp [retA, backA]
theorem askW (G : Gv) (m : Int) (w : List Int) (H0 : Heap) (n0 : Nat) (hn0 : 0 < n0) (hH0 : H0 0 = some (.box 48 [.i .i64 m, .sl 0 (ints w)])) (m2 : 2 ≤ m) (m6 : m ≤ 6) : AsksIn G 149 [.ptr 0 0 0 0] H0 n0 0 (fun x => !okM m x) w := by
  intro x hx H n hn hH
  have hHb := (hH 0 hn0).trans hH0
  have hw1 : IntKind.i64.wrap (m - 1) = m - 1 := wr64 (by omega) (by omega)
  replace hH := Hid.mk hH
  clear hH0 hx
  refine (.body Tryz.func149 rfl (by simp [Tryz.ntmps149]) ?_)
  rw [Tryz.ntmps149, Tryz.results149]
  refine AL ?_
  refine CV (within_fn G _ _ _) ?_
  have ho : okM m x = (decide (x ≥ 0) && decide (x ≤ m - 1)) := rfl
  cases cq : (decide (x ≥ 0) && decide (x ≤ m - 1)) with
  | true =>
    rw [cq] at ho
    clear cq
    refine AL ?_
    exact ⟨by simp [retA, setF_if, ho], by omega, hH.out⟩
  | false =>
    rw [cq] at ho
    clear cq
    refine AL ?_
    exact ⟨by simp [retA, setF_if, ho], by omega, hH.out⟩
theorem any_not_ok (m : Int) (w : List Int) : (w.any fun x => !okM m x) = !w.all (okM m) := by
  induction w with
  | nil => rfl
  | cons x l ih => simp [ih]
theorem isWeighting_fn (G : Gv) (r : List (Int × Int)) (m : Int) (w : List Int) (hr : r.length < 1000000000) (hwl : w.length < 1000000000) : Gives Tryz.prog G 85 [.sl 0 (cells r), .ag [.i .i64 m, .sl 0 (ints w)]] (.b (weightB r.length m w)) := by
  refine .of (.body Tryz.func85 rfl (by simp [Tryz.ntmps85]) ?_)
  rw [Tryz.ntmps85, Tryz.results85]
  have hl1 := cells_len r
  have hl2 := ints_len w
  refine AL ?_
  refine CV (isModulus_fn G m) ?_
  cases c : (decide (m ≥ 2) && decide (m ≤ 6)) with
  | true =>
    obtain ⟨c1, c2⟩ : 2 ≤ m ∧ m ≤ 6 := by simpa using c
    cases cl : decide (w.length = r.length) with
    | true =>
      have hne : ((w.length : Int) == r.length) = true := by simp at cl; simp [cl]
      have hres : weightB r.length m w = w.all (okM m) := by rw [weightB_eq c cl rfl]; simp
      rw [hres]
      have han := any_not_ok m w
      clear hres c cl
      refine AL ?_
      refine CI ?_
      refine (containsFuncIn_fn G 149 [.ptr 0 0 0 0] _ _ 0 _ w (askW G m w _ _ (by omega) (by simp [upd_if]) c1 c2) (by kernel_rfl) hwl _ _ (Nat.le_refl _) (fun _ _ => rfl)).mono ?_
      rintro z H2 n2 ⟨rfl, hn2, hH2⟩
      rw [han]
      generalize w.all (okM m) = bz
      clear hH2 han
      cases bz with
      | true =>
        refine AL ?_
        simp [retA, backA]
      | false =>
        refine AL ?_
        simp [retA, backA]
    | false =>
      have hne : ((w.length : Int) == r.length) = false := by simp at cl; simp; omega
      have hres : weightB r.length m w = false := by rw [weightB_eq c cl rfl]; simp
      rw [hres]
      clear hres c cl
      refine AL ?_
      simp [retA, backA]
  | false =>
    have hres : weightB r.length m w = false := by rw [weightB_eq c rfl rfl]; simp
    rw [hres]
    clear hres c
    refine AL ?_
    simp [retA, backA]
theorem wOf_fn (G : Gv) (n : Nat) (m : Int) (w s : List Int) (ok : OkW n m w) (hn : n < 1000000) (hs : s.length < 1000000) (hc : ∀ c ∈ s, 0 ≤ c ∧ c < n) : Gives Tryz.prog G 150 [.ag [.i .i64 m, .sl 0 (ints w)], .sl 0 (ints s)] (.i .i64 (weiM m w s)) := by
  refine .of (.body Tryz.func150 rfl (by simp [Tryz.ntmps150]) ?_)
  rw [Tryz.ntmps150, Tryz.results150]
  have hl1 := ints_len s
  have hl2 := ints_len w
  have m2 := ok.m2
  have m6 := ok.m6
  have hwn := ok.len
  have hm0 : ¬ (m = 0) := by omega
  have hsb := fun i => sumW_bd (w := w) (cells := s.take i) ok.five
  replace hsb := Hid.mk hsb
  replace ok := Hid.mk ok
  replace hc := Hid.mk hc
  refine AL ?_
  refine .loop (.inv (fun d E H n' => ∃ i : Nat, i + d = s.length ∧ 0 < n' ∧ E 2 = .ptr 0 0 0 0 ∧ E 5 = .i .i64 (sumW w (s.take i)) ∧ E 8 = .sl 0 (ints s) ∧ E 9 = .i .i64 s.length ∧ E 10 = .i .i64 i ∧ H 0 = some (.box 48 [.i .i64 m, .sl 0 (ints w)])) s.length ?_ ?_)
  · exact ⟨0, by omega, by omega, by simp [setF_if, argE], by simp [setF_if, argE, sumW], by simp [setF_if, argE], by simp [setF_if, argE, hl1], by simp [setF_if, argE], by simp [upd_if]⟩
  rintro d E H n' ⟨i, hi, hnn, e2, e5, e8, e9, e10, hH⟩
  by_cases ci : (i : Int) < s.length
  · have hw_i : IntKind.i64.wrap ((i : Int) + 1) = (i : Int) + 1 := wr64 (by omega) (by omega)
    obtain ⟨x, hx⟩ : ∃ x, s[i]? = some x := ⟨_, List.getElem?_eq_getElem (by omega)⟩
    have hxr := ints_row hx
    obtain ⟨x0, x1⟩ := hc.out x (List.mem_of_getElem? hx)
    have hwr := ints_at (l := w) (i := x.toNat) (by omega)
    have hv : 0 ≤ w.getD x.toNat 0 ∧ w.getD x.toNat 0 ≤ 5 := ok.out.five _ (by
      rw [List.getD_eq_getElem?_getD, List.getElem?_eq_getElem (show x.toNat < w.length by omega)]; exact List.getElem_mem _)
    have hst := sumW_take (w := w) hx
    have hb := hsb.out i
    rw [List.length_take] at hb
    generalize w.getD x.toNat 0 = v at hwr hv hst
    generalize sumW w (s.take i) = a at e5 hst hb
    have hw1 : IntKind.i64.wrap (a + v) = a + v := wr64 (by omega) (by omega)
    have hxl : x.toNat < w.length := by omega
    replace hx := Hid.mk hx
    replace hst := Hid.mk hst
    clear hv hb
    refine AL ?_
    exact ⟨s.length - (i + 1), by omega, i + 1, by omega, by omega, by simp [setF_if, *], by rw [hst.out]; simp [setF_if, *], by simp [setF_if, *], by simp [setF_if, *], by simp [setF_if, *], hH⟩
  · have ei : i = s.length := by omega
    rw [ei, List.take_length] at e5
    have hb := hsb.out s.length
    rw [List.take_length] at hb
    have ht : (sumW w s).tmod m = weiM m w s := by rw [Int.tmod_eq_emod_of_nonneg hb.1]; rfl
    generalize weiM m w s = z at ht
    clear hb
    refine AL ?_
    simp [retA, backA]
theorem different_o (G : Gv) (hA : AllH G) (n : Nat) (m : Int) (w : List Int) (L : List (Int × List Int)) (ok : OkW n m w) (hL : OkL n L) :
    GivesO Tryz.prog G 87 [.ag [.i .i64 m, .sl 0 (ints w)], .sl 0 (places L)] (.sl 1 (ints (pieceW m w L))) := by
  refine .of (.body Tryz.func87 rfl (by simp [Tryz.ntmps87]) ?_)
  rw [Tryz.ntmps87, Tryz.results87]
  have hlen := places_len L
  have hLl := hL.len
  have hml : (wMap m w L).length = L.length := by simp [wMap]
  replace hml := Hid.mk hml
  replace hL := Hid.mk hL
  replace ok := Hid.mk ok
  replace hA := Hid.mk hA
  refine AL ?_
  refine .loop (.inv (fun d E H n' => ∃ i e : Nat, i + d = L.length ∧ 2 < n' ∧ E 2 = .ptr 0 0 0 0 ∧ E 5 = .own 2 e ∧ E 9 = .sl 0 (places L) ∧ E 10 = .i .i64 L.length ∧ E 11 = .i .i64 i ∧ H 0 = some (.box 48 [.i .i64 m, .sl 0 (ints w)]) ∧ H 2 = some (.arr e 2 1 (ints (wMap m w (L.take i))) 1)) L.length ?_ ?_)
  · exact ⟨0, 0, by omega, by omega, by simp [setF_if, argE], by simp [setF_if, argE], by simp [setF_if, argE], by simp [setF_if, argE, hlen], by simp [setF_if, argE], by simp [upd_if], by simp [upd_if, wMap, ints]⟩
  rintro d E H n' ⟨i, e, hi, hnn, e2, e5, e9, e10, e11, hH0, hH2⟩
  by_cases ci : (i : Int) < L.length
  · have hw_i : IntKind.i64.wrap ((i : Int) + 1) = (i : Int) + 1 := wr64 (by omega) (by omega)
    obtain ⟨x, hx⟩ : ∃ x, L[i]? = some x := ⟨_, List.getElem?_eq_getElem (by omega)⟩
    have hxr := places_at hx
    obtain ⟨x0, x1⟩ := hL.out.cells x (List.mem_of_getElem? hx)
    have hwt := wOf_fn G n m w x.2 ok.out hL.out.n9 x0 x1
    have htk := ints_app1 (wMap m w (L.take i)) (weiM m w x.2)
    rw [show wMap m w (L.take i) ++ [weiM m w x.2] = wMap m w (L.take (i + 1)) from (take_map (fun y : Int × List Int => weiM m w y.2) hx).symm] at htk
    have hrl : (ints (wMap m w (L.take i))).length = i := by rw [ints_len]; unfold wMap; rw [List.length_map, List.length_take]; omega
    have hb : (i + 1) * 8 ≤ 140737488355328 := by omega
    have hq0 : ∀ j, (0 = n' + j) = False := fun j => by simp; omega
    have hq2 : ∀ j, (2 = n' + j) = False := fun j => by simp; omega
    obtain ⟨xk, xs⟩ := x
    generalize weiM m w xs = v at hwt htk
    simp only at hwt htk x0 x1
    replace hx := Hid.mk hx
    replace hwt := Hid.mk hwt
    replace x1 := Hid.mk x1
    refine AL ?_
    refine CV hwt.out ?_
    refine AL ?_
    exact ⟨L.length - (i + 1), by omega, i + 1, e + 1, by omega, by omega, by simp [setF_if, *], by simp [setF_if, *], by simp [setF_if, *], by simp [setF_if, *], by simp [setF_if, *], by simp [upd_if, *], by simp [upd_if, joinT, *]⟩
  · have ei : i = L.length := by omega
    rw [ei, List.take_length] at hH2
    have hdq := diff_eq (wMap m w L)
    have hsl : (sortI (wMap m w L)).length = L.length := by unfold sortI; rw [List.length_mergeSort]; exact hml.out
    refine AL ?_
    refine CI ?_
    refine WC_given (hA.out.c5 _ _ _ _ (.tup []) (H.upd 2 (.arr e 2 1 (ints (sortI (wMap m w L))) 1)) _ ⟨rfl, rfl, rfl, 2, e, _, wMap m w L, 1, rfl, hH2, rfl, by rw [hml.out]; omega⟩) ?_
    refine AL ?_
    refine CI ?_
    refine (compactI_own G (sortI (wMap m w L)) _ _ 2 e 1 2 (by omega) (by simp [upd_if]) (by omega) (by decide)).mono ?_
    rintro z H4 n4 ⟨hn4, hfr, e4, t4, rfl, ht4, hH4⟩
    rw [hdq] at hH4
    clear hfr hdq
    refine AL ?_
    exact ⟨[2], ownX_sl (ownA_mk hH4 (ints_scal _) ht4 (ints_fit _)), by simp⟩
end Go.Proofs
end
section
open Go Go.Big
namespace Go.Proofs
set_option maxHeartbeats 2000000
def plRows (Ls : List (List (Int × List Int))) : List (List PV) := Ls.map fun L => [.sl (places L)]
theorem plRows_len (Ls : List (List (Int × List Int))) : (plRows Ls).length = Ls.length := by simp [plRows]
theorem plRows_at {Ls : List (List (Int × List Int))} {i : Nat} {L : List (Int × List Int)} (h : Ls[i]? = some L) : (plRows Ls)[i]? = some [.sl (places L)] := by simp [plRows, h]
theorem allLists_fn (G : Gv) (r : Shape) (l : List PieceM) (Ls : List (List (Int × List Int))) (hl : l.length < 1000) (hLl : Ls.length = l.length) (hof : ∀ (i : Nat) (L : List (Int × List Int)), Ls[i]? = some L → Gives Tryz.prog G 88 [.ag [.sl 0 (cells r), .sl 0 (pieces l)], .i .i64 i] (.sl 1 (places L))) :
    Gives Tryz.prog G 91 [.ag [.sl 0 (cells r), .sl 0 (pieces l)]] (.sl 1 (plRows Ls)) := by
  refine .of (.body Tryz.func91 rfl (by simp [Tryz.ntmps91]) ?_)
  rw [Tryz.ntmps91, Tryz.results91]
  have hlen := pieces_len l
  replace hLl := Hid.mk hLl
  replace hof := Hid.mk hof
  refine AL ?_
  refine .loop (.inv (fun d E H n' => ∃ i e : Nat, i + d = l.length ∧ 2 < n' ∧ E 1 = .ptr 0 0 0 0 ∧ E 3 = .own 2 e ∧ E 8 = .i .i64 l.length ∧ E 9 = .i .i64 i ∧ H 0 = some (.box 35 [.sl 0 (cells r), .sl 0 (pieces l)]) ∧ H 2 = some (.arr e 81 1 (plRows (Ls.take i)) 1)) l.length ?_ ?_)
  · exact ⟨0, 0, by omega, by omega, by simp [setF_if, argE], by simp [setF_if, argE], by simp [setF_if, argE, hlen], by simp [setF_if, argE], by simp [upd_if], by simp [upd_if, plRows]⟩
  rintro d E H n' ⟨i, e, hi, hnn, e1, e3, e8, e9, hH0, hH2⟩
  by_cases ci : (i : Int) < l.length
  · have hw_i : IntKind.i64.wrap ((i : Int) + 1) = (i : Int) + 1 := wr64 (by omega) (by omega)
    obtain ⟨L, hL⟩ : ∃ L, Ls[i]? = some L := ⟨_, List.getElem?_eq_getElem (by rw [hLl.out]; omega)⟩
    have hoL := hof.out i L hL
    have htk : plRows (Ls.take i) ++ [[.sl (places L)]] = plRows (Ls.take (i + 1)) := by unfold plRows; rw [take_map _ hL]
    have hrl : (plRows (Ls.take i)).length = i := by have := hLl.out; rw [plRows_len, List.length_take]; omega
    have hb : (i + 1) * 24 ≤ 140737488355328 := by omega
    have hq2 : ∀ j, (2 = n' + j) = False := fun j => by simp; omega
    generalize plRows (Ls.take i) = R at hH2 htk hrl
    replace hL := Hid.mk hL
    replace hoL := Hid.mk hoL
    refine AL ?_
    refine CV hoL.out ?_
    refine AL ?_
    exact ⟨l.length - (i + 1), by omega, i + 1, e + 1, by omega, by omega, by simp [setF_if, *], by simp [setF_if, *], by simp [setF_if, *], by simp [setF_if, *], by simp [upd_if, *], by simp [upd_if, joinT, *]⟩
  · have ei : i = Ls.length := by rw [hLl.out]; omega
    rw [ei, List.take_length] at hH2
    have hnb : newB 1 (plRows Ls) := .inl (by decide)
    replace ei := Hid.mk ei
    refine AL ?_
    simp [retA, backA, newSl, hH2, hnb]
theorem planeWeights_wc (G : Gv) (r : Shape) (m a b c : Int) (h1 : 0 < r.length) (hr : r.length < 1000) (m2 : 2 ≤ m) (m6 : m ≤ 6) :
    WC Tryz.prog G 93 [.sl 0 (cells r), .i .i64 m, .i .i64 a, .i .i64 b, .i .i64 c] (fun _ => none) 0 (fun y Hc _ => ∃ oo e, y = .ag [.i .i64 m, .own oo e] ∧ Hc oo = some (.arr e 2 1 (ints (planeM r m a b c)) 1)) := by
  refine (.body Tryz.func93 rfl (by simp [Tryz.ntmps93]) ?_)
  rw [Tryz.ntmps93, Tryz.results93]
  have hl1 := cells_len r
  have hmod : ∀ x, Gives Tryz.prog G 159 [.i .i64 x, .i .i64 m] (.i .i64 (modV x m)) := fun x => modOf_fn G x m m2 m6
  replace hmod := Hid.mk hmod
  refine AL ?_
  refine .loop (.inv (fun d E H n' => ∃ (i : Nat) (za : AV), i + d = r.length ∧ 3 < n' ∧ E 1 = .i .i64 m ∧ E 2 = .i .i64 a ∧ E 3 = .i .i64 b ∧ E 4 = .i .i64 c ∧ E 10 = .ptr 0 0 0 0 ∧ E 11 = .ptr 3 0 0 0 ∧ E 16 = .sl 0 (cells r) ∧ E 17 = .i .i64 r.length ∧ E 18 = .i .i64 i ∧ H 0 = some (.box 48 [.i .i64 0, .nil]) ∧ H 3 = some (.box 48 [.i .i64 m, za]) ∧ (i = 0 ∧ za = .nil ∨ ∃ o e, za = .own o e ∧ 3 < o ∧ o < n' ∧ H o = some (.arr e 2 1 (ints (planeM (r.take i) m a b c)) 1))) r.length ?_ ?_)
  · exact ⟨0, .nil, by omega, by omega, by simp [setF_if, argE], by simp [setF_if, argE], by simp [setF_if, argE], by simp [setF_if, argE], by simp [setF_if, argE], by simp [setF_if, argE], by simp [setF_if, argE], by simp [setF_if, argE, hl1], by simp [setF_if, argE], by simp [upd_if], by simp [upd_if], .inl ⟨rfl, rfl⟩⟩
  rintro d E H n' ⟨i, za, hi, hnn, e1, e2, e3, e4, e10, e11, e16, e17, e18, hH0, hH3, hza⟩
  by_cases ci : (i : Int) < r.length
  · have hw_i : IntKind.i64.wrap ((i : Int) + 1) = (i : Int) + 1 := wr64 (by omega) (by omega)
    obtain ⟨x, hx⟩ : ∃ x, r[i]? = some x := ⟨_, List.getElem?_eq_getElem (by omega)⟩
    have hxr : (cells r)[i]? = some [.i .i64 x.1, .i .i64 x.2] := by simp [cells, hx]
    have htk := ints_app1 (planeM (r.take i) m a b c) (planeV m a b c x)
    rw [show planeM (r.take i) m a b c ++ [planeV m a b c x] = planeM (r.take (i + 1)) m a b c from (take_map _ hx).symm] at htk
    have hrl : (ints (planeM (r.take i) m a b c)).length = i := by rw [ints_len]; unfold planeM; rw [List.length_map, List.length_take]; omega
    have hb : (i + 1) * 8 ≤ 140737488355328 := by omega
    unfold planeV at htk
    obtain ⟨xx, xy⟩ := x
    simp only at htk hxr
    replace hx := Hid.mk hx
    have hq0 : ∀ j, (0 = n' + j) = False := fun j => by simp; omega
    have hq3 : ∀ j, (3 = n' + j) = False := fun j => by simp; omega
    rcases hza with ⟨rfl, rfl⟩ | ⟨o, e, rfl, ho, hon, hHo⟩
    · have htk0 : ints (planeM (r.take 1) m a b c) = [[.i .i64 (modV (IntKind.i64.wrap (IntKind.i64.wrap (IntKind.i64.wrap (a * xx) + IntKind.i64.wrap (b * xy)) + c)) m)]] := by rw [← htk]; rfl
      clear htk hrl
      have hnd : [3, n' + 20, n' + 21].Nodup := by simp <;> omega
      refine AX ?_
      refine FD [3, n' + 20, n' + 21] [(37, 1), (38, 2), (999999, 0)] [(22, [0]), (23, [0]), (39, [0]), (38, [1]), (999999, [2])] hnd ?_
      refine FQ ?_ (hs := by
        intro Hx hx
        have f0 : Hx (3) = _ := hx.at hnd 0 rfl (by decide)
        simp only [setF_if, upd_if, neAdd, neLt, ltAdd, addNe, ltNe, Nat.left_eq_add, Nat.add_eq_left, Nat.reduceEqDiff, Nat.add_assoc, Nat.reduceAdd, reduceIte, *] at f0
        exact EV)
      refine FQ ?_ (hs := by
        intro Hx hx
        have f0 : Hx (3) = _ := hx.at hnd 0 rfl (by decide)
        simp only [setF_if, upd_if, neAdd, neLt, ltAdd, addNe, ltNe, Nat.left_eq_add, Nat.add_eq_left, Nat.reduceEqDiff, Nat.add_assoc, Nat.reduceAdd, reduceIte, *] at f0
        exact EV)
      repeat first | refine FF ?_ | refine FS ?_
      refine FQ ?_ (hs := by
        intro Hx hx
        have f0 : Hx (n' + 3) = _ := hx.off (by simp only [List.mem_cons, List.not_mem_nil, or_false, not_or]; omega)
        simp only [setF_if, upd_if, neAdd, neLt, ltAdd, addNe, ltNe, Nat.left_eq_add, Nat.add_eq_left, Nat.reduceEqDiff, Nat.add_assoc, Nat.reduceAdd, reduceIte, *] at f0
        exact EV)
      refine FQ ?_ (hs := by
        intro Hx hx
        have f0 : Hx (n' + 3) = _ := hx.off (by simp only [List.mem_cons, List.not_mem_nil, or_false, not_or]; omega)
        simp only [setF_if, upd_if, neAdd, neLt, ltAdd, addNe, ltNe, Nat.left_eq_add, Nat.add_eq_left, Nat.reduceEqDiff, Nat.add_assoc, Nat.reduceAdd, reduceIte, *] at f0
        exact EV)
      repeat first | refine FF ?_ | refine FS ?_
      refine FQ ?_ (hs := by
        intro Hx hx
        have f0 : Hx (n' + 3) = _ := hx.off (by simp only [List.mem_cons, List.not_mem_nil, or_false, not_or]; omega)
        simp only [setF_if, upd_if, neAdd, neLt, ltAdd, addNe, ltNe, Nat.left_eq_add, Nat.add_eq_left, Nat.reduceEqDiff, Nat.add_assoc, Nat.reduceAdd, reduceIte, *] at f0
        exact EV)
      refine FQ ?_ (hs := by
        intro Hx hx
        have f0 : Hx (n' + 3) = _ := hx.off (by simp only [List.mem_cons, List.not_mem_nil, or_false, not_or]; omega)
        simp only [setF_if, upd_if, neAdd, neLt, ltAdd, addNe, ltNe, Nat.left_eq_add, Nat.add_eq_left, Nat.reduceEqDiff, Nat.add_assoc, Nat.reduceAdd, reduceIte, *] at f0
        exact EV)
      repeat first | refine FF ?_ | refine FS ?_
      refine FCP (hmod.out _) ?_
      refine FM 1 (n' + 20) ?_ (hs := by
        intro Hx hx
        exact EVM)
      refine FM 2 (n' + 21) ?_ (hs := by
        intro Hx hx
        have f0 : Hx (n' + 20) = _ := hx.at hnd 1 rfl (by decide)
        simp only [setF_if, upd_if, neAdd, neLt, ltAdd, addNe, ltNe, Nat.left_eq_add, Nat.add_eq_left, Nat.reduceEqDiff, Nat.add_assoc, Nat.reduceAdd, reduceIte, *] at f0
        exact EVM)
      refine FQ ?_ (hs := by
        intro Hx hx
        have f0 : Hx (3) = _ := hx.at hnd 0 rfl (by decide)
        simp only [setF_if, upd_if, neAdd, neLt, ltAdd, addNe, ltNe, Nat.left_eq_add, Nat.add_eq_left, Nat.reduceEqDiff, Nat.add_assoc, Nat.reduceAdd, reduceIte, *] at f0
        exact EV)
      refine FMN 0 (3) ?_ (hs := by
        intro Hx hx
        have f0 : Hx (3) = _ := hx.at hnd 0 rfl (by decide)
        simp only [setF_if, upd_if, neAdd, neLt, ltAdd, addNe, ltNe, Nat.left_eq_add, Nat.add_eq_left, Nat.reduceEqDiff, Nat.add_assoc, Nat.reduceAdd, reduceIte, *] at f0
        have f1 : Hx (n' + 21) = _ := hx.at hnd 2 rfl (by decide)
        simp only [setF_if, upd_if, neAdd, neLt, ltAdd, addNe, ltNe, Nat.left_eq_add, Nat.add_eq_left, Nat.reduceEqDiff, Nat.add_assoc, Nat.reduceAdd, reduceIte, *] at f1
        exact EVM)
      refine WF.nil ?_
      refine AX ?_
      exact ⟨r.length - (0 + 1), by omega, 0 + 1, .own (n' + 21) 0, by omega, by omega, by simp [setF_if, *], by simp [setF_if, *], by simp [setF_if, *], by simp [setF_if, *], by simp [setF_if, *], by simp [setF_if, *], by simp [setF_if, *], by simp [setF_if, *], by simp [setF_if, *], by simp [upd_if, *], by simp [upd_if, *], .inr ⟨n' + 21, 0, rfl, by omega, by omega, by simp [upd_if, *]⟩⟩
    · have hno3 : ¬ (o = 3) := by omega
      have hno0 : ¬ (0 = o) := by omega
      have hnd : [3, n' + 20, o].Nodup := by simp <;> omega
      have hnx1 : ¬ (3 = o) := by omega
      have hnx2 : ∀ j, (n' + j = o) = False := fun j => by simp; omega
      have hnx3 : ∀ j, (o = n' + j) = False := fun j => by simp; omega
      generalize ints (planeM (r.take i) m a b c) = R at hHo htk hrl
      refine AX ?_
      refine FD [3, n' + 20, o] [(37, 1), (38, 2), (999999, 0)] [(22, [0]), (23, [0]), (39, [0]), (38, [1]), (999999, [2])] hnd ?_
      refine FQ ?_ (hs := by
        intro Hx hx
        have f0 : Hx (3) = _ := hx.at hnd 0 rfl (by decide)
        simp only [setF_if, upd_if, neAdd, neLt, ltAdd, addNe, ltNe, Nat.left_eq_add, Nat.add_eq_left, Nat.reduceEqDiff, Nat.add_assoc, Nat.reduceAdd, reduceIte, *] at f0
        exact EV)
      refine FQ ?_ (hs := by
        intro Hx hx
        have f0 : Hx (3) = _ := hx.at hnd 0 rfl (by decide)
        simp only [setF_if, upd_if, neAdd, neLt, ltAdd, addNe, ltNe, Nat.left_eq_add, Nat.add_eq_left, Nat.reduceEqDiff, Nat.add_assoc, Nat.reduceAdd, reduceIte, *] at f0
        exact EV)
      repeat first | refine FF ?_ | refine FS ?_
      refine FQ ?_ (hs := by
        intro Hx hx
        have f0 : Hx (n' + 3) = _ := hx.off (by simp only [List.mem_cons, List.not_mem_nil, or_false, not_or]; omega)
        simp only [setF_if, upd_if, neAdd, neLt, ltAdd, addNe, ltNe, Nat.left_eq_add, Nat.add_eq_left, Nat.reduceEqDiff, Nat.add_assoc, Nat.reduceAdd, reduceIte, *] at f0
        exact EV)
      refine FQ ?_ (hs := by
        intro Hx hx
        have f0 : Hx (n' + 3) = _ := hx.off (by simp only [List.mem_cons, List.not_mem_nil, or_false, not_or]; omega)
        simp only [setF_if, upd_if, neAdd, neLt, ltAdd, addNe, ltNe, Nat.left_eq_add, Nat.add_eq_left, Nat.reduceEqDiff, Nat.add_assoc, Nat.reduceAdd, reduceIte, *] at f0
        exact EV)
      repeat first | refine FF ?_ | refine FS ?_
      refine FQ ?_ (hs := by
        intro Hx hx
        have f0 : Hx (n' + 3) = _ := hx.off (by simp only [List.mem_cons, List.not_mem_nil, or_false, not_or]; omega)
        simp only [setF_if, upd_if, neAdd, neLt, ltAdd, addNe, ltNe, Nat.left_eq_add, Nat.add_eq_left, Nat.reduceEqDiff, Nat.add_assoc, Nat.reduceAdd, reduceIte, *] at f0
        exact EV)
      refine FQ ?_ (hs := by
        intro Hx hx
        have f0 : Hx (n' + 3) = _ := hx.off (by simp only [List.mem_cons, List.not_mem_nil, or_false, not_or]; omega)
        simp only [setF_if, upd_if, neAdd, neLt, ltAdd, addNe, ltNe, Nat.left_eq_add, Nat.add_eq_left, Nat.reduceEqDiff, Nat.add_assoc, Nat.reduceAdd, reduceIte, *] at f0
        exact EV)
      repeat first | refine FF ?_ | refine FS ?_
      refine FCP (hmod.out _) ?_
      refine FM 1 (n' + 20) ?_ (hs := by
        intro Hx hx
        exact EVM)
      refine FM 2 (o) ?_ (hs := by
        intro Hx hx
        have f0 : Hx (n' + 20) = _ := hx.at hnd 1 rfl (by decide)
        simp only [setF_if, upd_if, neAdd, neLt, ltAdd, addNe, ltNe, Nat.left_eq_add, Nat.add_eq_left, Nat.reduceEqDiff, Nat.add_assoc, Nat.reduceAdd, reduceIte, *] at f0
        have f1 : Hx (o) = _ := hx.at hnd 2 rfl (by decide)
        simp only [setF_if, upd_if, neAdd, neLt, ltAdd, addNe, ltNe, Nat.left_eq_add, Nat.add_eq_left, Nat.reduceEqDiff, Nat.add_assoc, Nat.reduceAdd, reduceIte, *] at f1
        exact EVM)
      refine FQ ?_ (hs := by
        intro Hx hx
        have f0 : Hx (3) = _ := hx.at hnd 0 rfl (by decide)
        simp only [setF_if, upd_if, neAdd, neLt, ltAdd, addNe, ltNe, Nat.left_eq_add, Nat.add_eq_left, Nat.reduceEqDiff, Nat.add_assoc, Nat.reduceAdd, reduceIte, *] at f0
        exact EV)
      refine FMN 0 (3) ?_ (hs := by
        intro Hx hx
        have f0 : Hx (3) = _ := hx.at hnd 0 rfl (by decide)
        simp only [setF_if, upd_if, neAdd, neLt, ltAdd, addNe, ltNe, Nat.left_eq_add, Nat.add_eq_left, Nat.reduceEqDiff, Nat.add_assoc, Nat.reduceAdd, reduceIte, *] at f0
        have f1 : Hx (o) = _ := hx.at hnd 2 rfl (by decide)
        simp only [setF_if, upd_if, neAdd, neLt, ltAdd, addNe, ltNe, Nat.left_eq_add, Nat.add_eq_left, Nat.reduceEqDiff, Nat.add_assoc, Nat.reduceAdd, reduceIte, *] at f1
        exact EVM)
      refine WF.nil ?_
      refine AX ?_
      exact ⟨r.length - (i + 1), by omega, i + 1, .own o (e + 1), by omega, by omega, by simp [setF_if, *], by simp [setF_if, *], by simp [setF_if, *], by simp [setF_if, *], by simp [setF_if, *], by simp [setF_if, *], by simp [setF_if, *], by simp [setF_if, *], by simp [setF_if, *], by simp [upd_if, *], by simp [upd_if, *], .inr ⟨o, e + 1, rfl, by omega, by omega, by simp [upd_if, *]⟩⟩
  · have ei : i = r.length := by omega
    rcases hza with ⟨e0, rfl⟩ | ⟨o, e, rfl, ho, hon, hHo⟩
    · omega
    · rw [ei, List.take_length] at hHo
      have hnx1 : ¬ (o = 0) := by omega
      refine AL ?_
      exact ⟨o, e, by simp [retA, upd_if], by simp [upd_if, hHo, hnx1]⟩
theorem refutes_fn (G : Gv) (r : Shape) (l : List PieceM) (m : Int) (w : List Int) (Ls : List (List (Int × List Int))) (Ds : List (List Int)) (ok : OkW r.length m w) (hr : r.length < 1000) (hok : OkD l Ds) (hLl : Ls.length = l.length) (hP : ∀ (i : Nat) (L : List (Int × List Int)) (D : List Int), Ls[i]? = some L → Ds[i]? = some D → Gives Tryz.prog G 87 [.ag [.i .i64 m, .sl 0 (ints w)], .sl 0 (places L)] (.sl 1 (ints D))) :
    Gives Tryz.prog G 90 [.ag [.i .i64 m, .sl 0 (ints w)], .ag [.sl 0 (cells r), .sl 0 (pieces l)], .sl 0 (plRows Ls)] (.b (refM m w (l.map (·.k)) Ds)) := by
  refine .of (.body Tryz.func90 rfl (by simp [Tryz.ntmps90]) ?_)
  rw [Tryz.ntmps90, Tryz.results90]
  have hl1 := ints_len w
  have hl2 := pieces_len l
  have hl3 := plRows_len Ls
  have m2 := ok.m2
  have m6 := ok.m6
  have hw9 : w.length < 1000 := by have := ok.len; omega
  have hl9 := hok.l9
  have hdl := Hid.mk hok.len
  have h5 := sum_bd ok.five
  have h5t := fun i => sum_bd (take_all5 ok.five i)
  have hcb := sumC_bd hok.k8 hok.five
  replace ok := Hid.mk ok
  replace hok := Hid.mk hok
  replace hP := Hid.mk hP
  replace h5t := Hid.mk h5t
  replace hcb := Hid.mk hcb
  have hLs9 : Ls.length < 1000 := by omega
  replace hLl := Hid.mk hLl
  refine AL ?_
  refine .loop (.inv (fun d E H n' => ∃ j : Nat, j + d = Ls.length ∧ 2 < n' ∧ E 3 = .ptr 0 0 0 0 ∧ E 4 = .ptr 1 0 0 0 ∧ E 7 = .i .i64 (sumC (l.map (·.k)) Ds j) ∧ E 8 = .b ((Ds.take j).any nilD) ∧ E 15 = .sl 0 (plRows Ls) ∧ E 16 = .i .i64 Ls.length ∧ E 17 = .i .i64 j ∧ H 0 = some (.box 48 [.i .i64 m, .sl 0 (ints w)]) ∧ H 1 = some (.box 35 [.sl 0 (cells r), .sl 0 (pieces l)]) ∧ (Ds.take j).any bigD = false) Ls.length ?_ ?_)
  · exact ⟨0, by omega, by omega, by simp [setF_if, argE], by simp [setF_if, argE], by simp [setF_if, argE, sumC], by simp [setF_if, argE], by simp [setF_if, argE], by simp [setF_if, argE, hl3], by simp [setF_if, argE], by simp [upd_if], by simp [upd_if], by simp⟩
  rintro d E H n' ⟨j, hj, hnn, e3, e4, e7, e8, e15, e16, e17, hH0, hH1, hbig⟩
  replace hbig := Hid.mk hbig
  by_cases cj : (j : Int) < Ls.length
  · have hw_j : IntKind.i64.wrap ((j : Int) + 1) = (j : Int) + 1 := wr64 (by omega) (by omega)
    obtain ⟨L, hL⟩ : ∃ L, Ls[j]? = some L := ⟨_, List.getElem?_eq_getElem (by omega)⟩
    obtain ⟨p, hp⟩ : ∃ p, l[j]? = some p := ⟨_, List.getElem?_eq_getElem (by rw [← hLl.out]; omega)⟩
    obtain ⟨D, hD⟩ : ∃ D, Ds[j]? = some D := ⟨_, List.getElem?_eq_getElem (by rw [hdl.out, ← hLl.out]; omega)⟩
    have hjl : j < l.length := by rw [← hLl.out]; omega
    have hLr := plRows_at hL
    have hpr := pieces_at hp
    have hPD := hP.out j L D hL hD
    have hDl := ints_len D
    have hD9 := hok.out.lens D (List.mem_of_getElem? hD)
    have hD5 := hok.out.five D (List.mem_of_getElem? hD)
    have hk8 := hok.out.ks p (List.mem_of_getElem? hp)
    have hsc := sumC_step hp hD
    have hn1 := take_anyG (p := nilD) hD
    have hg1 := take_anyG (p := bigD) hD
    rw [hbig.out, Bool.false_or] at hg1
    have hcj := hcb.out j
    generalize sumC (l.map (·.k)) Ds j = a at e7 hsc hcj
    generalize (Ds.take j).any nilD = nn at e8 hn1
    replace hp := Hid.mk hp
    replace hL := Hid.mk hL
    replace hPD := Hid.mk hPD
    replace hD5 := Hid.mk hD5
    replace hsc := Hid.mk hsc
    replace hn1 := Hid.mk hn1
    replace hg1 := Hid.mk hg1
    by_cases cb : (D.length : Int) > 1
    · have hf : refM m w (l.map (·.k)) Ds = false := by
        unfold refM
        rw [any_atG hD (by unfold bigD; simpa using cb)]; rfl
      replace hD := Hid.mk hD
      refine AL ?_
      refine CV hPD.out ?_
      refine AL ?_
      simp [retA, backA, hf]
    · have hbf : bigD D = false := by unfold bigD; simpa using cb
      replace hD := Hid.mk hD
      replace hbf := Hid.mk hbf
      by_cases cz : D.length = 0
      · have hnt : nilD D = true := by unfold nilD; simp [cz]
        have hz := headD_zero cz
        have hz1 : ((D.length : Int) == 0) = true := by simp [cz]
        have e6z : sumC (l.map (·.k)) Ds (j + 1) = a := by rw [hsc.out, hz]; omega
        replace e6z := Hid.mk e6z
        replace hnt := Hid.mk hnt
        replace hz := Hid.mk hz
        replace cz := Hid.mk cz
        refine AL ?_
        refine CV hPD.out ?_
        refine AL ?_
        exact ⟨Ls.length - (j + 1), by omega, j + 1, by omega, by omega, by simp [setF_if, *], by simp [setF_if, *], by rw [e6z.out]; simp [setF_if, *], by simp [setF_if, hn1.out, hnt.out], by simp [setF_if, *], by simp [setF_if, *], by simp [setF_if, *], hH0, hH1, by rw [hg1.out, hbf.out]⟩
      · have hnf : nilD D = false := by unfold nilD; simp [cz]
        have hz1 : ((D.length : Int) == 0) = false := by simp [cz]
        have hD0 := ints_at (l := D) (i := 0) (by omega)
        have hv := hD5.out (D.getD 0 0) (by rw [List.getD_eq_getElem?_getD, List.getElem?_eq_getElem (show 0 < D.length by omega)]; exact List.getElem_mem _)
        have hD1 : 0 < D.length := by omega
        have hsc2 := hsc.out
        generalize D.getD 0 0 = v at hD0 hv hsc2
        have hm1 : 0 ≤ p.k * v := Int.mul_nonneg hk8.1 hv.1
        have hm2 : p.k * v ≤ 8 * 5 := Int.mul_le_mul hk8.2 hv.2 hv.1 (by omega)
        have hw1 : IntKind.i64.wrap (p.k * v) = p.k * v := wr64 (by omega) (by omega)
        have hw2 : IntKind.i64.wrap (a + p.k * v) = a + p.k * v := wr64s (by omega) (by omega)
        replace hsc2 := Hid.mk hsc2
        replace hnf := Hid.mk hnf
        clear hv hm1 hm2 hk8 hcj
        refine AL ?_
        refine CV hPD.out ?_
        refine AL ?_
        exact ⟨Ls.length - (j + 1), by omega, j + 1, by omega, by omega, by simp [setF_if, *], by simp [setF_if, *], by rw [hsc2.out]; simp [setF_if, *], by simp [setF_if, hn1.out, hnf.out, *], by simp [setF_if, *], by simp [setF_if, *], by simp [setF_if, *], hH0, hH1, by rw [hg1.out, hbf.out]⟩
  have ej : j = Ds.length := by rw [hdl.out, ← hLl.out]; omega
  have hbig2 := hbig.out
  rw [ej, List.take_length] at hbig2 e8
  rw [ej] at e7
  have hcD := hcb.out Ds.length
  have hres : refM m w (l.map (·.k)) Ds = (Ds.any nilD || modV (w.sum - sumC (l.map (·.k)) Ds Ds.length) m != 0) := by
    unfold refM; rw [hbig2]; rfl
  rw [hres]
  have hD9 : Ds.length < 1000 := by rw [hdl.out]; exact hl9
  generalize sumC (l.map (·.k)) Ds Ds.length = cc at e7 hcD ⊢
  replace ej := Hid.mk ej
  replace hbig2 := Hid.mk hbig2
  clear hres
  refine AL ?_
  refine .loop (.inv (fun d E H n' => ∃ i : Nat, i + d = w.length ∧ 2 < n' ∧ E 3 = .ptr 0 0 0 0 ∧ E 7 = .i .i64 cc ∧ E 8 = .b (Ds.any nilD) ∧ E 12 = .i .i64 (w.take i).sum ∧ E 45 = .sl 0 (ints w) ∧ E 46 = .i .i64 w.length ∧ E 47 = .i .i64 i ∧ H 0 = some (.box 48 [.i .i64 m, .sl 0 (ints w)])) w.length ?_ ?_)
  · exact ⟨0, by omega, by omega, by simp [setF_if, *], by simp [setF_if, *], by simp [setF_if, *], by simp [setF_if, *], by simp [setF_if, *], by simp [setF_if, *], by simp [setF_if, *], hH0⟩
  clear e3 e4 e7 e8 e15 e16 e17 hH0 hH1 hnn
  rintro d E H n' ⟨i, hi, hnn, e3, e7, e8, e12, e45, e46, e47, hH0⟩
  by_cases ci : (i : Int) < w.length
  · have hw_i : IntKind.i64.wrap ((i : Int) + 1) = (i : Int) + 1 := wr64 (by omega) (by omega)
    obtain ⟨x, hx⟩ : ∃ x, w[i]? = some x := ⟨_, List.getElem?_eq_getElem (by omega)⟩
    have hxr := ints_row hx
    have hst := sum_take hx
    have hb := h5t.out i
    have hx5 := ok.out.five x (List.mem_of_getElem? hx)
    rw [List.length_take] at hb
    generalize (w.take i).sum = a at e12 hst hb
    have hw1 : IntKind.i64.wrap (a + x) = a + x := wr64 (by omega) (by omega)
    replace hx := Hid.mk hx
    replace hst := Hid.mk hst
    clear hb hx5 h5
    refine AL ?_
    exact ⟨w.length - (i + 1), by omega, i + 1, by omega, by omega, by simp [setF_if, *], by simp [setF_if, *], by simp [setF_if, *], by rw [hst.out]; simp [setF_if, *], by simp [setF_if, *], by simp [setF_if, *], by simp [setF_if, *], hH0⟩
  · have ei : i = w.length := by omega
    rw [ei, List.take_length] at e12
    generalize w.sum = ws at e12 h5 ⊢
    have hw1 : IntKind.i64.wrap (ws - cc) = ws - cc := wr64s (by omega) (by omega)
    have hmd := modOf_fn G (ws - cc) m m2 m6
    generalize modV (ws - cc) m = z at hmd ⊢
    generalize Ds.any nilD = bz at e8 ⊢
    replace hmd := Hid.mk hmd
    cases bz with
    | true =>
      refine AL ?_
      simp [retA, backA]
    | false =>
      refine AL ?_
      refine CV hmd.out ?_
      refine AL ?_
      simp [retA, backA]
end Go.Proofs
end
section
open Go Go.Big
namespace Go.Proofs
set_option maxHeartbeats 2000000
def allB (r : Shape) (l : List PieceM) (i : Nat) : List (Int × List Int) := (List.range i).flatMap fun k : Nat => listB r k (formsP (l.getD k pc0))
theorem allB_succ (r : Shape) (l : List PieceM) (i : Nat) : allB r l (i + 1) = allB r l i ++ listB r i (formsP (l.getD i pc0)) := by simp [allB, List.range_succ]
theorem flatMap_len {α β : Type} {f : α → List β} {n : Nat} : ∀ {l : List α}, (∀ x ∈ l, (f x).length ≤ n) → (l.flatMap f).length ≤ l.length * n
  | [], _ => by simp
  | x :: l, h => by
    have h1 := h x List.mem_cons_self
    have h2 := flatMap_len (l := l) (fun y hy => h y (List.mem_cons_of_mem _ hy))
    rw [List.flatMap_cons, List.length_append, List.length_cons, Nat.add_mul, Nat.one_mul]; omega
theorem listA_len (r : Shape) (i : Int) (fs : List Shape) : (listA r i fs).length ≤ fs.length * r.length := flatMap_len fun f _ => List.length_filterMap_le _ _
theorem getD_mem {l : List PieceM} {i : Nat} (hi : i < l.length) : l.getD i pc0 ∈ l := by
  rw [List.getD_eq_getElem?_getD, List.getElem?_eq_getElem hi]; exact List.getElem_mem hi
theorem listB_len {r : Shape} {l : List PieceM} (h : puzzleS r l = true) {p : PieceM} (hp : p ∈ l) (i : Int) : (listB r i (formsP p)).length ≤ 320 := by
  rw [← places_eq h hp i, (orderP_perm _).length_eq]
  have h1 := listA_len r i (formsI p)
  have h2 := (formsI_ok p).1
  have h3 := (puzzle_facts h).2.2.1
  have := Nat.mul_le_mul h2 h3
  omega
theorem allB_len {r : Shape} {l : List PieceM} (h : puzzleS r l = true) {i : Nat} (hi : i ≤ l.length) : (allB r l i).length ≤ i * 320 := by
  have := flatMap_len (l := List.range i) (f := fun k : Nat => listB r k (formsP (l.getD k pc0))) (n := 320) (fun k hk => listB_len h (getD_mem (by have := List.mem_range.mp hk; omega)) _)
  rwa [List.length_range] at this
theorem listB_mem {r : Shape} {l : List PieceM} (h : puzzleS r l = true) {p : PieceM} (hp : p ∈ l) {i : Int} {x : Int × List Int} (hx : x ∈ listB r i (formsP p)) : x.1 = i ∧ x.2.length = p.cs.length ∧ (∀ c ∈ x.2, 0 ≤ c ∧ c < r.length) := by
  rw [← places_eq h hp i] at hx
  have hx := (orderP_perm _).mem_iff.mp hx
  have hc := listA_cells (r := r) (i := i) (fs := formsI p) (n := p.cs.length) (formsI_ok p).2 x hx
  unfold listA rowA at hx
  obtain ⟨f, hf, hx⟩ := List.mem_flatMap.mp hx
  obtain ⟨c, _, hx⟩ := List.mem_filterMap.mp hx
  obtain ⟨e1, e2⟩ := gM_some hx
  exact ⟨e1, hc, (setM_some e2).2.2.2⟩
theorem allB_mem {r : Shape} {l : List PieceM} (h : puzzleS r l = true) {i : Nat} (hi : i ≤ l.length) {x : Int × List Int} (hx : x ∈ allB r l i) : (0 ≤ x.1 ∧ x.1 < i) ∧ 0 < x.2.length ∧ x.2.length ≤ 40 ∧ ∀ c ∈ x.2, 0 ≤ c ∧ c < r.length := by
  obtain ⟨k, hk, hx⟩ := List.mem_flatMap.mp hx
  have hk := List.mem_range.mp hk
  have hm := getD_mem (l := l) (i := k) (by omega)
  obtain ⟨e1, e2, e3⟩ := listB_mem h hm hx
  obtain ⟨g1, g2⟩ := (puzzle_facts h).2.2.2.2.2.2 _ hm
  exact ⟨by omega, by omega, by omega, e3⟩
theorem ownPs_len {H : Heap} : ∀ {ps qs : List PV} {S : List Nat}, ownPs H ps qs S → ps.length = qs.length
  | [], _, _, ⟨rfl, _⟩ => rfl
  | p :: ps, _, _, ⟨q, qs', s, s', rfl, _, _, h2⟩ => by simp [ownPs_len h2]
theorem ownRs_row {H : Heap} : ∀ {rows q : List (List PV)} {S : List Nat}, ownRs H rows q S → ∀ r ∈ rows, ∃ q2 ∈ q, ∃ s, ownPs H r q2 s
  | [], _, _, _ => by simp
  | r :: rs, _, _, ⟨a, b, s, s', rfl, _, h1, h2⟩ => fun x hx => by
    rcases List.mem_cons.mp hx with rfl | hx
    · exact ⟨a, List.mem_cons_self, s, h1⟩
    · obtain ⟨q2, g1, g2⟩ := ownRs_row h2 x hx
      exact ⟨q2, List.mem_cons_of_mem _ g1, g2⟩
theorem places_fit (l : List (Int × List Int)) : decide (∀ r ∈ places l, r.length = 2) = true := decide_eq_true fun r hr => by obtain ⟨y, _, rfl⟩ := List.mem_map.mp hr; rfl
theorem l12All_fn (G : Gv) (r : Shape) (l : List PieceM) (c : puzzleS r l = true) :
    Gives Tryz.prog G 138 [.ag [.sl 0 (cells r), .sl 0 (pieces l)]] (.sl 1 (places (allB r l l.length))) := by
  refine .of (.body Tryz.func138 rfl (by simp [Tryz.ntmps138]) ?_)
  rw [Tryz.ntmps138, Tryz.results138]
  have hlen := pieces_len l
  obtain ⟨g1, g2, g3, g4, g5, ⟨g6, g7⟩, g8⟩ := puzzle_facts c
  replace g1 := Hid.mk g1
  replace g8 := Hid.mk g8
  refine AL ?_
  refine .loop (.inv (fun d E H n' => ∃ i : Nat, i + d = l.length ∧ 2 < n' ∧ E 1 = .ptr 0 0 0 0 ∧ E 4 = .i .i64 i ∧ H 0 = some (.box 35 [.sl 0 (cells r), .sl 0 (pieces l)]) ∧ ∃ e, E 3 = .own 2 e ∧ H 2 = some (.arr e 110 2 (places (allB r l i)) 1)) l.length ?_ ?_)
  · exact ⟨0, by omega, by omega, by simp [setF_if, argE], by simp [setF_if, argE], by simp [upd_if], 0, by simp [setF_if, argE], by simp [upd_if, allB, places]⟩
  rintro d E H n' ⟨i, hi, hn, h1, h4, hH0, e, h3, hH2⟩
  by_cases ci : (i : Int) < l.length
  · have hw_i : IntKind.i64.wrap ((i : Int) + 1) = (i : Int) + 1 := wr64 (by omega) (by omega)
    have hil : i < l.length := by omega
    obtain ⟨p, hp⟩ : ∃ p, l[i]? = some p := ⟨_, List.getElem?_eq_getElem hil⟩
    have hpm := List.mem_of_getElem? hp
    have hpd : l.getD i pc0 = p := by rw [List.getD_eq_getElem?_getD, hp]; rfl
    have hf := l12Of_fn G r l i p hp (g8.out p hpm).1 (by have := (g8.out p hpm).2; omega) g2 (by omega) (by omega) (by omega)
    have hs := allB_succ r l i
    rw [hpd] at hs
    have htk : places (allB r l i) ++ places (listB r i (formsP p)) = places (allB r l (i + 1)) := by rw [hs, places_app]
    have hl1 := places_len (allB r l i)
    have hl2 := places_len (listB r i (formsP p))
    have hb1 := allB_len c (i := i) (by omega)
    have hb2 := listB_len c hpm i
    have hft := places_fit (listB r i (formsP p))
    generalize places (allB r l i) = R1 at hH2 htk hl1
    generalize places (listB r i (formsP p)) = R2 at hf htk hl2 hft
    have hb : (R1.length + R2.length) * 32 ≤ 140737488355328 := by omega
    clear hl1 hl2 hb1 hb2 hs
    replace hf := Hid.mk hf
    replace hp := Hid.mk hp
    replace hpm := Hid.mk hpm
    replace hpd := Hid.mk hpd
    refine AL ?_
    refine CV hf.out ?_
    refine AL ?_
    exact ⟨l.length - (i + 1), by omega, i + 1, by omega, by omega, by simp [setF_if, *], by simp [setF_if, *], by simp [upd_if, *], e + 1, by simp [setF_if, *], by simp [upd_if, joinT, *]⟩
  · have ei : i = l.length := by omega
    rw [ei] at hH2
    have hnb : newB 1 (places (allB r l l.length)) := .inl (by decide)
    refine AL ?_
    simp [retA, backA, newSl, *]
theorem allPlacements_o (G : Gv) (hA : AllG G) (r : Shape) (l : List PieceM) (c : puzzleS r l = true) :
    GivesO Tryz.prog G 77 [.ag [.sl 0 (cells r), .sl 0 (pieces l)]] (.sl 1 (places (allB r l l.length))) := by
  refine .of (.body Tryz.func77 rfl (by simp [Tryz.ntmps77]) ?_)
  rw [Tryz.ntmps77, Tryz.results77]
  have hlen := pieces_len l
  obtain ⟨g1, g2, g3, g4, g5, g6, g8⟩ := puzzle_facts c
  replace g1 := Hid.mk g1
  replace g6 := Hid.mk g6
  replace g8 := Hid.mk g8
  replace hA := Hid.mk hA
  refine AL ?_
  refine .loop (.inv (fun d E H n' => ∃ (i e t' : Nat) (rows : List (List PV)) (S : List Nat), i + d = l.length ∧ 2 < n' ∧ E 1 = .ptr 0 0 0 0 ∧ E 3 = .own 2 e ∧ E 8 = .i .i64 l.length ∧ E 9 = .i .i64 i ∧ H 0 = some (.box 35 [.sl 0 (cells r), .sl 0 (pieces l)]) ∧ H 2 = some (.arr e 110 2 rows t') ∧
      tagOk t' rows ∧ fitR 2 rows ∧ ownRs H rows (places (allB r l i)) S ∧ S.Nodup ∧ (∀ o ∈ S, 2 < o ∧ o < n') ∧ (rows = [] → t' ≠ 2)) l.length ?_ ?_)
  · exact ⟨0, 0, 1, [], [], by omega, by omega, by simp [setF_if, argE], by simp [setF_if, argE], by simp [setF_if, argE, hlen], by simp [setF_if, argE], by simp [upd_if], by simp [upd_if], .inr (fun r hr => by simp at hr), fun r hr => by simp at hr, ⟨rfl, rfl⟩, by simp, by simp, fun _ => by decide⟩
  rintro d E H n' ⟨i, e, t', rows, S, hi, hn, h1, h3, h8, h9, hH0, hH2, htag, hfit, hown, hnd, hlt, hnil⟩
  have hrl := ownRs_len hown
  rw [places_len] at hrl
  replace htag := Hid.mk htag
  replace hfit := Hid.mk hfit
  replace hown := Hid.mk hown
  replace hnd := Hid.mk hnd
  replace hlt := Hid.mk hlt
  replace hnil := Hid.mk hnil
  by_cases ci : (i : Int) < l.length
  · have hw_i : IntKind.i64.wrap ((i : Int) + 1) = (i : Int) + 1 := wr64 (by omega) (by omega)
    have hil : i < l.length := by omega
    obtain ⟨p, hp⟩ : ∃ p, l[i]? = some p := ⟨_, List.getElem?_eq_getElem hil⟩
    have hpm := List.mem_of_getElem? hp
    have hpd : l.getD i pc0 = p := by rw [List.getD_eq_getElem?_getD, hp]; rfl
    have hf := placementsOf_o G hA.out r l i p hp (g8.out p hpm).1 (by have := (g8.out p hpm).2; omega) g1.out (by omega) (by omega) (listA_nodup' c hpm _)
    rw [places_eq c hpm i] at hf
    have hs := allB_succ r l i
    rw [hpd] at hs
    have hb1 := allB_len c (i := i) (by omega)
    have hb2 := listB_len c hpm i
    have hra : rows.length ≤ 3840 := by omega
    generalize listB r i (formsP p) = L2 at hf hs hb2
    clear hrl hb1
    replace hf := Hid.mk hf
    replace hp := Hid.mk hp
    replace hpm := Hid.mk hpm
    replace hpd := Hid.mk hpd
    replace hs := Hid.mk hs
    refine AL ?_
    refine CWO1 hf.out ?_
    intro z H1 S1 m hz hn1 hS hf1 hm hz1
    have f0 := (hf1 0 (by omega)).trans hH0
    have f2 := (hf1 2 (by omega)).trans hH2
    have hS3 : ∀ o ∈ S1, 2 < o ∧ o < m := fun o h => by have := hS o h; omega
    have hSd : ∀ o ∈ S, o ∉ S1 := fun o h1 h2 => by have := hlt.out o h1; have := hS o h2; omega
    have hown1 := ownRs_congr (fun o ho => hf1 o (by have := hlt.out o ho; omega)) hown.out
    have hlt1 : ∀ o ∈ S, 2 < o ∧ o < m := fun o h => by have := hlt.out o h; omega
    have hm2 : 2 < m := by omega
    have hnd1 := hnd.out
    clear hf hf1 hown hlt hS hH0 hH2
    replace hSd := Hid.mk hSd
    replace hown1 := Hid.mk hown1
    replace hlt1 := Hid.mk hlt1
    replace hnd1 := Hid.mk hnd1
    replace hn1 := Hid.mk hn1
    have hm0 : ¬ (0 = m) := by omega
    replace hz1 := Hid.mk hz1
    rcases ownX_un hz with ⟨o, eo, ty, sz, rows2, t2, S', rfl, hHo, rfl, hR2, ht2, ht2', hf2⟩ | ⟨hz2, hq, rfl⟩
    · have ho3 := hS3 o List.mem_cons_self
      have hS4 : ∀ o ∈ S', 2 < o ∧ o < m := fun o h => hS3 o (List.mem_cons_of_mem _ h)
      have n3 : ¬ o = 2 := by omega
      have hr2l := ownRs_len hR2
      rw [places_len] at hr2l
      have hb : (rows.length + rows2.length) * 32 ≤ 140737488355328 := by omega
      have hfit2 : (sz == 2) = true ∨ rows2 = [] := by
        by_cases q : rows2 = []
        · exact .inr q
        · obtain ⟨r0, hr0⟩ := List.exists_mem_of_ne_nil _ q
          have h5 := hf2 r0 hr0
          have h6 : r0.length = 2 := by
            obtain ⟨q2, hq2, s, e1⟩ := ownRs_row hR2 r0 hr0
            obtain ⟨y, _, rfl⟩ := List.mem_map.mp hq2
            rw [ownPs_len e1]; rfl
          exact .inl (by rw [← h5, h6]; rfl)
      have hfit3 : fitR 2 (rows ++ rows2) := fun r hr => by
        rcases List.mem_append.mp hr with hr | hr
        · exact hfit.out r hr
        · rcases hfit2 with q | q
          · rw [hf2 r hr]; simpa using q
          · rw [q] at hr; simp at hr
      clear hz hS3 hr2l hf2
      replace hR2 := Hid.mk hR2
      replace ht2 := Hid.mk ht2
      replace ht2' := Hid.mk ht2'
      replace hS4 := Hid.mk hS4
      replace hfit3 := Hid.mk hfit3
      have hn1' := List.nodup_cons.mp hn1.out
      replace hn1' := Hid.mk hn1'
      refine AL ?_
      refine ⟨l.length - (i + 1), by omega, i + 1, e + 1, joinT t' t2, rows ++ rows2, S ++ S', by omega, by omega, by simp [setF_if, *], by simp [setF_if, *], by simp [setF_if, *], by simp [setF_if, *], by simp [upd_if, *], by simp [upd_if, joinT, *], tag_app htag.out ht2.out, hfit3.out, ?_, ?_, ?_, fun h => ?_⟩
      · rw [hs.out, places_app]
        exact ownRs_append (ownRs_congr (fun x hx => by have := hlt1.out x hx; rw [upd_if, if_neg (by omega)]) hown1.out) (ownRs_congr (fun x hx => by have := hS4.out x hx; rw [upd_if, if_neg (by omega)]) hR2.out)
      · exact List.nodup_append.mpr ⟨hnd1.out, hn1'.out.2, fun x hx y hy e => hSd.out x hx (e ▸ List.mem_cons_of_mem _ hy)⟩
      · intro x hx
        rcases List.mem_append.mp hx with hx | hx
        · exact ⟨(hlt1.out x hx).1, by have := (hlt1.out x hx).2; omega⟩
        · exact ⟨(hS4.out x hx).1, by have := (hS4.out x hx).2; omega⟩
      · obtain ⟨e1, e2⟩ := List.append_eq_nil_iff.mp h
        subst e1 e2
        exact joinT_ne (hnil.out rfl) (ht2'.out (fun r hr => by simp at hr))
    · have hL : L2 = [] := List.map_eq_nil_iff.mp hq
      subst hL
      have hs2 : allB r l (i + 1) = allB r l i := by rw [hs.out, List.append_nil]
      have hb : rows.length * 32 ≤ 140737488355328 := by omega
      clear hz hS3 hq
      replace hs2 := Hid.mk hs2
      rcases hz2 with rfl | ⟨t2, rfl⟩
      · refine AL ?_
        exact ⟨l.length - (i + 1), by omega, i + 1, e + 1, joinT t' 1, rows, S, by omega, by omega, by simp [setF_if, *], by simp [setF_if, *], by simp [setF_if, *], by simp [setF_if, *], by simp [upd_if, *], by simp [upd_if, joinT, *], tag_join htag.out, hfit.out, by rw [hs2.out]; exact ownRs_congr (fun x hx => by have := hlt1.out x hx; rw [upd_if, if_neg (by omega)]) hown1.out, hnd1.out, fun x hx => ⟨(hlt1.out x hx).1, by have := (hlt1.out x hx).2; omega⟩, fun h => joinT_ne (hnil.out h) (by decide)⟩
      · obtain rfl := hz1.out _ _ rfl
        clear hz1
        refine AL ?_
        exact ⟨l.length - (i + 1), by omega, i + 1, e + 1, joinT t' 1, rows, S, by omega, by omega, by simp [setF_if, *], by simp [setF_if, *], by simp [setF_if, *], by simp [setF_if, *], by simp [upd_if, *], by simp [upd_if, joinT, *], tag_join htag.out, hfit.out, by rw [hs2.out]; exact ownRs_congr (fun x hx => by have := hlt1.out x hx; rw [upd_if, if_neg (by omega)]) hown1.out, hnd1.out, fun x hx => ⟨(hlt1.out x hx).1, by have := (hlt1.out x hx).2; omega⟩, fun h => joinT_ne (hnil.out h) (by decide)⟩
  · have ei : i = l.length := by omega
    rw [ei] at hown
    refine AL ?_
    exact ⟨2 :: S, ownX_sl (tagOk_own hH2 hown.out htag.out (ownRs_ns hown.out (places_ns _)) hfit.out hnil.out), List.nodup_cons.mpr ⟨fun h => by have := (hlt.out 2 h).1; omega, hnd.out⟩⟩
end Go.Proofs
end
