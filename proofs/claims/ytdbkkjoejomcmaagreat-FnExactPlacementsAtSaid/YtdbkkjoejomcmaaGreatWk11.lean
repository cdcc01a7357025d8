/- Walks: Placements at a cell: both programs' functions. No condition. | Numbers written into puzzles and placements; held in them. No condition. | Placements whose numbers are still those that were written. No condition. | The statement's law: it answers true if the two agree. No condition. | The row of FnExactPlacementsAt, out of what is left: two plain functions agree. No condition. | Plain law: all placements of a piece, both programs. No condition. | Plain law: the placements at a cell, both programs. No condition. | The sorts' contracts hold. No condition. -/
import Derived.Test.YtdbkkjoejomcmaaGreatBO
import Derived.Test.YtdbkkjoejomcmaaGreatWk10
import Derived.Test.YtdbkkjoejomcmaaGreatWk3
import Derived.Test.YtdbkkjoejomcmaaGreatWk8
import Derived.Test.YtdbkkjoejomcmaaGreatBC
import Derived.Test.YtdbkkjoejomcmaaGreatBigOpen
import Derived.Test.YtdbkkjoejomcmaaGreatRows
import Derived.WalkKit
import Derived.ProofKit
import Derived.OpenShut
import Derived.ShutString
import Derived.ChangeOld
import Derived.Below
import Derived.SizedLaws
import Derived.Test.YtdbkkjoejomcmaaGreatWk9
import Derived.Test.YtdbkkjoejomcmaaGreatShelf
set_option linter.unusedVariables false
set_option linter.unusedSimpArgs false
section
open Go Go.Big
namespace Go.Proofs
set_option maxHeartbeats 2000000
def atM (k : Int) (x : Int × List Int) : Bool := x.2.getD 0 0 == k
def patS (r : Shape) (l : List PieceM) (k : Int) : List (Int × List Int) × Int := if puzzleS r l then (if inM k r.length then ((allB r l l.length).filter (atM k), 0) else ([], 2)) else ([], 1)
def patI (r : Shape) (l : List PieceM) (k : Int) : List (Int × List Int) × Int := if puzzleI r l then (if inM k r.length then ((allB r l l.length).filter (atM k), 0) else ([], 2)) else ([], 1)
theorem specPlacementsAt_fn (G : Gv) (r : Shape) (l : List PieceM) (k : Int) (hr : r.length < 1000000000) (hl : l.length < 1000000000) (hpl : ∀ p ∈ l, p.cs.length < 1000000000) :
    Gives Tryz.prog G 35 [.ag [.sl 0 (cells r), .sl 0 (pieces l)], .i .i64 k] (.tup [.sl 1 (places (patS r l k).1), .i .i64 (patS r l k).2]) := by
  refine .of (.body Tryz.func35 rfl (by simp [Tryz.ntmps35]) ?_)
  rw [Tryz.ntmps35, Tryz.results35]
  have hlen := cells_len r
  replace hpl := Hid.mk hpl
  refine AL ?_
  refine CV (specIsPuzzle_fn G r l hr hl hpl.out) ?_
  by_cases c : puzzleS r l = true
  · obtain ⟨g1, g2, g3, g4, g5, g6, g8⟩ := puzzle_facts c
    have hw1 : IntKind.i64.wrap ((r.length : Int) - 1) = (r.length : Int) - 1 := wr64 (by omega) (by omega)
    have hall := l12All_fn G r l c
    have hmem : ∀ x ∈ allB r l l.length, 0 < x.2.length ∧ x.2.length ≤ 40 := fun x hx => ⟨(allB_mem c (Nat.le_refl _) hx).2.1, (allB_mem c (Nat.le_refl _) hx).2.2.1⟩
    have hLl := allB_len c (Nat.le_refl l.length)
    have hLb : (allB r l l.length).length ≤ 3840 := by omega
    have hres : patS r l k = if inM k r.length then ((allB r l l.length).filter (atM k), 0) else ([], 2) := by unfold patS; rw [if_pos c]
    rw [hres]
    generalize allB r l l.length = L at hall hmem hLl hLb
    have hLn := places_len L
    clear hres g1 g2 g3 g4 g5 g6 g8 hLl
    replace hall := Hid.mk hall
    replace hmem := Hid.mk hmem
    refine AL ?_
    refine CV (l01In_fn G _ _ _) ?_
    by_cases c1 : (decide (k ≥ 0) && decide (k ≤ (r.length : Int) - 1)) = true
    · have hres : (if inM k r.length then (L.filter (atM k), (0 : Int)) else ([], 2)) = (L.filter (atM k), 0) := by unfold inM; rw [if_pos c1]
      rw [hres]
      clear hres
      refine AL ?_
      refine CV hall.out ?_
      refine AL ?_
      refine .loop (.inv (fun d E H n' => ∃ i : Nat, i + d = L.length ∧ 13 < n' ∧ E 1 = .i .i64 k ∧ E 7 = .sl 1 (places L) ∧ E 8 = .i .i64 i ∧ ∃ e, E 6 = .own 13 e ∧ H 13 = some (.arr e 55 2 (places ((L.take i).filter (atM k))) 1)) L.length ?_ ?_)
      · exact ⟨0, by omega, by omega, by simp [setF_if, argE], by simp [setF_if, argE], by simp [setF_if, argE], 0, by simp [setF_if, argE], by simp [upd_if, places]⟩
      rintro d E H n' ⟨i, hi, hn, h1, h7, h8, e, h6, hH⟩
      by_cases ci : (i : Int) < L.length
      · have hw_i : IntKind.i64.wrap ((i : Int) + 1) = (i : Int) + 1 := wr64 (by omega) (by omega)
        obtain ⟨x, hx⟩ : ∃ x, L[i]? = some x := ⟨_, List.getElem?_eq_getElem (by omega)⟩
        have hro := places_at hx
        obtain ⟨m1, m2⟩ := hmem.out x (List.mem_of_getElem? hx)
        have hft := filter_take (q := atM k) hx
        have hcx := ints_at (l := x.2) (i := 0) m1
        have hrl : (places ((L.take i).filter (atM k))).length ≤ 3840 := by
          rw [places_len]
          have := List.length_filter_le (atM k) (L.take i)
          have := List.length_take_le i L
          omega
        have hb : ((places ((L.take i).filter (atM k))).length + 1) * 32 ≤ 140737488355328 := by omega
        obtain ⟨xk, xs⟩ := x
        have hat : atM k (xk, xs) = (xs.getD 0 0 == k) := rfl
        simp only at hcx m1 m2
        generalize xs.getD 0 0 = y at hcx hat
        replace hft := Hid.mk hft
        replace hx := Hid.mk hx
        by_cases cy : y = k
        · subst cy
          have hft2 := hft.out
          rw [hat] at hft2
          simp only [beq_self_eq_true, if_true] at hft2
          have hpa : places ((L.take i).filter (atM y)) ++ [[PV.i .i64 xk, PV.sl (ints xs)]] = places ((L.take (i + 1)).filter (atM y)) := by rw [hft2, places_app]; rfl
          clear hft hft2 hat
          generalize places ((L.take i).filter (atM y)) = R at hH hrl hb hpa
          refine AL ?_
          exact ⟨L.length - (i + 1), by omega, i + 1, by omega, by omega, by simp [setF_if, *], by simp [setF_if, *], by simp [setF_if, *], e + 1, by simp [setF_if, *], by simp [upd_if, joinT, *]⟩
        · have hne : (y == k) = false := by simpa using cy
          have hft2 := hft.out
          rw [hat, hne] at hft2
          simp only [Bool.false_eq_true, if_false, List.append_nil] at hft2
          clear hft hat
          replace hft2 := Hid.mk hft2
          refine AL ?_
          exact ⟨L.length - (i + 1), by omega, i + 1, by omega, by omega, by simp [setF_if, *], by simp [setF_if, *], by simp [setF_if, *], e, by simp [setF_if, *], by rw [hft2.out]; exact hH⟩
      · have ei : i = L.length := by omega
        rw [ei, List.take_length] at hH
        have hnb : newB 1 (places (L.filter (atM k))) := .inl (by decide)
        refine AL ?_
        simp [retA, backA, backsA, newSl, *]
    · have hres : (if inM k r.length then (L.filter (atM k), (0 : Int)) else ([], 2)) = ([], 2) := by unfold inM; rw [if_neg c1]
      rw [hres]
      clear hres
      refine AL ?_
      simp [retA, backA, backsA, places_nil]
  · have hres : patS r l k = ([], 1) := by unfold patS; rw [if_neg c]
    rw [hres]
    clear hres
    refine AL ?_
    simp [retA, backA, backsA, places_nil]
theorem pat1_wc (G : Gv) (k c : Int) (xo xe : Nat) (xs : List Int) (t : Nat) (ty T : TypeId) (H : Heap) (n : Nat) (hn : 1 < n) (hx : H xo = some (.arr xe ty 1 (ints xs) t)) (hxn : xo < n) (h0 : 0 < xs.length) (hc : H 1 = some (.box T [.i .i64 c])) :
    WC Tryz.prog G 83 [.ag [.i .i64 k, .own xo xe], .ptr 1 0 0 0] H n (fun r H' n' => r = .b (xs.getD 0 0 != c) ∧ n ≤ n' ∧ ∀ k, k < n → H' k = H k) := by
  refine (.body Tryz.func83 rfl (by simp [Tryz.ntmps83]) ?_)
  rw [Tryz.ntmps83, Tryz.results83]
  have hr := ints_at h0
  have hxl := ints_len xs
  have hn1 : ¬ (1 = n) := by omega
  have hn2 : ¬ (xo = n) := by omega
  generalize xs.getD 0 0 = y at hr
  refine AL ?_
  exact ⟨by simp [retA, setF_if], by omega, fun j hj => by rw [upd_if, if_neg (by omega)]⟩
theorem deleteFuncPo_none (G : Gv) (f : FuncId) (caps : List AV) (x : AV) (H0 : Heap) (n0 : Nat) (hx : x = .nil ∨ x = .sl 1 [] ∨ ∃ o e ty sz t, x = .own o e ∧ H0 o = some (.arr e ty sz [] t) ∧ o < n0) : WC Tryz.prog G 82 [x, .fn f caps] H0 n0 (fun r H' n' => n0 ≤ n' ∧ (∀ k, k < n0 → H' k = H0 k) ∧ r = x) := by
  have hidx : ∀ (H : Heap) (n : Nat), (∀ k, k < n0 → H k = H0 k) → WC Tryz.prog G 122 [x, .fn f caps] H n (fun r H' n' => r = .i .i64 (-1) ∧ n ≤ n' ∧ H' = H) := by
    intro H n hH
    rcases hx with rfl | rfl | ⟨o, e, ty, sz, t, rfl, hHo0, hon⟩
    all_goals
      try have hHo := (hH o hon).trans hHo0
      clear hH
      refine (.body Tryz.func122 rfl (by simp [Tryz.ntmps122]) ?_)
      rw [Tryz.ntmps122, Tryz.results122]
      refine AL ?_
      refine .loop (.inv (fun d E H' n' => n ≤ n' ∧ E 7 = .i .i64 0 ∧ E 8 = .i .i64 0 ∧ H' = H) 0 ⟨by omega, by simp [setF_if, argE], by simp [setF_if, argE], rfl⟩ ?_)
      rintro d E H n' ⟨hn, h7, h8, rfl⟩
      have c : ¬ ((0 : Int) < 0) := by omega
      refine AL ?_
      exact ⟨by simp [retA, setF_if], by omega, by first | rfl | trivial⟩
  replace hidx := Hid.mk hidx
  replace hx := Hid.mk hx
  refine (.body Tryz.func82 rfl (by simp [Tryz.ntmps82]) ?_)
  rw [Tryz.ntmps82, Tryz.results82]
  refine AL ?_
  refine CI ?_
  refine (hidx.out _ _ (fun _ _ => rfl)).mono ?_
  rintro r H1 n1 ⟨rfl, hn1, rfl⟩
  refine AL ?_
  exact ⟨by omega, by first | exact fun _ _ => rfl | trivial | simp, by simp [retA, setF_if, argE]⟩
theorem implPlacementsAt_o (G : Gv) (hA : AllG G) (r : Shape) (l : List PieceM) (k : Int) (hr : r.length < 1000000000) (hl : l.length < 1000000000) (hpl : ∀ p ∈ l, p.cs.length < 1000000000) :
    GivesO Tryz.prog G 36 [.ag [.sl 0 (cells r), .sl 0 (pieces l)], .i .i64 k] (.tup [.sl 1 (places (patI r l k).1), .i .i64 (patI r l k).2]) := by
  refine .of (.body Tryz.func36 rfl (by simp [Tryz.ntmps36]) ?_)
  rw [Tryz.ntmps36, Tryz.results36]
  have hlen := cells_len r
  replace hpl := Hid.mk hpl
  replace hA := Hid.mk hA
  refine AL ?_
  refine CV (implIsPuzzle_fn G hA.out.c1 hA.out.c2 r l hr hl hpl.out) ?_
  by_cases cI : puzzleI r l = true
  · have c : puzzleS r l = true := by rw [← puzzle_eq]; exact cI
    obtain ⟨g1, g2, g3, g4, g5, g6, g8⟩ := puzzle_facts c
    have hw1 : IntKind.i64.wrap ((r.length : Int) - 1) = (r.length : Int) - 1 := wr64 (by omega) (by omega)
    have hall := allPlacements_o G hA.out r l c
    have hmem : ∀ x ∈ allB r l l.length, 0 < x.2.length ∧ x.2.length ≤ 40 := fun x hx => ⟨(allB_mem c (Nat.le_refl _) hx).2.1, (allB_mem c (Nat.le_refl _) hx).2.2.1⟩
    have hLl := allB_len c (Nat.le_refl l.length)
    have hLb : (allB r l l.length).length ≤ 3840 := by omega
    have hres : patI r l k = if inM k r.length then ((allB r l l.length).filter (atM k), 0) else ([], 2) := by unfold patI; rw [if_pos cI]
    rw [hres]
    generalize allB r l l.length = L at hall hmem hLl hLb
    clear hres g1 g2 g3 g4 g5 g6 g8 hLl c
    replace hall := Hid.mk hall
    replace hmem := Hid.mk hmem
    refine AL ?_
    refine CV (within_fn G _ _ _) ?_
    by_cases c1 : (decide (k ≥ 0) && decide (k ≤ (r.length : Int) - 1)) = true
    · have hres : (if inM k r.length then (L.filter (atM k), (0 : Int)) else ([], 2)) = (L.filter (atM k), 0) := by unfold inM; rw [if_pos c1]
      rw [hres]
      clear hres
      refine AL ?_
      refine CWO1 hall.out ?_
      intro z H1 S m hz hn hS hf hm hz1
      have f1 : H1 1 = some (.box 2 [.i .i64 k]) := by rw [hf 1 (by omega)]; simp [upd_if]
      have hff : (Tryz.prog.funcs[83]?).any (fun fn => fn.body.isSome && (fn.name != "runtime.NumGoroutine")) = true := by kernel_rfl
      rcases ownX_un hz with ⟨o, eo, ty, sz, rows, t, S', rfl, hHo, rfl, hR, ht, ht', hfit⟩ | ⟨hz2, hq, rfl⟩
      · obtain ⟨R, rfl, hrel, rfl⟩ := ownRs_rel hR (fun x hx => (hmem.out x hx).1)
        have hob := hS o List.mem_cons_self
        have hnd := List.nodup_cons.mp hn
        have hRl := rel_len hrel
        have hsz : R = [] ∨ sz = 2 := by
          cases R with
          | nil => exact .inl rfl
          | cons a R => exact .inr (hfit (rowO a) List.mem_cons_self).symm
        have htt : R = [] ∨ t = 2 := by
          cases R with
          | nil => exact .inl rfl
          | cons a R => exact .inr (ht.resolve_right fun h => by have := h (rowO a) List.mem_cons_self (.ob a.2.1 a.2.2) (by simp); simp [noOb] at this)
        clear hz hf hz1
        replace hS := Hid.mk hS
        replace hn := Hid.mk hn
        replace hrel := Hid.mk hrel
        replace hnd := Hid.mk hnd
        replace ht := Hid.mk ht
        replace ht' := Hid.mk ht'
        replace hfit := Hid.mk hfit
        replace hR := Hid.mk hR
        replace hHo := Hid.mk hHo
        replace htt := Hid.mk htt
        replace f1 := Hid.mk f1
        refine AL ?_
        by_cases hRe : R = []
        · subst hRe
          refine CI ?_
          refine (deleteFuncPo_none G _ _ (.own o eo) _ _ (.inr (.inr ⟨o, eo, ty, sz, t, rfl, hHo.out, by omega⟩))).mono ?_
          rintro rr H3 n3 ⟨hn3, hf3, rfl⟩
          have hH3 := (hf3 o (by omega)).trans hHo.out
          have hL0 : L = [] := List.length_eq_zero_iff.mp hRl.symm
          replace hf3 := Hid.mk hf3
          replace hH3 := Hid.mk hH3
          rw [hL0]
          refine AL ?_
          exact ⟨[o], ownX_kt (ownX_sl (.inl ⟨o, eo, ty, sz, [], t, [], rfl, hH3.out, rfl, ⟨rfl, rfl⟩, .inr (fun r hr => by simp at hr), fun _ => ht'.out (fun r hr => by simp [rowsO] at hr), fun r hr => by simp at hr⟩)), by simp⟩
        obtain rfl := hsz.resolve_left hRe
        refine CI ?_
        refine (deleteFuncPo_own G 83 [.ptr 1 0 0 0] H1 (m + 1) o eo t ty (fun a => firstO H1 a.2.1 != k) R ?_ hff (by omega) (by omega) hHo.out htt.out ?_).mono ?_
        · intro a ha H2 n2 hn2 hH2
          obtain ⟨x, hx, e1, ty2, sz2, t2, m1, m2, m3⟩ := rel_mem hrel.out a ha
          obtain rfl := fit_ints m3 (hmem.out x hx).1
          have hao : a.2.1 ≠ o := fun e => hnd.out.1 (e ▸ List.mem_map_of_mem ha)
          have ham := hS.out a.2.1 (List.mem_cons_of_mem _ (List.mem_map_of_mem ha))
          have := pat1_wc G a.1 k a.2.1 a.2.2 x.2 t2 ty2 2 H2 n2 (by omega) ((hH2 _ (by omega) hao).trans m1) (by omega) (hmem.out x hx).1 ((hH2 1 (by omega) (by omega)).trans f1.out)
          rw [← firstO_eq m1] at this
          exact this
        · intro a ha
          obtain ⟨x, hx, e1, ty2, sz2, t2, m1, m2⟩ := rel_mem hrel.out a ha
          exact ⟨⟨_, _, _, _, m1⟩, by have := hS.out a.2.1 (List.mem_cons_of_mem _ (List.mem_map_of_mem ha)); omega, fun e => hnd.out.1 (e ▸ List.mem_map_of_mem ha)⟩
        rintro rr H3 n3 ⟨hn3, hf3, hrr⟩
        have hrf : relO H1 (R.filter fun a => !(firstO H1 a.2.1 != k)) (L.filter (atM k)) := rel_filter (fun a x ⟨_, _, _, h⟩ => by unfold atM; rw [firstO_eq h]; simp [bne]) hrel.out
        have hsub : (R.filter fun a => !(firstO H1 a.2.1 != k)).Sublist R := List.filter_sublist
        generalize (R.filter fun a => !(firstO H1 a.2.1 != k)) = R3 at hrr hrf hsub
        have hrf3 : relO H3 R3 (L.filter (atM k)) := rel_congr (fun a ha => hf3 a.2.1 (by have := hS.out a.2.1 (List.mem_cons_of_mem _ (List.mem_map_of_mem (hsub.subset ha))); omega) (fun e => hnd.out.1 (e ▸ List.mem_map_of_mem (hsub.subset ha)))) hrf
        have hnd3 : (R3.map (·.2.1)).Nodup := hnd.out.2.sublist (hsub.map _)
        have hno3 : o ∉ R3.map (·.2.1) := fun h => hnd.out.1 ((hsub.map _).subset h)
        clear hf3 hrf hRl hsub
        replace hrf3 := Hid.mk hrf3
        replace hnd3 := Hid.mk hnd3
        rcases hrr with ⟨e', t', rfl, ht3, hne3, hH3⟩ | ⟨rfl, h0⟩
        · replace hH3 := Hid.mk hH3
          refine AL ?_
          refine ⟨o :: R3.map (·.2.1), ownX_kt (ownX_sl (.inl ⟨o, e', ty, 2, rowsO R3, t', R3.map (·.2.1), rfl, hH3.out, rfl, rel_own hrf3.out, ?_, fun hs => ?_, ?_⟩)), List.nodup_cons.mpr ⟨hno3, hnd3.out⟩⟩
          · rcases ht3 with h | ⟨h, _⟩
            · exact .inl h
            · exact absurd h hRe
          · cases R3 with
            | nil => exact absurd rfl (hne3 hRe)
            | cons a R3 => have := hs (rowO a) List.mem_cons_self (.ob a.2.1 a.2.2) (by simp); simp [scalB] at this
          · intro r hr
            obtain ⟨a, _, rfl⟩ := List.mem_map.mp hr
            rfl
        · have hL0 : L.filter (atM k) = [] := by
            have := rel_len hrf3.out
            rw [h0] at this
            exact List.length_eq_zero_iff.mp this.symm
          rw [hL0]
          refine AL ?_
          exact ⟨[], ownX_mkT (s1 := []) (ownX_sl (.inr ⟨.inr ⟨1, rfl⟩, rfl, rfl⟩)) ownX_mki, by simp⟩
      · obtain rfl : L = [] := List.map_eq_nil_iff.mp hq
        have hzz : z = .nil ∨ z = .sl 1 [] := by
          rcases hz2 with rfl | ⟨t, rfl⟩
          · exact .inl rfl
          · rw [hz1 _ _ rfl]; exact .inr rfl
        clear hz hf hz1 hz2 hq hmem hall
        replace f1 := Hid.mk f1
        refine AL ?_
        refine CI ?_
        refine (deleteFuncPo_none G _ _ z _ _ (hzz.imp id .inl)).mono ?_
        rintro rr H3 n3 ⟨hn3, hf3, rfl⟩
        replace hf3 := Hid.mk hf3
        refine AL ?_
        exact ⟨[], ownX_mkT (s1 := []) (ownX_sl (.inr ⟨hzz.imp id fun h => ⟨1, h⟩, rfl, rfl⟩)) ownX_mki, by simp⟩
    · have hres : (if inM k r.length then (L.filter (atM k), (0 : Int)) else ([], 2)) = ([], 2) := by unfold inM; rw [if_neg c1]
      rw [hres]
      clear hres
      refine AL ?_
      exact ⟨[], ownX_mkT (s1 := []) (ownX_sl ownA_nil) ownX_mki, by simp⟩
  · have hres : patI r l k = ([], 1) := by unfold patI; rw [if_neg cI]
    rw [hres]
    clear hres
    refine AL ?_
    exact ⟨[], ownX_mkT (s1 := []) (ownX_sl ownA_nil) ownX_mki, by simp⟩
end Go.Proofs
end
section
open Go Go.Big
namespace Go.Proofs
set_option maxHeartbeats 2000000
theorem markPuzzle_m (G : Gv) (r : List (Int × Int)) (l : List PieceM) (k : Int) (hr : r.length < 1000000000) (hl : l.length < 1000000000) (hc : ∀ p ∈ l, p.cs.length < 1000000000) (hk0 : 0 ≤ k) (hk : k + 2 * r.length + cntQ l < 1000000000000) :
    Marks Tryz.prog G 24 (.ag [.sl 1 (cells r), .sl 1 (pieces l)]) (.ag [.sl 1 (cells (runC k r.length)), .sl 1 (pieces (mkQ (k + 2 * r.length) l))]) k (k + 2 * r.length + cntQ l) := by
  intro x H0 n0 S hx hn hS
  have hcn := cntQ_nn l
  obtain ⟨za, zb, s1, s2, rfl, rfl, hxa, hxb⟩ := ownX_ag2 hx
  clear hx
  rw [List.nodup_append] at hn
  obtain ⟨hn1, hn2, hn3⟩ := hn
  have hS1 : ∀ o ∈ s1, o < n0 := fun o ho => hS o (by simp [ho])
  have hS2 : ∀ o ∈ s2, o < n0 := fun o ho => hS o (by simp [ho])
  have pa := (ownX_plain hxa).1
  have pb := (ownX_plain hxb).1
  replace hxa := Hid.mk hxa
  replace hxb := Hid.mk hxb
  replace hn1 := Hid.mk hn1
  replace hn2 := Hid.mk hn2
  replace hn3 := Hid.mk hn3
  replace hS1 := Hid.mk hS1
  replace hS2 := Hid.mk hS2
  replace hc := Hid.mk hc
  clear hS
  refine (.body Tryz.func24 rfl (by simp [Tryz.ntmps24]) ?_)
  rw [Tryz.ntmps24, Tryz.results24]
  refine W.seq ?_
  refine W.region ?_
  refine OP (y := .ptr n0 0 0 0) (H1 := H0.upd n0 (.box 35 [za, zb])) (op := .box 35 (.tmp 0)) ?_ (hs := by rw [st_box]; simp [flatA, pa, pb, argE])
  refine AL ?_
  refine CI ?_
  refine WC.mono (markCellS_m G r k hr hk0 (by omega) _ _ _ s1 (ownX_congr (fun o ho => by rw [upd_if, if_neg (by have := hS1.out o ho; omega)]) hxa.out) hn1.out (fun o ho => by have := hS1.out o ho; omega)) ?_
  rintro _ H1 m ⟨rfl, hm, hz1, hf1⟩
  have hb := hf1 n0 (by omega) (fun h => by have := hS1.out _ h; omega)
  rw [upd_if, if_pos rfl] at hb
  have hxb1 := ownX_congr (H' := H1) (fun o ho => by rw [hf1 o (by have := hS2.out o ho; omega) (fun h => hn3.out o h o ho rfl), upd_if, if_neg (by have := hS2.out o ho; omega)]) hxb.out
  replace hxb1 := Hid.mk hxb1
  replace hz1 := Hid.mk hz1
  replace hf1 := Hid.mk hf1
  clear pa pb
  refine AL ?_
  refine CI ?_
  refine WC.mono (markPieceS_m G l (k + 2 * r.length) hl hc.out (by omega) (by omega) _ _ _ s2 hxb1.out hn2.out (fun o ho => by have := hS2.out o ho; omega)) ?_
  rintro _ H2 m2 ⟨rfl, hm2, hz2, hf2⟩
  have hb2 := hf2 n0 (by omega) (fun h => by have := hS2.out _ h; omega)
  replace hz2 := Hid.mk hz2
  replace hf2 := Hid.mk hf2
  refine AL ?_
  refine ⟨rfl, by omega, ownX_mk2 (ownX_congr (fun o ho => hf2.out o (by have := hS1.out o ho; omega) (fun h => hn3.out o ho o h rfl)) hz1.out) hz2.out, fun o ho hno => ?_⟩
  rw [hf2.out o (by omega) (fun h => hno (by simp [h])), hf1.out o (by omega) (fun h => hno (by simp [h])), upd_if, if_neg (by omega)]
theorem markPlacement_m (G : Gv) (j : Int) (l : List Int) (k : Int) (hl : l.length < 1000000000) (hk0 : 0 ≤ k) (hk : k < 1000000000000) :
    Marks Tryz.prog G 44 (.ag [.i .i64 j, .sl 1 (ints l)]) (.ag [.i .i64 j, .sl 1 (ints (runI k l.length))]) k (k + l.length) := by
  intro x H0 n0 S hx hn hS
  obtain ⟨zi, za, s2, s1, rfl, rfl, hxi, hxa⟩ := ownX_ag2 hx
  obtain ⟨rfl, rfl⟩ := ownX_i hxi
  clear hx hxi
  rw [List.nil_append] at hn hS ⊢
  have pa := (ownX_plain hxa).1
  have pi : plainA H0 (.i .i64 j) = true := rfl
  replace hxa := Hid.mk hxa
  replace hn := Hid.mk hn
  replace hS := Hid.mk hS
  refine (.body Tryz.func44 rfl (by simp [Tryz.ntmps44]) ?_)
  rw [Tryz.ntmps44, Tryz.results44]
  refine W.seq ?_
  refine W.region ?_
  refine OP (y := .ptr n0 0 0 0) (H1 := H0.upd n0 (.box 55 [.i .i64 j, za])) (op := .box 55 (.tmp 0)) ?_ (hs := by rw [st_box]; simp [flatA, pa, pi, argE])
  clear pa pi
  refine AL ?_
  refine CI ?_
  refine WC.mono (markInt64S_m G l k hl hk0 hk _ _ _ s1 (ownX_congr (fun o ho => by rw [upd_if, if_neg (by have := hS.out o ho; omega)]) hxa.out) hn.out (fun o ho => by have := hS.out o ho; omega)) ?_
  rintro _ H1 m ⟨rfl, hm, hz1, hf1⟩
  replace hz1 := Hid.mk hz1
  replace hf1 := Hid.mk hf1
  refine AL ?_
  refine ⟨rfl, by omega, ownX_mk2 (s1 := []) ownX_mki hz1.out, fun o ho hno => ?_⟩
  rw [hf1.out o (by omega) hno, upd_if, if_neg (by omega)]
end Go.Proofs
end
section
open Go Go.Big
namespace Go.Proofs
set_option maxHeartbeats 2000000
theorem mkP_length : ∀ (k : Int) (l : List (Int × List Int)), (mkP k l).length = l.length
  | _, [] => rfl
  | k, p :: l => by simp only [mkP, List.length_cons, mkP_length]
theorem heldPlacementS_fn (G : Gv) (l : List (Int × List Int)) (k : Int) (hl : l.length < 1000000000) (hc : ∀ p ∈ l, p.2.length < 1000000000) (hk0 : 0 ≤ k) (hk : k + cntP l < 1000000000000) :
    Gives Tryz.prog G 32 [.sl 0 (places (mkP k l)), .i .i64 k] (.i .i64 (k + cntP l)) := by
  refine .of (.body Tryz.func32 rfl (by simp [Tryz.ntmps32]) ?_)
  rw [Tryz.ntmps32, Tryz.results32]
  have hlen : (places (mkP k l)).length = l.length := by rw [places_len, mkP_length]
  replace hc := Hid.mk hc
  generalize hM : mkP k l = M at hlen
  replace hM := Hid.mk hM
  refine AL ?_
  refine .loop (.inv (fun d E H n' => ∃ (i : Nat) (k' : Int), i + d = l.length ∧ E 0 = .sl 0 (places M) ∧ E 1 = .i .i64 k' ∧ E 5 = .i .i64 i ∧ M.drop i = mkP k' (l.drop i) ∧ k' + cntP (l.drop i) = k + cntP l ∧ 0 ≤ k') l.length ?_ ?_)
  · exact ⟨0, k, by omega, by simp [setF_if, argE], by simp [setF_if, argE], by simp [setF_if, argE], by simp [hM.out], by simp, hk0⟩
  rintro d E H n' ⟨i, k', hi, h0, h1, h5, hd, hn, hk'⟩
  replace hn := Hid.mk hn
  replace hd := Hid.mk hd
  by_cases c : (i : Int) < l.length
  · have hw_i : IntKind.i64.wrap ((i : Int) + 1) = (i : Int) + 1 := wr64 (by omega) (by omega)
    obtain ⟨p, hp⟩ : ∃ p, l[i]? = some p := ⟨_, List.getElem?_eq_getElem (by omega)⟩
    have hpl := hc.out p (List.mem_of_getElem? hp)
    have hld := drop_cons hp
    have hd2 := hd.out
    have hn2 := hn.out
    rw [hld] at hd2 hn2
    simp only [mkP, cntP] at hd2 hn2
    have hnn := cntP_nn (l.drop (i + 1))
    have hro : (places M)[i]? = some (placR (k', runI (k' + 1) p.2.length)) := places_at (by
      have : (M.drop i)[0]? = some (k', runI (k' + 1) p.2.length) := by rw [hd2]; rfl
      rwa [List.getElem?_drop, Nat.add_zero] at this)
    have hd3 : M.drop (i + 1) = mkP (k' + 1 + p.2.length) (l.drop (i + 1)) := by
      rw [← List.drop_drop (i := 1), hd2]; rfl
    have hw1 : IntKind.i64.wrap (k' + 1) = k' + 1 := wr64 (by omega) (by omega)
    have hbne : (k' != k') = false := by simp
    have hneg : ¬ (k' + 1 + (p.2.length : Int) < 0) := by omega
    replace hd2 := Hid.mk hd2
    replace hd3 := Hid.mk hd3
    replace hld := Hid.mk hld
    replace hp := Hid.mk hp
    replace hn2 := Hid.mk hn2
    replace hnn := Hid.mk hnn
    refine AL ?_
    refine CV (heldInt64S_fn G (k' + 1) p.2.length hpl (by omega) (by have := hn2.out; have := hnn.out; omega)) ?_
    refine AL ?_
    exact ⟨l.length - (i + 1), by omega, i + 1, k' + 1 + p.2.length, by omega, by simp [setF_if, *], by simp [setF_if, *], by simp [setF_if, *], hd3.out, by have := hn2.out; omega, by omega⟩
  · have ei : i = l.length := by omega
    have hn2 := hn.out
    rw [ei, List.drop_length] at hn2
    simp only [cntP] at hn2
    refine AL ?_
    simp [retA, backA, setF_if, h1]; omega
theorem heldPlacement_fn (G : Gv) (j : Int) (k : Int) (m : Nat) (hl : m < 1000000000) (hk0 : 0 ≤ k) (hk : k < 1000000000000) :
    Gives Tryz.prog G 45 [.ag [.i .i64 j, .sl 0 (ints (runI k m))], .i .i64 k] (.i .i64 (k + m)) := by
  refine .of (.body Tryz.func45 rfl (by simp [Tryz.ntmps45]) ?_)
  rw [Tryz.ntmps45, Tryz.results45]
  have hneg : ¬ (k + (m : Int) < 0) := by omega
  refine AL ?_
  refine CV (heldInt64S_fn G k m hl hk0 hk) ?_
  refine AL ?_
  simp [retA, backA]
end Go.Proofs
end
section
open Go Go.Big
namespace Go.Proofs
set_option maxHeartbeats 2000000
theorem szP_cnt : ∀ {l : List PieceM} {left : Int}, ¬ szP l left < 0 → cntQ l ≤ 2 * left + 2 * l.length
  | [], left, h => by simp only [szP] at h; simp only [cntQ, List.length_nil]; omega
  | p :: l, left, h => by
    unfold szP at h
    split at h
    · simp at h
    · rename_i c
      have := szP_cnt h
      unfold szN at c this
      split at c
      · simp at c
      · rename_i c2
        rw [if_neg c2] at this
        simp only [cntQ, List.length_cons]; omega
theorem szPz_cnt {r : List (Int × Int)} {l : List PieceM} {left : Int} (h : ¬ szPz r l left < 0) : cntQ l ≤ 2 * left + 2 * left := by
  unfold szPz at h
  split at h
  · simp at h
  · rename_i c
    unfold szPS at h
    split at h
    · simp at h
    · rename_i c2
      have := szP_cnt h
      have := szN_le c
      omega
theorem szPL_cnt : ∀ {l : List (Int × List Int)} {left : Int}, ¬ szPL l left < 0 → cntP l ≤ left + l.length
  | [], left, h => by simp only [szPL] at h; simp only [cntP, List.length_nil]; omega
  | p :: l, left, h => by
    unfold szPL at h
    split at h
    · simp at h
    · rename_i c
      have := szPL_cnt h
      unfold szN at c this
      split at c
      · simp at c
      · rename_i c2
        rw [if_neg c2] at this
        simp only [cntP, List.length_cons]; omega
theorem szPLS_cnt {l : List (Int × List Int)} {left : Int} (h : ¬ szPLS l left < 0) : cntP l ≤ left + left := by
  unfold szPLS at h
  split at h
  · simp at h
  · have := szPL_cnt h
    omega
theorem law_fn (G : Gv) (hA : AllG G) (r : List (Int × Int)) (l : List PieceM) (k : Int)
    (hr : r.length ≤ 9223372036854775807) (hl : l.length ≤ 9223372036854775807) (hc : ∀ p ∈ l, p.cs.length ≤ 9223372036854775807)
    (hpure : r.length < 1000000000 → l.length < 1000000000 → (∀ p ∈ l, p.cs.length < 1000000000) → patI r l k = patS r l k ∧ ((patI r l k).1.length < 1000000000) ∧ (∀ x ∈ (patI r l k).1, x.2.length < 1000000000) ∧ (cntP (patI r l k).1 < 100000000000)) :
    Gives Tryz.prog G 7 [.ag [.sl 0 (cells r), .sl 0 (pieces l)], .i .i64 k] (.b true) := by
  refine .of (.body Tryz.func7 rfl (by simp [Tryz.ntmps7]) ?_)
  rw [Tryz.ntmps7, Tryz.results7]
  replace hA := Hid.mk hA
  replace hc := Hid.mk hc
  replace hpure := Hid.mk hpure
  refine AX ?_
  refine CV (szPuzzle_fn G r l 1048576 hr hl hc.out (by omega) (by omega)) ?_
  by_cases c1 : szPz r l 1048576 < 0
  · refine AX ?_
    simp [retA, backA]
  obtain ⟨ga1, gb1, gc1, gd1, ge1⟩ := szPz_le (left := 1048576) (by omega) c1
  replace gc1 := Hid.mk gc1
  have hr9 : r.length < 1000000000 := by omega
  have hl9 : l.length < 1000000000 := by omega
  have hc9 : ∀ p ∈ l, p.cs.length < 1000000000 := fun p hp => by have := gc1.out p hp; omega
  have hkq : cntQ l < 100000000000 := by have := szPz_cnt c1; omega
  have hkq0 := cntQ_nn l
  obtain ⟨hp, hwl, hwc, hwk⟩ := hpure.out hr9 hl9 hc9
  replace hc9 := Hid.mk hc9
  have hspec := specPlacementsAt_fn G r l k hr9 hl9 hc9.out
  have himpl := implPlacementsAt_o G hA.out r l k hr9 hl9 hc9.out
  rw [← hp] at hspec
  clear hp
  generalize patI r l k = W at hspec himpl hwl hwc hwk
  obtain ⟨w, wc⟩ := W
  simp only at hspec himpl hwl hwc hwk
  have hbb : (wc != wc) = false := by simp
  have hwk0 := cntP_nn w
  replace hwc := Hid.mk hwc
  replace hspec := Hid.mk hspec
  replace himpl := Hid.mk himpl
  clear gc1
  refine AX ?_
  refine CV (toPuzzle_fn G r l hr9 hl9 hc9.out) ?_
  refine AX ?_
  refine CV hspec.out ?_
  refine AX ?_
  refine CWO (toPuzzle_o G r l hr9 hl9 hc9.out) ?_
  intro z1 Hh1 S1 m1 hz1 hn1 hS1 hf1 hm1
  have B0 := hf1 0 (by omega)
  simp [upd_if] at B0
  obtain ⟨za1, zb1, sa1, sb1, rfl, rfl, Xa1, Xb1⟩ := ownX_ag2 hz1
  have Ra1 := fun o (ho : o ∈ sa1) => hS1 o (by simp [ho])
  have Rb1 := fun o (ho : o ∈ sb1) => hS1 o (by simp [ho])
  clear hz1 hS1 hf1
  replace Xa1 := Hid.mk Xa1
  replace Ra1 := Hid.mk Ra1
  replace Xb1 := Hid.mk Xb1
  replace Rb1 := Hid.mk Rb1
  replace hn1 := Hid.mk hn1
  refine AX ?_
  have pl_za1 := (ownX_plain (ownX_congr (H' := Hh1.upd (m1) (.box 35 [.nil, .nil])) (fun o ho => by rw [upd_if, if_neg (by have := Ra1.out o ho; omega)]) Xa1.out)).1
  have pl_zb1 := (ownX_plain (ownX_congr (H' := Hh1.upd (m1) (.box 35 [.nil, .nil])) (fun o ho => by rw [upd_if, if_neg (by have := Rb1.out o ho; omega)]) Xb1.out)).1
  refine OPN (op := .store 35 (.tmp 8) (.tmp 29)) (H1 := (Hh1.upd (m1) (.box 35 [.nil, .nil])).upd (m1) (.box 35 [za1, zb1])) (y := .un) ?_ (hs := by
    rw [st_store]
    simp only [look_tmp, setF_if, Nat.reduceEqDiff, reduceIte, flatA, List.all_cons, List.all_nil, pl_za1, pl_zb1, Bool.and_self, BT.all, storeA, upd_if, putA, List.length_cons, List.length_nil, Nat.reduceAdd, Nat.reduceLeDiff, List.set_cons_zero, List.set_cons_succ, Option.map_some])
  repeat first | refine OP ?_ | refine SK ?_ | refine OPN ?_ | refine WR.nil ?_
  refine TH ?_
  refine W.cutn ?_
  intro EX1 HX1 NX1 hEX hHX hNX
  have e1_1 := hEX 1
  have e2_1 := hEX 2
  have e6_1 := hEX 6
  have e7_1 := hEX 7
  have e8_1 := hEX 8
  simp only [setF_if, argE, Nat.reduceEqDiff, reduceIte, List.getElem?_cons_zero, List.getElem?_cons_succ, Option.getD_some] at e1_1 e2_1 e6_1 e7_1 e8_1
  have hN1 : m1 < NX1 := by omega
  have B0' := (show HX1 (0) = Hh1 (0) by rw [hHX, upd_if, if_neg (by omega), upd_if, if_neg (by omega)]).trans B0
  have bx1 : HX1 (m1) = some (.box 35 [za1, zb1]) := by rw [hHX, upd_if, if_pos rfl]
  have Xa1' := ownX_congr (H' := HX1) (fun o ho => by have := Ra1.out o ho; rw [hHX, upd_if, if_neg (by omega), upd_if, if_neg (by omega)]) Xa1.out
  clear Xa1
  replace Xa1' := Hid.mk Xa1'
  have Xb1' := ownX_congr (H' := HX1) (fun o ho => by have := Rb1.out o ho; rw [hHX, upd_if, if_neg (by omega), upd_if, if_neg (by omega)]) Xb1.out
  clear Xb1
  replace Xb1' := Hid.mk Xb1'
  clear hEX hHX hNX pl_za1 pl_zb1 B0
  have ga1 := ownX_gives Xa1'.out
  have gb1 := ownX_gives Xb1'.out
  refine AX ?_
  refine CWO himpl.out ?_
  intro z2 Hh2 S2 m2 hz2 hn2 hS2 hf2 hm2
  try clear ga1
  try clear gb1
  have B0'' := (hf2 0 (by omega)).trans B0'
  clear B0'
  have bx1' := (hf2 m1 (by omega)).trans bx1
  clear bx1
  have Xa1'' := ownX_congr (fun o ho => hf2 o (by have := Ra1.out o ho; omega)) Xa1'.out
  clear Xa1'
  replace Xa1'' := Hid.mk Xa1''
  have Xb1'' := ownX_congr (fun o ho => hf2 o (by have := Rb1.out o ho; omega)) Xb1'.out
  clear Xb1'
  replace Xb1'' := Hid.mk Xb1''
  obtain ⟨zw2, zc2, Sw2, Sc2, rfl, rfl, hw2, hc2⟩ := ownX_tup2 hz2
  obtain ⟨rfl, rfl⟩ := ownX_i hc2
  simp only [List.append_nil] at hn2 hS2
  clear hc2 hz2
  have R2 := hS2
  clear hS2 hf2
  replace hw2 := Hid.mk hw2
  replace R2 := Hid.mk R2
  replace hn2 := Hid.mk hn2
  have ga1 := ownX_gives Xa1''.out
  have gb1 := ownX_gives Xb1''.out
  have g2 := ownX_gives hw2.out
  refine AX ?_
  refine CV (eqPlacementS_fn G w hwl hwc.out) ?_
  refine AX ?_
  refine DR ?_
  refine AX ?_
  refine CQ (toPuzzle_fn G r l hr9 hl9 hc9.out) ?_
  refine AX ?_
  refine CQ (eqPuzzle_fn G r l hr9 hl9 hc9.out) ?_
  refine AX ?_
  refine CI ?_
  refine WC.mono (markPuzzle_m G r l 1 hr9 hl9 hc9.out (by omega) (by omega) _ _ _ (sa1 ++ sb1) (ownX_mk2 Xa1''.out Xb1''.out) (by simpa using hn1.out) (fun o ho => by simp only [List.nil_append, List.mem_append] at ho; rcases ho with ho | ho; have := Ra1.out o ho; omega; have := Rb1.out o ho; omega)) ?_
  rintro _ Hh3 m3 ⟨rfl, hm3, hw3, hf3⟩
  try clear ga1
  try clear gb1
  try clear g2
  have B0''' := (hf3 0 (by omega) (fun h => by simp only [List.nil_append, List.mem_append] at h; rcases h with h | h; have := Ra1.out _ h; omega; have := Rb1.out _ h; omega)).trans B0''
  clear B0''
  have bx1'' := (hf3 m1 (by omega) (fun h => by simp only [List.nil_append, List.mem_append] at h; rcases h with h | h; have := Ra1.out _ h; omega; have := Rb1.out _ h; omega)).trans bx1'
  clear bx1'
  have hw2' := ownX_congr (fun o ho => hf3 o (by have := R2.out o ho; omega) (fun h => by have := R2.out o ho; simp only [List.nil_append, List.mem_append] at h; rcases h with h | h; have := Ra1.out _ h; omega; have := Rb1.out _ h; omega)) hw2.out
  clear hw2
  replace hw2' := Hid.mk hw2'
  clear hf3 hw3
  have hkn : ¬ (1 + 2 * r.length + cntQ l < 0) := by omega
  have g2 := ownX_gives hw2'.out
  refine AX ?_
  refine CV (eqPlacementS_fn G w hwl hwc.out) ?_
  refine AX ?_
  refine CI ?_
  refine WC.mono (markPlacementS_m G w 1 hwl hwc.out (by omega) (by omega) _ _ _ Sw2 hw2'.out hn2.out (fun o ho => by have := R2.out o ho; omega)) ?_
  rintro _ Hh4 m4 ⟨rfl, hm4, hw4, hf4⟩
  try clear g2
  have B0'''' := (hf4 0 (by omega) (fun h => by have := R2.out _ h; omega)).trans B0'''
  clear B0'''
  have bx1''' := (hf4 m1 (by omega) (fun h => by have := R2.out _ h; omega)).trans bx1''
  clear bx1''
  clear hf4
  try clear hkn
  have hkn : ¬ (1 + cntP w < 0) := by omega
  have hkk : (1 + cntP w != 1 + cntP w) = false := by simp
  have g2 := ownX_gives hw4
  clear hw4
  refine AX ?_
  refine CV (heldPlacementS_fn G w 1 hwl hwc.out (by omega) (by omega)) ?_
  refine AX ?_
  refine CV (toPuzzle_fn G r l hr9 hl9 hc9.out) ?_
  refine AX ?_
  refine CV himpl.out.gives ?_
  refine AX ?_
  refine CV (eqPlacementS_fn G w hwl hwc.out) ?_
  refine AX ?_
  refine CV (heldPlacementS_fn G w 1 hwl hwc.out (by omega) (by omega)) ?_
  refine AX ?_
  simp [retA, backA]
end Go.Proofs
end
section
namespace Go.Proofs.YtdbkkjoejomcmaaGreat.fnExactPlacementsAt
open Go Go.Big Go.ChangeShapes Go.WideShapes Go.ChangeAt Go.RowKit Go.Proofs
set_option maxHeartbeats 2000000
def Pure : Prop := ∀ (r : List (Int × Int)) (l : List PieceM) (k : Int), (∀ x ∈ r, wf64 x.1 ∧ wf64 x.2) → (∀ p ∈ l, (∀ x ∈ p.cs, wf64 x.1 ∧ wf64 x.2) ∧ wf64 p.k) → wf64 k → r.length < 1000000000 → l.length < 1000000000 → (∀ p ∈ l, p.cs.length < 1000000000) → patI r l k = patS r l k ∧ ((patI r l k).1.length < 1000000000) ∧ (∀ x ∈ (patI r l k).1, x.2.length < 1000000000) ∧ (cntP (patI r l k).1 < 100000000000)
theorem own : ownKnob Tryz.prog.godebug = none := by kernel_rfl
theorem laidOut : laidOutB Tryz.prog = true := by kernel_rfl
section
variable {H : Type} {enc : TypeId × Value → H} {w : World} {base : Nat} {spare : Nat → Bool} {held : Bool}
theorem op_cell : Opens enc Tryz.prog w base spare held 119 (fun x : Int × Int => [.i .i64 x.1, .i .i64 x.2]) (fun x => wf64 x.1 ∧ wf64 x.2) :=
  op_fields2 Tryz.underlying119 (by kernel_rfl) rfl (by kernel_rfl) (op_int Tryz.underlying2) (op_int Tryz.underlying2)
theorem op_cells : Opens enc Tryz.prog w base spare held 22 (fun x : List (Int × Int) => [.sl (cells x)]) (fun l => l.length ≤ maxLen ∧ ∀ x ∈ l, wf64 x.1 ∧ wf64 x.2) :=
  op_slice Tryz.underlying22 (of_decide_eq_true (by kernel_rfl)) op_cell
theorem op_piece : Opens enc Tryz.prog w base spare held 114 pieceR (fun p => (p.cs.length ≤ maxLen ∧ ∀ x ∈ p.cs, wf64 x.1 ∧ wf64 x.2) ∧ wf64 p.k ∧ True) :=
  op_iso (fun p : PieceM => (p.cs, p.k, p.b)) (fun a => ⟨a.1, a.2.1, a.2.2⟩) (fun _ => rfl) (op_fields3 Tryz.underlying114 (by kernel_rfl) rfl (by kernel_rfl) (by kernel_rfl) op_cells (op_int Tryz.underlying2) (op_bool Tryz.underlying4))
theorem op_pieces : Opens enc Tryz.prog w base spare held 23 (fun x : List PieceM => [.sl (pieces x)]) (fun l => l.length ≤ maxLen ∧ ∀ p ∈ l, (p.cs.length ≤ maxLen ∧ ∀ x ∈ p.cs, wf64 x.1 ∧ wf64 x.2) ∧ wf64 p.k ∧ True) :=
  op_slice Tryz.underlying23 (of_decide_eq_true (by kernel_rfl)) op_piece
theorem op_puzzle : Opens enc Tryz.prog w base spare held 25 (fun x : List (Int × Int) × List PieceM => [.sl (cells x.1), .sl (pieces x.2)]) (fun x => (x.1.length ≤ maxLen ∧ ∀ y ∈ x.1, wf64 y.1 ∧ wf64 y.2) ∧ (x.2.length ≤ maxLen ∧ ∀ p ∈ x.2, (p.cs.length ≤ maxLen ∧ ∀ y ∈ p.cs, wf64 y.1 ∧ wf64 y.2) ∧ wf64 p.k ∧ True)) :=
  op_fields2 Tryz.underlying25 (by kernel_rfl) rfl (by kernel_rfl) op_cells op_pieces
theorem op_ints : Opens enc Tryz.prog w base spare held 29 (fun x : List Int => [.sl (ints x)]) (fun l => l.length ≤ maxLen ∧ ∀ x ∈ l, wf64 x) :=
  op_slice Tryz.underlying29 (of_decide_eq_true (by kernel_rfl)) (op_int Tryz.underlying2)
theorem op_placement : Opens enc Tryz.prog w base spare held 53 (fun x : Int × List Int => [.i .i64 x.1, .sl (ints x.2)]) (fun x => wf64 x.1 ∧ (x.2.length ≤ maxLen ∧ ∀ y ∈ x.2, wf64 y)) :=
  op_fields2 Tryz.underlying53 (by kernel_rfl) rfl (by kernel_rfl) (op_int Tryz.underlying2) op_ints
theorem op_places : Opens enc Tryz.prog w base spare held 26 (fun x : List (Int × List Int) => [.sl (places x)]) (fun l => l.length ≤ maxLen ∧ ∀ x ∈ l, wf64 x.1 ∧ (x.2.length ≤ maxLen ∧ ∀ y ∈ x.2, wf64 y)) :=
  op_slice Tryz.underlying26 (of_decide_eq_true (by kernel_rfl)) op_placement
end
set_option maxRecDepth 100000 in
theorem lifted {G : Gv} (hGv : GvOk Tryz.prog G) (hA : AllG G) (Pu : Pure) (os : Os) (started : os.Started) (H : Type) (enc : TypeId × Value → H) :
    ReturnsInHanded {} Tryz.checked os 7 .any (Rows.fnExactPlacementsAtSpec.pre6 enc Tryz.prog Tryz.f7 Rows.fnExactPlacementsAtRow.domain false) (Rows.fnExactPlacementsAtSpec.post enc Tryz.prog Tryz.f7 false true false false) := by
  refine returnsInHanded_of_change_sized (C := Tryz.checked) own started (by kernel_rfl) Tryz.func7
    (ChangeSpec.witness6 (enc := enc) (C := Tryz.checked) false ⟨#[], #[.agg #[.slice none 0 0, .slice none 0 0], .int .i64 0], []⟩ 8 (by kernel_rfl) (by kernel_rfl) (by kernel_rfl) (by kernel_rfl)) ?_
  intro W base args ds gs before hval0 hW _ _ _
  have hval : ∀ (j : Nat) t v, Tryz.f7.params[j]? = some t → args[j]? = some v → Value.okWide Tryz.prog W .any base t v := hval0
  have hW' := hW
  obtain ⟨p, q, hA0, hV, rfl, hfz, hnd⟩ := hW
  have hAr : DataW.TrodAll enc Tryz.prog W 0 (fun _ => true) true Tryz.f7.params.toList args.toList ds p := hA0
  rw [Tryz.params7] at hAr hval
  obtain ⟨v0, vs0, d0, ds0, p0, q0, hargs, rfl, rfl, h0, r0⟩ := trodAll_cons hAr
  obtain ⟨v1, vs1, d1, ds1, p1, q1, rfl, rfl, rfl, h1, r1⟩ := trodAll_cons r0
  obtain ⟨rfl, rfl, rfl⟩ := trodAll_nil r1
  obtain rfl : args = #[v0, v1] := by cases args; simp_all
  obtain ⟨rfl, rfl⟩ := trodVars_none hV
  obtain ⟨cs0, rfl, _⟩ := okWide_struct Tryz.underlying25 (hval 0 25 v0 rfl rfl)
  obtain ⟨n1, rfl⟩ := okWide_int Tryz.underlying2 (hval 1 2 v1 rfl rfl)
  have k0 := h0
  have lt0 : ∀ x ∈ p0, x.block < W.heap.size := by obtain ⟨m, hm⟩ := k0; exact DataW.trod_lt m _ _ _ hm
  obtain ⟨fu0, hf0⟩ := h0
  have k1 := h1
  have lt1 : ∀ x ∈ p1, x.block < W.heap.size := by obtain ⟨m, hm⟩ := k1; exact DataW.trod_lt m _ _ _ hm
  obtain ⟨fu1, hf1⟩ := h1
  obtain ⟨⟨r, l⟩, ha0, ⟨wr1, wr2⟩, wl1, wl2⟩ := op_puzzle _ _ _ hf0
  have wr3 : r.length ≤ maxLen := wr1
  have wl3 : l.length ≤ maxLen := wl1
  obtain ⟨k, ha1, w_k⟩ := op_int Tryz.underlying2 _ _ _ hf1
  clear hA0 hval0
  have hm : maxLen = 9223372036854775807 := rfl
  have hlaw := law_fn G hA r l k (by omega) (by omega) (fun p hp => by have := (wl2 p hp).1.1; omega) (Pu r l k wr2 (fun p hp => ⟨(wl2 p hp).1.2, (wl2 p hp).2.1⟩) w_k)
  refine (calls_of hGv hlaw W [.agg cs0, .int .i64 n1] ⟨?_, ?_, trivial⟩).mono fun e W' ⟨he, bel⟩ => ?_
  · simp only [vrep]
    exact ⟨cs0, rfl, avsP_ok (ps := [.sl (cells r), .sl (pieces l)]) (by simpa [Value.cells] using ha0)⟩
  · exact avP_ok (p := .i .i64 k) (by simpa [Value.cells] using ha1.1)
  subst he
  exact ⟨_, rfl, _, _, _, [], _, [], hW', trodAll_mk1 (shut_bool Tryz.underlying4 _), (trodAll_cons_mk (Below.trod laidOut (by kernel_rfl) (of_decide_eq_true (by kernel_rfl)) k0 bel lt0) (trodAll_cons_mk (Below.trod laidOut (by kernel_rfl) (of_decide_eq_true (by kernel_rfl)) k1 bel lt1) trodAll_mk0)), rfl, bel.frame _, fun h => by cases h⟩
theorem j0 : (Rows.fnExactPlacementsAtRow.inPlace == Tryz.prog.inPlace 7) = true := by kernel_rfl
theorem j1 : (Rows.fnExactPlacementsAtRow.unfollowed == Tryz.prog.unfollowed 7) = true := by kernel_rfl
theorem j2 : (Rows.fnExactPlacementsAtRow.recurses == Tryz.prog.recurses 7) = true := by kernel_rfl
theorem j3 : (Rows.fnExactPlacementsAtRow.named == Tryz.prog.varsNamed 7) = true := by kernel_rfl
theorem closedF : joinedFacts Tryz.prog 7 Tryz.f7 Rows.fnExactPlacementsAtSpec Rows.fnExactPlacementsAtRow = true := by
  unfold joinedFacts
  rw [j0, j1, j2, j3]
  kernel_rfl
theorem over {G : Gv} (hGv : GvOk Tryz.prog G) (hA : AllG G) (Pu : Pure) : Rows.fnExactPlacementsAtRow.holds Tryz.pinned (OpenSpec.ofChange Rows.fnExactPlacementsAtSpec) :=
  OpenClaim.holds_of_wide 7 Tryz.f7 rfl rfl rfl rfl rfl rfl rfl ⟨rfl, rfl, rfl, rfl, rfl⟩ rfl rfl rfl rfl rfl (by kernel_rfl) Tryz.func7 closedF
    (of_decide_eq_true (by kernel_rfl)) (by unfold Func.isWrapper; first | (rw [if_pos (by decide +kernel)]; kernel_rfl) | (rw [if_neg (by decide +kernel)]; exact ⟨rfl, rfl⟩))
    (fun os started H enc _ => lifted hGv hA Pu os started H enc)
/-- The row, out of what is left. -/
theorem of_pure {G : Gv} (hGv : GvOk Tryz.prog G) (hA : AllG G) (Pu : Pure) : Rows.FnExactPlacementsAtSaid := over hGv hA Pu
end Go.Proofs.YtdbkkjoejomcmaaGreat.fnExactPlacementsAt
end
section
open Go Go.Big
namespace Go.Proofs
set_option maxHeartbeats 2000000
theorem cntP_le {n : Nat} : ∀ {l : List (Int × List Int)}, (∀ x ∈ l, x.2.length ≤ n) → cntP l ≤ (l.length * (1 + n) : Nat)
  | [], _ => by simp [cntP]
  | x :: l, h => by
    have h1 := h x List.mem_cons_self
    have h2 := cntP_le (l := l) (fun y hy => h y (List.mem_cons_of_mem _ hy))
    have h3 : ((x :: l).length * (1 + n) : Nat) = l.length * (1 + n) + (1 + n) := by rw [List.length_cons, Nat.add_mul, Nat.one_mul]
    rw [h3]
    simp only [cntP]
    omega
theorem small_places {w : List (Int × List Int)} {n : Nat} (hn : n ≤ 100000) (h1 : w.length ≤ n) (h2 : ∀ x ∈ w, x.2.length ≤ 40) : w.length < 1000000000 ∧ (∀ x ∈ w, x.2.length < 1000000000) ∧ cntP w < 100000000000 := by
  refine ⟨by omega, fun x hx => by have := h2 x hx; omega, ?_⟩
  have := cntP_le h2
  omega
theorem inM_lt {k : Int} {n : Nat} (h : inM k n = true) : 0 ≤ k ∧ k.toNat < n := by
  unfold inM at h
  simp only [Bool.and_eq_true, decide_eq_true_eq] at h
  omega
theorem pof_eq (r : Shape) (l : List PieceM) (k : Int) : pofI r l k = pofS r l k ∧ (pofI r l k).1.length < 1000000000 ∧ (∀ x ∈ (pofI r l k).1, x.2.length < 1000000000) ∧ cntP (pofI r l k).1 < 100000000000 := by
  have e : pofI r l k = pofS r l k := by
    unfold pofI pofS
    rw [puzzle_eq]
    by_cases h : puzzleS r l = true
    · by_cases c : inM k l.length = true
      · rw [if_pos h, if_pos h, if_pos c, if_pos c, places_eq h (getD_mem (inM_lt c).2) k]
      · rw [if_pos h, if_pos h, if_neg c, if_neg c]
    · rw [if_neg h, if_neg h]
  rw [e]
  refine ⟨rfl, ?_⟩
  unfold pofS
  by_cases h : puzzleS r l = true
  · by_cases c : inM k l.length = true
    · rw [if_pos h, if_pos c]
      have hm := getD_mem (inM_lt c).2
      exact small_places (n := 320) (by omega) (listB_len h hm k) (fun x hx => by rw [(listB_mem h hm hx).2.1]; exact ((puzzle_facts h).2.2.2.2.2.2 _ hm).2)
    · rw [if_pos h, if_neg c]
      exact small_places (n := 0) (by omega) (by simp) (by simp)
  · rw [if_neg h]
    exact small_places (n := 0) (by omega) (by simp) (by simp)
end Go.Proofs
end
section
open Go Go.Big
namespace Go.Proofs
set_option maxHeartbeats 2000000
theorem pat_eq (r : Shape) (l : List PieceM) (k : Int) : patI r l k = patS r l k ∧ (patI r l k).1.length < 1000000000 ∧ (∀ x ∈ (patI r l k).1, x.2.length < 1000000000) ∧ cntP (patI r l k).1 < 100000000000 := by
  have e : patI r l k = patS r l k := by unfold patI patS; rw [puzzle_eq]
  rw [e]
  refine ⟨rfl, ?_⟩
  unfold patS
  by_cases h : puzzleS r l = true
  · by_cases c : inM k r.length = true
    · rw [if_pos h, if_pos c]
      have := allB_len h (Nat.le_refl l.length)
      have := (puzzle_facts h).2.2.2.2.1
      have := List.length_filter_le (atM k) (allB r l l.length)
      exact small_places (n := 3840) (by omega) (by simp only; omega) (fun x hx => (allB_mem h (Nat.le_refl _) ((List.mem_filter.mp hx).1)).2.2.1)
    · rw [if_pos h, if_neg c]
      exact small_places (n := 0) (by omega) (by simp) (by simp)
  · rw [if_neg h]
    exact small_places (n := 0) (by omega) (by simp) (by simp)
end Go.Proofs
end
section
open Go Go.Big
namespace Go.Proofs
set_option maxHeartbeats 2000000
theorem noG_ok : GvOk Tryz.prog noG := fun _ _ _ _ _ _ _ h => h.elim
def allG : Gv := fun f args H n r H' n' => sortsG f args H n r H' n' ∨ sortsG1 f args H n r H' n' ∨ sortsG2 f args H n r H' n' ∨ sortsN2 f args H n r H' n'
theorem allG_all : AllG allG := ⟨fun _ _ _ _ _ _ _ h => .inl h, fun _ _ _ _ _ _ _ h => .inr (.inl h), fun _ _ _ _ _ _ _ h => .inr (.inr (.inl h)), fun _ _ _ _ _ _ _ h => .inr (.inr (.inr h))⟩
theorem allG_ok : GvOk Tryz.prog allG := by
  rintro f args H n r H' n' (h | h | h | h)
  · exact sortK_ok Tryz.sortCell (by decide) Tryz.isAgg117 Tryz.sizeOf117 noG_ok _ _ _ _ _ _ _ h
  · exact sort1_ok Tryz.sortShape noG_ok _ _ _ _ _ _ _ h
  · exact sortO_ok Tryz.sortPlace (by decide) Tryz.isAgg55 Tryz.sizeOf55 noG_ok _ _ _ _ _ _ _ h
  · exact sortN_ok Tryz.sortPlace _ _ _ _ _ _ _ h
end Go.Proofs
end
