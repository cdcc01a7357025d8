/- Walks: Lists of placements: turned into other ones, equal to itself, their size. No condition. | Arguments turned into ones that the caller owns. No condition. | Cells moved. No condition. | Whether all parts are the first one; picked cells. No condition. | Cells picked by their numbers. No condition. | What is a shape. No condition. | What is a shape, the program's. No condition. | The least corner of cells. No condition. | Where a cell stands; the greatest corner, sizes. No condition. | The parts of cells, without memory. No condition. | The reference's parts. No condition. -/
import Derived.Test.YtmglpcdalechfaaGreatBO
import Derived.Test.YtmglpcdalechfaaGreatWk1
import Derived.Test.YtmglpcdalechfaaGreatBC
set_option linter.unusedVariables false
set_option linter.unusedSimpArgs false
section
open Go Go.Big
namespace Go.Proofs
set_option maxHeartbeats 2000000
abbrev placR (x : Int × List Int) : List PV := [.i .i64 x.1, .sl (ints x.2)]
def places (l : List (Int × List Int)) : List (List PV) := l.map placR
theorem places_len (l : List (Int × List Int)) : (places l).length = l.length := by simp [places]
theorem places_at {l : List (Int × List Int)} {i : Nat} {x : Int × List Int} (h : l[i]? = some x) : (places l)[i]? = some (placR x) := by simp [places, h]
theorem toPlacementS_fn (G : Gv) (l : List (Int × List Int)) (hl : l.length < 1000000000) (hc : ∀ p ∈ l, p.2.length < 1000000000) : Gives Tryz.prog G 49 [.sl 0 (places l)] (.sl 1 (places l)) := by
  refine .of (.body Tryz.func49 rfl (by simp [Tryz.ntmps49]) ?_)
  rw [Tryz.ntmps49, Tryz.results49]
  have hlen := places_len l
  have b1 : ((32 : Nat) : Int) * l.length ≤ 281474976710656 := by simp; omega
  have b2 : (l.length : Int) ≤ 9223372036854775807 := by omega
  have b3 : (0 : Int) ≤ l.length := by omega
  refine AG ?_
  refine .block (.loop (.inv (fun d E H n' => ∃ i : Nat, i + d = l.length ∧ E 0 = .sl 0 (places l) ∧ E 3 = .own 3 0 ∧ E 4 = .i .i64 i ∧ H 3 = some (.arr 0 110 2 (part (places l) [.i .i64 0, .sl []] i) 1)) l.length ?_ ?_))
  · simp [setF_if, argE, upd_if, part_zero, hlen]
  rintro d E H n' ⟨i, hi, h0, h3, h4, hH⟩
  refine AG ?_
  by_cases c : (i : Int) < l.length
  · refine IFT ?_
    obtain ⟨p, hpi⟩ : ∃ p, l[i]? = some p := ⟨_, List.getElem?_eq_getElem (by omega)⟩
    have hr : (places l)[i]? = some (placR p) := places_at hpi
    have hp := part_at (l := places l) (z := [PV.i .i64 0, PV.sl []]) (i := i) (by omega)
    have hs := part_set (z := [PV.i .i64 0, PV.sl []]) hr
    have hpl : i < (part (places l) [PV.i .i64 0, PV.sl []] i).length := (List.getElem?_eq_some_iff.mp hp).1
    have hw2 : IntKind.i64.wrap ((i : Int) + 1) = (i : Int) + 1 := wr64 (by omega) (by omega)
    refine .skip ?_
    refine AG ?_
    refine .block ?_
    refine AG ?_
    refine CV (toPlacement_fn G p.1 p.2 (hc p (List.mem_of_getElem? hpi))) ?_
    refine AG ?_
    (try simp only [tN, tR, tE, rN, rR, rE, xN, xR, xE, reduceIte])
    refine AG ?_
    (try simp only [tN, tR, tE, rN, rR, rE, xN, xR, xE, reduceIte])
    refine ⟨l.length - (i + 1), by omega, i + 1, by omega, ?_⟩
    simp [setF_if, upd_if, *]
  · refine IFF ?_
    refine .exit ?_
    (try simp only [tN, tR, tE, rN, rR, rE, xN, xR, xE, reduceIte])
    refine AG ?_
    refine .ret ?_
    refine DN ?_
    have e : i = (places l).length := by omega
    simp [retA, backA, newSl, newB, hH]
    rw [e, part_all]
theorem eqPlacementS_fn (G : Gv) (l : List (Int × List Int)) (hl : l.length < 1000000000) (hc : ∀ p ∈ l, p.2.length < 1000000000) : Gives Tryz.prog G 51 [.sl 0 (places l), .sl 0 (places l)] (.b true) := by
  refine .of (.body Tryz.func51 rfl (by simp [Tryz.ntmps51]) ?_)
  rw [Tryz.ntmps51, Tryz.results51]
  have hlen := places_len l
  refine AG ?_
  have hn : ((l.length : Int) != l.length) = false := by simp
  refine IFF ?_
  refine .skip ?_
  refine AG ?_
  refine .block (.loop (.inv (fun d E H n' => ∃ i : Nat, i + d = l.length ∧ E 0 = .sl 0 (places l) ∧ E 1 = .sl 0 (places l) ∧ E 5 = .i .i64 i) l.length ?_ ?_))
  · simp [setF_if, argE]
  rintro d E H n' ⟨i, hi, h0, h1, h5⟩
  refine AG ?_
  by_cases c : (i : Int) < l.length
  · refine IFT ?_
    obtain ⟨p, hpi⟩ : ∃ p, l[i]? = some p := ⟨_, List.getElem?_eq_getElem (by omega)⟩
    have hr : (places l)[i]? = some (placR p) := places_at hpi
    have hw2 : IntKind.i64.wrap ((i : Int) + 1) = (i : Int) + 1 := wr64 (by omega) (by omega)
    refine .skip ?_
    refine AG ?_
    refine .block ?_
    refine AQ ?_
    refine CQ (eqPlacement_fn G p.1 p.2 (hc p (List.mem_of_getElem? hpi))) ?_
    refine AQ ?_
    refine IFF ?_
    refine .skip ?_
    (try simp only [tN, tR, tE, rN, rR, rE, xN, xR, xE, reduceIte])
    refine AG ?_
    (try simp only [tN, tR, tE, rN, rR, rE, xN, xR, xE, reduceIte])
    refine ⟨l.length - (i + 1), by omega, i + 1, by omega, ?_⟩
    simp [setF_if, *]
  · refine IFF ?_
    refine .exit ?_
    (try simp only [tN, tR, tE, rN, rR, rE, xN, xR, xE, reduceIte])
    refine AG ?_
    refine .ret ?_
    refine DN ?_
    simp [retA, backA]
def szPL : List (Int × List Int) → Int → Int
  | [], left => left
  | p :: r, left => if szN p.2.length left < 0 then -1 else szPL r (szN p.2.length left)
def szPLS (l : List (Int × List Int)) (left : Int) : Int := if left - l.length < 0 then -1 else szPL l (left - l.length)
theorem szPlacementS_fn (G : Gv) (l : List (Int × List Int)) (left : Int) (hl : l.length ≤ 9223372036854775807) (hc : ∀ p ∈ l, p.2.length ≤ 9223372036854775807) (h0 : 0 ≤ left) (h1 : left ≤ 1048576) : Gives Tryz.prog G 47 [.sl 0 (places l), .i .i64 left] (.i .i64 (szPLS l left)) := by
  refine .of (.body Tryz.func47 rfl (by simp [Tryz.ntmps47]) ?_)
  rw [Tryz.ntmps47, Tryz.results47]
  have hlen := places_len l
  replace hc := Hid.mk hc
  have hw : IntKind.i64.wrap (left - l.length) = left - l.length := wr64s (by omega) (by omega)
  by_cases c : left - (l.length : Int) < 0
  · refine AL ?_
    simp [retA, backA, szPLS, c]
  · refine AL ?_
    refine .loop (.inv (fun d E H n' => ∃ (i : Nat) (lf : Int), i + d = l.length ∧ 0 ≤ lf ∧ lf ≤ 1048576 ∧ szPL (l.drop i) lf = szPLS l left ∧ E 0 = .sl 0 (places l) ∧ E 1 = .i .i64 lf ∧ E 5 = .i .i64 i) l.length ?_ ?_)
    · exact ⟨0, left - l.length, by omega, by omega, by omega, by unfold szPLS; rw [if_neg c]; rfl, by simp [setF_if, argE], by simp [setF_if, argE, hlen, hw], by simp [setF_if, argE]⟩
    have hbl : (l.length : Int) ≤ 1048576 := by omega
    clear hw c
    rintro d E H n' ⟨i, lf, hi, hl0, hl1, hsz, e0, e1, e3⟩
    by_cases c : (i : Int) < l.length
    · have cN : i < l.length := by omega
      obtain ⟨p, hpi⟩ : ∃ p, l[i]? = some p := ⟨_, List.getElem?_eq_getElem (by omega)⟩
      have hr : (places l)[i]? = some (placR p) := places_at hpi
      have hw_i : IntKind.i64.wrap ((i : Int) + 1) = (i : Int) + 1 := wr64 (by omega) (by omega)
      have hd : l.drop i = p :: l.drop (i + 1) := drop_cons hpi
      rw [hd] at hsz
      have hpc := hc.out p (List.mem_of_getElem? hpi)
      replace hsz := Hid.mk hsz
      clear hd
      refine AQ ?_
      refine AL ?_
      refine CV (szPlacement_fn G p.1 _ _ hpc hl0 hl1) ?_
      by_cases c2 : szN p.2.length lf < 0
      · refine AL ?_
        have : szPLS l left = -1 := by rw [← hsz.out, szPL, if_pos c2]
        simp [retA, backA, this]
      · refine AL ?_
        obtain ⟨_, g2, g3⟩ := szN_le c2
        refine ⟨l.length - (i + 1), by omega, i + 1, szN p.2.length lf, by omega, g3, by omega, by rw [← hsz.out, szPL, if_neg c2], by simp [setF_if, *], by simp [setF_if, *], by simp [setF_if, *]⟩
    · have e' : i = l.length := by omega
      subst e'
      rw [List.drop_length, szPL] at hsz
      refine AL ?_
      simp [retA, backA, hsz]
theorem szPL_le {l : List (Int × List Int)} : ∀ {left : Int}, left ≤ 1048576 → ¬ szPL l left < 0 → (∀ p ∈ l, (p.2.length : Int) ≤ 1048576) ∧ szPL l left ≤ left := by
  induction l with
  | nil => intro left _ _; exact ⟨by simp, Int.le_refl _⟩
  | cons p r ih =>
    intro left hl h
    unfold szPL at h ⊢
    split at h
    · simp at h
    · rename_i c
      rw [if_neg c]
      obtain ⟨g1, g2, g3⟩ := szN_le c
      obtain ⟨h1, h2⟩ := ih (by omega) h
      refine ⟨fun x hx => ?_, by omega⟩
      rcases List.mem_cons.mp hx with rfl | hx
      · omega
      · exact h1 x hx
theorem szPLS_le {l : List (Int × List Int)} {left : Int} (hl : left ≤ 1048576) (h : ¬ szPLS l left < 0) : (l.length : Int) ≤ 1048576 ∧ ∀ p ∈ l, (p.2.length : Int) ≤ 1048576 := by
  unfold szPLS at h
  split at h
  · simp at h
  · obtain ⟨h1, h2⟩ := szPL_le (by omega) h
    exact ⟨by omega, h1⟩
end Go.Proofs
end
section
open Go Go.Big
namespace Go.Proofs
set_option maxHeartbeats 2000000
theorem cells_scal (l : List (Int × Int)) : scalRows (cells l) := fun r hr p hp => by
  obtain ⟨c, _, rfl⟩ := List.mem_map.mp hr
  simp at hp; rcases hp with rfl | rfl <;> rfl
theorem cells_fit (l : List (Int × Int)) : fitR 2 (cells l) := fun r hr => by
  obtain ⟨c, _, rfl⟩ := List.mem_map.mp hr; rfl
theorem ints_scal (l : List Int) : scalRows (ints l) := fun r hr p hp => by
  obtain ⟨c, _, rfl⟩ := List.mem_map.mp hr
  simp at hp; subst hp; rfl
theorem ints_fit (l : List Int) : fitR 1 (ints l) := fun r hr => by
  obtain ⟨c, _, rfl⟩ := List.mem_map.mp hr; rfl
theorem toCellS_o (G : Gv) (l : List (Int × Int)) (hl : l.length < 1000000000) : GivesO Tryz.prog G 54 [.sl 0 (cells l)] (.sl 1 (cells l)) := by
  refine .of (.body Tryz.func54 rfl (by simp [Tryz.ntmps54]) ?_)
  rw [Tryz.ntmps54, Tryz.results54]
  have hlen := cells_len l
  have b1 : ((16 : Nat) : Int) * l.length ≤ 281474976710656 := by simp; omega
  have b2 : (l.length : Int) ≤ 9223372036854775807 := by omega
  have b3 : (0 : Int) ≤ l.length := by omega
  refine AG ?_
  refine .block (.loop (.inv (fun d E H n' => ∃ i : Nat, i + d = l.length ∧ E 0 = .sl 0 (cells l) ∧ E 3 = .own 3 0 ∧ E 4 = .i .i64 i ∧ H 3 = some (.arr 0 142 2 (part (cells l) [.i .i64 0, .i .i64 0] i) 1)) l.length ?_ ?_))
  · simp [setF_if, argE, upd_if, part_zero, hlen]
  rintro d E H n' ⟨i, hi, h0, h3, h4, hH⟩
  refine AG ?_
  by_cases c : (i : Int) < l.length
  · refine IFT ?_
    have hr := cells_at (l := l) (i := i) (by omega)
    have hp := part_at (l := cells l) (z := [PV.i .i64 0, PV.i .i64 0]) (i := i) (by omega)
    have hs := part_set (z := [PV.i .i64 0, PV.i .i64 0]) hr
    have hpl : i < (part (cells l) [PV.i .i64 0, PV.i .i64 0] i).length := (List.getElem?_eq_some_iff.mp hp).1
    have hw2 : IntKind.i64.wrap ((i : Int) + 1) = (i : Int) + 1 := wr64 (by omega) (by omega)
    refine .skip ?_
    refine AG ?_
    refine .block ?_
    refine AG ?_
    refine CV (toCell_fn G _ _) ?_
    refine AG ?_
    (try simp only [tN, tR, tE, rN, rR, rE, xN, xR, xE, reduceIte])
    refine AG ?_
    (try simp only [tN, tR, tE, rN, rR, rE, xN, xR, xE, reduceIte])
    refine ⟨l.length - (i + 1), by omega, i + 1, by omega, ?_⟩
    simp [setF_if, upd_if, *]
  · have e : i = (cells l).length := by omega
    rw [e, part_all] at hH
    refine AL ?_
    exact ⟨[3], ownX_sl (ownA_mk hH (cells_scal l) (by decide) (cells_fit l)), by simp⟩
theorem toInt64S_o (G : Gv) (l : List Int) (hl : l.length < 1000000000) : GivesO Tryz.prog G 55 [.sl 0 (ints l)] (.sl 1 (ints l)) := by
  refine .of (.body Tryz.func55 rfl (by simp [Tryz.ntmps55]) ?_)
  rw [Tryz.ntmps55, Tryz.results55]
  have hlen := ints_len l
  have b1 : ((8 : Nat) : Int) * l.length ≤ 281474976710656 := by simp; omega
  have b2 : (l.length : Int) ≤ 9223372036854775807 := by omega
  have b3 : (0 : Int) ≤ l.length := by omega
  refine AG ?_
  refine .block (.loop (.inv (fun d E H n' => ∃ i : Nat, i + d = l.length ∧ E 0 = .sl 0 (ints l) ∧ E 3 = .own 3 0 ∧ E 4 = .i .i64 i ∧ H 3 = some (.arr 0 2 1 (part (ints l) [.i .i64 0] i) 1)) l.length ?_ ?_))
  · simp [setF_if, argE, upd_if, part_zero, hlen]
  rintro d E H n' ⟨i, hi, h0, h3, h4, hH⟩
  refine AG ?_
  by_cases c : (i : Int) < l.length
  · refine IFT ?_
    have hr := ints_at (l := l) (i := i) (by omega)
    have hp := part_at (l := ints l) (z := [PV.i .i64 0]) (i := i) (by omega)
    have hs := part_set (z := [PV.i .i64 0]) hr
    have hpl : i < (part (ints l) [PV.i .i64 0] i).length := (List.getElem?_eq_some_iff.mp hp).1
    have hw2 : IntKind.i64.wrap ((i : Int) + 1) = (i : Int) + 1 := wr64 (by omega) (by omega)
    refine .skip ?_
    refine AG ?_
    refine .block ?_
    refine AG ?_
    (try simp only [tN, tR, tE, rN, rR, rE, xN, xR, xE, reduceIte])
    refine AG ?_
    (try simp only [tN, tR, tE, rN, rR, rE, xN, xR, xE, reduceIte])
    refine ⟨l.length - (i + 1), by omega, i + 1, by omega, ?_⟩
    simp [setF_if, upd_if, *]
  · have e : i = (ints l).length := by omega
    rw [e, part_all] at hH
    refine AL ?_
    exact ⟨[3], ownX_sl (ownA_mk hH (ints_scal l) (by decide) (ints_fit l)), by simp⟩
end Go.Proofs
end
section
open Go Go.Big
namespace Go.Proofs
set_option maxHeartbeats 2000000
def movedM (l : List (Int × Int)) (a b : Int) : List (Int × Int) := l.map fun p => (IntKind.i64.wrap (p.1 + a), IntKind.i64.wrap (p.2 + b))
theorem moved_fn (G : Gv) (l : List (Int × Int)) (a b : Int) (hl : l.length < 1000000000) : Gives Tryz.prog G 155 [.sl 0 (cells l), .i .i64 a, .i .i64 b] (.sl 1 (cells (movedM l a b))) := by
  refine .of (.body Tryz.func155 rfl (by simp [Tryz.ntmps155]) ?_)
  rw [Tryz.ntmps155, Tryz.results155]
  have hlen := cells_len l
  have b1 : ((16 : Nat) : Int) * l.length ≤ 281474976710656 := by simp; omega
  have b2 : (l.length : Int) ≤ 9223372036854775807 := by omega
  have b3 : (0 : Int) ≤ l.length := by omega
  refine AG ?_
  refine .block (.loop (.inv (fun d E H n' => ∃ i : Nat, i + d = l.length ∧ 3 < n' ∧ E 1 = .i .i64 a ∧ E 2 = .i .i64 b ∧ E 13 = .sl 0 (cells l) ∧ E 14 = .i .i64 l.length ∧ E 15 = .i .i64 i ∧ ∃ e, E 7 = .own 3 e ∧ H 3 = some (.arr e 142 2 (cells (movedM (l.take i) a b)) 1)) l.length ?_ ?_))
  · simp [setF_if, argE, upd_if, movedM, cells]
  rintro d E H n' ⟨i, hi, hn3, h1, h2, h13, h14, h15, e, h7, hH⟩
  refine AG ?_
  by_cases c : (i : Int) < l.length
  · refine IFT ?_
    have hr := cells_at (l := l) (i := i) (by omega)
    have hw2 : IntKind.i64.wrap ((i : Int) + 1) = (i : Int) + 1 := wr64 (by omega) (by omega)
    have hne : ∀ k, ¬ (3 = n' + k) := fun k => by omega
    have hne0 : ¬ (3 = n') := by omega
    have hq1 : ¬ (3 = n' + 14 + 1) := by omega
    have hq2 : ¬ (3 = n' + 2 + 1) := by omega
    have hq3 : ¬ (3 = n' + 15) := by omega
    have hq4 : ¬ (3 = n' + 3) := by omega
    have hrl : (cells (movedM (l.take i) a b)).length = i := by simp [cells, movedM]; omega
    have hb : (i + 1) * 16 ≤ 140737488355328 := by omega
    have htk : cells (movedM (l.take i) a b) ++ [[.i .i64 (IntKind.i64.wrap ((l.getD i (0, 0)).1 + a)), .i .i64 (IntKind.i64.wrap ((l.getD i (0, 0)).2 + b))]] = cells (movedM (l.take (i + 1)) a b) := by
      rw [List.take_succ_eq_append_getElem (by omega)]; simp only [cells, movedM, List.map_append, List.map_cons, List.map_nil, List.getD_eq_getElem?_getD, List.getElem?_eq_getElem (show i < l.length by omega), Option.getD_some]
    refine .skip ?_
    refine AG ?_
    refine .block ?_
    refine AG ?_
    (try simp only [tN, tR, tE, rN, rR, rE, xN, xR, xE, reduceIte])
    refine AG ?_
    (try simp only [tN, tR, tE, rN, rR, rE, xN, xR, xE, reduceIte])
    refine ⟨l.length - (i + 1), by omega, i + 1, by omega, ?_⟩
    simp [setF_if, upd_if, *]
  · refine IFF ?_
    refine .exit ?_
    (try simp only [tN, tR, tE, rN, rR, rE, xN, xR, xE, reduceIte])
    refine AG ?_
    refine .ret ?_
    refine DN ?_
    have e : i = l.length := by omega
    subst e
    simp [retA, backA, newSl, newB, hH, List.take_length]
end Go.Proofs
end
section
open Go Go.Big
namespace Go.Proofs
set_option maxHeartbeats 2000000
def zerosM (l : List Int) : Bool := (List.range l.length).all fun i => l.getD i 0 == 0
theorem l02One_fn (G : Gv) (l : List Int) (hl : l.length < 1000000000) : Gives Tryz.prog G 210 [.sl 0 (ints l)] (.b (zerosM l)) := by
  refine .of (.body Tryz.func210 rfl (by simp [Tryz.ntmps210]) ?_)
  rw [Tryz.ntmps210, Tryz.results210]
  have hlen := ints_len l
  refine AG ?_
  refine .block (.loop (.inv (fun d E H n' => ∃ i : Nat, i + d = l.length ∧ E 0 = .sl 0 (ints l) ∧ E 3 = .i .i64 i ∧ (∀ j, j < i → (l.getD j 0 == 0) = true)) l.length ?_ ?_))
  · simp [setF_if, argE]
  rintro d E H n' ⟨i, hi, h0, h3, hall⟩
  refine AG ?_
  by_cases c : (i : Int) < l.length
  · refine IFT ?_
    have hr : (ints l)[i]? = some [.i .i64 (l.getD i 0)] := ints_at (by omega)
    have hw2 : IntKind.i64.wrap ((i : Int) + 1) = (i : Int) + 1 := wr64 (by omega) (by omega)
    have hno : (l.getD i 0 == 0) = false → zerosM l = false := fun h => all_no (by omega) h
    have more : (l.getD i 0 == 0) = true → ∀ j, j < i + 1 → (l.getD j 0 == 0) = true := fun h j hj => by
      by_cases e : j = i
      · rw [e]; exact h
      · exact hall j (by omega)
    generalize l.getD i 0 = x at hr hno more
    refine .skip ?_
    refine AG ?_
    refine .block ?_
    refine AG ?_
    by_cases c1 : (x != 0) = true
    · refine IFT ?_
      refine AG ?_
      refine .ret ?_
      (try simp only [tN, tR, tE, rN, rR, rE, xN, xR, xE, reduceIte])
      refine DN ?_
      have := hno (by simpa using c1)
      simp [retA, backA, this]
    · refine IFF ?_
      refine .skip ?_
      (try simp only [tN, tR, tE, rN, rR, rE, xN, xR, xE, reduceIte])
      refine AG ?_
      (try simp only [tN, tR, tE, rN, rR, rE, xN, xR, xE, reduceIte])
      refine ⟨l.length - (i + 1), by omega, i + 1, by omega, ?_⟩
      have := more (by simpa using c1)
      simp [setF_if, *]
      simpa using this
  · refine IFF ?_
    refine .exit ?_
    (try simp only [tN, tR, tE, rN, rR, rE, xN, xR, xE, reduceIte])
    refine AG ?_
    refine .ret ?_
    refine DN ?_
    have : zerosM l = true := all_yes (fun j hj => hall j (by omega))
    simp [retA, backA, this]
end Go.Proofs
end
section
open Go Go.Big
namespace Go.Proofs
set_option maxHeartbeats 2000000
def pickM (l : List (Int × Int)) (s : List Int) : List (Int × Int) := s.map fun k => l.getD k.toNat (0, 0)
theorem l10Cells_fn (G : Gv) (l : List (Int × Int)) (s : List Int) (hl : l.length < 1000000000) (hs : s.length < 1000000000) (hk : ∀ k ∈ s, 0 ≤ k ∧ k < l.length) : Gives Tryz.prog G 298 [.sl 0 (cells l), .sl 0 (ints s)] (.sl 1 (cells (pickM l s))) := by
  refine .of (.body Tryz.func298 rfl (by simp [Tryz.ntmps298]) ?_)
  rw [Tryz.ntmps298, Tryz.results298]
  have hlen := ints_len s
  refine AG ?_
  refine .block (.loop (.inv (fun d E H n' => ∃ i : Nat, i + d = s.length ∧ 1 < n' ∧ E 0 = .sl 0 (cells l) ∧ E 1 = .sl 0 (ints s) ∧ E 6 = .i .i64 i ∧ ∃ e, E 5 = .own 1 e ∧ H 1 = some (.arr e 142 2 (cells (pickM l (s.take i))) 1)) s.length ?_ ?_))
  · simp [setF_if, argE, upd_if, pickM, cells]
  rintro d E H n' ⟨i, hi, hn1, h0, h1, h6, e, h5, hH⟩
  refine AG ?_
  by_cases c : (i : Int) < s.length
  · refine IFT ?_
    have hr := ints_at (l := s) (i := i) (by omega)
    have hmem : s.getD i 0 ∈ s := by rw [List.getD_eq_getElem?_getD, List.getElem?_eq_getElem (by omega)]; exact List.getElem_mem _
    obtain ⟨k1, k2⟩ := hk _ hmem
    have hc := cells_at (l := l) (i := (s.getD i 0).toNat) (by omega)
    have hw2 : IntKind.i64.wrap ((i : Int) + 1) = (i : Int) + 1 := wr64 (by omega) (by omega)
    have hrl : (cells (pickM l (s.take i))).length = i := by simp [cells, pickM]; omega
    have hb : (i + 1) * 16 ≤ 140737488355328 := by omega
    have htk : cells (pickM l (s.take i)) ++ [[.i .i64 (l.getD (s.getD i 0).toNat (0, 0)).1, .i .i64 (l.getD (s.getD i 0).toNat (0, 0)).2]] = cells (pickM l (s.take (i + 1))) := by
      rw [List.take_succ_eq_append_getElem (by omega)]; simp only [cells, pickM, List.map_append, List.map_cons, List.map_nil, List.getD_eq_getElem?_getD (l := s), List.getElem?_eq_getElem (show i < s.length by omega), Option.getD_some]
    refine .skip ?_
    refine AG ?_
    refine .block ?_
    generalize s.getD i 0 = k at hr k1 k2 hc htk
    generalize l.getD k.toNat (0, 0) = p at hc htk
    have hq1 : ¬ (1 = n' + 12 + 1) := by omega
    have hq2 : ¬ (1 = n' + 13) := by omega
    have hq3 : ¬ (1 = n' + 11 + 1) := by omega
    have hq4 : ¬ (1 = n' + 12) := by omega
    refine AG ?_
    (try simp only [tN, tR, tE, rN, rR, rE, xN, xR, xE, reduceIte])
    refine AG ?_
    (try simp only [tN, tR, tE, rN, rR, rE, xN, xR, xE, reduceIte])
    refine ⟨s.length - (i + 1), by omega, i + 1, by omega, ?_⟩
    simp [setF_if, upd_if, *]
  · refine IFF ?_
    refine .exit ?_
    (try simp only [tN, tR, tE, rN, rR, rE, xN, xR, xE, reduceIte])
    refine AG ?_
    refine .ret ?_
    refine DN ?_
    have e : i = s.length := by omega
    subst e
    simp [retA, backA, newSl, newB, hH, List.take_length]
theorem setToCells_fn (G : Gv) (l : List (Int × Int)) (s : List Int) (hl : l.length < 1000000000) (hs : s.length < 1000000000) (hk : ∀ k ∈ s, 0 ≤ k ∧ k < l.length) : Gives Tryz.prog G 274 [.sl 0 (cells l), .sl 0 (ints s)] (.sl 1 (cells (pickM l s))) := by
  refine .of (.body Tryz.func274 rfl (by simp [Tryz.ntmps274]) ?_)
  rw [Tryz.ntmps274, Tryz.results274]
  have hlen := ints_len s
  refine AG ?_
  refine .block (.loop (.inv (fun d E H n' => ∃ i : Nat, i + d = s.length ∧ 1 < n' ∧ E 0 = .sl 0 (cells l) ∧ E 1 = .sl 0 (ints s) ∧ E 9 = .sl 0 (ints s) ∧ E 10 = .i .i64 s.length ∧ E 11 = .i .i64 i ∧ ∃ e, E 5 = .own 1 e ∧ H 1 = some (.arr e 142 2 (cells (pickM l (s.take i))) 1)) s.length ?_ ?_))
  · simp [setF_if, argE, upd_if, pickM, cells]
  rintro d E H n' ⟨i, hi, hn1, h0, h1, h9, h10, h11, e, h5, hH⟩
  refine AG ?_
  by_cases c : (i : Int) < s.length
  · refine IFT ?_
    have hr := ints_at (l := s) (i := i) (by omega)
    have hmem : s.getD i 0 ∈ s := by rw [List.getD_eq_getElem?_getD, List.getElem?_eq_getElem (by omega)]; exact List.getElem_mem _
    obtain ⟨k1, k2⟩ := hk _ hmem
    have hc := cells_at (l := l) (i := (s.getD i 0).toNat) (by omega)
    have hw2 : IntKind.i64.wrap ((i : Int) + 1) = (i : Int) + 1 := wr64 (by omega) (by omega)
    have hrl : (cells (pickM l (s.take i))).length = i := by simp [cells, pickM]; omega
    have hb : (i + 1) * 16 ≤ 140737488355328 := by omega
    have htk : cells (pickM l (s.take i)) ++ [[.i .i64 (l.getD (s.getD i 0).toNat (0, 0)).1, .i .i64 (l.getD (s.getD i 0).toNat (0, 0)).2]] = cells (pickM l (s.take (i + 1))) := by
      rw [List.take_succ_eq_append_getElem (by omega)]; simp only [cells, pickM, List.map_append, List.map_cons, List.map_nil, List.getD_eq_getElem?_getD (l := s), List.getElem?_eq_getElem (show i < s.length by omega), Option.getD_some]
    refine .skip ?_
    refine AG ?_
    refine .block ?_
    generalize s.getD i 0 = k at hr k1 k2 hc htk
    generalize l.getD k.toNat (0, 0) = p at hc htk
    have hq1 : ¬ (1 = n' + 13) := by omega
    have hq2 : ¬ (1 = n' + 13) := by omega
    have hq3 : ¬ (1 = n' + 8 + 1) := by omega
    have hq4 : ¬ (1 = n' + 12) := by omega
    refine AG ?_
    (try simp only [tN, tR, tE, rN, rR, rE, xN, xR, xE, reduceIte])
    refine AG ?_
    (try simp only [tN, tR, tE, rN, rR, rE, xN, xR, xE, reduceIte])
    refine ⟨s.length - (i + 1), by omega, i + 1, by omega, ?_⟩
    simp [setF_if, upd_if, *]
  · refine IFF ?_
    refine .exit ?_
    (try simp only [tN, tR, tE, rN, rR, rE, xN, xR, xE, reduceIte])
    refine AG ?_
    refine .ret ?_
    refine DN ?_
    have e : i = s.length := by omega
    subst e
    simp [retA, backA, newSl, newB, hH, List.take_length]
end Go.Proofs
end
section
open Go Go.Big
namespace Go.Proofs
set_option maxHeartbeats 2000000
def shapeAt (l : List (Int × Int)) (i : Nat) : Bool := (inC (l.getD i (0, 0)).1 && inC (l.getD i (0, 0)).2) && !(decide ((i : Int) > 0) && !lessC (l.getD (i - 1) (0, 0)).1 (l.getD (i - 1) (0, 0)).2 (l.getD i (0, 0)).1 (l.getD i (0, 0)).2)
def shapeM (l : List (Int × Int)) : Bool := (List.range l.length).all (shapeAt l) && (decide ((l.length : Int) ≥ 1) && decide ((l.length : Int) ≤ 40))
theorem specIsShape_fn (G : Gv) (l : List (Int × Int)) (hl : l.length < 1000000000) : Gives Tryz.prog G 180 [.sl 0 (cells l)] (.b (shapeM l)) := by
  refine .of (.body Tryz.func180 rfl (by simp [Tryz.ntmps180]) ?_)
  rw [Tryz.ntmps180, Tryz.results180]
  have hlen := cells_len l
  refine AG ?_
  refine .block (.loop (.inv (fun d E H n' => ∃ i : Nat, i + d = l.length ∧ E 0 = .sl 0 (cells l) ∧ E 3 = .i .i64 i ∧ (∀ j, j < i → shapeAt l j = true)) l.length ?_ ?_))
  · simp [setF_if, argE]
  rintro d E H n' ⟨i, hi, h0, h3, hall⟩
  refine AG ?_
  by_cases c : (i : Int) < l.length
  · refine IFT ?_
    have hr := cells_at (l := l) (i := i) (by omega)
    have hw2 : IntKind.i64.wrap ((i : Int) + 1) = (i : Int) + 1 := wr64 (by omega) (by omega)
    have hat : shapeAt l i = shapeAt l i := rfl
    conv at hat => rhs; unfold shapeAt
    have hno : shapeAt l i = false → shapeM l = false := fun h => by unfold shapeM; rw [all_no (by omega) h]; rfl
    have more : shapeAt l i = true → ∀ j, j < i + 1 → shapeAt l j = true := fun h j hj => by
      by_cases e : j = i
      · rw [e]; exact h
      · exact hall j (by omega)
    generalize l.getD i (0, 0) = p at hr hat
    refine .skip ?_
    refine AG ?_
    refine .block ?_
    refine AQ ?_
    refine CQ (l02Cell_fn G _ _) ?_
    refine AQ ?_
    by_cases c1 : (inC p.1 && inC p.2) = true
    · refine AQ ?_
      by_cases c3 : (i : Int) > 0
      · have hr2 : (cells l)[((i : Int) - 1).toNat]? = some [.i .i64 (l.getD (i - 1) (0, 0)).1, .i .i64 (l.getD (i - 1) (0, 0)).2] := by rw [show ((i : Int) - 1).toNat = i - 1 by omega]; exact cells_at (by omega)
        have hw : IntKind.i64.wrap ((i : Int) - 1) = (i : Int) - 1 := wr64 (by omega) (by omega)
        have h01 : 0 ≤ (i : Int) - 1 := by omega
        generalize l.getD (i - 1) (0, 0) = q at hr2 hat
        refine AQ ?_
        refine CQ (l02Less_fn G _ _ _ _) ?_
        refine AQ ?_
        by_cases c4 : lessC q.1 q.2 p.1 p.2 = true
        · refine IFF ?_
          refine .skip ?_
          (try simp only [tN, tR, tE, rN, rR, rE, xN, xR, xE, reduceIte])
          refine AG ?_
          (try simp only [tN, tR, tE, rN, rR, rE, xN, xR, xE, reduceIte])
          refine ⟨l.length - (i + 1), by omega, i + 1, by omega, ?_⟩
          have := more (by simp only [hat, c1, c3, c4, decide_true, decide_false, Bool.not_true, Bool.not_false, Bool.and_true, Bool.true_and, Bool.and_false, Bool.false_and, Bool.and_self])
          simp [setF_if, *]
          exact this
        · refine IFT ?_
          refine AG ?_
          refine .ret ?_
          (try simp only [tN, tR, tE, rN, rR, rE, xN, xR, xE, reduceIte])
          refine DN ?_
          simp only [Bool.not_eq_true] at c4
          have := hno (by simp only [hat, c1, c3, c4, decide_true, decide_false, Bool.not_true, Bool.not_false, Bool.and_true, Bool.true_and, Bool.and_false, Bool.false_and, Bool.and_self])
          simp [retA, backA, this]
      · refine AQ ?_
        refine IFF ?_
        refine .skip ?_
        (try simp only [tN, tR, tE, rN, rR, rE, xN, xR, xE, reduceIte])
        refine AG ?_
        (try simp only [tN, tR, tE, rN, rR, rE, xN, xR, xE, reduceIte])
        refine ⟨l.length - (i + 1), by omega, i + 1, by omega, ?_⟩
        have := more (by simp only [hat, c1, c3, decide_true, decide_false, Bool.not_true, Bool.not_false, Bool.and_true, Bool.true_and, Bool.and_false, Bool.false_and, Bool.and_self])
        simp [setF_if, *]
        exact this
    · refine AQ ?_
      refine IFT ?_
      refine AG ?_
      refine .ret ?_
      (try simp only [tN, tR, tE, rN, rR, rE, xN, xR, xE, reduceIte])
      refine DN ?_
      simp only [Bool.not_eq_true] at c1
      have := hno (by simp only [hat, c1, decide_true, decide_false, Bool.not_true, Bool.not_false, Bool.and_true, Bool.true_and, Bool.and_false, Bool.false_and, Bool.and_self])
      simp [retA, backA, this]
  · refine IFF ?_
    refine .exit ?_
    (try simp only [tN, tR, tE, rN, rR, rE, xN, xR, xE, reduceIte])
    refine AG ?_
    refine CV (l01In_fn G _ _ _) ?_
    refine AG ?_
    refine .ret ?_
    refine DN ?_
    have : (List.range l.length).all (shapeAt l) = true := all_yes (fun j hj => hall j (by omega))
    simp only [retA, backA, shapeM, this, Bool.true_and]
end Go.Proofs
end
section
open Go Go.Big
namespace Go.Proofs
set_option maxHeartbeats 2000000
theorem cmpC_less (a b c d : Int) : decide (cmpC a b c d ≥ 0) = !lessC a b c d := by
  unfold cmpC lessC cmpI
  by_cases h1 : b < d <;> by_cases h2 : b > d <;> by_cases h3 : a < c <;> by_cases h4 : a > c <;> simp [h1, h2, h3, h4] <;> omega
theorem implIsShape_fn (G : Gv) (l : List (Int × Int)) (hl : l.length < 1000000000) : Gives Tryz.prog G 185 [.sl 0 (cells l)] (.b (shapeM l)) := by
  refine .of (.body Tryz.func185 rfl (by simp [Tryz.ntmps185]) ?_)
  rw [Tryz.ntmps185, Tryz.results185]
  have hlen := cells_len l
  refine AG ?_
  refine .block (.loop (.inv (fun d E H n' => ∃ i : Nat, i + d = l.length ∧ E 0 = .sl 0 (cells l) ∧ E 5 = .sl 0 (cells l) ∧ E 6 = .i .i64 l.length ∧ E 7 = .i .i64 i ∧ (∀ j, j < i → shapeAt l j = true)) l.length ?_ ?_))
  · simp [setF_if, argE]
  rintro d E H n' ⟨i, hi, h0, h5, h6, h7, hall⟩
  refine AG ?_
  by_cases c : (i : Int) < l.length
  · refine IFT ?_
    have hr := cells_at (l := l) (i := i) (by omega)
    have hw2 : IntKind.i64.wrap ((i : Int) + 1) = (i : Int) + 1 := wr64 (by omega) (by omega)
    have hat : shapeAt l i = shapeAt l i := rfl
    conv at hat => rhs; unfold shapeAt
    have hno : shapeAt l i = false → shapeM l = false := fun h => by unfold shapeM; rw [all_no (by omega) h]; rfl
    have more : shapeAt l i = true → ∀ j, j < i + 1 → shapeAt l j = true := fun h j hj => by
      by_cases e : j = i
      · rw [e]; exact h
      · exact hall j (by omega)
    generalize l.getD i (0, 0) = p at hr hat
    refine .skip ?_
    refine AG ?_
    refine .block ?_
    refine AG ?_
    refine AQ ?_
    refine CQ (isCoordinate_fn G _) ?_
    refine AQ ?_
    by_cases c1 : (inC p.1 && inC p.2) = true
    · obtain ⟨ca, cb⟩ : inC p.1 = true ∧ inC p.2 = true := by simpa using c1
      refine AQ ?_
      refine CQ (isCoordinate_fn G _) ?_
      refine AQ ?_
      by_cases c3 : (i : Int) > 0
      · have hr2 : (cells l)[((i : Int) - 1).toNat]? = some [.i .i64 (l.getD (i - 1) (0, 0)).1, .i .i64 (l.getD (i - 1) (0, 0)).2] := by rw [show ((i : Int) - 1).toNat = i - 1 by omega]; exact cells_at (by omega)
        have hw : IntKind.i64.wrap ((i : Int) - 1) = (i : Int) - 1 := wr64 (by omega) (by omega)
        have h01 : 0 ≤ (i : Int) - 1 := by omega
        generalize l.getD (i - 1) (0, 0) = q at hr2 hat
        refine AQ ?_
        refine CQ (compareCells_fn G _ _ _ _) ?_
        refine AQ ?_
        have hcmp := cmpC_less q.1 q.2 p.1 p.2
        by_cases c4 : lessC q.1 q.2 p.1 p.2 = true
        · rw [c4] at hcmp
          refine IFF ?_
          refine .skip ?_
          (try simp only [tN, tR, tE, rN, rR, rE, xN, xR, xE, reduceIte])
          refine AG ?_
          (try simp only [tN, tR, tE, rN, rR, rE, xN, xR, xE, reduceIte])
          refine ⟨l.length - (i + 1), by omega, i + 1, by omega, ?_⟩
          have := more (by simp only [hat, c1, c3, c4, decide_true, decide_false, Bool.not_true, Bool.not_false, Bool.and_true, Bool.true_and, Bool.and_false, Bool.false_and, Bool.and_self])
          simp [setF_if, *]
          exact this
        · simp only [Bool.not_eq_true] at c4
          rw [c4] at hcmp
          refine IFT ?_
          refine AG ?_
          refine .ret ?_
          (try simp only [tN, tR, tE, rN, rR, rE, xN, xR, xE, reduceIte])
          refine DN ?_
          have := hno (by simp only [hat, c1, c3, c4, decide_true, decide_false, Bool.not_true, Bool.not_false, Bool.and_true, Bool.true_and, Bool.and_false, Bool.false_and, Bool.and_self])
          simp [retA, backA, this]
      · refine AQ ?_
        refine IFF ?_
        refine .skip ?_
        (try simp only [tN, tR, tE, rN, rR, rE, xN, xR, xE, reduceIte])
        refine AG ?_
        (try simp only [tN, tR, tE, rN, rR, rE, xN, xR, xE, reduceIte])
        refine ⟨l.length - (i + 1), by omega, i + 1, by omega, ?_⟩
        have := more (by simp only [hat, c1, c3, decide_true, decide_false, Bool.not_true, Bool.not_false, Bool.and_true, Bool.true_and, Bool.and_false, Bool.false_and, Bool.and_self])
        simp [setF_if, *]
        exact this
    · simp only [Bool.not_eq_true] at c1
      have := hno (by simp only [hat, c1, decide_true, decide_false, Bool.not_true, Bool.not_false, Bool.and_true, Bool.true_and, Bool.and_false, Bool.false_and, Bool.and_self])
      by_cases ca : inC p.1 = true
      · have cb : inC p.2 = false := by rw [ca] at c1; simpa using c1
        refine AQ ?_
        refine CQ (isCoordinate_fn G _) ?_
        refine AQ ?_
        refine IFT ?_
        refine AG ?_
        refine .ret ?_
        (try simp only [tN, tR, tE, rN, rR, rE, xN, xR, xE, reduceIte])
        refine DN ?_
        simp [retA, backA, this]
      · refine AQ ?_
        refine IFT ?_
        refine AG ?_
        refine .ret ?_
        (try simp only [tN, tR, tE, rN, rR, rE, xN, xR, xE, reduceIte])
        refine DN ?_
        simp [retA, backA, this]
  · refine IFF ?_
    refine .exit ?_
    (try simp only [tN, tR, tE, rN, rR, rE, xN, xR, xE, reduceIte])
    refine AG ?_
    have : (List.range l.length).all (shapeAt l) = true := all_yes (fun j hj => hall j (by omega))
    by_cases cl : (l.length : Int) ≥ 1
    all_goals
      refine AG ?_
      refine .ret ?_
      refine DN ?_
      simp only [retA, backA, shapeM, this, cl, decide_true, decide_false, Bool.not_true, Bool.not_false, Bool.and_true, Bool.true_and, Bool.and_false, Bool.false_and, Bool.and_self]
end Go.Proofs
end
section
open Go Go.Big
namespace Go.Proofs
set_option maxHeartbeats 2000000
def minI (a b : Int) : Int := if b < a then b else a
def minF (l : List (Int × Int)) (i : Nat) : Int × Int := (l.take i).foldl (fun q p => (minI q.1 p.1, minI q.2 p.2)) (l.getD 0 (0, 0))
theorem minF_succ {l : List (Int × Int)} {i : Nat} (h : i < l.length) : minF l (i + 1) = (minI (minF l i).1 (l.getD i (0, 0)).1, minI (minF l i).2 (l.getD i (0, 0)).2) := by
  unfold minF
  rw [List.take_succ_eq_append_getElem h, List.foldl_append]
  simp only [List.foldl_cons, List.foldl_nil, List.getD_eq_getElem?_getD, List.getElem?_eq_getElem h, Option.getD_some]
theorem minF_one {l : List (Int × Int)} (h : 0 < l.length) : minF l 1 = l.getD 0 (0, 0) := by
  rw [minF_succ h]; simp [minF, minI]
theorem l02Least_fn (G : Gv) (l : List (Int × Int)) (h1 : 0 < l.length) (hl : l.length < 1000000000) : Gives Tryz.prog G 181 [.sl 0 (cells l)] (.tup [.i .i64 (minF l l.length).1, .i .i64 (minF l l.length).2]) := by
  refine .of (.body Tryz.func181 rfl (by simp [Tryz.ntmps181]) ?_)
  rw [Tryz.ntmps181, Tryz.results181]
  have hlen := cells_len l
  have hr0 := cells_at (l := l) (i := 0) h1
  have z : ((0 : Int).toNat) = 0 := rfl
  refine AG ?_
  refine AQ ?_
  refine .block (.loop (.inv (fun d E H n' => ∃ i : Nat, i + d = l.length ∧ E 0 = .sl 0 (cells l) ∧ E 4 = .i .i64 (minF l i).1 ∧ E 5 = .i .i64 (minF l i).2 ∧ E 6 = .i .i64 i) (l.length - 1) ?_ ?_))
  · exact ⟨1, by omega, by simp [setF_if, argE], by simp [setF_if, argE, minF_one h1], by simp [setF_if, argE, minF_one h1], by simp [setF_if, argE]⟩
  rintro d E H n' ⟨i, hi, h0, h4, h5, h6⟩
  refine AG ?_
  by_cases c : (i : Int) < l.length
  · refine IFT ?_
    have hr := cells_at (l := l) (i := i) (by omega)
    have hw2 : IntKind.i64.wrap ((i : Int) + 1) = (i : Int) + 1 := wr64 (by omega) (by omega)
    have hs := minF_succ (l := l) (i := i) (by omega)
    refine .skip ?_
    refine AG ?_
    refine .block ?_
    refine AG ?_
    (try simp only [tN, tR, tE, rN, rR, rE, xN, xR, xE, reduceIte])
    refine ⟨l.length - (i + 1), by omega, i + 1, by omega, ?_⟩
    simp [setF_if, *, minI]
  · refine IFF ?_
    refine .exit ?_
    (try simp only [tN, tR, tE, rN, rR, rE, xN, xR, xE, reduceIte])
    refine AG ?_
    refine .ret ?_
    refine DN ?_
    have e : i = l.length := by omega
    subst e
    simp [retA, backA, backsA]
end Go.Proofs
end
section
open Go Go.Big
namespace Go.Proofs
set_option maxHeartbeats 2000000
def cellAt (l : List (Int × Int)) (c : Int × Int) (i : Nat) : Bool := (l.getD i (0, 0)).1 == c.1 && (l.getD i (0, 0)).2 == c.2
/-- The first place of a cell, or -1. -/
def idxM (l : List (Int × Int)) (c : Int × Int) : Int := match (List.range l.length).find? (cellAt l c) with
  | some i => i
  | none => -1
theorem find_yes {p : Nat → Bool} {n i : Nat} (hi : i < n) (h : p i = true) (hall : ∀ j, j < i → p j = false) : (List.range n).find? p = some i := by
  rw [List.find?_range_eq_some]
  exact ⟨h, by simp [hi], fun j hj => by simp [hall j hj]⟩
theorem find_no {p : Nat → Bool} {n : Nat} (hall : ∀ j, j < n → p j = false) : (List.range n).find? p = none := by
  rw [List.find?_range_eq_none]; intro i hi; simp [hall i hi]
theorem l02Index_fn (G : Gv) (l : List (Int × Int)) (x y : Int) (hl : l.length < 1000000000) : Gives Tryz.prog G 173 [.sl 0 (cells l), cellA x y] (.i .i64 (idxM l (x, y))) := by
  refine .of (.body Tryz.func173 rfl (by simp [Tryz.ntmps173]) ?_)
  rw [Tryz.ntmps173, Tryz.results173]
  have hlen := cells_len l
  refine AL ?_
  refine .loop (.inv (fun d E H n' => ∃ i : Nat, i + d = l.length ∧ E 0 = .sl 0 (cells l) ∧ E 3 = .ptr 0 0 0 0 ∧ E 5 = .i .i64 i ∧ H 0 = some (.box 142 [.i .i64 x, .i .i64 y]) ∧ (∀ j, j < i → cellAt l (x, y) j = false)) l.length ?_ ?_)
  · simp [setF_if, argE, upd_if]
  rintro d E H n' ⟨i, hi, h0, h3, h5, hH, hall⟩
  by_cases c : (i : Int) < l.length
  · have hr := cells_at (l := l) (i := i) (by omega)
    have hw_i : IntKind.i64.wrap ((i : Int) + 1) = (i : Int) + 1 := wr64 (by omega) (by omega)
    have hat : cellAt l (x, y) i = cellAt l (x, y) i := rfl
    conv at hat => rhs; unfold cellAt
    generalize l.getD i (0, 0) = p at hr hat
    by_cases c1 : (p.1 == x && p.2 == y) = true
    · refine AL ?_
      have : idxM l (x, y) = i := by
        unfold idxM; rw [find_yes (i := i) (by omega) (hat.trans c1) hall]
      simp [retA, backA, this]
    · refine AL ?_
      refine ⟨l.length - (i + 1), by omega, i + 1, by omega, ?_⟩
      simp [setF_if, *]
      intro j hj
      by_cases e : j = i
      · rw [e, hat]; simpa using c1
      · exact hall j (by omega)
  · refine AL ?_
    have : idxM l (x, y) = -1 := by
      unfold idxM; rw [find_no (fun j hj => hall j (by omega))]
    simp [retA, backA, this]
end Go.Proofs
end
section
open Go Go.Big
namespace Go.Proofs
set_option maxHeartbeats 2000000
def aroundM (c : Int × Int) : List (Int × Int) := [(c.1, IntKind.i64.wrap (c.2 - 1)), (IntKind.i64.wrap (c.1 - 1), c.2), (IntKind.i64.wrap (c.1 + 1), c.2), (c.1, IntKind.i64.wrap (c.2 + 1))]
/-- One neighbour is looked at: what is marked so far, and what is to be looked at later. -/
def lookP (l : List (Int × Int)) (i : Int) (s : List Int × List Int) (c : Int × Int) : List Int × List Int :=
  if 0 ≤ idxM l c ∧ s.1.getD (idxM l c).toNat 0 < 0 then (s.1.set (idxM l c).toNat i, s.2 ++ [idxM l c]) else s
def lookAll (l : List (Int × Int)) (i : Int) (s : List Int × List Int) (c : Int × Int) : List Int × List Int := (aroundM c).foldl (lookP l i) s
/-- How many are not marked. -/
def openN (out : List Int) : Nat := (out.filter fun x => decide (x < 0)).length
/-- All that is reached from a list of open ones. -/
def runP (l : List (Int × Int)) (i : Int) : Nat → List Int → List Int → List Int
  | 0, out, _ => out
  | _ + 1, out, [] => out
  | f + 1, out, c :: rest => runP l i f (lookAll l i (out, rest) (l.getD c.toNat (0, 0))).1 (lookAll l i (out, rest) (l.getD c.toNat (0, 0))).2
def startP (l : List (Int × Int)) (out : List Int) (i : Nat) : List Int := if out.getD i 0 ≥ 0 then out else runP l i (openN (out.set i (i : Int)) + 1) (out.set i (i : Int)) [(i : Int)]
def partsM (l : List (Int × Int)) (i : Nat) : List Int := (List.range i).foldl (startP l) (List.replicate l.length (-1))
theorem partsM_succ (l : List (Int × Int)) (i : Nat) : partsM l (i + 1) = startP l (partsM l i) i := by
  unfold partsM; rw [List.range_succ, List.foldl_append]; rfl
theorem idxM_lt {l : List (Int × Int)} {c : Int × Int} (h : 0 ≤ idxM l c) : (idxM l c).toNat < l.length ∧ ((idxM l c).toNat : Int) = idxM l c := by
  unfold idxM at *
  split at h
  · rename_i i hi
    have := List.mem_range.mp (List.mem_of_find?_eq_some hi)
    simp; exact this
  · omega
/-- What holds all along: places are places, marks are as long. -/
def okP (l : List (Int × Int)) (s : List Int × List Int) : Prop := s.1.length = l.length ∧ ∀ k ∈ s.2, 0 ≤ k ∧ k < l.length
theorem openN_set {out : List Int} {k : Nat} {v : Int} (hk : k < out.length) (h : out.getD k 0 < 0) (hv : 0 ≤ v) : openN (out.set k v) + 1 = openN out := by
  unfold openN
  induction out generalizing k with
  | nil => simp at hk
  | cons x xs ih =>
    cases k with
    | zero =>
      simp at h
      simp only [List.set_cons_zero, List.filter_cons, h, decide_true, if_true]
      simp [show ¬ v < 0 by omega]
    | succ k =>
      simp only [List.length_cons] at hk
      have h' : xs.getD k 0 < 0 := by simpa [List.getD_eq_getElem?_getD] using h
      have := ih (k := k) (by omega) h'
      simp only [List.set_cons_succ, List.filter_cons]
      by_cases c : x < 0
      · simp only [c, decide_true, if_true, List.length_cons]; omega
      · simp only [c, decide_false]; simpa using this
theorem lookP_ok {l : List (Int × Int)} {i : Int} {s : List Int × List Int} {c : Int × Int} (hi : 0 ≤ i) (h : okP l s) : okP l (lookP l i s c) ∧ openN (lookP l i s c).1 + (lookP l i s c).2.length = openN s.1 + s.2.length := by
  unfold lookP
  split
  · rename_i q
    obtain ⟨q1, q2⟩ := idxM_lt q.1
    refine ⟨⟨by simp [h.1], fun k hk => ?_⟩, ?_⟩
    · rcases List.mem_append.mp hk with hk | hk
      · exact h.2 k hk
      · simp only [List.mem_singleton] at hk; subst hk; exact ⟨q.1, by omega⟩
    · have := openN_set (v := i) (by rw [h.1]; exact q1) q.2 hi
      simp only [List.length_append, List.length_singleton]; omega
  · exact ⟨h, rfl⟩
theorem foldP_ok {l : List (Int × Int)} {i : Int} (hi : 0 ≤ i) : ∀ {cs : List (Int × Int)} {s : List Int × List Int}, okP l s → okP l (cs.foldl (lookP l i) s) ∧ openN (cs.foldl (lookP l i) s).1 + (cs.foldl (lookP l i) s).2.length = openN s.1 + s.2.length
  | [], s, h => ⟨h, rfl⟩
  | c :: cs, s, h => by
    obtain ⟨h1, h2⟩ := lookP_ok (c := c) hi h
    obtain ⟨h3, h4⟩ := foldP_ok hi (cs := cs) h1
    exact ⟨h3, by rw [List.foldl_cons, h4, h2]⟩
theorem runP_nil {l : List (Int × Int)} {i : Int} {f : Nat} {out : List Int} : runP l i f out [] = out := by cases f <;> rfl
theorem runP_len {l : List (Int × Int)} {i : Int} (hi : 0 ≤ i) : ∀ {f : Nat} {out rest : List Int}, okP l (out, rest) → (runP l i f out rest).length = l.length
  | 0, _, _, h => h.1
  | _ + 1, _, [], h => h.1
  | f + 1, out, c :: rest, h => runP_len hi (f := f) (foldP_ok hi (s := (out, rest)) ⟨h.1, fun k hk => h.2 k (List.mem_cons_of_mem _ hk)⟩).1
theorem startP_len {l : List (Int × Int)} {out : List Int} {i : Nat} (h : out.length = l.length) (hi : i < l.length) : (startP l out i).length = l.length := by
  unfold startP
  split
  · exact h
  · exact runP_len (by omega) ⟨by simp [h], fun k hk => by simp only [List.mem_singleton] at hk; subst hk; omega⟩
theorem partsM_len (l : List (Int × Int)) : ∀ {i : Nat}, i ≤ l.length → (partsM l i).length = l.length
  | 0, _ => by simp [partsM]
  | i + 1, h => by rw [partsM_succ]; exact startP_len (partsM_len l (by omega)) (by omega)
end Go.Proofs
end
section
open Go Go.Big
namespace Go.Proofs
set_option maxHeartbeats 2000000
theorem aroundM_cells (x y : Int) : ([[.i .i64 x, .i .i64 (IntKind.i64.wrap (y - 1))], [.i .i64 (IntKind.i64.wrap (x - 1)), .i .i64 y], [.i .i64 (IntKind.i64.wrap (x + 1)), .i .i64 y], [.i .i64 x, .i .i64 (IntKind.i64.wrap (y + 1))]] : List (List PV)) = cells (aroundM (x, y)) := rfl
theorem around4 (c : Int × Int) : (aroundM c).length = 4 := rfl
/-- The slice of open places: an array of one's own, or the rest of one. -/
def opn (T : TypeId) (x : AV) (H : Heap) (q e : Nat) (rest : List Int) : Prop := ∃ rows, H q = some (.arr e T 1 rows 1) ∧ (x = .own q e ∧ rows = ints rest ∨ ∃ lo, x = .vw q e lo rest.length ∧ lo + rest.length = rows.length ∧ rows.drop lo = ints rest)
theorem foldP_take {l : List (Int × Int)} {i : Int} {s : List Int × List Int} {cs : List (Int × Int)} {k : Nat} (h : k < cs.length) : (cs.take (k + 1)).foldl (lookP l i) s = lookP l i ((cs.take k).foldl (lookP l i) s) (cs.getD k (0, 0)) := by
  rw [List.take_succ_eq_append_getElem h, List.foldl_append]
  simp only [List.foldl_cons, List.foldl_nil, List.getD_eq_getElem?_getD, List.getElem?_eq_getElem h, Option.getD_some]
theorem ints_set (l : List Int) (k : Nat) (v : Int) : ints (l.set k v) = (ints l).set k [.i .i64 v] := by simp [ints, List.map_set]
theorem ints_app (l k : List Int) : ints (l ++ k) = ints l ++ ints k := by simp [ints]
theorem openN_le (l : List Int) : openN l ≤ l.length := List.length_filter_le _ _
theorem l02Parts_fn (G : Gv) (l : List (Int × Int)) (hl : l.length < 1000000000) : Gives Tryz.prog G 211 [.sl 0 (cells l)] (.sl 1 (ints (partsM l l.length))) := by
  refine .of (.body Tryz.func211 rfl (by simp [Tryz.ntmps211]) ?_)
  rw [Tryz.ntmps211, Tryz.results211]
  have hlen := cells_len l
  refine AL ?_
  refine .loop (.inv (fun d E H n' => ∃ i : Nat, i + d = l.length ∧ 1 < n' ∧ E 0 = .sl 0 (cells l) ∧ E 4 = .i .i64 i ∧ ∃ e, E 3 = .own 1 e ∧ H 1 = some (.arr e 2 1 (ints (List.replicate i (-1))) 1)) l.length ?_ ?_)
  · simp [setF_if, argE, upd_if, ints]
  · rintro d E H n' ⟨i, hi, hn1, h0, h4, e, h3, hH⟩
    by_cases c : (i : Int) < l.length
    · have hw_i : IntKind.i64.wrap ((i : Int) + 1) = (i : Int) + 1 := wr64 (by omega) (by omega)
      have hrl : (ints (List.replicate i (-1))).length = i := by simp [ints]
      have hb : (i + 1) * 8 ≤ 140737488355328 := by omega
      have htk : ints (List.replicate i (-1)) ++ [[.i .i64 (-1)]] = ints (List.replicate (i + 1) (-1)) := by simp [ints, List.replicate_succ']
      refine AL ?_
      refine ⟨l.length - (i + 1), by omega, i + 1, by omega, ?_⟩
      simp [setF_if, upd_if, *]
    · have e' : i = l.length := by omega
      subst e'
      refine AL ?_
      refine .loop (.inv (fun d E H n' => ∃ i : Nat, i + d = l.length ∧ 1 < n' ∧ E 0 = .sl 0 (cells l) ∧ E 5 = .i .i64 i ∧ ∃ e, E 3 = .own 1 e ∧ H 1 = some (.arr e 2 1 (ints (partsM l i)) 1)) l.length ?_ ?_)
      · simp [setF_if, argE, upd_if, partsM, *]
      rintro d E H n' ⟨i, hi, hn1, h0, h5, e, h3, hH⟩
      by_cases c : (i : Int) < l.length
      · have hw_i : IntKind.i64.wrap ((i : Int) + 1) = (i : Int) + 1 := wr64 (by omega) (by omega)
        have cN : i < l.length := by omega
        have hpl := partsM_len l (i := i) (by omega)
        have hr : (ints (partsM l i))[i]? = some [.i .i64 ((partsM l i).getD i 0)] := ints_at (by omega)
        have hsucc := partsM_succ l i
        have hsd : startP l (partsM l i) i = startP l (partsM l i) i := rfl
        conv at hsd => rhs; unfold startP
        generalize partsM l i = out at hpl hr hsucc hsd hH
        have hil := ints_len out
        generalize hx : out.getD i 0 = x at hr hsd
        by_cases c1 : x ≥ 0
        · rw [if_pos c1] at hsd
          refine AL ?_
          refine ⟨l.length - (i + 1), by omega, i + 1, by omega, ?_⟩
          simp [setF_if, upd_if, *]
        · rw [if_neg c1] at hsd
          have hset : (ints out).set i [PV.i .i64 i] = ints (out.set i (i : Int)) := by rw [ints_set]
          have hok0 : okP l (out.set i (i : Int), [(i : Int)]) := ⟨by simp [hpl], fun k hk => by simp only [List.mem_singleton] at hk; subst hk; omega⟩
          have hlt : i < (ints out).length := by omega
          refine AL ?_
          refine .loop (.inv (fun d E H n' => ∃ (q e2 : Nat) (o2 rest : List Int), d = openN o2 + rest.length ∧ d ≤ l.length + 1 ∧ okP l (o2, rest) ∧ runP l i d o2 rest = startP l out i ∧ 1 < q ∧ q < n' ∧ E 0 = .sl 0 (cells l) ∧ E 5 = .i .i64 i ∧ E 3 = .own 1 e ∧ H 1 = some (.arr e 2 1 (ints o2) 1) ∧ opn 2 (E 6) H q e2 rest) (openN (out.set i (i : Int)) + 1) ?_ ?_)
          · refine ⟨n' + 15, 0, out.set i (i : Int), [(i : Int)], by simp, by have := openN_le (out.set i (i : Int)); simp at this; omega, hok0, hsd.symm, by omega, by omega, by simp [setF_if, *], by simp [setF_if, *], by simp [setF_if, *], by simp [setF_if, upd_if, *], [[.i .i64 i]], by simp [upd_if], .inl ⟨by simp [setF_if], rfl⟩⟩
          rintro d E H n' ⟨q, e2, o2, rest, hd, hdl, hok, hrun, hq1, hqn, h0, h5, h3, hH, hopn⟩
          have hn1 : 1 < n' := by omega
          have q1 : (q = 1) = False := by simp; omega
          have q2 : (1 = q) = False := by simp; omega
          have hol := ints_len o2
          have hol2 : o2.length = l.length := hok.1
          cases rest with
          | nil =>
            obtain ⟨rows, hHq, (⟨h6, rfl⟩ | ⟨lo, h6, hlo, hdr⟩)⟩ := hopn
            all_goals
              have hz : (ints ([] : List Int)) = [] := rfl
              have hzl : (([] : List Int)).length = 0 := rfl
              rw [runP_nil] at hrun
              refine AL ?_
              refine ⟨l.length - (i + 1), by omega, i + 1, by omega, ?_⟩
              simp [setF_if, upd_if, *]
          | cons c rest =>
            obtain ⟨hc0, hcl⟩ := hok.2 c List.mem_cons_self
            have hcN : c.toNat < l.length := by omega
            have hrc := cells_at (l := l) (i := c.toNat) hcN
            have hgt : ((((c :: rest).length : Nat) : Int) > 0) = True := by simp
            have hrunS : runP l i d o2 (c :: rest) = runP l i (d - 1) (lookAll l i (o2, rest) (l.getD c.toNat (0, 0))).1 (lookAll l i (o2, rest) (l.getD c.toNat (0, 0))).2 := by
              obtain ⟨d', rfl⟩ : ∃ d', d = d' + 1 := ⟨d - 1, by simp only [List.length_cons] at hd; omega⟩
              rfl
            have hokr : okP l (o2, rest) := ⟨hok.1, fun k hk => hok.2 k (List.mem_cons_of_mem _ hk)⟩
            have hf := foldP_ok (l := l) (i := (i : Int)) (by omega) (cs := aroundM (l.getD c.toNat (0, 0))) hokr
            obtain ⟨rows, hHq, hcase⟩ := hopn
            obtain ⟨lo, hsl, hlo, hdr, hE6⟩ : ∃ lo, (rows.length - lo) = rest.length + 1 ∧ lo < rows.length ∧ rows.drop lo = ints (c :: rest) ∧ (E 6 = .own q e2 ∧ lo = 0 ∨ E 6 = .vw q e2 lo (rest.length + 1)) := by
              rcases hcase with ⟨h6, rfl⟩ | ⟨lo, h6, hlo, hdr⟩
              · exact ⟨0, by simp [ints], by simp [ints], rfl, .inl ⟨h6, rfl⟩⟩
              · simp only [List.length_cons] at hlo h6
                exact ⟨lo, by omega, by omega, hdr, .inr h6⟩
            have hr0 : rows[lo]? = some [.i .i64 c] := by
              have := congrArg (fun z => z[0]?) hdr
              simpa [ints] using this
            have hdr1 : rows.drop (lo + 1) = ints rest := by
              have := congrArg (fun z => z.drop 1) hdr
              simpa [ints] using this
            clear hcase hdr
            have hrl : rows.length = lo + rest.length + 1 := by omega
            have hs1 : (1 ≤ rest.length + 1) = True := by simp
            have hz0 : (0 < rest.length + 1) = True := by simp
            have htl : ((rows.drop lo).take (rest.length + 1)).length = rest.length + 1 := by simp; omega
            have hdN : openN o2 + rest.length + 1 = d := by simp only [List.length_cons] at hd; omega
            clear hd hok hcl
            generalize hp : l.getD c.toNat (0, 0) = p at *
            replace hf := Hid.mk hf
            replace hok := Hid.mk hokr
            replace hrunS := Hid.mk hrunS
            replace hrun := Hid.mk hrun
            clear hokr hp hx
            have hal := around4 p
            have hop : ∀ a b, a + b = rows.length → b = rest.length → rows.drop a = ints rest → ∀ (H1 : Heap), H1 q = some (.arr e2 2 1 rows 1) → opn 2 (.vw q e2 a b) H1 q e2 rest := fun a b g1 g2 g3 H1 g4 => ⟨rows, g4, .inr ⟨a, by rw [g2], by omega, g3⟩⟩
            replace hop := Hid.mk hop
            rcases hE6 with ⟨h6, rfl⟩ | h6
            all_goals
              refine AL ?_
              refine CV (l02Around_fn G _ _) ?_
              rw [aroundM_cells]
              refine AL ?_
              refine .loop (.inv (fun d2 E H n' => ∃ (k e3 : Nat) (s : List Int × List Int), k + d2 = 4 ∧ s = ((aroundM p).take k).foldl (lookP l i) (o2, rest) ∧ q < n' ∧ E 0 = .sl 0 (cells l) ∧ E 5 = .i .i64 i ∧ E 3 = .own 1 e ∧ E 7 = .sl 1 (cells (aroundM p)) ∧ E 8 = .i .i64 k ∧ H 1 = some (.arr e 2 1 (ints s.1) 1) ∧ opn 2 (E 6) H q e3 s.2) 4 ?_ ?_)
              · exact ⟨0, e2, (o2, rest), by omega, rfl, by omega, by simp [setF_if, *], by simp [setF_if, *], by simp [setF_if, *], by simp [setF_if, *], by simp [setF_if, *], by simp [setF_if, *], by
                  simp only [setF_if, Nat.reduceEqDiff, reduceIte]
                  exact hop.out _ _ (by omega) (by omega) hdr1 _ (by simp [*])⟩
              clear h0 h5 h3 hH h6 hHq
              rintro d2 E H n' ⟨k, e3, s, hk, hs, hqn2, h0, h5, h3, h7, h8, hH, hopn⟩
              have hn1 : 1 < n' := by omega
              by_cases ck : (k : Int) < 4
              · have hw_k : IntKind.i64.wrap ((k : Int) + 1) = (k : Int) + 1 := wr64 (by omega) (by omega)
                have hfk := foldP_take (l := l) (i := (i : Int)) (s := (o2, rest)) (cs := aroundM p) (k := k) (by rw [hal]; omega)
                rw [← hs] at hfk
                have hra := cells_at (l := aroundM p) (i := k) (by rw [hal]; omega)
                generalize (aroundM p).getD k (0, 0) = pc at hra hfk
                have hsok := foldP_ok (l := l) (i := (i : Int)) (by omega) (cs := (aroundM p).take k) hok.out
                rw [← hs] at hsok
                have hsl1 := hsok.1.1
                have hsum := hsok.2
                have hol3 := ints_len s.1
                have hol4 := ints_len s.2
                have hoo := openN_le o2
                simp only at hsum
                have hbd : (s.2.length + 1) * 8 ≤ 140737488355328 := by omega
                clear hsok hs hsum hoo hok hf hrun hrunS hop
                have ha : lookP l (i : Int) s pc = if 0 ≤ idxM l pc ∧ s.1.getD (idxM l pc).toNat 0 < 0 then (s.1.set (idxM l pc).toNat (i : Int), s.2 ++ [idxM l pc]) else s := rfl
                replace ha := Hid.mk ha
                replace hfk := Hid.mk hfk
                refine AL ?_
                refine CV (l02Index_fn G l _ _ hl) ?_
                have hie : (pc.1, pc.2) = pc := rfl
                rw [hie]
                have hil3 : 0 ≤ idxM l pc → (idxM l pc).toNat < l.length := fun h => (idxM_lt h).1
                generalize idxM l pc = ix at ha hil3
                by_cases ci : ix ≥ 0
                · have hilt := hil3 ci
                  have hri : (ints s.1)[ix.toNat]? = some [.i .i64 (s.1.getD ix.toNat 0)] := ints_at (by omega)
                  have hset2 : (ints s.1).set ix.toNat [PV.i .i64 i] = ints (s.1.set ix.toNat (i : Int)) := by rw [ints_set]
                  generalize hyv : s.1.getD ix.toNat 0 = y at hri ha
                  clear hil3 hyv
                  by_cases cy : y < 0
                  · obtain ⟨rows, hHq, (⟨h6, rfl⟩ | ⟨lo, h6, hlo, hdr⟩)⟩ := hopn
                    all_goals
                      refine AL ?_
                      refine ⟨4 - (k + 1), by omega, k + 1, e3 + 1, (s.1.set ix.toNat (i : Int), s.2 ++ [ix]), by omega, by rw [hfk.out, ha.out, if_pos ⟨ci, cy⟩], by omega, by simp [setF_if, *], by simp [setF_if, *], by simp [setF_if, *], by simp [setF_if, *], by simp [setF_if, *], by simp [setF_if, upd_if, *], ?_⟩
                      first
                      | exact ⟨ints s.2 ++ [[.i .i64 ix]], by simp [upd_if, *], .inl ⟨by simp [setF_if], by rw [ints_app]; rfl⟩⟩
                      | exact ⟨rows.drop lo ++ [[.i .i64 ix]], by simp [upd_if, *], .inl ⟨by simp [setF_if], by rw [ints_app, hdr]; rfl⟩⟩
                  · refine AL ?_
                    refine ⟨4 - (k + 1), by omega, k + 1, e3, s, by omega, by rw [hfk.out, ha.out, if_neg (fun h => cy h.2)], by omega, by simp [setF_if, *], by simp [setF_if, *], by simp [setF_if, *], by simp [setF_if, *], by simp [setF_if, *], by simp [setF_if, upd_if, *], ?_⟩
                    simpa [setF_if] using hopn
                · refine AL ?_
                  refine ⟨4 - (k + 1), by omega, k + 1, e3, s, by omega, by rw [hfk.out, ha.out, if_neg (fun h => ci h.1)], by omega, by simp [setF_if, *], by simp [setF_if, *], by simp [setF_if, *], by simp [setF_if, *], by simp [setF_if, *], by simp [setF_if, upd_if, *], ?_⟩
                  simpa [setF_if] using hopn
              · have ek : k = 4 := by omega
                subst ek
                have hs4 : s = lookAll l i (o2, rest) p := by rw [hs, show (4 : Nat) = (aroundM p).length from rfl, List.take_length]; rfl
                refine AL ?_
                have hf4 : okP l s ∧ openN s.1 + s.2.length = openN o2 + rest.length := by rw [hs4]; exact hf.out
                refine ⟨d - 1, by omega, q, e3, s.1, s.2, by omega, by omega, hf4.1, by rw [← hrun.out, hrunS.out, ← hs4], by omega, by omega, by simp [setF_if, *], by simp [setF_if, *], by simp [setF_if, *], by simp [setF_if, upd_if, *], ?_⟩
                simpa [setF_if] using hopn
      · have e' : i = l.length := by omega
        subst e'
        refine AL ?_
        simp [retA, backA, newSl, newB, hH]
end Go.Proofs
end
