-- Written by ext.py (wip/) over the kit's print: not trusted, Lean checks it.
import Derived.Test.YtpnlidfebnkgmaaXFnWeightSumsx0
import Derived.Test.YtpnlidfebnkgmaaXFnWeightSumsx8
namespace Go.Proofs.Ytpnlidfebnkgmaa.XFnWeightSums
open Go.RowKit Go.Proofs.YtpnlidfebnkgmaaW.PrintWords Go.Proofs.YtpnlidfebnkgmaaW.PrintLast Go.Proofs.YtpnlidfebnkgmaaW.PrintMore
attribute [local go_sem] max2_int min2_int max_two min_two max_three min_three max_four min_four   -- for this text's walks alone
set_option linter.unusedVariables false
set_option linter.unusedSimpArgs false

/-! ### impl_AddWeightings: function 7 -/
mutual
def impl_AddWeightings.j0 : Nat → Bool → Int → List Int → Int → List Int → Option (Int × List Int × Int)
  | 0, _, _, _, _, _ => none
  | k + 1, x31, x470000, x470001, x471000, x471001 => if x31 = true then (some (0, ([] : List Int), 2)) else (impl_AddWeightings.l0 k x470001 (x470001.length : Int) 0 x470000 x470001 x471000 x471001 x470000 ([] : List Int))
def impl_AddWeightings.l0 : Nat → List Int → Int → Int → Int → List Int → Int → List Int → Int → List Int → Option (Int × List Int × Int)
  | 0, _, _, _, _, _, _, _, _, _ => none
  | k + 1, x37, x38, x39, x470000, x470001, x471000, x471001, x476000, x476001 => if x39 < x38 then (if 0 ≤ x39 then (if x39 < (x37.length : Int) then (if x39 < (x471001.length : Int) then (if x470000 = 0 then (none) else (if x476001.length < 17592186044416 then (impl_AddWeightings.l0 k x37 x38 (wrap64 (x39 + 1)) x470000 x470001 x471000 x471001 x476000 (x476001 ++ [Int.tmod (wrap64 ((rd x37 x39) + (rd x471001 x39))) x470000])) else (none))) else (none)) else (none)) else (none)) else (some (x476000, x476001, 0))
end
def impl_AddWeightings.f (k : Nat) (l0 : List (S68)) (a1_0 : Int) (l1_1 : List Int) (a2_0 : Int) (l2_1 : List Int) : Option (Int × List Int × Int) := (impl_IsRegion.f k l0).bind fun t472 => (if t472 = true then ((impl_isWeighting.f l0 a1_0 l1_1).bind fun t473 => (if t473 = true then ((impl_isWeighting.f l0 a2_0 l2_1).bind fun t474 => (if t474 = true then (impl_AddWeightings.j0 k (a1_0 != a2_0) a1_0 l1_1 a2_0 l2_1) else (impl_AddWeightings.j0 k true a1_0 l1_1 a2_0 l2_1))) else (impl_AddWeightings.j0 k true a1_0 l1_1 a2_0 l2_1))) else (some (0, ([] : List Int), 1)))
theorem impl_AddWeightings.mono_l : ∀ k, (∀ y0 y1 y2 y3 y4, LeO (impl_AddWeightings.j0 k y0 y1 y2 y3 y4) (impl_AddWeightings.j0 (k + 1) y0 y1 y2 y3 y4)) ∧ (∀ y0 y1 y2 y3 y4 y5 y6 y7 y8, LeO (impl_AddWeightings.l0 k y0 y1 y2 y3 y4 y5 y6 y7 y8) (impl_AddWeightings.l0 (k + 1) y0 y1 y2 y3 y4 y5 y6 y7 y8))
  | 0 => ⟨fun _ _ _ _ _ r h => by simp [impl_AddWeightings.j0] at h, fun _ _ _ _ _ _ _ _ _ r h => by simp [impl_AddWeightings.l0] at h⟩
  | k + 1 => by
    obtain ⟨ih0, ih1⟩ := impl_AddWeightings.mono_l k
    refine ⟨?_, ?_⟩
    · intro y0 y1 y2 y3 y4
      unfold impl_AddWeightings.j0
      repeat' first
      | (with_reducible exact ih0 _ _ _ _ _)
      | (with_reducible exact ih1 _ _ _ _ _ _ _ _ _)
      | (with_reducible exact impl_IsRegion.mono _ _)
      | (with_reducible exact LeO.refl _)
      | (with_reducible exact LeO.none _)
      | (with_reducible refine LeO.ite ?_ ?_)
      | (with_reducible refine LeO.bind ?_ (fun _ => ?_))
      | exact ih0 _ _ _ _ _
      | exact ih1 _ _ _ _ _ _ _ _ _
      | exact impl_IsRegion.mono _ _
      | exact LeO.none _
      | refine LeO.ite ?_ ?_
      | refine LeO.bind ?_ (fun _ => ?_)
    · intro y0 y1 y2 y3 y4 y5 y6 y7 y8
      unfold impl_AddWeightings.l0
      repeat' first
      | (with_reducible exact ih0 _ _ _ _ _)
      | (with_reducible exact ih1 _ _ _ _ _ _ _ _ _)
      | (with_reducible exact impl_IsRegion.mono _ _)
      | (with_reducible exact LeO.refl _)
      | (with_reducible exact LeO.none _)
      | (with_reducible refine LeO.ite ?_ ?_)
      | (with_reducible refine LeO.bind ?_ (fun _ => ?_))
      | exact ih0 _ _ _ _ _
      | exact ih1 _ _ _ _ _ _ _ _ _
      | exact impl_IsRegion.mono _ _
      | exact LeO.none _
      | refine LeO.ite ?_ ?_
      | refine LeO.bind ?_ (fun _ => ?_)
theorem impl_AddWeightings.mono : ∀ a0 a1 a2 a3 a4 k, LeO (impl_AddWeightings.f k a0 a1 a2 a3 a4) (impl_AddWeightings.f (k + 1) a0 a1 a2 a3 a4) := by
  intro a0 a1 a2 a3 a4 k
  obtain ⟨ih0, ih1⟩ := impl_AddWeightings.mono_l k
  unfold impl_AddWeightings.f
  repeat' first
      | (with_reducible exact ih0 _ _ _ _ _)
      | (with_reducible exact ih1 _ _ _ _ _ _ _ _ _)
      | (with_reducible exact impl_IsRegion.mono _ _)
      | (with_reducible exact LeO.refl _)
      | (with_reducible exact LeO.none _)
      | (with_reducible refine LeO.ite ?_ ?_)
      | (with_reducible refine LeO.bind ?_ (fun _ => ?_))
      | exact ih0 _ _ _ _ _
      | exact ih1 _ _ _ _ _ _ _ _ _
      | exact impl_IsRegion.mono _ _
      | exact LeO.none _
      | refine LeO.ite ?_ ?_
      | refine LeO.bind ?_ (fun _ => ?_)
def impl_AddWeightings.T9 : Bool × List (List Nat × List Nat) := (true, [([], []), ([0], [0]), ([], []), ([], []), ([3], [3]), ([], []), ([4, 5], [4, 5]), ([6], [6]), ([2, 7], [2, 7]), ([], []), ([9], [9]), ([8, 10], [8, 10]), ([11], [11]), ([1, 12], [1, 12]), ([0, 1, 2, 3, 4, 5, 6, 7, 8, 9, 10, 11, 12, 13], []), ([14, 13, 13, 0, 1, 2, 3, 4, 5, 6, 7, 8, 9, 10, 11, 12, 13], [13, 14])])
def impl_AddWeightings.B9 : List Nat := [0, 1, 0, 0, 8, 0, 56, 120, 252, 0, 512, 2044, 4092, 8191, 16383, 32767]
theorem impl_AddWeightings.tab9 : rtab .any (opsOf Try.f7 9) = impl_AddWeightings.T9 := by kernel_rfl
theorem impl_AddWeightings.bits9 : waitsOk impl_AddWeightings.T9.2 impl_AddWeightings.B9 = true := by kernel_rfl
set_option maxHeartbeats 8000000 in
set_option maxRecDepth 100000 in
theorem impl_AddWeightings.calls (k : Nat) (A0 : Option Addr) (c0 : Nat) (l0 : List (S68)) (a1_0 : Int) (A1_1 : Option Addr) (c1_1 : Nat) (l1_1 : List Int) (a2_0 : Int) (A2_1 : Option Addr) (c2_1 : Nat) (l2_1 : List Int) (r1 : Int) (r2 : List Int) (r3 : Int) (w : World) (hr0 : Kd.C k68 w A0 l0.length l0) (hc0 : l0.length ≤ c0) (hr1_1 : Kd.C (Kd.int .i64) w A1_1 l1_1.length l1_1) (hc1_1 : l1_1.length ≤ c1_1) (hr2_1 : Kd.C (Kd.int .i64) w A2_1 l2_1.length l2_1) (hc2_1 : l2_1.length ≤ c2_1) (h : impl_AddWeightings.f k l0 a1_0 l1_1 a2_0 l2_1 = some (r1, r2, r3)) :
    Calls Try.prog 7 #[.slice A0 l0.length c0, .agg #[.int .i64 a1_0, .slice A1_1 l1_1.length c1_1], .agg #[.int .i64 a2_0, .slice A2_1 l2_1.length c2_1]] w fun e w' => ∃ v1_ : Value, e = .returned (.tuple #[.agg #[.int .i64 r1, v1_], .int .i64 r3]) ∧ Kd.R (Kd.int .i64) 2 w' w.heap.size (fun _ => True) v1_ r2 ∧ Below w.heap.size w w' := by
  have hu27 := Try.underlying27
  have HR0 := Aside0.mk hr0
  have HC0 := Aside0.mk hc0
  clear hr0 hc0
  have HR1_1 := Aside0.mk hr1_1
  have HC1_1 := Aside0.mk hc1_1
  clear hr1_1 hc1_1
  have HR2_1 := Aside0.mk hr2_1
  have HC2_1 := Aside0.mk hc2_1
  clear hr2_1 hc2_1
  have HB := Aside0.mk (Below.refl w.heap.size w)
  have H : ((impl_IsRegion.f k l0).bind fun t472 => (if t472 = true then ((impl_isWeighting.f l0 a1_0 l1_1).bind fun t473 => (if t473 = true then ((impl_isWeighting.f l0 a2_0 l2_1).bind fun t474 => (if t474 = true then (impl_AddWeightings.j0 k (a1_0 != a2_0) a1_0 l1_1 a2_0 l2_1) else (impl_AddWeightings.j0 k true a1_0 l1_1 a2_0 l2_1))) else (impl_AddWeightings.j0 k true a1_0 l1_1 a2_0 l2_1))) else (some (0, ([] : List Int), 1)))) = some (r1, r2, r3) := h
  clear h
  obtain ⟨t472, A40, H⟩ := Option.bind_eq_some_iff.mp H
  have A4 := Aside0.mk A40
  clear A40
  by_cases c5 : t472 = true
  · subst c5
    rw [if_pos rfl] at H
    have HC6 := Aside0.mk H
    clear H
    go_enter Try.func7, Try.ntmps7
    go_upto_region 3 with (first | ((with_reducible refine gD 4 ?_); refine BX #[.int .i64 a1_0, .slice A1_1 l1_1.length c1_1] 27 ?_; intro gb469 hg w7 hbox hb; have BK469 := Aside0.mk (hbox); have GW469 := Aside0.mk ((Gle hg Hb : w.heap.size ≤ gb469)); have GE469 := Aside0.mk ((Gle hg Hb : w.heap.size ≤ gb469)); replace HB := Aside0.mk (below_step Hb hb); clear hb hbox hg) | ((with_reducible refine gD 5 ?_); refine BX #[.int .i64 a2_0, .slice A2_1 l2_1.length c2_1] 27 ?_; intro gb470 hg w8 hbox hb; have BK470 := Aside0.mk (hbox); have GW470 := Aside0.mk ((Gle hg Hb : w.heap.size ≤ gb470)); have GE470 := Aside0.mk ((Gle hg Hb : w.heap.size ≤ gb470)); replace HB := Aside0.mk (below_step Hb hb); have NB469_470 := Aside0.mk ((by rw [hg]; exact Nat.ne_of_lt (blk_lt (B1 BK469)) : gb469 ≠ gb470)); have NB470_469 := Aside0.mk ((by rw [hg]; exact Nat.ne_of_gt (blk_lt (B1 BK469)) : gb470 ≠ gb469)); replace BK469 := Aside0.mk (blk_below (B1 BK469) hb); clear hb hbox hg) | ((with_reducible refine gD 6 ?_); refine BX #[.int .i64 0, .slice none 0 0] 27 ?_; intro gb471 hg w9 hbox hb; have BK471 := Aside0.mk (hbox); have GW471 := Aside0.mk ((Gle hg Hb : w.heap.size ≤ gb471)); have GE471 := Aside0.mk ((Gle hg Hb : w.heap.size ≤ gb471)); replace HB := Aside0.mk (below_step Hb hb); have NB469_471 := Aside0.mk ((by rw [hg]; exact Nat.ne_of_lt (blk_lt (B1 BK469)) : gb469 ≠ gb471)); have NB471_469 := Aside0.mk ((by rw [hg]; exact Nat.ne_of_gt (blk_lt (B1 BK469)) : gb471 ≠ gb469)); replace BK469 := Aside0.mk (blk_below (B1 BK469) hb); have NB470_471 := Aside0.mk ((by rw [hg]; exact Nat.ne_of_lt (blk_lt (B1 BK470)) : gb470 ≠ gb471)); have NB471_470 := Aside0.mk ((by rw [hg]; exact Nat.ne_of_gt (blk_lt (B1 BK470)) : gb471 ≠ gb470)); replace BK470 := Aside0.mk (blk_below (B1 BK470) hb); clear hb hbox hg) | ((with_reducible refine gC 26 ?_); refine GL (some 12) Try.func26 #[.slice A0 l0.length c0] ?_; (with_reducible refine (impl_IsRegion.calls k _ _ l0 true _ ?side1 ?side2 A4.out).mono ?_); (case side1 => exact Kd.C_below HR0.out Hb); (case side2 => exact HC0.out); rintro e w10 ⟨rfl, hb⟩; refine ⟨_, rfl, ?_⟩; replace BK469 := Aside0.mk (blk_below (B1 BK469) hb); replace BK470 := Aside0.mk (blk_below (B1 BK470) hb); replace BK471 := Aside0.mk (blk_below (B1 BK471) hb); replace HB := Aside0.mk (below_step Hb hb); (try clear hb); (try clear hb2); (try clear hk); (try clear hi)))
    (try simp only [Act.put, List.setIfInBounds_toArray, List.set_cons_zero, List.set_cons_succ])
    go_cut [31] (fun v31 wc => ∃ (kq : Nat) (x31_5 : Bool), v31 = .bool x31_5 ∧ Aside0 (impl_AddWeightings.j0 kq x31_5 a1_0 l1_1 a2_0 l2_1 = some (r1, r2, r3)) ∧ Aside0 (kq ≤ k) ∧ Aside0 (wc.heap[gb469]? = some (.cells #[.int .i64 a1_0, (.slice A1_1 l1_1.length c1_1)] 27 (0, 0))) ∧ Aside0 (wc.heap[gb470]? = some (.cells #[.int .i64 a2_0, (.slice A2_1 l2_1.length c2_1)] 27 (0, 0))) ∧ Aside0 (wc.heap[gb471]? = some (.cells #[.int .i64 0, (.slice none 0 0)] 27 (0, 0))) ∧ Aside0 (Below w.heap.size w wc))
    case first =>
      have H := HC6.out
      clear HC6
      obtain ⟨t473, A110, H⟩ := Option.bind_eq_some_iff.mp H
      have A11 := Aside0.mk A110
      clear A110
      by_cases c12 : t473 = true
      · subst c12
        rw [if_pos rfl] at H
        obtain ⟨t474, A130, H⟩ := Option.bind_eq_some_iff.mp H
        have A13 := Aside0.mk A130
        clear A130
        by_cases c14 : t474 = true
        · subst c14
          rw [if_pos rfl] at H
          have H' := Aside0.mk H
          clear H
          have hnb15 := NB469_470.out
          have hnc15 := NB470_469.out
          have hnb16 := NB469_471.out
          have hnc16 := NB471_469.out
          have hcz17_0 : w10.cell? ⟨gb469, 0, none⟩ = some (.int .i64 a1_0) := bc BK469
          have hcz17_1 : w10.cell? ⟨gb469, 1, none⟩ = some (.slice A1_1 l1_1.length c1_1) := bc BK469
          have hfz17_0 := blk_frozen BK469.out 0
          have hfz17_1 := blk_frozen BK469.out 1
          go_wp2_with (first | ((with_reducible refine gC 27 ?_); refine GL (some 17) Try.func27 #[.slice A0 l0.length c0, .agg #[.int .i64 a1_0, .slice A1_1 l1_1.length c1_1]] ?_; (with_reducible refine (impl_isWeighting.calls _ _ l0 a1_0 _ _ l1_1 true _ ?side1 ?side2 ?side3 ?side4 A11.out).mono ?_); (case side1 => exact Kd.C_below HR0.out Hb); (case side2 => exact HC0.out); (case side3 => exact Kd.C_below HR1_1.out Hb); (case side4 => exact HC1_1.out); rintro e w18 ⟨rfl, hb⟩; refine ⟨_, rfl, ?_⟩; replace BK469 := Aside0.mk (blk_below (B1 BK469) hb); replace BK470 := Aside0.mk (blk_below (B1 BK470) hb); replace BK471 := Aside0.mk (blk_below (B1 BK471) hb); replace HB := Aside0.mk (below_step Hb hb); (try clear hb); (try clear hb2); (try clear hk); (try clear hi); have hnb19 := NB470_471.out; have hnc19 := NB471_470.out; have hcz20_0 : w18.cell? ⟨gb470, 0, none⟩ = some (.int .i64 a2_0) := bc BK470; have hcz20_1 : w18.cell? ⟨gb470, 1, none⟩ = some (.slice A2_1 l2_1.length c2_1) := bc BK470; have hfz20_0 := blk_frozen BK470.out 0; have hfz20_1 := blk_frozen BK470.out 1) | (go_at_call 27; (with_reducible refine (impl_isWeighting.calls _ _ l0 a2_0 _ _ l2_1 true _ ?side1 ?side2 ?side3 ?side4 A13.out).mono ?_); (case side1 => exact Kd.C_below HR0.out Hb); (case side2 => exact HC0.out); (case side3 => exact Kd.C_below HR2_1.out Hb); (case side4 => exact HC2_1.out); rintro e w21 ⟨rfl, hb⟩; replace BK469 := Aside0.mk (blk_below (B1 BK469) hb); replace BK470 := Aside0.mk (blk_below (B1 BK470) hb); replace BK471 := Aside0.mk (blk_below (B1 BK471) hb); replace HB := Aside0.mk (below_step Hb hb); (try clear hb); (try clear hb2); (try clear hk); (try clear hi); have hcz22_0 : w21.cell? ⟨gb469, 0, none⟩ = some (.int .i64 a1_0) := bc BK469; have hcz22_1 : w21.cell? ⟨gb469, 1, none⟩ = some (.slice A1_1 l1_1.length c1_1) := bc BK469; have hfz22_0 := blk_frozen BK469.out 0; have hfz22_1 := blk_frozen BK469.out 1; have hcz23_0 : w21.cell? ⟨gb470, 0, none⟩ = some (.int .i64 a2_0) := bc BK470; have hcz23_1 : w21.cell? ⟨gb470, 1, none⟩ = some (.slice A2_1 l2_1.length c2_1) := bc BK470; have hfz23_0 := blk_frozen BK470.out 0; have hfz23_1 := blk_frozen BK470.out 1))
          go_meet
          case rel => exact ⟨_, ((a1_0 != a2_0)), Fs, H', ⟨by first | omega | exact Nat.le_refl _⟩, ⟨B1 BK469⟩, ⟨B1 BK470⟩, ⟨B1 BK471⟩, ⟨Hb⟩⟩
        · replace c14 := Bool.eq_false_iff.mpr c14
          subst c14
          rw [if_neg (show ¬ (false = true) by decide)] at H
          have H' := Aside0.mk H
          clear H
          have hnb24 := NB469_470.out
          have hnc24 := NB470_469.out
          have hnb25 := NB469_471.out
          have hnc25 := NB471_469.out
          have hcz26_0 : w10.cell? ⟨gb469, 0, none⟩ = some (.int .i64 a1_0) := bc BK469
          have hcz26_1 : w10.cell? ⟨gb469, 1, none⟩ = some (.slice A1_1 l1_1.length c1_1) := bc BK469
          have hfz26_0 := blk_frozen BK469.out 0
          have hfz26_1 := blk_frozen BK469.out 1
          go_wp2_with (first | ((with_reducible refine gC 27 ?_); refine GL (some 17) Try.func27 #[.slice A0 l0.length c0, .agg #[.int .i64 a1_0, .slice A1_1 l1_1.length c1_1]] ?_; (with_reducible refine (impl_isWeighting.calls _ _ l0 a1_0 _ _ l1_1 true _ ?side1 ?side2 ?side3 ?side4 A11.out).mono ?_); (case side1 => exact Kd.C_below HR0.out Hb); (case side2 => exact HC0.out); (case side3 => exact Kd.C_below HR1_1.out Hb); (case side4 => exact HC1_1.out); rintro e w27 ⟨rfl, hb⟩; refine ⟨_, rfl, ?_⟩; replace BK469 := Aside0.mk (blk_below (B1 BK469) hb); replace BK470 := Aside0.mk (blk_below (B1 BK470) hb); replace BK471 := Aside0.mk (blk_below (B1 BK471) hb); replace HB := Aside0.mk (below_step Hb hb); (try clear hb); (try clear hb2); (try clear hk); (try clear hi); have hnb28 := NB470_471.out; have hnc28 := NB471_470.out; have hcz29_0 : w27.cell? ⟨gb470, 0, none⟩ = some (.int .i64 a2_0) := bc BK470; have hcz29_1 : w27.cell? ⟨gb470, 1, none⟩ = some (.slice A2_1 l2_1.length c2_1) := bc BK470; have hfz29_0 := blk_frozen BK470.out 0; have hfz29_1 := blk_frozen BK470.out 1) | (go_at_call 27; (with_reducible refine (impl_isWeighting.calls _ _ l0 a2_0 _ _ l2_1 false _ ?side1 ?side2 ?side3 ?side4 A13.out).mono ?_); (case side1 => exact Kd.C_below HR0.out Hb); (case side2 => exact HC0.out); (case side3 => exact Kd.C_below HR2_1.out Hb); (case side4 => exact HC2_1.out); rintro e w30 ⟨rfl, hb⟩; replace BK469 := Aside0.mk (blk_below (B1 BK469) hb); replace BK470 := Aside0.mk (blk_below (B1 BK470) hb); replace BK471 := Aside0.mk (blk_below (B1 BK471) hb); replace HB := Aside0.mk (below_step Hb hb); (try clear hb); (try clear hb2); (try clear hk); (try clear hi)))
          go_meet
          case rel => exact ⟨_, (true), Fs, H', ⟨by first | omega | exact Nat.le_refl _⟩, ⟨B1 BK469⟩, ⟨B1 BK470⟩, ⟨B1 BK471⟩, ⟨Hb⟩⟩
      · replace c12 := Bool.eq_false_iff.mpr c12
        subst c12
        rw [if_neg (show ¬ (false = true) by decide)] at H
        have H' := Aside0.mk H
        clear H
        have hnb31 := NB469_470.out
        have hnc31 := NB470_469.out
        have hnb32 := NB469_471.out
        have hnc32 := NB471_469.out
        have hcz33_0 : w10.cell? ⟨gb469, 0, none⟩ = some (.int .i64 a1_0) := bc BK469
        have hcz33_1 : w10.cell? ⟨gb469, 1, none⟩ = some (.slice A1_1 l1_1.length c1_1) := bc BK469
        have hfz33_0 := blk_frozen BK469.out 0
        have hfz33_1 := blk_frozen BK469.out 1
        go_wp2_with (first | ((with_reducible refine gC 27 ?_); refine GL (some 17) Try.func27 #[.slice A0 l0.length c0, .agg #[.int .i64 a1_0, .slice A1_1 l1_1.length c1_1]] ?_; (with_reducible refine (impl_isWeighting.calls _ _ l0 a1_0 _ _ l1_1 false _ ?side1 ?side2 ?side3 ?side4 A11.out).mono ?_); (case side1 => exact Kd.C_below HR0.out Hb); (case side2 => exact HC0.out); (case side3 => exact Kd.C_below HR1_1.out Hb); (case side4 => exact HC1_1.out); rintro e w34 ⟨rfl, hb⟩; refine ⟨_, rfl, ?_⟩; replace BK469 := Aside0.mk (blk_below (B1 BK469) hb); replace BK470 := Aside0.mk (blk_below (B1 BK470) hb); replace BK471 := Aside0.mk (blk_below (B1 BK471) hb); replace HB := Aside0.mk (below_step Hb hb); (try clear hb); (try clear hb2); (try clear hk); (try clear hi)))
        go_meet
        case rel => exact ⟨_, (true), Fs, H', ⟨by first | omega | exact Nat.le_refl _⟩, ⟨B1 BK469⟩, ⟨B1 BK470⟩, ⟨B1 BK471⟩, ⟨Hb⟩⟩
    case rest =>
      clear HC6
      try clear c1
      try clear c2
      try clear p2
      try clear c3
      try clear c5
      try clear c7
      try clear c12
      try clear c14
      try clear c15
      try clear c16
      try clear c19
      try clear c24
      try clear c25
      try clear c26
      try clear c27
      try clear c28
      try clear c31
      try clear c32
      try clear hcz17_0
      try clear hcz17_1
      try clear hcz20_0
      try clear hcz20_1
      try clear hcz22_0
      try clear hcz22_1
      try clear hcz23_0
      try clear hcz23_1
      try clear hcz26_0
      try clear hcz26_1
      try clear hcz29_0
      try clear hcz29_1
      try clear hcz33_0
      try clear hcz33_1
      try clear hfz17_0
      try clear hfz17_1
      try clear hfz20_0
      try clear hfz20_1
      try clear hfz22_0
      try clear hfz22_1
      try clear hfz23_0
      try clear hfz23_1
      try clear hfz26_0
      try clear hfz26_1
      try clear hfz29_0
      try clear hfz29_1
      try clear hfz33_0
      try clear hfz33_1
      obtain ⟨kq, x31_5, rfl, HA, HJ5, BK469, BK470, BK471, HB⟩ := hcut
      cases kq with
      | zero => exact absurd HA.out (by simp [impl_AddWeightings.j0])
      | succ kj5 =>
        have H := HA.out
        clear HA
        simp only [impl_AddWeightings.j0] at H
        by_cases c35 : x31_5 = true
        · subst c35
          rw [if_pos rfl] at H
          simp only [Option.some.injEq, Prod.mk.injEq] at H
          obtain ⟨rfl, rfl, rfl⟩ := H
          have hnb36 := NB471_469.out
          have hnc36 := NB469_471.out
          have hnb37 := NB471_470.out
          have hnc37 := NB470_471.out
          have hcz38_0 : wc.cell? ⟨gb471, 0, none⟩ = some (.int .i64 0) := bc BK471
          have hcz38_1 : wc.cell? ⟨gb471, 1, none⟩ = some (.slice none 0 0) := bc BK471
          have hfz38_0 := blk_frozen BK471.out 0
          have hfz38_1 := blk_frozen BK471.out 1
          go_wp2
          refine bodyPost_ret (results_ct rfl _ _ gb471 27 #[.int .i64 0, .slice none 0 0] (0, 0) _ rfl (by (with_reducible repeat (first | refine blk_drewN ?_ _ | refine blk_drew ?_ | refine blk_alloc ?_ _)); refine blk_put (cs := #[.int .i64 0, .slice none 0 0]) ?_ 1 _ rfl; (with_reducible repeat (first | refine blk_drewN ?_ _ | refine blk_drew ?_ | refine blk_alloc ?_ _)); refine blk_put (cs := #[.int .i64 0, .slice none 0 0]) ?_ 0 _ rfl; (with_reducible repeat (first | refine blk_drewN ?_ _ | refine blk_drew ?_ | refine blk_alloc ?_ _)); exact BK471.out) Try.underlying27 rfl (by kernel_rfl)) rfl ?_
          exact ⟨_, Fin, by first | exact Kd.R_nil _ _ _ _ _ | exact Kd.N_nil _ _ _ _ _ | exact Kd.V_nil _ _ _ _ _ | exact Kd.Q_nil _ _ _ _ _ | exact Kd.S_nil _ _ _ _ _, Hb⟩
        · replace c35 := Bool.eq_false_iff.mpr c35
          subst c35
          rw [if_neg (show ¬ (false = true) by decide)] at H
          have H' := Aside0.mk H
          clear H
          have hnb39 := NB469_470.out
          have hnc39 := NB470_469.out
          have hnb40 := NB469_471.out
          have hnc40 := NB471_469.out
          have hcz41_0 : wc.cell? ⟨gb469, 0, none⟩ = some (.int .i64 a1_0) := bc BK469
          have hcz41_1 : wc.cell? ⟨gb469, 1, none⟩ = some (.slice A1_1 l1_1.length c1_1) := bc BK469
          have hfz41_0 := blk_frozen BK469.out 0
          have hfz41_1 := blk_frozen BK469.out 1
          go_wp2_with (first | ((with_reducible refine gD 8 ?_); refine BX #[.int .i64 0, .slice none 0 0] 27 ?_; intro gb475 hg w42 hbox hb; have BK475 := Aside0.mk (hbox); have GW475 := Aside0.mk ((Gle hg Hb : w.heap.size ≤ gb475)); have GE475 := Aside0.mk ((Gle hg Hb : w.heap.size ≤ gb475)); replace HB := Aside0.mk (below_step Hb hb); have NB469_475 := Aside0.mk ((by rw [hg]; exact Nat.ne_of_lt (blk_lt (B1 BK469)) : gb469 ≠ gb475)); have NB475_469 := Aside0.mk ((by rw [hg]; exact Nat.ne_of_gt (blk_lt (B1 BK469)) : gb475 ≠ gb469)); replace BK469 := Aside0.mk (blk_below (B1 BK469) hb); have NB470_475 := Aside0.mk ((by rw [hg]; exact Nat.ne_of_lt (blk_lt (B1 BK470)) : gb470 ≠ gb475)); have NB475_470 := Aside0.mk ((by rw [hg]; exact Nat.ne_of_gt (blk_lt (B1 BK470)) : gb475 ≠ gb470)); replace BK470 := Aside0.mk (blk_below (B1 BK470) hb); have NB471_475 := Aside0.mk ((by rw [hg]; exact Nat.ne_of_lt (blk_lt (B1 BK471)) : gb471 ≠ gb475)); have NB475_471 := Aside0.mk ((by rw [hg]; exact Nat.ne_of_gt (blk_lt (B1 BK471)) : gb475 ≠ gb471)); replace BK471 := Aside0.mk (blk_below (B1 BK471) hb); clear hb hbox hg; have hnb43 := NB475_469.out; have hnc43 := NB469_475.out; have hnb44 := NB475_470.out; have hnc44 := NB470_475.out; have hnb45 := NB475_471.out; have hnc45 := NB471_475.out; have hcz46_0 : w42.cell? ⟨gb475, 0, none⟩ = some (.int .i64 0) := bc BK475; have hcz46_1 : w42.cell? ⟨gb475, 1, none⟩ = some (.slice none 0 0) := bc BK475; have hfz46_0 := blk_frozen BK475.out 0; have hfz46_1 := blk_frozen BK475.out 1; have hcz47_0 : w42.cell? ⟨gb469, 0, none⟩ = some (.int .i64 a1_0) := bc BK469; have hcz47_1 : w42.cell? ⟨gb469, 1, none⟩ = some (.slice A1_1 l1_1.length c1_1) := bc BK469; have hfz47_0 := blk_frozen BK469.out 0; have hfz47_1 := blk_frozen BK469.out 1))
          go_loopg [39] kj5 (fun kq v39 w' => ∃ (x39_2 : Int) (x476001_2 : List Int) (u476001 : Value), v39 = .int .i64 x39_2 ∧ Aside0 (impl_AddWeightings.l0 kq l1_1 (l1_1.length : Int) x39_2 a1_0 l1_1 a2_0 l2_1 a1_0 x476001_2 = some (r1, r2, r3)) ∧ Aside0 (kq ≤ kj5) ∧ Aside0 (Kd.R (Kd.int .i64) 2 w' w.heap.size (fun _ => True) u476001 x476001_2) ∧ Aside0 (w'.heap[gb469]? = some (.cells #[.int .i64 a1_0, (.slice A1_1 l1_1.length c1_1)] 27 (0, 0))) ∧ Aside0 (w'.heap[gb470]? = some (.cells #[.int .i64 a2_0, (.slice A2_1 l2_1.length c2_1)] 27 (0, 0))) ∧ Aside0 (w'.heap[gb471]? = some (.cells #[.int .i64 0, (.slice none 0 0)] 27 (0, 0))) ∧ Aside0 (w'.heap[gb475]? = some (.cells #[.int .i64 a1_0, u476001] 27 (0, 0))) ∧ Aside0 (Below w.heap.size w w'))
          case atStart => exact ⟨(0), (([] : List Int)), (.slice none 0 0), Fs, H', ⟨Nat.le_refl _⟩, ⟨by first | exact Kd.R_nil _ _ _ _ _ | exact Kd.N_nil _ _ _ _ _ | exact Kd.V_nil _ _ _ _ _ | exact Kd.Q_nil _ _ _ _ _ | exact Kd.S_nil _ _ _ _ _⟩, ⟨by (with_reducible repeat (first | refine blk_drewN ?_ _ | refine blk_drew ?_ | refine blk_alloc ?_ _)); refine blk_far ?_ NB469_475.out _; (with_reducible repeat (first | refine blk_drewN ?_ _ | refine blk_drew ?_ | refine blk_alloc ?_ _)); refine blk_far ?_ NB469_475.out _; (with_reducible repeat (first | refine blk_drewN ?_ _ | refine blk_drew ?_ | refine blk_alloc ?_ _)); exact BK469.out⟩, ⟨by (with_reducible repeat (first | refine blk_drewN ?_ _ | refine blk_drew ?_ | refine blk_alloc ?_ _)); refine blk_far ?_ NB470_475.out _; (with_reducible repeat (first | refine blk_drewN ?_ _ | refine blk_drew ?_ | refine blk_alloc ?_ _)); refine blk_far ?_ NB470_475.out _; (with_reducible repeat (first | refine blk_drewN ?_ _ | refine blk_drew ?_ | refine blk_alloc ?_ _)); exact BK470.out⟩, ⟨by (with_reducible repeat (first | refine blk_drewN ?_ _ | refine blk_drew ?_ | refine blk_alloc ?_ _)); refine blk_far ?_ NB471_475.out _; (with_reducible repeat (first | refine blk_drewN ?_ _ | refine blk_drew ?_ | refine blk_alloc ?_ _)); refine blk_far ?_ NB471_475.out _; (with_reducible repeat (first | refine blk_drewN ?_ _ | refine blk_drew ?_ | refine blk_alloc ?_ _)); exact BK471.out⟩, ⟨by (with_reducible repeat (first | refine blk_drewN ?_ _ | refine blk_drew ?_ | refine blk_alloc ?_ _)); refine blk_put (cs := #[.int .i64 a1_0, .slice none 0 0]) ?_ 1 _ rfl; (with_reducible repeat (first | refine blk_drewN ?_ _ | refine blk_drew ?_ | refine blk_alloc ?_ _)); refine blk_put (cs := #[.int .i64 0, .slice none 0 0]) ?_ 0 _ rfl; (with_reducible repeat (first | refine blk_drewN ?_ _ | refine blk_drew ?_ | refine blk_alloc ?_ _)); exact BK475.out⟩, ⟨Hb⟩⟩
          case round =>
            clear H'
            try clear c1
            try clear c2
            try clear p2
            try clear c3
            try clear c4
            try clear c5
            try clear c7
            try clear c12
            try clear c14
            try clear c15
            try clear c16
            try clear c19
            try clear c24
            try clear c25
            try clear c26
            try clear c27
            try clear c28
            try clear c31
            try clear c32
            try clear c35
            try clear c36
            try clear c37
            try clear c39
            try clear c40
            try clear c43
            try clear c44
            try clear c45
            try clear hcz17_0
            try clear hcz17_1
            try clear hcz20_0
            try clear hcz20_1
            try clear hcz22_0
            try clear hcz22_1
            try clear hcz23_0
            try clear hcz23_1
            try clear hcz26_0
            try clear hcz26_1
            try clear hcz29_0
            try clear hcz29_1
            try clear hcz33_0
            try clear hcz33_1
            try clear hcz38_0
            try clear hcz38_1
            try clear hcz41_0
            try clear hcz41_1
            try clear hcz46_0
            try clear hcz46_1
            try clear hcz47_0
            try clear hcz47_1
            try clear hfz17_0
            try clear hfz17_1
            try clear hfz20_0
            try clear hfz20_1
            try clear hfz22_0
            try clear hfz22_1
            try clear hfz23_0
            try clear hfz23_1
            try clear hfz26_0
            try clear hfz26_1
            try clear hfz29_0
            try clear hfz29_1
            try clear hfz33_0
            try clear hfz33_1
            try clear hfz38_0
            try clear hfz38_1
            try clear hfz41_0
            try clear hfz41_1
            try clear hfz46_0
            try clear hfz46_1
            try clear hfz47_0
            try clear hfz47_1
            try clear p2
            obtain ⟨x39_2, x476001_2, u476001, rfl, HA, HK2, HO_476001, BK469, BK470, BK471, BK475, HB⟩ := hrel
            cases gk with
            | zero => exact absurd HA.out (by simp [impl_AddWeightings.l0])
            | succ k2 =>
              have H := HA.out
              clear HA
              simp only [impl_AddWeightings.l0] at H
              by_cases c48 : x39_2 < (l1_1.length : Int)
              · rw [if_pos c48] at H
                have c48b0 : decide (x39_2 < (l1_1.length : Int)) = true := decide_eq_true c48
                clear c48
                by_cases c49 : 0 ≤ x39_2
                · rw [if_pos c49] at H
                  have c49b0 : decide (0 ≤ x39_2) = true := decide_eq_true c49
                  clear c49
                  by_cases c50 : x39_2 < (l1_1.length : Int)
                  · rw [if_pos c50] at H
                    have c50b0 : decide (x39_2 < (l1_1.length : Int)) = true := decide_eq_true c50
                    clear c50
                    by_cases c51 : x39_2 < (l2_1.length : Int)
                    · rw [if_pos c51] at H
                      have c51b0 : decide (x39_2 < (l2_1.length : Int)) = true := decide_eq_true c51
                      clear c51
                      by_cases c52 : a1_0 = 0
                      · rw [if_pos c52] at H
                        exact absurd H (by simp)
                      · rw [if_neg c52] at H
                        have c52b0 : (a1_0 == 0) = false := beq_eq_false_iff_ne.mpr c52
                        have c52b1 : (a1_0 != 0) = true := bne_iff_ne.mpr c52
                        by_cases c53 : x476001_2.length < 17592186044416
                        · rw [if_pos c53] at H
                          have LMc53 := Aside0.mk c53
                          clear c53
                          obtain ⟨y478, hy478⟩ : ∃ y_ : List Int, y_ = (x476001_2 ++ [Int.tmod (wrap64 ((rd l1_1 x39_2) + (rd l2_1 x39_2))) a1_0]) := ⟨_, rfl⟩
                          replace H : (impl_AddWeightings.l0 k2 l1_1 (l1_1.length : Int) (wrap64 (x39_2 + 1)) a1_0 l1_1 a2_0 l2_1 a1_0 y478) = some (r1, r2, r3) := by first | (rw [hy478]; with_reducible exact H) | (have H2_ := (Option.bind_some _ _).symm.trans H; rw [hy478]; with_reducible exact H2_) | (have H2_ := (Option.bind_some _ _).symm.trans H; with_reducible exact H2_) | with_reducible exact H | (rw [hy478]; exact H) | exact H
                          have Ny478 := Aside0.mk hy478
                          clear hy478
                          have H' := Aside0.mk H
                          clear H
                          have p476 : 0 ≤ (x39_2 : Int) := oD
                          have q476 : x39_2 < (l1_1.length : Int) := oD
                          obtain ⟨ad476, e476, hx476_0⟩ := Kd.at_int HR1_1.out x39_2 p476 q476
                          cases e476
                          replace hx476_0 := hxb hx476_0
                          replace p476 := eq_true p476
                          replace q476 := eq_true q476
                          try go_wp2
                          replace HO_476001 := Aside0.mk (Kd.R_drew HO_476001.out)
                          replace BK469 := Aside0.mk (blk_drew BK469.out)
                          replace BK470 := Aside0.mk (blk_drew BK470.out)
                          replace BK471 := Aside0.mk (blk_drew BK471.out)
                          replace BK475 := Aside0.mk (blk_drew BK475.out)
                          replace HB := Aside0.mk (below_drew1 HB.out)
                          have p477 : 0 ≤ (x39_2 : Int) := oD
                          have q477 : x39_2 < (l2_1.length : Int) := oD
                          obtain ⟨ad477, e477, hx477_0⟩ := Kd.at_int HR2_1.out x39_2 p477 q477
                          have hw477_0 := hx477_0
                          cases e477
                          replace hx477_0 := hxb hx477_0
                          replace p477 := eq_true p477
                          replace q477 := eq_true q477
                          refine start_ (n := 16) (S := fun w' => w'.cell? ⟨gb475, 0, none⟩ = some (.int .i64 a1_0) ∧ w'.cell? ⟨gb475, 1, none⟩ = some (u476001) ∧ w'.cell? ⟨gb470, 0, none⟩ = some (.int .i64 a2_0) ∧ w'.cell? ⟨gb470, 1, none⟩ = some (.slice (some ad477) l2_1.length c2_1) ∧ w'.cell? ⟨gb469, 0, none⟩ = some (.int .i64 a1_0) ∧ w'.cell? ⟨gb469, 1, none⟩ = some (.slice (some ad476) l1_1.length c1_1) ∧ w'.cell? (ad477.add (x39_2).toNat) = some (.int .i64 (rd l2_1 x39_2))) (ds := [15]) #[false, false, false, false, false, false, false, false, false, false, false, false, false, false, false, false] (by kernel_rfl) rfl rfl ⟨(blk_cell BK475.out 0).trans rfl, (blk_cell BK475.out 1).trans rfl, (blk_cell BK470.out 0).trans rfl, (blk_cell BK470.out 1).trans rfl, (blk_cell BK469.out 0).trans rfl, (blk_cell BK469.out 1).trans rfl, (hxb hw477_0)⟩ (fun hHeld => ?_); refine with_tabW impl_AddWeightings.tab9 impl_AddWeightings.bits9 (fun HT_ HW_ => ?_)
                          generalize wr.drew = w54 at HO_476001 BK469 BK470 BK471 BK475 HB hx477_0 hHeld ⊢
                          refine PU 0 44 ?_
                          refine PU 2 46 ?_
                          refine PU 3 47 ?_
                          refine PU 5 49 ?_
                          refine PU 9 53 ?_
                          refine TK 1 45 hHeld ?_
                          refine TK 4 48 hHeld ?_
                          refine PU 6 50 ?_
                          refine TK 7 51 hHeld ?_
                          refine PU 8 52 ?_
                          refine TK 10 54 hHeld ?_
                          refine PU 11 55 ?_
                          refine ON 12 56 (fun K hK => ?_)
                          refine value_ (w1 := ?_) (v := ?_) (by rfl) rfl ?_ ?_
                          rotate_left 2
                          · go_simp
                            constructor
                            · rfl
                            · rfl
                          refine hK.out _ _ ⟨(blk_cell (blk_alloc BK475.out _) 0).trans rfl, (blk_cell (blk_alloc BK475.out _) 1).trans rfl, (blk_cell (blk_alloc BK470.out _) 0).trans rfl, (blk_cell (blk_alloc BK470.out _) 1).trans rfl, (blk_cell (blk_alloc BK469.out _) 0).trans rfl, (blk_cell (blk_alloc BK469.out _) 1).trans rfl, (World.cell?_alloc_lt _ _ _ (World.block_lt_of_cell? _ _ ((hxb hw477_0)))).trans ((hxb hw477_0))⟩ (fun hHeld => ?_)
                          clear hK K
                          refine NM 56 ?_
                          refine ON 13 57 (fun K hK => ?_)
                          refine Kd.R_append_step (Kd.int .i64) (w0 := w) w.heap.size (by rfl) (.tmp 45) (.tmp 56) 25 2 (.int .i64 0) 8 rfl Try.underlying25 info2 rfl (by decide) (by omega) u476001 x476001_2 (Int.tmod (wrap64 ((rd l1_1 x39_2) + (rd l2_1 x39_2))) a1_0) [.int .i64 (Int.tmod (wrap64 ((rd l1_1 x39_2) + (rd l2_1 x39_2))) a1_0)] (fun _ => True) (fun _ => False) rfl rfl ?aP (fun _ hk => hk.elim) ?aF ?aO ?aB ?aS ?aL ?_
                          (case aP => exact rfl)
                          (case aB => exact Hb)
                          (case aF => exact (fun _ _ => trivial))
                          (case aO => exact (R1 HO_476001))
                          (case aS => exact (below_size Hb))
                          (case aL => have := LMc53.out; omega)
                          intro v479 w55 ho hb hg hat
                          rw [← Ny478.out] at ho
                          replace BK469 := Aside0.mk (blk_grown (B1 BK469) hg (Kd.R_ne HO_476001.out BK469.out (by decide)))
                          replace BK470 := Aside0.mk (blk_grown (B1 BK470) hg (Kd.R_ne HO_476001.out BK470.out (by decide)))
                          replace BK471 := Aside0.mk (blk_grown (B1 BK471) hg (Kd.R_ne HO_476001.out BK471.out (by decide)))
                          replace BK475 := Aside0.mk (blk_grown (B1 BK475) hg (Kd.R_ne HO_476001.out BK475.out (by decide)))
                          replace HB := Aside0.mk (hb)
                          have HO480 := Aside0.mk (ho)
                          clear HO_476001
                          clear ho hb hg hat
                          obtain ⟨Ao56, co56, eo56⟩ := Kd.R_slice HO480.out
                          (first | subst eo56 | (injection eo56 with f1_ f2_ f3_; have f4_ := f1_.symm; have f5_ := f3_.symm; clear f1_ f2_ f3_; subst f4_; subst f5_))
                          refine hK.out _ _ ⟨(blk_cell BK475.out 0).trans rfl, (blk_cell BK475.out 1).trans rfl, (blk_cell BK470.out 0).trans rfl, (blk_cell BK470.out 1).trans rfl, (blk_cell BK469.out 0).trans rfl, (blk_cell BK469.out 1).trans rfl, (hxb hw477_0)⟩ (fun hHeld => ?_)
                          clear hK K
                          refine NM 57 ?_
                          refine PU 14 58 ?_
                          refine last_ (i := 15) (N := none) #[true, true, true, true, true, true, true, true, true, true, true, true, true, true, true, true] rfl rfl (one_of HT_.out (by kernel_rfl)) (by decide) (fun K hK => ?_)
                          have hs57 : w55.cell? ⟨gb475, 1, none⟩ = some (u476001) := (blk_cell BK475.out 1).trans rfl
                          have hfs57 := blk_frozen BK475.out 1
                          have hns57_0 := NB469_475.out
                          have hns57_1 := NB470_475.out
                          have hns57_2 := NB471_475.out
                          have hms57_0 := NB475_469.out
                          have hms57_1 := NB475_470.out
                          have hms57_2 := NB475_471.out
                          refine skip_ (w1 := ?_) (by rfl) rfl ?_ ?_
                          rotate_left
                          · go_simp
                            rfl
                          refine hK.out _ _ ?_
                          clear hK K
                          refine done_ (done_of HT_.out (by kernel_rfl)) ?_
                          try go_wp2
                          go_roundg k2
                          case measure => have := HJ5.out; have := HK2.out; omega
                          case rel => exact ⟨(wrap64 (x39_2 + 1)), (y478), (.slice Ao56 y478.length co56), Fs, H', ⟨by have := HJ5.out; have := HK2.out; omega⟩, ⟨by (with_reducible repeat (first | apply Kd.R_alloc | apply Kd.R_drewN | apply Kd.R_drew)); exact Kd.R_mono (Kd.R_far (p := ⟨gb475, 1, none⟩) (Kd.R_types HO480.out BK475.out (by decide)) (fun _ hk => hk.2) (.slice Ao56 y478.length co56)) (fun _ hk => trivial)⟩, ⟨by (with_reducible repeat (first | refine blk_drewN ?_ _ | refine blk_drew ?_ | refine blk_alloc ?_ _)); refine blk_far ?_ NB469_475.out _; (with_reducible repeat (first | refine blk_drewN ?_ _ | refine blk_drew ?_ | refine blk_alloc ?_ _)); exact BK469.out⟩, ⟨by (with_reducible repeat (first | refine blk_drewN ?_ _ | refine blk_drew ?_ | refine blk_alloc ?_ _)); refine blk_far ?_ NB470_475.out _; (with_reducible repeat (first | refine blk_drewN ?_ _ | refine blk_drew ?_ | refine blk_alloc ?_ _)); exact BK470.out⟩, ⟨by (with_reducible repeat (first | refine blk_drewN ?_ _ | refine blk_drew ?_ | refine blk_alloc ?_ _)); refine blk_far ?_ NB471_475.out _; (with_reducible repeat (first | refine blk_drewN ?_ _ | refine blk_drew ?_ | refine blk_alloc ?_ _)); exact BK471.out⟩, ⟨by (with_reducible repeat (first | refine blk_drewN ?_ _ | refine blk_drew ?_ | refine blk_alloc ?_ _)); refine blk_put (cs := #[.int .i64 a1_0, u476001]) ?_ 1 _ rfl; (with_reducible repeat (first | refine blk_drewN ?_ _ | refine blk_drew ?_ | refine blk_alloc ?_ _)); exact BK475.out⟩, ⟨Hb⟩⟩
                        · rw [if_neg c53] at H
                          exact absurd H (by simp)
                    · rw [if_neg c51] at H
                      exact absurd H (by simp)
                  · rw [if_neg c50] at H
                    exact absurd H (by simp)
                · rw [if_neg c49] at H
                  exact absurd H (by simp)
              · rw [if_neg c48] at H
                have c48b0 : decide (x39_2 < (l1_1.length : Int)) = false := decide_eq_false c48
                clear c48
                simp only [Option.some.injEq, Prod.mk.injEq] at H
                obtain ⟨rfl, rfl, rfl⟩ := H
                have hnb58 := NB475_469.out
                have hnc58 := NB469_475.out
                have hnb59 := NB475_470.out
                have hnc59 := NB470_475.out
                have hnb60 := NB475_471.out
                have hnc60 := NB471_475.out
                have hcz61_0 : wr.cell? ⟨gb475, 0, none⟩ = some (.int .i64 a1_0) := bc BK475
                have hcz61_1 : wr.cell? ⟨gb475, 1, none⟩ = some (u476001) := bc BK475
                have hfz61_0 := blk_frozen BK475.out 0
                have hfz61_1 := blk_frozen BK475.out 1
                have hnb62 := NB471_469.out
                have hnc62 := NB469_471.out
                have hnb63 := NB471_470.out
                have hnc63 := NB470_471.out
                have hcz64_0 : wr.cell? ⟨gb471, 0, none⟩ = some (.int .i64 0) := bc BK471
                have hcz64_1 : wr.cell? ⟨gb471, 1, none⟩ = some (.slice none 0 0) := bc BK471
                have hfz64_0 := blk_frozen BK471.out 0
                have hfz64_1 := blk_frozen BK471.out 1
                obtain ⟨Ao65, co65, eo65⟩ := Kd.R_slice HO_476001.out
                subst eo65
                go_wp2
                refine bodyPost_ret (results_ct rfl _ _ gb471 27 #[.int .i64 a1_0, .slice Ao65 x476001_2.length co65] (0, 0) _ rfl (by (with_reducible repeat (first | refine blk_drewN ?_ _ | refine blk_drew ?_ | refine blk_alloc ?_ _)); refine blk_put (cs := #[.int .i64 a1_0, .slice none 0 0]) ?_ 1 _ rfl; (with_reducible repeat (first | refine blk_drewN ?_ _ | refine blk_drew ?_ | refine blk_alloc ?_ _)); refine blk_put (cs := #[.int .i64 0, .slice none 0 0]) ?_ 0 _ rfl; (with_reducible repeat (first | refine blk_drewN ?_ _ | refine blk_drew ?_ | refine blk_alloc ?_ _)); exact BK471.out) Try.underlying27 rfl (by kernel_rfl)) rfl ?_
                exact ⟨_, Fin, by (with_reducible repeat (first | apply Kd.R_alloc | apply Kd.R_drewN | apply Kd.R_drew)); exact Kd.R_mono (Kd.R_far (p := ⟨gb471, 1, none⟩) (Kd.R_far (p := ⟨gb471, 0, none⟩) (Kd.R_types HO_476001.out BK471.out (by decide)) (fun _ hk => hk.2) (.int .i64 a1_0)) (fun _ hk => hk.2) (.slice Ao65 x476001_2.length co65)) (fun _ hk => trivial), Hb⟩
  · replace c5 := Bool.eq_false_iff.mpr c5
    subst c5
    rw [if_neg (show ¬ (false = true) by decide)] at H
    simp only [Option.some.injEq, Prod.mk.injEq] at H
    obtain ⟨rfl, rfl, rfl⟩ := H
    go_enter Try.func7, Try.ntmps7
    go_wp2_with (first | ((with_reducible refine gD 4 ?_); refine BX #[.int .i64 a1_0, .slice A1_1 l1_1.length c1_1] 27 ?_; intro gb469 hg w66 hbox hb; have BK469 := Aside0.mk (hbox); have GW469 := Aside0.mk ((Gle hg Hb : w.heap.size ≤ gb469)); have GE469 := Aside0.mk ((Gle hg Hb : w.heap.size ≤ gb469)); replace HB := Aside0.mk (below_step Hb hb); clear hb hbox hg) | ((with_reducible refine gD 5 ?_); refine BX #[.int .i64 a2_0, .slice A2_1 l2_1.length c2_1] 27 ?_; intro gb470 hg w67 hbox hb; have BK470 := Aside0.mk (hbox); have GW470 := Aside0.mk ((Gle hg Hb : w.heap.size ≤ gb470)); have GE470 := Aside0.mk ((Gle hg Hb : w.heap.size ≤ gb470)); replace HB := Aside0.mk (below_step Hb hb); have NB469_470 := Aside0.mk ((by rw [hg]; exact Nat.ne_of_lt (blk_lt (B1 BK469)) : gb469 ≠ gb470)); have NB470_469 := Aside0.mk ((by rw [hg]; exact Nat.ne_of_gt (blk_lt (B1 BK469)) : gb470 ≠ gb469)); replace BK469 := Aside0.mk (blk_below (B1 BK469) hb); clear hb hbox hg) | ((with_reducible refine gD 6 ?_); refine BX #[.int .i64 0, .slice none 0 0] 27 ?_; intro gb471 hg w68 hbox hb; have BK471 := Aside0.mk (hbox); have GW471 := Aside0.mk ((Gle hg Hb : w.heap.size ≤ gb471)); have GE471 := Aside0.mk ((Gle hg Hb : w.heap.size ≤ gb471)); replace HB := Aside0.mk (below_step Hb hb); have NB469_471 := Aside0.mk ((by rw [hg]; exact Nat.ne_of_lt (blk_lt (B1 BK469)) : gb469 ≠ gb471)); have NB471_469 := Aside0.mk ((by rw [hg]; exact Nat.ne_of_gt (blk_lt (B1 BK469)) : gb471 ≠ gb469)); replace BK469 := Aside0.mk (blk_below (B1 BK469) hb); have NB470_471 := Aside0.mk ((by rw [hg]; exact Nat.ne_of_lt (blk_lt (B1 BK470)) : gb470 ≠ gb471)); have NB471_470 := Aside0.mk ((by rw [hg]; exact Nat.ne_of_gt (blk_lt (B1 BK470)) : gb471 ≠ gb470)); replace BK470 := Aside0.mk (blk_below (B1 BK470) hb); clear hb hbox hg) | ((with_reducible refine gC 26 ?_); refine GL (some 12) Try.func26 #[.slice A0 l0.length c0] ?_; (with_reducible refine (impl_IsRegion.calls k _ _ l0 false _ ?side1 ?side2 A4.out).mono ?_); (case side1 => exact Kd.C_below HR0.out Hb); (case side2 => exact HC0.out); rintro e w69 ⟨rfl, hb⟩; refine ⟨_, rfl, ?_⟩; replace BK469 := Aside0.mk (blk_below (B1 BK469) hb); replace BK470 := Aside0.mk (blk_below (B1 BK470) hb); replace BK471 := Aside0.mk (blk_below (B1 BK471) hb); replace HB := Aside0.mk (below_step Hb hb); (try clear hb); (try clear hb2); (try clear hk); (try clear hi); have hnb70 := NB471_469.out; have hnc70 := NB469_471.out; have hnb71 := NB471_470.out; have hnc71 := NB470_471.out; have hcz72_0 : w69.cell? ⟨gb471, 0, none⟩ = some (.int .i64 0) := bc BK471; have hcz72_1 : w69.cell? ⟨gb471, 1, none⟩ = some (.slice none 0 0) := bc BK471; have hfz72_0 := blk_frozen BK471.out 0; have hfz72_1 := blk_frozen BK471.out 1))
    refine bodyPost_ret (results_ct rfl _ _ gb471 27 #[.int .i64 0, .slice none 0 0] (0, 0) _ rfl (by (with_reducible repeat (first | refine blk_drewN ?_ _ | refine blk_drew ?_ | refine blk_alloc ?_ _)); refine blk_put (cs := #[.int .i64 0, .slice none 0 0]) ?_ 1 _ rfl; (with_reducible repeat (first | refine blk_drewN ?_ _ | refine blk_drew ?_ | refine blk_alloc ?_ _)); refine blk_put (cs := #[.int .i64 0, .slice none 0 0]) ?_ 0 _ rfl; (with_reducible repeat (first | refine blk_drewN ?_ _ | refine blk_drew ?_ | refine blk_alloc ?_ _)); exact BK471.out) Try.underlying27 rfl (by kernel_rfl)) rfl ?_
    exact ⟨_, Fin, by first | exact Kd.R_nil _ _ _ _ _ | exact Kd.N_nil _ _ _ _ _ | exact Kd.V_nil _ _ _ _ _ | exact Kd.Q_nil _ _ _ _ _ | exact Kd.S_nil _ _ _ _ _, Hb⟩

/-! ### spec_l01In: function 63 -/
def spec_l01In.f (a0 : Int) (a1 : Int) (a2 : Int) : Option (Bool) := if a0 ≥ a1 then (some (decide (a0 ≤ a2))) else (some false)
set_option maxHeartbeats 8000000 in
set_option maxRecDepth 100000 in
theorem spec_l01In.calls (a0 : Int) (a1 : Int) (a2 : Int) (r : Bool) (w : World) (h : spec_l01In.f a0 a1 a2 = some r) :
    Calls Try.prog 63 #[.int .i64 a0, .int .i64 a1, .int .i64 a2] w fun e w' => e = .returned (.bool r) ∧ Drawn0 w w' := by
  have H : (if a0 ≥ a1 then (some (decide (a0 ≤ a2))) else (some false)) = some r := h
  clear h
  by_cases c4 : a0 ≥ a1
  · rw [if_pos c4] at H
    have c4b0 : decide (a1 ≤ a0) = true := decide_eq_true c4
    clear c4
    obtain rfl := Option.some.inj H
    go_enter Try.func63, Try.ntmps63
    go_wp2
    go_ret
    exact ⟨Fs, by repeat (first | exact Drawn0.refl _ | apply Drawn0.step)⟩
  · rw [if_neg c4] at H
    have c4b0 : decide (a1 ≤ a0) = false := decide_eq_false c4
    clear c4
    obtain rfl := Option.some.inj H
    go_enter Try.func63, Try.ntmps63
    go_wp2
    go_ret
    exact ⟨Fs, by repeat (first | exact Drawn0.refl _ | apply Drawn0.step)⟩

/-! ### spec_l02Cell: function 77 -/
def spec_l02Cell.f (a0_0 : Int) (a0_1 : Int) : Option (Bool) := (spec_l01In.f a0_0 (-100) 100).bind fun t482 => (if t482 = true then ((spec_l01In.f a0_1 (-100) 100).bind fun t483 => (some t483)) else (some false))
set_option maxHeartbeats 8000000 in
set_option maxRecDepth 100000 in
theorem spec_l02Cell.calls (a0_0 : Int) (a0_1 : Int) (r : Bool) (w : World) (h : spec_l02Cell.f a0_0 a0_1 = some r) :
    Calls Try.prog 77 #[.agg #[.int .i64 a0_0, .int .i64 a0_1]] w fun e w' => e = .returned (.bool r) ∧ Below w.heap.size w w' := by
  have hu68 := Try.underlying68
  have HB := Aside0.mk (Below.refl w.heap.size w)
  have H : ((spec_l01In.f a0_0 (-100) 100).bind fun t482 => (if t482 = true then ((spec_l01In.f a0_1 (-100) 100).bind fun t483 => (some t483)) else (some false))) = some r := h
  clear h
  obtain ⟨t482, A20, H⟩ := Option.bind_eq_some_iff.mp H
  have A2 := Aside0.mk A20
  clear A20
  by_cases c3 : t482 = true
  · subst c3
    rw [if_pos rfl] at H
    obtain ⟨t483, A40, H⟩ := Option.bind_eq_some_iff.mp H
    have A4 := Aside0.mk A40
    clear A40
    obtain rfl := Option.some.inj H
    go_enter Try.func77, Try.ntmps77
    go_wp2_with (first | ((with_reducible refine gD 1 ?_); refine BX #[.int .i64 a0_0, .int .i64 a0_1] 68 ?_; intro gb481 hg w5 hbox hb; have BK481 := Aside0.mk (hbox); have GW481 := Aside0.mk ((Gle hg Hb : w.heap.size ≤ gb481)); have GE481 := Aside0.mk ((Gle hg Hb : w.heap.size ≤ gb481)); replace HB := Aside0.mk (below_step Hb hb); clear hb hbox hg; have hcz6_0 : w5.cell? ⟨gb481, 0, none⟩ = some (.int .i64 a0_0) := bc BK481; have hcz6_1 : w5.cell? ⟨gb481, 1, none⟩ = some (.int .i64 a0_1) := bc BK481; have hfz6_0 := blk_frozen BK481.out 0; have hfz6_1 := blk_frozen BK481.out 1) | ((with_reducible refine gC 63 ?_); refine GL (some 5) Try.func63 #[.int .i64 a0_0, .int .i64 (-100), .int .i64 100] ?_; (with_reducible refine (spec_l01In.calls a0_0 (-100) 100 true _ A2.out).mono ?_); rintro e w' ⟨rfl, ⟨nd, rfl⟩⟩; refine ⟨_, rfl, ?_⟩) | (go_at_call 63; (with_reducible refine (spec_l01In.calls a0_1 (-100) 100 t483 _ A4.out).mono ?_); rintro e w' ⟨rfl, ⟨nd, rfl⟩⟩))
    go_ret
    exact ⟨Fin, Hb⟩
  · replace c3 := Bool.eq_false_iff.mpr c3
    subst c3
    rw [if_neg (show ¬ (false = true) by decide)] at H
    obtain rfl := Option.some.inj H
    go_enter Try.func77, Try.ntmps77
    go_wp2_with (first | ((with_reducible refine gD 1 ?_); refine BX #[.int .i64 a0_0, .int .i64 a0_1] 68 ?_; intro gb481 hg w7 hbox hb; have BK481 := Aside0.mk (hbox); have GW481 := Aside0.mk ((Gle hg Hb : w.heap.size ≤ gb481)); have GE481 := Aside0.mk ((Gle hg Hb : w.heap.size ≤ gb481)); replace HB := Aside0.mk (below_step Hb hb); clear hb hbox hg; have hcz8_0 : w7.cell? ⟨gb481, 0, none⟩ = some (.int .i64 a0_0) := bc BK481; have hcz8_1 : w7.cell? ⟨gb481, 1, none⟩ = some (.int .i64 a0_1) := bc BK481; have hfz8_0 := blk_frozen BK481.out 0; have hfz8_1 := blk_frozen BK481.out 1) | ((with_reducible refine gC 63 ?_); refine GL (some 5) Try.func63 #[.int .i64 a0_0, .int .i64 (-100), .int .i64 100] ?_; (with_reducible refine (spec_l01In.calls a0_0 (-100) 100 false _ A2.out).mono ?_); rintro e w' ⟨rfl, ⟨nd, rfl⟩⟩; refine ⟨_, rfl, ?_⟩))
    go_ret
    exact ⟨Fin, Hb⟩

end Go.Proofs.Ytpnlidfebnkgmaa.XFnWeightSums
