-- Written by ext.py (wip/) over the kit's print: not trusted, Lean checks it.
import Derived.Test.YtpnlidfebnkgmaaXFnWeightSumsx0
import Derived.Test.YtpnlidfebnkgmaaXFnWeightSumsx2
import Derived.Test.YtpnlidfebnkgmaaXFnWeightSumsx5
import Derived.Test.YtpnlidfebnkgmaaXFnWeightSumsx6
import Derived.Test.YtpnlidfebnkgmaaXFnWeightSumsx10
namespace Go.Proofs.Ytpnlidfebnkgmaa.XFnWeightSums
open Go.RowKit Go.Proofs.YtpnlidfebnkgmaaW.PrintWords Go.Proofs.YtpnlidfebnkgmaaW.PrintLast Go.Proofs.YtpnlidfebnkgmaaW.PrintMore
attribute [local go_sem] max2_int min2_int max_two min_two max_three min_three max_four min_four   -- for this text's walks alone
set_option linter.unusedVariables false
set_option linter.unusedSimpArgs false

/-! ### spec_AddWeightings: function 8 -/
mutual
def spec_AddWeightings.j0 : Nat → List (S68) → Bool → Int → List Int → Int → List Int → Option (Int × List Int × Int)
  | 0, _, _, _, _, _, _ => none
  | k + 1, x0, x30, x504000, x504001, x505000, x505001 => if x30 = true then (some (0, ([] : List Int), 2)) else (spec_AddWeightings.l0 k x0 (([] : List Int)) 0 x504000 x504001 x505000 x505001)
def spec_AddWeightings.l0 : Nat → List (S68) → List Int → Int → Int → List Int → Int → List Int → Option (Int × List Int × Int)
  | 0, _, _, _, _, _, _, _ => none
  | k + 1, x0, x8, x9, x504000, x504001, x505000, x505001 => if x9 < (x0.length : Int) then (if 0 ≤ x9 then (if x9 < (x504001.length : Int) then (if x9 < (x505001.length : Int) then (if x505000 = 0 then (none) else (if x8.length < 17592186044416 then (spec_AddWeightings.l0 k x0 (x8 ++ [Int.tmod (wrap64 ((rd x504001 x9) + (rd x505001 x9))) x505000]) (wrap64 (x9 + 1)) x504000 x504001 x505000 x505001) else (none))) else (none)) else (none)) else (none)) else (some (x505000, x8, 0))
end
def spec_AddWeightings.f (k : Nat) (l0 : List (S68)) (a1_0 : Int) (l1_1 : List Int) (a2_0 : Int) (l2_1 : List Int) : Option (Int × List Int × Int) := (spec_IsRegion.f k l0).bind fun t506 => (if t506 = true then ((spec_l19Is.f k l0 a1_0 l1_1).bind fun t507 => (if t507 = true then ((spec_l19Is.f k l0 a2_0 l2_1).bind fun t508 => (if t508 = true then (spec_AddWeightings.j0 k l0 (a1_0 != a2_0) a1_0 l1_1 a2_0 l2_1) else (spec_AddWeightings.j0 k l0 true a1_0 l1_1 a2_0 l2_1))) else (spec_AddWeightings.j0 k l0 true a1_0 l1_1 a2_0 l2_1))) else (some (0, ([] : List Int), 1)))
theorem spec_AddWeightings.mono_l : ∀ k, (∀ y0 y1 y2 y3 y4 y5, LeO (spec_AddWeightings.j0 k y0 y1 y2 y3 y4 y5) (spec_AddWeightings.j0 (k + 1) y0 y1 y2 y3 y4 y5)) ∧ (∀ y0 y1 y2 y3 y4 y5 y6, LeO (spec_AddWeightings.l0 k y0 y1 y2 y3 y4 y5 y6) (spec_AddWeightings.l0 (k + 1) y0 y1 y2 y3 y4 y5 y6))
  | 0 => ⟨fun _ _ _ _ _ _ r h => by simp [spec_AddWeightings.j0] at h, fun _ _ _ _ _ _ _ r h => by simp [spec_AddWeightings.l0] at h⟩
  | k + 1 => by
    obtain ⟨ih0, ih1⟩ := spec_AddWeightings.mono_l k
    refine ⟨?_, ?_⟩
    · intro y0 y1 y2 y3 y4 y5
      unfold spec_AddWeightings.j0
      repeat' first
      | (with_reducible exact ih0 _ _ _ _ _ _)
      | (with_reducible exact ih1 _ _ _ _ _ _ _)
      | (with_reducible exact spec_IsRegion.mono _ _)
      | (with_reducible exact spec_l19Is.mono _ _ _ _)
      | (with_reducible exact LeO.refl _)
      | (with_reducible exact LeO.none _)
      | (with_reducible refine LeO.ite ?_ ?_)
      | (with_reducible refine LeO.bind ?_ (fun _ => ?_))
      | exact ih0 _ _ _ _ _ _
      | exact ih1 _ _ _ _ _ _ _
      | exact spec_IsRegion.mono _ _
      | exact spec_l19Is.mono _ _ _ _
      | exact LeO.none _
      | refine LeO.ite ?_ ?_
      | refine LeO.bind ?_ (fun _ => ?_)
    · intro y0 y1 y2 y3 y4 y5 y6
      unfold spec_AddWeightings.l0
      repeat' first
      | (with_reducible exact ih0 _ _ _ _ _ _)
      | (with_reducible exact ih1 _ _ _ _ _ _ _)
      | (with_reducible exact spec_IsRegion.mono _ _)
      | (with_reducible exact spec_l19Is.mono _ _ _ _)
      | (with_reducible exact LeO.refl _)
      | (with_reducible exact LeO.none _)
      | (with_reducible refine LeO.ite ?_ ?_)
      | (with_reducible refine LeO.bind ?_ (fun _ => ?_))
      | exact ih0 _ _ _ _ _ _
      | exact ih1 _ _ _ _ _ _ _
      | exact spec_IsRegion.mono _ _
      | exact spec_l19Is.mono _ _ _ _
      | exact LeO.none _
      | refine LeO.ite ?_ ?_
      | refine LeO.bind ?_ (fun _ => ?_)
theorem spec_AddWeightings.mono : ∀ a0 a1 a2 a3 a4 k, LeO (spec_AddWeightings.f k a0 a1 a2 a3 a4) (spec_AddWeightings.f (k + 1) a0 a1 a2 a3 a4) := by
  intro a0 a1 a2 a3 a4 k
  obtain ⟨ih0, ih1⟩ := spec_AddWeightings.mono_l k
  unfold spec_AddWeightings.f
  repeat' first
      | (with_reducible exact ih0 _ _ _ _ _ _)
      | (with_reducible exact ih1 _ _ _ _ _ _ _)
      | (with_reducible exact spec_IsRegion.mono _ _)
      | (with_reducible exact spec_l19Is.mono _ _ _ _)
      | (with_reducible exact LeO.refl _)
      | (with_reducible exact LeO.none _)
      | (with_reducible refine LeO.ite ?_ ?_)
      | (with_reducible refine LeO.bind ?_ (fun _ => ?_))
      | exact ih0 _ _ _ _ _ _
      | exact ih1 _ _ _ _ _ _ _
      | exact spec_IsRegion.mono _ _
      | exact spec_l19Is.mono _ _ _ _
      | exact LeO.none _
      | refine LeO.ite ?_ ?_
      | refine LeO.bind ?_ (fun _ => ?_)
def spec_AddWeightings.T9 : Bool × List (List Nat × List Nat) := (true, [([], []), ([], []), ([1], [1]), ([], []), ([2, 3], [2, 3]), ([4], [4]), ([], []), ([6], [6]), ([], []), ([7, 8], [7, 8]), ([9], [9]), ([5, 10], [5, 10]), ([], []), ([12], [12]), ([11, 13], [11, 13]), ([14], [14]), ([0, 15], [0, 15]), ([16, 16, 0, 1, 2, 3, 4, 5, 6, 7, 8, 9, 10, 11, 12, 13, 14, 15, 16], [0, 16])])
def spec_AddWeightings.B9 : List Nat := [0, 0, 2, 0, 14, 30, 0, 64, 0, 448, 960, 2046, 0, 4096, 16382, 32766, 65535, 131071]
theorem spec_AddWeightings.tab9 : rtab .any (opsOf Try.f8 9) = spec_AddWeightings.T9 := by kernel_rfl
theorem spec_AddWeightings.bits9 : waitsOk spec_AddWeightings.T9.2 spec_AddWeightings.B9 = true := by kernel_rfl
set_option maxHeartbeats 8000000 in
set_option maxRecDepth 100000 in
theorem spec_AddWeightings.calls (k : Nat) (A0 : Option Addr) (c0 : Nat) (l0 : List (S68)) (a1_0 : Int) (A1_1 : Option Addr) (c1_1 : Nat) (l1_1 : List Int) (a2_0 : Int) (A2_1 : Option Addr) (c2_1 : Nat) (l2_1 : List Int) (r1 : Int) (r2 : List Int) (r3 : Int) (w : World) (hr0 : Kd.C k68 w A0 l0.length l0) (hc0 : l0.length ≤ c0) (hr1_1 : Kd.C (Kd.int .i64) w A1_1 l1_1.length l1_1) (hc1_1 : l1_1.length ≤ c1_1) (hr2_1 : Kd.C (Kd.int .i64) w A2_1 l2_1.length l2_1) (hc2_1 : l2_1.length ≤ c2_1) (h : spec_AddWeightings.f k l0 a1_0 l1_1 a2_0 l2_1 = some (r1, r2, r3)) :
    Calls Try.prog 8 #[.slice A0 l0.length c0, .agg #[.int .i64 a1_0, .slice A1_1 l1_1.length c1_1], .agg #[.int .i64 a2_0, .slice A2_1 l2_1.length c2_1]] w fun e w' => ∃ v1_ : Value, e = .returned (.tuple #[.agg #[.int .i64 r1, v1_], .int .i64 r3]) ∧ Kd.R (Kd.int .i64) 2 w' w.heap.size (fun _ => True) v1_ r2 ∧ Below w.heap.size w w' := by
  have hu27 := Try.underlying27
  have HR0 := Aside0.mk hr0
  have HC0 := Aside0.mk hc0
  clear hr0 hc0
  have HR1_1 := Aside0.mk hr1_1
  have HC1_1 := Aside0.mk hc1_1
  clear hr1_1 hc1_1
  have HR2_1 := Aside0.mk hr2_1
  have HC2_1 := Aside0.mk hc2_1
  clear hr2_1 hc2_1
  have HB := Aside0.mk (Below.refl w.heap.size w)
  have H : ((spec_IsRegion.f k l0).bind fun t506 => (if t506 = true then ((spec_l19Is.f k l0 a1_0 l1_1).bind fun t507 => (if t507 = true then ((spec_l19Is.f k l0 a2_0 l2_1).bind fun t508 => (if t508 = true then (spec_AddWeightings.j0 k l0 (a1_0 != a2_0) a1_0 l1_1 a2_0 l2_1) else (spec_AddWeightings.j0 k l0 true a1_0 l1_1 a2_0 l2_1))) else (spec_AddWeightings.j0 k l0 true a1_0 l1_1 a2_0 l2_1))) else (some (0, ([] : List Int), 1)))) = some (r1, r2, r3) := h
  clear h
  obtain ⟨t506, A40, H⟩ := Option.bind_eq_some_iff.mp H
  have A4 := Aside0.mk A40
  clear A40
  by_cases c5 : t506 = true
  · subst c5
    rw [if_pos rfl] at H
    have HC6 := Aside0.mk H
    clear H
    go_enter Try.func8, Try.ntmps8
    go_upto_region 3 with (first | ((with_reducible refine gD 4 ?_); refine BX #[.int .i64 a1_0, .slice A1_1 l1_1.length c1_1] 27 ?_; intro gb503 hg w7 hbox hb; have BK503 := Aside0.mk (hbox); have GW503 := Aside0.mk ((Gle hg Hb : w.heap.size ≤ gb503)); have GE503 := Aside0.mk ((Gle hg Hb : w.heap.size ≤ gb503)); replace HB := Aside0.mk (below_step Hb hb); clear hb hbox hg) | ((with_reducible refine gD 5 ?_); refine BX #[.int .i64 a2_0, .slice A2_1 l2_1.length c2_1] 27 ?_; intro gb504 hg w8 hbox hb; have BK504 := Aside0.mk (hbox); have GW504 := Aside0.mk ((Gle hg Hb : w.heap.size ≤ gb504)); have GE504 := Aside0.mk ((Gle hg Hb : w.heap.size ≤ gb504)); replace HB := Aside0.mk (below_step Hb hb); have NB503_504 := Aside0.mk ((by rw [hg]; exact Nat.ne_of_lt (blk_lt (B1 BK503)) : gb503 ≠ gb504)); have NB504_503 := Aside0.mk ((by rw [hg]; exact Nat.ne_of_gt (blk_lt (B1 BK503)) : gb504 ≠ gb503)); replace BK503 := Aside0.mk (blk_below (B1 BK503) hb); clear hb hbox hg) | ((with_reducible refine gD 6 ?_); refine BX #[.int .i64 0, .slice none 0 0] 27 ?_; intro gb505 hg w9 hbox hb; have BK505 := Aside0.mk (hbox); have GW505 := Aside0.mk ((Gle hg Hb : w.heap.size ≤ gb505)); have GE505 := Aside0.mk ((Gle hg Hb : w.heap.size ≤ gb505)); replace HB := Aside0.mk (below_step Hb hb); have NB503_505 := Aside0.mk ((by rw [hg]; exact Nat.ne_of_lt (blk_lt (B1 BK503)) : gb503 ≠ gb505)); have NB505_503 := Aside0.mk ((by rw [hg]; exact Nat.ne_of_gt (blk_lt (B1 BK503)) : gb505 ≠ gb503)); replace BK503 := Aside0.mk (blk_below (B1 BK503) hb); have NB504_505 := Aside0.mk ((by rw [hg]; exact Nat.ne_of_lt (blk_lt (B1 BK504)) : gb504 ≠ gb505)); have NB505_504 := Aside0.mk ((by rw [hg]; exact Nat.ne_of_gt (blk_lt (B1 BK504)) : gb505 ≠ gb504)); replace BK504 := Aside0.mk (blk_below (B1 BK504) hb); clear hb hbox hg) | ((with_reducible refine gC 28 ?_); refine GL (some 11) Try.func28 #[.slice A0 l0.length c0] ?_; (with_reducible refine (spec_IsRegion.calls k _ _ l0 true _ ?side1 ?side2 A4.out).mono ?_); (case side1 => exact Kd.C_below HR0.out Hb); (case side2 => exact HC0.out); rintro e w10 ⟨rfl, hb⟩; refine ⟨_, rfl, ?_⟩; replace BK503 := Aside0.mk (blk_below (B1 BK503) hb); replace BK504 := Aside0.mk (blk_below (B1 BK504) hb); replace BK505 := Aside0.mk (blk_below (B1 BK505) hb); replace HB := Aside0.mk (below_step Hb hb); (try clear hb); (try clear hb2); (try clear hk); (try clear hi)))
    (try simp only [Act.put, List.setIfInBounds_toArray, List.set_cons_zero, List.set_cons_succ])
    go_cut [30] (fun v30 wc => ∃ (kq : Nat) (x30_5 : Bool), v30 = .bool x30_5 ∧ Aside0 (spec_AddWeightings.j0 kq l0 x30_5 a1_0 l1_1 a2_0 l2_1 = some (r1, r2, r3)) ∧ Aside0 (kq ≤ k) ∧ Aside0 (wc.heap[gb503]? = some (.cells #[.int .i64 a1_0, (.slice A1_1 l1_1.length c1_1)] 27 (0, 0))) ∧ Aside0 (wc.heap[gb504]? = some (.cells #[.int .i64 a2_0, (.slice A2_1 l2_1.length c2_1)] 27 (0, 0))) ∧ Aside0 (wc.heap[gb505]? = some (.cells #[.int .i64 0, (.slice none 0 0)] 27 (0, 0))) ∧ Aside0 (Below w.heap.size w wc))
    case first =>
      have H := HC6.out
      clear HC6
      obtain ⟨t507, A110, H⟩ := Option.bind_eq_some_iff.mp H
      have A11 := Aside0.mk A110
      clear A110
      by_cases c12 : t507 = true
      · subst c12
        rw [if_pos rfl] at H
        obtain ⟨t508, A130, H⟩ := Option.bind_eq_some_iff.mp H
        have A13 := Aside0.mk A130
        clear A130
        by_cases c14 : t508 = true
        · subst c14
          rw [if_pos rfl] at H
          have H' := Aside0.mk H
          clear H
          have hnb15 := NB503_504.out
          have hnc15 := NB504_503.out
          have hnb16 := NB503_505.out
          have hnc16 := NB505_503.out
          have hcz17_0 : w10.cell? ⟨gb503, 0, none⟩ = some (.int .i64 a1_0) := bc BK503
          have hcz17_1 : w10.cell? ⟨gb503, 1, none⟩ = some (.slice A1_1 l1_1.length c1_1) := bc BK503
          have hfz17_0 := blk_frozen BK503.out 0
          have hfz17_1 := blk_frozen BK503.out 1
          go_wp2_with (first | ((with_reducible refine gC 29 ?_); refine GL (some 16) Try.func29 #[.slice A0 l0.length c0, .agg #[.int .i64 a1_0, .slice A1_1 l1_1.length c1_1]] ?_; (with_reducible refine (spec_l19Is.calls k _ _ l0 a1_0 _ _ l1_1 true _ ?side1 ?side2 ?side3 ?side4 A11.out).mono ?_); (case side1 => exact Kd.C_below HR0.out Hb); (case side2 => exact HC0.out); (case side3 => exact Kd.C_below HR1_1.out Hb); (case side4 => exact HC1_1.out); rintro e w18 ⟨rfl, hb⟩; refine ⟨_, rfl, ?_⟩; replace BK503 := Aside0.mk (blk_below (B1 BK503) hb); replace BK504 := Aside0.mk (blk_below (B1 BK504) hb); replace BK505 := Aside0.mk (blk_below (B1 BK505) hb); replace HB := Aside0.mk (below_step Hb hb); (try clear hb); (try clear hb2); (try clear hk); (try clear hi); have hnb19 := NB504_505.out; have hnc19 := NB505_504.out; have hcz20_0 : w18.cell? ⟨gb504, 0, none⟩ = some (.int .i64 a2_0) := bc BK504; have hcz20_1 : w18.cell? ⟨gb504, 1, none⟩ = some (.slice A2_1 l2_1.length c2_1) := bc BK504; have hfz20_0 := blk_frozen BK504.out 0; have hfz20_1 := blk_frozen BK504.out 1) | (go_at_call 29; (with_reducible refine (spec_l19Is.calls k _ _ l0 a2_0 _ _ l2_1 true _ ?side1 ?side2 ?side3 ?side4 A13.out).mono ?_); (case side1 => exact Kd.C_below HR0.out Hb); (case side2 => exact HC0.out); (case side3 => exact Kd.C_below HR2_1.out Hb); (case side4 => exact HC2_1.out); rintro e w21 ⟨rfl, hb⟩; replace BK503 := Aside0.mk (blk_below (B1 BK503) hb); replace BK504 := Aside0.mk (blk_below (B1 BK504) hb); replace BK505 := Aside0.mk (blk_below (B1 BK505) hb); replace HB := Aside0.mk (below_step Hb hb); (try clear hb); (try clear hb2); (try clear hk); (try clear hi); have hcz22_0 : w21.cell? ⟨gb503, 0, none⟩ = some (.int .i64 a1_0) := bc BK503; have hcz22_1 : w21.cell? ⟨gb503, 1, none⟩ = some (.slice A1_1 l1_1.length c1_1) := bc BK503; have hfz22_0 := blk_frozen BK503.out 0; have hfz22_1 := blk_frozen BK503.out 1; have hcz23_0 : w21.cell? ⟨gb504, 0, none⟩ = some (.int .i64 a2_0) := bc BK504; have hcz23_1 : w21.cell? ⟨gb504, 1, none⟩ = some (.slice A2_1 l2_1.length c2_1) := bc BK504; have hfz23_0 := blk_frozen BK504.out 0; have hfz23_1 := blk_frozen BK504.out 1))
          go_meet
          case rel => exact ⟨_, ((a1_0 != a2_0)), Fs, H', ⟨by first | omega | exact Nat.le_refl _⟩, ⟨B1 BK503⟩, ⟨B1 BK504⟩, ⟨B1 BK505⟩, ⟨Hb⟩⟩
        · replace c14 := Bool.eq_false_iff.mpr c14
          subst c14
          rw [if_neg (show ¬ (false = true) by decide)] at H
          have H' := Aside0.mk H
          clear H
          have hnb24 := NB503_504.out
          have hnc24 := NB504_503.out
          have hnb25 := NB503_505.out
          have hnc25 := NB505_503.out
          have hcz26_0 : w10.cell? ⟨gb503, 0, none⟩ = some (.int .i64 a1_0) := bc BK503
          have hcz26_1 : w10.cell? ⟨gb503, 1, none⟩ = some (.slice A1_1 l1_1.length c1_1) := bc BK503
          have hfz26_0 := blk_frozen BK503.out 0
          have hfz26_1 := blk_frozen BK503.out 1
          go_wp2_with (first | ((with_reducible refine gC 29 ?_); refine GL (some 16) Try.func29 #[.slice A0 l0.length c0, .agg #[.int .i64 a1_0, .slice A1_1 l1_1.length c1_1]] ?_; (with_reducible refine (spec_l19Is.calls k _ _ l0 a1_0 _ _ l1_1 true _ ?side1 ?side2 ?side3 ?side4 A11.out).mono ?_); (case side1 => exact Kd.C_below HR0.out Hb); (case side2 => exact HC0.out); (case side3 => exact Kd.C_below HR1_1.out Hb); (case side4 => exact HC1_1.out); rintro e w27 ⟨rfl, hb⟩; refine ⟨_, rfl, ?_⟩; replace BK503 := Aside0.mk (blk_below (B1 BK503) hb); replace BK504 := Aside0.mk (blk_below (B1 BK504) hb); replace BK505 := Aside0.mk (blk_below (B1 BK505) hb); replace HB := Aside0.mk (below_step Hb hb); (try clear hb); (try clear hb2); (try clear hk); (try clear hi); have hnb28 := NB504_505.out; have hnc28 := NB505_504.out; have hcz29_0 : w27.cell? ⟨gb504, 0, none⟩ = some (.int .i64 a2_0) := bc BK504; have hcz29_1 : w27.cell? ⟨gb504, 1, none⟩ = some (.slice A2_1 l2_1.length c2_1) := bc BK504; have hfz29_0 := blk_frozen BK504.out 0; have hfz29_1 := blk_frozen BK504.out 1) | (go_at_call 29; (with_reducible refine (spec_l19Is.calls k _ _ l0 a2_0 _ _ l2_1 false _ ?side1 ?side2 ?side3 ?side4 A13.out).mono ?_); (case side1 => exact Kd.C_below HR0.out Hb); (case side2 => exact HC0.out); (case side3 => exact Kd.C_below HR2_1.out Hb); (case side4 => exact HC2_1.out); rintro e w30 ⟨rfl, hb⟩; replace BK503 := Aside0.mk (blk_below (B1 BK503) hb); replace BK504 := Aside0.mk (blk_below (B1 BK504) hb); replace BK505 := Aside0.mk (blk_below (B1 BK505) hb); replace HB := Aside0.mk (below_step Hb hb); (try clear hb); (try clear hb2); (try clear hk); (try clear hi)))
          go_meet
          case rel => exact ⟨_, (true), Fs, H', ⟨by first | omega | exact Nat.le_refl _⟩, ⟨B1 BK503⟩, ⟨B1 BK504⟩, ⟨B1 BK505⟩, ⟨Hb⟩⟩
      · replace c12 := Bool.eq_false_iff.mpr c12
        subst c12
        rw [if_neg (show ¬ (false = true) by decide)] at H
        have H' := Aside0.mk H
        clear H
        have hnb31 := NB503_504.out
        have hnc31 := NB504_503.out
        have hnb32 := NB503_505.out
        have hnc32 := NB505_503.out
        have hcz33_0 : w10.cell? ⟨gb503, 0, none⟩ = some (.int .i64 a1_0) := bc BK503
        have hcz33_1 : w10.cell? ⟨gb503, 1, none⟩ = some (.slice A1_1 l1_1.length c1_1) := bc BK503
        have hfz33_0 := blk_frozen BK503.out 0
        have hfz33_1 := blk_frozen BK503.out 1
        go_wp2_with (first | ((with_reducible refine gC 29 ?_); refine GL (some 16) Try.func29 #[.slice A0 l0.length c0, .agg #[.int .i64 a1_0, .slice A1_1 l1_1.length c1_1]] ?_; (with_reducible refine (spec_l19Is.calls k _ _ l0 a1_0 _ _ l1_1 false _ ?side1 ?side2 ?side3 ?side4 A11.out).mono ?_); (case side1 => exact Kd.C_below HR0.out Hb); (case side2 => exact HC0.out); (case side3 => exact Kd.C_below HR1_1.out Hb); (case side4 => exact HC1_1.out); rintro e w34 ⟨rfl, hb⟩; refine ⟨_, rfl, ?_⟩; replace BK503 := Aside0.mk (blk_below (B1 BK503) hb); replace BK504 := Aside0.mk (blk_below (B1 BK504) hb); replace BK505 := Aside0.mk (blk_below (B1 BK505) hb); replace HB := Aside0.mk (below_step Hb hb); (try clear hb); (try clear hb2); (try clear hk); (try clear hi)))
        go_meet
        case rel => exact ⟨_, (true), Fs, H', ⟨by first | omega | exact Nat.le_refl _⟩, ⟨B1 BK503⟩, ⟨B1 BK504⟩, ⟨B1 BK505⟩, ⟨Hb⟩⟩
    case rest =>
      clear HC6
      try clear c1
      try clear c2
      try clear p2
      try clear c3
      try clear c5
      try clear c8
      try clear c12
      try clear c14
      try clear c15
      try clear c16
      try clear c19
      try clear c24
      try clear c25
      try clear c28
      try clear c29
      try clear c31
      try clear c32
      try clear hcz17_0
      try clear hcz17_1
      try clear hcz20_0
      try clear hcz20_1
      try clear hcz22_0
      try clear hcz22_1
      try clear hcz23_0
      try clear hcz23_1
      try clear hcz26_0
      try clear hcz26_1
      try clear hcz29_0
      try clear hcz29_1
      try clear hcz33_0
      try clear hcz33_1
      try clear hfz17_0
      try clear hfz17_1
      try clear hfz20_0
      try clear hfz20_1
      try clear hfz22_0
      try clear hfz22_1
      try clear hfz23_0
      try clear hfz23_1
      try clear hfz26_0
      try clear hfz26_1
      try clear hfz29_0
      try clear hfz29_1
      try clear hfz33_0
      try clear hfz33_1
      obtain ⟨kq, x30_5, rfl, HA, HJ5, BK503, BK504, BK505, HB⟩ := hcut
      cases kq with
      | zero => exact absurd HA.out (by simp [spec_AddWeightings.j0])
      | succ kj5 =>
        have H := HA.out
        clear HA
        simp only [spec_AddWeightings.j0] at H
        by_cases c35 : x30_5 = true
        · subst c35
          rw [if_pos rfl] at H
          simp only [Option.some.injEq, Prod.mk.injEq] at H
          obtain ⟨rfl, rfl, rfl⟩ := H
          have hnb36 := NB505_503.out
          have hnc36 := NB503_505.out
          have hnb37 := NB505_504.out
          have hnc37 := NB504_505.out
          have hcz38_0 : wc.cell? ⟨gb505, 0, none⟩ = some (.int .i64 0) := bc BK505
          have hcz38_1 : wc.cell? ⟨gb505, 1, none⟩ = some (.slice none 0 0) := bc BK505
          have hfz38_0 := blk_frozen BK505.out 0
          have hfz38_1 := blk_frozen BK505.out 1
          go_wp2
          refine bodyPost_ret (results_ct rfl _ _ gb505 27 #[.int .i64 0, .slice none 0 0] (0, 0) _ rfl (by (with_reducible repeat (first | refine blk_drewN ?_ _ | refine blk_drew ?_ | refine blk_alloc ?_ _)); refine blk_put (cs := #[.int .i64 0, .slice none 0 0]) ?_ 1 _ rfl; (with_reducible repeat (first | refine blk_drewN ?_ _ | refine blk_drew ?_ | refine blk_alloc ?_ _)); refine blk_put (cs := #[.int .i64 0, .slice none 0 0]) ?_ 0 _ rfl; (with_reducible repeat (first | refine blk_drewN ?_ _ | refine blk_drew ?_ | refine blk_alloc ?_ _)); exact BK505.out) Try.underlying27 rfl (by kernel_rfl)) rfl ?_
          exact ⟨_, Fin, by first | exact Kd.R_nil _ _ _ _ _ | exact Kd.N_nil _ _ _ _ _ | exact Kd.V_nil _ _ _ _ _ | exact Kd.Q_nil _ _ _ _ _ | exact Kd.S_nil _ _ _ _ _, Hb⟩
        · replace c35 := Bool.eq_false_iff.mpr c35
          subst c35
          rw [if_neg (show ¬ (false = true) by decide)] at H
          obtain ⟨y509, hy509⟩ : ∃ y_ : List Int, y_ = (([] : List Int)) := ⟨_, rfl⟩
          replace H : (spec_AddWeightings.l0 kj5 l0 y509 0 a1_0 l1_1 a2_0 l2_1) = some (r1, r2, r3) := by first | (rw [hy509]; with_reducible exact H) | (have H2_ := (Option.bind_some _ _).symm.trans H; rw [hy509]; with_reducible exact H2_) | (have H2_ := (Option.bind_some _ _).symm.trans H; with_reducible exact H2_) | with_reducible exact H | (rw [hy509]; exact H) | exact H
          have Ny509 := Aside0.mk hy509
          clear hy509
          have H' := Aside0.mk H
          clear H
          go_wp2_with (first | ((with_reducible refine gD 32 ?_); refine Kd.R_lit (Kd.int .i64) _ 2 ?hg (N := 32) ?hd (xs := ([] : List Int)) (inner := []) (ok := fun _ => True) (okp := fun _ => True) ?hr ?hp (fun _ hk => hk) trivial (Below.refl _ _) (Nat.le_refl _) (by simp) ?_; (case hd => rfl); (case hg => rfl); (case hr => first | (go_simp; done) | (go_simp; rfl)); (case hp => exact (Reps.none _ _)); intro v510 w39 ho40 hb hg_ hnew_; clear hg_ hnew_; (first | rw [← Ny509.out] at ho40 | (simp only [Int.reduceToNat] at ho40; rw [← Ny509.out] at ho40)); have HO511 := Aside0.mk (Kd.R_lower ho40 (below_size Hb)); replace BK503 := Aside0.mk (blk_below (B1 BK503) hb); replace BK504 := Aside0.mk (blk_below (B1 BK504) hb); replace BK505 := Aside0.mk (blk_below (B1 BK505) hb); replace HB := Aside0.mk (below_step Hb hb); clear hb ho40))
          go_loopg [8, 9] kj5 (fun kq v8 v9 w' => ∃ (x8_2 : List Int) (x9_2 : Int), v9 = .int .i64 x9_2 ∧ Aside0 (spec_AddWeightings.l0 kq l0 x8_2 x9_2 a1_0 l1_1 a2_0 l2_1 = some (r1, r2, r3)) ∧ Aside0 (kq ≤ kj5) ∧ Aside0 (Kd.R (Kd.int .i64) 2 w' w.heap.size (fun _ => True) v8 x8_2) ∧ Aside0 (w'.heap[gb503]? = some (.cells #[.int .i64 a1_0, (.slice A1_1 l1_1.length c1_1)] 27 (0, 0))) ∧ Aside0 (w'.heap[gb504]? = some (.cells #[.int .i64 a2_0, (.slice A2_1 l2_1.length c2_1)] 27 (0, 0))) ∧ Aside0 (w'.heap[gb505]? = some (.cells #[.int .i64 0, (.slice none 0 0)] 27 (0, 0))) ∧ Aside0 (Below w.heap.size w w'))
          case atStart => exact ⟨(y509), (0), Fs, H', ⟨Nat.le_refl _⟩, ⟨R1 HO511⟩, ⟨B1 BK503⟩, ⟨B1 BK504⟩, ⟨B1 BK505⟩, ⟨Hb⟩⟩
          case round =>
            clear H'
            try clear c1
            try clear c2
            try clear p2
            try clear c3
            try clear c5
            try clear c8
            try clear c12
            try clear c14
            try clear c15
            try clear c16
            try clear c19
            try clear c24
            try clear c25
            try clear c28
            try clear c29
            try clear c31
            try clear c32
            try clear c35
            try clear c36
            try clear c37
            try clear hcz17_0
            try clear hcz17_1
            try clear hcz20_0
            try clear hcz20_1
            try clear hcz22_0
            try clear hcz22_1
            try clear hcz23_0
            try clear hcz23_1
            try clear hcz26_0
            try clear hcz26_1
            try clear hcz29_0
            try clear hcz29_1
            try clear hcz33_0
            try clear hcz33_1
            try clear hcz38_0
            try clear hcz38_1
            try clear hfz17_0
            try clear hfz17_1
            try clear hfz20_0
            try clear hfz20_1
            try clear hfz22_0
            try clear hfz22_1
            try clear hfz23_0
            try clear hfz23_1
            try clear hfz26_0
            try clear hfz26_1
            try clear hfz29_0
            try clear hfz29_1
            try clear hfz33_0
            try clear hfz33_1
            try clear hfz38_0
            try clear hfz38_1
            try clear p2
            obtain ⟨x8_2, x9_2, rfl, HA, HK2, HO_8, BK503, BK504, BK505, HB⟩ := hrel
            cases gk with
            | zero => exact absurd HA.out (by simp [spec_AddWeightings.l0])
            | succ k2 =>
              have H := HA.out
              clear HA
              simp only [spec_AddWeightings.l0] at H
              by_cases c41 : x9_2 < (l0.length : Int)
              · rw [if_pos c41] at H
                have c41b0 : decide (x9_2 < (l0.length : Int)) = true := decide_eq_true c41
                clear c41
                by_cases c42 : 0 ≤ x9_2
                · rw [if_pos c42] at H
                  have c42b0 : decide (0 ≤ x9_2) = true := decide_eq_true c42
                  clear c42
                  by_cases c43 : x9_2 < (l1_1.length : Int)
                  · rw [if_pos c43] at H
                    have c43b0 : decide (x9_2 < (l1_1.length : Int)) = true := decide_eq_true c43
                    clear c43
                    by_cases c44 : x9_2 < (l2_1.length : Int)
                    · rw [if_pos c44] at H
                      have c44b0 : decide (x9_2 < (l2_1.length : Int)) = true := decide_eq_true c44
                      clear c44
                      by_cases c45 : a2_0 = 0
                      · rw [if_pos c45] at H
                        exact absurd H (by simp)
                      · rw [if_neg c45] at H
                        have c45b0 : (a2_0 == 0) = false := beq_eq_false_iff_ne.mpr c45
                        have c45b1 : (a2_0 != 0) = true := bne_iff_ne.mpr c45
                        by_cases c46 : x8_2.length < 17592186044416
                        · rw [if_pos c46] at H
                          have LMc46 := Aside0.mk c46
                          clear c46
                          obtain ⟨y514, hy514⟩ : ∃ y_ : List Int, y_ = (x8_2 ++ [Int.tmod (wrap64 ((rd l1_1 x9_2) + (rd l2_1 x9_2))) a2_0]) := ⟨_, rfl⟩
                          replace H : (spec_AddWeightings.l0 k2 l0 y514 (wrap64 (x9_2 + 1)) a1_0 l1_1 a2_0 l2_1) = some (r1, r2, r3) := by first | (rw [hy514]; with_reducible exact H) | (have H2_ := (Option.bind_some _ _).symm.trans H; rw [hy514]; with_reducible exact H2_) | (have H2_ := (Option.bind_some _ _).symm.trans H; with_reducible exact H2_) | with_reducible exact H | (rw [hy514]; exact H) | exact H
                          have Ny514 := Aside0.mk hy514
                          clear hy514
                          have H' := Aside0.mk H
                          clear H
                          try go_wp2
                          replace HO_8 := Aside0.mk (Kd.R_drew HO_8.out)
                          replace BK503 := Aside0.mk (blk_drew BK503.out)
                          replace BK504 := Aside0.mk (blk_drew BK504.out)
                          replace BK505 := Aside0.mk (blk_drew BK505.out)
                          replace HB := Aside0.mk (below_drew1 HB.out)
                          have p512 : 0 ≤ (x9_2 : Int) := oD
                          have q512 : x9_2 < (l1_1.length : Int) := oD
                          obtain ⟨ad512, e512, hx512_0⟩ := Kd.at_int HR1_1.out x9_2 p512 q512
                          have hw512_0 := hx512_0
                          cases e512
                          replace hx512_0 := hxb hx512_0
                          replace p512 := eq_true p512
                          replace q512 := eq_true q512
                          have p513 : 0 ≤ (x9_2 : Int) := oD
                          have q513 : x9_2 < (l2_1.length : Int) := oD
                          obtain ⟨ad513, e513, hx513_0⟩ := Kd.at_int HR2_1.out x9_2 p513 q513
                          have hw513_0 := hx513_0
                          cases e513
                          replace hx513_0 := hxb hx513_0
                          replace p513 := eq_true p513
                          replace q513 := eq_true q513
                          refine start_ (n := 18) (S := fun w' => w'.cell? ⟨gb503, 0, none⟩ = some (.int .i64 a1_0) ∧ w'.cell? ⟨gb503, 1, none⟩ = some (.slice (some ad512) l1_1.length c1_1) ∧ w'.cell? ⟨gb504, 0, none⟩ = some (.int .i64 a2_0) ∧ w'.cell? ⟨gb504, 1, none⟩ = some (.slice (some ad513) l2_1.length c2_1) ∧ w'.cell? (ad512.add (x9_2).toNat) = some (.int .i64 (rd l1_1 x9_2)) ∧ w'.cell? (ad513.add (x9_2).toNat) = some (.int .i64 (rd l2_1 x9_2))) (ds := []) #[false, false, false, false, false, false, false, false, false, false, false, false, false, false, false, false, false, false] (by kernel_rfl) rfl rfl ⟨(blk_cell BK503.out 0).trans rfl, (blk_cell BK503.out 1).trans rfl, (blk_cell BK504.out 0).trans rfl, (blk_cell BK504.out 1).trans rfl, (hxb hw512_0), (hxb hw513_0)⟩ (fun hHeld => ?_); refine with_tabW spec_AddWeightings.tab9 spec_AddWeightings.bits9 (fun HT_ HW_ => ?_)
                          generalize wr.drew = w47 at HO_8 BK503 BK504 BK505 HB hx512_0 hx513_0 hHeld ⊢
                          refine PU 0 39 ?_
                          refine PU 1 40 ?_
                          refine PU 3 42 ?_
                          refine PU 6 45 ?_
                          refine PU 8 47 ?_
                          refine PU 12 51 ?_
                          refine TK 2 41 hHeld ?_
                          refine PU 4 43 ?_
                          refine TK 5 44 hHeld ?_
                          refine TK 7 46 hHeld ?_
                          refine PU 9 48 ?_
                          refine TK 10 49 hHeld ?_
                          refine PU 11 50 ?_
                          refine TK 13 52 hHeld ?_
                          refine PU 14 53 ?_
                          refine ON 15 54 (fun K hK => ?_)
                          refine value_ (w1 := ?_) (v := ?_) (by rfl) rfl ?_ ?_
                          rotate_left 2
                          · go_simp
                            constructor
                            · rfl
                            · rfl
                          refine hK.out _ _ ⟨(blk_cell (blk_alloc BK503.out _) 0).trans rfl, (blk_cell (blk_alloc BK503.out _) 1).trans rfl, (blk_cell (blk_alloc BK504.out _) 0).trans rfl, (blk_cell (blk_alloc BK504.out _) 1).trans rfl, (World.cell?_alloc_lt _ _ _ (World.block_lt_of_cell? _ _ ((hxb hw512_0)))).trans ((hxb hw512_0)), (World.cell?_alloc_lt _ _ _ (World.block_lt_of_cell? _ _ ((hxb hw513_0)))).trans ((hxb hw513_0))⟩ (fun hHeld => ?_)
                          clear hK K
                          refine NM 54 ?_
                          refine ON 16 55 (fun K hK => ?_)
                          refine Kd.R_append_step (Kd.int .i64) (w0 := w) w.heap.size (by rfl) (.tmp 39) (.tmp 54) 25 2 (.int .i64 0) 8 rfl Try.underlying25 info2 rfl (by decide) (by omega) u8 x8_2 (Int.tmod (wrap64 ((rd l1_1 x9_2) + (rd l2_1 x9_2))) a2_0) [.int .i64 (Int.tmod (wrap64 ((rd l1_1 x9_2) + (rd l2_1 x9_2))) a2_0)] (fun _ => True) (fun _ => False) rfl rfl ?aP (fun _ hk => hk.elim) ?aF ?aO ?aB ?aS ?aL ?_
                          (case aP => exact rfl)
                          (case aB => exact Hb)
                          (case aF => exact (fun _ _ => trivial))
                          (case aO => exact (R1 HO_8))
                          (case aS => exact (below_size Hb))
                          (case aL => have := LMc46.out; omega)
                          intro v515 w48 ho hb hg hat
                          rw [← Ny514.out] at ho
                          replace BK503 := Aside0.mk (blk_grown (B1 BK503) hg (Kd.R_ne HO_8.out BK503.out (by decide)))
                          replace BK504 := Aside0.mk (blk_grown (B1 BK504) hg (Kd.R_ne HO_8.out BK504.out (by decide)))
                          replace BK505 := Aside0.mk (blk_grown (B1 BK505) hg (Kd.R_ne HO_8.out BK505.out (by decide)))
                          replace HB := Aside0.mk (hb)
                          have HO516 := Aside0.mk (ho)
                          clear HO_8
                          clear ho hb hg hat
                          refine hK.out _ _ ⟨(blk_cell BK503.out 0).trans rfl, (blk_cell BK503.out 1).trans rfl, (blk_cell BK504.out 0).trans rfl, (blk_cell BK504.out 1).trans rfl, (hxb hw512_0), (hxb hw513_0)⟩ (fun hHeld => ?_)
                          clear hK K
                          refine NM 55 ?_
                          refine PU 17 8 ?_
                          refine done_ (done_of HT_.out (by kernel_rfl)) ?_
                          try go_wp2
                          go_roundg k2
                          case measure => have := HJ5.out; have := HK2.out; omega
                          case rel => exact ⟨(y514), (wrap64 (x9_2 + 1)), Fs, H', ⟨by have := HJ5.out; have := HK2.out; omega⟩, ⟨R1 HO516⟩, ⟨B1 BK503⟩, ⟨B1 BK504⟩, ⟨B1 BK505⟩, ⟨Hb⟩⟩
                        · rw [if_neg c46] at H
                          exact absurd H (by simp)
                    · rw [if_neg c44] at H
                      exact absurd H (by simp)
                  · rw [if_neg c43] at H
                    exact absurd H (by simp)
                · rw [if_neg c42] at H
                  exact absurd H (by simp)
              · rw [if_neg c41] at H
                have c41b0 : decide (x9_2 < (l0.length : Int)) = false := decide_eq_false c41
                clear c41
                simp only [Option.some.injEq, Prod.mk.injEq] at H
                obtain ⟨rfl, rfl, rfl⟩ := H
                have hnb49 := NB504_503.out
                have hnc49 := NB503_504.out
                have hnb50 := NB504_505.out
                have hnc50 := NB505_504.out
                have hcz51_0 : wr.cell? ⟨gb504, 0, none⟩ = some (.int .i64 a2_0) := bc BK504
                have hcz51_1 : wr.cell? ⟨gb504, 1, none⟩ = some (.slice A2_1 l2_1.length c2_1) := bc BK504
                have hfz51_0 := blk_frozen BK504.out 0
                have hfz51_1 := blk_frozen BK504.out 1
                obtain ⟨Ao52, co52, eo52⟩ := Kd.R_slice HO_8.out
                subst eo52
                have hnb53 := NB505_503.out
                have hnc53 := NB503_505.out
                have hcz54_0 : wr.cell? ⟨gb505, 0, none⟩ = some (.int .i64 0) := bc BK505
                have hcz54_1 : wr.cell? ⟨gb505, 1, none⟩ = some (.slice none 0 0) := bc BK505
                have hfz54_0 := blk_frozen BK505.out 0
                have hfz54_1 := blk_frozen BK505.out 1
                go_wp2
                refine bodyPost_ret (results_ct rfl _ _ gb505 27 #[.int .i64 a2_0, .slice Ao52 x8_2.length co52] (0, 0) _ rfl (by (with_reducible repeat (first | refine blk_drewN ?_ _ | refine blk_drew ?_ | refine blk_alloc ?_ _)); refine blk_put (cs := #[.int .i64 a2_0, .slice none 0 0]) ?_ 1 _ rfl; (with_reducible repeat (first | refine blk_drewN ?_ _ | refine blk_drew ?_ | refine blk_alloc ?_ _)); refine blk_put (cs := #[.int .i64 0, .slice none 0 0]) ?_ 0 _ rfl; (with_reducible repeat (first | refine blk_drewN ?_ _ | refine blk_drew ?_ | refine blk_alloc ?_ _)); exact BK505.out) Try.underlying27 rfl (by kernel_rfl)) rfl ?_
                exact ⟨_, Fin, by (with_reducible repeat (first | apply Kd.R_alloc | apply Kd.R_drewN | apply Kd.R_drew)); exact Kd.R_mono (Kd.R_far (p := ⟨gb505, 1, none⟩) (Kd.R_far (p := ⟨gb505, 0, none⟩) (Kd.R_types HO_8.out BK505.out (by decide)) (fun _ hk => hk.2) (.int .i64 a2_0)) (fun _ hk => hk.2) (.slice Ao52 x8_2.length co52)) (fun _ hk => trivial), Hb⟩
  · replace c5 := Bool.eq_false_iff.mpr c5
    subst c5
    rw [if_neg (show ¬ (false = true) by decide)] at H
    simp only [Option.some.injEq, Prod.mk.injEq] at H
    obtain ⟨rfl, rfl, rfl⟩ := H
    go_enter Try.func8, Try.ntmps8
    go_wp2_with (first | ((with_reducible refine gD 4 ?_); refine BX #[.int .i64 a1_0, .slice A1_1 l1_1.length c1_1] 27 ?_; intro gb503 hg w55 hbox hb; have BK503 := Aside0.mk (hbox); have GW503 := Aside0.mk ((Gle hg Hb : w.heap.size ≤ gb503)); have GE503 := Aside0.mk ((Gle hg Hb : w.heap.size ≤ gb503)); replace HB := Aside0.mk (below_step Hb hb); clear hb hbox hg) | ((with_reducible refine gD 5 ?_); refine BX #[.int .i64 a2_0, .slice A2_1 l2_1.length c2_1] 27 ?_; intro gb504 hg w56 hbox hb; have BK504 := Aside0.mk (hbox); have GW504 := Aside0.mk ((Gle hg Hb : w.heap.size ≤ gb504)); have GE504 := Aside0.mk ((Gle hg Hb : w.heap.size ≤ gb504)); replace HB := Aside0.mk (below_step Hb hb); have NB503_504 := Aside0.mk ((by rw [hg]; exact Nat.ne_of_lt (blk_lt (B1 BK503)) : gb503 ≠ gb504)); have NB504_503 := Aside0.mk ((by rw [hg]; exact Nat.ne_of_gt (blk_lt (B1 BK503)) : gb504 ≠ gb503)); replace BK503 := Aside0.mk (blk_below (B1 BK503) hb); clear hb hbox hg) | ((with_reducible refine gD 6 ?_); refine BX #[.int .i64 0, .slice none 0 0] 27 ?_; intro gb505 hg w57 hbox hb; have BK505 := Aside0.mk (hbox); have GW505 := Aside0.mk ((Gle hg Hb : w.heap.size ≤ gb505)); have GE505 := Aside0.mk ((Gle hg Hb : w.heap.size ≤ gb505)); replace HB := Aside0.mk (below_step Hb hb); have NB503_505 := Aside0.mk ((by rw [hg]; exact Nat.ne_of_lt (blk_lt (B1 BK503)) : gb503 ≠ gb505)); have NB505_503 := Aside0.mk ((by rw [hg]; exact Nat.ne_of_gt (blk_lt (B1 BK503)) : gb505 ≠ gb503)); replace BK503 := Aside0.mk (blk_below (B1 BK503) hb); have NB504_505 := Aside0.mk ((by rw [hg]; exact Nat.ne_of_lt (blk_lt (B1 BK504)) : gb504 ≠ gb505)); have NB505_504 := Aside0.mk ((by rw [hg]; exact Nat.ne_of_gt (blk_lt (B1 BK504)) : gb505 ≠ gb504)); replace BK504 := Aside0.mk (blk_below (B1 BK504) hb); clear hb hbox hg) | ((with_reducible refine gC 28 ?_); refine GL (some 11) Try.func28 #[.slice A0 l0.length c0] ?_; (with_reducible refine (spec_IsRegion.calls k _ _ l0 false _ ?side1 ?side2 A4.out).mono ?_); (case side1 => exact Kd.C_below HR0.out Hb); (case side2 => exact HC0.out); rintro e w58 ⟨rfl, hb⟩; refine ⟨_, rfl, ?_⟩; replace BK503 := Aside0.mk (blk_below (B1 BK503) hb); replace BK504 := Aside0.mk (blk_below (B1 BK504) hb); replace BK505 := Aside0.mk (blk_below (B1 BK505) hb); replace HB := Aside0.mk (below_step Hb hb); (try clear hb); (try clear hb2); (try clear hk); (try clear hi); have hnb59 := NB505_503.out; have hnc59 := NB503_505.out; have hnb60 := NB505_504.out; have hnc60 := NB504_505.out; have hcz61_0 : w58.cell? ⟨gb505, 0, none⟩ = some (.int .i64 0) := bc BK505; have hcz61_1 : w58.cell? ⟨gb505, 1, none⟩ = some (.slice none 0 0) := bc BK505; have hfz61_0 := blk_frozen BK505.out 0; have hfz61_1 := blk_frozen BK505.out 1))
    refine bodyPost_ret (results_ct rfl _ _ gb505 27 #[.int .i64 0, .slice none 0 0] (0, 0) _ rfl (by (with_reducible repeat (first | refine blk_drewN ?_ _ | refine blk_drew ?_ | refine blk_alloc ?_ _)); refine blk_put (cs := #[.int .i64 0, .slice none 0 0]) ?_ 1 _ rfl; (with_reducible repeat (first | refine blk_drewN ?_ _ | refine blk_drew ?_ | refine blk_alloc ?_ _)); refine blk_put (cs := #[.int .i64 0, .slice none 0 0]) ?_ 0 _ rfl; (with_reducible repeat (first | refine blk_drewN ?_ _ | refine blk_drew ?_ | refine blk_alloc ?_ _)); exact BK505.out) Try.underlying27 rfl (by kernel_rfl)) rfl ?_
    exact ⟨_, Fin, by first | exact Kd.R_nil _ _ _ _ _ | exact Kd.N_nil _ _ _ _ _ | exact Kd.V_nil _ _ _ _ _ | exact Kd.Q_nil _ _ _ _ _ | exact Kd.S_nil _ _ _ _ _, Hb⟩

/-! ### spec_l10DrawSet: function 30 -/
mutual
def spec_l10DrawSet.l0 : Nat → List (S68) → List Int → Int → List Int → Int → Int → Option (List Int × Int × Int)
  | 0, _, _, _, _, _, _ => none
  | k + 1, x1, x5, x6, x1000, x1001, x1002 => if x6 < (x1.length : Int) then ((spec_l01Next.f x1000 x1001 x1002 3).bind fun bt520 => (if bt520.1 = 0 then (if x5.length < 17592186044416 then (spec_l10DrawSet.l0 k x1 (x5 ++ [x6]) (wrap64 (x6 + 1)) x1000 bt520.2.1 bt520.2.2) else (none)) else (spec_l10DrawSet.l0 k x1 x5 (wrap64 (x6 + 1)) x1000 bt520.2.1 bt520.2.2))) else ((spec_l01Next.f x1000 x1001 x1002 24).bind fun bt526 => (if bt526.1 = 0 then (if x5.length < 17592186044416 then (some ((x5 ++ [(x1.length : Int)]), bt526.2.1, bt526.2.2)) else (none)) else (if bt526.1 = 1 then (if x5.length < 17592186044416 then (some ((x5 ++ [0]), bt526.2.1, bt526.2.2)) else (none)) else (if bt526.1 = 2 then (spec_l10DrawSet.l1 k x1 (([] : List Int)) 0 x1000 bt526.2.1 bt526.2.2) else (some (x5, bt526.2.1, bt526.2.2))))))
def spec_l10DrawSet.l1 : Nat → List (S68) → List Int → Int → List Int → Int → Int → Option (List Int × Int × Int)
  | 0, _, _, _, _, _, _ => none
  | k + 1, x1, x5, x7, x1000, x1001, x1002 => if x7 < (x1.length : Int) then (if x5.length < 17592186044416 then (spec_l10DrawSet.l1 k x1 (x5 ++ [x7]) (wrap64 (x7 + 1)) x1000 x1001 x1002) else (none)) else (some (x5, x1001, x1002))
end
def spec_l10DrawSet.f (k : Nat) (s0_0 : List Int) (s0_1 : Int) (s0_2 : Int) (l1 : List (S68)) : Option (List Int × Int × Int) := spec_l10DrawSet.l0 k l1 (([] : List Int)) 0 s0_0 s0_1 s0_2
theorem spec_l10DrawSet.mono_l : ∀ k, (∀ y0 y1 y2 y3 y4 y5, LeO (spec_l10DrawSet.l0 k y0 y1 y2 y3 y4 y5) (spec_l10DrawSet.l0 (k + 1) y0 y1 y2 y3 y4 y5)) ∧ (∀ y0 y1 y2 y3 y4 y5, LeO (spec_l10DrawSet.l1 k y0 y1 y2 y3 y4 y5) (spec_l10DrawSet.l1 (k + 1) y0 y1 y2 y3 y4 y5))
  | 0 => ⟨fun _ _ _ _ _ _ r h => by simp [spec_l10DrawSet.l0] at h, fun _ _ _ _ _ _ r h => by simp [spec_l10DrawSet.l1] at h⟩
  | k + 1 => by
    obtain ⟨ih0, ih1⟩ := spec_l10DrawSet.mono_l k
    refine ⟨?_, ?_⟩
    · intro y0 y1 y2 y3 y4 y5
      unfold spec_l10DrawSet.l0
      repeat' first
      | (with_reducible exact ih0 _ _ _ _ _ _)
      | (with_reducible exact ih1 _ _ _ _ _ _)
      | (with_reducible exact LeO.refl _)
      | (with_reducible exact LeO.none _)
      | (with_reducible refine LeO.ite ?_ ?_)
      | (with_reducible refine LeO.bind ?_ (fun _ => ?_))
      | exact ih0 _ _ _ _ _ _
      | exact ih1 _ _ _ _ _ _
      | exact LeO.none _
      | refine LeO.ite ?_ ?_
      | refine LeO.bind ?_ (fun _ => ?_)
    · intro y0 y1 y2 y3 y4 y5
      unfold spec_l10DrawSet.l1
      repeat' first
      | (with_reducible exact ih0 _ _ _ _ _ _)
      | (with_reducible exact ih1 _ _ _ _ _ _)
      | (with_reducible exact LeO.refl _)
      | (with_reducible exact LeO.none _)
      | (with_reducible refine LeO.ite ?_ ?_)
      | (with_reducible refine LeO.bind ?_ (fun _ => ?_))
      | exact ih0 _ _ _ _ _ _
      | exact ih1 _ _ _ _ _ _
      | exact LeO.none _
      | refine LeO.ite ?_ ?_
      | refine LeO.bind ?_ (fun _ => ?_)
theorem spec_l10DrawSet.mono : ∀ a0 a1 a2 a3 k, LeO (spec_l10DrawSet.f k a0 a1 a2 a3) (spec_l10DrawSet.f (k + 1) a0 a1 a2 a3) := by
  intro a0 a1 a2 a3 k
  obtain ⟨ih0, ih1⟩ := spec_l10DrawSet.mono_l k
  unfold spec_l10DrawSet.f
  repeat' first
      | (with_reducible exact ih0 _ _ _ _ _ _)
      | (with_reducible exact ih1 _ _ _ _ _ _)
      | (with_reducible exact LeO.refl _)
      | (with_reducible exact LeO.none _)
      | (with_reducible refine LeO.ite ?_ ?_)
      | (with_reducible refine LeO.bind ?_ (fun _ => ?_))
      | exact ih0 _ _ _ _ _ _
      | exact ih1 _ _ _ _ _ _
      | exact LeO.none _
      | refine LeO.ite ?_ ?_
      | refine LeO.bind ?_ (fun _ => ?_)
set_option maxHeartbeats 8000000 in
set_option maxRecDepth 100000 in
theorem spec_l10DrawSet.calls (k : Nat) (g : Nat) (s0_0 : List Int) (s0_1 : Int) (s0_2 : Int) (A1 : Option Addr) (c1 : Nat) (l1 : List (S68)) (r1 : List Int) (r2 : Int) (r3 : Int) (w0 w : World) (hI : IsS75 w0 w g s0_0 s0_1 s0_2) (hB : Below w0.heap.size w0 w) (hr1 : ∀ W_, KeepBut w W_ g none → Kd.C k68 W_ A1 l1.length l1) (hc1 : l1.length ≤ c1) (h : spec_l10DrawSet.f k s0_0 s0_1 s0_2 l1 = some (r1, r2, r3)) :
    Calls Try.prog 30 #[.pointer (some ⟨g, 0, none⟩), .slice A1 l1.length c1] w fun e w' => ∃ v0_ : Value, e = .returned (v0_) ∧ Kd.R (Kd.int .i64) 2 w' w.heap.size (fun _ => True) v0_ r1 ∧ IsS75 w0 w' g s0_0 r2 r3 ∧ Below w0.heap.size w0 w' ∧ KeepBut w w' g none := by
  have HR1 := Aside0.mk hr1
  have HC1 := Aside0.mk hc1
  clear hr1 hc1
  have HI0 := Aside0.mk hI
  have HK := Aside0.mk (KeepBut.refl w g none)
  have HL := Aside0.mk hB.size
  clear hI
  have HW0 := Aside0.mk hB.size
  have HB := Aside0.mk hB
  clear hB
  have H : (spec_l10DrawSet.l0 k l1 (([] : List Int)) 0 s0_0 s0_1 s0_2) = some (r1, r2, r3) := h
  clear h
  obtain ⟨y517, hy517⟩ : ∃ y_ : List Int, y_ = (([] : List Int)) := ⟨_, rfl⟩
  replace H : (spec_l10DrawSet.l0 k l1 y517 0 s0_0 s0_1 s0_2) = some (r1, r2, r3) := by first | (rw [hy517]; with_reducible exact H) | (have H2_ := (Option.bind_some _ _).symm.trans H; rw [hy517]; with_reducible exact H2_) | (have H2_ := (Option.bind_some _ _).symm.trans H; with_reducible exact H2_) | with_reducible exact H | (rw [hy517]; exact H) | exact H
  have Ny517 := Aside0.mk hy517
  clear hy517
  have H' := Aside0.mk H
  clear H
  go_enter Try.func30, Try.ntmps30
  go_wp2_with (first | ((with_reducible refine gD 8 ?_); refine Kd.R_lit (Kd.int .i64) _ 2 ?hg (N := 8) ?hd (xs := ([] : List Int)) (inner := []) (ok := fun _ => True) (okp := fun _ => True) ?hr ?hp (fun _ hk => hk) trivial (Below.refl _ _) (Nat.le_refl _) (by simp) ?_; (case hd => rfl); (case hg => rfl); (case hr => first | (go_simp; done) | (go_simp; rfl)); (case hp => exact (Reps.none _ _)); intro v518 w3 ho4 hb hg_ hnew_; clear hg_ hnew_; (first | rw [← Ny517.out] at ho4 | (simp only [Int.reduceToNat] at ho4; rw [← Ny517.out] at ho4)); have HO519 := Aside0.mk (Kd.R_lower ho4 (keep_size (w := w) (g := g) (row := none) Hk)); replace HK := Aside0.mk (KeepBut.trans Hk (KeepBut.of_below hb g none) (.inl rfl)); replace HB := Aside0.mk (below_step (by repeat (first | (with_reducible first | exact HB.out | apply below_alloc | apply pw_below_drewN | apply below_drew1 | refine below_set ?_ (IsS75.ge HI0.out)) | exact HB.out)) hb); replace HI0 := Aside0.mk (IsS75.below (by repeat (first | (with_reducible first | exact HI0.out | apply IsS75.alloc | apply IsS75.drewN | apply IsS75.drew | apply IsS75.set_1 | apply IsS75.set_2) | exact HI0.out)) hb); clear hb ho4))
  go_loopg [5, 6] k (fun kq v5 v6 w' => ∃ (x5_1 : List Int) (x6_1 : Int) (x1001_1 : Int) (x1002_1 : Int), v6 = .int .i64 x6_1 ∧ Aside0 (spec_l10DrawSet.l0 kq l1 x5_1 x6_1 s0_0 x1001_1 x1002_1 = some (r1, r2, r3)) ∧ Aside0 (kq ≤ k) ∧ Aside0 (Kd.R (Kd.int .i64) 2 w' w.heap.size (fun _ => True) v5 x5_1) ∧ Aside0 (IsS75 w0 w' g s0_0 x1001_1 x1002_1) ∧ Aside0 (KeepBut w w' g none) ∧ Aside0 (Below w0.heap.size w0 w'))
  case atStart => exact ⟨(y517), (0), (s0_1), (s0_2), Fs, H', ⟨Nat.le_refl _⟩, ⟨R1 HO519⟩, ⟨by repeat (first | (with_reducible first | exact HI0.out | apply IsS75.alloc | apply IsS75.drewN | apply IsS75.drew | apply IsS75.set_1 | apply IsS75.set_2) | exact HI0.out)⟩, ⟨by repeat (first | (with_reducible first | exact HK.out | apply KeepBut.set_ | apply keep_drewN | apply keep_drew | apply keep_alloc) | exact HK.out)⟩, ⟨by repeat (first | (with_reducible first | exact HB.out | apply below_alloc | apply pw_below_drewN | apply below_drew1 | refine below_set ?_ (IsS75.ge HI0.out)) | exact HB.out)⟩⟩
  case round =>
    clear H'
    try clear c1
    try clear p2
    try clear c3
    obtain ⟨x5_1, x6_1, x1001_1, x1002_1, rfl, HA, HK1, HO_5, HI0, HK, HB⟩ := hrel
    cases gk with
    | zero => exact absurd HA.out (by simp [spec_l10DrawSet.l0])
    | succ k1 =>
      have H := HA.out
      clear HA
      simp only [spec_l10DrawSet.l0] at H
      by_cases c5 : x6_1 < (l1.length : Int)
      · rw [if_pos c5] at H
        have c5b0 : decide (x6_1 < (l1.length : Int)) = true := decide_eq_true c5
        clear c5
        obtain ⟨⟨t520, t521, t522⟩, A60, H⟩ := Option.bind_eq_some_iff.mp H
        dsimp only at H
        have A6 := Aside0.mk A60
        clear A60
        by_cases c7 : t520 = 0
        · rw [if_pos c7] at H
          have c7b0 : (t520 == 0) = true := beq_iff_eq.mpr c7
          have c7b1 : (t520 != 0) = false := bne_eq_false_iff_eq.mpr c7
          clear c7
          by_cases c8 : x5_1.length < 17592186044416
          · rw [if_pos c8] at H
            have LMc8 := Aside0.mk c8
            clear c8
            obtain ⟨y523, hy523⟩ : ∃ y_ : List Int, y_ = (x5_1 ++ [x6_1]) := ⟨_, rfl⟩
            replace H : (spec_l10DrawSet.l0 k1 l1 y523 (wrap64 (x6_1 + 1)) s0_0 t521 t522) = some (r1, r2, r3) := by first | (rw [hy523]; with_reducible exact H) | (have H2_ := (Option.bind_some _ _).symm.trans H; rw [hy523]; with_reducible exact H2_) | (have H2_ := (Option.bind_some _ _).symm.trans H; with_reducible exact H2_) | with_reducible exact H | (rw [hy523]; exact H) | exact H
            have Ny523 := Aside0.mk hy523
            clear hy523
            have H' := Aside0.mk H
            clear H
            go_wp2_with (first | ((with_reducible refine gC 24 ?_); refine GL (some 16) Try.func24 #[.pointer (some ⟨g, 0, none⟩), .int .i64 3] ?_; (with_reducible refine (spec_l01Next.calls g s0_0 x1001_1 x1002_1 3 t520 t521 t522 w0 _ ?side1 ?side2 A6.out).mono ?_); (case side1 => repeat (first | (with_reducible first | exact HI0.out | apply IsS75.alloc | apply IsS75.drewN | apply IsS75.drew | apply IsS75.set_1 | apply IsS75.set_2) | exact HI0.out)); (case side2 => repeat (first | (with_reducible first | exact HB.out | apply below_alloc | apply pw_below_drewN | apply below_drew1 | refine below_set ?_ (IsS75.ge HI0.out)) | exact HB.out)); rintro e w9 ⟨rfl, hi, hb, hk⟩; refine ⟨_, rfl, ?_⟩; replace HO_5 := Aside0.mk (Kd.R_mono (Kd.R_keep (IsS75.apart (show IsS75 w0 _ g s0_0 x1001_1 x1002_1 from by repeat (first | (with_reducible first | exact HI0.out | apply IsS75.alloc | apply IsS75.drewN | apply IsS75.drew | apply IsS75.set_1 | apply IsS75.set_2) | exact HI0.out)) (R1 HO_5) (by decide)) hk (fun _ h => h.2)) (fun _ h => h.1)); replace HK := Aside0.mk (KeepBut.trans Hk hk (.inl rfl)); replace HB := Aside0.mk (hb); replace HI0 := Aside0.mk (hi); (try clear hb); (try clear hb2); (try clear hk); (try clear hi)) | ((with_reducible refine gate_builtin (b := .append) (xs := #[.tmp 18, .tmp 20]) rfl ?_); at_builtin; refine Kd.R_append (Kd.int .i64) w.heap.size rfl (.tmp 18) (.tmp 20) 25 2 (.int .i64 0) 8 rfl Try.underlying25 info2 rfl (by decide) (by omega) u5 x5_1 x6_1 [.int .i64 x6_1] (fun _ => True) (fun _ => False) rfl rfl ?aP (fun _ hk => hk.elim) ?aF ?aO (Below.refl _ _) ?aS ?aL ?_; (case aP => exact rfl); (case aF => exact (fun _ _ => trivial)); (case aO => exact (R1 HO_5)); (case aS => exact (keep_size (w := w) (g := g) (row := none) Hk)); (case aL => have := LMc8.out; omega); intro v524 w10 ho hb hg hat; rw [← Ny523.out] at ho; replace HB := Aside0.mk (below_weaken (by repeat (first | (with_reducible first | exact HB.out | apply below_alloc | apply pw_below_drewN | apply below_drew1 | refine below_set ?_ (IsS75.ge HI0.out)) | exact HB.out)) HL.out hb); replace HI0 := Aside0.mk (IsS75.grown (by repeat (first | (with_reducible first | exact HI0.out | apply IsS75.alloc | apply IsS75.drewN | apply IsS75.drew | apply IsS75.set_1 | apply IsS75.set_2) | exact HI0.out)) hg (IsS75.own_ne HI0.out HO_5.out (by decide))); replace HK := Aside0.mk (KeepBut.trans Hk (KeepBut.of_grown hg g) (Kd.R_base2 HO_5.out)); have HO525 := Aside0.mk (ho); clear HO_5; clear ho hb hg hat))
            go_roundg k1
            case measure => have := HK1.out; omega
            case rel => exact ⟨(y523), (wrap64 (x6_1 + 1)), (t521), (t522), Fs, H', ⟨by have := HK1.out; omega⟩, ⟨R1 HO525⟩, ⟨by repeat (first | (with_reducible first | exact HI0.out | apply IsS75.alloc | apply IsS75.drewN | apply IsS75.drew | apply IsS75.set_1 | apply IsS75.set_2) | exact HI0.out)⟩, ⟨by repeat (first | (with_reducible first | exact HK.out | apply KeepBut.set_ | apply keep_drewN | apply keep_drew | apply keep_alloc) | exact HK.out)⟩, ⟨by repeat (first | (with_reducible first | exact HB.out | apply below_alloc | apply pw_below_drewN | apply below_drew1 | refine below_set ?_ (IsS75.ge HI0.out)) | exact HB.out)⟩⟩
          · rw [if_neg c8] at H
            exact absurd H (by simp)
        · rw [if_neg c7] at H
          have c7b0 : (t520 == 0) = false := beq_eq_false_iff_ne.mpr c7
          have c7b1 : (t520 != 0) = true := bne_iff_ne.mpr c7
          have H' := Aside0.mk H
          clear H
          go_wp2_with (first | ((with_reducible refine gC 24 ?_); refine GL (some 16) Try.func24 #[.pointer (some ⟨g, 0, none⟩), .int .i64 3] ?_; (with_reducible refine (spec_l01Next.calls g s0_0 x1001_1 x1002_1 3 t520 t521 t522 w0 _ ?side1 ?side2 A6.out).mono ?_); (case side1 => repeat (first | (with_reducible first | exact HI0.out | apply IsS75.alloc | apply IsS75.drewN | apply IsS75.drew | apply IsS75.set_1 | apply IsS75.set_2) | exact HI0.out)); (case side2 => repeat (first | (with_reducible first | exact HB.out | apply below_alloc | apply pw_below_drewN | apply below_drew1 | refine below_set ?_ (IsS75.ge HI0.out)) | exact HB.out)); rintro e w11 ⟨rfl, hi, hb, hk⟩; refine ⟨_, rfl, ?_⟩; replace HO_5 := Aside0.mk (Kd.R_mono (Kd.R_keep (IsS75.apart (show IsS75 w0 _ g s0_0 x1001_1 x1002_1 from by repeat (first | (with_reducible first | exact HI0.out | apply IsS75.alloc | apply IsS75.drewN | apply IsS75.drew | apply IsS75.set_1 | apply IsS75.set_2) | exact HI0.out)) (R1 HO_5) (by decide)) hk (fun _ h => h.2)) (fun _ h => h.1)); replace HK := Aside0.mk (KeepBut.trans Hk hk (.inl rfl)); replace HB := Aside0.mk (hb); replace HI0 := Aside0.mk (hi); (try clear hb); (try clear hb2); (try clear hk); (try clear hi)))
          go_roundg k1
          case measure => have := HK1.out; omega
          case rel => exact ⟨(x5_1), (wrap64 (x6_1 + 1)), (t521), (t522), Fs, H', ⟨by have := HK1.out; omega⟩, ⟨R1 HO_5⟩, ⟨by repeat (first | (with_reducible first | exact HI0.out | apply IsS75.alloc | apply IsS75.drewN | apply IsS75.drew | apply IsS75.set_1 | apply IsS75.set_2) | exact HI0.out)⟩, ⟨by repeat (first | (with_reducible first | exact HK.out | apply KeepBut.set_ | apply keep_drewN | apply keep_drew | apply keep_alloc) | exact HK.out)⟩, ⟨by repeat (first | (with_reducible first | exact HB.out | apply below_alloc | apply pw_below_drewN | apply below_drew1 | refine below_set ?_ (IsS75.ge HI0.out)) | exact HB.out)⟩⟩
      · rw [if_neg c5] at H
        have c5b0 : decide (x6_1 < (l1.length : Int)) = false := decide_eq_false c5
        clear c5
        obtain ⟨⟨t526, t527, t528⟩, A120, H⟩ := Option.bind_eq_some_iff.mp H
        dsimp only at H
        have A12 := Aside0.mk A120
        clear A120
        by_cases c13 : t526 = 0
        · rw [if_pos c13] at H
          have c13b0 : (t526 == 0) = true := beq_iff_eq.mpr c13
          have c13b1 : (t526 != 0) = false := bne_eq_false_iff_eq.mpr c13
          clear c13
          by_cases c14 : x5_1.length < 17592186044416
          · rw [if_pos c14] at H
            have LMc14 := Aside0.mk c14
            clear c14
            obtain ⟨y529, hy529⟩ : ∃ y_ : List Int, y_ = (x5_1 ++ [(l1.length : Int)]) := ⟨_, rfl⟩
            replace H : (some (y529, t527, t528)) = some (r1, r2, r3) := by first | (rw [hy529]; with_reducible exact H) | (have H2_ := (Option.bind_some _ _).symm.trans H; rw [hy529]; with_reducible exact H2_) | (have H2_ := (Option.bind_some _ _).symm.trans H; with_reducible exact H2_) | with_reducible exact H | (rw [hy529]; exact H) | exact H
            have Ny529 := Aside0.mk hy529
            clear hy529
            simp only [Option.some.injEq, Prod.mk.injEq] at H
            obtain ⟨rfl, rfl, rfl⟩ := H
            go_wp2_with (first | ((with_reducible refine gC 24 ?_); refine GL (some 23) Try.func24 #[.pointer (some ⟨g, 0, none⟩), .int .i64 24] ?_; (with_reducible refine (spec_l01Next.calls g s0_0 x1001_1 x1002_1 24 t526 t527 t528 w0 _ ?side1 ?side2 A12.out).mono ?_); (case side1 => repeat (first | (with_reducible first | exact HI0.out | apply IsS75.alloc | apply IsS75.drewN | apply IsS75.drew | apply IsS75.set_1 | apply IsS75.set_2) | exact HI0.out)); (case side2 => repeat (first | (with_reducible first | exact HB.out | apply below_alloc | apply pw_below_drewN | apply below_drew1 | refine below_set ?_ (IsS75.ge HI0.out)) | exact HB.out)); rintro e w15 ⟨rfl, hi, hb, hk⟩; refine ⟨_, rfl, ?_⟩; replace HO_5 := Aside0.mk (Kd.R_mono (Kd.R_keep (IsS75.apart (show IsS75 w0 _ g s0_0 x1001_1 x1002_1 from by repeat (first | (with_reducible first | exact HI0.out | apply IsS75.alloc | apply IsS75.drewN | apply IsS75.drew | apply IsS75.set_1 | apply IsS75.set_2) | exact HI0.out)) (R1 HO_5) (by decide)) hk (fun _ h => h.2)) (fun _ h => h.1)); replace HK := Aside0.mk (KeepBut.trans Hk hk (.inl rfl)); replace HB := Aside0.mk (hb); replace HI0 := Aside0.mk (hi); (try clear hb); (try clear hb2); (try clear hk); (try clear hi)) | ((with_reducible refine gate_builtin (b := .append) (xs := #[.tmp 26, .tmp 29]) rfl ?_); at_builtin; refine Kd.R_append (Kd.int .i64) w.heap.size rfl (.tmp 26) (.tmp 29) 25 2 (.int .i64 0) 8 rfl Try.underlying25 info2 rfl (by decide) (by omega) u5 x5_1 (l1.length : Int) [.int .i64 (l1.length : Int)] (fun _ => True) (fun _ => False) rfl rfl ?aP (fun _ hk => hk.elim) ?aF ?aO (Below.refl _ _) ?aS ?aL ?_; (case aP => exact rfl); (case aF => exact (fun _ _ => trivial)); (case aO => exact (R1 HO_5)); (case aS => exact (keep_size (w := w) (g := g) (row := none) Hk)); (case aL => have := LMc14.out; omega); intro v530 w16 ho hb hg hat; rw [← Ny529.out] at ho; replace HB := Aside0.mk (below_weaken (by repeat (first | (with_reducible first | exact HB.out | apply below_alloc | apply pw_below_drewN | apply below_drew1 | refine below_set ?_ (IsS75.ge HI0.out)) | exact HB.out)) HL.out hb); replace HI0 := Aside0.mk (IsS75.grown (by repeat (first | (with_reducible first | exact HI0.out | apply IsS75.alloc | apply IsS75.drewN | apply IsS75.drew | apply IsS75.set_1 | apply IsS75.set_2) | exact HI0.out)) hg (IsS75.own_ne HI0.out HO_5.out (by decide))); replace HK := Aside0.mk (KeepBut.trans Hk (KeepBut.of_grown hg g) (Kd.R_base2 HO_5.out)); have HO531 := Aside0.mk (ho); clear HO_5; clear ho hb hg hat))
            go_ret
            exact ⟨_, Fin, R1 HO531, by repeat (first | (with_reducible first | exact HI0.out | apply IsS75.alloc | apply IsS75.drewN | apply IsS75.drew | apply IsS75.set_1 | apply IsS75.set_2) | exact HI0.out), by repeat (first | (with_reducible first | exact HB.out | apply below_alloc | apply pw_below_drewN | apply below_drew1 | refine below_set ?_ (IsS75.ge HI0.out)) | exact HB.out), by repeat (first | (with_reducible first | exact HK.out | apply KeepBut.set_ | apply keep_drewN | apply keep_drew | apply keep_alloc) | exact HK.out)⟩
          · rw [if_neg c14] at H
            exact absurd H (by simp)
        · rw [if_neg c13] at H
          have c13b0 : (t526 == 0) = false := beq_eq_false_iff_ne.mpr c13
          have c13b1 : (t526 != 0) = true := bne_iff_ne.mpr c13
          by_cases c17 : t526 = 1
          · rw [if_pos c17] at H
            have c17b0 : (t526 == 1) = true := beq_iff_eq.mpr c17
            have c17b1 : (t526 != 1) = false := bne_eq_false_iff_eq.mpr c17
            clear c17
            by_cases c18 : x5_1.length < 17592186044416
            · rw [if_pos c18] at H
              have LMc18 := Aside0.mk c18
              clear c18
              obtain ⟨y532, hy532⟩ : ∃ y_ : List Int, y_ = (x5_1 ++ [0]) := ⟨_, rfl⟩
              replace H : (some (y532, t527, t528)) = some (r1, r2, r3) := by first | (rw [hy532]; with_reducible exact H) | (have H2_ := (Option.bind_some _ _).symm.trans H; rw [hy532]; with_reducible exact H2_) | (have H2_ := (Option.bind_some _ _).symm.trans H; with_reducible exact H2_) | with_reducible exact H | (rw [hy532]; exact H) | exact H
              have Ny532 := Aside0.mk hy532
              clear hy532
              simp only [Option.some.injEq, Prod.mk.injEq] at H
              obtain ⟨rfl, rfl, rfl⟩ := H
              go_wp2_with (first | ((with_reducible refine gC 24 ?_); refine GL (some 23) Try.func24 #[.pointer (some ⟨g, 0, none⟩), .int .i64 24] ?_; (with_reducible refine (spec_l01Next.calls g s0_0 x1001_1 x1002_1 24 t526 t527 t528 w0 _ ?side1 ?side2 A12.out).mono ?_); (case side1 => repeat (first | (with_reducible first | exact HI0.out | apply IsS75.alloc | apply IsS75.drewN | apply IsS75.drew | apply IsS75.set_1 | apply IsS75.set_2) | exact HI0.out)); (case side2 => repeat (first | (with_reducible first | exact HB.out | apply below_alloc | apply pw_below_drewN | apply below_drew1 | refine below_set ?_ (IsS75.ge HI0.out)) | exact HB.out)); rintro e w19 ⟨rfl, hi, hb, hk⟩; refine ⟨_, rfl, ?_⟩; replace HO_5 := Aside0.mk (Kd.R_mono (Kd.R_keep (IsS75.apart (show IsS75 w0 _ g s0_0 x1001_1 x1002_1 from by repeat (first | (with_reducible first | exact HI0.out | apply IsS75.alloc | apply IsS75.drewN | apply IsS75.drew | apply IsS75.set_1 | apply IsS75.set_2) | exact HI0.out)) (R1 HO_5) (by decide)) hk (fun _ h => h.2)) (fun _ h => h.1)); replace HK := Aside0.mk (KeepBut.trans Hk hk (.inl rfl)); replace HB := Aside0.mk (hb); replace HI0 := Aside0.mk (hi); (try clear hb); (try clear hb2); (try clear hk); (try clear hi)) | ((with_reducible refine gate_builtin (b := .append) (xs := #[.tmp 33, .tmp 34]) rfl ?_); at_builtin; refine Kd.R_append (Kd.int .i64) w.heap.size rfl (.tmp 33) (.tmp 34) 25 2 (.int .i64 0) 8 rfl Try.underlying25 info2 rfl (by decide) (by omega) u5 x5_1 0 [.int .i64 0] (fun _ => True) (fun _ => False) rfl rfl ?aP (fun _ hk => hk.elim) ?aF ?aO (Below.refl _ _) ?aS ?aL ?_; (case aP => exact rfl); (case aF => exact (fun _ _ => trivial)); (case aO => exact (R1 HO_5)); (case aS => exact (keep_size (w := w) (g := g) (row := none) Hk)); (case aL => have := LMc18.out; omega); intro v533 w20 ho hb hg hat; rw [← Ny532.out] at ho; replace HB := Aside0.mk (below_weaken (by repeat (first | (with_reducible first | exact HB.out | apply below_alloc | apply pw_below_drewN | apply below_drew1 | refine below_set ?_ (IsS75.ge HI0.out)) | exact HB.out)) HL.out hb); replace HI0 := Aside0.mk (IsS75.grown (by repeat (first | (with_reducible first | exact HI0.out | apply IsS75.alloc | apply IsS75.drewN | apply IsS75.drew | apply IsS75.set_1 | apply IsS75.set_2) | exact HI0.out)) hg (IsS75.own_ne HI0.out HO_5.out (by decide))); replace HK := Aside0.mk (KeepBut.trans Hk (KeepBut.of_grown hg g) (Kd.R_base2 HO_5.out)); have HO534 := Aside0.mk (ho); clear HO_5; clear ho hb hg hat))
              go_ret
              exact ⟨_, Fin, R1 HO534, by repeat (first | (with_reducible first | exact HI0.out | apply IsS75.alloc | apply IsS75.drewN | apply IsS75.drew | apply IsS75.set_1 | apply IsS75.set_2) | exact HI0.out), by repeat (first | (with_reducible first | exact HB.out | apply below_alloc | apply pw_below_drewN | apply below_drew1 | refine below_set ?_ (IsS75.ge HI0.out)) | exact HB.out), by repeat (first | (with_reducible first | exact HK.out | apply KeepBut.set_ | apply keep_drewN | apply keep_drew | apply keep_alloc) | exact HK.out)⟩
            · rw [if_neg c18] at H
              exact absurd H (by simp)
          · rw [if_neg c17] at H
            have c17b0 : (t526 == 1) = false := beq_eq_false_iff_ne.mpr c17
            have c17b1 : (t526 != 1) = true := bne_iff_ne.mpr c17
            by_cases c21 : t526 = 2
            · rw [if_pos c21] at H
              have c21b0 : (t526 == 2) = true := beq_iff_eq.mpr c21
              have c21b1 : (t526 != 2) = false := bne_eq_false_iff_eq.mpr c21
              clear c21
              obtain ⟨y535, hy535⟩ : ∃ y_ : List Int, y_ = (([] : List Int)) := ⟨_, rfl⟩
              replace H : (spec_l10DrawSet.l1 k1 l1 y535 0 s0_0 t527 t528) = some (r1, r2, r3) := by first | (rw [hy535]; with_reducible exact H) | (have H2_ := (Option.bind_some _ _).symm.trans H; rw [hy535]; with_reducible exact H2_) | (have H2_ := (Option.bind_some _ _).symm.trans H; with_reducible exact H2_) | with_reducible exact H | (rw [hy535]; exact H) | exact H
              have Ny535 := Aside0.mk hy535
              clear hy535
              have H' := Aside0.mk H
              clear H
              go_wp2_with (first | ((with_reducible refine gC 24 ?_); refine GL (some 23) Try.func24 #[.pointer (some ⟨g, 0, none⟩), .int .i64 24] ?_; (with_reducible refine (spec_l01Next.calls g s0_0 x1001_1 x1002_1 24 t526 t527 t528 w0 _ ?side1 ?side2 A12.out).mono ?_); (case side1 => repeat (first | (with_reducible first | exact HI0.out | apply IsS75.alloc | apply IsS75.drewN | apply IsS75.drew | apply IsS75.set_1 | apply IsS75.set_2) | exact HI0.out)); (case side2 => repeat (first | (with_reducible first | exact HB.out | apply below_alloc | apply pw_below_drewN | apply below_drew1 | refine below_set ?_ (IsS75.ge HI0.out)) | exact HB.out)); rintro e w22 ⟨rfl, hi, hb, hk⟩; refine ⟨_, rfl, ?_⟩; replace HO_5 := Aside0.mk (Kd.R_mono (Kd.R_keep (IsS75.apart (show IsS75 w0 _ g s0_0 x1001_1 x1002_1 from by repeat (first | (with_reducible first | exact HI0.out | apply IsS75.alloc | apply IsS75.drewN | apply IsS75.drew | apply IsS75.set_1 | apply IsS75.set_2) | exact HI0.out)) (R1 HO_5) (by decide)) hk (fun _ h => h.2)) (fun _ h => h.1)); replace HK := Aside0.mk (KeepBut.trans Hk hk (.inl rfl)); replace HB := Aside0.mk (hb); replace HI0 := Aside0.mk (hi); (try clear hb); (try clear hb2); (try clear hk); (try clear hi)) | ((with_reducible refine gD 38 ?_); refine Kd.R_lit (Kd.int .i64) _ 2 ?hg (N := 38) ?hd (xs := ([] : List Int)) (inner := []) (ok := fun _ => True) (okp := fun _ => True) ?hr ?hp (fun _ hk => hk) trivial (Below.refl _ _) (Nat.le_refl _) (by simp) ?_; (case hd => rfl); (case hg => rfl); (case hr => first | (go_simp; done) | (go_simp; rfl)); (case hp => exact (Reps.none _ _)); intro v536 w23 ho24 hb hg_ hnew_; clear hg_ hnew_; (first | rw [← Ny535.out] at ho24 | (simp only [Int.reduceToNat] at ho24; rw [← Ny535.out] at ho24)); have HO537 := Aside0.mk (Kd.R_lower (Kd.R_new' ho24 (Kd.R_lt (R1 HO_5))) (keep_size (w := w) (g := g) (row := none) Hk)); replace HO_5 := Aside0.mk (Kd.R_elder' (R1 HO_5) (Kd.R_base ho24) hb); replace HK := Aside0.mk (KeepBut.trans Hk (KeepBut.of_below hb g none) (.inl rfl)); replace HB := Aside0.mk (below_step (by repeat (first | (with_reducible first | exact HB.out | apply below_alloc | apply pw_below_drewN | apply below_drew1 | refine below_set ?_ (IsS75.ge HI0.out)) | exact HB.out)) hb); replace HI0 := Aside0.mk (IsS75.below (by repeat (first | (with_reducible first | exact HI0.out | apply IsS75.alloc | apply IsS75.drewN | apply IsS75.drew | apply IsS75.set_1 | apply IsS75.set_2) | exact HI0.out)) hb); clear hb ho24))
              go_loopg [5, 7] k1 (fun kq v5 v7 w' => ∃ (x5_2 : List Int) (x7_2 : Int), v7 = .int .i64 x7_2 ∧ Aside0 (spec_l10DrawSet.l1 kq l1 x5_2 x7_2 s0_0 t527 t528 = some (r1, r2, r3)) ∧ Aside0 (kq ≤ k1) ∧ Aside0 (Kd.R (Kd.int .i64) 2 w' w.heap.size (fun _ => True) v5 x5_2) ∧ Aside0 (IsS75 w0 w' g s0_0 t527 t528) ∧ Aside0 (KeepBut w w' g none) ∧ Aside0 (Below w0.heap.size w0 w'))
              case atStart => exact ⟨(y535), (0), Fs, H', ⟨Nat.le_refl _⟩, ⟨by (with_reducible repeat (first | apply Kd.R_alloc | apply Kd.R_drewN | apply Kd.R_drew)); exact Kd.R_mono HO537.out (fun _ hk => trivial)⟩, ⟨by repeat (first | (with_reducible first | exact HI0.out | apply IsS75.alloc | apply IsS75.drewN | apply IsS75.drew | apply IsS75.set_1 | apply IsS75.set_2) | exact HI0.out)⟩, ⟨by repeat (first | (with_reducible first | exact HK.out | apply KeepBut.set_ | apply keep_drewN | apply keep_drew | apply keep_alloc) | exact HK.out)⟩, ⟨by repeat (first | (with_reducible first | exact HB.out | apply below_alloc | apply pw_below_drewN | apply below_drew1 | refine below_set ?_ (IsS75.ge HI0.out)) | exact HB.out)⟩⟩
              case round =>
                clear H'
                try clear c1
                try clear c2
                try clear p2
                try clear c3
                try clear c5
                try clear c5b0
                try clear p6
                try clear c7
                try clear c7b0
                try clear c7b1
                try clear c8
                try clear c13
                try clear c13b0
                try clear c13b1
                try clear c14
                try clear c17
                try clear c17b0
                try clear c17b1
                try clear c18
                try clear c21
                try clear c21b0
                try clear c21b1
                try clear c24
                try clear p2
                obtain ⟨x5_2, x7_2, rfl, HA, HK2, HO_5, HI0, HK, HB⟩ := hrel
                cases gk with
                | zero => exact absurd HA.out (by simp [spec_l10DrawSet.l1])
                | succ k2 =>
                  have H := HA.out
                  clear HA
                  simp only [spec_l10DrawSet.l1] at H
                  by_cases c25 : x7_2 < (l1.length : Int)
                  · rw [if_pos c25] at H
                    have c25b0 : decide (x7_2 < (l1.length : Int)) = true := decide_eq_true c25
                    clear c25
                    by_cases c26 : x5_2.length < 17592186044416
                    · rw [if_pos c26] at H
                      have LMc26 := Aside0.mk c26
                      clear c26
                      obtain ⟨y538, hy538⟩ : ∃ y_ : List Int, y_ = (x5_2 ++ [x7_2]) := ⟨_, rfl⟩
                      replace H : (spec_l10DrawSet.l1 k2 l1 y538 (wrap64 (x7_2 + 1)) s0_0 t527 t528) = some (r1, r2, r3) := by first | (rw [hy538]; with_reducible exact H) | (have H2_ := (Option.bind_some _ _).symm.trans H; rw [hy538]; with_reducible exact H2_) | (have H2_ := (Option.bind_some _ _).symm.trans H; with_reducible exact H2_) | with_reducible exact H | (rw [hy538]; exact H) | exact H
                      have Ny538 := Aside0.mk hy538
                      clear hy538
                      have H' := Aside0.mk H
                      clear H
                      go_wp2_with (first | ((with_reducible refine gate_builtin (b := .append) (xs := #[.tmp 45, .tmp 47]) rfl ?_); at_builtin; refine Kd.R_append (Kd.int .i64) w.heap.size rfl (.tmp 45) (.tmp 47) 25 2 (.int .i64 0) 8 rfl Try.underlying25 info2 rfl (by decide) (by omega) u5 x5_2 x7_2 [.int .i64 x7_2] (fun _ => True) (fun _ => False) rfl rfl ?aP (fun _ hk => hk.elim) ?aF ?aO (Below.refl _ _) ?aS ?aL ?_; (case aP => exact rfl); (case aF => exact (fun _ _ => trivial)); (case aO => exact (R1 HO_5)); (case aS => exact (keep_size (w := w) (g := g) (row := none) Hk)); (case aL => have := LMc26.out; omega); intro v539 w27 ho hb hg hat; rw [← Ny538.out] at ho; replace HB := Aside0.mk (below_weaken (by repeat (first | (with_reducible first | exact HB.out | apply below_alloc | apply pw_below_drewN | apply below_drew1 | refine below_set ?_ (IsS75.ge HI0.out)) | exact HB.out)) HL.out hb); replace HI0 := Aside0.mk (IsS75.grown (by repeat (first | (with_reducible first | exact HI0.out | apply IsS75.alloc | apply IsS75.drewN | apply IsS75.drew | apply IsS75.set_1 | apply IsS75.set_2) | exact HI0.out)) hg (IsS75.own_ne HI0.out HO_5.out (by decide))); replace HK := Aside0.mk (KeepBut.trans Hk (KeepBut.of_grown hg g) (Kd.R_base2 HO_5.out)); have HO540 := Aside0.mk (ho); clear HO_5; clear ho hb hg hat))
                      go_roundg k2
                      case measure => have := HK1.out; have := HK2.out; omega
                      case rel => exact ⟨(y538), (wrap64 (x7_2 + 1)), Fs, H', ⟨by have := HK1.out; have := HK2.out; omega⟩, ⟨R1 HO540⟩, ⟨by repeat (first | (with_reducible first | exact HI0.out | apply IsS75.alloc | apply IsS75.drewN | apply IsS75.drew | apply IsS75.set_1 | apply IsS75.set_2) | exact HI0.out)⟩, ⟨by repeat (first | (with_reducible first | exact HK.out | apply KeepBut.set_ | apply keep_drewN | apply keep_drew | apply keep_alloc) | exact HK.out)⟩, ⟨by repeat (first | (with_reducible first | exact HB.out | apply below_alloc | apply pw_below_drewN | apply below_drew1 | refine below_set ?_ (IsS75.ge HI0.out)) | exact HB.out)⟩⟩
                    · rw [if_neg c26] at H
                      exact absurd H (by simp)
                  · rw [if_neg c25] at H
                    have c25b0 : decide (x7_2 < (l1.length : Int)) = false := decide_eq_false c25
                    clear c25
                    simp only [Option.some.injEq, Prod.mk.injEq] at H
                    obtain ⟨rfl, rfl, rfl⟩ := H
                    go_wp2
                    go_ret
                    exact ⟨_, Fin, R1 HO_5, by repeat (first | (with_reducible first | exact HI0.out | apply IsS75.alloc | apply IsS75.drewN | apply IsS75.drew | apply IsS75.set_1 | apply IsS75.set_2) | exact HI0.out), by repeat (first | (with_reducible first | exact HB.out | apply below_alloc | apply pw_below_drewN | apply below_drew1 | refine below_set ?_ (IsS75.ge HI0.out)) | exact HB.out), by repeat (first | (with_reducible first | exact HK.out | apply KeepBut.set_ | apply keep_drewN | apply keep_drew | apply keep_alloc) | exact HK.out)⟩
            · rw [if_neg c21] at H
              have c21b0 : (t526 == 2) = false := beq_eq_false_iff_ne.mpr c21
              have c21b1 : (t526 != 2) = true := bne_iff_ne.mpr c21
              simp only [Option.some.injEq, Prod.mk.injEq] at H
              obtain ⟨rfl, rfl, rfl⟩ := H
              go_wp2_with (first | ((with_reducible refine gC 24 ?_); refine GL (some 23) Try.func24 #[.pointer (some ⟨g, 0, none⟩), .int .i64 24] ?_; (with_reducible refine (spec_l01Next.calls g s0_0 x1001_1 x1002_1 24 t526 t527 t528 w0 _ ?side1 ?side2 A12.out).mono ?_); (case side1 => repeat (first | (with_reducible first | exact HI0.out | apply IsS75.alloc | apply IsS75.drewN | apply IsS75.drew | apply IsS75.set_1 | apply IsS75.set_2) | exact HI0.out)); (case side2 => repeat (first | (with_reducible first | exact HB.out | apply below_alloc | apply pw_below_drewN | apply below_drew1 | refine below_set ?_ (IsS75.ge HI0.out)) | exact HB.out)); rintro e w28 ⟨rfl, hi, hb, hk⟩; refine ⟨_, rfl, ?_⟩; replace HO_5 := Aside0.mk (Kd.R_mono (Kd.R_keep (IsS75.apart (show IsS75 w0 _ g s0_0 x1001_1 x1002_1 from by repeat (first | (with_reducible first | exact HI0.out | apply IsS75.alloc | apply IsS75.drewN | apply IsS75.drew | apply IsS75.set_1 | apply IsS75.set_2) | exact HI0.out)) (R1 HO_5) (by decide)) hk (fun _ h => h.2)) (fun _ h => h.1)); replace HK := Aside0.mk (KeepBut.trans Hk hk (.inl rfl)); replace HB := Aside0.mk (hb); replace HI0 := Aside0.mk (hi); (try clear hb); (try clear hb2); (try clear hk); (try clear hi)))
              go_ret
              exact ⟨_, Fin, R1 HO_5, by repeat (first | (with_reducible first | exact HI0.out | apply IsS75.alloc | apply IsS75.drewN | apply IsS75.drew | apply IsS75.set_1 | apply IsS75.set_2) | exact HI0.out), by repeat (first | (with_reducible first | exact HB.out | apply below_alloc | apply pw_below_drewN | apply below_drew1 | refine below_set ?_ (IsS75.ge HI0.out)) | exact HB.out), by repeat (first | (with_reducible first | exact HK.out | apply KeepBut.set_ | apply keep_drewN | apply keep_drew | apply keep_alloc) | exact HK.out)⟩

/-! ### spec_DrawWeightOfSet: function 9 -/
def spec_DrawWeightOfSet.f (k : Nat) (l0 : List Int) : Option ((List (S68)) × Int × List Int × List Int) := (spec_l01From.f k l0).bind fun bt542 => ((spec_l10Draw.f k bt542.1 bt542.2.1 bt542.2.2).bind fun bt546 => ((spec_l01Next.f bt542.1 bt546.2.1 bt546.2.2 5).bind fun bt551 => ((spec_l19Draw.f k bt542.1 bt551.2.1 bt551.2.2 bt546.1 (wrap64 (2 + bt551.1))).bind fun bt554 => ((spec_l10DrawSet.f k bt542.1 bt554.2.2.1 bt554.2.2.2 bt546.1).bind fun bt561 => (some (bt546.1, bt554.1, bt554.2.1, bt561.1))))))
theorem spec_DrawWeightOfSet.mono : ∀ a0 k, LeO (spec_DrawWeightOfSet.f k a0) (spec_DrawWeightOfSet.f (k + 1) a0) := by
  intro a0 k
  unfold spec_DrawWeightOfSet.f
  repeat' first
      | (with_reducible exact spec_l01From.mono _ _)
      | (with_reducible exact spec_l10Draw.mono _ _ _ _)
      | (with_reducible exact spec_l10DrawSet.mono _ _ _ _ _)
      | (with_reducible exact spec_l19Draw.mono _ _ _ _ _ _)
      | (with_reducible exact LeO.refl _)
      | (with_reducible exact LeO.none _)
      | (with_reducible refine LeO.ite ?_ ?_)
      | (with_reducible refine LeO.bind ?_ (fun _ => ?_))
      | exact spec_l01From.mono _ _
      | exact spec_l10Draw.mono _ _ _ _
      | exact spec_l10DrawSet.mono _ _ _ _ _
      | exact spec_l19Draw.mono _ _ _ _ _ _
      | exact LeO.none _
      | refine LeO.ite ?_ ?_
      | refine LeO.bind ?_ (fun _ => ?_)
def spec_DrawWeightOfSet.T4 : Bool × List (List Nat × List Nat) := (true, [([], []), ([], []), ([], []), ([], []), ([2, 3], [2, 3]), ([0, 4, 0], [0]), ([1, 5, 0, 1, 5], [1]), ([4, 6, 0, 1, 2, 3, 4, 5, 6], [4])])
def spec_DrawWeightOfSet.B4 : List Nat := [0, 0, 0, 0, 12, 29, 63, 127]
theorem spec_DrawWeightOfSet.tab4 : rtab .any (opsOf Try.f9 4) = spec_DrawWeightOfSet.T4 := by kernel_rfl
theorem spec_DrawWeightOfSet.bits4 : waitsOk spec_DrawWeightOfSet.T4.2 spec_DrawWeightOfSet.B4 = true := by kernel_rfl
set_option maxHeartbeats 8000000 in
set_option maxRecDepth 100000 in
theorem spec_DrawWeightOfSet.calls (k : Nat) (A0 : Option Addr) (c0 : Nat) (l0 : List Int) (r1 : List (S68)) (r2 : Int) (r3 : List Int) (r4 : List Int) (w : World) (hr0 : Kd.C (Kd.int .u8) w A0 l0.length l0) (hc0 : l0.length ≤ c0) (h : spec_DrawWeightOfSet.f k l0 = some (r1, r2, r3, r4)) :
    Calls Try.prog 9 #[.slice A0 l0.length c0] w fun e w' => ∃ v0_ v2_ v3_ : Value, e = .returned (.tuple #[v0_, .agg #[.int .i64 r2, v2_], v3_]) ∧ Kd.R k68 68 w' w.heap.size (fun _ => True) v0_ r1 ∧ Kd.R (Kd.int .i64) 2 w' w.heap.size (fun k_ => some k_ ≠ (v3_ : Value).ownBlock) v2_ r3 ∧ Kd.R (Kd.int .i64) 2 w' w.heap.size (fun k_ => some k_ ≠ (v2_ : Value).ownBlock) v3_ r4 ∧ Below w.heap.size w w' := by
  have hu27 := Try.underlying27
  have HR0 := Aside0.mk hr0
  have HC0 := Aside0.mk hc0
  clear hr0 hc0
  have HB := Aside0.mk (Below.refl w.heap.size w)
  have H : ((spec_l01From.f k l0).bind fun bt542 => ((spec_l10Draw.f k bt542.1 bt542.2.1 bt542.2.2).bind fun bt546 => ((spec_l01Next.f bt542.1 bt546.2.1 bt546.2.2 5).bind fun bt551 => ((spec_l19Draw.f k bt542.1 bt551.2.1 bt551.2.2 bt546.1 (wrap64 (2 + bt551.1))).bind fun bt554 => ((spec_l10DrawSet.f k bt542.1 bt554.2.2.1 bt554.2.2.2 bt546.1).bind fun bt561 => (some (bt546.1, bt554.1, bt554.2.1, bt561.1))))))) = some (r1, r2, r3, r4) := h
  clear h
  obtain ⟨⟨t542, t543, t544⟩, A20, H⟩ := Option.bind_eq_some_iff.mp H
  dsimp only at H
  have A2 := Aside0.mk A20
  clear A20
  obtain ⟨⟨t546, t549, t550⟩, A30, H⟩ := Option.bind_eq_some_iff.mp H
  dsimp only at H
  have A3 := Aside0.mk A30
  clear A30
  obtain ⟨⟨t551, t552, t553⟩, A40, H⟩ := Option.bind_eq_some_iff.mp H
  dsimp only at H
  have A4 := Aside0.mk A40
  clear A40
  obtain ⟨⟨t554, t555, t558, t559⟩, A50, H⟩ := Option.bind_eq_some_iff.mp H
  dsimp only at H
  have A5 := Aside0.mk A50
  clear A50
  obtain ⟨⟨t561, t564, t565⟩, A60, H⟩ := Option.bind_eq_some_iff.mp H
  dsimp only at H
  have A6 := Aside0.mk A60
  clear A60
  simp only [Option.some.injEq, Prod.mk.injEq] at H
  obtain ⟨rfl, rfl, rfl, rfl⟩ := H
  go_enter Try.func9, Try.ntmps9
  try go_wp2_with (first | ((with_reducible refine gD 3 ?_); refine BX #[.int .i64 0, .slice none 0 0] 27 ?_; intro gb541 hg w7 hbox hb; have BK541 := Aside0.mk (hbox); have GW541 := Aside0.mk ((Gle hg Hb : w.heap.size ≤ gb541)); have GE541 := Aside0.mk ((Gle hg Hb : w.heap.size ≤ gb541)); replace HB := Aside0.mk (below_step Hb hb); clear hb hbox hg) | ((with_reducible refine gC 22 ?_); refine GL (some 9) Try.func22 #[.slice A0 l0.length c0] ?_; (with_reducible refine (spec_l01From.calls k _ _ l0 t542 t543 t544 w _ ?side1 ?side2 ?side3 A2.out).mono ?_); (case side1 => exact Hb); (case side2 => exact HR0.out); (case side3 => exact HC0.out); rintro e w8 ⟨g545, rfl, hi, hb, hb2⟩; refine ⟨_, rfl, ?_⟩; replace HB := Aside0.mk (hb); have HI545 := Aside0.mk (hi); have NB545_541 := Aside0.mk (IsS75.ne_blk hi (blk_below (B1 BK541) hb2) (by decide)); have NB541_545 := Aside0.mk (Ne.symm (IsS75.ne_blk hi (blk_below (B1 BK541) hb2) (by decide))); replace BK541 := Aside0.mk (blk_below (B1 BK541) hb2); (try clear hb); (try clear hb2); (try clear hk); (try clear hi)) | ((with_reducible refine gC 23 ?_); refine GL (some 11) Try.func23 #[.pointer (some ⟨g545, 0, none⟩)] ?_; (with_reducible refine (spec_l10Draw.calls k g545 t542 t543 t544 t546 t549 t550 w _ ?side1 ?side2 A3.out).mono ?_); (case side1 => repeat (first | (with_reducible first | exact HI545.out | apply IsS75.alloc | apply IsS75.drewN | apply IsS75.drew | apply IsS75.set_1 | apply IsS75.set_2 | refine IsS75.far ?_ NB545_541.out _) | exact HI545.out)); (case side2 => repeat (first | (with_reducible first | exact HB.out | apply below_alloc | apply pw_below_drewN | apply below_drew1 | refine below_set ?_ (IsS75.ge HI545.out) | refine below_set ?_ GE541.out) | exact HB.out)); rintro e w9 ⟨v547, rfl, ho0, hi, hb, hk⟩; refine ⟨_, rfl, ?_⟩; replace BK541 := Aside0.mk (KeepBut.blk hk (g' := gb541) (o := .cells #[.int .i64 0, .slice none 0 0] 27 (0, 0)) (B1 BK541) NB541_545.out (by simp)); have HO548 := Aside0.mk (Kd.R_lower ho0 (below_size (by repeat (first | (with_reducible first | exact HB.out | apply below_alloc | apply pw_below_drewN | apply below_drew1 | refine below_set ?_ (IsS75.ge HI545.out) | refine below_set ?_ GE541.out) | exact HB.out)))); replace HB := Aside0.mk (hb); replace HI545 := Aside0.mk (hi); (try clear hb); (try clear hb2); (try clear hk); (try clear hi); (try clear ho0)) | ((with_reducible refine gC 24 ?_); refine GL (some 15) Try.func24 #[.pointer (some ⟨g545, 0, none⟩), .int .i64 5] ?_; (with_reducible refine (spec_l01Next.calls g545 t542 t549 t550 5 t551 t552 t553 w _ ?side1 ?side2 A4.out).mono ?_); (case side1 => repeat (first | (with_reducible first | exact HI545.out | apply IsS75.alloc | apply IsS75.drewN | apply IsS75.drew | apply IsS75.set_1 | apply IsS75.set_2 | refine IsS75.far ?_ NB545_541.out _) | exact HI545.out)); (case side2 => repeat (first | (with_reducible first | exact HB.out | apply below_alloc | apply pw_below_drewN | apply below_drew1 | refine below_set ?_ (IsS75.ge HI545.out) | refine below_set ?_ GE541.out) | exact HB.out)); rintro e w10 ⟨rfl, hi, hb, hk⟩; refine ⟨_, rfl, ?_⟩; replace BK541 := Aside0.mk (KeepBut.blk hk (g' := gb541) (o := .cells #[.int .i64 0, .slice none 0 0] 27 (0, 0)) (B1 BK541) NB541_545.out (by simp)); replace HO548 := Aside0.mk (Kd.R_mono (Kd.R_keep (IsS75.apart (show IsS75 w _ g545 t542 t549 t550 from by repeat (first | (with_reducible first | exact HI545.out | apply IsS75.alloc | apply IsS75.drewN | apply IsS75.drew | apply IsS75.set_1 | apply IsS75.set_2 | refine IsS75.far ?_ NB545_541.out _) | exact HI545.out)) (R1 HO548) (by decide)) hk (fun _ h => h.2)) (fun _ h => h.1)); replace HB := Aside0.mk (hb); replace HI545 := Aside0.mk (hi); (try clear hb); (try clear hb2); (try clear hk); (try clear hi); obtain ⟨Ao11, co11, eo11⟩ := Kd.R_slice HO548.out; subst eo11) | ((with_reducible refine gC 25 ?_); refine GL (some 17) Try.func25 #[.pointer (some ⟨g545, 0, none⟩), .slice Ao11 t546.length co11, .int .i64 (wrap64 (2 + t551))] ?_; (with_reducible refine (spec_l19Draw.calls k g545 t542 t552 t553 _ _ t546 (wrap64 (2 + t551)) t554 t555 t558 t559 w _ ?side1 ?side2 ?side3 ?side4 A5.out).mono ?_); (case side1 => repeat (first | (with_reducible first | exact HI545.out | apply IsS75.alloc | apply IsS75.drewN | apply IsS75.drew | apply IsS75.set_1 | apply IsS75.set_2 | refine IsS75.far ?_ NB545_541.out _) | exact HI545.out)); (case side2 => repeat (first | (with_reducible first | exact HB.out | apply below_alloc | apply pw_below_drewN | apply below_drew1 | refine below_set ?_ (IsS75.ge HI545.out) | refine below_set ?_ GE541.out) | exact HB.out)); (case side3 => exact Kd.C_foot_own (IsS75.apart (show IsS75 w _ g545 t542 t552 t553 from by repeat (first | (with_reducible first | exact HI545.out | apply IsS75.alloc | apply IsS75.drewN | apply IsS75.drew | apply IsS75.set_1 | apply IsS75.set_2 | refine IsS75.far ?_ NB545_541.out _) | exact HI545.out)) (R1 HO548) (by decide)) (fun _ h_ => h_.2)); (case side4 => exact (Kd.R_reads' HO548.out).2.1); rintro e w12 ⟨v556, rfl, ho0, hi, hb, hk⟩; refine ⟨_, rfl, ?_⟩; replace BK541 := Aside0.mk (KeepBut.blk hk (g' := gb541) (o := .cells #[.int .i64 0, .slice none 0 0] 27 (0, 0)) (B1 BK541) NB541_545.out (by simp)); replace HO548 := Aside0.mk (Kd.R_mono (Kd.R_keep (IsS75.apart (show IsS75 w _ g545 t542 t552 t553 from by repeat (first | (with_reducible first | exact HI545.out | apply IsS75.alloc | apply IsS75.drewN | apply IsS75.drew | apply IsS75.set_1 | apply IsS75.set_2 | refine IsS75.far ?_ NB545_541.out _) | exact HI545.out)) (R1 HO548) (by decide)) hk (fun _ h => h.2)) (fun _ h => h.1)); have HO557 := Aside0.mk (Kd.R_lower ho0 (below_size (by repeat (first | (with_reducible first | exact HB.out | apply below_alloc | apply pw_below_drewN | apply below_drew1 | refine below_set ?_ (IsS75.ge HI545.out) | refine below_set ?_ GE541.out) | exact HB.out)))); replace HB := Aside0.mk (hb); replace HI545 := Aside0.mk (hi); (try clear hb); (try clear hb2); (try clear hk); (try clear hi); (try clear ho0)) | ((with_reducible refine gD 7 ?_); refine BX #[.int .i64 0, .slice none 0 0] 27 ?_; intro gb560 hg w13 hbox hb; replace HO548 := Aside0.mk (Kd.R_below (R1 HO548) hb); replace HO557 := Aside0.mk (Kd.R_below (R1 HO557) hb); have BK560 := Aside0.mk (hbox); have GW560 := Aside0.mk ((by rw [hg]; exact (below_size (by repeat (first | (with_reducible first | exact HB.out | apply below_alloc | apply pw_below_drewN | apply below_drew1 | refine below_set ?_ (IsS75.ge HI545.out) | refine below_set ?_ GE541.out) | exact HB.out))) : w.heap.size ≤ gb560)); have GE560 := Aside0.mk ((by rw [hg]; exact (below_size (by repeat (first | (with_reducible first | exact HB.out | apply below_alloc | apply pw_below_drewN | apply below_drew1 | refine below_set ?_ (IsS75.ge HI545.out) | refine below_set ?_ GE541.out) | exact HB.out))) : w.heap.size ≤ gb560)); replace HB := Aside0.mk (below_step (by repeat (first | (with_reducible first | exact HB.out | apply below_alloc | apply pw_below_drewN | apply below_drew1 | refine below_set ?_ (IsS75.ge HI545.out) | refine below_set ?_ GE541.out) | exact HB.out)) hb); have NB541_560 := Aside0.mk ((by rw [hg]; exact Nat.ne_of_lt (blk_lt (B1 BK541)) : gb541 ≠ gb560)); have NB560_541 := Aside0.mk ((by rw [hg]; exact Nat.ne_of_gt (blk_lt (B1 BK541)) : gb560 ≠ gb541)); replace BK541 := Aside0.mk (blk_below (B1 BK541) hb); have NB545_560 := Aside0.mk ((by rw [hg]; exact Nat.ne_of_lt (IsS75.lt (show IsS75 w _ g545 t542 t558 t559 from by repeat (first | (with_reducible first | exact HI545.out | apply IsS75.alloc | apply IsS75.drewN | apply IsS75.drew | apply IsS75.set_1 | apply IsS75.set_2 | refine IsS75.far ?_ NB545_541.out _) | exact HI545.out))) : g545 ≠ gb560)); have NB560_545 := Aside0.mk ((by rw [hg]; exact Nat.ne_of_gt (IsS75.lt (show IsS75 w _ g545 t542 t558 t559 from by repeat (first | (with_reducible first | exact HI545.out | apply IsS75.alloc | apply IsS75.drewN | apply IsS75.drew | apply IsS75.set_1 | apply IsS75.set_2 | refine IsS75.far ?_ NB545_541.out _) | exact HI545.out))) : gb560 ≠ g545)); replace HI545 := Aside0.mk (IsS75.below (by repeat (first | (with_reducible first | exact HI545.out | apply IsS75.alloc | apply IsS75.drewN | apply IsS75.drew | apply IsS75.set_1 | apply IsS75.set_2 | refine IsS75.far ?_ NB545_541.out _) | exact HI545.out)) hb); clear hb hbox hg; have hnb14 := NB560_541.out; have hnc14 := NB541_560.out; have hnb15 := NB560_545.out; have hnc15 := NB545_560.out; have hcz16_0 : w13.cell? ⟨gb560, 0, none⟩ = some (.int .i64 0) := bc BK560; have hcz16_1 : w13.cell? ⟨gb560, 1, none⟩ = some (.slice none 0 0) := bc BK560; have hfz16_0 := blk_frozen BK560.out 0; have hfz16_1 := blk_frozen BK560.out 1; obtain ⟨Ao17, co17, eo17⟩ := Kd.R_slice HO557.out; subst eo17))
  have n0_ : Aside0 (Kd.R k68 68 ((w13.setCell ⟨gb560, 0, none⟩ (.int .i64 t554)).setCell ⟨gb560, 1, none⟩ (.slice Ao17 t555.length co17)) w.heap.size (fun _ => True) (.slice Ao11 t546.length co11) t546) := ⟨by (with_reducible repeat (first | apply Kd.R_alloc | apply Kd.R_drewN | apply Kd.R_drew)); exact Kd.R_mono (Kd.R_far (p := ⟨gb560, 1, none⟩) (Kd.R_far (p := ⟨gb560, 0, none⟩) (Kd.R_types HO548.out BK560.out (by decide)) (fun _ hk => hk.2) (.int .i64 t554)) (fun _ hk => hk.2) (.slice Ao17 t555.length co17)) (fun _ hk => trivial)⟩
  have n1_ : Aside0 (Kd.R (Kd.int .i64) 2 ((w13.setCell ⟨gb560, 0, none⟩ (.int .i64 t554)).setCell ⟨gb560, 1, none⟩ (.slice Ao17 t555.length co17)) w.heap.size (fun _ => True) (.slice Ao17 t555.length co17) t555) := ⟨by (with_reducible repeat (first | apply Kd.R_alloc | apply Kd.R_drewN | apply Kd.R_drew)); exact Kd.R_mono (Kd.R_far (p := ⟨gb560, 1, none⟩) (Kd.R_far (p := ⟨gb560, 0, none⟩) (Kd.R_types HO557.out BK560.out (by decide)) (fun _ hk => hk.2) (.int .i64 t554)) (fun _ hk => hk.2) (.slice Ao17 t555.length co17)) (fun _ hk => trivial)⟩
  have n2_ : Aside0 (((w13.setCell ⟨gb560, 0, none⟩ (.int .i64 t554)).setCell ⟨gb560, 1, none⟩ (.slice Ao17 t555.length co17)).heap[gb541]? = some (.cells #[.int .i64 0, .slice none 0 0] 27 (0, 0))) := ⟨by (with_reducible repeat (first | refine blk_drewN ?_ _ | refine blk_drew ?_ | refine blk_alloc ?_ _)); refine blk_far ?_ NB541_560.out _; (with_reducible repeat (first | refine blk_drewN ?_ _ | refine blk_drew ?_ | refine blk_alloc ?_ _)); refine blk_far ?_ NB541_560.out _; (with_reducible repeat (first | refine blk_drewN ?_ _ | refine blk_drew ?_ | refine blk_alloc ?_ _)); exact BK541.out⟩
  have n3_ : Aside0 (((w13.setCell ⟨gb560, 0, none⟩ (.int .i64 t554)).setCell ⟨gb560, 1, none⟩ (.slice Ao17 t555.length co17)).heap[gb560]? = some (.cells #[.int .i64 t554, .slice Ao17 t555.length co17] 27 (0, 0))) := ⟨by (with_reducible repeat (first | refine blk_drewN ?_ _ | refine blk_drew ?_ | refine blk_alloc ?_ _)); refine blk_put (cs := #[.int .i64 t554, .slice none 0 0]) ?_ 1 _ rfl; (with_reducible repeat (first | refine blk_drewN ?_ _ | refine blk_drew ?_ | refine blk_alloc ?_ _)); refine blk_put (cs := #[.int .i64 0, .slice none 0 0]) ?_ 0 _ rfl; (with_reducible repeat (first | refine blk_drewN ?_ _ | refine blk_drew ?_ | refine blk_alloc ?_ _)); exact BK560.out⟩
  have n4_ : Aside0 (IsS75 w ((w13.setCell ⟨gb560, 0, none⟩ (.int .i64 t554)).setCell ⟨gb560, 1, none⟩ (.slice Ao17 t555.length co17)) g545 t542 t558 t559) := ⟨by repeat (first | (with_reducible first | exact HI545.out | apply IsS75.alloc | apply IsS75.drewN | apply IsS75.drew | apply IsS75.set_1 | apply IsS75.set_2 | refine IsS75.far ?_ NB545_541.out _ | refine IsS75.far ?_ NB545_560.out _) | exact HI545.out)⟩
  have n5_ : Aside0 (Below w.heap.size w ((w13.setCell ⟨gb560, 0, none⟩ (.int .i64 t554)).setCell ⟨gb560, 1, none⟩ (.slice Ao17 t555.length co17))) := ⟨by repeat (first | (with_reducible first | exact HB.out | apply below_alloc | apply pw_below_drewN | apply below_drew1 | refine below_set ?_ (IsS75.ge HI545.out) | refine below_set ?_ GE541.out | refine below_set ?_ GE560.out) | exact HB.out)⟩
  (try clear HO548)
  (try clear HO557)
  (try clear BK541)
  (try clear BK560)
  (try clear HI545)
  (try clear HB)
  generalize ((w13.setCell ⟨gb560, 0, none⟩ (.int .i64 t554)).setCell ⟨gb560, 1, none⟩ (.slice Ao17 t555.length co17)) = w18 at n0_ n1_ n2_ n3_ n4_ n5_ ⊢
  have HO548 := n0_
  have HO557 := n1_
  have BK541 := n2_
  have BK560 := n3_
  have HI545 := n4_
  have HB := n5_
  clear n0_ n1_ n2_ n3_ n4_ n5_
  replace HO548 := Aside0.mk (Kd.R_drew HO548.out)
  replace HO557 := Aside0.mk (Kd.R_drew HO557.out)
  replace BK541 := Aside0.mk (blk_drew BK541.out)
  replace BK560 := Aside0.mk (blk_drew BK560.out)
  replace HI545 := Aside0.mk (IsS75.drew HI545.out)
  replace HB := Aside0.mk (below_drew1 HB.out)
  refine start_ (n := 8) (S := fun w' => w'.cell? ⟨gb560, 0, none⟩ = some (.int .i64 t554) ∧ w'.cell? ⟨gb560, 1, none⟩ = some (.slice Ao17 t555.length co17)) (ds := []) #[false, false, false, false, false, false, false, false] (by kernel_rfl) rfl rfl ⟨(blk_cell BK560.out 0).trans rfl, (blk_cell BK560.out 1).trans rfl⟩ (fun hHeld => ?_); refine with_tabW spec_DrawWeightOfSet.tab4 spec_DrawWeightOfSet.bits4 (fun HT_ HW_ => ?_)
  generalize w18.drew = w19 at HO548 HO557 BK541 BK560 HI545 HB hHeld ⊢
  refine PU 0 18 ?_
  refine PU 2 20 ?_
  refine PU 3 21 ?_
  refine TK 1 19 hHeld ?_
  refine ON 4 22 (fun K hK => ?_)
  refine GO Try.func30 #[.pointer (some ⟨g545, 0, none⟩), .slice Ao11 t546.length co11] ?_
  with_reducible refine (spec_l10DrawSet.calls k g545 t542 t558 t559 _ _ t546 t561 t564 t565 w _ ?side1 ?side2 ?side3 ?side4 A6.out).mono ?_
  (case side1 => repeat (first | (with_reducible first | exact HI545.out | apply IsS75.alloc | apply IsS75.drewN | apply IsS75.drew | apply IsS75.set_1 | apply IsS75.set_2 | refine IsS75.far ?_ NB545_541.out _ | refine IsS75.far ?_ NB545_560.out _) | exact HI545.out))
  (case side2 => repeat (first | (with_reducible first | exact HB.out | apply below_alloc | apply pw_below_drewN | apply below_drew1 | refine below_set ?_ (IsS75.ge HI545.out) | refine below_set ?_ GE541.out | refine below_set ?_ GE560.out) | exact HB.out))
  (case side3 => exact Kd.C_foot_own (IsS75.apart (show IsS75 w _ g545 t542 t558 t559 from by repeat (first | (with_reducible first | exact HI545.out | apply IsS75.alloc | apply IsS75.drewN | apply IsS75.drew | apply IsS75.set_1 | apply IsS75.set_2 | refine IsS75.far ?_ NB545_541.out _ | refine IsS75.far ?_ NB545_560.out _) | exact HI545.out)) (R1 HO548) (by decide)) (fun _ h_ => h_.2))
  (case side4 => exact (Kd.R_reads' HO548.out).2.1)
  rintro e w20 ⟨v562, rfl, ho0, hi, hb, hk⟩
  refine ⟨_, rfl, ?_⟩
  replace BK541 := Aside0.mk (KeepBut.blk hk (g' := gb541) (o := .cells #[.int .i64 0, .slice none 0 0] 27 (0, 0)) (B1 BK541) NB541_545.out (by simp))
  replace HO548 := Aside0.mk (Kd.R_mono (Kd.R_keep (IsS75.apart (show IsS75 w _ g545 t542 t558 t559 from by repeat (first | (with_reducible first | exact HI545.out | apply IsS75.alloc | apply IsS75.drewN | apply IsS75.drew | apply IsS75.set_1 | apply IsS75.set_2 | refine IsS75.far ?_ NB545_541.out _ | refine IsS75.far ?_ NB545_560.out _) | exact HI545.out)) (R1 HO548) (by decide)) hk (fun _ h => h.2)) (fun _ h => h.1))
  replace BK560 := Aside0.mk (KeepBut.blk hk (g' := gb560) (o := .cells #[.int .i64 t554, .slice Ao17 t555.length co17] 27 (0, 0)) (B1 BK560) NB560_545.out (by simp))
  have HO563 := Aside0.mk (Kd.R_lower (Kd.R_new' ho0 (Kd.R_lt (R1 HO557))) (below_size (by repeat (first | (with_reducible first | exact HB.out | apply below_alloc | apply pw_below_drewN | apply below_drew1 | refine below_set ?_ (IsS75.ge HI545.out) | refine below_set ?_ GE541.out | refine below_set ?_ GE560.out) | exact HB.out))))
  replace HO557 := Aside0.mk (Kd.R_mono (Kd.R_told (Kd.R_oldK (IsS75.apart (show IsS75 w _ g545 t542 t558 t559 from by repeat (first | (with_reducible first | exact HI545.out | apply IsS75.alloc | apply IsS75.drewN | apply IsS75.drew | apply IsS75.set_1 | apply IsS75.set_2 | refine IsS75.far ?_ NB545_541.out _ | refine IsS75.far ?_ NB545_560.out _) | exact HI545.out)) (R1 HO557) (by decide)) hk) (Kd.R_base ho0)) (fun _ h_ => h_.1))
  replace HB := Aside0.mk (hb)
  replace HI545 := Aside0.mk (hi)
  (try clear hb)
  (try clear hb2)
  (try clear hk)
  (try clear hi)
  (try clear ho0)
  refine hK.out _ _ ⟨(blk_cell BK560.out 0).trans rfl, (blk_cell BK560.out 1).trans rfl⟩ (fun hHeld => ?_)
  clear hK K
  refine NM 22 ?_
  refine PU 5 2 ?_
  refine one_ (i := 6) (N := none) #[true, true, true, true, true, true, true, false] rfl rfl (one_of HT_.out (by kernel_rfl)) (by decide) (fun K hK => ?_)
  have hs21 : w20.cell? ⟨gb541, 0, none⟩ = some (.int .i64 0) := (blk_cell BK541.out 0).trans rfl
  have hfs21 := blk_frozen BK541.out 0
  have hns21_1 := NB560_541.out
  have hms21_1 := NB541_560.out
  have hs22 : w20.cell? ⟨gb541, 1, none⟩ = some (.slice none 0 0) := (blk_cell BK541.out 1).trans rfl
  have hfs22 := blk_frozen BK541.out 1
  have hns22_1 := NB560_541.out
  have hms22_1 := NB541_560.out
  refine skip_ (w1 := ?_) (by rfl) rfl ?_ ?_
  rotate_left
  · go_simp
    rfl
  refine hK.out _ _ ⟨((cell_far (p := ⟨gb541, _, none⟩) NB560_541.out _).trans (((cell_far (p := ⟨gb541, _, none⟩) NB560_541.out _).trans (hHeld.1)))), ((cell_far (p := ⟨gb541, _, none⟩) NB560_541.out _).trans (((cell_far (p := ⟨gb541, _, none⟩) NB560_541.out _).trans (hHeld.2))))⟩ (fun hHeld => ?_)
  clear hK K
  refine PU 7 4 ?_
  refine done_ (done_of HT_.out (by kernel_rfl)) ?_
  try go_wp2
  refine bodyPost_ret (results_list (rs := [.tmp 2, .cell 3 27, .tmp 4]) rfl (by simp) (.tmp (.cell gb541 27 #[.int .i64 t554, .slice Ao17 t555.length co17] (0, 0) _ rfl (by (with_reducible repeat (first | refine blk_drewN ?_ _ | refine blk_drew ?_ | refine blk_alloc ?_ _)); refine blk_put (cs := #[.int .i64 t554, .slice none 0 0]) ?_ 1 _ rfl; (with_reducible repeat (first | refine blk_drewN ?_ _ | refine blk_drew ?_ | refine blk_alloc ?_ _)); refine blk_put (cs := #[.int .i64 0, .slice none 0 0]) ?_ 0 _ rfl; (with_reducible repeat (first | refine blk_drewN ?_ _ | refine blk_drew ?_ | refine blk_alloc ?_ _)); exact BK541.out) Try.underlying27 rfl (by kernel_rfl) (.tmp .nil)))) rfl ?_
  exact ⟨_, _, _, Fin, by (with_reducible repeat (first | apply Kd.R_alloc | apply Kd.R_drewN | apply Kd.R_drew)); exact Kd.R_mono (Kd.R_far (p := ⟨gb541, 1, none⟩) (Kd.R_far (p := ⟨gb541, 0, none⟩) (Kd.R_types HO548.out BK541.out (by decide)) (fun _ hk => hk.2) (.int .i64 t554)) (fun _ hk => hk.2) (.slice Ao17 t555.length co17)) (fun _ hk => trivial), by (with_reducible repeat (first | apply Kd.R_alloc | apply Kd.R_drewN | apply Kd.R_drew)); exact Kd.R_mono (Kd.R_far (p := ⟨gb541, 1, none⟩) (Kd.R_far (p := ⟨gb541, 0, none⟩) (Kd.R_types HO557.out BK541.out (by decide)) (fun _ hk => hk.2) (.int .i64 t554)) (fun _ hk => hk.2) (.slice Ao17 t555.length co17)) (fun _ hk => hk.1.2), by (with_reducible repeat (first | apply Kd.R_alloc | apply Kd.R_drewN | apply Kd.R_drew)); exact Kd.R_mono (Kd.R_far (p := ⟨gb541, 1, none⟩) (Kd.R_far (p := ⟨gb541, 0, none⟩) (Kd.R_types HO563.out BK541.out (by decide)) (fun _ hk => hk.2) (.int .i64 t554)) (fun _ hk => hk.2) (.slice Ao17 t555.length co17)) (fun _ hk => hk.1.2), by repeat (first | (with_reducible first | exact HB.out | apply below_alloc | apply pw_below_drewN | apply below_drew1 | refine below_set ?_ (IsS75.ge HI545.out) | refine below_set ?_ GE541.out | refine below_set ?_ GE560.out) | exact HB.out)⟩

end Go.Proofs.Ytpnlidfebnkgmaa.XFnWeightSums
