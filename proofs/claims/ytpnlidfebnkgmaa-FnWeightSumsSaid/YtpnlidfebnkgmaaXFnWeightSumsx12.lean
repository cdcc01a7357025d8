-- Written by ext.py (wip/) over the kit's print: not trusted, Lean checks it.
import Derived.Test.YtpnlidfebnkgmaaXFnWeightSumsx0
import Derived.Test.YtpnlidfebnkgmaaXFnWeightSumsx2
import Derived.Test.YtpnlidfebnkgmaaXFnWeightSumsx5
import Derived.Test.YtpnlidfebnkgmaaXFnWeightSumsx6
import Derived.Test.YtpnlidfebnkgmaaXFnWeightSumsx7
import Derived.Test.YtpnlidfebnkgmaaXFnWeightSumsx8
import Derived.Test.YtpnlidfebnkgmaaXFnWeightSumsx9
import Derived.Test.YtpnlidfebnkgmaaXFnWeightSumsx10
namespace Go.Proofs.Ytpnlidfebnkgmaa.XFnWeightSums
open Go.RowKit Go.Proofs.YtpnlidfebnkgmaaW.PrintWords Go.Proofs.YtpnlidfebnkgmaaW.PrintLast Go.Proofs.YtpnlidfebnkgmaaW.PrintMore
attribute [local go_sem] max2_int min2_int max_two min_two max_three min_three max_four min_four   -- for this text's walks alone
set_option linter.unusedVariables false
set_option linter.unusedSimpArgs false

/-! ### impl_isIncreasing: function 31 -/
def impl_isIncreasing.l0 : Nat → List Int → Int → List Int → Int → Int → Option (Bool)
  | 0, _, _, _, _, _ => none
  | k + 1, x0, x1, x7, x8, x9 => if x9 < x8 then (if 0 ≤ x9 then (if x9 < (x7.length : Int) then ((impl_within.f (rd x7 x9) 0 (wrap64 (x1 - 1))).bind fun t567 => (if t567 = true then (if x9 > 0 then (if 0 ≤ (wrap64 (x9 - 1)) then (if (wrap64 (x9 - 1)) < (x0.length : Int) then (if (rd x7 x9) ≤ (rd x0 (wrap64 (x9 - 1))) then (some false) else (impl_isIncreasing.l0 k x0 x1 x7 x8 (wrap64 (x9 + 1)))) else (none)) else (none)) else (impl_isIncreasing.l0 k x0 x1 x7 x8 (wrap64 (x9 + 1)))) else (some false))) else (none)) else (none)) else (some true)
def impl_isIncreasing.f (k : Nat) (l0 : List Int) (a1 : Int) : Option (Bool) := impl_isIncreasing.l0 k l0 a1 l0 (l0.length : Int) 0
theorem impl_isIncreasing.mono_l : ∀ k, (∀ y0 y1 y2 y3 y4, LeO (impl_isIncreasing.l0 k y0 y1 y2 y3 y4) (impl_isIncreasing.l0 (k + 1) y0 y1 y2 y3 y4))
  | 0 => fun _ _ _ _ _ r h => by simp [impl_isIncreasing.l0] at h
  | k + 1 => by
    have ih0 := impl_isIncreasing.mono_l k
    · intro y0 y1 y2 y3 y4
      unfold impl_isIncreasing.l0
      repeat' first
      | (with_reducible exact ih0 _ _ _ _ _)
      | (with_reducible exact LeO.refl _)
      | (with_reducible exact LeO.none _)
      | (with_reducible refine LeO.ite ?_ ?_)
      | (with_reducible refine LeO.bind ?_ (fun _ => ?_))
      | exact ih0 _ _ _ _ _
      | exact LeO.none _
      | refine LeO.ite ?_ ?_
      | refine LeO.bind ?_ (fun _ => ?_)
theorem impl_isIncreasing.mono : ∀ a0 a1 k, LeO (impl_isIncreasing.f k a0 a1) (impl_isIncreasing.f (k + 1) a0 a1) := by
  intro a0 a1 k
  have ih0 := impl_isIncreasing.mono_l k
  unfold impl_isIncreasing.f
  repeat' first
      | (with_reducible exact ih0 _ _ _ _ _)
      | (with_reducible exact LeO.refl _)
      | (with_reducible exact LeO.none _)
      | (with_reducible refine LeO.ite ?_ ?_)
      | (with_reducible refine LeO.bind ?_ (fun _ => ?_))
      | exact ih0 _ _ _ _ _
      | exact LeO.none _
      | refine LeO.ite ?_ ?_
      | refine LeO.bind ?_ (fun _ => ?_)
set_option maxHeartbeats 8000000 in
set_option maxRecDepth 100000 in
theorem impl_isIncreasing.calls (k : Nat) (A0 : Option Addr) (c0 : Nat) (l0 : List Int) (a1 : Int) (r : Bool) (w : World) (hr0 : Kd.C (Kd.int .i64) w A0 l0.length l0) (hc0 : l0.length ≤ c0) (h : impl_isIncreasing.f k l0 a1 = some r) :
    Calls Try.prog 31 #[.slice A0 l0.length c0, .int .i64 a1] w fun e w' => e = .returned (.bool r) ∧ Drawn0 w w' := by
  have HR0 := Aside0.mk hr0
  have HC0 := Aside0.mk hc0
  clear hr0 hc0
  have H : (impl_isIncreasing.l0 k l0 a1 l0 (l0.length : Int) 0) = some r := h
  clear h
  have H' := Aside0.mk H
  clear H
  go_enter Try.func31, Try.ntmps31
  go_wp2
  go_loopg [9] k (fun kq v9 w' => ∃ (x9_1 : Int), v9 = .int .i64 x9_1 ∧ Aside0 (impl_isIncreasing.l0 kq l0 a1 l0 (l0.length : Int) x9_1 = some r) ∧ Aside0 (kq ≤ k) ∧ Drawn0 w w')
  case atStart => exact ⟨(0), Fs, H', ⟨Nat.le_refl _⟩, by repeat (first | exact Drawn0.refl _ | apply Drawn0.step)⟩
  case round =>
    clear H'
    try clear p2
    obtain ⟨x9_1, rfl, HA, HK1, ⟨m1, rfl⟩⟩ := hrel
    cases gk with
    | zero => exact absurd HA.out (by simp [impl_isIncreasing.l0])
    | succ k1 =>
      have H := HA.out
      clear HA
      simp only [impl_isIncreasing.l0] at H
      by_cases c3 : x9_1 < (l0.length : Int)
      · rw [if_pos c3] at H
        have c3b0 : decide (x9_1 < (l0.length : Int)) = true := decide_eq_true c3
        clear c3
        by_cases c4 : 0 ≤ x9_1
        · rw [if_pos c4] at H
          have c4b0 : decide (0 ≤ x9_1) = true := decide_eq_true c4
          clear c4
          by_cases c5 : x9_1 < (l0.length : Int)
          · rw [if_pos c5] at H
            have c5b0 : decide (x9_1 < (l0.length : Int)) = true := decide_eq_true c5
            clear c5
            obtain ⟨t567, A60, H⟩ := Option.bind_eq_some_iff.mp H
            have A6 := Aside0.mk A60
            clear A60
            by_cases c7 : t567 = true
            · subst c7
              rw [if_pos rfl] at H
              by_cases c8 : x9_1 > 0
              · rw [if_pos c8] at H
                have c8b0 : decide (0 < x9_1) = true := decide_eq_true c8
                clear c8
                obtain ⟨ji9, hji9⟩ : ∃ j_ : Int, (wrap64 (x9_1 - 1)) = j_ := ⟨_, rfl⟩
                replace H : (if 0 ≤ (ji9) then (if (ji9) < (l0.length : Int) then (if (rd l0 x9_1) ≤ (rd l0 (ji9)) then (some false) else (impl_isIncreasing.l0 k1 l0 a1 l0 (l0.length : Int) (wrap64 (x9_1 + 1)))) else (none)) else (none)) = some r := by first | (rw [hji9] at H; exact H) | (simp only [hji9] at H ⊢; exact H)
                (try rw [hji9] at A6)
                have hji9w : (IntKind.i64.wrap (x9_1 - 1)) = ji9 := (i64_w _).trans hji9
                by_cases c10 : 0 ≤ (ji9)
                · rw [if_pos c10] at H
                  have c10b0 : decide (0 ≤ (ji9)) = true := decide_eq_true c10
                  clear c10
                  by_cases c11 : (ji9) < (l0.length : Int)
                  · rw [if_pos c11] at H
                    have c11b0 : decide ((ji9) < (l0.length : Int)) = true := decide_eq_true c11
                    clear c11
                    by_cases c12 : (rd l0 x9_1) ≤ (rd l0 (ji9))
                    · rw [if_pos c12] at H
                      have c12b0 : decide ((rd l0 x9_1) ≤ (rd l0 (ji9))) = true := decide_eq_true c12
                      clear c12
                      obtain rfl := Option.some.inj H
                      have p566 : 0 ≤ (x9_1 : Int) := oD
                      have q566 : x9_1 < (l0.length : Int) := oD
                      obtain ⟨ad566, e566, hx566_0⟩ := Kd.at_int HR0.out x9_1 p566 q566
                      cases e566
                      replace p566 := eq_true p566
                      replace q566 := eq_true q566
                      go_wp2_with (first | ((with_reducible refine gC 59 ?_); refine GL (some 17) Try.func59 #[.int .i64 (rd l0 x9_1), .int .i64 0, .int .i64 (wrap64 (a1 - 1))] ?_; (with_reducible refine (impl_within.calls (rd l0 x9_1) 0 (wrap64 (a1 - 1)) true _ A6.out).mono ?_); rintro e w' ⟨rfl, ⟨nd, rfl⟩⟩; refine ⟨_, rfl, ?_⟩; have p568 : 0 ≤ ((ji9) : Int) := oD; have q568 : (ji9) < (l0.length : Int) := oD; obtain ⟨ad568, e568, hx568_0⟩ := Kd.at_int HR0.out (ji9) p568 q568; obtain rfl : ad566 = ad568 := (by injection e568); replace p568 := eq_true p568; replace q568 := eq_true q568))
                      go_ret
                      exact ⟨by first | rfl | (simp; done) | (simp only [← hji9] <;> (first | rfl | simp)) | (simp [*]; done), by repeat (first | exact Drawn0.refl _ | apply Drawn0.step)⟩
                    · rw [if_neg c12] at H
                      have c12b0 : decide ((rd l0 x9_1) ≤ (rd l0 (ji9))) = false := decide_eq_false c12
                      clear c12
                      have H' := Aside0.mk H
                      clear H
                      have p566 : 0 ≤ (x9_1 : Int) := oD
                      have q566 : x9_1 < (l0.length : Int) := oD
                      obtain ⟨ad566, e566, hx566_0⟩ := Kd.at_int HR0.out x9_1 p566 q566
                      cases e566
                      replace p566 := eq_true p566
                      replace q566 := eq_true q566
                      go_wp2_with (first | ((with_reducible refine gC 59 ?_); refine GL (some 17) Try.func59 #[.int .i64 (rd l0 x9_1), .int .i64 0, .int .i64 (wrap64 (a1 - 1))] ?_; (with_reducible refine (impl_within.calls (rd l0 x9_1) 0 (wrap64 (a1 - 1)) true _ A6.out).mono ?_); rintro e w' ⟨rfl, ⟨nd, rfl⟩⟩; refine ⟨_, rfl, ?_⟩; have p568 : 0 ≤ ((ji9) : Int) := oD; have q568 : (ji9) < (l0.length : Int) := oD; obtain ⟨ad568, e568, hx568_0⟩ := Kd.at_int HR0.out (ji9) p568 q568; obtain rfl : ad566 = ad568 := (by injection e568); replace p568 := eq_true p568; replace q568 := eq_true q568))
                      go_roundg k1
                      case measure => have := HK1.out; omega
                      case rel => exact ⟨(wrap64 (x9_1 + 1)), Fs, H', ⟨by have := HK1.out; omega⟩, by repeat (first | exact Drawn0.refl _ | apply Drawn0.step)⟩
                  · rw [if_neg c11] at H
                    exact absurd H (by simp)
                · rw [if_neg c10] at H
                  exact absurd H (by simp)
              · rw [if_neg c8] at H
                have c8b0 : decide (0 < x9_1) = false := decide_eq_false c8
                clear c8
                have H' := Aside0.mk H
                clear H
                have p566 : 0 ≤ (x9_1 : Int) := oD
                have q566 : x9_1 < (l0.length : Int) := oD
                obtain ⟨ad566, e566, hx566_0⟩ := Kd.at_int HR0.out x9_1 p566 q566
                cases e566
                replace p566 := eq_true p566
                replace q566 := eq_true q566
                go_wp2_with (first | ((with_reducible refine gC 59 ?_); refine GL (some 17) Try.func59 #[.int .i64 (rd l0 x9_1), .int .i64 0, .int .i64 (wrap64 (a1 - 1))] ?_; (with_reducible refine (impl_within.calls (rd l0 x9_1) 0 (wrap64 (a1 - 1)) true _ A6.out).mono ?_); rintro e w' ⟨rfl, ⟨nd, rfl⟩⟩; refine ⟨_, rfl, ?_⟩))
                go_roundg k1
                case measure => have := HK1.out; omega
                case rel => exact ⟨(wrap64 (x9_1 + 1)), Fs, H', ⟨by have := HK1.out; omega⟩, by repeat (first | exact Drawn0.refl _ | apply Drawn0.step)⟩
            · replace c7 := Bool.eq_false_iff.mpr c7
              subst c7
              rw [if_neg (show ¬ (false = true) by decide)] at H
              obtain rfl := Option.some.inj H
              have p566 : 0 ≤ (x9_1 : Int) := oD
              have q566 : x9_1 < (l0.length : Int) := oD
              obtain ⟨ad566, e566, hx566_0⟩ := Kd.at_int HR0.out x9_1 p566 q566
              cases e566
              replace p566 := eq_true p566
              replace q566 := eq_true q566
              go_wp2_with (first | ((with_reducible refine gC 59 ?_); refine GL (some 17) Try.func59 #[.int .i64 (rd l0 x9_1), .int .i64 0, .int .i64 (wrap64 (a1 - 1))] ?_; (with_reducible refine (impl_within.calls (rd l0 x9_1) 0 (wrap64 (a1 - 1)) false _ A6.out).mono ?_); rintro e w' ⟨rfl, ⟨nd, rfl⟩⟩; refine ⟨_, rfl, ?_⟩))
              go_ret
              exact ⟨Fs, by repeat (first | exact Drawn0.refl _ | apply Drawn0.step)⟩
          · rw [if_neg c5] at H
            exact absurd H (by simp)
        · rw [if_neg c4] at H
          exact absurd H (by simp)
      · rw [if_neg c3] at H
        have c3b0 : decide (x9_1 < (l0.length : Int)) = false := decide_eq_false c3
        clear c3
        obtain rfl := Option.some.inj H
        go_wp2
        go_ret
        exact ⟨Fs, by repeat (first | exact Drawn0.refl _ | apply Drawn0.step)⟩

/-! ### impl_Weighting_of: function 32 -/
def impl_Weighting_of.l0 : Nat → Int → List Int → Int → Int → Int → List Int → Option (Int)
  | 0, _, _, _, _, _, _ => none
  | k + 1, x5, x8, x9, x10, x570000, x570001 => if x10 < x9 then (if 0 ≤ x10 then (if x10 < (x8.length : Int) then (if 0 ≤ (rd x8 x10) then (if (rd x8 x10) < (x570001.length : Int) then (impl_Weighting_of.l0 k (wrap64 (x5 + (rd x570001 (rd x8 x10)))) x8 x9 (wrap64 (x10 + 1)) x570000 x570001) else (none)) else (none)) else (none)) else (none)) else (if x570000 = 0 then (none) else (some (Int.tmod x5 x570000)))
def impl_Weighting_of.f (k : Nat) (a0_0 : Int) (l0_1 : List Int) (l1 : List Int) : Option (Int) := impl_Weighting_of.l0 k 0 l1 (l1.length : Int) 0 a0_0 l0_1
theorem impl_Weighting_of.mono_l : ∀ k, (∀ y0 y1 y2 y3 y4 y5, LeO (impl_Weighting_of.l0 k y0 y1 y2 y3 y4 y5) (impl_Weighting_of.l0 (k + 1) y0 y1 y2 y3 y4 y5))
  | 0 => fun _ _ _ _ _ _ r h => by simp [impl_Weighting_of.l0] at h
  | k + 1 => by
    have ih0 := impl_Weighting_of.mono_l k
    · intro y0 y1 y2 y3 y4 y5
      unfold impl_Weighting_of.l0
      repeat' first
      | (with_reducible exact ih0 _ _ _ _ _ _)
      | (with_reducible exact LeO.refl _)
      | (with_reducible exact LeO.none _)
      | (with_reducible refine LeO.ite ?_ ?_)
      | (with_reducible refine LeO.bind ?_ (fun _ => ?_))
      | exact ih0 _ _ _ _ _ _
      | exact LeO.none _
      | refine LeO.ite ?_ ?_
      | refine LeO.bind ?_ (fun _ => ?_)
theorem impl_Weighting_of.mono : ∀ a0 a1 a2 k, LeO (impl_Weighting_of.f k a0 a1 a2) (impl_Weighting_of.f (k + 1) a0 a1 a2) := by
  intro a0 a1 a2 k
  have ih0 := impl_Weighting_of.mono_l k
  unfold impl_Weighting_of.f
  repeat' first
      | (with_reducible exact ih0 _ _ _ _ _ _)
      | (with_reducible exact LeO.refl _)
      | (with_reducible exact LeO.none _)
      | (with_reducible refine LeO.ite ?_ ?_)
      | (with_reducible refine LeO.bind ?_ (fun _ => ?_))
      | exact ih0 _ _ _ _ _ _
      | exact LeO.none _
      | refine LeO.ite ?_ ?_
      | refine LeO.bind ?_ (fun _ => ?_)
set_option maxHeartbeats 8000000 in
set_option maxRecDepth 100000 in
theorem impl_Weighting_of.calls (k : Nat) (a0_0 : Int) (A0_1 : Option Addr) (c0_1 : Nat) (l0_1 : List Int) (A1 : Option Addr) (c1 : Nat) (l1 : List Int) (r : Int) (w : World) (hr0_1 : Kd.C (Kd.int .i64) w A0_1 l0_1.length l0_1) (hc0_1 : l0_1.length ≤ c0_1) (hr1 : Kd.C (Kd.int .i64) w A1 l1.length l1) (hc1 : l1.length ≤ c1) (h : impl_Weighting_of.f k a0_0 l0_1 l1 = some r) :
    Calls Try.prog 32 #[.agg #[.int .i64 a0_0, .slice A0_1 l0_1.length c0_1], .slice A1 l1.length c1] w fun e w' => e = .returned (.int .i64 r) ∧ Below w.heap.size w w' := by
  have hu27 := Try.underlying27
  have HR0_1 := Aside0.mk hr0_1
  have HC0_1 := Aside0.mk hc0_1
  clear hr0_1 hc0_1
  have HR1 := Aside0.mk hr1
  have HC1 := Aside0.mk hc1
  clear hr1 hc1
  have HB := Aside0.mk (Below.refl w.heap.size w)
  have H : (impl_Weighting_of.l0 k 0 l1 (l1.length : Int) 0 a0_0 l0_1) = some r := h
  clear h
  have H' := Aside0.mk H
  clear H
  go_enter Try.func32, Try.ntmps32
  go_wp2_with (first | ((with_reducible refine gD 2 ?_); refine BX #[.int .i64 a0_0, .slice A0_1 l0_1.length c0_1] 27 ?_; intro gb569 hg w3 hbox hb; have BK569 := Aside0.mk (hbox); have GW569 := Aside0.mk ((Gle hg Hb : w.heap.size ≤ gb569)); have GE569 := Aside0.mk ((Gle hg Hb : w.heap.size ≤ gb569)); replace HB := Aside0.mk (below_step Hb hb); clear hb hbox hg))
  go_loopg [5, 10] k (fun kq v5 v10 w' => ∃ (x5_1 : Int) (x10_1 : Int), v5 = .int .i64 x5_1 ∧ v10 = .int .i64 x10_1 ∧ Aside0 (impl_Weighting_of.l0 kq x5_1 l1 (l1.length : Int) x10_1 a0_0 l0_1 = some r) ∧ Aside0 (kq ≤ k) ∧ Aside0 (w'.heap[gb569]? = some (.cells #[.int .i64 a0_0, (.slice A0_1 l0_1.length c0_1)] 27 (0, 0))) ∧ Aside0 (Below w.heap.size w w'))
  case atStart => exact ⟨(0), (0), Fs, Fs, H', ⟨Nat.le_refl _⟩, ⟨B1 BK569⟩, ⟨Hb⟩⟩
  case round =>
    clear H'
    try clear c1
    try clear p2
    try clear c3
    obtain ⟨x5_1, x10_1, rfl, rfl, HA, HK1, BK569, HB⟩ := hrel
    cases gk with
    | zero => exact absurd HA.out (by simp [impl_Weighting_of.l0])
    | succ k1 =>
      have H := HA.out
      clear HA
      simp only [impl_Weighting_of.l0] at H
      by_cases c4 : x10_1 < (l1.length : Int)
      · rw [if_pos c4] at H
        have c4b0 : decide (x10_1 < (l1.length : Int)) = true := decide_eq_true c4
        clear c4
        by_cases c5 : 0 ≤ x10_1
        · rw [if_pos c5] at H
          have c5b0 : decide (0 ≤ x10_1) = true := decide_eq_true c5
          clear c5
          by_cases c6 : x10_1 < (l1.length : Int)
          · rw [if_pos c6] at H
            have c6b0 : decide (x10_1 < (l1.length : Int)) = true := decide_eq_true c6
            clear c6
            by_cases c7 : 0 ≤ (rd l1 x10_1)
            · rw [if_pos c7] at H
              have c7b0 : decide (0 ≤ (rd l1 x10_1)) = true := decide_eq_true c7
              clear c7
              by_cases c8 : (rd l1 x10_1) < (l0_1.length : Int)
              · rw [if_pos c8] at H
                have c8b0 : decide ((rd l1 x10_1) < (l0_1.length : Int)) = true := decide_eq_true c8
                clear c8
                have H' := Aside0.mk H
                clear H
                have p570 : 0 ≤ (x10_1 : Int) := oD
                have q570 : x10_1 < (l1.length : Int) := oD
                obtain ⟨ad570, e570, hx570_0⟩ := Kd.at_int HR1.out x10_1 p570 q570
                cases e570
                replace hx570_0 := hxb hx570_0
                replace p570 := eq_true p570
                replace q570 := eq_true q570
                have hcz9_0 : wr.cell? ⟨gb569, 0, none⟩ = some (.int .i64 a0_0) := bc BK569
                have hcz9_1 : wr.cell? ⟨gb569, 1, none⟩ = some (.slice A0_1 l0_1.length c0_1) := bc BK569
                have hfz9_0 := blk_frozen BK569.out 0
                have hfz9_1 := blk_frozen BK569.out 1
                have p571 : 0 ≤ ((rd l1 x10_1) : Int) := oD
                have q571 : (rd l1 x10_1) < (l0_1.length : Int) := oD
                obtain ⟨ad571, e571, hx571_0⟩ := Kd.at_int HR0_1.out (rd l1 x10_1) p571 q571
                cases e571
                replace hx571_0 := hxb hx571_0
                replace p571 := eq_true p571
                replace q571 := eq_true q571
                go_wp2
                go_roundg k1
                case measure => have := HK1.out; omega
                case rel => exact ⟨(wrap64 (x5_1 + (rd l0_1 (rd l1 x10_1)))), (wrap64 (x10_1 + 1)), Fs, Fs, H', ⟨by have := HK1.out; omega⟩, ⟨B1 BK569⟩, ⟨Hb⟩⟩
              · rw [if_neg c8] at H
                exact absurd H (by simp)
            · rw [if_neg c7] at H
              exact absurd H (by simp)
          · rw [if_neg c6] at H
            exact absurd H (by simp)
        · rw [if_neg c5] at H
          exact absurd H (by simp)
      · rw [if_neg c4] at H
        have c4b0 : decide (x10_1 < (l1.length : Int)) = false := decide_eq_false c4
        clear c4
        by_cases c10 : a0_0 = 0
        · rw [if_pos c10] at H
          exact absurd H (by simp)
        · rw [if_neg c10] at H
          have c10b0 : (a0_0 == 0) = false := beq_eq_false_iff_ne.mpr c10
          have c10b1 : (a0_0 != 0) = true := bne_iff_ne.mpr c10
          obtain rfl := Option.some.inj H
          have hcz11_0 : wr.cell? ⟨gb569, 0, none⟩ = some (.int .i64 a0_0) := bc BK569
          have hcz11_1 : wr.cell? ⟨gb569, 1, none⟩ = some (.slice A0_1 l0_1.length c0_1) := bc BK569
          have hfz11_0 := blk_frozen BK569.out 0
          have hfz11_1 := blk_frozen BK569.out 1
          go_wp2
          go_ret
          exact ⟨Fin, Hb⟩

/-! ### impl_WeightOfSet: function 10 -/
def impl_WeightOfSet.f (k : Nat) (l0 : List (S68)) (a1_0 : Int) (l1_1 : List Int) (l2 : List Int) : Option (Int × Int) := (impl_IsRegion.f k l0).bind fun t573 => (if t573 = true then ((impl_isWeighting.f l0 a1_0 l1_1).bind fun t574 => (if t574 = true then ((impl_isIncreasing.f k l2 (l0.length : Int)).bind fun t575 => (if t575 = true then ((impl_Weighting_of.f k a1_0 l1_1 l2).bind fun t576 => (some (t576, 0))) else (some (0, 2)))) else (some (0, 2)))) else (some (0, 1)))
theorem impl_WeightOfSet.mono : ∀ a0 a1 a2 a3 k, LeO (impl_WeightOfSet.f k a0 a1 a2 a3) (impl_WeightOfSet.f (k + 1) a0 a1 a2 a3) := by
  intro a0 a1 a2 a3 k
  unfold impl_WeightOfSet.f
  repeat' first
      | (with_reducible exact impl_IsRegion.mono _ _)
      | (with_reducible exact impl_Weighting_of.mono _ _ _ _)
      | (with_reducible exact impl_isIncreasing.mono _ _ _)
      | (with_reducible exact LeO.refl _)
      | (with_reducible exact LeO.none _)
      | (with_reducible refine LeO.ite ?_ ?_)
      | (with_reducible refine LeO.bind ?_ (fun _ => ?_))
      | exact impl_IsRegion.mono _ _
      | exact impl_Weighting_of.mono _ _ _ _
      | exact impl_isIncreasing.mono _ _ _
      | exact LeO.none _
      | refine LeO.ite ?_ ?_
      | refine LeO.bind ?_ (fun _ => ?_)
set_option maxHeartbeats 8000000 in
set_option maxRecDepth 100000 in
theorem impl_WeightOfSet.calls (k : Nat) (A0 : Option Addr) (c0 : Nat) (l0 : List (S68)) (a1_0 : Int) (A1_1 : Option Addr) (c1_1 : Nat) (l1_1 : List Int) (A2 : Option Addr) (c2 : Nat) (l2 : List Int) (r1 : Int) (r2 : Int) (w : World) (hr0 : Kd.C k68 w A0 l0.length l0) (hc0 : l0.length ≤ c0) (hr1_1 : Kd.C (Kd.int .i64) w A1_1 l1_1.length l1_1) (hc1_1 : l1_1.length ≤ c1_1) (hr2 : Kd.C (Kd.int .i64) w A2 l2.length l2) (hc2 : l2.length ≤ c2) (h : impl_WeightOfSet.f k l0 a1_0 l1_1 l2 = some (r1, r2)) :
    Calls Try.prog 10 #[.slice A0 l0.length c0, .agg #[.int .i64 a1_0, .slice A1_1 l1_1.length c1_1], .slice A2 l2.length c2] w fun e w' => e = .returned (.tuple #[.int .i64 r1, .int .i64 r2]) ∧ Below w.heap.size w w' := by
  have hu27 := Try.underlying27
  have HR0 := Aside0.mk hr0
  have HC0 := Aside0.mk hc0
  clear hr0 hc0
  have HR1_1 := Aside0.mk hr1_1
  have HC1_1 := Aside0.mk hc1_1
  clear hr1_1 hc1_1
  have HR2 := Aside0.mk hr2
  have HC2 := Aside0.mk hc2
  clear hr2 hc2
  have HB := Aside0.mk (Below.refl w.heap.size w)
  have H : ((impl_IsRegion.f k l0).bind fun t573 => (if t573 = true then ((impl_isWeighting.f l0 a1_0 l1_1).bind fun t574 => (if t574 = true then ((impl_isIncreasing.f k l2 (l0.length : Int)).bind fun t575 => (if t575 = true then ((impl_Weighting_of.f k a1_0 l1_1 l2).bind fun t576 => (some (t576, 0))) else (some (0, 2)))) else (some (0, 2)))) else (some (0, 1)))) = some (r1, r2) := h
  clear h
  obtain ⟨t573, A40, H⟩ := Option.bind_eq_some_iff.mp H
  have A4 := Aside0.mk A40
  clear A40
  by_cases c5 : t573 = true
  · subst c5
    rw [if_pos rfl] at H
    obtain ⟨t574, A60, H⟩ := Option.bind_eq_some_iff.mp H
    have A6 := Aside0.mk A60
    clear A60
    by_cases c7 : t574 = true
    · subst c7
      rw [if_pos rfl] at H
      obtain ⟨t575, A80, H⟩ := Option.bind_eq_some_iff.mp H
      have A8 := Aside0.mk A80
      clear A80
      by_cases c9 : t575 = true
      · subst c9
        rw [if_pos rfl] at H
        obtain ⟨t576, A100, H⟩ := Option.bind_eq_some_iff.mp H
        have A10 := Aside0.mk A100
        clear A100
        simp only [Option.some.injEq, Prod.mk.injEq] at H
        obtain ⟨rfl, rfl⟩ := H
        go_enter Try.func10, Try.ntmps10
        go_wp2_with (first | ((with_reducible refine gD 4 ?_); (try (refine gate_guard (by rfl) ?_; dsimp only)); refine BX #[.int .i64 a1_0, .slice A1_1 l1_1.length c1_1] 27 ?_; intro gb572 hg w11 hbox hb; have BK572 := Aside0.mk (hbox); have GW572 := Aside0.mk ((Gle hg Hb : w.heap.size ≤ gb572)); have GE572 := Aside0.mk ((Gle hg Hb : w.heap.size ≤ gb572)); replace HB := Aside0.mk (below_step Hb hb); clear hb hbox hg) | ((with_reducible refine gC 26 ?_); refine GL (some 9) Try.func26 #[.slice A0 l0.length c0] ?_; (with_reducible refine (impl_IsRegion.calls k _ _ l0 true _ ?side1 ?side2 A4.out).mono ?_); (case side1 => exact Kd.C_below HR0.out Hb); (case side2 => exact HC0.out); rintro e w12 ⟨rfl, hb⟩; refine ⟨_, rfl, ?_⟩; replace BK572 := Aside0.mk (blk_below (B1 BK572) hb); replace HB := Aside0.mk (below_step Hb hb); (try clear hb); (try clear hb2); (try clear hk); (try clear hi); have hcz13_0 : w12.cell? ⟨gb572, 0, none⟩ = some (.int .i64 a1_0) := bc BK572; have hcz13_1 : w12.cell? ⟨gb572, 1, none⟩ = some (.slice A1_1 l1_1.length c1_1) := bc BK572; have hfz13_0 := blk_frozen BK572.out 0; have hfz13_1 := blk_frozen BK572.out 1) | ((with_reducible refine gC 27 ?_); refine GL (some 13) Try.func27 #[.slice A0 l0.length c0, .agg #[.int .i64 a1_0, .slice A1_1 l1_1.length c1_1]] ?_; (with_reducible refine (impl_isWeighting.calls _ _ l0 a1_0 _ _ l1_1 true _ ?side1 ?side2 ?side3 ?side4 A6.out).mono ?_); (case side1 => exact Kd.C_below HR0.out Hb); (case side2 => exact HC0.out); (case side3 => exact Kd.C_below HR1_1.out Hb); (case side4 => exact HC1_1.out); rintro e w14 ⟨rfl, hb⟩; refine ⟨_, rfl, ?_⟩; replace BK572 := Aside0.mk (blk_below (B1 BK572) hb); replace HB := Aside0.mk (below_step Hb hb); (try clear hb); (try clear hb2); (try clear hk); (try clear hi)) | (go_at_call 31; (with_reducible refine (impl_isIncreasing.calls k _ _ l2 (l0.length : Int) true _ ?side1 ?side2 A8.out).mono ?_); (case side1 => exact Kd.C_below HR2.out Hb); (case side2 => exact HC2.out); rintro e w' ⟨rfl, ⟨nd, rfl⟩⟩; have hcz15_0 : w14.cell? ⟨gb572, 0, none⟩ = some (.int .i64 a1_0) := bc BK572; have hcz15_1 : w14.cell? ⟨gb572, 1, none⟩ = some (.slice A1_1 l1_1.length c1_1) := bc BK572; have hfz15_0 := blk_frozen BK572.out 0; have hfz15_1 := blk_frozen BK572.out 1) | ((with_reducible refine gC 32 ?_); refine GL (some 24) Try.func32 #[.agg #[.int .i64 a1_0, .slice A1_1 l1_1.length c1_1], .slice A2 l2.length c2] ?_; (with_reducible refine (impl_Weighting_of.calls k a1_0 _ _ l1_1 _ _ l2 t576 _ ?side1 ?side2 ?side3 ?side4 A10.out).mono ?_); (case side1 => exact Kd.C_below HR1_1.out Hb); (case side2 => exact HC1_1.out); (case side3 => exact Kd.C_below HR2.out Hb); (case side4 => exact HC2.out); rintro e w16 ⟨rfl, hb⟩; refine ⟨_, rfl, ?_⟩; replace BK572 := Aside0.mk (blk_below (B1 BK572) hb); replace HB := Aside0.mk (below_step Hb hb); (try clear hb); (try clear hb2); (try clear hk); (try clear hi)))
        go_ret2
        exact ⟨Fin, Hb⟩
      · replace c9 := Bool.eq_false_iff.mpr c9
        subst c9
        rw [if_neg (show ¬ (false = true) by decide)] at H
        simp only [Option.some.injEq, Prod.mk.injEq] at H
        obtain ⟨rfl, rfl⟩ := H
        go_enter Try.func10, Try.ntmps10
        go_wp2_with (first | ((with_reducible refine gD 4 ?_); (try (refine gate_guard (by rfl) ?_; dsimp only)); refine BX #[.int .i64 a1_0, .slice A1_1 l1_1.length c1_1] 27 ?_; intro gb572 hg w17 hbox hb; have BK572 := Aside0.mk (hbox); have GW572 := Aside0.mk ((Gle hg Hb : w.heap.size ≤ gb572)); have GE572 := Aside0.mk ((Gle hg Hb : w.heap.size ≤ gb572)); replace HB := Aside0.mk (below_step Hb hb); clear hb hbox hg) | ((with_reducible refine gC 26 ?_); refine GL (some 9) Try.func26 #[.slice A0 l0.length c0] ?_; (with_reducible refine (impl_IsRegion.calls k _ _ l0 true _ ?side1 ?side2 A4.out).mono ?_); (case side1 => exact Kd.C_below HR0.out Hb); (case side2 => exact HC0.out); rintro e w18 ⟨rfl, hb⟩; refine ⟨_, rfl, ?_⟩; replace BK572 := Aside0.mk (blk_below (B1 BK572) hb); replace HB := Aside0.mk (below_step Hb hb); (try clear hb); (try clear hb2); (try clear hk); (try clear hi); have hcz19_0 : w18.cell? ⟨gb572, 0, none⟩ = some (.int .i64 a1_0) := bc BK572; have hcz19_1 : w18.cell? ⟨gb572, 1, none⟩ = some (.slice A1_1 l1_1.length c1_1) := bc BK572; have hfz19_0 := blk_frozen BK572.out 0; have hfz19_1 := blk_frozen BK572.out 1) | ((with_reducible refine gC 27 ?_); refine GL (some 13) Try.func27 #[.slice A0 l0.length c0, .agg #[.int .i64 a1_0, .slice A1_1 l1_1.length c1_1]] ?_; (with_reducible refine (impl_isWeighting.calls _ _ l0 a1_0 _ _ l1_1 true _ ?side1 ?side2 ?side3 ?side4 A6.out).mono ?_); (case side1 => exact Kd.C_below HR0.out Hb); (case side2 => exact HC0.out); (case side3 => exact Kd.C_below HR1_1.out Hb); (case side4 => exact HC1_1.out); rintro e w20 ⟨rfl, hb⟩; refine ⟨_, rfl, ?_⟩; replace BK572 := Aside0.mk (blk_below (B1 BK572) hb); replace HB := Aside0.mk (below_step Hb hb); (try clear hb); (try clear hb2); (try clear hk); (try clear hi)) | (go_at_call 31; (with_reducible refine (impl_isIncreasing.calls k _ _ l2 (l0.length : Int) false _ ?side1 ?side2 A8.out).mono ?_); (case side1 => exact Kd.C_below HR2.out Hb); (case side2 => exact HC2.out); rintro e w' ⟨rfl, ⟨nd, rfl⟩⟩))
        go_ret2
        exact ⟨Fin, Hb⟩
    · replace c7 := Bool.eq_false_iff.mpr c7
      subst c7
      rw [if_neg (show ¬ (false = true) by decide)] at H
      simp only [Option.some.injEq, Prod.mk.injEq] at H
      obtain ⟨rfl, rfl⟩ := H
      go_enter Try.func10, Try.ntmps10
      go_wp2_with (first | ((with_reducible refine gD 4 ?_); (try (refine gate_guard (by rfl) ?_; dsimp only)); refine BX #[.int .i64 a1_0, .slice A1_1 l1_1.length c1_1] 27 ?_; intro gb572 hg w21 hbox hb; have BK572 := Aside0.mk (hbox); have GW572 := Aside0.mk ((Gle hg Hb : w.heap.size ≤ gb572)); have GE572 := Aside0.mk ((Gle hg Hb : w.heap.size ≤ gb572)); replace HB := Aside0.mk (below_step Hb hb); clear hb hbox hg) | ((with_reducible refine gC 26 ?_); refine GL (some 9) Try.func26 #[.slice A0 l0.length c0] ?_; (with_reducible refine (impl_IsRegion.calls k _ _ l0 true _ ?side1 ?side2 A4.out).mono ?_); (case side1 => exact Kd.C_below HR0.out Hb); (case side2 => exact HC0.out); rintro e w22 ⟨rfl, hb⟩; refine ⟨_, rfl, ?_⟩; replace BK572 := Aside0.mk (blk_below (B1 BK572) hb); replace HB := Aside0.mk (below_step Hb hb); (try clear hb); (try clear hb2); (try clear hk); (try clear hi); have hcz23_0 : w22.cell? ⟨gb572, 0, none⟩ = some (.int .i64 a1_0) := bc BK572; have hcz23_1 : w22.cell? ⟨gb572, 1, none⟩ = some (.slice A1_1 l1_1.length c1_1) := bc BK572; have hfz23_0 := blk_frozen BK572.out 0; have hfz23_1 := blk_frozen BK572.out 1) | ((with_reducible refine gC 27 ?_); refine GL (some 13) Try.func27 #[.slice A0 l0.length c0, .agg #[.int .i64 a1_0, .slice A1_1 l1_1.length c1_1]] ?_; (with_reducible refine (impl_isWeighting.calls _ _ l0 a1_0 _ _ l1_1 false _ ?side1 ?side2 ?side3 ?side4 A6.out).mono ?_); (case side1 => exact Kd.C_below HR0.out Hb); (case side2 => exact HC0.out); (case side3 => exact Kd.C_below HR1_1.out Hb); (case side4 => exact HC1_1.out); rintro e w24 ⟨rfl, hb⟩; refine ⟨_, rfl, ?_⟩; replace BK572 := Aside0.mk (blk_below (B1 BK572) hb); replace HB := Aside0.mk (below_step Hb hb); (try clear hb); (try clear hb2); (try clear hk); (try clear hi)))
      go_ret2
      exact ⟨Fin, Hb⟩
  · replace c5 := Bool.eq_false_iff.mpr c5
    subst c5
    rw [if_neg (show ¬ (false = true) by decide)] at H
    simp only [Option.some.injEq, Prod.mk.injEq] at H
    obtain ⟨rfl, rfl⟩ := H
    go_enter Try.func10, Try.ntmps10
    go_wp2_with (first | ((with_reducible refine gD 4 ?_); (try (refine gate_guard (by rfl) ?_; dsimp only)); refine BX #[.int .i64 a1_0, .slice A1_1 l1_1.length c1_1] 27 ?_; intro gb572 hg w25 hbox hb; have BK572 := Aside0.mk (hbox); have GW572 := Aside0.mk ((Gle hg Hb : w.heap.size ≤ gb572)); have GE572 := Aside0.mk ((Gle hg Hb : w.heap.size ≤ gb572)); replace HB := Aside0.mk (below_step Hb hb); clear hb hbox hg) | ((with_reducible refine gC 26 ?_); refine GL (some 9) Try.func26 #[.slice A0 l0.length c0] ?_; (with_reducible refine (impl_IsRegion.calls k _ _ l0 false _ ?side1 ?side2 A4.out).mono ?_); (case side1 => exact Kd.C_below HR0.out Hb); (case side2 => exact HC0.out); rintro e w26 ⟨rfl, hb⟩; refine ⟨_, rfl, ?_⟩; replace BK572 := Aside0.mk (blk_below (B1 BK572) hb); replace HB := Aside0.mk (below_step Hb hb); (try clear hb); (try clear hb2); (try clear hk); (try clear hi)))
    go_ret2
    exact ⟨Fin, Hb⟩

/-! ### spec_l01Rises: function 33 -/
def spec_l01Rises.l0 : Nat → List Int → Int → Int → Option (Bool)
  | 0, _, _, _ => none
  | k + 1, x0, x1, x5 => if x5 < (x0.length : Int) then (if 0 ≤ x5 then ((spec_l01In.f (rd x0 x5) 0 (wrap64 (x1 - 1))).bind fun t578 => (if t578 = true then (if x5 > 0 then (if 0 ≤ (wrap64 (x5 - 1)) then (if (wrap64 (x5 - 1)) < (x0.length : Int) then (if (rd x0 x5) ≤ (rd x0 (wrap64 (x5 - 1))) then (some false) else (spec_l01Rises.l0 k x0 x1 (wrap64 (x5 + 1)))) else (none)) else (none)) else (spec_l01Rises.l0 k x0 x1 (wrap64 (x5 + 1)))) else (some false))) else (none)) else (some true)
def spec_l01Rises.f (k : Nat) (l0 : List Int) (a1 : Int) : Option (Bool) := spec_l01Rises.l0 k l0 a1 0
theorem spec_l01Rises.mono_l : ∀ k, (∀ y0 y1 y2, LeO (spec_l01Rises.l0 k y0 y1 y2) (spec_l01Rises.l0 (k + 1) y0 y1 y2))
  | 0 => fun _ _ _ r h => by simp [spec_l01Rises.l0] at h
  | k + 1 => by
    have ih0 := spec_l01Rises.mono_l k
    · intro y0 y1 y2
      unfold spec_l01Rises.l0
      repeat' first
      | (with_reducible exact ih0 _ _ _)
      | (with_reducible exact LeO.refl _)
      | (with_reducible exact LeO.none _)
      | (with_reducible refine LeO.ite ?_ ?_)
      | (with_reducible refine LeO.bind ?_ (fun _ => ?_))
      | exact ih0 _ _ _
      | exact LeO.none _
      | refine LeO.ite ?_ ?_
      | refine LeO.bind ?_ (fun _ => ?_)
theorem spec_l01Rises.mono : ∀ a0 a1 k, LeO (spec_l01Rises.f k a0 a1) (spec_l01Rises.f (k + 1) a0 a1) := by
  intro a0 a1 k
  have ih0 := spec_l01Rises.mono_l k
  unfold spec_l01Rises.f
  repeat' first
      | (with_reducible exact ih0 _ _ _)
      | (with_reducible exact LeO.refl _)
      | (with_reducible exact LeO.none _)
      | (with_reducible refine LeO.ite ?_ ?_)
      | (with_reducible refine LeO.bind ?_ (fun _ => ?_))
      | exact ih0 _ _ _
      | exact LeO.none _
      | refine LeO.ite ?_ ?_
      | refine LeO.bind ?_ (fun _ => ?_)
set_option maxHeartbeats 8000000 in
set_option maxRecDepth 100000 in
theorem spec_l01Rises.calls (k : Nat) (A0 : Option Addr) (c0 : Nat) (l0 : List Int) (a1 : Int) (r : Bool) (w : World) (hr0 : Kd.C (Kd.int .i64) w A0 l0.length l0) (hc0 : l0.length ≤ c0) (h : spec_l01Rises.f k l0 a1 = some r) :
    Calls Try.prog 33 #[.slice A0 l0.length c0, .int .i64 a1] w fun e w' => e = .returned (.bool r) ∧ Drawn0 w w' := by
  have HR0 := Aside0.mk hr0
  have HC0 := Aside0.mk hc0
  clear hr0 hc0
  have H : (spec_l01Rises.l0 k l0 a1 0) = some r := h
  clear h
  have H' := Aside0.mk H
  clear H
  go_enter Try.func33, Try.ntmps33
  go_wp2
  repeat (go_quiet (fail); try go_wp2)
  go_loopg [5] k (fun kq v5 w' => ∃ (x5_1 : Int), v5 = .int .i64 x5_1 ∧ Aside0 (spec_l01Rises.l0 kq l0 a1 x5_1 = some r) ∧ Aside0 (kq ≤ k) ∧ Drawn0 w w')
  case atStart => exact ⟨(0), Fs, H', ⟨Nat.le_refl _⟩, by repeat (first | exact Drawn0.refl _ | apply Drawn0.step)⟩
  case round =>
    clear H'
    try clear p2
    obtain ⟨x5_1, rfl, HA, HK1, ⟨m1, rfl⟩⟩ := hrel
    cases gk with
    | zero => exact absurd HA.out (by simp [spec_l01Rises.l0])
    | succ k1 =>
      have H := HA.out
      clear HA
      simp only [spec_l01Rises.l0] at H
      by_cases c3 : x5_1 < (l0.length : Int)
      · rw [if_pos c3] at H
        have c3b0 : decide (x5_1 < (l0.length : Int)) = true := decide_eq_true c3
        clear c3
        by_cases c4 : 0 ≤ x5_1
        · rw [if_pos c4] at H
          have c4b0 : decide (0 ≤ x5_1) = true := decide_eq_true c4
          clear c4
          obtain ⟨t578, A50, H⟩ := Option.bind_eq_some_iff.mp H
          have A5 := Aside0.mk A50
          clear A50
          by_cases c6 : t578 = true
          · subst c6
            rw [if_pos rfl] at H
            by_cases c7 : x5_1 > 0
            · rw [if_pos c7] at H
              have c7b0 : decide (0 < x5_1) = true := decide_eq_true c7
              clear c7
              obtain ⟨ji8, hji8⟩ : ∃ j_ : Int, (wrap64 (x5_1 - 1)) = j_ := ⟨_, rfl⟩
              replace H : (if 0 ≤ (ji8) then (if (ji8) < (l0.length : Int) then (if (rd l0 x5_1) ≤ (rd l0 (ji8)) then (some false) else (spec_l01Rises.l0 k1 l0 a1 (wrap64 (x5_1 + 1)))) else (none)) else (none)) = some r := by first | (rw [hji8] at H; exact H) | (simp only [hji8] at H ⊢; exact H)
              (try rw [hji8] at A5)
              have hji8w : (IntKind.i64.wrap (x5_1 - 1)) = ji8 := (i64_w _).trans hji8
              by_cases c9 : 0 ≤ (ji8)
              · rw [if_pos c9] at H
                have c9b0 : decide (0 ≤ (ji8)) = true := decide_eq_true c9
                clear c9
                by_cases c10 : (ji8) < (l0.length : Int)
                · rw [if_pos c10] at H
                  have c10b0 : decide ((ji8) < (l0.length : Int)) = true := decide_eq_true c10
                  clear c10
                  by_cases c11 : (rd l0 x5_1) ≤ (rd l0 (ji8))
                  · rw [if_pos c11] at H
                    have c11b0 : decide ((rd l0 x5_1) ≤ (rd l0 (ji8))) = true := decide_eq_true c11
                    clear c11
                    obtain rfl := Option.some.inj H
                    have p577 : 0 ≤ (x5_1 : Int) := oD
                    have q577 : x5_1 < (l0.length : Int) := oD
                    obtain ⟨ad577, e577, hx577_0⟩ := Kd.at_int HR0.out x5_1 p577 q577
                    cases e577
                    replace p577 := eq_true p577
                    replace q577 := eq_true q577
                    have p579 : 0 ≤ (x5_1 : Int) := oD
                    have q579 : x5_1 < (l0.length : Int) := oD
                    obtain ⟨ad579, e579, hx579_0⟩ := Kd.at_int HR0.out x5_1 p579 q579
                    obtain rfl : ad577 = ad579 := (by injection e579)
                    replace p579 := eq_true p579
                    replace q579 := eq_true q579
                    have p580 : 0 ≤ ((ji8) : Int) := oD
                    have q580 : (ji8) < (l0.length : Int) := oD
                    obtain ⟨ad580, e580, hx580_0⟩ := Kd.at_int HR0.out (ji8) p580 q580
                    obtain rfl : ad577 = ad580 := (by injection e580)
                    replace p580 := eq_true p580
                    replace q580 := eq_true q580
                    go_wp2_with (first | (go_at_call 63; (with_reducible refine (spec_l01In.calls (rd l0 x5_1) 0 (wrap64 (a1 - 1)) true _ A5.out).mono ?_); rintro e w' ⟨rfl, ⟨nd, rfl⟩⟩; (try first | exact ⟨rfl, _, World.drewN_drewN _ _ _⟩ | exact ⟨rfl, _, Eq.trans (World.drewN_drewN _ _ _) (congrArg (World.drewN _) (Nat.add_assoc _ _ _))⟩)))
                    repeat (go_quiet (first | (go_at_call 63; (with_reducible refine (spec_l01In.calls (rd l0 x5_1) 0 (wrap64 (a1 - 1)) true _ A5.out).mono ?_); rintro e w' ⟨rfl, ⟨nd, rfl⟩⟩; (try first | exact ⟨rfl, _, World.drewN_drewN _ _ _⟩ | exact ⟨rfl, _, Eq.trans (World.drewN_drewN _ _ _) (congrArg (World.drewN _) (Nat.add_assoc _ _ _))⟩))); try go_wp2_with (first | (go_at_call 63; (with_reducible refine (spec_l01In.calls (rd l0 x5_1) 0 (wrap64 (a1 - 1)) true _ A5.out).mono ?_); rintro e w' ⟨rfl, ⟨nd, rfl⟩⟩; (try first | exact ⟨rfl, _, World.drewN_drewN _ _ _⟩ | exact ⟨rfl, _, Eq.trans (World.drewN_drewN _ _ _) (congrArg (World.drewN _) (Nat.add_assoc _ _ _))⟩))))
                    go_ret
                    exact ⟨by first | rfl | (simp; done) | (simp only [← hji8] <;> (first | rfl | simp)) | (simp [*]; done), by repeat (first | exact Drawn0.refl _ | apply Drawn0.step)⟩
                  · rw [if_neg c11] at H
                    have c11b0 : decide ((rd l0 x5_1) ≤ (rd l0 (ji8))) = false := decide_eq_false c11
                    clear c11
                    have H' := Aside0.mk H
                    clear H
                    have p577 : 0 ≤ (x5_1 : Int) := oD
                    have q577 : x5_1 < (l0.length : Int) := oD
                    obtain ⟨ad577, e577, hx577_0⟩ := Kd.at_int HR0.out x5_1 p577 q577
                    cases e577
                    replace p577 := eq_true p577
                    replace q577 := eq_true q577
                    have p579 : 0 ≤ (x5_1 : Int) := oD
                    have q579 : x5_1 < (l0.length : Int) := oD
                    obtain ⟨ad579, e579, hx579_0⟩ := Kd.at_int HR0.out x5_1 p579 q579
                    obtain rfl : ad577 = ad579 := (by injection e579)
                    replace p579 := eq_true p579
                    replace q579 := eq_true q579
                    have p580 : 0 ≤ ((ji8) : Int) := oD
                    have q580 : (ji8) < (l0.length : Int) := oD
                    obtain ⟨ad580, e580, hx580_0⟩ := Kd.at_int HR0.out (ji8) p580 q580
                    obtain rfl : ad577 = ad580 := (by injection e580)
                    replace p580 := eq_true p580
                    replace q580 := eq_true q580
                    go_wp2_with (first | (go_at_call 63; (with_reducible refine (spec_l01In.calls (rd l0 x5_1) 0 (wrap64 (a1 - 1)) true _ A5.out).mono ?_); rintro e w' ⟨rfl, ⟨nd, rfl⟩⟩; (try first | exact ⟨rfl, _, World.drewN_drewN _ _ _⟩ | exact ⟨rfl, _, Eq.trans (World.drewN_drewN _ _ _) (congrArg (World.drewN _) (Nat.add_assoc _ _ _))⟩)))
                    repeat (go_quiet (first | (go_at_call 63; (with_reducible refine (spec_l01In.calls (rd l0 x5_1) 0 (wrap64 (a1 - 1)) true _ A5.out).mono ?_); rintro e w' ⟨rfl, ⟨nd, rfl⟩⟩; (try first | exact ⟨rfl, _, World.drewN_drewN _ _ _⟩ | exact ⟨rfl, _, Eq.trans (World.drewN_drewN _ _ _) (congrArg (World.drewN _) (Nat.add_assoc _ _ _))⟩))); try go_wp2_with (first | (go_at_call 63; (with_reducible refine (spec_l01In.calls (rd l0 x5_1) 0 (wrap64 (a1 - 1)) true _ A5.out).mono ?_); rintro e w' ⟨rfl, ⟨nd, rfl⟩⟩; (try first | exact ⟨rfl, _, World.drewN_drewN _ _ _⟩ | exact ⟨rfl, _, Eq.trans (World.drewN_drewN _ _ _) (congrArg (World.drewN _) (Nat.add_assoc _ _ _))⟩))))
                    go_roundg k1
                    case measure => have := HK1.out; omega
                    case rel => exact ⟨(wrap64 (x5_1 + 1)), Fs, H', ⟨by have := HK1.out; omega⟩, by repeat (first | exact Drawn0.refl _ | apply Drawn0.step)⟩
                · rw [if_neg c10] at H
                  exact absurd H (by simp)
              · rw [if_neg c9] at H
                exact absurd H (by simp)
            · rw [if_neg c7] at H
              have c7b0 : decide (0 < x5_1) = false := decide_eq_false c7
              clear c7
              have H' := Aside0.mk H
              clear H
              have p577 : 0 ≤ (x5_1 : Int) := oD
              have q577 : x5_1 < (l0.length : Int) := oD
              obtain ⟨ad577, e577, hx577_0⟩ := Kd.at_int HR0.out x5_1 p577 q577
              cases e577
              replace p577 := eq_true p577
              replace q577 := eq_true q577
              go_wp2_with (first | (go_at_call 63; (with_reducible refine (spec_l01In.calls (rd l0 x5_1) 0 (wrap64 (a1 - 1)) true _ A5.out).mono ?_); rintro e w' ⟨rfl, ⟨nd, rfl⟩⟩; (try first | exact ⟨rfl, _, World.drewN_drewN _ _ _⟩ | exact ⟨rfl, _, Eq.trans (World.drewN_drewN _ _ _) (congrArg (World.drewN _) (Nat.add_assoc _ _ _))⟩)))
              repeat (go_quiet (first | (go_at_call 63; (with_reducible refine (spec_l01In.calls (rd l0 x5_1) 0 (wrap64 (a1 - 1)) true _ A5.out).mono ?_); rintro e w' ⟨rfl, ⟨nd, rfl⟩⟩; (try first | exact ⟨rfl, _, World.drewN_drewN _ _ _⟩ | exact ⟨rfl, _, Eq.trans (World.drewN_drewN _ _ _) (congrArg (World.drewN _) (Nat.add_assoc _ _ _))⟩))); try go_wp2_with (first | (go_at_call 63; (with_reducible refine (spec_l01In.calls (rd l0 x5_1) 0 (wrap64 (a1 - 1)) true _ A5.out).mono ?_); rintro e w' ⟨rfl, ⟨nd, rfl⟩⟩; (try first | exact ⟨rfl, _, World.drewN_drewN _ _ _⟩ | exact ⟨rfl, _, Eq.trans (World.drewN_drewN _ _ _) (congrArg (World.drewN _) (Nat.add_assoc _ _ _))⟩))))
              go_roundg k1
              case measure => have := HK1.out; omega
              case rel => exact ⟨(wrap64 (x5_1 + 1)), Fs, H', ⟨by have := HK1.out; omega⟩, by repeat (first | exact Drawn0.refl _ | apply Drawn0.step)⟩
          · replace c6 := Bool.eq_false_iff.mpr c6
            subst c6
            rw [if_neg (show ¬ (false = true) by decide)] at H
            obtain rfl := Option.some.inj H
            have p577 : 0 ≤ (x5_1 : Int) := oD
            have q577 : x5_1 < (l0.length : Int) := oD
            obtain ⟨ad577, e577, hx577_0⟩ := Kd.at_int HR0.out x5_1 p577 q577
            cases e577
            replace p577 := eq_true p577
            replace q577 := eq_true q577
            go_wp2_with (first | (go_at_call 63; (with_reducible refine (spec_l01In.calls (rd l0 x5_1) 0 (wrap64 (a1 - 1)) false _ A5.out).mono ?_); rintro e w' ⟨rfl, ⟨nd, rfl⟩⟩; (try first | exact ⟨rfl, _, World.drewN_drewN _ _ _⟩ | exact ⟨rfl, _, Eq.trans (World.drewN_drewN _ _ _) (congrArg (World.drewN _) (Nat.add_assoc _ _ _))⟩)))
            repeat (go_quiet (first | (go_at_call 63; (with_reducible refine (spec_l01In.calls (rd l0 x5_1) 0 (wrap64 (a1 - 1)) false _ A5.out).mono ?_); rintro e w' ⟨rfl, ⟨nd, rfl⟩⟩; (try first | exact ⟨rfl, _, World.drewN_drewN _ _ _⟩ | exact ⟨rfl, _, Eq.trans (World.drewN_drewN _ _ _) (congrArg (World.drewN _) (Nat.add_assoc _ _ _))⟩))); try go_wp2_with (first | (go_at_call 63; (with_reducible refine (spec_l01In.calls (rd l0 x5_1) 0 (wrap64 (a1 - 1)) false _ A5.out).mono ?_); rintro e w' ⟨rfl, ⟨nd, rfl⟩⟩; (try first | exact ⟨rfl, _, World.drewN_drewN _ _ _⟩ | exact ⟨rfl, _, Eq.trans (World.drewN_drewN _ _ _) (congrArg (World.drewN _) (Nat.add_assoc _ _ _))⟩))))
            go_ret
            exact ⟨Fs, by repeat (first | exact Drawn0.refl _ | apply Drawn0.step)⟩
        · rw [if_neg c4] at H
          exact absurd H (by simp)
      · rw [if_neg c3] at H
        have c3b0 : decide (x5_1 < (l0.length : Int)) = false := decide_eq_false c3
        clear c3
        obtain rfl := Option.some.inj H
        go_wp2
        repeat (go_quiet (fail); try go_wp2)
        go_ret
        exact ⟨Fs, by repeat (first | exact Drawn0.refl _ | apply Drawn0.step)⟩

/-! ### spec_l19Weight: function 34 -/
def spec_l19Weight.l0 : Nat → List Int → Int → Int → Int → List Int → Option (Int)
  | 0, _, _, _, _, _ => none
  | k + 1, x1, x5, x6, x582000, x582001 => if x6 < (x1.length : Int) then (if 0 ≤ x6 then (if 0 ≤ (rd x1 x6) then (if (rd x1 x6) < (x582001.length : Int) then (if x582000 = 0 then (none) else (spec_l19Weight.l0 k x1 (Int.tmod (wrap64 (x5 + (rd x582001 (rd x1 x6)))) x582000) (wrap64 (x6 + 1)) x582000 x582001)) else (none)) else (none)) else (none)) else (some x5)
def spec_l19Weight.f (k : Nat) (a0_0 : Int) (l0_1 : List Int) (l1 : List Int) : Option (Int) := spec_l19Weight.l0 k l1 0 0 a0_0 l0_1
theorem spec_l19Weight.mono_l : ∀ k, (∀ y0 y1 y2 y3 y4, LeO (spec_l19Weight.l0 k y0 y1 y2 y3 y4) (spec_l19Weight.l0 (k + 1) y0 y1 y2 y3 y4))
  | 0 => fun _ _ _ _ _ r h => by simp [spec_l19Weight.l0] at h
  | k + 1 => by
    have ih0 := spec_l19Weight.mono_l k
    · intro y0 y1 y2 y3 y4
      unfold spec_l19Weight.l0
      repeat' first
      | (with_reducible exact ih0 _ _ _ _ _)
      | (with_reducible exact LeO.refl _)
      | (with_reducible exact LeO.none _)
      | (with_reducible refine LeO.ite ?_ ?_)
      | (with_reducible refine LeO.bind ?_ (fun _ => ?_))
      | exact ih0 _ _ _ _ _
      | exact LeO.none _
      | refine LeO.ite ?_ ?_
      | refine LeO.bind ?_ (fun _ => ?_)
theorem spec_l19Weight.mono : ∀ a0 a1 a2 k, LeO (spec_l19Weight.f k a0 a1 a2) (spec_l19Weight.f (k + 1) a0 a1 a2) := by
  intro a0 a1 a2 k
  have ih0 := spec_l19Weight.mono_l k
  unfold spec_l19Weight.f
  repeat' first
      | (with_reducible exact ih0 _ _ _ _ _)
      | (with_reducible exact LeO.refl _)
      | (with_reducible exact LeO.none _)
      | (with_reducible refine LeO.ite ?_ ?_)
      | (with_reducible refine LeO.bind ?_ (fun _ => ?_))
      | exact ih0 _ _ _ _ _
      | exact LeO.none _
      | refine LeO.ite ?_ ?_
      | refine LeO.bind ?_ (fun _ => ?_)
set_option maxHeartbeats 8000000 in
set_option maxRecDepth 100000 in
theorem spec_l19Weight.calls (k : Nat) (a0_0 : Int) (A0_1 : Option Addr) (c0_1 : Nat) (l0_1 : List Int) (A1 : Option Addr) (c1 : Nat) (l1 : List Int) (r : Int) (w : World) (hr0_1 : Kd.C (Kd.int .i64) w A0_1 l0_1.length l0_1) (hc0_1 : l0_1.length ≤ c0_1) (hr1 : Kd.C (Kd.int .i64) w A1 l1.length l1) (hc1 : l1.length ≤ c1) (h : spec_l19Weight.f k a0_0 l0_1 l1 = some r) :
    Calls Try.prog 34 #[.agg #[.int .i64 a0_0, .slice A0_1 l0_1.length c0_1], .slice A1 l1.length c1] w fun e w' => e = .returned (.int .i64 r) ∧ Below w.heap.size w w' := by
  have hu27 := Try.underlying27
  have HR0_1 := Aside0.mk hr0_1
  have HC0_1 := Aside0.mk hc0_1
  clear hr0_1 hc0_1
  have HR1 := Aside0.mk hr1
  have HC1 := Aside0.mk hc1
  clear hr1 hc1
  have HB := Aside0.mk (Below.refl w.heap.size w)
  have H : (spec_l19Weight.l0 k l1 0 0 a0_0 l0_1) = some r := h
  clear h
  have H' := Aside0.mk H
  clear H
  go_enter Try.func34, Try.ntmps34
  go_wp2_with (first | ((with_reducible refine gD 2 ?_); refine BX #[.int .i64 a0_0, .slice A0_1 l0_1.length c0_1] 27 ?_; intro gb581 hg w3 hbox hb; have BK581 := Aside0.mk (hbox); have GW581 := Aside0.mk ((Gle hg Hb : w.heap.size ≤ gb581)); have GE581 := Aside0.mk ((Gle hg Hb : w.heap.size ≤ gb581)); replace HB := Aside0.mk (below_step Hb hb); clear hb hbox hg))
  repeat (go_quiet (first | ((with_reducible refine gD 2 ?_); refine BX #[.int .i64 a0_0, .slice A0_1 l0_1.length c0_1] 27 ?_; intro gb581 hg w3 hbox hb; have BK581 := Aside0.mk (hbox); have GW581 := Aside0.mk ((Gle hg Hb : w.heap.size ≤ gb581)); have GE581 := Aside0.mk ((Gle hg Hb : w.heap.size ≤ gb581)); replace HB := Aside0.mk (below_step Hb hb); clear hb hbox hg)); try go_wp2_with (first | ((with_reducible refine gD 2 ?_); refine BX #[.int .i64 a0_0, .slice A0_1 l0_1.length c0_1] 27 ?_; intro gb581 hg w3 hbox hb; have BK581 := Aside0.mk (hbox); have GW581 := Aside0.mk ((Gle hg Hb : w.heap.size ≤ gb581)); have GE581 := Aside0.mk ((Gle hg Hb : w.heap.size ≤ gb581)); replace HB := Aside0.mk (below_step Hb hb); clear hb hbox hg)))
  go_loopg [5, 6] k (fun kq v5 v6 w' => ∃ (x5_1 : Int) (x6_1 : Int), v5 = .int .i64 x5_1 ∧ v6 = .int .i64 x6_1 ∧ Aside0 (spec_l19Weight.l0 kq l1 x5_1 x6_1 a0_0 l0_1 = some r) ∧ Aside0 (kq ≤ k) ∧ Aside0 (w'.heap[gb581]? = some (.cells #[.int .i64 a0_0, (.slice A0_1 l0_1.length c0_1)] 27 (0, 0))) ∧ Aside0 (Below w.heap.size w w'))
  case atStart => exact ⟨(0), (0), Fs, Fs, H', ⟨Nat.le_refl _⟩, ⟨B1 BK581⟩, ⟨Hb⟩⟩
  case round =>
    clear H'
    try clear c1
    try clear p2
    try clear c3
    obtain ⟨x5_1, x6_1, rfl, rfl, HA, HK1, BK581, HB⟩ := hrel
    cases gk with
    | zero => exact absurd HA.out (by simp [spec_l19Weight.l0])
    | succ k1 =>
      have H := HA.out
      clear HA
      simp only [spec_l19Weight.l0] at H
      by_cases c4 : x6_1 < (l1.length : Int)
      · rw [if_pos c4] at H
        have c4b0 : decide (x6_1 < (l1.length : Int)) = true := decide_eq_true c4
        clear c4
        by_cases c5 : 0 ≤ x6_1
        · rw [if_pos c5] at H
          have c5b0 : decide (0 ≤ x6_1) = true := decide_eq_true c5
          clear c5
          by_cases c6 : 0 ≤ (rd l1 x6_1)
          · rw [if_pos c6] at H
            have c6b0 : decide (0 ≤ (rd l1 x6_1)) = true := decide_eq_true c6
            clear c6
            by_cases c7 : (rd l1 x6_1) < (l0_1.length : Int)
            · rw [if_pos c7] at H
              have c7b0 : decide ((rd l1 x6_1) < (l0_1.length : Int)) = true := decide_eq_true c7
              clear c7
              by_cases c8 : a0_0 = 0
              · rw [if_pos c8] at H
                exact absurd H (by simp)
              · rw [if_neg c8] at H
                have c8b0 : (a0_0 == 0) = false := beq_eq_false_iff_ne.mpr c8
                have c8b1 : (a0_0 != 0) = true := bne_iff_ne.mpr c8
                have H' := Aside0.mk H
                clear H
                have hcz9_0 : wr.cell? ⟨gb581, 0, none⟩ = some (.int .i64 a0_0) := bc BK581
                have hcz9_1 : wr.cell? ⟨gb581, 1, none⟩ = some (.slice A0_1 l0_1.length c0_1) := bc BK581
                have hfz9_0 := blk_frozen BK581.out 0
                have hfz9_1 := blk_frozen BK581.out 1
                have p582 : 0 ≤ (x6_1 : Int) := oD
                have q582 : x6_1 < (l1.length : Int) := oD
                obtain ⟨ad582, e582, hx582_0⟩ := Kd.at_int HR1.out x6_1 p582 q582
                cases e582
                replace hx582_0 := hxb hx582_0
                replace p582 := eq_true p582
                replace q582 := eq_true q582
                have p583 : 0 ≤ ((rd l1 x6_1) : Int) := oD
                have q583 : (rd l1 x6_1) < (l0_1.length : Int) := oD
                obtain ⟨ad583, e583, hx583_0⟩ := Kd.at_int HR0_1.out (rd l1 x6_1) p583 q583
                cases e583
                replace hx583_0 := hxb hx583_0
                replace p583 := eq_true p583
                replace q583 := eq_true q583
                go_wp2
                repeat (go_quiet (fail); try go_wp2)
                go_roundg k1
                case measure => have := HK1.out; omega
                case rel => exact ⟨(Int.tmod (wrap64 (x5_1 + (rd l0_1 (rd l1 x6_1)))) a0_0), (wrap64 (x6_1 + 1)), Fs, Fs, H', ⟨by have := HK1.out; omega⟩, ⟨B1 BK581⟩, ⟨Hb⟩⟩
            · rw [if_neg c7] at H
              exact absurd H (by simp)
          · rw [if_neg c6] at H
            exact absurd H (by simp)
        · rw [if_neg c5] at H
          exact absurd H (by simp)
      · rw [if_neg c4] at H
        have c4b0 : decide (x6_1 < (l1.length : Int)) = false := decide_eq_false c4
        clear c4
        obtain rfl := Option.some.inj H
        go_wp2
        repeat (go_quiet (fail); try go_wp2)
        go_ret
        exact ⟨Fin, Hb⟩

/-! ### spec_WeightOfSet: function 11 -/
def spec_WeightOfSet.f (k : Nat) (l0 : List (S68)) (a1_0 : Int) (l1_1 : List Int) (l2 : List Int) : Option (Int × Int) := (spec_IsRegion.f k l0).bind fun t585 => (if t585 = true then ((spec_l19Is.f k l0 a1_0 l1_1).bind fun t586 => (if t586 = true then ((spec_l01Rises.f k l2 (l0.length : Int)).bind fun t587 => (if t587 = true then ((spec_l19Weight.f k a1_0 l1_1 l2).bind fun t588 => (some (t588, 0))) else (some (0, 2)))) else (some (0, 2)))) else (some (0, 1)))
theorem spec_WeightOfSet.mono : ∀ a0 a1 a2 a3 k, LeO (spec_WeightOfSet.f k a0 a1 a2 a3) (spec_WeightOfSet.f (k + 1) a0 a1 a2 a3) := by
  intro a0 a1 a2 a3 k
  unfold spec_WeightOfSet.f
  repeat' first
      | (with_reducible exact spec_IsRegion.mono _ _)
      | (with_reducible exact spec_l01Rises.mono _ _ _)
      | (with_reducible exact spec_l19Is.mono _ _ _ _)
      | (with_reducible exact spec_l19Weight.mono _ _ _ _)
      | (with_reducible exact LeO.refl _)
      | (with_reducible exact LeO.none _)
      | (with_reducible refine LeO.ite ?_ ?_)
      | (with_reducible refine LeO.bind ?_ (fun _ => ?_))
      | exact spec_IsRegion.mono _ _
      | exact spec_l01Rises.mono _ _ _
      | exact spec_l19Is.mono _ _ _ _
      | exact spec_l19Weight.mono _ _ _ _
      | exact LeO.none _
      | refine LeO.ite ?_ ?_
      | refine LeO.bind ?_ (fun _ => ?_)
set_option maxHeartbeats 8000000 in
set_option maxRecDepth 100000 in
theorem spec_WeightOfSet.calls (k : Nat) (A0 : Option Addr) (c0 : Nat) (l0 : List (S68)) (a1_0 : Int) (A1_1 : Option Addr) (c1_1 : Nat) (l1_1 : List Int) (A2 : Option Addr) (c2 : Nat) (l2 : List Int) (r1 : Int) (r2 : Int) (w : World) (hr0 : Kd.C k68 w A0 l0.length l0) (hc0 : l0.length ≤ c0) (hr1_1 : Kd.C (Kd.int .i64) w A1_1 l1_1.length l1_1) (hc1_1 : l1_1.length ≤ c1_1) (hr2 : Kd.C (Kd.int .i64) w A2 l2.length l2) (hc2 : l2.length ≤ c2) (h : spec_WeightOfSet.f k l0 a1_0 l1_1 l2 = some (r1, r2)) :
    Calls Try.prog 11 #[.slice A0 l0.length c0, .agg #[.int .i64 a1_0, .slice A1_1 l1_1.length c1_1], .slice A2 l2.length c2] w fun e w' => e = .returned (.tuple #[.int .i64 r1, .int .i64 r2]) ∧ Below w.heap.size w w' := by
  have hu27 := Try.underlying27
  have HR0 := Aside0.mk hr0
  have HC0 := Aside0.mk hc0
  clear hr0 hc0
  have HR1_1 := Aside0.mk hr1_1
  have HC1_1 := Aside0.mk hc1_1
  clear hr1_1 hc1_1
  have HR2 := Aside0.mk hr2
  have HC2 := Aside0.mk hc2
  clear hr2 hc2
  have HB := Aside0.mk (Below.refl w.heap.size w)
  have H : ((spec_IsRegion.f k l0).bind fun t585 => (if t585 = true then ((spec_l19Is.f k l0 a1_0 l1_1).bind fun t586 => (if t586 = true then ((spec_l01Rises.f k l2 (l0.length : Int)).bind fun t587 => (if t587 = true then ((spec_l19Weight.f k a1_0 l1_1 l2).bind fun t588 => (some (t588, 0))) else (some (0, 2)))) else (some (0, 2)))) else (some (0, 1)))) = some (r1, r2) := h
  clear h
  obtain ⟨t585, A40, H⟩ := Option.bind_eq_some_iff.mp H
  have A4 := Aside0.mk A40
  clear A40
  by_cases c5 : t585 = true
  · subst c5
    rw [if_pos rfl] at H
    obtain ⟨t586, A60, H⟩ := Option.bind_eq_some_iff.mp H
    have A6 := Aside0.mk A60
    clear A60
    by_cases c7 : t586 = true
    · subst c7
      rw [if_pos rfl] at H
      obtain ⟨t587, A80, H⟩ := Option.bind_eq_some_iff.mp H
      have A8 := Aside0.mk A80
      clear A80
      by_cases c9 : t587 = true
      · subst c9
        rw [if_pos rfl] at H
        obtain ⟨t588, A100, H⟩ := Option.bind_eq_some_iff.mp H
        have A10 := Aside0.mk A100
        clear A100
        simp only [Option.some.injEq, Prod.mk.injEq] at H
        obtain ⟨rfl, rfl⟩ := H
        go_enter Try.func11, Try.ntmps11
        go_wp2_with (first | ((with_reducible refine gD 4 ?_); (try (refine gate_guard (by rfl) ?_; dsimp only)); refine BX #[.int .i64 a1_0, .slice A1_1 l1_1.length c1_1] 27 ?_; intro gb584 hg w11 hbox hb; have BK584 := Aside0.mk (hbox); have GW584 := Aside0.mk ((Gle hg Hb : w.heap.size ≤ gb584)); have GE584 := Aside0.mk ((Gle hg Hb : w.heap.size ≤ gb584)); replace HB := Aside0.mk (below_step Hb hb); clear hb hbox hg) | ((with_reducible refine gC 28 ?_); refine GL (some 9) Try.func28 #[.slice A0 l0.length c0] ?_; (with_reducible refine (spec_IsRegion.calls k _ _ l0 true _ ?side1 ?side2 A4.out).mono ?_); (case side1 => exact Kd.C_below HR0.out Hb); (case side2 => exact HC0.out); rintro e w12 ⟨rfl, hb⟩; refine ⟨_, rfl, ?_⟩; replace BK584 := Aside0.mk (blk_below (B1 BK584) hb); replace HB := Aside0.mk (below_step Hb hb); (try clear hb); (try clear hb2); (try clear hk); (try clear hi); have hcz13_0 : w12.cell? ⟨gb584, 0, none⟩ = some (.int .i64 a1_0) := bc BK584; have hcz13_1 : w12.cell? ⟨gb584, 1, none⟩ = some (.slice A1_1 l1_1.length c1_1) := bc BK584; have hfz13_0 := blk_frozen BK584.out 0; have hfz13_1 := blk_frozen BK584.out 1) | ((with_reducible refine gC 29 ?_); refine GL (some 13) Try.func29 #[.slice A0 l0.length c0, .agg #[.int .i64 a1_0, .slice A1_1 l1_1.length c1_1]] ?_; (with_reducible refine (spec_l19Is.calls k _ _ l0 a1_0 _ _ l1_1 true _ ?side1 ?side2 ?side3 ?side4 A6.out).mono ?_); (case side1 => exact Kd.C_below HR0.out Hb); (case side2 => exact HC0.out); (case side3 => exact Kd.C_below HR1_1.out Hb); (case side4 => exact HC1_1.out); rintro e w14 ⟨rfl, hb⟩; refine ⟨_, rfl, ?_⟩; replace BK584 := Aside0.mk (blk_below (B1 BK584) hb); replace HB := Aside0.mk (below_step Hb hb); (try clear hb); (try clear hb2); (try clear hk); (try clear hi)) | (go_at_call 33; (with_reducible refine (spec_l01Rises.calls k _ _ l2 (l0.length : Int) true _ ?side1 ?side2 A8.out).mono ?_); (case side1 => exact Kd.C_below HR2.out Hb); (case side2 => exact HC2.out); rintro e w' ⟨rfl, ⟨nd, rfl⟩⟩; have hcz15_0 : w14.cell? ⟨gb584, 0, none⟩ = some (.int .i64 a1_0) := bc BK584; have hcz15_1 : w14.cell? ⟨gb584, 1, none⟩ = some (.slice A1_1 l1_1.length c1_1) := bc BK584; have hfz15_0 := blk_frozen BK584.out 0; have hfz15_1 := blk_frozen BK584.out 1) | ((with_reducible refine gC 34 ?_); refine GL (some 24) Try.func34 #[.agg #[.int .i64 a1_0, .slice A1_1 l1_1.length c1_1], .slice A2 l2.length c2] ?_; (with_reducible refine (spec_l19Weight.calls k a1_0 _ _ l1_1 _ _ l2 t588 _ ?side1 ?side2 ?side3 ?side4 A10.out).mono ?_); (case side1 => exact Kd.C_below HR1_1.out Hb); (case side2 => exact HC1_1.out); (case side3 => exact Kd.C_below HR2.out Hb); (case side4 => exact HC2.out); rintro e w16 ⟨rfl, hb⟩; refine ⟨_, rfl, ?_⟩; replace BK584 := Aside0.mk (blk_below (B1 BK584) hb); replace HB := Aside0.mk (below_step Hb hb); (try clear hb); (try clear hb2); (try clear hk); (try clear hi)))
        go_ret2
        exact ⟨Fin, Hb⟩
      · replace c9 := Bool.eq_false_iff.mpr c9
        subst c9
        rw [if_neg (show ¬ (false = true) by decide)] at H
        simp only [Option.some.injEq, Prod.mk.injEq] at H
        obtain ⟨rfl, rfl⟩ := H
        go_enter Try.func11, Try.ntmps11
        go_wp2_with (first | ((with_reducible refine gD 4 ?_); (try (refine gate_guard (by rfl) ?_; dsimp only)); refine BX #[.int .i64 a1_0, .slice A1_1 l1_1.length c1_1] 27 ?_; intro gb584 hg w17 hbox hb; have BK584 := Aside0.mk (hbox); have GW584 := Aside0.mk ((Gle hg Hb : w.heap.size ≤ gb584)); have GE584 := Aside0.mk ((Gle hg Hb : w.heap.size ≤ gb584)); replace HB := Aside0.mk (below_step Hb hb); clear hb hbox hg) | ((with_reducible refine gC 28 ?_); refine GL (some 9) Try.func28 #[.slice A0 l0.length c0] ?_; (with_reducible refine (spec_IsRegion.calls k _ _ l0 true _ ?side1 ?side2 A4.out).mono ?_); (case side1 => exact Kd.C_below HR0.out Hb); (case side2 => exact HC0.out); rintro e w18 ⟨rfl, hb⟩; refine ⟨_, rfl, ?_⟩; replace BK584 := Aside0.mk (blk_below (B1 BK584) hb); replace HB := Aside0.mk (below_step Hb hb); (try clear hb); (try clear hb2); (try clear hk); (try clear hi); have hcz19_0 : w18.cell? ⟨gb584, 0, none⟩ = some (.int .i64 a1_0) := bc BK584; have hcz19_1 : w18.cell? ⟨gb584, 1, none⟩ = some (.slice A1_1 l1_1.length c1_1) := bc BK584; have hfz19_0 := blk_frozen BK584.out 0; have hfz19_1 := blk_frozen BK584.out 1) | ((with_reducible refine gC 29 ?_); refine GL (some 13) Try.func29 #[.slice A0 l0.length c0, .agg #[.int .i64 a1_0, .slice A1_1 l1_1.length c1_1]] ?_; (with_reducible refine (spec_l19Is.calls k _ _ l0 a1_0 _ _ l1_1 true _ ?side1 ?side2 ?side3 ?side4 A6.out).mono ?_); (case side1 => exact Kd.C_below HR0.out Hb); (case side2 => exact HC0.out); (case side3 => exact Kd.C_below HR1_1.out Hb); (case side4 => exact HC1_1.out); rintro e w20 ⟨rfl, hb⟩; refine ⟨_, rfl, ?_⟩; replace BK584 := Aside0.mk (blk_below (B1 BK584) hb); replace HB := Aside0.mk (below_step Hb hb); (try clear hb); (try clear hb2); (try clear hk); (try clear hi)) | (go_at_call 33; (with_reducible refine (spec_l01Rises.calls k _ _ l2 (l0.length : Int) false _ ?side1 ?side2 A8.out).mono ?_); (case side1 => exact Kd.C_below HR2.out Hb); (case side2 => exact HC2.out); rintro e w' ⟨rfl, ⟨nd, rfl⟩⟩))
        go_ret2
        exact ⟨Fin, Hb⟩
    · replace c7 := Bool.eq_false_iff.mpr c7
      subst c7
      rw [if_neg (show ¬ (false = true) by decide)] at H
      simp only [Option.some.injEq, Prod.mk.injEq] at H
      obtain ⟨rfl, rfl⟩ := H
      go_enter Try.func11, Try.ntmps11
      go_wp2_with (first | ((with_reducible refine gD 4 ?_); (try (refine gate_guard (by rfl) ?_; dsimp only)); refine BX #[.int .i64 a1_0, .slice A1_1 l1_1.length c1_1] 27 ?_; intro gb584 hg w21 hbox hb; have BK584 := Aside0.mk (hbox); have GW584 := Aside0.mk ((Gle hg Hb : w.heap.size ≤ gb584)); have GE584 := Aside0.mk ((Gle hg Hb : w.heap.size ≤ gb584)); replace HB := Aside0.mk (below_step Hb hb); clear hb hbox hg) | ((with_reducible refine gC 28 ?_); refine GL (some 9) Try.func28 #[.slice A0 l0.length c0] ?_; (with_reducible refine (spec_IsRegion.calls k _ _ l0 true _ ?side1 ?side2 A4.out).mono ?_); (case side1 => exact Kd.C_below HR0.out Hb); (case side2 => exact HC0.out); rintro e w22 ⟨rfl, hb⟩; refine ⟨_, rfl, ?_⟩; replace BK584 := Aside0.mk (blk_below (B1 BK584) hb); replace HB := Aside0.mk (below_step Hb hb); (try clear hb); (try clear hb2); (try clear hk); (try clear hi); have hcz23_0 : w22.cell? ⟨gb584, 0, none⟩ = some (.int .i64 a1_0) := bc BK584; have hcz23_1 : w22.cell? ⟨gb584, 1, none⟩ = some (.slice A1_1 l1_1.length c1_1) := bc BK584; have hfz23_0 := blk_frozen BK584.out 0; have hfz23_1 := blk_frozen BK584.out 1) | ((with_reducible refine gC 29 ?_); refine GL (some 13) Try.func29 #[.slice A0 l0.length c0, .agg #[.int .i64 a1_0, .slice A1_1 l1_1.length c1_1]] ?_; (with_reducible refine (spec_l19Is.calls k _ _ l0 a1_0 _ _ l1_1 false _ ?side1 ?side2 ?side3 ?side4 A6.out).mono ?_); (case side1 => exact Kd.C_below HR0.out Hb); (case side2 => exact HC0.out); (case side3 => exact Kd.C_below HR1_1.out Hb); (case side4 => exact HC1_1.out); rintro e w24 ⟨rfl, hb⟩; refine ⟨_, rfl, ?_⟩; replace BK584 := Aside0.mk (blk_below (B1 BK584) hb); replace HB := Aside0.mk (below_step Hb hb); (try clear hb); (try clear hb2); (try clear hk); (try clear hi)))
      go_ret2
      exact ⟨Fin, Hb⟩
  · replace c5 := Bool.eq_false_iff.mpr c5
    subst c5
    rw [if_neg (show ¬ (false = true) by decide)] at H
    simp only [Option.some.injEq, Prod.mk.injEq] at H
    obtain ⟨rfl, rfl⟩ := H
    go_enter Try.func11, Try.ntmps11
    go_wp2_with (first | ((with_reducible refine gD 4 ?_); (try (refine gate_guard (by rfl) ?_; dsimp only)); refine BX #[.int .i64 a1_0, .slice A1_1 l1_1.length c1_1] 27 ?_; intro gb584 hg w25 hbox hb; have BK584 := Aside0.mk (hbox); have GW584 := Aside0.mk ((Gle hg Hb : w.heap.size ≤ gb584)); have GE584 := Aside0.mk ((Gle hg Hb : w.heap.size ≤ gb584)); replace HB := Aside0.mk (below_step Hb hb); clear hb hbox hg) | ((with_reducible refine gC 28 ?_); refine GL (some 9) Try.func28 #[.slice A0 l0.length c0] ?_; (with_reducible refine (spec_IsRegion.calls k _ _ l0 false _ ?side1 ?side2 A4.out).mono ?_); (case side1 => exact Kd.C_below HR0.out Hb); (case side2 => exact HC0.out); rintro e w26 ⟨rfl, hb⟩; refine ⟨_, rfl, ?_⟩; replace BK584 := Aside0.mk (blk_below (B1 BK584) hb); replace HB := Aside0.mk (below_step Hb hb); (try clear hb); (try clear hb2); (try clear hk); (try clear hi)))
    go_ret2
    exact ⟨Fin, Hb⟩

/-! ### spec_DrawIsWeighting: function 12 -/
def spec_DrawIsWeighting.f (k : Nat) (l0 : List Int) : Option ((List (S68)) × Int × List Int) := (spec_l01From.f k l0).bind fun bt590 => ((spec_l10Draw.f k bt590.1 bt590.2.1 bt590.2.2).bind fun bt594 => ((spec_l01Next.f bt590.1 bt594.2.1 bt594.2.2 5).bind fun bt599 => ((spec_l19Draw.f k bt590.1 bt599.2.1 bt599.2.2 bt594.1 (wrap64 (2 + bt599.1))).bind fun bt602 => (some (bt594.1, bt602.1, bt602.2.1)))))
theorem spec_DrawIsWeighting.mono : ∀ a0 k, LeO (spec_DrawIsWeighting.f k a0) (spec_DrawIsWeighting.f (k + 1) a0) := by
  intro a0 k
  unfold spec_DrawIsWeighting.f
  repeat' first
      | (with_reducible exact spec_l01From.mono _ _)
      | (with_reducible exact spec_l10Draw.mono _ _ _ _)
      | (with_reducible exact spec_l19Draw.mono _ _ _ _ _ _)
      | (with_reducible exact LeO.refl _)
      | (with_reducible exact LeO.none _)
      | (with_reducible refine LeO.ite ?_ ?_)
      | (with_reducible refine LeO.bind ?_ (fun _ => ?_))
      | exact spec_l01From.mono _ _
      | exact spec_l10Draw.mono _ _ _ _
      | exact spec_l19Draw.mono _ _ _ _ _ _
      | exact LeO.none _
      | refine LeO.ite ?_ ?_
      | refine LeO.bind ?_ (fun _ => ?_)
set_option maxHeartbeats 8000000 in
set_option maxRecDepth 100000 in
theorem spec_DrawIsWeighting.calls (k : Nat) (A0 : Option Addr) (c0 : Nat) (l0 : List Int) (r1 : List (S68)) (r2 : Int) (r3 : List Int) (w : World) (hr0 : Kd.C (Kd.int .u8) w A0 l0.length l0) (hc0 : l0.length ≤ c0) (h : spec_DrawIsWeighting.f k l0 = some (r1, r2, r3)) :
    Calls Try.prog 12 #[.slice A0 l0.length c0] w fun e w' => ∃ v0_ v2_ : Value, e = .returned (.tuple #[v0_, .agg #[.int .i64 r2, v2_]]) ∧ Kd.R k68 68 w' w.heap.size (fun _ => True) v0_ r1 ∧ Kd.R (Kd.int .i64) 2 w' w.heap.size (fun _ => True) v2_ r3 ∧ Below w.heap.size w w' := by
  have hu27 := Try.underlying27
  have HR0 := Aside0.mk hr0
  have HC0 := Aside0.mk hc0
  clear hr0 hc0
  have HB := Aside0.mk (Below.refl w.heap.size w)
  have H : ((spec_l01From.f k l0).bind fun bt590 => ((spec_l10Draw.f k bt590.1 bt590.2.1 bt590.2.2).bind fun bt594 => ((spec_l01Next.f bt590.1 bt594.2.1 bt594.2.2 5).bind fun bt599 => ((spec_l19Draw.f k bt590.1 bt599.2.1 bt599.2.2 bt594.1 (wrap64 (2 + bt599.1))).bind fun bt602 => (some (bt594.1, bt602.1, bt602.2.1)))))) = some (r1, r2, r3) := h
  clear h
  obtain ⟨⟨t590, t591, t592⟩, A20, H⟩ := Option.bind_eq_some_iff.mp H
  dsimp only at H
  have A2 := Aside0.mk A20
  clear A20
  obtain ⟨⟨t594, t597, t598⟩, A30, H⟩ := Option.bind_eq_some_iff.mp H
  dsimp only at H
  have A3 := Aside0.mk A30
  clear A30
  obtain ⟨⟨t599, t600, t601⟩, A40, H⟩ := Option.bind_eq_some_iff.mp H
  dsimp only at H
  have A4 := Aside0.mk A40
  clear A40
  obtain ⟨⟨t602, t603, t606, t607⟩, A50, H⟩ := Option.bind_eq_some_iff.mp H
  dsimp only at H
  have A5 := Aside0.mk A50
  clear A50
  simp only [Option.some.injEq, Prod.mk.injEq] at H
  obtain ⟨rfl, rfl, rfl⟩ := H
  go_enter Try.func12, Try.ntmps12
  go_wp2_with (first | ((with_reducible refine gD 3 ?_); refine BX #[.int .i64 0, .slice none 0 0] 27 ?_; intro gb589 hg w6 hbox hb; have BK589 := Aside0.mk (hbox); have GW589 := Aside0.mk ((Gle hg Hb : w.heap.size ≤ gb589)); have GE589 := Aside0.mk ((Gle hg Hb : w.heap.size ≤ gb589)); replace HB := Aside0.mk (below_step Hb hb); clear hb hbox hg) | ((with_reducible refine gC 22 ?_); refine GL (some 7) Try.func22 #[.slice A0 l0.length c0] ?_; (with_reducible refine (spec_l01From.calls k _ _ l0 t590 t591 t592 w _ ?side1 ?side2 ?side3 A2.out).mono ?_); (case side1 => exact Hb); (case side2 => exact HR0.out); (case side3 => exact HC0.out); rintro e w7 ⟨g593, rfl, hi, hb, hb2⟩; refine ⟨_, rfl, ?_⟩; replace HB := Aside0.mk (hb); have HI593 := Aside0.mk (hi); have NB593_589 := Aside0.mk (IsS75.ne_blk hi (blk_below (B1 BK589) hb2) (by decide)); have NB589_593 := Aside0.mk (Ne.symm (IsS75.ne_blk hi (blk_below (B1 BK589) hb2) (by decide))); replace BK589 := Aside0.mk (blk_below (B1 BK589) hb2); (try clear hb); (try clear hb2); (try clear hk); (try clear hi)) | ((with_reducible refine gC 23 ?_); refine GL (some 9) Try.func23 #[.pointer (some ⟨g593, 0, none⟩)] ?_; (with_reducible refine (spec_l10Draw.calls k g593 t590 t591 t592 t594 t597 t598 w _ ?side1 ?side2 A3.out).mono ?_); (case side1 => repeat (first | (with_reducible first | exact HI593.out | apply IsS75.alloc | apply IsS75.drewN | apply IsS75.drew | apply IsS75.set_1 | apply IsS75.set_2 | refine IsS75.far ?_ NB593_589.out _) | exact HI593.out)); (case side2 => repeat (first | (with_reducible first | exact HB.out | apply below_alloc | apply pw_below_drewN | apply below_drew1 | refine below_set ?_ (IsS75.ge HI593.out) | refine below_set ?_ GE589.out) | exact HB.out)); rintro e w8 ⟨v595, rfl, ho0, hi, hb, hk⟩; refine ⟨_, rfl, ?_⟩; replace BK589 := Aside0.mk (KeepBut.blk hk (g' := gb589) (o := .cells #[.int .i64 0, .slice none 0 0] 27 (0, 0)) (B1 BK589) NB589_593.out (by simp)); have HO596 := Aside0.mk (Kd.R_lower ho0 (below_size (by repeat (first | (with_reducible first | exact HB.out | apply below_alloc | apply pw_below_drewN | apply below_drew1 | refine below_set ?_ (IsS75.ge HI593.out) | refine below_set ?_ GE589.out) | exact HB.out)))); replace HB := Aside0.mk (hb); replace HI593 := Aside0.mk (hi); (try clear hb); (try clear hb2); (try clear hk); (try clear hi); (try clear ho0)) | ((with_reducible refine gC 24 ?_); refine GL (some 14) Try.func24 #[.pointer (some ⟨g593, 0, none⟩), .int .i64 5] ?_; (with_reducible refine (spec_l01Next.calls g593 t590 t597 t598 5 t599 t600 t601 w _ ?side1 ?side2 A4.out).mono ?_); (case side1 => repeat (first | (with_reducible first | exact HI593.out | apply IsS75.alloc | apply IsS75.drewN | apply IsS75.drew | apply IsS75.set_1 | apply IsS75.set_2 | refine IsS75.far ?_ NB593_589.out _) | exact HI593.out)); (case side2 => repeat (first | (with_reducible first | exact HB.out | apply below_alloc | apply pw_below_drewN | apply below_drew1 | refine below_set ?_ (IsS75.ge HI593.out) | refine below_set ?_ GE589.out) | exact HB.out)); rintro e w9 ⟨rfl, hi, hb, hk⟩; refine ⟨_, rfl, ?_⟩; replace BK589 := Aside0.mk (KeepBut.blk hk (g' := gb589) (o := .cells #[.int .i64 0, .slice none 0 0] 27 (0, 0)) (B1 BK589) NB589_593.out (by simp)); replace HO596 := Aside0.mk (Kd.R_mono (Kd.R_keep (IsS75.apart (show IsS75 w _ g593 t590 t597 t598 from by repeat (first | (with_reducible first | exact HI593.out | apply IsS75.alloc | apply IsS75.drewN | apply IsS75.drew | apply IsS75.set_1 | apply IsS75.set_2 | refine IsS75.far ?_ NB593_589.out _) | exact HI593.out)) (R1 HO596) (by decide)) hk (fun _ h => h.2)) (fun _ h => h.1)); replace HB := Aside0.mk (hb); replace HI593 := Aside0.mk (hi); (try clear hb); (try clear hb2); (try clear hk); (try clear hi); obtain ⟨Ao10, co10, eo10⟩ := Kd.R_slice HO596.out; subst eo10) | ((with_reducible refine gC 25 ?_); refine GL (some 16) Try.func25 #[.pointer (some ⟨g593, 0, none⟩), .slice Ao10 t594.length co10, .int .i64 (wrap64 (2 + t599))] ?_; (with_reducible refine (spec_l19Draw.calls k g593 t590 t600 t601 _ _ t594 (wrap64 (2 + t599)) t602 t603 t606 t607 w _ ?side1 ?side2 ?side3 ?side4 A5.out).mono ?_); (case side1 => repeat (first | (with_reducible first | exact HI593.out | apply IsS75.alloc | apply IsS75.drewN | apply IsS75.drew | apply IsS75.set_1 | apply IsS75.set_2 | refine IsS75.far ?_ NB593_589.out _) | exact HI593.out)); (case side2 => repeat (first | (with_reducible first | exact HB.out | apply below_alloc | apply pw_below_drewN | apply below_drew1 | refine below_set ?_ (IsS75.ge HI593.out) | refine below_set ?_ GE589.out) | exact HB.out)); (case side3 => exact Kd.C_foot_own (IsS75.apart (show IsS75 w _ g593 t590 t600 t601 from by repeat (first | (with_reducible first | exact HI593.out | apply IsS75.alloc | apply IsS75.drewN | apply IsS75.drew | apply IsS75.set_1 | apply IsS75.set_2 | refine IsS75.far ?_ NB593_589.out _) | exact HI593.out)) (R1 HO596) (by decide)) (fun _ h_ => h_.2)); (case side4 => exact (Kd.R_reads' HO596.out).2.1); rintro e w11 ⟨v604, rfl, ho0, hi, hb, hk⟩; refine ⟨_, rfl, ?_⟩; replace BK589 := Aside0.mk (KeepBut.blk hk (g' := gb589) (o := .cells #[.int .i64 0, .slice none 0 0] 27 (0, 0)) (B1 BK589) NB589_593.out (by simp)); replace HO596 := Aside0.mk (Kd.R_mono (Kd.R_keep (IsS75.apart (show IsS75 w _ g593 t590 t600 t601 from by repeat (first | (with_reducible first | exact HI593.out | apply IsS75.alloc | apply IsS75.drewN | apply IsS75.drew | apply IsS75.set_1 | apply IsS75.set_2 | refine IsS75.far ?_ NB593_589.out _) | exact HI593.out)) (R1 HO596) (by decide)) hk (fun _ h => h.2)) (fun _ h => h.1)); have HO605 := Aside0.mk (Kd.R_lower ho0 (below_size (by repeat (first | (with_reducible first | exact HB.out | apply below_alloc | apply pw_below_drewN | apply below_drew1 | refine below_set ?_ (IsS75.ge HI593.out) | refine below_set ?_ GE589.out) | exact HB.out)))); replace HB := Aside0.mk (hb); replace HI593 := Aside0.mk (hi); (try clear hb); (try clear hb2); (try clear hk); (try clear hi); (try clear ho0); have hnb12 := NB589_593.out; have hnc12 := NB593_589.out; have hcz13_0 : w11.cell? ⟨gb589, 0, none⟩ = some (.int .i64 0) := bc BK589; have hcz13_1 : w11.cell? ⟨gb589, 1, none⟩ = some (.slice none 0 0) := bc BK589; have hfz13_0 := blk_frozen BK589.out 0; have hfz13_1 := blk_frozen BK589.out 1; obtain ⟨Ao14, co14, eo14⟩ := Kd.R_slice HO605.out; subst eo14))
  refine bodyPost_ret (results_tc rfl _ _ gb589 27 #[.int .i64 t602, .slice Ao14 t603.length co14] (0, 0) _ rfl (by (with_reducible repeat (first | refine blk_drewN ?_ _ | refine blk_drew ?_ | refine blk_alloc ?_ _)); refine blk_put (cs := #[.int .i64 t602, .slice none 0 0]) ?_ 1 _ rfl; (with_reducible repeat (first | refine blk_drewN ?_ _ | refine blk_drew ?_ | refine blk_alloc ?_ _)); refine blk_put (cs := #[.int .i64 0, .slice none 0 0]) ?_ 0 _ rfl; (with_reducible repeat (first | refine blk_drewN ?_ _ | refine blk_drew ?_ | refine blk_alloc ?_ _)); exact BK589.out) Try.underlying27 rfl (by kernel_rfl)) rfl ?_
  exact ⟨_, _, Fin, by (with_reducible repeat (first | apply Kd.R_alloc | apply Kd.R_drewN | apply Kd.R_drew)); exact Kd.R_mono (Kd.R_far (p := ⟨gb589, 1, none⟩) (Kd.R_far (p := ⟨gb589, 0, none⟩) (Kd.R_types HO596.out BK589.out (by decide)) (fun _ hk => hk.2) (.int .i64 t602)) (fun _ hk => hk.2) (.slice Ao14 t603.length co14)) (fun _ hk => trivial), by (with_reducible repeat (first | apply Kd.R_alloc | apply Kd.R_drewN | apply Kd.R_drew)); exact Kd.R_mono (Kd.R_far (p := ⟨gb589, 1, none⟩) (Kd.R_far (p := ⟨gb589, 0, none⟩) (Kd.R_types HO605.out BK589.out (by decide)) (fun _ hk => hk.2) (.int .i64 t602)) (fun _ hk => hk.2) (.slice Ao14 t603.length co14)) (fun _ hk => trivial), by repeat (first | (with_reducible first | exact HB.out | apply below_alloc | apply pw_below_drewN | apply below_drew1 | refine below_set ?_ (IsS75.ge HI593.out) | refine below_set ?_ GE589.out) | exact HB.out)⟩

end Go.Proofs.Ytpnlidfebnkgmaa.XFnWeightSums
