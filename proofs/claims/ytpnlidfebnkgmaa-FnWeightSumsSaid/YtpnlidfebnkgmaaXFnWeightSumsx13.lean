-- Written by ext.py (wip/) over the kit's print: not trusted, Lean checks it.
import Derived.Test.YtpnlidfebnkgmaaXFnWeightSumsx0
import Derived.Test.YtpnlidfebnkgmaaXFnWeightSumsx2
import Derived.Test.YtpnlidfebnkgmaaXFnWeightSumsx7
import Derived.Test.YtpnlidfebnkgmaaXFnWeightSumsx8
import Derived.Test.YtpnlidfebnkgmaaXFnWeightSumsx9
import Derived.Test.YtpnlidfebnkgmaaXFnWeightSumsx10
import Derived.Test.YtpnlidfebnkgmaaXFnWeightSumsx11
import Derived.Test.YtpnlidfebnkgmaaXFnWeightSumsx12
namespace Go.Proofs.Ytpnlidfebnkgmaa.XFnWeightSums
open Go.RowKit Go.Proofs.YtpnlidfebnkgmaaW.PrintWords Go.Proofs.YtpnlidfebnkgmaaW.PrintLast Go.Proofs.YtpnlidfebnkgmaaW.PrintMore
attribute [local go_sem] max2_int min2_int max_two min_two max_three min_three max_four min_four   -- for this text's walks alone
set_option linter.unusedVariables false
set_option linter.unusedSimpArgs false

/-! ### laws_likeInts: function 13 -/
def laws_likeInts.l0 : Nat → List Int → List Int → Int → Option (Bool)
  | 0, _, _, _ => none
  | k + 1, x0, x1, x5 => if x5 < (x0.length : Int) then (if 0 ≤ x5 then (if x5 < (x1.length : Int) then (if (rd x0 x5) = (rd x1 x5) then (laws_likeInts.l0 k x0 x1 (wrap64 (x5 + 1))) else (some false)) else (none)) else (none)) else (some true)
def laws_likeInts.f (k : Nat) (l0 : List Int) (l1 : List Int) : Option (Bool) := if (l0.length : Int) = (l1.length : Int) then (laws_likeInts.l0 k l0 l1 0) else (some false)
theorem laws_likeInts.mono_l : ∀ k, (∀ y0 y1 y2, LeO (laws_likeInts.l0 k y0 y1 y2) (laws_likeInts.l0 (k + 1) y0 y1 y2))
  | 0 => fun _ _ _ r h => by simp [laws_likeInts.l0] at h
  | k + 1 => by
    have ih0 := laws_likeInts.mono_l k
    · intro y0 y1 y2
      unfold laws_likeInts.l0
      repeat' first
      | (with_reducible exact ih0 _ _ _)
      | (with_reducible exact LeO.refl _)
      | (with_reducible exact LeO.none _)
      | (with_reducible refine LeO.ite ?_ ?_)
      | (with_reducible refine LeO.bind ?_ (fun _ => ?_))
      | exact ih0 _ _ _
      | exact LeO.none _
      | refine LeO.ite ?_ ?_
      | refine LeO.bind ?_ (fun _ => ?_)
theorem laws_likeInts.mono : ∀ a0 a1 k, LeO (laws_likeInts.f k a0 a1) (laws_likeInts.f (k + 1) a0 a1) := by
  intro a0 a1 k
  have ih0 := laws_likeInts.mono_l k
  unfold laws_likeInts.f
  repeat' first
      | (with_reducible exact ih0 _ _ _)
      | (with_reducible exact LeO.refl _)
      | (with_reducible exact LeO.none _)
      | (with_reducible refine LeO.ite ?_ ?_)
      | (with_reducible refine LeO.bind ?_ (fun _ => ?_))
      | exact ih0 _ _ _
      | exact LeO.none _
      | refine LeO.ite ?_ ?_
      | refine LeO.bind ?_ (fun _ => ?_)
set_option maxHeartbeats 8000000 in
set_option maxRecDepth 100000 in
theorem laws_likeInts.calls (k : Nat) (A0 : Option Addr) (c0 : Nat) (l0 : List Int) (A1 : Option Addr) (c1 : Nat) (l1 : List Int) (r : Bool) (w : World) (hr0 : Kd.C (Kd.int .i64) w A0 l0.length l0) (hc0 : l0.length ≤ c0) (hr1 : Kd.C (Kd.int .i64) w A1 l1.length l1) (hc1 : l1.length ≤ c1) (h : laws_likeInts.f k l0 l1 = some r) :
    Calls Try.prog 13 #[.slice A0 l0.length c0, .slice A1 l1.length c1] w fun e w' => e = .returned (.bool r) ∧ Drawn0 w w' := by
  have HR0 := Aside0.mk hr0
  have HC0 := Aside0.mk hc0
  clear hr0 hc0
  have HR1 := Aside0.mk hr1
  have HC1 := Aside0.mk hc1
  clear hr1 hc1
  have H : (if (l0.length : Int) = (l1.length : Int) then (laws_likeInts.l0 k l0 l1 0) else (some false)) = some r := h
  clear h
  by_cases c3 : (l0.length : Int) = (l1.length : Int)
  · rw [if_pos c3] at H
    have c3b0 : ((l0.length : Int) == (l1.length : Int)) = true := beq_iff_eq.mpr c3
    have c3b1 : ((l0.length : Int) != (l1.length : Int)) = false := bne_eq_false_iff_eq.mpr c3
    have c3b2 : (l0.length == l1.length) = true := by first | simpa using c3 | (simp at c3 ⊢; omega)
    clear c3
    have H' := Aside0.mk H
    clear H
    go_enter Try.func13, Try.ntmps13
    go_wp2
    repeat (go_quiet (fail); try go_wp2)
    go_loopg [5] k (fun kq v5 w' => ∃ (x5_1 : Int), v5 = .int .i64 x5_1 ∧ Aside0 (laws_likeInts.l0 kq l0 l1 x5_1 = some r) ∧ Aside0 (kq ≤ k) ∧ Drawn0 w w')
    case atStart => exact ⟨(0), Fs, H', ⟨Nat.le_refl _⟩, by repeat (first | exact Drawn0.refl _ | apply Drawn0.step)⟩
    case round =>
      clear H'
      try clear c1
      try clear p2
      try clear c3
      try clear c3b0
      try clear c3b1
      try clear c3b2
      obtain ⟨x5_1, rfl, HA, HK1, ⟨m1, rfl⟩⟩ := hrel
      cases gk with
      | zero => exact absurd HA.out (by simp [laws_likeInts.l0])
      | succ k1 =>
        have H := HA.out
        clear HA
        simp only [laws_likeInts.l0] at H
        by_cases c4 : x5_1 < (l0.length : Int)
        · rw [if_pos c4] at H
          have c4b0 : decide (x5_1 < (l0.length : Int)) = true := decide_eq_true c4
          clear c4
          by_cases c5 : 0 ≤ x5_1
          · rw [if_pos c5] at H
            have c5b0 : decide (0 ≤ x5_1) = true := decide_eq_true c5
            clear c5
            by_cases c6 : x5_1 < (l1.length : Int)
            · rw [if_pos c6] at H
              have c6b0 : decide (x5_1 < (l1.length : Int)) = true := decide_eq_true c6
              clear c6
              by_cases c7 : (rd l0 x5_1) = (rd l1 x5_1)
              · rw [if_pos c7] at H
                have c7b0 : ((rd l0 x5_1) == (rd l1 x5_1)) = true := beq_iff_eq.mpr c7
                have c7b1 : ((rd l0 x5_1) != (rd l1 x5_1)) = false := bne_eq_false_iff_eq.mpr c7
                clear c7
                have H' := Aside0.mk H
                clear H
                have p608 : 0 ≤ (x5_1 : Int) := oD
                have q608 : x5_1 < (l0.length : Int) := oD
                obtain ⟨ad608, e608, hx608_0⟩ := Kd.at_int HR0.out x5_1 p608 q608
                cases e608
                replace p608 := eq_true p608
                replace q608 := eq_true q608
                have p609 : 0 ≤ (x5_1 : Int) := oD
                have q609 : x5_1 < (l1.length : Int) := oD
                obtain ⟨ad609, e609, hx609_0⟩ := Kd.at_int HR1.out x5_1 p609 q609
                cases e609
                replace p609 := eq_true p609
                replace q609 := eq_true q609
                go_wp2
                repeat (go_quiet (fail); try go_wp2)
                go_roundg k1
                case measure => have := HK1.out; omega
                case rel => exact ⟨(wrap64 (x5_1 + 1)), Fs, H', ⟨by have := HK1.out; omega⟩, by repeat (first | exact Drawn0.refl _ | apply Drawn0.step)⟩
              · rw [if_neg c7] at H
                have c7b0 : ((rd l0 x5_1) == (rd l1 x5_1)) = false := beq_eq_false_iff_ne.mpr c7
                have c7b1 : ((rd l0 x5_1) != (rd l1 x5_1)) = true := bne_iff_ne.mpr c7
                obtain rfl := Option.some.inj H
                have p608 : 0 ≤ (x5_1 : Int) := oD
                have q608 : x5_1 < (l0.length : Int) := oD
                obtain ⟨ad608, e608, hx608_0⟩ := Kd.at_int HR0.out x5_1 p608 q608
                cases e608
                replace p608 := eq_true p608
                replace q608 := eq_true q608
                have p609 : 0 ≤ (x5_1 : Int) := oD
                have q609 : x5_1 < (l1.length : Int) := oD
                obtain ⟨ad609, e609, hx609_0⟩ := Kd.at_int HR1.out x5_1 p609 q609
                cases e609
                replace p609 := eq_true p609
                replace q609 := eq_true q609
                go_wp2
                repeat (go_quiet (fail); try go_wp2)
                go_ret
                exact ⟨Fs, by repeat (first | exact Drawn0.refl _ | apply Drawn0.step)⟩
            · rw [if_neg c6] at H
              exact absurd H (by simp)
          · rw [if_neg c5] at H
            exact absurd H (by simp)
        · rw [if_neg c4] at H
          have c4b0 : decide (x5_1 < (l0.length : Int)) = false := decide_eq_false c4
          clear c4
          obtain rfl := Option.some.inj H
          go_wp2
          repeat (go_quiet (fail); try go_wp2)
          go_ret
          exact ⟨Fs, by repeat (first | exact Drawn0.refl _ | apply Drawn0.step)⟩
  · rw [if_neg c3] at H
    have c3b0 : ((l0.length : Int) == (l1.length : Int)) = false := beq_eq_false_iff_ne.mpr c3
    have c3b1 : ((l0.length : Int) != (l1.length : Int)) = true := bne_iff_ne.mpr c3
    have c3b2 : (l0.length == l1.length) = false := by first | simpa using c3 | (simp at c3 ⊢; omega)
    obtain rfl := Option.some.inj H
    go_enter Try.func13, Try.ntmps13
    go_wp2
    repeat (go_quiet (fail); try go_wp2)
    go_ret
    exact ⟨Fs, by repeat (first | exact Drawn0.refl _ | apply Drawn0.step)⟩

/-! ### impl_IsWeighting: function 14 -/
def impl_IsWeighting.f (k : Nat) (l0 : List (S68)) (a1_0 : Int) (l1_1 : List Int) : Option (Bool) := (impl_IsRegion.f k l0).bind fun t611 => (if t611 = true then ((impl_isWeighting.f l0 a1_0 l1_1).bind fun t612 => (some t612)) else (some false))
theorem impl_IsWeighting.mono : ∀ a0 a1 a2 k, LeO (impl_IsWeighting.f k a0 a1 a2) (impl_IsWeighting.f (k + 1) a0 a1 a2) := by
  intro a0 a1 a2 k
  unfold impl_IsWeighting.f
  repeat' first
      | (with_reducible exact impl_IsRegion.mono _ _)
      | (with_reducible exact LeO.refl _)
      | (with_reducible exact LeO.none _)
      | (with_reducible refine LeO.ite ?_ ?_)
      | (with_reducible refine LeO.bind ?_ (fun _ => ?_))
      | exact impl_IsRegion.mono _ _
      | exact LeO.none _
      | refine LeO.ite ?_ ?_
      | refine LeO.bind ?_ (fun _ => ?_)
set_option maxHeartbeats 8000000 in
set_option maxRecDepth 100000 in
theorem impl_IsWeighting.calls (k : Nat) (A0 : Option Addr) (c0 : Nat) (l0 : List (S68)) (a1_0 : Int) (A1_1 : Option Addr) (c1_1 : Nat) (l1_1 : List Int) (r : Bool) (w : World) (hr0 : Kd.C k68 w A0 l0.length l0) (hc0 : l0.length ≤ c0) (hr1_1 : Kd.C (Kd.int .i64) w A1_1 l1_1.length l1_1) (hc1_1 : l1_1.length ≤ c1_1) (h : impl_IsWeighting.f k l0 a1_0 l1_1 = some r) :
    Calls Try.prog 14 #[.slice A0 l0.length c0, .agg #[.int .i64 a1_0, .slice A1_1 l1_1.length c1_1]] w fun e w' => e = .returned (.bool r) ∧ Below w.heap.size w w' := by
  have hu27 := Try.underlying27
  have HR0 := Aside0.mk hr0
  have HC0 := Aside0.mk hc0
  clear hr0 hc0
  have HR1_1 := Aside0.mk hr1_1
  have HC1_1 := Aside0.mk hc1_1
  clear hr1_1 hc1_1
  have HB := Aside0.mk (Below.refl w.heap.size w)
  have H : ((impl_IsRegion.f k l0).bind fun t611 => (if t611 = true then ((impl_isWeighting.f l0 a1_0 l1_1).bind fun t612 => (some t612)) else (some false))) = some r := h
  clear h
  obtain ⟨t611, A30, H⟩ := Option.bind_eq_some_iff.mp H
  have A3 := Aside0.mk A30
  clear A30
  by_cases c4 : t611 = true
  · subst c4
    rw [if_pos rfl] at H
    obtain ⟨t612, A50, H⟩ := Option.bind_eq_some_iff.mp H
    have A5 := Aside0.mk A50
    clear A50
    obtain rfl := Option.some.inj H
    go_enter Try.func14, Try.ntmps14
    go_wp2_with (first | ((with_reducible refine gD 3 ?_); refine BX #[.int .i64 a1_0, .slice A1_1 l1_1.length c1_1] 27 ?_; intro gb610 hg w6 hbox hb; have BK610 := Aside0.mk (hbox); have GW610 := Aside0.mk ((Gle hg Hb : w.heap.size ≤ gb610)); have GE610 := Aside0.mk ((Gle hg Hb : w.heap.size ≤ gb610)); replace HB := Aside0.mk (below_step Hb hb); clear hb hbox hg) | ((with_reducible refine gC 26 ?_); refine GL (some 6) Try.func26 #[.slice A0 l0.length c0] ?_; (with_reducible refine (impl_IsRegion.calls k _ _ l0 true _ ?side1 ?side2 A3.out).mono ?_); (case side1 => exact Kd.C_below HR0.out Hb); (case side2 => exact HC0.out); rintro e w7 ⟨rfl, hb⟩; refine ⟨_, rfl, ?_⟩; replace BK610 := Aside0.mk (blk_below (B1 BK610) hb); replace HB := Aside0.mk (below_step Hb hb); (try clear hb); (try clear hb2); (try clear hk); (try clear hi); have hcz8_0 : w7.cell? ⟨gb610, 0, none⟩ = some (.int .i64 a1_0) := bc BK610; have hcz8_1 : w7.cell? ⟨gb610, 1, none⟩ = some (.slice A1_1 l1_1.length c1_1) := bc BK610; have hfz8_0 := blk_frozen BK610.out 0; have hfz8_1 := blk_frozen BK610.out 1) | (go_at_call 27; (with_reducible refine (impl_isWeighting.calls _ _ l0 a1_0 _ _ l1_1 t612 _ ?side1 ?side2 ?side3 ?side4 A5.out).mono ?_); (case side1 => exact Kd.C_below HR0.out Hb); (case side2 => exact HC0.out); (case side3 => exact Kd.C_below HR1_1.out Hb); (case side4 => exact HC1_1.out); rintro e w9 ⟨rfl, hb⟩; replace BK610 := Aside0.mk (blk_below (B1 BK610) hb); replace HB := Aside0.mk (below_step Hb hb); (try clear hb); (try clear hb2); (try clear hk); (try clear hi)))
    go_ret
    exact ⟨Fin, Hb⟩
  · replace c4 := Bool.eq_false_iff.mpr c4
    subst c4
    rw [if_neg (show ¬ (false = true) by decide)] at H
    obtain rfl := Option.some.inj H
    go_enter Try.func14, Try.ntmps14
    go_wp2_with (first | ((with_reducible refine gD 3 ?_); refine BX #[.int .i64 a1_0, .slice A1_1 l1_1.length c1_1] 27 ?_; intro gb610 hg w10 hbox hb; have BK610 := Aside0.mk (hbox); have GW610 := Aside0.mk ((Gle hg Hb : w.heap.size ≤ gb610)); have GE610 := Aside0.mk ((Gle hg Hb : w.heap.size ≤ gb610)); replace HB := Aside0.mk (below_step Hb hb); clear hb hbox hg) | ((with_reducible refine gC 26 ?_); refine GL (some 6) Try.func26 #[.slice A0 l0.length c0] ?_; (with_reducible refine (impl_IsRegion.calls k _ _ l0 false _ ?side1 ?side2 A3.out).mono ?_); (case side1 => exact Kd.C_below HR0.out Hb); (case side2 => exact HC0.out); rintro e w11 ⟨rfl, hb⟩; refine ⟨_, rfl, ?_⟩; replace BK610 := Aside0.mk (blk_below (B1 BK610) hb); replace HB := Aside0.mk (below_step Hb hb); (try clear hb); (try clear hb2); (try clear hk); (try clear hi)))
    go_ret
    exact ⟨Fin, Hb⟩

/-! ### spec_IsWeighting: function 15 -/
def spec_IsWeighting.f (k : Nat) (l0 : List (S68)) (a1_0 : Int) (l1_1 : List Int) : Option (Bool) := (spec_IsRegion.f k l0).bind fun t614 => (if t614 = true then ((spec_l19Is.f k l0 a1_0 l1_1).bind fun t615 => (some t615)) else (some false))
theorem spec_IsWeighting.mono : ∀ a0 a1 a2 k, LeO (spec_IsWeighting.f k a0 a1 a2) (spec_IsWeighting.f (k + 1) a0 a1 a2) := by
  intro a0 a1 a2 k
  unfold spec_IsWeighting.f
  repeat' first
      | (with_reducible exact spec_IsRegion.mono _ _)
      | (with_reducible exact spec_l19Is.mono _ _ _ _)
      | (with_reducible exact LeO.refl _)
      | (with_reducible exact LeO.none _)
      | (with_reducible refine LeO.ite ?_ ?_)
      | (with_reducible refine LeO.bind ?_ (fun _ => ?_))
      | exact spec_IsRegion.mono _ _
      | exact spec_l19Is.mono _ _ _ _
      | exact LeO.none _
      | refine LeO.ite ?_ ?_
      | refine LeO.bind ?_ (fun _ => ?_)
set_option maxHeartbeats 8000000 in
set_option maxRecDepth 100000 in
theorem spec_IsWeighting.calls (k : Nat) (A0 : Option Addr) (c0 : Nat) (l0 : List (S68)) (a1_0 : Int) (A1_1 : Option Addr) (c1_1 : Nat) (l1_1 : List Int) (r : Bool) (w : World) (hr0 : Kd.C k68 w A0 l0.length l0) (hc0 : l0.length ≤ c0) (hr1_1 : Kd.C (Kd.int .i64) w A1_1 l1_1.length l1_1) (hc1_1 : l1_1.length ≤ c1_1) (h : spec_IsWeighting.f k l0 a1_0 l1_1 = some r) :
    Calls Try.prog 15 #[.slice A0 l0.length c0, .agg #[.int .i64 a1_0, .slice A1_1 l1_1.length c1_1]] w fun e w' => e = .returned (.bool r) ∧ Below w.heap.size w w' := by
  have hu27 := Try.underlying27
  have HR0 := Aside0.mk hr0
  have HC0 := Aside0.mk hc0
  clear hr0 hc0
  have HR1_1 := Aside0.mk hr1_1
  have HC1_1 := Aside0.mk hc1_1
  clear hr1_1 hc1_1
  have HB := Aside0.mk (Below.refl w.heap.size w)
  have H : ((spec_IsRegion.f k l0).bind fun t614 => (if t614 = true then ((spec_l19Is.f k l0 a1_0 l1_1).bind fun t615 => (some t615)) else (some false))) = some r := h
  clear h
  obtain ⟨t614, A30, H⟩ := Option.bind_eq_some_iff.mp H
  have A3 := Aside0.mk A30
  clear A30
  by_cases c4 : t614 = true
  · subst c4
    rw [if_pos rfl] at H
    obtain ⟨t615, A50, H⟩ := Option.bind_eq_some_iff.mp H
    have A5 := Aside0.mk A50
    clear A50
    obtain rfl := Option.some.inj H
    go_enter Try.func15, Try.ntmps15
    go_wp2_with (first | ((with_reducible refine gD 3 ?_); refine BX #[.int .i64 a1_0, .slice A1_1 l1_1.length c1_1] 27 ?_; intro gb613 hg w6 hbox hb; have BK613 := Aside0.mk (hbox); have GW613 := Aside0.mk ((Gle hg Hb : w.heap.size ≤ gb613)); have GE613 := Aside0.mk ((Gle hg Hb : w.heap.size ≤ gb613)); replace HB := Aside0.mk (below_step Hb hb); clear hb hbox hg) | ((with_reducible refine gC 28 ?_); refine GL (some 6) Try.func28 #[.slice A0 l0.length c0] ?_; (with_reducible refine (spec_IsRegion.calls k _ _ l0 true _ ?side1 ?side2 A3.out).mono ?_); (case side1 => exact Kd.C_below HR0.out Hb); (case side2 => exact HC0.out); rintro e w7 ⟨rfl, hb⟩; refine ⟨_, rfl, ?_⟩; replace BK613 := Aside0.mk (blk_below (B1 BK613) hb); replace HB := Aside0.mk (below_step Hb hb); (try clear hb); (try clear hb2); (try clear hk); (try clear hi); have hcz8_0 : w7.cell? ⟨gb613, 0, none⟩ = some (.int .i64 a1_0) := bc BK613; have hcz8_1 : w7.cell? ⟨gb613, 1, none⟩ = some (.slice A1_1 l1_1.length c1_1) := bc BK613; have hfz8_0 := blk_frozen BK613.out 0; have hfz8_1 := blk_frozen BK613.out 1) | (go_at_call 29; (with_reducible refine (spec_l19Is.calls k _ _ l0 a1_0 _ _ l1_1 t615 _ ?side1 ?side2 ?side3 ?side4 A5.out).mono ?_); (case side1 => exact Kd.C_below HR0.out Hb); (case side2 => exact HC0.out); (case side3 => exact Kd.C_below HR1_1.out Hb); (case side4 => exact HC1_1.out); rintro e w9 ⟨rfl, hb⟩; replace BK613 := Aside0.mk (blk_below (B1 BK613) hb); replace HB := Aside0.mk (below_step Hb hb); (try clear hb); (try clear hb2); (try clear hk); (try clear hi)))
    go_ret
    exact ⟨Fin, Hb⟩
  · replace c4 := Bool.eq_false_iff.mpr c4
    subst c4
    rw [if_neg (show ¬ (false = true) by decide)] at H
    obtain rfl := Option.some.inj H
    go_enter Try.func15, Try.ntmps15
    go_wp2_with (first | ((with_reducible refine gD 3 ?_); refine BX #[.int .i64 a1_0, .slice A1_1 l1_1.length c1_1] 27 ?_; intro gb613 hg w10 hbox hb; have BK613 := Aside0.mk (hbox); have GW613 := Aside0.mk ((Gle hg Hb : w.heap.size ≤ gb613)); have GE613 := Aside0.mk ((Gle hg Hb : w.heap.size ≤ gb613)); replace HB := Aside0.mk (below_step Hb hb); clear hb hbox hg) | ((with_reducible refine gC 28 ?_); refine GL (some 6) Try.func28 #[.slice A0 l0.length c0] ?_; (with_reducible refine (spec_IsRegion.calls k _ _ l0 false _ ?side1 ?side2 A3.out).mono ?_); (case side1 => exact Kd.C_below HR0.out Hb); (case side2 => exact HC0.out); rintro e w11 ⟨rfl, hb⟩; refine ⟨_, rfl, ?_⟩; replace BK613 := Aside0.mk (blk_below (B1 BK613) hb); replace HB := Aside0.mk (below_step Hb hb); (try clear hb); (try clear hb2); (try clear hk); (try clear hi)))
    go_ret
    exact ⟨Fin, Hb⟩

/-! ### laws_FnWeightSums: function 3 -/
/-- A row that is appended to: its value may be another, its blocks are what they were or new. -/
theorem Sat.atA {w0 w : World} {es : List Ent} {α : Type} {d : Kd α} {t : Nat} {v : Value} {xs : List α} (h : Aside0 (Sat w0 es w)) (i : Nat) (hi : es[i]? = some (Ctx.R d t v xs)) : ∃ (ok : Nat → Prop) (sz : Nat), (∀ W, Qt w W → sz ≤ W.heap.size) ∧ d.R t w w0.heap.size ok v xs ∧ ∀ (W w1 : World) (v1 : Value) (xs' : List α), Qt w W → Below w0.heap.size w0 w1 → W.grownBy w1 v.ownBlock → d.R t w1 w0.heap.size (fun k => ok k ∨ sz ≤ k) v1 xs' → Aside0 (Sat w0 (es.set i (Ctx.R d t v1 xs')) w1) := by
  obtain ⟨ok, hP, hc⟩ := h.out.at_ i hi
  refine ⟨ok, w.heap.size, fun W hq => hq.size, hP, fun W w1 v1 xs' hq hb hg he => ⟨hc w1 (Ctx.R d t v1 xs') hb ⟨Nat.le_trans hq.size hg.size, fun k hlt hn => ?_⟩ he⟩⟩
  exact (hg.block k (Nat.lt_of_lt_of_le hlt hq.size) (fun e_ => hn (hP.1 k e_.symm))).trans (hq.block k hlt)
def laws_FnWeightSums.l0 : Nat → List (S68) → List Int → Int → Int → List Int → Int → List Int → Int → List Int → Option (Bool)
  | 0, _, _, _, _, _, _, _, _, _ => none
  | k + 1, x3, x19, x20, x629000, x629001, x630000, x630001, x636000, x636001 => if x20 < (x3.length : Int) then (if x19.length < 17592186044416 then (laws_FnWeightSums.l0 k x3 (x19 ++ [x20]) (wrap64 (x20 + 1)) x629000 x629001 x630000 x630001 x636000 x636001) else (none)) else ((impl_WeightOfSet.f k x3 x629000 x629001 x19).bind fun bt674 => ((impl_WeightOfSet.f k x3 x630000 x630001 x19).bind fun bt676 => ((impl_WeightOfSet.f k x3 x636000 x636001 x19).bind fun bt678 => (if bt674.2 = 0 then (if bt676.2 = 0 then (if bt678.2 = 0 then (if x630000 = 0 then (none) else (some (bt678.1 == (Int.tmod (wrap64 (bt674.1 + bt676.1)) x630000)))) else (some false)) else (some false)) else (some false)))))
def laws_FnWeightSums.f (k : Nat) (l0 : List Int) : Option (Bool) := (laws_big.f l0).bind fun t616 => (if t616 = true then (some true) else ((spec_DrawAddWeightings.f k l0).bind fun bt617 => ((impl_AddWeightings.f k bt617.1 bt617.2.1 bt617.2.2.1 bt617.2.2.2.1 bt617.2.2.2.2).bind fun bt630 => ((spec_AddWeightings.f k bt617.1 bt617.2.1 bt617.2.2.1 bt617.2.2.2.1 bt617.2.2.2.2).bind fun bt636 => ((spec_DrawWeightOfSet.f k l0).bind fun bt642 => ((impl_WeightOfSet.f k bt642.1 bt642.2.1 bt642.2.2.1 bt642.2.2.2).bind fun bt653 => ((spec_WeightOfSet.f k bt642.1 bt642.2.1 bt642.2.2.1 bt642.2.2.2).bind fun bt655 => ((spec_DrawIsWeighting.f k l0).bind fun bt657 => (if bt630.2.2 = bt636.2.2 then (if bt630.1 = bt636.1 then ((laws_likeInts.f k bt630.2.1 bt636.2.1).bind fun t665 => (if t665 = true then (if bt653.2 = bt655.2 then (if bt653.1 = bt655.1 then ((impl_IsWeighting.f k bt657.1 bt657.2.1 bt657.2.2).bind fun t666 => ((spec_IsWeighting.f k bt657.1 bt657.2.1 bt657.2.2).bind fun t667 => (if (t666 != t667) = true then (some false) else (if bt630.2.2 = 0 then (laws_FnWeightSums.l0 k bt617.1 (([] : List Int)) 0 bt617.2.1 bt617.2.2.1 bt617.2.2.2.1 bt617.2.2.2.2 bt630.1 bt630.2.1) else (some true))))) else (some false)) else (some false)) else (some false))) else (some false)) else (some false))))))))))
theorem laws_FnWeightSums.mono_l : ∀ k, (∀ y0 y1 y2 y3 y4 y5 y6 y7 y8, LeO (laws_FnWeightSums.l0 k y0 y1 y2 y3 y4 y5 y6 y7 y8) (laws_FnWeightSums.l0 (k + 1) y0 y1 y2 y3 y4 y5 y6 y7 y8))
  | 0 => fun _ _ _ _ _ _ _ _ _ r h => by simp [laws_FnWeightSums.l0] at h
  | k + 1 => by
    have ih0 := laws_FnWeightSums.mono_l k
    · intro y0 y1 y2 y3 y4 y5 y6 y7 y8
      unfold laws_FnWeightSums.l0
      repeat' first
      | (with_reducible exact ih0 _ _ _ _ _ _ _ _ _)
      | (with_reducible exact impl_AddWeightings.mono _ _ _ _ _ _)
      | (with_reducible exact impl_IsWeighting.mono _ _ _ _)
      | (with_reducible exact impl_WeightOfSet.mono _ _ _ _ _)
      | (with_reducible exact laws_likeInts.mono _ _ _)
      | (with_reducible exact spec_AddWeightings.mono _ _ _ _ _ _)
      | (with_reducible exact spec_DrawAddWeightings.mono _ _)
      | (with_reducible exact spec_DrawIsWeighting.mono _ _)
      | (with_reducible exact spec_DrawWeightOfSet.mono _ _)
      | (with_reducible exact spec_IsWeighting.mono _ _ _ _)
      | (with_reducible exact spec_WeightOfSet.mono _ _ _ _ _)
      | (with_reducible exact LeO.refl _)
      | (with_reducible exact LeO.none _)
      | (with_reducible refine LeO.ite ?_ ?_)
      | (with_reducible refine LeO.bind ?_ (fun _ => ?_))
      | exact ih0 _ _ _ _ _ _ _ _ _
      | exact impl_AddWeightings.mono _ _ _ _ _ _
      | exact impl_IsWeighting.mono _ _ _ _
      | exact impl_WeightOfSet.mono _ _ _ _ _
      | exact laws_likeInts.mono _ _ _
      | exact spec_AddWeightings.mono _ _ _ _ _ _
      | exact spec_DrawAddWeightings.mono _ _
      | exact spec_DrawIsWeighting.mono _ _
      | exact spec_DrawWeightOfSet.mono _ _
      | exact spec_IsWeighting.mono _ _ _ _
      | exact spec_WeightOfSet.mono _ _ _ _ _
      | exact LeO.none _
      | refine LeO.ite ?_ ?_
      | refine LeO.bind ?_ (fun _ => ?_)
theorem laws_FnWeightSums.mono : ∀ a0 k, LeO (laws_FnWeightSums.f k a0) (laws_FnWeightSums.f (k + 1) a0) := by
  intro a0 k
  have ih0 := laws_FnWeightSums.mono_l k
  unfold laws_FnWeightSums.f
  repeat' first
      | (with_reducible exact ih0 _ _ _ _ _ _ _ _ _)
      | (with_reducible exact impl_AddWeightings.mono _ _ _ _ _ _)
      | (with_reducible exact impl_IsWeighting.mono _ _ _ _)
      | (with_reducible exact impl_WeightOfSet.mono _ _ _ _ _)
      | (with_reducible exact laws_likeInts.mono _ _ _)
      | (with_reducible exact spec_AddWeightings.mono _ _ _ _ _ _)
      | (with_reducible exact spec_DrawAddWeightings.mono _ _)
      | (with_reducible exact spec_DrawIsWeighting.mono _ _)
      | (with_reducible exact spec_DrawWeightOfSet.mono _ _)
      | (with_reducible exact spec_IsWeighting.mono _ _ _ _)
      | (with_reducible exact spec_WeightOfSet.mono _ _ _ _ _)
      | (with_reducible exact LeO.refl _)
      | (with_reducible exact LeO.none _)
      | (with_reducible refine LeO.ite ?_ ?_)
      | (with_reducible refine LeO.bind ?_ (fun _ => ?_))
      | exact ih0 _ _ _ _ _ _ _ _ _
      | exact impl_AddWeightings.mono _ _ _ _ _ _
      | exact impl_IsWeighting.mono _ _ _ _
      | exact impl_WeightOfSet.mono _ _ _ _ _
      | exact laws_likeInts.mono _ _ _
      | exact spec_AddWeightings.mono _ _ _ _ _ _
      | exact spec_DrawAddWeightings.mono _ _
      | exact spec_DrawIsWeighting.mono _ _
      | exact spec_DrawWeightOfSet.mono _ _
      | exact spec_IsWeighting.mono _ _ _ _
      | exact spec_WeightOfSet.mono _ _ _ _ _
      | exact LeO.none _
      | refine LeO.ite ?_ ?_
      | refine LeO.bind ?_ (fun _ => ?_)
def laws_FnWeightSums.T10 : Bool × List (List Nat × List Nat) := (true, [([], []), ([], []), ([0, 1], [0, 1]), ([2], [2]), ([3], [3]), ([4, 3], [3, 4]), ([3], [3]), ([6, 3], [3, 6]), ([5, 7, 3], [3, 5, 7]), ([3, 8], [3, 8]), ([9, 3], [9]), ([10], [10]), ([11, 10], [10, 11]), ([10], [10]), ([13, 10], [10, 13]), ([12, 14, 10, 10], [10, 12, 14]), ([15, 10], [10, 15]), ([10, 16], [10, 16]), ([17, 15], [17]), ([18], [18]), ([18], [18]), ([19, 20, 18], [18, 19, 20]), ([18, 21], [18, 21]), ([22, 18], [22]), ([23], [23]), ([23], [23]), ([24, 25, 23], [23, 24, 25]), ([23, 26], [23, 26]), ([27, 23], [27]), ([28], [28]), ([28], [28]), ([29, 30, 28, 28], [28, 29, 30]), ([28], [28]), ([28], [28]), ([32, 33, 31, 28], [28, 32, 33]), ([31, 34, 28], [28, 31, 34]), ([28, 35], [28, 35])])
def laws_FnWeightSums.B10 : List Nat := [0, 0, 3, 7, 15, 31, 15, 79, 255, 511, 1023, 2047, 4095, 2047, 10239, 32767, 65535, 131071, 262143, 524287, 524287, 2097151, 4194303, 8388607, 16777215, 16777215, 67108863, 134217727, 268435455, 536870911, 536870911, 2147483647, 536870911, 536870911, 17179869183, 34359738367, 68719476735]
theorem laws_FnWeightSums.tab10 : rtab .any (opsOf Try.f3 10) = laws_FnWeightSums.T10 := by kernel_rfl
theorem laws_FnWeightSums.bits10 : waitsOk laws_FnWeightSums.T10.2 laws_FnWeightSums.B10 = true := by kernel_rfl
set_option maxHeartbeats 8000000 in
set_option maxRecDepth 100000 in
theorem laws_FnWeightSums.calls (k : Nat) (A0 : Option Addr) (c0 : Nat) (l0 : List Int) (r : Bool) (w : World) (hrt : r = true) (hr0 : Kd.C (Kd.int .u8) w A0 l0.length l0) (hc0 : l0.length ≤ c0) (h : laws_FnWeightSums.f k l0 = some r) :
    Calls Try.prog 3 #[.slice A0 l0.length c0] w fun e w' => e = .returned (.bool r) ∧ Below w.heap.size w w' := by
  have hu27 := Try.underlying27
  have HR0 := Aside0.mk hr0
  have HC0 := Aside0.mk hc0
  clear hr0 hc0
  have HG := Aside0.mk (Sat.start w)
  have H : ((laws_big.f l0).bind fun t616 => (if t616 = true then (some true) else ((spec_DrawAddWeightings.f k l0).bind fun bt617 => ((impl_AddWeightings.f k bt617.1 bt617.2.1 bt617.2.2.1 bt617.2.2.2.1 bt617.2.2.2.2).bind fun bt630 => ((spec_AddWeightings.f k bt617.1 bt617.2.1 bt617.2.2.1 bt617.2.2.2.1 bt617.2.2.2.2).bind fun bt636 => ((spec_DrawWeightOfSet.f k l0).bind fun bt642 => ((impl_WeightOfSet.f k bt642.1 bt642.2.1 bt642.2.2.1 bt642.2.2.2).bind fun bt653 => ((spec_WeightOfSet.f k bt642.1 bt642.2.1 bt642.2.2.1 bt642.2.2.2).bind fun bt655 => ((spec_DrawIsWeighting.f k l0).bind fun bt657 => (if bt630.2.2 = bt636.2.2 then (if bt630.1 = bt636.1 then ((laws_likeInts.f k bt630.2.1 bt636.2.1).bind fun t665 => (if t665 = true then (if bt653.2 = bt655.2 then (if bt653.1 = bt655.1 then ((impl_IsWeighting.f k bt657.1 bt657.2.1 bt657.2.2).bind fun t666 => ((spec_IsWeighting.f k bt657.1 bt657.2.1 bt657.2.2).bind fun t667 => (if (t666 != t667) = true then (some false) else (if bt630.2.2 = 0 then (laws_FnWeightSums.l0 k bt617.1 (([] : List Int)) 0 bt617.2.1 bt617.2.2.1 bt617.2.2.2.1 bt617.2.2.2.2 bt630.1 bt630.2.1) else (some true))))) else (some false)) else (some false)) else (some false))) else (some false)) else (some false))))))))))) = some r := h
  clear h
  obtain ⟨t616, A20, H⟩ := Option.bind_eq_some_iff.mp H
  have A2 := Aside0.mk A20
  clear A20
  by_cases c3 : t616 = true
  · subst c3
    rw [if_pos rfl] at H
    obtain rfl := Option.some.inj H
    go_enter Try.func3, Try.ntmps3
    go_wp2_with (first | ((with_reducible refine gC 5 ?_); refine GL (some 28) Try.func5 #[.slice A0 l0.length c0] ?_; (with_reducible refine (laws_big.calls _ _ l0 true _ ?side1 ?side2 A2.out).mono ?_); (case side1 => exact Ck HR0.out); (case side2 => exact HC0.out); rintro e w' ⟨rfl, ⟨nd, rfl⟩⟩; refine ⟨_, rfl, ?_⟩))
    go_ret
    exact ⟨Fin, Bw HG⟩
  · replace c3 := Bool.eq_false_iff.mpr c3
    subst c3
    rw [if_neg (show ¬ (false = true) by decide)] at H
    obtain ⟨⟨t617, t620, t621, t624, t625⟩, A40, H⟩ := Option.bind_eq_some_iff.mp H
    dsimp only at H
    have A4 := Aside0.mk A40
    clear A40
    obtain ⟨⟨t630, t631, t634⟩, A50, H⟩ := Option.bind_eq_some_iff.mp H
    dsimp only at H
    have A5 := Aside0.mk A50
    clear A50
    obtain ⟨⟨t636, t637, t640⟩, A60, H⟩ := Option.bind_eq_some_iff.mp H
    dsimp only at H
    have A6 := Aside0.mk A60
    clear A60
    obtain ⟨⟨t642, t645, t646, t649⟩, A70, H⟩ := Option.bind_eq_some_iff.mp H
    dsimp only at H
    have A7 := Aside0.mk A70
    clear A70
    obtain ⟨⟨t653, t654⟩, A80, H⟩ := Option.bind_eq_some_iff.mp H
    dsimp only at H
    have A8 := Aside0.mk A80
    clear A80
    obtain ⟨⟨t655, t656⟩, A90, H⟩ := Option.bind_eq_some_iff.mp H
    dsimp only at H
    have A9 := Aside0.mk A90
    clear A90
    obtain ⟨⟨t657, t660, t661⟩, A100, H⟩ := Option.bind_eq_some_iff.mp H
    dsimp only at H
    have A10 := Aside0.mk A100
    clear A100
    by_cases c11 : t634 = t640
    · rw [if_pos c11] at H
      have c11b0 : (t634 == t640) = true := beq_iff_eq.mpr c11
      have c11b1 : (t634 != t640) = false := bne_eq_false_iff_eq.mpr c11
      clear c11
      by_cases c12 : t630 = t636
      · rw [if_pos c12] at H
        have c12b0 : (t630 == t636) = true := beq_iff_eq.mpr c12
        have c12b1 : (t630 != t636) = false := bne_eq_false_iff_eq.mpr c12
        clear c12
        obtain ⟨t665, A130, H⟩ := Option.bind_eq_some_iff.mp H
        have A13 := Aside0.mk A130
        clear A130
        by_cases c14 : t665 = true
        · subst c14
          rw [if_pos rfl] at H
          by_cases c15 : t654 = t656
          · rw [if_pos c15] at H
            have c15b0 : (t654 == t656) = true := beq_iff_eq.mpr c15
            have c15b1 : (t654 != t656) = false := bne_eq_false_iff_eq.mpr c15
            clear c15
            by_cases c16 : t653 = t655
            · rw [if_pos c16] at H
              have c16b0 : (t653 == t655) = true := beq_iff_eq.mpr c16
              have c16b1 : (t653 != t655) = false := bne_eq_false_iff_eq.mpr c16
              clear c16
              obtain ⟨t666, A170, H⟩ := Option.bind_eq_some_iff.mp H
              have A17 := Aside0.mk A170
              clear A170
              obtain ⟨t667, A180, H⟩ := Option.bind_eq_some_iff.mp H
              have A18 := Aside0.mk A180
              clear A180
              by_cases c19 : (t666 != t667) = true
              · rw [if_pos c19] at H
                have c19b0 : (t666 != t667) = true := c19
                (try (have c19b1 : decide (t666 = t667) = false := by simpa using c19))
                (try (have c19b2 : (t666 == t667) = false := by simpa using c19))
                (try (have c19b3 : ¬ (t666 = t667) := by simpa using c19))
                clear c19
                exact absurd (H.trans (congrArg some hrt)) (by simp)
              · rw [if_neg c19] at H
                have c19b0 : (t666 != t667) = false := by simpa using c19
                (try (have c19b1 : decide (t666 = t667) = true := by simpa using c19))
                (try (have c19b2 : (t666 == t667) = true := by simpa using c19))
                clear c19
                by_cases c20 : t634 = 0
                · rw [if_pos c20] at H
                  have c20b0 : (t634 == 0) = true := beq_iff_eq.mpr c20
                  have c20b1 : (t634 != 0) = false := bne_eq_false_iff_eq.mpr c20
                  clear c20
                  obtain ⟨y668, hy668⟩ : ∃ y_ : List Int, y_ = (([] : List Int)) := ⟨_, rfl⟩
                  replace H : (laws_FnWeightSums.l0 k t617 y668 0 t620 t621 t624 t625 t630 t631) = some r := by first | (rw [hy668]; with_reducible exact H) | (have H2_ := (Option.bind_some _ _).symm.trans H; rw [hy668]; with_reducible exact H2_) | (have H2_ := (Option.bind_some _ _).symm.trans H; with_reducible exact H2_) | with_reducible exact H | (rw [hy668]; exact H) | exact H
                  have Ny668 := Aside0.mk hy668
                  clear hy668
                  have H' := Aside0.mk H
                  clear H
                  go_enter Try.func3, Try.ntmps3
                  try go_wp2_with (((with_reducible refine gC 5 ?_); refine GL (some 28) Try.func5 #[.slice A0 l0.length c0] ?_; (with_reducible refine (laws_big.calls _ _ l0 false _ ?side1 ?side2 A2.out).mono ?_); (case side1 => exact Ck HR0.out); (case side2 => exact HC0.out); rintro e w' ⟨rfl, ⟨nd, rfl⟩⟩; refine ⟨_, rfl, ?_⟩; skip); go_wp2_with (((with_reducible refine gC 6 ?_); refine GL (some 31) Try.func6 #[.slice A0 l0.length c0] ?_; (with_reducible refine (spec_DrawAddWeightings.calls k _ _ l0 t617 t620 t621 t624 t625 _ ?side1 ?side2 A4.out).mono ?_); (case side1 => exact Ck HR0.out); (case side2 => exact HC0.out); rintro e w21 ⟨v618, v622, v626, rfl, ho0, ho1, ho2, hb⟩; refine ⟨_, rfl, ?_⟩; replace HG := Sat.mk3RRR HG hb (Kd.R_tight rfl ho0) (by first | exact Kd.R_tight2 rfl (Kd.R_mono ho1 (fun k_ hk_ => hk_)) | exact Kd.R_tight2 rfl (Kd.R_mono (Kd.R_apart' ho1 (Kd.R_typed ho0) (by decide)) (fun k_ hk_ => hk_.2))) (by first | exact Kd.R_mono ho2 (fun k_ hk_ => hk_) | exact Kd.R_mono (Kd.R_apart' ho2 (Kd.R_typed ho0) (by decide)) (fun k_ hk_ => ⟨hk_.2, hk_.1⟩) | exact Kd.R_mono (Kd.R_apart' ho2 (Kd.R_typed ho1) (by decide)) (fun k_ hk_ => ⟨hk_.1, hk_.2⟩) | exact Kd.R_mono (Kd.R_apart' (Kd.R_apart' ho2 (Kd.R_typed ho0) (by decide)) (Kd.R_typed ho1) (by decide)) (fun k_ hk_ => ⟨hk_.1.2, hk_.2⟩)); (try clear hb); (try clear hb2); (try clear hk); (try clear hi); (try clear ho0); (try clear ho1); (try clear ho2)); go_wp2_with (((with_reducible refine gD 4 ?_); refine BX #[.int .i64 0, .slice none 0 0] 27 ?_; intro gb628 hg w22 hbox hb; replace HG := Sat.box HG hg hbox hb; clear hb hbox hg); go_wp2_with (((with_reducible refine gD 5 ?_); refine BX #[.int .i64 0, .slice none 0 0] 27 ?_; intro gb629 hg w23 hbox hb; replace HG := Sat.box HG hg hbox hb; clear hb hbox hg; have hnb24 := (Sat.ne HG 1 0 (by decide) rfl rfl); have hnc24 := (Sat.ne HG 0 1 (by decide) rfl rfl); have hcz25_0 : w23.cell? ⟨gb628, 0, none⟩ = some (.int .i64 0) := (blk_cell (Sat.B HG 1 rfl) 0).trans rfl; have hcz25_1 : w23.cell? ⟨gb628, 1, none⟩ = some (.slice none 0 0) := (blk_cell (Sat.B HG 1 rfl) 1).trans rfl; have hfz25_0 := blk_frozen (Sat.B HG 1 rfl) 0; have hfz25_1 := blk_frozen (Sat.B HG 1 rfl) 1; obtain ⟨Ao26, co26, eo26⟩ := Kd.R_slice (Sat.R HG 3 rfl); subst eo26; have hcz27_0 : w23.cell? ⟨gb629, 0, none⟩ = some (.int .i64 0) := (blk_cell (Sat.B HG 0 rfl) 0).trans rfl; have hcz27_1 : w23.cell? ⟨gb629, 1, none⟩ = some (.slice none 0 0) := (blk_cell (Sat.B HG 0 rfl) 1).trans rfl; have hfz27_0 := blk_frozen (Sat.B HG 0 rfl) 0; have hfz27_1 := blk_frozen (Sat.B HG 0 rfl) 1; obtain ⟨Ao28, co28, eo28⟩ := Kd.R_slice (Sat.R HG 4 rfl); subst eo28; obtain ⟨Ao29, co29, eo29⟩ := Kd.R_slice (Sat.R HG 2 rfl); subst eo29); go_wp2_with (((with_reducible refine gC 7 ?_); replace HG := Sat.put HG 1 0 (.int .i64 t620) #[.int .i64 t620, .slice none 0 0]; replace HG := Sat.put HG 1 1 (.slice Ao26 t621.length co26) #[.int .i64 t620, .slice Ao26 t621.length co26]; replace HG := Sat.put HG 0 0 (.int .i64 t624) #[.int .i64 t624, .slice none 0 0]; replace HG := Sat.put HG 0 1 (.slice Ao28 t625.length co28) #[.int .i64 t624, .slice Ao28 t625.length co28]; refine GL (some 39) Try.func7 #[.slice Ao29 t617.length co29, .agg #[.int .i64 t620, .slice Ao26 t621.length co26], .agg #[.int .i64 t624, .slice Ao28 t625.length co28]] ?_; (with_reducible refine (impl_AddWeightings.calls k _ _ t617 t620 _ _ t621 t624 _ _ t625 t630 t631 t634 _ ?side1 ?side2 ?side3 ?side4 ?side5 ?side6 A5.out).mono ?_); (case side1 => exact Ck (Kd.R_reads' (Sat.R HG 2 rfl)).2.2); (case side2 => exact (Kd.R_reads' (Sat.R HG 2 rfl)).2.1); (case side3 => exact Ck (Kd.R_reads' (Sat.R HG 3 rfl)).2.2); (case side4 => exact (Kd.R_reads' (Sat.R HG 3 rfl)).2.1); (case side5 => exact Ck (Kd.R_reads' (Sat.R HG 4 rfl)).2.2); (case side6 => exact (Kd.R_reads' (Sat.R HG 4 rfl)).2.1); rintro e w30 ⟨v632, rfl, ho0, hb⟩; refine ⟨_, rfl, ?_⟩; replace HG := Sat.mkR HG hb ho0; (try clear hb); (try clear hb2); (try clear hk); (try clear hi); (try clear ho0)); go_wp2_with (((with_reducible refine gD 6 ?_); refine BX #[.int .i64 0, .slice none 0 0] 27 ?_; intro gb635 hg w31 hbox hb; replace HG := Sat.box HG hg hbox hb; clear hb hbox hg; have hnb32 := (Sat.ne HG 0 3 (by decide) rfl rfl); have hnc32 := (Sat.ne HG 3 0 (by decide) rfl rfl); have hnb33 := (Sat.ne HG 0 2 (by decide) rfl rfl); have hnc33 := (Sat.ne HG 2 0 (by decide) rfl rfl); have hcz34_0 : w31.cell? ⟨gb635, 0, none⟩ = some (.int .i64 0) := (blk_cell (Sat.B HG 0 rfl) 0).trans rfl; have hcz34_1 : w31.cell? ⟨gb635, 1, none⟩ = some (.slice none 0 0) := (blk_cell (Sat.B HG 0 rfl) 1).trans rfl; have hfz34_0 := blk_frozen (Sat.B HG 0 rfl) 0; have hfz34_1 := blk_frozen (Sat.B HG 0 rfl) 1; obtain ⟨Ao35, co35, eo35⟩ := Kd.R_slice (Sat.R HG 1 rfl); subst eo35; have hcz36_0 : w31.cell? ⟨gb628, 0, none⟩ = some (.int .i64 t620) := (blk_cell (Sat.B HG 3 rfl) 0).trans rfl; have hcz36_1 : w31.cell? ⟨gb628, 1, none⟩ = some (.slice Ao26 t621.length co26) := (blk_cell (Sat.B HG 3 rfl) 1).trans rfl; have hfz36_0 := blk_frozen (Sat.B HG 3 rfl) 0; have hfz36_1 := blk_frozen (Sat.B HG 3 rfl) 1; have hcz37_0 : w31.cell? ⟨gb629, 0, none⟩ = some (.int .i64 t624) := (blk_cell (Sat.B HG 2 rfl) 0).trans rfl; have hcz37_1 : w31.cell? ⟨gb629, 1, none⟩ = some (.slice Ao28 t625.length co28) := (blk_cell (Sat.B HG 2 rfl) 1).trans rfl; have hfz37_0 := blk_frozen (Sat.B HG 2 rfl) 0; have hfz37_1 := blk_frozen (Sat.B HG 2 rfl) 1); go_wp2_with (((with_reducible refine gC 8 ?_); replace HG := Sat.put HG 0 0 (.int .i64 t630) #[.int .i64 t630, .slice none 0 0]; replace HG := Sat.put HG 0 1 (.slice Ao35 t631.length co35) #[.int .i64 t630, .slice Ao35 t631.length co35]; refine GL (some 46) Try.func8 #[.slice Ao29 t617.length co29, .agg #[.int .i64 t620, .slice Ao26 t621.length co26], .agg #[.int .i64 t624, .slice Ao28 t625.length co28]] ?_; (with_reducible refine (spec_AddWeightings.calls k _ _ t617 t620 _ _ t621 t624 _ _ t625 t636 t637 t640 _ ?side1 ?side2 ?side3 ?side4 ?side5 ?side6 A6.out).mono ?_); (case side1 => exact Ck (Kd.R_reads' (Sat.R HG 4 rfl)).2.2); (case side2 => exact (Kd.R_reads' (Sat.R HG 4 rfl)).2.1); (case side3 => exact Ck (Kd.R_reads' (Sat.R HG 5 rfl)).2.2); (case side4 => exact (Kd.R_reads' (Sat.R HG 5 rfl)).2.1); (case side5 => exact Ck (Kd.R_reads' (Sat.R HG 6 rfl)).2.2); (case side6 => exact (Kd.R_reads' (Sat.R HG 6 rfl)).2.1); rintro e w38 ⟨v638, rfl, ho0, hb⟩; refine ⟨_, rfl, ?_⟩; replace HG := Sat.mkR HG hb ho0; (try clear hb); (try clear hb2); (try clear hk); (try clear hi); (try clear ho0)); go_wp2_with (((with_reducible refine gD 8 ?_); refine BX #[.int .i64 0, .slice none 0 0] 27 ?_; intro gb641 hg w39 hbox hb; replace HG := Sat.box HG hg hbox hb; clear hb hbox hg; have hnb40 := (Sat.ne HG 0 5 (by decide) rfl rfl); have hnc40 := (Sat.ne HG 5 0 (by decide) rfl rfl); have hnb41 := (Sat.ne HG 0 4 (by decide) rfl rfl); have hnc41 := (Sat.ne HG 4 0 (by decide) rfl rfl); have hnb42 := (Sat.ne HG 0 2 (by decide) rfl rfl); have hnc42 := (Sat.ne HG 2 0 (by decide) rfl rfl); have hcz43_0 : w39.cell? ⟨gb641, 0, none⟩ = some (.int .i64 0) := (blk_cell (Sat.B HG 0 rfl) 0).trans rfl; have hcz43_1 : w39.cell? ⟨gb641, 1, none⟩ = some (.slice none 0 0) := (blk_cell (Sat.B HG 0 rfl) 1).trans rfl; have hfz43_0 := blk_frozen (Sat.B HG 0 rfl) 0; have hfz43_1 := blk_frozen (Sat.B HG 0 rfl) 1; obtain ⟨Ao44, co44, eo44⟩ := Kd.R_slice (Sat.R HG 1 rfl); subst eo44); go_wp2_with (((with_reducible refine gC 9 ?_); replace HG := Sat.put HG 0 0 (.int .i64 t636) #[.int .i64 t636, .slice none 0 0]; replace HG := Sat.put HG 0 1 (.slice Ao44 t637.length co44) #[.int .i64 t636, .slice Ao44 t637.length co44]; refine GL (some 51) Try.func9 #[.slice A0 l0.length c0] ?_; (with_reducible refine (spec_DrawWeightOfSet.calls k _ _ l0 t642 t645 t646 t649 _ ?side1 ?side2 A7.out).mono ?_); (case side1 => exact Kd.C_below HR0.out (Bw HG)); (case side2 => exact HC0.out); rintro e w45 ⟨v643, v647, v650, rfl, ho0, ho1, ho2, hb⟩; refine ⟨_, rfl, ?_⟩; replace HG := Sat.mk3RRR HG hb (Kd.R_tight rfl ho0) (by first | exact Kd.R_tight2 rfl (Kd.R_mono ho1 (fun k_ hk_ => hk_)) | exact Kd.R_tight2 rfl (Kd.R_mono (Kd.R_apart' ho1 (Kd.R_typed ho0) (by decide)) (fun k_ hk_ => hk_.2))) (by first | exact Kd.R_mono ho2 (fun k_ hk_ => hk_) | exact Kd.R_mono (Kd.R_apart' ho2 (Kd.R_typed ho0) (by decide)) (fun k_ hk_ => ⟨hk_.2, hk_.1⟩) | exact Kd.R_mono (Kd.R_apart' ho2 (Kd.R_typed ho1) (by decide)) (fun k_ hk_ => ⟨hk_.1, hk_.2⟩) | exact Kd.R_mono (Kd.R_apart' (Kd.R_apart' ho2 (Kd.R_typed ho0) (by decide)) (Kd.R_typed ho1) (by decide)) (fun k_ hk_ => ⟨hk_.1.2, hk_.2⟩)); (try clear hb); (try clear hb2); (try clear hk); (try clear hi); (try clear ho0); (try clear ho1); (try clear ho2)); go_wp2_with (((with_reducible refine gD 11 ?_); refine BX #[.int .i64 0, .slice none 0 0] 27 ?_; intro gb652 hg w46 hbox hb; replace HG := Sat.box HG hg hbox hb; clear hb hbox hg; have hnb47 := (Sat.ne HG 0 9 (by decide) rfl rfl); have hnc47 := (Sat.ne HG 9 0 (by decide) rfl rfl); have hnb48 := (Sat.ne HG 0 8 (by decide) rfl rfl); have hnc48 := (Sat.ne HG 8 0 (by decide) rfl rfl); have hnb49 := (Sat.ne HG 0 6 (by decide) rfl rfl); have hnc49 := (Sat.ne HG 6 0 (by decide) rfl rfl); have hnb50 := (Sat.ne HG 0 4 (by decide) rfl rfl); have hnc50 := (Sat.ne HG 4 0 (by decide) rfl rfl); have hcz51_0 : w46.cell? ⟨gb652, 0, none⟩ = some (.int .i64 0) := (blk_cell (Sat.B HG 0 rfl) 0).trans rfl; have hcz51_1 : w46.cell? ⟨gb652, 1, none⟩ = some (.slice none 0 0) := (blk_cell (Sat.B HG 0 rfl) 1).trans rfl; have hfz51_0 := blk_frozen (Sat.B HG 0 rfl) 0; have hfz51_1 := blk_frozen (Sat.B HG 0 rfl) 1; obtain ⟨Ao52, co52, eo52⟩ := Kd.R_slice (Sat.R HG 2 rfl); subst eo52; obtain ⟨Ao53, co53, eo53⟩ := Kd.R_slice (Sat.R HG 1 rfl); subst eo53; obtain ⟨Ao54, co54, eo54⟩ := Kd.R_slice (Sat.R HG 3 rfl); subst eo54); go_wp2_with (((with_reducible refine gC 10 ?_); replace HG := Sat.put HG 0 0 (.int .i64 t645) #[.int .i64 t645, .slice none 0 0]; replace HG := Sat.put HG 0 1 (.slice Ao52 t646.length co52) #[.int .i64 t645, .slice Ao52 t646.length co52]; refine GL (some 59) Try.func10 #[.slice Ao53 t642.length co53, .agg #[.int .i64 t645, .slice Ao52 t646.length co52], .slice Ao54 t649.length co54] ?_; (with_reducible refine (impl_WeightOfSet.calls k _ _ t642 t645 _ _ t646 _ _ t649 t653 t654 _ ?side1 ?side2 ?side3 ?side4 ?side5 ?side6 A8.out).mono ?_); (case side1 => exact Ck (Kd.R_reads' (Sat.R HG 1 rfl)).2.2); (case side2 => exact (Kd.R_reads' (Sat.R HG 1 rfl)).2.1); (case side3 => exact Ck (Kd.R_reads' (Sat.R HG 2 rfl)).2.2); (case side4 => exact (Kd.R_reads' (Sat.R HG 2 rfl)).2.1); (case side5 => exact Ck (Kd.R_reads' (Sat.R HG 3 rfl)).2.2); (case side6 => exact (Kd.R_reads' (Sat.R HG 3 rfl)).2.1); rintro e w55 ⟨rfl, hb⟩; refine ⟨_, rfl, ?_⟩; replace HG := Sat.rd HG hb; (try clear hb); (try clear hb2); (try clear hk); (try clear hi); have hcz56_0 : w55.cell? ⟨gb652, 0, none⟩ = some (.int .i64 t645) := (blk_cell (Sat.B HG 0 rfl) 0).trans rfl; have hcz56_1 : w55.cell? ⟨gb652, 1, none⟩ = some (.slice Ao52 t646.length co52) := (blk_cell (Sat.B HG 0 rfl) 1).trans rfl; have hfz56_0 := blk_frozen (Sat.B HG 0 rfl) 0; have hfz56_1 := blk_frozen (Sat.B HG 0 rfl) 1); go_wp2_with (((with_reducible refine gC 11 ?_); refine GL (some 66) Try.func11 #[.slice Ao53 t642.length co53, .agg #[.int .i64 t645, .slice Ao52 t646.length co52], .slice Ao54 t649.length co54] ?_; (with_reducible refine (spec_WeightOfSet.calls k _ _ t642 t645 _ _ t646 _ _ t649 t655 t656 _ ?side1 ?side2 ?side3 ?side4 ?side5 ?side6 A9.out).mono ?_); (case side1 => exact Ck (Kd.R_reads' (Sat.R HG 1 rfl)).2.2); (case side2 => exact (Kd.R_reads' (Sat.R HG 1 rfl)).2.1); (case side3 => exact Ck (Kd.R_reads' (Sat.R HG 2 rfl)).2.2); (case side4 => exact (Kd.R_reads' (Sat.R HG 2 rfl)).2.1); (case side5 => exact Ck (Kd.R_reads' (Sat.R HG 3 rfl)).2.2); (case side6 => exact (Kd.R_reads' (Sat.R HG 3 rfl)).2.1); rintro e w57 ⟨rfl, hb⟩; refine ⟨_, rfl, ?_⟩; replace HG := Sat.rd HG hb; (try clear hb); (try clear hb2); (try clear hk); (try clear hi)); go_wp2_with (((with_reducible refine gC 12 ?_); refine GL (some 71) Try.func12 #[.slice A0 l0.length c0] ?_; (with_reducible refine (spec_DrawIsWeighting.calls k _ _ l0 t657 t660 t661 _ ?side1 ?side2 A10.out).mono ?_); (case side1 => exact Ck (Kd.C_below HR0.out HG.out.1)); (case side2 => exact HC0.out); rintro e w58 ⟨v658, v662, rfl, ho0, ho1, hb⟩; refine ⟨_, rfl, ?_⟩; replace HG := Sat.mk2RR HG hb (Kd.R_tight rfl ho0) (by first | exact Kd.R_mono ho1 (fun k_ hk_ => hk_) | exact Kd.R_mono (Kd.R_apart' ho1 (Kd.R_typed ho0) (by decide)) (fun k_ hk_ => hk_.2)); (try clear hb); (try clear hb2); (try clear hk); (try clear hi); (try clear ho0); (try clear ho1)); go_wp2_with (((with_reducible refine gD 18 ?_); refine BX #[.int .i64 0, .slice none 0 0] 27 ?_; intro gb664 hg w59 hbox hb; replace HG := Sat.box HG hg hbox hb; clear hb hbox hg; have hnb60 := (Sat.ne HG 0 12 (by decide) rfl rfl); have hnc60 := (Sat.ne HG 12 0 (by decide) rfl rfl); have hnb61 := (Sat.ne HG 0 11 (by decide) rfl rfl); have hnc61 := (Sat.ne HG 11 0 (by decide) rfl rfl); have hnb62 := (Sat.ne HG 0 9 (by decide) rfl rfl); have hnc62 := (Sat.ne HG 9 0 (by decide) rfl rfl); have hnb63 := (Sat.ne HG 0 7 (by decide) rfl rfl); have hnc63 := (Sat.ne HG 7 0 (by decide) rfl rfl); have hnb64 := (Sat.ne HG 0 3 (by decide) rfl rfl); have hnc64 := (Sat.ne HG 3 0 (by decide) rfl rfl); have hcz65_0 : w59.cell? ⟨gb664, 0, none⟩ = some (.int .i64 0) := (blk_cell (Sat.B HG 0 rfl) 0).trans rfl; have hcz65_1 : w59.cell? ⟨gb664, 1, none⟩ = some (.slice none 0 0) := (blk_cell (Sat.B HG 0 rfl) 1).trans rfl; have hfz65_0 := blk_frozen (Sat.B HG 0 rfl) 0; have hfz65_1 := blk_frozen (Sat.B HG 0 rfl) 1; obtain ⟨Ao66, co66, eo66⟩ := Kd.R_slice (Sat.R HG 2 rfl); subst eo66)))))))))))))))
                  replace HG := Sat.put HG 0 0 (.int .i64 t660) #[.int .i64 t660, .slice none 0 0]
                  replace HG := Sat.put HG 0 1 (.slice Ao66 t661.length co66) #[.int .i64 t660, .slice Ao66 t661.length co66]
                  generalize ((w59.setCell ⟨gb664, 0, none⟩ (.int .i64 t660)).setCell ⟨gb664, 1, none⟩ (.slice Ao66 t661.length co66)) = w67 at HG ⊢
                  replace HG := Sat.drew HG
                  refine start_ (n := 37) (S := fun w' => w'.cell? ⟨gb635, 0, none⟩ = some (.int .i64 t630) ∧ w'.cell? ⟨gb635, 1, none⟩ = some (.slice Ao35 t631.length co35) ∧ w'.cell? ⟨gb641, 0, none⟩ = some (.int .i64 t636) ∧ w'.cell? ⟨gb641, 1, none⟩ = some (.slice Ao44 t637.length co44) ∧ w'.cell? ⟨gb664, 0, none⟩ = some (.int .i64 t660) ∧ w'.cell? ⟨gb664, 1, none⟩ = some (.slice Ao66 t661.length co66)) (ds := []) #[false, false, false, false, false, false, false, false, false, false, false, false, false, false, false, false, false, false, false, false, false, false, false, false, false, false, false, false, false, false, false, false, false, false, false, false, false] (by kernel_rfl) rfl rfl ⟨(blk_cell (Sat.B HG 9 rfl) 0).trans rfl, (blk_cell (Sat.B HG 9 rfl) 1).trans rfl, (blk_cell (Sat.B HG 7 rfl) 0).trans rfl, (blk_cell (Sat.B HG 7 rfl) 1).trans rfl, (blk_cell (Sat.B HG 0 rfl) 0).trans rfl, (blk_cell (Sat.B HG 0 rfl) 1).trans rfl⟩ (fun hHeld => ?_); refine with_tabW laws_FnWeightSums.tab10 laws_FnWeightSums.bits10 (fun HT_ HW_ => ?_)
                  generalize w67.drew = w68 at HG hHeld ⊢
                  refine PU 0 74 ?_
                  refine PU 1 75 ?_
                  refine PU 2 76 ?_
                  refine PU 3 77 ?_
                  refine PU 4 78 ?_
                  refine PU 6 80 ?_
                  refine TK 5 79 hHeld ?_
                  refine TK 7 81 hHeld ?_
                  refine PU 8 82 ?_
                  refine PU 9 83 ?_
                  refine PU 10 84 ?_
                  refine PU 11 85 ?_
                  refine PU 13 87 ?_
                  refine TK 12 86 hHeld ?_
                  refine TK 14 88 hHeld ?_
                  refine ON 15 89 (fun K hK => ?_)
                  refine GO Try.func13 #[.slice Ao35 t631.length co35, .slice Ao44 t637.length co44] ?_
                  with_reducible refine (laws_likeInts.calls k _ _ t631 _ _ t637 true _ ?side1 ?side2 ?side3 ?side4 A13.out).mono ?_
                  (case side1 => exact Ck (Kd.R_reads' (Sat.R HG 10 rfl)).2.2)
                  (case side2 => exact (Kd.R_reads' (Sat.R HG 10 rfl)).2.1)
                  (case side3 => exact Ck (Kd.R_reads' (Sat.R HG 8 rfl)).2.2)
                  (case side4 => exact (Kd.R_reads' (Sat.R HG 8 rfl)).2.1)
                  rintro e w' ⟨rfl, ⟨nd, rfl⟩⟩
                  refine ⟨_, rfl, ?_⟩
                  obtain ⟨Ao69, co69, eo69⟩ := Kd.R_slice (Sat.R HG 1 rfl)
                  (first | subst eo69 | (injection eo69 with f1_ f2_ f3_; have f4_ := f1_.symm; have f5_ := f3_.symm; clear f1_ f2_ f3_; subst f4_; subst f5_))
                  refine hK.out _ _ ⟨(blk_cell (Sat.B HG 9 rfl) 0).trans rfl, (blk_cell (Sat.B HG 9 rfl) 1).trans rfl, (blk_cell (Sat.B HG 7 rfl) 0).trans rfl, (blk_cell (Sat.B HG 7 rfl) 1).trans rfl, (blk_cell (Sat.B HG 0 rfl) 0).trans rfl, (blk_cell (Sat.B HG 0 rfl) 1).trans rfl⟩ (fun hHeld => ?_)
                  clear hK K
                  refine NM 89 ?_
                  refine PU 16 90 ?_
                  refine PU 17 91 ?_
                  refine PU 18 92 ?_
                  refine PU 19 93 ?_
                  refine PU 20 94 ?_
                  refine PU 21 95 ?_
                  refine PU 22 96 ?_
                  refine PU 23 97 ?_
                  refine PU 24 98 ?_
                  refine PU 25 99 ?_
                  refine PU 26 100 ?_
                  refine PU 27 101 ?_
                  refine PU 28 102 ?_
                  refine PU 29 103 ?_
                  refine PU 32 106 ?_
                  refine TK 30 104 hHeld ?_
                  refine TK 33 107 hHeld ?_
                  refine ON 31 105 (fun K hK => ?_)
                  refine GO Try.func14 #[.slice Ao69 t657.length co69, .agg #[.int .i64 t660, .slice Ao66 t661.length co66]] ?_
                  with_reducible refine (impl_IsWeighting.calls k _ _ t657 t660 _ _ t661 t666 _ ?side1 ?side2 ?side3 ?side4 A17.out).mono ?_
                  (case side1 => exact Ck (Kd.R_reads' (Sat.R HG 1 rfl)).2.2)
                  (case side2 => exact (Kd.R_reads' (Sat.R HG 1 rfl)).2.1)
                  (case side3 => exact Ck (Kd.R_reads' (Sat.R HG 2 rfl)).2.2)
                  (case side4 => exact (Kd.R_reads' (Sat.R HG 2 rfl)).2.1)
                  rintro e w70 ⟨rfl, hb⟩
                  refine ⟨_, rfl, ?_⟩
                  replace HG := Sat.rd HG hb
                  (try clear hb)
                  (try clear hb2)
                  (try clear hk)
                  (try clear hi)
                  refine hK.out _ _ ⟨(blk_cell (Sat.B HG 9 rfl) 0).trans rfl, (blk_cell (Sat.B HG 9 rfl) 1).trans rfl, (blk_cell (Sat.B HG 7 rfl) 0).trans rfl, (blk_cell (Sat.B HG 7 rfl) 1).trans rfl, (blk_cell (Sat.B HG 0 rfl) 0).trans rfl, (blk_cell (Sat.B HG 0 rfl) 1).trans rfl⟩ (fun hHeld => ?_)
                  clear hK K
                  refine NM 105 ?_
                  refine ON 34 108 (fun K hK => ?_)
                  refine GO Try.func15 #[.slice Ao69 t657.length co69, .agg #[.int .i64 t660, .slice Ao66 t661.length co66]] ?_
                  with_reducible refine (spec_IsWeighting.calls k _ _ t657 t660 _ _ t661 t667 _ ?side1 ?side2 ?side3 ?side4 A18.out).mono ?_
                  (case side1 => exact Ck (Kd.R_reads' (Sat.R HG 1 rfl)).2.2)
                  (case side2 => exact (Kd.R_reads' (Sat.R HG 1 rfl)).2.1)
                  (case side3 => exact Ck (Kd.R_reads' (Sat.R HG 2 rfl)).2.2)
                  (case side4 => exact (Kd.R_reads' (Sat.R HG 2 rfl)).2.1)
                  rintro e w71 ⟨rfl, hb⟩
                  refine ⟨_, rfl, ?_⟩
                  replace HG := Sat.rd HG hb
                  (try clear hb)
                  (try clear hb2)
                  (try clear hk)
                  (try clear hi)
                  refine hK.out _ _ ⟨(blk_cell (Sat.B HG 9 rfl) 0).trans rfl, (blk_cell (Sat.B HG 9 rfl) 1).trans rfl, (blk_cell (Sat.B HG 7 rfl) 0).trans rfl, (blk_cell (Sat.B HG 7 rfl) 1).trans rfl, (blk_cell (Sat.B HG 0 rfl) 0).trans rfl, (blk_cell (Sat.B HG 0 rfl) 1).trans rfl⟩ (fun hHeld => ?_)
                  clear hK K
                  refine NM 108 ?_
                  refine PU 35 109 ?_
                  refine PU 36 110 ?_
                  refine done_ (done_of HT_.out (by kernel_rfl)) ?_
                  try go_wp2_with (((with_reducible refine gD 113 ?_); refine Kd.R_lit (Kd.int .i64) _ 2 ?hg (N := 113) ?hd (xs := ([] : List Int)) (inner := []) (ok := fun _ => True) (okp := fun _ => True) ?hr ?hp (fun _ hk => hk) trivial (Below.refl _ _) (Nat.le_refl _) (by simp) ?_; (case hd => rfl); (case hg => rfl); (case hr => first | (go_simp; done) | (go_simp; rfl)); (case hp => exact (Reps.none _ _)); intro v669 w72 ho73 hb hg_ hnew_; clear hg_ hnew_; (first | rw [← Ny668.out] at ho73 | (simp only [Int.reduceToNat] at ho73; rw [← Ny668.out] at ho73)); replace HG := Sat.mkR HG hb ho73; clear hb ho73))
                  go_loopg [19, 20] k (fun kq v19 v20 w' => ∃ (x19_1 : List Int) (x20_1 : Int), v20 = .int .i64 x20_1 ∧ Aside0 (laws_FnWeightSums.l0 kq t617 x19_1 x20_1 t620 t621 t624 t625 t630 t631 = some r) ∧ Aside0 (kq ≤ k) ∧ Aside0 (Sat w [Ctx.R k68 68 (.slice Ao29 t617.length co29) t617, Ctx.R (Kd.int .i64) 2 v19 x19_1, Ctx.R (Kd.int .i64) 2 (.slice Ao26 t621.length co26) t621, Ctx.R (Kd.int .i64) 2 (.slice Ao28 t625.length co28) t625, Ctx.R (Kd.int .i64) 2 (.slice Ao35 t631.length co35) t631, Ctx.R (Kd.int .i64) 2 (.slice Ao44 t637.length co44) t637, Ctx.R (Kd.int .i64) 2 (.slice Ao52 t646.length co52) t646, Ctx.R (Kd.int .i64) 2 (.slice Ao66 t661.length co66) t661, Ctx.blk gb628 (.cells #[.int .i64 t620, (.slice Ao26 t621.length co26)] 27 (0, 0)), Ctx.blk gb629 (.cells #[.int .i64 t624, (.slice Ao28 t625.length co28)] 27 (0, 0)), Ctx.blk gb635 (.cells #[.int .i64 t630, (.slice Ao35 t631.length co35)] 27 (0, 0)), Ctx.blk gb641 (.cells #[.int .i64 t636, (.slice Ao44 t637.length co44)] 27 (0, 0)), Ctx.blk gb652 (.cells #[.int .i64 t645, (.slice Ao52 t646.length co52)] 27 (0, 0)), Ctx.blk gb664 (.cells #[.int .i64 t660, (.slice Ao66 t661.length co66)] 27 (0, 0))] w'))
                  case atStart => exact ⟨(y668), (0), Fs, H', ⟨Nat.le_refl _⟩, Sat.pick HG [14, 0, 15, 16, 11, 9, 6, 3, 13, 12, 10, 8, 4, 1]⟩
                  case round =>
                    clear H'
                    try clear c1
                    try clear c2
                    try clear p2
                    try clear c3
                    try clear c4
                    try clear c5
                    try clear c6
                    try clear c7
                    try clear c8
                    try clear c9
                    try clear c10
                    try clear c11
                    try clear c12
                    try clear c13
                    try clear c14
                    try clear c15
                    try clear c15b0
                    try clear c15b1
                    try clear c16
                    try clear c16b0
                    try clear c16b1
                    try clear c19
                    try clear c19b0
                    try clear c19b1
                    try clear c19b2
                    try clear c20
                    try clear c20b0
                    try clear c20b1
                    try clear c24
                    try clear c32
                    try clear c33
                    try clear c40
                    try clear c41
                    try clear c42
                    try clear c47
                    try clear c48
                    try clear c49
                    try clear c50
                    try clear c60
                    try clear c61
                    try clear c62
                    try clear c63
                    try clear c64
                    try clear hcz25_0
                    try clear hcz25_1
                    try clear hcz27_0
                    try clear hcz27_1
                    try clear hcz34_0
                    try clear hcz34_1
                    try clear hcz36_0
                    try clear hcz36_1
                    try clear hcz37_0
                    try clear hcz37_1
                    try clear hcz43_0
                    try clear hcz43_1
                    try clear hcz51_0
                    try clear hcz51_1
                    try clear hcz56_0
                    try clear hcz56_1
                    try clear hcz65_0
                    try clear hcz65_1
                    try clear hfz25_0
                    try clear hfz25_1
                    try clear hfz27_0
                    try clear hfz27_1
                    try clear hfz34_0
                    try clear hfz34_1
                    try clear hfz36_0
                    try clear hfz36_1
                    try clear hfz37_0
                    try clear hfz37_1
                    try clear hfz43_0
                    try clear hfz43_1
                    try clear hfz51_0
                    try clear hfz51_1
                    try clear hfz56_0
                    try clear hfz56_1
                    try clear hfz65_0
                    try clear hfz65_1
                    obtain ⟨x19_1, x20_1, rfl, HA, HK1, HG⟩ := hrel
                    cases gk with
                    | zero => exact absurd HA.out (by simp [laws_FnWeightSums.l0])
                    | succ k1 =>
                      have H := HA.out
                      clear HA
                      simp only [laws_FnWeightSums.l0] at H
                      by_cases c74 : x20_1 < (t617.length : Int)
                      · rw [if_pos c74] at H
                        have c74b0 : decide (x20_1 < (t617.length : Int)) = true := decide_eq_true c74
                        clear c74
                        by_cases c75 : x19_1.length < 17592186044416
                        · rw [if_pos c75] at H
                          have LMc75 := Aside0.mk c75
                          clear c75
                          obtain ⟨y671, hy671⟩ : ∃ y_ : List Int, y_ = (x19_1 ++ [x20_1]) := ⟨_, rfl⟩
                          replace H : (laws_FnWeightSums.l0 k1 t617 y671 (wrap64 (x20_1 + 1)) t620 t621 t624 t625 t630 t631) = some r := by first | (rw [hy671]; with_reducible exact H) | (have H2_ := (Option.bind_some _ _).symm.trans H; rw [hy671]; with_reducible exact H2_) | (have H2_ := (Option.bind_some _ _).symm.trans H; with_reducible exact H2_) | with_reducible exact H | (rw [hy671]; exact H) | exact H
                          have Ny671 := Aside0.mk hy671
                          clear hy671
                          have H' := Aside0.mk H
                          clear H
                          go_wp2_with (first | ((with_reducible refine gate_builtin (b := .append) (xs := #[.tmp 120, .tmp 122]) rfl ?_); at_builtin; obtain ⟨ok_, sz_, hsz_, ho_, hG_⟩ := Sat.atA HG 1 rfl; refine Kd.R_append (Kd.int .i64) (w0 := w) w.heap.size rfl (.tmp 120) (.tmp 122) 25 2 (.int .i64 0) 8 rfl Try.underlying25 info2 rfl (by decide) (by omega) u19 x19_1 x20_1 [.int .i64 x20_1] (fun k_ => ok_ k_ ∨ sz_ ≤ k_) (fun _ => False) rfl rfl ?aP (fun _ hk => hk.elim) ?aF ?aO ?aB ?aS ?aL ?_; (case aP => exact rfl); (case aB => exact Bw HG); (case aF => exact (fun k_ hk => .inr (Nat.le_trans (hsz_ _ (by with_reducible repeat (first | exact Qt.rf _ | apply Qt.al | apply Qt.dn | apply Qt.d1))) hk))); (case aO => exact Kd.R_mono (R1 ⟨ho_⟩) (fun _ hk => .inl hk)); (case aS => exact below_size (Bw HG)); (case aL => have := LMc75.out; omega); intro v672 w76 ho hb hg hat; rw [← Ny671.out] at ho; replace HG := Sat.nf (hG_ _ _ _ _ (by with_reducible repeat (first | exact Qt.rf _ | apply Qt.al | apply Qt.dn | apply Qt.d1)) hb hg ho); clear ho_ hG_ hsz_; clear ho hb hg hat))
                          go_roundg k1
                          case measure => have := HK1.out; omega
                          case rel => exact ⟨(y671), (wrap64 (x20_1 + 1)), Fs, H', ⟨by have := HK1.out; omega⟩, Sat.pick HG [0, 1, 2, 3, 4, 5, 6, 7, 8, 9, 10, 11, 12, 13]⟩
                        · rw [if_neg c75] at H
                          exact absurd H (by simp)
                      · rw [if_neg c74] at H
                        have c74b0 : decide (x20_1 < (t617.length : Int)) = false := decide_eq_false c74
                        clear c74
                        obtain ⟨⟨t674, t675⟩, A770, H⟩ := Option.bind_eq_some_iff.mp H
                        dsimp only at H
                        have A77 := Aside0.mk A770
                        clear A770
                        obtain ⟨⟨t676, t677⟩, A780, H⟩ := Option.bind_eq_some_iff.mp H
                        dsimp only at H
                        have A78 := Aside0.mk A780
                        clear A780
                        obtain ⟨⟨t678, t679⟩, A790, H⟩ := Option.bind_eq_some_iff.mp H
                        dsimp only at H
                        have A79 := Aside0.mk A790
                        clear A790
                        by_cases c80 : t675 = 0
                        · rw [if_pos c80] at H
                          have c80b0 : (t675 == 0) = true := beq_iff_eq.mpr c80
                          have c80b1 : (t675 != 0) = false := bne_eq_false_iff_eq.mpr c80
                          clear c80
                          by_cases c81 : t677 = 0
                          · rw [if_pos c81] at H
                            have c81b0 : (t677 == 0) = true := beq_iff_eq.mpr c81
                            have c81b1 : (t677 != 0) = false := bne_eq_false_iff_eq.mpr c81
                            clear c81
                            by_cases c82 : t679 = 0
                            · rw [if_pos c82] at H
                              have c82b0 : (t679 == 0) = true := beq_iff_eq.mpr c82
                              have c82b1 : (t679 != 0) = false := bne_eq_false_iff_eq.mpr c82
                              clear c82
                              by_cases c83 : t624 = 0
                              · rw [if_pos c83] at H
                                exact absurd H (by simp)
                              · rw [if_neg c83] at H
                                have c83b0 : (t624 == 0) = false := beq_eq_false_iff_ne.mpr c83
                                have c83b1 : (t624 != 0) = true := bne_iff_ne.mpr c83
                                obtain rfl := Option.some.inj H
                                have hnb84 := (Sat.ne HG 8 9 (by decide) rfl rfl)
                                have hnc84 := (Sat.ne HG 9 8 (by decide) rfl rfl)
                                have hnb85 := (Sat.ne HG 8 10 (by decide) rfl rfl)
                                have hnc85 := (Sat.ne HG 10 8 (by decide) rfl rfl)
                                have hnb86 := (Sat.ne HG 8 11 (by decide) rfl rfl)
                                have hnc86 := (Sat.ne HG 11 8 (by decide) rfl rfl)
                                have hnb87 := (Sat.ne HG 8 12 (by decide) rfl rfl)
                                have hnc87 := (Sat.ne HG 12 8 (by decide) rfl rfl)
                                have hnb88 := (Sat.ne HG 8 13 (by decide) rfl rfl)
                                have hnc88 := (Sat.ne HG 13 8 (by decide) rfl rfl)
                                have hcz89_0 : wr.cell? ⟨gb628, 0, none⟩ = some (.int .i64 t620) := (blk_cell (Sat.B HG 8 rfl) 0).trans rfl
                                have hcz89_1 : wr.cell? ⟨gb628, 1, none⟩ = some (.slice Ao26 t621.length co26) := (blk_cell (Sat.B HG 8 rfl) 1).trans rfl
                                have hfz89_0 := blk_frozen (Sat.B HG 8 rfl) 0
                                have hfz89_1 := blk_frozen (Sat.B HG 8 rfl) 1
                                obtain ⟨Ao90, co90, eo90⟩ := Kd.R_slice (Sat.R HG 1 rfl)
                                subst eo90
                                go_wp2_with (first | ((with_reducible refine gC 10 ?_); refine GL (some 128) Try.func10 #[.slice Ao29 t617.length co29, .agg #[.int .i64 t620, .slice Ao26 t621.length co26], .slice Ao90 x19_1.length co90] ?_; (with_reducible refine (impl_WeightOfSet.calls k1 _ _ t617 t620 _ _ t621 _ _ x19_1 t674 t675 _ ?side1 ?side2 ?side3 ?side4 ?side5 ?side6 A77.out).mono ?_); (case side1 => exact Ck (Kd.R_reads' (Sat.R HG 0 rfl)).2.2); (case side2 => exact (Kd.R_reads' (Sat.R HG 0 rfl)).2.1); (case side3 => exact Ck (Kd.R_reads' (Sat.R HG 2 rfl)).2.2); (case side4 => exact (Kd.R_reads' (Sat.R HG 2 rfl)).2.1); (case side5 => exact Ck (Kd.R_reads' (Sat.R HG 1 rfl)).2.2); (case side6 => exact (Kd.R_reads' (Sat.R HG 1 rfl)).2.1); rintro e w91 ⟨rfl, hb⟩; refine ⟨_, rfl, ?_⟩; replace HG := Sat.rd HG hb; (try clear hb); (try clear hb2); (try clear hk); (try clear hi); have hnb92 := (Sat.ne HG 9 10 (by decide) rfl rfl); have hnc92 := (Sat.ne HG 10 9 (by decide) rfl rfl); have hnb93 := (Sat.ne HG 9 11 (by decide) rfl rfl); have hnc93 := (Sat.ne HG 11 9 (by decide) rfl rfl); have hnb94 := (Sat.ne HG 9 12 (by decide) rfl rfl); have hnc94 := (Sat.ne HG 12 9 (by decide) rfl rfl); have hnb95 := (Sat.ne HG 9 13 (by decide) rfl rfl); have hnc95 := (Sat.ne HG 13 9 (by decide) rfl rfl); have hcz96_0 : w91.cell? ⟨gb629, 0, none⟩ = some (.int .i64 t624) := (blk_cell (Sat.B HG 9 rfl) 0).trans rfl; have hcz96_1 : w91.cell? ⟨gb629, 1, none⟩ = some (.slice Ao28 t625.length co28) := (blk_cell (Sat.B HG 9 rfl) 1).trans rfl; have hfz96_0 := blk_frozen (Sat.B HG 9 rfl) 0; have hfz96_1 := blk_frozen (Sat.B HG 9 rfl) 1) | ((with_reducible refine gC 10 ?_); refine GL (some 135) Try.func10 #[.slice Ao29 t617.length co29, .agg #[.int .i64 t624, .slice Ao28 t625.length co28], .slice Ao90 x19_1.length co90] ?_; (with_reducible refine (impl_WeightOfSet.calls k1 _ _ t617 t624 _ _ t625 _ _ x19_1 t676 t677 _ ?side1 ?side2 ?side3 ?side4 ?side5 ?side6 A78.out).mono ?_); (case side1 => exact Ck (Kd.R_reads' (Sat.R HG 0 rfl)).2.2); (case side2 => exact (Kd.R_reads' (Sat.R HG 0 rfl)).2.1); (case side3 => exact Ck (Kd.R_reads' (Sat.R HG 3 rfl)).2.2); (case side4 => exact (Kd.R_reads' (Sat.R HG 3 rfl)).2.1); (case side5 => exact Ck (Kd.R_reads' (Sat.R HG 1 rfl)).2.2); (case side6 => exact (Kd.R_reads' (Sat.R HG 1 rfl)).2.1); rintro e w97 ⟨rfl, hb⟩; refine ⟨_, rfl, ?_⟩; replace HG := Sat.rd HG hb; (try clear hb); (try clear hb2); (try clear hk); (try clear hi); have hnb98 := (Sat.ne HG 10 11 (by decide) rfl rfl); have hnc98 := (Sat.ne HG 11 10 (by decide) rfl rfl); have hnb99 := (Sat.ne HG 10 12 (by decide) rfl rfl); have hnc99 := (Sat.ne HG 12 10 (by decide) rfl rfl); have hnb100 := (Sat.ne HG 10 13 (by decide) rfl rfl); have hnc100 := (Sat.ne HG 13 10 (by decide) rfl rfl); have hcz101_0 : w97.cell? ⟨gb635, 0, none⟩ = some (.int .i64 t630) := (blk_cell (Sat.B HG 10 rfl) 0).trans rfl; have hcz101_1 : w97.cell? ⟨gb635, 1, none⟩ = some (.slice Ao35 t631.length co35) := (blk_cell (Sat.B HG 10 rfl) 1).trans rfl; have hfz101_0 := blk_frozen (Sat.B HG 10 rfl) 0; have hfz101_1 := blk_frozen (Sat.B HG 10 rfl) 1) | ((with_reducible refine gC 10 ?_); refine GL (some 142) Try.func10 #[.slice Ao29 t617.length co29, .agg #[.int .i64 t630, .slice Ao35 t631.length co35], .slice Ao90 x19_1.length co90] ?_; (with_reducible refine (impl_WeightOfSet.calls k1 _ _ t617 t630 _ _ t631 _ _ x19_1 t678 t679 _ ?side1 ?side2 ?side3 ?side4 ?side5 ?side6 A79.out).mono ?_); (case side1 => exact Ck (Kd.R_reads' (Sat.R HG 0 rfl)).2.2); (case side2 => exact (Kd.R_reads' (Sat.R HG 0 rfl)).2.1); (case side3 => exact Ck (Kd.R_reads' (Sat.R HG 4 rfl)).2.2); (case side4 => exact (Kd.R_reads' (Sat.R HG 4 rfl)).2.1); (case side5 => exact Ck (Kd.R_reads' (Sat.R HG 1 rfl)).2.2); (case side6 => exact (Kd.R_reads' (Sat.R HG 1 rfl)).2.1); rintro e w102 ⟨rfl, hb⟩; refine ⟨_, rfl, ?_⟩; replace HG := Sat.rd HG hb; (try clear hb); (try clear hb2); (try clear hk); (try clear hi); have hcz103_0 : w102.cell? ⟨gb629, 0, none⟩ = some (.int .i64 t624) := (blk_cell (Sat.B HG 9 rfl) 0).trans rfl; have hcz103_1 : w102.cell? ⟨gb629, 1, none⟩ = some (.slice Ao28 t625.length co28) := (blk_cell (Sat.B HG 9 rfl) 1).trans rfl; have hfz103_0 := blk_frozen (Sat.B HG 9 rfl) 0; have hfz103_1 := blk_frozen (Sat.B HG 9 rfl) 1))
                                go_ret
                                exact ⟨Fin, Bw HG⟩
                            · rw [if_neg c82] at H
                              have c82b0 : (t679 == 0) = false := beq_eq_false_iff_ne.mpr c82
                              have c82b1 : (t679 != 0) = true := bne_iff_ne.mpr c82
                              exact absurd (H.trans (congrArg some hrt)) (by simp)
                          · rw [if_neg c81] at H
                            have c81b0 : (t677 == 0) = false := beq_eq_false_iff_ne.mpr c81
                            have c81b1 : (t677 != 0) = true := bne_iff_ne.mpr c81
                            exact absurd (H.trans (congrArg some hrt)) (by simp)
                        · rw [if_neg c80] at H
                          have c80b0 : (t675 == 0) = false := beq_eq_false_iff_ne.mpr c80
                          have c80b1 : (t675 != 0) = true := bne_iff_ne.mpr c80
                          exact absurd (H.trans (congrArg some hrt)) (by simp)
                · rw [if_neg c20] at H
                  have c20b0 : (t634 == 0) = false := beq_eq_false_iff_ne.mpr c20
                  have c20b1 : (t634 != 0) = true := bne_iff_ne.mpr c20
                  obtain rfl := Option.some.inj H
                  go_enter Try.func3, Try.ntmps3
                  try go_wp2_with (((with_reducible refine gC 5 ?_); refine GL (some 28) Try.func5 #[.slice A0 l0.length c0] ?_; (with_reducible refine (laws_big.calls _ _ l0 false _ ?side1 ?side2 A2.out).mono ?_); (case side1 => exact Ck HR0.out); (case side2 => exact HC0.out); rintro e w' ⟨rfl, ⟨nd, rfl⟩⟩; refine ⟨_, rfl, ?_⟩; skip); go_wp2_with (((with_reducible refine gC 6 ?_); refine GL (some 31) Try.func6 #[.slice A0 l0.length c0] ?_; (with_reducible refine (spec_DrawAddWeightings.calls k _ _ l0 t617 t620 t621 t624 t625 _ ?side1 ?side2 A4.out).mono ?_); (case side1 => exact Ck HR0.out); (case side2 => exact HC0.out); rintro e w104 ⟨v618, v622, v626, rfl, ho0, ho1, ho2, hb⟩; refine ⟨_, rfl, ?_⟩; replace HG := Sat.mk3RRR HG hb (Kd.R_tight rfl ho0) (by first | exact Kd.R_tight2 rfl (Kd.R_mono ho1 (fun k_ hk_ => hk_)) | exact Kd.R_tight2 rfl (Kd.R_mono (Kd.R_apart' ho1 (Kd.R_typed ho0) (by decide)) (fun k_ hk_ => hk_.2))) (by first | exact Kd.R_mono ho2 (fun k_ hk_ => hk_) | exact Kd.R_mono (Kd.R_apart' ho2 (Kd.R_typed ho0) (by decide)) (fun k_ hk_ => ⟨hk_.2, hk_.1⟩) | exact Kd.R_mono (Kd.R_apart' ho2 (Kd.R_typed ho1) (by decide)) (fun k_ hk_ => ⟨hk_.1, hk_.2⟩) | exact Kd.R_mono (Kd.R_apart' (Kd.R_apart' ho2 (Kd.R_typed ho0) (by decide)) (Kd.R_typed ho1) (by decide)) (fun k_ hk_ => ⟨hk_.1.2, hk_.2⟩)); (try clear hb); (try clear hb2); (try clear hk); (try clear hi); (try clear ho0); (try clear ho1); (try clear ho2)); go_wp2_with (((with_reducible refine gD 4 ?_); refine BX #[.int .i64 0, .slice none 0 0] 27 ?_; intro gb628 hg w105 hbox hb; replace HG := Sat.box HG hg hbox hb; clear hb hbox hg); go_wp2_with (((with_reducible refine gD 5 ?_); refine BX #[.int .i64 0, .slice none 0 0] 27 ?_; intro gb629 hg w106 hbox hb; replace HG := Sat.box HG hg hbox hb; clear hb hbox hg; have hnb107 := (Sat.ne HG 1 0 (by decide) rfl rfl); have hnc107 := (Sat.ne HG 0 1 (by decide) rfl rfl); have hcz108_0 : w106.cell? ⟨gb628, 0, none⟩ = some (.int .i64 0) := (blk_cell (Sat.B HG 1 rfl) 0).trans rfl; have hcz108_1 : w106.cell? ⟨gb628, 1, none⟩ = some (.slice none 0 0) := (blk_cell (Sat.B HG 1 rfl) 1).trans rfl; have hfz108_0 := blk_frozen (Sat.B HG 1 rfl) 0; have hfz108_1 := blk_frozen (Sat.B HG 1 rfl) 1; obtain ⟨Ao109, co109, eo109⟩ := Kd.R_slice (Sat.R HG 3 rfl); subst eo109; have hcz110_0 : w106.cell? ⟨gb629, 0, none⟩ = some (.int .i64 0) := (blk_cell (Sat.B HG 0 rfl) 0).trans rfl; have hcz110_1 : w106.cell? ⟨gb629, 1, none⟩ = some (.slice none 0 0) := (blk_cell (Sat.B HG 0 rfl) 1).trans rfl; have hfz110_0 := blk_frozen (Sat.B HG 0 rfl) 0; have hfz110_1 := blk_frozen (Sat.B HG 0 rfl) 1; obtain ⟨Ao111, co111, eo111⟩ := Kd.R_slice (Sat.R HG 4 rfl); subst eo111; obtain ⟨Ao112, co112, eo112⟩ := Kd.R_slice (Sat.R HG 2 rfl); subst eo112); go_wp2_with (((with_reducible refine gC 7 ?_); replace HG := Sat.put HG 1 0 (.int .i64 t620) #[.int .i64 t620, .slice none 0 0]; replace HG := Sat.put HG 1 1 (.slice Ao109 t621.length co109) #[.int .i64 t620, .slice Ao109 t621.length co109]; replace HG := Sat.put HG 0 0 (.int .i64 t624) #[.int .i64 t624, .slice none 0 0]; replace HG := Sat.put HG 0 1 (.slice Ao111 t625.length co111) #[.int .i64 t624, .slice Ao111 t625.length co111]; refine GL (some 39) Try.func7 #[.slice Ao112 t617.length co112, .agg #[.int .i64 t620, .slice Ao109 t621.length co109], .agg #[.int .i64 t624, .slice Ao111 t625.length co111]] ?_; (with_reducible refine (impl_AddWeightings.calls k _ _ t617 t620 _ _ t621 t624 _ _ t625 t630 t631 t634 _ ?side1 ?side2 ?side3 ?side4 ?side5 ?side6 A5.out).mono ?_); (case side1 => exact Ck (Kd.R_reads' (Sat.R HG 2 rfl)).2.2); (case side2 => exact (Kd.R_reads' (Sat.R HG 2 rfl)).2.1); (case side3 => exact Ck (Kd.R_reads' (Sat.R HG 3 rfl)).2.2); (case side4 => exact (Kd.R_reads' (Sat.R HG 3 rfl)).2.1); (case side5 => exact Ck (Kd.R_reads' (Sat.R HG 4 rfl)).2.2); (case side6 => exact (Kd.R_reads' (Sat.R HG 4 rfl)).2.1); rintro e w113 ⟨v632, rfl, ho0, hb⟩; refine ⟨_, rfl, ?_⟩; replace HG := Sat.mkR HG hb ho0; (try clear hb); (try clear hb2); (try clear hk); (try clear hi); (try clear ho0)); go_wp2_with (((with_reducible refine gD 6 ?_); refine BX #[.int .i64 0, .slice none 0 0] 27 ?_; intro gb635 hg w114 hbox hb; replace HG := Sat.box HG hg hbox hb; clear hb hbox hg; have hnb115 := (Sat.ne HG 0 3 (by decide) rfl rfl); have hnc115 := (Sat.ne HG 3 0 (by decide) rfl rfl); have hnb116 := (Sat.ne HG 0 2 (by decide) rfl rfl); have hnc116 := (Sat.ne HG 2 0 (by decide) rfl rfl); have hcz117_0 : w114.cell? ⟨gb635, 0, none⟩ = some (.int .i64 0) := (blk_cell (Sat.B HG 0 rfl) 0).trans rfl; have hcz117_1 : w114.cell? ⟨gb635, 1, none⟩ = some (.slice none 0 0) := (blk_cell (Sat.B HG 0 rfl) 1).trans rfl; have hfz117_0 := blk_frozen (Sat.B HG 0 rfl) 0; have hfz117_1 := blk_frozen (Sat.B HG 0 rfl) 1; obtain ⟨Ao118, co118, eo118⟩ := Kd.R_slice (Sat.R HG 1 rfl); subst eo118; have hcz119_0 : w114.cell? ⟨gb628, 0, none⟩ = some (.int .i64 t620) := (blk_cell (Sat.B HG 3 rfl) 0).trans rfl; have hcz119_1 : w114.cell? ⟨gb628, 1, none⟩ = some (.slice Ao109 t621.length co109) := (blk_cell (Sat.B HG 3 rfl) 1).trans rfl; have hfz119_0 := blk_frozen (Sat.B HG 3 rfl) 0; have hfz119_1 := blk_frozen (Sat.B HG 3 rfl) 1; have hcz120_0 : w114.cell? ⟨gb629, 0, none⟩ = some (.int .i64 t624) := (blk_cell (Sat.B HG 2 rfl) 0).trans rfl; have hcz120_1 : w114.cell? ⟨gb629, 1, none⟩ = some (.slice Ao111 t625.length co111) := (blk_cell (Sat.B HG 2 rfl) 1).trans rfl; have hfz120_0 := blk_frozen (Sat.B HG 2 rfl) 0; have hfz120_1 := blk_frozen (Sat.B HG 2 rfl) 1); go_wp2_with (((with_reducible refine gC 8 ?_); replace HG := Sat.put HG 0 0 (.int .i64 t630) #[.int .i64 t630, .slice none 0 0]; replace HG := Sat.put HG 0 1 (.slice Ao118 t631.length co118) #[.int .i64 t630, .slice Ao118 t631.length co118]; refine GL (some 46) Try.func8 #[.slice Ao112 t617.length co112, .agg #[.int .i64 t620, .slice Ao109 t621.length co109], .agg #[.int .i64 t624, .slice Ao111 t625.length co111]] ?_; (with_reducible refine (spec_AddWeightings.calls k _ _ t617 t620 _ _ t621 t624 _ _ t625 t636 t637 t640 _ ?side1 ?side2 ?side3 ?side4 ?side5 ?side6 A6.out).mono ?_); (case side1 => exact Ck (Kd.R_reads' (Sat.R HG 4 rfl)).2.2); (case side2 => exact (Kd.R_reads' (Sat.R HG 4 rfl)).2.1); (case side3 => exact Ck (Kd.R_reads' (Sat.R HG 5 rfl)).2.2); (case side4 => exact (Kd.R_reads' (Sat.R HG 5 rfl)).2.1); (case side5 => exact Ck (Kd.R_reads' (Sat.R HG 6 rfl)).2.2); (case side6 => exact (Kd.R_reads' (Sat.R HG 6 rfl)).2.1); rintro e w121 ⟨v638, rfl, ho0, hb⟩; refine ⟨_, rfl, ?_⟩; replace HG := Sat.mkR HG hb ho0; (try clear hb); (try clear hb2); (try clear hk); (try clear hi); (try clear ho0)); go_wp2_with (((with_reducible refine gD 8 ?_); refine BX #[.int .i64 0, .slice none 0 0] 27 ?_; intro gb641 hg w122 hbox hb; replace HG := Sat.box HG hg hbox hb; clear hb hbox hg; have hnb123 := (Sat.ne HG 0 5 (by decide) rfl rfl); have hnc123 := (Sat.ne HG 5 0 (by decide) rfl rfl); have hnb124 := (Sat.ne HG 0 4 (by decide) rfl rfl); have hnc124 := (Sat.ne HG 4 0 (by decide) rfl rfl); have hnb125 := (Sat.ne HG 0 2 (by decide) rfl rfl); have hnc125 := (Sat.ne HG 2 0 (by decide) rfl rfl); have hcz126_0 : w122.cell? ⟨gb641, 0, none⟩ = some (.int .i64 0) := (blk_cell (Sat.B HG 0 rfl) 0).trans rfl; have hcz126_1 : w122.cell? ⟨gb641, 1, none⟩ = some (.slice none 0 0) := (blk_cell (Sat.B HG 0 rfl) 1).trans rfl; have hfz126_0 := blk_frozen (Sat.B HG 0 rfl) 0; have hfz126_1 := blk_frozen (Sat.B HG 0 rfl) 1; obtain ⟨Ao127, co127, eo127⟩ := Kd.R_slice (Sat.R HG 1 rfl); subst eo127); go_wp2_with (((with_reducible refine gC 9 ?_); replace HG := Sat.put HG 0 0 (.int .i64 t636) #[.int .i64 t636, .slice none 0 0]; replace HG := Sat.put HG 0 1 (.slice Ao127 t637.length co127) #[.int .i64 t636, .slice Ao127 t637.length co127]; refine GL (some 51) Try.func9 #[.slice A0 l0.length c0] ?_; (with_reducible refine (spec_DrawWeightOfSet.calls k _ _ l0 t642 t645 t646 t649 _ ?side1 ?side2 A7.out).mono ?_); (case side1 => exact Kd.C_below HR0.out (Bw HG)); (case side2 => exact HC0.out); rintro e w128 ⟨v643, v647, v650, rfl, ho0, ho1, ho2, hb⟩; refine ⟨_, rfl, ?_⟩; replace HG := Sat.mk3RRR HG hb (Kd.R_tight rfl ho0) (by first | exact Kd.R_tight2 rfl (Kd.R_mono ho1 (fun k_ hk_ => hk_)) | exact Kd.R_tight2 rfl (Kd.R_mono (Kd.R_apart' ho1 (Kd.R_typed ho0) (by decide)) (fun k_ hk_ => hk_.2))) (by first | exact Kd.R_mono ho2 (fun k_ hk_ => hk_) | exact Kd.R_mono (Kd.R_apart' ho2 (Kd.R_typed ho0) (by decide)) (fun k_ hk_ => ⟨hk_.2, hk_.1⟩) | exact Kd.R_mono (Kd.R_apart' ho2 (Kd.R_typed ho1) (by decide)) (fun k_ hk_ => ⟨hk_.1, hk_.2⟩) | exact Kd.R_mono (Kd.R_apart' (Kd.R_apart' ho2 (Kd.R_typed ho0) (by decide)) (Kd.R_typed ho1) (by decide)) (fun k_ hk_ => ⟨hk_.1.2, hk_.2⟩)); (try clear hb); (try clear hb2); (try clear hk); (try clear hi); (try clear ho0); (try clear ho1); (try clear ho2)); go_wp2_with (((with_reducible refine gD 11 ?_); refine BX #[.int .i64 0, .slice none 0 0] 27 ?_; intro gb652 hg w129 hbox hb; replace HG := Sat.box HG hg hbox hb; clear hb hbox hg; have hnb130 := (Sat.ne HG 0 9 (by decide) rfl rfl); have hnc130 := (Sat.ne HG 9 0 (by decide) rfl rfl); have hnb131 := (Sat.ne HG 0 8 (by decide) rfl rfl); have hnc131 := (Sat.ne HG 8 0 (by decide) rfl rfl); have hnb132 := (Sat.ne HG 0 6 (by decide) rfl rfl); have hnc132 := (Sat.ne HG 6 0 (by decide) rfl rfl); have hnb133 := (Sat.ne HG 0 4 (by decide) rfl rfl); have hnc133 := (Sat.ne HG 4 0 (by decide) rfl rfl); have hcz134_0 : w129.cell? ⟨gb652, 0, none⟩ = some (.int .i64 0) := (blk_cell (Sat.B HG 0 rfl) 0).trans rfl; have hcz134_1 : w129.cell? ⟨gb652, 1, none⟩ = some (.slice none 0 0) := (blk_cell (Sat.B HG 0 rfl) 1).trans rfl; have hfz134_0 := blk_frozen (Sat.B HG 0 rfl) 0; have hfz134_1 := blk_frozen (Sat.B HG 0 rfl) 1; obtain ⟨Ao135, co135, eo135⟩ := Kd.R_slice (Sat.R HG 2 rfl); subst eo135; obtain ⟨Ao136, co136, eo136⟩ := Kd.R_slice (Sat.R HG 1 rfl); subst eo136; obtain ⟨Ao137, co137, eo137⟩ := Kd.R_slice (Sat.R HG 3 rfl); subst eo137); go_wp2_with (((with_reducible refine gC 10 ?_); replace HG := Sat.put HG 0 0 (.int .i64 t645) #[.int .i64 t645, .slice none 0 0]; replace HG := Sat.put HG 0 1 (.slice Ao135 t646.length co135) #[.int .i64 t645, .slice Ao135 t646.length co135]; refine GL (some 59) Try.func10 #[.slice Ao136 t642.length co136, .agg #[.int .i64 t645, .slice Ao135 t646.length co135], .slice Ao137 t649.length co137] ?_; (with_reducible refine (impl_WeightOfSet.calls k _ _ t642 t645 _ _ t646 _ _ t649 t653 t654 _ ?side1 ?side2 ?side3 ?side4 ?side5 ?side6 A8.out).mono ?_); (case side1 => exact Ck (Kd.R_reads' (Sat.R HG 1 rfl)).2.2); (case side2 => exact (Kd.R_reads' (Sat.R HG 1 rfl)).2.1); (case side3 => exact Ck (Kd.R_reads' (Sat.R HG 2 rfl)).2.2); (case side4 => exact (Kd.R_reads' (Sat.R HG 2 rfl)).2.1); (case side5 => exact Ck (Kd.R_reads' (Sat.R HG 3 rfl)).2.2); (case side6 => exact (Kd.R_reads' (Sat.R HG 3 rfl)).2.1); rintro e w138 ⟨rfl, hb⟩; refine ⟨_, rfl, ?_⟩; replace HG := Sat.rd HG hb; (try clear hb); (try clear hb2); (try clear hk); (try clear hi); have hcz139_0 : w138.cell? ⟨gb652, 0, none⟩ = some (.int .i64 t645) := (blk_cell (Sat.B HG 0 rfl) 0).trans rfl; have hcz139_1 : w138.cell? ⟨gb652, 1, none⟩ = some (.slice Ao135 t646.length co135) := (blk_cell (Sat.B HG 0 rfl) 1).trans rfl; have hfz139_0 := blk_frozen (Sat.B HG 0 rfl) 0; have hfz139_1 := blk_frozen (Sat.B HG 0 rfl) 1); go_wp2_with (((with_reducible refine gC 11 ?_); refine GL (some 66) Try.func11 #[.slice Ao136 t642.length co136, .agg #[.int .i64 t645, .slice Ao135 t646.length co135], .slice Ao137 t649.length co137] ?_; (with_reducible refine (spec_WeightOfSet.calls k _ _ t642 t645 _ _ t646 _ _ t649 t655 t656 _ ?side1 ?side2 ?side3 ?side4 ?side5 ?side6 A9.out).mono ?_); (case side1 => exact Ck (Kd.R_reads' (Sat.R HG 1 rfl)).2.2); (case side2 => exact (Kd.R_reads' (Sat.R HG 1 rfl)).2.1); (case side3 => exact Ck (Kd.R_reads' (Sat.R HG 2 rfl)).2.2); (case side4 => exact (Kd.R_reads' (Sat.R HG 2 rfl)).2.1); (case side5 => exact Ck (Kd.R_reads' (Sat.R HG 3 rfl)).2.2); (case side6 => exact (Kd.R_reads' (Sat.R HG 3 rfl)).2.1); rintro e w140 ⟨rfl, hb⟩; refine ⟨_, rfl, ?_⟩; replace HG := Sat.rd HG hb; (try clear hb); (try clear hb2); (try clear hk); (try clear hi)); go_wp2_with (((with_reducible refine gC 12 ?_); refine GL (some 71) Try.func12 #[.slice A0 l0.length c0] ?_; (with_reducible refine (spec_DrawIsWeighting.calls k _ _ l0 t657 t660 t661 _ ?side1 ?side2 A10.out).mono ?_); (case side1 => exact Ck (Kd.C_below HR0.out HG.out.1)); (case side2 => exact HC0.out); rintro e w141 ⟨v658, v662, rfl, ho0, ho1, hb⟩; refine ⟨_, rfl, ?_⟩; replace HG := Sat.mk2RR HG hb (Kd.R_tight rfl ho0) (by first | exact Kd.R_mono ho1 (fun k_ hk_ => hk_) | exact Kd.R_mono (Kd.R_apart' ho1 (Kd.R_typed ho0) (by decide)) (fun k_ hk_ => hk_.2)); (try clear hb); (try clear hb2); (try clear hk); (try clear hi); (try clear ho0); (try clear ho1)); go_wp2_with (((with_reducible refine gD 18 ?_); refine BX #[.int .i64 0, .slice none 0 0] 27 ?_; intro gb664 hg w142 hbox hb; replace HG := Sat.box HG hg hbox hb; clear hb hbox hg; have hnb143 := (Sat.ne HG 0 12 (by decide) rfl rfl); have hnc143 := (Sat.ne HG 12 0 (by decide) rfl rfl); have hnb144 := (Sat.ne HG 0 11 (by decide) rfl rfl); have hnc144 := (Sat.ne HG 11 0 (by decide) rfl rfl); have hnb145 := (Sat.ne HG 0 9 (by decide) rfl rfl); have hnc145 := (Sat.ne HG 9 0 (by decide) rfl rfl); have hnb146 := (Sat.ne HG 0 7 (by decide) rfl rfl); have hnc146 := (Sat.ne HG 7 0 (by decide) rfl rfl); have hnb147 := (Sat.ne HG 0 3 (by decide) rfl rfl); have hnc147 := (Sat.ne HG 3 0 (by decide) rfl rfl); have hcz148_0 : w142.cell? ⟨gb664, 0, none⟩ = some (.int .i64 0) := (blk_cell (Sat.B HG 0 rfl) 0).trans rfl; have hcz148_1 : w142.cell? ⟨gb664, 1, none⟩ = some (.slice none 0 0) := (blk_cell (Sat.B HG 0 rfl) 1).trans rfl; have hfz148_0 := blk_frozen (Sat.B HG 0 rfl) 0; have hfz148_1 := blk_frozen (Sat.B HG 0 rfl) 1; obtain ⟨Ao149, co149, eo149⟩ := Kd.R_slice (Sat.R HG 2 rfl); subst eo149)))))))))))))))
                  replace HG := Sat.put HG 0 0 (.int .i64 t660) #[.int .i64 t660, .slice none 0 0]
                  replace HG := Sat.put HG 0 1 (.slice Ao149 t661.length co149) #[.int .i64 t660, .slice Ao149 t661.length co149]
                  generalize ((w142.setCell ⟨gb664, 0, none⟩ (.int .i64 t660)).setCell ⟨gb664, 1, none⟩ (.slice Ao149 t661.length co149)) = w150 at HG ⊢
                  replace HG := Sat.drew HG
                  refine start_ (n := 37) (S := fun w' => w'.cell? ⟨gb635, 0, none⟩ = some (.int .i64 t630) ∧ w'.cell? ⟨gb635, 1, none⟩ = some (.slice Ao118 t631.length co118) ∧ w'.cell? ⟨gb641, 0, none⟩ = some (.int .i64 t636) ∧ w'.cell? ⟨gb641, 1, none⟩ = some (.slice Ao127 t637.length co127) ∧ w'.cell? ⟨gb664, 0, none⟩ = some (.int .i64 t660) ∧ w'.cell? ⟨gb664, 1, none⟩ = some (.slice Ao149 t661.length co149)) (ds := []) #[false, false, false, false, false, false, false, false, false, false, false, false, false, false, false, false, false, false, false, false, false, false, false, false, false, false, false, false, false, false, false, false, false, false, false, false, false] (by kernel_rfl) rfl rfl ⟨(blk_cell (Sat.B HG 9 rfl) 0).trans rfl, (blk_cell (Sat.B HG 9 rfl) 1).trans rfl, (blk_cell (Sat.B HG 7 rfl) 0).trans rfl, (blk_cell (Sat.B HG 7 rfl) 1).trans rfl, (blk_cell (Sat.B HG 0 rfl) 0).trans rfl, (blk_cell (Sat.B HG 0 rfl) 1).trans rfl⟩ (fun hHeld => ?_); refine with_tabW laws_FnWeightSums.tab10 laws_FnWeightSums.bits10 (fun HT_ HW_ => ?_)
                  generalize w150.drew = w151 at HG hHeld ⊢
                  refine PU 0 74 ?_
                  refine PU 1 75 ?_
                  refine PU 2 76 ?_
                  refine PU 3 77 ?_
                  refine PU 4 78 ?_
                  refine PU 6 80 ?_
                  refine TK 5 79 hHeld ?_
                  refine TK 7 81 hHeld ?_
                  refine PU 8 82 ?_
                  refine PU 9 83 ?_
                  refine PU 10 84 ?_
                  refine PU 11 85 ?_
                  refine PU 13 87 ?_
                  refine TK 12 86 hHeld ?_
                  refine TK 14 88 hHeld ?_
                  refine ON 15 89 (fun K hK => ?_)
                  refine GO Try.func13 #[.slice Ao118 t631.length co118, .slice Ao127 t637.length co127] ?_
                  with_reducible refine (laws_likeInts.calls k _ _ t631 _ _ t637 true _ ?side1 ?side2 ?side3 ?side4 A13.out).mono ?_
                  (case side1 => exact Ck (Kd.R_reads' (Sat.R HG 10 rfl)).2.2)
                  (case side2 => exact (Kd.R_reads' (Sat.R HG 10 rfl)).2.1)
                  (case side3 => exact Ck (Kd.R_reads' (Sat.R HG 8 rfl)).2.2)
                  (case side4 => exact (Kd.R_reads' (Sat.R HG 8 rfl)).2.1)
                  rintro e w' ⟨rfl, ⟨nd, rfl⟩⟩
                  refine ⟨_, rfl, ?_⟩
                  obtain ⟨Ao152, co152, eo152⟩ := Kd.R_slice (Sat.R HG 1 rfl)
                  (first | subst eo152 | (injection eo152 with f1_ f2_ f3_; have f4_ := f1_.symm; have f5_ := f3_.symm; clear f1_ f2_ f3_; subst f4_; subst f5_))
                  refine hK.out _ _ ⟨(blk_cell (Sat.B HG 9 rfl) 0).trans rfl, (blk_cell (Sat.B HG 9 rfl) 1).trans rfl, (blk_cell (Sat.B HG 7 rfl) 0).trans rfl, (blk_cell (Sat.B HG 7 rfl) 1).trans rfl, (blk_cell (Sat.B HG 0 rfl) 0).trans rfl, (blk_cell (Sat.B HG 0 rfl) 1).trans rfl⟩ (fun hHeld => ?_)
                  clear hK K
                  refine NM 89 ?_
                  refine PU 16 90 ?_
                  refine PU 17 91 ?_
                  refine PU 18 92 ?_
                  refine PU 19 93 ?_
                  refine PU 20 94 ?_
                  refine PU 21 95 ?_
                  refine PU 22 96 ?_
                  refine PU 23 97 ?_
                  refine PU 24 98 ?_
                  refine PU 25 99 ?_
                  refine PU 26 100 ?_
                  refine PU 27 101 ?_
                  refine PU 28 102 ?_
                  refine PU 29 103 ?_
                  refine PU 32 106 ?_
                  refine TK 30 104 hHeld ?_
                  refine TK 33 107 hHeld ?_
                  refine ON 31 105 (fun K hK => ?_)
                  refine GO Try.func14 #[.slice Ao152 t657.length co152, .agg #[.int .i64 t660, .slice Ao149 t661.length co149]] ?_
                  with_reducible refine (impl_IsWeighting.calls k _ _ t657 t660 _ _ t661 t666 _ ?side1 ?side2 ?side3 ?side4 A17.out).mono ?_
                  (case side1 => exact Ck (Kd.R_reads' (Sat.R HG 1 rfl)).2.2)
                  (case side2 => exact (Kd.R_reads' (Sat.R HG 1 rfl)).2.1)
                  (case side3 => exact Ck (Kd.R_reads' (Sat.R HG 2 rfl)).2.2)
                  (case side4 => exact (Kd.R_reads' (Sat.R HG 2 rfl)).2.1)
                  rintro e w153 ⟨rfl, hb⟩
                  refine ⟨_, rfl, ?_⟩
                  replace HG := Sat.rd HG hb
                  (try clear hb)
                  (try clear hb2)
                  (try clear hk)
                  (try clear hi)
                  refine hK.out _ _ ⟨(blk_cell (Sat.B HG 9 rfl) 0).trans rfl, (blk_cell (Sat.B HG 9 rfl) 1).trans rfl, (blk_cell (Sat.B HG 7 rfl) 0).trans rfl, (blk_cell (Sat.B HG 7 rfl) 1).trans rfl, (blk_cell (Sat.B HG 0 rfl) 0).trans rfl, (blk_cell (Sat.B HG 0 rfl) 1).trans rfl⟩ (fun hHeld => ?_)
                  clear hK K
                  refine NM 105 ?_
                  refine ON 34 108 (fun K hK => ?_)
                  refine GO Try.func15 #[.slice Ao152 t657.length co152, .agg #[.int .i64 t660, .slice Ao149 t661.length co149]] ?_
                  with_reducible refine (spec_IsWeighting.calls k _ _ t657 t660 _ _ t661 t667 _ ?side1 ?side2 ?side3 ?side4 A18.out).mono ?_
                  (case side1 => exact Ck (Kd.R_reads' (Sat.R HG 1 rfl)).2.2)
                  (case side2 => exact (Kd.R_reads' (Sat.R HG 1 rfl)).2.1)
                  (case side3 => exact Ck (Kd.R_reads' (Sat.R HG 2 rfl)).2.2)
                  (case side4 => exact (Kd.R_reads' (Sat.R HG 2 rfl)).2.1)
                  rintro e w154 ⟨rfl, hb⟩
                  refine ⟨_, rfl, ?_⟩
                  replace HG := Sat.rd HG hb
                  (try clear hb)
                  (try clear hb2)
                  (try clear hk)
                  (try clear hi)
                  refine hK.out _ _ ⟨(blk_cell (Sat.B HG 9 rfl) 0).trans rfl, (blk_cell (Sat.B HG 9 rfl) 1).trans rfl, (blk_cell (Sat.B HG 7 rfl) 0).trans rfl, (blk_cell (Sat.B HG 7 rfl) 1).trans rfl, (blk_cell (Sat.B HG 0 rfl) 0).trans rfl, (blk_cell (Sat.B HG 0 rfl) 1).trans rfl⟩ (fun hHeld => ?_)
                  clear hK K
                  refine NM 108 ?_
                  refine PU 35 109 ?_
                  refine PU 36 110 ?_
                  refine done_ (done_of HT_.out (by kernel_rfl)) ?_
                  try go_wp2
                  go_ret
                  exact ⟨Fin, Bw HG⟩
            · rw [if_neg c16] at H
              have c16b0 : (t653 == t655) = false := beq_eq_false_iff_ne.mpr c16
              have c16b1 : (t653 != t655) = true := bne_iff_ne.mpr c16
              exact absurd (H.trans (congrArg some hrt)) (by simp)
          · rw [if_neg c15] at H
            have c15b0 : (t654 == t656) = false := beq_eq_false_iff_ne.mpr c15
            have c15b1 : (t654 != t656) = true := bne_iff_ne.mpr c15
            exact absurd (H.trans (congrArg some hrt)) (by simp)
        · replace c14 := Bool.eq_false_iff.mpr c14
          subst c14
          rw [if_neg (show ¬ (false = true) by decide)] at H
          exact absurd (H.trans (congrArg some hrt)) (by simp)
      · rw [if_neg c12] at H
        have c12b0 : (t630 == t636) = false := beq_eq_false_iff_ne.mpr c12
        have c12b1 : (t630 != t636) = true := bne_iff_ne.mpr c12
        exact absurd (H.trans (congrArg some hrt)) (by simp)
    · rw [if_neg c11] at H
      have c11b0 : (t634 == t640) = false := beq_eq_false_iff_ne.mpr c11
      have c11b1 : (t634 != t640) = true := bne_iff_ne.mpr c11
      exact absurd (H.trans (congrArg some hrt)) (by simp)

end Go.Proofs.Ytpnlidfebnkgmaa.XFnWeightSums
