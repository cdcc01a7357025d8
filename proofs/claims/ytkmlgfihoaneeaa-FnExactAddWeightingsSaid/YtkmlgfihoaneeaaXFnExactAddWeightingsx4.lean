-- Written by ext.py (wip/) over the kit's print: not trusted, Lean checks it.
import Derived.Test.YtkmlgfihoaneeaaXFnExactAddWeightingsx0
import Derived.Test.YtkmlgfihoaneeaaXFnExactAddWeightingsx3
namespace Go.Proofs.Ytkmlgfihoaneeaa.XFnExactAddWeightings
open Go.RowKit Go.Proofs.YtkmlgfihoaneeaaW.PrintWords Go.Proofs.YtkmlgfihoaneeaaW.PrintLast Go.Proofs.YtkmlgfihoaneeaaW.PrintMore
attribute [local go_sem] max2_int min2_int max_two min_two max_three min_three max_four min_four   -- for this text's walks alone
set_option linter.unusedVariables false
set_option linter.unusedSimpArgs false

/-! ### spec_l19Is: function 76 -/
mutual
def spec_l19Is.j0 : Nat → Bool → Int → List Int → Option (Bool)
  | 0, _, _, _ => none
  | k + 1, x17, x159000, x159001 => if x17 = true then (some false) else (spec_l19Is.l0 k 0 x159000 x159001)
def spec_l19Is.l0 : Nat → Int → Int → List Int → Option (Bool)
  | 0, _, _, _ => none
  | k + 1, x5, x159000, x159001 => if x5 < (x159001.length : Int) then (if 0 ≤ x5 then ((spec_l01In.f (rd x159001 x5) 0 (wrap64 (x159000 - 1))).bind fun t161 => (if t161 = true then (spec_l19Is.l0 k (wrap64 (x5 + 1)) x159000 x159001) else (some false))) else (none)) else (some true)
end
def spec_l19Is.f (k : Nat) (l0 : List (S103)) (a1_0 : Int) (l1_1 : List Int) : Option (Bool) := (spec_l01In.f a1_0 2 6).bind fun t159 => (if t159 = true then (spec_l19Is.j0 k ((l1_1.length : Int) != (l0.length : Int)) a1_0 l1_1) else (spec_l19Is.j0 k true a1_0 l1_1))
theorem spec_l19Is.mono_l : ∀ k, (∀ y0 y1 y2, LeO (spec_l19Is.j0 k y0 y1 y2) (spec_l19Is.j0 (k + 1) y0 y1 y2)) ∧ (∀ y0 y1 y2, LeO (spec_l19Is.l0 k y0 y1 y2) (spec_l19Is.l0 (k + 1) y0 y1 y2))
  | 0 => ⟨fun _ _ _ r h => by simp [spec_l19Is.j0] at h, fun _ _ _ r h => by simp [spec_l19Is.l0] at h⟩
  | k + 1 => by
    obtain ⟨ih0, ih1⟩ := spec_l19Is.mono_l k
    refine ⟨?_, ?_⟩
    · intro y0 y1 y2
      unfold spec_l19Is.j0
      repeat' first
      | (with_reducible exact ih0 _ _ _)
      | (with_reducible exact ih1 _ _ _)
      | (with_reducible exact LeO.refl _)
      | (with_reducible exact LeO.none _)
      | (with_reducible refine LeO.ite ?_ ?_)
      | (with_reducible refine LeO.bind ?_ (fun _ => ?_))
      | exact ih0 _ _ _
      | exact ih1 _ _ _
      | exact LeO.none _
      | refine LeO.ite ?_ ?_
      | refine LeO.bind ?_ (fun _ => ?_)
    · intro y0 y1 y2
      unfold spec_l19Is.l0
      repeat' first
      | (with_reducible exact ih0 _ _ _)
      | (with_reducible exact ih1 _ _ _)
      | (with_reducible exact LeO.refl _)
      | (with_reducible exact LeO.none _)
      | (with_reducible refine LeO.ite ?_ ?_)
      | (with_reducible refine LeO.bind ?_ (fun _ => ?_))
      | exact ih0 _ _ _
      | exact ih1 _ _ _
      | exact LeO.none _
      | refine LeO.ite ?_ ?_
      | refine LeO.bind ?_ (fun _ => ?_)
theorem spec_l19Is.mono : ∀ a0 a1 a2 k, LeO (spec_l19Is.f k a0 a1 a2) (spec_l19Is.f (k + 1) a0 a1 a2) := by
  intro a0 a1 a2 k
  obtain ⟨ih0, ih1⟩ := spec_l19Is.mono_l k
  unfold spec_l19Is.f
  repeat' first
      | (with_reducible exact ih0 _ _ _)
      | (with_reducible exact ih1 _ _ _)
      | (with_reducible exact LeO.refl _)
      | (with_reducible exact LeO.none _)
      | (with_reducible refine LeO.ite ?_ ?_)
      | (with_reducible refine LeO.bind ?_ (fun _ => ?_))
      | exact ih0 _ _ _
      | exact ih1 _ _ _
      | exact LeO.none _
      | refine LeO.ite ?_ ?_
      | refine LeO.bind ?_ (fun _ => ?_)
set_option maxHeartbeats 8000000 in
set_option maxRecDepth 100000 in
theorem spec_l19Is.calls (k : Nat) (A0 : Option Addr) (c0 : Nat) (l0 : List (S103)) (a1_0 : Int) (A1_1 : Option Addr) (c1_1 : Nat) (l1_1 : List Int) (r : Bool) (w : World) (hr0 : Kd.C k103 w A0 l0.length l0) (hc0 : l0.length ≤ c0) (hr1_1 : Kd.C (Kd.int .i64) w A1_1 l1_1.length l1_1) (hc1_1 : l1_1.length ≤ c1_1) (h : spec_l19Is.f k l0 a1_0 l1_1 = some r) :
    Calls Try.prog 76 #[.slice A0 l0.length c0, .agg #[.int .i64 a1_0, .slice A1_1 l1_1.length c1_1]] w fun e w' => e = .returned (.bool r) ∧ Below w.heap.size w w' := by
  have hu46 := Try.underlying46
  have HR0 := Aside0.mk hr0
  have HC0 := Aside0.mk hc0
  clear hr0 hc0
  have HR1_1 := Aside0.mk hr1_1
  have HC1_1 := Aside0.mk hc1_1
  clear hr1_1 hc1_1
  have HB := Aside0.mk (Below.refl w.heap.size w)
  have H : ((spec_l01In.f a1_0 2 6).bind fun t159 => (if t159 = true then (spec_l19Is.j0 k ((l1_1.length : Int) != (l0.length : Int)) a1_0 l1_1) else (spec_l19Is.j0 k true a1_0 l1_1))) = some r := h
  clear h
  have HC3 := Aside0.mk H
  clear H
  go_enter Try.func76, Try.ntmps76
  go_upto_region 1 with (first | ((with_reducible refine gD 3 ?_); (try (refine gate_guard (by rfl) ?_; dsimp only)); refine BX #[.int .i64 a1_0, .slice A1_1 l1_1.length c1_1] 46 ?_; intro gb158 hg w4 hbox hb; have BK158 := Aside0.mk (hbox); have GW158 := Aside0.mk ((Gle hg Hb : w.heap.size ≤ gb158)); have GE158 := Aside0.mk ((Gle hg Hb : w.heap.size ≤ gb158)); replace HB := Aside0.mk (below_step Hb hb); clear hb hbox hg))
  repeat (go_quiet (first | ((with_reducible refine gD 3 ?_); (try (refine gate_guard (by rfl) ?_; dsimp only)); refine BX #[.int .i64 a1_0, .slice A1_1 l1_1.length c1_1] 46 ?_; intro gb158 hg w4 hbox hb; have BK158 := Aside0.mk (hbox); have GW158 := Aside0.mk ((Gle hg Hb : w.heap.size ≤ gb158)); have GE158 := Aside0.mk ((Gle hg Hb : w.heap.size ≤ gb158)); replace HB := Aside0.mk (below_step Hb hb); clear hb hbox hg)); go_upto_region 1 with (first | ((with_reducible refine gD 3 ?_); (try (refine gate_guard (by rfl) ?_; dsimp only)); refine BX #[.int .i64 a1_0, .slice A1_1 l1_1.length c1_1] 46 ?_; intro gb158 hg w4 hbox hb; have BK158 := Aside0.mk (hbox); have GW158 := Aside0.mk ((Gle hg Hb : w.heap.size ≤ gb158)); have GE158 := Aside0.mk ((Gle hg Hb : w.heap.size ≤ gb158)); replace HB := Aside0.mk (below_step Hb hb); clear hb hbox hg)))
  (try simp only [Act.put, List.setIfInBounds_toArray, List.set_cons_zero, List.set_cons_succ])
  go_cut [17] (fun v17 wc => ∃ (kq : Nat) (x17_2 : Bool), v17 = .bool x17_2 ∧ Aside0 (spec_l19Is.j0 kq x17_2 a1_0 l1_1 = some r) ∧ Aside0 (kq ≤ k) ∧ Aside0 (wc.heap[gb158]? = some (.cells #[.int .i64 a1_0, (.slice A1_1 l1_1.length c1_1)] 46 (0, 0))) ∧ Aside0 (Below w.heap.size w wc))
  case first =>
    have H := HC3.out
    clear HC3
    obtain ⟨t159, A50, H⟩ := Option.bind_eq_some_iff.mp H
    have A5 := Aside0.mk A50
    clear A50
    by_cases c6 : t159 = true
    · subst c6
      rw [if_pos rfl] at H
      have H' := Aside0.mk H
      clear H
      have hcz7_0 : w4.cell? ⟨gb158, 0, none⟩ = some (.int .i64 a1_0) := bc BK158
      have hcz7_1 : w4.cell? ⟨gb158, 1, none⟩ = some (.slice A1_1 l1_1.length c1_1) := bc BK158
      have hfz7_0 := blk_frozen BK158.out 0
      have hfz7_1 := blk_frozen BK158.out 1
      go_wp2_with (first | (go_at_call 126; (with_reducible refine (spec_l01In.calls a1_0 2 6 true _ A5.out).mono ?_); rintro e w' ⟨rfl, ⟨nd, rfl⟩⟩; (try first | exact ⟨rfl, _, World.drewN_drewN _ _ _⟩ | exact ⟨rfl, _, Eq.trans (World.drewN_drewN _ _ _) (congrArg (World.drewN _) (Nat.add_assoc _ _ _))⟩)))
      repeat (go_quiet (first | (go_at_call 126; (with_reducible refine (spec_l01In.calls a1_0 2 6 true _ A5.out).mono ?_); rintro e w' ⟨rfl, ⟨nd, rfl⟩⟩; (try first | exact ⟨rfl, _, World.drewN_drewN _ _ _⟩ | exact ⟨rfl, _, Eq.trans (World.drewN_drewN _ _ _) (congrArg (World.drewN _) (Nat.add_assoc _ _ _))⟩))); try go_wp2_with (first | (go_at_call 126; (with_reducible refine (spec_l01In.calls a1_0 2 6 true _ A5.out).mono ?_); rintro e w' ⟨rfl, ⟨nd, rfl⟩⟩; (try first | exact ⟨rfl, _, World.drewN_drewN _ _ _⟩ | exact ⟨rfl, _, Eq.trans (World.drewN_drewN _ _ _) (congrArg (World.drewN _) (Nat.add_assoc _ _ _))⟩))))
      go_meet
      case rel => exact ⟨_, (((l1_1.length : Int) != (l0.length : Int))), Fs, H', ⟨by first | omega | exact Nat.le_refl _⟩, ⟨B1 BK158⟩, ⟨Hb⟩⟩
    · replace c6 := Bool.eq_false_iff.mpr c6
      subst c6
      rw [if_neg (show ¬ (false = true) by decide)] at H
      have H' := Aside0.mk H
      clear H
      have hcz8_0 : w4.cell? ⟨gb158, 0, none⟩ = some (.int .i64 a1_0) := bc BK158
      have hcz8_1 : w4.cell? ⟨gb158, 1, none⟩ = some (.slice A1_1 l1_1.length c1_1) := bc BK158
      have hfz8_0 := blk_frozen BK158.out 0
      have hfz8_1 := blk_frozen BK158.out 1
      go_wp2_with (first | (go_at_call 126; (with_reducible refine (spec_l01In.calls a1_0 2 6 false _ A5.out).mono ?_); rintro e w' ⟨rfl, ⟨nd, rfl⟩⟩; (try first | exact ⟨rfl, _, World.drewN_drewN _ _ _⟩ | exact ⟨rfl, _, Eq.trans (World.drewN_drewN _ _ _) (congrArg (World.drewN _) (Nat.add_assoc _ _ _))⟩)))
      repeat (go_quiet (first | (go_at_call 126; (with_reducible refine (spec_l01In.calls a1_0 2 6 false _ A5.out).mono ?_); rintro e w' ⟨rfl, ⟨nd, rfl⟩⟩; (try first | exact ⟨rfl, _, World.drewN_drewN _ _ _⟩ | exact ⟨rfl, _, Eq.trans (World.drewN_drewN _ _ _) (congrArg (World.drewN _) (Nat.add_assoc _ _ _))⟩))); try go_wp2_with (first | (go_at_call 126; (with_reducible refine (spec_l01In.calls a1_0 2 6 false _ A5.out).mono ?_); rintro e w' ⟨rfl, ⟨nd, rfl⟩⟩; (try first | exact ⟨rfl, _, World.drewN_drewN _ _ _⟩ | exact ⟨rfl, _, Eq.trans (World.drewN_drewN _ _ _) (congrArg (World.drewN _) (Nat.add_assoc _ _ _))⟩))))
      go_meet
      case rel => exact ⟨_, (true), Fs, H', ⟨by first | omega | exact Nat.le_refl _⟩, ⟨B1 BK158⟩, ⟨Hb⟩⟩
  case rest =>
    clear HC3
    try clear c1
    try clear p2
    try clear c6
    try clear c7
    try clear hcz7_0
    try clear hcz7_1
    try clear hcz8_0
    try clear hcz8_1
    try clear hfz7_0
    try clear hfz7_1
    try clear hfz8_0
    try clear hfz8_1
    obtain ⟨kq, x17_2, rfl, HA, HJ2, BK158, HB⟩ := hcut
    cases kq with
    | zero => exact absurd HA.out (by simp [spec_l19Is.j0])
    | succ kj2 =>
      have H := HA.out
      clear HA
      simp only [spec_l19Is.j0] at H
      by_cases c9 : x17_2 = true
      · subst c9
        rw [if_pos rfl] at H
        obtain rfl := Option.some.inj H
        go_wp2
        repeat (go_quiet (fail); try go_wp2)
        go_ret
        exact ⟨Fin, Hb⟩
      · replace c9 := Bool.eq_false_iff.mpr c9
        subst c9
        rw [if_neg (show ¬ (false = true) by decide)] at H
        have H' := Aside0.mk H
        clear H
        go_wp2
        repeat (go_quiet (fail); try go_wp2)
        go_loopg [5] kj2 (fun kq v5 w' => ∃ (x5_2 : Int), v5 = .int .i64 x5_2 ∧ Aside0 (spec_l19Is.l0 kq x5_2 a1_0 l1_1 = some r) ∧ Aside0 (kq ≤ kj2) ∧ Aside0 (w'.heap[gb158]? = some (.cells #[.int .i64 a1_0, (.slice A1_1 l1_1.length c1_1)] 46 (0, 0))) ∧ Aside0 (Below w.heap.size w w'))
        case atStart => exact ⟨(0), Fs, H', ⟨Nat.le_refl _⟩, ⟨B1 BK158⟩, ⟨Hb⟩⟩
        case round =>
          clear H'
          try clear c1
          try clear p2
          try clear c6
          try clear c7
          try clear c9
          try clear hcz7_0
          try clear hcz7_1
          try clear hcz8_0
          try clear hcz8_1
          try clear hfz7_0
          try clear hfz7_1
          try clear hfz8_0
          try clear hfz8_1
          try clear p2
          obtain ⟨x5_2, rfl, HA, HK2, BK158, HB⟩ := hrel
          cases gk with
          | zero => exact absurd HA.out (by simp [spec_l19Is.l0])
          | succ k2 =>
            have H := HA.out
            clear HA
            simp only [spec_l19Is.l0] at H
            by_cases c10 : x5_2 < (l1_1.length : Int)
            · rw [if_pos c10] at H
              have c10b0 : decide (x5_2 < (l1_1.length : Int)) = true := decide_eq_true c10
              clear c10
              by_cases c11 : 0 ≤ x5_2
              · rw [if_pos c11] at H
                have c11b0 : decide (0 ≤ x5_2) = true := decide_eq_true c11
                clear c11
                obtain ⟨t161, A120, H⟩ := Option.bind_eq_some_iff.mp H
                have A12 := Aside0.mk A120
                clear A120
                by_cases c13 : t161 = true
                · subst c13
                  rw [if_pos rfl] at H
                  have H' := Aside0.mk H
                  clear H
                  have hcz14_0 : wr.cell? ⟨gb158, 0, none⟩ = some (.int .i64 a1_0) := bc BK158
                  have hcz14_1 : wr.cell? ⟨gb158, 1, none⟩ = some (.slice A1_1 l1_1.length c1_1) := bc BK158
                  have hfz14_0 := blk_frozen BK158.out 0
                  have hfz14_1 := blk_frozen BK158.out 1
                  have p160 : 0 ≤ (x5_2 : Int) := oD
                  have q160 : x5_2 < (l1_1.length : Int) := oD
                  obtain ⟨ad160, e160, hx160_0⟩ := Kd.at_int HR1_1.out x5_2 p160 q160
                  cases e160
                  replace hx160_0 := hxb hx160_0
                  replace p160 := eq_true p160
                  replace q160 := eq_true q160
                  go_wp2_with (first | (go_at_call 126; (with_reducible refine (spec_l01In.calls (rd l1_1 x5_2) 0 (wrap64 (a1_0 - 1)) true _ A12.out).mono ?_); rintro e w' ⟨rfl, ⟨nd, rfl⟩⟩; (try first | exact ⟨rfl, _, World.drewN_drewN _ _ _⟩ | exact ⟨rfl, _, Eq.trans (World.drewN_drewN _ _ _) (congrArg (World.drewN _) (Nat.add_assoc _ _ _))⟩)))
                  repeat (go_quiet (first | (go_at_call 126; (with_reducible refine (spec_l01In.calls (rd l1_1 x5_2) 0 (wrap64 (a1_0 - 1)) true _ A12.out).mono ?_); rintro e w' ⟨rfl, ⟨nd, rfl⟩⟩; (try first | exact ⟨rfl, _, World.drewN_drewN _ _ _⟩ | exact ⟨rfl, _, Eq.trans (World.drewN_drewN _ _ _) (congrArg (World.drewN _) (Nat.add_assoc _ _ _))⟩))); try go_wp2_with (first | (go_at_call 126; (with_reducible refine (spec_l01In.calls (rd l1_1 x5_2) 0 (wrap64 (a1_0 - 1)) true _ A12.out).mono ?_); rintro e w' ⟨rfl, ⟨nd, rfl⟩⟩; (try first | exact ⟨rfl, _, World.drewN_drewN _ _ _⟩ | exact ⟨rfl, _, Eq.trans (World.drewN_drewN _ _ _) (congrArg (World.drewN _) (Nat.add_assoc _ _ _))⟩))))
                  go_roundg k2
                  case measure => have := HJ2.out; have := HK2.out; omega
                  case rel => exact ⟨(wrap64 (x5_2 + 1)), Fs, H', ⟨by have := HJ2.out; have := HK2.out; omega⟩, ⟨B1 BK158⟩, ⟨Hb⟩⟩
                · replace c13 := Bool.eq_false_iff.mpr c13
                  subst c13
                  rw [if_neg (show ¬ (false = true) by decide)] at H
                  obtain rfl := Option.some.inj H
                  have hcz15_0 : wr.cell? ⟨gb158, 0, none⟩ = some (.int .i64 a1_0) := bc BK158
                  have hcz15_1 : wr.cell? ⟨gb158, 1, none⟩ = some (.slice A1_1 l1_1.length c1_1) := bc BK158
                  have hfz15_0 := blk_frozen BK158.out 0
                  have hfz15_1 := blk_frozen BK158.out 1
                  have p160 : 0 ≤ (x5_2 : Int) := oD
                  have q160 : x5_2 < (l1_1.length : Int) := oD
                  obtain ⟨ad160, e160, hx160_0⟩ := Kd.at_int HR1_1.out x5_2 p160 q160
                  cases e160
                  replace hx160_0 := hxb hx160_0
                  replace p160 := eq_true p160
                  replace q160 := eq_true q160
                  go_wp2_with (first | (go_at_call 126; (with_reducible refine (spec_l01In.calls (rd l1_1 x5_2) 0 (wrap64 (a1_0 - 1)) false _ A12.out).mono ?_); rintro e w' ⟨rfl, ⟨nd, rfl⟩⟩; (try first | exact ⟨rfl, _, World.drewN_drewN _ _ _⟩ | exact ⟨rfl, _, Eq.trans (World.drewN_drewN _ _ _) (congrArg (World.drewN _) (Nat.add_assoc _ _ _))⟩)))
                  repeat (go_quiet (first | (go_at_call 126; (with_reducible refine (spec_l01In.calls (rd l1_1 x5_2) 0 (wrap64 (a1_0 - 1)) false _ A12.out).mono ?_); rintro e w' ⟨rfl, ⟨nd, rfl⟩⟩; (try first | exact ⟨rfl, _, World.drewN_drewN _ _ _⟩ | exact ⟨rfl, _, Eq.trans (World.drewN_drewN _ _ _) (congrArg (World.drewN _) (Nat.add_assoc _ _ _))⟩))); try go_wp2_with (first | (go_at_call 126; (with_reducible refine (spec_l01In.calls (rd l1_1 x5_2) 0 (wrap64 (a1_0 - 1)) false _ A12.out).mono ?_); rintro e w' ⟨rfl, ⟨nd, rfl⟩⟩; (try first | exact ⟨rfl, _, World.drewN_drewN _ _ _⟩ | exact ⟨rfl, _, Eq.trans (World.drewN_drewN _ _ _) (congrArg (World.drewN _) (Nat.add_assoc _ _ _))⟩))))
                  go_ret
                  exact ⟨Fin, Hb⟩
              · rw [if_neg c11] at H
                exact absurd H (by simp)
            · rw [if_neg c10] at H
              have c10b0 : decide (x5_2 < (l1_1.length : Int)) = false := decide_eq_false c10
              clear c10
              obtain rfl := Option.some.inj H
              have hcz16_0 : wr.cell? ⟨gb158, 0, none⟩ = some (.int .i64 a1_0) := bc BK158
              have hcz16_1 : wr.cell? ⟨gb158, 1, none⟩ = some (.slice A1_1 l1_1.length c1_1) := bc BK158
              have hfz16_0 := blk_frozen BK158.out 0
              have hfz16_1 := blk_frozen BK158.out 1
              go_wp2
              repeat (go_quiet (fail); try go_wp2)
              go_ret
              exact ⟨Fin, Hb⟩

/-! ### spec_AddWeightings: function 39 -/
mutual
def spec_AddWeightings.j0 : Nat → List (S103) → Bool → Int → List Int → Int → List Int → Option (Int × List Int × Int)
  | 0, _, _, _, _, _, _ => none
  | k + 1, x0, x30, x163000, x163001, x164000, x164001 => if x30 = true then (some (0, ([] : List Int), 2)) else (spec_AddWeightings.l0 k x0 (([] : List Int)) 0 x163000 x163001 x164000 x164001)
def spec_AddWeightings.l0 : Nat → List (S103) → List Int → Int → Int → List Int → Int → List Int → Option (Int × List Int × Int)
  | 0, _, _, _, _, _, _, _ => none
  | k + 1, x0, x8, x9, x163000, x163001, x164000, x164001 => if x9 < (x0.length : Int) then (if 0 ≤ x9 then (if x9 < (x163001.length : Int) then (if x9 < (x164001.length : Int) then (if x164000 = 0 then (none) else (if x8.length < 17592186044416 then (spec_AddWeightings.l0 k x0 (x8 ++ [Int.tmod (wrap64 ((rd x163001 x9) + (rd x164001 x9))) x164000]) (wrap64 (x9 + 1)) x163000 x163001 x164000 x164001) else (none))) else (none)) else (none)) else (none)) else (some (x164000, x8, 0))
end
def spec_AddWeightings.f (k : Nat) (l0 : List (S103)) (a1_0 : Int) (l1_1 : List Int) (a2_0 : Int) (l2_1 : List Int) : Option (Int × List Int × Int) := (spec_IsRegion.f k l0).bind fun t165 => (if t165 = true then ((spec_l19Is.f k l0 a1_0 l1_1).bind fun t166 => (if t166 = true then ((spec_l19Is.f k l0 a2_0 l2_1).bind fun t167 => (if t167 = true then (spec_AddWeightings.j0 k l0 (a1_0 != a2_0) a1_0 l1_1 a2_0 l2_1) else (spec_AddWeightings.j0 k l0 true a1_0 l1_1 a2_0 l2_1))) else (spec_AddWeightings.j0 k l0 true a1_0 l1_1 a2_0 l2_1))) else (some (0, ([] : List Int), 1)))
theorem spec_AddWeightings.mono_l : ∀ k, (∀ y0 y1 y2 y3 y4 y5, LeO (spec_AddWeightings.j0 k y0 y1 y2 y3 y4 y5) (spec_AddWeightings.j0 (k + 1) y0 y1 y2 y3 y4 y5)) ∧ (∀ y0 y1 y2 y3 y4 y5 y6, LeO (spec_AddWeightings.l0 k y0 y1 y2 y3 y4 y5 y6) (spec_AddWeightings.l0 (k + 1) y0 y1 y2 y3 y4 y5 y6))
  | 0 => ⟨fun _ _ _ _ _ _ r h => by simp [spec_AddWeightings.j0] at h, fun _ _ _ _ _ _ _ r h => by simp [spec_AddWeightings.l0] at h⟩
  | k + 1 => by
    obtain ⟨ih0, ih1⟩ := spec_AddWeightings.mono_l k
    refine ⟨?_, ?_⟩
    · intro y0 y1 y2 y3 y4 y5
      unfold spec_AddWeightings.j0
      repeat' first
      | (with_reducible exact ih0 _ _ _ _ _ _)
      | (with_reducible exact ih1 _ _ _ _ _ _ _)
      | (with_reducible exact spec_IsRegion.mono _ _)
      | (with_reducible exact spec_l19Is.mono _ _ _ _)
      | (with_reducible exact LeO.refl _)
      | (with_reducible exact LeO.none _)
      | (with_reducible refine LeO.ite ?_ ?_)
      | (with_reducible refine LeO.bind ?_ (fun _ => ?_))
      | exact ih0 _ _ _ _ _ _
      | exact ih1 _ _ _ _ _ _ _
      | exact spec_IsRegion.mono _ _
      | exact spec_l19Is.mono _ _ _ _
      | exact LeO.none _
      | refine LeO.ite ?_ ?_
      | refine LeO.bind ?_ (fun _ => ?_)
    · intro y0 y1 y2 y3 y4 y5 y6
      unfold spec_AddWeightings.l0
      repeat' first
      | (with_reducible exact ih0 _ _ _ _ _ _)
      | (with_reducible exact ih1 _ _ _ _ _ _ _)
      | (with_reducible exact spec_IsRegion.mono _ _)
      | (with_reducible exact spec_l19Is.mono _ _ _ _)
      | (with_reducible exact LeO.refl _)
      | (with_reducible exact LeO.none _)
      | (with_reducible refine LeO.ite ?_ ?_)
      | (with_reducible refine LeO.bind ?_ (fun _ => ?_))
      | exact ih0 _ _ _ _ _ _
      | exact ih1 _ _ _ _ _ _ _
      | exact spec_IsRegion.mono _ _
      | exact spec_l19Is.mono _ _ _ _
      | exact LeO.none _
      | refine LeO.ite ?_ ?_
      | refine LeO.bind ?_ (fun _ => ?_)
theorem spec_AddWeightings.mono : ∀ a0 a1 a2 a3 a4 k, LeO (spec_AddWeightings.f k a0 a1 a2 a3 a4) (spec_AddWeightings.f (k + 1) a0 a1 a2 a3 a4) := by
  intro a0 a1 a2 a3 a4 k
  obtain ⟨ih0, ih1⟩ := spec_AddWeightings.mono_l k
  unfold spec_AddWeightings.f
  repeat' first
      | (with_reducible exact ih0 _ _ _ _ _ _)
      | (with_reducible exact ih1 _ _ _ _ _ _ _)
      | (with_reducible exact spec_IsRegion.mono _ _)
      | (with_reducible exact spec_l19Is.mono _ _ _ _)
      | (with_reducible exact LeO.refl _)
      | (with_reducible exact LeO.none _)
      | (with_reducible refine LeO.ite ?_ ?_)
      | (with_reducible refine LeO.bind ?_ (fun _ => ?_))
      | exact ih0 _ _ _ _ _ _
      | exact ih1 _ _ _ _ _ _ _
      | exact spec_IsRegion.mono _ _
      | exact spec_l19Is.mono _ _ _ _
      | exact LeO.none _
      | refine LeO.ite ?_ ?_
      | refine LeO.bind ?_ (fun _ => ?_)
def spec_AddWeightings.T9 : Bool × List (List Nat × List Nat) := (true, [([], []), ([], []), ([1], [1]), ([], []), ([2, 3], [2, 3]), ([4], [4]), ([], []), ([6], [6]), ([], []), ([7, 8], [7, 8]), ([9], [9]), ([5, 10], [5, 10]), ([], []), ([12], [12]), ([11, 13], [11, 13]), ([14], [14]), ([0, 15], [0, 15]), ([16, 16, 0, 1, 2, 3, 4, 5, 6, 7, 8, 9, 10, 11, 12, 13, 14, 15, 16], [0, 16])])
def spec_AddWeightings.B9 : List Nat := [0, 0, 2, 0, 14, 30, 0, 64, 0, 448, 960, 2046, 0, 4096, 16382, 32766, 65535, 131071]
theorem spec_AddWeightings.tab9 : rtab .any (opsOf Try.f39 9) = spec_AddWeightings.T9 := by kernel_rfl
theorem spec_AddWeightings.bits9 : waitsOk spec_AddWeightings.T9.2 spec_AddWeightings.B9 = true := by kernel_rfl
set_option maxHeartbeats 8000000 in
set_option maxRecDepth 100000 in
theorem spec_AddWeightings.calls (k : Nat) (A0 : Option Addr) (c0 : Nat) (l0 : List (S103)) (a1_0 : Int) (A1_1 : Option Addr) (c1_1 : Nat) (l1_1 : List Int) (a2_0 : Int) (A2_1 : Option Addr) (c2_1 : Nat) (l2_1 : List Int) (r1 : Int) (r2 : List Int) (r3 : Int) (w : World) (hr0 : Kd.C k103 w A0 l0.length l0) (hc0 : l0.length ≤ c0) (hr1_1 : Kd.C (Kd.int .i64) w A1_1 l1_1.length l1_1) (hc1_1 : l1_1.length ≤ c1_1) (hr2_1 : Kd.C (Kd.int .i64) w A2_1 l2_1.length l2_1) (hc2_1 : l2_1.length ≤ c2_1) (h : spec_AddWeightings.f k l0 a1_0 l1_1 a2_0 l2_1 = some (r1, r2, r3)) :
    Calls Try.prog 39 #[.slice A0 l0.length c0, .agg #[.int .i64 a1_0, .slice A1_1 l1_1.length c1_1], .agg #[.int .i64 a2_0, .slice A2_1 l2_1.length c2_1]] w fun e w' => ∃ v1_ : Value, e = .returned (.tuple #[.agg #[.int .i64 r1, v1_], .int .i64 r3]) ∧ Kd.R (Kd.int .i64) 2 w' w.heap.size (fun _ => True) v1_ r2 ∧ Below w.heap.size w w' := by
  have hu46 := Try.underlying46
  have HR0 := Aside0.mk hr0
  have HC0 := Aside0.mk hc0
  clear hr0 hc0
  have HR1_1 := Aside0.mk hr1_1
  have HC1_1 := Aside0.mk hc1_1
  clear hr1_1 hc1_1
  have HR2_1 := Aside0.mk hr2_1
  have HC2_1 := Aside0.mk hc2_1
  clear hr2_1 hc2_1
  have HB := Aside0.mk (Below.refl w.heap.size w)
  have H : ((spec_IsRegion.f k l0).bind fun t165 => (if t165 = true then ((spec_l19Is.f k l0 a1_0 l1_1).bind fun t166 => (if t166 = true then ((spec_l19Is.f k l0 a2_0 l2_1).bind fun t167 => (if t167 = true then (spec_AddWeightings.j0 k l0 (a1_0 != a2_0) a1_0 l1_1 a2_0 l2_1) else (spec_AddWeightings.j0 k l0 true a1_0 l1_1 a2_0 l2_1))) else (spec_AddWeightings.j0 k l0 true a1_0 l1_1 a2_0 l2_1))) else (some (0, ([] : List Int), 1)))) = some (r1, r2, r3) := h
  clear h
  obtain ⟨t165, A40, H⟩ := Option.bind_eq_some_iff.mp H
  have A4 := Aside0.mk A40
  clear A40
  by_cases c5 : t165 = true
  · subst c5
    rw [if_pos rfl] at H
    have HC6 := Aside0.mk H
    clear H
    go_enter Try.func39, Try.ntmps39
    go_upto_region 3 with (first | ((with_reducible refine gD 4 ?_); refine BX #[.int .i64 a1_0, .slice A1_1 l1_1.length c1_1] 46 ?_; intro gb162 hg w7 hbox hb; have BK162 := Aside0.mk (hbox); have GW162 := Aside0.mk ((Gle hg Hb : w.heap.size ≤ gb162)); have GE162 := Aside0.mk ((Gle hg Hb : w.heap.size ≤ gb162)); replace HB := Aside0.mk (below_step Hb hb); clear hb hbox hg) | ((with_reducible refine gD 5 ?_); refine BX #[.int .i64 a2_0, .slice A2_1 l2_1.length c2_1] 46 ?_; intro gb163 hg w8 hbox hb; have BK163 := Aside0.mk (hbox); have GW163 := Aside0.mk ((Gle hg Hb : w.heap.size ≤ gb163)); have GE163 := Aside0.mk ((Gle hg Hb : w.heap.size ≤ gb163)); replace HB := Aside0.mk (below_step Hb hb); have NB162_163 := Aside0.mk ((by rw [hg]; exact Nat.ne_of_lt (blk_lt (B1 BK162)) : gb162 ≠ gb163)); have NB163_162 := Aside0.mk ((by rw [hg]; exact Nat.ne_of_gt (blk_lt (B1 BK162)) : gb163 ≠ gb162)); replace BK162 := Aside0.mk (blk_below (B1 BK162) hb); clear hb hbox hg) | ((with_reducible refine gD 6 ?_); refine BX #[.int .i64 0, .slice none 0 0] 46 ?_; intro gb164 hg w9 hbox hb; have BK164 := Aside0.mk (hbox); have GW164 := Aside0.mk ((Gle hg Hb : w.heap.size ≤ gb164)); have GE164 := Aside0.mk ((Gle hg Hb : w.heap.size ≤ gb164)); replace HB := Aside0.mk (below_step Hb hb); have NB162_164 := Aside0.mk ((by rw [hg]; exact Nat.ne_of_lt (blk_lt (B1 BK162)) : gb162 ≠ gb164)); have NB164_162 := Aside0.mk ((by rw [hg]; exact Nat.ne_of_gt (blk_lt (B1 BK162)) : gb164 ≠ gb162)); replace BK162 := Aside0.mk (blk_below (B1 BK162) hb); have NB163_164 := Aside0.mk ((by rw [hg]; exact Nat.ne_of_lt (blk_lt (B1 BK163)) : gb163 ≠ gb164)); have NB164_163 := Aside0.mk ((by rw [hg]; exact Nat.ne_of_gt (blk_lt (B1 BK163)) : gb164 ≠ gb163)); replace BK163 := Aside0.mk (blk_below (B1 BK163) hb); clear hb hbox hg) | ((with_reducible refine gC 75 ?_); refine GL (some 11) Try.func75 #[.slice A0 l0.length c0] ?_; (with_reducible refine (spec_IsRegion.calls k _ _ l0 true _ ?side1 ?side2 A4.out).mono ?_); (case side1 => exact Kd.C_below HR0.out Hb); (case side2 => exact HC0.out); rintro e w10 ⟨rfl, hb⟩; refine ⟨_, rfl, ?_⟩; replace BK162 := Aside0.mk (blk_below (B1 BK162) hb); replace BK163 := Aside0.mk (blk_below (B1 BK163) hb); replace BK164 := Aside0.mk (blk_below (B1 BK164) hb); replace HB := Aside0.mk (below_step Hb hb); (try clear hb); (try clear hb2); (try clear hk); (try clear hi)))
    (try simp only [Act.put, List.setIfInBounds_toArray, List.set_cons_zero, List.set_cons_succ])
    go_cut [30] (fun v30 wc => ∃ (kq : Nat) (x30_5 : Bool), v30 = .bool x30_5 ∧ Aside0 (spec_AddWeightings.j0 kq l0 x30_5 a1_0 l1_1 a2_0 l2_1 = some (r1, r2, r3)) ∧ Aside0 (kq ≤ k) ∧ Aside0 (wc.heap[gb162]? = some (.cells #[.int .i64 a1_0, (.slice A1_1 l1_1.length c1_1)] 46 (0, 0))) ∧ Aside0 (wc.heap[gb163]? = some (.cells #[.int .i64 a2_0, (.slice A2_1 l2_1.length c2_1)] 46 (0, 0))) ∧ Aside0 (wc.heap[gb164]? = some (.cells #[.int .i64 0, (.slice none 0 0)] 46 (0, 0))) ∧ Aside0 (Below w.heap.size w wc))
    case first =>
      have H := HC6.out
      clear HC6
      obtain ⟨t166, A110, H⟩ := Option.bind_eq_some_iff.mp H
      have A11 := Aside0.mk A110
      clear A110
      by_cases c12 : t166 = true
      · subst c12
        rw [if_pos rfl] at H
        obtain ⟨t167, A130, H⟩ := Option.bind_eq_some_iff.mp H
        have A13 := Aside0.mk A130
        clear A130
        by_cases c14 : t167 = true
        · subst c14
          rw [if_pos rfl] at H
          have H' := Aside0.mk H
          clear H
          have hnb15 := NB162_163.out
          have hnc15 := NB163_162.out
          have hnb16 := NB162_164.out
          have hnc16 := NB164_162.out
          have hcz17_0 : w10.cell? ⟨gb162, 0, none⟩ = some (.int .i64 a1_0) := bc BK162
          have hcz17_1 : w10.cell? ⟨gb162, 1, none⟩ = some (.slice A1_1 l1_1.length c1_1) := bc BK162
          have hfz17_0 := blk_frozen BK162.out 0
          have hfz17_1 := blk_frozen BK162.out 1
          go_wp2_with (first | ((with_reducible refine gC 76 ?_); refine GL (some 16) Try.func76 #[.slice A0 l0.length c0, .agg #[.int .i64 a1_0, .slice A1_1 l1_1.length c1_1]] ?_; (with_reducible refine (spec_l19Is.calls k _ _ l0 a1_0 _ _ l1_1 true _ ?side1 ?side2 ?side3 ?side4 A11.out).mono ?_); (case side1 => exact Kd.C_below HR0.out Hb); (case side2 => exact HC0.out); (case side3 => exact Kd.C_below HR1_1.out Hb); (case side4 => exact HC1_1.out); rintro e w18 ⟨rfl, hb⟩; refine ⟨_, rfl, ?_⟩; replace BK162 := Aside0.mk (blk_below (B1 BK162) hb); replace BK163 := Aside0.mk (blk_below (B1 BK163) hb); replace BK164 := Aside0.mk (blk_below (B1 BK164) hb); replace HB := Aside0.mk (below_step Hb hb); (try clear hb); (try clear hb2); (try clear hk); (try clear hi); have hnb19 := NB163_164.out; have hnc19 := NB164_163.out; have hcz20_0 : w18.cell? ⟨gb163, 0, none⟩ = some (.int .i64 a2_0) := bc BK163; have hcz20_1 : w18.cell? ⟨gb163, 1, none⟩ = some (.slice A2_1 l2_1.length c2_1) := bc BK163; have hfz20_0 := blk_frozen BK163.out 0; have hfz20_1 := blk_frozen BK163.out 1) | (go_at_call 76; (with_reducible refine (spec_l19Is.calls k _ _ l0 a2_0 _ _ l2_1 true _ ?side1 ?side2 ?side3 ?side4 A13.out).mono ?_); (case side1 => exact Kd.C_below HR0.out Hb); (case side2 => exact HC0.out); (case side3 => exact Kd.C_below HR2_1.out Hb); (case side4 => exact HC2_1.out); rintro e w21 ⟨rfl, hb⟩; replace BK162 := Aside0.mk (blk_below (B1 BK162) hb); replace BK163 := Aside0.mk (blk_below (B1 BK163) hb); replace BK164 := Aside0.mk (blk_below (B1 BK164) hb); replace HB := Aside0.mk (below_step Hb hb); (try clear hb); (try clear hb2); (try clear hk); (try clear hi); have hcz22_0 : w21.cell? ⟨gb162, 0, none⟩ = some (.int .i64 a1_0) := bc BK162; have hcz22_1 : w21.cell? ⟨gb162, 1, none⟩ = some (.slice A1_1 l1_1.length c1_1) := bc BK162; have hfz22_0 := blk_frozen BK162.out 0; have hfz22_1 := blk_frozen BK162.out 1; have hcz23_0 : w21.cell? ⟨gb163, 0, none⟩ = some (.int .i64 a2_0) := bc BK163; have hcz23_1 : w21.cell? ⟨gb163, 1, none⟩ = some (.slice A2_1 l2_1.length c2_1) := bc BK163; have hfz23_0 := blk_frozen BK163.out 0; have hfz23_1 := blk_frozen BK163.out 1))
          go_meet
          case rel => exact ⟨_, ((a1_0 != a2_0)), Fs, H', ⟨by first | omega | exact Nat.le_refl _⟩, ⟨B1 BK162⟩, ⟨B1 BK163⟩, ⟨B1 BK164⟩, ⟨Hb⟩⟩
        · replace c14 := Bool.eq_false_iff.mpr c14
          subst c14
          rw [if_neg (show ¬ (false = true) by decide)] at H
          have H' := Aside0.mk H
          clear H
          have hnb24 := NB162_163.out
          have hnc24 := NB163_162.out
          have hnb25 := NB162_164.out
          have hnc25 := NB164_162.out
          have hcz26_0 : w10.cell? ⟨gb162, 0, none⟩ = some (.int .i64 a1_0) := bc BK162
          have hcz26_1 : w10.cell? ⟨gb162, 1, none⟩ = some (.slice A1_1 l1_1.length c1_1) := bc BK162
          have hfz26_0 := blk_frozen BK162.out 0
          have hfz26_1 := blk_frozen BK162.out 1
          go_wp2_with (first | ((with_reducible refine gC 76 ?_); refine GL (some 16) Try.func76 #[.slice A0 l0.length c0, .agg #[.int .i64 a1_0, .slice A1_1 l1_1.length c1_1]] ?_; (with_reducible refine (spec_l19Is.calls k _ _ l0 a1_0 _ _ l1_1 true _ ?side1 ?side2 ?side3 ?side4 A11.out).mono ?_); (case side1 => exact Kd.C_below HR0.out Hb); (case side2 => exact HC0.out); (case side3 => exact Kd.C_below HR1_1.out Hb); (case side4 => exact HC1_1.out); rintro e w27 ⟨rfl, hb⟩; refine ⟨_, rfl, ?_⟩; replace BK162 := Aside0.mk (blk_below (B1 BK162) hb); replace BK163 := Aside0.mk (blk_below (B1 BK163) hb); replace BK164 := Aside0.mk (blk_below (B1 BK164) hb); replace HB := Aside0.mk (below_step Hb hb); (try clear hb); (try clear hb2); (try clear hk); (try clear hi); have hnb28 := NB163_164.out; have hnc28 := NB164_163.out; have hcz29_0 : w27.cell? ⟨gb163, 0, none⟩ = some (.int .i64 a2_0) := bc BK163; have hcz29_1 : w27.cell? ⟨gb163, 1, none⟩ = some (.slice A2_1 l2_1.length c2_1) := bc BK163; have hfz29_0 := blk_frozen BK163.out 0; have hfz29_1 := blk_frozen BK163.out 1) | (go_at_call 76; (with_reducible refine (spec_l19Is.calls k _ _ l0 a2_0 _ _ l2_1 false _ ?side1 ?side2 ?side3 ?side4 A13.out).mono ?_); (case side1 => exact Kd.C_below HR0.out Hb); (case side2 => exact HC0.out); (case side3 => exact Kd.C_below HR2_1.out Hb); (case side4 => exact HC2_1.out); rintro e w30 ⟨rfl, hb⟩; replace BK162 := Aside0.mk (blk_below (B1 BK162) hb); replace BK163 := Aside0.mk (blk_below (B1 BK163) hb); replace BK164 := Aside0.mk (blk_below (B1 BK164) hb); replace HB := Aside0.mk (below_step Hb hb); (try clear hb); (try clear hb2); (try clear hk); (try clear hi)))
          go_meet
          case rel => exact ⟨_, (true), Fs, H', ⟨by first | omega | exact Nat.le_refl _⟩, ⟨B1 BK162⟩, ⟨B1 BK163⟩, ⟨B1 BK164⟩, ⟨Hb⟩⟩
      · replace c12 := Bool.eq_false_iff.mpr c12
        subst c12
        rw [if_neg (show ¬ (false = true) by decide)] at H
        have H' := Aside0.mk H
        clear H
        have hnb31 := NB162_163.out
        have hnc31 := NB163_162.out
        have hnb32 := NB162_164.out
        have hnc32 := NB164_162.out
        have hcz33_0 : w10.cell? ⟨gb162, 0, none⟩ = some (.int .i64 a1_0) := bc BK162
        have hcz33_1 : w10.cell? ⟨gb162, 1, none⟩ = some (.slice A1_1 l1_1.length c1_1) := bc BK162
        have hfz33_0 := blk_frozen BK162.out 0
        have hfz33_1 := blk_frozen BK162.out 1
        go_wp2_with (first | ((with_reducible refine gC 76 ?_); refine GL (some 16) Try.func76 #[.slice A0 l0.length c0, .agg #[.int .i64 a1_0, .slice A1_1 l1_1.length c1_1]] ?_; (with_reducible refine (spec_l19Is.calls k _ _ l0 a1_0 _ _ l1_1 false _ ?side1 ?side2 ?side3 ?side4 A11.out).mono ?_); (case side1 => exact Kd.C_below HR0.out Hb); (case side2 => exact HC0.out); (case side3 => exact Kd.C_below HR1_1.out Hb); (case side4 => exact HC1_1.out); rintro e w34 ⟨rfl, hb⟩; refine ⟨_, rfl, ?_⟩; replace BK162 := Aside0.mk (blk_below (B1 BK162) hb); replace BK163 := Aside0.mk (blk_below (B1 BK163) hb); replace BK164 := Aside0.mk (blk_below (B1 BK164) hb); replace HB := Aside0.mk (below_step Hb hb); (try clear hb); (try clear hb2); (try clear hk); (try clear hi)))
        go_meet
        case rel => exact ⟨_, (true), Fs, H', ⟨by first | omega | exact Nat.le_refl _⟩, ⟨B1 BK162⟩, ⟨B1 BK163⟩, ⟨B1 BK164⟩, ⟨Hb⟩⟩
    case rest =>
      clear HC6
      try clear c1
      try clear c2
      try clear p2
      try clear c3
      try clear c5
      try clear c7
      try clear c12
      try clear c14
      try clear c15
      try clear c16
      try clear c19
      try clear c24
      try clear c25
      try clear c28
      try clear c31
      try clear c32
      try clear hcz17_0
      try clear hcz17_1
      try clear hcz20_0
      try clear hcz20_1
      try clear hcz22_0
      try clear hcz22_1
      try clear hcz23_0
      try clear hcz23_1
      try clear hcz26_0
      try clear hcz26_1
      try clear hcz29_0
      try clear hcz29_1
      try clear hcz33_0
      try clear hcz33_1
      try clear hfz17_0
      try clear hfz17_1
      try clear hfz20_0
      try clear hfz20_1
      try clear hfz22_0
      try clear hfz22_1
      try clear hfz23_0
      try clear hfz23_1
      try clear hfz26_0
      try clear hfz26_1
      try clear hfz29_0
      try clear hfz29_1
      try clear hfz33_0
      try clear hfz33_1
      obtain ⟨kq, x30_5, rfl, HA, HJ5, BK162, BK163, BK164, HB⟩ := hcut
      cases kq with
      | zero => exact absurd HA.out (by simp [spec_AddWeightings.j0])
      | succ kj5 =>
        have H := HA.out
        clear HA
        simp only [spec_AddWeightings.j0] at H
        by_cases c35 : x30_5 = true
        · subst c35
          rw [if_pos rfl] at H
          simp only [Option.some.injEq, Prod.mk.injEq] at H
          obtain ⟨rfl, rfl, rfl⟩ := H
          have hnb36 := NB164_162.out
          have hnc36 := NB162_164.out
          have hnb37 := NB164_163.out
          have hnc37 := NB163_164.out
          have hcz38_0 : wc.cell? ⟨gb164, 0, none⟩ = some (.int .i64 0) := bc BK164
          have hcz38_1 : wc.cell? ⟨gb164, 1, none⟩ = some (.slice none 0 0) := bc BK164
          have hfz38_0 := blk_frozen BK164.out 0
          have hfz38_1 := blk_frozen BK164.out 1
          go_wp2
          refine bodyPost_ret (results_ct rfl _ _ gb164 46 #[.int .i64 0, .slice none 0 0] (0, 0) _ rfl (by (with_reducible repeat (first | refine blk_drewN ?_ _ | refine blk_drew ?_ | refine blk_alloc ?_ _)); refine blk_put (cs := #[.int .i64 0, .slice none 0 0]) ?_ 1 _ rfl; (with_reducible repeat (first | refine blk_drewN ?_ _ | refine blk_drew ?_ | refine blk_alloc ?_ _)); refine blk_put (cs := #[.int .i64 0, .slice none 0 0]) ?_ 0 _ rfl; (with_reducible repeat (first | refine blk_drewN ?_ _ | refine blk_drew ?_ | refine blk_alloc ?_ _)); exact BK164.out) Try.underlying46 rfl (by kernel_rfl)) rfl ?_
          exact ⟨_, Fin, by first | exact Kd.R_nil _ _ _ _ _ | exact Kd.N_nil _ _ _ _ _ | exact Kd.V_nil _ _ _ _ _ | exact Kd.Q_nil _ _ _ _ _ | exact Kd.S_nil _ _ _ _ _, Hb⟩
        · replace c35 := Bool.eq_false_iff.mpr c35
          subst c35
          rw [if_neg (show ¬ (false = true) by decide)] at H
          obtain ⟨y168, hy168⟩ : ∃ y_ : List Int, y_ = (([] : List Int)) := ⟨_, rfl⟩
          replace H : (spec_AddWeightings.l0 kj5 l0 y168 0 a1_0 l1_1 a2_0 l2_1) = some (r1, r2, r3) := by first | (rw [hy168]; with_reducible exact H) | (have H2_ := (Option.bind_some _ _).symm.trans H; rw [hy168]; with_reducible exact H2_) | (have H2_ := (Option.bind_some _ _).symm.trans H; with_reducible exact H2_) | with_reducible exact H | (rw [hy168]; exact H) | exact H
          have Ny168 := Aside0.mk hy168
          clear hy168
          have H' := Aside0.mk H
          clear H
          go_wp2_with (first | ((with_reducible refine gD 32 ?_); refine Kd.R_lit (Kd.int .i64) _ 2 ?hg (N := 32) ?hd (xs := ([] : List Int)) (inner := []) (ok := fun _ => True) (okp := fun _ => True) ?hr ?hp (fun _ hk => hk) trivial (Below.refl _ _) (Nat.le_refl _) (by simp) ?_; (case hd => rfl); (case hg => rfl); (case hr => first | (go_simp; done) | (go_simp; rfl)); (case hp => exact (Reps.none _ _)); intro v169 w39 ho40 hb hg_ hnew_; clear hg_ hnew_; (first | rw [← Ny168.out] at ho40 | (simp only [Int.reduceToNat] at ho40; rw [← Ny168.out] at ho40)); have HO170 := Aside0.mk (Kd.R_lower ho40 (below_size Hb)); replace BK162 := Aside0.mk (blk_below (B1 BK162) hb); replace BK163 := Aside0.mk (blk_below (B1 BK163) hb); replace BK164 := Aside0.mk (blk_below (B1 BK164) hb); replace HB := Aside0.mk (below_step Hb hb); clear hb ho40))
          go_loopg [8, 9] kj5 (fun kq v8 v9 w' => ∃ (x8_2 : List Int) (x9_2 : Int), v9 = .int .i64 x9_2 ∧ Aside0 (spec_AddWeightings.l0 kq l0 x8_2 x9_2 a1_0 l1_1 a2_0 l2_1 = some (r1, r2, r3)) ∧ Aside0 (kq ≤ kj5) ∧ Aside0 (Kd.R (Kd.int .i64) 2 w' w.heap.size (fun _ => True) v8 x8_2) ∧ Aside0 (w'.heap[gb162]? = some (.cells #[.int .i64 a1_0, (.slice A1_1 l1_1.length c1_1)] 46 (0, 0))) ∧ Aside0 (w'.heap[gb163]? = some (.cells #[.int .i64 a2_0, (.slice A2_1 l2_1.length c2_1)] 46 (0, 0))) ∧ Aside0 (w'.heap[gb164]? = some (.cells #[.int .i64 0, (.slice none 0 0)] 46 (0, 0))) ∧ Aside0 (Below w.heap.size w w'))
          case atStart => exact ⟨(y168), (0), Fs, H', ⟨Nat.le_refl _⟩, ⟨by (with_reducible repeat (first | apply Kd.R_alloc | apply Kd.R_drewN | apply Kd.R_drew)); exact HO170.out⟩, ⟨B1 BK162⟩, ⟨B1 BK163⟩, ⟨B1 BK164⟩, ⟨Hb⟩⟩
          case round =>
            clear H'
            try clear c1
            try clear c2
            try clear p2
            try clear c3
            try clear c5
            try clear c7
            try clear c12
            try clear c14
            try clear c15
            try clear c16
            try clear c19
            try clear c24
            try clear c25
            try clear c28
            try clear c31
            try clear c32
            try clear c35
            try clear c36
            try clear c37
            try clear c39
            try clear hcz17_0
            try clear hcz17_1
            try clear hcz20_0
            try clear hcz20_1
            try clear hcz22_0
            try clear hcz22_1
            try clear hcz23_0
            try clear hcz23_1
            try clear hcz26_0
            try clear hcz26_1
            try clear hcz29_0
            try clear hcz29_1
            try clear hcz33_0
            try clear hcz33_1
            try clear hcz38_0
            try clear hcz38_1
            try clear hfz17_0
            try clear hfz17_1
            try clear hfz20_0
            try clear hfz20_1
            try clear hfz22_0
            try clear hfz22_1
            try clear hfz23_0
            try clear hfz23_1
            try clear hfz26_0
            try clear hfz26_1
            try clear hfz29_0
            try clear hfz29_1
            try clear hfz33_0
            try clear hfz33_1
            try clear hfz38_0
            try clear hfz38_1
            try clear p2
            obtain ⟨x8_2, x9_2, rfl, HA, HK2, HO_8, BK162, BK163, BK164, HB⟩ := hrel
            cases gk with
            | zero => exact absurd HA.out (by simp [spec_AddWeightings.l0])
            | succ k2 =>
              have H := HA.out
              clear HA
              simp only [spec_AddWeightings.l0] at H
              by_cases c41 : x9_2 < (l0.length : Int)
              · rw [if_pos c41] at H
                have c41b0 : decide (x9_2 < (l0.length : Int)) = true := decide_eq_true c41
                clear c41
                by_cases c42 : 0 ≤ x9_2
                · rw [if_pos c42] at H
                  have c42b0 : decide (0 ≤ x9_2) = true := decide_eq_true c42
                  clear c42
                  by_cases c43 : x9_2 < (l1_1.length : Int)
                  · rw [if_pos c43] at H
                    have c43b0 : decide (x9_2 < (l1_1.length : Int)) = true := decide_eq_true c43
                    clear c43
                    by_cases c44 : x9_2 < (l2_1.length : Int)
                    · rw [if_pos c44] at H
                      have c44b0 : decide (x9_2 < (l2_1.length : Int)) = true := decide_eq_true c44
                      clear c44
                      by_cases c45 : a2_0 = 0
                      · rw [if_pos c45] at H
                        exact absurd H (by simp)
                      · rw [if_neg c45] at H
                        have c45b0 : (a2_0 == 0) = false := beq_eq_false_iff_ne.mpr c45
                        have c45b1 : (a2_0 != 0) = true := bne_iff_ne.mpr c45
                        by_cases c46 : x8_2.length < 17592186044416
                        · rw [if_pos c46] at H
                          have LMc46 := Aside0.mk c46
                          clear c46
                          obtain ⟨y173, hy173⟩ : ∃ y_ : List Int, y_ = (x8_2 ++ [Int.tmod (wrap64 ((rd l1_1 x9_2) + (rd l2_1 x9_2))) a2_0]) := ⟨_, rfl⟩
                          replace H : (spec_AddWeightings.l0 k2 l0 y173 (wrap64 (x9_2 + 1)) a1_0 l1_1 a2_0 l2_1) = some (r1, r2, r3) := by first | (rw [hy173]; with_reducible exact H) | (have H2_ := (Option.bind_some _ _).symm.trans H; rw [hy173]; with_reducible exact H2_) | (have H2_ := (Option.bind_some _ _).symm.trans H; with_reducible exact H2_) | with_reducible exact H | (rw [hy173]; exact H) | exact H
                          have Ny173 := Aside0.mk hy173
                          clear hy173
                          have H' := Aside0.mk H
                          clear H
                          try go_wp2
                          replace HO_8 := Aside0.mk (Kd.R_drew HO_8.out)
                          replace BK162 := Aside0.mk (blk_drew BK162.out)
                          replace BK163 := Aside0.mk (blk_drew BK163.out)
                          replace BK164 := Aside0.mk (blk_drew BK164.out)
                          replace HB := Aside0.mk (below_drew1 HB.out)
                          have p171 : 0 ≤ (x9_2 : Int) := oD
                          have q171 : x9_2 < (l1_1.length : Int) := oD
                          obtain ⟨ad171, e171, hx171_0⟩ := Kd.at_int HR1_1.out x9_2 p171 q171
                          have hw171_0 := hx171_0
                          cases e171
                          replace hx171_0 := hxb hx171_0
                          replace p171 := eq_true p171
                          replace q171 := eq_true q171
                          have p172 : 0 ≤ (x9_2 : Int) := oD
                          have q172 : x9_2 < (l2_1.length : Int) := oD
                          obtain ⟨ad172, e172, hx172_0⟩ := Kd.at_int HR2_1.out x9_2 p172 q172
                          have hw172_0 := hx172_0
                          cases e172
                          replace hx172_0 := hxb hx172_0
                          replace p172 := eq_true p172
                          replace q172 := eq_true q172
                          refine start_ (n := 18) (S := fun w' => w'.cell? ⟨gb162, 0, none⟩ = some (.int .i64 a1_0) ∧ w'.cell? ⟨gb162, 1, none⟩ = some (.slice (some ad171) l1_1.length c1_1) ∧ w'.cell? ⟨gb163, 0, none⟩ = some (.int .i64 a2_0) ∧ w'.cell? ⟨gb163, 1, none⟩ = some (.slice (some ad172) l2_1.length c2_1) ∧ w'.cell? (ad171.add (x9_2).toNat) = some (.int .i64 (rd l1_1 x9_2)) ∧ w'.cell? (ad172.add (x9_2).toNat) = some (.int .i64 (rd l2_1 x9_2))) (ds := []) #[false, false, false, false, false, false, false, false, false, false, false, false, false, false, false, false, false, false] (by kernel_rfl) rfl rfl ⟨(blk_cell BK162.out 0).trans rfl, (blk_cell BK162.out 1).trans rfl, (blk_cell BK163.out 0).trans rfl, (blk_cell BK163.out 1).trans rfl, (hxb hw171_0), (hxb hw172_0)⟩ (fun hHeld => ?_); refine with_tabW spec_AddWeightings.tab9 spec_AddWeightings.bits9 (fun HT_ HW_ => ?_)
                          generalize wr.drew = w47 at HO_8 BK162 BK163 BK164 HB hx171_0 hx172_0 hHeld ⊢
                          refine PU 0 39 ?_
                          refine PU 1 40 ?_
                          refine PU 3 42 ?_
                          refine PU 6 45 ?_
                          refine PU 8 47 ?_
                          refine PU 12 51 ?_
                          refine TK 2 41 hHeld ?_
                          refine PU 4 43 ?_
                          refine TK 5 44 hHeld ?_
                          refine TK 7 46 hHeld ?_
                          refine PU 9 48 ?_
                          refine TK 10 49 hHeld ?_
                          refine PU 11 50 ?_
                          refine TK 13 52 hHeld ?_
                          refine PU 14 53 ?_
                          refine ON 15 54 (fun K hK => ?_)
                          refine value_ (w1 := ?_) (v := ?_) (by rfl) rfl ?_ ?_
                          rotate_left 2
                          · go_simp
                            constructor
                            · rfl
                            · rfl
                          refine hK.out _ _ ⟨(blk_cell (blk_alloc BK162.out _) 0).trans rfl, (blk_cell (blk_alloc BK162.out _) 1).trans rfl, (blk_cell (blk_alloc BK163.out _) 0).trans rfl, (blk_cell (blk_alloc BK163.out _) 1).trans rfl, (World.cell?_alloc_lt _ _ _ (World.block_lt_of_cell? _ _ ((hxb hw171_0)))).trans ((hxb hw171_0)), (World.cell?_alloc_lt _ _ _ (World.block_lt_of_cell? _ _ ((hxb hw172_0)))).trans ((hxb hw172_0))⟩ (fun hHeld => ?_)
                          clear hK K
                          refine NM ?_
                          refine ON 16 55 (fun K hK => ?_)
                          refine Kd.R_append_step (Kd.int .i64) (w0 := w) w.heap.size (by rfl) (.tmp 39) (.tmp 54) 25 2 (.int .i64 0) 8 rfl Try.underlying25 info2 rfl (by decide) (by omega) u8 x8_2 (Int.tmod (wrap64 ((rd l1_1 x9_2) + (rd l2_1 x9_2))) a2_0) [.int .i64 (Int.tmod (wrap64 ((rd l1_1 x9_2) + (rd l2_1 x9_2))) a2_0)] (fun _ => True) (fun _ => False) rfl rfl ?aP (fun _ hk => hk.elim) ?aF ?aO ?aB ?aS ?aL ?_
                          (case aP => exact rfl)
                          (case aB => exact Hb)
                          (case aF => exact (fun _ _ => trivial))
                          (case aO => exact (R1 HO_8))
                          (case aS => exact (below_size Hb))
                          (case aL => have := LMc46.out; omega)
                          intro v174 w48 ho hb hg hat
                          rw [← Ny173.out] at ho
                          replace BK162 := Aside0.mk (blk_grown (B1 BK162) hg (Kd.R_ne HO_8.out BK162.out (by decide)))
                          replace BK163 := Aside0.mk (blk_grown (B1 BK163) hg (Kd.R_ne HO_8.out BK163.out (by decide)))
                          replace BK164 := Aside0.mk (blk_grown (B1 BK164) hg (Kd.R_ne HO_8.out BK164.out (by decide)))
                          replace HB := Aside0.mk (hb)
                          have HO175 := Aside0.mk (ho)
                          clear HO_8
                          clear ho hb hg hat
                          refine hK.out _ _ ⟨(blk_cell BK162.out 0).trans rfl, (blk_cell BK162.out 1).trans rfl, (blk_cell BK163.out 0).trans rfl, (blk_cell BK163.out 1).trans rfl, (hxb hw171_0), (hxb hw172_0)⟩ (fun hHeld => ?_)
                          clear hK K
                          refine NM ?_
                          refine PU 17 8 ?_
                          refine done_ (done_of HT_.out (by kernel_rfl)) ?_
                          try go_wp2
                          go_roundg k2
                          case measure => have := HJ5.out; have := HK2.out; omega
                          case rel => exact ⟨(y173), (wrap64 (x9_2 + 1)), Fs, H', ⟨by have := HJ5.out; have := HK2.out; omega⟩, ⟨by (with_reducible repeat (first | apply Kd.R_alloc | apply Kd.R_drewN | apply Kd.R_drew)); exact HO175.out⟩, ⟨B1 BK162⟩, ⟨B1 BK163⟩, ⟨B1 BK164⟩, ⟨Hb⟩⟩
                        · rw [if_neg c46] at H
                          exact absurd H (by simp)
                    · rw [if_neg c44] at H
                      exact absurd H (by simp)
                  · rw [if_neg c43] at H
                    exact absurd H (by simp)
                · rw [if_neg c42] at H
                  exact absurd H (by simp)
              · rw [if_neg c41] at H
                have c41b0 : decide (x9_2 < (l0.length : Int)) = false := decide_eq_false c41
                clear c41
                simp only [Option.some.injEq, Prod.mk.injEq] at H
                obtain ⟨rfl, rfl, rfl⟩ := H
                have hnb49 := NB163_162.out
                have hnc49 := NB162_163.out
                have hnb50 := NB163_164.out
                have hnc50 := NB164_163.out
                have hcz51_0 : wr.cell? ⟨gb163, 0, none⟩ = some (.int .i64 a2_0) := bc BK163
                have hcz51_1 : wr.cell? ⟨gb163, 1, none⟩ = some (.slice A2_1 l2_1.length c2_1) := bc BK163
                have hfz51_0 := blk_frozen BK163.out 0
                have hfz51_1 := blk_frozen BK163.out 1
                obtain ⟨Ao52, co52, eo52⟩ := Kd.R_slice HO_8.out
                subst eo52
                have hnb53 := NB164_162.out
                have hnc53 := NB162_164.out
                have hcz54_0 : wr.cell? ⟨gb164, 0, none⟩ = some (.int .i64 0) := bc BK164
                have hcz54_1 : wr.cell? ⟨gb164, 1, none⟩ = some (.slice none 0 0) := bc BK164
                have hfz54_0 := blk_frozen BK164.out 0
                have hfz54_1 := blk_frozen BK164.out 1
                go_wp2
                refine bodyPost_ret (results_ct rfl _ _ gb164 46 #[.int .i64 a2_0, .slice Ao52 x8_2.length co52] (0, 0) _ rfl (by (with_reducible repeat (first | refine blk_drewN ?_ _ | refine blk_drew ?_ | refine blk_alloc ?_ _)); refine blk_put (cs := #[.int .i64 a2_0, .slice none 0 0]) ?_ 1 _ rfl; (with_reducible repeat (first | refine blk_drewN ?_ _ | refine blk_drew ?_ | refine blk_alloc ?_ _)); refine blk_put (cs := #[.int .i64 0, .slice none 0 0]) ?_ 0 _ rfl; (with_reducible repeat (first | refine blk_drewN ?_ _ | refine blk_drew ?_ | refine blk_alloc ?_ _)); exact BK164.out) Try.underlying46 rfl (by kernel_rfl)) rfl ?_
                exact ⟨_, Fin, by (with_reducible repeat (first | apply Kd.R_alloc | apply Kd.R_drewN | apply Kd.R_drew)); exact Kd.R_mono (Kd.R_far (p := ⟨gb164, 1, none⟩) (Kd.R_far (p := ⟨gb164, 0, none⟩) (Kd.R_types HO_8.out BK164.out (by decide)) (fun _ hk => hk.2) (.int .i64 a2_0)) (fun _ hk => hk.2) (.slice Ao52 x8_2.length co52)) (fun _ hk => trivial), Hb⟩
  · replace c5 := Bool.eq_false_iff.mpr c5
    subst c5
    rw [if_neg (show ¬ (false = true) by decide)] at H
    simp only [Option.some.injEq, Prod.mk.injEq] at H
    obtain ⟨rfl, rfl, rfl⟩ := H
    go_enter Try.func39, Try.ntmps39
    go_wp2_with (first | ((with_reducible refine gD 4 ?_); refine BX #[.int .i64 a1_0, .slice A1_1 l1_1.length c1_1] 46 ?_; intro gb162 hg w55 hbox hb; have BK162 := Aside0.mk (hbox); have GW162 := Aside0.mk ((Gle hg Hb : w.heap.size ≤ gb162)); have GE162 := Aside0.mk ((Gle hg Hb : w.heap.size ≤ gb162)); replace HB := Aside0.mk (below_step Hb hb); clear hb hbox hg) | ((with_reducible refine gD 5 ?_); refine BX #[.int .i64 a2_0, .slice A2_1 l2_1.length c2_1] 46 ?_; intro gb163 hg w56 hbox hb; have BK163 := Aside0.mk (hbox); have GW163 := Aside0.mk ((Gle hg Hb : w.heap.size ≤ gb163)); have GE163 := Aside0.mk ((Gle hg Hb : w.heap.size ≤ gb163)); replace HB := Aside0.mk (below_step Hb hb); have NB162_163 := Aside0.mk ((by rw [hg]; exact Nat.ne_of_lt (blk_lt (B1 BK162)) : gb162 ≠ gb163)); have NB163_162 := Aside0.mk ((by rw [hg]; exact Nat.ne_of_gt (blk_lt (B1 BK162)) : gb163 ≠ gb162)); replace BK162 := Aside0.mk (blk_below (B1 BK162) hb); clear hb hbox hg) | ((with_reducible refine gD 6 ?_); refine BX #[.int .i64 0, .slice none 0 0] 46 ?_; intro gb164 hg w57 hbox hb; have BK164 := Aside0.mk (hbox); have GW164 := Aside0.mk ((Gle hg Hb : w.heap.size ≤ gb164)); have GE164 := Aside0.mk ((Gle hg Hb : w.heap.size ≤ gb164)); replace HB := Aside0.mk (below_step Hb hb); have NB162_164 := Aside0.mk ((by rw [hg]; exact Nat.ne_of_lt (blk_lt (B1 BK162)) : gb162 ≠ gb164)); have NB164_162 := Aside0.mk ((by rw [hg]; exact Nat.ne_of_gt (blk_lt (B1 BK162)) : gb164 ≠ gb162)); replace BK162 := Aside0.mk (blk_below (B1 BK162) hb); have NB163_164 := Aside0.mk ((by rw [hg]; exact Nat.ne_of_lt (blk_lt (B1 BK163)) : gb163 ≠ gb164)); have NB164_163 := Aside0.mk ((by rw [hg]; exact Nat.ne_of_gt (blk_lt (B1 BK163)) : gb164 ≠ gb163)); replace BK163 := Aside0.mk (blk_below (B1 BK163) hb); clear hb hbox hg) | ((with_reducible refine gC 75 ?_); refine GL (some 11) Try.func75 #[.slice A0 l0.length c0] ?_; (with_reducible refine (spec_IsRegion.calls k _ _ l0 false _ ?side1 ?side2 A4.out).mono ?_); (case side1 => exact Kd.C_below HR0.out Hb); (case side2 => exact HC0.out); rintro e w58 ⟨rfl, hb⟩; refine ⟨_, rfl, ?_⟩; replace BK162 := Aside0.mk (blk_below (B1 BK162) hb); replace BK163 := Aside0.mk (blk_below (B1 BK163) hb); replace BK164 := Aside0.mk (blk_below (B1 BK164) hb); replace HB := Aside0.mk (below_step Hb hb); (try clear hb); (try clear hb2); (try clear hk); (try clear hi); have hnb59 := NB164_162.out; have hnc59 := NB162_164.out; have hnb60 := NB164_163.out; have hnc60 := NB163_164.out; have hcz61_0 : w58.cell? ⟨gb164, 0, none⟩ = some (.int .i64 0) := bc BK164; have hcz61_1 : w58.cell? ⟨gb164, 1, none⟩ = some (.slice none 0 0) := bc BK164; have hfz61_0 := blk_frozen BK164.out 0; have hfz61_1 := blk_frozen BK164.out 1))
    refine bodyPost_ret (results_ct rfl _ _ gb164 46 #[.int .i64 0, .slice none 0 0] (0, 0) _ rfl (by (with_reducible repeat (first | refine blk_drewN ?_ _ | refine blk_drew ?_ | refine blk_alloc ?_ _)); refine blk_put (cs := #[.int .i64 0, .slice none 0 0]) ?_ 1 _ rfl; (with_reducible repeat (first | refine blk_drewN ?_ _ | refine blk_drew ?_ | refine blk_alloc ?_ _)); refine blk_put (cs := #[.int .i64 0, .slice none 0 0]) ?_ 0 _ rfl; (with_reducible repeat (first | refine blk_drewN ?_ _ | refine blk_drew ?_ | refine blk_alloc ?_ _)); exact BK164.out) Try.underlying46 rfl (by kernel_rfl)) rfl ?_
    exact ⟨_, Fin, by first | exact Kd.R_nil _ _ _ _ _ | exact Kd.N_nil _ _ _ _ _ | exact Kd.V_nil _ _ _ _ _ | exact Kd.Q_nil _ _ _ _ _ | exact Kd.S_nil _ _ _ _ _, Hb⟩

/-! ### impl_within: function 132 -/
def impl_within.f (a0 : Int) (a1 : Int) (a2 : Int) : Option (Bool) := if a0 ≥ a1 then (some (decide (a0 ≤ a2))) else (some false)
set_option maxHeartbeats 8000000 in
set_option maxRecDepth 100000 in
theorem impl_within.calls (a0 : Int) (a1 : Int) (a2 : Int) (r : Bool) (w : World) (h : impl_within.f a0 a1 a2 = some r) :
    Calls Try.prog 132 #[.int .i64 a0, .int .i64 a1, .int .i64 a2] w fun e w' => e = .returned (.bool r) ∧ Drawn0 w w' := by
  have H : (if a0 ≥ a1 then (some (decide (a0 ≤ a2))) else (some false)) = some r := h
  clear h
  by_cases c4 : a0 ≥ a1
  · rw [if_pos c4] at H
    have c4b0 : decide (a1 ≤ a0) = true := decide_eq_true c4
    clear c4
    obtain rfl := Option.some.inj H
    go_enter Try.func132, Try.ntmps132
    go_wp2
    go_ret
    exact ⟨Fs, by repeat (first | exact Drawn0.refl _ | apply Drawn0.step)⟩
  · rw [if_neg c4] at H
    have c4b0 : decide (a1 ≤ a0) = false := decide_eq_false c4
    clear c4
    obtain rfl := Option.some.inj H
    go_enter Try.func132, Try.ntmps132
    go_wp2
    go_ret
    exact ⟨Fs, by repeat (first | exact Drawn0.refl _ | apply Drawn0.step)⟩

/-! ### impl_isCoordinate: function 150 -/
def impl_isCoordinate.f (a0 : Int) : Option (Bool) := (impl_within.f a0 (-100) 100).bind fun t176 => (some t176)
set_option maxHeartbeats 8000000 in
set_option maxRecDepth 100000 in
theorem impl_isCoordinate.calls (a0 : Int) (r : Bool) (w : World) (h : impl_isCoordinate.f a0 = some r) :
    Calls Try.prog 150 #[.int .i64 a0] w fun e w' => e = .returned (.bool r) ∧ Drawn0 w w' := by
  have H : ((impl_within.f a0 (-100) 100).bind fun t176 => (some t176)) = some r := h
  clear h
  obtain ⟨t176, A20, H⟩ := Option.bind_eq_some_iff.mp H
  have A2 := Aside0.mk A20
  clear A20
  obtain rfl := Option.some.inj H
  go_enter Try.func150, Try.ntmps150
  go_wp2_with (first | ((with_reducible refine gC 132 ?_); refine GL (some 4) Try.func132 #[.int .i64 a0, .int .i64 (-100), .int .i64 100] ?_; (with_reducible refine (impl_within.calls a0 (-100) 100 t176 _ A2.out).mono ?_); rintro e w' ⟨rfl, ⟨nd, rfl⟩⟩; refine ⟨_, rfl, ?_⟩))
  go_ret
  exact ⟨Fs, by repeat (first | exact Drawn0.refl _ | apply Drawn0.step)⟩

/-! ### cmp_isNaN_int64: function 179 -/
def cmp_isNaN_int64.f (a0 : Int) : Option (Bool) := some (a0 != a0)
set_option maxHeartbeats 8000000 in
set_option maxRecDepth 100000 in
theorem cmp_isNaN_int64.calls (a0 : Int) (r : Bool) (w : World) (h : cmp_isNaN_int64.f a0 = some r) :
    Calls Try.prog 179 #[.int .i64 a0] w fun e w' => e = .returned (.bool r) ∧ Drawn0 w w' := by
  have H : (some (a0 != a0)) = some r := h
  clear h
  obtain rfl := Option.some.inj H
  go_enter Try.func179, Try.ntmps179
  go_wp2
  go_ret
  exact ⟨Fs, by repeat (first | exact Drawn0.refl _ | apply Drawn0.step)⟩

/-! ### cmp_Compare_int64: function 169 -/
def cmp_Compare_int64.f (a0 : Int) (a1 : Int) : Option (Int) := (cmp_isNaN_int64.f a0).bind fun t177 => ((cmp_isNaN_int64.f a1).bind fun t178 => (if t177 = true then (if t178 = true then (some 0) else (some (-1))) else (if t178 = true then (some 1) else (if a0 < a1 then (some (-1)) else (if a0 > a1 then (some 1) else (some 0))))))
set_option maxHeartbeats 8000000 in
set_option maxRecDepth 100000 in
theorem cmp_Compare_int64.calls (a0 : Int) (a1 : Int) (r : Int) (w : World) (h : cmp_Compare_int64.f a0 a1 = some r) :
    Calls Try.prog 169 #[.int .i64 a0, .int .i64 a1] w fun e w' => e = .returned (.int .i64 r) ∧ Drawn0 w w' := by
  have H : ((cmp_isNaN_int64.f a0).bind fun t177 => ((cmp_isNaN_int64.f a1).bind fun t178 => (if t177 = true then (if t178 = true then (some 0) else (some (-1))) else (if t178 = true then (some 1) else (if a0 < a1 then (some (-1)) else (if a0 > a1 then (some 1) else (some 0))))))) = some r := h
  clear h
  obtain ⟨t177, A30, H⟩ := Option.bind_eq_some_iff.mp H
  have A3 := Aside0.mk A30
  clear A30
  obtain ⟨t178, A40, H⟩ := Option.bind_eq_some_iff.mp H
  have A4 := Aside0.mk A40
  clear A40
  by_cases c5 : t177 = true
  · subst c5
    rw [if_pos rfl] at H
    by_cases c6 : t178 = true
    · subst c6
      rw [if_pos rfl] at H
      obtain rfl := Option.some.inj H
      go_enter Try.func169, Try.ntmps169
      go_wp2_with (first | ((with_reducible refine gC 179 ?_); refine GL (some 8) Try.func179 #[.int .i64 a0] ?_; (with_reducible refine (cmp_isNaN_int64.calls a0 true _ A3.out).mono ?_); rintro e w' ⟨rfl, ⟨nd, rfl⟩⟩; refine ⟨_, rfl, ?_⟩) | ((with_reducible refine gC 179 ?_); refine GL (some 10) Try.func179 #[.int .i64 a1] ?_; (with_reducible refine (cmp_isNaN_int64.calls a1 true _ A4.out).mono ?_); rintro e w' ⟨rfl, ⟨nd, rfl⟩⟩; refine ⟨_, rfl, ?_⟩))
      go_ret
      exact ⟨Fs, by repeat (first | exact Drawn0.refl _ | apply Drawn0.step)⟩
    · replace c6 := Bool.eq_false_iff.mpr c6
      subst c6
      rw [if_neg (show ¬ (false = true) by decide)] at H
      obtain rfl := Option.some.inj H
      go_enter Try.func169, Try.ntmps169
      go_wp2_with (first | ((with_reducible refine gC 179 ?_); refine GL (some 8) Try.func179 #[.int .i64 a0] ?_; (with_reducible refine (cmp_isNaN_int64.calls a0 true _ A3.out).mono ?_); rintro e w' ⟨rfl, ⟨nd, rfl⟩⟩; refine ⟨_, rfl, ?_⟩) | ((with_reducible refine gC 179 ?_); refine GL (some 10) Try.func179 #[.int .i64 a1] ?_; (with_reducible refine (cmp_isNaN_int64.calls a1 false _ A4.out).mono ?_); rintro e w' ⟨rfl, ⟨nd, rfl⟩⟩; refine ⟨_, rfl, ?_⟩))
      go_ret
      exact ⟨Fs, by repeat (first | exact Drawn0.refl _ | apply Drawn0.step)⟩
  · replace c5 := Bool.eq_false_iff.mpr c5
    subst c5
    rw [if_neg (show ¬ (false = true) by decide)] at H
    by_cases c7 : t178 = true
    · subst c7
      rw [if_pos rfl] at H
      obtain rfl := Option.some.inj H
      go_enter Try.func169, Try.ntmps169
      go_wp2_with (first | ((with_reducible refine gC 179 ?_); refine GL (some 8) Try.func179 #[.int .i64 a0] ?_; (with_reducible refine (cmp_isNaN_int64.calls a0 false _ A3.out).mono ?_); rintro e w' ⟨rfl, ⟨nd, rfl⟩⟩; refine ⟨_, rfl, ?_⟩) | ((with_reducible refine gC 179 ?_); refine GL (some 10) Try.func179 #[.int .i64 a1] ?_; (with_reducible refine (cmp_isNaN_int64.calls a1 true _ A4.out).mono ?_); rintro e w' ⟨rfl, ⟨nd, rfl⟩⟩; refine ⟨_, rfl, ?_⟩))
      go_ret
      exact ⟨Fs, by repeat (first | exact Drawn0.refl _ | apply Drawn0.step)⟩
    · replace c7 := Bool.eq_false_iff.mpr c7
      subst c7
      rw [if_neg (show ¬ (false = true) by decide)] at H
      by_cases c8 : a0 < a1
      · rw [if_pos c8] at H
        have c8b0 : decide (a0 < a1) = true := decide_eq_true c8
        clear c8
        obtain rfl := Option.some.inj H
        go_enter Try.func169, Try.ntmps169
        go_wp2_with (first | ((with_reducible refine gC 179 ?_); refine GL (some 8) Try.func179 #[.int .i64 a0] ?_; (with_reducible refine (cmp_isNaN_int64.calls a0 false _ A3.out).mono ?_); rintro e w' ⟨rfl, ⟨nd, rfl⟩⟩; refine ⟨_, rfl, ?_⟩) | ((with_reducible refine gC 179 ?_); refine GL (some 10) Try.func179 #[.int .i64 a1] ?_; (with_reducible refine (cmp_isNaN_int64.calls a1 false _ A4.out).mono ?_); rintro e w' ⟨rfl, ⟨nd, rfl⟩⟩; refine ⟨_, rfl, ?_⟩))
        go_ret
        exact ⟨Fs, by repeat (first | exact Drawn0.refl _ | apply Drawn0.step)⟩
      · rw [if_neg c8] at H
        have c8b0 : decide (a0 < a1) = false := decide_eq_false c8
        clear c8
        by_cases c9 : a0 > a1
        · rw [if_pos c9] at H
          have c9b0 : decide (a1 < a0) = true := decide_eq_true c9
          clear c9
          obtain rfl := Option.some.inj H
          go_enter Try.func169, Try.ntmps169
          go_wp2_with (first | ((with_reducible refine gC 179 ?_); refine GL (some 8) Try.func179 #[.int .i64 a0] ?_; (with_reducible refine (cmp_isNaN_int64.calls a0 false _ A3.out).mono ?_); rintro e w' ⟨rfl, ⟨nd, rfl⟩⟩; refine ⟨_, rfl, ?_⟩) | ((with_reducible refine gC 179 ?_); refine GL (some 10) Try.func179 #[.int .i64 a1] ?_; (with_reducible refine (cmp_isNaN_int64.calls a1 false _ A4.out).mono ?_); rintro e w' ⟨rfl, ⟨nd, rfl⟩⟩; refine ⟨_, rfl, ?_⟩))
          go_ret
          exact ⟨Fs, by repeat (first | exact Drawn0.refl _ | apply Drawn0.step)⟩
        · rw [if_neg c9] at H
          have c9b0 : decide (a1 < a0) = false := decide_eq_false c9
          clear c9
          obtain rfl := Option.some.inj H
          go_enter Try.func169, Try.ntmps169
          go_wp2_with (first | ((with_reducible refine gC 179 ?_); refine GL (some 8) Try.func179 #[.int .i64 a0] ?_; (with_reducible refine (cmp_isNaN_int64.calls a0 false _ A3.out).mono ?_); rintro e w' ⟨rfl, ⟨nd, rfl⟩⟩; refine ⟨_, rfl, ?_⟩) | ((with_reducible refine gC 179 ?_); refine GL (some 10) Try.func179 #[.int .i64 a1] ?_; (with_reducible refine (cmp_isNaN_int64.calls a1 false _ A4.out).mono ?_); rintro e w' ⟨rfl, ⟨nd, rfl⟩⟩; refine ⟨_, rfl, ?_⟩))
          go_ret
          exact ⟨Fs, by repeat (first | exact Drawn0.refl _ | apply Drawn0.step)⟩

/-! ### impl_compareCells: function 151 -/
def impl_compareCells.f (a0_0 : Int) (a0_1 : Int) (a1_0 : Int) (a1_1 : Int) : Option (Int) := (cmp_Compare_int64.f a0_1 a1_1).bind fun t181 => (if t181 = 0 then ((cmp_Compare_int64.f a0_0 a1_0).bind fun t182 => (some t182)) else (some t181))
set_option maxHeartbeats 8000000 in
set_option maxRecDepth 100000 in
theorem impl_compareCells.calls (a0_0 : Int) (a0_1 : Int) (a1_0 : Int) (a1_1 : Int) (r : Int) (w : World) (h : impl_compareCells.f a0_0 a0_1 a1_0 a1_1 = some r) :
    Calls Try.prog 151 #[.agg #[.int .i64 a0_0, .int .i64 a0_1], .agg #[.int .i64 a1_0, .int .i64 a1_1]] w fun e w' => e = .returned (.int .i64 r) ∧ Below w.heap.size w w' := by
  have hu103 := Try.underlying103
  have HB := Aside0.mk (Below.refl w.heap.size w)
  have H : ((cmp_Compare_int64.f a0_1 a1_1).bind fun t181 => (if t181 = 0 then ((cmp_Compare_int64.f a0_0 a1_0).bind fun t182 => (some t182)) else (some t181))) = some r := h
  clear h
  obtain ⟨t181, A30, H⟩ := Option.bind_eq_some_iff.mp H
  have A3 := Aside0.mk A30
  clear A30
  by_cases c4 : t181 = 0
  · rw [if_pos c4] at H
    have c4b0 : (t181 == 0) = true := beq_iff_eq.mpr c4
    have c4b1 : (t181 != 0) = false := bne_eq_false_iff_eq.mpr c4
    clear c4
    obtain ⟨t182, A50, H⟩ := Option.bind_eq_some_iff.mp H
    have A5 := Aside0.mk A50
    clear A50
    obtain rfl := Option.some.inj H
    go_enter Try.func151, Try.ntmps151
    go_wp2_with (first | ((with_reducible refine gD 2 ?_); refine BX #[.int .i64 a0_0, .int .i64 a0_1] 103 ?_; intro gb179 hg w6 hbox hb; have BK179 := Aside0.mk (hbox); have GW179 := Aside0.mk ((Gle hg Hb : w.heap.size ≤ gb179)); have GE179 := Aside0.mk ((Gle hg Hb : w.heap.size ≤ gb179)); replace HB := Aside0.mk (below_step Hb hb); clear hb hbox hg) | ((with_reducible refine gD 3 ?_); refine BX #[.int .i64 a1_0, .int .i64 a1_1] 103 ?_; intro gb180 hg w7 hbox hb; have BK180 := Aside0.mk (hbox); have GW180 := Aside0.mk ((Gle hg Hb : w.heap.size ≤ gb180)); have GE180 := Aside0.mk ((Gle hg Hb : w.heap.size ≤ gb180)); replace HB := Aside0.mk (below_step Hb hb); have NB179_180 := Aside0.mk ((by rw [hg]; exact Nat.ne_of_lt (blk_lt (B1 BK179)) : gb179 ≠ gb180)); have NB180_179 := Aside0.mk ((by rw [hg]; exact Nat.ne_of_gt (blk_lt (B1 BK179)) : gb180 ≠ gb179)); replace BK179 := Aside0.mk (blk_below (B1 BK179) hb); clear hb hbox hg; have hnb8 := NB179_180.out; have hnc8 := NB180_179.out; have hcz9_0 : w7.cell? ⟨gb179, 0, none⟩ = some (.int .i64 a0_0) := bc BK179; have hcz9_1 : w7.cell? ⟨gb179, 1, none⟩ = some (.int .i64 a0_1) := bc BK179; have hfz9_0 := blk_frozen BK179.out 0; have hfz9_1 := blk_frozen BK179.out 1; have hcz10_0 : w7.cell? ⟨gb180, 0, none⟩ = some (.int .i64 a1_0) := bc BK180; have hcz10_1 : w7.cell? ⟨gb180, 1, none⟩ = some (.int .i64 a1_1) := bc BK180; have hfz10_0 := blk_frozen BK180.out 0; have hfz10_1 := blk_frozen BK180.out 1) | ((with_reducible refine gC 169 ?_); refine GL (some 10) Try.func169 #[.int .i64 a0_1, .int .i64 a1_1] ?_; (with_reducible refine (cmp_Compare_int64.calls a0_1 a1_1 t181 _ A3.out).mono ?_); rintro e w' ⟨rfl, ⟨nd, rfl⟩⟩; refine ⟨_, rfl, ?_⟩) | ((with_reducible refine gC 169 ?_); refine GL (some 18) Try.func169 #[.int .i64 a0_0, .int .i64 a1_0] ?_; (with_reducible refine (cmp_Compare_int64.calls a0_0 a1_0 t182 _ A5.out).mono ?_); rintro e w' ⟨rfl, ⟨nd, rfl⟩⟩; refine ⟨_, rfl, ?_⟩))
    go_ret
    exact ⟨Fin, Hb⟩
  · rw [if_neg c4] at H
    have c4b0 : (t181 == 0) = false := beq_eq_false_iff_ne.mpr c4
    have c4b1 : (t181 != 0) = true := bne_iff_ne.mpr c4
    obtain rfl := Option.some.inj H
    go_enter Try.func151, Try.ntmps151
    go_wp2_with (first | ((with_reducible refine gD 2 ?_); refine BX #[.int .i64 a0_0, .int .i64 a0_1] 103 ?_; intro gb179 hg w11 hbox hb; have BK179 := Aside0.mk (hbox); have GW179 := Aside0.mk ((Gle hg Hb : w.heap.size ≤ gb179)); have GE179 := Aside0.mk ((Gle hg Hb : w.heap.size ≤ gb179)); replace HB := Aside0.mk (below_step Hb hb); clear hb hbox hg) | ((with_reducible refine gD 3 ?_); refine BX #[.int .i64 a1_0, .int .i64 a1_1] 103 ?_; intro gb180 hg w12 hbox hb; have BK180 := Aside0.mk (hbox); have GW180 := Aside0.mk ((Gle hg Hb : w.heap.size ≤ gb180)); have GE180 := Aside0.mk ((Gle hg Hb : w.heap.size ≤ gb180)); replace HB := Aside0.mk (below_step Hb hb); have NB179_180 := Aside0.mk ((by rw [hg]; exact Nat.ne_of_lt (blk_lt (B1 BK179)) : gb179 ≠ gb180)); have NB180_179 := Aside0.mk ((by rw [hg]; exact Nat.ne_of_gt (blk_lt (B1 BK179)) : gb180 ≠ gb179)); replace BK179 := Aside0.mk (blk_below (B1 BK179) hb); clear hb hbox hg; have hnb13 := NB179_180.out; have hnc13 := NB180_179.out; have hcz14_0 : w12.cell? ⟨gb179, 0, none⟩ = some (.int .i64 a0_0) := bc BK179; have hcz14_1 : w12.cell? ⟨gb179, 1, none⟩ = some (.int .i64 a0_1) := bc BK179; have hfz14_0 := blk_frozen BK179.out 0; have hfz14_1 := blk_frozen BK179.out 1; have hcz15_0 : w12.cell? ⟨gb180, 0, none⟩ = some (.int .i64 a1_0) := bc BK180; have hcz15_1 : w12.cell? ⟨gb180, 1, none⟩ = some (.int .i64 a1_1) := bc BK180; have hfz15_0 := blk_frozen BK180.out 0; have hfz15_1 := blk_frozen BK180.out 1) | ((with_reducible refine gC 169 ?_); refine GL (some 10) Try.func169 #[.int .i64 a0_1, .int .i64 a1_1] ?_; (with_reducible refine (cmp_Compare_int64.calls a0_1 a1_1 t181 _ A3.out).mono ?_); rintro e w' ⟨rfl, ⟨nd, rfl⟩⟩; refine ⟨_, rfl, ?_⟩))
    go_ret
    exact ⟨Fin, Hb⟩

end Go.Proofs.Ytkmlgfihoaneeaa.XFnExactAddWeightings
