-- Written by ext.py (wip/) over the kit's print: not trusted, Lean checks it.
import Derived.Test.YtcolaakpjdhinaaXFnUnitsx0
import Derived.Test.YtcolaakpjdhinaaXFnUnitsx1
import Derived.Test.YtcolaakpjdhinaaXFnUnitsx2
import Derived.Test.YtcolaakpjdhinaaXFnUnitsx3
import Derived.Test.YtcolaakpjdhinaaXFnUnitsx5
import Derived.Test.YtcolaakpjdhinaaXFnUnitsx6
namespace Go.Proofs.Ytcolaakpjdhinaa.XFnUnits
open Go.RowKit Go.Proofs.YtcolaakpjdhinaaW.PrintWords Go.Proofs.YtcolaakpjdhinaaW.PrintLast Go.Proofs.YtcolaakpjdhinaaW.PrintMore
attribute [local go_sem] max2_int min2_int max_two min_two max_three min_three max_four min_four   -- for this text's walks alone
set_option linter.unusedVariables false
set_option linter.unusedSimpArgs false

/-! ### impl_Satisfies: function 14 -/
mutual
def impl_Satisfies.j0 : Nat → List Int → Bool → Int → List (List Int) → Option (Bool)
  | 0, _, _, _, _ => none
  | k + 1, x1, x19, x325000, x325001 => if x19 = true then (some false) else (impl_Satisfies.l0 k x1 x325001 (x325001.length : Int) 0)
def impl_Satisfies.l0 : Nat → List Int → List (List Int) → Int → Int → Option (Bool)
  | 0, _, _, _, _ => none
  | k + 1, x1, x21, x22, x23 => if x23 < x22 then (if 0 ≤ x23 then (if x23 < (x21.length : Int) then ((impl_weigh.f k x1 (rd_L2 x21 x23)).bind fun bt328 => (if bt328.1 = true then (impl_Satisfies.l0 k x1 x21 x22 (wrap64 (x23 + 1))) else (some false))) else (none)) else (none)) else (some true)
end
def impl_Satisfies.f (k : Nat) (a0_0 : Int) (l0_1 : List (List Int)) (l1 : List Int) : Option (Bool) := (impl_IsFormula.f k a0_0 l0_1).bind fun t325 => (if t325 = true then ((impl_isAssignment.f l1 a0_0).bind fun t326 => (impl_Satisfies.j0 k l1 (!t326) a0_0 l0_1)) else (impl_Satisfies.j0 k l1 true a0_0 l0_1))
theorem impl_Satisfies.mono_l : ∀ k, (∀ y0 y1 y2 y3, LeO (impl_Satisfies.j0 k y0 y1 y2 y3) (impl_Satisfies.j0 (k + 1) y0 y1 y2 y3)) ∧ (∀ y0 y1 y2 y3, LeO (impl_Satisfies.l0 k y0 y1 y2 y3) (impl_Satisfies.l0 (k + 1) y0 y1 y2 y3))
  | 0 => ⟨fun _ _ _ _ r h => by simp [impl_Satisfies.j0] at h, fun _ _ _ _ r h => by simp [impl_Satisfies.l0] at h⟩
  | k + 1 => by
    obtain ⟨ih0, ih1⟩ := impl_Satisfies.mono_l k
    refine ⟨?_, ?_⟩
    · intro y0 y1 y2 y3
      unfold impl_Satisfies.j0
      repeat' first
      | (with_reducible exact ih0 _ _ _ _)
      | (with_reducible exact ih1 _ _ _ _)
      | (with_reducible exact impl_IsFormula.mono _ _ _)
      | (with_reducible exact impl_weigh.mono _ _ _)
      | (with_reducible exact LeO.refl _)
      | (with_reducible exact LeO.none _)
      | (with_reducible refine LeO.ite ?_ ?_)
      | (with_reducible refine LeO.bind ?_ (fun _ => ?_))
      | exact ih0 _ _ _ _
      | exact ih1 _ _ _ _
      | exact impl_IsFormula.mono _ _ _
      | exact impl_weigh.mono _ _ _
      | exact LeO.none _
      | refine LeO.ite ?_ ?_
      | refine LeO.bind ?_ (fun _ => ?_)
    · intro y0 y1 y2 y3
      unfold impl_Satisfies.l0
      repeat' first
      | (with_reducible exact ih0 _ _ _ _)
      | (with_reducible exact ih1 _ _ _ _)
      | (with_reducible exact impl_IsFormula.mono _ _ _)
      | (with_reducible exact impl_weigh.mono _ _ _)
      | (with_reducible exact LeO.refl _)
      | (with_reducible exact LeO.none _)
      | (with_reducible refine LeO.ite ?_ ?_)
      | (with_reducible refine LeO.bind ?_ (fun _ => ?_))
      | exact ih0 _ _ _ _
      | exact ih1 _ _ _ _
      | exact impl_IsFormula.mono _ _ _
      | exact impl_weigh.mono _ _ _
      | exact LeO.none _
      | refine LeO.ite ?_ ?_
      | refine LeO.bind ?_ (fun _ => ?_)
theorem impl_Satisfies.mono : ∀ a0 a1 a2 k, LeO (impl_Satisfies.f k a0 a1 a2) (impl_Satisfies.f (k + 1) a0 a1 a2) := by
  intro a0 a1 a2 k
  obtain ⟨ih0, ih1⟩ := impl_Satisfies.mono_l k
  unfold impl_Satisfies.f
  repeat' first
      | (with_reducible exact ih0 _ _ _ _)
      | (with_reducible exact ih1 _ _ _ _)
      | (with_reducible exact impl_IsFormula.mono _ _ _)
      | (with_reducible exact impl_weigh.mono _ _ _)
      | (with_reducible exact LeO.refl _)
      | (with_reducible exact LeO.none _)
      | (with_reducible refine LeO.ite ?_ ?_)
      | (with_reducible refine LeO.bind ?_ (fun _ => ?_))
      | exact ih0 _ _ _ _
      | exact ih1 _ _ _ _
      | exact impl_IsFormula.mono _ _ _
      | exact impl_weigh.mono _ _ _
      | exact LeO.none _
      | refine LeO.ite ?_ ?_
      | refine LeO.bind ?_ (fun _ => ?_)
set_option maxHeartbeats 8000000 in
set_option maxRecDepth 100000 in
theorem impl_Satisfies.calls (k : Nat) (a0_0 : Int) (A0_1 : Option Addr) (c0_1 : Nat) (l0_1 : List (List Int)) (A1 : Option Addr) (c1 : Nat) (l1 : List Int) (r : Bool) (w : World) (hr0_1 : Kd.C (Kd.slice 2 (Kd.int .i64)) w A0_1 l0_1.length l0_1) (hc0_1 : l0_1.length ≤ c0_1) (hr1 : Kd.C (Kd.int .i64) w A1 l1.length l1) (hc1 : l1.length ≤ c1) (h : impl_Satisfies.f k a0_0 l0_1 l1 = some r) :
    Calls Try.prog 14 #[.agg #[.int .i64 a0_0, .slice A0_1 l0_1.length c0_1], .slice A1 l1.length c1] w fun e w' => e = .returned (.bool r) ∧ Below w.heap.size w w' := by
  have hu26 := Try.underlying26
  have HR0_1 := Aside0.mk hr0_1
  have HC0_1 := Aside0.mk hc0_1
  clear hr0_1 hc0_1
  have HR1 := Aside0.mk hr1
  have HC1 := Aside0.mk hc1
  clear hr1 hc1
  have HB := Aside0.mk (Below.refl w.heap.size w)
  have H : ((impl_IsFormula.f k a0_0 l0_1).bind fun t325 => (if t325 = true then ((impl_isAssignment.f l1 a0_0).bind fun t326 => (impl_Satisfies.j0 k l1 (!t326) a0_0 l0_1)) else (impl_Satisfies.j0 k l1 true a0_0 l0_1))) = some r := h
  clear h
  have HC3 := Aside0.mk H
  clear H
  go_enter Try.func14, Try.ntmps14
  go_upto_region 1 with (first | ((with_reducible refine gD 2 ?_); refine BX #[.int .i64 a0_0, .slice A0_1 l0_1.length c0_1] 26 ?_; intro gb324 hg w4 hbox hb; have BK324 := Aside0.mk (hbox); have GW324 := Aside0.mk ((Gle hg Hb : w.heap.size ≤ gb324)); have GE324 := Aside0.mk ((Gle hg Hb : w.heap.size ≤ gb324)); replace HB := Aside0.mk (below_step Hb hb); clear hb hbox hg))
  (try simp only [Act.put, List.setIfInBounds_toArray, List.set_cons_zero, List.set_cons_succ])
  go_cut [19] (fun v19 wc => ∃ (kq : Nat) (x19_2 : Bool), v19 = .bool x19_2 ∧ Aside0 (impl_Satisfies.j0 kq l1 x19_2 a0_0 l0_1 = some r) ∧ Aside0 (kq ≤ k) ∧ Aside0 (wc.heap[gb324]? = some (.cells #[.int .i64 a0_0, (.slice A0_1 l0_1.length c0_1)] 26 (0, 0))) ∧ Aside0 (Below w.heap.size w wc))
  case first =>
    have H := HC3.out
    clear HC3
    obtain ⟨t325, A50, H⟩ := Option.bind_eq_some_iff.mp H
    have A5 := Aside0.mk A50
    clear A50
    by_cases c6 : t325 = true
    · subst c6
      rw [if_pos rfl] at H
      obtain ⟨t326, A70, H⟩ := Option.bind_eq_some_iff.mp H
      have A7 := Aside0.mk A70
      clear A70
      have H' := Aside0.mk H
      clear H
      have hcz8_0 : w4.cell? ⟨gb324, 0, none⟩ = some (.int .i64 a0_0) := bc BK324
      have hcz8_1 : w4.cell? ⟨gb324, 1, none⟩ = some (.slice A0_1 l0_1.length c0_1) := bc BK324
      have hfz8_0 := blk_frozen BK324.out 0
      have hfz8_1 := blk_frozen BK324.out 1
      go_wp2_with (first | ((with_reducible refine gC 25 ?_); refine GL (some 11) Try.func25 #[.agg #[.int .i64 a0_0, .slice A0_1 l0_1.length c0_1]] ?_; (with_reducible refine (impl_IsFormula.calls k a0_0 _ _ l0_1 true _ ?side1 ?side2 A5.out).mono ?_); (case side1 => exact Kd.C_below HR0_1.out Hb); (case side2 => exact HC0_1.out); rintro e w9 ⟨rfl, hb⟩; refine ⟨_, rfl, ?_⟩; replace BK324 := Aside0.mk (blk_below (B1 BK324) hb); replace HB := Aside0.mk (below_step Hb hb); (try clear hb); (try clear hb2); (try clear hk); (try clear hi); have hcz10_0 : w9.cell? ⟨gb324, 0, none⟩ = some (.int .i64 a0_0) := bc BK324; have hcz10_1 : w9.cell? ⟨gb324, 1, none⟩ = some (.slice A0_1 l0_1.length c0_1) := bc BK324; have hfz10_0 := blk_frozen BK324.out 0; have hfz10_1 := blk_frozen BK324.out 1) | (go_at_call 23; (with_reducible refine (impl_isAssignment.calls _ _ l1 a0_0 t326 _ ?side1 ?side2 A7.out).mono ?_); (case side1 => exact Kd.C_below HR1.out Hb); (case side2 => exact HC1.out); rintro e w11 ⟨rfl, hb⟩; replace BK324 := Aside0.mk (blk_below (B1 BK324) hb); replace HB := Aside0.mk (below_step Hb hb); (try clear hb); (try clear hb2); (try clear hk); (try clear hi)))
      go_meet
      case rel => exact ⟨_, (!t326), Fs, H', ⟨by first | omega | exact Nat.le_refl _⟩, ⟨B1 BK324⟩, ⟨Hb⟩⟩
    · replace c6 := Bool.eq_false_iff.mpr c6
      subst c6
      rw [if_neg (show ¬ (false = true) by decide)] at H
      have H' := Aside0.mk H
      clear H
      have hcz12_0 : w4.cell? ⟨gb324, 0, none⟩ = some (.int .i64 a0_0) := bc BK324
      have hcz12_1 : w4.cell? ⟨gb324, 1, none⟩ = some (.slice A0_1 l0_1.length c0_1) := bc BK324
      have hfz12_0 := blk_frozen BK324.out 0
      have hfz12_1 := blk_frozen BK324.out 1
      go_wp2_with (first | ((with_reducible refine gC 25 ?_); refine GL (some 11) Try.func25 #[.agg #[.int .i64 a0_0, .slice A0_1 l0_1.length c0_1]] ?_; (with_reducible refine (impl_IsFormula.calls k a0_0 _ _ l0_1 false _ ?side1 ?side2 A5.out).mono ?_); (case side1 => exact Kd.C_below HR0_1.out Hb); (case side2 => exact HC0_1.out); rintro e w13 ⟨rfl, hb⟩; refine ⟨_, rfl, ?_⟩; replace BK324 := Aside0.mk (blk_below (B1 BK324) hb); replace HB := Aside0.mk (below_step Hb hb); (try clear hb); (try clear hb2); (try clear hk); (try clear hi)))
      go_meet
      case rel => exact ⟨_, (true), Fs, H', ⟨by first | omega | exact Nat.le_refl _⟩, ⟨B1 BK324⟩, ⟨Hb⟩⟩
  case rest =>
    clear HC3
    try clear c1
    try clear c2
    try clear p2
    try clear c6
    try clear hcz10_0
    try clear hcz10_1
    try clear hcz12_0
    try clear hcz12_1
    try clear hcz8_0
    try clear hcz8_1
    try clear hfz10_0
    try clear hfz10_1
    try clear hfz12_0
    try clear hfz12_1
    try clear hfz8_0
    try clear hfz8_1
    obtain ⟨kq, x19_2, rfl, HA, HJ2, BK324, HB⟩ := hcut
    cases kq with
    | zero => exact absurd HA.out (by simp [impl_Satisfies.j0])
    | succ kj2 =>
      have H := HA.out
      clear HA
      simp only [impl_Satisfies.j0] at H
      by_cases c14 : x19_2 = true
      · subst c14
        rw [if_pos rfl] at H
        obtain rfl := Option.some.inj H
        go_wp2
        go_ret
        exact ⟨Fin, Hb⟩
      · replace c14 := Bool.eq_false_iff.mpr c14
        subst c14
        rw [if_neg (show ¬ (false = true) by decide)] at H
        have H' := Aside0.mk H
        clear H
        have hcz15_0 : wc.cell? ⟨gb324, 0, none⟩ = some (.int .i64 a0_0) := bc BK324
        have hcz15_1 : wc.cell? ⟨gb324, 1, none⟩ = some (.slice A0_1 l0_1.length c0_1) := bc BK324
        have hfz15_0 := blk_frozen BK324.out 0
        have hfz15_1 := blk_frozen BK324.out 1
        go_wp2
        go_loopg [23] kj2 (fun kq v23 w' => ∃ (x23_2 : Int), v23 = .int .i64 x23_2 ∧ Aside0 (impl_Satisfies.l0 kq l1 l0_1 (l0_1.length : Int) x23_2 = some r) ∧ Aside0 (kq ≤ kj2) ∧ Aside0 (w'.heap[gb324]? = some (.cells #[.int .i64 a0_0, (.slice A0_1 l0_1.length c0_1)] 26 (0, 0))) ∧ Aside0 (Below w.heap.size w w'))
        case atStart => exact ⟨(0), Fs, H', ⟨Nat.le_refl _⟩, ⟨B1 BK324⟩, ⟨Hb⟩⟩
        case round =>
          clear H'
          try clear c1
          try clear c2
          try clear p2
          try clear c6
          try clear c14
          try clear hcz10_0
          try clear hcz10_1
          try clear hcz12_0
          try clear hcz12_1
          try clear hcz15_0
          try clear hcz15_1
          try clear hcz8_0
          try clear hcz8_1
          try clear hfz10_0
          try clear hfz10_1
          try clear hfz12_0
          try clear hfz12_1
          try clear hfz15_0
          try clear hfz15_1
          try clear hfz8_0
          try clear hfz8_1
          try clear p2
          obtain ⟨x23_2, rfl, HA, HK2, BK324, HB⟩ := hrel
          cases gk with
          | zero => exact absurd HA.out (by simp [impl_Satisfies.l0])
          | succ k2 =>
            have H := HA.out
            clear HA
            simp only [impl_Satisfies.l0] at H
            by_cases c16 : x23_2 < (l0_1.length : Int)
            · rw [if_pos c16] at H
              have c16b0 : decide (x23_2 < (l0_1.length : Int)) = true := decide_eq_true c16
              clear c16
              by_cases c17 : 0 ≤ x23_2
              · rw [if_pos c17] at H
                have c17b0 : decide (0 ≤ x23_2) = true := decide_eq_true c17
                clear c17
                by_cases c18 : x23_2 < (l0_1.length : Int)
                · rw [if_pos c18] at H
                  have c18b0 : decide (x23_2 < (l0_1.length : Int)) = true := decide_eq_true c18
                  clear c18
                  obtain ⟨⟨t328, t329, t330⟩, A190, H⟩ := Option.bind_eq_some_iff.mp H
                  dsimp only at H
                  have A19 := Aside0.mk A190
                  clear A190
                  by_cases c20 : t328 = true
                  · subst c20
                    rw [if_pos rfl] at H
                    have H' := Aside0.mk H
                    clear H
                    have p327 : 0 ≤ (x23_2 : Int) := oD
                    have q327 : x23_2 < (l0_1.length : Int) := oD
                    obtain ⟨ad327, A327_0, c327_0, e327, hx327_0, hl327_0, hi327_0⟩ := at_L2 HR0_1.out x23_2 p327 q327
                    cases e327
                    replace hx327_0 := hxb hx327_0
                    have HR327_0 := Aside0.mk hi327_0
                    have HC327_0 := Aside0.mk hl327_0
                    clear hi327_0 hl327_0
                    replace p327 := eq_true p327
                    replace q327 := eq_true q327
                    go_wp2_with (first | ((with_reducible refine gC 17 ?_); refine GL (some 30) Try.func17 #[.slice A1 l1.length c1, .slice A327_0 (rd_L2 l0_1 x23_2).length c327_0] ?_; (with_reducible refine (impl_weigh.calls k2 _ _ l1 _ _ (rd_L2 l0_1 x23_2) true t329 t330 _ ?side1 ?side2 ?side3 ?side4 A19.out).mono ?_); (case side1 => exact Kd.C_below HR1.out Hb); (case side2 => exact HC1.out); (case side3 => exact Kd.C_below HR327_0.out Hb); (case side4 => exact HC327_0.out); rintro e w21 ⟨rfl, hb⟩; refine ⟨_, rfl, ?_⟩; replace BK324 := Aside0.mk (blk_below (B1 BK324) hb); replace HB := Aside0.mk (below_step Hb hb); (try clear hb); (try clear hb2); (try clear hk); (try clear hi)))
                    go_roundg k2
                    case measure => have := HJ2.out; have := HK2.out; omega
                    case rel => exact ⟨(wrap64 (x23_2 + 1)), Fs, H', ⟨by have := HJ2.out; have := HK2.out; omega⟩, ⟨B1 BK324⟩, ⟨Hb⟩⟩
                  · replace c20 := Bool.eq_false_iff.mpr c20
                    subst c20
                    rw [if_neg (show ¬ (false = true) by decide)] at H
                    obtain rfl := Option.some.inj H
                    have p327 : 0 ≤ (x23_2 : Int) := oD
                    have q327 : x23_2 < (l0_1.length : Int) := oD
                    obtain ⟨ad327, A327_0, c327_0, e327, hx327_0, hl327_0, hi327_0⟩ := at_L2 HR0_1.out x23_2 p327 q327
                    cases e327
                    replace hx327_0 := hxb hx327_0
                    have HR327_0 := Aside0.mk hi327_0
                    have HC327_0 := Aside0.mk hl327_0
                    clear hi327_0 hl327_0
                    replace p327 := eq_true p327
                    replace q327 := eq_true q327
                    go_wp2_with (first | ((with_reducible refine gC 17 ?_); refine GL (some 30) Try.func17 #[.slice A1 l1.length c1, .slice A327_0 (rd_L2 l0_1 x23_2).length c327_0] ?_; (with_reducible refine (impl_weigh.calls k2 _ _ l1 _ _ (rd_L2 l0_1 x23_2) false t329 t330 _ ?side1 ?side2 ?side3 ?side4 A19.out).mono ?_); (case side1 => exact Kd.C_below HR1.out Hb); (case side2 => exact HC1.out); (case side3 => exact Kd.C_below HR327_0.out Hb); (case side4 => exact HC327_0.out); rintro e w22 ⟨rfl, hb⟩; refine ⟨_, rfl, ?_⟩; replace BK324 := Aside0.mk (blk_below (B1 BK324) hb); replace HB := Aside0.mk (below_step Hb hb); (try clear hb); (try clear hb2); (try clear hk); (try clear hi)))
                    go_ret
                    exact ⟨Fin, Hb⟩
                · rw [if_neg c18] at H
                  exact absurd H (by simp)
              · rw [if_neg c17] at H
                exact absurd H (by simp)
            · rw [if_neg c16] at H
              have c16b0 : decide (x23_2 < (l0_1.length : Int)) = false := decide_eq_false c16
              clear c16
              obtain rfl := Option.some.inj H
              go_wp2
              go_ret
              exact ⟨Fin, Hb⟩

/-! ### laws_FnUnits: function 3 -/
def laws_FnUnits.l0 : Nat → List Int → List Int → List Int → Int → Int → List (List Int) → Option (Bool)
  | 0, _, _, _, _, _, _ => none
  | k + 1, x4, x7, x9, x18, x340000, x340001 => if x18 < (x7.length : Int) then (if 0 ≤ x18 then (if (rd x7 x18) < 0 then (if 0 ≤ (wrap64 ((wrap64 (-(rd x7 x18))) - 1)) then (if (wrap64 ((wrap64 (-(rd x7 x18))) - 1)) < (x4.length : Int) then (if (rd x4 (wrap64 ((wrap64 (-(rd x7 x18))) - 1))) = (-1) then (laws_FnUnits.l0 k x4 x7 x9 (wrap64 (x18 + 1)) x340000 x340001) else (some false)) else (none)) else (none)) else (if 0 ≤ (wrap64 ((rd x7 x18) - 1)) then (if (wrap64 ((rd x7 x18) - 1)) < (x4.length : Int) then (if (rd x4 (wrap64 ((rd x7 x18) - 1))) = (-1) then (laws_FnUnits.l0 k x4 x7 x9 (wrap64 (x18 + 1)) x340000 x340001) else (some false)) else (none)) else (none))) else (none)) else (if (x9.length : Int) = 0 then (some true) else ((impl_Satisfies.f k x340000 x340001 x4).bind fun t373 => (some (!t373))))
def laws_FnUnits.f (k : Nat) (l0 : List Int) : Option (Bool) := (laws_big.f l0).bind fun t331 => (if t331 = true then (some true) else ((spec_DrawUnitLiterals.f k l0).bind fun bt332 => ((impl_UnitLiterals.f k bt332.1 bt332.2.1 bt332.2.2).bind fun bt340 => ((spec_UnitLiterals.f k bt332.1 bt332.2.1 bt332.2.2).bind fun bt344 => ((impl_FalseClauses.f k bt332.1 bt332.2.1 bt332.2.2).bind fun bt348 => ((spec_FalseClauses.f k bt332.1 bt332.2.1 bt332.2.2).bind fun bt352 => ((spec_DrawSelectionOf.f k l0).bind fun t356 => ((impl_SelectionOf.f k t356).bind fun bt359 => ((spec_SelectionOf.f k t356).bind fun bt363 => (if bt340.2 = bt344.2 then ((laws_likeInts.f k bt340.1 bt344.1).bind fun t367 => (if t367 = true then (if bt348.2 = bt352.2 then ((laws_likeInts.f k bt348.1 bt352.1).bind fun t368 => (if t368 = true then (if bt359.2 = bt363.2 then ((laws_likeInts.f k bt359.1 bt363.1).bind fun t369 => (if t369 = true then (if bt340.2 = 0 then (laws_FnUnits.l0 k bt332.2.2 bt344.1 bt348.1 0 bt332.1 bt332.2.1) else (some true)) else (some false))) else (some false)) else (some false))) else (some false)) else (some false))) else (some false)))))))))))
theorem laws_FnUnits.mono_l : ∀ k, (∀ y0 y1 y2 y3 y4 y5, LeO (laws_FnUnits.l0 k y0 y1 y2 y3 y4 y5) (laws_FnUnits.l0 (k + 1) y0 y1 y2 y3 y4 y5))
  | 0 => fun _ _ _ _ _ _ r h => by simp [laws_FnUnits.l0] at h
  | k + 1 => by
    have ih0 := laws_FnUnits.mono_l k
    · intro y0 y1 y2 y3 y4 y5
      unfold laws_FnUnits.l0
      repeat' first
      | (with_reducible exact ih0 _ _ _ _ _ _)
      | (with_reducible exact impl_FalseClauses.mono _ _ _ _)
      | (with_reducible exact impl_Satisfies.mono _ _ _ _)
      | (with_reducible exact impl_SelectionOf.mono _ _)
      | (with_reducible exact impl_UnitLiterals.mono _ _ _ _)
      | (with_reducible exact laws_likeInts.mono _ _ _)
      | (with_reducible exact spec_DrawSelectionOf.mono _ _)
      | (with_reducible exact spec_DrawUnitLiterals.mono _ _)
      | (with_reducible exact spec_FalseClauses.mono _ _ _ _)
      | (with_reducible exact spec_SelectionOf.mono _ _)
      | (with_reducible exact spec_UnitLiterals.mono _ _ _ _)
      | (with_reducible exact LeO.refl _)
      | (with_reducible exact LeO.none _)
      | (with_reducible refine LeO.ite ?_ ?_)
      | (with_reducible refine LeO.bind ?_ (fun _ => ?_))
      | exact ih0 _ _ _ _ _ _
      | exact impl_FalseClauses.mono _ _ _ _
      | exact impl_Satisfies.mono _ _ _ _
      | exact impl_SelectionOf.mono _ _
      | exact impl_UnitLiterals.mono _ _ _ _
      | exact laws_likeInts.mono _ _ _
      | exact spec_DrawSelectionOf.mono _ _
      | exact spec_DrawUnitLiterals.mono _ _
      | exact spec_FalseClauses.mono _ _ _ _
      | exact spec_SelectionOf.mono _ _
      | exact spec_UnitLiterals.mono _ _ _ _
      | exact LeO.none _
      | refine LeO.ite ?_ ?_
      | refine LeO.bind ?_ (fun _ => ?_)
theorem laws_FnUnits.mono : ∀ a0 k, LeO (laws_FnUnits.f k a0) (laws_FnUnits.f (k + 1) a0) := by
  intro a0 k
  have ih0 := laws_FnUnits.mono_l k
  unfold laws_FnUnits.f
  repeat' first
      | (with_reducible exact ih0 _ _ _ _ _ _)
      | (with_reducible exact impl_FalseClauses.mono _ _ _ _)
      | (with_reducible exact impl_Satisfies.mono _ _ _ _)
      | (with_reducible exact impl_SelectionOf.mono _ _)
      | (with_reducible exact impl_UnitLiterals.mono _ _ _ _)
      | (with_reducible exact laws_likeInts.mono _ _ _)
      | (with_reducible exact spec_DrawSelectionOf.mono _ _)
      | (with_reducible exact spec_DrawUnitLiterals.mono _ _)
      | (with_reducible exact spec_FalseClauses.mono _ _ _ _)
      | (with_reducible exact spec_SelectionOf.mono _ _)
      | (with_reducible exact spec_UnitLiterals.mono _ _ _ _)
      | (with_reducible exact LeO.refl _)
      | (with_reducible exact LeO.none _)
      | (with_reducible refine LeO.ite ?_ ?_)
      | (with_reducible refine LeO.bind ?_ (fun _ => ?_))
      | exact ih0 _ _ _ _ _ _
      | exact impl_FalseClauses.mono _ _ _ _
      | exact impl_Satisfies.mono _ _ _ _
      | exact impl_SelectionOf.mono _ _
      | exact impl_UnitLiterals.mono _ _ _ _
      | exact laws_likeInts.mono _ _ _
      | exact spec_DrawSelectionOf.mono _ _
      | exact spec_DrawUnitLiterals.mono _ _
      | exact spec_FalseClauses.mono _ _ _ _
      | exact spec_SelectionOf.mono _ _
      | exact spec_UnitLiterals.mono _ _ _ _
      | exact LeO.none _
      | refine LeO.ite ?_ ?_
      | refine LeO.bind ?_ (fun _ => ?_)
set_option maxHeartbeats 8000000 in
set_option maxRecDepth 100000 in
theorem laws_FnUnits.calls (k : Nat) (A0 : Option Addr) (c0 : Nat) (l0 : List Int) (r : Bool) (w : World) (hrt : r = true) (hr0 : Kd.C (Kd.int .u8) w A0 l0.length l0) (hc0 : l0.length ≤ c0) (h : laws_FnUnits.f k l0 = some r) :
    Calls Try.prog 3 #[.slice A0 l0.length c0] w fun e w' => e = .returned (.bool r) ∧ Below w.heap.size w w' := by
  have hu26 := Try.underlying26
  have HR0 := Aside0.mk hr0
  have HC0 := Aside0.mk hc0
  clear hr0 hc0
  have HB := Aside0.mk (Below.refl w.heap.size w)
  have H : ((laws_big.f l0).bind fun t331 => (if t331 = true then (some true) else ((spec_DrawUnitLiterals.f k l0).bind fun bt332 => ((impl_UnitLiterals.f k bt332.1 bt332.2.1 bt332.2.2).bind fun bt340 => ((spec_UnitLiterals.f k bt332.1 bt332.2.1 bt332.2.2).bind fun bt344 => ((impl_FalseClauses.f k bt332.1 bt332.2.1 bt332.2.2).bind fun bt348 => ((spec_FalseClauses.f k bt332.1 bt332.2.1 bt332.2.2).bind fun bt352 => ((spec_DrawSelectionOf.f k l0).bind fun t356 => ((impl_SelectionOf.f k t356).bind fun bt359 => ((spec_SelectionOf.f k t356).bind fun bt363 => (if bt340.2 = bt344.2 then ((laws_likeInts.f k bt340.1 bt344.1).bind fun t367 => (if t367 = true then (if bt348.2 = bt352.2 then ((laws_likeInts.f k bt348.1 bt352.1).bind fun t368 => (if t368 = true then (if bt359.2 = bt363.2 then ((laws_likeInts.f k bt359.1 bt363.1).bind fun t369 => (if t369 = true then (if bt340.2 = 0 then (laws_FnUnits.l0 k bt332.2.2 bt344.1 bt348.1 0 bt332.1 bt332.2.1) else (some true)) else (some false))) else (some false)) else (some false))) else (some false)) else (some false))) else (some false)))))))))))) = some r := h
  clear h
  obtain ⟨t331, A20, H⟩ := Option.bind_eq_some_iff.mp H
  have A2 := Aside0.mk A20
  clear A20
  by_cases c3 : t331 = true
  · subst c3
    rw [if_pos rfl] at H
    obtain rfl := Option.some.inj H
    go_enter Try.func3, Try.ntmps3
    go_wp2_with (first | ((with_reducible refine gC 4 ?_); refine GL (some 21) Try.func4 #[.slice A0 l0.length c0] ?_; (with_reducible refine (laws_big.calls _ _ l0 true _ ?side1 ?side2 A2.out).mono ?_); (case side1 => exact Ck HR0.out); (case side2 => exact HC0.out); rintro e w' ⟨rfl, ⟨nd, rfl⟩⟩; refine ⟨_, rfl, ?_⟩))
    go_ret
    exact ⟨Fin, Hb⟩
  · replace c3 := Bool.eq_false_iff.mpr c3
    subst c3
    rw [if_neg (show ¬ (false = true) by decide)] at H
    obtain ⟨⟨t332, t333, t336⟩, A40, H⟩ := Option.bind_eq_some_iff.mp H
    dsimp only at H
    have A4 := Aside0.mk A40
    clear A40
    obtain ⟨⟨t340, t343⟩, A50, H⟩ := Option.bind_eq_some_iff.mp H
    dsimp only at H
    have A5 := Aside0.mk A50
    clear A50
    obtain ⟨⟨t344, t347⟩, A60, H⟩ := Option.bind_eq_some_iff.mp H
    dsimp only at H
    have A6 := Aside0.mk A60
    clear A60
    obtain ⟨⟨t348, t351⟩, A70, H⟩ := Option.bind_eq_some_iff.mp H
    dsimp only at H
    have A7 := Aside0.mk A70
    clear A70
    obtain ⟨⟨t352, t355⟩, A80, H⟩ := Option.bind_eq_some_iff.mp H
    dsimp only at H
    have A8 := Aside0.mk A80
    clear A80
    obtain ⟨t356, A90, H⟩ := Option.bind_eq_some_iff.mp H
    have A9 := Aside0.mk A90
    clear A90
    obtain ⟨⟨t359, t360⟩, A100, H⟩ := Option.bind_eq_some_iff.mp H
    dsimp only at H
    have A10 := Aside0.mk A100
    clear A100
    obtain ⟨⟨t363, t364⟩, A110, H⟩ := Option.bind_eq_some_iff.mp H
    dsimp only at H
    have A11 := Aside0.mk A110
    clear A110
    by_cases c12 : t343 = t347
    · rw [if_pos c12] at H
      have c12b0 : (t343 == t347) = true := beq_iff_eq.mpr c12
      have c12b1 : (t343 != t347) = false := bne_eq_false_iff_eq.mpr c12
      clear c12
      obtain ⟨t367, A130, H⟩ := Option.bind_eq_some_iff.mp H
      have A13 := Aside0.mk A130
      clear A130
      by_cases c14 : t367 = true
      · subst c14
        rw [if_pos rfl] at H
        by_cases c15 : t351 = t355
        · rw [if_pos c15] at H
          have c15b0 : (t351 == t355) = true := beq_iff_eq.mpr c15
          have c15b1 : (t351 != t355) = false := bne_eq_false_iff_eq.mpr c15
          clear c15
          obtain ⟨t368, A160, H⟩ := Option.bind_eq_some_iff.mp H
          have A16 := Aside0.mk A160
          clear A160
          by_cases c17 : t368 = true
          · subst c17
            rw [if_pos rfl] at H
            by_cases c18 : t360 = t364
            · rw [if_pos c18] at H
              have c18b0 : (t360 == t364) = true := beq_iff_eq.mpr c18
              have c18b1 : (t360 != t364) = false := bne_eq_false_iff_eq.mpr c18
              clear c18
              obtain ⟨t369, A190, H⟩ := Option.bind_eq_some_iff.mp H
              have A19 := Aside0.mk A190
              clear A190
              by_cases c20 : t369 = true
              · subst c20
                rw [if_pos rfl] at H
                by_cases c21 : t343 = 0
                · rw [if_pos c21] at H
                  have c21b0 : (t343 == 0) = true := beq_iff_eq.mpr c21
                  have c21b1 : (t343 != 0) = false := bne_eq_false_iff_eq.mpr c21
                  clear c21
                  have H' := Aside0.mk H
                  clear H
                  go_enter Try.func3, Try.ntmps3
                  go_wp2_with (first | ((with_reducible refine gC 4 ?_); refine GL (some 21) Try.func4 #[.slice A0 l0.length c0] ?_; (with_reducible refine (laws_big.calls _ _ l0 false _ ?side1 ?side2 A2.out).mono ?_); (case side1 => exact Ck HR0.out); (case side2 => exact HC0.out); rintro e w' ⟨rfl, ⟨nd, rfl⟩⟩; refine ⟨_, rfl, ?_⟩; skip) | ((with_reducible refine gC 5 ?_); refine GL (some 24) Try.func5 #[.slice A0 l0.length c0] ?_; (with_reducible refine (spec_DrawUnitLiterals.calls k _ _ l0 t332 t333 t336 _ ?side1 ?side2 A4.out).mono ?_); (case side1 => exact Ck HR0.out); (case side2 => exact HC0.out); rintro e w22 ⟨v334, v337, rfl, ho0, ho1, hb⟩; refine ⟨_, rfl, ?_⟩; have HO335 := Aside0.mk (Kd.S_lower ho0 (below_size Hb)); have HO338 := Aside0.mk (Kd.R_lower ho1 (below_size Hb)); replace HB := Aside0.mk (below_step Hb hb); (try clear hb); (try clear hb2); (try clear hk); (try clear hi); (try clear ho0); (try clear ho1)) | ((with_reducible refine gD 3 ?_); refine BX #[.int .i64 0, .slice none 0 0] 26 ?_; intro gb339 hg w23 hbox hb; replace HO335 := Aside0.mk (Kd.S_below (S1 HO335) hb); replace HO338 := Aside0.mk (Kd.R_below (R1 HO338) hb); have BK339 := Aside0.mk (hbox); have GW339 := Aside0.mk ((Gle hg Hb : w.heap.size ≤ gb339)); have GE339 := Aside0.mk ((Gle hg Hb : w.heap.size ≤ gb339)); replace HB := Aside0.mk (below_step Hb hb); clear hb hbox hg; have hcz24_0 : w23.cell? ⟨gb339, 0, none⟩ = some (.int .i64 0) := bc BK339; have hcz24_1 : w23.cell? ⟨gb339, 1, none⟩ = some (.slice none 0 0) := bc BK339; have hfz24_0 := blk_frozen BK339.out 0; have hfz24_1 := blk_frozen BK339.out 1; obtain ⟨Ao25, co25, eo25⟩ := Kd.S_slice HO335.out; subst eo25; obtain ⟨Ao26, co26, eo26⟩ := Kd.R_slice HO338.out; subst eo26) | ((with_reducible refine gC 6 ?_); refine GL (some 30) Try.func6 #[.agg #[.int .i64 t332, .slice Ao25 t333.length co25], .slice Ao26 t336.length co26] ?_; (with_reducible refine (impl_UnitLiterals.calls k t332 _ _ t333 _ _ t336 t340 t343 _ ?side1 ?side2 ?side3 ?side4 A5.out).mono ?_); (case side1 => refine (Kd.S_reads' (e := 27) (base := w.heap.size) (ok := fun k_ => some k_ ≠ (.slice Ao26 t336.length co26 : Value).ownBlock) (n := t333.length) (c := co25) ?_).2.2; exact (by (with_reducible repeat (first | apply Kd.S_alloc | apply Kd.S_drewN | apply Kd.S_drew)); exact (Kd.S_mono (Kd.S_far (p := ⟨gb339, 1, none⟩) (Kd.S_far (p := ⟨gb339, 0, none⟩) (Kd.S_types HO335.out BK339.out (by decide)) (fun _ hk => hk.2) (.int .i64 t332)) (fun _ hk => hk.2) (.slice Ao25 t333.length co25)) (fun _ h_ => h_.1)))); (case side2 => exact (Kd.S_reads' HO335.out).2.1); (case side3 => refine (Kd.R_reads' (e := 2) (base := w.heap.size) (ok := fun k_ => True) (n := t336.length) (c := co26) ?_).2.2; exact (by (with_reducible repeat (first | apply Kd.R_alloc | apply Kd.R_drewN | apply Kd.R_drew)); exact (Kd.R_mono (Kd.R_far (p := ⟨gb339, 1, none⟩) (Kd.R_far (p := ⟨gb339, 0, none⟩) (Kd.R_types HO338.out BK339.out (by decide)) (fun _ hk => hk.2) (.int .i64 t332)) (fun _ hk => hk.2) (.slice Ao25 t333.length co25)) (fun _ h_ => h_.1)))); (case side4 => exact (Kd.R_reads' HO338.out).2.1); rintro e w27 ⟨v341, rfl, ho0, hb⟩; refine ⟨_, rfl, ?_⟩; replace HO335 := Aside0.mk (Kd.S_elder' (by (with_reducible repeat (first | apply Kd.S_alloc | apply Kd.S_drewN | apply Kd.S_drew)); exact (Kd.S_mono (Kd.S_far (p := ⟨gb339, 1, none⟩) (Kd.S_far (p := ⟨gb339, 0, none⟩) (Kd.S_types HO335.out BK339.out (by decide)) (fun _ hk => hk.2) (.int .i64 t332)) (fun _ hk => hk.2) (.slice Ao25 t333.length co25)) (fun _ h_ => h_.1))) (Kd.R_base ho0) hb); have HO342 := Aside0.mk (Kd.R_lower (Kd.R_new' ho0 (Kd.R_lt (by (with_reducible repeat (first | apply Kd.R_alloc | apply Kd.R_drewN | apply Kd.R_drew)); exact (Kd.R_mono (Kd.R_far (p := ⟨gb339, 1, none⟩) (Kd.R_far (p := ⟨gb339, 0, none⟩) (Kd.R_types HO338.out BK339.out (by decide)) (fun _ hk => hk.2) (.int .i64 t332)) (fun _ hk => hk.2) (.slice Ao25 t333.length co25)) (fun _ h_ => h_.1))))) (below_size Hb)); replace HO338 := Aside0.mk (Kd.R_elder' (by (with_reducible repeat (first | apply Kd.R_alloc | apply Kd.R_drewN | apply Kd.R_drew)); exact (Kd.R_mono (Kd.R_far (p := ⟨gb339, 1, none⟩) (Kd.R_far (p := ⟨gb339, 0, none⟩) (Kd.R_types HO338.out BK339.out (by decide)) (fun _ hk => hk.2) (.int .i64 t332)) (fun _ hk => hk.2) (.slice Ao25 t333.length co25)) (fun _ h_ => h_.1))) (Kd.R_base ho0) hb); replace BK339 := Aside0.mk (blk_below (g := gb339) (o := .cells #[.int .i64 t332, .slice Ao25 t333.length co25] 26 (0, 0)) (by (with_reducible repeat (first | apply blk_drewN | apply blk_drew | apply blk_alloc)); refine blk_put (cs := #[.int .i64 t332, .slice none 0 0]) ?_ 1 _ rfl; (with_reducible repeat (first | apply blk_drewN | apply blk_drew | apply blk_alloc)); refine blk_put (cs := #[.int .i64 0, .slice none 0 0]) ?_ 0 _ rfl; (with_reducible repeat (first | apply blk_drewN | apply blk_drew | apply blk_alloc)); exact BK339.out) hb); replace HB := Aside0.mk (below_step Hb hb); (try clear hb); (try clear hb2); (try clear hk); (try clear hi); (try clear ho0); have hcz28_0 : w27.cell? ⟨gb339, 0, none⟩ = some (.int .i64 t332) := bc BK339; have hcz28_1 : w27.cell? ⟨gb339, 1, none⟩ = some (.slice Ao25 t333.length co25) := bc BK339; have hfz28_0 := blk_frozen BK339.out 0; have hfz28_1 := blk_frozen BK339.out 1) | ((with_reducible refine gC 7 ?_); refine GL (some 36) Try.func7 #[.agg #[.int .i64 t332, .slice Ao25 t333.length co25], .slice Ao26 t336.length co26] ?_; (with_reducible refine (spec_UnitLiterals.calls k t332 _ _ t333 _ _ t336 t344 t347 _ ?side1 ?side2 ?side3 ?side4 A6.out).mono ?_); (case side1 => exact Ck (Kd.S_reads' HO335.out).2.2); (case side2 => exact (Kd.S_reads' HO335.out).2.1); (case side3 => exact Ck (Kd.R_reads' HO338.out).2.2); (case side4 => exact (Kd.R_reads' HO338.out).2.1); rintro e w29 ⟨v345, rfl, ho0, hb⟩; refine ⟨_, rfl, ?_⟩; replace HO335 := Aside0.mk (Kd.S_elder' (S1 HO335) (Kd.R_base ho0) hb); have HO346 := Aside0.mk (Kd.R_lower (Kd.R_new' (Kd.R_new' ho0 (Kd.R_lt (R1 HO338))) (Kd.R_lt (R1 HO342))) (below_size Hb)); replace HO338 := Aside0.mk (Kd.R_elder' (R1 HO338) (Kd.R_base ho0) hb); replace HO342 := Aside0.mk (Kd.R_elder' (R1 HO342) (Kd.R_base ho0) hb); replace BK339 := Aside0.mk (blk_below (B1 BK339) hb); replace HB := Aside0.mk (below_step Hb hb); (try clear hb); (try clear hb2); (try clear hk); (try clear hi); (try clear ho0); have hcz30_0 : w29.cell? ⟨gb339, 0, none⟩ = some (.int .i64 t332) := bc BK339; have hcz30_1 : w29.cell? ⟨gb339, 1, none⟩ = some (.slice Ao25 t333.length co25) := bc BK339; have hfz30_0 := blk_frozen BK339.out 0; have hfz30_1 := blk_frozen BK339.out 1) | ((with_reducible refine gC 8 ?_); refine GL (some 42) Try.func8 #[.agg #[.int .i64 t332, .slice Ao25 t333.length co25], .slice Ao26 t336.length co26] ?_; (with_reducible refine (impl_FalseClauses.calls k t332 _ _ t333 _ _ t336 t348 t351 _ ?side1 ?side2 ?side3 ?side4 A7.out).mono ?_); (case side1 => exact Ck (Kd.S_reads' HO335.out).2.2); (case side2 => exact (Kd.S_reads' HO335.out).2.1); (case side3 => exact Ck (Kd.R_reads' HO338.out).2.2); (case side4 => exact (Kd.R_reads' HO338.out).2.1); rintro e w31 ⟨v349, rfl, ho0, hb⟩; refine ⟨_, rfl, ?_⟩; replace HO335 := Aside0.mk (Kd.S_elder' (S1 HO335) (Kd.R_base ho0) hb); have HO350 := Aside0.mk (Kd.R_lower (Kd.R_new' (Kd.R_new' (Kd.R_new' ho0 (Kd.R_lt (R1 HO338))) (Kd.R_lt (R1 HO342))) (Kd.R_lt (R1 HO346))) (below_size Hb)); replace HO338 := Aside0.mk (Kd.R_elder' (R1 HO338) (Kd.R_base ho0) hb); replace HO342 := Aside0.mk (Kd.R_elder' (R1 HO342) (Kd.R_base ho0) hb); replace HO346 := Aside0.mk (Kd.R_elder' (R1 HO346) (Kd.R_base ho0) hb); replace BK339 := Aside0.mk (blk_below (B1 BK339) hb); replace HB := Aside0.mk (below_step Hb hb); (try clear hb); (try clear hb2); (try clear hk); (try clear hi); (try clear ho0); have hcz32_0 : w31.cell? ⟨gb339, 0, none⟩ = some (.int .i64 t332) := bc BK339; have hcz32_1 : w31.cell? ⟨gb339, 1, none⟩ = some (.slice Ao25 t333.length co25) := bc BK339; have hfz32_0 := blk_frozen BK339.out 0; have hfz32_1 := blk_frozen BK339.out 1) | ((with_reducible refine gC 9 ?_); refine GL (some 48) Try.func9 #[.agg #[.int .i64 t332, .slice Ao25 t333.length co25], .slice Ao26 t336.length co26] ?_; (with_reducible refine (spec_FalseClauses.calls k t332 _ _ t333 _ _ t336 t352 t355 _ ?side1 ?side2 ?side3 ?side4 A8.out).mono ?_); (case side1 => exact Ck (Kd.S_reads' HO335.out).2.2); (case side2 => exact (Kd.S_reads' HO335.out).2.1); (case side3 => exact Ck (Kd.R_reads' HO338.out).2.2); (case side4 => exact (Kd.R_reads' HO338.out).2.1); rintro e w33 ⟨v353, rfl, ho0, hb⟩; refine ⟨_, rfl, ?_⟩; replace HO335 := Aside0.mk (Kd.S_elder' (S1 HO335) (Kd.R_base ho0) hb); have HO354 := Aside0.mk (Kd.R_lower (Kd.R_new' (Kd.R_new' (Kd.R_new' (Kd.R_new' ho0 (Kd.R_lt (R1 HO338))) (Kd.R_lt (R1 HO342))) (Kd.R_lt (R1 HO346))) (Kd.R_lt (R1 HO350))) (below_size Hb)); replace HO338 := Aside0.mk (Kd.R_elder' (R1 HO338) (Kd.R_base ho0) hb); replace HO342 := Aside0.mk (Kd.R_elder' (R1 HO342) (Kd.R_base ho0) hb); replace HO346 := Aside0.mk (Kd.R_elder' (R1 HO346) (Kd.R_base ho0) hb); replace HO350 := Aside0.mk (Kd.R_elder' (R1 HO350) (Kd.R_base ho0) hb); replace BK339 := Aside0.mk (blk_below (B1 BK339) hb); replace HB := Aside0.mk (below_step Hb hb); (try clear hb); (try clear hb2); (try clear hk); (try clear hi); (try clear ho0)) | ((with_reducible refine gC 10 ?_); refine GL (some 52) Try.func10 #[.slice A0 l0.length c0] ?_; (with_reducible refine (spec_DrawSelectionOf.calls k _ _ l0 t356 _ ?side1 ?side2 A9.out).mono ?_); (case side1 => exact Kd.C_below HR0.out Hb); (case side2 => exact HC0.out); rintro e w34 ⟨v357, rfl, ho0, hb⟩; refine ⟨_, rfl, ?_⟩; replace HO335 := Aside0.mk (Kd.S_elder' (S1 HO335) (Kd.R_base ho0) hb); have HO358 := Aside0.mk (Kd.R_lower (Kd.R_new' (Kd.R_new' (Kd.R_new' (Kd.R_new' (Kd.R_new' ho0 (Kd.R_lt (R1 HO338))) (Kd.R_lt (R1 HO342))) (Kd.R_lt (R1 HO346))) (Kd.R_lt (R1 HO350))) (Kd.R_lt (R1 HO354))) (below_size Hb)); replace HO338 := Aside0.mk (Kd.R_elder' (R1 HO338) (Kd.R_base ho0) hb); replace HO342 := Aside0.mk (Kd.R_elder' (R1 HO342) (Kd.R_base ho0) hb); replace HO346 := Aside0.mk (Kd.R_elder' (R1 HO346) (Kd.R_base ho0) hb); replace HO350 := Aside0.mk (Kd.R_elder' (R1 HO350) (Kd.R_base ho0) hb); replace HO354 := Aside0.mk (Kd.R_elder' (R1 HO354) (Kd.R_base ho0) hb); replace BK339 := Aside0.mk (blk_below (B1 BK339) hb); replace HB := Aside0.mk (below_step Hb hb); (try clear hb); (try clear hb2); (try clear hk); (try clear hi); (try clear ho0); obtain ⟨Ao35, co35, eo35⟩ := Kd.R_slice HO358.out; subst eo35) | ((with_reducible refine gC 11 ?_); refine GL (some 55) Try.func11 #[.slice Ao35 t356.length co35] ?_; (with_reducible refine (impl_SelectionOf.calls k _ _ t356 t359 t360 _ ?side1 ?side2 A10.out).mono ?_); (case side1 => exact Ck (Kd.R_reads' HO358.out).2.2); (case side2 => exact (Kd.R_reads' HO358.out).2.1); rintro e w36 ⟨v361, rfl, ho0, hb⟩; refine ⟨_, rfl, ?_⟩; replace HO335 := Aside0.mk (Kd.S_elder' (S1 HO335) (Kd.R_base ho0) hb); have HO362 := Aside0.mk (Kd.R_lower (Kd.R_new' (Kd.R_new' (Kd.R_new' (Kd.R_new' (Kd.R_new' (Kd.R_new' ho0 (Kd.R_lt (R1 HO338))) (Kd.R_lt (R1 HO342))) (Kd.R_lt (R1 HO346))) (Kd.R_lt (R1 HO350))) (Kd.R_lt (R1 HO354))) (Kd.R_lt (R1 HO358))) (below_size Hb)); replace HO338 := Aside0.mk (Kd.R_elder' (R1 HO338) (Kd.R_base ho0) hb); replace HO342 := Aside0.mk (Kd.R_elder' (R1 HO342) (Kd.R_base ho0) hb); replace HO346 := Aside0.mk (Kd.R_elder' (R1 HO346) (Kd.R_base ho0) hb); replace HO350 := Aside0.mk (Kd.R_elder' (R1 HO350) (Kd.R_base ho0) hb); replace HO354 := Aside0.mk (Kd.R_elder' (R1 HO354) (Kd.R_base ho0) hb); replace HO358 := Aside0.mk (Kd.R_elder' (R1 HO358) (Kd.R_base ho0) hb); replace BK339 := Aside0.mk (blk_below (B1 BK339) hb); replace HB := Aside0.mk (below_step Hb hb); (try clear hb); (try clear hb2); (try clear hk); (try clear hi); (try clear ho0)) | ((with_reducible refine gC 12 ?_); refine GL (some 60) Try.func12 #[.slice Ao35 t356.length co35] ?_; (with_reducible refine (spec_SelectionOf.calls k _ _ t356 t363 t364 _ ?side1 ?side2 A11.out).mono ?_); (case side1 => exact Ck (Kd.R_reads' HO358.out).2.2); (case side2 => exact (Kd.R_reads' HO358.out).2.1); rintro e w37 ⟨v365, rfl, ho0, hb⟩; refine ⟨_, rfl, ?_⟩; replace HO335 := Aside0.mk (Kd.S_elder' (S1 HO335) (Kd.R_base ho0) hb); have HO366 := Aside0.mk (Kd.R_lower (Kd.R_new' (Kd.R_new' (Kd.R_new' (Kd.R_new' (Kd.R_new' (Kd.R_new' (Kd.R_new' ho0 (Kd.R_lt (R1 HO338))) (Kd.R_lt (R1 HO342))) (Kd.R_lt (R1 HO346))) (Kd.R_lt (R1 HO350))) (Kd.R_lt (R1 HO354))) (Kd.R_lt (R1 HO358))) (Kd.R_lt (R1 HO362))) (below_size Hb)); replace HO338 := Aside0.mk (Kd.R_elder' (R1 HO338) (Kd.R_base ho0) hb); replace HO342 := Aside0.mk (Kd.R_elder' (R1 HO342) (Kd.R_base ho0) hb); replace HO346 := Aside0.mk (Kd.R_elder' (R1 HO346) (Kd.R_base ho0) hb); replace HO350 := Aside0.mk (Kd.R_elder' (R1 HO350) (Kd.R_base ho0) hb); replace HO354 := Aside0.mk (Kd.R_elder' (R1 HO354) (Kd.R_base ho0) hb); replace HO358 := Aside0.mk (Kd.R_elder' (R1 HO358) (Kd.R_base ho0) hb); replace HO362 := Aside0.mk (Kd.R_elder' (R1 HO362) (Kd.R_base ho0) hb); replace BK339 := Aside0.mk (blk_below (B1 BK339) hb); replace HB := Aside0.mk (below_step Hb hb); (try clear hb); (try clear hb2); (try clear hk); (try clear hi); (try clear ho0); obtain ⟨Ao38, co38, eo38⟩ := Kd.R_slice HO342.out; subst eo38; obtain ⟨Ao39, co39, eo39⟩ := Kd.R_slice HO346.out; subst eo39) | (go_at_call 13; (with_reducible refine (laws_likeInts.calls k _ _ t340 _ _ t344 true _ ?side1 ?side2 ?side3 ?side4 A13.out).mono ?_); (case side1 => exact Ck (Kd.R_reads' HO342.out).2.2); (case side2 => exact (Kd.R_reads' HO342.out).2.1); (case side3 => exact Ck (Kd.R_reads' HO346.out).2.2); (case side4 => exact (Kd.R_reads' HO346.out).2.1); rintro e w' ⟨rfl, ⟨nd, rfl⟩⟩; obtain ⟨Ao40, co40, eo40⟩ := Kd.R_slice HO350.out; subst eo40; obtain ⟨Ao41, co41, eo41⟩ := Kd.R_slice HO354.out; subst eo41) | (go_at_call 13; (with_reducible refine (laws_likeInts.calls k _ _ t348 _ _ t352 true _ ?side1 ?side2 ?side3 ?side4 A16.out).mono ?_); (case side1 => exact Ck (Kd.R_reads' HO350.out).2.2); (case side2 => exact (Kd.R_reads' HO350.out).2.1); (case side3 => exact Ck (Kd.R_reads' HO354.out).2.2); (case side4 => exact (Kd.R_reads' HO354.out).2.1); rintro e w' ⟨rfl, ⟨nd, rfl⟩⟩; obtain ⟨Ao42, co42, eo42⟩ := Kd.R_slice HO362.out; subst eo42; obtain ⟨Ao43, co43, eo43⟩ := Kd.R_slice HO366.out; subst eo43) | (go_at_call 13; (with_reducible refine (laws_likeInts.calls k _ _ t359 _ _ t363 true _ ?side1 ?side2 ?side3 ?side4 A19.out).mono ?_); (case side1 => exact Ck (Kd.R_reads' HO362.out).2.2); (case side2 => exact (Kd.R_reads' HO362.out).2.1); (case side3 => exact Ck (Kd.R_reads' HO366.out).2.2); (case side4 => exact (Kd.R_reads' HO366.out).2.1); rintro e w' ⟨rfl, ⟨nd, rfl⟩⟩))
                  go_loopg [18] k (fun kq v18 w' => ∃ (x18_1 : Int), v18 = .int .i64 x18_1 ∧ Aside0 (laws_FnUnits.l0 kq t336 t344 t348 x18_1 t332 t333 = some r) ∧ Aside0 (kq ≤ k) ∧ Aside0 (Kd.R (Kd.int .i64) 2 w' w.heap.size (fun k_ => some k_ ≠ ((.slice Ao39 t344.length co39) : Value).ownBlock ∧ some k_ ≠ ((.slice Ao40 t348.length co40) : Value).ownBlock) (.slice Ao26 t336.length co26) t336) ∧ Aside0 (Kd.R (Kd.int .i64) 2 w' w.heap.size (fun k_ => some k_ ≠ ((.slice Ao26 t336.length co26) : Value).ownBlock ∧ some k_ ≠ ((.slice Ao40 t348.length co40) : Value).ownBlock) (.slice Ao39 t344.length co39) t344) ∧ Aside0 (Kd.R (Kd.int .i64) 2 w' w.heap.size (fun k_ => some k_ ≠ ((.slice Ao26 t336.length co26) : Value).ownBlock ∧ some k_ ≠ ((.slice Ao39 t344.length co39) : Value).ownBlock) (.slice Ao40 t348.length co40) t348) ∧ Aside0 (Kd.S (Kd.slice 2 (Kd.int .i64)) 27 w' w.heap.size (fun k_ => some k_ ≠ ((.slice Ao26 t336.length co26) : Value).ownBlock ∧ some k_ ≠ ((.slice Ao39 t344.length co39) : Value).ownBlock ∧ some k_ ≠ ((.slice Ao40 t348.length co40) : Value).ownBlock) (.slice Ao25 t333.length co25) t333) ∧ Aside0 (w'.heap[gb339]? = some (.cells #[.int .i64 t332, (.slice Ao25 t333.length co25)] 26 (0, 0))) ∧ Aside0 (Below w.heap.size w w'))
                  case atStart => exact ⟨(0), Fs, H', ⟨Nat.le_refl _⟩, ⟨by (with_reducible repeat (first | apply Kd.R_alloc | apply Kd.R_drewN | apply Kd.R_drew)); exact Kd.R_mono HO338.out (fun _ hk => ⟨hk.1.1.1.1.1.2, hk.1.1.1.1.2⟩)⟩, ⟨by (with_reducible repeat (first | apply Kd.R_alloc | apply Kd.R_drewN | apply Kd.R_drew)); exact Kd.R_mono HO346.out (fun _ hk => ⟨hk.1.1.1.1.1.1.2, hk.1.1.1.1.2⟩)⟩, ⟨by (with_reducible repeat (first | apply Kd.R_alloc | apply Kd.R_drewN | apply Kd.R_drew)); exact Kd.R_mono HO350.out (fun _ hk => ⟨hk.1.1.1.1.1.1.2, hk.1.1.1.1.2⟩)⟩, ⟨by (with_reducible repeat (first | apply Kd.S_alloc | apply Kd.S_drewN | apply Kd.S_drew)); exact Kd.S_mono HO335.out (fun _ hk => ⟨hk.1.1.1.1.1.1.1, ⟨hk.1.1.1.1.1.2, hk.1.1.1.1.2⟩⟩)⟩, ⟨B1 BK339⟩, ⟨Hb⟩⟩
                  case round =>
                    clear H'
                    try clear c1
                    try clear c2
                    try clear p2
                    try clear c3
                    try clear c4
                    try clear c5
                    try clear c6
                    try clear c7
                    try clear c8
                    try clear c9
                    try clear c10
                    try clear c11
                    try clear c12
                    try clear c12b0
                    try clear c12b1
                    try clear c14
                    try clear c15
                    try clear c15b0
                    try clear c15b1
                    try clear c17
                    try clear c18
                    try clear c18b0
                    try clear c18b1
                    try clear c20
                    try clear c21
                    try clear c21b0
                    try clear c21b1
                    try clear hcz24_0
                    try clear hcz24_1
                    try clear hcz28_0
                    try clear hcz28_1
                    try clear hcz30_0
                    try clear hcz30_1
                    try clear hcz32_0
                    try clear hcz32_1
                    try clear hfz24_0
                    try clear hfz24_1
                    try clear hfz28_0
                    try clear hfz28_1
                    try clear hfz30_0
                    try clear hfz30_1
                    try clear hfz32_0
                    try clear hfz32_1
                    obtain ⟨x18_1, rfl, HA, HK1, HO_4, HO_7, HO_9, HO_340001, BK339, HB⟩ := hrel
                    cases gk with
                    | zero => exact absurd HA.out (by simp [laws_FnUnits.l0])
                    | succ k1 =>
                      have H := HA.out
                      clear HA
                      simp only [laws_FnUnits.l0] at H
                      by_cases c44 : x18_1 < (t344.length : Int)
                      · rw [if_pos c44] at H
                        have c44b0 : decide (x18_1 < (t344.length : Int)) = true := decide_eq_true c44
                        clear c44
                        by_cases c45 : 0 ≤ x18_1
                        · rw [if_pos c45] at H
                          have c45b0 : decide (0 ≤ x18_1) = true := decide_eq_true c45
                          clear c45
                          by_cases c46 : (rd t344 x18_1) < 0
                          · rw [if_pos c46] at H
                            have c46b0 : decide ((rd t344 x18_1) < 0) = true := decide_eq_true c46
                            clear c46
                            obtain ⟨ji47, hji47⟩ : ∃ j_ : Int, (wrap64 ((wrap64 (-(rd t344 x18_1))) - 1)) = j_ := ⟨_, rfl⟩
                            replace H : (if 0 ≤ (ji47) then (if (ji47) < (t336.length : Int) then (if (rd t336 (ji47)) = (-1) then (laws_FnUnits.l0 k1 t336 t344 t348 (wrap64 (x18_1 + 1)) t332 t333) else (some false)) else (none)) else (none)) = some r := by first | (rw [hji47] at H; exact H) | (simp only [hji47] at H ⊢; exact H)
                            have hji47w : (IntKind.i64.wrap ((wrap64 (-(rd t344 x18_1))) - 1)) = ji47 := (i64_w _).trans hji47
                            by_cases c48 : 0 ≤ (ji47)
                            · rw [if_pos c48] at H
                              have c48b0 : decide (0 ≤ (ji47)) = true := decide_eq_true c48
                              clear c48
                              by_cases c49 : (ji47) < (t336.length : Int)
                              · rw [if_pos c49] at H
                                have c49b0 : decide ((ji47) < (t336.length : Int)) = true := decide_eq_true c49
                                clear c49
                                by_cases c50 : (rd t336 (ji47)) = (-1)
                                · rw [if_pos c50] at H
                                  have c50b0 : ((rd t336 (ji47)) == (-1)) = true := beq_iff_eq.mpr c50
                                  have c50b1 : ((rd t336 (ji47)) != (-1)) = false := bne_eq_false_iff_eq.mpr c50
                                  clear c50
                                  have H' := Aside0.mk H
                                  clear H
                                  have p370 : 0 ≤ (x18_1 : Int) := oD
                                  have q370 : x18_1 < (t344.length : Int) := oD
                                  (try (obtain ⟨Aq_, cq_, eq_⟩ := Kd.R_slice HO_7.out; subst eq_))
                                  obtain ⟨ad370, e370, hx370_0⟩ := Kd.at_int (Kd.R_reads' HO_7.out).2.2 x18_1 p370 q370
                                  cases e370
                                  replace p370 := eq_true p370
                                  replace q370 := eq_true q370
                                  have p371 : 0 ≤ ((ji47) : Int) := oD
                                  have q371 : (ji47) < (t336.length : Int) := oD
                                  (try (obtain ⟨Aq_, cq_, eq_⟩ := Kd.R_slice HO_4.out; subst eq_))
                                  obtain ⟨ad371, e371, hx371_0⟩ := Kd.at_int (Kd.R_reads' HO_4.out).2.2 (ji47) p371 q371
                                  cases e371
                                  replace p371 := eq_true p371
                                  replace q371 := eq_true q371
                                  go_wp2
                                  go_roundg k1
                                  case measure => have := HK1.out; omega
                                  case rel => exact ⟨(wrap64 (x18_1 + 1)), Fs, H', ⟨by have := HK1.out; omega⟩, ⟨R1 HO_4⟩, ⟨R1 HO_7⟩, ⟨R1 HO_9⟩, ⟨S1 HO_340001⟩, ⟨B1 BK339⟩, ⟨Hb⟩⟩
                                · rw [if_neg c50] at H
                                  have c50b0 : ((rd t336 (ji47)) == (-1)) = false := beq_eq_false_iff_ne.mpr c50
                                  have c50b1 : ((rd t336 (ji47)) != (-1)) = true := bne_iff_ne.mpr c50
                                  exact absurd (H.trans (congrArg some hrt)) (by simp)
                              · rw [if_neg c49] at H
                                exact absurd H (by simp)
                            · rw [if_neg c48] at H
                              exact absurd H (by simp)
                          · rw [if_neg c46] at H
                            have c46b0 : decide ((rd t344 x18_1) < 0) = false := decide_eq_false c46
                            clear c46
                            obtain ⟨ji51, hji51⟩ : ∃ j_ : Int, (wrap64 ((rd t344 x18_1) - 1)) = j_ := ⟨_, rfl⟩
                            replace H : (if 0 ≤ (ji51) then (if (ji51) < (t336.length : Int) then (if (rd t336 (ji51)) = (-1) then (laws_FnUnits.l0 k1 t336 t344 t348 (wrap64 (x18_1 + 1)) t332 t333) else (some false)) else (none)) else (none)) = some r := by first | (rw [hji51] at H; exact H) | (simp only [hji51] at H ⊢; exact H)
                            have hji51w : (IntKind.i64.wrap ((rd t344 x18_1) - 1)) = ji51 := (i64_w _).trans hji51
                            by_cases c52 : 0 ≤ (ji51)
                            · rw [if_pos c52] at H
                              have c52b0 : decide (0 ≤ (ji51)) = true := decide_eq_true c52
                              clear c52
                              by_cases c53 : (ji51) < (t336.length : Int)
                              · rw [if_pos c53] at H
                                have c53b0 : decide ((ji51) < (t336.length : Int)) = true := decide_eq_true c53
                                clear c53
                                by_cases c54 : (rd t336 (ji51)) = (-1)
                                · rw [if_pos c54] at H
                                  have c54b0 : ((rd t336 (ji51)) == (-1)) = true := beq_iff_eq.mpr c54
                                  have c54b1 : ((rd t336 (ji51)) != (-1)) = false := bne_eq_false_iff_eq.mpr c54
                                  clear c54
                                  have H' := Aside0.mk H
                                  clear H
                                  have p370 : 0 ≤ (x18_1 : Int) := oD
                                  have q370 : x18_1 < (t344.length : Int) := oD
                                  (try (obtain ⟨Aq_, cq_, eq_⟩ := Kd.R_slice HO_7.out; subst eq_))
                                  obtain ⟨ad370, e370, hx370_0⟩ := Kd.at_int (Kd.R_reads' HO_7.out).2.2 x18_1 p370 q370
                                  cases e370
                                  replace p370 := eq_true p370
                                  replace q370 := eq_true q370
                                  have p372 : 0 ≤ ((ji51) : Int) := oD
                                  have q372 : (ji51) < (t336.length : Int) := oD
                                  (try (obtain ⟨Aq_, cq_, eq_⟩ := Kd.R_slice HO_4.out; subst eq_))
                                  obtain ⟨ad372, e372, hx372_0⟩ := Kd.at_int (Kd.R_reads' HO_4.out).2.2 (ji51) p372 q372
                                  cases e372
                                  replace p372 := eq_true p372
                                  replace q372 := eq_true q372
                                  go_wp2
                                  go_roundg k1
                                  case measure => have := HK1.out; omega
                                  case rel => exact ⟨(wrap64 (x18_1 + 1)), Fs, H', ⟨by have := HK1.out; omega⟩, ⟨R1 HO_4⟩, ⟨R1 HO_7⟩, ⟨R1 HO_9⟩, ⟨S1 HO_340001⟩, ⟨B1 BK339⟩, ⟨Hb⟩⟩
                                · rw [if_neg c54] at H
                                  have c54b0 : ((rd t336 (ji51)) == (-1)) = false := beq_eq_false_iff_ne.mpr c54
                                  have c54b1 : ((rd t336 (ji51)) != (-1)) = true := bne_iff_ne.mpr c54
                                  exact absurd (H.trans (congrArg some hrt)) (by simp)
                              · rw [if_neg c53] at H
                                exact absurd H (by simp)
                            · rw [if_neg c52] at H
                              exact absurd H (by simp)
                        · rw [if_neg c45] at H
                          exact absurd H (by simp)
                      · rw [if_neg c44] at H
                        have c44b0 : decide (x18_1 < (t344.length : Int)) = false := decide_eq_false c44
                        clear c44
                        by_cases c55 : (t348.length : Int) = 0
                        · rw [if_pos c55] at H
                          have c55b0 : ((t348.length : Int) == 0) = true := beq_iff_eq.mpr c55
                          have c55b1 : ((t348.length : Int) != 0) = false := bne_eq_false_iff_eq.mpr c55
                          clear c55
                          obtain rfl := Option.some.inj H
                          go_wp2
                          go_ret
                          exact ⟨Fin, Hb⟩
                        · rw [if_neg c55] at H
                          have c55b0 : ((t348.length : Int) == 0) = false := beq_eq_false_iff_ne.mpr c55
                          have c55b1 : ((t348.length : Int) != 0) = true := bne_iff_ne.mpr c55
                          have c55b2 : ¬ (t348 = []) := fun h_ => c55 (by rw [h_]; rfl)
                          obtain ⟨t373, A560, H⟩ := Option.bind_eq_some_iff.mp H
                          have A56 := Aside0.mk A560
                          clear A560
                          obtain rfl := Option.some.inj H
                          have hcz57_0 : wr.cell? ⟨gb339, 0, none⟩ = some (.int .i64 t332) := bc BK339
                          have hcz57_1 : wr.cell? ⟨gb339, 1, none⟩ = some (.slice Ao25 t333.length co25) := bc BK339
                          have hfz57_0 := blk_frozen BK339.out 0
                          have hfz57_1 := blk_frozen BK339.out 1
                          go_wp2_with (first | (go_at_call 14; (with_reducible refine (impl_Satisfies.calls k1 t332 _ _ t333 _ _ t336 t373 _ ?side1 ?side2 ?side3 ?side4 A56.out).mono ?_); (case side1 => exact Ck (Kd.S_reads' HO_340001.out).2.2); (case side2 => exact (Kd.S_reads' HO_340001.out).2.1); (case side3 => exact Ck (Kd.R_reads' HO_4.out).2.2); (case side4 => exact (Kd.R_reads' HO_4.out).2.1); rintro e w58 ⟨rfl, hb⟩; replace HO_4 := Aside0.mk (Kd.R_below (R1 HO_4) hb); replace HO_7 := Aside0.mk (Kd.R_below (R1 HO_7) hb); replace HO_9 := Aside0.mk (Kd.R_below (R1 HO_9) hb); replace HO_340001 := Aside0.mk (Kd.S_below (S1 HO_340001) hb); replace BK339 := Aside0.mk (blk_below (B1 BK339) hb); replace HB := Aside0.mk (below_step Hb hb); (try clear hb); (try clear hb2); (try clear hk); (try clear hi)))
                          go_ret
                          exact ⟨Fin, Hb⟩
                · rw [if_neg c21] at H
                  have c21b0 : (t343 == 0) = false := beq_eq_false_iff_ne.mpr c21
                  have c21b1 : (t343 != 0) = true := bne_iff_ne.mpr c21
                  obtain rfl := Option.some.inj H
                  go_enter Try.func3, Try.ntmps3
                  go_wp2_with (first | ((with_reducible refine gC 4 ?_); refine GL (some 21) Try.func4 #[.slice A0 l0.length c0] ?_; (with_reducible refine (laws_big.calls _ _ l0 false _ ?side1 ?side2 A2.out).mono ?_); (case side1 => exact Ck HR0.out); (case side2 => exact HC0.out); rintro e w' ⟨rfl, ⟨nd, rfl⟩⟩; refine ⟨_, rfl, ?_⟩; skip) | ((with_reducible refine gC 5 ?_); refine GL (some 24) Try.func5 #[.slice A0 l0.length c0] ?_; (with_reducible refine (spec_DrawUnitLiterals.calls k _ _ l0 t332 t333 t336 _ ?side1 ?side2 A4.out).mono ?_); (case side1 => exact Ck HR0.out); (case side2 => exact HC0.out); rintro e w59 ⟨v334, v337, rfl, ho0, ho1, hb⟩; refine ⟨_, rfl, ?_⟩; have HO335 := Aside0.mk (Kd.S_lower ho0 (below_size Hb)); have HO338 := Aside0.mk (Kd.R_lower ho1 (below_size Hb)); replace HB := Aside0.mk (below_step Hb hb); (try clear hb); (try clear hb2); (try clear hk); (try clear hi); (try clear ho0); (try clear ho1)) | ((with_reducible refine gD 3 ?_); refine BX #[.int .i64 0, .slice none 0 0] 26 ?_; intro gb339 hg w60 hbox hb; replace HO335 := Aside0.mk (Kd.S_below (S1 HO335) hb); replace HO338 := Aside0.mk (Kd.R_below (R1 HO338) hb); have BK339 := Aside0.mk (hbox); have GW339 := Aside0.mk ((Gle hg Hb : w.heap.size ≤ gb339)); have GE339 := Aside0.mk ((Gle hg Hb : w.heap.size ≤ gb339)); replace HB := Aside0.mk (below_step Hb hb); clear hb hbox hg; have hcz61_0 : w60.cell? ⟨gb339, 0, none⟩ = some (.int .i64 0) := bc BK339; have hcz61_1 : w60.cell? ⟨gb339, 1, none⟩ = some (.slice none 0 0) := bc BK339; have hfz61_0 := blk_frozen BK339.out 0; have hfz61_1 := blk_frozen BK339.out 1; obtain ⟨Ao62, co62, eo62⟩ := Kd.S_slice HO335.out; subst eo62; obtain ⟨Ao63, co63, eo63⟩ := Kd.R_slice HO338.out; subst eo63) | ((with_reducible refine gC 6 ?_); refine GL (some 30) Try.func6 #[.agg #[.int .i64 t332, .slice Ao62 t333.length co62], .slice Ao63 t336.length co63] ?_; (with_reducible refine (impl_UnitLiterals.calls k t332 _ _ t333 _ _ t336 t340 t343 _ ?side1 ?side2 ?side3 ?side4 A5.out).mono ?_); (case side1 => refine (Kd.S_reads' (e := 27) (base := w.heap.size) (ok := fun k_ => some k_ ≠ (.slice Ao63 t336.length co63 : Value).ownBlock) (n := t333.length) (c := co62) ?_).2.2; exact (by (with_reducible repeat (first | apply Kd.S_alloc | apply Kd.S_drewN | apply Kd.S_drew)); exact (Kd.S_mono (Kd.S_far (p := ⟨gb339, 1, none⟩) (Kd.S_far (p := ⟨gb339, 0, none⟩) (Kd.S_types HO335.out BK339.out (by decide)) (fun _ hk => hk.2) (.int .i64 t332)) (fun _ hk => hk.2) (.slice Ao62 t333.length co62)) (fun _ h_ => h_.1)))); (case side2 => exact (Kd.S_reads' HO335.out).2.1); (case side3 => refine (Kd.R_reads' (e := 2) (base := w.heap.size) (ok := fun k_ => True) (n := t336.length) (c := co63) ?_).2.2; exact (by (with_reducible repeat (first | apply Kd.R_alloc | apply Kd.R_drewN | apply Kd.R_drew)); exact (Kd.R_mono (Kd.R_far (p := ⟨gb339, 1, none⟩) (Kd.R_far (p := ⟨gb339, 0, none⟩) (Kd.R_types HO338.out BK339.out (by decide)) (fun _ hk => hk.2) (.int .i64 t332)) (fun _ hk => hk.2) (.slice Ao62 t333.length co62)) (fun _ h_ => h_.1)))); (case side4 => exact (Kd.R_reads' HO338.out).2.1); rintro e w64 ⟨v341, rfl, ho0, hb⟩; refine ⟨_, rfl, ?_⟩; replace HO335 := Aside0.mk (Kd.S_elder' (by (with_reducible repeat (first | apply Kd.S_alloc | apply Kd.S_drewN | apply Kd.S_drew)); exact (Kd.S_mono (Kd.S_far (p := ⟨gb339, 1, none⟩) (Kd.S_far (p := ⟨gb339, 0, none⟩) (Kd.S_types HO335.out BK339.out (by decide)) (fun _ hk => hk.2) (.int .i64 t332)) (fun _ hk => hk.2) (.slice Ao62 t333.length co62)) (fun _ h_ => h_.1))) (Kd.R_base ho0) hb); have HO342 := Aside0.mk (Kd.R_lower (Kd.R_new' ho0 (Kd.R_lt (by (with_reducible repeat (first | apply Kd.R_alloc | apply Kd.R_drewN | apply Kd.R_drew)); exact (Kd.R_mono (Kd.R_far (p := ⟨gb339, 1, none⟩) (Kd.R_far (p := ⟨gb339, 0, none⟩) (Kd.R_types HO338.out BK339.out (by decide)) (fun _ hk => hk.2) (.int .i64 t332)) (fun _ hk => hk.2) (.slice Ao62 t333.length co62)) (fun _ h_ => h_.1))))) (below_size Hb)); replace HO338 := Aside0.mk (Kd.R_elder' (by (with_reducible repeat (first | apply Kd.R_alloc | apply Kd.R_drewN | apply Kd.R_drew)); exact (Kd.R_mono (Kd.R_far (p := ⟨gb339, 1, none⟩) (Kd.R_far (p := ⟨gb339, 0, none⟩) (Kd.R_types HO338.out BK339.out (by decide)) (fun _ hk => hk.2) (.int .i64 t332)) (fun _ hk => hk.2) (.slice Ao62 t333.length co62)) (fun _ h_ => h_.1))) (Kd.R_base ho0) hb); replace BK339 := Aside0.mk (blk_below (g := gb339) (o := .cells #[.int .i64 t332, .slice Ao62 t333.length co62] 26 (0, 0)) (by (with_reducible repeat (first | apply blk_drewN | apply blk_drew | apply blk_alloc)); refine blk_put (cs := #[.int .i64 t332, .slice none 0 0]) ?_ 1 _ rfl; (with_reducible repeat (first | apply blk_drewN | apply blk_drew | apply blk_alloc)); refine blk_put (cs := #[.int .i64 0, .slice none 0 0]) ?_ 0 _ rfl; (with_reducible repeat (first | apply blk_drewN | apply blk_drew | apply blk_alloc)); exact BK339.out) hb); replace HB := Aside0.mk (below_step Hb hb); (try clear hb); (try clear hb2); (try clear hk); (try clear hi); (try clear ho0); have hcz65_0 : w64.cell? ⟨gb339, 0, none⟩ = some (.int .i64 t332) := bc BK339; have hcz65_1 : w64.cell? ⟨gb339, 1, none⟩ = some (.slice Ao62 t333.length co62) := bc BK339; have hfz65_0 := blk_frozen BK339.out 0; have hfz65_1 := blk_frozen BK339.out 1) | ((with_reducible refine gC 7 ?_); refine GL (some 36) Try.func7 #[.agg #[.int .i64 t332, .slice Ao62 t333.length co62], .slice Ao63 t336.length co63] ?_; (with_reducible refine (spec_UnitLiterals.calls k t332 _ _ t333 _ _ t336 t344 t347 _ ?side1 ?side2 ?side3 ?side4 A6.out).mono ?_); (case side1 => exact Ck (Kd.S_reads' HO335.out).2.2); (case side2 => exact (Kd.S_reads' HO335.out).2.1); (case side3 => exact Ck (Kd.R_reads' HO338.out).2.2); (case side4 => exact (Kd.R_reads' HO338.out).2.1); rintro e w66 ⟨v345, rfl, ho0, hb⟩; refine ⟨_, rfl, ?_⟩; replace HO335 := Aside0.mk (Kd.S_elder' (S1 HO335) (Kd.R_base ho0) hb); have HO346 := Aside0.mk (Kd.R_lower (Kd.R_new' (Kd.R_new' ho0 (Kd.R_lt (R1 HO338))) (Kd.R_lt (R1 HO342))) (below_size Hb)); replace HO338 := Aside0.mk (Kd.R_elder' (R1 HO338) (Kd.R_base ho0) hb); replace HO342 := Aside0.mk (Kd.R_elder' (R1 HO342) (Kd.R_base ho0) hb); replace BK339 := Aside0.mk (blk_below (B1 BK339) hb); replace HB := Aside0.mk (below_step Hb hb); (try clear hb); (try clear hb2); (try clear hk); (try clear hi); (try clear ho0); have hcz67_0 : w66.cell? ⟨gb339, 0, none⟩ = some (.int .i64 t332) := bc BK339; have hcz67_1 : w66.cell? ⟨gb339, 1, none⟩ = some (.slice Ao62 t333.length co62) := bc BK339; have hfz67_0 := blk_frozen BK339.out 0; have hfz67_1 := blk_frozen BK339.out 1) | ((with_reducible refine gC 8 ?_); refine GL (some 42) Try.func8 #[.agg #[.int .i64 t332, .slice Ao62 t333.length co62], .slice Ao63 t336.length co63] ?_; (with_reducible refine (impl_FalseClauses.calls k t332 _ _ t333 _ _ t336 t348 t351 _ ?side1 ?side2 ?side3 ?side4 A7.out).mono ?_); (case side1 => exact Ck (Kd.S_reads' HO335.out).2.2); (case side2 => exact (Kd.S_reads' HO335.out).2.1); (case side3 => exact Ck (Kd.R_reads' HO338.out).2.2); (case side4 => exact (Kd.R_reads' HO338.out).2.1); rintro e w68 ⟨v349, rfl, ho0, hb⟩; refine ⟨_, rfl, ?_⟩; replace HO335 := Aside0.mk (Kd.S_elder' (S1 HO335) (Kd.R_base ho0) hb); have HO350 := Aside0.mk (Kd.R_lower (Kd.R_new' (Kd.R_new' (Kd.R_new' ho0 (Kd.R_lt (R1 HO338))) (Kd.R_lt (R1 HO342))) (Kd.R_lt (R1 HO346))) (below_size Hb)); replace HO338 := Aside0.mk (Kd.R_elder' (R1 HO338) (Kd.R_base ho0) hb); replace HO342 := Aside0.mk (Kd.R_elder' (R1 HO342) (Kd.R_base ho0) hb); replace HO346 := Aside0.mk (Kd.R_elder' (R1 HO346) (Kd.R_base ho0) hb); replace BK339 := Aside0.mk (blk_below (B1 BK339) hb); replace HB := Aside0.mk (below_step Hb hb); (try clear hb); (try clear hb2); (try clear hk); (try clear hi); (try clear ho0); have hcz69_0 : w68.cell? ⟨gb339, 0, none⟩ = some (.int .i64 t332) := bc BK339; have hcz69_1 : w68.cell? ⟨gb339, 1, none⟩ = some (.slice Ao62 t333.length co62) := bc BK339; have hfz69_0 := blk_frozen BK339.out 0; have hfz69_1 := blk_frozen BK339.out 1) | ((with_reducible refine gC 9 ?_); refine GL (some 48) Try.func9 #[.agg #[.int .i64 t332, .slice Ao62 t333.length co62], .slice Ao63 t336.length co63] ?_; (with_reducible refine (spec_FalseClauses.calls k t332 _ _ t333 _ _ t336 t352 t355 _ ?side1 ?side2 ?side3 ?side4 A8.out).mono ?_); (case side1 => exact Ck (Kd.S_reads' HO335.out).2.2); (case side2 => exact (Kd.S_reads' HO335.out).2.1); (case side3 => exact Ck (Kd.R_reads' HO338.out).2.2); (case side4 => exact (Kd.R_reads' HO338.out).2.1); rintro e w70 ⟨v353, rfl, ho0, hb⟩; refine ⟨_, rfl, ?_⟩; replace HO335 := Aside0.mk (Kd.S_elder' (S1 HO335) (Kd.R_base ho0) hb); have HO354 := Aside0.mk (Kd.R_lower (Kd.R_new' (Kd.R_new' (Kd.R_new' (Kd.R_new' ho0 (Kd.R_lt (R1 HO338))) (Kd.R_lt (R1 HO342))) (Kd.R_lt (R1 HO346))) (Kd.R_lt (R1 HO350))) (below_size Hb)); replace HO338 := Aside0.mk (Kd.R_elder' (R1 HO338) (Kd.R_base ho0) hb); replace HO342 := Aside0.mk (Kd.R_elder' (R1 HO342) (Kd.R_base ho0) hb); replace HO346 := Aside0.mk (Kd.R_elder' (R1 HO346) (Kd.R_base ho0) hb); replace HO350 := Aside0.mk (Kd.R_elder' (R1 HO350) (Kd.R_base ho0) hb); replace BK339 := Aside0.mk (blk_below (B1 BK339) hb); replace HB := Aside0.mk (below_step Hb hb); (try clear hb); (try clear hb2); (try clear hk); (try clear hi); (try clear ho0)) | ((with_reducible refine gC 10 ?_); refine GL (some 52) Try.func10 #[.slice A0 l0.length c0] ?_; (with_reducible refine (spec_DrawSelectionOf.calls k _ _ l0 t356 _ ?side1 ?side2 A9.out).mono ?_); (case side1 => exact Kd.C_below HR0.out Hb); (case side2 => exact HC0.out); rintro e w71 ⟨v357, rfl, ho0, hb⟩; refine ⟨_, rfl, ?_⟩; replace HO335 := Aside0.mk (Kd.S_elder' (S1 HO335) (Kd.R_base ho0) hb); have HO358 := Aside0.mk (Kd.R_lower (Kd.R_new' (Kd.R_new' (Kd.R_new' (Kd.R_new' (Kd.R_new' ho0 (Kd.R_lt (R1 HO338))) (Kd.R_lt (R1 HO342))) (Kd.R_lt (R1 HO346))) (Kd.R_lt (R1 HO350))) (Kd.R_lt (R1 HO354))) (below_size Hb)); replace HO338 := Aside0.mk (Kd.R_elder' (R1 HO338) (Kd.R_base ho0) hb); replace HO342 := Aside0.mk (Kd.R_elder' (R1 HO342) (Kd.R_base ho0) hb); replace HO346 := Aside0.mk (Kd.R_elder' (R1 HO346) (Kd.R_base ho0) hb); replace HO350 := Aside0.mk (Kd.R_elder' (R1 HO350) (Kd.R_base ho0) hb); replace HO354 := Aside0.mk (Kd.R_elder' (R1 HO354) (Kd.R_base ho0) hb); replace BK339 := Aside0.mk (blk_below (B1 BK339) hb); replace HB := Aside0.mk (below_step Hb hb); (try clear hb); (try clear hb2); (try clear hk); (try clear hi); (try clear ho0); obtain ⟨Ao72, co72, eo72⟩ := Kd.R_slice HO358.out; subst eo72) | ((with_reducible refine gC 11 ?_); refine GL (some 55) Try.func11 #[.slice Ao72 t356.length co72] ?_; (with_reducible refine (impl_SelectionOf.calls k _ _ t356 t359 t360 _ ?side1 ?side2 A10.out).mono ?_); (case side1 => exact Ck (Kd.R_reads' HO358.out).2.2); (case side2 => exact (Kd.R_reads' HO358.out).2.1); rintro e w73 ⟨v361, rfl, ho0, hb⟩; refine ⟨_, rfl, ?_⟩; replace HO335 := Aside0.mk (Kd.S_elder' (S1 HO335) (Kd.R_base ho0) hb); have HO362 := Aside0.mk (Kd.R_lower (Kd.R_new' (Kd.R_new' (Kd.R_new' (Kd.R_new' (Kd.R_new' (Kd.R_new' ho0 (Kd.R_lt (R1 HO338))) (Kd.R_lt (R1 HO342))) (Kd.R_lt (R1 HO346))) (Kd.R_lt (R1 HO350))) (Kd.R_lt (R1 HO354))) (Kd.R_lt (R1 HO358))) (below_size Hb)); replace HO338 := Aside0.mk (Kd.R_elder' (R1 HO338) (Kd.R_base ho0) hb); replace HO342 := Aside0.mk (Kd.R_elder' (R1 HO342) (Kd.R_base ho0) hb); replace HO346 := Aside0.mk (Kd.R_elder' (R1 HO346) (Kd.R_base ho0) hb); replace HO350 := Aside0.mk (Kd.R_elder' (R1 HO350) (Kd.R_base ho0) hb); replace HO354 := Aside0.mk (Kd.R_elder' (R1 HO354) (Kd.R_base ho0) hb); replace HO358 := Aside0.mk (Kd.R_elder' (R1 HO358) (Kd.R_base ho0) hb); replace BK339 := Aside0.mk (blk_below (B1 BK339) hb); replace HB := Aside0.mk (below_step Hb hb); (try clear hb); (try clear hb2); (try clear hk); (try clear hi); (try clear ho0)) | ((with_reducible refine gC 12 ?_); refine GL (some 60) Try.func12 #[.slice Ao72 t356.length co72] ?_; (with_reducible refine (spec_SelectionOf.calls k _ _ t356 t363 t364 _ ?side1 ?side2 A11.out).mono ?_); (case side1 => exact Ck (Kd.R_reads' HO358.out).2.2); (case side2 => exact (Kd.R_reads' HO358.out).2.1); rintro e w74 ⟨v365, rfl, ho0, hb⟩; refine ⟨_, rfl, ?_⟩; replace HO335 := Aside0.mk (Kd.S_elder' (S1 HO335) (Kd.R_base ho0) hb); have HO366 := Aside0.mk (Kd.R_lower (Kd.R_new' (Kd.R_new' (Kd.R_new' (Kd.R_new' (Kd.R_new' (Kd.R_new' (Kd.R_new' ho0 (Kd.R_lt (R1 HO338))) (Kd.R_lt (R1 HO342))) (Kd.R_lt (R1 HO346))) (Kd.R_lt (R1 HO350))) (Kd.R_lt (R1 HO354))) (Kd.R_lt (R1 HO358))) (Kd.R_lt (R1 HO362))) (below_size Hb)); replace HO338 := Aside0.mk (Kd.R_elder' (R1 HO338) (Kd.R_base ho0) hb); replace HO342 := Aside0.mk (Kd.R_elder' (R1 HO342) (Kd.R_base ho0) hb); replace HO346 := Aside0.mk (Kd.R_elder' (R1 HO346) (Kd.R_base ho0) hb); replace HO350 := Aside0.mk (Kd.R_elder' (R1 HO350) (Kd.R_base ho0) hb); replace HO354 := Aside0.mk (Kd.R_elder' (R1 HO354) (Kd.R_base ho0) hb); replace HO358 := Aside0.mk (Kd.R_elder' (R1 HO358) (Kd.R_base ho0) hb); replace HO362 := Aside0.mk (Kd.R_elder' (R1 HO362) (Kd.R_base ho0) hb); replace BK339 := Aside0.mk (blk_below (B1 BK339) hb); replace HB := Aside0.mk (below_step Hb hb); (try clear hb); (try clear hb2); (try clear hk); (try clear hi); (try clear ho0); obtain ⟨Ao75, co75, eo75⟩ := Kd.R_slice HO342.out; subst eo75; obtain ⟨Ao76, co76, eo76⟩ := Kd.R_slice HO346.out; subst eo76) | (go_at_call 13; (with_reducible refine (laws_likeInts.calls k _ _ t340 _ _ t344 true _ ?side1 ?side2 ?side3 ?side4 A13.out).mono ?_); (case side1 => exact Ck (Kd.R_reads' HO342.out).2.2); (case side2 => exact (Kd.R_reads' HO342.out).2.1); (case side3 => exact Ck (Kd.R_reads' HO346.out).2.2); (case side4 => exact (Kd.R_reads' HO346.out).2.1); rintro e w' ⟨rfl, ⟨nd, rfl⟩⟩; obtain ⟨Ao77, co77, eo77⟩ := Kd.R_slice HO350.out; subst eo77; obtain ⟨Ao78, co78, eo78⟩ := Kd.R_slice HO354.out; subst eo78) | (go_at_call 13; (with_reducible refine (laws_likeInts.calls k _ _ t348 _ _ t352 true _ ?side1 ?side2 ?side3 ?side4 A16.out).mono ?_); (case side1 => exact Ck (Kd.R_reads' HO350.out).2.2); (case side2 => exact (Kd.R_reads' HO350.out).2.1); (case side3 => exact Ck (Kd.R_reads' HO354.out).2.2); (case side4 => exact (Kd.R_reads' HO354.out).2.1); rintro e w' ⟨rfl, ⟨nd, rfl⟩⟩; obtain ⟨Ao79, co79, eo79⟩ := Kd.R_slice HO362.out; subst eo79; obtain ⟨Ao80, co80, eo80⟩ := Kd.R_slice HO366.out; subst eo80) | (go_at_call 13; (with_reducible refine (laws_likeInts.calls k _ _ t359 _ _ t363 true _ ?side1 ?side2 ?side3 ?side4 A19.out).mono ?_); (case side1 => exact Ck (Kd.R_reads' HO362.out).2.2); (case side2 => exact (Kd.R_reads' HO362.out).2.1); (case side3 => exact Ck (Kd.R_reads' HO366.out).2.2); (case side4 => exact (Kd.R_reads' HO366.out).2.1); rintro e w' ⟨rfl, ⟨nd, rfl⟩⟩))
                  go_ret
                  exact ⟨Fin, Hb⟩
              · replace c20 := Bool.eq_false_iff.mpr c20
                subst c20
                rw [if_neg (show ¬ (false = true) by decide)] at H
                exact absurd (H.trans (congrArg some hrt)) (by simp)
            · rw [if_neg c18] at H
              have c18b0 : (t360 == t364) = false := beq_eq_false_iff_ne.mpr c18
              have c18b1 : (t360 != t364) = true := bne_iff_ne.mpr c18
              exact absurd (H.trans (congrArg some hrt)) (by simp)
          · replace c17 := Bool.eq_false_iff.mpr c17
            subst c17
            rw [if_neg (show ¬ (false = true) by decide)] at H
            exact absurd (H.trans (congrArg some hrt)) (by simp)
        · rw [if_neg c15] at H
          have c15b0 : (t351 == t355) = false := beq_eq_false_iff_ne.mpr c15
          have c15b1 : (t351 != t355) = true := bne_iff_ne.mpr c15
          exact absurd (H.trans (congrArg some hrt)) (by simp)
      · replace c14 := Bool.eq_false_iff.mpr c14
        subst c14
        rw [if_neg (show ¬ (false = true) by decide)] at H
        exact absurd (H.trans (congrArg some hrt)) (by simp)
    · rw [if_neg c12] at H
      have c12b0 : (t343 == t347) = false := beq_eq_false_iff_ne.mpr c12
      have c12b1 : (t343 != t347) = true := bne_iff_ne.mpr c12
      exact absurd (H.trans (congrArg some hrt)) (by simp)

end Go.Proofs.Ytcolaakpjdhinaa.XFnUnits
