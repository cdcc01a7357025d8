-- Written by ext.py (wip/) over the kit's print: not trusted, Lean checks it.
import Derived.Test.YtpnlidfebnkgmaaXFnWeightSumsx0
import Derived.Test.YtpnlidfebnkgmaaXFnWeightSumsx1
import Derived.Test.YtpnlidfebnkgmaaXFnWeightSumsx2
namespace Go.Proofs.Ytpnlidfebnkgmaa.XFnWeightSums
open Go.RowKit Go.Proofs.YtpnlidfebnkgmaaW.PrintWords Go.Proofs.YtpnlidfebnkgmaaW.PrintLast Go.Proofs.YtpnlidfebnkgmaaW.PrintMore
attribute [local go_sem] max2_int min2_int max_two min_two max_three min_three max_four min_four   -- for this text's walks alone
set_option linter.unusedVariables false
set_option linter.unusedSimpArgs false

attribute [local go_sem high] eqA68
/-! ### spec_l02Index: function 65 -/
def spec_l02Index.l0 : Nat → List (S68) → Int → Int → Int → Option (Int)
  | 0, _, _, _, _ => none
  | k + 1, x0, x5, x123000, x123001 => if x5 < (x0.length : Int) then (if 0 ≤ x5 then (if (((rd_T68 x0 x5).f0) == x123000 && (((rd_T68 x0 x5).f1) == x123001)) = true then (some x5) else (spec_l02Index.l0 k x0 (wrap64 (x5 + 1)) x123000 x123001)) else (none)) else (some (-1))
def spec_l02Index.f (k : Nat) (l0 : List (S68)) (a1_0 : Int) (a1_1 : Int) : Option (Int) := spec_l02Index.l0 k l0 0 a1_0 a1_1
theorem spec_l02Index.mono_l : ∀ k, (∀ y0 y1 y2 y3, LeO (spec_l02Index.l0 k y0 y1 y2 y3) (spec_l02Index.l0 (k + 1) y0 y1 y2 y3))
  | 0 => fun _ _ _ _ r h => by simp [spec_l02Index.l0] at h
  | k + 1 => by
    have ih0 := spec_l02Index.mono_l k
    · intro y0 y1 y2 y3
      unfold spec_l02Index.l0
      repeat' first
      | (with_reducible exact ih0 _ _ _ _)
      | (with_reducible exact LeO.refl _)
      | (with_reducible exact LeO.none _)
      | (with_reducible refine LeO.ite ?_ ?_)
      | (with_reducible refine LeO.bind ?_ (fun _ => ?_))
      | exact ih0 _ _ _ _
      | exact LeO.none _
      | refine LeO.ite ?_ ?_
      | refine LeO.bind ?_ (fun _ => ?_)
theorem spec_l02Index.mono : ∀ a0 a1 a2 k, LeO (spec_l02Index.f k a0 a1 a2) (spec_l02Index.f (k + 1) a0 a1 a2) := by
  intro a0 a1 a2 k
  have ih0 := spec_l02Index.mono_l k
  unfold spec_l02Index.f
  repeat' first
      | (with_reducible exact ih0 _ _ _ _)
      | (with_reducible exact LeO.refl _)
      | (with_reducible exact LeO.none _)
      | (with_reducible refine LeO.ite ?_ ?_)
      | (with_reducible refine LeO.bind ?_ (fun _ => ?_))
      | exact ih0 _ _ _ _
      | exact LeO.none _
      | refine LeO.ite ?_ ?_
      | refine LeO.bind ?_ (fun _ => ?_)
set_option maxHeartbeats 8000000 in
set_option maxRecDepth 100000 in
theorem spec_l02Index.calls (k : Nat) (A0 : Option Addr) (c0 : Nat) (l0 : List (S68)) (a1_0 : Int) (a1_1 : Int) (r : Int) (w : World) (hr0 : Kd.C k68 w A0 l0.length l0) (hc0 : l0.length ≤ c0) (h : spec_l02Index.f k l0 a1_0 a1_1 = some r) :
    Calls Try.prog 65 #[.slice A0 l0.length c0, .agg #[.int .i64 a1_0, .int .i64 a1_1]] w fun e w' => e = .returned (.int .i64 r) ∧ Below w.heap.size w w' := by
  have hu68 := Try.underlying68
  have HR0 := Aside0.mk hr0
  have HC0 := Aside0.mk hc0
  clear hr0 hc0
  have HB := Aside0.mk (Below.refl w.heap.size w)
  have H : (spec_l02Index.l0 k l0 0 a1_0 a1_1) = some r := h
  clear h
  have H' := Aside0.mk H
  clear H
  go_enter Try.func65, Try.ntmps65
  go_wp2_with (first | ((with_reducible refine gD 3 ?_); refine BX #[.int .i64 a1_0, .int .i64 a1_1] 68 ?_; intro gb122 hg w3 hbox hb; have BK122 := Aside0.mk (hbox); have GW122 := Aside0.mk ((Gle hg Hb : w.heap.size ≤ gb122)); have GE122 := Aside0.mk ((Gle hg Hb : w.heap.size ≤ gb122)); replace HB := Aside0.mk (below_step Hb hb); clear hb hbox hg))
  repeat (go_quiet (first | ((with_reducible refine gD 3 ?_); refine BX #[.int .i64 a1_0, .int .i64 a1_1] 68 ?_; intro gb122 hg w3 hbox hb; have BK122 := Aside0.mk (hbox); have GW122 := Aside0.mk ((Gle hg Hb : w.heap.size ≤ gb122)); have GE122 := Aside0.mk ((Gle hg Hb : w.heap.size ≤ gb122)); replace HB := Aside0.mk (below_step Hb hb); clear hb hbox hg)); try go_wp2_with (first | ((with_reducible refine gD 3 ?_); refine BX #[.int .i64 a1_0, .int .i64 a1_1] 68 ?_; intro gb122 hg w3 hbox hb; have BK122 := Aside0.mk (hbox); have GW122 := Aside0.mk ((Gle hg Hb : w.heap.size ≤ gb122)); have GE122 := Aside0.mk ((Gle hg Hb : w.heap.size ≤ gb122)); replace HB := Aside0.mk (below_step Hb hb); clear hb hbox hg)))
  go_loopg [5] k (fun kq v5 w' => ∃ (x5_1 : Int), v5 = .int .i64 x5_1 ∧ Aside0 (spec_l02Index.l0 kq l0 x5_1 a1_0 a1_1 = some r) ∧ Aside0 (kq ≤ k) ∧ Aside0 (w'.heap[gb122]? = some (.cells #[.int .i64 a1_0, .int .i64 a1_1] 68 (0, 0))) ∧ Aside0 (Below w.heap.size w w'))
  case atStart => exact ⟨(0), Fs, H', ⟨Nat.le_refl _⟩, ⟨B1 BK122⟩, ⟨Hb⟩⟩
  case round =>
    clear H'
    try clear p2
    obtain ⟨x5_1, rfl, HA, HK1, BK122, HB⟩ := hrel
    cases gk with
    | zero => exact absurd HA.out (by simp [spec_l02Index.l0])
    | succ k1 =>
      have H := HA.out
      clear HA
      simp only [spec_l02Index.l0] at H
      by_cases c4 : x5_1 < (l0.length : Int)
      · rw [if_pos c4] at H
        have c4b0 : decide (x5_1 < (l0.length : Int)) = true := decide_eq_true c4
        clear c4
        by_cases c5 : 0 ≤ x5_1
        · rw [if_pos c5] at H
          have c5b0 : decide (0 ≤ x5_1) = true := decide_eq_true c5
          clear c5
          by_cases c6 : (((rd_T68 l0 x5_1).f0) == a1_0 && (((rd_T68 l0 x5_1).f1) == a1_1)) = true
          · rw [if_pos c6] at H
            have c6b0 : (((rd_T68 l0 x5_1).f0) == a1_0 && (((rd_T68 l0 x5_1).f1) == a1_1)) = true := c6
            (try (have c6b1 : decide (((rd_T68 l0 x5_1).f0) = a1_0 && (((rd_T68 l0 x5_1).f1) == a1_1)) = true := by simpa using c6))
            (try (have c6b2 : (((rd_T68 l0 x5_1).f0) == a1_0 && (((rd_T68 l0 x5_1).f1) == a1_1)) = true := by simpa using c6))
            clear c6
            obtain rfl := Option.some.inj H
            have p123 : 0 ≤ (x5_1 : Int) := oD
            have q123 : x5_1 < (l0.length : Int) := oD
            obtain ⟨ad123, e123, hx123_0, hx123_1⟩ := at_T68 HR0.out x5_1 p123 q123
            cases e123
            replace hx123_0 := hxb hx123_0
            replace hx123_1 := hxb hx123_1
            replace p123 := eq_true p123
            replace q123 := eq_true q123
            have hcz7_0 : wr.cell? ⟨gb122, 0, none⟩ = some (.int .i64 a1_0) := bc BK122
            have hcz7_1 : wr.cell? ⟨gb122, 1, none⟩ = some (.int .i64 a1_1) := bc BK122
            have hfz7_0 := blk_frozen BK122.out 0
            have hfz7_1 := blk_frozen BK122.out 1
            go_wp2
            repeat (go_quiet (fail); try go_wp2)
            go_ret
            exact ⟨Fin, Hb⟩
          · rw [if_neg c6] at H
            have c6b0 : (((rd_T68 l0 x5_1).f0) == a1_0 && (((rd_T68 l0 x5_1).f1) == a1_1)) = false := by simpa using c6
            (try (have c6b1 : decide (((rd_T68 l0 x5_1).f0) = a1_0 && (((rd_T68 l0 x5_1).f1) == a1_1)) = false := by simpa using c6))
            (try (have c6b2 : (((rd_T68 l0 x5_1).f0) == a1_0 && (((rd_T68 l0 x5_1).f1) == a1_1)) = false := by simpa using c6))
            (try (have c6b3 : ¬ (((rd_T68 l0 x5_1).f0) = a1_0 && (((rd_T68 l0 x5_1).f1) == a1_1)) := by simpa using c6))
            clear c6
            have H' := Aside0.mk H
            clear H
            have p123 : 0 ≤ (x5_1 : Int) := oD
            have q123 : x5_1 < (l0.length : Int) := oD
            obtain ⟨ad123, e123, hx123_0, hx123_1⟩ := at_T68 HR0.out x5_1 p123 q123
            cases e123
            replace hx123_0 := hxb hx123_0
            replace hx123_1 := hxb hx123_1
            replace p123 := eq_true p123
            replace q123 := eq_true q123
            have hcz8_0 : wr.cell? ⟨gb122, 0, none⟩ = some (.int .i64 a1_0) := bc BK122
            have hcz8_1 : wr.cell? ⟨gb122, 1, none⟩ = some (.int .i64 a1_1) := bc BK122
            have hfz8_0 := blk_frozen BK122.out 0
            have hfz8_1 := blk_frozen BK122.out 1
            go_wp2
            repeat (go_quiet (fail); try go_wp2)
            go_roundg k1
            case measure => have := HK1.out; omega
            case rel => exact ⟨(wrap64 (x5_1 + 1)), Fs, H', ⟨by have := HK1.out; omega⟩, ⟨B1 BK122⟩, ⟨Hb⟩⟩
        · rw [if_neg c5] at H
          exact absurd H (by simp)
      · rw [if_neg c4] at H
        have c4b0 : decide (x5_1 < (l0.length : Int)) = false := decide_eq_false c4
        clear c4
        obtain rfl := Option.some.inj H
        go_wp2
        repeat (go_quiet (fail); try go_wp2)
        go_ret
        exact ⟨Fin, Hb⟩

/-! ### spec_l02Less: function 78 -/
def spec_l02Less.f (a0_0 : Int) (a0_1 : Int) (a1_0 : Int) (a1_1 : Int) : Option (Bool) := if a0_1 < a1_1 then (some true) else (if a0_1 = a1_1 then (some (decide (a0_0 < a1_0))) else (some false))
set_option maxHeartbeats 8000000 in
set_option maxRecDepth 100000 in
theorem spec_l02Less.calls (a0_0 : Int) (a0_1 : Int) (a1_0 : Int) (a1_1 : Int) (r : Bool) (w : World) (h : spec_l02Less.f a0_0 a0_1 a1_0 a1_1 = some r) :
    Calls Try.prog 78 #[.agg #[.int .i64 a0_0, .int .i64 a0_1], .agg #[.int .i64 a1_0, .int .i64 a1_1]] w fun e w' => e = .returned (.bool r) ∧ Below w.heap.size w w' := by
  have hu68 := Try.underlying68
  have HB := Aside0.mk (Below.refl w.heap.size w)
  have H : (if a0_1 < a1_1 then (some true) else (if a0_1 = a1_1 then (some (decide (a0_0 < a1_0))) else (some false))) = some r := h
  clear h
  by_cases c3 : a0_1 < a1_1
  · rw [if_pos c3] at H
    have c3b0 : decide (a0_1 < a1_1) = true := decide_eq_true c3
    clear c3
    obtain rfl := Option.some.inj H
    go_enter Try.func78, Try.ntmps78
    go_wp2_with (first | ((with_reducible refine gD 2 ?_); refine BX #[.int .i64 a0_0, .int .i64 a0_1] 68 ?_; intro gb124 hg w4 hbox hb; have BK124 := Aside0.mk (hbox); have GW124 := Aside0.mk ((Gle hg Hb : w.heap.size ≤ gb124)); have GE124 := Aside0.mk ((Gle hg Hb : w.heap.size ≤ gb124)); replace HB := Aside0.mk (below_step Hb hb); clear hb hbox hg) | ((with_reducible refine gD 3 ?_); refine BX #[.int .i64 a1_0, .int .i64 a1_1] 68 ?_; intro gb125 hg w5 hbox hb; have BK125 := Aside0.mk (hbox); have GW125 := Aside0.mk ((Gle hg Hb : w.heap.size ≤ gb125)); have GE125 := Aside0.mk ((Gle hg Hb : w.heap.size ≤ gb125)); replace HB := Aside0.mk (below_step Hb hb); have NB124_125 := Aside0.mk ((by rw [hg]; exact Nat.ne_of_lt (blk_lt (B1 BK124)) : gb124 ≠ gb125)); have NB125_124 := Aside0.mk ((by rw [hg]; exact Nat.ne_of_gt (blk_lt (B1 BK124)) : gb125 ≠ gb124)); replace BK124 := Aside0.mk (blk_below (B1 BK124) hb); clear hb hbox hg; have hnb6 := NB124_125.out; have hnc6 := NB125_124.out; have hcz7_0 : w5.cell? ⟨gb124, 0, none⟩ = some (.int .i64 a0_0) := bc BK124; have hcz7_1 : w5.cell? ⟨gb124, 1, none⟩ = some (.int .i64 a0_1) := bc BK124; have hfz7_0 := blk_frozen BK124.out 0; have hfz7_1 := blk_frozen BK124.out 1; have hcz8_0 : w5.cell? ⟨gb125, 0, none⟩ = some (.int .i64 a1_0) := bc BK125; have hcz8_1 : w5.cell? ⟨gb125, 1, none⟩ = some (.int .i64 a1_1) := bc BK125; have hfz8_0 := blk_frozen BK125.out 0; have hfz8_1 := blk_frozen BK125.out 1))
    go_ret
    exact ⟨Fin, Hb⟩
  · rw [if_neg c3] at H
    have c3b0 : decide (a0_1 < a1_1) = false := decide_eq_false c3
    clear c3
    by_cases c9 : a0_1 = a1_1
    · rw [if_pos c9] at H
      have c9b0 : (a0_1 == a1_1) = true := beq_iff_eq.mpr c9
      have c9b1 : (a0_1 != a1_1) = false := bne_eq_false_iff_eq.mpr c9
      clear c9
      obtain rfl := Option.some.inj H
      go_enter Try.func78, Try.ntmps78
      go_wp2_with (first | ((with_reducible refine gD 2 ?_); refine BX #[.int .i64 a0_0, .int .i64 a0_1] 68 ?_; intro gb124 hg w10 hbox hb; have BK124 := Aside0.mk (hbox); have GW124 := Aside0.mk ((Gle hg Hb : w.heap.size ≤ gb124)); have GE124 := Aside0.mk ((Gle hg Hb : w.heap.size ≤ gb124)); replace HB := Aside0.mk (below_step Hb hb); clear hb hbox hg) | ((with_reducible refine gD 3 ?_); refine BX #[.int .i64 a1_0, .int .i64 a1_1] 68 ?_; intro gb125 hg w11 hbox hb; have BK125 := Aside0.mk (hbox); have GW125 := Aside0.mk ((Gle hg Hb : w.heap.size ≤ gb125)); have GE125 := Aside0.mk ((Gle hg Hb : w.heap.size ≤ gb125)); replace HB := Aside0.mk (below_step Hb hb); have NB124_125 := Aside0.mk ((by rw [hg]; exact Nat.ne_of_lt (blk_lt (B1 BK124)) : gb124 ≠ gb125)); have NB125_124 := Aside0.mk ((by rw [hg]; exact Nat.ne_of_gt (blk_lt (B1 BK124)) : gb125 ≠ gb124)); replace BK124 := Aside0.mk (blk_below (B1 BK124) hb); clear hb hbox hg; have hnb12 := NB124_125.out; have hnc12 := NB125_124.out; have hcz13_0 : w11.cell? ⟨gb124, 0, none⟩ = some (.int .i64 a0_0) := bc BK124; have hcz13_1 : w11.cell? ⟨gb124, 1, none⟩ = some (.int .i64 a0_1) := bc BK124; have hfz13_0 := blk_frozen BK124.out 0; have hfz13_1 := blk_frozen BK124.out 1; have hcz14_0 : w11.cell? ⟨gb125, 0, none⟩ = some (.int .i64 a1_0) := bc BK125; have hcz14_1 : w11.cell? ⟨gb125, 1, none⟩ = some (.int .i64 a1_1) := bc BK125; have hfz14_0 := blk_frozen BK125.out 0; have hfz14_1 := blk_frozen BK125.out 1))
      go_ret
      exact ⟨Fin, Hb⟩
    · rw [if_neg c9] at H
      have c9b0 : (a0_1 == a1_1) = false := beq_eq_false_iff_ne.mpr c9
      have c9b1 : (a0_1 != a1_1) = true := bne_iff_ne.mpr c9
      obtain rfl := Option.some.inj H
      go_enter Try.func78, Try.ntmps78
      go_wp2_with (first | ((with_reducible refine gD 2 ?_); refine BX #[.int .i64 a0_0, .int .i64 a0_1] 68 ?_; intro gb124 hg w15 hbox hb; have BK124 := Aside0.mk (hbox); have GW124 := Aside0.mk ((Gle hg Hb : w.heap.size ≤ gb124)); have GE124 := Aside0.mk ((Gle hg Hb : w.heap.size ≤ gb124)); replace HB := Aside0.mk (below_step Hb hb); clear hb hbox hg) | ((with_reducible refine gD 3 ?_); refine BX #[.int .i64 a1_0, .int .i64 a1_1] 68 ?_; intro gb125 hg w16 hbox hb; have BK125 := Aside0.mk (hbox); have GW125 := Aside0.mk ((Gle hg Hb : w.heap.size ≤ gb125)); have GE125 := Aside0.mk ((Gle hg Hb : w.heap.size ≤ gb125)); replace HB := Aside0.mk (below_step Hb hb); have NB124_125 := Aside0.mk ((by rw [hg]; exact Nat.ne_of_lt (blk_lt (B1 BK124)) : gb124 ≠ gb125)); have NB125_124 := Aside0.mk ((by rw [hg]; exact Nat.ne_of_gt (blk_lt (B1 BK124)) : gb125 ≠ gb124)); replace BK124 := Aside0.mk (blk_below (B1 BK124) hb); clear hb hbox hg; have hnb17 := NB124_125.out; have hnc17 := NB125_124.out; have hcz18_0 : w16.cell? ⟨gb124, 0, none⟩ = some (.int .i64 a0_0) := bc BK124; have hcz18_1 : w16.cell? ⟨gb124, 1, none⟩ = some (.int .i64 a0_1) := bc BK124; have hfz18_0 := blk_frozen BK124.out 0; have hfz18_1 := blk_frozen BK124.out 1; have hcz19_0 : w16.cell? ⟨gb125, 0, none⟩ = some (.int .i64 a1_0) := bc BK125; have hcz19_1 : w16.cell? ⟨gb125, 1, none⟩ = some (.int .i64 a1_1) := bc BK125; have hfz19_0 := blk_frozen BK125.out 0; have hfz19_1 := blk_frozen BK125.out 1))
      go_ret
      exact ⟨Fin, Hb⟩

/-! ### spec_l02Insert: function 74 -/
def spec_l02Insert.l0 : Nat → List (S68) → List (S68) → Bool → Int → Int → Int → Option ((List (S68)))
  | 0, _, _, _, _, _, _ => none
  | k + 1, x0, x5, x6, x7, x127000, x127001 => if x7 < (x0.length : Int) then (if x6 = true then (if 0 ≤ x7 then (if x5.length < 8796093022208 then (spec_l02Insert.l0 k x0 (x5 ++ [(⟨(rd_T68 x0 x7).f0, (rd_T68 x0 x7).f1⟩ : S68)]) x6 (wrap64 (x7 + 1)) x127000 x127001) else (none)) else (none)) else (if 0 ≤ x7 then ((spec_l02Less.f x127000 x127001 ((rd_T68 x0 x7).f0) ((rd_T68 x0 x7).f1)).bind fun t135 => (if t135 = true then (if x5.length < 8796093022208 then ((some (x5 ++ [(⟨x127000, x127001⟩ : S68)] : List (S68))).bind fun y136 => (if y136.length < 8796093022208 then (spec_l02Insert.l0 k x0 (y136 ++ [(⟨(rd_T68 x0 x7).f0, (rd_T68 x0 x7).f1⟩ : S68)]) true (wrap64 (x7 + 1)) x127000 x127001) else (none))) else (none)) else (if x5.length < 8796093022208 then (spec_l02Insert.l0 k x0 (x5 ++ [(⟨(rd_T68 x0 x7).f0, (rd_T68 x0 x7).f1⟩ : S68)]) x6 (wrap64 (x7 + 1)) x127000 x127001) else (none)))) else (none))) else (if x6 = true then (some x5) else (if x5.length < 8796093022208 then (some (x5 ++ [(⟨x127000, x127001⟩ : S68)])) else (none)))
def spec_l02Insert.f (k : Nat) (l0 : List (S68)) (a1_0 : Int) (a1_1 : Int) : Option ((List (S68))) := spec_l02Insert.l0 k l0 (([] : List (S68))) false 0 a1_0 a1_1
theorem spec_l02Insert.mono_l : ∀ k, (∀ y0 y1 y2 y3 y4 y5, LeO (spec_l02Insert.l0 k y0 y1 y2 y3 y4 y5) (spec_l02Insert.l0 (k + 1) y0 y1 y2 y3 y4 y5))
  | 0 => fun _ _ _ _ _ _ r h => by simp [spec_l02Insert.l0] at h
  | k + 1 => by
    have ih0 := spec_l02Insert.mono_l k
    · intro y0 y1 y2 y3 y4 y5
      unfold spec_l02Insert.l0
      repeat' first
      | (with_reducible exact ih0 _ _ _ _ _ _)
      | (with_reducible exact LeO.refl _)
      | (with_reducible exact LeO.none _)
      | (with_reducible refine LeO.ite ?_ ?_)
      | (with_reducible refine LeO.bind ?_ (fun _ => ?_))
      | exact ih0 _ _ _ _ _ _
      | exact LeO.none _
      | refine LeO.ite ?_ ?_
      | refine LeO.bind ?_ (fun _ => ?_)
theorem spec_l02Insert.mono : ∀ a0 a1 a2 k, LeO (spec_l02Insert.f k a0 a1 a2) (spec_l02Insert.f (k + 1) a0 a1 a2) := by
  intro a0 a1 a2 k
  have ih0 := spec_l02Insert.mono_l k
  unfold spec_l02Insert.f
  repeat' first
      | (with_reducible exact ih0 _ _ _ _ _ _)
      | (with_reducible exact LeO.refl _)
      | (with_reducible exact LeO.none _)
      | (with_reducible refine LeO.ite ?_ ?_)
      | (with_reducible refine LeO.bind ?_ (fun _ => ?_))
      | exact ih0 _ _ _ _ _ _
      | exact LeO.none _
      | refine LeO.ite ?_ ?_
      | refine LeO.bind ?_ (fun _ => ?_)
def spec_l02Insert.T6 : Bool × List (List Nat × List Nat) := (true, [([], []), ([0], [0]), ([1], [1]), ([2], [2]), ([2], [2]), ([2], [2]), ([4, 5, 2], [2, 4, 5]), ([6, 2], [2, 6]), ([3, 7, 2, 2], [2, 3, 7]), ([2, 8], [2, 8])])
def spec_l02Insert.B6 : List Nat := [0, 1, 3, 7, 7, 7, 55, 119, 255, 511]
theorem spec_l02Insert.tab6 : rtab .any (opsOf Try.f74 6) = spec_l02Insert.T6 := by kernel_rfl
theorem spec_l02Insert.bits6 : waitsOk spec_l02Insert.T6.2 spec_l02Insert.B6 = true := by kernel_rfl
set_option maxHeartbeats 8000000 in
set_option maxRecDepth 100000 in
theorem spec_l02Insert.calls (k : Nat) (A0 : Option Addr) (c0 : Nat) (l0 : List (S68)) (a1_0 : Int) (a1_1 : Int) (r : List (S68)) (w : World) (hr0 : Kd.C k68 w A0 l0.length l0) (hc0 : l0.length ≤ c0) (h : spec_l02Insert.f k l0 a1_0 a1_1 = some r) :
    Calls Try.prog 74 #[.slice A0 l0.length c0, .agg #[.int .i64 a1_0, .int .i64 a1_1]] w fun e w' => ∃ v0_ : Value, e = .returned (v0_) ∧ Kd.R k68 68 w' w.heap.size (fun _ => True) v0_ r ∧ Below w.heap.size w w' := by
  have hu68 := Try.underlying68
  have HR0 := Aside0.mk hr0
  have HC0 := Aside0.mk hc0
  clear hr0 hc0
  have HB := Aside0.mk (Below.refl w.heap.size w)
  have H : (spec_l02Insert.l0 k l0 (([] : List (S68))) false 0 a1_0 a1_1) = some r := h
  clear h
  obtain ⟨y127, hy127⟩ : ∃ y_ : List (S68), y_ = (([] : List (S68))) := ⟨_, rfl⟩
  replace H : (spec_l02Insert.l0 k l0 y127 false 0 a1_0 a1_1) = some r := by first | (rw [hy127]; with_reducible exact H) | (have H2_ := (Option.bind_some _ _).symm.trans H; rw [hy127]; with_reducible exact H2_) | (have H2_ := (Option.bind_some _ _).symm.trans H; with_reducible exact H2_) | with_reducible exact H | (rw [hy127]; exact H) | exact H
  have Ny127 := Aside0.mk hy127
  clear hy127
  have H' := Aside0.mk H
  clear H
  go_enter Try.func74, Try.ntmps74
  go_wp2_with (first | ((with_reducible refine gD 3 ?_); refine BX #[.int .i64 a1_0, .int .i64 a1_1] 68 ?_; intro gb126 hg w3 hbox hb; have BK126 := Aside0.mk (hbox); have GW126 := Aside0.mk ((Gle hg Hb : w.heap.size ≤ gb126)); have GE126 := Aside0.mk ((Gle hg Hb : w.heap.size ≤ gb126)); replace HB := Aside0.mk (below_step Hb hb); clear hb hbox hg) | ((with_reducible refine gD 8 ?_); refine Kd.R_lit k68 _ 68 ?hg (N := 8) ?hd (xs := ([] : List (S68))) (inner := []) (ok := fun _ => True) (okp := fun _ => True) ?hr ?hp (fun _ hk => hk) trivial (Below.refl _ _) (Nat.le_refl _) (by simp) ?_; (case hd => rfl); (case hg => rfl); (case hr => first | (go_simp; done) | (go_simp; rfl)); (case hp => exact (Reps.none _ _)); intro v128 w4 ho5 hb hg_ hnew_; clear hg_ hnew_; (first | rw [← Ny127.out] at ho5 | (simp only [Int.reduceToNat] at ho5; rw [← Ny127.out] at ho5)); have HO129 := Aside0.mk (Kd.R_lower (Kd.R_newB ho5 (g := gb126) (o := .cells #[.int .i64 a1_0, .int .i64 a1_1] 68 (0, 0)) (B1 BK126)) (below_size Hb)); replace BK126 := Aside0.mk (blk_below (B1 BK126) hb); replace HB := Aside0.mk (below_step Hb hb); clear hb ho5))
  go_loopg [5, 6, 7] k (fun kq v5 v6 v7 w' => ∃ (x5_1 : List (S68)) (x6_1 : Bool) (x7_1 : Int), v6 = .bool x6_1 ∧ v7 = .int .i64 x7_1 ∧ Aside0 (spec_l02Insert.l0 kq l0 x5_1 x6_1 x7_1 a1_0 a1_1 = some r) ∧ Aside0 (kq ≤ k) ∧ Aside0 (Kd.R k68 68 w' w.heap.size (fun k_ => k_ ≠ gb126) v5 x5_1) ∧ Aside0 (w'.heap[gb126]? = some (.cells #[.int .i64 a1_0, .int .i64 a1_1] 68 (0, 0))) ∧ Aside0 (Below w.heap.size w w'))
  case atStart => exact ⟨(y127), (false), (0), Fs, Fs, H', ⟨Nat.le_refl _⟩, ⟨by (with_reducible repeat (first | apply Kd.R_alloc | apply Kd.R_drewN | apply Kd.R_drew)); exact Kd.R_mono HO129.out (fun _ hk => hk.2)⟩, ⟨B1 BK126⟩, ⟨Hb⟩⟩
  case round =>
    clear H'
    try clear p2
    obtain ⟨x5_1, x6_1, x7_1, rfl, rfl, HA, HK1, HO_5, BK126, HB⟩ := hrel
    cases gk with
    | zero => exact absurd HA.out (by simp [spec_l02Insert.l0])
    | succ k1 =>
      have H := HA.out
      clear HA
      simp only [spec_l02Insert.l0] at H
      by_cases c6 : x7_1 < (l0.length : Int)
      · rw [if_pos c6] at H
        have c6b0 : decide (x7_1 < (l0.length : Int)) = true := decide_eq_true c6
        clear c6
        by_cases c7 : x6_1 = true
        · subst c7
          rw [if_pos rfl] at H
          by_cases c8 : 0 ≤ x7_1
          · rw [if_pos c8] at H
            have c8b0 : decide (0 ≤ x7_1) = true := decide_eq_true c8
            clear c8
            by_cases c9 : x5_1.length < 8796093022208
            · rw [if_pos c9] at H
              have LMc9 := Aside0.mk c9
              clear c9
              obtain ⟨y131, hy131⟩ : ∃ y_ : List (S68), y_ = (x5_1 ++ [(⟨(rd_T68 l0 x7_1).f0, (rd_T68 l0 x7_1).f1⟩ : S68)]) := ⟨_, rfl⟩
              replace H : (spec_l02Insert.l0 k1 l0 y131 true (wrap64 (x7_1 + 1)) a1_0 a1_1) = some r := by first | (rw [hy131]; with_reducible exact H) | (have H2_ := (Option.bind_some _ _).symm.trans H; rw [hy131]; with_reducible exact H2_) | (have H2_ := (Option.bind_some _ _).symm.trans H; with_reducible exact H2_) | with_reducible exact H | (rw [hy131]; exact H) | exact H
              have Ny131 := Aside0.mk hy131
              clear hy131
              have H' := Aside0.mk H
              clear H
              try go_wp2
              replace HO_5 := Aside0.mk (Kd.R_drew HO_5.out)
              replace BK126 := Aside0.mk (blk_drew BK126.out)
              replace HB := Aside0.mk (below_drew1 HB.out)
              refine start_ (n := 10) (S := fun w' => True) (ds := []) #[false, false, false, false, false, false, false, false, false, false] (by kernel_rfl) rfl rfl trivial (fun hHeld => ?_); refine with_tabW spec_l02Insert.tab6 spec_l02Insert.bits6 (fun HT_ HW_ => ?_)
              generalize wr.drew = w10 at HO_5 BK126 HB hHeld ⊢
              refine PU 0 15 ?_
              refine PU 1 16 ?_
              refine PU 2 17 ?_
              refine PV 3 18 ?_
              refine PV 4 19 ?_
              refine PV 5 20 ?_
              refine PV 6 21 ?_
              refine PV 7 22 ?_
              refine PV 8 23 ?_
              refine PU 9 24 ?_
              refine done_ (done_of HT_.out (by kernel_rfl)) ?_
              have p130 : 0 ≤ (x7_1 : Int) := oD
              have q130 : x7_1 < (l0.length : Int) := oD
              obtain ⟨ad130, e130, hx130_0, hx130_1⟩ := at_T68 HR0.out x7_1 p130 q130
              cases e130
              replace hx130_0 := hxb hx130_0
              replace hx130_1 := hxb hx130_1
              replace p130 := eq_true p130
              replace q130 := eq_true q130
              try go_wp2_with (first | ((with_reducible refine gate_builtin (b := .append) (xs := #[.tmp 29, .tmp 34]) rfl ?_); at_builtin; refine Kd.R_append k68 (w0 := w) w.heap.size rfl (.tmp 29) (.tmp 34) 24 68 (.agg #[(.int .i64 0), (.int .i64 0)]) 16 rfl Try.underlying24 info68 rfl (by decide) (by omega) u5 x5_1 (⟨(rd_T68 l0 x7_1).f0, (rd_T68 l0 x7_1).f1⟩ : S68) [.int .i64 ((rd_T68 l0 x7_1).f0), .int .i64 ((rd_T68 l0 x7_1).f1)] (fun k_ => k_ ≠ gb126) (fun _ => False) rfl rfl ?aP (fun _ hk => hk.elim) ?aF ?aO ?aB ?aS ?aL ?_; (case aP => exact k68_mkM _ _ _ (⟨(rd_T68 l0 x7_1).f0, (rd_T68 l0 x7_1).f1⟩ : S68)); (case aB => exact Hb); (case aF => exact (fun k_ hk => Kd.freshB (g := gb126) (o := .cells #[.int .i64 a1_0, .int .i64 a1_1] 68 (0, 0)) (B1 BK126) k_ hk)); (case aO => exact (R1 HO_5)); (case aS => exact (below_size Hb)); (case aL => have := LMc9.out; omega); intro v132 w11 ho hb hg hat; rw [← Ny131.out] at ho; replace BK126 := Aside0.mk (blk_grown (B1 BK126) hg (Kd.R_away HO_5.out (fun _ hk => hk))); replace HB := Aside0.mk (hb); have HO133 := Aside0.mk (ho); clear HO_5; clear ho hb hg hat))
              go_roundg k1
              case measure => have := HK1.out; omega
              case rel => exact ⟨(y131), (true), (wrap64 (x7_1 + 1)), Fs, Fs, H', ⟨by have := HK1.out; omega⟩, ⟨R1 HO133⟩, ⟨B1 BK126⟩, ⟨Hb⟩⟩
            · rw [if_neg c9] at H
              exact absurd H (by simp)
          · rw [if_neg c8] at H
            exact absurd H (by simp)
        · replace c7 := Bool.eq_false_iff.mpr c7
          subst c7
          rw [if_neg (show ¬ (false = true) by decide)] at H
          by_cases c12 : 0 ≤ x7_1
          · rw [if_pos c12] at H
            have c12b0 : decide (0 ≤ x7_1) = true := decide_eq_true c12
            clear c12
            obtain ⟨t135, A130, H⟩ := Option.bind_eq_some_iff.mp H
            have A13 := Aside0.mk A130
            clear A130
            by_cases c14 : t135 = true
            · subst c14
              rw [if_pos rfl] at H
              by_cases c15 : x5_1.length < 8796093022208
              · rw [if_pos c15] at H
                have LMc15 := Aside0.mk c15
                clear c15
                obtain ⟨y136, hy136⟩ : ∃ y_ : List (S68), y_ = (x5_1 ++ [(⟨a1_0, a1_1⟩ : S68)]) := ⟨_, rfl⟩
                replace H : (if y136.length < 8796093022208 then (spec_l02Insert.l0 k1 l0 (y136 ++ [(⟨(rd_T68 l0 x7_1).f0, (rd_T68 l0 x7_1).f1⟩ : S68)]) true (wrap64 (x7_1 + 1)) a1_0 a1_1) else (none)) = some r := by first | (rw [hy136]; with_reducible exact H) | (have H2_ := (Option.bind_some _ _).symm.trans H; rw [hy136]; with_reducible exact H2_) | (have H2_ := (Option.bind_some _ _).symm.trans H; with_reducible exact H2_) | with_reducible exact H | (rw [hy136]; exact H) | exact H
                have Ny136 := Aside0.mk hy136
                clear hy136
                by_cases c16 : y136.length < 8796093022208
                · rw [if_pos c16] at H
                  have LMc16 := Aside0.mk c16
                  clear c16
                  obtain ⟨y140, hy140⟩ : ∃ y_ : List (S68), y_ = (y136 ++ [(⟨(rd_T68 l0 x7_1).f0, (rd_T68 l0 x7_1).f1⟩ : S68)]) := ⟨_, rfl⟩
                  replace H : (spec_l02Insert.l0 k1 l0 y140 true (wrap64 (x7_1 + 1)) a1_0 a1_1) = some r := by first | (rw [hy140]; with_reducible exact H) | (have H2_ := (Option.bind_some _ _).symm.trans H; rw [hy140]; with_reducible exact H2_) | (have H2_ := (Option.bind_some _ _).symm.trans H; with_reducible exact H2_) | with_reducible exact H | (rw [hy140]; exact H) | exact H
                  have Ny140 := Aside0.mk hy140
                  clear hy140
                  have H' := Aside0.mk H
                  clear H
                  try go_wp2
                  replace HO_5 := Aside0.mk (Kd.R_drew HO_5.out)
                  replace BK126 := Aside0.mk (blk_drew BK126.out)
                  replace HB := Aside0.mk (below_drew1 HB.out)
                  have p134 : 0 ≤ (x7_1 : Int) := oD
                  have q134 : x7_1 < (l0.length : Int) := oD
                  obtain ⟨ad134, e134, hx134_0, hx134_1⟩ := at_T68 HR0.out x7_1 p134 q134
                  have hw134_1 := hx134_1
                  have hw134_0 := hx134_0
                  cases e134
                  replace hx134_0 := hxb hx134_0
                  replace hx134_1 := hxb hx134_1
                  replace p134 := eq_true p134
                  replace q134 := eq_true q134
                  refine start_ (n := 10) (S := fun w' => w'.cell? ⟨gb126, 0, none⟩ = some (.int .i64 a1_0) ∧ w'.cell? ⟨gb126, 1, none⟩ = some (.int .i64 a1_1) ∧ w'.cell? (ad134.add ((x7_1).toNat * 2)) = some (.int .i64 ((rd_T68 l0 x7_1).f0)) ∧ w'.cell? ⟨(ad134.add ((x7_1).toNat * 2)).block, (ad134.add ((x7_1).toNat * 2)).off + 1, none⟩ = some (.int .i64 ((rd_T68 l0 x7_1).f1))) (ds := []) #[false, false, false, false, false, false, false, false, false, false] (by kernel_rfl) rfl rfl ⟨(blk_cell BK126.out 0).trans rfl, (blk_cell BK126.out 1).trans rfl, (hxb hw134_0), (hxb hw134_1)⟩ (fun hHeld => ?_); refine with_tabW spec_l02Insert.tab6 spec_l02Insert.bits6 (fun HT_ HW_ => ?_)
                  generalize wr.drew = w17 at HO_5 BK126 HB hx134_0 hx134_1 hHeld ⊢
                  refine PU 0 15 ?_
                  refine PU 1 16 ?_
                  refine PU 2 17 ?_
                  refine PU 4 19 ?_
                  refine PU 5 20 ?_
                  refine PU 6 21 ?_
                  refine TK 3 18 hHeld ?_
                  refine TK 7 22 hHeld ?_
                  refine ON 8 23 (fun K hK => ?_)
                  refine GO Try.func78 #[.agg #[.int .i64 a1_0, .int .i64 a1_1], .agg #[.int .i64 ((rd_T68 l0 x7_1).f0), .int .i64 ((rd_T68 l0 x7_1).f1)]] ?_
                  with_reducible refine (spec_l02Less.calls a1_0 a1_1 ((rd_T68 l0 x7_1).f0) ((rd_T68 l0 x7_1).f1) true _ A13.out).mono ?_
                  rintro e w18 ⟨rfl, hb⟩
                  refine ⟨_, rfl, ?_⟩
                  replace HO_5 := Aside0.mk (Kd.R_below (R1 HO_5) hb)
                  replace BK126 := Aside0.mk (blk_below (B1 BK126) hb)
                  replace HB := Aside0.mk (below_step Hb hb)
                  (try clear hb)
                  (try clear hb2)
                  (try clear hk)
                  (try clear hi)
                  refine hK.out _ _ ⟨(blk_cell BK126.out 0).trans rfl, (blk_cell BK126.out 1).trans rfl, (hxb hw134_0), (hxb hw134_1)⟩ (fun hHeld => ?_)
                  clear hK K
                  refine NM 23 ?_
                  refine PU 9 24 ?_
                  refine done_ (done_of HT_.out (by kernel_rfl)) ?_
                  have hcz19_0 : w18.cell? ⟨gb126, 0, none⟩ = some (.int .i64 a1_0) := bc BK126
                  have hcz19_1 : w18.cell? ⟨gb126, 1, none⟩ = some (.int .i64 a1_1) := bc BK126
                  have hfz19_0 := blk_frozen BK126.out 0
                  have hfz19_1 := blk_frozen BK126.out 1
                  try go_wp2_with (first | ((with_reducible refine gate_builtin (b := .append) (xs := #[.tmp 25, .tmp 27]) rfl ?_); at_builtin; refine Kd.R_append k68 (w0 := w) w.heap.size rfl (.tmp 25) (.tmp 27) 24 68 (.agg #[(.int .i64 0), (.int .i64 0)]) 16 rfl Try.underlying24 info68 rfl (by decide) (by omega) u5 x5_1 (⟨a1_0, a1_1⟩ : S68) [.int .i64 a1_0, .int .i64 a1_1] (fun k_ => k_ ≠ gb126) (fun _ => False) rfl rfl ?aP (fun _ hk => hk.elim) ?aF ?aO ?aB ?aS ?aL ?_; (case aP => exact k68_mkM _ _ _ (⟨a1_0, a1_1⟩ : S68)); (case aB => exact Hb); (case aF => exact (fun k_ hk => Kd.freshB (g := gb126) (o := .cells #[.int .i64 a1_0, .int .i64 a1_1] 68 (0, 0)) (B1 BK126) k_ hk)); (case aO => exact (R1 HO_5)); (case aS => exact (below_size Hb)); (case aL => have := LMc15.out; omega); intro v137 w20 ho hb hg hat; rw [← Ny136.out] at ho; replace BK126 := Aside0.mk (blk_grown (B1 BK126) hg (Kd.R_away HO_5.out (fun _ hk => hk))); replace HB := Aside0.mk (hb); have HO138 := Aside0.mk (ho); clear HO_5; clear ho hb hg hat; have p139 : 0 ≤ (x7_1 : Int) := oD; have q139 : x7_1 < (l0.length : Int) := oD; obtain ⟨ad139, e139, hx139_0, hx139_1⟩ := at_T68 HR0.out x7_1 p139 q139; obtain rfl : ad134 = ad139 := (by injection e139); replace hx139_0 := hxb hx139_0; replace hx139_1 := hxb hx139_1; replace p139 := eq_true p139; replace q139 := eq_true q139) | ((with_reducible refine gate_builtin (b := .append) (xs := #[.tmp 29, .tmp 34]) rfl ?_); at_builtin; refine Kd.R_append k68 (w0 := w) w.heap.size rfl (.tmp 29) (.tmp 34) 24 68 (.agg #[(.int .i64 0), (.int .i64 0)]) 16 rfl Try.underlying24 info68 rfl (by decide) (by omega) v137 y136 (⟨(rd_T68 l0 x7_1).f0, (rd_T68 l0 x7_1).f1⟩ : S68) [.int .i64 ((rd_T68 l0 x7_1).f0), .int .i64 ((rd_T68 l0 x7_1).f1)] (fun k_ => k_ ≠ gb126) (fun _ => False) rfl rfl ?aP (fun _ hk => hk.elim) ?aF ?aO ?aB ?aS ?aL ?_; (case aP => exact k68_mkM _ _ _ (⟨(rd_T68 l0 x7_1).f0, (rd_T68 l0 x7_1).f1⟩ : S68)); (case aB => exact Hb); (case aF => exact (fun k_ hk => Kd.freshB (g := gb126) (o := .cells #[.int .i64 a1_0, .int .i64 a1_1] 68 (0, 0)) (B1 BK126) k_ hk)); (case aO => exact (R1 HO138)); (case aS => exact (below_size Hb)); (case aL => have := LMc16.out; omega); intro v141 w21 ho hb hg hat; rw [← Ny140.out] at ho; replace BK126 := Aside0.mk (blk_grown (B1 BK126) hg (Kd.R_away HO138.out (fun _ hk => hk))); replace HB := Aside0.mk (hb); have HO142 := Aside0.mk (ho); clear HO138; clear ho hb hg hat))
                  go_roundg k1
                  case measure => have := HK1.out; omega
                  case rel => exact ⟨(y140), (true), (wrap64 (x7_1 + 1)), Fs, Fs, H', ⟨by have := HK1.out; omega⟩, ⟨R1 HO142⟩, ⟨B1 BK126⟩, ⟨Hb⟩⟩
                · rw [if_neg c16] at H
                  exact absurd H (by simp)
              · rw [if_neg c15] at H
                exact absurd H (by simp)
            · replace c14 := Bool.eq_false_iff.mpr c14
              subst c14
              rw [if_neg (show ¬ (false = true) by decide)] at H
              by_cases c22 : x5_1.length < 8796093022208
              · rw [if_pos c22] at H
                have LMc22 := Aside0.mk c22
                clear c22
                obtain ⟨y144, hy144⟩ : ∃ y_ : List (S68), y_ = (x5_1 ++ [(⟨(rd_T68 l0 x7_1).f0, (rd_T68 l0 x7_1).f1⟩ : S68)]) := ⟨_, rfl⟩
                replace H : (spec_l02Insert.l0 k1 l0 y144 false (wrap64 (x7_1 + 1)) a1_0 a1_1) = some r := by first | (rw [hy144]; with_reducible exact H) | (have H2_ := (Option.bind_some _ _).symm.trans H; rw [hy144]; with_reducible exact H2_) | (have H2_ := (Option.bind_some _ _).symm.trans H; with_reducible exact H2_) | with_reducible exact H | (rw [hy144]; exact H) | exact H
                have Ny144 := Aside0.mk hy144
                clear hy144
                have H' := Aside0.mk H
                clear H
                try go_wp2
                replace HO_5 := Aside0.mk (Kd.R_drew HO_5.out)
                replace BK126 := Aside0.mk (blk_drew BK126.out)
                replace HB := Aside0.mk (below_drew1 HB.out)
                have p134 : 0 ≤ (x7_1 : Int) := oD
                have q134 : x7_1 < (l0.length : Int) := oD
                obtain ⟨ad134, e134, hx134_0, hx134_1⟩ := at_T68 HR0.out x7_1 p134 q134
                have hw134_1 := hx134_1
                have hw134_0 := hx134_0
                cases e134
                replace hx134_0 := hxb hx134_0
                replace hx134_1 := hxb hx134_1
                replace p134 := eq_true p134
                replace q134 := eq_true q134
                refine start_ (n := 10) (S := fun w' => w'.cell? ⟨gb126, 0, none⟩ = some (.int .i64 a1_0) ∧ w'.cell? ⟨gb126, 1, none⟩ = some (.int .i64 a1_1) ∧ w'.cell? (ad134.add ((x7_1).toNat * 2)) = some (.int .i64 ((rd_T68 l0 x7_1).f0)) ∧ w'.cell? ⟨(ad134.add ((x7_1).toNat * 2)).block, (ad134.add ((x7_1).toNat * 2)).off + 1, none⟩ = some (.int .i64 ((rd_T68 l0 x7_1).f1))) (ds := []) #[false, false, false, false, false, false, false, false, false, false] (by kernel_rfl) rfl rfl ⟨(blk_cell BK126.out 0).trans rfl, (blk_cell BK126.out 1).trans rfl, (hxb hw134_0), (hxb hw134_1)⟩ (fun hHeld => ?_); refine with_tabW spec_l02Insert.tab6 spec_l02Insert.bits6 (fun HT_ HW_ => ?_)
                generalize wr.drew = w23 at HO_5 BK126 HB hx134_0 hx134_1 hHeld ⊢
                refine PU 0 15 ?_
                refine PU 1 16 ?_
                refine PU 2 17 ?_
                refine PU 4 19 ?_
                refine PU 5 20 ?_
                refine PU 6 21 ?_
                refine TK 3 18 hHeld ?_
                refine TK 7 22 hHeld ?_
                refine ON 8 23 (fun K hK => ?_)
                refine GO Try.func78 #[.agg #[.int .i64 a1_0, .int .i64 a1_1], .agg #[.int .i64 ((rd_T68 l0 x7_1).f0), .int .i64 ((rd_T68 l0 x7_1).f1)]] ?_
                with_reducible refine (spec_l02Less.calls a1_0 a1_1 ((rd_T68 l0 x7_1).f0) ((rd_T68 l0 x7_1).f1) false _ A13.out).mono ?_
                rintro e w24 ⟨rfl, hb⟩
                refine ⟨_, rfl, ?_⟩
                replace HO_5 := Aside0.mk (Kd.R_below (R1 HO_5) hb)
                replace BK126 := Aside0.mk (blk_below (B1 BK126) hb)
                replace HB := Aside0.mk (below_step Hb hb)
                (try clear hb)
                (try clear hb2)
                (try clear hk)
                (try clear hi)
                refine hK.out _ _ ⟨(blk_cell BK126.out 0).trans rfl, (blk_cell BK126.out 1).trans rfl, (hxb hw134_0), (hxb hw134_1)⟩ (fun hHeld => ?_)
                clear hK K
                refine NM 23 ?_
                refine PU 9 24 ?_
                refine done_ (done_of HT_.out (by kernel_rfl)) ?_
                have p143 : 0 ≤ (x7_1 : Int) := oD
                have q143 : x7_1 < (l0.length : Int) := oD
                obtain ⟨ad143, e143, hx143_0, hx143_1⟩ := at_T68 HR0.out x7_1 p143 q143
                obtain rfl : ad134 = ad143 := (by injection e143)
                replace hx143_0 := hxb hx143_0
                replace hx143_1 := hxb hx143_1
                replace p143 := eq_true p143
                replace q143 := eq_true q143
                try go_wp2_with (first | ((with_reducible refine gate_builtin (b := .append) (xs := #[.tmp 29, .tmp 34]) rfl ?_); at_builtin; refine Kd.R_append k68 (w0 := w) w.heap.size rfl (.tmp 29) (.tmp 34) 24 68 (.agg #[(.int .i64 0), (.int .i64 0)]) 16 rfl Try.underlying24 info68 rfl (by decide) (by omega) u5 x5_1 (⟨(rd_T68 l0 x7_1).f0, (rd_T68 l0 x7_1).f1⟩ : S68) [.int .i64 ((rd_T68 l0 x7_1).f0), .int .i64 ((rd_T68 l0 x7_1).f1)] (fun k_ => k_ ≠ gb126) (fun _ => False) rfl rfl ?aP (fun _ hk => hk.elim) ?aF ?aO ?aB ?aS ?aL ?_; (case aP => exact k68_mkM _ _ _ (⟨(rd_T68 l0 x7_1).f0, (rd_T68 l0 x7_1).f1⟩ : S68)); (case aB => exact Hb); (case aF => exact (fun k_ hk => Kd.freshB (g := gb126) (o := .cells #[.int .i64 a1_0, .int .i64 a1_1] 68 (0, 0)) (B1 BK126) k_ hk)); (case aO => exact (R1 HO_5)); (case aS => exact (below_size Hb)); (case aL => have := LMc22.out; omega); intro v145 w25 ho hb hg hat; rw [← Ny144.out] at ho; replace BK126 := Aside0.mk (blk_grown (B1 BK126) hg (Kd.R_away HO_5.out (fun _ hk => hk))); replace HB := Aside0.mk (hb); have HO146 := Aside0.mk (ho); clear HO_5; clear ho hb hg hat))
                go_roundg k1
                case measure => have := HK1.out; omega
                case rel => exact ⟨(y144), (false), (wrap64 (x7_1 + 1)), Fs, Fs, H', ⟨by have := HK1.out; omega⟩, ⟨R1 HO146⟩, ⟨B1 BK126⟩, ⟨Hb⟩⟩
              · rw [if_neg c22] at H
                exact absurd H (by simp)
          · rw [if_neg c12] at H
            exact absurd H (by simp)
      · rw [if_neg c6] at H
        have c6b0 : decide (x7_1 < (l0.length : Int)) = false := decide_eq_false c6
        clear c6
        by_cases c26 : x6_1 = true
        · subst c26
          rw [if_pos rfl] at H
          obtain rfl := Option.some.inj H
          go_wp2
          go_ret
          exact ⟨_, Fin, by (with_reducible repeat (first | apply Kd.R_alloc | apply Kd.R_drewN | apply Kd.R_drew)); exact Kd.R_mono HO_5.out (fun _ hk => trivial), Hb⟩
        · replace c26 := Bool.eq_false_iff.mpr c26
          subst c26
          rw [if_neg (show ¬ (false = true) by decide)] at H
          by_cases c27 : x5_1.length < 8796093022208
          · rw [if_pos c27] at H
            have LMc27 := Aside0.mk c27
            clear c27
            obtain ⟨y147, hy147⟩ : ∃ y_ : List (S68), y_ = (x5_1 ++ [(⟨a1_0, a1_1⟩ : S68)]) := ⟨_, rfl⟩
            replace H : (some y147) = some r := by first | (rw [hy147]; with_reducible exact H) | (have H2_ := (Option.bind_some _ _).symm.trans H; rw [hy147]; with_reducible exact H2_) | (have H2_ := (Option.bind_some _ _).symm.trans H; with_reducible exact H2_) | with_reducible exact H | (rw [hy147]; exact H) | exact H
            have Ny147 := Aside0.mk hy147
            clear hy147
            obtain rfl := Option.some.inj H
            have hcz28_0 : wr.cell? ⟨gb126, 0, none⟩ = some (.int .i64 a1_0) := bc BK126
            have hcz28_1 : wr.cell? ⟨gb126, 1, none⟩ = some (.int .i64 a1_1) := bc BK126
            have hfz28_0 := blk_frozen BK126.out 0
            have hfz28_1 := blk_frozen BK126.out 1
            go_wp2_with (first | ((with_reducible refine gate_builtin (b := .append) (xs := #[.tmp 38, .tmp 40]) rfl ?_); at_builtin; refine Kd.R_append k68 (w0 := w) w.heap.size rfl (.tmp 38) (.tmp 40) 24 68 (.agg #[(.int .i64 0), (.int .i64 0)]) 16 rfl Try.underlying24 info68 rfl (by decide) (by omega) u5 x5_1 (⟨a1_0, a1_1⟩ : S68) [.int .i64 a1_0, .int .i64 a1_1] (fun k_ => k_ ≠ gb126) (fun _ => False) rfl rfl ?aP (fun _ hk => hk.elim) ?aF ?aO ?aB ?aS ?aL ?_; (case aP => exact k68_mkM _ _ _ (⟨a1_0, a1_1⟩ : S68)); (case aB => exact Hb); (case aF => exact (fun k_ hk => Kd.freshB (g := gb126) (o := .cells #[.int .i64 a1_0, .int .i64 a1_1] 68 (0, 0)) (B1 BK126) k_ hk)); (case aO => exact (R1 HO_5)); (case aS => exact (below_size Hb)); (case aL => have := LMc27.out; omega); intro v148 w29 ho hb hg hat; rw [← Ny147.out] at ho; replace BK126 := Aside0.mk (blk_grown (B1 BK126) hg (Kd.R_away HO_5.out (fun _ hk => hk))); replace HB := Aside0.mk (hb); have HO149 := Aside0.mk (ho); clear HO_5; clear ho hb hg hat))
            go_ret
            exact ⟨_, Fin, by (with_reducible repeat (first | apply Kd.R_alloc | apply Kd.R_drewN | apply Kd.R_drew)); exact Kd.R_mono HO149.out (fun _ hk => trivial), Hb⟩
          · rw [if_neg c27] at H
            exact absurd H (by simp)

/-! ### spec_l02Around: function 86 -/
def spec_l02Around.f (a0_0 : Int) (a0_1 : Int) : Option ((List (S68))) := some (([(⟨a0_0, wrap64 (a0_1 - 1)⟩ : S68), (⟨wrap64 (a0_0 - 1), a0_1⟩ : S68), (⟨wrap64 (a0_0 + 1), a0_1⟩ : S68), (⟨a0_0, wrap64 (a0_1 + 1)⟩ : S68)] : List (S68)))
set_option maxHeartbeats 8000000 in
set_option maxRecDepth 100000 in
theorem spec_l02Around.calls (a0_0 : Int) (a0_1 : Int) (r : List (S68)) (w : World) (h : spec_l02Around.f a0_0 a0_1 = some r) :
    Calls Try.prog 86 #[.agg #[.int .i64 a0_0, .int .i64 a0_1]] w fun e w' => ∃ v0_ : Value, e = .returned (v0_) ∧ Kd.R k68 68 w' w.heap.size (fun _ => True) v0_ r ∧ Below w.heap.size w w' := by
  have hu68 := Try.underlying68
  have HB := Aside0.mk (Below.refl w.heap.size w)
  have H : (some (([(⟨a0_0, wrap64 (a0_1 - 1)⟩ : S68), (⟨wrap64 (a0_0 - 1), a0_1⟩ : S68), (⟨wrap64 (a0_0 + 1), a0_1⟩ : S68), (⟨a0_0, wrap64 (a0_1 + 1)⟩ : S68)] : List (S68)))) = some r := h
  clear h
  obtain ⟨y151, hy151⟩ : ∃ y_ : List (S68), y_ = (([(⟨a0_0, wrap64 (a0_1 - 1)⟩ : S68), (⟨wrap64 (a0_0 - 1), a0_1⟩ : S68), (⟨wrap64 (a0_0 + 1), a0_1⟩ : S68), (⟨a0_0, wrap64 (a0_1 + 1)⟩ : S68)] : List (S68))) := ⟨_, rfl⟩
  replace H : (some y151) = some r := by first | (rw [hy151]; with_reducible exact H) | (have H2_ := (Option.bind_some _ _).symm.trans H; rw [hy151]; with_reducible exact H2_) | (have H2_ := (Option.bind_some _ _).symm.trans H; with_reducible exact H2_) | with_reducible exact H | (rw [hy151]; exact H) | exact H
  have Ny151 := Aside0.mk hy151
  clear hy151
  obtain rfl := Option.some.inj H
  go_enter Try.func86, Try.ntmps86
  go_wp2_with (first | ((with_reducible refine gD 1 ?_); refine BX #[.int .i64 a0_0, .int .i64 a0_1] 68 ?_; intro gb150 hg w2 hbox hb; have BK150 := Aside0.mk (hbox); have GW150 := Aside0.mk ((Gle hg Hb : w.heap.size ≤ gb150)); have GE150 := Aside0.mk ((Gle hg Hb : w.heap.size ≤ gb150)); replace HB := Aside0.mk (below_step Hb hb); clear hb hbox hg; have hcz3_0 : w2.cell? ⟨gb150, 0, none⟩ = some (.int .i64 a0_0) := bc BK150; have hcz3_1 : w2.cell? ⟨gb150, 1, none⟩ = some (.int .i64 a0_1) := bc BK150; have hfz3_0 := blk_frozen BK150.out 0; have hfz3_1 := blk_frozen BK150.out 1) | ((with_reducible refine gD 27 ?_); refine Kd.R_lit k68 _ 68 ?hg (N := 27) ?hd (xs := ([(⟨a0_0, wrap64 (a0_1 - 1)⟩ : S68), (⟨wrap64 (a0_0 - 1), a0_1⟩ : S68), (⟨wrap64 (a0_0 + 1), a0_1⟩ : S68), (⟨a0_0, wrap64 (a0_1 + 1)⟩ : S68)] : List (S68))) (inner := [.int .i64 a0_0, .int .i64 (wrap64 (a0_1 - 1)), .int .i64 (wrap64 (a0_0 - 1)), .int .i64 a0_1, .int .i64 (wrap64 (a0_0 + 1)), .int .i64 a0_1, .int .i64 a0_0, .int .i64 (wrap64 (a0_1 + 1))]) (ok := fun _ => True) (okp := fun _ => True) ?hr ?hp (fun _ hk => hk) trivial (Below.refl _ _) (Nat.le_refl _) (by simp) ?_; (case hd => rfl); (case hg => rfl); (case hr => first | (go_simp; done) | (go_simp; rfl)); (case hp => exact (Reps.c2 (show Kd.M k68 _ _ _ (⟨a0_0, wrap64 (a0_1 - 1)⟩ : S68) [.int .i64 a0_0, .int .i64 (wrap64 (a0_1 - 1))] from (k68_mkM _ _ _ (⟨a0_0, wrap64 (a0_1 - 1)⟩ : S68) )) (Reps.c2 (show Kd.M k68 _ _ _ (⟨wrap64 (a0_0 - 1), a0_1⟩ : S68) [.int .i64 (wrap64 (a0_0 - 1)), .int .i64 a0_1] from (k68_mkM _ _ _ (⟨wrap64 (a0_0 - 1), a0_1⟩ : S68) )) (Reps.c2 (show Kd.M k68 _ _ _ (⟨wrap64 (a0_0 + 1), a0_1⟩ : S68) [.int .i64 (wrap64 (a0_0 + 1)), .int .i64 a0_1] from (k68_mkM _ _ _ (⟨wrap64 (a0_0 + 1), a0_1⟩ : S68) )) (Reps.c2 (show Kd.M k68 _ _ _ (⟨a0_0, wrap64 (a0_1 + 1)⟩ : S68) [.int .i64 a0_0, .int .i64 (wrap64 (a0_1 + 1))] from (k68_mkM _ _ _ (⟨a0_0, wrap64 (a0_1 + 1)⟩ : S68) )) (Reps.none _ _)))))); intro v152 w4 ho5 hb hg_ hnew_; clear hg_ hnew_; (first | rw [← Ny151.out] at ho5 | (simp only [Int.reduceToNat] at ho5; rw [← Ny151.out] at ho5)); have HO153 := Aside0.mk (Kd.R_lower (Kd.R_newB ho5 (g := gb150) (o := .cells #[.int .i64 a0_0, .int .i64 a0_1] 68 (0, 0)) (B1 BK150)) (below_size Hb)); replace BK150 := Aside0.mk (blk_below (B1 BK150) hb); replace HB := Aside0.mk (below_step Hb hb); clear hb ho5))
  go_ret
  exact ⟨_, Fin, by (with_reducible repeat (first | apply Kd.R_alloc | apply Kd.R_drewN | apply Kd.R_drew)); exact Kd.R_mono HO153.out (fun _ hk => trivial), Hb⟩

/-! ### spec_l02Neighbours: function 73 -/
mutual
def spec_l02Neighbours.l0 : Nat → List (S68) → List (S68) → Int → Option ((List (S68)))
  | 0, _, _, _ => none
  | k + 1, x0, x3, x4 => if x4 < (x0.length : Int) then (if 0 ≤ x4 then ((spec_l02Around.f ((rd_T68 x0 x4).f0) ((rd_T68 x0 x4).f1)).bind fun t158 => (spec_l02Neighbours.l1 k x0 x3 x4 t158 0)) else (none)) else (some x3)
def spec_l02Neighbours.l1 : Nat → List (S68) → List (S68) → Int → List (S68) → Int → Option ((List (S68)))
  | 0, _, _, _, _, _ => none
  | k + 1, x0, x3, x4, x5, x6 => if x6 < 4 then (if 0 ≤ x6 then (if x6 < (x5.length : Int) then ((spec_l02Index.f k x0 ((rd_T68 x5 x6).f0) ((rd_T68 x5 x6).f1)).bind fun t162 => (if t162 < 0 then ((spec_l02Index.f k x3 ((rd_T68 x5 x6).f0) ((rd_T68 x5 x6).f1)).bind fun t164 => (if t164 < 0 then ((spec_l02Insert.f k x3 ((rd_T68 x5 x6).f0) ((rd_T68 x5 x6).f1)).bind fun t166 => (spec_l02Neighbours.l1 k x0 t166 x4 x5 (wrap64 (x6 + 1)))) else (spec_l02Neighbours.l1 k x0 x3 x4 x5 (wrap64 (x6 + 1))))) else (spec_l02Neighbours.l1 k x0 x3 x4 x5 (wrap64 (x6 + 1))))) else (none)) else (none)) else (spec_l02Neighbours.l0 k x0 x3 (wrap64 (x4 + 1)))
end
def spec_l02Neighbours.f (k : Nat) (l0 : List (S68)) : Option ((List (S68))) := spec_l02Neighbours.l0 k l0 (([] : List (S68))) 0
theorem spec_l02Neighbours.mono_l : ∀ k, (∀ y0 y1 y2, LeO (spec_l02Neighbours.l0 k y0 y1 y2) (spec_l02Neighbours.l0 (k + 1) y0 y1 y2)) ∧ (∀ y0 y1 y2 y3 y4, LeO (spec_l02Neighbours.l1 k y0 y1 y2 y3 y4) (spec_l02Neighbours.l1 (k + 1) y0 y1 y2 y3 y4))
  | 0 => ⟨fun _ _ _ r h => by simp [spec_l02Neighbours.l0] at h, fun _ _ _ _ _ r h => by simp [spec_l02Neighbours.l1] at h⟩
  | k + 1 => by
    obtain ⟨ih0, ih1⟩ := spec_l02Neighbours.mono_l k
    refine ⟨?_, ?_⟩
    · intro y0 y1 y2
      unfold spec_l02Neighbours.l0
      repeat' first
      | (with_reducible exact ih0 _ _ _)
      | (with_reducible exact ih1 _ _ _ _ _)
      | (with_reducible exact spec_l02Index.mono _ _ _ _)
      | (with_reducible exact spec_l02Insert.mono _ _ _ _)
      | (with_reducible exact LeO.refl _)
      | (with_reducible exact LeO.none _)
      | (with_reducible refine LeO.ite ?_ ?_)
      | (with_reducible refine LeO.bind ?_ (fun _ => ?_))
      | exact ih0 _ _ _
      | exact ih1 _ _ _ _ _
      | exact spec_l02Index.mono _ _ _ _
      | exact spec_l02Insert.mono _ _ _ _
      | exact LeO.none _
      | refine LeO.ite ?_ ?_
      | refine LeO.bind ?_ (fun _ => ?_)
    · intro y0 y1 y2 y3 y4
      unfold spec_l02Neighbours.l1
      repeat' first
      | (with_reducible exact ih0 _ _ _)
      | (with_reducible exact ih1 _ _ _ _ _)
      | (with_reducible exact spec_l02Index.mono _ _ _ _)
      | (with_reducible exact spec_l02Insert.mono _ _ _ _)
      | (with_reducible exact LeO.refl _)
      | (with_reducible exact LeO.none _)
      | (with_reducible refine LeO.ite ?_ ?_)
      | (with_reducible refine LeO.bind ?_ (fun _ => ?_))
      | exact ih0 _ _ _
      | exact ih1 _ _ _ _ _
      | exact spec_l02Index.mono _ _ _ _
      | exact spec_l02Insert.mono _ _ _ _
      | exact LeO.none _
      | refine LeO.ite ?_ ?_
      | refine LeO.bind ?_ (fun _ => ?_)
theorem spec_l02Neighbours.mono : ∀ a0 k, LeO (spec_l02Neighbours.f k a0) (spec_l02Neighbours.f (k + 1) a0) := by
  intro a0 k
  obtain ⟨ih0, ih1⟩ := spec_l02Neighbours.mono_l k
  unfold spec_l02Neighbours.f
  repeat' first
      | (with_reducible exact ih0 _ _ _)
      | (with_reducible exact ih1 _ _ _ _ _)
      | (with_reducible exact spec_l02Index.mono _ _ _ _)
      | (with_reducible exact spec_l02Insert.mono _ _ _ _)
      | (with_reducible exact LeO.refl _)
      | (with_reducible exact LeO.none _)
      | (with_reducible refine LeO.ite ?_ ?_)
      | (with_reducible refine LeO.bind ?_ (fun _ => ?_))
      | exact ih0 _ _ _
      | exact ih1 _ _ _ _ _
      | exact spec_l02Index.mono _ _ _ _
      | exact spec_l02Insert.mono _ _ _ _
      | exact LeO.none _
      | refine LeO.ite ?_ ?_
      | refine LeO.bind ?_ (fun _ => ?_)
set_option maxHeartbeats 8000000 in
set_option maxRecDepth 100000 in
theorem spec_l02Neighbours.calls (k : Nat) (A0 : Option Addr) (c0 : Nat) (l0 : List (S68)) (r : List (S68)) (w : World) (hr0 : Kd.C k68 w A0 l0.length l0) (hc0 : l0.length ≤ c0) (h : spec_l02Neighbours.f k l0 = some r) :
    Calls Try.prog 73 #[.slice A0 l0.length c0] w fun e w' => ∃ v0_ : Value, e = .returned (v0_) ∧ Kd.R k68 68 w' w.heap.size (fun _ => True) v0_ r ∧ Below w.heap.size w w' := by
  have hu68 := Try.underlying68
  have HR0 := Aside0.mk hr0
  have HC0 := Aside0.mk hc0
  clear hr0 hc0
  have HB := Aside0.mk (Below.refl w.heap.size w)
  have H : (spec_l02Neighbours.l0 k l0 (([] : List (S68))) 0) = some r := h
  clear h
  obtain ⟨y154, hy154⟩ : ∃ y_ : List (S68), y_ = (([] : List (S68))) := ⟨_, rfl⟩
  replace H : (spec_l02Neighbours.l0 k l0 y154 0) = some r := by first | (rw [hy154]; with_reducible exact H) | (have H2_ := (Option.bind_some _ _).symm.trans H; rw [hy154]; with_reducible exact H2_) | (have H2_ := (Option.bind_some _ _).symm.trans H; with_reducible exact H2_) | with_reducible exact H | (rw [hy154]; exact H) | exact H
  have Ny154 := Aside0.mk hy154
  clear hy154
  have H' := Aside0.mk H
  clear H
  go_enter Try.func73, Try.ntmps73
  go_wp2_with (first | ((with_reducible refine gD 7 ?_); refine Kd.R_lit k68 _ 68 ?hg (N := 7) ?hd (xs := ([] : List (S68))) (inner := []) (ok := fun _ => True) (okp := fun _ => True) ?hr ?hp (fun _ hk => hk) trivial (Below.refl _ _) (Nat.le_refl _) (by simp) ?_; (case hd => rfl); (case hg => rfl); (case hr => first | (go_simp; done) | (go_simp; rfl)); (case hp => exact (Reps.none _ _)); intro v155 w2 ho3 hb hg_ hnew_; clear hg_ hnew_; (first | rw [← Ny154.out] at ho3 | (simp only [Int.reduceToNat] at ho3; rw [← Ny154.out] at ho3)); have HO156 := Aside0.mk (Kd.R_lower ho3 (below_size Hb)); replace HB := Aside0.mk (below_step Hb hb); clear hb ho3))
  go_loopg [3, 4] k (fun kq v3 v4 w' => ∃ (x3_1 : List (S68)) (x4_1 : Int), v4 = .int .i64 x4_1 ∧ Aside0 (spec_l02Neighbours.l0 kq l0 x3_1 x4_1 = some r) ∧ Aside0 (kq ≤ k) ∧ Aside0 (Kd.R k68 68 w' w.heap.size (fun _ => True) v3 x3_1) ∧ Aside0 (Below w.heap.size w w'))
  case atStart => exact ⟨(y154), (0), Fs, H', ⟨Nat.le_refl _⟩, ⟨R1 HO156⟩, ⟨Hb⟩⟩
  case round =>
    clear H'
    try clear p2
    obtain ⟨x3_1, x4_1, rfl, HA, HK1, HO_3, HB⟩ := hrel
    cases gk with
    | zero => exact absurd HA.out (by simp [spec_l02Neighbours.l0])
    | succ k1 =>
      have H := HA.out
      clear HA
      simp only [spec_l02Neighbours.l0] at H
      by_cases c4 : x4_1 < (l0.length : Int)
      · rw [if_pos c4] at H
        have c4b0 : decide (x4_1 < (l0.length : Int)) = true := decide_eq_true c4
        clear c4
        by_cases c5 : 0 ≤ x4_1
        · rw [if_pos c5] at H
          have c5b0 : decide (0 ≤ x4_1) = true := decide_eq_true c5
          clear c5
          obtain ⟨t158, A60, H⟩ := Option.bind_eq_some_iff.mp H
          have A6 := Aside0.mk A60
          clear A60
          have H' := Aside0.mk H
          clear H
          have p157 : 0 ≤ (x4_1 : Int) := oD
          have q157 : x4_1 < (l0.length : Int) := oD
          obtain ⟨ad157, e157, hx157_0, hx157_1⟩ := at_T68 HR0.out x4_1 p157 q157
          cases e157
          replace hx157_0 := hxb hx157_0
          replace hx157_1 := hxb hx157_1
          replace p157 := eq_true p157
          replace q157 := eq_true q157
          go_wp2_with (first | ((with_reducible refine gC 86 ?_); refine GL (some 18) Try.func86 #[.agg #[.int .i64 ((rd_T68 l0 x4_1).f0), .int .i64 ((rd_T68 l0 x4_1).f1)]] ?_; (with_reducible refine (spec_l02Around.calls ((rd_T68 l0 x4_1).f0) ((rd_T68 l0 x4_1).f1) t158 _ A6.out).mono ?_); rintro e w7 ⟨v159, rfl, ho0, hb⟩; refine ⟨_, rfl, ?_⟩; have HO160 := Aside0.mk (Kd.R_lower (Kd.R_new' ho0 (Kd.R_lt (R1 HO_3))) (below_size Hb)); replace HO_3 := Aside0.mk (Kd.R_elder' (R1 HO_3) (Kd.R_base ho0) hb); replace HB := Aside0.mk (below_step Hb hb); (try clear hb); (try clear hb2); (try clear hk); (try clear hi); (try clear ho0)))
          go_loopg [3, 6] k1 (fun kq v3 v6 w' => ∃ (x3_2 : List (S68)) (x6_2 : Int), v6 = .int .i64 x6_2 ∧ Aside0 (spec_l02Neighbours.l1 kq l0 x3_2 x4_1 t158 x6_2 = some r) ∧ Aside0 (kq ≤ k1) ∧ Aside0 (Kd.R k68 68 w' w.heap.size (fun k_ => some k_ ≠ (v159 : Value).ownBlock) v3 x3_2) ∧ Aside0 (Kd.R k68 68 w' w.heap.size (fun k_ => some k_ ≠ (v3 : Value).ownBlock) v159 t158) ∧ Aside0 (Below w.heap.size w w'))
          case atStart => exact ⟨(x3_1), (0), Fs, H', ⟨Nat.le_refl _⟩, ⟨by (with_reducible repeat (first | apply Kd.R_alloc | apply Kd.R_drewN | apply Kd.R_drew)); exact Kd.R_mono HO_3.out (fun _ hk => hk.2)⟩, ⟨by (with_reducible repeat (first | apply Kd.R_alloc | apply Kd.R_drewN | apply Kd.R_drew)); exact Kd.R_mono HO160.out (fun _ hk => hk.2)⟩, ⟨Hb⟩⟩
          case round =>
            clear H'
            try clear p1
            try clear q1
            try clear hx1
            try clear p2
            try clear c4
            try clear c4b0
            try clear c5
            try clear c5b0
            try clear c7
            try clear hx157_0
            try clear hx157_1
            try clear p157
            try clear p2
            try clear q157
            obtain ⟨x3_2, x6_2, rfl, HA, HK2, HO_3, HO_5, HB⟩ := hrel
            cases gk with
            | zero => exact absurd HA.out (by simp [spec_l02Neighbours.l1])
            | succ k2 =>
              have H := HA.out
              clear HA
              simp only [spec_l02Neighbours.l1] at H
              by_cases c8 : x6_2 < 4
              · rw [if_pos c8] at H
                have c8b0 : decide (x6_2 < 4) = true := decide_eq_true c8
                clear c8
                by_cases c9 : 0 ≤ x6_2
                · rw [if_pos c9] at H
                  have c9b0 : decide (0 ≤ x6_2) = true := decide_eq_true c9
                  clear c9
                  by_cases c10 : x6_2 < (t158.length : Int)
                  · rw [if_pos c10] at H
                    have c10b0 : decide (x6_2 < (t158.length : Int)) = true := decide_eq_true c10
                    clear c10
                    obtain ⟨t162, A110, H⟩ := Option.bind_eq_some_iff.mp H
                    have A11 := Aside0.mk A110
                    clear A110
                    by_cases c12 : t162 < 0
                    · rw [if_pos c12] at H
                      have c12b0 : decide (t162 < 0) = true := decide_eq_true c12
                      clear c12
                      obtain ⟨t164, A130, H⟩ := Option.bind_eq_some_iff.mp H
                      have A13 := Aside0.mk A130
                      clear A130
                      by_cases c14 : t164 < 0
                      · rw [if_pos c14] at H
                        have c14b0 : decide (t164 < 0) = true := decide_eq_true c14
                        clear c14
                        obtain ⟨t166, A150, H⟩ := Option.bind_eq_some_iff.mp H
                        have A15 := Aside0.mk A150
                        clear A150
                        have H' := Aside0.mk H
                        clear H
                        obtain ⟨Ao16, co16, eo16⟩ := Kd.R_slice HO_5.out
                        subst eo16
                        have p161 : 0 ≤ (x6_2 : Int) := oD
                        have q161 : x6_2 < (t158.length : Int) := oD
                        (try (obtain ⟨Aq_, cq_, eq_⟩ := Kd.R_slice HO_5.out; subst eq_))
                        obtain ⟨ad161, e161, hx161_0, hx161_1⟩ := at_T68 (Kd.R_reads' HO_5.out).2.2 x6_2 p161 q161
                        cases e161
                        replace p161 := eq_true p161
                        replace q161 := eq_true q161
                        go_wp2_with (first | ((with_reducible refine gC 65 ?_); refine GL (some 28) Try.func65 #[.slice (some ad157) l0.length c0, .agg #[.int .i64 ((rd_T68 t158 x6_2).f0), .int .i64 ((rd_T68 t158 x6_2).f1)]] ?_; (with_reducible refine (spec_l02Index.calls k2 _ _ l0 ((rd_T68 t158 x6_2).f0) ((rd_T68 t158 x6_2).f1) t162 _ ?side1 ?side2 A11.out).mono ?_); (case side1 => exact Kd.C_below HR0.out Hb); (case side2 => exact HC0.out); rintro e w17 ⟨rfl, hb⟩; refine ⟨_, rfl, ?_⟩; replace HO_3 := Aside0.mk (Kd.R_below (R1 HO_3) hb); replace HO_5 := Aside0.mk (Kd.R_below (R1 HO_5) hb); replace HB := Aside0.mk (below_step Hb hb); (try clear hb); (try clear hb2); (try clear hk); (try clear hi); have p163 : 0 ≤ (x6_2 : Int) := oD; have q163 : x6_2 < (t158.length : Int) := oD; obtain ⟨ad163, e163, hx163_0, hx163_1⟩ := at_T68 (Kd.R_reads' HO_5.out).2.2 x6_2 p163 q163; obtain rfl : ad161 = ad163 := (by injection e163); replace p163 := eq_true p163; replace q163 := eq_true q163; obtain ⟨Ao18, co18, eo18⟩ := Kd.R_slice HO_3.out; subst eo18) | (go_at_call 65; (with_reducible refine (spec_l02Index.calls k2 _ _ x3_2 ((rd_T68 t158 x6_2).f0) ((rd_T68 t158 x6_2).f1) t164 _ ?side1 ?side2 A13.out).mono ?_); (case side1 => exact Ck (Kd.R_reads' HO_3.out).2.2); (case side2 => exact (Kd.R_reads' HO_3.out).2.1); rintro e w19 ⟨rfl, hb⟩; replace HO_3 := Aside0.mk (Kd.R_below (R1 HO_3) hb); replace HO_5 := Aside0.mk (Kd.R_below (R1 HO_5) hb); replace HB := Aside0.mk (below_step Hb hb); (try clear hb); (try clear hb2); (try clear hk); (try clear hi); have p165 : 0 ≤ (x6_2 : Int) := oD; have q165 : x6_2 < (t158.length : Int) := oD; obtain ⟨ad165, e165, hx165_0, hx165_1⟩ := at_T68 (Kd.R_reads' HO_5.out).2.2 x6_2 p165 q165; obtain rfl : ad161 = ad165 := (by injection e165); replace p165 := eq_true p165; replace q165 := eq_true q165) | ((with_reducible refine gC 74 ?_); refine GL (some 44) Try.func74 #[.slice Ao18 x3_2.length co18, .agg #[.int .i64 ((rd_T68 t158 x6_2).f0), .int .i64 ((rd_T68 t158 x6_2).f1)]] ?_; (with_reducible refine (spec_l02Insert.calls k2 _ _ x3_2 ((rd_T68 t158 x6_2).f0) ((rd_T68 t158 x6_2).f1) t166 _ ?side1 ?side2 A15.out).mono ?_); (case side1 => exact Ck (Kd.R_reads' HO_3.out).2.2); (case side2 => exact (Kd.R_reads' HO_3.out).2.1); rintro e w20 ⟨v167, rfl, ho0, hb⟩; refine ⟨_, rfl, ?_⟩; have HO168 := Aside0.mk (Kd.R_lower (Kd.R_new' (Kd.R_new' ho0 (Kd.R_lt (R1 HO_3))) (Kd.R_lt (R1 HO_5))) (below_size Hb)); replace HO_3 := Aside0.mk (Kd.R_elder' (R1 HO_3) (Kd.R_base ho0) hb); replace HO_5 := Aside0.mk (Kd.R_elder' (R1 HO_5) (Kd.R_base ho0) hb); replace HB := Aside0.mk (below_step Hb hb); (try clear hb); (try clear hb2); (try clear hk); (try clear hi); (try clear ho0)))
                        go_roundg k2
                        case measure => have := HK1.out; have := HK2.out; omega
                        case rel => exact ⟨(t166), (wrap64 (x6_2 + 1)), Fs, H', ⟨by have := HK1.out; have := HK2.out; omega⟩, ⟨by (with_reducible repeat (first | apply Kd.R_alloc | apply Kd.R_drewN | apply Kd.R_drew)); exact Kd.R_mono HO168.out (fun _ hk => hk.2)⟩, ⟨by (with_reducible repeat (first | apply Kd.R_alloc | apply Kd.R_drewN | apply Kd.R_drew)); exact Kd.R_mono HO_5.out (fun _ hk => hk.2)⟩, ⟨Hb⟩⟩
                      · rw [if_neg c14] at H
                        have c14b0 : decide (t164 < 0) = false := decide_eq_false c14
                        clear c14
                        have H' := Aside0.mk H
                        clear H
                        obtain ⟨Ao21, co21, eo21⟩ := Kd.R_slice HO_5.out
                        subst eo21
                        have p161 : 0 ≤ (x6_2 : Int) := oD
                        have q161 : x6_2 < (t158.length : Int) := oD
                        (try (obtain ⟨Aq_, cq_, eq_⟩ := Kd.R_slice HO_5.out; subst eq_))
                        obtain ⟨ad161, e161, hx161_0, hx161_1⟩ := at_T68 (Kd.R_reads' HO_5.out).2.2 x6_2 p161 q161
                        cases e161
                        replace p161 := eq_true p161
                        replace q161 := eq_true q161
                        go_wp2_with (first | ((with_reducible refine gC 65 ?_); refine GL (some 28) Try.func65 #[.slice (some ad157) l0.length c0, .agg #[.int .i64 ((rd_T68 t158 x6_2).f0), .int .i64 ((rd_T68 t158 x6_2).f1)]] ?_; (with_reducible refine (spec_l02Index.calls k2 _ _ l0 ((rd_T68 t158 x6_2).f0) ((rd_T68 t158 x6_2).f1) t162 _ ?side1 ?side2 A11.out).mono ?_); (case side1 => exact Kd.C_below HR0.out Hb); (case side2 => exact HC0.out); rintro e w22 ⟨rfl, hb⟩; refine ⟨_, rfl, ?_⟩; replace HO_3 := Aside0.mk (Kd.R_below (R1 HO_3) hb); replace HO_5 := Aside0.mk (Kd.R_below (R1 HO_5) hb); replace HB := Aside0.mk (below_step Hb hb); (try clear hb); (try clear hb2); (try clear hk); (try clear hi); have p163 : 0 ≤ (x6_2 : Int) := oD; have q163 : x6_2 < (t158.length : Int) := oD; obtain ⟨ad163, e163, hx163_0, hx163_1⟩ := at_T68 (Kd.R_reads' HO_5.out).2.2 x6_2 p163 q163; obtain rfl : ad161 = ad163 := (by injection e163); replace p163 := eq_true p163; replace q163 := eq_true q163; obtain ⟨Ao23, co23, eo23⟩ := Kd.R_slice HO_3.out; subst eo23) | (go_at_call 65; (with_reducible refine (spec_l02Index.calls k2 _ _ x3_2 ((rd_T68 t158 x6_2).f0) ((rd_T68 t158 x6_2).f1) t164 _ ?side1 ?side2 A13.out).mono ?_); (case side1 => exact Ck (Kd.R_reads' HO_3.out).2.2); (case side2 => exact (Kd.R_reads' HO_3.out).2.1); rintro e w24 ⟨rfl, hb⟩; replace HO_3 := Aside0.mk (Kd.R_below (R1 HO_3) hb); replace HO_5 := Aside0.mk (Kd.R_below (R1 HO_5) hb); replace HB := Aside0.mk (below_step Hb hb); (try clear hb); (try clear hb2); (try clear hk); (try clear hi)))
                        go_roundg k2
                        case measure => have := HK1.out; have := HK2.out; omega
                        case rel => exact ⟨(x3_2), (wrap64 (x6_2 + 1)), Fs, H', ⟨by have := HK1.out; have := HK2.out; omega⟩, ⟨R1 HO_3⟩, ⟨R1 HO_5⟩, ⟨Hb⟩⟩
                    · rw [if_neg c12] at H
                      have c12b0 : decide (t162 < 0) = false := decide_eq_false c12
                      clear c12
                      have H' := Aside0.mk H
                      clear H
                      obtain ⟨Ao25, co25, eo25⟩ := Kd.R_slice HO_5.out
                      subst eo25
                      have p161 : 0 ≤ (x6_2 : Int) := oD
                      have q161 : x6_2 < (t158.length : Int) := oD
                      (try (obtain ⟨Aq_, cq_, eq_⟩ := Kd.R_slice HO_5.out; subst eq_))
                      obtain ⟨ad161, e161, hx161_0, hx161_1⟩ := at_T68 (Kd.R_reads' HO_5.out).2.2 x6_2 p161 q161
                      cases e161
                      replace p161 := eq_true p161
                      replace q161 := eq_true q161
                      go_wp2_with (first | ((with_reducible refine gC 65 ?_); refine GL (some 28) Try.func65 #[.slice (some ad157) l0.length c0, .agg #[.int .i64 ((rd_T68 t158 x6_2).f0), .int .i64 ((rd_T68 t158 x6_2).f1)]] ?_; (with_reducible refine (spec_l02Index.calls k2 _ _ l0 ((rd_T68 t158 x6_2).f0) ((rd_T68 t158 x6_2).f1) t162 _ ?side1 ?side2 A11.out).mono ?_); (case side1 => exact Kd.C_below HR0.out Hb); (case side2 => exact HC0.out); rintro e w26 ⟨rfl, hb⟩; refine ⟨_, rfl, ?_⟩; replace HO_3 := Aside0.mk (Kd.R_below (R1 HO_3) hb); replace HO_5 := Aside0.mk (Kd.R_below (R1 HO_5) hb); replace HB := Aside0.mk (below_step Hb hb); (try clear hb); (try clear hb2); (try clear hk); (try clear hi)))
                      go_roundg k2
                      case measure => have := HK1.out; have := HK2.out; omega
                      case rel => exact ⟨(x3_2), (wrap64 (x6_2 + 1)), Fs, H', ⟨by have := HK1.out; have := HK2.out; omega⟩, ⟨R1 HO_3⟩, ⟨R1 HO_5⟩, ⟨Hb⟩⟩
                  · rw [if_neg c10] at H
                    exact absurd H (by simp)
                · rw [if_neg c9] at H
                  exact absurd H (by simp)
              · rw [if_neg c8] at H
                have c8b0 : decide (x6_2 < 4) = false := decide_eq_false c8
                clear c8
                have H' := Aside0.mk H
                clear H
                go_wp2
                go_roundg k2
                case measure => have := HK1.out; have := HK2.out; omega
                case rel => exact ⟨(x3_2), (wrap64 (x4_1 + 1)), Fs, H', ⟨by have := HK1.out; have := HK2.out; omega⟩, ⟨by (with_reducible repeat (first | apply Kd.R_alloc | apply Kd.R_drewN | apply Kd.R_drew)); exact Kd.R_mono HO_3.out (fun _ hk => trivial)⟩, ⟨Hb⟩⟩
        · rw [if_neg c5] at H
          exact absurd H (by simp)
      · rw [if_neg c4] at H
        have c4b0 : decide (x4_1 < (l0.length : Int)) = false := decide_eq_false c4
        clear c4
        obtain rfl := Option.some.inj H
        go_wp2
        go_ret
        exact ⟨_, Fin, R1 HO_3, Hb⟩

/-! ### spec_l02DrawPoly: function 50 -/
def spec_l02DrawPoly.l0 : Nat → List (S68) → Int → List Int → Int → Int → Option ((List (S68)) × Int × Int)
  | 0, _, _, _, _, _ => none
  | k + 1, x5, x6, x1000, x1001, x1002 => if x6 > 0 then ((spec_l02Neighbours.f k x5).bind fun t175 => ((spec_l01Next.f x1000 x1001 x1002 (t175.length : Int)).bind fun bt178 => (if 0 ≤ bt178.1 then (if bt178.1 < (t175.length : Int) then ((spec_l02Insert.f k x5 ((rd_T68 t175 bt178.1).f0) ((rd_T68 t175 bt178.1).f1)).bind fun t182 => (spec_l02DrawPoly.l0 k t182 (wrap64 (x6 - 1)) x1000 bt178.2.1 bt178.2.2)) else (none)) else (none)))) else ((spec_l02Normal.f k x5).bind fun t185 => (some (t185, x1001, x1002)))
def spec_l02DrawPoly.f (k : Nat) (s0_0 : List Int) (s0_1 : Int) (s0_2 : Int) (a1 : Int) : Option ((List (S68)) × Int × Int) := (spec_l01Next.f s0_0 s0_1 s0_2 a1).bind fun bt172 => (spec_l02DrawPoly.l0 k (([(⟨0, 0⟩ : S68)] : List (S68))) bt172.1 s0_0 bt172.2.1 bt172.2.2)
theorem spec_l02DrawPoly.mono_l : ∀ k, (∀ y0 y1 y2 y3 y4, LeO (spec_l02DrawPoly.l0 k y0 y1 y2 y3 y4) (spec_l02DrawPoly.l0 (k + 1) y0 y1 y2 y3 y4))
  | 0 => fun _ _ _ _ _ r h => by simp [spec_l02DrawPoly.l0] at h
  | k + 1 => by
    have ih0 := spec_l02DrawPoly.mono_l k
    · intro y0 y1 y2 y3 y4
      unfold spec_l02DrawPoly.l0
      repeat' first
      | (with_reducible exact ih0 _ _ _ _ _)
      | (with_reducible exact spec_l02Insert.mono _ _ _ _)
      | (with_reducible exact spec_l02Neighbours.mono _ _)
      | (with_reducible exact spec_l02Normal.mono _ _)
      | (with_reducible exact LeO.refl _)
      | (with_reducible exact LeO.none _)
      | (with_reducible refine LeO.ite ?_ ?_)
      | (with_reducible refine LeO.bind ?_ (fun _ => ?_))
      | exact ih0 _ _ _ _ _
      | exact spec_l02Insert.mono _ _ _ _
      | exact spec_l02Neighbours.mono _ _
      | exact spec_l02Normal.mono _ _
      | exact LeO.none _
      | refine LeO.ite ?_ ?_
      | refine LeO.bind ?_ (fun _ => ?_)
theorem spec_l02DrawPoly.mono : ∀ a0 a1 a2 a3 k, LeO (spec_l02DrawPoly.f k a0 a1 a2 a3) (spec_l02DrawPoly.f (k + 1) a0 a1 a2 a3) := by
  intro a0 a1 a2 a3 k
  have ih0 := spec_l02DrawPoly.mono_l k
  unfold spec_l02DrawPoly.f
  repeat' first
      | (with_reducible exact ih0 _ _ _ _ _)
      | (with_reducible exact spec_l02Insert.mono _ _ _ _)
      | (with_reducible exact spec_l02Neighbours.mono _ _)
      | (with_reducible exact spec_l02Normal.mono _ _)
      | (with_reducible exact LeO.refl _)
      | (with_reducible exact LeO.none _)
      | (with_reducible refine LeO.ite ?_ ?_)
      | (with_reducible refine LeO.bind ?_ (fun _ => ?_))
      | exact ih0 _ _ _ _ _
      | exact spec_l02Insert.mono _ _ _ _
      | exact spec_l02Neighbours.mono _ _
      | exact spec_l02Normal.mono _ _
      | exact LeO.none _
      | refine LeO.ite ?_ ?_
      | refine LeO.bind ?_ (fun _ => ?_)
set_option maxHeartbeats 8000000 in
set_option maxRecDepth 100000 in
theorem spec_l02DrawPoly.calls (k : Nat) (g : Nat) (s0_0 : List Int) (s0_1 : Int) (s0_2 : Int) (a1 : Int) (r1 : List (S68)) (r2 : Int) (r3 : Int) (w0 w : World) (hI : IsS75 w0 w g s0_0 s0_1 s0_2) (hB : Below w0.heap.size w0 w) (h : spec_l02DrawPoly.f k s0_0 s0_1 s0_2 a1 = some (r1, r2, r3)) :
    Calls Try.prog 50 #[.pointer (some ⟨g, 0, none⟩), .int .i64 a1] w fun e w' => ∃ v0_ : Value, e = .returned (v0_) ∧ Kd.R k68 68 w' w.heap.size (fun _ => True) v0_ r1 ∧ IsS75 w0 w' g s0_0 r2 r3 ∧ Below w0.heap.size w0 w' ∧ KeepBut w w' g none := by
  have hu68 := Try.underlying68
  have HI0 := Aside0.mk hI
  have HK := Aside0.mk (KeepBut.refl w g none)
  have HL := Aside0.mk hB.size
  clear hI
  have HW0 := Aside0.mk hB.size
  have HB := Aside0.mk hB
  clear hB
  have H : ((spec_l01Next.f s0_0 s0_1 s0_2 a1).bind fun bt172 => (spec_l02DrawPoly.l0 k (([(⟨0, 0⟩ : S68)] : List (S68))) bt172.1 s0_0 bt172.2.1 bt172.2.2)) = some (r1, r2, r3) := h
  clear h
  obtain ⟨y169, hy169⟩ : ∃ y_ : List (S68), y_ = (([(⟨0, 0⟩ : S68)] : List (S68))) := ⟨_, rfl⟩
  replace H : ((spec_l01Next.f s0_0 s0_1 s0_2 a1).bind fun bt172 => (spec_l02DrawPoly.l0 k y169 bt172.1 s0_0 bt172.2.1 bt172.2.2)) = some (r1, r2, r3) := by first | (rw [hy169]; with_reducible exact H) | (have H2_ := (Option.bind_some _ _).symm.trans H; rw [hy169]; with_reducible exact H2_) | (have H2_ := (Option.bind_some _ _).symm.trans H; with_reducible exact H2_) | with_reducible exact H | (rw [hy169]; exact H) | exact H
  have Ny169 := Aside0.mk hy169
  clear hy169
  obtain ⟨⟨t172, t173, t174⟩, A30, H⟩ := Option.bind_eq_some_iff.mp H
  dsimp only at H
  have A3 := Aside0.mk A30
  clear A30
  have H' := Aside0.mk H
  clear H
  go_enter Try.func50, Try.ntmps50
  go_wp2_with (first | ((with_reducible refine gD 9 ?_); refine Kd.R_lit k68 _ 68 ?hg (N := 9) ?hd (xs := ([(⟨0, 0⟩ : S68)] : List (S68))) (inner := [.int .i64 0, .int .i64 0]) (ok := fun _ => True) (okp := fun _ => True) ?hr ?hp (fun _ hk => hk) trivial (Below.refl _ _) (Nat.le_refl _) (by simp) ?_; (case hd => rfl); (case hg => rfl); (case hr => first | (go_simp; done) | (go_simp; rfl)); (case hp => exact (Reps.c2 (show Kd.M k68 _ _ _ (⟨0, 0⟩ : S68) [.int .i64 0, .int .i64 0] from (k68_mkM _ _ _ (⟨0, 0⟩ : S68) )) (Reps.none _ _))); intro v170 w4 ho5 hb hg_ hnew_; clear hg_ hnew_; (first | rw [← Ny169.out] at ho5 | (simp only [Int.reduceToNat] at ho5; rw [← Ny169.out] at ho5)); have HO171 := Aside0.mk (Kd.R_lower ho5 (keep_size (w := w) (g := g) (row := none) Hk)); replace HK := Aside0.mk (KeepBut.trans Hk (KeepBut.of_below hb g none) (.inl rfl)); replace HB := Aside0.mk (below_step (by repeat (first | (with_reducible first | exact HB.out | apply below_alloc | apply pw_below_drewN | apply below_drew1 | refine below_set ?_ (IsS75.ge HI0.out)) | exact HB.out)) hb); replace HI0 := Aside0.mk (IsS75.below (by repeat (first | (with_reducible first | exact HI0.out | apply IsS75.alloc | apply IsS75.drewN | apply IsS75.drew | apply IsS75.set_1 | apply IsS75.set_2) | exact HI0.out)) hb); clear hb ho5) | ((with_reducible refine gC 24 ?_); refine GL (some 12) Try.func24 #[.pointer (some ⟨g, 0, none⟩), .int .i64 a1] ?_; (with_reducible refine (spec_l01Next.calls g s0_0 s0_1 s0_2 a1 t172 t173 t174 w0 _ ?side1 ?side2 A3.out).mono ?_); (case side1 => repeat (first | (with_reducible first | exact HI0.out | apply IsS75.alloc | apply IsS75.drewN | apply IsS75.drew | apply IsS75.set_1 | apply IsS75.set_2) | exact HI0.out)); (case side2 => repeat (first | (with_reducible first | exact HB.out | apply below_alloc | apply pw_below_drewN | apply below_drew1 | refine below_set ?_ (IsS75.ge HI0.out)) | exact HB.out)); rintro e w6 ⟨rfl, hi, hb, hk⟩; refine ⟨_, rfl, ?_⟩; replace HO171 := Aside0.mk (Kd.R_mono (Kd.R_keep (IsS75.apart (show IsS75 w0 _ g s0_0 s0_1 s0_2 from by repeat (first | (with_reducible first | exact HI0.out | apply IsS75.alloc | apply IsS75.drewN | apply IsS75.drew | apply IsS75.set_1 | apply IsS75.set_2) | exact HI0.out)) (R1 HO171) (by decide)) hk (fun _ h => h.2)) (fun _ h => h.1)); replace HK := Aside0.mk (KeepBut.trans Hk hk (.inl rfl)); replace HB := Aside0.mk (hb); replace HI0 := Aside0.mk (hi); (try clear hb); (try clear hb2); (try clear hk); (try clear hi)))
  go_loopg [5, 6] k (fun kq v5 v6 w' => ∃ (x5_1 : List (S68)) (x6_1 : Int) (x1001_1 : Int) (x1002_1 : Int), v6 = .int .i64 x6_1 ∧ Aside0 (spec_l02DrawPoly.l0 kq x5_1 x6_1 s0_0 x1001_1 x1002_1 = some (r1, r2, r3)) ∧ Aside0 (kq ≤ k) ∧ Aside0 (Kd.R k68 68 w' w.heap.size (fun _ => True) v5 x5_1) ∧ Aside0 (IsS75 w0 w' g s0_0 x1001_1 x1002_1) ∧ Aside0 (KeepBut w w' g none) ∧ Aside0 (Below w0.heap.size w0 w'))
  case atStart => exact ⟨(y169), (t172), (t173), (t174), Fs, H', ⟨Nat.le_refl _⟩, ⟨R1 HO171⟩, ⟨by repeat (first | (with_reducible first | exact HI0.out | apply IsS75.alloc | apply IsS75.drewN | apply IsS75.drew | apply IsS75.set_1 | apply IsS75.set_2) | exact HI0.out)⟩, ⟨by repeat (first | (with_reducible first | exact HK.out | apply KeepBut.set_ | apply keep_drewN | apply keep_drew | apply keep_alloc) | exact HK.out)⟩, ⟨by repeat (first | (with_reducible first | exact HB.out | apply below_alloc | apply pw_below_drewN | apply below_drew1 | refine below_set ?_ (IsS75.ge HI0.out)) | exact HB.out)⟩⟩
  case round =>
    clear H'
    try clear c2
    try clear p2
    try clear c5
    obtain ⟨x5_1, x6_1, x1001_1, x1002_1, rfl, HA, HK1, HO_5, HI0, HK, HB⟩ := hrel
    cases gk with
    | zero => exact absurd HA.out (by simp [spec_l02DrawPoly.l0])
    | succ k1 =>
      have H := HA.out
      clear HA
      simp only [spec_l02DrawPoly.l0] at H
      by_cases c7 : x6_1 > 0
      · rw [if_pos c7] at H
        have c7b0 : decide (0 < x6_1) = true := decide_eq_true c7
        clear c7
        obtain ⟨t175, A80, H⟩ := Option.bind_eq_some_iff.mp H
        have A8 := Aside0.mk A80
        clear A80
        obtain ⟨⟨t178, t179, t180⟩, A90, H⟩ := Option.bind_eq_some_iff.mp H
        dsimp only at H
        have A9 := Aside0.mk A90
        clear A90
        by_cases c10 : 0 ≤ t178
        · rw [if_pos c10] at H
          have c10b0 : decide (0 ≤ t178) = true := decide_eq_true c10
          clear c10
          by_cases c11 : t178 < (t175.length : Int)
          · rw [if_pos c11] at H
            have c11b0 : decide (t178 < (t175.length : Int)) = true := decide_eq_true c11
            clear c11
            obtain ⟨t182, A120, H⟩ := Option.bind_eq_some_iff.mp H
            have A12 := Aside0.mk A120
            clear A120
            have H' := Aside0.mk H
            clear H
            obtain ⟨Ao13, co13, eo13⟩ := Kd.R_slice HO_5.out
            subst eo13
            go_wp2_with (first | ((with_reducible refine gC 73 ?_); refine GL (some 18) Try.func73 #[.slice Ao13 x5_1.length co13] ?_; (with_reducible refine (spec_l02Neighbours.calls k1 _ _ x5_1 t175 _ ?side1 ?side2 A8.out).mono ?_); (case side1 => exact Ck (Kd.R_reads' HO_5.out).2.2); (case side2 => exact (Kd.R_reads' HO_5.out).2.1); rintro e w14 ⟨v176, rfl, ho0, hb⟩; refine ⟨_, rfl, ?_⟩; have HO177 := Aside0.mk (Kd.R_lower (Kd.R_new' ho0 (Kd.R_lt (R1 HO_5))) (keep_size (w := w) (g := g) (row := none) Hk)); replace HO_5 := Aside0.mk (Kd.R_elder' (R1 HO_5) (Kd.R_base ho0) hb); replace HK := Aside0.mk (KeepBut.trans Hk (KeepBut.of_below hb g none) (.inl rfl)); replace HB := Aside0.mk (below_step (by repeat (first | (with_reducible first | exact HB.out | apply below_alloc | apply pw_below_drewN | apply below_drew1 | refine below_set ?_ (IsS75.ge HI0.out)) | exact HB.out)) hb); replace HI0 := Aside0.mk (IsS75.below (by repeat (first | (with_reducible first | exact HI0.out | apply IsS75.alloc | apply IsS75.drewN | apply IsS75.drew | apply IsS75.set_1 | apply IsS75.set_2) | exact HI0.out)) hb); (try clear hb); (try clear hb2); (try clear hk); (try clear hi); (try clear ho0); obtain ⟨Ao15, co15, eo15⟩ := Kd.R_slice HO177.out; subst eo15) | ((with_reducible refine gC 24 ?_); refine GL (some 24) Try.func24 #[.pointer (some ⟨g, 0, none⟩), .int .i64 (t175.length : Int)] ?_; (with_reducible refine (spec_l01Next.calls g s0_0 x1001_1 x1002_1 (t175.length : Int) t178 t179 t180 w0 _ ?side1 ?side2 A9.out).mono ?_); (case side1 => repeat (first | (with_reducible first | exact HI0.out | apply IsS75.alloc | apply IsS75.drewN | apply IsS75.drew | apply IsS75.set_1 | apply IsS75.set_2) | exact HI0.out)); (case side2 => repeat (first | (with_reducible first | exact HB.out | apply below_alloc | apply pw_below_drewN | apply below_drew1 | refine below_set ?_ (IsS75.ge HI0.out)) | exact HB.out)); rintro e w16 ⟨rfl, hi, hb, hk⟩; refine ⟨_, rfl, ?_⟩; replace HO_5 := Aside0.mk (Kd.R_mono (Kd.R_keep (IsS75.apart (show IsS75 w0 _ g s0_0 x1001_1 x1002_1 from by repeat (first | (with_reducible first | exact HI0.out | apply IsS75.alloc | apply IsS75.drewN | apply IsS75.drew | apply IsS75.set_1 | apply IsS75.set_2) | exact HI0.out)) (R1 HO_5) (by decide)) hk (fun _ h => h.2)) (fun _ h => h.1)); replace HO177 := Aside0.mk (Kd.R_mono (Kd.R_keep (IsS75.apart (show IsS75 w0 _ g s0_0 x1001_1 x1002_1 from by repeat (first | (with_reducible first | exact HI0.out | apply IsS75.alloc | apply IsS75.drewN | apply IsS75.drew | apply IsS75.set_1 | apply IsS75.set_2) | exact HI0.out)) (R1 HO177) (by decide)) hk (fun _ h => h.2)) (fun _ h => h.1)); replace HK := Aside0.mk (KeepBut.trans Hk hk (.inl rfl)); replace HB := Aside0.mk (hb); replace HI0 := Aside0.mk (hi); (try clear hb); (try clear hb2); (try clear hk); (try clear hi); have p181 : 0 ≤ (t178 : Int) := oD; have q181 : t178 < (t175.length : Int) := oD; obtain ⟨ad181, e181, hx181_0, hx181_1⟩ := at_T68 (Kd.R_reads' HO177.out).2.2 t178 p181 q181; cases e181; replace p181 := eq_true p181; replace q181 := eq_true q181) | ((with_reducible refine gC 74 ?_); refine GL (some 27) Try.func74 #[.slice Ao13 x5_1.length co13, .agg #[.int .i64 ((rd_T68 t175 t178).f0), .int .i64 ((rd_T68 t175 t178).f1)]] ?_; (with_reducible refine (spec_l02Insert.calls k1 _ _ x5_1 ((rd_T68 t175 t178).f0) ((rd_T68 t175 t178).f1) t182 _ ?side1 ?side2 A12.out).mono ?_); (case side1 => exact Ck (Kd.R_reads' HO_5.out).2.2); (case side2 => exact (Kd.R_reads' HO_5.out).2.1); rintro e w17 ⟨v183, rfl, ho0, hb⟩; refine ⟨_, rfl, ?_⟩; have HO184 := Aside0.mk (Kd.R_lower (Kd.R_new' (Kd.R_new' ho0 (Kd.R_lt (R1 HO_5))) (Kd.R_lt (R1 HO177))) (keep_size (w := w) (g := g) (row := none) Hk)); replace HO_5 := Aside0.mk (Kd.R_elder' (R1 HO_5) (Kd.R_base ho0) hb); replace HO177 := Aside0.mk (Kd.R_elder' (R1 HO177) (Kd.R_base ho0) hb); replace HK := Aside0.mk (KeepBut.trans Hk (KeepBut.of_below hb g none) (.inl rfl)); replace HB := Aside0.mk (below_step (by repeat (first | (with_reducible first | exact HB.out | apply below_alloc | apply pw_below_drewN | apply below_drew1 | refine below_set ?_ (IsS75.ge HI0.out)) | exact HB.out)) hb); replace HI0 := Aside0.mk (IsS75.below (by repeat (first | (with_reducible first | exact HI0.out | apply IsS75.alloc | apply IsS75.drewN | apply IsS75.drew | apply IsS75.set_1 | apply IsS75.set_2) | exact HI0.out)) hb); (try clear hb); (try clear hb2); (try clear hk); (try clear hi); (try clear ho0)))
            go_roundg k1
            case measure => have := HK1.out; omega
            case rel => exact ⟨(t182), (wrap64 (x6_1 - 1)), (t179), (t180), Fs, H', ⟨by have := HK1.out; omega⟩, ⟨by (with_reducible repeat (first | apply Kd.R_alloc | apply Kd.R_drewN | apply Kd.R_drew)); exact Kd.R_mono HO184.out (fun _ hk => trivial)⟩, ⟨by repeat (first | (with_reducible first | exact HI0.out | apply IsS75.alloc | apply IsS75.drewN | apply IsS75.drew | apply IsS75.set_1 | apply IsS75.set_2) | exact HI0.out)⟩, ⟨by repeat (first | (with_reducible first | exact HK.out | apply KeepBut.set_ | apply keep_drewN | apply keep_drew | apply keep_alloc) | exact HK.out)⟩, ⟨by repeat (first | (with_reducible first | exact HB.out | apply below_alloc | apply pw_below_drewN | apply below_drew1 | refine below_set ?_ (IsS75.ge HI0.out)) | exact HB.out)⟩⟩
          · rw [if_neg c11] at H
            exact absurd H (by simp)
        · rw [if_neg c10] at H
          exact absurd H (by simp)
      · rw [if_neg c7] at H
        have c7b0 : decide (0 < x6_1) = false := decide_eq_false c7
        clear c7
        obtain ⟨t185, A180, H⟩ := Option.bind_eq_some_iff.mp H
        have A18 := Aside0.mk A180
        clear A180
        simp only [Option.some.injEq, Prod.mk.injEq] at H
        obtain ⟨rfl, rfl, rfl⟩ := H
        obtain ⟨Ao19, co19, eo19⟩ := Kd.R_slice HO_5.out
        subst eo19
        go_wp2_with (first | ((with_reducible refine gC 37 ?_); refine GL (some 29) Try.func37 #[.slice Ao19 x5_1.length co19] ?_; (with_reducible refine (spec_l02Normal.calls k1 _ _ x5_1 t185 _ ?side1 ?side2 A18.out).mono ?_); (case side1 => exact Ck (Kd.R_reads' HO_5.out).2.2); (case side2 => exact (Kd.R_reads' HO_5.out).2.1); rintro e w20 ⟨v186, rfl, ho0, hb⟩; refine ⟨_, rfl, ?_⟩; have HO187 := Aside0.mk (Kd.R_lower (Kd.R_new' ho0 (Kd.R_lt (R1 HO_5))) (keep_size (w := w) (g := g) (row := none) Hk)); replace HO_5 := Aside0.mk (Kd.R_elder' (R1 HO_5) (Kd.R_base ho0) hb); replace HK := Aside0.mk (KeepBut.trans Hk (KeepBut.of_below hb g none) (.inl rfl)); replace HB := Aside0.mk (below_step (by repeat (first | (with_reducible first | exact HB.out | apply below_alloc | apply pw_below_drewN | apply below_drew1 | refine below_set ?_ (IsS75.ge HI0.out)) | exact HB.out)) hb); replace HI0 := Aside0.mk (IsS75.below (by repeat (first | (with_reducible first | exact HI0.out | apply IsS75.alloc | apply IsS75.drewN | apply IsS75.drew | apply IsS75.set_1 | apply IsS75.set_2) | exact HI0.out)) hb); (try clear hb); (try clear hb2); (try clear hk); (try clear hi); (try clear ho0)))
        go_ret
        exact ⟨_, Fin, by (with_reducible repeat (first | apply Kd.R_alloc | apply Kd.R_drewN | apply Kd.R_drew)); exact Kd.R_mono HO187.out (fun _ hk => trivial), by repeat (first | (with_reducible first | exact HI0.out | apply IsS75.alloc | apply IsS75.drewN | apply IsS75.drew | apply IsS75.set_1 | apply IsS75.set_2) | exact HI0.out), by repeat (first | (with_reducible first | exact HB.out | apply below_alloc | apply pw_below_drewN | apply below_drew1 | refine below_set ?_ (IsS75.ge HI0.out)) | exact HB.out), by repeat (first | (with_reducible first | exact HK.out | apply KeepBut.set_ | apply keep_drewN | apply keep_drew | apply keep_alloc) | exact HK.out)⟩

end Go.Proofs.Ytpnlidfebnkgmaa.XFnWeightSums
