-- Written by ext.py (wip/) over the kit's print: not trusted, Lean checks it.
import Derived.Test.YtkmlgfihoaneeaaXFnExactAddWeightingsx0
namespace Go.Proofs.Ytkmlgfihoaneeaa.XFnExactAddWeightings
open Go.RowKit Go.Proofs.YtkmlgfihoaneeaaW.PrintWords Go.Proofs.YtkmlgfihoaneeaaW.PrintLast Go.Proofs.YtkmlgfihoaneeaaW.PrintMore
attribute [local go_sem] max2_int min2_int max_two min_two max_three min_three max_four min_four   -- for this text's walks alone
set_option linter.unusedVariables false
set_option linter.unusedSimpArgs false

/-! ### spec_l01In: function 126 -/
def spec_l01In.f (a0 : Int) (a1 : Int) (a2 : Int) : Option (Bool) := if a0 ≥ a1 then (some (decide (a0 ≤ a2))) else (some false)
set_option maxHeartbeats 8000000 in
set_option maxRecDepth 100000 in
theorem spec_l01In.calls (a0 : Int) (a1 : Int) (a2 : Int) (r : Bool) (w : World) (h : spec_l01In.f a0 a1 a2 = some r) :
    Calls Try.prog 126 #[.int .i64 a0, .int .i64 a1, .int .i64 a2] w fun e w' => e = .returned (.bool r) ∧ Drawn0 w w' := by
  have H : (if a0 ≥ a1 then (some (decide (a0 ≤ a2))) else (some false)) = some r := h
  clear h
  by_cases c4 : a0 ≥ a1
  · rw [if_pos c4] at H
    have c4b0 : decide (a1 ≤ a0) = true := decide_eq_true c4
    clear c4
    obtain rfl := Option.some.inj H
    go_enter Try.func126, Try.ntmps126
    go_wp2
    go_ret
    exact ⟨Fs, by repeat (first | exact Drawn0.refl _ | apply Drawn0.step)⟩
  · rw [if_neg c4] at H
    have c4b0 : decide (a1 ≤ a0) = false := decide_eq_false c4
    clear c4
    obtain rfl := Option.some.inj H
    go_enter Try.func126, Try.ntmps126
    go_wp2
    go_ret
    exact ⟨Fs, by repeat (first | exact Drawn0.refl _ | apply Drawn0.step)⟩

/-! ### spec_l02Cell: function 159 -/
def spec_l02Cell.f (a0_0 : Int) (a0_1 : Int) : Option (Bool) := (spec_l01In.f a0_0 (-100) 100).bind fun t135 => (if t135 = true then ((spec_l01In.f a0_1 (-100) 100).bind fun t136 => (some t136)) else (some false))
set_option maxHeartbeats 8000000 in
set_option maxRecDepth 100000 in
theorem spec_l02Cell.calls (a0_0 : Int) (a0_1 : Int) (r : Bool) (w : World) (h : spec_l02Cell.f a0_0 a0_1 = some r) :
    Calls Try.prog 159 #[.agg #[.int .i64 a0_0, .int .i64 a0_1]] w fun e w' => e = .returned (.bool r) ∧ Below w.heap.size w w' := by
  have hu103 := Try.underlying103
  have HB := Aside0.mk (Below.refl w.heap.size w)
  have H : ((spec_l01In.f a0_0 (-100) 100).bind fun t135 => (if t135 = true then ((spec_l01In.f a0_1 (-100) 100).bind fun t136 => (some t136)) else (some false))) = some r := h
  clear h
  obtain ⟨t135, A20, H⟩ := Option.bind_eq_some_iff.mp H
  have A2 := Aside0.mk A20
  clear A20
  by_cases c3 : t135 = true
  · subst c3
    rw [if_pos rfl] at H
    obtain ⟨t136, A40, H⟩ := Option.bind_eq_some_iff.mp H
    have A4 := Aside0.mk A40
    clear A40
    obtain rfl := Option.some.inj H
    go_enter Try.func159, Try.ntmps159
    go_wp2_with (first | ((with_reducible refine gD 1 ?_); refine BX #[.int .i64 a0_0, .int .i64 a0_1] 103 ?_; intro gb134 hg w5 hbox hb; have BK134 := Aside0.mk (hbox); have GW134 := Aside0.mk ((Gle hg Hb : w.heap.size ≤ gb134)); have GE134 := Aside0.mk ((Gle hg Hb : w.heap.size ≤ gb134)); replace HB := Aside0.mk (below_step Hb hb); clear hb hbox hg; have hcz6_0 : w5.cell? ⟨gb134, 0, none⟩ = some (.int .i64 a0_0) := bc BK134; have hcz6_1 : w5.cell? ⟨gb134, 1, none⟩ = some (.int .i64 a0_1) := bc BK134; have hfz6_0 := blk_frozen BK134.out 0; have hfz6_1 := blk_frozen BK134.out 1) | ((with_reducible refine gC 126 ?_); refine GL (some 5) Try.func126 #[.int .i64 a0_0, .int .i64 (-100), .int .i64 100] ?_; (with_reducible refine (spec_l01In.calls a0_0 (-100) 100 true _ A2.out).mono ?_); rintro e w' ⟨rfl, ⟨nd, rfl⟩⟩; refine ⟨_, rfl, ?_⟩) | (go_at_call 126; (with_reducible refine (spec_l01In.calls a0_1 (-100) 100 t136 _ A4.out).mono ?_); rintro e w' ⟨rfl, ⟨nd, rfl⟩⟩))
    go_ret
    exact ⟨Fin, Hb⟩
  · replace c3 := Bool.eq_false_iff.mpr c3
    subst c3
    rw [if_neg (show ¬ (false = true) by decide)] at H
    obtain rfl := Option.some.inj H
    go_enter Try.func159, Try.ntmps159
    go_wp2_with (first | ((with_reducible refine gD 1 ?_); refine BX #[.int .i64 a0_0, .int .i64 a0_1] 103 ?_; intro gb134 hg w7 hbox hb; have BK134 := Aside0.mk (hbox); have GW134 := Aside0.mk ((Gle hg Hb : w.heap.size ≤ gb134)); have GE134 := Aside0.mk ((Gle hg Hb : w.heap.size ≤ gb134)); replace HB := Aside0.mk (below_step Hb hb); clear hb hbox hg; have hcz8_0 : w7.cell? ⟨gb134, 0, none⟩ = some (.int .i64 a0_0) := bc BK134; have hcz8_1 : w7.cell? ⟨gb134, 1, none⟩ = some (.int .i64 a0_1) := bc BK134; have hfz8_0 := blk_frozen BK134.out 0; have hfz8_1 := blk_frozen BK134.out 1) | ((with_reducible refine gC 126 ?_); refine GL (some 5) Try.func126 #[.int .i64 a0_0, .int .i64 (-100), .int .i64 100] ?_; (with_reducible refine (spec_l01In.calls a0_0 (-100) 100 false _ A2.out).mono ?_); rintro e w' ⟨rfl, ⟨nd, rfl⟩⟩; refine ⟨_, rfl, ?_⟩))
    go_ret
    exact ⟨Fin, Hb⟩

/-! ### spec_l02Less: function 160 -/
def spec_l02Less.f (a0_0 : Int) (a0_1 : Int) (a1_0 : Int) (a1_1 : Int) : Option (Bool) := if a0_1 < a1_1 then (some true) else (if a0_1 = a1_1 then (some (decide (a0_0 < a1_0))) else (some false))
set_option maxHeartbeats 8000000 in
set_option maxRecDepth 100000 in
theorem spec_l02Less.calls (a0_0 : Int) (a0_1 : Int) (a1_0 : Int) (a1_1 : Int) (r : Bool) (w : World) (h : spec_l02Less.f a0_0 a0_1 a1_0 a1_1 = some r) :
    Calls Try.prog 160 #[.agg #[.int .i64 a0_0, .int .i64 a0_1], .agg #[.int .i64 a1_0, .int .i64 a1_1]] w fun e w' => e = .returned (.bool r) ∧ Below w.heap.size w w' := by
  have hu103 := Try.underlying103
  have HB := Aside0.mk (Below.refl w.heap.size w)
  have H : (if a0_1 < a1_1 then (some true) else (if a0_1 = a1_1 then (some (decide (a0_0 < a1_0))) else (some false))) = some r := h
  clear h
  by_cases c3 : a0_1 < a1_1
  · rw [if_pos c3] at H
    have c3b0 : decide (a0_1 < a1_1) = true := decide_eq_true c3
    clear c3
    obtain rfl := Option.some.inj H
    go_enter Try.func160, Try.ntmps160
    go_wp2_with (first | ((with_reducible refine gD 2 ?_); refine BX #[.int .i64 a0_0, .int .i64 a0_1] 103 ?_; intro gb137 hg w4 hbox hb; have BK137 := Aside0.mk (hbox); have GW137 := Aside0.mk ((Gle hg Hb : w.heap.size ≤ gb137)); have GE137 := Aside0.mk ((Gle hg Hb : w.heap.size ≤ gb137)); replace HB := Aside0.mk (below_step Hb hb); clear hb hbox hg) | ((with_reducible refine gD 3 ?_); refine BX #[.int .i64 a1_0, .int .i64 a1_1] 103 ?_; intro gb138 hg w5 hbox hb; have BK138 := Aside0.mk (hbox); have GW138 := Aside0.mk ((Gle hg Hb : w.heap.size ≤ gb138)); have GE138 := Aside0.mk ((Gle hg Hb : w.heap.size ≤ gb138)); replace HB := Aside0.mk (below_step Hb hb); have NB137_138 := Aside0.mk ((by rw [hg]; exact Nat.ne_of_lt (blk_lt (B1 BK137)) : gb137 ≠ gb138)); have NB138_137 := Aside0.mk ((by rw [hg]; exact Nat.ne_of_gt (blk_lt (B1 BK137)) : gb138 ≠ gb137)); replace BK137 := Aside0.mk (blk_below (B1 BK137) hb); clear hb hbox hg; have hnb6 := NB137_138.out; have hnc6 := NB138_137.out; have hcz7_0 : w5.cell? ⟨gb137, 0, none⟩ = some (.int .i64 a0_0) := bc BK137; have hcz7_1 : w5.cell? ⟨gb137, 1, none⟩ = some (.int .i64 a0_1) := bc BK137; have hfz7_0 := blk_frozen BK137.out 0; have hfz7_1 := blk_frozen BK137.out 1; have hcz8_0 : w5.cell? ⟨gb138, 0, none⟩ = some (.int .i64 a1_0) := bc BK138; have hcz8_1 : w5.cell? ⟨gb138, 1, none⟩ = some (.int .i64 a1_1) := bc BK138; have hfz8_0 := blk_frozen BK138.out 0; have hfz8_1 := blk_frozen BK138.out 1))
    go_ret
    exact ⟨Fin, Hb⟩
  · rw [if_neg c3] at H
    have c3b0 : decide (a0_1 < a1_1) = false := decide_eq_false c3
    clear c3
    by_cases c9 : a0_1 = a1_1
    · rw [if_pos c9] at H
      have c9b0 : (a0_1 == a1_1) = true := beq_iff_eq.mpr c9
      have c9b1 : (a0_1 != a1_1) = false := bne_eq_false_iff_eq.mpr c9
      clear c9
      obtain rfl := Option.some.inj H
      go_enter Try.func160, Try.ntmps160
      go_wp2_with (first | ((with_reducible refine gD 2 ?_); refine BX #[.int .i64 a0_0, .int .i64 a0_1] 103 ?_; intro gb137 hg w10 hbox hb; have BK137 := Aside0.mk (hbox); have GW137 := Aside0.mk ((Gle hg Hb : w.heap.size ≤ gb137)); have GE137 := Aside0.mk ((Gle hg Hb : w.heap.size ≤ gb137)); replace HB := Aside0.mk (below_step Hb hb); clear hb hbox hg) | ((with_reducible refine gD 3 ?_); refine BX #[.int .i64 a1_0, .int .i64 a1_1] 103 ?_; intro gb138 hg w11 hbox hb; have BK138 := Aside0.mk (hbox); have GW138 := Aside0.mk ((Gle hg Hb : w.heap.size ≤ gb138)); have GE138 := Aside0.mk ((Gle hg Hb : w.heap.size ≤ gb138)); replace HB := Aside0.mk (below_step Hb hb); have NB137_138 := Aside0.mk ((by rw [hg]; exact Nat.ne_of_lt (blk_lt (B1 BK137)) : gb137 ≠ gb138)); have NB138_137 := Aside0.mk ((by rw [hg]; exact Nat.ne_of_gt (blk_lt (B1 BK137)) : gb138 ≠ gb137)); replace BK137 := Aside0.mk (blk_below (B1 BK137) hb); clear hb hbox hg; have hnb12 := NB137_138.out; have hnc12 := NB138_137.out; have hcz13_0 : w11.cell? ⟨gb137, 0, none⟩ = some (.int .i64 a0_0) := bc BK137; have hcz13_1 : w11.cell? ⟨gb137, 1, none⟩ = some (.int .i64 a0_1) := bc BK137; have hfz13_0 := blk_frozen BK137.out 0; have hfz13_1 := blk_frozen BK137.out 1; have hcz14_0 : w11.cell? ⟨gb138, 0, none⟩ = some (.int .i64 a1_0) := bc BK138; have hcz14_1 : w11.cell? ⟨gb138, 1, none⟩ = some (.int .i64 a1_1) := bc BK138; have hfz14_0 := blk_frozen BK138.out 0; have hfz14_1 := blk_frozen BK138.out 1))
      go_ret
      exact ⟨Fin, Hb⟩
    · rw [if_neg c9] at H
      have c9b0 : (a0_1 == a1_1) = false := beq_eq_false_iff_ne.mpr c9
      have c9b1 : (a0_1 != a1_1) = true := bne_iff_ne.mpr c9
      obtain rfl := Option.some.inj H
      go_enter Try.func160, Try.ntmps160
      go_wp2_with (first | ((with_reducible refine gD 2 ?_); refine BX #[.int .i64 a0_0, .int .i64 a0_1] 103 ?_; intro gb137 hg w15 hbox hb; have BK137 := Aside0.mk (hbox); have GW137 := Aside0.mk ((Gle hg Hb : w.heap.size ≤ gb137)); have GE137 := Aside0.mk ((Gle hg Hb : w.heap.size ≤ gb137)); replace HB := Aside0.mk (below_step Hb hb); clear hb hbox hg) | ((with_reducible refine gD 3 ?_); refine BX #[.int .i64 a1_0, .int .i64 a1_1] 103 ?_; intro gb138 hg w16 hbox hb; have BK138 := Aside0.mk (hbox); have GW138 := Aside0.mk ((Gle hg Hb : w.heap.size ≤ gb138)); have GE138 := Aside0.mk ((Gle hg Hb : w.heap.size ≤ gb138)); replace HB := Aside0.mk (below_step Hb hb); have NB137_138 := Aside0.mk ((by rw [hg]; exact Nat.ne_of_lt (blk_lt (B1 BK137)) : gb137 ≠ gb138)); have NB138_137 := Aside0.mk ((by rw [hg]; exact Nat.ne_of_gt (blk_lt (B1 BK137)) : gb138 ≠ gb137)); replace BK137 := Aside0.mk (blk_below (B1 BK137) hb); clear hb hbox hg; have hnb17 := NB137_138.out; have hnc17 := NB138_137.out; have hcz18_0 : w16.cell? ⟨gb137, 0, none⟩ = some (.int .i64 a0_0) := bc BK137; have hcz18_1 : w16.cell? ⟨gb137, 1, none⟩ = some (.int .i64 a0_1) := bc BK137; have hfz18_0 := blk_frozen BK137.out 0; have hfz18_1 := blk_frozen BK137.out 1; have hcz19_0 : w16.cell? ⟨gb138, 0, none⟩ = some (.int .i64 a1_0) := bc BK138; have hcz19_1 : w16.cell? ⟨gb138, 1, none⟩ = some (.int .i64 a1_1) := bc BK138; have hfz19_0 := blk_frozen BK138.out 0; have hfz19_1 := blk_frozen BK138.out 1))
      go_ret
      exact ⟨Fin, Hb⟩

/-! ### spec_IsShape: function 123 -/
def spec_IsShape.l0 : Nat → List (S103) → Int → Option (Bool)
  | 0, _, _ => none
  | k + 1, x0, x3 => if x3 < (x0.length : Int) then (if 0 ≤ x3 then ((spec_l02Cell.f ((rd_T103 x0 x3).f0) ((rd_T103 x0 x3).f1)).bind fun t141 => (if t141 = true then (if x3 > 0 then (if 0 ≤ (wrap64 (x3 - 1)) then (if (wrap64 (x3 - 1)) < (x0.length : Int) then ((spec_l02Less.f ((rd_T103 x0 (wrap64 (x3 - 1))).f0) ((rd_T103 x0 (wrap64 (x3 - 1))).f1) ((rd_T103 x0 x3).f0) ((rd_T103 x0 x3).f1)).bind fun t144 => (if t144 = true then (spec_IsShape.l0 k x0 (wrap64 (x3 + 1))) else (some false))) else (none)) else (none)) else (spec_IsShape.l0 k x0 (wrap64 (x3 + 1)))) else (some false))) else (none)) else ((spec_l01In.f (x0.length : Int) 1 40).bind fun t139 => (some t139))
def spec_IsShape.f (k : Nat) (l0 : List (S103)) : Option (Bool) := spec_IsShape.l0 k l0 0
theorem spec_IsShape.mono_l : ∀ k, (∀ y0 y1, LeO (spec_IsShape.l0 k y0 y1) (spec_IsShape.l0 (k + 1) y0 y1))
  | 0 => fun _ _ r h => by simp [spec_IsShape.l0] at h
  | k + 1 => by
    have ih0 := spec_IsShape.mono_l k
    · intro y0 y1
      unfold spec_IsShape.l0
      repeat' first
      | (with_reducible exact ih0 _ _)
      | (with_reducible exact LeO.refl _)
      | (with_reducible exact LeO.none _)
      | (with_reducible refine LeO.ite ?_ ?_)
      | (with_reducible refine LeO.bind ?_ (fun _ => ?_))
      | exact ih0 _ _
      | exact LeO.none _
      | refine LeO.ite ?_ ?_
      | refine LeO.bind ?_ (fun _ => ?_)
theorem spec_IsShape.mono : ∀ a0 k, LeO (spec_IsShape.f k a0) (spec_IsShape.f (k + 1) a0) := by
  intro a0 k
  have ih0 := spec_IsShape.mono_l k
  unfold spec_IsShape.f
  repeat' first
      | (with_reducible exact ih0 _ _)
      | (with_reducible exact LeO.refl _)
      | (with_reducible exact LeO.none _)
      | (with_reducible refine LeO.ite ?_ ?_)
      | (with_reducible refine LeO.bind ?_ (fun _ => ?_))
      | exact ih0 _ _
      | exact LeO.none _
      | refine LeO.ite ?_ ?_
      | refine LeO.bind ?_ (fun _ => ?_)
def spec_IsShape.T4 : Bool × List (List Nat × List Nat) := (true, [([], []), ([], []), ([0, 1], [0, 1]), ([2], [2]), ([3], [3]), ([4], [4]), ([5, 4], [5]), ([6], [6]), ([7, 6], [6, 7]), ([8, 6, 6], [6, 8]), ([9], [9]), ([9], [9]), ([11, 9], [9, 11]), ([10, 12, 9], [9, 10, 12]), ([13, 9], [9, 13]), ([9], [9]), ([9], [9]), ([15, 16, 9], [9, 15, 16]), ([17, 9], [9, 17]), ([14, 18, 9, 9], [9, 14, 18]), ([19, 9], [9, 19]), ([9, 20, 6], [6, 9, 20]), ([6, 21], [6, 21])])
def spec_IsShape.B4 : List Nat := [0, 0, 3, 7, 15, 31, 63, 127, 255, 511, 1023, 1023, 3071, 8191, 16383, 1023, 1023, 99327, 230399, 524287, 1048575, 2097151, 4194303]
theorem spec_IsShape.tab4 : rtab .any (opsOf Try.f123 4) = spec_IsShape.T4 := by kernel_rfl
theorem spec_IsShape.bits4 : waitsOk spec_IsShape.T4.2 spec_IsShape.B4 = true := by kernel_rfl
set_option maxHeartbeats 8000000 in
set_option maxRecDepth 100000 in
theorem spec_IsShape.calls (k : Nat) (A0 : Option Addr) (c0 : Nat) (l0 : List (S103)) (r : Bool) (w : World) (hr0 : Kd.C k103 w A0 l0.length l0) (hc0 : l0.length ≤ c0) (h : spec_IsShape.f k l0 = some r) :
    Calls Try.prog 123 #[.slice A0 l0.length c0] w fun e w' => e = .returned (.bool r) ∧ Below w.heap.size w w' := by
  have hu103 := Try.underlying103
  have HR0 := Aside0.mk hr0
  have HC0 := Aside0.mk hc0
  clear hr0 hc0
  have HB := Aside0.mk (Below.refl w.heap.size w)
  have H : (spec_IsShape.l0 k l0 0) = some r := h
  clear h
  have H' := Aside0.mk H
  clear H
  go_enter Try.func123, Try.ntmps123
  go_wp2
  go_loopg [3] k (fun kq v3 w' => ∃ (x3_1 : Int), v3 = .int .i64 x3_1 ∧ Aside0 (spec_IsShape.l0 kq l0 x3_1 = some r) ∧ Aside0 (kq ≤ k) ∧ Aside0 (Below w.heap.size w w'))
  case atStart => exact ⟨(0), Fs, H', ⟨Nat.le_refl _⟩, ⟨Hb⟩⟩
  case round =>
    clear H'
    try clear c1
    obtain ⟨x3_1, rfl, HA, HK1, HB⟩ := hrel
    cases gk with
    | zero => exact absurd HA.out (by simp [spec_IsShape.l0])
    | succ k1 =>
      have H := HA.out
      clear HA
      simp only [spec_IsShape.l0] at H
      by_cases c2 : x3_1 < (l0.length : Int)
      · rw [if_pos c2] at H
        have c2b0 : decide (x3_1 < (l0.length : Int)) = true := decide_eq_true c2
        clear c2
        by_cases c3 : 0 ≤ x3_1
        · rw [if_pos c3] at H
          have c3b0 : decide (0 ≤ x3_1) = true := decide_eq_true c3
          clear c3
          obtain ⟨t141, A40, H⟩ := Option.bind_eq_some_iff.mp H
          have A4 := Aside0.mk A40
          clear A40
          by_cases c5 : t141 = true
          · subst c5
            rw [if_pos rfl] at H
            by_cases c6 : x3_1 > 0
            · rw [if_pos c6] at H
              have c6b0 : decide (0 < x3_1) = true := decide_eq_true c6
              clear c6
              obtain ⟨ji7, hji7⟩ : ∃ j_ : Int, (wrap64 (x3_1 - 1)) = j_ := ⟨_, rfl⟩
              replace H : (if 0 ≤ (ji7) then (if (ji7) < (l0.length : Int) then ((spec_l02Less.f ((rd_T103 l0 (ji7)).f0) ((rd_T103 l0 (ji7)).f1) ((rd_T103 l0 x3_1).f0) ((rd_T103 l0 x3_1).f1)).bind fun t144 => (if t144 = true then (spec_IsShape.l0 k1 l0 (wrap64 (x3_1 + 1))) else (some false))) else (none)) else (none)) = some r := by first | (rw [hji7] at H; exact H) | (simp only [hji7] at H ⊢; exact H)
              (try rw [hji7] at A4)
              have hji7w : (IntKind.i64.wrap (x3_1 - 1)) = ji7 := (i64_w _).trans hji7
              by_cases c8 : 0 ≤ (ji7)
              · rw [if_pos c8] at H
                have c8b0 : decide (0 ≤ (ji7)) = true := decide_eq_true c8
                clear c8
                by_cases c9 : (ji7) < (l0.length : Int)
                · rw [if_pos c9] at H
                  have c9b0 : decide ((ji7) < (l0.length : Int)) = true := decide_eq_true c9
                  clear c9
                  obtain ⟨t144, A100, H⟩ := Option.bind_eq_some_iff.mp H
                  have A10 := Aside0.mk A100
                  clear A100
                  by_cases c11 : t144 = true
                  · subst c11
                    rw [if_pos rfl] at H
                    have H' := Aside0.mk H
                    clear H
                    try go_wp2
                    replace HB := Aside0.mk (below_drew1 HB.out)
                    have p140 : 0 ≤ (x3_1 : Int) := oD
                    have q140 : x3_1 < (l0.length : Int) := oD
                    obtain ⟨ad140, e140, hx140_0, hx140_1⟩ := at_T103 HR0.out x3_1 p140 q140
                    have hw140_1 := hx140_1
                    have hw140_0 := hx140_0
                    cases e140
                    replace hx140_0 := hxb hx140_0
                    replace hx140_1 := hxb hx140_1
                    replace p140 := eq_true p140
                    replace q140 := eq_true q140
                    have p142 : 0 ≤ ((ji7) : Int) := oD
                    have q142 : (ji7) < (l0.length : Int) := oD
                    obtain ⟨ad142, e142, hx142_0, hx142_1⟩ := at_T103 HR0.out (ji7) p142 q142
                    have hw142_1 := hx142_1
                    have hw142_0 := hx142_0
                    obtain rfl : ad140 = ad142 := (by injection e142)
                    replace hx142_0 := hxb hx142_0
                    replace hx142_1 := hxb hx142_1
                    replace p142 := eq_true p142
                    replace q142 := eq_true q142
                    have p143 : 0 ≤ (x3_1 : Int) := oD
                    have q143 : x3_1 < (l0.length : Int) := oD
                    obtain ⟨ad143, e143, hx143_0, hx143_1⟩ := at_T103 HR0.out x3_1 p143 q143
                    have hw143_1 := hx143_1
                    have hw143_0 := hx143_0
                    obtain rfl : ad140 = ad143 := (by injection e143)
                    replace hx143_0 := hxb hx143_0
                    replace hx143_1 := hxb hx143_1
                    replace p143 := eq_true p143
                    replace q143 := eq_true q143
                    refine start_ (n := 23) (S := fun w' => w'.cell? (ad140.add ((x3_1).toNat * 2)) = some (.int .i64 ((rd_T103 l0 x3_1).f0)) ∧ w'.cell? ⟨(ad140.add ((x3_1).toNat * 2)).block, (ad140.add ((x3_1).toNat * 2)).off + 1, none⟩ = some (.int .i64 ((rd_T103 l0 x3_1).f1)) ∧ w'.cell? (ad140.add (((ji7)).toNat * 2)) = some (.int .i64 ((rd_T103 l0 (ji7)).f0)) ∧ w'.cell? ⟨(ad140.add (((ji7)).toNat * 2)).block, (ad140.add (((ji7)).toNat * 2)).off + 1, none⟩ = some (.int .i64 ((rd_T103 l0 (ji7)).f1)) ∧ w'.cell? (ad140.add ((x3_1).toNat * 2)) = some (.int .i64 ((rd_T103 l0 x3_1).f0)) ∧ w'.cell? ⟨(ad140.add ((x3_1).toNat * 2)).block, (ad140.add ((x3_1).toNat * 2)).off + 1, none⟩ = some (.int .i64 ((rd_T103 l0 x3_1).f1))) (ds := []) #[false, false, false, false, false, false, false, false, false, false, false, false, false, false, false, false, false, false, false, false, false, false, false] (by kernel_rfl) rfl rfl ⟨(hxb hw140_0), (hxb hw140_1), (hxb hw142_0), (hxb hw142_1), (hxb hw143_0), (hxb hw143_1)⟩ (fun hHeld => ?_); refine with_tabW spec_IsShape.tab4 spec_IsShape.bits4 (fun HT_ HW_ => ?_)
                    generalize wr.drew = w12 at HB hx140_0 hx140_1 hx142_0 hx142_1 hx143_0 hx143_1 hHeld ⊢
                    refine PU 0 10 ?_
                    refine PU 1 11 ?_
                    refine PU 2 12 ?_
                    refine TK 3 13 hHeld ?_
                    refine ON 4 14 (fun K hK => ?_)
                    refine GO Try.func159 #[.agg #[.int .i64 ((rd_T103 l0 x3_1).f0), .int .i64 ((rd_T103 l0 x3_1).f1)]] ?_
                    with_reducible refine (spec_l02Cell.calls ((rd_T103 l0 x3_1).f0) ((rd_T103 l0 x3_1).f1) true _ A4.out).mono ?_
                    rintro e w13 ⟨rfl, hb⟩
                    refine ⟨_, rfl, ?_⟩
                    replace HB := Aside0.mk (below_step Hb hb)
                    (try clear hb)
                    (try clear hb2)
                    (try clear hk)
                    (try clear hi)
                    refine hK.out _ _ ⟨(hxb hw140_0), (hxb hw140_1), (hxb hw142_0), (hxb hw142_1), (hxb hw143_0), (hxb hw143_1)⟩ (fun hHeld => ?_)
                    clear hK K
                    refine NM ?_
                    refine PU 5 15 ?_
                    refine PU 6 16 ?_
                    refine PU 7 17 ?_
                    refine PU 8 18 ?_
                    refine PU 9 19 ?_
                    refine PU 10 20 ?_
                    refine PU 11 21 ?_
                    refine PU 12 22 ?_
                    refine PU 13 23 ?_
                    refine PU 15 25 ?_
                    refine PU 16 26 ?_
                    refine PU 17 27 ?_
                    refine TK 14 24 hHeld ?_
                    refine TK 18 28 hHeld ?_
                    refine ON 19 29 (fun K hK => ?_)
                    refine goes_ Try.func160 (by kernel_rfl) rfl #[.agg #[.int .i64 ((rd_T103 l0 (ji7)).f0), .int .i64 ((rd_T103 l0 (ji7)).f1)], .agg #[.int .i64 ((rd_T103 l0 x3_1).f0), .int .i64 ((rd_T103 l0 x3_1).f1)]] (by rfl) rfl rfl (by (try simp only [List.map_toArray, List.map_cons, List.map_nil]); first | done | (simp only [hji7]; rfl) | rfl | (simp only [List.length_drop, List.length_take]; rfl)) ?_
                    with_reducible refine (spec_l02Less.calls ((rd_T103 l0 (ji7)).f0) ((rd_T103 l0 (ji7)).f1) ((rd_T103 l0 x3_1).f0) ((rd_T103 l0 x3_1).f1) true _ A10.out).mono ?_
                    rintro e w14 ⟨rfl, hb⟩
                    refine ⟨_, rfl, ?_⟩
                    replace HB := Aside0.mk (below_step Hb hb)
                    (try clear hb)
                    (try clear hb2)
                    (try clear hk)
                    (try clear hi)
                    refine hK.out _ _ ⟨(hxb hw140_0), (hxb hw140_1), (hxb hw142_0), (hxb hw142_1), (hxb hw143_0), (hxb hw143_1)⟩ (fun hHeld => ?_)
                    clear hK K
                    refine NM ?_
                    refine PU 20 30 ?_
                    refine PU 21 31 ?_
                    refine PU 22 32 ?_
                    refine done_ (done_of HT_.out (by kernel_rfl)) ?_
                    try go_wp2
                    go_roundg k1
                    case measure => have := HK1.out; omega
                    case rel => exact ⟨(wrap64 (x3_1 + 1)), Fs, H', ⟨by have := HK1.out; omega⟩, ⟨Hb⟩⟩
                  · replace c11 := Bool.eq_false_iff.mpr c11
                    subst c11
                    rw [if_neg (show ¬ (false = true) by decide)] at H
                    obtain rfl := Option.some.inj H
                    try go_wp2
                    replace HB := Aside0.mk (below_drew1 HB.out)
                    have p140 : 0 ≤ (x3_1 : Int) := oD
                    have q140 : x3_1 < (l0.length : Int) := oD
                    obtain ⟨ad140, e140, hx140_0, hx140_1⟩ := at_T103 HR0.out x3_1 p140 q140
                    have hw140_1 := hx140_1
                    have hw140_0 := hx140_0
                    cases e140
                    replace hx140_0 := hxb hx140_0
                    replace hx140_1 := hxb hx140_1
                    replace p140 := eq_true p140
                    replace q140 := eq_true q140
                    have p142 : 0 ≤ ((ji7) : Int) := oD
                    have q142 : (ji7) < (l0.length : Int) := oD
                    obtain ⟨ad142, e142, hx142_0, hx142_1⟩ := at_T103 HR0.out (ji7) p142 q142
                    have hw142_1 := hx142_1
                    have hw142_0 := hx142_0
                    obtain rfl : ad140 = ad142 := (by injection e142)
                    replace hx142_0 := hxb hx142_0
                    replace hx142_1 := hxb hx142_1
                    replace p142 := eq_true p142
                    replace q142 := eq_true q142
                    have p143 : 0 ≤ (x3_1 : Int) := oD
                    have q143 : x3_1 < (l0.length : Int) := oD
                    obtain ⟨ad143, e143, hx143_0, hx143_1⟩ := at_T103 HR0.out x3_1 p143 q143
                    have hw143_1 := hx143_1
                    have hw143_0 := hx143_0
                    obtain rfl : ad140 = ad143 := (by injection e143)
                    replace hx143_0 := hxb hx143_0
                    replace hx143_1 := hxb hx143_1
                    replace p143 := eq_true p143
                    replace q143 := eq_true q143
                    refine start_ (n := 23) (S := fun w' => w'.cell? (ad140.add ((x3_1).toNat * 2)) = some (.int .i64 ((rd_T103 l0 x3_1).f0)) ∧ w'.cell? ⟨(ad140.add ((x3_1).toNat * 2)).block, (ad140.add ((x3_1).toNat * 2)).off + 1, none⟩ = some (.int .i64 ((rd_T103 l0 x3_1).f1)) ∧ w'.cell? (ad140.add (((ji7)).toNat * 2)) = some (.int .i64 ((rd_T103 l0 (ji7)).f0)) ∧ w'.cell? ⟨(ad140.add (((ji7)).toNat * 2)).block, (ad140.add (((ji7)).toNat * 2)).off + 1, none⟩ = some (.int .i64 ((rd_T103 l0 (ji7)).f1)) ∧ w'.cell? (ad140.add ((x3_1).toNat * 2)) = some (.int .i64 ((rd_T103 l0 x3_1).f0)) ∧ w'.cell? ⟨(ad140.add ((x3_1).toNat * 2)).block, (ad140.add ((x3_1).toNat * 2)).off + 1, none⟩ = some (.int .i64 ((rd_T103 l0 x3_1).f1))) (ds := []) #[false, false, false, false, false, false, false, false, false, false, false, false, false, false, false, false, false, false, false, false, false, false, false] (by kernel_rfl) rfl rfl ⟨(hxb hw140_0), (hxb hw140_1), (hxb hw142_0), (hxb hw142_1), (hxb hw143_0), (hxb hw143_1)⟩ (fun hHeld => ?_); refine with_tabW spec_IsShape.tab4 spec_IsShape.bits4 (fun HT_ HW_ => ?_)
                    generalize wr.drew = w15 at HB hx140_0 hx140_1 hx142_0 hx142_1 hx143_0 hx143_1 hHeld ⊢
                    refine PU 0 10 ?_
                    refine PU 1 11 ?_
                    refine PU 2 12 ?_
                    refine TK 3 13 hHeld ?_
                    refine ON 4 14 (fun K hK => ?_)
                    refine GO Try.func159 #[.agg #[.int .i64 ((rd_T103 l0 x3_1).f0), .int .i64 ((rd_T103 l0 x3_1).f1)]] ?_
                    with_reducible refine (spec_l02Cell.calls ((rd_T103 l0 x3_1).f0) ((rd_T103 l0 x3_1).f1) true _ A4.out).mono ?_
                    rintro e w16 ⟨rfl, hb⟩
                    refine ⟨_, rfl, ?_⟩
                    replace HB := Aside0.mk (below_step Hb hb)
                    (try clear hb)
                    (try clear hb2)
                    (try clear hk)
                    (try clear hi)
                    refine hK.out _ _ ⟨(hxb hw140_0), (hxb hw140_1), (hxb hw142_0), (hxb hw142_1), (hxb hw143_0), (hxb hw143_1)⟩ (fun hHeld => ?_)
                    clear hK K
                    refine NM ?_
                    refine PU 5 15 ?_
                    refine PU 6 16 ?_
                    refine PU 7 17 ?_
                    refine PU 8 18 ?_
                    refine PU 9 19 ?_
                    refine PU 10 20 ?_
                    refine PU 11 21 ?_
                    refine PU 12 22 ?_
                    refine PU 13 23 ?_
                    refine PU 15 25 ?_
                    refine PU 16 26 ?_
                    refine PU 17 27 ?_
                    refine TK 14 24 hHeld ?_
                    refine TK 18 28 hHeld ?_
                    refine ON 19 29 (fun K hK => ?_)
                    refine goes_ Try.func160 (by kernel_rfl) rfl #[.agg #[.int .i64 ((rd_T103 l0 (ji7)).f0), .int .i64 ((rd_T103 l0 (ji7)).f1)], .agg #[.int .i64 ((rd_T103 l0 x3_1).f0), .int .i64 ((rd_T103 l0 x3_1).f1)]] (by rfl) rfl rfl (by (try simp only [List.map_toArray, List.map_cons, List.map_nil]); first | done | (simp only [hji7]; rfl) | rfl | (simp only [List.length_drop, List.length_take]; rfl)) ?_
                    with_reducible refine (spec_l02Less.calls ((rd_T103 l0 (ji7)).f0) ((rd_T103 l0 (ji7)).f1) ((rd_T103 l0 x3_1).f0) ((rd_T103 l0 x3_1).f1) false _ A10.out).mono ?_
                    rintro e w17 ⟨rfl, hb⟩
                    refine ⟨_, rfl, ?_⟩
                    replace HB := Aside0.mk (below_step Hb hb)
                    (try clear hb)
                    (try clear hb2)
                    (try clear hk)
                    (try clear hi)
                    refine hK.out _ _ ⟨(hxb hw140_0), (hxb hw140_1), (hxb hw142_0), (hxb hw142_1), (hxb hw143_0), (hxb hw143_1)⟩ (fun hHeld => ?_)
                    clear hK K
                    refine NM ?_
                    refine PU 20 30 ?_
                    refine PU 21 31 ?_
                    refine PU 22 32 ?_
                    refine done_ (done_of HT_.out (by kernel_rfl)) ?_
                    try go_wp2
                    go_ret
                    exact ⟨by first | rfl | (simp [errW_none, errW_some] <;> rfl) | (simp only [← hji7]; first | rfl | (simp [errW_none, errW_some] <;> rfl)) | (simp [*, errW_none, errW_some] <;> rfl), Hb⟩
                · rw [if_neg c9] at H
                  exact absurd H (by simp)
              · rw [if_neg c8] at H
                exact absurd H (by simp)
            · rw [if_neg c6] at H
              have c6b0 : decide (0 < x3_1) = false := decide_eq_false c6
              clear c6
              have H' := Aside0.mk H
              clear H
              try go_wp2
              replace HB := Aside0.mk (below_drew1 HB.out)
              have p140 : 0 ≤ (x3_1 : Int) := oD
              have q140 : x3_1 < (l0.length : Int) := oD
              obtain ⟨ad140, e140, hx140_0, hx140_1⟩ := at_T103 HR0.out x3_1 p140 q140
              have hw140_1 := hx140_1
              have hw140_0 := hx140_0
              cases e140
              replace hx140_0 := hxb hx140_0
              replace hx140_1 := hxb hx140_1
              replace p140 := eq_true p140
              replace q140 := eq_true q140
              refine start_ (n := 23) (S := fun w' => w'.cell? (ad140.add ((x3_1).toNat * 2)) = some (.int .i64 ((rd_T103 l0 x3_1).f0)) ∧ w'.cell? ⟨(ad140.add ((x3_1).toNat * 2)).block, (ad140.add ((x3_1).toNat * 2)).off + 1, none⟩ = some (.int .i64 ((rd_T103 l0 x3_1).f1))) (ds := []) #[false, false, false, false, false, false, false, false, false, false, false, false, false, false, false, false, false, false, false, false, false, false, false] (by kernel_rfl) rfl rfl ⟨(hxb hw140_0), (hxb hw140_1)⟩ (fun hHeld => ?_); refine with_tabW spec_IsShape.tab4 spec_IsShape.bits4 (fun HT_ HW_ => ?_)
              generalize wr.drew = w18 at HB hx140_0 hx140_1 hHeld ⊢
              refine PU 0 10 ?_
              refine PU 1 11 ?_
              refine PU 2 12 ?_
              refine TK 3 13 hHeld ?_
              refine ON 4 14 (fun K hK => ?_)
              refine GO Try.func159 #[.agg #[.int .i64 ((rd_T103 l0 x3_1).f0), .int .i64 ((rd_T103 l0 x3_1).f1)]] ?_
              with_reducible refine (spec_l02Cell.calls ((rd_T103 l0 x3_1).f0) ((rd_T103 l0 x3_1).f1) true _ A4.out).mono ?_
              rintro e w19 ⟨rfl, hb⟩
              refine ⟨_, rfl, ?_⟩
              replace HB := Aside0.mk (below_step Hb hb)
              (try clear hb)
              (try clear hb2)
              (try clear hk)
              (try clear hi)
              refine hK.out _ _ ⟨(hxb hw140_0), (hxb hw140_1)⟩ (fun hHeld => ?_)
              clear hK K
              refine NM ?_
              refine PU 5 15 ?_
              refine PU 6 16 ?_
              refine PU 7 17 ?_
              refine PU 8 18 ?_
              refine PU 9 19 ?_
              refine PV 10 20 ?_
              refine PV 11 21 ?_
              refine PV 12 22 ?_
              refine PV 13 23 ?_
              refine PV 14 24 ?_
              refine PV 15 25 ?_
              refine PV 16 26 ?_
              refine PV 17 27 ?_
              refine PV 18 28 ?_
              refine PV 19 29 ?_
              refine PV 20 30 ?_
              refine PU 21 31 ?_
              refine PU 22 32 ?_
              refine done_ (done_of HT_.out (by kernel_rfl)) ?_
              try go_wp2
              go_roundg k1
              case measure => have := HK1.out; omega
              case rel => exact ⟨(wrap64 (x3_1 + 1)), Fs, H', ⟨by have := HK1.out; omega⟩, ⟨Hb⟩⟩
          · replace c5 := Bool.eq_false_iff.mpr c5
            subst c5
            rw [if_neg (show ¬ (false = true) by decide)] at H
            obtain rfl := Option.some.inj H
            try go_wp2
            replace HB := Aside0.mk (below_drew1 HB.out)
            have p140 : 0 ≤ (x3_1 : Int) := oD
            have q140 : x3_1 < (l0.length : Int) := oD
            obtain ⟨ad140, e140, hx140_0, hx140_1⟩ := at_T103 HR0.out x3_1 p140 q140
            have hw140_1 := hx140_1
            have hw140_0 := hx140_0
            cases e140
            replace hx140_0 := hxb hx140_0
            replace hx140_1 := hxb hx140_1
            replace p140 := eq_true p140
            replace q140 := eq_true q140
            refine start_ (n := 23) (S := fun w' => w'.cell? (ad140.add ((x3_1).toNat * 2)) = some (.int .i64 ((rd_T103 l0 x3_1).f0)) ∧ w'.cell? ⟨(ad140.add ((x3_1).toNat * 2)).block, (ad140.add ((x3_1).toNat * 2)).off + 1, none⟩ = some (.int .i64 ((rd_T103 l0 x3_1).f1))) (ds := []) #[false, false, false, false, false, false, false, false, false, false, false, false, false, false, false, false, false, false, false, false, false, false, false] (by kernel_rfl) rfl rfl ⟨(hxb hw140_0), (hxb hw140_1)⟩ (fun hHeld => ?_); refine with_tabW spec_IsShape.tab4 spec_IsShape.bits4 (fun HT_ HW_ => ?_)
            generalize wr.drew = w20 at HB hx140_0 hx140_1 hHeld ⊢
            refine PU 0 10 ?_
            refine PU 1 11 ?_
            refine PU 2 12 ?_
            refine TK 3 13 hHeld ?_
            refine ON 4 14 (fun K hK => ?_)
            refine GO Try.func159 #[.agg #[.int .i64 ((rd_T103 l0 x3_1).f0), .int .i64 ((rd_T103 l0 x3_1).f1)]] ?_
            with_reducible refine (spec_l02Cell.calls ((rd_T103 l0 x3_1).f0) ((rd_T103 l0 x3_1).f1) false _ A4.out).mono ?_
            rintro e w21 ⟨rfl, hb⟩
            refine ⟨_, rfl, ?_⟩
            replace HB := Aside0.mk (below_step Hb hb)
            (try clear hb)
            (try clear hb2)
            (try clear hk)
            (try clear hi)
            refine hK.out _ _ ⟨(hxb hw140_0), (hxb hw140_1)⟩ (fun hHeld => ?_)
            clear hK K
            refine NM ?_
            refine PU 5 15 ?_
            refine PU 6 16 ?_
            refine PV 7 17 ?_
            refine PV 8 18 ?_
            refine PV 9 19 ?_
            refine PV 10 20 ?_
            refine PV 11 21 ?_
            refine PV 12 22 ?_
            refine PV 13 23 ?_
            refine PV 14 24 ?_
            refine PV 15 25 ?_
            refine PV 16 26 ?_
            refine PV 17 27 ?_
            refine PV 18 28 ?_
            refine PV 19 29 ?_
            refine PV 20 30 ?_
            refine PV 21 31 ?_
            refine PU 22 32 ?_
            refine done_ (done_of HT_.out (by kernel_rfl)) ?_
            try go_wp2
            go_ret
            exact ⟨Fin, Hb⟩
        · rw [if_neg c3] at H
          exact absurd H (by simp)
      · rw [if_neg c2] at H
        have c2b0 : decide (x3_1 < (l0.length : Int)) = false := decide_eq_false c2
        clear c2
        obtain ⟨t139, A220, H⟩ := Option.bind_eq_some_iff.mp H
        have A22 := Aside0.mk A220
        clear A220
        obtain rfl := Option.some.inj H
        go_wp2_with (first | ((with_reducible refine gC 126 ?_); refine GL (some 35) Try.func126 #[.int .i64 (l0.length : Int), .int .i64 1, .int .i64 40] ?_; (with_reducible refine (spec_l01In.calls (l0.length : Int) 1 40 t139 _ A22.out).mono ?_); rintro e w' ⟨rfl, ⟨nd, rfl⟩⟩; refine ⟨_, rfl, ?_⟩))
        go_ret
        exact ⟨Fin, Hb⟩

/-! ### spec_l02Least: function 125 -/
def spec_l02Least.l0 : Nat → List (S103) → Int → Int → Int → Option (Int × Int)
  | 0, _, _, _, _ => none
  | k + 1, x0, x4, x5, x6 => if x6 < (x0.length : Int) then (if 0 ≤ x6 then (spec_l02Least.l0 k x0 (mn x4 ((rd_T103 x0 x6).f0)) (mn x5 ((rd_T103 x0 x6).f1)) (wrap64 (x6 + 1))) else (none)) else (some (x4, x5))
def spec_l02Least.f (k : Nat) (l0 : List (S103)) : Option (Int × Int) := if 0 < (l0.length : Int) then (spec_l02Least.l0 k l0 ((rd_T103 l0 0).f0) ((rd_T103 l0 0).f1) 1) else (none)
theorem spec_l02Least.mono_l : ∀ k, (∀ y0 y1 y2 y3, LeO (spec_l02Least.l0 k y0 y1 y2 y3) (spec_l02Least.l0 (k + 1) y0 y1 y2 y3))
  | 0 => fun _ _ _ _ r h => by simp [spec_l02Least.l0] at h
  | k + 1 => by
    have ih0 := spec_l02Least.mono_l k
    · intro y0 y1 y2 y3
      unfold spec_l02Least.l0
      repeat' first
      | (with_reducible exact ih0 _ _ _ _)
      | (with_reducible exact LeO.refl _)
      | (with_reducible exact LeO.none _)
      | (with_reducible refine LeO.ite ?_ ?_)
      | (with_reducible refine LeO.bind ?_ (fun _ => ?_))
      | exact ih0 _ _ _ _
      | exact LeO.none _
      | refine LeO.ite ?_ ?_
      | refine LeO.bind ?_ (fun _ => ?_)
theorem spec_l02Least.mono : ∀ a0 k, LeO (spec_l02Least.f k a0) (spec_l02Least.f (k + 1) a0) := by
  intro a0 k
  have ih0 := spec_l02Least.mono_l k
  unfold spec_l02Least.f
  repeat' first
      | (with_reducible exact ih0 _ _ _ _)
      | (with_reducible exact LeO.refl _)
      | (with_reducible exact LeO.none _)
      | (with_reducible refine LeO.ite ?_ ?_)
      | (with_reducible refine LeO.bind ?_ (fun _ => ?_))
      | exact ih0 _ _ _ _
      | exact LeO.none _
      | refine LeO.ite ?_ ?_
      | refine LeO.bind ?_ (fun _ => ?_)
set_option maxHeartbeats 8000000 in
set_option maxRecDepth 100000 in
theorem spec_l02Least.calls (k : Nat) (A0 : Option Addr) (c0 : Nat) (l0 : List (S103)) (r1 : Int) (r2 : Int) (w : World) (hr0 : Kd.C k103 w A0 l0.length l0) (hc0 : l0.length ≤ c0) (h : spec_l02Least.f k l0 = some (r1, r2)) :
    Calls Try.prog 125 #[.slice A0 l0.length c0] w fun e w' => e = .returned (.tuple #[.int .i64 r1, .int .i64 r2]) ∧ Below w.heap.size w w' := by
  have HR0 := Aside0.mk hr0
  have HC0 := Aside0.mk hc0
  clear hr0 hc0
  have HB := Aside0.mk (Below.refl w.heap.size w)
  have H : (if 0 < (l0.length : Int) then (spec_l02Least.l0 k l0 ((rd_T103 l0 0).f0) ((rd_T103 l0 0).f1) 1) else (none)) = some (r1, r2) := h
  clear h
  by_cases c2 : 0 < (l0.length : Int)
  · rw [if_pos c2] at H
    have c2b0 : decide (0 < (l0.length : Int)) = true := decide_eq_true c2
    have c2b1 : decide (0 < l0.length) = true := decide_eq_true (by omega)
    clear c2
    have H' := Aside0.mk H
    clear H
    have p145 : 0 ≤ (0 : Int) := (by omega)
    have q145 : 0 < (l0.length : Int) := oD
    obtain ⟨ad145, e145, hx145_0, hx145_1⟩ := at_T103 HR0.out 0 p145 q145
    cases e145
    have qi145 : (0 < l0.length) = True := eq_true (by omega)
    (try rw [show ((0 : Int)).toNat = 0 from rfl] at hx145_0)
    (try rw [show 0 * 2 = 0 from rfl] at hx145_0)
    (try rw [Addr.add_zero'] at hx145_0)
    (try rw [show ((0 : Int)).toNat = 0 from rfl] at hx145_1)
    (try rw [show 0 * 2 = 0 from rfl] at hx145_1)
    (try rw [Addr.add_zero'] at hx145_1)
    replace p145 := eq_true p145
    replace q145 := eq_true q145
    have p146 : 0 ≤ (0 : Int) := (by omega)
    have q146 : 0 < (l0.length : Int) := oD
    obtain ⟨ad146, e146, hx146_0, hx146_1⟩ := at_T103 HR0.out 0 p146 q146
    obtain rfl : ad145 = ad146 := (by injection e146)
    have qi146 : (0 < l0.length) = True := eq_true (by omega)
    (try rw [show ((0 : Int)).toNat = 0 from rfl] at hx146_0)
    (try rw [show 0 * 2 = 0 from rfl] at hx146_0)
    (try rw [Addr.add_zero'] at hx146_0)
    (try rw [show ((0 : Int)).toNat = 0 from rfl] at hx146_1)
    (try rw [show 0 * 2 = 0 from rfl] at hx146_1)
    (try rw [Addr.add_zero'] at hx146_1)
    replace p146 := eq_true p146
    replace q146 := eq_true q146
    go_enter Try.func125, Try.ntmps125
    go_wp2
    repeat (go_quiet (fail); try go_wp2)
    go_loopg [4, 5, 6] k (fun kq v4 v5 v6 w' => ∃ (x4_1 : Int) (x5_1 : Int) (x6_1 : Int), v4 = .int .i64 x4_1 ∧ v5 = .int .i64 x5_1 ∧ v6 = .int .i64 x6_1 ∧ Aside0 (spec_l02Least.l0 kq l0 x4_1 x5_1 x6_1 = some (r1, r2)) ∧ Aside0 (kq ≤ k) ∧ Aside0 (Below w.heap.size w w'))
    case atStart => exact ⟨((rd_T103 l0 0).f0), ((rd_T103 l0 0).f1), (1), Fs, Fs, Fs, H', ⟨Nat.le_refl _⟩, ⟨Hb⟩⟩
    case round =>
      clear H'
      try clear c1
      try clear p1
      try clear q1
      try clear hx1
      try clear qi1
      try clear c2
      try clear c2b0
      try clear c2b1
      try clear p2
      try clear hx145_0
      try clear hx145_1
      try clear hx146_0
      try clear hx146_1
      try clear p145
      try clear p146
      try clear q145
      try clear q146
      obtain ⟨x4_1, x5_1, x6_1, rfl, rfl, rfl, HA, HK1, HB⟩ := hrel
      cases gk with
      | zero => exact absurd HA.out (by simp [spec_l02Least.l0])
      | succ k1 =>
        have H := HA.out
        clear HA
        simp only [spec_l02Least.l0] at H
        by_cases c3 : x6_1 < (l0.length : Int)
        · rw [if_pos c3] at H
          have c3b0 : decide (x6_1 < (l0.length : Int)) = true := decide_eq_true c3
          clear c3
          by_cases c4 : 0 ≤ x6_1
          · rw [if_pos c4] at H
            have c4b0 : decide (0 ≤ x6_1) = true := decide_eq_true c4
            clear c4
            obtain ⟨ji5, hji5⟩ : ∃ j_ : Int, (mn x4_1 ((rd_T103 l0 x6_1).f0)) = j_ := ⟨_, rfl⟩
            replace H : (spec_l02Least.l0 k1 l0 ji5 (mn x5_1 ((rd_T103 l0 x6_1).f1)) (wrap64 (x6_1 + 1))) = some (r1, r2) := by first | (rw [hji5] at H; exact H) | (simp only [hji5] at H ⊢; exact H)
            have hji5_ : (if ((rd_T103 l0 x6_1).f0) < x4_1 then ((rd_T103 l0 x6_1).f0) else x4_1) = ji5 := hji5
            obtain ⟨ji6, hji6⟩ : ∃ j_ : Int, (mn x5_1 ((rd_T103 l0 x6_1).f1)) = j_ := ⟨_, rfl⟩
            replace H : (spec_l02Least.l0 k1 l0 ji5 ji6 (wrap64 (x6_1 + 1))) = some (r1, r2) := by first | (rw [hji6] at H; exact H) | (simp only [hji6] at H ⊢; exact H)
            have hji6_ : (if ((rd_T103 l0 x6_1).f1) < x5_1 then ((rd_T103 l0 x6_1).f1) else x5_1) = ji6 := hji6
            have H' := Aside0.mk H
            clear H
            have p147 : 0 ≤ (x6_1 : Int) := oD
            have q147 : x6_1 < (l0.length : Int) := oD
            obtain ⟨ad147, e147, hx147_0, hx147_1⟩ := at_T103 HR0.out x6_1 p147 q147
            obtain rfl : ad145 = ad147 := (by injection e147)
            replace hx147_0 := hxb hx147_0
            replace hx147_1 := hxb hx147_1
            replace p147 := eq_true p147
            replace q147 := eq_true q147
            have p148 : 0 ≤ (x6_1 : Int) := oD
            have q148 : x6_1 < (l0.length : Int) := oD
            obtain ⟨ad148, e148, hx148_0, hx148_1⟩ := at_T103 HR0.out x6_1 p148 q148
            obtain rfl : ad145 = ad148 := (by injection e148)
            replace hx148_0 := hxb hx148_0
            replace hx148_1 := hxb hx148_1
            replace p148 := eq_true p148
            replace q148 := eq_true q148
            go_wp2
            repeat (go_quiet (fail); try go_wp2)
            go_roundg k1
            case measure => have := HK1.out; omega
            case rel => exact ⟨(ji5), (ji6), (wrap64 (x6_1 + 1)), (by first | rfl | (simp; done) | (simp only [← hji5] <;> (first | rfl | simp)) | (simp [*]; done)), (by first | rfl | (simp; done) | (simp only [← hji6] <;> (first | rfl | simp)) | (simp [*]; done)), Fs, H', ⟨by have := HK1.out; omega⟩, ⟨Hb⟩⟩
          · rw [if_neg c4] at H
            exact absurd H (by simp)
        · rw [if_neg c3] at H
          have c3b0 : decide (x6_1 < (l0.length : Int)) = false := decide_eq_false c3
          clear c3
          simp only [Option.some.injEq, Prod.mk.injEq] at H
          obtain ⟨rfl, rfl⟩ := H
          go_wp2
          repeat (go_quiet (fail); try go_wp2)
          go_ret2
          exact ⟨Fin, Hb⟩
  · rw [if_neg c2] at H
    exact absurd H (by simp)

/-! ### spec_l04Size: function 124 -/
def spec_l04Size.l0 : Nat → List (S103) → Int → Int → Int → Int → Int → Option (Int × Int)
  | 0, _, _, _, _, _, _ => none
  | k + 1, x0, x4, x5, x6, x7, x8 => if x8 < (x0.length : Int) then (if 0 ≤ x8 then (spec_l04Size.l0 k x0 x4 x5 (mx x6 (wrap64 ((wrap64 (((rd_T103 x0 x8).f0) - x4)) + 1))) (mx x7 (wrap64 ((wrap64 (((rd_T103 x0 x8).f1) - x5)) + 1))) (wrap64 (x8 + 1))) else (none)) else (some (x6, x7))
def spec_l04Size.f (k : Nat) (l0 : List (S103)) : Option (Int × Int) := (spec_l02Least.f k l0).bind fun bt149 => (spec_l04Size.l0 k l0 bt149.1 bt149.2 0 0 0)
theorem spec_l04Size.mono_l : ∀ k, (∀ y0 y1 y2 y3 y4 y5, LeO (spec_l04Size.l0 k y0 y1 y2 y3 y4 y5) (spec_l04Size.l0 (k + 1) y0 y1 y2 y3 y4 y5))
  | 0 => fun _ _ _ _ _ _ r h => by simp [spec_l04Size.l0] at h
  | k + 1 => by
    have ih0 := spec_l04Size.mono_l k
    · intro y0 y1 y2 y3 y4 y5
      unfold spec_l04Size.l0
      repeat' first
      | (with_reducible exact ih0 _ _ _ _ _ _)
      | (with_reducible exact spec_l02Least.mono _ _)
      | (with_reducible exact LeO.refl _)
      | (with_reducible exact LeO.none _)
      | (with_reducible refine LeO.ite ?_ ?_)
      | (with_reducible refine LeO.bind ?_ (fun _ => ?_))
      | exact ih0 _ _ _ _ _ _
      | exact spec_l02Least.mono _ _
      | exact LeO.none _
      | refine LeO.ite ?_ ?_
      | refine LeO.bind ?_ (fun _ => ?_)
theorem spec_l04Size.mono : ∀ a0 k, LeO (spec_l04Size.f k a0) (spec_l04Size.f (k + 1) a0) := by
  intro a0 k
  have ih0 := spec_l04Size.mono_l k
  unfold spec_l04Size.f
  repeat' first
      | (with_reducible exact ih0 _ _ _ _ _ _)
      | (with_reducible exact spec_l02Least.mono _ _)
      | (with_reducible exact LeO.refl _)
      | (with_reducible exact LeO.none _)
      | (with_reducible refine LeO.ite ?_ ?_)
      | (with_reducible refine LeO.bind ?_ (fun _ => ?_))
      | exact ih0 _ _ _ _ _ _
      | exact spec_l02Least.mono _ _
      | exact LeO.none _
      | refine LeO.ite ?_ ?_
      | refine LeO.bind ?_ (fun _ => ?_)
set_option maxHeartbeats 8000000 in
set_option maxRecDepth 100000 in
theorem spec_l04Size.calls (k : Nat) (A0 : Option Addr) (c0 : Nat) (l0 : List (S103)) (r1 : Int) (r2 : Int) (w : World) (hr0 : Kd.C k103 w A0 l0.length l0) (hc0 : l0.length ≤ c0) (h : spec_l04Size.f k l0 = some (r1, r2)) :
    Calls Try.prog 124 #[.slice A0 l0.length c0] w fun e w' => e = .returned (.tuple #[.int .i64 r1, .int .i64 r2]) ∧ Below w.heap.size w w' := by
  have HR0 := Aside0.mk hr0
  have HC0 := Aside0.mk hc0
  clear hr0 hc0
  have HB := Aside0.mk (Below.refl w.heap.size w)
  have H : ((spec_l02Least.f k l0).bind fun bt149 => (spec_l04Size.l0 k l0 bt149.1 bt149.2 0 0 0)) = some (r1, r2) := h
  clear h
  obtain ⟨⟨t149, t150⟩, A20, H⟩ := Option.bind_eq_some_iff.mp H
  dsimp only at H
  have A2 := Aside0.mk A20
  clear A20
  have H' := Aside0.mk H
  clear H
  go_enter Try.func124, Try.ntmps124
  go_wp2_with (first | ((with_reducible refine gC 125 ?_); refine GL (some 11) Try.func125 #[.slice A0 l0.length c0] ?_; (with_reducible refine (spec_l02Least.calls k _ _ l0 t149 t150 _ ?side1 ?side2 A2.out).mono ?_); (case side1 => exact Ck HR0.out); (case side2 => exact HC0.out); rintro e w3 ⟨rfl, hb⟩; refine ⟨_, rfl, ?_⟩; replace HB := Aside0.mk (below_step Hb hb); (try clear hb); (try clear hb2); (try clear hk); (try clear hi)))
  go_loopg [6, 7, 8] k (fun kq v6 v7 v8 w' => ∃ (x6_1 : Int) (x7_1 : Int) (x8_1 : Int), v6 = .int .i64 x6_1 ∧ v7 = .int .i64 x7_1 ∧ v8 = .int .i64 x8_1 ∧ Aside0 (spec_l04Size.l0 kq l0 t149 t150 x6_1 x7_1 x8_1 = some (r1, r2)) ∧ Aside0 (kq ≤ k) ∧ Aside0 (Below w.heap.size w w'))
  case atStart => exact ⟨(0), (0), (0), Fs, Fs, Fs, H', ⟨Nat.le_refl _⟩, ⟨Hb⟩⟩
  case round =>
    clear H'
    try clear c1
    try clear p2
    obtain ⟨x6_1, x7_1, x8_1, rfl, rfl, rfl, HA, HK1, HB⟩ := hrel
    cases gk with
    | zero => exact absurd HA.out (by simp [spec_l04Size.l0])
    | succ k1 =>
      have H := HA.out
      clear HA
      simp only [spec_l04Size.l0] at H
      by_cases c4 : x8_1 < (l0.length : Int)
      · rw [if_pos c4] at H
        have c4b0 : decide (x8_1 < (l0.length : Int)) = true := decide_eq_true c4
        clear c4
        by_cases c5 : 0 ≤ x8_1
        · rw [if_pos c5] at H
          have c5b0 : decide (0 ≤ x8_1) = true := decide_eq_true c5
          clear c5
          obtain ⟨ji6, hji6⟩ : ∃ j_ : Int, (mx x6_1 (wrap64 ((wrap64 (((rd_T103 l0 x8_1).f0) - t149)) + 1))) = j_ := ⟨_, rfl⟩
          replace H : (spec_l04Size.l0 k1 l0 t149 t150 ji6 (mx x7_1 (wrap64 ((wrap64 (((rd_T103 l0 x8_1).f1) - t150)) + 1))) (wrap64 (x8_1 + 1))) = some (r1, r2) := by first | (rw [hji6] at H; exact H) | (simp only [hji6] at H ⊢; exact H)
          have hji6_ : (if x6_1 < (wrap64 ((wrap64 (((rd_T103 l0 x8_1).f0) - t149)) + 1)) then (wrap64 ((wrap64 (((rd_T103 l0 x8_1).f0) - t149)) + 1)) else x6_1) = ji6 := hji6
          obtain ⟨ji7, hji7⟩ : ∃ j_ : Int, (mx x7_1 (wrap64 ((wrap64 (((rd_T103 l0 x8_1).f1) - t150)) + 1))) = j_ := ⟨_, rfl⟩
          replace H : (spec_l04Size.l0 k1 l0 t149 t150 ji6 ji7 (wrap64 (x8_1 + 1))) = some (r1, r2) := by first | (rw [hji7] at H; exact H) | (simp only [hji7] at H ⊢; exact H)
          have hji7_ : (if x7_1 < (wrap64 ((wrap64 (((rd_T103 l0 x8_1).f1) - t150)) + 1)) then (wrap64 ((wrap64 (((rd_T103 l0 x8_1).f1) - t150)) + 1)) else x7_1) = ji7 := hji7
          have H' := Aside0.mk H
          clear H
          have p151 : 0 ≤ (x8_1 : Int) := oD
          have q151 : x8_1 < (l0.length : Int) := oD
          obtain ⟨ad151, e151, hx151_0, hx151_1⟩ := at_T103 HR0.out x8_1 p151 q151
          cases e151
          replace hx151_0 := hxb hx151_0
          replace hx151_1 := hxb hx151_1
          replace p151 := eq_true p151
          replace q151 := eq_true q151
          have p152 : 0 ≤ (x8_1 : Int) := oD
          have q152 : x8_1 < (l0.length : Int) := oD
          obtain ⟨ad152, e152, hx152_0, hx152_1⟩ := at_T103 HR0.out x8_1 p152 q152
          obtain rfl : ad151 = ad152 := (by injection e152)
          replace hx152_0 := hxb hx152_0
          replace hx152_1 := hxb hx152_1
          replace p152 := eq_true p152
          replace q152 := eq_true q152
          go_wp2
          go_roundg k1
          case measure => have := HK1.out; omega
          case rel => exact ⟨(ji6), (ji7), (wrap64 (x8_1 + 1)), (by first | rfl | (simp; done) | (simp only [← hji6] <;> (first | rfl | simp)) | (simp [*]; done)), (by first | rfl | (simp; done) | (simp only [← hji7] <;> (first | rfl | simp)) | (simp [*]; done)), Fs, H', ⟨by have := HK1.out; omega⟩, ⟨Hb⟩⟩
        · rw [if_neg c5] at H
          exact absurd H (by simp)
      · rw [if_neg c4] at H
        have c4b0 : decide (x8_1 < (l0.length : Int)) = false := decide_eq_false c4
        clear c4
        simp only [Option.some.injEq, Prod.mk.injEq] at H
        obtain ⟨rfl, rfl⟩ := H
        go_wp2
        go_ret2
        exact ⟨Fin, Hb⟩

/-! ### spec_IsRegion: function 75 -/
def spec_IsRegion.f (k : Nat) (l0 : List (S103)) : Option (Bool) := (spec_IsShape.f k l0).bind fun t153 => (if t153 = true then ((spec_l04Size.f k l0).bind fun bt154 => ((spec_l02Least.f k l0).bind fun bt156 => (if bt156.1 = 0 then (if bt156.2 = 0 then (if bt154.1 ≤ 20 then (some (decide (bt154.2 ≤ 20))) else (some false)) else (some false)) else (some false)))) else (some false))
theorem spec_IsRegion.mono : ∀ a0 k, LeO (spec_IsRegion.f k a0) (spec_IsRegion.f (k + 1) a0) := by
  intro a0 k
  unfold spec_IsRegion.f
  repeat' first
      | (with_reducible exact spec_IsShape.mono _ _)
      | (with_reducible exact spec_l02Least.mono _ _)
      | (with_reducible exact spec_l04Size.mono _ _)
      | (with_reducible exact LeO.refl _)
      | (with_reducible exact LeO.none _)
      | (with_reducible refine LeO.ite ?_ ?_)
      | (with_reducible refine LeO.bind ?_ (fun _ => ?_))
      | exact spec_IsShape.mono _ _
      | exact spec_l02Least.mono _ _
      | exact spec_l04Size.mono _ _
      | exact LeO.none _
      | refine LeO.ite ?_ ?_
      | refine LeO.bind ?_ (fun _ => ?_)
set_option maxHeartbeats 8000000 in
set_option maxRecDepth 100000 in
theorem spec_IsRegion.calls (k : Nat) (A0 : Option Addr) (c0 : Nat) (l0 : List (S103)) (r : Bool) (w : World) (hr0 : Kd.C k103 w A0 l0.length l0) (hc0 : l0.length ≤ c0) (h : spec_IsRegion.f k l0 = some r) :
    Calls Try.prog 75 #[.slice A0 l0.length c0] w fun e w' => e = .returned (.bool r) ∧ Below w.heap.size w w' := by
  have HR0 := Aside0.mk hr0
  have HC0 := Aside0.mk hc0
  clear hr0 hc0
  have HB := Aside0.mk (Below.refl w.heap.size w)
  have H : ((spec_IsShape.f k l0).bind fun t153 => (if t153 = true then ((spec_l04Size.f k l0).bind fun bt154 => ((spec_l02Least.f k l0).bind fun bt156 => (if bt156.1 = 0 then (if bt156.2 = 0 then (if bt154.1 ≤ 20 then (some (decide (bt154.2 ≤ 20))) else (some false)) else (some false)) else (some false)))) else (some false))) = some r := h
  clear h
  obtain ⟨t153, A20, H⟩ := Option.bind_eq_some_iff.mp H
  have A2 := Aside0.mk A20
  clear A20
  by_cases c3 : t153 = true
  · subst c3
    rw [if_pos rfl] at H
    obtain ⟨⟨t154, t155⟩, A40, H⟩ := Option.bind_eq_some_iff.mp H
    dsimp only at H
    have A4 := Aside0.mk A40
    clear A40
    obtain ⟨⟨t156, t157⟩, A50, H⟩ := Option.bind_eq_some_iff.mp H
    dsimp only at H
    have A5 := Aside0.mk A50
    clear A50
    by_cases c6 : t156 = 0
    · rw [if_pos c6] at H
      have c6b0 : (t156 == 0) = true := beq_iff_eq.mpr c6
      have c6b1 : (t156 != 0) = false := bne_eq_false_iff_eq.mpr c6
      clear c6
      by_cases c7 : t157 = 0
      · rw [if_pos c7] at H
        have c7b0 : (t157 == 0) = true := beq_iff_eq.mpr c7
        have c7b1 : (t157 != 0) = false := bne_eq_false_iff_eq.mpr c7
        clear c7
        by_cases c8 : t154 ≤ 20
        · rw [if_pos c8] at H
          have c8b0 : decide (t154 ≤ 20) = true := decide_eq_true c8
          clear c8
          obtain rfl := Option.some.inj H
          go_enter Try.func75, Try.ntmps75
          go_wp2_with (first | ((with_reducible refine gC 123 ?_); refine GL (some 8) Try.func123 #[.slice A0 l0.length c0] ?_; (with_reducible refine (spec_IsShape.calls k _ _ l0 true _ ?side1 ?side2 A2.out).mono ?_); (case side1 => exact Ck HR0.out); (case side2 => exact HC0.out); rintro e w9 ⟨rfl, hb⟩; refine ⟨_, rfl, ?_⟩; replace HB := Aside0.mk (below_step Hb hb); (try clear hb); (try clear hb2); (try clear hk); (try clear hi)) | ((with_reducible refine gC 124 ?_); refine GL (some 12) Try.func124 #[.slice A0 l0.length c0] ?_; (with_reducible refine (spec_l04Size.calls k _ _ l0 t154 t155 _ ?side1 ?side2 A4.out).mono ?_); (case side1 => exact Kd.C_below HR0.out Hb); (case side2 => exact HC0.out); rintro e w10 ⟨rfl, hb⟩; refine ⟨_, rfl, ?_⟩; replace HB := Aside0.mk (below_step Hb hb); (try clear hb); (try clear hb2); (try clear hk); (try clear hi)) | ((with_reducible refine gC 125 ?_); refine GL (some 17) Try.func125 #[.slice A0 l0.length c0] ?_; (with_reducible refine (spec_l02Least.calls k _ _ l0 t156 t157 _ ?side1 ?side2 A5.out).mono ?_); (case side1 => exact Kd.C_below HR0.out Hb); (case side2 => exact HC0.out); rintro e w11 ⟨rfl, hb⟩; refine ⟨_, rfl, ?_⟩; replace HB := Aside0.mk (below_step Hb hb); (try clear hb); (try clear hb2); (try clear hk); (try clear hi)))
          go_ret
          exact ⟨Fin, Hb⟩
        · rw [if_neg c8] at H
          have c8b0 : decide (t154 ≤ 20) = false := decide_eq_false c8
          clear c8
          obtain rfl := Option.some.inj H
          go_enter Try.func75, Try.ntmps75
          go_wp2_with (first | ((with_reducible refine gC 123 ?_); refine GL (some 8) Try.func123 #[.slice A0 l0.length c0] ?_; (with_reducible refine (spec_IsShape.calls k _ _ l0 true _ ?side1 ?side2 A2.out).mono ?_); (case side1 => exact Ck HR0.out); (case side2 => exact HC0.out); rintro e w12 ⟨rfl, hb⟩; refine ⟨_, rfl, ?_⟩; replace HB := Aside0.mk (below_step Hb hb); (try clear hb); (try clear hb2); (try clear hk); (try clear hi)) | ((with_reducible refine gC 124 ?_); refine GL (some 12) Try.func124 #[.slice A0 l0.length c0] ?_; (with_reducible refine (spec_l04Size.calls k _ _ l0 t154 t155 _ ?side1 ?side2 A4.out).mono ?_); (case side1 => exact Kd.C_below HR0.out Hb); (case side2 => exact HC0.out); rintro e w13 ⟨rfl, hb⟩; refine ⟨_, rfl, ?_⟩; replace HB := Aside0.mk (below_step Hb hb); (try clear hb); (try clear hb2); (try clear hk); (try clear hi)) | ((with_reducible refine gC 125 ?_); refine GL (some 17) Try.func125 #[.slice A0 l0.length c0] ?_; (with_reducible refine (spec_l02Least.calls k _ _ l0 t156 t157 _ ?side1 ?side2 A5.out).mono ?_); (case side1 => exact Kd.C_below HR0.out Hb); (case side2 => exact HC0.out); rintro e w14 ⟨rfl, hb⟩; refine ⟨_, rfl, ?_⟩; replace HB := Aside0.mk (below_step Hb hb); (try clear hb); (try clear hb2); (try clear hk); (try clear hi)))
          go_ret
          exact ⟨Fin, Hb⟩
      · rw [if_neg c7] at H
        have c7b0 : (t157 == 0) = false := beq_eq_false_iff_ne.mpr c7
        have c7b1 : (t157 != 0) = true := bne_iff_ne.mpr c7
        obtain rfl := Option.some.inj H
        go_enter Try.func75, Try.ntmps75
        go_wp2_with (first | ((with_reducible refine gC 123 ?_); refine GL (some 8) Try.func123 #[.slice A0 l0.length c0] ?_; (with_reducible refine (spec_IsShape.calls k _ _ l0 true _ ?side1 ?side2 A2.out).mono ?_); (case side1 => exact Ck HR0.out); (case side2 => exact HC0.out); rintro e w15 ⟨rfl, hb⟩; refine ⟨_, rfl, ?_⟩; replace HB := Aside0.mk (below_step Hb hb); (try clear hb); (try clear hb2); (try clear hk); (try clear hi)) | ((with_reducible refine gC 124 ?_); refine GL (some 12) Try.func124 #[.slice A0 l0.length c0] ?_; (with_reducible refine (spec_l04Size.calls k _ _ l0 t154 t155 _ ?side1 ?side2 A4.out).mono ?_); (case side1 => exact Kd.C_below HR0.out Hb); (case side2 => exact HC0.out); rintro e w16 ⟨rfl, hb⟩; refine ⟨_, rfl, ?_⟩; replace HB := Aside0.mk (below_step Hb hb); (try clear hb); (try clear hb2); (try clear hk); (try clear hi)) | ((with_reducible refine gC 125 ?_); refine GL (some 17) Try.func125 #[.slice A0 l0.length c0] ?_; (with_reducible refine (spec_l02Least.calls k _ _ l0 t156 t157 _ ?side1 ?side2 A5.out).mono ?_); (case side1 => exact Kd.C_below HR0.out Hb); (case side2 => exact HC0.out); rintro e w17 ⟨rfl, hb⟩; refine ⟨_, rfl, ?_⟩; replace HB := Aside0.mk (below_step Hb hb); (try clear hb); (try clear hb2); (try clear hk); (try clear hi)))
        go_ret
        exact ⟨Fin, Hb⟩
    · rw [if_neg c6] at H
      have c6b0 : (t156 == 0) = false := beq_eq_false_iff_ne.mpr c6
      have c6b1 : (t156 != 0) = true := bne_iff_ne.mpr c6
      obtain rfl := Option.some.inj H
      go_enter Try.func75, Try.ntmps75
      go_wp2_with (first | ((with_reducible refine gC 123 ?_); refine GL (some 8) Try.func123 #[.slice A0 l0.length c0] ?_; (with_reducible refine (spec_IsShape.calls k _ _ l0 true _ ?side1 ?side2 A2.out).mono ?_); (case side1 => exact Ck HR0.out); (case side2 => exact HC0.out); rintro e w18 ⟨rfl, hb⟩; refine ⟨_, rfl, ?_⟩; replace HB := Aside0.mk (below_step Hb hb); (try clear hb); (try clear hb2); (try clear hk); (try clear hi)) | ((with_reducible refine gC 124 ?_); refine GL (some 12) Try.func124 #[.slice A0 l0.length c0] ?_; (with_reducible refine (spec_l04Size.calls k _ _ l0 t154 t155 _ ?side1 ?side2 A4.out).mono ?_); (case side1 => exact Kd.C_below HR0.out Hb); (case side2 => exact HC0.out); rintro e w19 ⟨rfl, hb⟩; refine ⟨_, rfl, ?_⟩; replace HB := Aside0.mk (below_step Hb hb); (try clear hb); (try clear hb2); (try clear hk); (try clear hi)) | ((with_reducible refine gC 125 ?_); refine GL (some 17) Try.func125 #[.slice A0 l0.length c0] ?_; (with_reducible refine (spec_l02Least.calls k _ _ l0 t156 t157 _ ?side1 ?side2 A5.out).mono ?_); (case side1 => exact Kd.C_below HR0.out Hb); (case side2 => exact HC0.out); rintro e w20 ⟨rfl, hb⟩; refine ⟨_, rfl, ?_⟩; replace HB := Aside0.mk (below_step Hb hb); (try clear hb); (try clear hb2); (try clear hk); (try clear hi)))
      go_ret
      exact ⟨Fin, Hb⟩
  · replace c3 := Bool.eq_false_iff.mpr c3
    subst c3
    rw [if_neg (show ¬ (false = true) by decide)] at H
    obtain rfl := Option.some.inj H
    go_enter Try.func75, Try.ntmps75
    go_wp2_with (first | ((with_reducible refine gC 123 ?_); refine GL (some 8) Try.func123 #[.slice A0 l0.length c0] ?_; (with_reducible refine (spec_IsShape.calls k _ _ l0 false _ ?side1 ?side2 A2.out).mono ?_); (case side1 => exact Ck HR0.out); (case side2 => exact HC0.out); rintro e w21 ⟨rfl, hb⟩; refine ⟨_, rfl, ?_⟩; replace HB := Aside0.mk (below_step Hb hb); (try clear hb); (try clear hb2); (try clear hk); (try clear hi)))
    go_ret
    exact ⟨Fin, Hb⟩

end Go.Proofs.Ytkmlgfihoaneeaa.XFnExactAddWeightings
