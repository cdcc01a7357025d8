-- Written by ext.py (wip/) over the kit's print: not trusted, Lean checks it.
import Derived.Test.YtpnlidfebnkgmaaXFnWeightSumsx0
import Derived.Test.YtpnlidfebnkgmaaXFnWeightSumsx1
import Derived.Test.YtpnlidfebnkgmaaXFnWeightSumsx7
namespace Go.Proofs.Ytpnlidfebnkgmaa.XFnWeightSums
open Go.RowKit Go.Proofs.YtpnlidfebnkgmaaW.PrintWords Go.Proofs.YtpnlidfebnkgmaaW.PrintLast Go.Proofs.YtpnlidfebnkgmaaW.PrintMore
attribute [local go_sem] max2_int min2_int max_two min_two max_three min_three max_four min_four   -- for this text's walks alone
set_option linter.unusedVariables false
set_option linter.unusedSimpArgs false

attribute [local go_sem high] eqA68
/-! ### impl_corner: function 54 -/
def impl_corner.l0 : Nat → List (S68) → Int → Int → Int → Int → Option (Int × Int)
  | 0, _, _, _, _, _ => none
  | k + 1, x9, x10, x11, x455000, x455001 => if x11 < x10 then (if 0 ≤ x11 then (if x11 < (x9.length : Int) then (impl_corner.l0 k x9 x10 (wrap64 (x11 + 1)) (mn x455000 ((rd_T68 x9 x11).f0)) (mn x455001 ((rd_T68 x9 x11).f1))) else (none)) else (none)) else (some (x455000, x455001))
def impl_corner.f (k : Nat) (l0 : List (S68)) : Option (Int × Int) := if 0 < (l0.length : Int) then (impl_corner.l0 k l0 (l0.length : Int) 0 ((rd_T68 l0 0).f0) ((rd_T68 l0 0).f1)) else (none)
theorem impl_corner.mono_l : ∀ k, (∀ y0 y1 y2 y3 y4, LeO (impl_corner.l0 k y0 y1 y2 y3 y4) (impl_corner.l0 (k + 1) y0 y1 y2 y3 y4))
  | 0 => fun _ _ _ _ _ r h => by simp [impl_corner.l0] at h
  | k + 1 => by
    have ih0 := impl_corner.mono_l k
    · intro y0 y1 y2 y3 y4
      unfold impl_corner.l0
      repeat' first
      | (with_reducible exact ih0 _ _ _ _ _)
      | (with_reducible exact LeO.refl _)
      | (with_reducible exact LeO.none _)
      | (with_reducible refine LeO.ite ?_ ?_)
      | (with_reducible refine LeO.bind ?_ (fun _ => ?_))
      | exact ih0 _ _ _ _ _
      | exact LeO.none _
      | refine LeO.ite ?_ ?_
      | refine LeO.bind ?_ (fun _ => ?_)
theorem impl_corner.mono : ∀ a0 k, LeO (impl_corner.f k a0) (impl_corner.f (k + 1) a0) := by
  intro a0 k
  have ih0 := impl_corner.mono_l k
  unfold impl_corner.f
  repeat' first
      | (with_reducible exact ih0 _ _ _ _ _)
      | (with_reducible exact LeO.refl _)
      | (with_reducible exact LeO.none _)
      | (with_reducible refine LeO.ite ?_ ?_)
      | (with_reducible refine LeO.bind ?_ (fun _ => ?_))
      | exact ih0 _ _ _ _ _
      | exact LeO.none _
      | refine LeO.ite ?_ ?_
      | refine LeO.bind ?_ (fun _ => ?_)
set_option maxHeartbeats 8000000 in
set_option maxRecDepth 100000 in
theorem impl_corner.calls (k : Nat) (A0 : Option Addr) (c0 : Nat) (l0 : List (S68)) (r1 : Int) (r2 : Int) (w : World) (hr0 : Kd.C k68 w A0 l0.length l0) (hc0 : l0.length ≤ c0) (h : impl_corner.f k l0 = some (r1, r2)) :
    Calls Try.prog 54 #[.slice A0 l0.length c0] w fun e w' => e = .returned (.agg #[.int .i64 r1, .int .i64 r2]) ∧ Below w.heap.size w w' := by
  have hu68 := Try.underlying68
  have HR0 := Aside0.mk hr0
  have HC0 := Aside0.mk hc0
  clear hr0 hc0
  have HB := Aside0.mk (Below.refl w.heap.size w)
  have H : (if 0 < (l0.length : Int) then (impl_corner.l0 k l0 (l0.length : Int) 0 ((rd_T68 l0 0).f0) ((rd_T68 l0 0).f1)) else (none)) = some (r1, r2) := h
  clear h
  by_cases c2 : 0 < (l0.length : Int)
  · rw [if_pos c2] at H
    have c2b0 : decide (0 < (l0.length : Int)) = true := decide_eq_true c2
    have c2b1 : decide (0 < l0.length) = true := decide_eq_true (by omega)
    clear c2
    have H' := Aside0.mk H
    clear H
    go_enter Try.func54, Try.ntmps54
    go_wp2_with (first | ((with_reducible refine gD 2 ?_); refine BX #[.int .i64 0, .int .i64 0] 68 ?_; intro gb452 hg w3 hbox hb; have BK452 := Aside0.mk (hbox); have GW452 := Aside0.mk ((Gle hg Hb : w.heap.size ≤ gb452)); have GE452 := Aside0.mk ((Gle hg Hb : w.heap.size ≤ gb452)); replace HB := Aside0.mk (below_step Hb hb); clear hb hbox hg; have p453 : 0 ≤ (0 : Int) := (by omega); have q453 : 0 < (l0.length : Int) := oD; obtain ⟨ad453, e453, hx453_0, hx453_1⟩ := at_T68 HR0.out 0 p453 q453; cases e453; have qi453 : (0 < l0.length) = True := eq_true (by omega); (try rw [show ((0 : Int)).toNat = 0 from rfl] at hx453_0); (try rw [show 0 * 2 = 0 from rfl] at hx453_0); (try rw [Addr.add_zero'] at hx453_0); (try rw [show ((0 : Int)).toNat = 0 from rfl] at hx453_1); (try rw [show 0 * 2 = 0 from rfl] at hx453_1); (try rw [Addr.add_zero'] at hx453_1); replace hx453_0 := hxb hx453_0; replace hx453_1 := hxb hx453_1; replace p453 := eq_true p453; replace q453 := eq_true q453) | ((with_reducible refine gD 3 ?_); refine BX #[.int .i64 0, .int .i64 0] 68 ?_; intro gb454 hg w4 hbox hb; have BK454 := Aside0.mk (hbox); have GW454 := Aside0.mk ((Gle hg Hb : w.heap.size ≤ gb454)); have GE454 := Aside0.mk ((Gle hg Hb : w.heap.size ≤ gb454)); replace HB := Aside0.mk (below_step Hb hb); have NB452_454 := Aside0.mk ((by rw [hg]; exact Nat.ne_of_lt (blk_lt (B1 BK452)) : gb452 ≠ gb454)); have NB454_452 := Aside0.mk ((by rw [hg]; exact Nat.ne_of_gt (blk_lt (B1 BK452)) : gb454 ≠ gb452)); replace BK452 := Aside0.mk (blk_below (B1 BK452) hb); clear hb hbox hg; have hnb5 := NB454_452.out; have hnc5 := NB452_454.out; have hcz6_0 : w4.cell? ⟨gb454, 0, none⟩ = some (.int .i64 0) := bc BK454; have hcz6_1 : w4.cell? ⟨gb454, 1, none⟩ = some (.int .i64 0) := bc BK454; have hfz6_0 := blk_frozen BK454.out 0; have hfz6_1 := blk_frozen BK454.out 1))
    go_loopg [11] k (fun kq v11 w' => ∃ (x11_1 : Int) (x455000_1 : Int) (x455001_1 : Int), v11 = .int .i64 x11_1 ∧ Aside0 (impl_corner.l0 kq l0 (l0.length : Int) x11_1 x455000_1 x455001_1 = some (r1, r2)) ∧ Aside0 (kq ≤ k) ∧ Aside0 (w'.heap[gb452]? = some (.cells #[.int .i64 0, .int .i64 0] 68 (0, 0))) ∧ Aside0 (w'.heap[gb454]? = some (.cells #[.int .i64 x455000_1, .int .i64 x455001_1] 68 (0, 0))) ∧ Aside0 (Below w.heap.size w w'))
    case atStart => exact ⟨(0), ((rd_T68 l0 0).f0), ((rd_T68 l0 0).f1), Fs, H', ⟨Nat.le_refl _⟩, ⟨by (with_reducible repeat (first | refine blk_drewN ?_ _ | refine blk_drew ?_ | refine blk_alloc ?_ _)); refine blk_far ?_ NB452_454.out _; (with_reducible repeat (first | refine blk_drewN ?_ _ | refine blk_drew ?_ | refine blk_alloc ?_ _)); refine blk_far ?_ NB452_454.out _; (with_reducible repeat (first | refine blk_drewN ?_ _ | refine blk_drew ?_ | refine blk_alloc ?_ _)); exact BK452.out⟩, ⟨by (with_reducible repeat (first | refine blk_drewN ?_ _ | refine blk_drew ?_ | refine blk_alloc ?_ _)); refine blk_put (cs := #[.int .i64 ((rd_T68 l0 0).f0), .int .i64 0]) ?_ 1 _ rfl; (with_reducible repeat (first | refine blk_drewN ?_ _ | refine blk_drew ?_ | refine blk_alloc ?_ _)); refine blk_put (cs := #[.int .i64 0, .int .i64 0]) ?_ 0 _ rfl; (with_reducible repeat (first | refine blk_drewN ?_ _ | refine blk_drew ?_ | refine blk_alloc ?_ _)); exact BK454.out⟩, ⟨Hb⟩⟩
    case round =>
      clear H'
      try clear c2
      try clear c2b0
      try clear c2b1
      try clear p2
      try clear p4
      try clear q4
      try clear hx4
      try clear qi4
      try clear c5
      try clear hcz6_0
      try clear hcz6_1
      try clear hfz6_0
      try clear hfz6_1
      try clear hx453_0
      try clear hx453_1
      try clear p453
      try clear q453
      obtain ⟨x11_1, x455000_1, x455001_1, rfl, HA, HK1, BK452, BK454, HB⟩ := hrel
      cases gk with
      | zero => exact absurd HA.out (by simp [impl_corner.l0])
      | succ k1 =>
        have H := HA.out
        clear HA
        simp only [impl_corner.l0] at H
        by_cases c7 : x11_1 < (l0.length : Int)
        · rw [if_pos c7] at H
          have c7b0 : decide (x11_1 < (l0.length : Int)) = true := decide_eq_true c7
          clear c7
          by_cases c8 : 0 ≤ x11_1
          · rw [if_pos c8] at H
            have c8b0 : decide (0 ≤ x11_1) = true := decide_eq_true c8
            clear c8
            by_cases c9 : x11_1 < (l0.length : Int)
            · rw [if_pos c9] at H
              have c9b0 : decide (x11_1 < (l0.length : Int)) = true := decide_eq_true c9
              clear c9
              obtain ⟨ji10, hji10⟩ : ∃ j_ : Int, (mn x455000_1 ((rd_T68 l0 x11_1).f0)) = j_ := ⟨_, rfl⟩
              replace H : (impl_corner.l0 k1 l0 (l0.length : Int) (wrap64 (x11_1 + 1)) ji10 (mn x455001_1 ((rd_T68 l0 x11_1).f1))) = some (r1, r2) := by first | (rw [hji10] at H; exact H) | (simp only [hji10] at H ⊢; exact H)
              have hji10_ : (if ((rd_T68 l0 x11_1).f0) < x455000_1 then ((rd_T68 l0 x11_1).f0) else x455000_1) = ji10 := hji10
              obtain ⟨ji11, hji11⟩ : ∃ j_ : Int, (mn x455001_1 ((rd_T68 l0 x11_1).f1)) = j_ := ⟨_, rfl⟩
              replace H : (impl_corner.l0 k1 l0 (l0.length : Int) (wrap64 (x11_1 + 1)) ji10 ji11) = some (r1, r2) := by first | (rw [hji11] at H; exact H) | (simp only [hji11] at H ⊢; exact H)
              have hji11_ : (if ((rd_T68 l0 x11_1).f1) < x455001_1 then ((rd_T68 l0 x11_1).f1) else x455001_1) = ji11 := hji11
              have H' := Aside0.mk H
              clear H
              have p455 : 0 ≤ (x11_1 : Int) := oD
              have q455 : x11_1 < (l0.length : Int) := oD
              obtain ⟨ad455, e455, hx455_0, hx455_1⟩ := at_T68 HR0.out x11_1 p455 q455
              obtain rfl : ad453 = ad455 := (by injection e455)
              replace hx455_0 := hxb hx455_0
              replace hx455_1 := hxb hx455_1
              replace p455 := eq_true p455
              replace q455 := eq_true q455
              go_wp2_with (first | ((with_reducible refine gD 5 ?_); refine BX #[.int .i64 0, .int .i64 0] 68 ?_; intro gb456 hg w12 hbox hb; have BK456 := Aside0.mk (hbox); have GW456 := Aside0.mk ((Gle hg Hb : w.heap.size ≤ gb456)); have GE456 := Aside0.mk ((Gle hg Hb : w.heap.size ≤ gb456)); replace HB := Aside0.mk (below_step Hb hb); have NB452_456 := Aside0.mk ((by rw [hg]; exact Nat.ne_of_lt (blk_lt (B1 BK452)) : gb452 ≠ gb456)); have NB456_452 := Aside0.mk ((by rw [hg]; exact Nat.ne_of_gt (blk_lt (B1 BK452)) : gb456 ≠ gb452)); replace BK452 := Aside0.mk (blk_below (B1 BK452) hb); have NB454_456 := Aside0.mk ((by rw [hg]; exact Nat.ne_of_lt (blk_lt (B1 BK454)) : gb454 ≠ gb456)); have NB456_454 := Aside0.mk ((by rw [hg]; exact Nat.ne_of_gt (blk_lt (B1 BK454)) : gb456 ≠ gb454)); replace BK454 := Aside0.mk (blk_below (B1 BK454) hb); clear hb hbox hg; have hnb13 := NB456_452.out; have hnc13 := NB452_456.out; have hnb14 := NB456_454.out; have hnc14 := NB454_456.out; have hcz15_0 : w12.cell? ⟨gb456, 0, none⟩ = some (.int .i64 0) := bc BK456; have hcz15_1 : w12.cell? ⟨gb456, 1, none⟩ = some (.int .i64 0) := bc BK456; have hfz15_0 := blk_frozen BK456.out 0; have hfz15_1 := blk_frozen BK456.out 1; have hnb16 := NB454_452.out; have hnc16 := NB452_454.out; have hcz17_0 : w12.cell? ⟨gb454, 0, none⟩ = some (.int .i64 x455000_1) := bc BK454; have hcz17_1 : w12.cell? ⟨gb454, 1, none⟩ = some (.int .i64 x455001_1) := bc BK454; have hfz17_0 := blk_frozen BK454.out 0; have hfz17_1 := blk_frozen BK454.out 1))
              go_roundg k1
              case measure => have := HK1.out; omega
              case rel => exact ⟨(wrap64 (x11_1 + 1)), (ji10), (ji11), Fs, H', ⟨by have := HK1.out; omega⟩, ⟨by (with_reducible repeat (first | refine blk_drewN ?_ _ | refine blk_drew ?_ | refine blk_alloc ?_ _)); refine blk_far ?_ NB452_454.out _; (with_reducible repeat (first | refine blk_drewN ?_ _ | refine blk_drew ?_ | refine blk_alloc ?_ _)); refine blk_far ?_ NB452_454.out _; (with_reducible repeat (first | refine blk_drewN ?_ _ | refine blk_drew ?_ | refine blk_alloc ?_ _)); refine blk_far ?_ NB452_456.out _; (with_reducible repeat (first | refine blk_drewN ?_ _ | refine blk_drew ?_ | refine blk_alloc ?_ _)); refine blk_far ?_ NB452_456.out _; (with_reducible repeat (first | refine blk_drewN ?_ _ | refine blk_drew ?_ | refine blk_alloc ?_ _)); exact BK452.out⟩, ⟨by (with_reducible repeat (first | refine blk_drewN ?_ _ | refine blk_drew ?_ | refine blk_alloc ?_ _)); refine blk_put (cs := #[.int .i64 ji10, .int .i64 x455001_1]) ?_ 1 _ rfl; (with_reducible repeat (first | refine blk_drewN ?_ _ | refine blk_drew ?_ | refine blk_alloc ?_ _)); refine blk_put (cs := #[.int .i64 x455000_1, .int .i64 x455001_1]) ?_ 0 _ rfl; (with_reducible repeat (first | refine blk_drewN ?_ _ | refine blk_drew ?_ | refine blk_alloc ?_ _)); refine blk_far ?_ NB454_456.out _; (with_reducible repeat (first | refine blk_drewN ?_ _ | refine blk_drew ?_ | refine blk_alloc ?_ _)); refine blk_far ?_ NB454_456.out _; (with_reducible repeat (first | refine blk_drewN ?_ _ | refine blk_drew ?_ | refine blk_alloc ?_ _)); exact BK454.out⟩, ⟨Hb⟩⟩
            · rw [if_neg c9] at H
              exact absurd H (by simp)
          · rw [if_neg c8] at H
            exact absurd H (by simp)
        · rw [if_neg c7] at H
          have c7b0 : decide (x11_1 < (l0.length : Int)) = false := decide_eq_false c7
          clear c7
          simp only [Option.some.injEq, Prod.mk.injEq] at H
          obtain ⟨rfl, rfl⟩ := H
          have hnb18 := NB454_452.out
          have hnc18 := NB452_454.out
          have hcz19_0 : wr.cell? ⟨gb454, 0, none⟩ = some (.int .i64 x455000_1) := bc BK454
          have hcz19_1 : wr.cell? ⟨gb454, 1, none⟩ = some (.int .i64 x455001_1) := bc BK454
          have hfz19_0 := blk_frozen BK454.out 0
          have hfz19_1 := blk_frozen BK454.out 1
          have hcz20_0 : wr.cell? ⟨gb452, 0, none⟩ = some (.int .i64 0) := bc BK452
          have hcz20_1 : wr.cell? ⟨gb452, 1, none⟩ = some (.int .i64 0) := bc BK452
          have hfz20_0 := blk_frozen BK452.out 0
          have hfz20_1 := blk_frozen BK452.out 1
          go_wp2
          refine bodyPost_ret (results_cell_row rfl _ _ gb452 68 #[.int .i64 x455000_1, .int .i64 x455001_1] (0, 0) _ rfl (by (with_reducible repeat (first | refine blk_drewN ?_ _ | refine blk_drew ?_ | refine blk_alloc ?_ _)); refine blk_put (cs := #[.int .i64 x455000_1, .int .i64 0]) ?_ 1 _ rfl; (with_reducible repeat (first | refine blk_drewN ?_ _ | refine blk_drew ?_ | refine blk_alloc ?_ _)); refine blk_put (cs := #[.int .i64 0, .int .i64 0]) ?_ 0 _ rfl; (with_reducible repeat (first | refine blk_drewN ?_ _ | refine blk_drew ?_ | refine blk_alloc ?_ _)); exact BK452.out) Try.underlying68 rfl (by kernel_rfl)) rfl ?_
          exact ⟨Fin, Hb⟩
  · rw [if_neg c2] at H
    exact absurd H (by simp)

/-! ### impl_reach: function 55 -/
def impl_reach.l0 : Nat → List (S68) → Int → Int → Int → Int → Option (Int × Int)
  | 0, _, _, _, _, _ => none
  | k + 1, x9, x10, x11, x460000, x460001 => if x11 < x10 then (if 0 ≤ x11 then (if x11 < (x9.length : Int) then (impl_reach.l0 k x9 x10 (wrap64 (x11 + 1)) (mx x460000 ((rd_T68 x9 x11).f0)) (mx x460001 ((rd_T68 x9 x11).f1))) else (none)) else (none)) else (some (x460000, x460001))
def impl_reach.f (k : Nat) (l0 : List (S68)) : Option (Int × Int) := if 0 < (l0.length : Int) then (impl_reach.l0 k l0 (l0.length : Int) 0 ((rd_T68 l0 0).f0) ((rd_T68 l0 0).f1)) else (none)
theorem impl_reach.mono_l : ∀ k, (∀ y0 y1 y2 y3 y4, LeO (impl_reach.l0 k y0 y1 y2 y3 y4) (impl_reach.l0 (k + 1) y0 y1 y2 y3 y4))
  | 0 => fun _ _ _ _ _ r h => by simp [impl_reach.l0] at h
  | k + 1 => by
    have ih0 := impl_reach.mono_l k
    · intro y0 y1 y2 y3 y4
      unfold impl_reach.l0
      repeat' first
      | (with_reducible exact ih0 _ _ _ _ _)
      | (with_reducible exact LeO.refl _)
      | (with_reducible exact LeO.none _)
      | (with_reducible refine LeO.ite ?_ ?_)
      | (with_reducible refine LeO.bind ?_ (fun _ => ?_))
      | exact ih0 _ _ _ _ _
      | exact LeO.none _
      | refine LeO.ite ?_ ?_
      | refine LeO.bind ?_ (fun _ => ?_)
theorem impl_reach.mono : ∀ a0 k, LeO (impl_reach.f k a0) (impl_reach.f (k + 1) a0) := by
  intro a0 k
  have ih0 := impl_reach.mono_l k
  unfold impl_reach.f
  repeat' first
      | (with_reducible exact ih0 _ _ _ _ _)
      | (with_reducible exact LeO.refl _)
      | (with_reducible exact LeO.none _)
      | (with_reducible refine LeO.ite ?_ ?_)
      | (with_reducible refine LeO.bind ?_ (fun _ => ?_))
      | exact ih0 _ _ _ _ _
      | exact LeO.none _
      | refine LeO.ite ?_ ?_
      | refine LeO.bind ?_ (fun _ => ?_)
set_option maxHeartbeats 8000000 in
set_option maxRecDepth 100000 in
theorem impl_reach.calls (k : Nat) (A0 : Option Addr) (c0 : Nat) (l0 : List (S68)) (r1 : Int) (r2 : Int) (w : World) (hr0 : Kd.C k68 w A0 l0.length l0) (hc0 : l0.length ≤ c0) (h : impl_reach.f k l0 = some (r1, r2)) :
    Calls Try.prog 55 #[.slice A0 l0.length c0] w fun e w' => e = .returned (.agg #[.int .i64 r1, .int .i64 r2]) ∧ Below w.heap.size w w' := by
  have hu68 := Try.underlying68
  have HR0 := Aside0.mk hr0
  have HC0 := Aside0.mk hc0
  clear hr0 hc0
  have HB := Aside0.mk (Below.refl w.heap.size w)
  have H : (if 0 < (l0.length : Int) then (impl_reach.l0 k l0 (l0.length : Int) 0 ((rd_T68 l0 0).f0) ((rd_T68 l0 0).f1)) else (none)) = some (r1, r2) := h
  clear h
  by_cases c2 : 0 < (l0.length : Int)
  · rw [if_pos c2] at H
    have c2b0 : decide (0 < (l0.length : Int)) = true := decide_eq_true c2
    have c2b1 : decide (0 < l0.length) = true := decide_eq_true (by omega)
    clear c2
    have H' := Aside0.mk H
    clear H
    go_enter Try.func55, Try.ntmps55
    go_wp2_with (first | ((with_reducible refine gD 2 ?_); refine BX #[.int .i64 0, .int .i64 0] 68 ?_; intro gb457 hg w3 hbox hb; have BK457 := Aside0.mk (hbox); have GW457 := Aside0.mk ((Gle hg Hb : w.heap.size ≤ gb457)); have GE457 := Aside0.mk ((Gle hg Hb : w.heap.size ≤ gb457)); replace HB := Aside0.mk (below_step Hb hb); clear hb hbox hg; have p458 : 0 ≤ (0 : Int) := (by omega); have q458 : 0 < (l0.length : Int) := oD; obtain ⟨ad458, e458, hx458_0, hx458_1⟩ := at_T68 HR0.out 0 p458 q458; cases e458; have qi458 : (0 < l0.length) = True := eq_true (by omega); (try rw [show ((0 : Int)).toNat = 0 from rfl] at hx458_0); (try rw [show 0 * 2 = 0 from rfl] at hx458_0); (try rw [Addr.add_zero'] at hx458_0); (try rw [show ((0 : Int)).toNat = 0 from rfl] at hx458_1); (try rw [show 0 * 2 = 0 from rfl] at hx458_1); (try rw [Addr.add_zero'] at hx458_1); replace hx458_0 := hxb hx458_0; replace hx458_1 := hxb hx458_1; replace p458 := eq_true p458; replace q458 := eq_true q458) | ((with_reducible refine gD 3 ?_); refine BX #[.int .i64 0, .int .i64 0] 68 ?_; intro gb459 hg w4 hbox hb; have BK459 := Aside0.mk (hbox); have GW459 := Aside0.mk ((Gle hg Hb : w.heap.size ≤ gb459)); have GE459 := Aside0.mk ((Gle hg Hb : w.heap.size ≤ gb459)); replace HB := Aside0.mk (below_step Hb hb); have NB457_459 := Aside0.mk ((by rw [hg]; exact Nat.ne_of_lt (blk_lt (B1 BK457)) : gb457 ≠ gb459)); have NB459_457 := Aside0.mk ((by rw [hg]; exact Nat.ne_of_gt (blk_lt (B1 BK457)) : gb459 ≠ gb457)); replace BK457 := Aside0.mk (blk_below (B1 BK457) hb); clear hb hbox hg; have hnb5 := NB459_457.out; have hnc5 := NB457_459.out; have hcz6_0 : w4.cell? ⟨gb459, 0, none⟩ = some (.int .i64 0) := bc BK459; have hcz6_1 : w4.cell? ⟨gb459, 1, none⟩ = some (.int .i64 0) := bc BK459; have hfz6_0 := blk_frozen BK459.out 0; have hfz6_1 := blk_frozen BK459.out 1))
    go_loopg [11] k (fun kq v11 w' => ∃ (x11_1 : Int) (x460000_1 : Int) (x460001_1 : Int), v11 = .int .i64 x11_1 ∧ Aside0 (impl_reach.l0 kq l0 (l0.length : Int) x11_1 x460000_1 x460001_1 = some (r1, r2)) ∧ Aside0 (kq ≤ k) ∧ Aside0 (w'.heap[gb457]? = some (.cells #[.int .i64 0, .int .i64 0] 68 (0, 0))) ∧ Aside0 (w'.heap[gb459]? = some (.cells #[.int .i64 x460000_1, .int .i64 x460001_1] 68 (0, 0))) ∧ Aside0 (Below w.heap.size w w'))
    case atStart => exact ⟨(0), ((rd_T68 l0 0).f0), ((rd_T68 l0 0).f1), Fs, H', ⟨Nat.le_refl _⟩, ⟨by (with_reducible repeat (first | refine blk_drewN ?_ _ | refine blk_drew ?_ | refine blk_alloc ?_ _)); refine blk_far ?_ NB457_459.out _; (with_reducible repeat (first | refine blk_drewN ?_ _ | refine blk_drew ?_ | refine blk_alloc ?_ _)); refine blk_far ?_ NB457_459.out _; (with_reducible repeat (first | refine blk_drewN ?_ _ | refine blk_drew ?_ | refine blk_alloc ?_ _)); exact BK457.out⟩, ⟨by (with_reducible repeat (first | refine blk_drewN ?_ _ | refine blk_drew ?_ | refine blk_alloc ?_ _)); refine blk_put (cs := #[.int .i64 ((rd_T68 l0 0).f0), .int .i64 0]) ?_ 1 _ rfl; (with_reducible repeat (first | refine blk_drewN ?_ _ | refine blk_drew ?_ | refine blk_alloc ?_ _)); refine blk_put (cs := #[.int .i64 0, .int .i64 0]) ?_ 0 _ rfl; (with_reducible repeat (first | refine blk_drewN ?_ _ | refine blk_drew ?_ | refine blk_alloc ?_ _)); exact BK459.out⟩, ⟨Hb⟩⟩
    case round =>
      clear H'
      try clear c2
      try clear c2b0
      try clear c2b1
      try clear p2
      try clear p4
      try clear q4
      try clear hx4
      try clear qi4
      try clear c5
      try clear hcz6_0
      try clear hcz6_1
      try clear hfz6_0
      try clear hfz6_1
      try clear hx458_0
      try clear hx458_1
      try clear p458
      try clear q458
      obtain ⟨x11_1, x460000_1, x460001_1, rfl, HA, HK1, BK457, BK459, HB⟩ := hrel
      cases gk with
      | zero => exact absurd HA.out (by simp [impl_reach.l0])
      | succ k1 =>
        have H := HA.out
        clear HA
        simp only [impl_reach.l0] at H
        by_cases c7 : x11_1 < (l0.length : Int)
        · rw [if_pos c7] at H
          have c7b0 : decide (x11_1 < (l0.length : Int)) = true := decide_eq_true c7
          clear c7
          by_cases c8 : 0 ≤ x11_1
          · rw [if_pos c8] at H
            have c8b0 : decide (0 ≤ x11_1) = true := decide_eq_true c8
            clear c8
            by_cases c9 : x11_1 < (l0.length : Int)
            · rw [if_pos c9] at H
              have c9b0 : decide (x11_1 < (l0.length : Int)) = true := decide_eq_true c9
              clear c9
              obtain ⟨ji10, hji10⟩ : ∃ j_ : Int, (mx x460000_1 ((rd_T68 l0 x11_1).f0)) = j_ := ⟨_, rfl⟩
              replace H : (impl_reach.l0 k1 l0 (l0.length : Int) (wrap64 (x11_1 + 1)) ji10 (mx x460001_1 ((rd_T68 l0 x11_1).f1))) = some (r1, r2) := by first | (rw [hji10] at H; exact H) | (simp only [hji10] at H ⊢; exact H)
              have hji10_ : (if x460000_1 < ((rd_T68 l0 x11_1).f0) then ((rd_T68 l0 x11_1).f0) else x460000_1) = ji10 := hji10
              obtain ⟨ji11, hji11⟩ : ∃ j_ : Int, (mx x460001_1 ((rd_T68 l0 x11_1).f1)) = j_ := ⟨_, rfl⟩
              replace H : (impl_reach.l0 k1 l0 (l0.length : Int) (wrap64 (x11_1 + 1)) ji10 ji11) = some (r1, r2) := by first | (rw [hji11] at H; exact H) | (simp only [hji11] at H ⊢; exact H)
              have hji11_ : (if x460001_1 < ((rd_T68 l0 x11_1).f1) then ((rd_T68 l0 x11_1).f1) else x460001_1) = ji11 := hji11
              have H' := Aside0.mk H
              clear H
              have p460 : 0 ≤ (x11_1 : Int) := oD
              have q460 : x11_1 < (l0.length : Int) := oD
              obtain ⟨ad460, e460, hx460_0, hx460_1⟩ := at_T68 HR0.out x11_1 p460 q460
              obtain rfl : ad458 = ad460 := (by injection e460)
              replace hx460_0 := hxb hx460_0
              replace hx460_1 := hxb hx460_1
              replace p460 := eq_true p460
              replace q460 := eq_true q460
              go_wp2_with (first | ((with_reducible refine gD 5 ?_); refine BX #[.int .i64 0, .int .i64 0] 68 ?_; intro gb461 hg w12 hbox hb; have BK461 := Aside0.mk (hbox); have GW461 := Aside0.mk ((Gle hg Hb : w.heap.size ≤ gb461)); have GE461 := Aside0.mk ((Gle hg Hb : w.heap.size ≤ gb461)); replace HB := Aside0.mk (below_step Hb hb); have NB457_461 := Aside0.mk ((by rw [hg]; exact Nat.ne_of_lt (blk_lt (B1 BK457)) : gb457 ≠ gb461)); have NB461_457 := Aside0.mk ((by rw [hg]; exact Nat.ne_of_gt (blk_lt (B1 BK457)) : gb461 ≠ gb457)); replace BK457 := Aside0.mk (blk_below (B1 BK457) hb); have NB459_461 := Aside0.mk ((by rw [hg]; exact Nat.ne_of_lt (blk_lt (B1 BK459)) : gb459 ≠ gb461)); have NB461_459 := Aside0.mk ((by rw [hg]; exact Nat.ne_of_gt (blk_lt (B1 BK459)) : gb461 ≠ gb459)); replace BK459 := Aside0.mk (blk_below (B1 BK459) hb); clear hb hbox hg; have hnb13 := NB461_457.out; have hnc13 := NB457_461.out; have hnb14 := NB461_459.out; have hnc14 := NB459_461.out; have hcz15_0 : w12.cell? ⟨gb461, 0, none⟩ = some (.int .i64 0) := bc BK461; have hcz15_1 : w12.cell? ⟨gb461, 1, none⟩ = some (.int .i64 0) := bc BK461; have hfz15_0 := blk_frozen BK461.out 0; have hfz15_1 := blk_frozen BK461.out 1; have hnb16 := NB459_457.out; have hnc16 := NB457_459.out; have hcz17_0 : w12.cell? ⟨gb459, 0, none⟩ = some (.int .i64 x460000_1) := bc BK459; have hcz17_1 : w12.cell? ⟨gb459, 1, none⟩ = some (.int .i64 x460001_1) := bc BK459; have hfz17_0 := blk_frozen BK459.out 0; have hfz17_1 := blk_frozen BK459.out 1))
              go_roundg k1
              case measure => have := HK1.out; omega
              case rel => exact ⟨(wrap64 (x11_1 + 1)), (ji10), (ji11), Fs, H', ⟨by have := HK1.out; omega⟩, ⟨by (with_reducible repeat (first | refine blk_drewN ?_ _ | refine blk_drew ?_ | refine blk_alloc ?_ _)); refine blk_far ?_ NB457_459.out _; (with_reducible repeat (first | refine blk_drewN ?_ _ | refine blk_drew ?_ | refine blk_alloc ?_ _)); refine blk_far ?_ NB457_459.out _; (with_reducible repeat (first | refine blk_drewN ?_ _ | refine blk_drew ?_ | refine blk_alloc ?_ _)); refine blk_far ?_ NB457_461.out _; (with_reducible repeat (first | refine blk_drewN ?_ _ | refine blk_drew ?_ | refine blk_alloc ?_ _)); refine blk_far ?_ NB457_461.out _; (with_reducible repeat (first | refine blk_drewN ?_ _ | refine blk_drew ?_ | refine blk_alloc ?_ _)); exact BK457.out⟩, ⟨by (with_reducible repeat (first | refine blk_drewN ?_ _ | refine blk_drew ?_ | refine blk_alloc ?_ _)); refine blk_put (cs := #[.int .i64 ji10, .int .i64 x460001_1]) ?_ 1 _ rfl; (with_reducible repeat (first | refine blk_drewN ?_ _ | refine blk_drew ?_ | refine blk_alloc ?_ _)); refine blk_put (cs := #[.int .i64 x460000_1, .int .i64 x460001_1]) ?_ 0 _ rfl; (with_reducible repeat (first | refine blk_drewN ?_ _ | refine blk_drew ?_ | refine blk_alloc ?_ _)); refine blk_far ?_ NB459_461.out _; (with_reducible repeat (first | refine blk_drewN ?_ _ | refine blk_drew ?_ | refine blk_alloc ?_ _)); refine blk_far ?_ NB459_461.out _; (with_reducible repeat (first | refine blk_drewN ?_ _ | refine blk_drew ?_ | refine blk_alloc ?_ _)); exact BK459.out⟩, ⟨Hb⟩⟩
            · rw [if_neg c9] at H
              exact absurd H (by simp)
          · rw [if_neg c8] at H
            exact absurd H (by simp)
        · rw [if_neg c7] at H
          have c7b0 : decide (x11_1 < (l0.length : Int)) = false := decide_eq_false c7
          clear c7
          simp only [Option.some.injEq, Prod.mk.injEq] at H
          obtain ⟨rfl, rfl⟩ := H
          have hnb18 := NB459_457.out
          have hnc18 := NB457_459.out
          have hcz19_0 : wr.cell? ⟨gb459, 0, none⟩ = some (.int .i64 x460000_1) := bc BK459
          have hcz19_1 : wr.cell? ⟨gb459, 1, none⟩ = some (.int .i64 x460001_1) := bc BK459
          have hfz19_0 := blk_frozen BK459.out 0
          have hfz19_1 := blk_frozen BK459.out 1
          have hcz20_0 : wr.cell? ⟨gb457, 0, none⟩ = some (.int .i64 0) := bc BK457
          have hcz20_1 : wr.cell? ⟨gb457, 1, none⟩ = some (.int .i64 0) := bc BK457
          have hfz20_0 := blk_frozen BK457.out 0
          have hfz20_1 := blk_frozen BK457.out 1
          go_wp2
          refine bodyPost_ret (results_cell_row rfl _ _ gb457 68 #[.int .i64 x460000_1, .int .i64 x460001_1] (0, 0) _ rfl (by (with_reducible repeat (first | refine blk_drewN ?_ _ | refine blk_drew ?_ | refine blk_alloc ?_ _)); refine blk_put (cs := #[.int .i64 x460000_1, .int .i64 0]) ?_ 1 _ rfl; (with_reducible repeat (first | refine blk_drewN ?_ _ | refine blk_drew ?_ | refine blk_alloc ?_ _)); refine blk_put (cs := #[.int .i64 0, .int .i64 0]) ?_ 0 _ rfl; (with_reducible repeat (first | refine blk_drewN ?_ _ | refine blk_drew ?_ | refine blk_alloc ?_ _)); exact BK457.out) Try.underlying68 rfl (by kernel_rfl)) rfl ?_
          exact ⟨Fin, Hb⟩
  · rw [if_neg c2] at H
    exact absurd H (by simp)

/-! ### impl_IsRegion: function 26 -/
def impl_IsRegion.f (k : Nat) (l0 : List (S68)) : Option (Bool) := (impl_IsShape.f k l0).bind fun t462 => (if t462 = true then ((impl_corner.f k l0).bind fun bt463 => (if (!(bt463.1 == 0) || (!(bt463.2 == 0))) = true then (some false) else ((impl_reach.f k l0).bind fun bt465 => (if bt465.1 < 20 then (some (decide (bt465.2 < 20))) else (some false))))) else (some false))
theorem impl_IsRegion.mono : ∀ a0 k, LeO (impl_IsRegion.f k a0) (impl_IsRegion.f (k + 1) a0) := by
  intro a0 k
  unfold impl_IsRegion.f
  repeat' first
      | (with_reducible exact impl_IsShape.mono _ _)
      | (with_reducible exact impl_corner.mono _ _)
      | (with_reducible exact impl_reach.mono _ _)
      | (with_reducible exact LeO.refl _)
      | (with_reducible exact LeO.none _)
      | (with_reducible refine LeO.ite ?_ ?_)
      | (with_reducible refine LeO.bind ?_ (fun _ => ?_))
      | exact impl_IsShape.mono _ _
      | exact impl_corner.mono _ _
      | exact impl_reach.mono _ _
      | exact LeO.none _
      | refine LeO.ite ?_ ?_
      | refine LeO.bind ?_ (fun _ => ?_)
set_option maxHeartbeats 8000000 in
set_option maxRecDepth 100000 in
theorem impl_IsRegion.calls (k : Nat) (A0 : Option Addr) (c0 : Nat) (l0 : List (S68)) (r : Bool) (w : World) (hr0 : Kd.C k68 w A0 l0.length l0) (hc0 : l0.length ≤ c0) (h : impl_IsRegion.f k l0 = some r) :
    Calls Try.prog 26 #[.slice A0 l0.length c0] w fun e w' => e = .returned (.bool r) ∧ Below w.heap.size w w' := by
  have hu68 := Try.underlying68
  have HR0 := Aside0.mk hr0
  have HC0 := Aside0.mk hc0
  clear hr0 hc0
  have HB := Aside0.mk (Below.refl w.heap.size w)
  have H : ((impl_IsShape.f k l0).bind fun t462 => (if t462 = true then ((impl_corner.f k l0).bind fun bt463 => (if (!(bt463.1 == 0) || (!(bt463.2 == 0))) = true then (some false) else ((impl_reach.f k l0).bind fun bt465 => (if bt465.1 < 20 then (some (decide (bt465.2 < 20))) else (some false))))) else (some false))) = some r := h
  clear h
  obtain ⟨t462, A20, H⟩ := Option.bind_eq_some_iff.mp H
  have A2 := Aside0.mk A20
  clear A20
  by_cases c3 : t462 = true
  · subst c3
    rw [if_pos rfl] at H
    obtain ⟨⟨t463, t464⟩, A40, H⟩ := Option.bind_eq_some_iff.mp H
    dsimp only at H
    have A4 := Aside0.mk A40
    clear A40
    by_cases c5 : (!(t463 == 0) || (!(t464 == 0))) = true
    · rw [if_pos c5] at H
      have c5b0 : (!(t463 == 0) || (!(t464 == 0))) = true := c5
      clear c5
      obtain rfl := Option.some.inj H
      go_enter Try.func26, Try.ntmps26
      go_wp2_with (first | ((with_reducible refine gC 41 ?_); refine GL (some 5) Try.func41 #[.slice A0 l0.length c0] ?_; (with_reducible refine (impl_IsShape.calls k _ _ l0 true _ ?side1 ?side2 A2.out).mono ?_); (case side1 => exact Ck HR0.out); (case side2 => exact HC0.out); rintro e w6 ⟨rfl, hb⟩; refine ⟨_, rfl, ?_⟩; replace HB := Aside0.mk (below_step Hb hb); (try clear hb); (try clear hb2); (try clear hk); (try clear hi)) | (go_at_call 54; (with_reducible refine (impl_corner.calls k _ _ l0 t463 t464 _ ?side1 ?side2 A4.out).mono ?_); (case side1 => exact Kd.C_below HR0.out Hb); (case side2 => exact HC0.out); rintro e w7 ⟨rfl, hb⟩; replace HB := Aside0.mk (below_step Hb hb); (try clear hb); (try clear hb2); (try clear hk); (try clear hi)))
      go_ret
      exact ⟨Fin, Hb⟩
    · rw [if_neg c5] at H
      have c5b0 : (!(t463 == 0) || (!(t464 == 0))) = false := by simpa using c5
      clear c5
      obtain ⟨⟨t465, t466⟩, A80, H⟩ := Option.bind_eq_some_iff.mp H
      dsimp only at H
      have A8 := Aside0.mk A80
      clear A80
      by_cases c9 : t465 < 20
      · rw [if_pos c9] at H
        have c9b0 : decide (t465 < 20) = true := decide_eq_true c9
        clear c9
        obtain rfl := Option.some.inj H
        go_enter Try.func26, Try.ntmps26
        go_wp2_with (first | ((with_reducible refine gC 41 ?_); refine GL (some 5) Try.func41 #[.slice A0 l0.length c0] ?_; (with_reducible refine (impl_IsShape.calls k _ _ l0 true _ ?side1 ?side2 A2.out).mono ?_); (case side1 => exact Ck HR0.out); (case side2 => exact HC0.out); rintro e w10 ⟨rfl, hb⟩; refine ⟨_, rfl, ?_⟩; replace HB := Aside0.mk (below_step Hb hb); (try clear hb); (try clear hb2); (try clear hk); (try clear hi)) | (go_at_call 54; (with_reducible refine (impl_corner.calls k _ _ l0 t463 t464 _ ?side1 ?side2 A4.out).mono ?_); (case side1 => exact Kd.C_below HR0.out Hb); (case side2 => exact HC0.out); rintro e w11 ⟨rfl, hb⟩; replace HB := Aside0.mk (below_step Hb hb); (try clear hb); (try clear hb2); (try clear hk); (try clear hi)) | ((with_reducible refine gC 55 ?_); refine GL (some 14) Try.func55 #[.slice A0 l0.length c0] ?_; (with_reducible refine (impl_reach.calls k _ _ l0 t465 t466 _ ?side1 ?side2 A8.out).mono ?_); (case side1 => exact Kd.C_below HR0.out Hb); (case side2 => exact HC0.out); rintro e w12 ⟨rfl, hb⟩; refine ⟨_, rfl, ?_⟩; replace HB := Aside0.mk (below_step Hb hb); (try clear hb); (try clear hb2); (try clear hk); (try clear hi)) | ((with_reducible refine gD 3 ?_); refine BX #[.int .i64 0, .int .i64 0] 68 ?_; intro gb467 hg w13 hbox hb; have BK467 := Aside0.mk (hbox); have GW467 := Aside0.mk ((Gle hg Hb : w.heap.size ≤ gb467)); have GE467 := Aside0.mk ((Gle hg Hb : w.heap.size ≤ gb467)); replace HB := Aside0.mk (below_step Hb hb); clear hb hbox hg; have hcz14_0 : w13.cell? ⟨gb467, 0, none⟩ = some (.int .i64 0) := bc BK467; have hcz14_1 : w13.cell? ⟨gb467, 1, none⟩ = some (.int .i64 0) := bc BK467; have hfz14_0 := blk_frozen BK467.out 0; have hfz14_1 := blk_frozen BK467.out 1))
        go_ret
        exact ⟨Fin, Hb⟩
      · rw [if_neg c9] at H
        have c9b0 : decide (t465 < 20) = false := decide_eq_false c9
        clear c9
        obtain rfl := Option.some.inj H
        go_enter Try.func26, Try.ntmps26
        go_wp2_with (first | ((with_reducible refine gC 41 ?_); refine GL (some 5) Try.func41 #[.slice A0 l0.length c0] ?_; (with_reducible refine (impl_IsShape.calls k _ _ l0 true _ ?side1 ?side2 A2.out).mono ?_); (case side1 => exact Ck HR0.out); (case side2 => exact HC0.out); rintro e w15 ⟨rfl, hb⟩; refine ⟨_, rfl, ?_⟩; replace HB := Aside0.mk (below_step Hb hb); (try clear hb); (try clear hb2); (try clear hk); (try clear hi)) | (go_at_call 54; (with_reducible refine (impl_corner.calls k _ _ l0 t463 t464 _ ?side1 ?side2 A4.out).mono ?_); (case side1 => exact Kd.C_below HR0.out Hb); (case side2 => exact HC0.out); rintro e w16 ⟨rfl, hb⟩; replace HB := Aside0.mk (below_step Hb hb); (try clear hb); (try clear hb2); (try clear hk); (try clear hi)) | ((with_reducible refine gC 55 ?_); refine GL (some 14) Try.func55 #[.slice A0 l0.length c0] ?_; (with_reducible refine (impl_reach.calls k _ _ l0 t465 t466 _ ?side1 ?side2 A8.out).mono ?_); (case side1 => exact Kd.C_below HR0.out Hb); (case side2 => exact HC0.out); rintro e w17 ⟨rfl, hb⟩; refine ⟨_, rfl, ?_⟩; replace HB := Aside0.mk (below_step Hb hb); (try clear hb); (try clear hb2); (try clear hk); (try clear hi)) | ((with_reducible refine gD 3 ?_); refine BX #[.int .i64 0, .int .i64 0] 68 ?_; intro gb467 hg w18 hbox hb; have BK467 := Aside0.mk (hbox); have GW467 := Aside0.mk ((Gle hg Hb : w.heap.size ≤ gb467)); have GE467 := Aside0.mk ((Gle hg Hb : w.heap.size ≤ gb467)); replace HB := Aside0.mk (below_step Hb hb); clear hb hbox hg; have hcz19_0 : w18.cell? ⟨gb467, 0, none⟩ = some (.int .i64 0) := bc BK467; have hcz19_1 : w18.cell? ⟨gb467, 1, none⟩ = some (.int .i64 0) := bc BK467; have hfz19_0 := blk_frozen BK467.out 0; have hfz19_1 := blk_frozen BK467.out 1))
        go_ret
        exact ⟨Fin, Hb⟩
  · replace c3 := Bool.eq_false_iff.mpr c3
    subst c3
    rw [if_neg (show ¬ (false = true) by decide)] at H
    obtain rfl := Option.some.inj H
    go_enter Try.func26, Try.ntmps26
    go_wp2_with (first | ((with_reducible refine gC 41 ?_); refine GL (some 5) Try.func41 #[.slice A0 l0.length c0] ?_; (with_reducible refine (impl_IsShape.calls k _ _ l0 false _ ?side1 ?side2 A2.out).mono ?_); (case side1 => exact Ck HR0.out); (case side2 => exact HC0.out); rintro e w20 ⟨rfl, hb⟩; refine ⟨_, rfl, ?_⟩; replace HB := Aside0.mk (below_step Hb hb); (try clear hb); (try clear hb2); (try clear hk); (try clear hi)))
    go_ret
    exact ⟨Fin, Hb⟩

/-! ### impl_isModulus: function 56 -/
def impl_isModulus.f (a0 : Int) : Option (Bool) := (impl_within.f a0 2 6).bind fun t468 => (some t468)
set_option maxHeartbeats 8000000 in
set_option maxRecDepth 100000 in
theorem impl_isModulus.calls (a0 : Int) (r : Bool) (w : World) (h : impl_isModulus.f a0 = some r) :
    Calls Try.prog 56 #[.int .i64 a0] w fun e w' => e = .returned (.bool r) ∧ Drawn0 w w' := by
  have H : ((impl_within.f a0 2 6).bind fun t468 => (some t468)) = some r := h
  clear h
  obtain ⟨t468, A20, H⟩ := Option.bind_eq_some_iff.mp H
  have A2 := Aside0.mk A20
  clear A20
  obtain rfl := Option.some.inj H
  go_enter Try.func56, Try.ntmps56
  go_wp2_with (first | ((with_reducible refine gC 59 ?_); refine GL (some 4) Try.func59 #[.int .i64 a0, .int .i64 2, .int .i64 6] ?_; (with_reducible refine (impl_within.calls a0 2 6 t468 _ A2.out).mono ?_); rintro e w' ⟨rfl, ⟨nd, rfl⟩⟩; refine ⟨_, rfl, ?_⟩))
  go_ret
  exact ⟨Fs, by repeat (first | exact Drawn0.refl _ | apply Drawn0.step)⟩

/-! ### slices_IndexFunc_int64_int64: function 76 (a contract of ours) -/
theorem idxf_I.calls (g : Nat) (lb : Array Value) (eg : ∀ args w, (callFunc g args).run Try.prog w = .ok (.enter g args) w) (p : Int → Option Bool) (A0 : Option Addr) (c0 : Nat) (l0 : List Int) (v : Int) (w : World)
    (hr : Kd.C (Kd.int .i64) w A0 l0.length l0) (hc : l0.length ≤ c0)
    (hp : ∀ (W : World) (x : Int) (b : Bool), Below w.heap.size w W → p x = some b → Calls Try.prog g (#[.int .i64 x] ++ lb) W fun e w' => e = .returned (.bool b) ∧ Below w.heap.size w w')
    (h : U.idxM p l0 0 = some v) :
    Calls Try.prog 76 #[.slice A0 l0.length c0, .func (.func g) #[] lb] w fun e w' => e = .returned (.int .i64 v) ∧ Below w.heap.size w w' := by
  have hn := hr.2.1
  have HR := Aside0.mk hr
  have HP := Aside0.mk hp
  have H := Aside0.mk h
  clear hr hp h
  go_enter Try.func76, Try.ntmps76
  go_wp2
  go_loopg [5, 8] l0.length (fun gg _ s8 wr => ∃ i : Nat, s8 = .int .i64 i ∧ Aside0 (i ≤ l0.length) ∧ Aside0 (l0.length - i ≤ gg) ∧ Aside0 (U.idxM p (l0.drop i) i = some v) ∧ Aside0 (Below w.heap.size w wr))
  case atStart => exact ⟨0, rfl, ⟨Nat.zero_le _⟩, ⟨by omega⟩, H, ⟨Below.refl _ _⟩⟩
  case round =>
    obtain ⟨i, rfl, HI, HG, HA, HB⟩ := hrel
    clear H
    by_cases hlt : i < l0.length
    · have c1 : decide ((i : Int) < (l0.length : Int)) = true := decide_eq_true (by omega)
      obtain ⟨ad, e1, hx⟩ := Kd.at_int (Kd.C_below HR.out HB.out) (i : Int) (by omega) (by omega)
      cases e1
      simp only [rd, Int.toNat_natCast] at hx
      obtain ⟨b, hb, ht, hf⟩ := U.idxM_step hlt HA.out (0 : Int)
      generalize l0.getD i (0 : Int) = y at hx hb
      have hcall := HP.out wr _ b HB.out hb
      clear hb HA HR HP
      cases b with
      | true =>
        have hv := ht rfl
        subst hv
        clear ht hf
        go_wp2_with (go_at_fn g; refine hcall.mono ?_; rintro e w' ⟨rfl, hb'⟩)
        go_ret
        exact ⟨rfl, hb'⟩
      | false =>
        have HA := Aside0.mk (hf rfl)
        clear ht hf
        go_wp2_with (go_at_fn g; refine hcall.mono ?_; rintro e w' ⟨rfl, hb'⟩)
        go_roundg (l0.length - (i + 1))
        case measure => have := HG.out; omega
        case rel => exact ⟨i + 1, by go_num, ⟨by omega⟩, ⟨by omega⟩, HA, ⟨hb'⟩⟩
    · have c1 : decide ((i : Int) < (l0.length : Int)) = false := decide_eq_false (by omega)
      have hv := U.idxM_end (by omega) HA.out
      subst hv
      go_wp2
      go_ret
      exact ⟨rfl, HB.out⟩

/-! ### slices_ContainsFunc_int64_int64: function 57 (a contract of ours) -/
theorem anyf_I.calls (g : Nat) (lb : Array Value) (eg : ∀ args w, (callFunc g args).run Try.prog w = .ok (.enter g args) w) (p : Int → Option Bool) (A0 : Option Addr) (c0 : Nat) (l0 : List Int) (r : Bool) (w : World)
    (hr : Kd.C (Kd.int .i64) w A0 l0.length l0) (hc : l0.length ≤ c0)
    (hp : ∀ (W : World) (x : Int) (b : Bool), Below w.heap.size w W → p x = some b → Calls Try.prog g (#[.int .i64 x] ++ lb) W fun e w' => e = .returned (.bool b) ∧ Below w.heap.size w w')
    (h : U.anyM p l0 = some r) :
    Calls Try.prog 57 #[.slice A0 l0.length c0, .func (.func g) #[] lb] w fun e w' => e = .returned (.bool r) ∧ Below w.heap.size w w' := by
  obtain ⟨v, hv, hd⟩ := U.idxM_of_anyM p l0 0 r (Int.le_refl 0) h
  have HC := Aside0.mk (idxf_I.calls g lb eg p A0 c0 l0 v w hr hc hp hv)
  subst hd
  clear hr hp h hv
  go_enter Try.func57, Try.ntmps57
  go_wp2_with (go_at_call 76; refine HC.out.mono ?_; rintro e w' ⟨rfl, hb'⟩)
  go_ret
  exact ⟨rfl, hb'⟩

/-! ### impl_isWeighting: function 27 (a contract of ours) -/
def impl_isWeighting_1.f (x m : Int) : Option Bool := (impl_within.f x 0 (wrap64 (m - 1))).bind fun b => some (!b)
def impl_isWeighting.f (l : (List (S68))) (m : Int) (ws : List Int) : Option Bool := (impl_isModulus.f m).bind fun b => if b = true then (if (ws.length : Int) = (l.length : Int) then (U.anyM (fun x => impl_isWeighting_1.f x m) ws).bind fun b => some (!b) else some false) else some false
theorem impl_isWeighting_1.calls (x m : Int) (v1 : Value) (B : Nat) (r : Bool) (w : World) (hb : w.heap[B]? = some (.cells #[.int .i64 m, v1] 27 (0, 0))) (h : impl_isWeighting_1.f x m = some r) :
    Calls Try.prog 58 #[.int .i64 x, .pointer (some ⟨B, 0, none⟩)] w fun e w' => e = .returned (.bool r) ∧ Drawn0 w w' := by
  have hu := Try.underlying27
  have hz : w.cell? ⟨B, 0, none⟩ = some (.int .i64 m) := (blk_cell hb 0).trans rfl
  obtain ⟨b, hb2, h⟩ := Option.bind_eq_some_iff.mp h
  obtain rfl := Option.some.inj h
  have HB := Aside0.mk hb2
  clear h hb hb2
  go_enter Try.func58, Try.ntmps58
  go_wp2_with (go_at_call 59; (with_reducible refine (impl_within.calls x 0 (wrap64 (m - 1)) b _ HB.out).mono ?_); rintro e w' ⟨rfl, ⟨nd, rfl⟩⟩)
  go_ret
  exact ⟨by first | rfl | simp [*], ⟨⟨_, rfl⟩⟩⟩
set_option maxRecDepth 100000 in
theorem impl_isWeighting.calls (A0 : Option Addr) (c0 : Nat) (l0 : (List (S68))) (m : Int) (A1 : Option Addr) (c1 : Nat) (l1 : List Int) (r : Bool) (w : World) (hr0 : Kd.C k68 w A0 l0.length l0) (hc0 : l0.length ≤ c0) (hr1 : Kd.C (Kd.int .i64) w A1 l1.length l1) (hc1 : l1.length ≤ c1) (h : impl_isWeighting.f l0 m l1 = some r) :
    Calls Try.prog 27 #[.slice A0 l0.length c0, .agg #[.int .i64 m, .slice A1 l1.length c1]] w fun e w' => e = .returned (.bool r) ∧ Below w.heap.size w w' := by
  have hu := Try.underlying27
  have HR := Aside0.mk hr1
  clear hr1 hr0
  unfold impl_isWeighting.f at h
  obtain ⟨b, hb, h⟩ := Option.bind_eq_some_iff.mp h
  have HB := Aside0.mk hb
  clear hb
  cases b with
  | false =>
    rw [if_neg (by simp)] at h
    obtain rfl := Option.some.inj h
    clear h
    go_enter Try.func27, Try.ntmps27
    go_wp2_with (go_at_call 56; (with_reducible refine (impl_isModulus.calls m false _ HB.out).mono ?_); rintro e w' ⟨rfl, ⟨nd, rfl⟩⟩)
    go_ret
    exact ⟨rfl, by repeat (first | exact Below.refl _ _ | apply below_alloc | apply pw_below_drewN | apply below_drew)⟩
  | true =>
    rw [if_pos rfl] at h
    by_cases c : (l1.length : Int) = (l0.length : Int)
    · rw [if_pos c] at h
      obtain ⟨t, ht, h⟩ := Option.bind_eq_some_iff.mp h
      obtain rfl := Option.some.inj h
      have cb : ((l1.length : Int) == (l0.length : Int)) = true := beq_iff_eq.mpr c
      have cb' : (l1.length == l0.length) = true := beq_iff_eq.mpr (by omega)
      have HT := Aside0.mk ht
      clear h c ht
      go_enter Try.func27, Try.ntmps27
      go_wp2_with (first
        | (go_at_call 56; (with_reducible refine (impl_isModulus.calls m true _ HB.out).mono ?_); rintro e w' ⟨rfl, ⟨nd, rfl⟩⟩)
        | (go_at_call 57; refine (anyf_I.calls 58 _ (enters_of Try.func58 (by kernel_rfl) rfl) (fun x => impl_isWeighting_1.f x m) _ _ l1 t _ ?c1 hc1 ?c2 HT.out).mono ?_; (case c1 => repeat (first | exact HR.out | (with_reducible refine Kd.C_alloc ?_ _) | (with_reducible refine Kd.C_drewN ?_ _) | (with_reducible refine Kd.C_drew ?_))); (case c2 => exact fun W x b hW hpx => (impl_isWeighting_1.calls x m _ _ b W (blk_below (by (with_reducible repeat (first | refine blk_drewN ?_ _ | refine blk_drew ?_)); exact blk_new _ _) hW) hpx).mono fun e w' hq => ⟨hq.1, below_then hW hW.size hq.2.below⟩); rintro e w' ⟨rfl, hb'⟩))
      go_ret
      exact ⟨by first | rfl | simp [*], below_step (by repeat (first | exact Below.refl _ _ | apply below_alloc | apply pw_below_drewN | apply below_drew)) hb'⟩
    · rw [if_neg c] at h
      obtain rfl := Option.some.inj h
      have cb : ((l1.length : Int) == (l0.length : Int)) = false := beq_eq_false_iff_ne.mpr c
      have cb' : (l1.length == l0.length) = false := beq_eq_false_iff_ne.mpr (by omega)
      clear h c
      go_enter Try.func27, Try.ntmps27
      go_wp2_with (go_at_call 56; (with_reducible refine (impl_isModulus.calls m true _ HB.out).mono ?_); rintro e w' ⟨rfl, ⟨nd, rfl⟩⟩)
      go_ret
      exact ⟨rfl, by repeat (first | exact Below.refl _ _ | apply below_alloc | apply pw_below_drewN | apply below_drew)⟩

end Go.Proofs.Ytpnlidfebnkgmaa.XFnWeightSums
