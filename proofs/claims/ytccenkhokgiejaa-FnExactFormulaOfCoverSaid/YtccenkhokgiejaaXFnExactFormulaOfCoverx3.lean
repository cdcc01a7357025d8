-- Written by ext.py (wip/) over the kit's print: not trusted, Lean checks it.
import Derived.Test.YtccenkhokgiejaaXFnExactFormulaOfCoverx0
import Derived.Test.YtccenkhokgiejaaXFnExactFormulaOfCoverx1
import Derived.Test.YtccenkhokgiejaaXFnExactFormulaOfCoverx2
namespace Go.Proofs.Ytccenkhokgiejaa.XFnExactFormulaOfCover
open Go.RowKit Go.Proofs.YtccenkhokgiejaaW.PrintWords Go.Proofs.YtccenkhokgiejaaW.PrintLast Go.Proofs.YtccenkhokgiejaaW.PrintMore
attribute [local go_sem] max2_int min2_int max_two min_two max_three min_three max_four min_four   -- for this text's walks alone
set_option linter.unusedVariables false
set_option linter.unusedSimpArgs false

/-! ### spec_FormulaOfCover: function 5 -/
def spec_FormulaOfCover.f (k : Nat) (a0_0 : Int) (a0_1 : Int) (l0_2 : List (List Int)) : Option (Int × (List (List Int)) × Int) := (spec_IsCover.f k a0_0 a0_1 l0_2).bind fun t156 => (if t156 = true then ((spec_l20Cover.f k a0_0 a0_1 l0_2).bind fun bt157 => (if (bt157.2.length : Int) > 20000 then (some (0, ([] : List (List Int)), 3)) else (some (bt157.1, bt157.2, 0)))) else (some (0, ([] : List (List Int)), 1)))
theorem spec_FormulaOfCover.mono : ∀ a0 a1 a2 k, LeO (spec_FormulaOfCover.f k a0 a1 a2) (spec_FormulaOfCover.f (k + 1) a0 a1 a2) := by
  intro a0 a1 a2 k
  unfold spec_FormulaOfCover.f
  repeat' first
      | (with_reducible exact spec_IsCover.mono _ _ _ _)
      | (with_reducible exact spec_l20Cover.mono _ _ _ _)
      | (with_reducible exact LeO.refl _)
      | (with_reducible exact LeO.none _)
      | (with_reducible refine LeO.ite ?_ ?_)
      | (with_reducible refine LeO.bind ?_ (fun _ => ?_))
      | exact spec_IsCover.mono _ _ _ _
      | exact spec_l20Cover.mono _ _ _ _
      | exact LeO.none _
      | refine LeO.ite ?_ ?_
      | refine LeO.bind ?_ (fun _ => ?_)
set_option maxHeartbeats 8000000 in
set_option maxRecDepth 100000 in
theorem spec_FormulaOfCover.calls (k : Nat) (a0_0 : Int) (a0_1 : Int) (A0_2 : Option Addr) (c0_2 : Nat) (l0_2 : List (List Int)) (r1 : Int) (r2 : List (List Int)) (r3 : Int) (w : World) (hr0_2 : Kd.C (Kd.slice 2 (Kd.int .i64)) w A0_2 l0_2.length l0_2) (hc0_2 : l0_2.length ≤ c0_2) (h : spec_FormulaOfCover.f k a0_0 a0_1 l0_2 = some (r1, r2, r3)) :
    Calls Try.prog 5 #[.agg #[.int .i64 a0_0, .int .i64 a0_1, .slice A0_2 l0_2.length c0_2]] w fun e w' => ∃ v1_ : Value, e = .returned (.tuple #[.agg #[.int .i64 r1, v1_], .int .i64 r3]) ∧ Kd.S (Kd.slice 2 (Kd.int .i64)) 43 w' w.heap.size (fun _ => True) v1_ r2 ∧ Below w.heap.size w w' := by
  have hu30 := Try.underlying30
  have hu27 := Try.underlying27
  have HR0_2 := Aside0.mk hr0_2
  have HC0_2 := Aside0.mk hc0_2
  clear hr0_2 hc0_2
  have HB := Aside0.mk (Below.refl w.heap.size w)
  have H : ((spec_IsCover.f k a0_0 a0_1 l0_2).bind fun t156 => (if t156 = true then ((spec_l20Cover.f k a0_0 a0_1 l0_2).bind fun bt157 => (if (bt157.2.length : Int) > 20000 then (some (0, ([] : List (List Int)), 3)) else (some (bt157.1, bt157.2, 0)))) else (some (0, ([] : List (List Int)), 1)))) = some (r1, r2, r3) := h
  clear h
  obtain ⟨t156, A20, H⟩ := Option.bind_eq_some_iff.mp H
  have A2 := Aside0.mk A20
  clear A20
  by_cases c3 : t156 = true
  · subst c3
    rw [if_pos rfl] at H
    obtain ⟨⟨t157, t158⟩, A40, H⟩ := Option.bind_eq_some_iff.mp H
    dsimp only at H
    have A4 := Aside0.mk A40
    clear A40
    by_cases c5 : (t158.length : Int) > 20000
    · rw [if_pos c5] at H
      have c5b0 : decide (20000 < (t158.length : Int)) = true := decide_eq_true c5
      have c5b1 : decide (20000 < t158.length) = true := decide_eq_true (by omega)
      clear c5
      simp only [Option.some.injEq, Prod.mk.injEq] at H
      obtain ⟨rfl, rfl, rfl⟩ := H
      go_enter Try.func5, Try.ntmps5
      go_wp2_with (first | ((with_reducible refine gD 1 ?_); refine BX #[.int .i64 a0_0, .int .i64 a0_1, .slice A0_2 l0_2.length c0_2] 30 ?_; intro gb154 hg w6 hbox hb; have BK154 := Aside0.mk (hbox); have GW154 := Aside0.mk ((Gle hg Hb : w.heap.size ≤ gb154)); have GE154 := Aside0.mk ((Gle hg Hb : w.heap.size ≤ gb154)); replace HB := Aside0.mk (below_step Hb hb); clear hb hbox hg) | ((with_reducible refine gD 2 ?_); refine BX #[.int .i64 0, .slice none 0 0] 27 ?_; intro gb155 hg w7 hbox hb; have BK155 := Aside0.mk (hbox); have GW155 := Aside0.mk ((Gle hg Hb : w.heap.size ≤ gb155)); have GE155 := Aside0.mk ((Gle hg Hb : w.heap.size ≤ gb155)); replace HB := Aside0.mk (below_step Hb hb); have NB154_155 := Aside0.mk ((by rw [hg]; exact Nat.ne_of_lt (blk_lt (B1 BK154)) : gb154 ≠ gb155)); have NB155_154 := Aside0.mk ((by rw [hg]; exact Nat.ne_of_gt (blk_lt (B1 BK154)) : gb155 ≠ gb154)); replace BK154 := Aside0.mk (blk_below (B1 BK154) hb); clear hb hbox hg; have hnb8 := NB154_155.out; have hnc8 := NB155_154.out; have hcz9_0 : w7.cell? ⟨gb154, 0, none⟩ = some (.int .i64 a0_0) := bc BK154; have hcz9_1 : w7.cell? ⟨gb154, 1, none⟩ = some (.int .i64 a0_1) := bc BK154; have hcz9_2 : w7.cell? ⟨gb154, 2, none⟩ = some (.slice A0_2 l0_2.length c0_2) := bc BK154; have hfz9_0 := blk_frozen BK154.out 0; have hfz9_1 := blk_frozen BK154.out 1; have hfz9_2 := blk_frozen BK154.out 2) | ((with_reducible refine gC 14 ?_); refine GL (some 6) Try.func14 #[.agg #[.int .i64 a0_0, .int .i64 a0_1, .slice A0_2 l0_2.length c0_2]] ?_; (with_reducible refine (spec_IsCover.calls k a0_0 a0_1 _ _ l0_2 true _ ?side1 ?side2 A2.out).mono ?_); (case side1 => exact Kd.C_below HR0_2.out Hb); (case side2 => exact HC0_2.out); rintro e w10 ⟨rfl, hb⟩; refine ⟨_, rfl, ?_⟩; replace BK154 := Aside0.mk (blk_below (B1 BK154) hb); replace BK155 := Aside0.mk (blk_below (B1 BK155) hb); replace HB := Aside0.mk (below_step Hb hb); (try clear hb); (try clear hb2); (try clear hk); (try clear hi); have hcz11_0 : w10.cell? ⟨gb154, 0, none⟩ = some (.int .i64 a0_0) := bc BK154; have hcz11_1 : w10.cell? ⟨gb154, 1, none⟩ = some (.int .i64 a0_1) := bc BK154; have hcz11_2 : w10.cell? ⟨gb154, 2, none⟩ = some (.slice A0_2 l0_2.length c0_2) := bc BK154; have hfz11_0 := blk_frozen BK154.out 0; have hfz11_1 := blk_frozen BK154.out 1; have hfz11_2 := blk_frozen BK154.out 2) | ((with_reducible refine gC 15 ?_); refine GL (some 10) Try.func15 #[.agg #[.int .i64 a0_0, .int .i64 a0_1, .slice A0_2 l0_2.length c0_2]] ?_; (with_reducible refine (spec_l20Cover.calls k a0_0 a0_1 _ _ l0_2 t157 t158 _ ?side1 ?side2 A4.out).mono ?_); (case side1 => exact Kd.C_below HR0_2.out Hb); (case side2 => exact HC0_2.out); rintro e w12 ⟨v159, rfl, ho0, hb⟩; refine ⟨_, rfl, ?_⟩; have HO160 := Aside0.mk (Kd.S_lower ho0 (below_size Hb)); replace BK154 := Aside0.mk (blk_below (B1 BK154) hb); replace BK155 := Aside0.mk (blk_below (B1 BK155) hb); replace HB := Aside0.mk (below_step Hb hb); (try clear hb); (try clear hb2); (try clear hk); (try clear hi); (try clear ho0)) | ((with_reducible refine gD 4 ?_); refine BX #[.int .i64 0, .slice none 0 0] 27 ?_; intro gb161 hg w13 hbox hb; replace HO160 := Aside0.mk (Kd.S_below (S1 HO160) hb); have BK161 := Aside0.mk (hbox); have GW161 := Aside0.mk ((Gle hg Hb : w.heap.size ≤ gb161)); have GE161 := Aside0.mk ((Gle hg Hb : w.heap.size ≤ gb161)); replace HB := Aside0.mk (below_step Hb hb); have NB154_161 := Aside0.mk ((by rw [hg]; exact Nat.ne_of_lt (blk_lt (B1 BK154)) : gb154 ≠ gb161)); have NB161_154 := Aside0.mk ((by rw [hg]; exact Nat.ne_of_gt (blk_lt (B1 BK154)) : gb161 ≠ gb154)); replace BK154 := Aside0.mk (blk_below (B1 BK154) hb); have NB155_161 := Aside0.mk ((by rw [hg]; exact Nat.ne_of_lt (blk_lt (B1 BK155)) : gb155 ≠ gb161)); have NB161_155 := Aside0.mk ((by rw [hg]; exact Nat.ne_of_gt (blk_lt (B1 BK155)) : gb161 ≠ gb155)); replace BK155 := Aside0.mk (blk_below (B1 BK155) hb); clear hb hbox hg; have hnb14 := NB161_154.out; have hnc14 := NB154_161.out; have hnb15 := NB161_155.out; have hnc15 := NB155_161.out; have hcz16_0 : w13.cell? ⟨gb161, 0, none⟩ = some (.int .i64 0) := bc BK161; have hcz16_1 : w13.cell? ⟨gb161, 1, none⟩ = some (.slice none 0 0) := bc BK161; have hfz16_0 := blk_frozen BK161.out 0; have hfz16_1 := blk_frozen BK161.out 1; obtain ⟨Ao17, co17, eo17⟩ := Kd.S_slice HO160.out; subst eo17; have hcz18_0 : w13.cell? ⟨gb155, 0, none⟩ = some (.int .i64 0) := bc BK155; have hcz18_1 : w13.cell? ⟨gb155, 1, none⟩ = some (.slice none 0 0) := bc BK155; have hfz18_0 := blk_frozen BK155.out 0; have hfz18_1 := blk_frozen BK155.out 1))
      refine bodyPost_ret (results_ct rfl _ _ gb155 27 #[.int .i64 0, .slice none 0 0] (0, 0) _ rfl (by (with_reducible repeat (first | refine blk_drewN ?_ _ | refine blk_drew ?_ | refine blk_alloc ?_ _)); refine blk_put (cs := #[.int .i64 0, .slice none 0 0]) ?_ 1 _ rfl; (with_reducible repeat (first | refine blk_drewN ?_ _ | refine blk_drew ?_ | refine blk_alloc ?_ _)); refine blk_put (cs := #[.int .i64 0, .slice none 0 0]) ?_ 0 _ rfl; (with_reducible repeat (first | refine blk_drewN ?_ _ | refine blk_drew ?_ | refine blk_alloc ?_ _)); refine blk_far ?_ NB155_161.out _; (with_reducible repeat (first | refine blk_drewN ?_ _ | refine blk_drew ?_ | refine blk_alloc ?_ _)); refine blk_far ?_ NB155_161.out _; (with_reducible repeat (first | refine blk_drewN ?_ _ | refine blk_drew ?_ | refine blk_alloc ?_ _)); exact BK155.out) Try.underlying27 rfl (by kernel_rfl)) rfl ?_
      exact ⟨_, Fin, by first | exact Kd.S_nil _ _ _ _ _ | exact Kd.N_nil _ _ _ _ _ | exact Kd.V_nil _ _ _ _ _ | exact Kd.Q_nil _ _ _ _ _ | exact Kd.R_nil _ _ _ _ _, Hb⟩
    · rw [if_neg c5] at H
      have c5b0 : decide (20000 < (t158.length : Int)) = false := decide_eq_false c5
      have c5b1 : decide (20000 < t158.length) = false := decide_eq_false (by omega)
      clear c5
      simp only [Option.some.injEq, Prod.mk.injEq] at H
      obtain ⟨rfl, rfl, rfl⟩ := H
      go_enter Try.func5, Try.ntmps5
      go_wp2_with (first | ((with_reducible refine gD 1 ?_); refine BX #[.int .i64 a0_0, .int .i64 a0_1, .slice A0_2 l0_2.length c0_2] 30 ?_; intro gb154 hg w19 hbox hb; have BK154 := Aside0.mk (hbox); have GW154 := Aside0.mk ((Gle hg Hb : w.heap.size ≤ gb154)); have GE154 := Aside0.mk ((Gle hg Hb : w.heap.size ≤ gb154)); replace HB := Aside0.mk (below_step Hb hb); clear hb hbox hg) | ((with_reducible refine gD 2 ?_); refine BX #[.int .i64 0, .slice none 0 0] 27 ?_; intro gb155 hg w20 hbox hb; have BK155 := Aside0.mk (hbox); have GW155 := Aside0.mk ((Gle hg Hb : w.heap.size ≤ gb155)); have GE155 := Aside0.mk ((Gle hg Hb : w.heap.size ≤ gb155)); replace HB := Aside0.mk (below_step Hb hb); have NB154_155 := Aside0.mk ((by rw [hg]; exact Nat.ne_of_lt (blk_lt (B1 BK154)) : gb154 ≠ gb155)); have NB155_154 := Aside0.mk ((by rw [hg]; exact Nat.ne_of_gt (blk_lt (B1 BK154)) : gb155 ≠ gb154)); replace BK154 := Aside0.mk (blk_below (B1 BK154) hb); clear hb hbox hg; have hnb21 := NB154_155.out; have hnc21 := NB155_154.out; have hcz22_0 : w20.cell? ⟨gb154, 0, none⟩ = some (.int .i64 a0_0) := bc BK154; have hcz22_1 : w20.cell? ⟨gb154, 1, none⟩ = some (.int .i64 a0_1) := bc BK154; have hcz22_2 : w20.cell? ⟨gb154, 2, none⟩ = some (.slice A0_2 l0_2.length c0_2) := bc BK154; have hfz22_0 := blk_frozen BK154.out 0; have hfz22_1 := blk_frozen BK154.out 1; have hfz22_2 := blk_frozen BK154.out 2) | ((with_reducible refine gC 14 ?_); refine GL (some 6) Try.func14 #[.agg #[.int .i64 a0_0, .int .i64 a0_1, .slice A0_2 l0_2.length c0_2]] ?_; (with_reducible refine (spec_IsCover.calls k a0_0 a0_1 _ _ l0_2 true _ ?side1 ?side2 A2.out).mono ?_); (case side1 => exact Kd.C_below HR0_2.out Hb); (case side2 => exact HC0_2.out); rintro e w23 ⟨rfl, hb⟩; refine ⟨_, rfl, ?_⟩; replace BK154 := Aside0.mk (blk_below (B1 BK154) hb); replace BK155 := Aside0.mk (blk_below (B1 BK155) hb); replace HB := Aside0.mk (below_step Hb hb); (try clear hb); (try clear hb2); (try clear hk); (try clear hi); have hcz24_0 : w23.cell? ⟨gb154, 0, none⟩ = some (.int .i64 a0_0) := bc BK154; have hcz24_1 : w23.cell? ⟨gb154, 1, none⟩ = some (.int .i64 a0_1) := bc BK154; have hcz24_2 : w23.cell? ⟨gb154, 2, none⟩ = some (.slice A0_2 l0_2.length c0_2) := bc BK154; have hfz24_0 := blk_frozen BK154.out 0; have hfz24_1 := blk_frozen BK154.out 1; have hfz24_2 := blk_frozen BK154.out 2) | ((with_reducible refine gC 15 ?_); refine GL (some 10) Try.func15 #[.agg #[.int .i64 a0_0, .int .i64 a0_1, .slice A0_2 l0_2.length c0_2]] ?_; (with_reducible refine (spec_l20Cover.calls k a0_0 a0_1 _ _ l0_2 t157 t158 _ ?side1 ?side2 A4.out).mono ?_); (case side1 => exact Kd.C_below HR0_2.out Hb); (case side2 => exact HC0_2.out); rintro e w25 ⟨v159, rfl, ho0, hb⟩; refine ⟨_, rfl, ?_⟩; have HO160 := Aside0.mk (Kd.S_lower ho0 (below_size Hb)); replace BK154 := Aside0.mk (blk_below (B1 BK154) hb); replace BK155 := Aside0.mk (blk_below (B1 BK155) hb); replace HB := Aside0.mk (below_step Hb hb); (try clear hb); (try clear hb2); (try clear hk); (try clear hi); (try clear ho0)) | ((with_reducible refine gD 4 ?_); refine BX #[.int .i64 0, .slice none 0 0] 27 ?_; intro gb161 hg w26 hbox hb; replace HO160 := Aside0.mk (Kd.S_below (S1 HO160) hb); have BK161 := Aside0.mk (hbox); have GW161 := Aside0.mk ((Gle hg Hb : w.heap.size ≤ gb161)); have GE161 := Aside0.mk ((Gle hg Hb : w.heap.size ≤ gb161)); replace HB := Aside0.mk (below_step Hb hb); have NB154_161 := Aside0.mk ((by rw [hg]; exact Nat.ne_of_lt (blk_lt (B1 BK154)) : gb154 ≠ gb161)); have NB161_154 := Aside0.mk ((by rw [hg]; exact Nat.ne_of_gt (blk_lt (B1 BK154)) : gb161 ≠ gb154)); replace BK154 := Aside0.mk (blk_below (B1 BK154) hb); have NB155_161 := Aside0.mk ((by rw [hg]; exact Nat.ne_of_lt (blk_lt (B1 BK155)) : gb155 ≠ gb161)); have NB161_155 := Aside0.mk ((by rw [hg]; exact Nat.ne_of_gt (blk_lt (B1 BK155)) : gb161 ≠ gb155)); replace BK155 := Aside0.mk (blk_below (B1 BK155) hb); clear hb hbox hg; have hnb27 := NB161_154.out; have hnc27 := NB154_161.out; have hnb28 := NB161_155.out; have hnc28 := NB155_161.out; have hcz29_0 : w26.cell? ⟨gb161, 0, none⟩ = some (.int .i64 0) := bc BK161; have hcz29_1 : w26.cell? ⟨gb161, 1, none⟩ = some (.slice none 0 0) := bc BK161; have hfz29_0 := blk_frozen BK161.out 0; have hfz29_1 := blk_frozen BK161.out 1; obtain ⟨Ao30, co30, eo30⟩ := Kd.S_slice HO160.out; subst eo30; have hcz31_0 : w26.cell? ⟨gb155, 0, none⟩ = some (.int .i64 0) := bc BK155; have hcz31_1 : w26.cell? ⟨gb155, 1, none⟩ = some (.slice none 0 0) := bc BK155; have hfz31_0 := blk_frozen BK155.out 0; have hfz31_1 := blk_frozen BK155.out 1))
      refine bodyPost_ret (results_ct rfl _ _ gb155 27 #[.int .i64 t157, .slice Ao30 t158.length co30] (0, 0) _ rfl (by (with_reducible repeat (first | refine blk_drewN ?_ _ | refine blk_drew ?_ | refine blk_alloc ?_ _)); refine blk_put (cs := #[.int .i64 t157, .slice none 0 0]) ?_ 1 _ rfl; (with_reducible repeat (first | refine blk_drewN ?_ _ | refine blk_drew ?_ | refine blk_alloc ?_ _)); refine blk_put (cs := #[.int .i64 0, .slice none 0 0]) ?_ 0 _ rfl; (with_reducible repeat (first | refine blk_drewN ?_ _ | refine blk_drew ?_ | refine blk_alloc ?_ _)); refine blk_far ?_ NB155_161.out _; (with_reducible repeat (first | refine blk_drewN ?_ _ | refine blk_drew ?_ | refine blk_alloc ?_ _)); refine blk_far ?_ NB155_161.out _; (with_reducible repeat (first | refine blk_drewN ?_ _ | refine blk_drew ?_ | refine blk_alloc ?_ _)); exact BK155.out) Try.underlying27 rfl (by kernel_rfl)) rfl ?_
      exact ⟨_, Fin, by (with_reducible repeat (first | apply Kd.S_alloc | apply Kd.S_drewN | apply Kd.S_drew)); exact Kd.S_mono (Kd.S_far (p := ⟨gb155, 1, none⟩) (Kd.S_far (p := ⟨gb155, 0, none⟩) (Kd.S_far (p := ⟨gb161, 1, none⟩) (Kd.S_far (p := ⟨gb161, 0, none⟩) (Kd.S_types (Kd.S_types HO160.out BK161.out (by decide)) BK155.out (by decide)) (fun _ hk => hk.1.2) (.int .i64 t157)) (fun _ hk => hk.1.2) (.slice Ao30 t158.length co30)) (fun _ hk => hk.2) (.int .i64 t157)) (fun _ hk => hk.2) (.slice Ao30 t158.length co30)) (fun _ hk => trivial), Hb⟩
  · replace c3 := Bool.eq_false_iff.mpr c3
    subst c3
    rw [if_neg (show ¬ (false = true) by decide)] at H
    simp only [Option.some.injEq, Prod.mk.injEq] at H
    obtain ⟨rfl, rfl, rfl⟩ := H
    go_enter Try.func5, Try.ntmps5
    go_wp2_with (first | ((with_reducible refine gD 1 ?_); refine BX #[.int .i64 a0_0, .int .i64 a0_1, .slice A0_2 l0_2.length c0_2] 30 ?_; intro gb154 hg w32 hbox hb; have BK154 := Aside0.mk (hbox); have GW154 := Aside0.mk ((Gle hg Hb : w.heap.size ≤ gb154)); have GE154 := Aside0.mk ((Gle hg Hb : w.heap.size ≤ gb154)); replace HB := Aside0.mk (below_step Hb hb); clear hb hbox hg) | ((with_reducible refine gD 2 ?_); refine BX #[.int .i64 0, .slice none 0 0] 27 ?_; intro gb155 hg w33 hbox hb; have BK155 := Aside0.mk (hbox); have GW155 := Aside0.mk ((Gle hg Hb : w.heap.size ≤ gb155)); have GE155 := Aside0.mk ((Gle hg Hb : w.heap.size ≤ gb155)); replace HB := Aside0.mk (below_step Hb hb); have NB154_155 := Aside0.mk ((by rw [hg]; exact Nat.ne_of_lt (blk_lt (B1 BK154)) : gb154 ≠ gb155)); have NB155_154 := Aside0.mk ((by rw [hg]; exact Nat.ne_of_gt (blk_lt (B1 BK154)) : gb155 ≠ gb154)); replace BK154 := Aside0.mk (blk_below (B1 BK154) hb); clear hb hbox hg; have hnb34 := NB154_155.out; have hnc34 := NB155_154.out; have hcz35_0 : w33.cell? ⟨gb154, 0, none⟩ = some (.int .i64 a0_0) := bc BK154; have hcz35_1 : w33.cell? ⟨gb154, 1, none⟩ = some (.int .i64 a0_1) := bc BK154; have hcz35_2 : w33.cell? ⟨gb154, 2, none⟩ = some (.slice A0_2 l0_2.length c0_2) := bc BK154; have hfz35_0 := blk_frozen BK154.out 0; have hfz35_1 := blk_frozen BK154.out 1; have hfz35_2 := blk_frozen BK154.out 2) | ((with_reducible refine gC 14 ?_); refine GL (some 6) Try.func14 #[.agg #[.int .i64 a0_0, .int .i64 a0_1, .slice A0_2 l0_2.length c0_2]] ?_; (with_reducible refine (spec_IsCover.calls k a0_0 a0_1 _ _ l0_2 false _ ?side1 ?side2 A2.out).mono ?_); (case side1 => exact Kd.C_below HR0_2.out Hb); (case side2 => exact HC0_2.out); rintro e w36 ⟨rfl, hb⟩; refine ⟨_, rfl, ?_⟩; replace BK154 := Aside0.mk (blk_below (B1 BK154) hb); replace BK155 := Aside0.mk (blk_below (B1 BK155) hb); replace HB := Aside0.mk (below_step Hb hb); (try clear hb); (try clear hb2); (try clear hk); (try clear hi); have hcz37_0 : w36.cell? ⟨gb155, 0, none⟩ = some (.int .i64 0) := bc BK155; have hcz37_1 : w36.cell? ⟨gb155, 1, none⟩ = some (.slice none 0 0) := bc BK155; have hfz37_0 := blk_frozen BK155.out 0; have hfz37_1 := blk_frozen BK155.out 1))
    refine bodyPost_ret (results_ct rfl _ _ gb155 27 #[.int .i64 0, .slice none 0 0] (0, 0) _ rfl (by (with_reducible repeat (first | refine blk_drewN ?_ _ | refine blk_drew ?_ | refine blk_alloc ?_ _)); refine blk_put (cs := #[.int .i64 0, .slice none 0 0]) ?_ 1 _ rfl; (with_reducible repeat (first | refine blk_drewN ?_ _ | refine blk_drew ?_ | refine blk_alloc ?_ _)); refine blk_put (cs := #[.int .i64 0, .slice none 0 0]) ?_ 0 _ rfl; (with_reducible repeat (first | refine blk_drewN ?_ _ | refine blk_drew ?_ | refine blk_alloc ?_ _)); exact BK155.out) Try.underlying27 rfl (by kernel_rfl)) rfl ?_
    exact ⟨_, Fin, by first | exact Kd.S_nil _ _ _ _ _ | exact Kd.N_nil _ _ _ _ _ | exact Kd.V_nil _ _ _ _ _ | exact Kd.Q_nil _ _ _ _ _ | exact Kd.R_nil _ _ _ _ _, Hb⟩

/-! ### laws_toInt64S: function 27 -/
def laws_toInt64S.l0 : Nat → List Int → List Int → Int → Option (List Int)
  | 0, _, _, _ => none
  | k + 1, x0, x3, x4 => if x4 < (x0.length : Int) then (if 0 ≤ x4 then (if x4 < (x3.length : Int) then (laws_toInt64S.l0 k x0 (x3.set (x4 : Int).toNat (rd x0 x4)) (wrap64 (x4 + 1))) else (none)) else (none)) else (some x3)
def laws_toInt64S.f (k : Nat) (l0 : List Int) : Option (List Int) := if 0 ≤ (l0.length : Int) then (if ((l0.length : Int) : Int).toNat ≤ 35184372088832 then (laws_toInt64S.l0 k l0 (List.replicate ((l0.length : Int) : Int).toNat 0) 0) else (none)) else (none)
theorem laws_toInt64S.mono_l : ∀ k, (∀ y0 y1 y2, LeO (laws_toInt64S.l0 k y0 y1 y2) (laws_toInt64S.l0 (k + 1) y0 y1 y2))
  | 0 => fun _ _ _ r h => by simp [laws_toInt64S.l0] at h
  | k + 1 => by
    have ih0 := laws_toInt64S.mono_l k
    · intro y0 y1 y2
      unfold laws_toInt64S.l0
      repeat' first
      | (with_reducible exact ih0 _ _ _)
      | (with_reducible exact LeO.refl _)
      | (with_reducible exact LeO.none _)
      | (with_reducible refine LeO.ite ?_ ?_)
      | (with_reducible refine LeO.bind ?_ (fun _ => ?_))
      | exact ih0 _ _ _
      | exact LeO.none _
      | refine LeO.ite ?_ ?_
      | refine LeO.bind ?_ (fun _ => ?_)
theorem laws_toInt64S.mono : ∀ a0 k, LeO (laws_toInt64S.f k a0) (laws_toInt64S.f (k + 1) a0) := by
  intro a0 k
  have ih0 := laws_toInt64S.mono_l k
  unfold laws_toInt64S.f
  repeat' first
      | (with_reducible exact ih0 _ _ _)
      | (with_reducible exact LeO.refl _)
      | (with_reducible exact LeO.none _)
      | (with_reducible refine LeO.ite ?_ ?_)
      | (with_reducible refine LeO.bind ?_ (fun _ => ?_))
      | exact ih0 _ _ _
      | exact LeO.none _
      | refine LeO.ite ?_ ?_
      | refine LeO.bind ?_ (fun _ => ?_)
set_option maxHeartbeats 8000000 in
set_option maxRecDepth 100000 in
theorem laws_toInt64S.calls (k : Nat) (A0 : Option Addr) (c0 : Nat) (l0 : List Int) (r : List Int) (w : World) (hr0 : Kd.C (Kd.int .i64) w A0 l0.length l0) (hc0 : l0.length ≤ c0) (h : laws_toInt64S.f k l0 = some r) :
    Calls Try.prog 27 #[.slice A0 l0.length c0] w fun e w' => ∃ v0_ : Value, e = .returned (v0_) ∧ Kd.R (Kd.int .i64) 2 w' w.heap.size (fun _ => True) v0_ r ∧ Below w.heap.size w w' := by
  have HR0 := Aside0.mk hr0
  have HC0 := Aside0.mk hc0
  clear hr0 hc0
  have HB := Aside0.mk (Below.refl w.heap.size w)
  have H : (if 0 ≤ (l0.length : Int) then (if ((l0.length : Int) : Int).toNat ≤ 35184372088832 then (laws_toInt64S.l0 k l0 (List.replicate ((l0.length : Int) : Int).toNat 0) 0) else (none)) else (none)) = some r := h
  clear h
  by_cases c2 : 0 ≤ (l0.length : Int)
  · rw [if_pos c2] at H
    have c2b0 := eq_true c2
    have c2b1 : decide (0 ≤ (l0.length : Int)) = true := decide_eq_true c2
    clear c2
    by_cases c3 : ((l0.length : Int) : Int).toNat ≤ 35184372088832
    · rw [if_pos c3] at H
      have c3b0 := eq_true c3
      have c3b1 : decide (((l0.length : Int) : Int).toNat ≤ 35184372088832) = true := decide_eq_true c3
      clear c3
      obtain ⟨y162, hy162⟩ : ∃ y_ : List Int, y_ = (List.replicate ((l0.length : Int) : Int).toNat 0) := ⟨_, rfl⟩
      replace H : (laws_toInt64S.l0 k l0 y162 0) = some r := by first | (rw [hy162]; with_reducible exact H) | (have H2_ := (Option.bind_some _ _).symm.trans H; rw [hy162]; with_reducible exact H2_) | (have H2_ := (Option.bind_some _ _).symm.trans H; with_reducible exact H2_) | with_reducible exact H | (rw [hy162]; exact H) | exact H
      have Ny162 := Aside0.mk hy162
      clear hy162
      have H' := Aside0.mk H
      clear H
      go_enter Try.func27, Try.ntmps27
      go_wp2_with (first | ((with_reducible refine gD 7 ?_); refine Kd.R_make (Kd.int .i64) _ 2 rfl (N := 7) rfl 43 _ _ rfl (l0.length : Int) rfl rfl Try.underlying43 (.int .i64 0) 8 info2 rfl (by decide) (by omega) 0 (ok := fun _ => True) (okp := fun _ => True) rfl (fun _ hk => hk) trivial (oD) (Nat.le_trans (Nat.mul_le_mul_right _ (oD : (l0.length : Int).toNat ≤ 35184372088832)) (by omega)) (Below.refl _ _) (Nat.le_refl _) ?_; intro v163 w4 ho5 hb hg_ hnew_; clear hg_ hnew_; (first | rw [← Ny162.out] at ho5 | (simp only [Int.reduceToNat] at ho5; rw [← Ny162.out] at ho5)); have HO164 := Aside0.mk (Kd.R_lower ho5 (below_size Hb)); replace HB := Aside0.mk (below_step Hb hb); clear hb ho5))
      go_loopg [4] k (fun kq v4 w' => ∃ (x3_1 : List Int) (x4_1 : Int), v4 = .int .i64 x4_1 ∧ Aside0 (laws_toInt64S.l0 kq l0 x3_1 x4_1 = some r) ∧ Aside0 (kq ≤ k) ∧ Aside0 (Kd.R (Kd.int .i64) 2 w' w.heap.size (fun _ => True) v163 x3_1) ∧ Aside0 (Below w.heap.size w w'))
      case atStart => exact ⟨(y162), (0), Fs, H', ⟨Nat.le_refl _⟩, ⟨R1 HO164⟩, ⟨Hb⟩⟩
      case round =>
        clear H'
        try clear c2
        try clear c2b0
        try clear c2b1
        try clear p2
        try clear c3
        try clear c3b0
        try clear c3b1
        obtain ⟨x3_1, x4_1, rfl, HA, HK1, HO_3, HB⟩ := hrel
        cases gk with
        | zero => exact absurd HA.out (by simp [laws_toInt64S.l0])
        | succ k1 =>
          have H := HA.out
          clear HA
          simp only [laws_toInt64S.l0] at H
          by_cases c6 : x4_1 < (l0.length : Int)
          · rw [if_pos c6] at H
            have c6b0 : decide (x4_1 < (l0.length : Int)) = true := decide_eq_true c6
            clear c6
            by_cases c7 : 0 ≤ x4_1
            · rw [if_pos c7] at H
              have c7b0 : decide (0 ≤ x4_1) = true := decide_eq_true c7
              clear c7
              by_cases c8 : x4_1 < (x3_1.length : Int)
              · rw [if_pos c8] at H
                have c8b0 : decide (x4_1 < (x3_1.length : Int)) = true := decide_eq_true c8
                clear c8
                obtain ⟨y166, hy166⟩ : ∃ y_ : List Int, y_ = (x3_1.set (x4_1 : Int).toNat (rd l0 x4_1)) := ⟨_, rfl⟩
                replace H : (laws_toInt64S.l0 k1 l0 y166 (wrap64 (x4_1 + 1))) = some r := by first | (rw [hy166]; with_reducible exact H) | (have H2_ := (Option.bind_some _ _).symm.trans H; rw [hy166]; with_reducible exact H2_) | (have H2_ := (Option.bind_some _ _).symm.trans H; with_reducible exact H2_) | with_reducible exact H | (rw [hy166]; exact H) | exact H
                have Ny166 := Aside0.mk hy166
                clear hy166
                have H' := Aside0.mk H
                clear H
                have p165 : 0 ≤ (x4_1 : Int) := oD
                have q165 : x4_1 < (l0.length : Int) := oD
                obtain ⟨ad165, e165, hx165_0⟩ := Kd.at_int HR0.out x4_1 p165 q165
                cases e165
                replace hx165_0 := hxb hx165_0
                replace p165 := eq_true p165
                replace q165 := eq_true q165
                have p9 : 0 ≤ (x4_1 : Int) := oD
                have q9 : (x4_1 : Int) < ((x3_1.length : Int) : Int) := oD
                obtain ⟨go9, co9, eo9, gb9, gl9, cl9, HG9⟩ := Kd.R_form HO_3.out (by omega)
                (first | cases eo9 | (injection eo9 with ea_ en_ ec_; (first | subst ea_ | (injection ea_ with ea_; subst ea_)); subst ec_; clear en_))
                have GB9 := Aside0.mk gb9
                have GG9 := Aside0.mk HG9
                clear gb9 gl9 HG9
                obtain ⟨hx9_0, hf9_0⟩ := Kd.R_celln 0 HO_3.out (x4_1 : Int) p9 q9
                replace p9 := eq_true p9
                replace q9 := eq_true q9
                have HP10 := Kd.R_putg HO_3.out (x4_1 : Int) (rd l0 x4_1)
                go_wp2_with (first | ((with_reducible refine gate_store (t := 2) (p := 20) rfl ?_); refine store_event (t := 2) (p := 20) (v := ?vo_w11) (w1 := (wr.setCell ⟨go9, (x4_1 : Int).toNat, none⟩ (.int .i64 (rd l0 x4_1)))) ?hg ?ho ?hn ?hr ?_; (case ho => rfl); (case hg => rfl); (case hn => rfl); (case hr => first | (go_simp; done) | (go_simp; rfl)); intro w11 hw; have hg : wr.grownBy w11 (some go9) := (by rw [hw]; exact HP10.2); have hp_ : Kd.R (Kd.int .i64) 2 w11 w.heap.size (fun _ => True) (.slice (some ⟨go9, 0, none⟩) x3_1.length co9) y166 := (by rw [hw, Ny166.out]; exact HP10.1); clear HP10; replace HO_3 := Aside0.mk (hp_); replace HB := Aside0.mk ((by rw [hw]; exact below_set (HB.out) GB9.out : Below w.heap.size w w11)); clear hg hw hp_))
                go_roundg k1
                case measure => have := HK1.out; omega
                case rel => exact ⟨(y166), (wrap64 (x4_1 + 1)), Fs, H', ⟨by have := HK1.out; omega⟩, ⟨R1 HO_3⟩, ⟨Hb⟩⟩
              · rw [if_neg c8] at H
                exact absurd H (by simp)
            · rw [if_neg c7] at H
              exact absurd H (by simp)
          · rw [if_neg c6] at H
            have c6b0 : decide (x4_1 < (l0.length : Int)) = false := decide_eq_false c6
            clear c6
            obtain rfl := Option.some.inj H
            go_wp2
            go_ret
            exact ⟨_, Fin, R1 HO_3, Hb⟩
    · rw [if_neg c3] at H
      exact absurd H (by simp)
  · rw [if_neg c2] at H
    exact absurd H (by simp)

/-! ### laws_toInt64SS: function 16 -/
def laws_toInt64SS.l0 : Nat → List (List Int) → List (List Int) → Int → Option ((List (List Int)))
  | 0, _, _, _ => none
  | k + 1, x0, x3, x4 => if x4 < (x0.length : Int) then (if 0 ≤ x4 then ((laws_toInt64S.f k (rd_L1 x0 x4)).bind fun t171 => (if x4 < (x3.length : Int) then (laws_toInt64SS.l0 k x0 (x3.set (x4 : Int).toNat t171) (wrap64 (x4 + 1))) else (none))) else (none)) else (some x3)
def laws_toInt64SS.f (k : Nat) (l0 : List (List Int)) : Option ((List (List Int))) := if 0 ≤ (l0.length : Int) then (if ((l0.length : Int) : Int).toNat ≤ 11728124029610 then (laws_toInt64SS.l0 k l0 (List.replicate ((l0.length : Int) : Int).toNat []) 0) else (none)) else (none)
theorem laws_toInt64SS.mono_l : ∀ k, (∀ y0 y1 y2, LeO (laws_toInt64SS.l0 k y0 y1 y2) (laws_toInt64SS.l0 (k + 1) y0 y1 y2))
  | 0 => fun _ _ _ r h => by simp [laws_toInt64SS.l0] at h
  | k + 1 => by
    have ih0 := laws_toInt64SS.mono_l k
    · intro y0 y1 y2
      unfold laws_toInt64SS.l0
      repeat' first
      | (with_reducible exact ih0 _ _ _)
      | (with_reducible exact laws_toInt64S.mono _ _)
      | (with_reducible exact LeO.refl _)
      | (with_reducible exact LeO.none _)
      | (with_reducible refine LeO.ite ?_ ?_)
      | (with_reducible refine LeO.bind ?_ (fun _ => ?_))
      | exact ih0 _ _ _
      | exact laws_toInt64S.mono _ _
      | exact LeO.none _
      | refine LeO.ite ?_ ?_
      | refine LeO.bind ?_ (fun _ => ?_)
theorem laws_toInt64SS.mono : ∀ a0 k, LeO (laws_toInt64SS.f k a0) (laws_toInt64SS.f (k + 1) a0) := by
  intro a0 k
  have ih0 := laws_toInt64SS.mono_l k
  unfold laws_toInt64SS.f
  repeat' first
      | (with_reducible exact ih0 _ _ _)
      | (with_reducible exact laws_toInt64S.mono _ _)
      | (with_reducible exact LeO.refl _)
      | (with_reducible exact LeO.none _)
      | (with_reducible refine LeO.ite ?_ ?_)
      | (with_reducible refine LeO.bind ?_ (fun _ => ?_))
      | exact ih0 _ _ _
      | exact laws_toInt64S.mono _ _
      | exact LeO.none _
      | refine LeO.ite ?_ ?_
      | refine LeO.bind ?_ (fun _ => ?_)
set_option maxHeartbeats 8000000 in
set_option maxRecDepth 100000 in
theorem laws_toInt64SS.calls (k : Nat) (A0 : Option Addr) (c0 : Nat) (l0 : List (List Int)) (r : List (List Int)) (w : World) (hr0 : Kd.C (Kd.slice 2 (Kd.int .i64)) w A0 l0.length l0) (hc0 : l0.length ≤ c0) (h : laws_toInt64SS.f k l0 = some r) :
    Calls Try.prog 16 #[.slice A0 l0.length c0] w fun e w' => ∃ v0_ : Value, e = .returned (v0_) ∧ Kd.S (Kd.slice 2 (Kd.int .i64)) 43 w' w.heap.size (fun _ => True) v0_ r ∧ Below w.heap.size w w' := by
  have HR0 := Aside0.mk hr0
  have HC0 := Aside0.mk hc0
  clear hr0 hc0
  have HB := Aside0.mk (Below.refl w.heap.size w)
  have H : (if 0 ≤ (l0.length : Int) then (if ((l0.length : Int) : Int).toNat ≤ 11728124029610 then (laws_toInt64SS.l0 k l0 (List.replicate ((l0.length : Int) : Int).toNat []) 0) else (none)) else (none)) = some r := h
  clear h
  by_cases c2 : 0 ≤ (l0.length : Int)
  · rw [if_pos c2] at H
    have c2b0 := eq_true c2
    have c2b1 : decide (0 ≤ (l0.length : Int)) = true := decide_eq_true c2
    clear c2
    by_cases c3 : ((l0.length : Int) : Int).toNat ≤ 11728124029610
    · rw [if_pos c3] at H
      have c3b0 := eq_true c3
      have c3b1 : decide (((l0.length : Int) : Int).toNat ≤ 11728124029610) = true := decide_eq_true c3
      clear c3
      obtain ⟨y167, hy167⟩ : ∃ y_ : List (List Int), y_ = (List.replicate ((l0.length : Int) : Int).toNat []) := ⟨_, rfl⟩
      replace H : (laws_toInt64SS.l0 k l0 y167 0) = some r := by first | (rw [hy167]; with_reducible exact H) | (have H2_ := (Option.bind_some _ _).symm.trans H; rw [hy167]; with_reducible exact H2_) | (have H2_ := (Option.bind_some _ _).symm.trans H; with_reducible exact H2_) | with_reducible exact H | (rw [hy167]; exact H) | exact H
      have Ny167 := Aside0.mk hy167
      clear hy167
      have H' := Aside0.mk H
      clear H
      go_enter Try.func16, Try.ntmps16
      go_wp2_with (first | ((with_reducible refine gD 7 ?_); refine Kd.S_make (Kd.slice 2 (Kd.int .i64)) _ 43 rfl (N := 7) rfl 22 _ _ rfl (l0.length : Int) rfl rfl Try.underlying22 (.slice none 0 0) 24 info43 rfl (by decide) (by omega) [] (ok := fun _ => True) (okp := fun _ => True) ⟨_, rfl, Kd.R_nil _ _ _ _ _⟩ (fun _ hk => hk) trivial (oD) (Nat.le_trans (Nat.mul_le_mul_right _ (oD : (l0.length : Int).toNat ≤ 11728124029610)) (by omega)) (Below.refl _ _) (Nat.le_refl _) ?_; intro v168 w4 ho5 hb hg_ hnew_; clear hg_ hnew_; (first | rw [← Ny167.out] at ho5 | (simp only [Int.reduceToNat] at ho5; rw [← Ny167.out] at ho5)); have HO169 := Aside0.mk (Kd.S_lower ho5 (below_size Hb)); replace HB := Aside0.mk (below_step Hb hb); clear hb ho5))
      go_loopg [4] k (fun kq v4 w' => ∃ (x3_1 : List (List Int)) (x4_1 : Int), v4 = .int .i64 x4_1 ∧ Aside0 (laws_toInt64SS.l0 kq l0 x3_1 x4_1 = some r) ∧ Aside0 (kq ≤ k) ∧ Aside0 (Kd.S (Kd.slice 2 (Kd.int .i64)) 43 w' w.heap.size (fun _ => True) v168 x3_1) ∧ Aside0 (Below w.heap.size w w'))
      case atStart => exact ⟨(y167), (0), Fs, H', ⟨Nat.le_refl _⟩, ⟨S1 HO169⟩, ⟨Hb⟩⟩
      case round =>
        clear H'
        try clear c1
        try clear c2
        try clear c2b0
        try clear c2b1
        try clear p2
        try clear c3
        try clear c3b0
        try clear c3b1
        obtain ⟨x3_1, x4_1, rfl, HA, HK1, HO_3, HB⟩ := hrel
        cases gk with
        | zero => exact absurd HA.out (by simp [laws_toInt64SS.l0])
        | succ k1 =>
          have H := HA.out
          clear HA
          simp only [laws_toInt64SS.l0] at H
          by_cases c6 : x4_1 < (l0.length : Int)
          · rw [if_pos c6] at H
            have c6b0 : decide (x4_1 < (l0.length : Int)) = true := decide_eq_true c6
            clear c6
            by_cases c7 : 0 ≤ x4_1
            · rw [if_pos c7] at H
              have c7b0 : decide (0 ≤ x4_1) = true := decide_eq_true c7
              clear c7
              obtain ⟨t171, A80, H⟩ := Option.bind_eq_some_iff.mp H
              have A8 := Aside0.mk A80
              clear A80
              by_cases c9 : x4_1 < (x3_1.length : Int)
              · rw [if_pos c9] at H
                have c9b0 : decide (x4_1 < (x3_1.length : Int)) = true := decide_eq_true c9
                clear c9
                obtain ⟨y174, hy174⟩ : ∃ y_ : List (List Int), y_ = (x3_1.set (x4_1 : Int).toNat t171) := ⟨_, rfl⟩
                replace H : (laws_toInt64SS.l0 k1 l0 y174 (wrap64 (x4_1 + 1))) = some r := by first | (rw [hy174]; with_reducible exact H) | (have H2_ := (Option.bind_some _ _).symm.trans H; rw [hy174]; with_reducible exact H2_) | (have H2_ := (Option.bind_some _ _).symm.trans H; with_reducible exact H2_) | with_reducible exact H | (rw [hy174]; exact H) | exact H
                have Ny174 := Aside0.mk hy174
                clear hy174
                have H' := Aside0.mk H
                clear H
                have p170 : 0 ≤ (x4_1 : Int) := oD
                have q170 : x4_1 < (l0.length : Int) := oD
                obtain ⟨ad170, A170_0, c170_0, e170, hx170_0, hl170_0, hi170_0⟩ := at_L1 HR0.out x4_1 p170 q170
                cases e170
                replace hx170_0 := hxb hx170_0
                have HR170_0 := Aside0.mk hi170_0
                have HC170_0 := Aside0.mk hl170_0
                clear hi170_0 hl170_0
                replace p170 := eq_true p170
                replace q170 := eq_true q170
                go_wp2_with (first | ((with_reducible refine gC 27 ?_); refine GL (some 20) Try.func27 #[.slice A170_0 (rd_L1 l0 x4_1).length c170_0] ?_; (with_reducible refine (laws_toInt64S.calls k1 _ _ (rd_L1 l0 x4_1) t171 _ ?side1 ?side2 A8.out).mono ?_); (case side1 => exact Kd.C_below HR170_0.out Hb); (case side2 => exact HC170_0.out); rintro e w11 ⟨v172, rfl, ho0, hb⟩; refine ⟨_, rfl, ?_⟩; replace HO_3 := Aside0.mk (Kd.S_elder' (S1 HO_3) (Kd.R_base ho0) hb); have HO173 := Aside0.mk (Kd.R_lower ho0 (below_size Hb)); replace HB := Aside0.mk (below_step Hb hb); (try clear hb); (try clear hb2); (try clear hk); (try clear hi); (try clear ho0); have p10 : 0 ≤ (x4_1 : Int) := oD; have q10 : (x4_1 : Int) < ((x3_1.length : Int) : Int) := oD; obtain ⟨go10, co10, eo10, gb10, gl10, cl10, HG10⟩ := Kd.S_form HO_3.out (by omega); (first | cases eo10 | (injection eo10 with ea_ en_ ec_; (first | subst ea_ | (injection ea_ with ea_; subst ea_)); subst ec_; clear en_)); have GB10 := Aside0.mk gb10; have GG10 := Aside0.mk HG10; clear gb10 gl10 HG10; obtain ⟨_, ce10, hcl10, hM10, hcc10, hfr10, _, _⟩ := Kd.S_elem HO_3.out [] (x4_1 : Int) p10 q10; obtain ⟨ve10_0, rfl, ge10_0⟩ := hM10; have hx10_0 := hcc10 0 _ rfl; have hf10_0 := hfr10 0; (try simp only [show ((Kd.slice 2 (Kd.int .i64))).sz = 1 from rfl, Nat.mul_one, Nat.add_zero] at hx10_0); (try simp only [show ((Kd.slice 2 (Kd.int .i64))).sz = 1 from rfl, Nat.mul_one, Nat.add_zero] at hf10_0); clear hcl10 hcc10 hfr10; (try clear hM10); replace p10 := eq_true p10; replace q10 := eq_true q10; have n_ := Aside0.mk (Kd.S_mono (ok' := (fun k_ => some k_ ≠ (v172 : Value).ownBlock)) HO_3.out (fun k_ hk => hk.2)); clear HO_3; have HO_3 := n_; clear n_; have HX12 := Aside0.mk (show Kd.S (Kd.slice 2 (Kd.int .i64)) 43 w11 w.heap.size (fun k_ => ((fun _ => True)) k_ ∧ ¬ ((fun k_ => some k_ = (v172 : Value).ownBlock)) k_) (.slice (some ⟨go10, 0, none⟩) x3_1.length co10) x3_1 from (by (with_reducible repeat (first | apply Kd.S_alloc | apply Kd.S_drewN | apply Kd.S_drew)); exact Kd.S_mono HO_3.out (fun k_ hk => ⟨trivial, fun e_ => hk e_⟩))); obtain ⟨oki12, ce12, hcl12, hM12, hcc12, hfr12, hoki12, hH12⟩ := Kd.S_elem HX12.out [] (x4_1 : Int) (oD) (by have h_ : (x4_1 : Int) < ((x3_1.length : Int) : Int) := oD; first | exact h_ | (have e_ := (Kd.S_reads' HO_3.out).1; omega) | simpa using h_); obtain ⟨ve12_0, rfl, ge12_0⟩ := hM12; have HP12 := Kd.S_seg hH12 (oD) (by have h_ : (x4_1 : Int) < ((x3_1.length : Int) : Int) := oD; first | exact h_ | (have e_ := (Kd.S_reads' HO_3.out).1; omega) | simpa using h_) (seg := [v172]) (j := 0) (show 1 ≤ 1 from by decide) (x' := t171) (Kd.M_row (Kd.R_mono (Kd.R_tight rfl (Kd.R_mono (ok' := fun k_ => ((fun _ => True)) k_ ∧ k_ ≠ go10) (Kd.R_apart' (HO173.out) (Kd.S_typed HO_3.out) (by decide)) (fun k_ hk => ⟨trivial, fun e_ => (hk.2) (by rw [e_]; rfl)⟩))) (fun _ h_ => Or.inr (h_)))) (fun _ hk => hk) (fun k_ hk_ => ((Kd.R_mono (ok' := fun k_ => ((fun _ => True)) k_ ∧ k_ ≠ go10) (Kd.R_apart' (HO173.out) (Kd.S_typed HO_3.out) (by decide)) (fun k_ hk => ⟨trivial, fun e_ => (hk.2) (by rw [e_]; rfl)⟩))).1 k_ hk_.symm); have hx12_0 := hcc12 0 _ rfl; (try simp only [show ((Kd.slice 2 (Kd.int .i64))).sz = 1 from rfl, Nat.mul_one, Nat.add_zero] at hx12_0); have hf12_0 := hfr12 0; (try simp only [show ((Kd.slice 2 (Kd.int .i64))).sz = 1 from rfl, Nat.mul_one, Nat.add_zero] at hf12_0); clear hcl12 hcc12 hfr12 hoki12 hH12; (try clear hM12); (try simp only [show ((Kd.slice 2 (Kd.int .i64))).sz = 1 from rfl, Nat.mul_one, Nat.add_zero] at HP12)) | ((with_reducible refine gate_store (t := 43) (p := 21) rfl ?_); refine store_event (t := 43) (p := 21) (v := ?vo_w13) (w1 := (w11.setCell ⟨go10, (x4_1 : Int).toNat, none⟩ (v172))) ?hg ?ho ?hn ?hr ?_; (case ho => rfl); (case hg => rfl); (case hn => rfl); (case hr => first | (go_simp; done) | (go_simp; rfl) | (obtain ⟨_, _, ez0_, _⟩ := Kd.R_reads HO173.out; subst ez0_; first | (go_simp; done) | (go_simp; rfl))); intro w13 hw; have hg : w11.grownBy w13 (some go10) := (by rw [hw]; exact HP12.2); have hp_ : Kd.S (Kd.slice 2 (Kd.int .i64)) 43 w13 w.heap.size (fun _ => True) (.slice (some ⟨go10, 0, none⟩) x3_1.length co10) y174 := (by rw [hw, Ny174.out]; exact HP12.1); clear HP12; replace HO_3 := Aside0.mk (hp_); replace HB := Aside0.mk ((by rw [hw]; exact below_set (HB.out) GB10.out : Below w.heap.size w w13)); clear HO173; clear hg hw hp_))
                go_roundg k1
                case measure => have := HK1.out; omega
                case rel => exact ⟨(y174), (wrap64 (x4_1 + 1)), Fs, H', ⟨by have := HK1.out; omega⟩, ⟨S1 HO_3⟩, ⟨Hb⟩⟩
              · rw [if_neg c9] at H
                exact absurd H (by simp)
            · rw [if_neg c7] at H
              exact absurd H (by simp)
          · rw [if_neg c6] at H
            have c6b0 : decide (x4_1 < (l0.length : Int)) = false := decide_eq_false c6
            clear c6
            obtain rfl := Option.some.inj H
            go_wp2
            go_ret
            exact ⟨_, Fin, S1 HO_3, Hb⟩
    · rw [if_neg c3] at H
      exact absurd H (by simp)
  · rw [if_neg c2] at H
    exact absurd H (by simp)

/-! ### laws_toCover: function 6 -/
def laws_toCover.f (k : Nat) (a0_0 : Int) (a0_1 : Int) (l0_2 : List (List Int)) : Option (Int × Int × (List (List Int))) := (laws_toInt64SS.f k l0_2).bind fun t178 => (some (a0_0, a0_1, t178))
theorem laws_toCover.mono : ∀ a0 a1 a2 k, LeO (laws_toCover.f k a0 a1 a2) (laws_toCover.f (k + 1) a0 a1 a2) := by
  intro a0 a1 a2 k
  unfold laws_toCover.f
  repeat' first
      | (with_reducible exact laws_toInt64SS.mono _ _)
      | (with_reducible exact LeO.refl _)
      | (with_reducible exact LeO.none _)
      | (with_reducible refine LeO.ite ?_ ?_)
      | (with_reducible refine LeO.bind ?_ (fun _ => ?_))
      | exact laws_toInt64SS.mono _ _
      | exact LeO.none _
      | refine LeO.ite ?_ ?_
      | refine LeO.bind ?_ (fun _ => ?_)
set_option maxHeartbeats 8000000 in
set_option maxRecDepth 100000 in
theorem laws_toCover.calls (k : Nat) (a0_0 : Int) (a0_1 : Int) (A0_2 : Option Addr) (c0_2 : Nat) (l0_2 : List (List Int)) (r1 : Int) (r2 : Int) (r3 : List (List Int)) (w : World) (hr0_2 : Kd.C (Kd.slice 2 (Kd.int .i64)) w A0_2 l0_2.length l0_2) (hc0_2 : l0_2.length ≤ c0_2) (h : laws_toCover.f k a0_0 a0_1 l0_2 = some (r1, r2, r3)) :
    Calls Try.prog 6 #[.agg #[.int .i64 a0_0, .int .i64 a0_1, .slice A0_2 l0_2.length c0_2]] w fun e w' => ∃ v2_ : Value, e = .returned (.agg #[.int .i64 r1, .int .i64 r2, v2_]) ∧ Kd.S (Kd.slice 2 (Kd.int .i64)) 43 w' w.heap.size (fun _ => True) v2_ r3 ∧ Below w.heap.size w w' := by
  have hu24 := Try.underlying24
  have hu30 := Try.underlying30
  have HR0_2 := Aside0.mk hr0_2
  have HC0_2 := Aside0.mk hc0_2
  clear hr0_2 hc0_2
  have HB := Aside0.mk (Below.refl w.heap.size w)
  have H : ((laws_toInt64SS.f k l0_2).bind fun t178 => (some (a0_0, a0_1, t178))) = some (r1, r2, r3) := h
  clear h
  obtain ⟨t178, A20, H⟩ := Option.bind_eq_some_iff.mp H
  have A2 := Aside0.mk A20
  clear A20
  simp only [Option.some.injEq, Prod.mk.injEq] at H
  obtain ⟨rfl, rfl, rfl⟩ := H
  go_enter Try.func6, Try.ntmps6
  go_wp2_with (first | ((with_reducible refine gD 1 ?_); refine BX #[.int .i64 a0_0, .int .i64 a0_1, .slice A0_2 l0_2.length c0_2] 24 ?_; intro gb175 hg w3 hbox hb; have BK175 := Aside0.mk (hbox); have GW175 := Aside0.mk ((Gle hg Hb : w.heap.size ≤ gb175)); have GE175 := Aside0.mk ((Gle hg Hb : w.heap.size ≤ gb175)); replace HB := Aside0.mk (below_step Hb hb); clear hb hbox hg) | ((with_reducible refine gD 2 ?_); refine BX #[.int .i64 0, .int .i64 0, .slice none 0 0] 30 ?_; intro gb176 hg w4 hbox hb; have BK176 := Aside0.mk (hbox); have GW176 := Aside0.mk ((Gle hg Hb : w.heap.size ≤ gb176)); have GE176 := Aside0.mk ((Gle hg Hb : w.heap.size ≤ gb176)); replace HB := Aside0.mk (below_step Hb hb); have NB175_176 := Aside0.mk ((by rw [hg]; exact Nat.ne_of_lt (blk_lt (B1 BK175)) : gb175 ≠ gb176)); have NB176_175 := Aside0.mk ((by rw [hg]; exact Nat.ne_of_gt (blk_lt (B1 BK175)) : gb176 ≠ gb175)); replace BK175 := Aside0.mk (blk_below (B1 BK175) hb); clear hb hbox hg) | ((with_reducible refine gD 3 ?_); refine BX #[.int .i64 0, .int .i64 0, .slice none 0 0] 30 ?_; intro gb177 hg w5 hbox hb; have BK177 := Aside0.mk (hbox); have GW177 := Aside0.mk ((Gle hg Hb : w.heap.size ≤ gb177)); have GE177 := Aside0.mk ((Gle hg Hb : w.heap.size ≤ gb177)); replace HB := Aside0.mk (below_step Hb hb); have NB175_177 := Aside0.mk ((by rw [hg]; exact Nat.ne_of_lt (blk_lt (B1 BK175)) : gb175 ≠ gb177)); have NB177_175 := Aside0.mk ((by rw [hg]; exact Nat.ne_of_gt (blk_lt (B1 BK175)) : gb177 ≠ gb175)); replace BK175 := Aside0.mk (blk_below (B1 BK175) hb); have NB176_177 := Aside0.mk ((by rw [hg]; exact Nat.ne_of_lt (blk_lt (B1 BK176)) : gb176 ≠ gb177)); have NB177_176 := Aside0.mk ((by rw [hg]; exact Nat.ne_of_gt (blk_lt (B1 BK176)) : gb177 ≠ gb176)); replace BK176 := Aside0.mk (blk_below (B1 BK176) hb); clear hb hbox hg; have hnb6 := NB175_176.out; have hnc6 := NB176_175.out; have hnb7 := NB175_177.out; have hnc7 := NB177_175.out; have hcz8_0 : w5.cell? ⟨gb175, 0, none⟩ = some (.int .i64 a0_0) := bc BK175; have hcz8_1 : w5.cell? ⟨gb175, 1, none⟩ = some (.int .i64 a0_1) := bc BK175; have hcz8_2 : w5.cell? ⟨gb175, 2, none⟩ = some (.slice A0_2 l0_2.length c0_2) := bc BK175; have hfz8_0 := blk_frozen BK175.out 0; have hfz8_1 := blk_frozen BK175.out 1; have hfz8_2 := blk_frozen BK175.out 2; have hnb9 := NB177_176.out; have hnc9 := NB176_177.out; have hcz10_0 : w5.cell? ⟨gb177, 0, none⟩ = some (.int .i64 0) := bc BK177; have hcz10_1 : w5.cell? ⟨gb177, 1, none⟩ = some (.int .i64 0) := bc BK177; have hcz10_2 : w5.cell? ⟨gb177, 2, none⟩ = some (.slice none 0 0) := bc BK177; have hfz10_0 := blk_frozen BK177.out 0; have hfz10_1 := blk_frozen BK177.out 1; have hfz10_2 := blk_frozen BK177.out 2) | ((with_reducible refine gC 16 ?_); refine GL (some 12) Try.func16 #[.slice A0_2 l0_2.length c0_2] ?_; (with_reducible refine (laws_toInt64SS.calls k _ _ l0_2 t178 _ ?side1 ?side2 A2.out).mono ?_); (case side1 => exact Kd.C_below HR0_2.out Hb); (case side2 => exact HC0_2.out); rintro e w11 ⟨v179, rfl, ho0, hb⟩; refine ⟨_, rfl, ?_⟩; have HO180 := Aside0.mk (Kd.S_lower ho0 (below_size Hb)); replace BK175 := Aside0.mk (blk_below (g := gb175) (o := .cells #[.int .i64 a0_0, .int .i64 a0_1, .slice A0_2 l0_2.length c0_2] 24 (0, 0)) (by (with_reducible repeat (first | refine blk_drewN ?_ _ | refine blk_drew ?_ | refine blk_alloc ?_ _)); refine blk_far ?_ NB175_177.out _; (with_reducible repeat (first | refine blk_drewN ?_ _ | refine blk_drew ?_ | refine blk_alloc ?_ _)); refine blk_far ?_ NB175_177.out _; (with_reducible repeat (first | refine blk_drewN ?_ _ | refine blk_drew ?_ | refine blk_alloc ?_ _)); exact BK175.out) hb); replace BK176 := Aside0.mk (blk_below (g := gb176) (o := .cells #[.int .i64 0, .int .i64 0, .slice none 0 0] 30 (0, 0)) (by (with_reducible repeat (first | refine blk_drewN ?_ _ | refine blk_drew ?_ | refine blk_alloc ?_ _)); refine blk_far ?_ NB176_177.out _; (with_reducible repeat (first | refine blk_drewN ?_ _ | refine blk_drew ?_ | refine blk_alloc ?_ _)); refine blk_far ?_ NB176_177.out _; (with_reducible repeat (first | refine blk_drewN ?_ _ | refine blk_drew ?_ | refine blk_alloc ?_ _)); exact BK176.out) hb); replace BK177 := Aside0.mk (blk_below (g := gb177) (o := .cells #[.int .i64 a0_0, .int .i64 a0_1, .slice none 0 0] 30 (0, 0)) (by (with_reducible repeat (first | refine blk_drewN ?_ _ | refine blk_drew ?_ | refine blk_alloc ?_ _)); refine blk_put (cs := #[.int .i64 a0_0, .int .i64 0, .slice none 0 0]) ?_ 1 _ rfl; (with_reducible repeat (first | refine blk_drewN ?_ _ | refine blk_drew ?_ | refine blk_alloc ?_ _)); refine blk_put (cs := #[.int .i64 0, .int .i64 0, .slice none 0 0]) ?_ 0 _ rfl; (with_reducible repeat (first | refine blk_drewN ?_ _ | refine blk_drew ?_ | refine blk_alloc ?_ _)); exact BK177.out) hb); replace HB := Aside0.mk (below_step Hb hb); (try clear hb); (try clear hb2); (try clear hk); (try clear hi); (try clear ho0); obtain ⟨Ao12, co12, eo12⟩ := Kd.S_slice HO180.out; subst eo12; have hcz13_0 : w11.cell? ⟨gb177, 0, none⟩ = some (.int .i64 a0_0) := bc BK177; have hcz13_1 : w11.cell? ⟨gb177, 1, none⟩ = some (.int .i64 a0_1) := bc BK177; have hcz13_2 : w11.cell? ⟨gb177, 2, none⟩ = some (.slice none 0 0) := bc BK177; have hfz13_0 := blk_frozen BK177.out 0; have hfz13_1 := blk_frozen BK177.out 1; have hfz13_2 := blk_frozen BK177.out 2; have hcz14_0 : w11.cell? ⟨gb176, 0, none⟩ = some (.int .i64 0) := bc BK176; have hcz14_1 : w11.cell? ⟨gb176, 1, none⟩ = some (.int .i64 0) := bc BK176; have hcz14_2 : w11.cell? ⟨gb176, 2, none⟩ = some (.slice none 0 0) := bc BK176; have hfz14_0 := blk_frozen BK176.out 0; have hfz14_1 := blk_frozen BK176.out 1; have hfz14_2 := blk_frozen BK176.out 2))
  refine bodyPost_ret (results_cell_row rfl _ _ gb176 30 #[.int .i64 a0_0, .int .i64 a0_1, .slice Ao12 t178.length co12] (0, 0) _ rfl (by (with_reducible repeat (first | refine blk_drewN ?_ _ | refine blk_drew ?_ | refine blk_alloc ?_ _)); refine blk_put (cs := #[.int .i64 a0_0, .int .i64 a0_1, .slice none 0 0]) ?_ 2 _ rfl; (with_reducible repeat (first | refine blk_drewN ?_ _ | refine blk_drew ?_ | refine blk_alloc ?_ _)); refine blk_put (cs := #[.int .i64 a0_0, .int .i64 0, .slice none 0 0]) ?_ 1 _ rfl; (with_reducible repeat (first | refine blk_drewN ?_ _ | refine blk_drew ?_ | refine blk_alloc ?_ _)); refine blk_put (cs := #[.int .i64 0, .int .i64 0, .slice none 0 0]) ?_ 0 _ rfl; (with_reducible repeat (first | refine blk_drewN ?_ _ | refine blk_drew ?_ | refine blk_alloc ?_ _)); refine blk_far ?_ NB176_177.out _; (with_reducible repeat (first | refine blk_drewN ?_ _ | refine blk_drew ?_ | refine blk_alloc ?_ _)); exact BK176.out) Try.underlying30 rfl (by kernel_rfl)) rfl ?_
  exact ⟨_, Fin, by (with_reducible repeat (first | apply Kd.S_alloc | apply Kd.S_drewN | apply Kd.S_drew)); exact Kd.S_mono (Kd.S_far (p := ⟨gb176, 2, none⟩) (Kd.S_far (p := ⟨gb176, 1, none⟩) (Kd.S_far (p := ⟨gb176, 0, none⟩) (Kd.S_far (p := ⟨gb177, 2, none⟩) (Kd.S_types (Kd.S_types HO180.out BK177.out (by decide)) BK176.out (by decide)) (fun _ hk => hk.1.2) (.slice Ao12 t178.length co12)) (fun _ hk => hk.2) (.int .i64 a0_0)) (fun _ hk => hk.2) (.int .i64 a0_1)) (fun _ hk => hk.2) (.slice Ao12 t178.length co12)) (fun _ hk => trivial), Hb⟩

/-! ### impl_within: function 28 -/
def impl_within.f (a0 : Int) (a1 : Int) (a2 : Int) : Option (Bool) := if a0 ≥ a1 then (some (decide (a0 ≤ a2))) else (some false)
set_option maxHeartbeats 8000000 in
set_option maxRecDepth 100000 in
theorem impl_within.calls (a0 : Int) (a1 : Int) (a2 : Int) (r : Bool) (w : World) (h : impl_within.f a0 a1 a2 = some r) :
    Calls Try.prog 28 #[.int .i64 a0, .int .i64 a1, .int .i64 a2] w fun e w' => e = .returned (.bool r) ∧ Drawn0 w w' := by
  have H : (if a0 ≥ a1 then (some (decide (a0 ≤ a2))) else (some false)) = some r := h
  clear h
  by_cases c4 : a0 ≥ a1
  · rw [if_pos c4] at H
    have c4b0 : decide (a1 ≤ a0) = true := decide_eq_true c4
    clear c4
    obtain rfl := Option.some.inj H
    go_enter Try.func28, Try.ntmps28
    go_wp2
    go_ret
    exact ⟨Fs, by repeat (first | exact Drawn0.refl _ | apply Drawn0.step)⟩
  · rw [if_neg c4] at H
    have c4b0 : decide (a1 ≤ a0) = false := decide_eq_false c4
    clear c4
    obtain rfl := Option.some.inj H
    go_enter Try.func28, Try.ntmps28
    go_wp2
    go_ret
    exact ⟨Fs, by repeat (first | exact Drawn0.refl _ | apply Drawn0.step)⟩

/-! ### impl_isIncreasing: function 31 -/
def impl_isIncreasing.l0 : Nat → List Int → Int → List Int → Int → Int → Option (Bool)
  | 0, _, _, _, _, _ => none
  | k + 1, x0, x1, x7, x8, x9 => if x9 < x8 then (if 0 ≤ x9 then (if x9 < (x7.length : Int) then ((impl_within.f (rd x7 x9) 0 (wrap64 (x1 - 1))).bind fun t182 => (if t182 = true then (if x9 > 0 then (if 0 ≤ (wrap64 (x9 - 1)) then (if (wrap64 (x9 - 1)) < (x0.length : Int) then (if (rd x7 x9) ≤ (rd x0 (wrap64 (x9 - 1))) then (some false) else (impl_isIncreasing.l0 k x0 x1 x7 x8 (wrap64 (x9 + 1)))) else (none)) else (none)) else (impl_isIncreasing.l0 k x0 x1 x7 x8 (wrap64 (x9 + 1)))) else (some false))) else (none)) else (none)) else (some true)
def impl_isIncreasing.f (k : Nat) (l0 : List Int) (a1 : Int) : Option (Bool) := impl_isIncreasing.l0 k l0 a1 l0 (l0.length : Int) 0
theorem impl_isIncreasing.mono_l : ∀ k, (∀ y0 y1 y2 y3 y4, LeO (impl_isIncreasing.l0 k y0 y1 y2 y3 y4) (impl_isIncreasing.l0 (k + 1) y0 y1 y2 y3 y4))
  | 0 => fun _ _ _ _ _ r h => by simp [impl_isIncreasing.l0] at h
  | k + 1 => by
    have ih0 := impl_isIncreasing.mono_l k
    · intro y0 y1 y2 y3 y4
      unfold impl_isIncreasing.l0
      repeat' first
      | (with_reducible exact ih0 _ _ _ _ _)
      | (with_reducible exact LeO.refl _)
      | (with_reducible exact LeO.none _)
      | (with_reducible refine LeO.ite ?_ ?_)
      | (with_reducible refine LeO.bind ?_ (fun _ => ?_))
      | exact ih0 _ _ _ _ _
      | exact LeO.none _
      | refine LeO.ite ?_ ?_
      | refine LeO.bind ?_ (fun _ => ?_)
theorem impl_isIncreasing.mono : ∀ a0 a1 k, LeO (impl_isIncreasing.f k a0 a1) (impl_isIncreasing.f (k + 1) a0 a1) := by
  intro a0 a1 k
  have ih0 := impl_isIncreasing.mono_l k
  unfold impl_isIncreasing.f
  repeat' first
      | (with_reducible exact ih0 _ _ _ _ _)
      | (with_reducible exact LeO.refl _)
      | (with_reducible exact LeO.none _)
      | (with_reducible refine LeO.ite ?_ ?_)
      | (with_reducible refine LeO.bind ?_ (fun _ => ?_))
      | exact ih0 _ _ _ _ _
      | exact LeO.none _
      | refine LeO.ite ?_ ?_
      | refine LeO.bind ?_ (fun _ => ?_)
set_option maxHeartbeats 8000000 in
set_option maxRecDepth 100000 in
theorem impl_isIncreasing.calls (k : Nat) (A0 : Option Addr) (c0 : Nat) (l0 : List Int) (a1 : Int) (r : Bool) (w : World) (hr0 : Kd.C (Kd.int .i64) w A0 l0.length l0) (hc0 : l0.length ≤ c0) (h : impl_isIncreasing.f k l0 a1 = some r) :
    Calls Try.prog 31 #[.slice A0 l0.length c0, .int .i64 a1] w fun e w' => e = .returned (.bool r) ∧ Drawn0 w w' := by
  have HR0 := Aside0.mk hr0
  have HC0 := Aside0.mk hc0
  clear hr0 hc0
  have H : (impl_isIncreasing.l0 k l0 a1 l0 (l0.length : Int) 0) = some r := h
  clear h
  have H' := Aside0.mk H
  clear H
  go_enter Try.func31, Try.ntmps31
  go_wp2
  go_loopg [9] k (fun kq v9 w' => ∃ (x9_1 : Int), v9 = .int .i64 x9_1 ∧ Aside0 (impl_isIncreasing.l0 kq l0 a1 l0 (l0.length : Int) x9_1 = some r) ∧ Aside0 (kq ≤ k) ∧ Drawn0 w w')
  case atStart => exact ⟨(0), Fs, H', ⟨Nat.le_refl _⟩, by repeat (first | exact Drawn0.refl _ | apply Drawn0.step)⟩
  case round =>
    clear H'
    try clear p2
    obtain ⟨x9_1, rfl, HA, HK1, ⟨m1, rfl⟩⟩ := hrel
    cases gk with
    | zero => exact absurd HA.out (by simp [impl_isIncreasing.l0])
    | succ k1 =>
      have H := HA.out
      clear HA
      simp only [impl_isIncreasing.l0] at H
      by_cases c3 : x9_1 < (l0.length : Int)
      · rw [if_pos c3] at H
        have c3b0 : decide (x9_1 < (l0.length : Int)) = true := decide_eq_true c3
        clear c3
        by_cases c4 : 0 ≤ x9_1
        · rw [if_pos c4] at H
          have c4b0 : decide (0 ≤ x9_1) = true := decide_eq_true c4
          clear c4
          by_cases c5 : x9_1 < (l0.length : Int)
          · rw [if_pos c5] at H
            have c5b0 : decide (x9_1 < (l0.length : Int)) = true := decide_eq_true c5
            clear c5
            obtain ⟨t182, A60, H⟩ := Option.bind_eq_some_iff.mp H
            have A6 := Aside0.mk A60
            clear A60
            by_cases c7 : t182 = true
            · subst c7
              rw [if_pos rfl] at H
              by_cases c8 : x9_1 > 0
              · rw [if_pos c8] at H
                have c8b0 : decide (0 < x9_1) = true := decide_eq_true c8
                clear c8
                obtain ⟨ji9, hji9⟩ : ∃ j_ : Int, (wrap64 (x9_1 - 1)) = j_ := ⟨_, rfl⟩
                replace H : (if 0 ≤ (ji9) then (if (ji9) < (l0.length : Int) then (if (rd l0 x9_1) ≤ (rd l0 (ji9)) then (some false) else (impl_isIncreasing.l0 k1 l0 a1 l0 (l0.length : Int) (wrap64 (x9_1 + 1)))) else (none)) else (none)) = some r := by first | (rw [hji9] at H; exact H) | (simp only [hji9] at H ⊢; exact H)
                (try rw [hji9] at A6)
                have hji9w : (IntKind.i64.wrap (x9_1 - 1)) = ji9 := (i64_w _).trans hji9
                by_cases c10 : 0 ≤ (ji9)
                · rw [if_pos c10] at H
                  have c10b0 : decide (0 ≤ (ji9)) = true := decide_eq_true c10
                  clear c10
                  by_cases c11 : (ji9) < (l0.length : Int)
                  · rw [if_pos c11] at H
                    have c11b0 : decide ((ji9) < (l0.length : Int)) = true := decide_eq_true c11
                    clear c11
                    by_cases c12 : (rd l0 x9_1) ≤ (rd l0 (ji9))
                    · rw [if_pos c12] at H
                      have c12b0 : decide ((rd l0 x9_1) ≤ (rd l0 (ji9))) = true := decide_eq_true c12
                      clear c12
                      obtain rfl := Option.some.inj H
                      have p181 : 0 ≤ (x9_1 : Int) := oD
                      have q181 : x9_1 < (l0.length : Int) := oD
                      obtain ⟨ad181, e181, hx181_0⟩ := Kd.at_int HR0.out x9_1 p181 q181
                      cases e181
                      replace p181 := eq_true p181
                      replace q181 := eq_true q181
                      go_wp2_with (first | ((with_reducible refine gC 28 ?_); refine GL (some 17) Try.func28 #[.int .i64 (rd l0 x9_1), .int .i64 0, .int .i64 (wrap64 (a1 - 1))] ?_; (with_reducible refine (impl_within.calls (rd l0 x9_1) 0 (wrap64 (a1 - 1)) true _ A6.out).mono ?_); rintro e w' ⟨rfl, ⟨nd, rfl⟩⟩; refine ⟨_, rfl, ?_⟩; have p183 : 0 ≤ ((ji9) : Int) := oD; have q183 : (ji9) < (l0.length : Int) := oD; obtain ⟨ad183, e183, hx183_0⟩ := Kd.at_int HR0.out (ji9) p183 q183; obtain rfl : ad181 = ad183 := (by injection e183); replace p183 := eq_true p183; replace q183 := eq_true q183))
                      go_ret
                      exact ⟨by first | rfl | (simp; done) | (simp only [← hji9] <;> (first | rfl | simp)) | (simp [*]; done), by repeat (first | exact Drawn0.refl _ | apply Drawn0.step)⟩
                    · rw [if_neg c12] at H
                      have c12b0 : decide ((rd l0 x9_1) ≤ (rd l0 (ji9))) = false := decide_eq_false c12
                      clear c12
                      have H' := Aside0.mk H
                      clear H
                      have p181 : 0 ≤ (x9_1 : Int) := oD
                      have q181 : x9_1 < (l0.length : Int) := oD
                      obtain ⟨ad181, e181, hx181_0⟩ := Kd.at_int HR0.out x9_1 p181 q181
                      cases e181
                      replace p181 := eq_true p181
                      replace q181 := eq_true q181
                      go_wp2_with (first | ((with_reducible refine gC 28 ?_); refine GL (some 17) Try.func28 #[.int .i64 (rd l0 x9_1), .int .i64 0, .int .i64 (wrap64 (a1 - 1))] ?_; (with_reducible refine (impl_within.calls (rd l0 x9_1) 0 (wrap64 (a1 - 1)) true _ A6.out).mono ?_); rintro e w' ⟨rfl, ⟨nd, rfl⟩⟩; refine ⟨_, rfl, ?_⟩; have p183 : 0 ≤ ((ji9) : Int) := oD; have q183 : (ji9) < (l0.length : Int) := oD; obtain ⟨ad183, e183, hx183_0⟩ := Kd.at_int HR0.out (ji9) p183 q183; obtain rfl : ad181 = ad183 := (by injection e183); replace p183 := eq_true p183; replace q183 := eq_true q183))
                      go_roundg k1
                      case measure => have := HK1.out; omega
                      case rel => exact ⟨(wrap64 (x9_1 + 1)), Fs, H', ⟨by have := HK1.out; omega⟩, by repeat (first | exact Drawn0.refl _ | apply Drawn0.step)⟩
                  · rw [if_neg c11] at H
                    exact absurd H (by simp)
                · rw [if_neg c10] at H
                  exact absurd H (by simp)
              · rw [if_neg c8] at H
                have c8b0 : decide (0 < x9_1) = false := decide_eq_false c8
                clear c8
                have H' := Aside0.mk H
                clear H
                have p181 : 0 ≤ (x9_1 : Int) := oD
                have q181 : x9_1 < (l0.length : Int) := oD
                obtain ⟨ad181, e181, hx181_0⟩ := Kd.at_int HR0.out x9_1 p181 q181
                cases e181
                replace p181 := eq_true p181
                replace q181 := eq_true q181
                go_wp2_with (first | ((with_reducible refine gC 28 ?_); refine GL (some 17) Try.func28 #[.int .i64 (rd l0 x9_1), .int .i64 0, .int .i64 (wrap64 (a1 - 1))] ?_; (with_reducible refine (impl_within.calls (rd l0 x9_1) 0 (wrap64 (a1 - 1)) true _ A6.out).mono ?_); rintro e w' ⟨rfl, ⟨nd, rfl⟩⟩; refine ⟨_, rfl, ?_⟩))
                go_roundg k1
                case measure => have := HK1.out; omega
                case rel => exact ⟨(wrap64 (x9_1 + 1)), Fs, H', ⟨by have := HK1.out; omega⟩, by repeat (first | exact Drawn0.refl _ | apply Drawn0.step)⟩
            · replace c7 := Bool.eq_false_iff.mpr c7
              subst c7
              rw [if_neg (show ¬ (false = true) by decide)] at H
              obtain rfl := Option.some.inj H
              have p181 : 0 ≤ (x9_1 : Int) := oD
              have q181 : x9_1 < (l0.length : Int) := oD
              obtain ⟨ad181, e181, hx181_0⟩ := Kd.at_int HR0.out x9_1 p181 q181
              cases e181
              replace p181 := eq_true p181
              replace q181 := eq_true q181
              go_wp2_with (first | ((with_reducible refine gC 28 ?_); refine GL (some 17) Try.func28 #[.int .i64 (rd l0 x9_1), .int .i64 0, .int .i64 (wrap64 (a1 - 1))] ?_; (with_reducible refine (impl_within.calls (rd l0 x9_1) 0 (wrap64 (a1 - 1)) false _ A6.out).mono ?_); rintro e w' ⟨rfl, ⟨nd, rfl⟩⟩; refine ⟨_, rfl, ?_⟩))
              go_ret
              exact ⟨Fs, by repeat (first | exact Drawn0.refl _ | apply Drawn0.step)⟩
          · rw [if_neg c5] at H
            exact absurd H (by simp)
        · rw [if_neg c4] at H
          exact absurd H (by simp)
      · rw [if_neg c3] at H
        have c3b0 : decide (x9_1 < (l0.length : Int)) = false := decide_eq_false c3
        clear c3
        obtain rfl := Option.some.inj H
        go_wp2
        go_ret
        exact ⟨Fs, by repeat (first | exact Drawn0.refl _ | apply Drawn0.step)⟩

/-! ### slices_IndexFunc_int64_int64: function 36 (a contract of ours) -/
theorem idxf_LL.calls (g : Nat) (lb : Array Value) (eg : ∀ args w, (callFunc g args).run Try.prog w = .ok (.enter g args) w) (p : List Int → Option Bool) (A0 : Option Addr) (c0 : Nat) (l0 : List (List Int)) (v : Int) (w : World)
    (hr : Kd.C (Kd.slice 2 (Kd.int .i64)) w A0 l0.length l0) (hc : l0.length ≤ c0)
    (hp : ∀ (W : World) (x : List Int) (A : Option Addr) (c : Nat) (b : Bool), Below w.heap.size w W → Kd.C (Kd.int .i64) W A x.length x → x.length ≤ c → p x = some b → Calls Try.prog g (#[.slice A x.length c] ++ lb) W fun e w' => e = .returned (.bool b) ∧ Below w.heap.size w w')
    (h : U.idxM p l0 0 = some v) :
    Calls Try.prog 36 #[.slice A0 l0.length c0, .func (.func g) #[] lb] w fun e w' => e = .returned (.int .i64 v) ∧ Below w.heap.size w w' := by
  have hn := hr.2.1
  have HR := Aside0.mk hr
  have HP := Aside0.mk hp
  have H := Aside0.mk h
  clear hr hp h
  go_enter Try.func36, Try.ntmps36
  go_wp2
  go_loopg [5, 8] l0.length (fun gg _ s8 wr => ∃ i : Nat, s8 = .int .i64 i ∧ Aside0 (i ≤ l0.length) ∧ Aside0 (l0.length - i ≤ gg) ∧ Aside0 (U.idxM p (l0.drop i) i = some v) ∧ Aside0 (Below w.heap.size w wr))
  case atStart => exact ⟨0, rfl, ⟨Nat.zero_le _⟩, ⟨by omega⟩, H, ⟨Below.refl _ _⟩⟩
  case round =>
    obtain ⟨i, rfl, HI, HG, HA, HB⟩ := hrel
    clear H
    by_cases hlt : i < l0.length
    · have c1 : decide ((i : Int) < (l0.length : Int)) = true := decide_eq_true (by omega)
      obtain ⟨ad, A1, c1', e1, hx, hl1, hi1⟩ := at_L1 (Kd.C_below HR.out HB.out) (i : Int) (by omega) (by omega)
      cases e1
      simp only [rd_L1, Int.toNat_natCast] at hx hl1 hi1
      obtain ⟨b, hb, ht, hf⟩ := U.idxM_step hlt HA.out ([] : List Int)
      generalize l0.getD i ([] : List Int) = y at hx hl1 hi1 hb
      have hcall := HP.out wr _ A1 c1' b HB.out hi1 hl1 hb
      clear hi1 hl1 hb HA HR HP
      cases b with
      | true =>
        have hv := ht rfl
        subst hv
        clear ht hf
        go_wp2_with (go_at_fn g; refine hcall.mono ?_; rintro e w' ⟨rfl, hb'⟩)
        go_ret
        exact ⟨rfl, hb'⟩
      | false =>
        have HA := Aside0.mk (hf rfl)
        clear ht hf
        go_wp2_with (go_at_fn g; refine hcall.mono ?_; rintro e w' ⟨rfl, hb'⟩)
        go_roundg (l0.length - (i + 1))
        case measure => have := HG.out; omega
        case rel => exact ⟨i + 1, by go_num, ⟨by omega⟩, ⟨by omega⟩, HA, ⟨hb'⟩⟩
    · have c1 : decide ((i : Int) < (l0.length : Int)) = false := decide_eq_false (by omega)
      have hv := U.idxM_end (by omega) HA.out
      subst hv
      go_wp2
      go_ret
      exact ⟨rfl, HB.out⟩

/-! ### slices_ContainsFunc_int64_int64: function 29 (a contract of ours) -/
theorem anyf_LL.calls (g : Nat) (lb : Array Value) (eg : ∀ args w, (callFunc g args).run Try.prog w = .ok (.enter g args) w) (p : List Int → Option Bool) (A0 : Option Addr) (c0 : Nat) (l0 : List (List Int)) (r : Bool) (w : World)
    (hr : Kd.C (Kd.slice 2 (Kd.int .i64)) w A0 l0.length l0) (hc : l0.length ≤ c0)
    (hp : ∀ (W : World) (x : List Int) (A : Option Addr) (c : Nat) (b : Bool), Below w.heap.size w W → Kd.C (Kd.int .i64) W A x.length x → x.length ≤ c → p x = some b → Calls Try.prog g (#[.slice A x.length c] ++ lb) W fun e w' => e = .returned (.bool b) ∧ Below w.heap.size w w')
    (h : U.anyM p l0 = some r) :
    Calls Try.prog 29 #[.slice A0 l0.length c0, .func (.func g) #[] lb] w fun e w' => e = .returned (.bool r) ∧ Below w.heap.size w w' := by
  obtain ⟨v, hv, hd⟩ := U.idxM_of_anyM p l0 0 r (Int.le_refl 0) h
  have HC := Aside0.mk (idxf_LL.calls g lb eg p A0 c0 l0 v w hr hc hp hv)
  subst hd
  clear hr hp h hv
  go_enter Try.func29, Try.ntmps29
  go_wp2_with (go_at_call 36; refine HC.out.mono ?_; rintro e w' ⟨rfl, hb'⟩)
  go_ret
  exact ⟨rfl, hb'⟩

/-! ### impl_IsCover: function 17 (a contract of ours) -/
def impl_IsCover_1.f (k : Nat) (x : List Int) (c0 : Int) : Option Bool := if (x.length : Int) = 0 then some true else (impl_isIncreasing.f k x c0).bind fun b => some (!b)
def impl_IsCover.f (k : Nat) (a0 a1 : Int) (l : List (List Int)) : Option Bool := (impl_within.f a0 1 60).bind fun b => if b = true then (impl_within.f a1 1 a0).bind fun b2 => if b2 = true then (if (l.length : Int) > 400 then some false else (U.anyM (fun x => impl_IsCover_1.f k x a0) l).bind fun t => some (!t)) else some false else some false
theorem impl_IsCover_1.mono (x : List Int) (c : Int) (k : Nat) : LeO (impl_IsCover_1.f k x c) (impl_IsCover_1.f (k + 1) x c) := LeO.ite (LeO.refl _) (LeO.bind (impl_isIncreasing.mono _ _ _) (fun _ => LeO.refl _))
theorem impl_IsCover.mono : ∀ a0 a1 a2 k, LeO (impl_IsCover.f k a0 a1 a2) (impl_IsCover.f (k + 1) a0 a1 a2) := fun a0 a1 a2 k =>
  LeO.bind (LeO.refl _) (fun _ => LeO.ite (LeO.bind (LeO.refl _) (fun _ => LeO.ite (LeO.ite (LeO.refl _) (LeO.bind (U.anyM_mono (fun x => impl_IsCover_1.mono x a0 k) a2) (fun _ => LeO.refl _))) (LeO.refl _))) (LeO.refl _))
theorem impl_IsCover_1.calls (k : Nat) (A0 : Option Addr) (c0 : Nat) (l0 : List Int) (a0 a1 : Int) (v2 : Value) (B : Nat) (r : Bool) (w : World) (hr0 : Kd.C (Kd.int .i64) w A0 l0.length l0) (hc0 : l0.length ≤ c0)
    (hb : w.heap[B]? = some (.cells #[.int .i64 a0, .int .i64 a1, v2] 30 (0, 0))) (h : impl_IsCover_1.f k l0 a0 = some r) :
    Calls Try.prog 30 #[.slice A0 l0.length c0, .pointer (some ⟨B, 0, none⟩)] w fun e w' => e = .returned (.bool r) ∧ Drawn0 w w' := by
  have hu := Try.underlying30
  have HR := Aside0.mk hr0
  have hz : w.cell? ⟨B, 0, none⟩ = some (.int .i64 a0) := (blk_cell hb 0).trans rfl
  unfold impl_IsCover_1.f at h
  clear hr0 hb
  by_cases c : (l0.length : Int) = 0
  · rw [if_pos c] at h
    obtain rfl := Option.some.inj h
    have cb : ((l0.length : Int) == 0) = true := beq_iff_eq.mpr c
    clear c h
    go_enter Try.func30, Try.ntmps30
    go_wp2
    go_ret
    exact ⟨by first | rfl | simp [*], Drawn0.refl _⟩
  · rw [if_neg c] at h
    obtain ⟨b, hb, h⟩ := Option.bind_eq_some_iff.mp h
    obtain rfl := Option.some.inj h
    have cb : ((l0.length : Int) == 0) = false := beq_eq_false_iff_ne.mpr c
    have HB := Aside0.mk hb
    clear c h hb
    go_enter Try.func30, Try.ntmps30
    go_wp2_with (go_at_call 31; refine (impl_isIncreasing.calls k _ _ l0 a0 b _ HR.out hc0 HB.out).mono ?_; rintro e w' ⟨rfl, ⟨nd, rfl⟩⟩)
    go_ret
    exact ⟨by first | rfl | simp [*], ⟨⟨_, rfl⟩⟩⟩
set_option maxRecDepth 100000 in
theorem impl_IsCover.calls (k : Nat) (a0 a1 : Int) (A2 : Option Addr) (c2 : Nat) (l2 : List (List Int)) (r : Bool) (w : World) (hr2 : Kd.C (Kd.slice 2 (Kd.int .i64)) w A2 l2.length l2) (hc2 : l2.length ≤ c2) (h : impl_IsCover.f k a0 a1 l2 = some r) :
    Calls Try.prog 17 #[.agg #[.int .i64 a0, .int .i64 a1, .slice A2 l2.length c2]] w fun e w' => e = .returned (.bool r) ∧ Below w.heap.size w w' := by
  have hu := Try.underlying30
  have HR := Aside0.mk hr2
  clear hr2
  have hsz := w.heap.size
  unfold impl_IsCover.f at h
  obtain ⟨b, hb, h⟩ := Option.bind_eq_some_iff.mp h
  have HB := Aside0.mk hb
  clear hb
  cases b with
  | false =>
    rw [if_neg (by simp)] at h
    obtain rfl := Option.some.inj h
    clear h
    go_enter Try.func17, Try.ntmps17
    go_wp2_with (go_at_call 28; refine (impl_within.calls a0 1 60 false _ HB.out).mono ?_; rintro e w' ⟨rfl, ⟨nd, rfl⟩⟩)
    go_ret
    exact ⟨rfl, by repeat (first | exact Below.refl _ _ | apply below_alloc | apply pw_below_drewN | apply below_drew)⟩
  | true =>
    rw [if_pos rfl] at h
    obtain ⟨b2, hb2, h⟩ := Option.bind_eq_some_iff.mp h
    have HB2 := Aside0.mk hb2
    clear hb2
    cases b2 with
    | false =>
      rw [if_neg (by simp)] at h
      obtain rfl := Option.some.inj h
      clear h
      go_enter Try.func17, Try.ntmps17
      go_wp2_with (go_at_call 28; first | ((with_reducible refine (impl_within.calls a0 1 60 true _ HB.out).mono ?_); rintro e w' ⟨rfl, ⟨nd, rfl⟩⟩) | ((with_reducible refine (impl_within.calls a1 1 a0 false _ HB2.out).mono ?_); rintro e w' ⟨rfl, ⟨nd, rfl⟩⟩))
      go_ret
      exact ⟨rfl, by repeat (first | exact Below.refl _ _ | apply below_alloc | apply pw_below_drewN | apply below_drew)⟩
    | true =>
      rw [if_pos rfl] at h
      by_cases c : (l2.length : Int) > 400
      · rw [if_pos c] at h
        obtain rfl := Option.some.inj h
        have cb : decide (400 < (l2.length : Int)) = true := decide_eq_true c
        have cb' : decide (400 < l2.length) = true := decide_eq_true (by omega)
        clear h c
        go_enter Try.func17, Try.ntmps17
        go_wp2_with (go_at_call 28; first | ((with_reducible refine (impl_within.calls a0 1 60 true _ HB.out).mono ?_); rintro e w' ⟨rfl, ⟨nd, rfl⟩⟩) | ((with_reducible refine (impl_within.calls a1 1 a0 true _ HB2.out).mono ?_); rintro e w' ⟨rfl, ⟨nd, rfl⟩⟩))
        go_ret
        exact ⟨rfl, by repeat (first | exact Below.refl _ _ | apply below_alloc | apply pw_below_drewN | apply below_drew)⟩
      · rw [if_neg c] at h
        obtain ⟨t, ht, h⟩ := Option.bind_eq_some_iff.mp h
        obtain rfl := Option.some.inj h
        have cb : decide (400 < (l2.length : Int)) = false := decide_eq_false c
        have cb' : decide (400 < l2.length) = false := decide_eq_false (by omega)
        have HT := Aside0.mk ht
        clear h c ht
        go_enter Try.func17, Try.ntmps17
        go_wp2_with (first
          | (go_at_call 28; first | ((with_reducible refine (impl_within.calls a0 1 60 true _ HB.out).mono ?_); rintro e w' ⟨rfl, ⟨nd, rfl⟩⟩) | ((with_reducible refine (impl_within.calls a1 1 a0 true _ HB2.out).mono ?_); rintro e w' ⟨rfl, ⟨nd, rfl⟩⟩))
          | (go_at_call 29; refine (anyf_LL.calls 30 _ (enters_of Try.func30 (by kernel_rfl) rfl) (fun x => impl_IsCover_1.f k x a0) _ _ l2 t _ ?c1 hc2 ?c2 HT.out).mono ?_; (case c1 => repeat (first | exact HR.out | (with_reducible refine Kd.C_alloc ?_ _) | (with_reducible refine Kd.C_drewN ?_ _) | (with_reducible refine Kd.C_drew ?_))); (case c2 => exact fun W x A c b hW hC hcc hpx => (impl_IsCover_1.calls k A c x a0 a1 _ _ b W hC hcc (blk_below (by (with_reducible repeat (first | refine blk_drewN ?_ _ | refine blk_drew ?_)); exact blk_new _ _) hW) hpx).mono fun e w' hq => ⟨hq.1, below_then hW hW.size hq.2.below⟩); rintro e w' ⟨rfl, hb'⟩))
        go_ret
        exact ⟨rfl, below_step (by repeat (first | exact Below.refl _ _ | apply below_alloc | apply pw_below_drewN | apply below_drew)) hb'⟩

end Go.Proofs.Ytccenkhokgiejaa.XFnExactFormulaOfCover
