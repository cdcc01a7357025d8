-- Written by ext.py (wip/) over the kit's print: not trusted, Lean checks it.
import Derived.Test.YtccenkhokgiejaaXFnExactFormulaOfCoverx0
import Derived.Test.YtccenkhokgiejaaXFnExactFormulaOfCoverx1
namespace Go.Proofs.Ytccenkhokgiejaa.XFnExactFormulaOfCover
open Go.RowKit Go.Proofs.YtccenkhokgiejaaW.PrintWords Go.Proofs.YtccenkhokgiejaaW.PrintLast Go.Proofs.YtccenkhokgiejaaW.PrintMore
attribute [local go_sem] max2_int min2_int max_two min_two max_three min_three max_four min_four   -- for this text's walks alone
set_option linter.unusedVariables false
set_option linter.unusedSimpArgs false

/-! ### spec_l13Rows: function 25 -/
def spec_l13Rows.l0 : Nat → Int → List Int → Int → Int → Int → List (List Int) → Option (List Int)
  | 0, _, _, _, _, _, _ => none
  | k + 1, x1, x5, x6, x117000, x117001, x117002 => if x6 < (x117002.length : Int) then (if 0 ≤ x6 then ((spec_l01Has.f k (rd_L1 x117002 x6) x1).bind fun t121 => (if t121 = true then (if x5.length < 17592186044416 then (spec_l13Rows.l0 k x1 (x5 ++ [x6]) (wrap64 (x6 + 1)) x117000 x117001 x117002) else (none)) else (spec_l13Rows.l0 k x1 x5 (wrap64 (x6 + 1)) x117000 x117001 x117002))) else (none)) else (some x5)
def spec_l13Rows.f (k : Nat) (a0_0 : Int) (a0_1 : Int) (l0_2 : List (List Int)) (a1 : Int) : Option (List Int) := spec_l13Rows.l0 k a1 (([] : List Int)) 0 a0_0 a0_1 l0_2
theorem spec_l13Rows.mono_l : ∀ k, (∀ y0 y1 y2 y3 y4 y5, LeO (spec_l13Rows.l0 k y0 y1 y2 y3 y4 y5) (spec_l13Rows.l0 (k + 1) y0 y1 y2 y3 y4 y5))
  | 0 => fun _ _ _ _ _ _ r h => by simp [spec_l13Rows.l0] at h
  | k + 1 => by
    have ih0 := spec_l13Rows.mono_l k
    · intro y0 y1 y2 y3 y4 y5
      unfold spec_l13Rows.l0
      repeat' first
      | (with_reducible exact ih0 _ _ _ _ _ _)
      | (with_reducible exact spec_l01Has.mono _ _ _)
      | (with_reducible exact LeO.refl _)
      | (with_reducible exact LeO.none _)
      | (with_reducible refine LeO.ite ?_ ?_)
      | (with_reducible refine LeO.bind ?_ (fun _ => ?_))
      | exact ih0 _ _ _ _ _ _
      | exact spec_l01Has.mono _ _ _
      | exact LeO.none _
      | refine LeO.ite ?_ ?_
      | refine LeO.bind ?_ (fun _ => ?_)
theorem spec_l13Rows.mono : ∀ a0 a1 a2 a3 k, LeO (spec_l13Rows.f k a0 a1 a2 a3) (spec_l13Rows.f (k + 1) a0 a1 a2 a3) := by
  intro a0 a1 a2 a3 k
  have ih0 := spec_l13Rows.mono_l k
  unfold spec_l13Rows.f
  repeat' first
      | (with_reducible exact ih0 _ _ _ _ _ _)
      | (with_reducible exact spec_l01Has.mono _ _ _)
      | (with_reducible exact LeO.refl _)
      | (with_reducible exact LeO.none _)
      | (with_reducible refine LeO.ite ?_ ?_)
      | (with_reducible refine LeO.bind ?_ (fun _ => ?_))
      | exact ih0 _ _ _ _ _ _
      | exact spec_l01Has.mono _ _ _
      | exact LeO.none _
      | refine LeO.ite ?_ ?_
      | refine LeO.bind ?_ (fun _ => ?_)
set_option maxHeartbeats 8000000 in
set_option maxRecDepth 100000 in
theorem spec_l13Rows.calls (k : Nat) (a0_0 : Int) (a0_1 : Int) (A0_2 : Option Addr) (c0_2 : Nat) (l0_2 : List (List Int)) (a1 : Int) (r : List Int) (w : World) (hr0_2 : Kd.C (Kd.slice 2 (Kd.int .i64)) w A0_2 l0_2.length l0_2) (hc0_2 : l0_2.length ≤ c0_2) (h : spec_l13Rows.f k a0_0 a0_1 l0_2 a1 = some r) :
    Calls Try.prog 25 #[.agg #[.int .i64 a0_0, .int .i64 a0_1, .slice A0_2 l0_2.length c0_2], .int .i64 a1] w fun e w' => ∃ v0_ : Value, e = .returned (v0_) ∧ Kd.R (Kd.int .i64) 2 w' w.heap.size (fun _ => True) v0_ r ∧ Below w.heap.size w w' := by
  have hu30 := Try.underlying30
  have HR0_2 := Aside0.mk hr0_2
  have HC0_2 := Aside0.mk hc0_2
  clear hr0_2 hc0_2
  have HB := Aside0.mk (Below.refl w.heap.size w)
  have H : (spec_l13Rows.l0 k a1 (([] : List Int)) 0 a0_0 a0_1 l0_2) = some r := h
  clear h
  obtain ⟨y117, hy117⟩ : ∃ y_ : List Int, y_ = (([] : List Int)) := ⟨_, rfl⟩
  replace H : (spec_l13Rows.l0 k a1 y117 0 a0_0 a0_1 l0_2) = some r := by first | (rw [hy117]; with_reducible exact H) | (have H2_ := (Option.bind_some _ _).symm.trans H; rw [hy117]; with_reducible exact H2_) | (have H2_ := (Option.bind_some _ _).symm.trans H; with_reducible exact H2_) | with_reducible exact H | (rw [hy117]; exact H) | exact H
  have Ny117 := Aside0.mk hy117
  clear hy117
  have H' := Aside0.mk H
  clear H
  go_enter Try.func25, Try.ntmps25
  go_wp2_with (first | ((with_reducible refine gD 2 ?_); refine BX #[.int .i64 a0_0, .int .i64 a0_1, .slice A0_2 l0_2.length c0_2] 30 ?_; intro gb116 hg w3 hbox hb; have BK116 := Aside0.mk (hbox); have GW116 := Aside0.mk ((Gle hg Hb : w.heap.size ≤ gb116)); have GE116 := Aside0.mk ((Gle hg Hb : w.heap.size ≤ gb116)); replace HB := Aside0.mk (below_step Hb hb); clear hb hbox hg) | ((with_reducible refine gD 7 ?_); refine Kd.R_lit (Kd.int .i64) _ 2 ?hg (N := 7) ?hd (xs := ([] : List Int)) (inner := []) (ok := fun _ => True) (okp := fun _ => True) ?hr ?hp (fun _ hk => hk) trivial (Below.refl _ _) (Nat.le_refl _) (by simp) ?_; (case hd => rfl); (case hg => rfl); (case hr => first | (go_simp; done) | (go_simp; rfl)); (case hp => exact (Reps.none _ _)); intro v118 w4 ho5 hb hg_ hnew_; clear hg_ hnew_; (first | rw [← Ny117.out] at ho5 | (simp only [Int.reduceToNat] at ho5; rw [← Ny117.out] at ho5)); have HO119 := Aside0.mk (Kd.R_lower ho5 (below_size Hb)); replace BK116 := Aside0.mk (blk_below (B1 BK116) hb); replace HB := Aside0.mk (below_step Hb hb); clear hb ho5))
  go_loopg [5, 6] k (fun kq v5 v6 w' => ∃ (x5_1 : List Int) (x6_1 : Int), v6 = .int .i64 x6_1 ∧ Aside0 (spec_l13Rows.l0 kq a1 x5_1 x6_1 a0_0 a0_1 l0_2 = some r) ∧ Aside0 (kq ≤ k) ∧ Aside0 (Kd.R (Kd.int .i64) 2 w' w.heap.size (fun _ => True) v5 x5_1) ∧ Aside0 (w'.heap[gb116]? = some (.cells #[.int .i64 a0_0, .int .i64 a0_1, (.slice A0_2 l0_2.length c0_2)] 30 (0, 0))) ∧ Aside0 (Below w.heap.size w w'))
  case atStart => exact ⟨(y117), (0), Fs, H', ⟨Nat.le_refl _⟩, ⟨R1 HO119⟩, ⟨B1 BK116⟩, ⟨Hb⟩⟩
  case round =>
    clear H'
    try clear c2
    try clear p2
    obtain ⟨x5_1, x6_1, rfl, HA, HK1, HO_5, BK116, HB⟩ := hrel
    cases gk with
    | zero => exact absurd HA.out (by simp [spec_l13Rows.l0])
    | succ k1 =>
      have H := HA.out
      clear HA
      simp only [spec_l13Rows.l0] at H
      by_cases c6 : x6_1 < (l0_2.length : Int)
      · rw [if_pos c6] at H
        have c6b0 : decide (x6_1 < (l0_2.length : Int)) = true := decide_eq_true c6
        clear c6
        by_cases c7 : 0 ≤ x6_1
        · rw [if_pos c7] at H
          have c7b0 : decide (0 ≤ x6_1) = true := decide_eq_true c7
          clear c7
          obtain ⟨t121, A80, H⟩ := Option.bind_eq_some_iff.mp H
          have A8 := Aside0.mk A80
          clear A80
          by_cases c9 : t121 = true
          · subst c9
            rw [if_pos rfl] at H
            by_cases c10 : x5_1.length < 17592186044416
            · rw [if_pos c10] at H
              have LMc10 := Aside0.mk c10
              clear c10
              obtain ⟨y122, hy122⟩ : ∃ y_ : List Int, y_ = (x5_1 ++ [x6_1]) := ⟨_, rfl⟩
              replace H : (spec_l13Rows.l0 k1 a1 y122 (wrap64 (x6_1 + 1)) a0_0 a0_1 l0_2) = some r := by first | (rw [hy122]; with_reducible exact H) | (have H2_ := (Option.bind_some _ _).symm.trans H; rw [hy122]; with_reducible exact H2_) | (have H2_ := (Option.bind_some _ _).symm.trans H; with_reducible exact H2_) | with_reducible exact H | (rw [hy122]; exact H) | exact H
              have Ny122 := Aside0.mk hy122
              clear hy122
              have H' := Aside0.mk H
              clear H
              have hcz11_0 : wr.cell? ⟨gb116, 0, none⟩ = some (.int .i64 a0_0) := bc BK116
              have hcz11_1 : wr.cell? ⟨gb116, 1, none⟩ = some (.int .i64 a0_1) := bc BK116
              have hcz11_2 : wr.cell? ⟨gb116, 2, none⟩ = some (.slice A0_2 l0_2.length c0_2) := bc BK116
              have hfz11_0 := blk_frozen BK116.out 0
              have hfz11_1 := blk_frozen BK116.out 1
              have hfz11_2 := blk_frozen BK116.out 2
              have p120 : 0 ≤ (x6_1 : Int) := oD
              have q120 : x6_1 < (l0_2.length : Int) := oD
              obtain ⟨ad120, A120_0, c120_0, e120, hx120_0, hl120_0, hi120_0⟩ := at_L1 HR0_2.out x6_1 p120 q120
              cases e120
              replace hx120_0 := hxb hx120_0
              have HR120_0 := Aside0.mk hi120_0
              have HC120_0 := Aside0.mk hl120_0
              clear hi120_0 hl120_0
              replace p120 := eq_true p120
              replace q120 := eq_true q120
              go_wp2_with (first | ((with_reducible refine gC 35 ?_); refine GL (some 21) Try.func35 #[.slice A120_0 (rd_L1 l0_2 x6_1).length c120_0, .int .i64 a1] ?_; (with_reducible refine (spec_l01Has.calls k1 _ _ (rd_L1 l0_2 x6_1) a1 true _ ?side1 ?side2 A8.out).mono ?_); (case side1 => exact Kd.C_below HR120_0.out Hb); (case side2 => exact HC120_0.out); rintro e w' ⟨rfl, ⟨nd, rfl⟩⟩; refine ⟨_, rfl, ?_⟩) | ((with_reducible refine gate_builtin (b := .append) (xs := #[.tmp 22, .tmp 24]) rfl ?_); at_builtin; refine Kd.R_append (Kd.int .i64) (w0 := w) w.heap.size rfl (.tmp 22) (.tmp 24) 43 2 (.int .i64 0) 8 rfl Try.underlying43 info2 rfl (by decide) (by omega) u5 x5_1 x6_1 [.int .i64 x6_1] (fun _ => True) (fun _ => False) rfl rfl ?aP (fun _ hk => hk.elim) ?aF ?aO ?aB ?aS ?aL ?_; (case aP => exact rfl); (case aB => exact Hb); (case aF => exact (fun _ _ => trivial)); (case aO => exact (R1 HO_5)); (case aS => exact (below_size Hb)); (case aL => have := LMc10.out; omega); intro v123 w12 ho hb hg hat; rw [← Ny122.out] at ho; replace BK116 := Aside0.mk (blk_grown (B1 BK116) hg (Kd.R_ne HO_5.out BK116.out (by decide))); replace HB := Aside0.mk (hb); have HO124 := Aside0.mk (ho); clear HO_5; clear ho hb hg hat))
              go_roundg k1
              case measure => have := HK1.out; omega
              case rel => exact ⟨(y122), (wrap64 (x6_1 + 1)), Fs, H', ⟨by have := HK1.out; omega⟩, ⟨R1 HO124⟩, ⟨B1 BK116⟩, ⟨Hb⟩⟩
            · rw [if_neg c10] at H
              exact absurd H (by simp)
          · replace c9 := Bool.eq_false_iff.mpr c9
            subst c9
            rw [if_neg (show ¬ (false = true) by decide)] at H
            have H' := Aside0.mk H
            clear H
            have hcz13_0 : wr.cell? ⟨gb116, 0, none⟩ = some (.int .i64 a0_0) := bc BK116
            have hcz13_1 : wr.cell? ⟨gb116, 1, none⟩ = some (.int .i64 a0_1) := bc BK116
            have hcz13_2 : wr.cell? ⟨gb116, 2, none⟩ = some (.slice A0_2 l0_2.length c0_2) := bc BK116
            have hfz13_0 := blk_frozen BK116.out 0
            have hfz13_1 := blk_frozen BK116.out 1
            have hfz13_2 := blk_frozen BK116.out 2
            have p120 : 0 ≤ (x6_1 : Int) := oD
            have q120 : x6_1 < (l0_2.length : Int) := oD
            obtain ⟨ad120, A120_0, c120_0, e120, hx120_0, hl120_0, hi120_0⟩ := at_L1 HR0_2.out x6_1 p120 q120
            cases e120
            replace hx120_0 := hxb hx120_0
            have HR120_0 := Aside0.mk hi120_0
            have HC120_0 := Aside0.mk hl120_0
            clear hi120_0 hl120_0
            replace p120 := eq_true p120
            replace q120 := eq_true q120
            go_wp2_with (first | ((with_reducible refine gC 35 ?_); refine GL (some 21) Try.func35 #[.slice A120_0 (rd_L1 l0_2 x6_1).length c120_0, .int .i64 a1] ?_; (with_reducible refine (spec_l01Has.calls k1 _ _ (rd_L1 l0_2 x6_1) a1 false _ ?side1 ?side2 A8.out).mono ?_); (case side1 => exact Kd.C_below HR120_0.out Hb); (case side2 => exact HC120_0.out); rintro e w' ⟨rfl, ⟨nd, rfl⟩⟩; refine ⟨_, rfl, ?_⟩))
            go_roundg k1
            case measure => have := HK1.out; omega
            case rel => exact ⟨(x5_1), (wrap64 (x6_1 + 1)), Fs, H', ⟨by have := HK1.out; omega⟩, ⟨R1 HO_5⟩, ⟨B1 BK116⟩, ⟨Hb⟩⟩
        · rw [if_neg c7] at H
          exact absurd H (by simp)
      · rw [if_neg c6] at H
        have c6b0 : decide (x6_1 < (l0_2.length : Int)) = false := decide_eq_false c6
        clear c6
        obtain rfl := Option.some.inj H
        have hcz14_0 : wr.cell? ⟨gb116, 0, none⟩ = some (.int .i64 a0_0) := bc BK116
        have hcz14_1 : wr.cell? ⟨gb116, 1, none⟩ = some (.int .i64 a0_1) := bc BK116
        have hcz14_2 : wr.cell? ⟨gb116, 2, none⟩ = some (.slice A0_2 l0_2.length c0_2) := bc BK116
        have hfz14_0 := blk_frozen BK116.out 0
        have hfz14_1 := blk_frozen BK116.out 1
        have hfz14_2 := blk_frozen BK116.out 2
        go_wp2
        go_ret
        exact ⟨_, Fin, R1 HO_5, Hb⟩

/-! ### spec_l12Overlap: function 26 -/
def spec_l12Overlap.l0 : Nat → List Int → List Int → Int → Option (Bool)
  | 0, _, _, _ => none
  | k + 1, x0, x1, x5 => if x5 < (x0.length : Int) then (if 0 ≤ x5 then ((spec_l01Has.f k x1 (rd x0 x5)).bind fun t126 => (if t126 = true then (some true) else (spec_l12Overlap.l0 k x0 x1 (wrap64 (x5 + 1))))) else (none)) else (some false)
def spec_l12Overlap.f (k : Nat) (l0 : List Int) (l1 : List Int) : Option (Bool) := spec_l12Overlap.l0 k l0 l1 0
theorem spec_l12Overlap.mono_l : ∀ k, (∀ y0 y1 y2, LeO (spec_l12Overlap.l0 k y0 y1 y2) (spec_l12Overlap.l0 (k + 1) y0 y1 y2))
  | 0 => fun _ _ _ r h => by simp [spec_l12Overlap.l0] at h
  | k + 1 => by
    have ih0 := spec_l12Overlap.mono_l k
    · intro y0 y1 y2
      unfold spec_l12Overlap.l0
      repeat' first
      | (with_reducible exact ih0 _ _ _)
      | (with_reducible exact spec_l01Has.mono _ _ _)
      | (with_reducible exact LeO.refl _)
      | (with_reducible exact LeO.none _)
      | (with_reducible refine LeO.ite ?_ ?_)
      | (with_reducible refine LeO.bind ?_ (fun _ => ?_))
      | exact ih0 _ _ _
      | exact spec_l01Has.mono _ _ _
      | exact LeO.none _
      | refine LeO.ite ?_ ?_
      | refine LeO.bind ?_ (fun _ => ?_)
theorem spec_l12Overlap.mono : ∀ a0 a1 k, LeO (spec_l12Overlap.f k a0 a1) (spec_l12Overlap.f (k + 1) a0 a1) := by
  intro a0 a1 k
  have ih0 := spec_l12Overlap.mono_l k
  unfold spec_l12Overlap.f
  repeat' first
      | (with_reducible exact ih0 _ _ _)
      | (with_reducible exact spec_l01Has.mono _ _ _)
      | (with_reducible exact LeO.refl _)
      | (with_reducible exact LeO.none _)
      | (with_reducible refine LeO.ite ?_ ?_)
      | (with_reducible refine LeO.bind ?_ (fun _ => ?_))
      | exact ih0 _ _ _
      | exact spec_l01Has.mono _ _ _
      | exact LeO.none _
      | refine LeO.ite ?_ ?_
      | refine LeO.bind ?_ (fun _ => ?_)
set_option maxHeartbeats 8000000 in
set_option maxRecDepth 100000 in
theorem spec_l12Overlap.calls (k : Nat) (A0 : Option Addr) (c0 : Nat) (l0 : List Int) (A1 : Option Addr) (c1 : Nat) (l1 : List Int) (r : Bool) (w : World) (hr0 : Kd.C (Kd.int .i64) w A0 l0.length l0) (hc0 : l0.length ≤ c0) (hr1 : Kd.C (Kd.int .i64) w A1 l1.length l1) (hc1 : l1.length ≤ c1) (h : spec_l12Overlap.f k l0 l1 = some r) :
    Calls Try.prog 26 #[.slice A0 l0.length c0, .slice A1 l1.length c1] w fun e w' => e = .returned (.bool r) ∧ Drawn0 w w' := by
  have HR0 := Aside0.mk hr0
  have HC0 := Aside0.mk hc0
  clear hr0 hc0
  have HR1 := Aside0.mk hr1
  have HC1 := Aside0.mk hc1
  clear hr1 hc1
  have H : (spec_l12Overlap.l0 k l0 l1 0) = some r := h
  clear h
  have H' := Aside0.mk H
  clear H
  go_enter Try.func26, Try.ntmps26
  go_wp2
  go_loopg [5] k (fun kq v5 w' => ∃ (x5_1 : Int), v5 = .int .i64 x5_1 ∧ Aside0 (spec_l12Overlap.l0 kq l0 l1 x5_1 = some r) ∧ Aside0 (kq ≤ k) ∧ Drawn0 w w')
  case atStart => exact ⟨(0), Fs, H', ⟨Nat.le_refl _⟩, by repeat (first | exact Drawn0.refl _ | apply Drawn0.step)⟩
  case round =>
    clear H'
    try clear c1
    try clear c2
    try clear p2
    obtain ⟨x5_1, rfl, HA, HK1, ⟨m1, rfl⟩⟩ := hrel
    cases gk with
    | zero => exact absurd HA.out (by simp [spec_l12Overlap.l0])
    | succ k1 =>
      have H := HA.out
      clear HA
      simp only [spec_l12Overlap.l0] at H
      by_cases c3 : x5_1 < (l0.length : Int)
      · rw [if_pos c3] at H
        have c3b0 : decide (x5_1 < (l0.length : Int)) = true := decide_eq_true c3
        clear c3
        by_cases c4 : 0 ≤ x5_1
        · rw [if_pos c4] at H
          have c4b0 : decide (0 ≤ x5_1) = true := decide_eq_true c4
          clear c4
          obtain ⟨t126, A50, H⟩ := Option.bind_eq_some_iff.mp H
          have A5 := Aside0.mk A50
          clear A50
          by_cases c6 : t126 = true
          · subst c6
            rw [if_pos rfl] at H
            obtain rfl := Option.some.inj H
            have p125 : 0 ≤ (x5_1 : Int) := oD
            have q125 : x5_1 < (l0.length : Int) := oD
            obtain ⟨ad125, e125, hx125_0⟩ := Kd.at_int HR0.out x5_1 p125 q125
            cases e125
            replace p125 := eq_true p125
            replace q125 := eq_true q125
            go_wp2_with (first | ((with_reducible refine gC 35 ?_); refine GL (some 17) Try.func35 #[.slice A1 l1.length c1, .int .i64 (rd l0 x5_1)] ?_; (with_reducible refine (spec_l01Has.calls k1 _ _ l1 (rd l0 x5_1) true _ ?side1 ?side2 A5.out).mono ?_); (case side1 => exact Ck HR1.out); (case side2 => exact HC1.out); rintro e w' ⟨rfl, ⟨nd, rfl⟩⟩; refine ⟨_, rfl, ?_⟩))
            go_ret
            exact ⟨Fs, by repeat (first | exact Drawn0.refl _ | apply Drawn0.step)⟩
          · replace c6 := Bool.eq_false_iff.mpr c6
            subst c6
            rw [if_neg (show ¬ (false = true) by decide)] at H
            have H' := Aside0.mk H
            clear H
            have p125 : 0 ≤ (x5_1 : Int) := oD
            have q125 : x5_1 < (l0.length : Int) := oD
            obtain ⟨ad125, e125, hx125_0⟩ := Kd.at_int HR0.out x5_1 p125 q125
            cases e125
            replace p125 := eq_true p125
            replace q125 := eq_true q125
            go_wp2_with (first | ((with_reducible refine gC 35 ?_); refine GL (some 17) Try.func35 #[.slice A1 l1.length c1, .int .i64 (rd l0 x5_1)] ?_; (with_reducible refine (spec_l01Has.calls k1 _ _ l1 (rd l0 x5_1) false _ ?side1 ?side2 A5.out).mono ?_); (case side1 => exact Ck HR1.out); (case side2 => exact HC1.out); rintro e w' ⟨rfl, ⟨nd, rfl⟩⟩; refine ⟨_, rfl, ?_⟩))
            go_roundg k1
            case measure => have := HK1.out; omega
            case rel => exact ⟨(wrap64 (x5_1 + 1)), Fs, H', ⟨by have := HK1.out; omega⟩, by repeat (first | exact Drawn0.refl _ | apply Drawn0.step)⟩
        · rw [if_neg c4] at H
          exact absurd H (by simp)
      · rw [if_neg c3] at H
        have c3b0 : decide (x5_1 < (l0.length : Int)) = false := decide_eq_false c3
        clear c3
        obtain rfl := Option.some.inj H
        go_wp2
        go_ret
        exact ⟨Fs, by repeat (first | exact Drawn0.refl _ | apply Drawn0.step)⟩

/-! ### spec_l20Cover: function 15 -/
mutual
def spec_l20Cover.l0 : Nat → List (List Int) → Int → Int → Int → List (List Int) → Option (Int × (List (List Int)))
  | 0, _, _, _, _, _ => none
  | k + 1, x3, x4, x128000, x128001, x128002 => if x4 < x128001 then ((spec_l13Rows.f k x128000 x128001 x128002 x4).bind fun t135 => (spec_l20Cover.l1 k x3 x4 (([] : List Int)) t135 0 x128000 x128001 x128002)) else (spec_l20Cover.l2 k x3 0 x128000 x128001 x128002)
def spec_l20Cover.l1 : Nat → List (List Int) → Int → List Int → List Int → Int → Int → Int → List (List Int) → Option (Int × (List (List Int)))
  | 0, _, _, _, _, _, _, _, _ => none
  | k + 1, x3, x4, x5, x6, x7, x128000, x128001, x128002 => if x7 < (x6.length : Int) then (if 0 ≤ x7 then (if x5.length < 17592186044416 then (spec_l20Cover.l1 k x3 x4 (x5 ++ [wrap64 ((rd x6 x7) + 1)]) x6 (wrap64 (x7 + 1)) x128000 x128001 x128002) else (none)) else (none)) else (if x3.length < 5864062014805 then (spec_l20Cover.l0 k (x3 ++ [x5]) (wrap64 (x4 + 1)) x128000 x128001 x128002) else (none))
def spec_l20Cover.l2 : Nat → List (List Int) → Int → Int → Int → List (List Int) → Option (Int × (List (List Int)))
  | 0, _, _, _, _, _ => none
  | k + 1, x3, x8, x128000, x128001, x128002 => if x8 < (x128002.length : Int) then (spec_l20Cover.l3 k x3 x8 (wrap64 (x8 + 1)) x128000 x128001 x128002) else (some ((x128002.length : Int), x3))
def spec_l20Cover.l3 : Nat → List (List Int) → Int → Int → Int → Int → List (List Int) → Option (Int × (List (List Int)))
  | 0, _, _, _, _, _, _ => none
  | k + 1, x3, x8, x9, x128000, x128001, x128002 => if x9 < (x128002.length : Int) then (if 0 ≤ x8 then (if x8 < (x128002.length : Int) then (if 0 ≤ x9 then ((spec_l12Overlap.f k (rd_L1 x128002 x8) (rd_L1 x128002 x9)).bind fun t147 => (if t147 = true then (if x3.length < 5864062014805 then (spec_l20Cover.l3 k (x3 ++ [(([wrap64 ((wrap64 (-x8)) - 1), wrap64 ((wrap64 (-x9)) - 1)] : List Int))]) x8 (wrap64 (x9 + 1)) x128000 x128001 x128002) else (none)) else (spec_l20Cover.l3 k x3 x8 (wrap64 (x9 + 1)) x128000 x128001 x128002))) else (none)) else (none)) else (none)) else (spec_l20Cover.l2 k x3 (wrap64 (x8 + 1)) x128000 x128001 x128002)
end
def spec_l20Cover.f (k : Nat) (a0_0 : Int) (a0_1 : Int) (l0_2 : List (List Int)) : Option (Int × (List (List Int))) := spec_l20Cover.l0 k (([] : List (List Int))) 0 a0_0 a0_1 l0_2
theorem spec_l20Cover.mono_l : ∀ k, (∀ y0 y1 y2 y3 y4, LeO (spec_l20Cover.l0 k y0 y1 y2 y3 y4) (spec_l20Cover.l0 (k + 1) y0 y1 y2 y3 y4)) ∧ (∀ y0 y1 y2 y3 y4 y5 y6 y7, LeO (spec_l20Cover.l1 k y0 y1 y2 y3 y4 y5 y6 y7) (spec_l20Cover.l1 (k + 1) y0 y1 y2 y3 y4 y5 y6 y7)) ∧ (∀ y0 y1 y2 y3 y4, LeO (spec_l20Cover.l2 k y0 y1 y2 y3 y4) (spec_l20Cover.l2 (k + 1) y0 y1 y2 y3 y4)) ∧ (∀ y0 y1 y2 y3 y4 y5, LeO (spec_l20Cover.l3 k y0 y1 y2 y3 y4 y5) (spec_l20Cover.l3 (k + 1) y0 y1 y2 y3 y4 y5))
  | 0 => ⟨fun _ _ _ _ _ r h => by simp [spec_l20Cover.l0] at h, fun _ _ _ _ _ _ _ _ r h => by simp [spec_l20Cover.l1] at h, fun _ _ _ _ _ r h => by simp [spec_l20Cover.l2] at h, fun _ _ _ _ _ _ r h => by simp [spec_l20Cover.l3] at h⟩
  | k + 1 => by
    obtain ⟨ih0, ih1, ih2, ih3⟩ := spec_l20Cover.mono_l k
    refine ⟨?_, ?_, ?_, ?_⟩
    · intro y0 y1 y2 y3 y4
      unfold spec_l20Cover.l0
      repeat' first
      | (with_reducible exact ih0 _ _ _ _ _)
      | (with_reducible exact ih1 _ _ _ _ _ _ _ _)
      | (with_reducible exact ih2 _ _ _ _ _)
      | (with_reducible exact ih3 _ _ _ _ _ _)
      | (with_reducible exact spec_l12Overlap.mono _ _ _)
      | (with_reducible exact spec_l13Rows.mono _ _ _ _ _)
      | (with_reducible exact LeO.refl _)
      | (with_reducible exact LeO.none _)
      | (with_reducible refine LeO.ite ?_ ?_)
      | (with_reducible refine LeO.bind ?_ (fun _ => ?_))
      | exact ih0 _ _ _ _ _
      | exact ih1 _ _ _ _ _ _ _ _
      | exact ih2 _ _ _ _ _
      | exact ih3 _ _ _ _ _ _
      | exact spec_l12Overlap.mono _ _ _
      | exact spec_l13Rows.mono _ _ _ _ _
      | exact LeO.none _
      | refine LeO.ite ?_ ?_
      | refine LeO.bind ?_ (fun _ => ?_)
    · intro y0 y1 y2 y3 y4 y5 y6 y7
      unfold spec_l20Cover.l1
      repeat' first
      | (with_reducible exact ih0 _ _ _ _ _)
      | (with_reducible exact ih1 _ _ _ _ _ _ _ _)
      | (with_reducible exact ih2 _ _ _ _ _)
      | (with_reducible exact ih3 _ _ _ _ _ _)
      | (with_reducible exact spec_l12Overlap.mono _ _ _)
      | (with_reducible exact spec_l13Rows.mono _ _ _ _ _)
      | (with_reducible exact LeO.refl _)
      | (with_reducible exact LeO.none _)
      | (with_reducible refine LeO.ite ?_ ?_)
      | (with_reducible refine LeO.bind ?_ (fun _ => ?_))
      | exact ih0 _ _ _ _ _
      | exact ih1 _ _ _ _ _ _ _ _
      | exact ih2 _ _ _ _ _
      | exact ih3 _ _ _ _ _ _
      | exact spec_l12Overlap.mono _ _ _
      | exact spec_l13Rows.mono _ _ _ _ _
      | exact LeO.none _
      | refine LeO.ite ?_ ?_
      | refine LeO.bind ?_ (fun _ => ?_)
    · intro y0 y1 y2 y3 y4
      unfold spec_l20Cover.l2
      repeat' first
      | (with_reducible exact ih0 _ _ _ _ _)
      | (with_reducible exact ih1 _ _ _ _ _ _ _ _)
      | (with_reducible exact ih2 _ _ _ _ _)
      | (with_reducible exact ih3 _ _ _ _ _ _)
      | (with_reducible exact spec_l12Overlap.mono _ _ _)
      | (with_reducible exact spec_l13Rows.mono _ _ _ _ _)
      | (with_reducible exact LeO.refl _)
      | (with_reducible exact LeO.none _)
      | (with_reducible refine LeO.ite ?_ ?_)
      | (with_reducible refine LeO.bind ?_ (fun _ => ?_))
      | exact ih0 _ _ _ _ _
      | exact ih1 _ _ _ _ _ _ _ _
      | exact ih2 _ _ _ _ _
      | exact ih3 _ _ _ _ _ _
      | exact spec_l12Overlap.mono _ _ _
      | exact spec_l13Rows.mono _ _ _ _ _
      | exact LeO.none _
      | refine LeO.ite ?_ ?_
      | refine LeO.bind ?_ (fun _ => ?_)
    · intro y0 y1 y2 y3 y4 y5
      unfold spec_l20Cover.l3
      repeat' first
      | (with_reducible exact ih0 _ _ _ _ _)
      | (with_reducible exact ih1 _ _ _ _ _ _ _ _)
      | (with_reducible exact ih2 _ _ _ _ _)
      | (with_reducible exact ih3 _ _ _ _ _ _)
      | (with_reducible exact spec_l12Overlap.mono _ _ _)
      | (with_reducible exact spec_l13Rows.mono _ _ _ _ _)
      | (with_reducible exact LeO.refl _)
      | (with_reducible exact LeO.none _)
      | (with_reducible refine LeO.ite ?_ ?_)
      | (with_reducible refine LeO.bind ?_ (fun _ => ?_))
      | exact ih0 _ _ _ _ _
      | exact ih1 _ _ _ _ _ _ _ _
      | exact ih2 _ _ _ _ _
      | exact ih3 _ _ _ _ _ _
      | exact spec_l12Overlap.mono _ _ _
      | exact spec_l13Rows.mono _ _ _ _ _
      | exact LeO.none _
      | refine LeO.ite ?_ ?_
      | refine LeO.bind ?_ (fun _ => ?_)
theorem spec_l20Cover.mono : ∀ a0 a1 a2 k, LeO (spec_l20Cover.f k a0 a1 a2) (spec_l20Cover.f (k + 1) a0 a1 a2) := by
  intro a0 a1 a2 k
  obtain ⟨ih0, ih1, ih2, ih3⟩ := spec_l20Cover.mono_l k
  unfold spec_l20Cover.f
  repeat' first
      | (with_reducible exact ih0 _ _ _ _ _)
      | (with_reducible exact ih1 _ _ _ _ _ _ _ _)
      | (with_reducible exact ih2 _ _ _ _ _)
      | (with_reducible exact ih3 _ _ _ _ _ _)
      | (with_reducible exact spec_l12Overlap.mono _ _ _)
      | (with_reducible exact spec_l13Rows.mono _ _ _ _ _)
      | (with_reducible exact LeO.refl _)
      | (with_reducible exact LeO.none _)
      | (with_reducible refine LeO.ite ?_ ?_)
      | (with_reducible refine LeO.bind ?_ (fun _ => ?_))
      | exact ih0 _ _ _ _ _
      | exact ih1 _ _ _ _ _ _ _ _
      | exact ih2 _ _ _ _ _
      | exact ih3 _ _ _ _ _ _
      | exact spec_l12Overlap.mono _ _ _
      | exact spec_l13Rows.mono _ _ _ _ _
      | exact LeO.none _
      | refine LeO.ite ?_ ?_
      | refine LeO.bind ?_ (fun _ => ?_)
set_option maxHeartbeats 8000000 in
set_option maxRecDepth 100000 in
theorem spec_l20Cover.calls (k : Nat) (a0_0 : Int) (a0_1 : Int) (A0_2 : Option Addr) (c0_2 : Nat) (l0_2 : List (List Int)) (r1 : Int) (r2 : List (List Int)) (w : World) (hr0_2 : Kd.C (Kd.slice 2 (Kd.int .i64)) w A0_2 l0_2.length l0_2) (hc0_2 : l0_2.length ≤ c0_2) (h : spec_l20Cover.f k a0_0 a0_1 l0_2 = some (r1, r2)) :
    Calls Try.prog 15 #[.agg #[.int .i64 a0_0, .int .i64 a0_1, .slice A0_2 l0_2.length c0_2]] w fun e w' => ∃ v1_ : Value, e = .returned (.agg #[.int .i64 r1, v1_]) ∧ Kd.S (Kd.slice 2 (Kd.int .i64)) 43 w' w.heap.size (fun _ => True) v1_ r2 ∧ Below w.heap.size w w' := by
  have hu30 := Try.underlying30
  have hu27 := Try.underlying27
  have HR0_2 := Aside0.mk hr0_2
  have HC0_2 := Aside0.mk hc0_2
  clear hr0_2 hc0_2
  have HB := Aside0.mk (Below.refl w.heap.size w)
  have H : (spec_l20Cover.l0 k (([] : List (List Int))) 0 a0_0 a0_1 l0_2) = some (r1, r2) := h
  clear h
  obtain ⟨y129, hy129⟩ : ∃ y_ : List (List Int), y_ = (([] : List (List Int))) := ⟨_, rfl⟩
  replace H : (spec_l20Cover.l0 k y129 0 a0_0 a0_1 l0_2) = some (r1, r2) := by first | (rw [hy129]; with_reducible exact H) | (have H2_ := (Option.bind_some _ _).symm.trans H; rw [hy129]; with_reducible exact H2_) | (have H2_ := (Option.bind_some _ _).symm.trans H; with_reducible exact H2_) | with_reducible exact H | (rw [hy129]; exact H) | exact H
  have Ny129 := Aside0.mk hy129
  clear hy129
  have H' := Aside0.mk H
  clear H
  go_enter Try.func15, Try.ntmps15
  go_wp2_with (first | ((with_reducible refine gD 1 ?_); refine BX #[.int .i64 a0_0, .int .i64 a0_1, .slice A0_2 l0_2.length c0_2] 30 ?_; intro gb127 hg w2 hbox hb; have BK127 := Aside0.mk (hbox); have GW127 := Aside0.mk ((Gle hg Hb : w.heap.size ≤ gb127)); have GE127 := Aside0.mk ((Gle hg Hb : w.heap.size ≤ gb127)); replace HB := Aside0.mk (below_step Hb hb); clear hb hbox hg) | ((with_reducible refine gD 2 ?_); refine BX #[.int .i64 0, .slice none 0 0] 27 ?_; intro gb128 hg w3 hbox hb; have BK128 := Aside0.mk (hbox); have GW128 := Aside0.mk ((Gle hg Hb : w.heap.size ≤ gb128)); have GE128 := Aside0.mk ((Gle hg Hb : w.heap.size ≤ gb128)); replace HB := Aside0.mk (below_step Hb hb); have NB127_128 := Aside0.mk ((by rw [hg]; exact Nat.ne_of_lt (blk_lt (B1 BK127)) : gb127 ≠ gb128)); have NB128_127 := Aside0.mk ((by rw [hg]; exact Nat.ne_of_gt (blk_lt (B1 BK127)) : gb128 ≠ gb127)); replace BK127 := Aside0.mk (blk_below (B1 BK127) hb); clear hb hbox hg) | ((with_reducible refine gD 10 ?_); refine Kd.S_lit (Kd.slice 2 (Kd.int .i64)) _ 43 ?hg (N := 10) ?hd (xs := ([] : List (List Int))) (inner := []) (ok := fun _ => True) (okp := fun _ => True) ?hr ?hp (fun _ hk => hk) trivial (Below.refl _ _) (Nat.le_refl _) (by simp) ?_; (case hd => rfl); (case hg => rfl); (case hr => first | (go_simp; done) | (go_simp; rfl)); (case hp => exact (Reps.none _ _)); intro v130 w4 ho5 hb hg_ hnew_; clear hg_ hnew_; (first | rw [← Ny129.out] at ho5 | (simp only [Int.reduceToNat] at ho5; rw [← Ny129.out] at ho5)); have HO131 := Aside0.mk (Kd.S_lower ho5 (below_size Hb)); replace BK127 := Aside0.mk (blk_below (B1 BK127) hb); replace BK128 := Aside0.mk (blk_below (B1 BK128) hb); replace HB := Aside0.mk (below_step Hb hb); clear hb ho5))
  repeat (go_quiet (first | ((with_reducible refine gD 1 ?_); refine BX #[.int .i64 a0_0, .int .i64 a0_1, .slice A0_2 l0_2.length c0_2] 30 ?_; intro gb127 hg w2 hbox hb; have BK127 := Aside0.mk (hbox); have GW127 := Aside0.mk ((Gle hg Hb : w.heap.size ≤ gb127)); have GE127 := Aside0.mk ((Gle hg Hb : w.heap.size ≤ gb127)); replace HB := Aside0.mk (below_step Hb hb); clear hb hbox hg) | ((with_reducible refine gD 2 ?_); refine BX #[.int .i64 0, .slice none 0 0] 27 ?_; intro gb128 hg w3 hbox hb; have BK128 := Aside0.mk (hbox); have GW128 := Aside0.mk ((Gle hg Hb : w.heap.size ≤ gb128)); have GE128 := Aside0.mk ((Gle hg Hb : w.heap.size ≤ gb128)); replace HB := Aside0.mk (below_step Hb hb); have NB127_128 := Aside0.mk ((by rw [hg]; exact Nat.ne_of_lt (blk_lt (B1 BK127)) : gb127 ≠ gb128)); have NB128_127 := Aside0.mk ((by rw [hg]; exact Nat.ne_of_gt (blk_lt (B1 BK127)) : gb128 ≠ gb127)); replace BK127 := Aside0.mk (blk_below (B1 BK127) hb); clear hb hbox hg) | ((with_reducible refine gD 10 ?_); refine Kd.S_lit (Kd.slice 2 (Kd.int .i64)) _ 43 ?hg (N := 10) ?hd (xs := ([] : List (List Int))) (inner := []) (ok := fun _ => True) (okp := fun _ => True) ?hr ?hp (fun _ hk => hk) trivial (Below.refl _ _) (Nat.le_refl _) (by simp) ?_; (case hd => rfl); (case hg => rfl); (case hr => first | (go_simp; done) | (go_simp; rfl)); (case hp => exact (Reps.none _ _)); intro v130 w4 ho5 hb hg_ hnew_; clear hg_ hnew_; (first | rw [← Ny129.out] at ho5 | (simp only [Int.reduceToNat] at ho5; rw [← Ny129.out] at ho5)); have HO131 := Aside0.mk (Kd.S_lower ho5 (below_size Hb)); replace BK127 := Aside0.mk (blk_below (B1 BK127) hb); replace BK128 := Aside0.mk (blk_below (B1 BK128) hb); replace HB := Aside0.mk (below_step Hb hb); clear hb ho5)); try go_wp2_with (first | ((with_reducible refine gD 1 ?_); refine BX #[.int .i64 a0_0, .int .i64 a0_1, .slice A0_2 l0_2.length c0_2] 30 ?_; intro gb127 hg w2 hbox hb; have BK127 := Aside0.mk (hbox); have GW127 := Aside0.mk ((Gle hg Hb : w.heap.size ≤ gb127)); have GE127 := Aside0.mk ((Gle hg Hb : w.heap.size ≤ gb127)); replace HB := Aside0.mk (below_step Hb hb); clear hb hbox hg) | ((with_reducible refine gD 2 ?_); refine BX #[.int .i64 0, .slice none 0 0] 27 ?_; intro gb128 hg w3 hbox hb; have BK128 := Aside0.mk (hbox); have GW128 := Aside0.mk ((Gle hg Hb : w.heap.size ≤ gb128)); have GE128 := Aside0.mk ((Gle hg Hb : w.heap.size ≤ gb128)); replace HB := Aside0.mk (below_step Hb hb); have NB127_128 := Aside0.mk ((by rw [hg]; exact Nat.ne_of_lt (blk_lt (B1 BK127)) : gb127 ≠ gb128)); have NB128_127 := Aside0.mk ((by rw [hg]; exact Nat.ne_of_gt (blk_lt (B1 BK127)) : gb128 ≠ gb127)); replace BK127 := Aside0.mk (blk_below (B1 BK127) hb); clear hb hbox hg) | ((with_reducible refine gD 10 ?_); refine Kd.S_lit (Kd.slice 2 (Kd.int .i64)) _ 43 ?hg (N := 10) ?hd (xs := ([] : List (List Int))) (inner := []) (ok := fun _ => True) (okp := fun _ => True) ?hr ?hp (fun _ hk => hk) trivial (Below.refl _ _) (Nat.le_refl _) (by simp) ?_; (case hd => rfl); (case hg => rfl); (case hr => first | (go_simp; done) | (go_simp; rfl)); (case hp => exact (Reps.none _ _)); intro v130 w4 ho5 hb hg_ hnew_; clear hg_ hnew_; (first | rw [← Ny129.out] at ho5 | (simp only [Int.reduceToNat] at ho5; rw [← Ny129.out] at ho5)); have HO131 := Aside0.mk (Kd.S_lower ho5 (below_size Hb)); replace BK127 := Aside0.mk (blk_below (B1 BK127) hb); replace BK128 := Aside0.mk (blk_below (B1 BK128) hb); replace HB := Aside0.mk (below_step Hb hb); clear hb ho5)))
  go_loopg [3, 4] k (fun kq v3 v4 w' => ∃ (x3_1 : List (List Int)) (x4_1 : Int), v4 = .int .i64 x4_1 ∧ Aside0 (spec_l20Cover.l0 kq x3_1 x4_1 a0_0 a0_1 l0_2 = some (r1, r2)) ∧ Aside0 (kq ≤ k) ∧ Aside0 (Kd.S (Kd.slice 2 (Kd.int .i64)) 43 w' w.heap.size (fun _ => True) v3 x3_1) ∧ Aside0 (w'.heap[gb127]? = some (.cells #[.int .i64 a0_0, .int .i64 a0_1, (.slice A0_2 l0_2.length c0_2)] 30 (0, 0))) ∧ Aside0 (w'.heap[gb128]? = some (.cells #[.int .i64 0, (.slice none 0 0)] 27 (0, 0))) ∧ Aside0 (Below w.heap.size w w'))
  case atStart => exact ⟨(y129), (0), Fs, H', ⟨Nat.le_refl _⟩, ⟨S1 HO131⟩, ⟨B1 BK127⟩, ⟨B1 BK128⟩, ⟨Hb⟩⟩
  case round =>
    clear H'
    try clear c1
    try clear p2
    obtain ⟨x3_1, x4_1, rfl, HA, HK1, HO_3, BK127, BK128, HB⟩ := hrel
    cases gk with
    | zero => exact absurd HA.out (by simp [spec_l20Cover.l0])
    | succ k1 =>
      have H := HA.out
      clear HA
      simp only [spec_l20Cover.l0] at H
      by_cases c6 : x4_1 < a0_1
      · rw [if_pos c6] at H
        have c6b0 : decide (x4_1 < a0_1) = true := decide_eq_true c6
        clear c6
        obtain ⟨y132, hy132⟩ : ∃ y_ : List Int, y_ = (([] : List Int)) := ⟨_, rfl⟩
        replace H : ((spec_l13Rows.f k1 a0_0 a0_1 l0_2 x4_1).bind fun t135 => (spec_l20Cover.l1 k1 x3_1 x4_1 y132 t135 0 a0_0 a0_1 l0_2)) = some (r1, r2) := by first | (rw [hy132]; with_reducible exact H) | (have H2_ := (Option.bind_some _ _).symm.trans H; rw [hy132]; with_reducible exact H2_) | (have H2_ := (Option.bind_some _ _).symm.trans H; with_reducible exact H2_) | with_reducible exact H | (rw [hy132]; exact H) | exact H
        have Ny132 := Aside0.mk hy132
        clear hy132
        obtain ⟨t135, A70, H⟩ := Option.bind_eq_some_iff.mp H
        have A7 := Aside0.mk A70
        clear A70
        have H' := Aside0.mk H
        clear H
        have hnb8 := NB127_128.out
        have hnc8 := NB128_127.out
        have hcz9_0 : wr.cell? ⟨gb127, 0, none⟩ = some (.int .i64 a0_0) := bc BK127
        have hcz9_1 : wr.cell? ⟨gb127, 1, none⟩ = some (.int .i64 a0_1) := bc BK127
        have hcz9_2 : wr.cell? ⟨gb127, 2, none⟩ = some (.slice A0_2 l0_2.length c0_2) := bc BK127
        have hfz9_0 := blk_frozen BK127.out 0
        have hfz9_1 := blk_frozen BK127.out 1
        have hfz9_2 := blk_frozen BK127.out 2
        go_wp2_with (first | ((with_reducible refine gD 17 ?_); refine Kd.R_lit (Kd.int .i64) _ 2 ?hg (N := 17) ?hd (xs := ([] : List Int)) (inner := []) (ok := fun _ => True) (okp := fun _ => True) ?hr ?hp (fun _ hk => hk) trivial (Below.refl _ _) (Nat.le_refl _) (by simp) ?_; (case hd => rfl); (case hg => rfl); (case hr => first | (go_simp; done) | (go_simp; rfl)); (case hp => exact (Reps.none _ _)); intro v133 w10 ho11 hb hg_ hnew_; clear hg_ hnew_; (first | rw [← Ny132.out] at ho11 | (simp only [Int.reduceToNat] at ho11; rw [← Ny132.out] at ho11)); replace HO_3 := Aside0.mk (Kd.S_elder' (S1 HO_3) (Kd.R_base ho11) hb); have HO134 := Aside0.mk (Kd.R_lower ho11 (below_size Hb)); replace BK127 := Aside0.mk (blk_below (B1 BK127) hb); replace BK128 := Aside0.mk (blk_below (B1 BK128) hb); replace HB := Aside0.mk (below_step Hb hb); clear hb ho11; have hcz12_0 : w10.cell? ⟨gb127, 0, none⟩ = some (.int .i64 a0_0) := bc BK127; have hcz12_1 : w10.cell? ⟨gb127, 1, none⟩ = some (.int .i64 a0_1) := bc BK127; have hcz12_2 : w10.cell? ⟨gb127, 2, none⟩ = some (.slice A0_2 l0_2.length c0_2) := bc BK127; have hfz12_0 := blk_frozen BK127.out 0; have hfz12_1 := blk_frozen BK127.out 1; have hfz12_2 := blk_frozen BK127.out 2) | (go_at_call 25; (with_reducible refine (spec_l13Rows.calls k1 a0_0 a0_1 _ _ l0_2 x4_1 t135 _ ?side1 ?side2 A7.out).mono ?_); (case side1 => exact Kd.C_below HR0_2.out Hb); (case side2 => exact HC0_2.out); rintro e w13 ⟨v136, rfl, ho0, hb⟩; replace HO_3 := Aside0.mk (Kd.S_elder' (S1 HO_3) (Kd.R_base ho0) hb); have HO137 := Aside0.mk (Kd.R_lower (Kd.R_new' ho0 (Kd.R_lt (R1 HO134))) (below_size Hb)); replace HO134 := Aside0.mk (Kd.R_elder' (R1 HO134) (Kd.R_base ho0) hb); replace BK127 := Aside0.mk (blk_below (B1 BK127) hb); replace BK128 := Aside0.mk (blk_below (B1 BK128) hb); replace HB := Aside0.mk (below_step Hb hb); (try clear hb); (try clear hb2); (try clear hk); (try clear hi); (try clear ho0)))
        repeat (go_quiet (first | ((with_reducible refine gD 17 ?_); refine Kd.R_lit (Kd.int .i64) _ 2 ?hg (N := 17) ?hd (xs := ([] : List Int)) (inner := []) (ok := fun _ => True) (okp := fun _ => True) ?hr ?hp (fun _ hk => hk) trivial (Below.refl _ _) (Nat.le_refl _) (by simp) ?_; (case hd => rfl); (case hg => rfl); (case hr => first | (go_simp; done) | (go_simp; rfl)); (case hp => exact (Reps.none _ _)); intro v133 w10 ho11 hb hg_ hnew_; clear hg_ hnew_; (first | rw [← Ny132.out] at ho11 | (simp only [Int.reduceToNat] at ho11; rw [← Ny132.out] at ho11)); replace HO_3 := Aside0.mk (Kd.S_elder' (S1 HO_3) (Kd.R_base ho11) hb); have HO134 := Aside0.mk (Kd.R_lower ho11 (below_size Hb)); replace BK127 := Aside0.mk (blk_below (B1 BK127) hb); replace BK128 := Aside0.mk (blk_below (B1 BK128) hb); replace HB := Aside0.mk (below_step Hb hb); clear hb ho11; have hcz12_0 : w10.cell? ⟨gb127, 0, none⟩ = some (.int .i64 a0_0) := bc BK127; have hcz12_1 : w10.cell? ⟨gb127, 1, none⟩ = some (.int .i64 a0_1) := bc BK127; have hcz12_2 : w10.cell? ⟨gb127, 2, none⟩ = some (.slice A0_2 l0_2.length c0_2) := bc BK127; have hfz12_0 := blk_frozen BK127.out 0; have hfz12_1 := blk_frozen BK127.out 1; have hfz12_2 := blk_frozen BK127.out 2) | (go_at_call 25; (with_reducible refine (spec_l13Rows.calls k1 a0_0 a0_1 _ _ l0_2 x4_1 t135 _ ?side1 ?side2 A7.out).mono ?_); (case side1 => exact Kd.C_below HR0_2.out Hb); (case side2 => exact HC0_2.out); rintro e w13 ⟨v136, rfl, ho0, hb⟩; replace HO_3 := Aside0.mk (Kd.S_elder' (S1 HO_3) (Kd.R_base ho0) hb); have HO137 := Aside0.mk (Kd.R_lower (Kd.R_new' ho0 (Kd.R_lt (R1 HO134))) (below_size Hb)); replace HO134 := Aside0.mk (Kd.R_elder' (R1 HO134) (Kd.R_base ho0) hb); replace BK127 := Aside0.mk (blk_below (B1 BK127) hb); replace BK128 := Aside0.mk (blk_below (B1 BK128) hb); replace HB := Aside0.mk (below_step Hb hb); (try clear hb); (try clear hb2); (try clear hk); (try clear hi); (try clear ho0))); try go_wp2_with (first | ((with_reducible refine gD 17 ?_); refine Kd.R_lit (Kd.int .i64) _ 2 ?hg (N := 17) ?hd (xs := ([] : List Int)) (inner := []) (ok := fun _ => True) (okp := fun _ => True) ?hr ?hp (fun _ hk => hk) trivial (Below.refl _ _) (Nat.le_refl _) (by simp) ?_; (case hd => rfl); (case hg => rfl); (case hr => first | (go_simp; done) | (go_simp; rfl)); (case hp => exact (Reps.none _ _)); intro v133 w10 ho11 hb hg_ hnew_; clear hg_ hnew_; (first | rw [← Ny132.out] at ho11 | (simp only [Int.reduceToNat] at ho11; rw [← Ny132.out] at ho11)); replace HO_3 := Aside0.mk (Kd.S_elder' (S1 HO_3) (Kd.R_base ho11) hb); have HO134 := Aside0.mk (Kd.R_lower ho11 (below_size Hb)); replace BK127 := Aside0.mk (blk_below (B1 BK127) hb); replace BK128 := Aside0.mk (blk_below (B1 BK128) hb); replace HB := Aside0.mk (below_step Hb hb); clear hb ho11; have hcz12_0 : w10.cell? ⟨gb127, 0, none⟩ = some (.int .i64 a0_0) := bc BK127; have hcz12_1 : w10.cell? ⟨gb127, 1, none⟩ = some (.int .i64 a0_1) := bc BK127; have hcz12_2 : w10.cell? ⟨gb127, 2, none⟩ = some (.slice A0_2 l0_2.length c0_2) := bc BK127; have hfz12_0 := blk_frozen BK127.out 0; have hfz12_1 := blk_frozen BK127.out 1; have hfz12_2 := blk_frozen BK127.out 2) | (go_at_call 25; (with_reducible refine (spec_l13Rows.calls k1 a0_0 a0_1 _ _ l0_2 x4_1 t135 _ ?side1 ?side2 A7.out).mono ?_); (case side1 => exact Kd.C_below HR0_2.out Hb); (case side2 => exact HC0_2.out); rintro e w13 ⟨v136, rfl, ho0, hb⟩; replace HO_3 := Aside0.mk (Kd.S_elder' (S1 HO_3) (Kd.R_base ho0) hb); have HO137 := Aside0.mk (Kd.R_lower (Kd.R_new' ho0 (Kd.R_lt (R1 HO134))) (below_size Hb)); replace HO134 := Aside0.mk (Kd.R_elder' (R1 HO134) (Kd.R_base ho0) hb); replace BK127 := Aside0.mk (blk_below (B1 BK127) hb); replace BK128 := Aside0.mk (blk_below (B1 BK128) hb); replace HB := Aside0.mk (below_step Hb hb); (try clear hb); (try clear hb2); (try clear hk); (try clear hi); (try clear ho0))))
        go_loopg [5, 7] k1 (fun kq v5 v7 w' => ∃ (x5_2 : List Int) (x7_2 : Int), v7 = .int .i64 x7_2 ∧ Aside0 (spec_l20Cover.l1 kq x3_1 x4_1 x5_2 t135 x7_2 a0_0 a0_1 l0_2 = some (r1, r2)) ∧ Aside0 (kq ≤ k1) ∧ Aside0 (Kd.S (Kd.slice 2 (Kd.int .i64)) 43 w' w.heap.size (fun k_ => some k_ ≠ (v5 : Value).ownBlock ∧ some k_ ≠ (v136 : Value).ownBlock) u3 x3_1) ∧ Aside0 (Kd.R (Kd.int .i64) 2 w' w.heap.size (fun k_ => some k_ ≠ (v136 : Value).ownBlock) v5 x5_2) ∧ Aside0 (Kd.R (Kd.int .i64) 2 w' w.heap.size (fun k_ => some k_ ≠ (v5 : Value).ownBlock) v136 t135) ∧ Aside0 (w'.heap[gb127]? = some (.cells #[.int .i64 a0_0, .int .i64 a0_1, (.slice A0_2 l0_2.length c0_2)] 30 (0, 0))) ∧ Aside0 (w'.heap[gb128]? = some (.cells #[.int .i64 0, (.slice none 0 0)] 27 (0, 0))) ∧ Aside0 (Below w.heap.size w w'))
        case atStart => exact ⟨(y132), (0), Fs, H', ⟨Nat.le_refl _⟩, ⟨by (with_reducible repeat (first | apply Kd.S_alloc | apply Kd.S_drewN | apply Kd.S_drew)); exact Kd.S_mono HO_3.out (fun _ hk => ⟨hk.1.2, hk.2⟩)⟩, ⟨by (with_reducible repeat (first | apply Kd.R_alloc | apply Kd.R_drewN | apply Kd.R_drew)); exact Kd.R_mono HO134.out (fun _ hk => hk.2)⟩, ⟨by (with_reducible repeat (first | apply Kd.R_alloc | apply Kd.R_drewN | apply Kd.R_drew)); exact Kd.R_mono HO137.out (fun _ hk => hk.2)⟩, ⟨B1 BK127⟩, ⟨B1 BK128⟩, ⟨Hb⟩⟩
        case round =>
          clear H'
          try clear c1
          try clear p2
          try clear c6
          try clear c6b0
          try clear c8
          try clear hcz12_0
          try clear hcz12_1
          try clear hcz12_2
          try clear hcz9_0
          try clear hcz9_1
          try clear hcz9_2
          try clear hfz12_0
          try clear hfz12_1
          try clear hfz12_2
          try clear hfz9_0
          try clear hfz9_1
          try clear hfz9_2
          try clear p2
          obtain ⟨x5_2, x7_2, rfl, HA, HK2, HO_3, HO_5, HO_6, BK127, BK128, HB⟩ := hrel
          cases gk with
          | zero => exact absurd HA.out (by simp [spec_l20Cover.l1])
          | succ k2 =>
            have H := HA.out
            clear HA
            simp only [spec_l20Cover.l1] at H
            by_cases c14 : x7_2 < (t135.length : Int)
            · rw [if_pos c14] at H
              have c14b0 : decide (x7_2 < (t135.length : Int)) = true := decide_eq_true c14
              clear c14
              by_cases c15 : 0 ≤ x7_2
              · rw [if_pos c15] at H
                have c15b0 : decide (0 ≤ x7_2) = true := decide_eq_true c15
                clear c15
                by_cases c16 : x5_2.length < 17592186044416
                · rw [if_pos c16] at H
                  have LMc16 := Aside0.mk c16
                  clear c16
                  obtain ⟨y139, hy139⟩ : ∃ y_ : List Int, y_ = (x5_2 ++ [wrap64 ((rd t135 x7_2) + 1)]) := ⟨_, rfl⟩
                  replace H : (spec_l20Cover.l1 k2 x3_1 x4_1 y139 t135 (wrap64 (x7_2 + 1)) a0_0 a0_1 l0_2) = some (r1, r2) := by first | (rw [hy139]; with_reducible exact H) | (have H2_ := (Option.bind_some _ _).symm.trans H; rw [hy139]; with_reducible exact H2_) | (have H2_ := (Option.bind_some _ _).symm.trans H; with_reducible exact H2_) | with_reducible exact H | (rw [hy139]; exact H) | exact H
                  have Ny139 := Aside0.mk hy139
                  clear hy139
                  have H' := Aside0.mk H
                  clear H
                  obtain ⟨Ao17, co17, eo17⟩ := Kd.R_slice HO_6.out
                  subst eo17
                  have p138 : 0 ≤ (x7_2 : Int) := oD
                  have q138 : x7_2 < (t135.length : Int) := oD
                  (try (obtain ⟨Aq_, cq_, eq_⟩ := Kd.R_slice HO_6.out; subst eq_))
                  obtain ⟨ad138, e138, hx138_0⟩ := Kd.at_int (Kd.R_reads' HO_6.out).2.2 x7_2 p138 q138
                  cases e138
                  replace p138 := eq_true p138
                  replace q138 := eq_true q138
                  go_wp2_with (first | ((with_reducible refine gate_builtin (b := .append) (xs := #[.tmp 27, .tmp 33]) rfl ?_); at_builtin; refine Kd.R_append (Kd.int .i64) (w0 := w) w.heap.size rfl (.tmp 27) (.tmp 33) 43 2 (.int .i64 0) 8 rfl Try.underlying43 info2 rfl (by decide) (by omega) u5 x5_2 (wrap64 ((rd t135 x7_2) + 1)) [.int .i64 (wrap64 ((rd t135 x7_2) + 1))] (fun k_ => some k_ ≠ (.slice (some ad138) t135.length co17 : Value).ownBlock) (fun _ => False) rfl rfl ?aP (fun _ hk => hk.elim) ?aF ?aO ?aB ?aS ?aL ?_; (case aP => exact rfl); (case aB => exact Hb); (case aF => exact (fun k_ hk => Kd.fresh' (Kd.R_lt (R1 HO_6)) k_ hk)); (case aO => exact (R1 HO_5)); (case aS => exact (below_size Hb)); (case aL => have := LMc16.out; omega); intro v140 w18 ho hb hg hat; rw [← Ny139.out] at ho; replace HO_3 := Aside0.mk (Kd.S_after (ok := (fun k_ => some k_ ≠ (.slice (some ad138) t135.length co17 : Value).ownBlock)) (by (with_reducible repeat (first | apply Kd.S_alloc | apply Kd.S_drewN | apply Kd.S_drew)); exact Kd.S_mono HO_3.out (fun _ hk => ⟨hk.2, hk.1⟩)) hg hat); replace HO_6 := Aside0.mk (Kd.R_after (ok := (fun _ => True)) (by (with_reducible repeat (first | apply Kd.R_alloc | apply Kd.R_drewN | apply Kd.R_drew)); exact Kd.R_mono HO_6.out (fun _ hk => ⟨trivial, hk⟩)) hg hat); replace BK127 := Aside0.mk (blk_grown (B1 BK127) hg (Kd.R_ne HO_5.out BK127.out (by decide))); replace BK128 := Aside0.mk (blk_grown (B1 BK128) hg (Kd.R_ne HO_5.out BK128.out (by decide))); replace HB := Aside0.mk (hb); have HO141 := Aside0.mk (ho); clear HO_5; clear ho hb hg hat))
                  repeat (go_quiet (first | ((with_reducible refine gate_builtin (b := .append) (xs := #[.tmp 27, .tmp 33]) rfl ?_); at_builtin; refine Kd.R_append (Kd.int .i64) (w0 := w) w.heap.size rfl (.tmp 27) (.tmp 33) 43 2 (.int .i64 0) 8 rfl Try.underlying43 info2 rfl (by decide) (by omega) u5 x5_2 (wrap64 ((rd t135 x7_2) + 1)) [.int .i64 (wrap64 ((rd t135 x7_2) + 1))] (fun k_ => some k_ ≠ (.slice (some ad138) t135.length co17 : Value).ownBlock) (fun _ => False) rfl rfl ?aP (fun _ hk => hk.elim) ?aF ?aO ?aB ?aS ?aL ?_; (case aP => exact rfl); (case aB => exact Hb); (case aF => exact (fun k_ hk => Kd.fresh' (Kd.R_lt (R1 HO_6)) k_ hk)); (case aO => exact (R1 HO_5)); (case aS => exact (below_size Hb)); (case aL => have := LMc16.out; omega); intro v140 w18 ho hb hg hat; rw [← Ny139.out] at ho; replace HO_3 := Aside0.mk (Kd.S_after (ok := (fun k_ => some k_ ≠ (.slice (some ad138) t135.length co17 : Value).ownBlock)) (by (with_reducible repeat (first | apply Kd.S_alloc | apply Kd.S_drewN | apply Kd.S_drew)); exact Kd.S_mono HO_3.out (fun _ hk => ⟨hk.2, hk.1⟩)) hg hat); replace HO_6 := Aside0.mk (Kd.R_after (ok := (fun _ => True)) (by (with_reducible repeat (first | apply Kd.R_alloc | apply Kd.R_drewN | apply Kd.R_drew)); exact Kd.R_mono HO_6.out (fun _ hk => ⟨trivial, hk⟩)) hg hat); replace BK127 := Aside0.mk (blk_grown (B1 BK127) hg (Kd.R_ne HO_5.out BK127.out (by decide))); replace BK128 := Aside0.mk (blk_grown (B1 BK128) hg (Kd.R_ne HO_5.out BK128.out (by decide))); replace HB := Aside0.mk (hb); have HO141 := Aside0.mk (ho); clear HO_5; clear ho hb hg hat)); try go_wp2_with (first | ((with_reducible refine gate_builtin (b := .append) (xs := #[.tmp 27, .tmp 33]) rfl ?_); at_builtin; refine Kd.R_append (Kd.int .i64) (w0 := w) w.heap.size rfl (.tmp 27) (.tmp 33) 43 2 (.int .i64 0) 8 rfl Try.underlying43 info2 rfl (by decide) (by omega) u5 x5_2 (wrap64 ((rd t135 x7_2) + 1)) [.int .i64 (wrap64 ((rd t135 x7_2) + 1))] (fun k_ => some k_ ≠ (.slice (some ad138) t135.length co17 : Value).ownBlock) (fun _ => False) rfl rfl ?aP (fun _ hk => hk.elim) ?aF ?aO ?aB ?aS ?aL ?_; (case aP => exact rfl); (case aB => exact Hb); (case aF => exact (fun k_ hk => Kd.fresh' (Kd.R_lt (R1 HO_6)) k_ hk)); (case aO => exact (R1 HO_5)); (case aS => exact (below_size Hb)); (case aL => have := LMc16.out; omega); intro v140 w18 ho hb hg hat; rw [← Ny139.out] at ho; replace HO_3 := Aside0.mk (Kd.S_after (ok := (fun k_ => some k_ ≠ (.slice (some ad138) t135.length co17 : Value).ownBlock)) (by (with_reducible repeat (first | apply Kd.S_alloc | apply Kd.S_drewN | apply Kd.S_drew)); exact Kd.S_mono HO_3.out (fun _ hk => ⟨hk.2, hk.1⟩)) hg hat); replace HO_6 := Aside0.mk (Kd.R_after (ok := (fun _ => True)) (by (with_reducible repeat (first | apply Kd.R_alloc | apply Kd.R_drewN | apply Kd.R_drew)); exact Kd.R_mono HO_6.out (fun _ hk => ⟨trivial, hk⟩)) hg hat); replace BK127 := Aside0.mk (blk_grown (B1 BK127) hg (Kd.R_ne HO_5.out BK127.out (by decide))); replace BK128 := Aside0.mk (blk_grown (B1 BK128) hg (Kd.R_ne HO_5.out BK128.out (by decide))); replace HB := Aside0.mk (hb); have HO141 := Aside0.mk (ho); clear HO_5; clear ho hb hg hat)))
                  go_roundg k2
                  case measure => have := HK1.out; have := HK2.out; omega
                  case rel => exact ⟨(y139), (wrap64 (x7_2 + 1)), Fs, H', ⟨by have := HK1.out; have := HK2.out; omega⟩, ⟨by (with_reducible repeat (first | apply Kd.S_alloc | apply Kd.S_drewN | apply Kd.S_drew)); exact Kd.S_mono HO_3.out (fun _ hk => ⟨hk.2, hk.1⟩)⟩, ⟨R1 HO141⟩, ⟨by (with_reducible repeat (first | apply Kd.R_alloc | apply Kd.R_drewN | apply Kd.R_drew)); exact Kd.R_mono HO_6.out (fun _ hk => hk.2)⟩, ⟨B1 BK127⟩, ⟨B1 BK128⟩, ⟨Hb⟩⟩
                · rw [if_neg c16] at H
                  exact absurd H (by simp)
              · rw [if_neg c15] at H
                exact absurd H (by simp)
            · rw [if_neg c14] at H
              have c14b0 : decide (x7_2 < (t135.length : Int)) = false := decide_eq_false c14
              clear c14
              by_cases c19 : x3_1.length < 5864062014805
              · rw [if_pos c19] at H
                have LMc19 := Aside0.mk c19
                clear c19
                obtain ⟨y142, hy142⟩ : ∃ y_ : List (List Int), y_ = (x3_1 ++ [x5_2]) := ⟨_, rfl⟩
                replace H : (spec_l20Cover.l0 k2 y142 (wrap64 (x4_1 + 1)) a0_0 a0_1 l0_2) = some (r1, r2) := by first | (rw [hy142]; with_reducible exact H) | (have H2_ := (Option.bind_some _ _).symm.trans H; rw [hy142]; with_reducible exact H2_) | (have H2_ := (Option.bind_some _ _).symm.trans H; with_reducible exact H2_) | with_reducible exact H | (rw [hy142]; exact H) | exact H
                have Ny142 := Aside0.mk hy142
                clear hy142
                have H' := Aside0.mk H
                clear H
                obtain ⟨Ao20, co20, eo20⟩ := Kd.R_slice HO_6.out
                subst eo20
                obtain ⟨Ao22, co22, eo22⟩ := Kd.R_slice HO_5.out
                subst eo22
                go_wp2_with (first | ((with_reducible refine gate_builtin (b := .append) (xs := #[.tmp 35, .tmp 37]) rfl ?_); at_builtin; refine Kd.S_append (Kd.slice 2 (Kd.int .i64)) (w0 := w) w.heap.size rfl (.tmp 35) (.tmp 37) 22 43 (.slice none 0 0) 24 rfl Try.underlying22 info43 rfl (by decide) (by omega) u3 x3_1 x5_2 [.slice Ao22 x5_2.length co22] (fun k_ => some k_ ≠ (.slice Ao20 t135.length co20 : Value).ownBlock) (fun k_ => some k_ = (.slice Ao22 x5_2.length co22 : Value).ownBlock) rfl rfl ?aP (fun k_ hk_ => ((Kd.R_mono (ok' := fun k_ => ((fun k_ => some k_ ≠ (.slice Ao20 t135.length co20 : Value).ownBlock)) k_ ∧ some k_ ≠ (u3 : Value).ownBlock) (Kd.R_apart' (HO_5.out) (Kd.S_typed HO_3.out) (by decide)) (fun k_ hk => ⟨hk.1, hk.2⟩))).1 k_ hk_.symm) ?aF ?aO ?aB ?aS ?aL ?_; (case aP => exact Kd.M_row (Kd.R_mono (Kd.R_tight rfl (Kd.R_mono (ok' := fun k_ => ((fun k_ => some k_ ≠ (.slice Ao20 t135.length co20 : Value).ownBlock)) k_ ∧ some k_ ≠ (u3 : Value).ownBlock) (Kd.R_apart' (HO_5.out) (Kd.S_typed HO_3.out) (by decide)) (fun k_ hk => ⟨hk.1, hk.2⟩))) (fun _ h_ => h_))); (case aB => exact Hb); (case aF => exact (fun k_ hk => Kd.fresh' (Kd.R_lt (R1 HO_6)) k_ hk)); (case aO => exact (by (with_reducible repeat (first | apply Kd.S_alloc | apply Kd.S_drewN | apply Kd.S_drew)); exact Kd.S_mono HO_3.out (fun k_ hk => ⟨hk.2, fun e_ => hk.1 e_⟩))); (case aS => exact (below_size Hb)); (case aL => have := LMc19.out; omega); intro v143 w21 ho hb hg hat; rw [← Ny142.out] at ho; replace HO_6 := Aside0.mk (Kd.R_over' (R1 HO_6) (Kd.S_typed (S1 HO_3)) (by decide) hg); replace BK127 := Aside0.mk (blk_grown (B1 BK127) hg (Kd.S_ne HO_3.out BK127.out (by decide))); replace BK128 := Aside0.mk (blk_grown (B1 BK128) hg (Kd.S_ne HO_3.out BK128.out (by decide))); replace HB := Aside0.mk (hb); have HO144 := Aside0.mk (ho); clear HO_3; clear HO_5; clear ho hb hg hat))
                repeat (go_quiet (first | ((with_reducible refine gate_builtin (b := .append) (xs := #[.tmp 35, .tmp 37]) rfl ?_); at_builtin; refine Kd.S_append (Kd.slice 2 (Kd.int .i64)) (w0 := w) w.heap.size rfl (.tmp 35) (.tmp 37) 22 43 (.slice none 0 0) 24 rfl Try.underlying22 info43 rfl (by decide) (by omega) u3 x3_1 x5_2 [.slice Ao22 x5_2.length co22] (fun k_ => some k_ ≠ (.slice Ao20 t135.length co20 : Value).ownBlock) (fun k_ => some k_ = (.slice Ao22 x5_2.length co22 : Value).ownBlock) rfl rfl ?aP (fun k_ hk_ => ((Kd.R_mono (ok' := fun k_ => ((fun k_ => some k_ ≠ (.slice Ao20 t135.length co20 : Value).ownBlock)) k_ ∧ some k_ ≠ (u3 : Value).ownBlock) (Kd.R_apart' (HO_5.out) (Kd.S_typed HO_3.out) (by decide)) (fun k_ hk => ⟨hk.1, hk.2⟩))).1 k_ hk_.symm) ?aF ?aO ?aB ?aS ?aL ?_; (case aP => exact Kd.M_row (Kd.R_mono (Kd.R_tight rfl (Kd.R_mono (ok' := fun k_ => ((fun k_ => some k_ ≠ (.slice Ao20 t135.length co20 : Value).ownBlock)) k_ ∧ some k_ ≠ (u3 : Value).ownBlock) (Kd.R_apart' (HO_5.out) (Kd.S_typed HO_3.out) (by decide)) (fun k_ hk => ⟨hk.1, hk.2⟩))) (fun _ h_ => h_))); (case aB => exact Hb); (case aF => exact (fun k_ hk => Kd.fresh' (Kd.R_lt (R1 HO_6)) k_ hk)); (case aO => exact (by (with_reducible repeat (first | apply Kd.S_alloc | apply Kd.S_drewN | apply Kd.S_drew)); exact Kd.S_mono HO_3.out (fun k_ hk => ⟨hk.2, fun e_ => hk.1 e_⟩))); (case aS => exact (below_size Hb)); (case aL => have := LMc19.out; omega); intro v143 w21 ho hb hg hat; rw [← Ny142.out] at ho; replace HO_6 := Aside0.mk (Kd.R_over' (R1 HO_6) (Kd.S_typed (S1 HO_3)) (by decide) hg); replace BK127 := Aside0.mk (blk_grown (B1 BK127) hg (Kd.S_ne HO_3.out BK127.out (by decide))); replace BK128 := Aside0.mk (blk_grown (B1 BK128) hg (Kd.S_ne HO_3.out BK128.out (by decide))); replace HB := Aside0.mk (hb); have HO144 := Aside0.mk (ho); clear HO_3; clear HO_5; clear ho hb hg hat)); try go_wp2_with (first | ((with_reducible refine gate_builtin (b := .append) (xs := #[.tmp 35, .tmp 37]) rfl ?_); at_builtin; refine Kd.S_append (Kd.slice 2 (Kd.int .i64)) (w0 := w) w.heap.size rfl (.tmp 35) (.tmp 37) 22 43 (.slice none 0 0) 24 rfl Try.underlying22 info43 rfl (by decide) (by omega) u3 x3_1 x5_2 [.slice Ao22 x5_2.length co22] (fun k_ => some k_ ≠ (.slice Ao20 t135.length co20 : Value).ownBlock) (fun k_ => some k_ = (.slice Ao22 x5_2.length co22 : Value).ownBlock) rfl rfl ?aP (fun k_ hk_ => ((Kd.R_mono (ok' := fun k_ => ((fun k_ => some k_ ≠ (.slice Ao20 t135.length co20 : Value).ownBlock)) k_ ∧ some k_ ≠ (u3 : Value).ownBlock) (Kd.R_apart' (HO_5.out) (Kd.S_typed HO_3.out) (by decide)) (fun k_ hk => ⟨hk.1, hk.2⟩))).1 k_ hk_.symm) ?aF ?aO ?aB ?aS ?aL ?_; (case aP => exact Kd.M_row (Kd.R_mono (Kd.R_tight rfl (Kd.R_mono (ok' := fun k_ => ((fun k_ => some k_ ≠ (.slice Ao20 t135.length co20 : Value).ownBlock)) k_ ∧ some k_ ≠ (u3 : Value).ownBlock) (Kd.R_apart' (HO_5.out) (Kd.S_typed HO_3.out) (by decide)) (fun k_ hk => ⟨hk.1, hk.2⟩))) (fun _ h_ => h_))); (case aB => exact Hb); (case aF => exact (fun k_ hk => Kd.fresh' (Kd.R_lt (R1 HO_6)) k_ hk)); (case aO => exact (by (with_reducible repeat (first | apply Kd.S_alloc | apply Kd.S_drewN | apply Kd.S_drew)); exact Kd.S_mono HO_3.out (fun k_ hk => ⟨hk.2, fun e_ => hk.1 e_⟩))); (case aS => exact (below_size Hb)); (case aL => have := LMc19.out; omega); intro v143 w21 ho hb hg hat; rw [← Ny142.out] at ho; replace HO_6 := Aside0.mk (Kd.R_over' (R1 HO_6) (Kd.S_typed (S1 HO_3)) (by decide) hg); replace BK127 := Aside0.mk (blk_grown (B1 BK127) hg (Kd.S_ne HO_3.out BK127.out (by decide))); replace BK128 := Aside0.mk (blk_grown (B1 BK128) hg (Kd.S_ne HO_3.out BK128.out (by decide))); replace HB := Aside0.mk (hb); have HO144 := Aside0.mk (ho); clear HO_3; clear HO_5; clear ho hb hg hat)))
                go_roundg k2
                case measure => have := HK1.out; have := HK2.out; omega
                case rel => exact ⟨(y142), (wrap64 (x4_1 + 1)), Fs, H', ⟨by have := HK1.out; have := HK2.out; omega⟩, ⟨by (with_reducible repeat (first | apply Kd.S_alloc | apply Kd.S_drewN | apply Kd.S_drew)); exact Kd.S_mono HO144.out (fun _ hk => trivial)⟩, ⟨B1 BK127⟩, ⟨B1 BK128⟩, ⟨Hb⟩⟩
              · rw [if_neg c19] at H
                exact absurd H (by simp)
      · rw [if_neg c6] at H
        have c6b0 : decide (x4_1 < a0_1) = false := decide_eq_false c6
        clear c6
        have H' := Aside0.mk H
        clear H
        have hnb23 := NB127_128.out
        have hnc23 := NB128_127.out
        have hcz24_0 : wr.cell? ⟨gb127, 0, none⟩ = some (.int .i64 a0_0) := bc BK127
        have hcz24_1 : wr.cell? ⟨gb127, 1, none⟩ = some (.int .i64 a0_1) := bc BK127
        have hcz24_2 : wr.cell? ⟨gb127, 2, none⟩ = some (.slice A0_2 l0_2.length c0_2) := bc BK127
        have hfz24_0 := blk_frozen BK127.out 0
        have hfz24_1 := blk_frozen BK127.out 1
        have hfz24_2 := blk_frozen BK127.out 2
        go_wp2
        repeat (go_quiet (fail); try go_wp2)
        go_loopg [3, 8] k1 (fun kq v3 v8 w' => ∃ (x3_2 : List (List Int)) (x8_2 : Int), v8 = .int .i64 x8_2 ∧ Aside0 (spec_l20Cover.l2 kq x3_2 x8_2 a0_0 a0_1 l0_2 = some (r1, r2)) ∧ Aside0 (kq ≤ k1) ∧ Aside0 (Kd.S (Kd.slice 2 (Kd.int .i64)) 43 w' w.heap.size (fun _ => True) v3 x3_2) ∧ Aside0 (w'.heap[gb127]? = some (.cells #[.int .i64 a0_0, .int .i64 a0_1, (.slice A0_2 l0_2.length c0_2)] 30 (0, 0))) ∧ Aside0 (w'.heap[gb128]? = some (.cells #[.int .i64 0, (.slice none 0 0)] 27 (0, 0))) ∧ Aside0 (Below w.heap.size w w'))
        case atStart => exact ⟨(x3_1), (0), Fs, H', ⟨Nat.le_refl _⟩, ⟨S1 HO_3⟩, ⟨B1 BK127⟩, ⟨B1 BK128⟩, ⟨Hb⟩⟩
        case round =>
          clear H'
          try clear c1
          try clear p1
          try clear q1
          try clear hx1
          try clear c2
          try clear p2
          try clear c6
          try clear c6b0
          try clear p6
          try clear c8
          try clear p13
          try clear q13
          try clear hx13
          try clear c14
          try clear c14b0
          try clear c15
          try clear c15b0
          try clear c16
          try clear c19
          try clear c23
          try clear hcz12_0
          try clear hcz12_1
          try clear hcz12_2
          try clear hcz24_0
          try clear hcz24_1
          try clear hcz24_2
          try clear hcz9_0
          try clear hcz9_1
          try clear hcz9_2
          try clear hfz12_0
          try clear hfz12_1
          try clear hfz12_2
          try clear hfz24_0
          try clear hfz24_1
          try clear hfz24_2
          try clear hfz9_0
          try clear hfz9_1
          try clear hfz9_2
          try clear hx138_0
          try clear p138
          try clear p2
          try clear q138
          obtain ⟨x3_2, x8_2, rfl, HA, HK2, HO_3, BK127, BK128, HB⟩ := hrel
          cases gk with
          | zero => exact absurd HA.out (by simp [spec_l20Cover.l2])
          | succ k2 =>
            have H := HA.out
            clear HA
            simp only [spec_l20Cover.l2] at H
            by_cases c25 : x8_2 < (l0_2.length : Int)
            · rw [if_pos c25] at H
              have c25b0 : decide (x8_2 < (l0_2.length : Int)) = true := decide_eq_true c25
              clear c25
              have H' := Aside0.mk H
              clear H
              have hnb26 := NB127_128.out
              have hnc26 := NB128_127.out
              have hcz27_0 : wr.cell? ⟨gb127, 0, none⟩ = some (.int .i64 a0_0) := bc BK127
              have hcz27_1 : wr.cell? ⟨gb127, 1, none⟩ = some (.int .i64 a0_1) := bc BK127
              have hcz27_2 : wr.cell? ⟨gb127, 2, none⟩ = some (.slice A0_2 l0_2.length c0_2) := bc BK127
              have hfz27_0 := blk_frozen BK127.out 0
              have hfz27_1 := blk_frozen BK127.out 1
              have hfz27_2 := blk_frozen BK127.out 2
              go_wp2
              repeat (go_quiet (fail); try go_wp2)
              go_loopg [3, 9] k2 (fun kq v3 v9 w' => ∃ (x3_3 : List (List Int)) (x9_3 : Int), v9 = .int .i64 x9_3 ∧ Aside0 (spec_l20Cover.l3 kq x3_3 x8_2 x9_3 a0_0 a0_1 l0_2 = some (r1, r2)) ∧ Aside0 (kq ≤ k2) ∧ Aside0 (Kd.S (Kd.slice 2 (Kd.int .i64)) 43 w' w.heap.size (fun _ => True) v3 x3_3) ∧ Aside0 (w'.heap[gb127]? = some (.cells #[.int .i64 a0_0, .int .i64 a0_1, (.slice A0_2 l0_2.length c0_2)] 30 (0, 0))) ∧ Aside0 (w'.heap[gb128]? = some (.cells #[.int .i64 0, (.slice none 0 0)] 27 (0, 0))) ∧ Aside0 (Below w.heap.size w w'))
              case atStart => exact ⟨(x3_2), (wrap64 (x8_2 + 1)), Fs, H', ⟨Nat.le_refl _⟩, ⟨S1 HO_3⟩, ⟨B1 BK127⟩, ⟨B1 BK128⟩, ⟨Hb⟩⟩
              case round =>
                clear H'
                try clear c1
                try clear p1
                try clear q1
                try clear hx1
                try clear c2
                try clear p2
                try clear c6
                try clear c6b0
                try clear p6
                try clear c8
                try clear p13
                try clear q13
                try clear hx13
                try clear c14
                try clear c14b0
                try clear c15
                try clear c15b0
                try clear c16
                try clear c19
                try clear c23
                try clear c25
                try clear c25b0
                try clear c26
                try clear hcz12_0
                try clear hcz12_1
                try clear hcz12_2
                try clear hcz24_0
                try clear hcz24_1
                try clear hcz24_2
                try clear hcz27_0
                try clear hcz27_1
                try clear hcz27_2
                try clear hcz9_0
                try clear hcz9_1
                try clear hcz9_2
                try clear hfz12_0
                try clear hfz12_1
                try clear hfz12_2
                try clear hfz24_0
                try clear hfz24_1
                try clear hfz24_2
                try clear hfz27_0
                try clear hfz27_1
                try clear hfz27_2
                try clear hfz9_0
                try clear hfz9_1
                try clear hfz9_2
                try clear hx138_0
                try clear p1
                try clear p13
                try clear p138
                try clear p2
                try clear p6
                try clear q1
                try clear q13
                try clear q138
                obtain ⟨x3_3, x9_3, rfl, HA, HK3, HO_3, BK127, BK128, HB⟩ := hrel
                cases gk with
                | zero => exact absurd HA.out (by simp [spec_l20Cover.l3])
                | succ k3 =>
                  have H := HA.out
                  clear HA
                  simp only [spec_l20Cover.l3] at H
                  by_cases c28 : x9_3 < (l0_2.length : Int)
                  · rw [if_pos c28] at H
                    have c28b0 : decide (x9_3 < (l0_2.length : Int)) = true := decide_eq_true c28
                    clear c28
                    by_cases c29 : 0 ≤ x8_2
                    · rw [if_pos c29] at H
                      have c29b0 : decide (0 ≤ x8_2) = true := decide_eq_true c29
                      clear c29
                      by_cases c30 : x8_2 < (l0_2.length : Int)
                      · rw [if_pos c30] at H
                        have c30b0 : decide (x8_2 < (l0_2.length : Int)) = true := decide_eq_true c30
                        clear c30
                        by_cases c31 : 0 ≤ x9_3
                        · rw [if_pos c31] at H
                          have c31b0 : decide (0 ≤ x9_3) = true := decide_eq_true c31
                          clear c31
                          obtain ⟨t147, A320, H⟩ := Option.bind_eq_some_iff.mp H
                          have A32 := Aside0.mk A320
                          clear A320
                          by_cases c33 : t147 = true
                          · subst c33
                            rw [if_pos rfl] at H
                            obtain ⟨y148, hy148⟩ : ∃ y_ : List Int, y_ = (([wrap64 ((wrap64 (-x8_2)) - 1), wrap64 ((wrap64 (-x9_3)) - 1)] : List Int)) := ⟨_, rfl⟩
                            replace H : (if x3_3.length < 5864062014805 then (spec_l20Cover.l3 k3 (x3_3 ++ [y148]) x8_2 (wrap64 (x9_3 + 1)) a0_0 a0_1 l0_2) else (none)) = some (r1, r2) := by first | (rw [hy148]; with_reducible exact H) | (have H2_ := (Option.bind_some _ _).symm.trans H; rw [hy148]; with_reducible exact H2_) | (have H2_ := (Option.bind_some _ _).symm.trans H; with_reducible exact H2_) | with_reducible exact H | (rw [hy148]; exact H) | exact H
                            have Ny148 := Aside0.mk hy148
                            clear hy148
                            by_cases c34 : x3_3.length < 5864062014805
                            · rw [if_pos c34] at H
                              have LMc34 := Aside0.mk c34
                              clear c34
                              obtain ⟨y151, hy151⟩ : ∃ y_ : List (List Int), y_ = (x3_3 ++ [y148]) := ⟨_, rfl⟩
                              replace H : (spec_l20Cover.l3 k3 y151 x8_2 (wrap64 (x9_3 + 1)) a0_0 a0_1 l0_2) = some (r1, r2) := by first | (rw [hy151]; with_reducible exact H) | (have H2_ := (Option.bind_some _ _).symm.trans H; rw [hy151]; with_reducible exact H2_) | (have H2_ := (Option.bind_some _ _).symm.trans H; with_reducible exact H2_) | with_reducible exact H | (rw [hy151]; exact H) | exact H
                              have Ny151 := Aside0.mk hy151
                              clear hy151
                              have H' := Aside0.mk H
                              clear H
                              have hnb35 := NB127_128.out
                              have hnc35 := NB128_127.out
                              have hcz36_0 : wr.cell? ⟨gb127, 0, none⟩ = some (.int .i64 a0_0) := bc BK127
                              have hcz36_1 : wr.cell? ⟨gb127, 1, none⟩ = some (.int .i64 a0_1) := bc BK127
                              have hcz36_2 : wr.cell? ⟨gb127, 2, none⟩ = some (.slice A0_2 l0_2.length c0_2) := bc BK127
                              have hfz36_0 := blk_frozen BK127.out 0
                              have hfz36_1 := blk_frozen BK127.out 1
                              have hfz36_2 := blk_frozen BK127.out 2
                              have p145 : 0 ≤ (x8_2 : Int) := oD
                              have q145 : x8_2 < (l0_2.length : Int) := oD
                              obtain ⟨ad145, A145_0, c145_0, e145, hx145_0, hl145_0, hi145_0⟩ := at_L1 HR0_2.out x8_2 p145 q145
                              cases e145
                              replace hx145_0 := hxb hx145_0
                              have HR145_0 := Aside0.mk hi145_0
                              have HC145_0 := Aside0.mk hl145_0
                              clear hi145_0 hl145_0
                              replace p145 := eq_true p145
                              replace q145 := eq_true q145
                              have p146 : 0 ≤ (x9_3 : Int) := oD
                              have q146 : x9_3 < (l0_2.length : Int) := oD
                              obtain ⟨ad146, A146_0, c146_0, e146, hx146_0, hl146_0, hi146_0⟩ := at_L1 HR0_2.out x9_3 p146 q146
                              obtain rfl : ad145 = ad146 := (by injection e146)
                              replace hx146_0 := hxb hx146_0
                              have HR146_0 := Aside0.mk hi146_0
                              have HC146_0 := Aside0.mk hl146_0
                              clear hi146_0 hl146_0
                              replace p146 := eq_true p146
                              replace q146 := eq_true q146
                              go_wp2_with (first | (go_at_call 26; (with_reducible refine (spec_l12Overlap.calls k3 _ _ (rd_L1 l0_2 x8_2) _ _ (rd_L1 l0_2 x9_3) true _ ?side1 ?side2 ?side3 ?side4 A32.out).mono ?_); (case side1 => exact Kd.C_below HR145_0.out Hb); (case side2 => exact HC145_0.out); (case side3 => exact Kd.C_below HR146_0.out Hb); (case side4 => exact HC146_0.out); rintro e w' ⟨rfl, ⟨nd, rfl⟩⟩; (try first | exact ⟨rfl, _, World.drewN_drewN _ _ _⟩ | exact ⟨rfl, _, Eq.trans (World.drewN_drewN _ _ _) (congrArg (World.drewN _) (Nat.add_assoc _ _ _))⟩)) | ((with_reducible refine gD 73 ?_); refine Kd.R_lit (Kd.int .i64) _ 2 ?hg (N := 73) ?hd (xs := ([wrap64 ((wrap64 (-x8_2)) - 1), wrap64 ((wrap64 (-x9_3)) - 1)] : List Int)) (inner := [.int .i64 (wrap64 ((wrap64 (-x8_2)) - 1)), .int .i64 (wrap64 ((wrap64 (-x9_3)) - 1))]) (ok := fun _ => True) (okp := fun _ => True) ?hr ?hp (fun _ hk => hk) trivial (Below.refl _ _) (Nat.le_refl _) (by simp) ?_; (case hd => rfl); (case hg => rfl); (case hr => first | (go_simp; done) | (go_simp; rfl)); (case hp => exact (Reps.one (show Kd.M (Kd.int .i64) _ _ _ (wrap64 ((wrap64 (-x8_2)) - 1)) [.int .i64 (wrap64 ((wrap64 (-x8_2)) - 1))] from rfl) (Reps.one (show Kd.M (Kd.int .i64) _ _ _ (wrap64 ((wrap64 (-x9_3)) - 1)) [.int .i64 (wrap64 ((wrap64 (-x9_3)) - 1))] from rfl) (Reps.none _ _)))); intro v149 w37 ho38 hb hg_ hnew_; clear hg_ hnew_; (first | rw [← Ny148.out] at ho38 | (simp only [Int.reduceToNat] at ho38; rw [← Ny148.out] at ho38)); replace HO_3 := Aside0.mk (Kd.S_elder' (S1 HO_3) (Kd.R_base ho38) hb); have HO150 := Aside0.mk (Kd.R_lower ho38 (below_size Hb)); replace BK127 := Aside0.mk (blk_below (B1 BK127) hb); replace BK128 := Aside0.mk (blk_below (B1 BK128) hb); replace HB := Aside0.mk (below_step Hb hb); clear hb ho38; obtain ⟨Ao40, co40, eo40⟩ := Kd.R_slice HO150.out; subst eo40) | ((with_reducible refine gate_builtin (b := .append) (xs := #[.tmp 66, .tmp 74]) rfl ?_); at_builtin; refine Kd.S_append (Kd.slice 2 (Kd.int .i64)) (w0 := w) w.heap.size rfl (.tmp 66) (.tmp 74) 22 43 (.slice none 0 0) 24 rfl Try.underlying22 info43 rfl (by decide) (by omega) u3 x3_3 y148 [.slice Ao40 y148.length co40] (fun _ => True) (fun k_ => some k_ = (.slice Ao40 y148.length co40 : Value).ownBlock) rfl rfl ?aP (fun k_ hk_ => ((Kd.R_mono (ok' := fun k_ => ((fun _ => True)) k_ ∧ some k_ ≠ (u3 : Value).ownBlock) (Kd.R_apart' (HO150.out) (Kd.S_typed HO_3.out) (by decide)) (fun k_ hk => ⟨trivial, hk.2⟩))).1 k_ hk_.symm) ?aF ?aO ?aB ?aS ?aL ?_; (case aP => exact Kd.M_row (Kd.R_mono (Kd.R_tight rfl (Kd.R_mono (ok' := fun k_ => ((fun _ => True)) k_ ∧ some k_ ≠ (u3 : Value).ownBlock) (Kd.R_apart' (HO150.out) (Kd.S_typed HO_3.out) (by decide)) (fun k_ hk => ⟨trivial, hk.2⟩))) (fun _ h_ => h_))); (case aB => exact Hb); (case aF => exact (fun _ _ => trivial)); (case aO => exact (by (with_reducible repeat (first | apply Kd.S_alloc | apply Kd.S_drewN | apply Kd.S_drew)); exact Kd.S_mono HO_3.out (fun k_ hk => ⟨trivial, fun e_ => hk.2 e_⟩))); (case aS => exact (below_size Hb)); (case aL => have := LMc34.out; omega); intro v152 w39 ho hb hg hat; rw [← Ny151.out] at ho; replace BK127 := Aside0.mk (blk_grown (B1 BK127) hg (Kd.S_ne HO_3.out BK127.out (by decide))); replace BK128 := Aside0.mk (blk_grown (B1 BK128) hg (Kd.S_ne HO_3.out BK128.out (by decide))); replace HB := Aside0.mk (hb); have HO153 := Aside0.mk (ho); clear HO_3; clear HO150; clear ho hb hg hat))
                              repeat (go_quiet (first | (go_at_call 26; (with_reducible refine (spec_l12Overlap.calls k3 _ _ (rd_L1 l0_2 x8_2) _ _ (rd_L1 l0_2 x9_3) true _ ?side1 ?side2 ?side3 ?side4 A32.out).mono ?_); (case side1 => exact Kd.C_below HR145_0.out Hb); (case side2 => exact HC145_0.out); (case side3 => exact Kd.C_below HR146_0.out Hb); (case side4 => exact HC146_0.out); rintro e w' ⟨rfl, ⟨nd, rfl⟩⟩; (try first | exact ⟨rfl, _, World.drewN_drewN _ _ _⟩ | exact ⟨rfl, _, Eq.trans (World.drewN_drewN _ _ _) (congrArg (World.drewN _) (Nat.add_assoc _ _ _))⟩)) | ((with_reducible refine gD 73 ?_); refine Kd.R_lit (Kd.int .i64) _ 2 ?hg (N := 73) ?hd (xs := ([wrap64 ((wrap64 (-x8_2)) - 1), wrap64 ((wrap64 (-x9_3)) - 1)] : List Int)) (inner := [.int .i64 (wrap64 ((wrap64 (-x8_2)) - 1)), .int .i64 (wrap64 ((wrap64 (-x9_3)) - 1))]) (ok := fun _ => True) (okp := fun _ => True) ?hr ?hp (fun _ hk => hk) trivial (Below.refl _ _) (Nat.le_refl _) (by simp) ?_; (case hd => rfl); (case hg => rfl); (case hr => first | (go_simp; done) | (go_simp; rfl)); (case hp => exact (Reps.one (show Kd.M (Kd.int .i64) _ _ _ (wrap64 ((wrap64 (-x8_2)) - 1)) [.int .i64 (wrap64 ((wrap64 (-x8_2)) - 1))] from rfl) (Reps.one (show Kd.M (Kd.int .i64) _ _ _ (wrap64 ((wrap64 (-x9_3)) - 1)) [.int .i64 (wrap64 ((wrap64 (-x9_3)) - 1))] from rfl) (Reps.none _ _)))); intro v149 w37 ho38 hb hg_ hnew_; clear hg_ hnew_; (first | rw [← Ny148.out] at ho38 | (simp only [Int.reduceToNat] at ho38; rw [← Ny148.out] at ho38)); replace HO_3 := Aside0.mk (Kd.S_elder' (S1 HO_3) (Kd.R_base ho38) hb); have HO150 := Aside0.mk (Kd.R_lower ho38 (below_size Hb)); replace BK127 := Aside0.mk (blk_below (B1 BK127) hb); replace BK128 := Aside0.mk (blk_below (B1 BK128) hb); replace HB := Aside0.mk (below_step Hb hb); clear hb ho38; obtain ⟨Ao40, co40, eo40⟩ := Kd.R_slice HO150.out; subst eo40) | ((with_reducible refine gate_builtin (b := .append) (xs := #[.tmp 66, .tmp 74]) rfl ?_); at_builtin; refine Kd.S_append (Kd.slice 2 (Kd.int .i64)) (w0 := w) w.heap.size rfl (.tmp 66) (.tmp 74) 22 43 (.slice none 0 0) 24 rfl Try.underlying22 info43 rfl (by decide) (by omega) u3 x3_3 y148 [.slice Ao40 y148.length co40] (fun _ => True) (fun k_ => some k_ = (.slice Ao40 y148.length co40 : Value).ownBlock) rfl rfl ?aP (fun k_ hk_ => ((Kd.R_mono (ok' := fun k_ => ((fun _ => True)) k_ ∧ some k_ ≠ (u3 : Value).ownBlock) (Kd.R_apart' (HO150.out) (Kd.S_typed HO_3.out) (by decide)) (fun k_ hk => ⟨trivial, hk.2⟩))).1 k_ hk_.symm) ?aF ?aO ?aB ?aS ?aL ?_; (case aP => exact Kd.M_row (Kd.R_mono (Kd.R_tight rfl (Kd.R_mono (ok' := fun k_ => ((fun _ => True)) k_ ∧ some k_ ≠ (u3 : Value).ownBlock) (Kd.R_apart' (HO150.out) (Kd.S_typed HO_3.out) (by decide)) (fun k_ hk => ⟨trivial, hk.2⟩))) (fun _ h_ => h_))); (case aB => exact Hb); (case aF => exact (fun _ _ => trivial)); (case aO => exact (by (with_reducible repeat (first | apply Kd.S_alloc | apply Kd.S_drewN | apply Kd.S_drew)); exact Kd.S_mono HO_3.out (fun k_ hk => ⟨trivial, fun e_ => hk.2 e_⟩))); (case aS => exact (below_size Hb)); (case aL => have := LMc34.out; omega); intro v152 w39 ho hb hg hat; rw [← Ny151.out] at ho; replace BK127 := Aside0.mk (blk_grown (B1 BK127) hg (Kd.S_ne HO_3.out BK127.out (by decide))); replace BK128 := Aside0.mk (blk_grown (B1 BK128) hg (Kd.S_ne HO_3.out BK128.out (by decide))); replace HB := Aside0.mk (hb); have HO153 := Aside0.mk (ho); clear HO_3; clear HO150; clear ho hb hg hat)); try go_wp2_with (first | (go_at_call 26; (with_reducible refine (spec_l12Overlap.calls k3 _ _ (rd_L1 l0_2 x8_2) _ _ (rd_L1 l0_2 x9_3) true _ ?side1 ?side2 ?side3 ?side4 A32.out).mono ?_); (case side1 => exact Kd.C_below HR145_0.out Hb); (case side2 => exact HC145_0.out); (case side3 => exact Kd.C_below HR146_0.out Hb); (case side4 => exact HC146_0.out); rintro e w' ⟨rfl, ⟨nd, rfl⟩⟩; (try first | exact ⟨rfl, _, World.drewN_drewN _ _ _⟩ | exact ⟨rfl, _, Eq.trans (World.drewN_drewN _ _ _) (congrArg (World.drewN _) (Nat.add_assoc _ _ _))⟩)) | ((with_reducible refine gD 73 ?_); refine Kd.R_lit (Kd.int .i64) _ 2 ?hg (N := 73) ?hd (xs := ([wrap64 ((wrap64 (-x8_2)) - 1), wrap64 ((wrap64 (-x9_3)) - 1)] : List Int)) (inner := [.int .i64 (wrap64 ((wrap64 (-x8_2)) - 1)), .int .i64 (wrap64 ((wrap64 (-x9_3)) - 1))]) (ok := fun _ => True) (okp := fun _ => True) ?hr ?hp (fun _ hk => hk) trivial (Below.refl _ _) (Nat.le_refl _) (by simp) ?_; (case hd => rfl); (case hg => rfl); (case hr => first | (go_simp; done) | (go_simp; rfl)); (case hp => exact (Reps.one (show Kd.M (Kd.int .i64) _ _ _ (wrap64 ((wrap64 (-x8_2)) - 1)) [.int .i64 (wrap64 ((wrap64 (-x8_2)) - 1))] from rfl) (Reps.one (show Kd.M (Kd.int .i64) _ _ _ (wrap64 ((wrap64 (-x9_3)) - 1)) [.int .i64 (wrap64 ((wrap64 (-x9_3)) - 1))] from rfl) (Reps.none _ _)))); intro v149 w37 ho38 hb hg_ hnew_; clear hg_ hnew_; (first | rw [← Ny148.out] at ho38 | (simp only [Int.reduceToNat] at ho38; rw [← Ny148.out] at ho38)); replace HO_3 := Aside0.mk (Kd.S_elder' (S1 HO_3) (Kd.R_base ho38) hb); have HO150 := Aside0.mk (Kd.R_lower ho38 (below_size Hb)); replace BK127 := Aside0.mk (blk_below (B1 BK127) hb); replace BK128 := Aside0.mk (blk_below (B1 BK128) hb); replace HB := Aside0.mk (below_step Hb hb); clear hb ho38; obtain ⟨Ao40, co40, eo40⟩ := Kd.R_slice HO150.out; subst eo40) | ((with_reducible refine gate_builtin (b := .append) (xs := #[.tmp 66, .tmp 74]) rfl ?_); at_builtin; refine Kd.S_append (Kd.slice 2 (Kd.int .i64)) (w0 := w) w.heap.size rfl (.tmp 66) (.tmp 74) 22 43 (.slice none 0 0) 24 rfl Try.underlying22 info43 rfl (by decide) (by omega) u3 x3_3 y148 [.slice Ao40 y148.length co40] (fun _ => True) (fun k_ => some k_ = (.slice Ao40 y148.length co40 : Value).ownBlock) rfl rfl ?aP (fun k_ hk_ => ((Kd.R_mono (ok' := fun k_ => ((fun _ => True)) k_ ∧ some k_ ≠ (u3 : Value).ownBlock) (Kd.R_apart' (HO150.out) (Kd.S_typed HO_3.out) (by decide)) (fun k_ hk => ⟨trivial, hk.2⟩))).1 k_ hk_.symm) ?aF ?aO ?aB ?aS ?aL ?_; (case aP => exact Kd.M_row (Kd.R_mono (Kd.R_tight rfl (Kd.R_mono (ok' := fun k_ => ((fun _ => True)) k_ ∧ some k_ ≠ (u3 : Value).ownBlock) (Kd.R_apart' (HO150.out) (Kd.S_typed HO_3.out) (by decide)) (fun k_ hk => ⟨trivial, hk.2⟩))) (fun _ h_ => h_))); (case aB => exact Hb); (case aF => exact (fun _ _ => trivial)); (case aO => exact (by (with_reducible repeat (first | apply Kd.S_alloc | apply Kd.S_drewN | apply Kd.S_drew)); exact Kd.S_mono HO_3.out (fun k_ hk => ⟨trivial, fun e_ => hk.2 e_⟩))); (case aS => exact (below_size Hb)); (case aL => have := LMc34.out; omega); intro v152 w39 ho hb hg hat; rw [← Ny151.out] at ho; replace BK127 := Aside0.mk (blk_grown (B1 BK127) hg (Kd.S_ne HO_3.out BK127.out (by decide))); replace BK128 := Aside0.mk (blk_grown (B1 BK128) hg (Kd.S_ne HO_3.out BK128.out (by decide))); replace HB := Aside0.mk (hb); have HO153 := Aside0.mk (ho); clear HO_3; clear HO150; clear ho hb hg hat)))
                              go_roundg k3
                              case measure => have := HK1.out; have := HK2.out; have := HK3.out; omega
                              case rel => exact ⟨(y151), (wrap64 (x9_3 + 1)), Fs, H', ⟨by have := HK1.out; have := HK2.out; have := HK3.out; omega⟩, ⟨S1 HO153⟩, ⟨B1 BK127⟩, ⟨B1 BK128⟩, ⟨Hb⟩⟩
                            · rw [if_neg c34] at H
                              exact absurd H (by simp)
                          · replace c33 := Bool.eq_false_iff.mpr c33
                            subst c33
                            rw [if_neg (show ¬ (false = true) by decide)] at H
                            have H' := Aside0.mk H
                            clear H
                            have hnb41 := NB127_128.out
                            have hnc41 := NB128_127.out
                            have hcz42_0 : wr.cell? ⟨gb127, 0, none⟩ = some (.int .i64 a0_0) := bc BK127
                            have hcz42_1 : wr.cell? ⟨gb127, 1, none⟩ = some (.int .i64 a0_1) := bc BK127
                            have hcz42_2 : wr.cell? ⟨gb127, 2, none⟩ = some (.slice A0_2 l0_2.length c0_2) := bc BK127
                            have hfz42_0 := blk_frozen BK127.out 0
                            have hfz42_1 := blk_frozen BK127.out 1
                            have hfz42_2 := blk_frozen BK127.out 2
                            have p145 : 0 ≤ (x8_2 : Int) := oD
                            have q145 : x8_2 < (l0_2.length : Int) := oD
                            obtain ⟨ad145, A145_0, c145_0, e145, hx145_0, hl145_0, hi145_0⟩ := at_L1 HR0_2.out x8_2 p145 q145
                            cases e145
                            replace hx145_0 := hxb hx145_0
                            have HR145_0 := Aside0.mk hi145_0
                            have HC145_0 := Aside0.mk hl145_0
                            clear hi145_0 hl145_0
                            replace p145 := eq_true p145
                            replace q145 := eq_true q145
                            have p146 : 0 ≤ (x9_3 : Int) := oD
                            have q146 : x9_3 < (l0_2.length : Int) := oD
                            obtain ⟨ad146, A146_0, c146_0, e146, hx146_0, hl146_0, hi146_0⟩ := at_L1 HR0_2.out x9_3 p146 q146
                            obtain rfl : ad145 = ad146 := (by injection e146)
                            replace hx146_0 := hxb hx146_0
                            have HR146_0 := Aside0.mk hi146_0
                            have HC146_0 := Aside0.mk hl146_0
                            clear hi146_0 hl146_0
                            replace p146 := eq_true p146
                            replace q146 := eq_true q146
                            go_wp2_with (first | (go_at_call 26; (with_reducible refine (spec_l12Overlap.calls k3 _ _ (rd_L1 l0_2 x8_2) _ _ (rd_L1 l0_2 x9_3) false _ ?side1 ?side2 ?side3 ?side4 A32.out).mono ?_); (case side1 => exact Kd.C_below HR145_0.out Hb); (case side2 => exact HC145_0.out); (case side3 => exact Kd.C_below HR146_0.out Hb); (case side4 => exact HC146_0.out); rintro e w' ⟨rfl, ⟨nd, rfl⟩⟩; (try first | exact ⟨rfl, _, World.drewN_drewN _ _ _⟩ | exact ⟨rfl, _, Eq.trans (World.drewN_drewN _ _ _) (congrArg (World.drewN _) (Nat.add_assoc _ _ _))⟩)))
                            repeat (go_quiet (first | (go_at_call 26; (with_reducible refine (spec_l12Overlap.calls k3 _ _ (rd_L1 l0_2 x8_2) _ _ (rd_L1 l0_2 x9_3) false _ ?side1 ?side2 ?side3 ?side4 A32.out).mono ?_); (case side1 => exact Kd.C_below HR145_0.out Hb); (case side2 => exact HC145_0.out); (case side3 => exact Kd.C_below HR146_0.out Hb); (case side4 => exact HC146_0.out); rintro e w' ⟨rfl, ⟨nd, rfl⟩⟩; (try first | exact ⟨rfl, _, World.drewN_drewN _ _ _⟩ | exact ⟨rfl, _, Eq.trans (World.drewN_drewN _ _ _) (congrArg (World.drewN _) (Nat.add_assoc _ _ _))⟩))); try go_wp2_with (first | (go_at_call 26; (with_reducible refine (spec_l12Overlap.calls k3 _ _ (rd_L1 l0_2 x8_2) _ _ (rd_L1 l0_2 x9_3) false _ ?side1 ?side2 ?side3 ?side4 A32.out).mono ?_); (case side1 => exact Kd.C_below HR145_0.out Hb); (case side2 => exact HC145_0.out); (case side3 => exact Kd.C_below HR146_0.out Hb); (case side4 => exact HC146_0.out); rintro e w' ⟨rfl, ⟨nd, rfl⟩⟩; (try first | exact ⟨rfl, _, World.drewN_drewN _ _ _⟩ | exact ⟨rfl, _, Eq.trans (World.drewN_drewN _ _ _) (congrArg (World.drewN _) (Nat.add_assoc _ _ _))⟩))))
                            go_roundg k3
                            case measure => have := HK1.out; have := HK2.out; have := HK3.out; omega
                            case rel => exact ⟨(x3_3), (wrap64 (x9_3 + 1)), Fs, H', ⟨by have := HK1.out; have := HK2.out; have := HK3.out; omega⟩, ⟨S1 HO_3⟩, ⟨B1 BK127⟩, ⟨B1 BK128⟩, ⟨Hb⟩⟩
                        · rw [if_neg c31] at H
                          exact absurd H (by simp)
                      · rw [if_neg c30] at H
                        exact absurd H (by simp)
                    · rw [if_neg c29] at H
                      exact absurd H (by simp)
                  · rw [if_neg c28] at H
                    have c28b0 : decide (x9_3 < (l0_2.length : Int)) = false := decide_eq_false c28
                    clear c28
                    have H' := Aside0.mk H
                    clear H
                    have hnb43 := NB127_128.out
                    have hnc43 := NB128_127.out
                    have hcz44_0 : wr.cell? ⟨gb127, 0, none⟩ = some (.int .i64 a0_0) := bc BK127
                    have hcz44_1 : wr.cell? ⟨gb127, 1, none⟩ = some (.int .i64 a0_1) := bc BK127
                    have hcz44_2 : wr.cell? ⟨gb127, 2, none⟩ = some (.slice A0_2 l0_2.length c0_2) := bc BK127
                    have hfz44_0 := blk_frozen BK127.out 0
                    have hfz44_1 := blk_frozen BK127.out 1
                    have hfz44_2 := blk_frozen BK127.out 2
                    go_wp2
                    repeat (go_quiet (fail); try go_wp2)
                    go_roundg k3
                    case measure => have := HK1.out; have := HK2.out; have := HK3.out; omega
                    case rel => exact ⟨(x3_3), (wrap64 (x8_2 + 1)), Fs, H', ⟨by have := HK1.out; have := HK2.out; have := HK3.out; omega⟩, ⟨S1 HO_3⟩, ⟨B1 BK127⟩, ⟨B1 BK128⟩, ⟨Hb⟩⟩
            · rw [if_neg c25] at H
              have c25b0 : decide (x8_2 < (l0_2.length : Int)) = false := decide_eq_false c25
              clear c25
              simp only [Option.some.injEq, Prod.mk.injEq] at H
              obtain ⟨rfl, rfl⟩ := H
              have hnb45 := NB127_128.out
              have hnc45 := NB128_127.out
              have hcz46_0 : wr.cell? ⟨gb127, 0, none⟩ = some (.int .i64 a0_0) := bc BK127
              have hcz46_1 : wr.cell? ⟨gb127, 1, none⟩ = some (.int .i64 a0_1) := bc BK127
              have hcz46_2 : wr.cell? ⟨gb127, 2, none⟩ = some (.slice A0_2 l0_2.length c0_2) := bc BK127
              have hfz46_0 := blk_frozen BK127.out 0
              have hfz46_1 := blk_frozen BK127.out 1
              have hfz46_2 := blk_frozen BK127.out 2
              obtain ⟨Ao47, co47, eo47⟩ := Kd.S_slice HO_3.out
              subst eo47
              have hcz48_0 : wr.cell? ⟨gb128, 0, none⟩ = some (.int .i64 0) := bc BK128
              have hcz48_1 : wr.cell? ⟨gb128, 1, none⟩ = some (.slice none 0 0) := bc BK128
              have hfz48_0 := blk_frozen BK128.out 0
              have hfz48_1 := blk_frozen BK128.out 1
              go_wp2
              repeat (go_quiet (fail); try go_wp2)
              refine bodyPost_ret (results_cell_row rfl _ _ gb128 27 #[.int .i64 (l0_2.length : Int), .slice Ao47 x3_2.length co47] (0, 0) _ rfl (by (with_reducible repeat (first | refine blk_drewN ?_ _ | refine blk_drew ?_ | refine blk_alloc ?_ _)); refine blk_put (cs := #[.int .i64 (l0_2.length : Int), .slice none 0 0]) ?_ 1 _ rfl; (with_reducible repeat (first | refine blk_drewN ?_ _ | refine blk_drew ?_ | refine blk_alloc ?_ _)); refine blk_put (cs := #[.int .i64 0, .slice none 0 0]) ?_ 0 _ rfl; (with_reducible repeat (first | refine blk_drewN ?_ _ | refine blk_drew ?_ | refine blk_alloc ?_ _)); exact BK128.out) Try.underlying27 rfl (by kernel_rfl)) rfl ?_
              exact ⟨_, Fin, by (with_reducible repeat (first | apply Kd.S_alloc | apply Kd.S_drewN | apply Kd.S_drew)); exact Kd.S_mono (Kd.S_far (p := ⟨gb128, 1, none⟩) (Kd.S_far (p := ⟨gb128, 0, none⟩) (Kd.S_types HO_3.out BK128.out (by decide)) (fun _ hk => hk.2) (.int .i64 (l0_2.length : Int))) (fun _ hk => hk.2) (.slice Ao47 x3_2.length co47)) (fun _ hk => trivial), Hb⟩

end Go.Proofs.Ytccenkhokgiejaa.XFnExactFormulaOfCover
