-- Written by ext.py (wip/) over the kit's print: not trusted, Lean checks it.
import Derived.Test.YtcolaakpjdhinaaXFnUnitsx0
import Derived.Test.YtcolaakpjdhinaaXFnUnitsx3
import Derived.Test.YtcolaakpjdhinaaXFnUnitsx4
namespace Go.Proofs.Ytcolaakpjdhinaa.XFnUnits
open Go.RowKit Go.Proofs.YtcolaakpjdhinaaW.PrintWords Go.Proofs.YtcolaakpjdhinaaW.PrintLast Go.Proofs.YtcolaakpjdhinaaW.PrintMore
attribute [local go_sem] max2_int min2_int max_two min_two max_three min_three max_four min_four   -- for this text's walks alone
set_option linter.unusedVariables false
set_option linter.unusedSimpArgs false

/-! ### spec_l20Code: function 18 -/
def spec_l20Code.f (k : Nat) (a0_0 : Int) (l0_1 : List (List Int)) (l1 : List Int) : Option (Int) := (spec_IsFormula.f k a0_0 l0_1).bind fun t242 => (if t242 = true then ((spec_l20Values.f k l1 a0_0).bind fun t243 => (if t243 = true then (some 0) else (some 2))) else (some 1))
theorem spec_l20Code.mono : ∀ a0 a1 a2 k, LeO (spec_l20Code.f k a0 a1 a2) (spec_l20Code.f (k + 1) a0 a1 a2) := by
  intro a0 a1 a2 k
  unfold spec_l20Code.f
  repeat' first
      | (with_reducible exact spec_IsFormula.mono _ _ _)
      | (with_reducible exact spec_l20Values.mono _ _ _)
      | (with_reducible exact LeO.refl _)
      | (with_reducible exact LeO.none _)
      | (with_reducible refine LeO.ite ?_ ?_)
      | (with_reducible refine LeO.bind ?_ (fun _ => ?_))
      | exact spec_IsFormula.mono _ _ _
      | exact spec_l20Values.mono _ _ _
      | exact LeO.none _
      | refine LeO.ite ?_ ?_
      | refine LeO.bind ?_ (fun _ => ?_)
set_option maxHeartbeats 8000000 in
set_option maxRecDepth 100000 in
theorem spec_l20Code.calls (k : Nat) (a0_0 : Int) (A0_1 : Option Addr) (c0_1 : Nat) (l0_1 : List (List Int)) (A1 : Option Addr) (c1 : Nat) (l1 : List Int) (r : Int) (w : World) (hr0_1 : Kd.C (Kd.slice 2 (Kd.int .i64)) w A0_1 l0_1.length l0_1) (hc0_1 : l0_1.length ≤ c0_1) (hr1 : Kd.C (Kd.int .i64) w A1 l1.length l1) (hc1 : l1.length ≤ c1) (h : spec_l20Code.f k a0_0 l0_1 l1 = some r) :
    Calls Try.prog 18 #[.agg #[.int .i64 a0_0, .slice A0_1 l0_1.length c0_1], .slice A1 l1.length c1] w fun e w' => e = .returned (.int .i64 r) ∧ Below w.heap.size w w' := by
  have hu26 := Try.underlying26
  have HR0_1 := Aside0.mk hr0_1
  have HC0_1 := Aside0.mk hc0_1
  clear hr0_1 hc0_1
  have HR1 := Aside0.mk hr1
  have HC1 := Aside0.mk hc1
  clear hr1 hc1
  have HB := Aside0.mk (Below.refl w.heap.size w)
  have H : ((spec_IsFormula.f k a0_0 l0_1).bind fun t242 => (if t242 = true then ((spec_l20Values.f k l1 a0_0).bind fun t243 => (if t243 = true then (some 0) else (some 2))) else (some 1))) = some r := h
  clear h
  obtain ⟨t242, A30, H⟩ := Option.bind_eq_some_iff.mp H
  have A3 := Aside0.mk A30
  clear A30
  by_cases c4 : t242 = true
  · subst c4
    rw [if_pos rfl] at H
    obtain ⟨t243, A50, H⟩ := Option.bind_eq_some_iff.mp H
    have A5 := Aside0.mk A50
    clear A50
    by_cases c6 : t243 = true
    · subst c6
      rw [if_pos rfl] at H
      obtain rfl := Option.some.inj H
      go_enter Try.func18, Try.ntmps18
      go_wp2_with (first | ((with_reducible refine gD 2 ?_); refine BX #[.int .i64 a0_0, .slice A0_1 l0_1.length c0_1] 26 ?_; intro gb241 hg w7 hbox hb; have BK241 := Aside0.mk (hbox); have GW241 := Aside0.mk ((Gle hg Hb : w.heap.size ≤ gb241)); have GE241 := Aside0.mk ((Gle hg Hb : w.heap.size ≤ gb241)); replace HB := Aside0.mk (below_step Hb hb); clear hb hbox hg; have hcz8_0 : w7.cell? ⟨gb241, 0, none⟩ = some (.int .i64 a0_0) := bc BK241; have hcz8_1 : w7.cell? ⟨gb241, 1, none⟩ = some (.slice A0_1 l0_1.length c0_1) := bc BK241; have hfz8_0 := blk_frozen BK241.out 0; have hfz8_1 := blk_frozen BK241.out 1) | ((with_reducible refine gC 28 ?_); refine GL (some 6) Try.func28 #[.agg #[.int .i64 a0_0, .slice A0_1 l0_1.length c0_1]] ?_; (with_reducible refine (spec_IsFormula.calls k a0_0 _ _ l0_1 true _ ?side1 ?side2 A3.out).mono ?_); (case side1 => exact Kd.C_below HR0_1.out Hb); (case side2 => exact HC0_1.out); rintro e w9 ⟨rfl, hb⟩; refine ⟨_, rfl, ?_⟩; replace BK241 := Aside0.mk (blk_below (B1 BK241) hb); replace HB := Aside0.mk (below_step Hb hb); (try clear hb); (try clear hb2); (try clear hk); (try clear hi); have hcz10_0 : w9.cell? ⟨gb241, 0, none⟩ = some (.int .i64 a0_0) := bc BK241; have hcz10_1 : w9.cell? ⟨gb241, 1, none⟩ = some (.slice A0_1 l0_1.length c0_1) := bc BK241; have hfz10_0 := blk_frozen BK241.out 0; have hfz10_1 := blk_frozen BK241.out 1) | ((with_reducible refine gC 24 ?_); refine GL (some 11) Try.func24 #[.slice A1 l1.length c1, .int .i64 a0_0] ?_; (with_reducible refine (spec_l20Values.calls k _ _ l1 a0_0 true _ ?side1 ?side2 A5.out).mono ?_); (case side1 => exact Kd.C_below HR1.out Hb); (case side2 => exact HC1.out); rintro e w' ⟨rfl, ⟨nd, rfl⟩⟩; refine ⟨_, rfl, ?_⟩))
      go_ret
      exact ⟨Fin, Hb⟩
    · replace c6 := Bool.eq_false_iff.mpr c6
      subst c6
      rw [if_neg (show ¬ (false = true) by decide)] at H
      obtain rfl := Option.some.inj H
      go_enter Try.func18, Try.ntmps18
      go_wp2_with (first | ((with_reducible refine gD 2 ?_); refine BX #[.int .i64 a0_0, .slice A0_1 l0_1.length c0_1] 26 ?_; intro gb241 hg w11 hbox hb; have BK241 := Aside0.mk (hbox); have GW241 := Aside0.mk ((Gle hg Hb : w.heap.size ≤ gb241)); have GE241 := Aside0.mk ((Gle hg Hb : w.heap.size ≤ gb241)); replace HB := Aside0.mk (below_step Hb hb); clear hb hbox hg; have hcz12_0 : w11.cell? ⟨gb241, 0, none⟩ = some (.int .i64 a0_0) := bc BK241; have hcz12_1 : w11.cell? ⟨gb241, 1, none⟩ = some (.slice A0_1 l0_1.length c0_1) := bc BK241; have hfz12_0 := blk_frozen BK241.out 0; have hfz12_1 := blk_frozen BK241.out 1) | ((with_reducible refine gC 28 ?_); refine GL (some 6) Try.func28 #[.agg #[.int .i64 a0_0, .slice A0_1 l0_1.length c0_1]] ?_; (with_reducible refine (spec_IsFormula.calls k a0_0 _ _ l0_1 true _ ?side1 ?side2 A3.out).mono ?_); (case side1 => exact Kd.C_below HR0_1.out Hb); (case side2 => exact HC0_1.out); rintro e w13 ⟨rfl, hb⟩; refine ⟨_, rfl, ?_⟩; replace BK241 := Aside0.mk (blk_below (B1 BK241) hb); replace HB := Aside0.mk (below_step Hb hb); (try clear hb); (try clear hb2); (try clear hk); (try clear hi); have hcz14_0 : w13.cell? ⟨gb241, 0, none⟩ = some (.int .i64 a0_0) := bc BK241; have hcz14_1 : w13.cell? ⟨gb241, 1, none⟩ = some (.slice A0_1 l0_1.length c0_1) := bc BK241; have hfz14_0 := blk_frozen BK241.out 0; have hfz14_1 := blk_frozen BK241.out 1) | ((with_reducible refine gC 24 ?_); refine GL (some 11) Try.func24 #[.slice A1 l1.length c1, .int .i64 a0_0] ?_; (with_reducible refine (spec_l20Values.calls k _ _ l1 a0_0 false _ ?side1 ?side2 A5.out).mono ?_); (case side1 => exact Kd.C_below HR1.out Hb); (case side2 => exact HC1.out); rintro e w' ⟨rfl, ⟨nd, rfl⟩⟩; refine ⟨_, rfl, ?_⟩))
      go_ret
      exact ⟨Fin, Hb⟩
  · replace c4 := Bool.eq_false_iff.mpr c4
    subst c4
    rw [if_neg (show ¬ (false = true) by decide)] at H
    obtain rfl := Option.some.inj H
    go_enter Try.func18, Try.ntmps18
    go_wp2_with (first | ((with_reducible refine gD 2 ?_); refine BX #[.int .i64 a0_0, .slice A0_1 l0_1.length c0_1] 26 ?_; intro gb241 hg w15 hbox hb; have BK241 := Aside0.mk (hbox); have GW241 := Aside0.mk ((Gle hg Hb : w.heap.size ≤ gb241)); have GE241 := Aside0.mk ((Gle hg Hb : w.heap.size ≤ gb241)); replace HB := Aside0.mk (below_step Hb hb); clear hb hbox hg; have hcz16_0 : w15.cell? ⟨gb241, 0, none⟩ = some (.int .i64 a0_0) := bc BK241; have hcz16_1 : w15.cell? ⟨gb241, 1, none⟩ = some (.slice A0_1 l0_1.length c0_1) := bc BK241; have hfz16_0 := blk_frozen BK241.out 0; have hfz16_1 := blk_frozen BK241.out 1) | ((with_reducible refine gC 28 ?_); refine GL (some 6) Try.func28 #[.agg #[.int .i64 a0_0, .slice A0_1 l0_1.length c0_1]] ?_; (with_reducible refine (spec_IsFormula.calls k a0_0 _ _ l0_1 false _ ?side1 ?side2 A3.out).mono ?_); (case side1 => exact Kd.C_below HR0_1.out Hb); (case side2 => exact HC0_1.out); rintro e w17 ⟨rfl, hb⟩; refine ⟨_, rfl, ?_⟩; replace BK241 := Aside0.mk (blk_below (B1 BK241) hb); replace HB := Aside0.mk (below_step Hb hb); (try clear hb); (try clear hb2); (try clear hk); (try clear hi)))
    go_ret
    exact ⟨Fin, Hb⟩

/-! ### spec_l20Value: function 29 -/
def spec_l20Value.f (l0 : List Int) (a1 : Int) : Option (Int) := (spec_l01Abs.f a1).bind fun t244 => (if 0 ≤ (wrap64 (t244 - 1)) then (if (wrap64 (t244 - 1)) < (l0.length : Int) then (if (rd l0 (wrap64 (t244 - 1))) ≥ 0 then (if a1 < 0 then (some (wrap64 (1 - (rd l0 (wrap64 (t244 - 1)))))) else (some (rd l0 (wrap64 (t244 - 1))))) else (some (rd l0 (wrap64 (t244 - 1))))) else (none)) else (none))
set_option maxHeartbeats 8000000 in
set_option maxRecDepth 100000 in
theorem spec_l20Value.calls (A0 : Option Addr) (c0 : Nat) (l0 : List Int) (a1 : Int) (r : Int) (w : World) (hr0 : Kd.C (Kd.int .i64) w A0 l0.length l0) (hc0 : l0.length ≤ c0) (h : spec_l20Value.f l0 a1 = some r) :
    Calls Try.prog 29 #[.slice A0 l0.length c0, .int .i64 a1] w fun e w' => e = .returned (.int .i64 r) ∧ Below w.heap.size w w' := by
  have HR0 := Aside0.mk hr0
  have HC0 := Aside0.mk hc0
  clear hr0 hc0
  have HB := Aside0.mk (Below.refl w.heap.size w)
  have H : ((spec_l01Abs.f a1).bind fun t244 => (if 0 ≤ (wrap64 (t244 - 1)) then (if (wrap64 (t244 - 1)) < (l0.length : Int) then (if (rd l0 (wrap64 (t244 - 1))) ≥ 0 then (if a1 < 0 then (some (wrap64 (1 - (rd l0 (wrap64 (t244 - 1)))))) else (some (rd l0 (wrap64 (t244 - 1))))) else (some (rd l0 (wrap64 (t244 - 1))))) else (none)) else (none))) = some r := h
  clear h
  obtain ⟨t244, A30, H⟩ := Option.bind_eq_some_iff.mp H
  have A3 := Aside0.mk A30
  clear A30
  obtain ⟨ji4, hji4⟩ : ∃ j_ : Int, (wrap64 (t244 - 1)) = j_ := ⟨_, rfl⟩
  replace H : (if 0 ≤ (ji4) then (if (ji4) < (l0.length : Int) then (if (rd l0 (ji4)) ≥ 0 then (if a1 < 0 then (some (wrap64 (1 - (rd l0 (ji4))))) else (some (rd l0 (ji4)))) else (some (rd l0 (ji4)))) else (none)) else (none)) = some r := by first | (rw [hji4] at H; exact H) | (simp only [hji4] at H ⊢; exact H)
  (try rw [hji4] at A3)
  have hji4w : (IntKind.i64.wrap (t244 - 1)) = ji4 := (i64_w _).trans hji4
  by_cases c5 : 0 ≤ (ji4)
  · rw [if_pos c5] at H
    have c5b0 : decide (0 ≤ (ji4)) = true := decide_eq_true c5
    clear c5
    by_cases c6 : (ji4) < (l0.length : Int)
    · rw [if_pos c6] at H
      have c6b0 : decide ((ji4) < (l0.length : Int)) = true := decide_eq_true c6
      clear c6
      by_cases c7 : (rd l0 (ji4)) ≥ 0
      · rw [if_pos c7] at H
        have c7b0 : decide (0 ≤ (rd l0 (ji4))) = true := decide_eq_true c7
        clear c7
        by_cases c8 : a1 < 0
        · rw [if_pos c8] at H
          have c8b0 : decide (a1 < 0) = true := decide_eq_true c8
          clear c8
          obtain rfl := Option.some.inj H
          go_enter Try.func29, Try.ntmps29
          go_wp2_with (first | ((with_reducible refine gC 39 ?_); refine GL (some 8) Try.func39 #[.int .i64 a1] ?_; (with_reducible refine (spec_l01Abs.calls a1 t244 _ A3.out).mono ?_); rintro e w9 ⟨rfl, hb⟩; refine ⟨_, rfl, ?_⟩; replace HB := Aside0.mk (below_step Hb hb); (try clear hb); (try clear hb2); (try clear hk); (try clear hi); have p245 : 0 ≤ ((ji4) : Int) := oD; have q245 : (ji4) < (l0.length : Int) := oD; obtain ⟨ad245, e245, hx245_0⟩ := Kd.at_int HR0.out (ji4) p245 q245; cases e245; replace hx245_0 := hxb hx245_0; replace p245 := eq_true p245; replace q245 := eq_true q245))
          go_ret
          exact ⟨by first | rfl | (simp [errW_none, errW_some] <;> rfl) | (simp only [← hji4]; first | rfl | (simp [errW_none, errW_some] <;> rfl)) | (simp [*, errW_none, errW_some] <;> rfl), Hb⟩
        · rw [if_neg c8] at H
          have c8b0 : decide (a1 < 0) = false := decide_eq_false c8
          clear c8
          obtain rfl := Option.some.inj H
          go_enter Try.func29, Try.ntmps29
          go_wp2_with (first | ((with_reducible refine gC 39 ?_); refine GL (some 8) Try.func39 #[.int .i64 a1] ?_; (with_reducible refine (spec_l01Abs.calls a1 t244 _ A3.out).mono ?_); rintro e w10 ⟨rfl, hb⟩; refine ⟨_, rfl, ?_⟩; replace HB := Aside0.mk (below_step Hb hb); (try clear hb); (try clear hb2); (try clear hk); (try clear hi); have p245 : 0 ≤ ((ji4) : Int) := oD; have q245 : (ji4) < (l0.length : Int) := oD; obtain ⟨ad245, e245, hx245_0⟩ := Kd.at_int HR0.out (ji4) p245 q245; cases e245; replace hx245_0 := hxb hx245_0; replace p245 := eq_true p245; replace q245 := eq_true q245))
          go_ret
          exact ⟨by first | rfl | (simp [errW_none, errW_some] <;> rfl) | (simp only [← hji4]; first | rfl | (simp [errW_none, errW_some] <;> rfl)) | (simp [*, errW_none, errW_some] <;> rfl), Hb⟩
      · rw [if_neg c7] at H
        have c7b0 : decide (0 ≤ (rd l0 (ji4))) = false := decide_eq_false c7
        clear c7
        obtain rfl := Option.some.inj H
        go_enter Try.func29, Try.ntmps29
        go_wp2_with (first | ((with_reducible refine gC 39 ?_); refine GL (some 8) Try.func39 #[.int .i64 a1] ?_; (with_reducible refine (spec_l01Abs.calls a1 t244 _ A3.out).mono ?_); rintro e w11 ⟨rfl, hb⟩; refine ⟨_, rfl, ?_⟩; replace HB := Aside0.mk (below_step Hb hb); (try clear hb); (try clear hb2); (try clear hk); (try clear hi); have p245 : 0 ≤ ((ji4) : Int) := oD; have q245 : (ji4) < (l0.length : Int) := oD; obtain ⟨ad245, e245, hx245_0⟩ := Kd.at_int HR0.out (ji4) p245 q245; cases e245; replace hx245_0 := hxb hx245_0; replace p245 := eq_true p245; replace q245 := eq_true q245))
        go_ret
        exact ⟨by first | rfl | (simp [errW_none, errW_some] <;> rfl) | (simp only [← hji4]; first | rfl | (simp [errW_none, errW_some] <;> rfl)) | (simp [*, errW_none, errW_some] <;> rfl), Hb⟩
    · rw [if_neg c6] at H
      exact absurd H (by simp)
  · rw [if_neg c5] at H
    exact absurd H (by simp)

/-! ### spec_l20State: function 19 -/
def spec_l20State.l0 : Nat → List Int → List Int → Int → Int → Int → Option (Bool × Int × Int)
  | 0, _, _, _, _, _ => none
  | k + 1, x0, x1, x7, x8, x9 => if x9 < (x1.length : Int) then (if 0 ≤ x9 then ((spec_l20Value.f x0 (rd x1 x9)).bind fun t247 => (if t247 = 1 then (some (true, 0, 0)) else (if t247 = (-1) then (if x7 = 0 then (spec_l20State.l0 k x0 x1 (wrap64 (x7 + 1)) (rd x1 x9) (wrap64 (x9 + 1))) else (spec_l20State.l0 k x0 x1 (wrap64 (x7 + 1)) x8 (wrap64 (x9 + 1)))) else (spec_l20State.l0 k x0 x1 x7 x8 (wrap64 (x9 + 1)))))) else (none)) else (some (false, x7, x8))
def spec_l20State.f (k : Nat) (l0 : List Int) (l1 : List Int) : Option (Bool × Int × Int) := spec_l20State.l0 k l0 l1 0 0 0
theorem spec_l20State.mono_l : ∀ k, (∀ y0 y1 y2 y3 y4, LeO (spec_l20State.l0 k y0 y1 y2 y3 y4) (spec_l20State.l0 (k + 1) y0 y1 y2 y3 y4))
  | 0 => fun _ _ _ _ _ r h => by simp [spec_l20State.l0] at h
  | k + 1 => by
    have ih0 := spec_l20State.mono_l k
    · intro y0 y1 y2 y3 y4
      unfold spec_l20State.l0
      repeat' first
      | (with_reducible exact ih0 _ _ _ _ _)
      | (with_reducible exact LeO.refl _)
      | (with_reducible exact LeO.none _)
      | (with_reducible refine LeO.ite ?_ ?_)
      | (with_reducible refine LeO.bind ?_ (fun _ => ?_))
      | exact ih0 _ _ _ _ _
      | exact LeO.none _
      | refine LeO.ite ?_ ?_
      | refine LeO.bind ?_ (fun _ => ?_)
theorem spec_l20State.mono : ∀ a0 a1 k, LeO (spec_l20State.f k a0 a1) (spec_l20State.f (k + 1) a0 a1) := by
  intro a0 a1 k
  have ih0 := spec_l20State.mono_l k
  unfold spec_l20State.f
  repeat' first
      | (with_reducible exact ih0 _ _ _ _ _)
      | (with_reducible exact LeO.refl _)
      | (with_reducible exact LeO.none _)
      | (with_reducible refine LeO.ite ?_ ?_)
      | (with_reducible refine LeO.bind ?_ (fun _ => ?_))
      | exact ih0 _ _ _ _ _
      | exact LeO.none _
      | refine LeO.ite ?_ ?_
      | refine LeO.bind ?_ (fun _ => ?_)
set_option maxHeartbeats 8000000 in
set_option maxRecDepth 100000 in
theorem spec_l20State.calls (k : Nat) (A0 : Option Addr) (c0 : Nat) (l0 : List Int) (A1 : Option Addr) (c1 : Nat) (l1 : List Int) (r1 : Bool) (r2 : Int) (r3 : Int) (w : World) (hr0 : Kd.C (Kd.int .i64) w A0 l0.length l0) (hc0 : l0.length ≤ c0) (hr1 : Kd.C (Kd.int .i64) w A1 l1.length l1) (hc1 : l1.length ≤ c1) (h : spec_l20State.f k l0 l1 = some (r1, r2, r3)) :
    Calls Try.prog 19 #[.slice A0 l0.length c0, .slice A1 l1.length c1] w fun e w' => e = .returned (.tuple #[.bool r1, .int .i64 r2, .int .i64 r3]) ∧ Below w.heap.size w w' := by
  have HR0 := Aside0.mk hr0
  have HC0 := Aside0.mk hc0
  clear hr0 hc0
  have HR1 := Aside0.mk hr1
  have HC1 := Aside0.mk hc1
  clear hr1 hc1
  have HB := Aside0.mk (Below.refl w.heap.size w)
  have H : (spec_l20State.l0 k l0 l1 0 0 0) = some (r1, r2, r3) := h
  clear h
  have H' := Aside0.mk H
  clear H
  go_enter Try.func19, Try.ntmps19
  go_wp2
  go_loopg [7, 8, 9] k (fun kq v7 v8 v9 w' => ∃ (x7_1 : Int) (x8_1 : Int) (x9_1 : Int), v7 = .int .i64 x7_1 ∧ v8 = .int .i64 x8_1 ∧ v9 = .int .i64 x9_1 ∧ Aside0 (spec_l20State.l0 kq l0 l1 x7_1 x8_1 x9_1 = some (r1, r2, r3)) ∧ Aside0 (kq ≤ k) ∧ Aside0 (Below w.heap.size w w'))
  case atStart => exact ⟨(0), (0), (0), Fs, Fs, Fs, H', ⟨Nat.le_refl _⟩, ⟨Hb⟩⟩
  case round =>
    clear H'
    try clear c1
    try clear p2
    obtain ⟨x7_1, x8_1, x9_1, rfl, rfl, rfl, HA, HK1, HB⟩ := hrel
    cases gk with
    | zero => exact absurd HA.out (by simp [spec_l20State.l0])
    | succ k1 =>
      have H := HA.out
      clear HA
      simp only [spec_l20State.l0] at H
      by_cases c3 : x9_1 < (l1.length : Int)
      · rw [if_pos c3] at H
        have c3b0 : decide (x9_1 < (l1.length : Int)) = true := decide_eq_true c3
        clear c3
        by_cases c4 : 0 ≤ x9_1
        · rw [if_pos c4] at H
          have c4b0 : decide (0 ≤ x9_1) = true := decide_eq_true c4
          clear c4
          obtain ⟨t247, A50, H⟩ := Option.bind_eq_some_iff.mp H
          have A5 := Aside0.mk A50
          clear A50
          by_cases c6 : t247 = 1
          · rw [if_pos c6] at H
            have c6b0 : (t247 == 1) = true := beq_iff_eq.mpr c6
            have c6b1 : (t247 != 1) = false := bne_eq_false_iff_eq.mpr c6
            clear c6
            simp only [Option.some.injEq, Prod.mk.injEq] at H
            obtain ⟨rfl, rfl, rfl⟩ := H
            have p246 : 0 ≤ (x9_1 : Int) := oD
            have q246 : x9_1 < (l1.length : Int) := oD
            obtain ⟨ad246, e246, hx246_0⟩ := Kd.at_int HR1.out x9_1 p246 q246
            cases e246
            replace hx246_0 := hxb hx246_0
            replace p246 := eq_true p246
            replace q246 := eq_true q246
            go_wp2_with (first | ((with_reducible refine gC 29 ?_); refine GL (some 21) Try.func29 #[.slice A0 l0.length c0, .int .i64 (rd l1 x9_1)] ?_; (with_reducible refine (spec_l20Value.calls _ _ l0 (rd l1 x9_1) t247 _ ?side1 ?side2 A5.out).mono ?_); (case side1 => exact Kd.C_below HR0.out Hb); (case side2 => exact HC0.out); rintro e w7 ⟨rfl, hb⟩; refine ⟨_, rfl, ?_⟩; replace HB := Aside0.mk (below_step Hb hb); (try clear hb); (try clear hb2); (try clear hk); (try clear hi)))
            go_ret3
            exact ⟨Fin, Hb⟩
          · rw [if_neg c6] at H
            have c6b0 : (t247 == 1) = false := beq_eq_false_iff_ne.mpr c6
            have c6b1 : (t247 != 1) = true := bne_iff_ne.mpr c6
            by_cases c8 : t247 = (-1)
            · rw [if_pos c8] at H
              have c8b0 : (t247 == (-1)) = true := beq_iff_eq.mpr c8
              have c8b1 : (t247 != (-1)) = false := bne_eq_false_iff_eq.mpr c8
              clear c8
              by_cases c9 : x7_1 = 0
              · rw [if_pos c9] at H
                have c9b0 : (x7_1 == 0) = true := beq_iff_eq.mpr c9
                have c9b1 : (x7_1 != 0) = false := bne_eq_false_iff_eq.mpr c9
                clear c9
                have H' := Aside0.mk H
                clear H
                have p246 : 0 ≤ (x9_1 : Int) := oD
                have q246 : x9_1 < (l1.length : Int) := oD
                obtain ⟨ad246, e246, hx246_0⟩ := Kd.at_int HR1.out x9_1 p246 q246
                cases e246
                replace hx246_0 := hxb hx246_0
                replace p246 := eq_true p246
                replace q246 := eq_true q246
                go_wp2_with (first | ((with_reducible refine gC 29 ?_); refine GL (some 21) Try.func29 #[.slice A0 l0.length c0, .int .i64 (rd l1 x9_1)] ?_; (with_reducible refine (spec_l20Value.calls _ _ l0 (rd l1 x9_1) t247 _ ?side1 ?side2 A5.out).mono ?_); (case side1 => exact Kd.C_below HR0.out Hb); (case side2 => exact HC0.out); rintro e w10 ⟨rfl, hb⟩; refine ⟨_, rfl, ?_⟩; replace HB := Aside0.mk (below_step Hb hb); (try clear hb); (try clear hb2); (try clear hk); (try clear hi); have p248 : 0 ≤ (x9_1 : Int) := oD; have q248 : x9_1 < (l1.length : Int) := oD; obtain ⟨ad248, e248, hx248_0⟩ := Kd.at_int HR1.out x9_1 p248 q248; obtain rfl : ad246 = ad248 := (by injection e248); replace hx248_0 := hxb hx248_0; replace p248 := eq_true p248; replace q248 := eq_true q248))
                go_roundg k1
                case measure => have := HK1.out; omega
                case rel => exact ⟨(wrap64 (x7_1 + 1)), (rd l1 x9_1), (wrap64 (x9_1 + 1)), Fs, Fs, Fs, H', ⟨by have := HK1.out; omega⟩, ⟨Hb⟩⟩
              · rw [if_neg c9] at H
                have c9b0 : (x7_1 == 0) = false := beq_eq_false_iff_ne.mpr c9
                have c9b1 : (x7_1 != 0) = true := bne_iff_ne.mpr c9
                have H' := Aside0.mk H
                clear H
                have p246 : 0 ≤ (x9_1 : Int) := oD
                have q246 : x9_1 < (l1.length : Int) := oD
                obtain ⟨ad246, e246, hx246_0⟩ := Kd.at_int HR1.out x9_1 p246 q246
                cases e246
                replace hx246_0 := hxb hx246_0
                replace p246 := eq_true p246
                replace q246 := eq_true q246
                go_wp2_with (first | ((with_reducible refine gC 29 ?_); refine GL (some 21) Try.func29 #[.slice A0 l0.length c0, .int .i64 (rd l1 x9_1)] ?_; (with_reducible refine (spec_l20Value.calls _ _ l0 (rd l1 x9_1) t247 _ ?side1 ?side2 A5.out).mono ?_); (case side1 => exact Kd.C_below HR0.out Hb); (case side2 => exact HC0.out); rintro e w11 ⟨rfl, hb⟩; refine ⟨_, rfl, ?_⟩; replace HB := Aside0.mk (below_step Hb hb); (try clear hb); (try clear hb2); (try clear hk); (try clear hi)))
                go_roundg k1
                case measure => have := HK1.out; omega
                case rel => exact ⟨(wrap64 (x7_1 + 1)), (x8_1), (wrap64 (x9_1 + 1)), Fs, Fs, Fs, H', ⟨by have := HK1.out; omega⟩, ⟨Hb⟩⟩
            · rw [if_neg c8] at H
              have c8b0 : (t247 == (-1)) = false := beq_eq_false_iff_ne.mpr c8
              have c8b1 : (t247 != (-1)) = true := bne_iff_ne.mpr c8
              have H' := Aside0.mk H
              clear H
              have p246 : 0 ≤ (x9_1 : Int) := oD
              have q246 : x9_1 < (l1.length : Int) := oD
              obtain ⟨ad246, e246, hx246_0⟩ := Kd.at_int HR1.out x9_1 p246 q246
              cases e246
              replace hx246_0 := hxb hx246_0
              replace p246 := eq_true p246
              replace q246 := eq_true q246
              go_wp2_with (first | ((with_reducible refine gC 29 ?_); refine GL (some 21) Try.func29 #[.slice A0 l0.length c0, .int .i64 (rd l1 x9_1)] ?_; (with_reducible refine (spec_l20Value.calls _ _ l0 (rd l1 x9_1) t247 _ ?side1 ?side2 A5.out).mono ?_); (case side1 => exact Kd.C_below HR0.out Hb); (case side2 => exact HC0.out); rintro e w12 ⟨rfl, hb⟩; refine ⟨_, rfl, ?_⟩; replace HB := Aside0.mk (below_step Hb hb); (try clear hb); (try clear hb2); (try clear hk); (try clear hi)))
              go_roundg k1
              case measure => have := HK1.out; omega
              case rel => exact ⟨(x7_1), (x8_1), (wrap64 (x9_1 + 1)), Fs, Fs, Fs, H', ⟨by have := HK1.out; omega⟩, ⟨Hb⟩⟩
        · rw [if_neg c4] at H
          exact absurd H (by simp)
      · rw [if_neg c3] at H
        have c3b0 : decide (x9_1 < (l1.length : Int)) = false := decide_eq_false c3
        clear c3
        simp only [Option.some.injEq, Prod.mk.injEq] at H
        obtain ⟨rfl, rfl, rfl⟩ := H
        go_wp2
        go_ret3
        exact ⟨Fin, Hb⟩

/-! ### spec_UnitLiterals: function 7 -/
def spec_UnitLiterals.l0 : Nat → List Int → List Int → Int → Int → List (List Int) → Option (List Int × Int)
  | 0, _, _, _, _, _ => none
  | k + 1, x1, x7, x8, x250000, x250001 => if x8 < (x250001.length : Int) then (if 0 ≤ x8 then ((spec_l20State.f k x1 (rd_L2 x250001 x8)).bind fun bt255 => (if bt255.1 = true then (spec_UnitLiterals.l0 k x1 x7 (wrap64 (x8 + 1)) x250000 x250001) else (if bt255.2.1 = 1 then (if x7.length < 17592186044416 then (spec_UnitLiterals.l0 k x1 (x7 ++ [bt255.2.2]) (wrap64 (x8 + 1)) x250000 x250001) else (none)) else (spec_UnitLiterals.l0 k x1 x7 (wrap64 (x8 + 1)) x250000 x250001)))) else (none)) else (some (x7, 0))
def spec_UnitLiterals.f (k : Nat) (a0_0 : Int) (l0_1 : List (List Int)) (l1 : List Int) : Option (List Int × Int) := (spec_l20Code.f k a0_0 l0_1 l1).bind fun t250 => (if t250 = 0 then (spec_UnitLiterals.l0 k l1 (([] : List Int)) 0 a0_0 l0_1) else (some (([] : List Int), t250)))
theorem spec_UnitLiterals.mono_l : ∀ k, (∀ y0 y1 y2 y3 y4, LeO (spec_UnitLiterals.l0 k y0 y1 y2 y3 y4) (spec_UnitLiterals.l0 (k + 1) y0 y1 y2 y3 y4))
  | 0 => fun _ _ _ _ _ r h => by simp [spec_UnitLiterals.l0] at h
  | k + 1 => by
    have ih0 := spec_UnitLiterals.mono_l k
    · intro y0 y1 y2 y3 y4
      unfold spec_UnitLiterals.l0
      repeat' first
      | (with_reducible exact ih0 _ _ _ _ _)
      | (with_reducible exact spec_l20Code.mono _ _ _ _)
      | (with_reducible exact spec_l20State.mono _ _ _)
      | (with_reducible exact LeO.refl _)
      | (with_reducible exact LeO.none _)
      | (with_reducible refine LeO.ite ?_ ?_)
      | (with_reducible refine LeO.bind ?_ (fun _ => ?_))
      | exact ih0 _ _ _ _ _
      | exact spec_l20Code.mono _ _ _ _
      | exact spec_l20State.mono _ _ _
      | exact LeO.none _
      | refine LeO.ite ?_ ?_
      | refine LeO.bind ?_ (fun _ => ?_)
theorem spec_UnitLiterals.mono : ∀ a0 a1 a2 k, LeO (spec_UnitLiterals.f k a0 a1 a2) (spec_UnitLiterals.f (k + 1) a0 a1 a2) := by
  intro a0 a1 a2 k
  have ih0 := spec_UnitLiterals.mono_l k
  unfold spec_UnitLiterals.f
  repeat' first
      | (with_reducible exact ih0 _ _ _ _ _)
      | (with_reducible exact spec_l20Code.mono _ _ _ _)
      | (with_reducible exact spec_l20State.mono _ _ _)
      | (with_reducible exact LeO.refl _)
      | (with_reducible exact LeO.none _)
      | (with_reducible refine LeO.ite ?_ ?_)
      | (with_reducible refine LeO.bind ?_ (fun _ => ?_))
      | exact ih0 _ _ _ _ _
      | exact spec_l20Code.mono _ _ _ _
      | exact spec_l20State.mono _ _ _
      | exact LeO.none _
      | refine LeO.ite ?_ ?_
      | refine LeO.bind ?_ (fun _ => ?_)
set_option maxHeartbeats 8000000 in
set_option maxRecDepth 100000 in
theorem spec_UnitLiterals.calls (k : Nat) (a0_0 : Int) (A0_1 : Option Addr) (c0_1 : Nat) (l0_1 : List (List Int)) (A1 : Option Addr) (c1 : Nat) (l1 : List Int) (r1 : List Int) (r2 : Int) (w : World) (hr0_1 : Kd.C (Kd.slice 2 (Kd.int .i64)) w A0_1 l0_1.length l0_1) (hc0_1 : l0_1.length ≤ c0_1) (hr1 : Kd.C (Kd.int .i64) w A1 l1.length l1) (hc1 : l1.length ≤ c1) (h : spec_UnitLiterals.f k a0_0 l0_1 l1 = some (r1, r2)) :
    Calls Try.prog 7 #[.agg #[.int .i64 a0_0, .slice A0_1 l0_1.length c0_1], .slice A1 l1.length c1] w fun e w' => ∃ v0_ : Value, e = .returned (.tuple #[v0_, .int .i64 r2]) ∧ Kd.R (Kd.int .i64) 2 w' w.heap.size (fun _ => True) v0_ r1 ∧ Below w.heap.size w w' := by
  have hu26 := Try.underlying26
  have HR0_1 := Aside0.mk hr0_1
  have HC0_1 := Aside0.mk hc0_1
  clear hr0_1 hc0_1
  have HR1 := Aside0.mk hr1
  have HC1 := Aside0.mk hc1
  clear hr1 hc1
  have HB := Aside0.mk (Below.refl w.heap.size w)
  have H : ((spec_l20Code.f k a0_0 l0_1 l1).bind fun t250 => (if t250 = 0 then (spec_UnitLiterals.l0 k l1 (([] : List Int)) 0 a0_0 l0_1) else (some (([] : List Int), t250)))) = some (r1, r2) := h
  clear h
  obtain ⟨t250, A30, H⟩ := Option.bind_eq_some_iff.mp H
  have A3 := Aside0.mk A30
  clear A30
  by_cases c4 : t250 = 0
  · rw [if_pos c4] at H
    have c4b0 : (t250 == 0) = true := beq_iff_eq.mpr c4
    have c4b1 : (t250 != 0) = false := bne_eq_false_iff_eq.mpr c4
    clear c4
    obtain ⟨y251, hy251⟩ : ∃ y_ : List Int, y_ = (([] : List Int)) := ⟨_, rfl⟩
    replace H : (spec_UnitLiterals.l0 k l1 y251 0 a0_0 l0_1) = some (r1, r2) := by first | (rw [hy251]; with_reducible exact H) | (have H2_ := (Option.bind_some _ _).symm.trans H; rw [hy251]; with_reducible exact H2_) | (have H2_ := (Option.bind_some _ _).symm.trans H; with_reducible exact H2_) | with_reducible exact H | (rw [hy251]; exact H) | exact H
    have Ny251 := Aside0.mk hy251
    clear hy251
    have H' := Aside0.mk H
    clear H
    go_enter Try.func7, Try.ntmps7
    go_wp2_with (first | ((with_reducible refine gD 2 ?_); refine BX #[.int .i64 a0_0, .slice A0_1 l0_1.length c0_1] 26 ?_; intro gb249 hg w5 hbox hb; have BK249 := Aside0.mk (hbox); have GW249 := Aside0.mk ((Gle hg Hb : w.heap.size ≤ gb249)); have GE249 := Aside0.mk ((Gle hg Hb : w.heap.size ≤ gb249)); replace HB := Aside0.mk (below_step Hb hb); clear hb hbox hg; have hcz6_0 : w5.cell? ⟨gb249, 0, none⟩ = some (.int .i64 a0_0) := bc BK249; have hcz6_1 : w5.cell? ⟨gb249, 1, none⟩ = some (.slice A0_1 l0_1.length c0_1) := bc BK249; have hfz6_0 := blk_frozen BK249.out 0; have hfz6_1 := blk_frozen BK249.out 1) | ((with_reducible refine gC 18 ?_); refine GL (some 14) Try.func18 #[.agg #[.int .i64 a0_0, .slice A0_1 l0_1.length c0_1], .slice A1 l1.length c1] ?_; (with_reducible refine (spec_l20Code.calls k a0_0 _ _ l0_1 _ _ l1 t250 _ ?side1 ?side2 ?side3 ?side4 A3.out).mono ?_); (case side1 => exact Kd.C_below HR0_1.out Hb); (case side2 => exact HC0_1.out); (case side3 => exact Kd.C_below HR1.out Hb); (case side4 => exact HC1.out); rintro e w7 ⟨rfl, hb⟩; refine ⟨_, rfl, ?_⟩; replace BK249 := Aside0.mk (blk_below (B1 BK249) hb); replace HB := Aside0.mk (below_step Hb hb); (try clear hb); (try clear hb2); (try clear hk); (try clear hi)) | ((with_reducible refine gD 18 ?_); refine Kd.R_lit (Kd.int .i64) _ 2 ?hg (N := 18) ?hd (xs := ([] : List Int)) (inner := []) (ok := fun _ => True) (okp := fun _ => True) ?hr ?hp (fun _ hk => hk) trivial (Below.refl _ _) (Nat.le_refl _) (by simp) ?_; (case hd => rfl); (case hg => rfl); (case hr => first | (go_simp; done) | (go_simp; rfl)); (case hp => exact (Reps.none _ _)); intro v252 w8 ho9 hb hg_ hnew_; clear hg_ hnew_; (first | rw [← Ny251.out] at ho9 | (simp only [Int.reduceToNat] at ho9; rw [← Ny251.out] at ho9)); have HO253 := Aside0.mk (Kd.R_lower ho9 (below_size Hb)); replace BK249 := Aside0.mk (blk_below (B1 BK249) hb); replace HB := Aside0.mk (below_step Hb hb); clear hb ho9))
    go_loopg [7, 8] k (fun kq v7 v8 w' => ∃ (x7_1 : List Int) (x8_1 : Int), v8 = .int .i64 x8_1 ∧ Aside0 (spec_UnitLiterals.l0 kq l1 x7_1 x8_1 a0_0 l0_1 = some (r1, r2)) ∧ Aside0 (kq ≤ k) ∧ Aside0 (Kd.R (Kd.int .i64) 2 w' w.heap.size (fun _ => True) v7 x7_1) ∧ Aside0 (w'.heap[gb249]? = some (.cells #[.int .i64 a0_0, (.slice A0_1 l0_1.length c0_1)] 26 (0, 0))) ∧ Aside0 (Below w.heap.size w w'))
    case atStart => exact ⟨(y251), (0), Fs, H', ⟨Nat.le_refl _⟩, ⟨R1 HO253⟩, ⟨B1 BK249⟩, ⟨Hb⟩⟩
    case round =>
      clear H'
      try clear c1
      try clear p2
      try clear c4
      try clear c4b0
      try clear c4b1
      try clear c7
      try clear hcz6_0
      try clear hcz6_1
      try clear hfz6_0
      try clear hfz6_1
      obtain ⟨x7_1, x8_1, rfl, HA, HK1, HO_7, BK249, HB⟩ := hrel
      cases gk with
      | zero => exact absurd HA.out (by simp [spec_UnitLiterals.l0])
      | succ k1 =>
        have H := HA.out
        clear HA
        simp only [spec_UnitLiterals.l0] at H
        by_cases c10 : x8_1 < (l0_1.length : Int)
        · rw [if_pos c10] at H
          have c10b0 : decide (x8_1 < (l0_1.length : Int)) = true := decide_eq_true c10
          clear c10
          by_cases c11 : 0 ≤ x8_1
          · rw [if_pos c11] at H
            have c11b0 : decide (0 ≤ x8_1) = true := decide_eq_true c11
            clear c11
            obtain ⟨⟨t255, t256, t257⟩, A120, H⟩ := Option.bind_eq_some_iff.mp H
            dsimp only at H
            have A12 := Aside0.mk A120
            clear A120
            by_cases c13 : t255 = true
            · subst c13
              rw [if_pos rfl] at H
              have H' := Aside0.mk H
              clear H
              have hcz14_0 : wr.cell? ⟨gb249, 0, none⟩ = some (.int .i64 a0_0) := bc BK249
              have hcz14_1 : wr.cell? ⟨gb249, 1, none⟩ = some (.slice A0_1 l0_1.length c0_1) := bc BK249
              have hfz14_0 := blk_frozen BK249.out 0
              have hfz14_1 := blk_frozen BK249.out 1
              have p254 : 0 ≤ (x8_1 : Int) := oD
              have q254 : x8_1 < (l0_1.length : Int) := oD
              obtain ⟨ad254, A254_0, c254_0, e254, hx254_0, hl254_0, hi254_0⟩ := at_L2 HR0_1.out x8_1 p254 q254
              cases e254
              replace hx254_0 := hxb hx254_0
              have HR254_0 := Aside0.mk hi254_0
              have HC254_0 := Aside0.mk hl254_0
              clear hi254_0 hl254_0
              replace p254 := eq_true p254
              replace q254 := eq_true q254
              go_wp2_with (first | ((with_reducible refine gC 19 ?_); refine GL (some 33) Try.func19 #[.slice A1 l1.length c1, .slice A254_0 (rd_L2 l0_1 x8_1).length c254_0] ?_; (with_reducible refine (spec_l20State.calls k1 _ _ l1 _ _ (rd_L2 l0_1 x8_1) true t256 t257 _ ?side1 ?side2 ?side3 ?side4 A12.out).mono ?_); (case side1 => exact Kd.C_below HR1.out Hb); (case side2 => exact HC1.out); (case side3 => exact Kd.C_below HR254_0.out Hb); (case side4 => exact HC254_0.out); rintro e w15 ⟨rfl, hb⟩; refine ⟨_, rfl, ?_⟩; replace HO_7 := Aside0.mk (Kd.R_below (R1 HO_7) hb); replace BK249 := Aside0.mk (blk_below (B1 BK249) hb); replace HB := Aside0.mk (below_step Hb hb); (try clear hb); (try clear hb2); (try clear hk); (try clear hi)))
              go_roundg k1
              case measure => have := HK1.out; omega
              case rel => exact ⟨(x7_1), (wrap64 (x8_1 + 1)), Fs, H', ⟨by have := HK1.out; omega⟩, ⟨R1 HO_7⟩, ⟨B1 BK249⟩, ⟨Hb⟩⟩
            · replace c13 := Bool.eq_false_iff.mpr c13
              subst c13
              rw [if_neg (show ¬ (false = true) by decide)] at H
              by_cases c16 : t256 = 1
              · rw [if_pos c16] at H
                have c16b0 : (t256 == 1) = true := beq_iff_eq.mpr c16
                have c16b1 : (t256 != 1) = false := bne_eq_false_iff_eq.mpr c16
                clear c16
                by_cases c17 : x7_1.length < 17592186044416
                · rw [if_pos c17] at H
                  have LMc17 := Aside0.mk c17
                  clear c17
                  obtain ⟨y258, hy258⟩ : ∃ y_ : List Int, y_ = (x7_1 ++ [t257]) := ⟨_, rfl⟩
                  replace H : (spec_UnitLiterals.l0 k1 l1 y258 (wrap64 (x8_1 + 1)) a0_0 l0_1) = some (r1, r2) := by first | (rw [hy258]; with_reducible exact H) | (have H2_ := (Option.bind_some _ _).symm.trans H; rw [hy258]; with_reducible exact H2_) | (have H2_ := (Option.bind_some _ _).symm.trans H; with_reducible exact H2_) | with_reducible exact H | (rw [hy258]; exact H) | exact H
                  have Ny258 := Aside0.mk hy258
                  clear hy258
                  have H' := Aside0.mk H
                  clear H
                  have hcz18_0 : wr.cell? ⟨gb249, 0, none⟩ = some (.int .i64 a0_0) := bc BK249
                  have hcz18_1 : wr.cell? ⟨gb249, 1, none⟩ = some (.slice A0_1 l0_1.length c0_1) := bc BK249
                  have hfz18_0 := blk_frozen BK249.out 0
                  have hfz18_1 := blk_frozen BK249.out 1
                  have p254 : 0 ≤ (x8_1 : Int) := oD
                  have q254 : x8_1 < (l0_1.length : Int) := oD
                  obtain ⟨ad254, A254_0, c254_0, e254, hx254_0, hl254_0, hi254_0⟩ := at_L2 HR0_1.out x8_1 p254 q254
                  cases e254
                  replace hx254_0 := hxb hx254_0
                  have HR254_0 := Aside0.mk hi254_0
                  have HC254_0 := Aside0.mk hl254_0
                  clear hi254_0 hl254_0
                  replace p254 := eq_true p254
                  replace q254 := eq_true q254
                  go_wp2_with (first | ((with_reducible refine gC 19 ?_); refine GL (some 33) Try.func19 #[.slice A1 l1.length c1, .slice A254_0 (rd_L2 l0_1 x8_1).length c254_0] ?_; (with_reducible refine (spec_l20State.calls k1 _ _ l1 _ _ (rd_L2 l0_1 x8_1) false t256 t257 _ ?side1 ?side2 ?side3 ?side4 A12.out).mono ?_); (case side1 => exact Kd.C_below HR1.out Hb); (case side2 => exact HC1.out); (case side3 => exact Kd.C_below HR254_0.out Hb); (case side4 => exact HC254_0.out); rintro e w19 ⟨rfl, hb⟩; refine ⟨_, rfl, ?_⟩; replace HO_7 := Aside0.mk (Kd.R_below (R1 HO_7) hb); replace BK249 := Aside0.mk (blk_below (B1 BK249) hb); replace HB := Aside0.mk (below_step Hb hb); (try clear hb); (try clear hb2); (try clear hk); (try clear hi)) | ((with_reducible refine gate_builtin (b := .append) (xs := #[.tmp 43, .tmp 45]) rfl ?_); at_builtin; refine Kd.R_append (Kd.int .i64) (w0 := w) w.heap.size rfl (.tmp 43) (.tmp 45) 27 2 (.int .i64 0) 8 rfl Try.underlying27 info2 rfl (by decide) (by omega) u7 x7_1 t257 [.int .i64 t257] (fun _ => True) (fun _ => False) rfl rfl ?aP (fun _ hk => hk.elim) ?aF ?aO ?aB ?aS ?aL ?_; (case aP => exact rfl); (case aB => exact Hb); (case aF => exact (fun _ _ => trivial)); (case aO => exact (R1 HO_7)); (case aS => exact (below_size Hb)); (case aL => have := LMc17.out; omega); intro v259 w20 ho hb hg hat; rw [← Ny258.out] at ho; replace BK249 := Aside0.mk (blk_grown (B1 BK249) hg (Kd.R_ne HO_7.out BK249.out (by decide))); replace HB := Aside0.mk (hb); have HO260 := Aside0.mk (ho); clear HO_7; clear ho hb hg hat))
                  go_roundg k1
                  case measure => have := HK1.out; omega
                  case rel => exact ⟨(y258), (wrap64 (x8_1 + 1)), Fs, H', ⟨by have := HK1.out; omega⟩, ⟨R1 HO260⟩, ⟨B1 BK249⟩, ⟨Hb⟩⟩
                · rw [if_neg c17] at H
                  exact absurd H (by simp)
              · rw [if_neg c16] at H
                have c16b0 : (t256 == 1) = false := beq_eq_false_iff_ne.mpr c16
                have c16b1 : (t256 != 1) = true := bne_iff_ne.mpr c16
                have H' := Aside0.mk H
                clear H
                have hcz21_0 : wr.cell? ⟨gb249, 0, none⟩ = some (.int .i64 a0_0) := bc BK249
                have hcz21_1 : wr.cell? ⟨gb249, 1, none⟩ = some (.slice A0_1 l0_1.length c0_1) := bc BK249
                have hfz21_0 := blk_frozen BK249.out 0
                have hfz21_1 := blk_frozen BK249.out 1
                have p254 : 0 ≤ (x8_1 : Int) := oD
                have q254 : x8_1 < (l0_1.length : Int) := oD
                obtain ⟨ad254, A254_0, c254_0, e254, hx254_0, hl254_0, hi254_0⟩ := at_L2 HR0_1.out x8_1 p254 q254
                cases e254
                replace hx254_0 := hxb hx254_0
                have HR254_0 := Aside0.mk hi254_0
                have HC254_0 := Aside0.mk hl254_0
                clear hi254_0 hl254_0
                replace p254 := eq_true p254
                replace q254 := eq_true q254
                go_wp2_with (first | ((with_reducible refine gC 19 ?_); refine GL (some 33) Try.func19 #[.slice A1 l1.length c1, .slice A254_0 (rd_L2 l0_1 x8_1).length c254_0] ?_; (with_reducible refine (spec_l20State.calls k1 _ _ l1 _ _ (rd_L2 l0_1 x8_1) false t256 t257 _ ?side1 ?side2 ?side3 ?side4 A12.out).mono ?_); (case side1 => exact Kd.C_below HR1.out Hb); (case side2 => exact HC1.out); (case side3 => exact Kd.C_below HR254_0.out Hb); (case side4 => exact HC254_0.out); rintro e w22 ⟨rfl, hb⟩; refine ⟨_, rfl, ?_⟩; replace HO_7 := Aside0.mk (Kd.R_below (R1 HO_7) hb); replace BK249 := Aside0.mk (blk_below (B1 BK249) hb); replace HB := Aside0.mk (below_step Hb hb); (try clear hb); (try clear hb2); (try clear hk); (try clear hi)))
                go_roundg k1
                case measure => have := HK1.out; omega
                case rel => exact ⟨(x7_1), (wrap64 (x8_1 + 1)), Fs, H', ⟨by have := HK1.out; omega⟩, ⟨R1 HO_7⟩, ⟨B1 BK249⟩, ⟨Hb⟩⟩
          · rw [if_neg c11] at H
            exact absurd H (by simp)
        · rw [if_neg c10] at H
          have c10b0 : decide (x8_1 < (l0_1.length : Int)) = false := decide_eq_false c10
          clear c10
          simp only [Option.some.injEq, Prod.mk.injEq] at H
          obtain ⟨rfl, rfl⟩ := H
          have hcz23_0 : wr.cell? ⟨gb249, 0, none⟩ = some (.int .i64 a0_0) := bc BK249
          have hcz23_1 : wr.cell? ⟨gb249, 1, none⟩ = some (.slice A0_1 l0_1.length c0_1) := bc BK249
          have hfz23_0 := blk_frozen BK249.out 0
          have hfz23_1 := blk_frozen BK249.out 1
          go_wp2
          go_ret2
          exact ⟨_, Fin, R1 HO_7, Hb⟩
  · rw [if_neg c4] at H
    have c4b0 : (t250 == 0) = false := beq_eq_false_iff_ne.mpr c4
    have c4b1 : (t250 != 0) = true := bne_iff_ne.mpr c4
    simp only [Option.some.injEq, Prod.mk.injEq] at H
    obtain ⟨rfl, rfl⟩ := H
    go_enter Try.func7, Try.ntmps7
    go_wp2_with (first | ((with_reducible refine gD 2 ?_); refine BX #[.int .i64 a0_0, .slice A0_1 l0_1.length c0_1] 26 ?_; intro gb249 hg w24 hbox hb; have BK249 := Aside0.mk (hbox); have GW249 := Aside0.mk ((Gle hg Hb : w.heap.size ≤ gb249)); have GE249 := Aside0.mk ((Gle hg Hb : w.heap.size ≤ gb249)); replace HB := Aside0.mk (below_step Hb hb); clear hb hbox hg; have hcz25_0 : w24.cell? ⟨gb249, 0, none⟩ = some (.int .i64 a0_0) := bc BK249; have hcz25_1 : w24.cell? ⟨gb249, 1, none⟩ = some (.slice A0_1 l0_1.length c0_1) := bc BK249; have hfz25_0 := blk_frozen BK249.out 0; have hfz25_1 := blk_frozen BK249.out 1) | ((with_reducible refine gC 18 ?_); refine GL (some 14) Try.func18 #[.agg #[.int .i64 a0_0, .slice A0_1 l0_1.length c0_1], .slice A1 l1.length c1] ?_; (with_reducible refine (spec_l20Code.calls k a0_0 _ _ l0_1 _ _ l1 t250 _ ?side1 ?side2 ?side3 ?side4 A3.out).mono ?_); (case side1 => exact Kd.C_below HR0_1.out Hb); (case side2 => exact HC0_1.out); (case side3 => exact Kd.C_below HR1.out Hb); (case side4 => exact HC1.out); rintro e w26 ⟨rfl, hb⟩; refine ⟨_, rfl, ?_⟩; replace BK249 := Aside0.mk (blk_below (B1 BK249) hb); replace HB := Aside0.mk (below_step Hb hb); (try clear hb); (try clear hb2); (try clear hk); (try clear hi)))
    go_ret2
    exact ⟨_, Fin, by first | exact Kd.R_nil _ _ _ _ _ | exact Kd.N_nil _ _ _ _ _ | exact Kd.V_nil _ _ _ _ _ | exact Kd.Q_nil _ _ _ _ _ | exact Kd.S_nil _ _ _ _ _, Hb⟩

/-! ### impl_FalseClauses: function 8 -/
def impl_FalseClauses.l0 : Nat → List Int → List Int → List (List Int) → Int → Int → Option (List Int × Int)
  | 0, _, _, _, _, _ => none
  | k + 1, x1, x7, x21, x22, x23 => if x23 < x22 then (if 0 ≤ x23 then (if x23 < (x21.length : Int) then ((impl_weigh.f k x1 (rd_L2 x21 x23)).bind fun bt267 => (if bt267.1 = true then (impl_FalseClauses.l0 k x1 x7 x21 x22 (wrap64 (x23 + 1))) else (if bt267.2.1 = 0 then (if x7.length < 17592186044416 then (impl_FalseClauses.l0 k x1 (x7 ++ [x23]) x21 x22 (wrap64 (x23 + 1))) else (none)) else (impl_FalseClauses.l0 k x1 x7 x21 x22 (wrap64 (x23 + 1)))))) else (none)) else (none)) else (some (x7, 0))
def impl_FalseClauses.f (k : Nat) (a0_0 : Int) (l0_1 : List (List Int)) (l1 : List Int) : Option (List Int × Int) := (impl_assignmentCode.f k a0_0 l0_1 l1).bind fun t262 => (if t262 = 0 then (impl_FalseClauses.l0 k l1 (([] : List Int)) l0_1 (l0_1.length : Int) 0) else (some (([] : List Int), t262)))
theorem impl_FalseClauses.mono_l : ∀ k, (∀ y0 y1 y2 y3 y4, LeO (impl_FalseClauses.l0 k y0 y1 y2 y3 y4) (impl_FalseClauses.l0 (k + 1) y0 y1 y2 y3 y4))
  | 0 => fun _ _ _ _ _ r h => by simp [impl_FalseClauses.l0] at h
  | k + 1 => by
    have ih0 := impl_FalseClauses.mono_l k
    · intro y0 y1 y2 y3 y4
      unfold impl_FalseClauses.l0
      repeat' first
      | (with_reducible exact ih0 _ _ _ _ _)
      | (with_reducible exact impl_assignmentCode.mono _ _ _ _)
      | (with_reducible exact impl_weigh.mono _ _ _)
      | (with_reducible exact LeO.refl _)
      | (with_reducible exact LeO.none _)
      | (with_reducible refine LeO.ite ?_ ?_)
      | (with_reducible refine LeO.bind ?_ (fun _ => ?_))
      | exact ih0 _ _ _ _ _
      | exact impl_assignmentCode.mono _ _ _ _
      | exact impl_weigh.mono _ _ _
      | exact LeO.none _
      | refine LeO.ite ?_ ?_
      | refine LeO.bind ?_ (fun _ => ?_)
theorem impl_FalseClauses.mono : ∀ a0 a1 a2 k, LeO (impl_FalseClauses.f k a0 a1 a2) (impl_FalseClauses.f (k + 1) a0 a1 a2) := by
  intro a0 a1 a2 k
  have ih0 := impl_FalseClauses.mono_l k
  unfold impl_FalseClauses.f
  repeat' first
      | (with_reducible exact ih0 _ _ _ _ _)
      | (with_reducible exact impl_assignmentCode.mono _ _ _ _)
      | (with_reducible exact impl_weigh.mono _ _ _)
      | (with_reducible exact LeO.refl _)
      | (with_reducible exact LeO.none _)
      | (with_reducible refine LeO.ite ?_ ?_)
      | (with_reducible refine LeO.bind ?_ (fun _ => ?_))
      | exact ih0 _ _ _ _ _
      | exact impl_assignmentCode.mono _ _ _ _
      | exact impl_weigh.mono _ _ _
      | exact LeO.none _
      | refine LeO.ite ?_ ?_
      | refine LeO.bind ?_ (fun _ => ?_)
set_option maxHeartbeats 8000000 in
set_option maxRecDepth 100000 in
theorem impl_FalseClauses.calls (k : Nat) (a0_0 : Int) (A0_1 : Option Addr) (c0_1 : Nat) (l0_1 : List (List Int)) (A1 : Option Addr) (c1 : Nat) (l1 : List Int) (r1 : List Int) (r2 : Int) (w : World) (hr0_1 : Kd.C (Kd.slice 2 (Kd.int .i64)) w A0_1 l0_1.length l0_1) (hc0_1 : l0_1.length ≤ c0_1) (hr1 : Kd.C (Kd.int .i64) w A1 l1.length l1) (hc1 : l1.length ≤ c1) (h : impl_FalseClauses.f k a0_0 l0_1 l1 = some (r1, r2)) :
    Calls Try.prog 8 #[.agg #[.int .i64 a0_0, .slice A0_1 l0_1.length c0_1], .slice A1 l1.length c1] w fun e w' => ∃ v0_ : Value, e = .returned (.tuple #[v0_, .int .i64 r2]) ∧ Kd.R (Kd.int .i64) 2 w' w.heap.size (fun _ => True) v0_ r1 ∧ Below w.heap.size w w' := by
  have hu26 := Try.underlying26
  have HR0_1 := Aside0.mk hr0_1
  have HC0_1 := Aside0.mk hc0_1
  clear hr0_1 hc0_1
  have HR1 := Aside0.mk hr1
  have HC1 := Aside0.mk hc1
  clear hr1 hc1
  have HB := Aside0.mk (Below.refl w.heap.size w)
  have H : ((impl_assignmentCode.f k a0_0 l0_1 l1).bind fun t262 => (if t262 = 0 then (impl_FalseClauses.l0 k l1 (([] : List Int)) l0_1 (l0_1.length : Int) 0) else (some (([] : List Int), t262)))) = some (r1, r2) := h
  clear h
  obtain ⟨t262, A30, H⟩ := Option.bind_eq_some_iff.mp H
  have A3 := Aside0.mk A30
  clear A30
  by_cases c4 : t262 = 0
  · rw [if_pos c4] at H
    have c4b0 : (t262 == 0) = true := beq_iff_eq.mpr c4
    have c4b1 : (t262 != 0) = false := bne_eq_false_iff_eq.mpr c4
    clear c4
    obtain ⟨y263, hy263⟩ : ∃ y_ : List Int, y_ = (([] : List Int)) := ⟨_, rfl⟩
    replace H : (impl_FalseClauses.l0 k l1 y263 l0_1 (l0_1.length : Int) 0) = some (r1, r2) := by first | (rw [hy263]; with_reducible exact H) | (have H2_ := (Option.bind_some _ _).symm.trans H; rw [hy263]; with_reducible exact H2_) | (have H2_ := (Option.bind_some _ _).symm.trans H; with_reducible exact H2_) | with_reducible exact H | (rw [hy263]; exact H) | exact H
    have Ny263 := Aside0.mk hy263
    clear hy263
    have H' := Aside0.mk H
    clear H
    go_enter Try.func8, Try.ntmps8
    go_wp2_with (first | ((with_reducible refine gD 2 ?_); refine BX #[.int .i64 a0_0, .slice A0_1 l0_1.length c0_1] 26 ?_; intro gb261 hg w5 hbox hb; have BK261 := Aside0.mk (hbox); have GW261 := Aside0.mk ((Gle hg Hb : w.heap.size ≤ gb261)); have GE261 := Aside0.mk ((Gle hg Hb : w.heap.size ≤ gb261)); replace HB := Aside0.mk (below_step Hb hb); clear hb hbox hg; have hcz6_0 : w5.cell? ⟨gb261, 0, none⟩ = some (.int .i64 a0_0) := bc BK261; have hcz6_1 : w5.cell? ⟨gb261, 1, none⟩ = some (.slice A0_1 l0_1.length c0_1) := bc BK261; have hfz6_0 := blk_frozen BK261.out 0; have hfz6_1 := blk_frozen BK261.out 1) | ((with_reducible refine gC 16 ?_); refine GL (some 15) Try.func16 #[.agg #[.int .i64 a0_0, .slice A0_1 l0_1.length c0_1], .slice A1 l1.length c1] ?_; (with_reducible refine (impl_assignmentCode.calls k a0_0 _ _ l0_1 _ _ l1 t262 _ ?side1 ?side2 ?side3 ?side4 A3.out).mono ?_); (case side1 => exact Kd.C_below HR0_1.out Hb); (case side2 => exact HC0_1.out); (case side3 => exact Kd.C_below HR1.out Hb); (case side4 => exact HC1.out); rintro e w7 ⟨rfl, hb⟩; refine ⟨_, rfl, ?_⟩; replace BK261 := Aside0.mk (blk_below (B1 BK261) hb); replace HB := Aside0.mk (below_step Hb hb); (try clear hb); (try clear hb2); (try clear hk); (try clear hi)) | ((with_reducible refine gD 19 ?_); refine Kd.R_lit (Kd.int .i64) _ 2 ?hg (N := 19) ?hd (xs := ([] : List Int)) (inner := []) (ok := fun _ => True) (okp := fun _ => True) ?hr ?hp (fun _ hk => hk) trivial (Below.refl _ _) (Nat.le_refl _) (by simp) ?_; (case hd => rfl); (case hg => rfl); (case hr => first | (go_simp; done) | (go_simp; rfl)); (case hp => exact (Reps.none _ _)); intro v264 w8 ho9 hb hg_ hnew_; clear hg_ hnew_; (first | rw [← Ny263.out] at ho9 | (simp only [Int.reduceToNat] at ho9; rw [← Ny263.out] at ho9)); have HO265 := Aside0.mk (Kd.R_lower ho9 (below_size Hb)); replace BK261 := Aside0.mk (blk_below (B1 BK261) hb); replace HB := Aside0.mk (below_step Hb hb); clear hb ho9; have hcz10_0 : w8.cell? ⟨gb261, 0, none⟩ = some (.int .i64 a0_0) := bc BK261; have hcz10_1 : w8.cell? ⟨gb261, 1, none⟩ = some (.slice A0_1 l0_1.length c0_1) := bc BK261; have hfz10_0 := blk_frozen BK261.out 0; have hfz10_1 := blk_frozen BK261.out 1))
    go_loopg [7, 23] k (fun kq v7 v23 w' => ∃ (x7_1 : List Int) (x23_1 : Int), v23 = .int .i64 x23_1 ∧ Aside0 (impl_FalseClauses.l0 kq l1 x7_1 l0_1 (l0_1.length : Int) x23_1 = some (r1, r2)) ∧ Aside0 (kq ≤ k) ∧ Aside0 (Kd.R (Kd.int .i64) 2 w' w.heap.size (fun _ => True) v7 x7_1) ∧ Aside0 (w'.heap[gb261]? = some (.cells #[.int .i64 a0_0, (.slice A0_1 l0_1.length c0_1)] 26 (0, 0))) ∧ Aside0 (Below w.heap.size w w'))
    case atStart => exact ⟨(y263), (0), Fs, H', ⟨Nat.le_refl _⟩, ⟨R1 HO265⟩, ⟨B1 BK261⟩, ⟨Hb⟩⟩
    case round =>
      clear H'
      try clear c1
      try clear p2
      try clear c4
      try clear c4b0
      try clear c4b1
      try clear c8
      try clear hcz10_0
      try clear hcz10_1
      try clear hcz6_0
      try clear hcz6_1
      try clear hfz10_0
      try clear hfz10_1
      try clear hfz6_0
      try clear hfz6_1
      obtain ⟨x7_1, x23_1, rfl, HA, HK1, HO_7, BK261, HB⟩ := hrel
      cases gk with
      | zero => exact absurd HA.out (by simp [impl_FalseClauses.l0])
      | succ k1 =>
        have H := HA.out
        clear HA
        simp only [impl_FalseClauses.l0] at H
        by_cases c11 : x23_1 < (l0_1.length : Int)
        · rw [if_pos c11] at H
          have c11b0 : decide (x23_1 < (l0_1.length : Int)) = true := decide_eq_true c11
          clear c11
          by_cases c12 : 0 ≤ x23_1
          · rw [if_pos c12] at H
            have c12b0 : decide (0 ≤ x23_1) = true := decide_eq_true c12
            clear c12
            by_cases c13 : x23_1 < (l0_1.length : Int)
            · rw [if_pos c13] at H
              have c13b0 : decide (x23_1 < (l0_1.length : Int)) = true := decide_eq_true c13
              clear c13
              obtain ⟨⟨t267, t268, t269⟩, A140, H⟩ := Option.bind_eq_some_iff.mp H
              dsimp only at H
              have A14 := Aside0.mk A140
              clear A140
              by_cases c15 : t267 = true
              · subst c15
                rw [if_pos rfl] at H
                have H' := Aside0.mk H
                clear H
                have p266 : 0 ≤ (x23_1 : Int) := oD
                have q266 : x23_1 < (l0_1.length : Int) := oD
                obtain ⟨ad266, A266_0, c266_0, e266, hx266_0, hl266_0, hi266_0⟩ := at_L2 HR0_1.out x23_1 p266 q266
                cases e266
                replace hx266_0 := hxb hx266_0
                have HR266_0 := Aside0.mk hi266_0
                have HC266_0 := Aside0.mk hl266_0
                clear hi266_0 hl266_0
                replace p266 := eq_true p266
                replace q266 := eq_true q266
                go_wp2_with (first | ((with_reducible refine gC 17 ?_); refine GL (some 31) Try.func17 #[.slice A1 l1.length c1, .slice A266_0 (rd_L2 l0_1 x23_1).length c266_0] ?_; (with_reducible refine (impl_weigh.calls k1 _ _ l1 _ _ (rd_L2 l0_1 x23_1) true t268 t269 _ ?side1 ?side2 ?side3 ?side4 A14.out).mono ?_); (case side1 => exact Kd.C_below HR1.out Hb); (case side2 => exact HC1.out); (case side3 => exact Kd.C_below HR266_0.out Hb); (case side4 => exact HC266_0.out); rintro e w16 ⟨rfl, hb⟩; refine ⟨_, rfl, ?_⟩; replace HO_7 := Aside0.mk (Kd.R_below (R1 HO_7) hb); replace BK261 := Aside0.mk (blk_below (B1 BK261) hb); replace HB := Aside0.mk (below_step Hb hb); (try clear hb); (try clear hb2); (try clear hk); (try clear hi)))
                go_roundg k1
                case measure => have := HK1.out; omega
                case rel => exact ⟨(x7_1), (wrap64 (x23_1 + 1)), Fs, H', ⟨by have := HK1.out; omega⟩, ⟨R1 HO_7⟩, ⟨B1 BK261⟩, ⟨Hb⟩⟩
              · replace c15 := Bool.eq_false_iff.mpr c15
                subst c15
                rw [if_neg (show ¬ (false = true) by decide)] at H
                by_cases c17 : t268 = 0
                · rw [if_pos c17] at H
                  have c17b0 : (t268 == 0) = true := beq_iff_eq.mpr c17
                  have c17b1 : (t268 != 0) = false := bne_eq_false_iff_eq.mpr c17
                  clear c17
                  by_cases c18 : x7_1.length < 17592186044416
                  · rw [if_pos c18] at H
                    have LMc18 := Aside0.mk c18
                    clear c18
                    obtain ⟨y270, hy270⟩ : ∃ y_ : List Int, y_ = (x7_1 ++ [x23_1]) := ⟨_, rfl⟩
                    replace H : (impl_FalseClauses.l0 k1 l1 y270 l0_1 (l0_1.length : Int) (wrap64 (x23_1 + 1))) = some (r1, r2) := by first | (rw [hy270]; with_reducible exact H) | (have H2_ := (Option.bind_some _ _).symm.trans H; rw [hy270]; with_reducible exact H2_) | (have H2_ := (Option.bind_some _ _).symm.trans H; with_reducible exact H2_) | with_reducible exact H | (rw [hy270]; exact H) | exact H
                    have Ny270 := Aside0.mk hy270
                    clear hy270
                    have H' := Aside0.mk H
                    clear H
                    have p266 : 0 ≤ (x23_1 : Int) := oD
                    have q266 : x23_1 < (l0_1.length : Int) := oD
                    obtain ⟨ad266, A266_0, c266_0, e266, hx266_0, hl266_0, hi266_0⟩ := at_L2 HR0_1.out x23_1 p266 q266
                    cases e266
                    replace hx266_0 := hxb hx266_0
                    have HR266_0 := Aside0.mk hi266_0
                    have HC266_0 := Aside0.mk hl266_0
                    clear hi266_0 hl266_0
                    replace p266 := eq_true p266
                    replace q266 := eq_true q266
                    go_wp2_with (first | ((with_reducible refine gC 17 ?_); refine GL (some 31) Try.func17 #[.slice A1 l1.length c1, .slice A266_0 (rd_L2 l0_1 x23_1).length c266_0] ?_; (with_reducible refine (impl_weigh.calls k1 _ _ l1 _ _ (rd_L2 l0_1 x23_1) false t268 t269 _ ?side1 ?side2 ?side3 ?side4 A14.out).mono ?_); (case side1 => exact Kd.C_below HR1.out Hb); (case side2 => exact HC1.out); (case side3 => exact Kd.C_below HR266_0.out Hb); (case side4 => exact HC266_0.out); rintro e w19 ⟨rfl, hb⟩; refine ⟨_, rfl, ?_⟩; replace HO_7 := Aside0.mk (Kd.R_below (R1 HO_7) hb); replace BK261 := Aside0.mk (blk_below (B1 BK261) hb); replace HB := Aside0.mk (below_step Hb hb); (try clear hb); (try clear hb2); (try clear hk); (try clear hi)) | ((with_reducible refine gate_builtin (b := .append) (xs := #[.tmp 41, .tmp 43]) rfl ?_); at_builtin; refine Kd.R_append (Kd.int .i64) (w0 := w) w.heap.size rfl (.tmp 41) (.tmp 43) 27 2 (.int .i64 0) 8 rfl Try.underlying27 info2 rfl (by decide) (by omega) u7 x7_1 x23_1 [.int .i64 x23_1] (fun _ => True) (fun _ => False) rfl rfl ?aP (fun _ hk => hk.elim) ?aF ?aO ?aB ?aS ?aL ?_; (case aP => exact rfl); (case aB => exact Hb); (case aF => exact (fun _ _ => trivial)); (case aO => exact (R1 HO_7)); (case aS => exact (below_size Hb)); (case aL => have := LMc18.out; omega); intro v271 w20 ho hb hg hat; rw [← Ny270.out] at ho; replace BK261 := Aside0.mk (blk_grown (B1 BK261) hg (Kd.R_ne HO_7.out BK261.out (by decide))); replace HB := Aside0.mk (hb); have HO272 := Aside0.mk (ho); clear HO_7; clear ho hb hg hat))
                    go_roundg k1
                    case measure => have := HK1.out; omega
                    case rel => exact ⟨(y270), (wrap64 (x23_1 + 1)), Fs, H', ⟨by have := HK1.out; omega⟩, ⟨R1 HO272⟩, ⟨B1 BK261⟩, ⟨Hb⟩⟩
                  · rw [if_neg c18] at H
                    exact absurd H (by simp)
                · rw [if_neg c17] at H
                  have c17b0 : (t268 == 0) = false := beq_eq_false_iff_ne.mpr c17
                  have c17b1 : (t268 != 0) = true := bne_iff_ne.mpr c17
                  have H' := Aside0.mk H
                  clear H
                  have p266 : 0 ≤ (x23_1 : Int) := oD
                  have q266 : x23_1 < (l0_1.length : Int) := oD
                  obtain ⟨ad266, A266_0, c266_0, e266, hx266_0, hl266_0, hi266_0⟩ := at_L2 HR0_1.out x23_1 p266 q266
                  cases e266
                  replace hx266_0 := hxb hx266_0
                  have HR266_0 := Aside0.mk hi266_0
                  have HC266_0 := Aside0.mk hl266_0
                  clear hi266_0 hl266_0
                  replace p266 := eq_true p266
                  replace q266 := eq_true q266
                  go_wp2_with (first | ((with_reducible refine gC 17 ?_); refine GL (some 31) Try.func17 #[.slice A1 l1.length c1, .slice A266_0 (rd_L2 l0_1 x23_1).length c266_0] ?_; (with_reducible refine (impl_weigh.calls k1 _ _ l1 _ _ (rd_L2 l0_1 x23_1) false t268 t269 _ ?side1 ?side2 ?side3 ?side4 A14.out).mono ?_); (case side1 => exact Kd.C_below HR1.out Hb); (case side2 => exact HC1.out); (case side3 => exact Kd.C_below HR266_0.out Hb); (case side4 => exact HC266_0.out); rintro e w21 ⟨rfl, hb⟩; refine ⟨_, rfl, ?_⟩; replace HO_7 := Aside0.mk (Kd.R_below (R1 HO_7) hb); replace BK261 := Aside0.mk (blk_below (B1 BK261) hb); replace HB := Aside0.mk (below_step Hb hb); (try clear hb); (try clear hb2); (try clear hk); (try clear hi)))
                  go_roundg k1
                  case measure => have := HK1.out; omega
                  case rel => exact ⟨(x7_1), (wrap64 (x23_1 + 1)), Fs, H', ⟨by have := HK1.out; omega⟩, ⟨R1 HO_7⟩, ⟨B1 BK261⟩, ⟨Hb⟩⟩
            · rw [if_neg c13] at H
              exact absurd H (by simp)
          · rw [if_neg c12] at H
            exact absurd H (by simp)
        · rw [if_neg c11] at H
          have c11b0 : decide (x23_1 < (l0_1.length : Int)) = false := decide_eq_false c11
          clear c11
          simp only [Option.some.injEq, Prod.mk.injEq] at H
          obtain ⟨rfl, rfl⟩ := H
          go_wp2
          go_ret2
          exact ⟨_, Fin, R1 HO_7, Hb⟩
  · rw [if_neg c4] at H
    have c4b0 : (t262 == 0) = false := beq_eq_false_iff_ne.mpr c4
    have c4b1 : (t262 != 0) = true := bne_iff_ne.mpr c4
    simp only [Option.some.injEq, Prod.mk.injEq] at H
    obtain ⟨rfl, rfl⟩ := H
    go_enter Try.func8, Try.ntmps8
    go_wp2_with (first | ((with_reducible refine gD 2 ?_); refine BX #[.int .i64 a0_0, .slice A0_1 l0_1.length c0_1] 26 ?_; intro gb261 hg w22 hbox hb; have BK261 := Aside0.mk (hbox); have GW261 := Aside0.mk ((Gle hg Hb : w.heap.size ≤ gb261)); have GE261 := Aside0.mk ((Gle hg Hb : w.heap.size ≤ gb261)); replace HB := Aside0.mk (below_step Hb hb); clear hb hbox hg; have hcz23_0 : w22.cell? ⟨gb261, 0, none⟩ = some (.int .i64 a0_0) := bc BK261; have hcz23_1 : w22.cell? ⟨gb261, 1, none⟩ = some (.slice A0_1 l0_1.length c0_1) := bc BK261; have hfz23_0 := blk_frozen BK261.out 0; have hfz23_1 := blk_frozen BK261.out 1) | ((with_reducible refine gC 16 ?_); refine GL (some 15) Try.func16 #[.agg #[.int .i64 a0_0, .slice A0_1 l0_1.length c0_1], .slice A1 l1.length c1] ?_; (with_reducible refine (impl_assignmentCode.calls k a0_0 _ _ l0_1 _ _ l1 t262 _ ?side1 ?side2 ?side3 ?side4 A3.out).mono ?_); (case side1 => exact Kd.C_below HR0_1.out Hb); (case side2 => exact HC0_1.out); (case side3 => exact Kd.C_below HR1.out Hb); (case side4 => exact HC1.out); rintro e w24 ⟨rfl, hb⟩; refine ⟨_, rfl, ?_⟩; replace BK261 := Aside0.mk (blk_below (B1 BK261) hb); replace HB := Aside0.mk (below_step Hb hb); (try clear hb); (try clear hb2); (try clear hk); (try clear hi)))
    go_ret2
    exact ⟨_, Fin, by first | exact Kd.R_nil _ _ _ _ _ | exact Kd.N_nil _ _ _ _ _ | exact Kd.V_nil _ _ _ _ _ | exact Kd.Q_nil _ _ _ _ _ | exact Kd.S_nil _ _ _ _ _, Hb⟩

end Go.Proofs.Ytcolaakpjdhinaa.XFnUnits
