-- Written by ext.py (wip/) over the kit's print: not trusted, Lean checks it.
import Derived.Test.YtccenkhokgiejaaXFnExactFormulaOfCoverx0
import Derived.Test.YtccenkhokgiejaaXFnExactFormulaOfCoverx1
import Derived.Test.YtccenkhokgiejaaXFnExactFormulaOfCoverx3
import Derived.Test.YtccenkhokgiejaaXFnExactFormulaOfCoverx5
import Derived.Test.YtccenkhokgiejaaXFnExactFormulaOfCoverx6
namespace Go.Proofs.Ytccenkhokgiejaa.XFnExactFormulaOfCover
open Go.RowKit Go.Proofs.YtccenkhokgiejaaW.PrintWords Go.Proofs.YtccenkhokgiejaaW.PrintLast Go.Proofs.YtccenkhokgiejaaW.PrintMore
attribute [local go_sem] max2_int min2_int max_two min_two max_three min_three max_four min_four   -- for this text's walks alone
set_option linter.unusedVariables false
set_option linter.unusedSimpArgs false

/-! ### laws_heldFormula: function 12 -/
def laws_heldFormula.f (k : Nat) (a0_0 : Int) (l0_1 : List (List Int)) (a1 : Int) : Option (Int) := (laws_heldInt64SS.f k l0_1 a1).bind fun t200 => (if t200 < 0 then (some (-1)) else (some t200))
theorem laws_heldFormula.mono : ∀ a0 a1 a2 k, LeO (laws_heldFormula.f k a0 a1 a2) (laws_heldFormula.f (k + 1) a0 a1 a2) := by
  intro a0 a1 a2 k
  unfold laws_heldFormula.f
  repeat' first
      | (with_reducible exact laws_heldInt64SS.mono _ _ _)
      | (with_reducible exact LeO.refl _)
      | (with_reducible exact LeO.none _)
      | (with_reducible refine LeO.ite ?_ ?_)
      | (with_reducible refine LeO.bind ?_ (fun _ => ?_))
      | exact laws_heldInt64SS.mono _ _ _
      | exact LeO.none _
      | refine LeO.ite ?_ ?_
      | refine LeO.bind ?_ (fun _ => ?_)
set_option maxHeartbeats 8000000 in
set_option maxRecDepth 100000 in
theorem laws_heldFormula.calls (k : Nat) (a0_0 : Int) (A0_1 : Option Addr) (c0_1 : Nat) (l0_1 : List (List Int)) (a1 : Int) (r : Int) (w : World) (hr0_1 : Kd.C (Kd.slice 2 (Kd.int .i64)) w A0_1 l0_1.length l0_1) (hc0_1 : l0_1.length ≤ c0_1) (h : laws_heldFormula.f k a0_0 l0_1 a1 = some r) :
    Calls Try.prog 12 #[.agg #[.int .i64 a0_0, .slice A0_1 l0_1.length c0_1], .int .i64 a1] w fun e w' => e = .returned (.int .i64 r) ∧ Below w.heap.size w w' := by
  have hu27 := Try.underlying27
  have HR0_1 := Aside0.mk hr0_1
  have HC0_1 := Aside0.mk hc0_1
  clear hr0_1 hc0_1
  have HB := Aside0.mk (Below.refl w.heap.size w)
  have H : ((laws_heldInt64SS.f k l0_1 a1).bind fun t200 => (if t200 < 0 then (some (-1)) else (some t200))) = some r := h
  clear h
  obtain ⟨t200, A30, H⟩ := Option.bind_eq_some_iff.mp H
  have A3 := Aside0.mk A30
  clear A30
  by_cases c4 : t200 < 0
  · rw [if_pos c4] at H
    have c4b0 : decide (t200 < 0) = true := decide_eq_true c4
    clear c4
    obtain rfl := Option.some.inj H
    go_enter Try.func12, Try.ntmps12
    go_wp2_with (first | ((with_reducible refine gD 2 ?_); refine BX #[.int .i64 a0_0, .slice A0_1 l0_1.length c0_1] 27 ?_; intro gb199 hg w5 hbox hb; have BK199 := Aside0.mk (hbox); have GW199 := Aside0.mk ((Gle hg Hb : w.heap.size ≤ gb199)); have GE199 := Aside0.mk ((Gle hg Hb : w.heap.size ≤ gb199)); replace HB := Aside0.mk (below_step Hb hb); clear hb hbox hg; have hcz6_0 : w5.cell? ⟨gb199, 0, none⟩ = some (.int .i64 a0_0) := bc BK199; have hcz6_1 : w5.cell? ⟨gb199, 1, none⟩ = some (.slice A0_1 l0_1.length c0_1) := bc BK199; have hfz6_0 := blk_frozen BK199.out 0; have hfz6_1 := blk_frozen BK199.out 1) | ((with_reducible refine gC 21 ?_); refine GL (some 8) Try.func21 #[.slice A0_1 l0_1.length c0_1, .int .i64 a1] ?_; (with_reducible refine (laws_heldInt64SS.calls k _ _ l0_1 a1 t200 _ ?side1 ?side2 A3.out).mono ?_); (case side1 => exact Kd.C_below HR0_1.out Hb); (case side2 => exact HC0_1.out); rintro e w' ⟨rfl, ⟨nd, rfl⟩⟩; refine ⟨_, rfl, ?_⟩))
    go_ret
    exact ⟨Fin, Hb⟩
  · rw [if_neg c4] at H
    have c4b0 : decide (t200 < 0) = false := decide_eq_false c4
    clear c4
    obtain rfl := Option.some.inj H
    go_enter Try.func12, Try.ntmps12
    go_wp2_with (first | ((with_reducible refine gD 2 ?_); refine BX #[.int .i64 a0_0, .slice A0_1 l0_1.length c0_1] 27 ?_; intro gb199 hg w7 hbox hb; have BK199 := Aside0.mk (hbox); have GW199 := Aside0.mk ((Gle hg Hb : w.heap.size ≤ gb199)); have GE199 := Aside0.mk ((Gle hg Hb : w.heap.size ≤ gb199)); replace HB := Aside0.mk (below_step Hb hb); clear hb hbox hg; have hcz8_0 : w7.cell? ⟨gb199, 0, none⟩ = some (.int .i64 a0_0) := bc BK199; have hcz8_1 : w7.cell? ⟨gb199, 1, none⟩ = some (.slice A0_1 l0_1.length c0_1) := bc BK199; have hfz8_0 := blk_frozen BK199.out 0; have hfz8_1 := blk_frozen BK199.out 1) | ((with_reducible refine gC 21 ?_); refine GL (some 8) Try.func21 #[.slice A0_1 l0_1.length c0_1, .int .i64 a1] ?_; (with_reducible refine (laws_heldInt64SS.calls k _ _ l0_1 a1 t200 _ ?side1 ?side2 A3.out).mono ?_); (case side1 => exact Kd.C_below HR0_1.out Hb); (case side2 => exact HC0_1.out); rintro e w' ⟨rfl, ⟨nd, rfl⟩⟩; refine ⟨_, rfl, ?_⟩))
    go_ret
    exact ⟨Fin, Hb⟩

/-! ### laws_FnExactFormulaOfCover: function 3 -/
def laws_FnExactFormulaOfCover.f (k : Nat) (a0_0 : Int) (a0_1 : Int) (l0_2 : List (List Int)) : Option (Bool) := (laws_szCover.f k a0_0 a0_1 l0_2 1048576).bind fun t202 => (if t202 < 0 then (some true) else ((laws_toCover.f k a0_0 a0_1 l0_2).bind fun bt203 => ((spec_FormulaOfCover.f k bt203.1 bt203.2.1 bt203.2.2).bind fun bt208 => ((laws_toCover.f k a0_0 a0_1 l0_2).bind fun bt214 => ((impl_FormulaOfCover.f k bt214.1 bt214.2.1 bt214.2.2).bind fun bt220 => ((laws_eqFormula.f k bt220.1 bt220.2.1 bt208.1 bt208.2.1).bind fun t226 => (if t226 = true then (if bt220.2.2 = bt208.2.2 then ((laws_toCover.f k a0_0 a0_1 l0_2).bind fun bt227 => ((laws_eqCover.f k bt214.1 bt214.2.1 bt214.2.2 bt227.1 bt227.2.1 bt227.2.2).bind fun t232 => (if t232 = true then ((laws_markCover.f k bt214.1 bt214.2.1 bt214.2.2 1).bind fun bt233 => (if bt233.1 < 0 then (some false) else ((laws_eqFormula.f k bt220.1 bt220.2.1 bt208.1 bt208.2.1).bind fun t235 => (if t235 = true then ((laws_markFormula.f k bt220.1 bt220.2.1 1).bind fun bt236 => ((laws_heldFormula.f k bt220.1 bt236.2 1).bind fun t238 => (if t238 < 0 then (some false) else (if t238 = bt236.1 then ((laws_toCover.f k a0_0 a0_1 l0_2).bind fun bt239 => ((impl_FormulaOfCover.f k bt239.1 bt239.2.1 bt239.2.2).bind fun bt244 => ((laws_eqFormula.f k bt244.1 bt244.2.1 bt208.1 bt208.2.1).bind fun t250 => (if t250 = true then (if bt244.2.2 = bt208.2.2 then ((laws_heldFormula.f k bt220.1 bt236.2 1).bind fun t251 => (if t251 < 0 then (some false) else (if t251 = bt236.1 then (some true) else (some false)))) else (some false)) else (some false))))) else (some false))))) else (some false))))) else (some false)))) else (some false)) else (some false))))))))
theorem laws_FnExactFormulaOfCover.mono : ∀ a0 a1 a2 k, LeO (laws_FnExactFormulaOfCover.f k a0 a1 a2) (laws_FnExactFormulaOfCover.f (k + 1) a0 a1 a2) := by
  intro a0 a1 a2 k
  unfold laws_FnExactFormulaOfCover.f
  repeat' first
      | (with_reducible exact impl_FormulaOfCover.mono _ _ _ _)
      | (with_reducible exact laws_eqCover.mono _ _ _ _ _ _ _)
      | (with_reducible exact laws_eqFormula.mono _ _ _ _ _)
      | (with_reducible exact laws_heldFormula.mono _ _ _ _)
      | (with_reducible exact laws_markCover.mono _ _ _ _ _)
      | (with_reducible exact laws_markFormula.mono _ _ _ _)
      | (with_reducible exact laws_szCover.mono _ _ _ _ _)
      | (with_reducible exact laws_toCover.mono _ _ _ _)
      | (with_reducible exact spec_FormulaOfCover.mono _ _ _ _)
      | (with_reducible exact LeO.refl _)
      | (with_reducible exact LeO.none _)
      | (with_reducible refine LeO.ite ?_ ?_)
      | (with_reducible refine LeO.bind ?_ (fun _ => ?_))
      | exact impl_FormulaOfCover.mono _ _ _ _
      | exact laws_eqCover.mono _ _ _ _ _ _ _
      | exact laws_eqFormula.mono _ _ _ _ _
      | exact laws_heldFormula.mono _ _ _ _
      | exact laws_markCover.mono _ _ _ _ _
      | exact laws_markFormula.mono _ _ _ _
      | exact laws_szCover.mono _ _ _ _ _
      | exact laws_toCover.mono _ _ _ _
      | exact spec_FormulaOfCover.mono _ _ _ _
      | exact LeO.none _
      | refine LeO.ite ?_ ?_
      | refine LeO.bind ?_ (fun _ => ?_)
set_option maxHeartbeats 8000000 in
set_option maxRecDepth 100000 in
theorem laws_FnExactFormulaOfCover.calls (k : Nat) (a0_0 : Int) (a0_1 : Int) (A0_2 : Option Addr) (c0_2 : Nat) (l0_2 : List (List Int)) (r : Bool) (w : World) (hrt : r = true) (hr0_2 : Kd.C (Kd.slice 2 (Kd.int .i64)) w A0_2 l0_2.length l0_2) (hc0_2 : l0_2.length ≤ c0_2) (h : laws_FnExactFormulaOfCover.f k a0_0 a0_1 l0_2 = some r) :
    Calls Try.prog 3 #[.agg #[.int .i64 a0_0, .int .i64 a0_1, .slice A0_2 l0_2.length c0_2]] w fun e w' => e = .returned (.bool r) ∧ Below w.heap.size w w' := by
  have hu24 := Try.underlying24
  have hu27 := Try.underlying27
  have hu30 := Try.underlying30
  have HR0_2 := Aside0.mk hr0_2
  have HC0_2 := Aside0.mk hc0_2
  clear hr0_2 hc0_2
  have HG := Aside0.mk (Sat.start w)
  have H : ((laws_szCover.f k a0_0 a0_1 l0_2 1048576).bind fun t202 => (if t202 < 0 then (some true) else ((laws_toCover.f k a0_0 a0_1 l0_2).bind fun bt203 => ((spec_FormulaOfCover.f k bt203.1 bt203.2.1 bt203.2.2).bind fun bt208 => ((laws_toCover.f k a0_0 a0_1 l0_2).bind fun bt214 => ((impl_FormulaOfCover.f k bt214.1 bt214.2.1 bt214.2.2).bind fun bt220 => ((laws_eqFormula.f k bt220.1 bt220.2.1 bt208.1 bt208.2.1).bind fun t226 => (if t226 = true then (if bt220.2.2 = bt208.2.2 then ((laws_toCover.f k a0_0 a0_1 l0_2).bind fun bt227 => ((laws_eqCover.f k bt214.1 bt214.2.1 bt214.2.2 bt227.1 bt227.2.1 bt227.2.2).bind fun t232 => (if t232 = true then ((laws_markCover.f k bt214.1 bt214.2.1 bt214.2.2 1).bind fun bt233 => (if bt233.1 < 0 then (some false) else ((laws_eqFormula.f k bt220.1 bt220.2.1 bt208.1 bt208.2.1).bind fun t235 => (if t235 = true then ((laws_markFormula.f k bt220.1 bt220.2.1 1).bind fun bt236 => ((laws_heldFormula.f k bt220.1 bt236.2 1).bind fun t238 => (if t238 < 0 then (some false) else (if t238 = bt236.1 then ((laws_toCover.f k a0_0 a0_1 l0_2).bind fun bt239 => ((impl_FormulaOfCover.f k bt239.1 bt239.2.1 bt239.2.2).bind fun bt244 => ((laws_eqFormula.f k bt244.1 bt244.2.1 bt208.1 bt208.2.1).bind fun t250 => (if t250 = true then (if bt244.2.2 = bt208.2.2 then ((laws_heldFormula.f k bt220.1 bt236.2 1).bind fun t251 => (if t251 < 0 then (some false) else (if t251 = bt236.1 then (some true) else (some false)))) else (some false)) else (some false))))) else (some false))))) else (some false))))) else (some false)))) else (some false)) else (some false))))))))) = some r := h
  clear h
  obtain ⟨t202, A20, H⟩ := Option.bind_eq_some_iff.mp H
  have A2 := Aside0.mk A20
  clear A20
  by_cases c3 : t202 < 0
  · rw [if_pos c3] at H
    have c3b0 : decide (t202 < 0) = true := decide_eq_true c3
    clear c3
    obtain rfl := Option.some.inj H
    go_enter Try.func3, Try.ntmps3
    go_wp2_with (first | ((with_reducible refine gD 1 ?_); refine BX #[.int .i64 a0_0, .int .i64 a0_1, .slice A0_2 l0_2.length c0_2] 24 ?_; intro gb201 hg w4 hbox hb; replace HG := Sat.box HG hg hbox hb; clear hb hbox hg; have hcz5_0 : w4.cell? ⟨gb201, 0, none⟩ = some (.int .i64 a0_0) := (blk_cell (Sat.B HG 0 rfl) 0).trans rfl; have hcz5_1 : w4.cell? ⟨gb201, 1, none⟩ = some (.int .i64 a0_1) := (blk_cell (Sat.B HG 0 rfl) 1).trans rfl; have hcz5_2 : w4.cell? ⟨gb201, 2, none⟩ = some (.slice A0_2 l0_2.length c0_2) := (blk_cell (Sat.B HG 0 rfl) 2).trans rfl; have hfz5_0 := blk_frozen (Sat.B HG 0 rfl) 0; have hfz5_1 := blk_frozen (Sat.B HG 0 rfl) 1; have hfz5_2 := blk_frozen (Sat.B HG 0 rfl) 2) | ((with_reducible refine gC 4 ?_); refine GL (some 16) Try.func4 #[.agg #[.int .i64 a0_0, .int .i64 a0_1, .slice A0_2 l0_2.length c0_2], .int .i64 1048576] ?_; (with_reducible refine (laws_szCover.calls k a0_0 a0_1 _ _ l0_2 1048576 t202 _ ?side1 ?side2 A2.out).mono ?_); (case side1 => exact Ck (Kd.C_below HR0_2.out HG.out.1)); (case side2 => exact HC0_2.out); rintro e w6 ⟨rfl, hb⟩; refine ⟨_, rfl, ?_⟩; replace HG := Sat.rd HG hb; (try clear hb); (try clear hb2); (try clear hk); (try clear hi)))
    go_ret
    exact ⟨Fin, Bw HG⟩
  · rw [if_neg c3] at H
    have c3b0 : decide (t202 < 0) = false := decide_eq_false c3
    clear c3
    obtain ⟨⟨t203, t204, t205⟩, A70, H⟩ := Option.bind_eq_some_iff.mp H
    dsimp only at H
    have A7 := Aside0.mk A70
    clear A70
    obtain ⟨⟨t208, t209, t212⟩, A80, H⟩ := Option.bind_eq_some_iff.mp H
    dsimp only at H
    have A8 := Aside0.mk A80
    clear A80
    obtain ⟨⟨t214, t215, t216⟩, A90, H⟩ := Option.bind_eq_some_iff.mp H
    dsimp only at H
    have A9 := Aside0.mk A90
    clear A90
    obtain ⟨⟨t220, t221, t224⟩, A100, H⟩ := Option.bind_eq_some_iff.mp H
    dsimp only at H
    have A10 := Aside0.mk A100
    clear A100
    obtain ⟨t226, A110, H⟩ := Option.bind_eq_some_iff.mp H
    have A11 := Aside0.mk A110
    clear A110
    by_cases c12 : t226 = true
    · subst c12
      rw [if_pos rfl] at H
      by_cases c13 : t224 = t212
      · rw [if_pos c13] at H
        have c13b0 : (t224 == t212) = true := beq_iff_eq.mpr c13
        have c13b1 : (t224 != t212) = false := bne_eq_false_iff_eq.mpr c13
        clear c13
        obtain ⟨⟨t227, t228, t229⟩, A140, H⟩ := Option.bind_eq_some_iff.mp H
        dsimp only at H
        have A14 := Aside0.mk A140
        clear A140
        obtain ⟨t232, A150, H⟩ := Option.bind_eq_some_iff.mp H
        have A15 := Aside0.mk A150
        clear A150
        by_cases c16 : t232 = true
        · subst c16
          rw [if_pos rfl] at H
          obtain ⟨⟨t233, t234⟩, A170, H⟩ := Option.bind_eq_some_iff.mp H
          dsimp only at H
          have A17 := Aside0.mk A170
          clear A170
          by_cases c18 : t233 < 0
          · rw [if_pos c18] at H
            have c18b0 : decide (t233 < 0) = true := decide_eq_true c18
            clear c18
            exact absurd (H.trans (congrArg some hrt)) (by simp)
          · rw [if_neg c18] at H
            have c18b0 : decide (t233 < 0) = false := decide_eq_false c18
            clear c18
            obtain ⟨t235, A190, H⟩ := Option.bind_eq_some_iff.mp H
            have A19 := Aside0.mk A190
            clear A190
            by_cases c20 : t235 = true
            · subst c20
              rw [if_pos rfl] at H
              obtain ⟨⟨t236, t237⟩, A210, H⟩ := Option.bind_eq_some_iff.mp H
              dsimp only at H
              have A21 := Aside0.mk A210
              clear A210
              obtain ⟨t238, A220, H⟩ := Option.bind_eq_some_iff.mp H
              have A22 := Aside0.mk A220
              clear A220
              by_cases c23 : t238 < 0
              · rw [if_pos c23] at H
                have c23b0 : decide (t238 < 0) = true := decide_eq_true c23
                clear c23
                exact absurd (H.trans (congrArg some hrt)) (by simp)
              · rw [if_neg c23] at H
                have c23b0 : decide (t238 < 0) = false := decide_eq_false c23
                clear c23
                by_cases c24 : t238 = t236
                · rw [if_pos c24] at H
                  have c24b0 : (t238 == t236) = true := beq_iff_eq.mpr c24
                  have c24b1 : (t238 != t236) = false := bne_eq_false_iff_eq.mpr c24
                  clear c24
                  obtain ⟨⟨t239, t240, t241⟩, A250, H⟩ := Option.bind_eq_some_iff.mp H
                  dsimp only at H
                  have A25 := Aside0.mk A250
                  clear A250
                  obtain ⟨⟨t244, t245, t248⟩, A260, H⟩ := Option.bind_eq_some_iff.mp H
                  dsimp only at H
                  have A26 := Aside0.mk A260
                  clear A260
                  obtain ⟨t250, A270, H⟩ := Option.bind_eq_some_iff.mp H
                  have A27 := Aside0.mk A270
                  clear A270
                  by_cases c28 : t250 = true
                  · subst c28
                    rw [if_pos rfl] at H
                    by_cases c29 : t248 = t212
                    · rw [if_pos c29] at H
                      have c29b0 : (t248 == t212) = true := beq_iff_eq.mpr c29
                      have c29b1 : (t248 != t212) = false := bne_eq_false_iff_eq.mpr c29
                      clear c29
                      obtain ⟨t251, A300, H⟩ := Option.bind_eq_some_iff.mp H
                      have A30 := Aside0.mk A300
                      clear A300
                      by_cases c31 : t251 < 0
                      · rw [if_pos c31] at H
                        have c31b0 : decide (t251 < 0) = true := decide_eq_true c31
                        clear c31
                        exact absurd (H.trans (congrArg some hrt)) (by simp)
                      · rw [if_neg c31] at H
                        have c31b0 : decide (t251 < 0) = false := decide_eq_false c31
                        clear c31
                        by_cases c32 : t251 = t236
                        · rw [if_pos c32] at H
                          have c32b0 : (t251 == t236) = true := beq_iff_eq.mpr c32
                          have c32b1 : (t251 != t236) = false := bne_eq_false_iff_eq.mpr c32
                          clear c32
                          obtain rfl := Option.some.inj H
                          go_enter Try.func3, Try.ntmps3
                          try go_wp2_with (((with_reducible refine gD 1 ?_); refine BX #[.int .i64 a0_0, .int .i64 a0_1, .slice A0_2 l0_2.length c0_2] 24 ?_; intro gb201 hg w33 hbox hb; replace HG := Sat.box HG hg hbox hb; clear hb hbox hg; have hcz34_0 : w33.cell? ⟨gb201, 0, none⟩ = some (.int .i64 a0_0) := (blk_cell (Sat.B HG 0 rfl) 0).trans rfl; have hcz34_1 : w33.cell? ⟨gb201, 1, none⟩ = some (.int .i64 a0_1) := (blk_cell (Sat.B HG 0 rfl) 1).trans rfl; have hcz34_2 : w33.cell? ⟨gb201, 2, none⟩ = some (.slice A0_2 l0_2.length c0_2) := (blk_cell (Sat.B HG 0 rfl) 2).trans rfl; have hfz34_0 := blk_frozen (Sat.B HG 0 rfl) 0; have hfz34_1 := blk_frozen (Sat.B HG 0 rfl) 1; have hfz34_2 := blk_frozen (Sat.B HG 0 rfl) 2); go_wp2_with (((with_reducible refine gC 4 ?_); refine GL (some 16) Try.func4 #[.agg #[.int .i64 a0_0, .int .i64 a0_1, .slice A0_2 l0_2.length c0_2], .int .i64 1048576] ?_; (with_reducible refine (laws_szCover.calls k a0_0 a0_1 _ _ l0_2 1048576 t202 _ ?side1 ?side2 A2.out).mono ?_); (case side1 => exact Ck (Kd.C_below HR0_2.out HG.out.1)); (case side2 => exact HC0_2.out); rintro e w35 ⟨rfl, hb⟩; refine ⟨_, rfl, ?_⟩; replace HG := Sat.rd HG hb; (try clear hb); (try clear hb2); (try clear hk); (try clear hi); have hcz36_0 : w35.cell? ⟨gb201, 0, none⟩ = some (.int .i64 a0_0) := (blk_cell (Sat.B HG 0 rfl) 0).trans rfl; have hcz36_1 : w35.cell? ⟨gb201, 1, none⟩ = some (.int .i64 a0_1) := (blk_cell (Sat.B HG 0 rfl) 1).trans rfl; have hcz36_2 : w35.cell? ⟨gb201, 2, none⟩ = some (.slice A0_2 l0_2.length c0_2) := (blk_cell (Sat.B HG 0 rfl) 2).trans rfl; have hfz36_0 := blk_frozen (Sat.B HG 0 rfl) 0; have hfz36_1 := blk_frozen (Sat.B HG 0 rfl) 1; have hfz36_2 := blk_frozen (Sat.B HG 0 rfl) 2); go_wp2_with (((with_reducible refine gC 6 ?_); refine GL (some 21) Try.func6 #[.agg #[.int .i64 a0_0, .int .i64 a0_1, .slice A0_2 l0_2.length c0_2]] ?_; (with_reducible refine (laws_toCover.calls k a0_0 a0_1 _ _ l0_2 t203 t204 t205 _ ?side1 ?side2 A7.out).mono ?_); (case side1 => exact Ck (Kd.C_below HR0_2.out HG.out.1)); (case side2 => exact HC0_2.out); rintro e w37 ⟨v206, rfl, ho0, hb⟩; refine ⟨_, rfl, ?_⟩; replace HG := Sat.mkS HG hb ho0; (try clear hb); (try clear hb2); (try clear hk); (try clear hi); (try clear ho0); obtain ⟨Ao38, co38, eo38⟩ := Kd.S_slice (Sat.S HG 0 rfl); subst eo38); go_wp2_with (((with_reducible refine gC 5 ?_); refine GL (some 22) Try.func5 #[.agg #[.int .i64 t203, .int .i64 t204, .slice Ao38 t205.length co38]] ?_; (with_reducible refine (spec_FormulaOfCover.calls k t203 t204 _ _ t205 t208 t209 t212 _ ?side1 ?side2 A8.out).mono ?_); (case side1 => exact Ck (Kd.S_reads' (Sat.S HG 0 rfl)).2.2); (case side2 => exact (Kd.S_reads' (Sat.S HG 0 rfl)).2.1); rintro e w39 ⟨v210, rfl, ho0, hb⟩; refine ⟨_, rfl, ?_⟩; replace HG := Sat.mkS HG hb ho0; (try clear hb); (try clear hb2); (try clear hk); (try clear hi); (try clear ho0)); go_wp2_with (((with_reducible refine gD 4 ?_); refine BX #[.int .i64 0, .slice none 0 0] 27 ?_; intro gb213 hg w40 hbox hb; replace HG := Sat.box HG hg hbox hb; clear hb hbox hg; have hnb41 := (Sat.ne HG 0 3 (by decide) rfl rfl); have hnc41 := (Sat.ne HG 3 0 (by decide) rfl rfl); have hcz42_0 : w40.cell? ⟨gb213, 0, none⟩ = some (.int .i64 0) := (blk_cell (Sat.B HG 0 rfl) 0).trans rfl; have hcz42_1 : w40.cell? ⟨gb213, 1, none⟩ = some (.slice none 0 0) := (blk_cell (Sat.B HG 0 rfl) 1).trans rfl; have hfz42_0 := blk_frozen (Sat.B HG 0 rfl) 0; have hfz42_1 := blk_frozen (Sat.B HG 0 rfl) 1; obtain ⟨Ao43, co43, eo43⟩ := Kd.S_slice (Sat.S HG 1 rfl); subst eo43; have hcz44_0 : w40.cell? ⟨gb201, 0, none⟩ = some (.int .i64 a0_0) := (blk_cell (Sat.B HG 3 rfl) 0).trans rfl; have hcz44_1 : w40.cell? ⟨gb201, 1, none⟩ = some (.int .i64 a0_1) := (blk_cell (Sat.B HG 3 rfl) 1).trans rfl; have hcz44_2 : w40.cell? ⟨gb201, 2, none⟩ = some (.slice A0_2 l0_2.length c0_2) := (blk_cell (Sat.B HG 3 rfl) 2).trans rfl; have hfz44_0 := blk_frozen (Sat.B HG 3 rfl) 0; have hfz44_1 := blk_frozen (Sat.B HG 3 rfl) 1; have hfz44_2 := blk_frozen (Sat.B HG 3 rfl) 2); go_wp2_with (((with_reducible refine gC 6 ?_); replace HG := Sat.put HG 0 0 (.int .i64 t208) #[.int .i64 t208, .slice none 0 0]; replace HG := Sat.put HG 0 1 (.slice Ao43 t209.length co43) #[.int .i64 t208, .slice Ao43 t209.length co43]; refine GL (some 26) Try.func6 #[.agg #[.int .i64 a0_0, .int .i64 a0_1, .slice A0_2 l0_2.length c0_2]] ?_; (with_reducible refine (laws_toCover.calls k a0_0 a0_1 _ _ l0_2 t214 t215 t216 _ ?side1 ?side2 A9.out).mono ?_); (case side1 => exact Kd.C_below HR0_2.out (Bw HG)); (case side2 => exact HC0_2.out); rintro e w45 ⟨v217, rfl, ho0, hb⟩; refine ⟨_, rfl, ?_⟩; replace HG := Sat.mkS HG hb ho0; (try clear hb); (try clear hb2); (try clear hk); (try clear hi); (try clear ho0)); go_wp2_with (((with_reducible refine gD 6 ?_); refine BX #[.int .i64 0, .int .i64 0, .slice none 0 0] 30 ?_; intro gb219 hg w46 hbox hb; replace HG := Sat.box HG hg hbox hb; clear hb hbox hg; have hnb47 := (Sat.ne HG 0 5 (by decide) rfl rfl); have hnc47 := (Sat.ne HG 5 0 (by decide) rfl rfl); have hnb48 := (Sat.ne HG 0 2 (by decide) rfl rfl); have hnc48 := (Sat.ne HG 2 0 (by decide) rfl rfl); have hcz49_0 : w46.cell? ⟨gb219, 0, none⟩ = some (.int .i64 0) := (blk_cell (Sat.B HG 0 rfl) 0).trans rfl; have hcz49_1 : w46.cell? ⟨gb219, 1, none⟩ = some (.int .i64 0) := (blk_cell (Sat.B HG 0 rfl) 1).trans rfl; have hcz49_2 : w46.cell? ⟨gb219, 2, none⟩ = some (.slice none 0 0) := (blk_cell (Sat.B HG 0 rfl) 2).trans rfl; have hfz49_0 := blk_frozen (Sat.B HG 0 rfl) 0; have hfz49_1 := blk_frozen (Sat.B HG 0 rfl) 1; have hfz49_2 := blk_frozen (Sat.B HG 0 rfl) 2; obtain ⟨Ao50, co50, eo50⟩ := Kd.S_slice (Sat.S HG 1 rfl); subst eo50); go_wp2_with (((with_reducible refine gC 7 ?_); replace HG := Sat.put HG 0 0 (.int .i64 t214) #[.int .i64 t214, .int .i64 0, .slice none 0 0]; replace HG := Sat.put HG 0 1 (.int .i64 t215) #[.int .i64 t214, .int .i64 t215, .slice none 0 0]; replace HG := Sat.put HG 0 2 (.slice Ao50 t216.length co50) #[.int .i64 t214, .int .i64 t215, .slice Ao50 t216.length co50]; refine GL (some 29) Try.func7 #[.agg #[.int .i64 t214, .int .i64 t215, .slice Ao50 t216.length co50]] ?_; (with_reducible refine (impl_FormulaOfCover.calls k t214 t215 _ _ t216 t220 t221 t224 _ ?side1 ?side2 A10.out).mono ?_); (case side1 => exact Ck (Kd.S_reads' (Sat.S HG 1 rfl)).2.2); (case side2 => exact (Kd.S_reads' (Sat.S HG 1 rfl)).2.1); rintro e w51 ⟨v222, rfl, ho0, hb⟩; refine ⟨_, rfl, ?_⟩; replace HG := Sat.mkS HG hb ho0; (try clear hb); (try clear hb2); (try clear hk); (try clear hi); (try clear ho0)); go_wp2_with (((with_reducible refine gD 7 ?_); refine BX #[.int .i64 0, .slice none 0 0] 27 ?_; intro gb225 hg w52 hbox hb; replace HG := Sat.box HG hg hbox hb; clear hb hbox hg; have hnb53 := (Sat.ne HG 0 7 (by decide) rfl rfl); have hnc53 := (Sat.ne HG 7 0 (by decide) rfl rfl); have hnb54 := (Sat.ne HG 0 4 (by decide) rfl rfl); have hnc54 := (Sat.ne HG 4 0 (by decide) rfl rfl); have hnb55 := (Sat.ne HG 0 2 (by decide) rfl rfl); have hnc55 := (Sat.ne HG 2 0 (by decide) rfl rfl); have hcz56_0 : w52.cell? ⟨gb225, 0, none⟩ = some (.int .i64 0) := (blk_cell (Sat.B HG 0 rfl) 0).trans rfl; have hcz56_1 : w52.cell? ⟨gb225, 1, none⟩ = some (.slice none 0 0) := (blk_cell (Sat.B HG 0 rfl) 1).trans rfl; have hfz56_0 := blk_frozen (Sat.B HG 0 rfl) 0; have hfz56_1 := blk_frozen (Sat.B HG 0 rfl) 1; obtain ⟨Ao57, co57, eo57⟩ := Kd.S_slice (Sat.S HG 1 rfl); subst eo57; have hcz58_0 : w52.cell? ⟨gb213, 0, none⟩ = some (.int .i64 t208) := (blk_cell (Sat.B HG 4 rfl) 0).trans rfl; have hcz58_1 : w52.cell? ⟨gb213, 1, none⟩ = some (.slice Ao43 t209.length co43) := (blk_cell (Sat.B HG 4 rfl) 1).trans rfl; have hfz58_0 := blk_frozen (Sat.B HG 4 rfl) 0; have hfz58_1 := blk_frozen (Sat.B HG 4 rfl) 1); go_wp2_with (((with_reducible refine gC 8 ?_); replace HG := Sat.put HG 0 0 (.int .i64 t220) #[.int .i64 t220, .slice none 0 0]; replace HG := Sat.put HG 0 1 (.slice Ao57 t221.length co57) #[.int .i64 t220, .slice Ao57 t221.length co57]; refine GL (some 34) Try.func8 #[.agg #[.int .i64 t220, .slice Ao57 t221.length co57], .agg #[.int .i64 t208, .slice Ao43 t209.length co43]] ?_; (with_reducible refine (laws_eqFormula.calls k t220 _ _ t221 t208 _ _ t209 true _ ?side1 ?side2 ?side3 ?side4 A11.out).mono ?_); (case side1 => exact Ck (Kd.S_reads' (Sat.S HG 1 rfl)).2.2); (case side2 => exact (Kd.S_reads' (Sat.S HG 1 rfl)).2.1); (case side3 => exact Ck (Kd.S_reads' (Sat.S HG 5 rfl)).2.2); (case side4 => exact (Kd.S_reads' (Sat.S HG 5 rfl)).2.1); rintro e w59 ⟨rfl, hb⟩; refine ⟨_, rfl, ?_⟩; replace HG := Sat.rd HG hb; (try clear hb); (try clear hb2); (try clear hk); (try clear hi))))))))))))
                          replace HG := Sat.drew HG
                          refine start_ (n := 5) (S := fun w' => w'.cell? ⟨gb219, 0, none⟩ = some (.int .i64 t214) ∧ w'.cell? ⟨gb219, 1, none⟩ = some (.int .i64 t215) ∧ w'.cell? ⟨gb219, 2, none⟩ = some (.slice Ao50 t216.length co50) ∧ w'.cell? ⟨gb201, 0, none⟩ = some (.int .i64 a0_0) ∧ w'.cell? ⟨gb201, 1, none⟩ = some (.int .i64 a0_1) ∧ w'.cell? ⟨gb201, 2, none⟩ = some (.slice A0_2 l0_2.length c0_2)) (ds := []) #[false, false, false, false, false] (by kernel_rfl) rfl rfl ⟨(blk_cell (Sat.B HG 2 rfl) 0).trans rfl, (blk_cell (Sat.B HG 2 rfl) 1).trans rfl, (blk_cell (Sat.B HG 2 rfl) 2).trans rfl, (blk_cell (Sat.B HG 7 rfl) 0).trans rfl, (blk_cell (Sat.B HG 7 rfl) 1).trans rfl, (blk_cell (Sat.B HG 7 rfl) 2).trans rfl⟩ (fun hHeld => ?_)
                          generalize w59.drew = w60 at HG hHeld ⊢
                          refine TK 0 41 hHeld ?_
                          refine TK 1 42 hHeld ?_
                          refine ON 2 43 (fun K hK => ?_)
                          refine GO Try.func6 #[.agg #[.int .i64 a0_0, .int .i64 a0_1, .slice A0_2 l0_2.length c0_2]] ?_
                          with_reducible refine (laws_toCover.calls k a0_0 a0_1 _ _ l0_2 t227 t228 t229 _ ?side1 ?side2 A14.out).mono ?_
                          (case side1 => exact Ck (Kd.C_below HR0_2.out HG.out.1))
                          (case side2 => exact HC0_2.out)
                          rintro e w61 ⟨v230, rfl, ho0, hb⟩
                          refine ⟨_, rfl, ?_⟩
                          replace HG := Sat.mkS HG hb ho0
                          (try clear hb)
                          (try clear hb2)
                          (try clear hk)
                          (try clear hi)
                          (try clear ho0)
                          obtain ⟨Ao62, co62, eo62⟩ := Kd.S_slice (Sat.S HG 0 rfl)
                          (first | subst eo62 | (injection eo62 with f1_ f2_ f3_; have f4_ := f1_.symm; have f5_ := f3_.symm; clear f1_ f2_ f3_; subst f4_; subst f5_))
                          refine hK.out _ _ ⟨(blk_cell (Sat.B HG 3 rfl) 0).trans rfl, (blk_cell (Sat.B HG 3 rfl) 1).trans rfl, (blk_cell (Sat.B HG 3 rfl) 2).trans rfl, (blk_cell (Sat.B HG 8 rfl) 0).trans rfl, (blk_cell (Sat.B HG 8 rfl) 1).trans rfl, (blk_cell (Sat.B HG 8 rfl) 2).trans rfl⟩ (fun hHeld => ?_)
                          clear hK K
                          refine NM 43 ?_
                          refine ON 3 44 (fun K hK => ?_)
                          refine GO Try.func9 #[.agg #[.int .i64 t214, .int .i64 t215, .slice Ao50 t216.length co50], .agg #[.int .i64 t227, .int .i64 t228, .slice Ao62 t229.length co62]] ?_
                          with_reducible refine (laws_eqCover.calls k t214 t215 _ _ t216 t227 t228 _ _ t229 true _ ?side1 ?side2 ?side3 ?side4 A15.out).mono ?_
                          (case side1 => exact Ck (Kd.S_reads' (Sat.S HG 4 rfl)).2.2)
                          (case side2 => exact (Kd.S_reads' (Sat.S HG 4 rfl)).2.1)
                          (case side3 => exact Ck (Kd.S_reads' (Sat.S HG 0 rfl)).2.2)
                          (case side4 => exact (Kd.S_reads' (Sat.S HG 0 rfl)).2.1)
                          rintro e w63 ⟨rfl, hb⟩
                          refine ⟨_, rfl, ?_⟩
                          replace HG := Sat.rd HG hb
                          (try clear hb)
                          (try clear hb2)
                          (try clear hk)
                          (try clear hi)
                          refine hK.out _ _ ⟨(blk_cell (Sat.B HG 3 rfl) 0).trans rfl, (blk_cell (Sat.B HG 3 rfl) 1).trans rfl, (blk_cell (Sat.B HG 3 rfl) 2).trans rfl, (blk_cell (Sat.B HG 8 rfl) 0).trans rfl, (blk_cell (Sat.B HG 8 rfl) 1).trans rfl, (blk_cell (Sat.B HG 8 rfl) 2).trans rfl⟩ (fun hHeld => ?_)
                          clear hK K
                          refine NM 44 ?_
                          refine PU 4 45 ?_
                          refine done_ (by kernel_rfl) ?_
                          have hcz64_0 : w63.cell? ⟨gb219, 0, none⟩ = some (.int .i64 t214) := (blk_cell (Sat.B HG 3 rfl) 0).trans rfl
                          have hcz64_1 : w63.cell? ⟨gb219, 1, none⟩ = some (.int .i64 t215) := (blk_cell (Sat.B HG 3 rfl) 1).trans rfl
                          have hcz64_2 : w63.cell? ⟨gb219, 2, none⟩ = some (.slice Ao50 t216.length co50) := (blk_cell (Sat.B HG 3 rfl) 2).trans rfl
                          have hfz64_0 := blk_frozen (Sat.B HG 3 rfl) 0
                          have hfz64_1 := blk_frozen (Sat.B HG 3 rfl) 1
                          have hfz64_2 := blk_frozen (Sat.B HG 3 rfl) 2
                          try go_wp2_with ((obtain ⟨ok_, ho_, hG_⟩ := Sat.atS HG 4 rfl; (with_reducible refine gC 10 ?_); refine GL (some 48) Try.func10 #[.agg #[.int .i64 t214, .int .i64 t215, .slice Ao50 t216.length co50], .int .i64 1] ?_; (with_reducible refine (laws_markCover.calls k t214 t215 _ (.slice Ao50 t216.length co50) t216 1 t233 t234 w _ ?side1 (S1 ⟨ho_⟩) A17.out).mono ?_); (case side1 => exact Bw HG); rintro e w65 ⟨rfl, hy0, hb, hkp⟩; refine ⟨_, rfl, ?_⟩; replace HG := Sat.nf (hG_ _ _ _ (by with_reducible repeat (first | exact Qt.rf _ | apply Qt.al | apply Qt.dn | apply Qt.d1)) hb hkp hy0); clear ho_ hG_; (try clear hb); (try clear hkp); (try clear hy0); (try clear hSA_); have hcz66_0 : w65.cell? ⟨gb225, 0, none⟩ = some (.int .i64 t220) := (blk_cell (Sat.B HG 1 rfl) 0).trans rfl; have hcz66_1 : w65.cell? ⟨gb225, 1, none⟩ = some (.slice Ao57 t221.length co57) := (blk_cell (Sat.B HG 1 rfl) 1).trans rfl; have hfz66_0 := blk_frozen (Sat.B HG 1 rfl) 0; have hfz66_1 := blk_frozen (Sat.B HG 1 rfl) 1; have hcz67_0 : w65.cell? ⟨gb213, 0, none⟩ = some (.int .i64 t208) := (blk_cell (Sat.B HG 5 rfl) 0).trans rfl; have hcz67_1 : w65.cell? ⟨gb213, 1, none⟩ = some (.slice Ao43 t209.length co43) := (blk_cell (Sat.B HG 5 rfl) 1).trans rfl; have hfz67_0 := blk_frozen (Sat.B HG 5 rfl) 0; have hfz67_1 := blk_frozen (Sat.B HG 5 rfl) 1); go_wp2_with ((go_at_call 8; (with_reducible refine (laws_eqFormula.calls k t220 _ _ t221 t208 _ _ t209 true _ ?side1 ?side2 ?side3 ?side4 A19.out).mono ?_); (case side1 => exact Ck (Kd.S_reads' (Sat.S HG 2 rfl)).2.2); (case side2 => exact (Kd.S_reads' (Sat.S HG 2 rfl)).2.1); (case side3 => exact Ck (Kd.S_reads' (Sat.S HG 6 rfl)).2.2); (case side4 => exact (Kd.S_reads' (Sat.S HG 6 rfl)).2.1); rintro e w68 ⟨rfl, hb⟩; replace HG := Sat.rd HG hb; (try clear hb); (try clear hb2); (try clear hk); (try clear hi); have hcz69_0 : w68.cell? ⟨gb225, 0, none⟩ = some (.int .i64 t220) := (blk_cell (Sat.B HG 1 rfl) 0).trans rfl; have hcz69_1 : w68.cell? ⟨gb225, 1, none⟩ = some (.slice Ao57 t221.length co57) := (blk_cell (Sat.B HG 1 rfl) 1).trans rfl; have hfz69_0 := blk_frozen (Sat.B HG 1 rfl) 0; have hfz69_1 := blk_frozen (Sat.B HG 1 rfl) 1); go_wp2_with ((obtain ⟨ok_, ho_, hG_⟩ := Sat.atS HG 2 rfl; (with_reducible refine gC 11 ?_); refine GL (some 64) Try.func11 #[.agg #[.int .i64 t220, .slice Ao57 t221.length co57], .int .i64 1] ?_; (with_reducible refine (laws_markFormula.calls k t220 _ (.slice Ao57 t221.length co57) t221 1 t236 t237 w _ ?side1 (S1 ⟨ho_⟩) A21.out).mono ?_); (case side1 => exact Bw HG); rintro e w70 ⟨rfl, hy0, hb, hkp⟩; refine ⟨_, rfl, ?_⟩; replace HG := Sat.nf (hG_ _ _ _ (by with_reducible repeat (first | exact Qt.rf _ | apply Qt.al | apply Qt.dn | apply Qt.d1)) hb hkp hy0); clear ho_ hG_; (try clear hb); (try clear hkp); (try clear hy0); (try clear hSA_); have hcz71_0 : w70.cell? ⟨gb225, 0, none⟩ = some (.int .i64 t220) := (blk_cell (Sat.B HG 1 rfl) 0).trans rfl; have hcz71_1 : w70.cell? ⟨gb225, 1, none⟩ = some (.slice Ao57 t221.length co57) := (blk_cell (Sat.B HG 1 rfl) 1).trans rfl; have hfz71_0 := blk_frozen (Sat.B HG 1 rfl) 0; have hfz71_1 := blk_frozen (Sat.B HG 1 rfl) 1); go_wp2_with (((with_reducible refine gC 12 ?_); refine GL (some 67) Try.func12 #[.agg #[.int .i64 t220, .slice Ao57 t237.length co57], .int .i64 1] ?_ (hargs := by (try simp only [List.map_toArray, List.map_cons, List.map_nil]); first | done | (rw [show t237.length = t221.length from (Kd.S_reads' (Sat.S HG 2 rfl)).1.symm] <;> rfl) | rfl | (simp only [List.length_drop, List.length_take]; rfl)); (with_reducible refine (laws_heldFormula.calls k t220 _ _ t237 1 t238 _ ?side1 ?side2 A22.out).mono ?_); (case side1 => exact Ck (Kd.S_reads' (Sat.S HG 2 rfl)).2.2); (case side2 => rw [show t237.length = t221.length from (Kd.S_reads' (Sat.S HG 2 rfl)).1.symm]; exact (Kd.S_reads' (Sat.S HG 2 rfl)).2.1); rintro e w72 ⟨rfl, hb⟩; refine ⟨_, rfl, ?_⟩; replace HG := Sat.rd HG hb; (try clear hb); (try clear hb2); (try clear hk); (try clear hi); have hcz73_0 : w72.cell? ⟨gb201, 0, none⟩ = some (.int .i64 a0_0) := (blk_cell (Sat.B HG 8 rfl) 0).trans rfl; have hcz73_1 : w72.cell? ⟨gb201, 1, none⟩ = some (.int .i64 a0_1) := (blk_cell (Sat.B HG 8 rfl) 1).trans rfl; have hcz73_2 : w72.cell? ⟨gb201, 2, none⟩ = some (.slice A0_2 l0_2.length c0_2) := (blk_cell (Sat.B HG 8 rfl) 2).trans rfl; have hfz73_0 := blk_frozen (Sat.B HG 8 rfl) 0; have hfz73_1 := blk_frozen (Sat.B HG 8 rfl) 1; have hfz73_2 := blk_frozen (Sat.B HG 8 rfl) 2); go_wp2_with (((with_reducible refine gC 6 ?_); refine GL (some 75) Try.func6 #[.agg #[.int .i64 a0_0, .int .i64 a0_1, .slice A0_2 l0_2.length c0_2]] ?_; (with_reducible refine (laws_toCover.calls k a0_0 a0_1 _ _ l0_2 t239 t240 t241 _ ?side1 ?side2 A25.out).mono ?_); (case side1 => exact Ck (Kd.C_below HR0_2.out HG.out.1)); (case side2 => exact HC0_2.out); rintro e w74 ⟨v242, rfl, ho0, hb⟩; refine ⟨_, rfl, ?_⟩; replace HG := Sat.mkS HG hb ho0; (try clear hb); (try clear hb2); (try clear hk); (try clear hi); (try clear ho0); obtain ⟨Ao75, co75, eo75⟩ := Kd.S_slice (Sat.S HG 0 rfl); subst eo75); go_wp2_with (((with_reducible refine gC 7 ?_); refine GL (some 76) Try.func7 #[.agg #[.int .i64 t239, .int .i64 t240, .slice Ao75 t241.length co75]] ?_; (with_reducible refine (impl_FormulaOfCover.calls k t239 t240 _ _ t241 t244 t245 t248 _ ?side1 ?side2 A26.out).mono ?_); (case side1 => exact Ck (Kd.S_reads' (Sat.S HG 0 rfl)).2.2); (case side2 => exact (Kd.S_reads' (Sat.S HG 0 rfl)).2.1); rintro e w76 ⟨v246, rfl, ho0, hb⟩; refine ⟨_, rfl, ?_⟩; replace HG := Sat.mkS HG hb ho0; (try clear hb); (try clear hb2); (try clear hk); (try clear hi); (try clear ho0)); go_wp2_with (((with_reducible refine gD 12 ?_); refine BX #[.int .i64 0, .slice none 0 0] 27 ?_; intro gb249 hg w77 hbox hb; replace HG := Sat.box HG hg hbox hb; clear hb hbox hg; have hnb78 := (Sat.ne HG 0 11 (by decide) rfl rfl); have hnc78 := (Sat.ne HG 11 0 (by decide) rfl rfl); have hnb79 := (Sat.ne HG 0 8 (by decide) rfl rfl); have hnc79 := (Sat.ne HG 8 0 (by decide) rfl rfl); have hnb80 := (Sat.ne HG 0 6 (by decide) rfl rfl); have hnc80 := (Sat.ne HG 6 0 (by decide) rfl rfl); have hnb81 := (Sat.ne HG 0 4 (by decide) rfl rfl); have hnc81 := (Sat.ne HG 4 0 (by decide) rfl rfl); have hcz82_0 : w77.cell? ⟨gb249, 0, none⟩ = some (.int .i64 0) := (blk_cell (Sat.B HG 0 rfl) 0).trans rfl; have hcz82_1 : w77.cell? ⟨gb249, 1, none⟩ = some (.slice none 0 0) := (blk_cell (Sat.B HG 0 rfl) 1).trans rfl; have hfz82_0 := blk_frozen (Sat.B HG 0 rfl) 0; have hfz82_1 := blk_frozen (Sat.B HG 0 rfl) 1; obtain ⟨Ao83, co83, eo83⟩ := Kd.S_slice (Sat.S HG 1 rfl); subst eo83; have hcz84_0 : w77.cell? ⟨gb213, 0, none⟩ = some (.int .i64 t208) := (blk_cell (Sat.B HG 8 rfl) 0).trans rfl; have hcz84_1 : w77.cell? ⟨gb213, 1, none⟩ = some (.slice Ao43 t209.length co43) := (blk_cell (Sat.B HG 8 rfl) 1).trans rfl; have hfz84_0 := blk_frozen (Sat.B HG 8 rfl) 0; have hfz84_1 := blk_frozen (Sat.B HG 8 rfl) 1); go_wp2_with (((with_reducible refine gC 8 ?_); replace HG := Sat.put HG 0 0 (.int .i64 t244) #[.int .i64 t244, .slice none 0 0]; replace HG := Sat.put HG 0 1 (.slice Ao83 t245.length co83) #[.int .i64 t244, .slice Ao83 t245.length co83]; refine GL (some 81) Try.func8 #[.agg #[.int .i64 t244, .slice Ao83 t245.length co83], .agg #[.int .i64 t208, .slice Ao43 t209.length co43]] ?_; (with_reducible refine (laws_eqFormula.calls k t244 _ _ t245 t208 _ _ t209 true _ ?side1 ?side2 ?side3 ?side4 A27.out).mono ?_); (case side1 => exact Ck (Kd.S_reads' (Sat.S HG 1 rfl)).2.2); (case side2 => exact (Kd.S_reads' (Sat.S HG 1 rfl)).2.1); (case side3 => exact Ck (Kd.S_reads' (Sat.S HG 9 rfl)).2.2); (case side4 => exact (Kd.S_reads' (Sat.S HG 9 rfl)).2.1); rintro e w85 ⟨rfl, hb⟩; refine ⟨_, rfl, ?_⟩; replace HG := Sat.rd HG hb; (try clear hb); (try clear hb2); (try clear hk); (try clear hi); have hcz86_0 : w85.cell? ⟨gb225, 0, none⟩ = some (.int .i64 t220) := (blk_cell (Sat.B HG 4 rfl) 0).trans rfl; have hcz86_1 : w85.cell? ⟨gb225, 1, none⟩ = some (.slice Ao57 t221.length co57) := (blk_cell (Sat.B HG 4 rfl) 1).trans rfl; have hfz86_0 := blk_frozen (Sat.B HG 4 rfl) 0; have hfz86_1 := blk_frozen (Sat.B HG 4 rfl) 1); go_wp2_with (((with_reducible refine gC 12 ?_); refine GL (some 90) Try.func12 #[.agg #[.int .i64 t220, .slice Ao57 t237.length co57], .int .i64 1] ?_ (hargs := by (try simp only [List.map_toArray, List.map_cons, List.map_nil]); first | done | (rw [show t237.length = t221.length from (Kd.S_reads' (Sat.S HG 5 rfl)).1.symm] <;> rfl) | rfl | (simp only [List.length_drop, List.length_take]; rfl)); (with_reducible refine (laws_heldFormula.calls k t220 _ _ t237 1 t251 _ ?side1 ?side2 A30.out).mono ?_); (case side1 => exact Ck (Kd.S_reads' (Sat.S HG 5 rfl)).2.2); (case side2 => rw [show t237.length = t221.length from (Kd.S_reads' (Sat.S HG 5 rfl)).1.symm]; exact (Kd.S_reads' (Sat.S HG 5 rfl)).2.1); rintro e w87 ⟨rfl, hb⟩; refine ⟨_, rfl, ?_⟩; replace HG := Sat.rd HG hb; (try clear hb); (try clear hb2); (try clear hk); (try clear hi)))))))))))
                          go_ret
                          exact ⟨Fin, Bw HG⟩
                        · rw [if_neg c32] at H
                          have c32b0 : (t251 == t236) = false := beq_eq_false_iff_ne.mpr c32
                          have c32b1 : (t251 != t236) = true := bne_iff_ne.mpr c32
                          exact absurd (H.trans (congrArg some hrt)) (by simp)
                    · rw [if_neg c29] at H
                      have c29b0 : (t248 == t212) = false := beq_eq_false_iff_ne.mpr c29
                      have c29b1 : (t248 != t212) = true := bne_iff_ne.mpr c29
                      exact absurd (H.trans (congrArg some hrt)) (by simp)
                  · replace c28 := Bool.eq_false_iff.mpr c28
                    subst c28
                    rw [if_neg (show ¬ (false = true) by decide)] at H
                    exact absurd (H.trans (congrArg some hrt)) (by simp)
                · rw [if_neg c24] at H
                  have c24b0 : (t238 == t236) = false := beq_eq_false_iff_ne.mpr c24
                  have c24b1 : (t238 != t236) = true := bne_iff_ne.mpr c24
                  exact absurd (H.trans (congrArg some hrt)) (by simp)
            · replace c20 := Bool.eq_false_iff.mpr c20
              subst c20
              rw [if_neg (show ¬ (false = true) by decide)] at H
              exact absurd (H.trans (congrArg some hrt)) (by simp)
        · replace c16 := Bool.eq_false_iff.mpr c16
          subst c16
          rw [if_neg (show ¬ (false = true) by decide)] at H
          exact absurd (H.trans (congrArg some hrt)) (by simp)
      · rw [if_neg c13] at H
        have c13b0 : (t224 == t212) = false := beq_eq_false_iff_ne.mpr c13
        have c13b1 : (t224 != t212) = true := bne_iff_ne.mpr c13
        exact absurd (H.trans (congrArg some hrt)) (by simp)
    · replace c12 := Bool.eq_false_iff.mpr c12
      subst c12
      rw [if_neg (show ¬ (false = true) by decide)] at H
      exact absurd (H.trans (congrArg some hrt)) (by simp)

end Go.Proofs.Ytccenkhokgiejaa.XFnExactFormulaOfCover
