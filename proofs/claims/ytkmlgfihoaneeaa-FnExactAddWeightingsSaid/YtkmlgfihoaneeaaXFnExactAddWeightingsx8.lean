-- Written by ext.py (wip/) over the kit's print: not trusted, Lean checks it.
import Derived.Test.YtkmlgfihoaneeaaXFnExactAddWeightingsx0
import Derived.Test.YtkmlgfihoaneeaaXFnExactAddWeightingsx2
import Derived.Test.YtkmlgfihoaneeaaXFnExactAddWeightingsx4
import Derived.Test.YtkmlgfihoaneeaaXFnExactAddWeightingsx6
import Derived.Test.YtkmlgfihoaneeaaXFnExactAddWeightingsx7
namespace Go.Proofs.Ytkmlgfihoaneeaa.XFnExactAddWeightings
open Go.RowKit Go.Proofs.YtkmlgfihoaneeaaW.PrintWords Go.Proofs.YtkmlgfihoaneeaaW.PrintLast Go.Proofs.YtkmlgfihoaneeaaW.PrintMore
attribute [local go_sem] max2_int min2_int max_two min_two max_three min_three max_four min_four   -- for this text's walks alone
set_option linter.unusedVariables false
set_option linter.unusedSimpArgs false

/-! ### laws_FnExactAddWeightings: function 7 -/
def laws_FnExactAddWeightings.f (k : Nat) (l0 : List (S105)) (a1_0 : Int) (l1_1 : List Int) (a2_0 : Int) (l2_1 : List Int) : Option (Bool) := (laws_szCellS.f l0 1048576).bind fun t229 => (if t229 < 0 then (some true) else ((laws_szWeighting.f a1_0 l1_1 t229).bind fun t230 => (if t230 < 0 then (some true) else ((laws_szWeighting.f a2_0 l2_1 t230).bind fun t231 => (if t231 < 0 then (some true) else ((laws_toCellS.f k l0).bind fun t232 => ((laws_toWeighting.f k a1_0 l1_1).bind fun bt235 => ((laws_toWeighting.f k a2_0 l2_1).bind fun bt239 => ((spec_AddWeightings.f k t232 bt235.1 bt235.2 bt239.1 bt239.2).bind fun bt243 => ((laws_toCellS.f k l0).bind fun t249 => ((laws_toWeighting.f k a1_0 l1_1).bind fun bt252 => ((laws_toWeighting.f k a2_0 l2_1).bind fun bt257 => ((impl_AddWeightings.f k t249 bt252.1 bt252.2 bt257.1 bt257.2).bind fun bt262 => ((laws_eqWeighting.f k bt262.1 bt262.2.1 bt243.1 bt243.2.1).bind fun t268 => (if t268 = true then (if bt262.2.2 = bt243.2.2 then ((laws_toCellS.f k l0).bind fun t269 => ((laws_eqCellS.f k t249 t269).bind fun t272 => (if t272 = true then ((laws_toWeighting.f k a1_0 l1_1).bind fun bt273 => ((laws_eqWeighting.f k bt252.1 bt252.2 bt273.1 bt273.2).bind fun t277 => (if t277 = true then ((laws_toWeighting.f k a2_0 l2_1).bind fun bt278 => ((laws_eqWeighting.f k bt257.1 bt257.2 bt278.1 bt278.2).bind fun t282 => (if t282 = true then ((laws_markCellS.f k t249 1).bind fun bt283 => ((laws_markWeighting.f k bt252.1 bt252.2 bt283.1).bind fun bt285 => ((laws_markWeighting.f k bt257.1 bt257.2 bt285.1).bind fun bt287 => (if bt287.1 < 0 then (some false) else ((laws_eqWeighting.f k bt262.1 bt262.2.1 bt243.1 bt243.2.1).bind fun t289 => (if t289 = true then ((laws_markWeighting.f k bt262.1 bt262.2.1 1).bind fun bt290 => ((laws_heldWeighting.f k bt262.1 bt290.2 1).bind fun t292 => (if t292 < 0 then (some false) else (if t292 = bt290.1 then ((laws_toCellS.f k l0).bind fun t293 => ((laws_toWeighting.f k a1_0 l1_1).bind fun bt296 => ((laws_toWeighting.f k a2_0 l2_1).bind fun bt300 => ((impl_AddWeightings.f k t293 bt296.1 bt296.2 bt300.1 bt300.2).bind fun bt304 => ((laws_eqWeighting.f k bt304.1 bt304.2.1 bt243.1 bt243.2.1).bind fun t310 => (if t310 = true then (if bt304.2.2 = bt243.2.2 then ((laws_heldWeighting.f k bt262.1 bt290.2 1).bind fun t311 => (if t311 < 0 then (some false) else (if t311 = bt290.1 then (some true) else (some false)))) else (some false)) else (some false))))))) else (some false))))) else (some false))))))) else (some false)))) else (some false)))) else (some false)))) else (some false)) else (some false))))))))))))))))
theorem laws_FnExactAddWeightings.mono : ∀ a0 a1 a2 a3 a4 k, LeO (laws_FnExactAddWeightings.f k a0 a1 a2 a3 a4) (laws_FnExactAddWeightings.f (k + 1) a0 a1 a2 a3 a4) := by
  intro a0 a1 a2 a3 a4 k
  unfold laws_FnExactAddWeightings.f
  repeat' first
      | (with_reducible exact impl_AddWeightings.mono _ _ _ _ _ _)
      | (with_reducible exact laws_eqCellS.mono _ _ _)
      | (with_reducible exact laws_eqWeighting.mono _ _ _ _ _)
      | (with_reducible exact laws_heldWeighting.mono _ _ _ _)
      | (with_reducible exact laws_markCellS.mono _ _ _)
      | (with_reducible exact laws_markWeighting.mono _ _ _ _)
      | (with_reducible exact laws_toCellS.mono _ _)
      | (with_reducible exact laws_toWeighting.mono _ _ _)
      | (with_reducible exact spec_AddWeightings.mono _ _ _ _ _ _)
      | (with_reducible exact LeO.refl _)
      | (with_reducible exact LeO.none _)
      | (with_reducible refine LeO.ite ?_ ?_)
      | (with_reducible refine LeO.bind ?_ (fun _ => ?_))
      | exact impl_AddWeightings.mono _ _ _ _ _ _
      | exact laws_eqCellS.mono _ _ _
      | exact laws_eqWeighting.mono _ _ _ _ _
      | exact laws_heldWeighting.mono _ _ _ _
      | exact laws_markCellS.mono _ _ _
      | exact laws_markWeighting.mono _ _ _ _
      | exact laws_toCellS.mono _ _
      | exact laws_toWeighting.mono _ _ _
      | exact spec_AddWeightings.mono _ _ _ _ _ _
      | exact LeO.none _
      | refine LeO.ite ?_ ?_
      | refine LeO.bind ?_ (fun _ => ?_)
def laws_FnExactAddWeightings.T11 : Bool × List (List Nat × List Nat) := (true, [([], []), ([0], [0]), ([], []), ([2, 1], [2]), ([], []), ([4, 3], [4]), ([1, 3, 5, 5], [1, 3, 5]), ([6], [6]), ([7], [7]), ([7], [7]), ([], []), ([10, 8, 6, 0, 1, 2, 3, 4, 5, 6, 7, 8, 10], [8, 10]), ([9, 11, 0, 1, 2, 3, 4, 5, 6, 7, 8, 9, 10, 11], [9])])
def laws_FnExactAddWeightings.B11 : List Nat := [0, 1, 0, 7, 0, 31, 63, 127, 255, 255, 0, 1535, 4095]
theorem laws_FnExactAddWeightings.tab11 : rtab .any (opsOf Try.f7 11) = laws_FnExactAddWeightings.T11 := by kernel_rfl
theorem laws_FnExactAddWeightings.bits11 : waitsOk laws_FnExactAddWeightings.T11.2 laws_FnExactAddWeightings.B11 = true := by kernel_rfl
def laws_FnExactAddWeightings.T38 : Bool × List (List Nat × List Nat) := (true, [([], []), ([0], [0]), ([], []), ([2, 1], [2]), ([], []), ([4, 3], [4]), ([1, 3, 5, 5], [1, 3, 5]), ([6], [6]), ([7], [7]), ([7], [7]), ([], []), ([10, 8, 6, 0, 1, 2, 3, 4, 5, 6, 7, 8, 10], [8, 10]), ([9, 11, 0, 1, 2, 3, 4, 5, 6, 7, 8, 9, 10, 11], [9])])
def laws_FnExactAddWeightings.B38 : List Nat := [0, 1, 0, 7, 0, 31, 63, 127, 255, 255, 0, 1535, 4095]
theorem laws_FnExactAddWeightings.tab38 : rtab .any (opsOf Try.f7 38) = laws_FnExactAddWeightings.T38 := by kernel_rfl
theorem laws_FnExactAddWeightings.bits38 : waitsOk laws_FnExactAddWeightings.T38.2 laws_FnExactAddWeightings.B38 = true := by kernel_rfl
set_option maxHeartbeats 8000000 in
set_option maxRecDepth 100000 in
theorem laws_FnExactAddWeightings.calls (k : Nat) (A0 : Option Addr) (c0 : Nat) (l0 : List (S105)) (a1_0 : Int) (A1_1 : Option Addr) (c1_1 : Nat) (l1_1 : List Int) (a2_0 : Int) (A2_1 : Option Addr) (c2_1 : Nat) (l2_1 : List Int) (r : Bool) (w : World) (hrt : r = true) (hr0 : Kd.C k105 w A0 l0.length l0) (hc0 : l0.length ≤ c0) (hr1_1 : Kd.C (Kd.int .i64) w A1_1 l1_1.length l1_1) (hc1_1 : l1_1.length ≤ c1_1) (hr2_1 : Kd.C (Kd.int .i64) w A2_1 l2_1.length l2_1) (hc2_1 : l2_1.length ≤ c2_1) (h : laws_FnExactAddWeightings.f k l0 a1_0 l1_1 a2_0 l2_1 = some r) :
    Calls Try.prog 7 #[.slice A0 l0.length c0, .agg #[.int .i64 a1_0, .slice A1_1 l1_1.length c1_1], .agg #[.int .i64 a2_0, .slice A2_1 l2_1.length c2_1]] w fun e w' => e = .returned (.bool r) ∧ Below w.heap.size w w' := by
  have hu39 := Try.underlying39
  have hu46 := Try.underlying46
  have HR0 := Aside0.mk hr0
  have HC0 := Aside0.mk hc0
  clear hr0 hc0
  have HR1_1 := Aside0.mk hr1_1
  have HC1_1 := Aside0.mk hc1_1
  clear hr1_1 hc1_1
  have HR2_1 := Aside0.mk hr2_1
  have HC2_1 := Aside0.mk hc2_1
  clear hr2_1 hc2_1
  have HG := Aside0.mk (Sat.start w)
  have H : ((laws_szCellS.f l0 1048576).bind fun t229 => (if t229 < 0 then (some true) else ((laws_szWeighting.f a1_0 l1_1 t229).bind fun t230 => (if t230 < 0 then (some true) else ((laws_szWeighting.f a2_0 l2_1 t230).bind fun t231 => (if t231 < 0 then (some true) else ((laws_toCellS.f k l0).bind fun t232 => ((laws_toWeighting.f k a1_0 l1_1).bind fun bt235 => ((laws_toWeighting.f k a2_0 l2_1).bind fun bt239 => ((spec_AddWeightings.f k t232 bt235.1 bt235.2 bt239.1 bt239.2).bind fun bt243 => ((laws_toCellS.f k l0).bind fun t249 => ((laws_toWeighting.f k a1_0 l1_1).bind fun bt252 => ((laws_toWeighting.f k a2_0 l2_1).bind fun bt257 => ((impl_AddWeightings.f k t249 bt252.1 bt252.2 bt257.1 bt257.2).bind fun bt262 => ((laws_eqWeighting.f k bt262.1 bt262.2.1 bt243.1 bt243.2.1).bind fun t268 => (if t268 = true then (if bt262.2.2 = bt243.2.2 then ((laws_toCellS.f k l0).bind fun t269 => ((laws_eqCellS.f k t249 t269).bind fun t272 => (if t272 = true then ((laws_toWeighting.f k a1_0 l1_1).bind fun bt273 => ((laws_eqWeighting.f k bt252.1 bt252.2 bt273.1 bt273.2).bind fun t277 => (if t277 = true then ((laws_toWeighting.f k a2_0 l2_1).bind fun bt278 => ((laws_eqWeighting.f k bt257.1 bt257.2 bt278.1 bt278.2).bind fun t282 => (if t282 = true then ((laws_markCellS.f k t249 1).bind fun bt283 => ((laws_markWeighting.f k bt252.1 bt252.2 bt283.1).bind fun bt285 => ((laws_markWeighting.f k bt257.1 bt257.2 bt285.1).bind fun bt287 => (if bt287.1 < 0 then (some false) else ((laws_eqWeighting.f k bt262.1 bt262.2.1 bt243.1 bt243.2.1).bind fun t289 => (if t289 = true then ((laws_markWeighting.f k bt262.1 bt262.2.1 1).bind fun bt290 => ((laws_heldWeighting.f k bt262.1 bt290.2 1).bind fun t292 => (if t292 < 0 then (some false) else (if t292 = bt290.1 then ((laws_toCellS.f k l0).bind fun t293 => ((laws_toWeighting.f k a1_0 l1_1).bind fun bt296 => ((laws_toWeighting.f k a2_0 l2_1).bind fun bt300 => ((impl_AddWeightings.f k t293 bt296.1 bt296.2 bt300.1 bt300.2).bind fun bt304 => ((laws_eqWeighting.f k bt304.1 bt304.2.1 bt243.1 bt243.2.1).bind fun t310 => (if t310 = true then (if bt304.2.2 = bt243.2.2 then ((laws_heldWeighting.f k bt262.1 bt290.2 1).bind fun t311 => (if t311 < 0 then (some false) else (if t311 = bt290.1 then (some true) else (some false)))) else (some false)) else (some false))))))) else (some false))))) else (some false))))))) else (some false)))) else (some false)))) else (some false)))) else (some false)) else (some false))))))))))))))))) = some r := h
  clear h
  obtain ⟨t229, A40, H⟩ := Option.bind_eq_some_iff.mp H
  have A4 := Aside0.mk A40
  clear A40
  by_cases c5 : t229 < 0
  · rw [if_pos c5] at H
    have c5b0 : decide (t229 < 0) = true := decide_eq_true c5
    clear c5
    obtain rfl := Option.some.inj H
    go_enter Try.func7, Try.ntmps7
    go_wp2_with (first | ((with_reducible refine gD 4 ?_); refine BX #[.int .i64 a1_0, .slice A1_1 l1_1.length c1_1] 39 ?_; intro gb227 hg w6 hbox hb; replace HG := Sat.box HG hg hbox hb; clear hb hbox hg) | ((with_reducible refine gD 5 ?_); refine BX #[.int .i64 a2_0, .slice A2_1 l2_1.length c2_1] 39 ?_; intro gb228 hg w7 hbox hb; replace HG := Sat.box HG hg hbox hb; clear hb hbox hg) | ((with_reducible refine gC 24 ?_); refine GL (some 22) Try.func24 #[.slice A0 l0.length c0, .int .i64 1048576] ?_; (with_reducible refine (laws_szCellS.calls _ _ l0 1048576 t229 _ ?side1 ?side2 A4.out).mono ?_); (case side1 => exact Ck (Kd.C_below HR0.out HG.out.1)); (case side2 => exact HC0.out); rintro e w' ⟨rfl, ⟨nd, rfl⟩⟩; refine ⟨_, rfl, ?_⟩))
    go_ret
    exact ⟨Fin, Bw HG⟩
  · rw [if_neg c5] at H
    have c5b0 : decide (t229 < 0) = false := decide_eq_false c5
    clear c5
    obtain ⟨t230, A80, H⟩ := Option.bind_eq_some_iff.mp H
    have A8 := Aside0.mk A80
    clear A80
    by_cases c9 : t230 < 0
    · rw [if_pos c9] at H
      have c9b0 : decide (t230 < 0) = true := decide_eq_true c9
      clear c9
      obtain rfl := Option.some.inj H
      go_enter Try.func7, Try.ntmps7
      go_wp2_with (first | ((with_reducible refine gD 4 ?_); refine BX #[.int .i64 a1_0, .slice A1_1 l1_1.length c1_1] 39 ?_; intro gb227 hg w10 hbox hb; replace HG := Sat.box HG hg hbox hb; clear hb hbox hg) | ((with_reducible refine gD 5 ?_); refine BX #[.int .i64 a2_0, .slice A2_1 l2_1.length c2_1] 39 ?_; intro gb228 hg w11 hbox hb; replace HG := Sat.box HG hg hbox hb; clear hb hbox hg) | ((with_reducible refine gC 24 ?_); refine GL (some 22) Try.func24 #[.slice A0 l0.length c0, .int .i64 1048576] ?_; (with_reducible refine (laws_szCellS.calls _ _ l0 1048576 t229 _ ?side1 ?side2 A4.out).mono ?_); (case side1 => exact Ck (Kd.C_below HR0.out HG.out.1)); (case side2 => exact HC0.out); rintro e w' ⟨rfl, ⟨nd, rfl⟩⟩; refine ⟨_, rfl, ?_⟩; have hnb12 := (Sat.ne HG 1 0 (by decide) rfl rfl); have hnc12 := (Sat.ne HG 0 1 (by decide) rfl rfl); have hcz13_0 : w11.cell? ⟨gb227, 0, none⟩ = some (.int .i64 a1_0) := (blk_cell (Sat.B HG 1 rfl) 0).trans rfl; have hcz13_1 : w11.cell? ⟨gb227, 1, none⟩ = some (.slice A1_1 l1_1.length c1_1) := (blk_cell (Sat.B HG 1 rfl) 1).trans rfl; have hfz13_0 := blk_frozen (Sat.B HG 1 rfl) 0; have hfz13_1 := blk_frozen (Sat.B HG 1 rfl) 1) | ((with_reducible refine gC 25 ?_); refine GL (some 27) Try.func25 #[.agg #[.int .i64 a1_0, .slice A1_1 l1_1.length c1_1], .int .i64 t229] ?_; (with_reducible refine (laws_szWeighting.calls a1_0 _ _ l1_1 t229 t230 _ ?side1 ?side2 A8.out).mono ?_); (case side1 => exact Ck (Kd.C_below HR1_1.out (Bw HG))); (case side2 => exact HC1_1.out); rintro e w14 ⟨rfl, hb⟩; refine ⟨_, rfl, ?_⟩; replace HG := Sat.rd HG hb; (try clear hb); (try clear hb2); (try clear hk); (try clear hi)))
      go_ret
      exact ⟨Fin, Bw HG⟩
    · rw [if_neg c9] at H
      have c9b0 : decide (t230 < 0) = false := decide_eq_false c9
      clear c9
      obtain ⟨t231, A150, H⟩ := Option.bind_eq_some_iff.mp H
      have A15 := Aside0.mk A150
      clear A150
      by_cases c16 : t231 < 0
      · rw [if_pos c16] at H
        have c16b0 : decide (t231 < 0) = true := decide_eq_true c16
        clear c16
        obtain rfl := Option.some.inj H
        go_enter Try.func7, Try.ntmps7
        go_wp2_with (first | ((with_reducible refine gD 4 ?_); refine BX #[.int .i64 a1_0, .slice A1_1 l1_1.length c1_1] 39 ?_; intro gb227 hg w17 hbox hb; replace HG := Sat.box HG hg hbox hb; clear hb hbox hg) | ((with_reducible refine gD 5 ?_); refine BX #[.int .i64 a2_0, .slice A2_1 l2_1.length c2_1] 39 ?_; intro gb228 hg w18 hbox hb; replace HG := Sat.box HG hg hbox hb; clear hb hbox hg) | ((with_reducible refine gC 24 ?_); refine GL (some 22) Try.func24 #[.slice A0 l0.length c0, .int .i64 1048576] ?_; (with_reducible refine (laws_szCellS.calls _ _ l0 1048576 t229 _ ?side1 ?side2 A4.out).mono ?_); (case side1 => exact Ck (Kd.C_below HR0.out HG.out.1)); (case side2 => exact HC0.out); rintro e w' ⟨rfl, ⟨nd, rfl⟩⟩; refine ⟨_, rfl, ?_⟩; have hnb19 := (Sat.ne HG 1 0 (by decide) rfl rfl); have hnc19 := (Sat.ne HG 0 1 (by decide) rfl rfl); have hcz20_0 : w18.cell? ⟨gb227, 0, none⟩ = some (.int .i64 a1_0) := (blk_cell (Sat.B HG 1 rfl) 0).trans rfl; have hcz20_1 : w18.cell? ⟨gb227, 1, none⟩ = some (.slice A1_1 l1_1.length c1_1) := (blk_cell (Sat.B HG 1 rfl) 1).trans rfl; have hfz20_0 := blk_frozen (Sat.B HG 1 rfl) 0; have hfz20_1 := blk_frozen (Sat.B HG 1 rfl) 1) | ((with_reducible refine gC 25 ?_); refine GL (some 27) Try.func25 #[.agg #[.int .i64 a1_0, .slice A1_1 l1_1.length c1_1], .int .i64 t229] ?_; (with_reducible refine (laws_szWeighting.calls a1_0 _ _ l1_1 t229 t230 _ ?side1 ?side2 A8.out).mono ?_); (case side1 => exact Ck (Kd.C_below HR1_1.out (Bw HG))); (case side2 => exact HC1_1.out); rintro e w21 ⟨rfl, hb⟩; refine ⟨_, rfl, ?_⟩; replace HG := Sat.rd HG hb; (try clear hb); (try clear hb2); (try clear hk); (try clear hi); have hcz22_0 : w21.cell? ⟨gb228, 0, none⟩ = some (.int .i64 a2_0) := (blk_cell (Sat.B HG 0 rfl) 0).trans rfl; have hcz22_1 : w21.cell? ⟨gb228, 1, none⟩ = some (.slice A2_1 l2_1.length c2_1) := (blk_cell (Sat.B HG 0 rfl) 1).trans rfl; have hfz22_0 := blk_frozen (Sat.B HG 0 rfl) 0; have hfz22_1 := blk_frozen (Sat.B HG 0 rfl) 1) | ((with_reducible refine gC 25 ?_); refine GL (some 32) Try.func25 #[.agg #[.int .i64 a2_0, .slice A2_1 l2_1.length c2_1], .int .i64 t230] ?_; (with_reducible refine (laws_szWeighting.calls a2_0 _ _ l2_1 t230 t231 _ ?side1 ?side2 A15.out).mono ?_); (case side1 => exact Ck (Kd.C_below HR2_1.out HG.out.1)); (case side2 => exact HC2_1.out); rintro e w23 ⟨rfl, hb⟩; refine ⟨_, rfl, ?_⟩; replace HG := Sat.rd HG hb; (try clear hb); (try clear hb2); (try clear hk); (try clear hi)))
        go_ret
        exact ⟨Fin, Bw HG⟩
      · rw [if_neg c16] at H
        have c16b0 : decide (t231 < 0) = false := decide_eq_false c16
        clear c16
        obtain ⟨t232, A240, H⟩ := Option.bind_eq_some_iff.mp H
        have A24 := Aside0.mk A240
        clear A240
        obtain ⟨⟨t235, t236⟩, A250, H⟩ := Option.bind_eq_some_iff.mp H
        dsimp only at H
        have A25 := Aside0.mk A250
        clear A250
        obtain ⟨⟨t239, t240⟩, A260, H⟩ := Option.bind_eq_some_iff.mp H
        dsimp only at H
        have A26 := Aside0.mk A260
        clear A260
        obtain ⟨⟨t243, t244, t247⟩, A270, H⟩ := Option.bind_eq_some_iff.mp H
        dsimp only at H
        have A27 := Aside0.mk A270
        clear A270
        obtain ⟨t249, A280, H⟩ := Option.bind_eq_some_iff.mp H
        have A28 := Aside0.mk A280
        clear A280
        obtain ⟨⟨t252, t253⟩, A290, H⟩ := Option.bind_eq_some_iff.mp H
        dsimp only at H
        have A29 := Aside0.mk A290
        clear A290
        obtain ⟨⟨t257, t258⟩, A300, H⟩ := Option.bind_eq_some_iff.mp H
        dsimp only at H
        have A30 := Aside0.mk A300
        clear A300
        obtain ⟨⟨t262, t263, t266⟩, A310, H⟩ := Option.bind_eq_some_iff.mp H
        dsimp only at H
        have A31 := Aside0.mk A310
        clear A310
        obtain ⟨t268, A320, H⟩ := Option.bind_eq_some_iff.mp H
        have A32 := Aside0.mk A320
        clear A320
        by_cases c33 : t268 = true
        · subst c33
          rw [if_pos rfl] at H
          by_cases c34 : t266 = t247
          · rw [if_pos c34] at H
            have c34b0 : (t266 == t247) = true := beq_iff_eq.mpr c34
            have c34b1 : (t266 != t247) = false := bne_eq_false_iff_eq.mpr c34
            clear c34
            obtain ⟨t269, A350, H⟩ := Option.bind_eq_some_iff.mp H
            have A35 := Aside0.mk A350
            clear A350
            obtain ⟨t272, A360, H⟩ := Option.bind_eq_some_iff.mp H
            have A36 := Aside0.mk A360
            clear A360
            by_cases c37 : t272 = true
            · subst c37
              rw [if_pos rfl] at H
              obtain ⟨⟨t273, t274⟩, A380, H⟩ := Option.bind_eq_some_iff.mp H
              dsimp only at H
              have A38 := Aside0.mk A380
              clear A380
              obtain ⟨t277, A390, H⟩ := Option.bind_eq_some_iff.mp H
              have A39 := Aside0.mk A390
              clear A390
              by_cases c40 : t277 = true
              · subst c40
                rw [if_pos rfl] at H
                obtain ⟨⟨t278, t279⟩, A410, H⟩ := Option.bind_eq_some_iff.mp H
                dsimp only at H
                have A41 := Aside0.mk A410
                clear A410
                obtain ⟨t282, A420, H⟩ := Option.bind_eq_some_iff.mp H
                have A42 := Aside0.mk A420
                clear A420
                by_cases c43 : t282 = true
                · subst c43
                  rw [if_pos rfl] at H
                  obtain ⟨⟨t283, t284⟩, A440, H⟩ := Option.bind_eq_some_iff.mp H
                  dsimp only at H
                  have A44 := Aside0.mk A440
                  clear A440
                  obtain ⟨⟨t285, t286⟩, A450, H⟩ := Option.bind_eq_some_iff.mp H
                  dsimp only at H
                  have A45 := Aside0.mk A450
                  clear A450
                  obtain ⟨⟨t287, t288⟩, A460, H⟩ := Option.bind_eq_some_iff.mp H
                  dsimp only at H
                  have A46 := Aside0.mk A460
                  clear A460
                  by_cases c47 : t287 < 0
                  · rw [if_pos c47] at H
                    have c47b0 : decide (t287 < 0) = true := decide_eq_true c47
                    clear c47
                    exact absurd (H.trans (congrArg some hrt)) (by simp)
                  · rw [if_neg c47] at H
                    have c47b0 : decide (t287 < 0) = false := decide_eq_false c47
                    clear c47
                    obtain ⟨t289, A480, H⟩ := Option.bind_eq_some_iff.mp H
                    have A48 := Aside0.mk A480
                    clear A480
                    by_cases c49 : t289 = true
                    · subst c49
                      rw [if_pos rfl] at H
                      obtain ⟨⟨t290, t291⟩, A500, H⟩ := Option.bind_eq_some_iff.mp H
                      dsimp only at H
                      have A50 := Aside0.mk A500
                      clear A500
                      obtain ⟨t292, A510, H⟩ := Option.bind_eq_some_iff.mp H
                      have A51 := Aside0.mk A510
                      clear A510
                      by_cases c52 : t292 < 0
                      · rw [if_pos c52] at H
                        have c52b0 : decide (t292 < 0) = true := decide_eq_true c52
                        clear c52
                        exact absurd (H.trans (congrArg some hrt)) (by simp)
                      · rw [if_neg c52] at H
                        have c52b0 : decide (t292 < 0) = false := decide_eq_false c52
                        clear c52
                        by_cases c53 : t292 = t290
                        · rw [if_pos c53] at H
                          have c53b0 : (t292 == t290) = true := beq_iff_eq.mpr c53
                          have c53b1 : (t292 != t290) = false := bne_eq_false_iff_eq.mpr c53
                          clear c53
                          obtain ⟨t293, A540, H⟩ := Option.bind_eq_some_iff.mp H
                          have A54 := Aside0.mk A540
                          clear A540
                          obtain ⟨⟨t296, t297⟩, A550, H⟩ := Option.bind_eq_some_iff.mp H
                          dsimp only at H
                          have A55 := Aside0.mk A550
                          clear A550
                          obtain ⟨⟨t300, t301⟩, A560, H⟩ := Option.bind_eq_some_iff.mp H
                          dsimp only at H
                          have A56 := Aside0.mk A560
                          clear A560
                          obtain ⟨⟨t304, t305, t308⟩, A570, H⟩ := Option.bind_eq_some_iff.mp H
                          dsimp only at H
                          have A57 := Aside0.mk A570
                          clear A570
                          obtain ⟨t310, A580, H⟩ := Option.bind_eq_some_iff.mp H
                          have A58 := Aside0.mk A580
                          clear A580
                          by_cases c59 : t310 = true
                          · subst c59
                            rw [if_pos rfl] at H
                            by_cases c60 : t308 = t247
                            · rw [if_pos c60] at H
                              have c60b0 : (t308 == t247) = true := beq_iff_eq.mpr c60
                              have c60b1 : (t308 != t247) = false := bne_eq_false_iff_eq.mpr c60
                              clear c60
                              obtain ⟨t311, A610, H⟩ := Option.bind_eq_some_iff.mp H
                              have A61 := Aside0.mk A610
                              clear A610
                              by_cases c62 : t311 < 0
                              · rw [if_pos c62] at H
                                have c62b0 : decide (t311 < 0) = true := decide_eq_true c62
                                clear c62
                                exact absurd (H.trans (congrArg some hrt)) (by simp)
                              · rw [if_neg c62] at H
                                have c62b0 : decide (t311 < 0) = false := decide_eq_false c62
                                clear c62
                                by_cases c63 : t311 = t290
                                · rw [if_pos c63] at H
                                  have c63b0 : (t311 == t290) = true := beq_iff_eq.mpr c63
                                  have c63b1 : (t311 != t290) = false := bne_eq_false_iff_eq.mpr c63
                                  clear c63
                                  obtain rfl := Option.some.inj H
                                  go_enter Try.func7, Try.ntmps7
                                  try go_wp2_with (((with_reducible refine gD 4 ?_); refine BX #[.int .i64 a1_0, .slice A1_1 l1_1.length c1_1] 39 ?_; intro gb227 hg w64 hbox hb; replace HG := Sat.box HG hg hbox hb; clear hb hbox hg); go_wp2_with (((with_reducible refine gD 5 ?_); refine BX #[.int .i64 a2_0, .slice A2_1 l2_1.length c2_1] 39 ?_; intro gb228 hg w65 hbox hb; replace HG := Sat.box HG hg hbox hb; clear hb hbox hg); go_wp2_with (((with_reducible refine gC 24 ?_); refine GL (some 22) Try.func24 #[.slice A0 l0.length c0, .int .i64 1048576] ?_; (with_reducible refine (laws_szCellS.calls _ _ l0 1048576 t229 _ ?side1 ?side2 A4.out).mono ?_); (case side1 => exact Ck (Kd.C_below HR0.out HG.out.1)); (case side2 => exact HC0.out); rintro e w' ⟨rfl, ⟨nd, rfl⟩⟩; refine ⟨_, rfl, ?_⟩; (try (rw [drewN_self w65]; generalize hq_ : World.drewN w65 _ = w65; replace HG := Sat.drn hq_ HG; clear hq_)); have hnb66 := (Sat.ne HG 1 0 (by decide) rfl rfl); have hnc66 := (Sat.ne HG 0 1 (by decide) rfl rfl); have hcz67_0 : w65.cell? ⟨gb227, 0, none⟩ = some (.int .i64 a1_0) := (blk_cell (Sat.B HG 1 rfl) 0).trans rfl; have hcz67_1 : w65.cell? ⟨gb227, 1, none⟩ = some (.slice A1_1 l1_1.length c1_1) := (blk_cell (Sat.B HG 1 rfl) 1).trans rfl; have hfz67_0 := blk_frozen (Sat.B HG 1 rfl) 0; have hfz67_1 := blk_frozen (Sat.B HG 1 rfl) 1); go_wp2_with (((with_reducible refine gC 25 ?_); refine GL (some 27) Try.func25 #[.agg #[.int .i64 a1_0, .slice A1_1 l1_1.length c1_1], .int .i64 t229] ?_; (with_reducible refine (laws_szWeighting.calls a1_0 _ _ l1_1 t229 t230 _ ?side1 ?side2 A8.out).mono ?_); (case side1 => exact Ck (Kd.C_below HR1_1.out HG.out.1)); (case side2 => exact HC1_1.out); rintro e w68 ⟨rfl, hb⟩; refine ⟨_, rfl, ?_⟩; replace HG := Sat.rd HG hb; (try clear hb); (try clear hb2); (try clear hk); (try clear hi); have hcz69_0 : w68.cell? ⟨gb228, 0, none⟩ = some (.int .i64 a2_0) := (blk_cell (Sat.B HG 0 rfl) 0).trans rfl; have hcz69_1 : w68.cell? ⟨gb228, 1, none⟩ = some (.slice A2_1 l2_1.length c2_1) := (blk_cell (Sat.B HG 0 rfl) 1).trans rfl; have hfz69_0 := blk_frozen (Sat.B HG 0 rfl) 0; have hfz69_1 := blk_frozen (Sat.B HG 0 rfl) 1); go_wp2_with (((with_reducible refine gC 25 ?_); refine GL (some 32) Try.func25 #[.agg #[.int .i64 a2_0, .slice A2_1 l2_1.length c2_1], .int .i64 t230] ?_; (with_reducible refine (laws_szWeighting.calls a2_0 _ _ l2_1 t230 t231 _ ?side1 ?side2 A15.out).mono ?_); (case side1 => exact Ck (Kd.C_below HR2_1.out HG.out.1)); (case side2 => exact HC2_1.out); rintro e w70 ⟨rfl, hb⟩; refine ⟨_, rfl, ?_⟩; replace HG := Sat.rd HG hb; (try clear hb); (try clear hb2); (try clear hk); (try clear hi)))))))
                                  replace HG := Sat.drew HG
                                  refine start_ (n := 13) (S := fun w' => w'.cell? ⟨gb227, 0, none⟩ = some (.int .i64 a1_0) ∧ w'.cell? ⟨gb227, 1, none⟩ = some (.slice A1_1 l1_1.length c1_1) ∧ w'.cell? ⟨gb228, 0, none⟩ = some (.int .i64 a2_0) ∧ w'.cell? ⟨gb228, 1, none⟩ = some (.slice A2_1 l2_1.length c2_1)) (ds := []) #[false, false, false, false, false, false, false, false, false, false, false, false, false] (by kernel_rfl) rfl rfl ⟨(blk_cell (Sat.B HG 1 rfl) 0).trans rfl, (blk_cell (Sat.B HG 1 rfl) 1).trans rfl, (blk_cell (Sat.B HG 0 rfl) 0).trans rfl, (blk_cell (Sat.B HG 0 rfl) 1).trans rfl⟩ (fun hHeld => ?_); refine with_tabW laws_FnExactAddWeightings.tab11 laws_FnExactAddWeightings.bits11 (fun HT_ HW_ => ?_)
                                  generalize w70.drew = w71 at HG hHeld ⊢
                                  refine PU 0 36 ?_
                                  refine TK 2 38 hHeld ?_
                                  refine TK 4 40 hHeld ?_
                                  refine join_ (σ := Value × Value × Value × Value × Nat) 2 #[true, true, true, true, true, true, true, true, true, true, true, false, false] (fun s_ => [(37, s_.1), (39, .agg #[.int .i64 t235, s_.2.1]), (41, .agg #[.int .i64 t239, s_.2.2.1]), (42, .tuple #[.agg #[.int .i64 t243, s_.2.2.2.1], .int .i64 t247]), (8, .pointer (some ⟨s_.2.2.2.2, 0, none⟩)), (35, .tuple #[.agg #[.int .i64 t243, s_.2.2.2.1], .int .i64 t247]), (43, .agg #[.int .i64 t243, s_.2.2.2.1]), (44, .int .i64 t247)]) (fun s_ w' => (w'.cell? ⟨gb227, 0, none⟩ = some (.int .i64 a1_0) ∧ w'.cell? ⟨gb227, 1, none⟩ = some (.slice A1_1 l1_1.length c1_1) ∧ w'.cell? ⟨gb228, 0, none⟩ = some (.int .i64 a2_0) ∧ w'.cell? ⟨gb228, 1, none⟩ = some (.slice A2_1 l2_1.length c2_1)) ∧ Aside0 (Sat w [Ctx.R k103 103 s_.1 t232, Ctx.R (Kd.int .i64) 2 s_.2.1 t236, Ctx.R (Kd.int .i64) 2 s_.2.2.1 t240, Ctx.R (Kd.int .i64) 2 s_.2.2.2.1 t244, Ctx.blk gb227 (.cells #[.int .i64 a1_0, .slice A1_1 l1_1.length c1_1] 39 (0, 0)), Ctx.blk gb228 (.cells #[.int .i64 a2_0, .slice A2_1 l2_1.length c2_1] 39 (0, 0)), Ctx.blk s_.2.2.2.2 (.cells #[.int .i64 0, .slice none 0 0] 46 (0, 0))] w')) ?_ ?_
                                  rotate_left
                                  · intro hJ1_3_5_6_10
                                    refine join_ (σ := Value × Value × Value × Value) 3 #[true, true, true, true, true, true, true, true, true, true, false, false, false] (fun s_ => [(37, s_.1), (39, .agg #[.int .i64 t235, s_.2.1]), (41, .agg #[.int .i64 t239, s_.2.2.1]), (42, .tuple #[.agg #[.int .i64 t243, s_.2.2.2], .int .i64 t247]), (35, .tuple #[.agg #[.int .i64 t243, s_.2.2.2], .int .i64 t247]), (43, .agg #[.int .i64 t243, s_.2.2.2]), (44, .int .i64 t247)]) (fun s_ w' => (w'.cell? ⟨gb227, 0, none⟩ = some (.int .i64 a1_0) ∧ w'.cell? ⟨gb227, 1, none⟩ = some (.slice A1_1 l1_1.length c1_1) ∧ w'.cell? ⟨gb228, 0, none⟩ = some (.int .i64 a2_0) ∧ w'.cell? ⟨gb228, 1, none⟩ = some (.slice A2_1 l2_1.length c2_1)) ∧ Aside0 (Sat w [Ctx.R k103 103 s_.1 t232, Ctx.R (Kd.int .i64) 2 s_.2.1 t236, Ctx.R (Kd.int .i64) 2 s_.2.2.1 t240, Ctx.R (Kd.int .i64) 2 s_.2.2.2 t244, Ctx.blk gb227 (.cells #[.int .i64 a1_0, .slice A1_1 l1_1.length c1_1] 39 (0, 0)), Ctx.blk gb228 (.cells #[.int .i64 a2_0, .slice A2_1 l2_1.length c2_1] 39 (0, 0))] w')) ?_ ?_
                                    rotate_left
                                    · intro hJ1_3_5_6
                                      refine join_ (σ := Value × Value × Value × Nat) 6 #[true, true, true, true, true, true, false, false, false, false, true, false, false] (fun s_ => [(37, s_.1), (39, .agg #[.int .i64 t235, s_.2.1]), (41, .agg #[.int .i64 t239, s_.2.2.1]), (8, .pointer (some ⟨s_.2.2.2, 0, none⟩))]) (fun s_ w' => (w'.cell? ⟨gb227, 0, none⟩ = some (.int .i64 a1_0) ∧ w'.cell? ⟨gb227, 1, none⟩ = some (.slice A1_1 l1_1.length c1_1) ∧ w'.cell? ⟨gb228, 0, none⟩ = some (.int .i64 a2_0) ∧ w'.cell? ⟨gb228, 1, none⟩ = some (.slice A2_1 l2_1.length c2_1)) ∧ Aside0 (Sat w [Ctx.R k103 103 s_.1 t232, Ctx.R (Kd.int .i64) 2 s_.2.1 t236, Ctx.R (Kd.int .i64) 2 s_.2.2.1 t240, Ctx.blk gb227 (.cells #[.int .i64 a1_0, .slice A1_1 l1_1.length c1_1] 39 (0, 0)), Ctx.blk gb228 (.cells #[.int .i64 a2_0, .slice A2_1 l2_1.length c2_1] 39 (0, 0)), Ctx.blk s_.2.2.2 (.cells #[.int .i64 0, .slice none 0 0] 46 (0, 0))] w')) ?_ ?_
                                      rotate_left
                                      · intro hJ1_3_5_10
                                        refine join_ (σ := Value × Value × Value) 7 #[true, true, true, true, true, true, false, false, false, false, false, false, false] (fun s_ => [(37, s_.1), (39, .agg #[.int .i64 t235, s_.2.1]), (41, .agg #[.int .i64 t239, s_.2.2])]) (fun s_ w' => (w'.cell? ⟨gb227, 0, none⟩ = some (.int .i64 a1_0) ∧ w'.cell? ⟨gb227, 1, none⟩ = some (.slice A1_1 l1_1.length c1_1) ∧ w'.cell? ⟨gb228, 0, none⟩ = some (.int .i64 a2_0) ∧ w'.cell? ⟨gb228, 1, none⟩ = some (.slice A2_1 l2_1.length c2_1)) ∧ Aside0 (Sat w [Ctx.R k103 103 s_.1 t232, Ctx.R (Kd.int .i64) 2 s_.2.1 t236, Ctx.R (Kd.int .i64) 2 s_.2.2 t240, Ctx.blk gb227 (.cells #[.int .i64 a1_0, .slice A1_1 l1_1.length c1_1] 39 (0, 0)), Ctx.blk gb228 (.cells #[.int .i64 a2_0, .slice A2_1 l2_1.length c2_1] 39 (0, 0))] w')) ?_ ?_
                                        rotate_left
                                        · intro hJ1_3_5
                                          refine join_ (σ := Value × Value × Nat) 7 #[true, true, true, true, true, false, false, false, false, false, true, false, false] (fun s_ => [(37, s_.1), (39, .agg #[.int .i64 t235, s_.2.1]), (8, .pointer (some ⟨s_.2.2, 0, none⟩))]) (fun s_ w' => (w'.cell? ⟨gb227, 0, none⟩ = some (.int .i64 a1_0) ∧ w'.cell? ⟨gb227, 1, none⟩ = some (.slice A1_1 l1_1.length c1_1) ∧ w'.cell? ⟨gb228, 0, none⟩ = some (.int .i64 a2_0) ∧ w'.cell? ⟨gb228, 1, none⟩ = some (.slice A2_1 l2_1.length c2_1)) ∧ Aside0 (Sat w [Ctx.R k103 103 s_.1 t232, Ctx.R (Kd.int .i64) 2 s_.2.1 t236, Ctx.blk gb227 (.cells #[.int .i64 a1_0, .slice A1_1 l1_1.length c1_1] 39 (0, 0)), Ctx.blk gb228 (.cells #[.int .i64 a2_0, .slice A2_1 l2_1.length c2_1] 39 (0, 0)), Ctx.blk s_.2.2 (.cells #[.int .i64 0, .slice none 0 0] 46 (0, 0))] w')) ?_ ?_
                                          rotate_left
                                          · intro hJ1_3_10
                                            refine join_ (σ := Value × Value) 8 #[true, true, true, true, true, false, false, false, false, false, false, false, false] (fun s_ => [(37, s_.1), (39, .agg #[.int .i64 t235, s_.2])]) (fun s_ w' => (w'.cell? ⟨gb227, 0, none⟩ = some (.int .i64 a1_0) ∧ w'.cell? ⟨gb227, 1, none⟩ = some (.slice A1_1 l1_1.length c1_1) ∧ w'.cell? ⟨gb228, 0, none⟩ = some (.int .i64 a2_0) ∧ w'.cell? ⟨gb228, 1, none⟩ = some (.slice A2_1 l2_1.length c2_1)) ∧ Aside0 (Sat w [Ctx.R k103 103 s_.1 t232, Ctx.R (Kd.int .i64) 2 s_.2 t236, Ctx.blk gb227 (.cells #[.int .i64 a1_0, .slice A1_1 l1_1.length c1_1] 39 (0, 0)), Ctx.blk gb228 (.cells #[.int .i64 a2_0, .slice A2_1 l2_1.length c2_1] 39 (0, 0))] w')) ?_ ?_
                                            rotate_left
                                            · intro hJ1_3
                                              refine join_ (σ := Value × Nat) 8 #[true, true, true, false, true, false, false, false, false, false, true, false, false] (fun s_ => [(37, s_.1), (8, .pointer (some ⟨s_.2, 0, none⟩))]) (fun s_ w' => (w'.cell? ⟨gb227, 0, none⟩ = some (.int .i64 a1_0) ∧ w'.cell? ⟨gb227, 1, none⟩ = some (.slice A1_1 l1_1.length c1_1) ∧ w'.cell? ⟨gb228, 0, none⟩ = some (.int .i64 a2_0) ∧ w'.cell? ⟨gb228, 1, none⟩ = some (.slice A2_1 l2_1.length c2_1)) ∧ Aside0 (Sat w [Ctx.R k103 103 s_.1 t232, Ctx.blk gb227 (.cells #[.int .i64 a1_0, .slice A1_1 l1_1.length c1_1] 39 (0, 0)), Ctx.blk gb228 (.cells #[.int .i64 a2_0, .slice A2_1 l2_1.length c2_1] 39 (0, 0)), Ctx.blk s_.2 (.cells #[.int .i64 0, .slice none 0 0] 46 (0, 0))] w')) ?_ ?_
                                              rotate_left
                                              · intro hJ1_10
                                                refine join_ (σ := Value) 9 #[true, true, true, false, true, false, false, false, false, false, false, false, false] (fun s_ => [(37, s_)]) (fun s_ w' => (w'.cell? ⟨gb227, 0, none⟩ = some (.int .i64 a1_0) ∧ w'.cell? ⟨gb227, 1, none⟩ = some (.slice A1_1 l1_1.length c1_1) ∧ w'.cell? ⟨gb228, 0, none⟩ = some (.int .i64 a2_0) ∧ w'.cell? ⟨gb228, 1, none⟩ = some (.slice A2_1 l2_1.length c2_1)) ∧ Aside0 (Sat w [Ctx.R k103 103 s_ t232, Ctx.blk gb227 (.cells #[.int .i64 a1_0, .slice A1_1 l1_1.length c1_1] 39 (0, 0)), Ctx.blk gb228 (.cells #[.int .i64 a2_0, .slice A2_1 l2_1.length c2_1] 39 (0, 0))] w')) ?_ ?_
                                                rotate_left
                                                · intro hJ1
                                                  refine join_ (σ := Nat) 9 #[true, false, true, false, true, false, false, false, false, false, true, false, false] (fun s_ => [(8, .pointer (some ⟨s_, 0, none⟩))]) (fun s_ w' => (w'.cell? ⟨gb227, 0, none⟩ = some (.int .i64 a1_0) ∧ w'.cell? ⟨gb227, 1, none⟩ = some (.slice A1_1 l1_1.length c1_1) ∧ w'.cell? ⟨gb228, 0, none⟩ = some (.int .i64 a2_0) ∧ w'.cell? ⟨gb228, 1, none⟩ = some (.slice A2_1 l2_1.length c2_1)) ∧ Aside0 (Sat w [Ctx.blk gb227 (.cells #[.int .i64 a1_0, .slice A1_1 l1_1.length c1_1] 39 (0, 0)), Ctx.blk gb228 (.cells #[.int .i64 a2_0, .slice A2_1 l2_1.length c2_1] 39 (0, 0)), Ctx.blk s_ (.cells #[.int .i64 0, .slice none 0 0] 46 (0, 0))] w')) ?_ ?_
                                                  rotate_left
                                                  · intro hJ10
                                                    refine two_ (i := 1) (j := 10) (Ni := some 37) (Nj := some 8) #[true, true, true, false, true, false, false, false, false, false, false, false, false] #[true, false, true, false, true, false, false, false, false, false, true, false, false] rfl rfl rfl rfl (two_of HT_.out (by kernel_rfl)) (by decide) (by decide) (fun K hK => ?_) (fun K hK => ?_)
                                                    · skip
                                                      refine GO Try.func27 #[.slice A0 l0.length c0] ?_
                                                      with_reducible refine (laws_toCellS.calls k _ _ l0 t232 _ ?side1 ?side2 A24.out).mono ?_
                                                      (case side1 => exact Ck (Kd.C_below HR0.out HG.out.1))
                                                      (case side2 => exact HC0.out)
                                                      rintro e w72 ⟨v233, rfl, ho0, hb⟩
                                                      refine ⟨_, rfl, ?_⟩
                                                      replace HG := Sat.mkR HG hb ho0
                                                      (try clear hb)
                                                      (try clear hb2)
                                                      (try clear hk)
                                                      (try clear hi)
                                                      (try clear ho0)
                                                      refine hK.out _ _ ⟨(blk_cell (Sat.B HG 2 rfl) 0).trans rfl, (blk_cell (Sat.B HG 2 rfl) 1).trans rfl, (blk_cell (Sat.B HG 1 rfl) 0).trans rfl, (blk_cell (Sat.B HG 1 rfl) 1).trans rfl⟩ (fun hHeld => ?_)
                                                      clear hK K
                                                      refine NM ?_
                                                      exact norm_ (by first | (simp only [putAll, Act.put, List.setIfInBounds_toArray, List.set_cons_zero, List.set_cons_succ]; done) | (simp only [putAll, Act.put, List.setIfInBounds_toArray, List.set_cons_zero, List.set_cons_succ]; rfl)) (hJ1 (v233) _ ⟨hHeld, Sat.pick HG [0, 2, 1]⟩)
                                                    · skip
                                                      refine box_step ?hg (N := 8) ?hd (cs := #[.int .i64 0, .slice none 0 0]) (t := 46) ?hr ?_; (case hd => rfl); (case hg => rfl); (case hr => first | (go_simp; done) | (go_simp; rfl))
                                                      intro gb248 hg w72 hbox hb
                                                      replace HG := Sat.box HG hg hbox hb
                                                      clear hb hbox hg
                                                      refine hK.out _ _ ⟨(blk_cell (Sat.B HG 2 rfl) 0).trans rfl, (blk_cell (Sat.B HG 2 rfl) 1).trans rfl, (blk_cell (Sat.B HG 1 rfl) 0).trans rfl, (blk_cell (Sat.B HG 1 rfl) 1).trans rfl⟩ (fun hHeld => ?_)
                                                      clear hK K
                                                      refine NM ?_
                                                      exact norm_ (by first | (simp only [putAll, Act.put, List.setIfInBounds_toArray, List.set_cons_zero, List.set_cons_succ]; done) | (simp only [putAll, Act.put, List.setIfInBounds_toArray, List.set_cons_zero, List.set_cons_succ]; rfl)) (hJ10 (gb248) _ ⟨hHeld, Sat.pick HG [2, 1, 0]⟩)
                                                  · skip
                                                    rintro gb248 w73 ⟨hS_, hG1_⟩
                                                    replace HG := hG1_
                                                    clear hG1_
                                                    have hHeld : w73.cell? ⟨gb227, 0, none⟩ = some (.int .i64 a1_0) ∧ w73.cell? ⟨gb227, 1, none⟩ = some (.slice A1_1 l1_1.length c1_1) ∧ w73.cell? ⟨gb228, 0, none⟩ = some (.int .i64 a2_0) ∧ w73.cell? ⟨gb228, 1, none⟩ = some (.slice A2_1 l2_1.length c2_1) := hS_
                                                    refine norm_ (a' := ?_) ?_ ?_
                                                    rotate_left
                                                    · simp only [putAll, Act.put, List.setIfInBounds_toArray, List.set_cons_zero, List.set_cons_succ]
                                                      rfl
                                                    refine ON 1 37 (fun K hK => ?_)
                                                    refine GO Try.func27 #[.slice A0 l0.length c0] ?_
                                                    with_reducible refine (laws_toCellS.calls k _ _ l0 t232 _ ?side1 ?side2 A24.out).mono ?_
                                                    (case side1 => exact Ck (Kd.C_below HR0.out HG.out.1))
                                                    (case side2 => exact HC0.out)
                                                    rintro e w74 ⟨v233, rfl, ho0, hb⟩
                                                    refine ⟨_, rfl, ?_⟩
                                                    replace HG := Sat.mkR HG hb ho0
                                                    (try clear hb)
                                                    (try clear hb2)
                                                    (try clear hk)
                                                    (try clear hi)
                                                    (try clear ho0)
                                                    refine hK.out _ _ ⟨(blk_cell (Sat.B HG 1 rfl) 0).trans rfl, (blk_cell (Sat.B HG 1 rfl) 1).trans rfl, (blk_cell (Sat.B HG 2 rfl) 0).trans rfl, (blk_cell (Sat.B HG 2 rfl) 1).trans rfl⟩ (fun hHeld => ?_)
                                                    clear hK K
                                                    refine NM ?_
                                                    exact norm_ (by first | (simp only [putAll, Act.put, List.setIfInBounds_toArray, List.set_cons_zero, List.set_cons_succ]; done) | (simp only [putAll, Act.put, List.setIfInBounds_toArray, List.set_cons_zero, List.set_cons_succ]; rfl)) (hJ1_10 (v233, gb248) _ ⟨hHeld, Sat.pick HG [0, 1, 2, 3]⟩)
                                                · skip
                                                  rintro v233 w73 ⟨hS_, hG1_⟩
                                                  replace HG := hG1_
                                                  clear hG1_
                                                  have hHeld : w73.cell? ⟨gb227, 0, none⟩ = some (.int .i64 a1_0) ∧ w73.cell? ⟨gb227, 1, none⟩ = some (.slice A1_1 l1_1.length c1_1) ∧ w73.cell? ⟨gb228, 0, none⟩ = some (.int .i64 a2_0) ∧ w73.cell? ⟨gb228, 1, none⟩ = some (.slice A2_1 l2_1.length c2_1) := hS_
                                                  refine norm_ (a' := ?_) ?_ ?_
                                                  rotate_left
                                                  · simp only [putAll, Act.put, List.setIfInBounds_toArray, List.set_cons_zero, List.set_cons_succ]
                                                    rfl
                                                  refine two_ (i := 3) (j := 10) (Ni := some 39) (Nj := some 8) #[true, true, true, true, true, false, false, false, false, false, false, false, false] #[true, true, true, false, true, false, false, false, false, false, true, false, false] rfl rfl rfl rfl (two_of HT_.out (by kernel_rfl)) (by decide) (by decide) (fun K hK => ?_) (fun K hK => ?_)
                                                  · skip
                                                    refine GO Try.func28 #[.agg #[.int .i64 a1_0, .slice A1_1 l1_1.length c1_1]] ?_
                                                    with_reducible refine (laws_toWeighting.calls k a1_0 _ _ l1_1 t235 t236 _ ?side1 ?side2 A25.out).mono ?_
                                                    (case side1 => exact Ck (Kd.C_below HR1_1.out HG.out.1))
                                                    (case side2 => exact HC1_1.out)
                                                    rintro e w74 ⟨v237, rfl, ho0, hb⟩
                                                    refine ⟨_, rfl, ?_⟩
                                                    replace HG := Sat.mkR HG hb ho0
                                                    (try clear hb)
                                                    (try clear hb2)
                                                    (try clear hk)
                                                    (try clear hi)
                                                    (try clear ho0)
                                                    refine hK.out _ _ ⟨(blk_cell (Sat.B HG 2 rfl) 0).trans rfl, (blk_cell (Sat.B HG 2 rfl) 1).trans rfl, (blk_cell (Sat.B HG 3 rfl) 0).trans rfl, (blk_cell (Sat.B HG 3 rfl) 1).trans rfl⟩ (fun hHeld => ?_)
                                                    clear hK K
                                                    refine NM ?_
                                                    exact norm_ (by first | (simp only [putAll, Act.put, List.setIfInBounds_toArray, List.set_cons_zero, List.set_cons_succ]; done) | (simp only [putAll, Act.put, List.setIfInBounds_toArray, List.set_cons_zero, List.set_cons_succ]; rfl)) (hJ1_3 (v233, v237) _ ⟨hHeld, Sat.pick HG [1, 0, 2, 3]⟩)
                                                  · skip
                                                    refine box_step ?hg (N := 8) ?hd (cs := #[.int .i64 0, .slice none 0 0]) (t := 46) ?hr ?_; (case hd => rfl); (case hg => rfl); (case hr => first | (go_simp; done) | (go_simp; rfl))
                                                    intro gb248 hg w74 hbox hb
                                                    replace HG := Sat.box HG hg hbox hb
                                                    clear hb hbox hg
                                                    refine hK.out _ _ ⟨(blk_cell (Sat.B HG 2 rfl) 0).trans rfl, (blk_cell (Sat.B HG 2 rfl) 1).trans rfl, (blk_cell (Sat.B HG 3 rfl) 0).trans rfl, (blk_cell (Sat.B HG 3 rfl) 1).trans rfl⟩ (fun hHeld => ?_)
                                                    clear hK K
                                                    refine NM ?_
                                                    exact norm_ (by first | (simp only [putAll, Act.put, List.setIfInBounds_toArray, List.set_cons_zero, List.set_cons_succ]; done) | (simp only [putAll, Act.put, List.setIfInBounds_toArray, List.set_cons_zero, List.set_cons_succ]; rfl)) (hJ1_10 (v233, gb248) _ ⟨hHeld, Sat.pick HG [1, 2, 3, 0]⟩)
                                              · skip
                                                rintro ⟨v233, gb248⟩ w74 ⟨hS_, hG1_⟩
                                                replace HG := hG1_
                                                clear hG1_
                                                have hHeld : w74.cell? ⟨gb227, 0, none⟩ = some (.int .i64 a1_0) ∧ w74.cell? ⟨gb227, 1, none⟩ = some (.slice A1_1 l1_1.length c1_1) ∧ w74.cell? ⟨gb228, 0, none⟩ = some (.int .i64 a2_0) ∧ w74.cell? ⟨gb228, 1, none⟩ = some (.slice A2_1 l2_1.length c2_1) := hS_
                                                refine norm_ (a' := ?_) ?_ ?_
                                                rotate_left
                                                · simp only [putAll, Act.put, List.setIfInBounds_toArray, List.set_cons_zero, List.set_cons_succ]
                                                  rfl
                                                refine ON 3 39 (fun K hK => ?_)
                                                refine GO Try.func28 #[.agg #[.int .i64 a1_0, .slice A1_1 l1_1.length c1_1]] ?_
                                                with_reducible refine (laws_toWeighting.calls k a1_0 _ _ l1_1 t235 t236 _ ?side1 ?side2 A25.out).mono ?_
                                                (case side1 => exact Ck (Kd.C_below HR1_1.out HG.out.1))
                                                (case side2 => exact HC1_1.out)
                                                rintro e w75 ⟨v237, rfl, ho0, hb⟩
                                                refine ⟨_, rfl, ?_⟩
                                                replace HG := Sat.mkR HG hb ho0
                                                (try clear hb)
                                                (try clear hb2)
                                                (try clear hk)
                                                (try clear hi)
                                                (try clear ho0)
                                                refine hK.out _ _ ⟨(blk_cell (Sat.B HG 2 rfl) 0).trans rfl, (blk_cell (Sat.B HG 2 rfl) 1).trans rfl, (blk_cell (Sat.B HG 3 rfl) 0).trans rfl, (blk_cell (Sat.B HG 3 rfl) 1).trans rfl⟩ (fun hHeld => ?_)
                                                clear hK K
                                                refine NM ?_
                                                exact norm_ (by first | (simp only [putAll, Act.put, List.setIfInBounds_toArray, List.set_cons_zero, List.set_cons_succ]; done) | (simp only [putAll, Act.put, List.setIfInBounds_toArray, List.set_cons_zero, List.set_cons_succ]; rfl)) (hJ1_3_10 (v233, v237, gb248) _ ⟨hHeld, Sat.pick HG [1, 0, 2, 3, 4]⟩)
                                            · skip
                                              rintro ⟨v233, v237⟩ w74 ⟨hS_, hG1_⟩
                                              replace HG := hG1_
                                              clear hG1_
                                              have hHeld : w74.cell? ⟨gb227, 0, none⟩ = some (.int .i64 a1_0) ∧ w74.cell? ⟨gb227, 1, none⟩ = some (.slice A1_1 l1_1.length c1_1) ∧ w74.cell? ⟨gb228, 0, none⟩ = some (.int .i64 a2_0) ∧ w74.cell? ⟨gb228, 1, none⟩ = some (.slice A2_1 l2_1.length c2_1) := hS_
                                              refine norm_ (a' := ?_) ?_ ?_
                                              rotate_left
                                              · simp only [putAll, Act.put, List.setIfInBounds_toArray, List.set_cons_zero, List.set_cons_succ]
                                                rfl
                                              refine two_ (i := 5) (j := 10) (Ni := some 41) (Nj := some 8) #[true, true, true, true, true, true, false, false, false, false, false, false, false] #[true, true, true, true, true, false, false, false, false, false, true, false, false] rfl rfl rfl rfl (two_of HT_.out (by kernel_rfl)) (by decide) (by decide) (fun K hK => ?_) (fun K hK => ?_)
                                              · skip
                                                refine GO Try.func28 #[.agg #[.int .i64 a2_0, .slice A2_1 l2_1.length c2_1]] ?_
                                                with_reducible refine (laws_toWeighting.calls k a2_0 _ _ l2_1 t239 t240 _ ?side1 ?side2 A26.out).mono ?_
                                                (case side1 => exact Ck (Kd.C_below HR2_1.out HG.out.1))
                                                (case side2 => exact HC2_1.out)
                                                rintro e w75 ⟨v241, rfl, ho0, hb⟩
                                                refine ⟨_, rfl, ?_⟩
                                                replace HG := Sat.mkR HG hb ho0
                                                (try clear hb)
                                                (try clear hb2)
                                                (try clear hk)
                                                (try clear hi)
                                                (try clear ho0)
                                                refine hK.out _ _ ⟨(blk_cell (Sat.B HG 3 rfl) 0).trans rfl, (blk_cell (Sat.B HG 3 rfl) 1).trans rfl, (blk_cell (Sat.B HG 4 rfl) 0).trans rfl, (blk_cell (Sat.B HG 4 rfl) 1).trans rfl⟩ (fun hHeld => ?_)
                                                clear hK K
                                                refine NM ?_
                                                exact norm_ (by first | (simp only [putAll, Act.put, List.setIfInBounds_toArray, List.set_cons_zero, List.set_cons_succ]; done) | (simp only [putAll, Act.put, List.setIfInBounds_toArray, List.set_cons_zero, List.set_cons_succ]; rfl)) (hJ1_3_5 (v233, v237, v241) _ ⟨hHeld, Sat.pick HG [1, 2, 0, 3, 4]⟩)
                                              · skip
                                                refine box_step ?hg (N := 8) ?hd (cs := #[.int .i64 0, .slice none 0 0]) (t := 46) ?hr ?_; (case hd => rfl); (case hg => rfl); (case hr => first | (go_simp; done) | (go_simp; rfl))
                                                intro gb248 hg w75 hbox hb
                                                replace HG := Sat.box HG hg hbox hb
                                                clear hb hbox hg
                                                refine hK.out _ _ ⟨(blk_cell (Sat.B HG 3 rfl) 0).trans rfl, (blk_cell (Sat.B HG 3 rfl) 1).trans rfl, (blk_cell (Sat.B HG 4 rfl) 0).trans rfl, (blk_cell (Sat.B HG 4 rfl) 1).trans rfl⟩ (fun hHeld => ?_)
                                                clear hK K
                                                refine NM ?_
                                                exact norm_ (by first | (simp only [putAll, Act.put, List.setIfInBounds_toArray, List.set_cons_zero, List.set_cons_succ]; done) | (simp only [putAll, Act.put, List.setIfInBounds_toArray, List.set_cons_zero, List.set_cons_succ]; rfl)) (hJ1_3_10 (v233, v237, gb248) _ ⟨hHeld, Sat.pick HG [1, 2, 3, 4, 0]⟩)
                                          · skip
                                            rintro ⟨v233, v237, gb248⟩ w75 ⟨hS_, hG1_⟩
                                            replace HG := hG1_
                                            clear hG1_
                                            have hHeld : w75.cell? ⟨gb227, 0, none⟩ = some (.int .i64 a1_0) ∧ w75.cell? ⟨gb227, 1, none⟩ = some (.slice A1_1 l1_1.length c1_1) ∧ w75.cell? ⟨gb228, 0, none⟩ = some (.int .i64 a2_0) ∧ w75.cell? ⟨gb228, 1, none⟩ = some (.slice A2_1 l2_1.length c2_1) := hS_
                                            refine norm_ (a' := ?_) ?_ ?_
                                            rotate_left
                                            · simp only [putAll, Act.put, List.setIfInBounds_toArray, List.set_cons_zero, List.set_cons_succ]
                                              rfl
                                            refine ON 5 41 (fun K hK => ?_)
                                            refine GO Try.func28 #[.agg #[.int .i64 a2_0, .slice A2_1 l2_1.length c2_1]] ?_
                                            with_reducible refine (laws_toWeighting.calls k a2_0 _ _ l2_1 t239 t240 _ ?side1 ?side2 A26.out).mono ?_
                                            (case side1 => exact Ck (Kd.C_below HR2_1.out HG.out.1))
                                            (case side2 => exact HC2_1.out)
                                            rintro e w76 ⟨v241, rfl, ho0, hb⟩
                                            refine ⟨_, rfl, ?_⟩
                                            replace HG := Sat.mkR HG hb ho0
                                            (try clear hb)
                                            (try clear hb2)
                                            (try clear hk)
                                            (try clear hi)
                                            (try clear ho0)
                                            refine hK.out _ _ ⟨(blk_cell (Sat.B HG 3 rfl) 0).trans rfl, (blk_cell (Sat.B HG 3 rfl) 1).trans rfl, (blk_cell (Sat.B HG 4 rfl) 0).trans rfl, (blk_cell (Sat.B HG 4 rfl) 1).trans rfl⟩ (fun hHeld => ?_)
                                            clear hK K
                                            refine NM ?_
                                            exact norm_ (by first | (simp only [putAll, Act.put, List.setIfInBounds_toArray, List.set_cons_zero, List.set_cons_succ]; done) | (simp only [putAll, Act.put, List.setIfInBounds_toArray, List.set_cons_zero, List.set_cons_succ]; rfl)) (hJ1_3_5_10 (v233, v237, v241, gb248) _ ⟨hHeld, Sat.pick HG [1, 2, 0, 3, 4, 5]⟩)
                                        · skip
                                          rintro ⟨v233, v237, v241⟩ w75 ⟨hS_, hG1_⟩
                                          replace HG := hG1_
                                          clear hG1_
                                          have hHeld : w75.cell? ⟨gb227, 0, none⟩ = some (.int .i64 a1_0) ∧ w75.cell? ⟨gb227, 1, none⟩ = some (.slice A1_1 l1_1.length c1_1) ∧ w75.cell? ⟨gb228, 0, none⟩ = some (.int .i64 a2_0) ∧ w75.cell? ⟨gb228, 1, none⟩ = some (.slice A2_1 l2_1.length c2_1) := hS_
                                          obtain ⟨Ao76, co76, eo76⟩ := Kd.R_slice (Sat.R HG 0 rfl)
                                          (first | subst eo76 | (injection eo76 with f1_ f2_ f3_; have f4_ := f1_.symm; have f5_ := f3_.symm; clear f1_ f2_ f3_; subst f4_; subst f5_))
                                          obtain ⟨Ao77, co77, eo77⟩ := Kd.R_slice (Sat.R HG 1 rfl)
                                          (first | subst eo77 | (injection eo77 with f1_ f2_ f3_; have f4_ := f1_.symm; have f5_ := f3_.symm; clear f1_ f2_ f3_; subst f4_; subst f5_))
                                          obtain ⟨Ao78, co78, eo78⟩ := Kd.R_slice (Sat.R HG 2 rfl)
                                          (first | subst eo78 | (injection eo78 with f1_ f2_ f3_; have f4_ := f1_.symm; have f5_ := f3_.symm; clear f1_ f2_ f3_; subst f4_; subst f5_))
                                          refine norm_ (a' := ?_) ?_ ?_
                                          rotate_left
                                          · simp only [putAll, Act.put, List.setIfInBounds_toArray, List.set_cons_zero, List.set_cons_succ]
                                            rfl
                                          refine two_ (i := 6) (j := 10) (Ni := some 42) (Nj := some 8) #[true, true, true, true, true, true, true, false, false, false, false, false, false] #[true, true, true, true, true, true, false, false, false, false, true, false, false] rfl rfl rfl rfl (two_of HT_.out (by kernel_rfl)) (by decide) (by decide) (fun K hK => ?_) (fun K hK => ?_)
                                          · skip
                                            refine GO Try.func39 #[.slice Ao76 t232.length co76, .agg #[.int .i64 t235, .slice Ao77 t236.length co77], .agg #[.int .i64 t239, .slice Ao78 t240.length co78]] ?_
                                            with_reducible refine (spec_AddWeightings.calls k _ _ t232 t235 _ _ t236 t239 _ _ t240 t243 t244 t247 _ ?side1 ?side2 ?side3 ?side4 ?side5 ?side6 A27.out).mono ?_
                                            (case side1 => exact Ck (Kd.R_reads' (Sat.R HG 0 rfl)).2.2)
                                            (case side2 => exact (Kd.R_reads' (Sat.R HG 0 rfl)).2.1)
                                            (case side3 => exact Ck (Kd.R_reads' (Sat.R HG 1 rfl)).2.2)
                                            (case side4 => exact (Kd.R_reads' (Sat.R HG 1 rfl)).2.1)
                                            (case side5 => exact Ck (Kd.R_reads' (Sat.R HG 2 rfl)).2.2)
                                            (case side6 => exact (Kd.R_reads' (Sat.R HG 2 rfl)).2.1)
                                            rintro e w79 ⟨v245, rfl, ho0, hb⟩
                                            refine ⟨_, rfl, ?_⟩
                                            replace HG := Sat.mkR HG hb ho0
                                            (try clear hb)
                                            (try clear hb2)
                                            (try clear hk)
                                            (try clear hi)
                                            (try clear ho0)
                                            refine hK.out _ _ ⟨(blk_cell (Sat.B HG 4 rfl) 0).trans rfl, (blk_cell (Sat.B HG 4 rfl) 1).trans rfl, (blk_cell (Sat.B HG 5 rfl) 0).trans rfl, (blk_cell (Sat.B HG 5 rfl) 1).trans rfl⟩ (fun hHeld => ?_)
                                            clear hK K
                                            refine NM ?_
                                            refine PU 7 35 ?_
                                            refine PU 8 43 ?_
                                            refine PU 9 44 ?_
                                            exact norm_ (by first | (simp only [putAll, Act.put, List.setIfInBounds_toArray, List.set_cons_zero, List.set_cons_succ]; done) | (simp only [putAll, Act.put, List.setIfInBounds_toArray, List.set_cons_zero, List.set_cons_succ]; rfl)) (hJ1_3_5_6 (.slice Ao76 t232.length co76, .slice Ao77 t236.length co77, .slice Ao78 t240.length co78, v245) _ ⟨hHeld, Sat.pick HG [1, 2, 3, 0, 4, 5]⟩)
                                          · skip
                                            refine box_step ?hg (N := 8) ?hd (cs := #[.int .i64 0, .slice none 0 0]) (t := 46) ?hr ?_; (case hd => rfl); (case hg => rfl); (case hr => first | (go_simp; done) | (go_simp; rfl))
                                            intro gb248 hg w76 hbox hb
                                            replace HG := Sat.box HG hg hbox hb
                                            clear hb hbox hg
                                            refine hK.out _ _ ⟨(blk_cell (Sat.B HG 4 rfl) 0).trans rfl, (blk_cell (Sat.B HG 4 rfl) 1).trans rfl, (blk_cell (Sat.B HG 5 rfl) 0).trans rfl, (blk_cell (Sat.B HG 5 rfl) 1).trans rfl⟩ (fun hHeld => ?_)
                                            clear hK K
                                            refine NM ?_
                                            exact norm_ (by first | (simp only [putAll, Act.put, List.setIfInBounds_toArray, List.set_cons_zero, List.set_cons_succ]; done) | (simp only [putAll, Act.put, List.setIfInBounds_toArray, List.set_cons_zero, List.set_cons_succ]; rfl)) (hJ1_3_5_10 (.slice Ao76 t232.length co76, .slice Ao77 t236.length co77, .slice Ao78 t240.length co78, gb248) _ ⟨hHeld, Sat.pick HG [1, 2, 3, 4, 5, 0]⟩)
                                      · skip
                                        rintro ⟨v233, v237, v241, gb248⟩ w76 ⟨hS_, hG1_⟩
                                        replace HG := hG1_
                                        clear hG1_
                                        have hHeld : w76.cell? ⟨gb227, 0, none⟩ = some (.int .i64 a1_0) ∧ w76.cell? ⟨gb227, 1, none⟩ = some (.slice A1_1 l1_1.length c1_1) ∧ w76.cell? ⟨gb228, 0, none⟩ = some (.int .i64 a2_0) ∧ w76.cell? ⟨gb228, 1, none⟩ = some (.slice A2_1 l2_1.length c2_1) := hS_
                                        obtain ⟨Ao77, co77, eo77⟩ := Kd.R_slice (Sat.R HG 0 rfl)
                                        (first | subst eo77 | (injection eo77 with f1_ f2_ f3_; have f4_ := f1_.symm; have f5_ := f3_.symm; clear f1_ f2_ f3_; subst f4_; subst f5_))
                                        obtain ⟨Ao78, co78, eo78⟩ := Kd.R_slice (Sat.R HG 1 rfl)
                                        (first | subst eo78 | (injection eo78 with f1_ f2_ f3_; have f4_ := f1_.symm; have f5_ := f3_.symm; clear f1_ f2_ f3_; subst f4_; subst f5_))
                                        obtain ⟨Ao79, co79, eo79⟩ := Kd.R_slice (Sat.R HG 2 rfl)
                                        (first | subst eo79 | (injection eo79 with f1_ f2_ f3_; have f4_ := f1_.symm; have f5_ := f3_.symm; clear f1_ f2_ f3_; subst f4_; subst f5_))
                                        refine norm_ (a' := ?_) ?_ ?_
                                        rotate_left
                                        · simp only [putAll, Act.put, List.setIfInBounds_toArray, List.set_cons_zero, List.set_cons_succ]
                                          rfl
                                        refine ON 6 42 (fun K hK => ?_)
                                        refine GO Try.func39 #[.slice Ao77 t232.length co77, .agg #[.int .i64 t235, .slice Ao78 t236.length co78], .agg #[.int .i64 t239, .slice Ao79 t240.length co79]] ?_
                                        with_reducible refine (spec_AddWeightings.calls k _ _ t232 t235 _ _ t236 t239 _ _ t240 t243 t244 t247 _ ?side1 ?side2 ?side3 ?side4 ?side5 ?side6 A27.out).mono ?_
                                        (case side1 => exact Ck (Kd.R_reads' (Sat.R HG 0 rfl)).2.2)
                                        (case side2 => exact (Kd.R_reads' (Sat.R HG 0 rfl)).2.1)
                                        (case side3 => exact Ck (Kd.R_reads' (Sat.R HG 1 rfl)).2.2)
                                        (case side4 => exact (Kd.R_reads' (Sat.R HG 1 rfl)).2.1)
                                        (case side5 => exact Ck (Kd.R_reads' (Sat.R HG 2 rfl)).2.2)
                                        (case side6 => exact (Kd.R_reads' (Sat.R HG 2 rfl)).2.1)
                                        rintro e w80 ⟨v245, rfl, ho0, hb⟩
                                        refine ⟨_, rfl, ?_⟩
                                        replace HG := Sat.mkR HG hb ho0
                                        (try clear hb)
                                        (try clear hb2)
                                        (try clear hk)
                                        (try clear hi)
                                        (try clear ho0)
                                        refine hK.out _ _ ⟨(blk_cell (Sat.B HG 4 rfl) 0).trans rfl, (blk_cell (Sat.B HG 4 rfl) 1).trans rfl, (blk_cell (Sat.B HG 5 rfl) 0).trans rfl, (blk_cell (Sat.B HG 5 rfl) 1).trans rfl⟩ (fun hHeld => ?_)
                                        clear hK K
                                        refine NM ?_
                                        refine PU 7 35 ?_
                                        refine PU 8 43 ?_
                                        refine PU 9 44 ?_
                                        exact norm_ (by first | (simp only [putAll, Act.put, List.setIfInBounds_toArray, List.set_cons_zero, List.set_cons_succ]; done) | (simp only [putAll, Act.put, List.setIfInBounds_toArray, List.set_cons_zero, List.set_cons_succ]; rfl)) (hJ1_3_5_6_10 (.slice Ao77 t232.length co77, .slice Ao78 t236.length co78, .slice Ao79 t240.length co79, v245, gb248) _ ⟨hHeld, Sat.pick HG [1, 2, 3, 0, 4, 5, 6]⟩)
                                    · skip
                                      rintro ⟨v233, v237, v241, v245⟩ w79 ⟨hS_, hG1_⟩
                                      replace HG := hG1_
                                      clear hG1_
                                      have hHeld : w79.cell? ⟨gb227, 0, none⟩ = some (.int .i64 a1_0) ∧ w79.cell? ⟨gb227, 1, none⟩ = some (.slice A1_1 l1_1.length c1_1) ∧ w79.cell? ⟨gb228, 0, none⟩ = some (.int .i64 a2_0) ∧ w79.cell? ⟨gb228, 1, none⟩ = some (.slice A2_1 l2_1.length c2_1) := hS_
                                      refine norm_ (a' := ?_) ?_ ?_
                                      rotate_left
                                      · simp only [putAll, Act.put, List.setIfInBounds_toArray, List.set_cons_zero, List.set_cons_succ]
                                        rfl
                                      refine ON 10 8 (fun K hK => ?_)
                                      refine box_step ?hg (N := 8) ?hd (cs := #[.int .i64 0, .slice none 0 0]) (t := 46) ?hr ?_; (case hd => rfl); (case hg => rfl); (case hr => first | (go_simp; done) | (go_simp; rfl))
                                      intro gb248 hg w80 hbox hb
                                      replace HG := Sat.box HG hg hbox hb
                                      clear hb hbox hg
                                      refine hK.out _ _ ⟨(blk_cell (Sat.B HG 5 rfl) 0).trans rfl, (blk_cell (Sat.B HG 5 rfl) 1).trans rfl, (blk_cell (Sat.B HG 6 rfl) 0).trans rfl, (blk_cell (Sat.B HG 6 rfl) 1).trans rfl⟩ (fun hHeld => ?_)
                                      clear hK K
                                      refine NM ?_
                                      exact norm_ (by first | (simp only [putAll, Act.put, List.setIfInBounds_toArray, List.set_cons_zero, List.set_cons_succ]; done) | (simp only [putAll, Act.put, List.setIfInBounds_toArray, List.set_cons_zero, List.set_cons_succ]; rfl)) (hJ1_3_5_6_10 (v233, v237, v241, v245, gb248) _ ⟨hHeld, Sat.pick HG [1, 2, 3, 4, 5, 6, 0]⟩)
                                  rintro ⟨v233, v237, v241, v245, gb248⟩ w80 ⟨hS_, hG1_⟩
                                  replace HG := hG1_
                                  clear hG1_
                                  have hHeld : w80.cell? ⟨gb227, 0, none⟩ = some (.int .i64 a1_0) ∧ w80.cell? ⟨gb227, 1, none⟩ = some (.slice A1_1 l1_1.length c1_1) ∧ w80.cell? ⟨gb228, 0, none⟩ = some (.int .i64 a2_0) ∧ w80.cell? ⟨gb228, 1, none⟩ = some (.slice A2_1 l2_1.length c2_1) := hS_
                                  obtain ⟨Ao82, co82, eo82⟩ := Kd.R_slice (Sat.R HG 3 rfl)
                                  (first | subst eo82 | (injection eo82 with f1_ f2_ f3_; have f4_ := f1_.symm; have f5_ := f3_.symm; clear f1_ f2_ f3_; subst f4_; subst f5_))
                                  refine norm_ (a' := ?_) ?_ ?_
                                  rotate_left
                                  · simp only [putAll, Act.put, List.setIfInBounds_toArray, List.set_cons_zero, List.set_cons_succ]
                                    rfl
                                  refine one_ (i := 11) (N := none) #[true, true, true, true, true, true, true, true, true, true, true, true, false] rfl rfl (one_of HT_.out (by kernel_rfl)) (by decide) (fun K hK => ?_)
                                  have hs81 : w80.cell? ⟨gb248, 0, none⟩ = some (.int .i64 0) := (blk_cell (Sat.B HG 6 rfl) 0).trans rfl
                                  have hfs81 := blk_frozen (Sat.B HG 6 rfl) 0
                                  have hns81_0 := (Sat.ne HG 4 6 (by decide) rfl rfl)
                                  have hns81_1 := (Sat.ne HG 5 6 (by decide) rfl rfl)
                                  have hms81_0 := (Sat.ne HG 6 4 (by decide) rfl rfl)
                                  have hms81_1 := (Sat.ne HG 6 5 (by decide) rfl rfl)
                                  have hs83 : w80.cell? ⟨gb248, 1, none⟩ = some (.slice none 0 0) := (blk_cell (Sat.B HG 6 rfl) 1).trans rfl
                                  have hfs83 := blk_frozen (Sat.B HG 6 rfl) 1
                                  have hns83_0 := (Sat.ne HG 4 6 (by decide) rfl rfl)
                                  have hns83_1 := (Sat.ne HG 5 6 (by decide) rfl rfl)
                                  have hms83_0 := (Sat.ne HG 6 4 (by decide) rfl rfl)
                                  have hms83_1 := (Sat.ne HG 6 5 (by decide) rfl rfl)
                                  refine skip_ (w1 := ?_) (by rfl) rfl ?_ ?_
                                  rotate_left
                                  · go_simp
                                    rfl
                                  refine hK.out _ _ ⟨((cell_far (p := ⟨gb248, _, none⟩) (Sat.ne HG 4 6 (by decide) rfl rfl) _).trans (((cell_far (p := ⟨gb248, _, none⟩) (Sat.ne HG 4 6 (by decide) rfl rfl) _).trans (hHeld.1)))), ((cell_far (p := ⟨gb248, _, none⟩) (Sat.ne HG 4 6 (by decide) rfl rfl) _).trans (((cell_far (p := ⟨gb248, _, none⟩) (Sat.ne HG 4 6 (by decide) rfl rfl) _).trans (hHeld.2.1)))), ((cell_far (p := ⟨gb248, _, none⟩) (Sat.ne HG 5 6 (by decide) rfl rfl) _).trans (((cell_far (p := ⟨gb248, _, none⟩) (Sat.ne HG 5 6 (by decide) rfl rfl) _).trans (hHeld.2.2.1)))), ((cell_far (p := ⟨gb248, _, none⟩) (Sat.ne HG 5 6 (by decide) rfl rfl) _).trans (((cell_far (p := ⟨gb248, _, none⟩) (Sat.ne HG 5 6 (by decide) rfl rfl) _).trans (hHeld.2.2.2))))⟩ (fun hHeld => ?_)
                                  clear hK K
                                  refine PU 12 9 ?_
                                  refine done_ (done_of HT_.out (by kernel_rfl)) ?_
                                  try go_wp2_with (((with_reducible refine gC 27 ?_); replace HG := Sat.put HG 6 0 (.int .i64 t243) #[.int .i64 t243, .slice none 0 0]; replace HG := Sat.put HG 6 1 (.slice Ao82 t244.length co82) #[.int .i64 t243, .slice Ao82 t244.length co82]; refine GL (some 46) Try.func27 #[.slice A0 l0.length c0] ?_; (with_reducible refine (laws_toCellS.calls k _ _ l0 t249 _ ?side1 ?side2 A28.out).mono ?_); (case side1 => exact Kd.C_below HR0.out (Bw HG)); (case side2 => exact HC0.out); rintro e w84 ⟨v250, rfl, ho0, hb⟩; refine ⟨_, rfl, ?_⟩; replace HG := Sat.mkR HG hb ho0; (try clear hb); (try clear hb2); (try clear hk); (try clear hi); (try clear ho0); have hnb85 := (Sat.ne HG 5 7 (by decide) rfl rfl); have hnc85 := (Sat.ne HG 7 5 (by decide) rfl rfl); have hcz86_0 : w84.cell? ⟨gb227, 0, none⟩ = some (.int .i64 a1_0) := (blk_cell (Sat.B HG 5 rfl) 0).trans rfl; have hcz86_1 : w84.cell? ⟨gb227, 1, none⟩ = some (.slice A1_1 l1_1.length c1_1) := (blk_cell (Sat.B HG 5 rfl) 1).trans rfl; have hfz86_0 := blk_frozen (Sat.B HG 5 rfl) 0; have hfz86_1 := blk_frozen (Sat.B HG 5 rfl) 1); go_wp2_with (((with_reducible refine gC 28 ?_); refine GL (some 48) Try.func28 #[.agg #[.int .i64 a1_0, .slice A1_1 l1_1.length c1_1]] ?_; (with_reducible refine (laws_toWeighting.calls k a1_0 _ _ l1_1 t252 t253 _ ?side1 ?side2 A29.out).mono ?_); (case side1 => exact Ck (Kd.C_below HR1_1.out HG.out.1)); (case side2 => exact HC1_1.out); rintro e w87 ⟨v254, rfl, ho0, hb⟩; refine ⟨_, rfl, ?_⟩; replace HG := Sat.mkR HG hb ho0; (try clear hb); (try clear hb2); (try clear hk); (try clear hi); (try clear ho0)); go_wp2_with (((with_reducible refine gD 11 ?_); refine BX #[.int .i64 0, .slice none 0 0] 46 ?_; intro gb256 hg w88 hbox hb; replace HG := Sat.box HG hg hbox hb; clear hb hbox hg; have hnb89 := (Sat.ne HG 0 7 (by decide) rfl rfl); have hnc89 := (Sat.ne HG 7 0 (by decide) rfl rfl); have hnb90 := (Sat.ne HG 0 8 (by decide) rfl rfl); have hnc90 := (Sat.ne HG 8 0 (by decide) rfl rfl); have hnb91 := (Sat.ne HG 0 9 (by decide) rfl rfl); have hnc91 := (Sat.ne HG 9 0 (by decide) rfl rfl); have hcz92_0 : w88.cell? ⟨gb256, 0, none⟩ = some (.int .i64 0) := (blk_cell (Sat.B HG 0 rfl) 0).trans rfl; have hcz92_1 : w88.cell? ⟨gb256, 1, none⟩ = some (.slice none 0 0) := (blk_cell (Sat.B HG 0 rfl) 1).trans rfl; have hfz92_0 := blk_frozen (Sat.B HG 0 rfl) 0; have hfz92_1 := blk_frozen (Sat.B HG 0 rfl) 1; obtain ⟨Ao93, co93, eo93⟩ := Kd.R_slice (Sat.R HG 1 rfl); subst eo93; have hnb94 := (Sat.ne HG 8 9 (by decide) rfl rfl); have hnc94 := (Sat.ne HG 9 8 (by decide) rfl rfl); have hcz95_0 : w88.cell? ⟨gb228, 0, none⟩ = some (.int .i64 a2_0) := (blk_cell (Sat.B HG 8 rfl) 0).trans rfl; have hcz95_1 : w88.cell? ⟨gb228, 1, none⟩ = some (.slice A2_1 l2_1.length c2_1) := (blk_cell (Sat.B HG 8 rfl) 1).trans rfl; have hfz95_0 := blk_frozen (Sat.B HG 8 rfl) 0; have hfz95_1 := blk_frozen (Sat.B HG 8 rfl) 1); go_wp2_with (((with_reducible refine gC 28 ?_); replace HG := Sat.put HG 0 0 (.int .i64 t252) #[.int .i64 t252, .slice none 0 0]; replace HG := Sat.put HG 0 1 (.slice Ao93 t253.length co93) #[.int .i64 t252, .slice Ao93 t253.length co93]; refine GL (some 50) Try.func28 #[.agg #[.int .i64 a2_0, .slice A2_1 l2_1.length c2_1]] ?_; (with_reducible refine (laws_toWeighting.calls k a2_0 _ _ l2_1 t257 t258 _ ?side1 ?side2 A30.out).mono ?_); (case side1 => exact Kd.C_below HR2_1.out (Bw HG)); (case side2 => exact HC2_1.out); rintro e w96 ⟨v259, rfl, ho0, hb⟩; refine ⟨_, rfl, ?_⟩; replace HG := Sat.mkR HG hb ho0; (try clear hb); (try clear hb2); (try clear hk); (try clear hi); (try clear ho0)); go_wp2_with (((with_reducible refine gD 12 ?_); refine BX #[.int .i64 0, .slice none 0 0] 46 ?_; intro gb261 hg w97 hbox hb; replace HG := Sat.box HG hg hbox hb; clear hb hbox hg; have hnb98 := (Sat.ne HG 0 9 (by decide) rfl rfl); have hnc98 := (Sat.ne HG 9 0 (by decide) rfl rfl); have hnb99 := (Sat.ne HG 0 10 (by decide) rfl rfl); have hnc99 := (Sat.ne HG 10 0 (by decide) rfl rfl); have hnb100 := (Sat.ne HG 0 11 (by decide) rfl rfl); have hnc100 := (Sat.ne HG 11 0 (by decide) rfl rfl); have hnb101 := (Sat.ne HG 0 2 (by decide) rfl rfl); have hnc101 := (Sat.ne HG 2 0 (by decide) rfl rfl); have hcz102_0 : w97.cell? ⟨gb261, 0, none⟩ = some (.int .i64 0) := (blk_cell (Sat.B HG 0 rfl) 0).trans rfl; have hcz102_1 : w97.cell? ⟨gb261, 1, none⟩ = some (.slice none 0 0) := (blk_cell (Sat.B HG 0 rfl) 1).trans rfl; have hfz102_0 := blk_frozen (Sat.B HG 0 rfl) 0; have hfz102_1 := blk_frozen (Sat.B HG 0 rfl) 1; obtain ⟨Ao103, co103, eo103⟩ := Kd.R_slice (Sat.R HG 1 rfl); subst eo103; have hcz104_0 : w97.cell? ⟨gb256, 0, none⟩ = some (.int .i64 t252) := (blk_cell (Sat.B HG 2 rfl) 0).trans rfl; have hcz104_1 : w97.cell? ⟨gb256, 1, none⟩ = some (.slice Ao93 t253.length co93) := (blk_cell (Sat.B HG 2 rfl) 1).trans rfl; have hfz104_0 := blk_frozen (Sat.B HG 2 rfl) 0; have hfz104_1 := blk_frozen (Sat.B HG 2 rfl) 1; obtain ⟨Ao105, co105, eo105⟩ := Kd.R_slice (Sat.R HG 4 rfl); subst eo105); go_wp2_with (((with_reducible refine gC 40 ?_); replace HG := Sat.put HG 0 0 (.int .i64 t257) #[.int .i64 t257, .slice none 0 0]; replace HG := Sat.put HG 0 1 (.slice Ao103 t258.length co103) #[.int .i64 t257, .slice Ao103 t258.length co103]; refine GL (some 55) Try.func40 #[.slice Ao105 t249.length co105, .agg #[.int .i64 t252, .slice Ao93 t253.length co93], .agg #[.int .i64 t257, .slice Ao103 t258.length co103]] ?_; (with_reducible refine (impl_AddWeightings.calls k _ _ t249 t252 _ _ t253 t257 _ _ t258 t262 t263 t266 _ ?side1 ?side2 ?side3 ?side4 ?side5 ?side6 A31.out).mono ?_); (case side1 => exact Ck (Kd.R_reads' (Sat.R HG 4 rfl)).2.2); (case side2 => exact (Kd.R_reads' (Sat.R HG 4 rfl)).2.1); (case side3 => exact Ck (Kd.R_reads' (Sat.R HG 3 rfl)).2.2); (case side4 => exact (Kd.R_reads' (Sat.R HG 3 rfl)).2.1); (case side5 => exact Ck (Kd.R_reads' (Sat.R HG 1 rfl)).2.2); (case side6 => exact (Kd.R_reads' (Sat.R HG 1 rfl)).2.1); rintro e w106 ⟨v264, rfl, ho0, hb⟩; refine ⟨_, rfl, ?_⟩; replace HG := Sat.mkR HG hb ho0; (try clear hb); (try clear hb2); (try clear hk); (try clear hi); (try clear ho0)); go_wp2_with (((with_reducible refine gD 13 ?_); refine BX #[.int .i64 0, .slice none 0 0] 46 ?_; intro gb267 hg w107 hbox hb; replace HG := Sat.box HG hg hbox hb; clear hb hbox hg; have hnb108 := (Sat.ne HG 0 11 (by decide) rfl rfl); have hnc108 := (Sat.ne HG 11 0 (by decide) rfl rfl); have hnb109 := (Sat.ne HG 0 12 (by decide) rfl rfl); have hnc109 := (Sat.ne HG 12 0 (by decide) rfl rfl); have hnb110 := (Sat.ne HG 0 13 (by decide) rfl rfl); have hnc110 := (Sat.ne HG 13 0 (by decide) rfl rfl); have hnb111 := (Sat.ne HG 0 4 (by decide) rfl rfl); have hnc111 := (Sat.ne HG 4 0 (by decide) rfl rfl); have hnb112 := (Sat.ne HG 0 2 (by decide) rfl rfl); have hnc112 := (Sat.ne HG 2 0 (by decide) rfl rfl); have hcz113_0 : w107.cell? ⟨gb267, 0, none⟩ = some (.int .i64 0) := (blk_cell (Sat.B HG 0 rfl) 0).trans rfl; have hcz113_1 : w107.cell? ⟨gb267, 1, none⟩ = some (.slice none 0 0) := (blk_cell (Sat.B HG 0 rfl) 1).trans rfl; have hfz113_0 := blk_frozen (Sat.B HG 0 rfl) 0; have hfz113_1 := blk_frozen (Sat.B HG 0 rfl) 1; obtain ⟨Ao114, co114, eo114⟩ := Kd.R_slice (Sat.R HG 1 rfl); subst eo114; have hcz115_0 : w107.cell? ⟨gb248, 0, none⟩ = some (.int .i64 t243) := (blk_cell (Sat.B HG 13 rfl) 0).trans rfl; have hcz115_1 : w107.cell? ⟨gb248, 1, none⟩ = some (.slice Ao82 t244.length co82) := (blk_cell (Sat.B HG 13 rfl) 1).trans rfl; have hfz115_0 := blk_frozen (Sat.B HG 13 rfl) 0; have hfz115_1 := blk_frozen (Sat.B HG 13 rfl) 1); go_wp2_with (((with_reducible refine gC 31 ?_); replace HG := Sat.put HG 0 0 (.int .i64 t262) #[.int .i64 t262, .slice none 0 0]; replace HG := Sat.put HG 0 1 (.slice Ao114 t263.length co114) #[.int .i64 t262, .slice Ao114 t263.length co114]; refine GL (some 60) Try.func31 #[.agg #[.int .i64 t262, .slice Ao114 t263.length co114], .agg #[.int .i64 t243, .slice Ao82 t244.length co82]] ?_; (with_reducible refine (laws_eqWeighting.calls k t262 _ _ t263 t243 _ _ t244 true _ ?side1 ?side2 ?side3 ?side4 A32.out).mono ?_); (case side1 => exact Ck (Kd.R_reads' (Sat.R HG 1 rfl)).2.2); (case side2 => exact (Kd.R_reads' (Sat.R HG 1 rfl)).2.1); (case side3 => exact Ck (Kd.R_reads' (Sat.R HG 10 rfl)).2.2); (case side4 => exact (Kd.R_reads' (Sat.R HG 10 rfl)).2.1); rintro e w116 ⟨rfl, hb⟩; refine ⟨_, rfl, ?_⟩; replace HG := Sat.rd HG hb; (try clear hb); (try clear hb2); (try clear hk); (try clear hi)); go_wp2_with (((with_reducible refine gC 27 ?_); refine GL (some 69) Try.func27 #[.slice A0 l0.length c0] ?_; (with_reducible refine (laws_toCellS.calls k _ _ l0 t269 _ ?side1 ?side2 A35.out).mono ?_); (case side1 => exact Ck (Kd.C_below HR0.out HG.out.1)); (case side2 => exact HC0.out); rintro e w117 ⟨v270, rfl, ho0, hb⟩; refine ⟨_, rfl, ?_⟩; replace HG := Sat.mkR HG hb ho0; (try clear hb); (try clear hb2); (try clear hk); (try clear hi); (try clear ho0); obtain ⟨Ao118, co118, eo118⟩ := Kd.R_slice (Sat.R HG 0 rfl); subst eo118); go_wp2_with (((with_reducible refine gC 30 ?_); refine GL (some 70) Try.func30 #[.slice Ao105 t249.length co105, .slice Ao118 t269.length co118] ?_; (with_reducible refine (laws_eqCellS.calls k _ _ t249 _ _ t269 true _ ?side1 ?side2 ?side3 ?side4 A36.out).mono ?_); (case side1 => exact Ck (Kd.R_reads' (Sat.R HG 7 rfl)).2.2); (case side2 => exact (Kd.R_reads' (Sat.R HG 7 rfl)).2.1); (case side3 => exact Ck (Kd.R_reads' (Sat.R HG 0 rfl)).2.2); (case side4 => exact (Kd.R_reads' (Sat.R HG 0 rfl)).2.1); rintro e w119 ⟨rfl, hb⟩; refine ⟨_, rfl, ?_⟩; replace HG := Sat.rd HG hb; (try clear hb); (try clear hb2); (try clear hk); (try clear hi))))))))))))
                                  replace HG := Sat.drew HG
                                  refine start_ (n := 5) (S := fun w' => w'.cell? ⟨gb256, 0, none⟩ = some (.int .i64 t252) ∧ w'.cell? ⟨gb256, 1, none⟩ = some (.slice Ao93 t253.length co93) ∧ w'.cell? ⟨gb227, 0, none⟩ = some (.int .i64 a1_0) ∧ w'.cell? ⟨gb227, 1, none⟩ = some (.slice A1_1 l1_1.length c1_1)) (ds := []) #[false, false, false, false, false] (by kernel_rfl) rfl rfl ⟨(blk_cell (Sat.B HG 5 rfl) 0).trans rfl, (blk_cell (Sat.B HG 5 rfl) 1).trans rfl, (blk_cell (Sat.B HG 12 rfl) 0).trans rfl, (blk_cell (Sat.B HG 12 rfl) 1).trans rfl⟩ (fun hHeld => ?_)
                                  generalize w119.drew = w120 at HG hHeld ⊢
                                  refine TK 0 72 hHeld ?_
                                  refine TK 1 73 hHeld ?_
                                  refine ON 2 74 (fun K hK => ?_)
                                  refine GO Try.func28 #[.agg #[.int .i64 a1_0, .slice A1_1 l1_1.length c1_1]] ?_
                                  with_reducible refine (laws_toWeighting.calls k a1_0 _ _ l1_1 t273 t274 _ ?side1 ?side2 A38.out).mono ?_
                                  (case side1 => exact Ck (Kd.C_below HR1_1.out HG.out.1))
                                  (case side2 => exact HC1_1.out)
                                  rintro e w121 ⟨v275, rfl, ho0, hb⟩
                                  refine ⟨_, rfl, ?_⟩
                                  replace HG := Sat.mkR HG hb ho0
                                  (try clear hb)
                                  (try clear hb2)
                                  (try clear hk)
                                  (try clear hi)
                                  (try clear ho0)
                                  obtain ⟨Ao122, co122, eo122⟩ := Kd.R_slice (Sat.R HG 0 rfl)
                                  (first | subst eo122 | (injection eo122 with f1_ f2_ f3_; have f4_ := f1_.symm; have f5_ := f3_.symm; clear f1_ f2_ f3_; subst f4_; subst f5_))
                                  refine hK.out _ _ ⟨(blk_cell (Sat.B HG 6 rfl) 0).trans rfl, (blk_cell (Sat.B HG 6 rfl) 1).trans rfl, (blk_cell (Sat.B HG 13 rfl) 0).trans rfl, (blk_cell (Sat.B HG 13 rfl) 1).trans rfl⟩ (fun hHeld => ?_)
                                  clear hK K
                                  refine NM ?_
                                  refine ON 3 75 (fun K hK => ?_)
                                  refine GO Try.func31 #[.agg #[.int .i64 t252, .slice Ao93 t253.length co93], .agg #[.int .i64 t273, .slice Ao122 t274.length co122]] ?_
                                  with_reducible refine (laws_eqWeighting.calls k t252 _ _ t253 t273 _ _ t274 true _ ?side1 ?side2 ?side3 ?side4 A39.out).mono ?_
                                  (case side1 => exact Ck (Kd.R_reads' (Sat.R HG 7 rfl)).2.2)
                                  (case side2 => exact (Kd.R_reads' (Sat.R HG 7 rfl)).2.1)
                                  (case side3 => exact Ck (Kd.R_reads' (Sat.R HG 0 rfl)).2.2)
                                  (case side4 => exact (Kd.R_reads' (Sat.R HG 0 rfl)).2.1)
                                  rintro e w123 ⟨rfl, hb⟩
                                  refine ⟨_, rfl, ?_⟩
                                  replace HG := Sat.rd HG hb
                                  (try clear hb)
                                  (try clear hb2)
                                  (try clear hk)
                                  (try clear hi)
                                  refine hK.out _ _ ⟨(blk_cell (Sat.B HG 6 rfl) 0).trans rfl, (blk_cell (Sat.B HG 6 rfl) 1).trans rfl, (blk_cell (Sat.B HG 13 rfl) 0).trans rfl, (blk_cell (Sat.B HG 13 rfl) 1).trans rfl⟩ (fun hHeld => ?_)
                                  clear hK K
                                  refine NM ?_
                                  refine PU 4 76 ?_
                                  refine done_ (by kernel_rfl) ?_
                                  try go_wp2
                                  replace HG := Sat.drew HG
                                  refine start_ (n := 5) (S := fun w' => w'.cell? ⟨gb261, 0, none⟩ = some (.int .i64 t257) ∧ w'.cell? ⟨gb261, 1, none⟩ = some (.slice Ao103 t258.length co103) ∧ w'.cell? ⟨gb228, 0, none⟩ = some (.int .i64 a2_0) ∧ w'.cell? ⟨gb228, 1, none⟩ = some (.slice A2_1 l2_1.length c2_1)) (ds := []) #[false, false, false, false, false] (by kernel_rfl) rfl rfl ⟨(blk_cell (Sat.B HG 4 rfl) 0).trans rfl, (blk_cell (Sat.B HG 4 rfl) 1).trans rfl, (blk_cell (Sat.B HG 14 rfl) 0).trans rfl, (blk_cell (Sat.B HG 14 rfl) 1).trans rfl⟩ (fun hHeld => ?_)
                                  generalize w123.drew = w124 at HG hHeld ⊢
                                  refine TK 0 77 hHeld ?_
                                  refine TK 1 78 hHeld ?_
                                  refine ON 2 79 (fun K hK => ?_)
                                  refine GO Try.func28 #[.agg #[.int .i64 a2_0, .slice A2_1 l2_1.length c2_1]] ?_
                                  with_reducible refine (laws_toWeighting.calls k a2_0 _ _ l2_1 t278 t279 _ ?side1 ?side2 A41.out).mono ?_
                                  (case side1 => exact Ck (Kd.C_below HR2_1.out HG.out.1))
                                  (case side2 => exact HC2_1.out)
                                  rintro e w125 ⟨v280, rfl, ho0, hb⟩
                                  refine ⟨_, rfl, ?_⟩
                                  replace HG := Sat.mkR HG hb ho0
                                  (try clear hb)
                                  (try clear hb2)
                                  (try clear hk)
                                  (try clear hi)
                                  (try clear ho0)
                                  obtain ⟨Ao126, co126, eo126⟩ := Kd.R_slice (Sat.R HG 0 rfl)
                                  (first | subst eo126 | (injection eo126 with f1_ f2_ f3_; have f4_ := f1_.symm; have f5_ := f3_.symm; clear f1_ f2_ f3_; subst f4_; subst f5_))
                                  refine hK.out _ _ ⟨(blk_cell (Sat.B HG 5 rfl) 0).trans rfl, (blk_cell (Sat.B HG 5 rfl) 1).trans rfl, (blk_cell (Sat.B HG 15 rfl) 0).trans rfl, (blk_cell (Sat.B HG 15 rfl) 1).trans rfl⟩ (fun hHeld => ?_)
                                  clear hK K
                                  refine NM ?_
                                  refine ON 3 80 (fun K hK => ?_)
                                  refine GO Try.func31 #[.agg #[.int .i64 t257, .slice Ao103 t258.length co103], .agg #[.int .i64 t278, .slice Ao126 t279.length co126]] ?_
                                  with_reducible refine (laws_eqWeighting.calls k t257 _ _ t258 t278 _ _ t279 true _ ?side1 ?side2 ?side3 ?side4 A42.out).mono ?_
                                  (case side1 => exact Ck (Kd.R_reads' (Sat.R HG 6 rfl)).2.2)
                                  (case side2 => exact (Kd.R_reads' (Sat.R HG 6 rfl)).2.1)
                                  (case side3 => exact Ck (Kd.R_reads' (Sat.R HG 0 rfl)).2.2)
                                  (case side4 => exact (Kd.R_reads' (Sat.R HG 0 rfl)).2.1)
                                  rintro e w127 ⟨rfl, hb⟩
                                  refine ⟨_, rfl, ?_⟩
                                  replace HG := Sat.rd HG hb
                                  (try clear hb)
                                  (try clear hb2)
                                  (try clear hk)
                                  (try clear hi)
                                  refine hK.out _ _ ⟨(blk_cell (Sat.B HG 5 rfl) 0).trans rfl, (blk_cell (Sat.B HG 5 rfl) 1).trans rfl, (blk_cell (Sat.B HG 15 rfl) 0).trans rfl, (blk_cell (Sat.B HG 15 rfl) 1).trans rfl⟩ (fun hHeld => ?_)
                                  clear hK K
                                  refine NM ?_
                                  refine PU 4 81 ?_
                                  refine done_ (by kernel_rfl) ?_
                                  try go_wp2_with (((with_reducible refine gC 41 ?_); refine GL (some 84) Try.func41 #[.slice Ao105 t249.length co105, .int .i64 1] ?_; obtain ⟨ok_, ho_, hG_⟩ := Sat.atR HG 9 rfl; (with_reducible refine (laws_markCellS.calls k ok_ (.slice Ao105 t249.length co105) t249 1 t283 t284 w _ ?side1 ?side2 A44.out).mono ?_); (case side1 => exact Bw HG); (case side2 => exact R1 ⟨ho_⟩); rintro e w128 ⟨rfl, hy0, hb, hkp⟩; refine ⟨_, rfl, ?_⟩; replace HG := Sat.nf (hG_ _ _ _ (by with_reducible repeat (first | exact Qt.rf _ | apply Qt.al | apply Qt.dn | apply Qt.d1)) hb hkp hy0); clear ho_ hG_; (try clear hb); (try clear hkp); (try clear hy0); have hcz129_0 : w128.cell? ⟨gb256, 0, none⟩ = some (.int .i64 t252) := (blk_cell (Sat.B HG 7 rfl) 0).trans rfl; have hcz129_1 : w128.cell? ⟨gb256, 1, none⟩ = some (.slice Ao93 t253.length co93) := (blk_cell (Sat.B HG 7 rfl) 1).trans rfl; have hfz129_0 := blk_frozen (Sat.B HG 7 rfl) 0; have hfz129_1 := blk_frozen (Sat.B HG 7 rfl) 1); go_wp2_with (((with_reducible refine gC 42 ?_); refine GL (some 87) Try.func42 #[.agg #[.int .i64 t252, .slice Ao93 t253.length co93], .int .i64 t283] ?_; obtain ⟨ok_, ho_, hG_⟩ := Sat.atR HG 8 rfl; (with_reducible refine (laws_markWeighting.calls k t252 ok_ (.slice Ao93 t253.length co93) t253 t283 t285 t286 w _ ?side1 ?side2 A45.out).mono ?_); (case side1 => exact Bw HG); (case side2 => exact R1 ⟨ho_⟩); rintro e w130 ⟨rfl, hy0, hb, hkp⟩; refine ⟨_, rfl, ?_⟩; replace HG := Sat.nf (hG_ _ _ _ (by with_reducible repeat (first | exact Qt.rf _ | apply Qt.al | apply Qt.dn | apply Qt.d1)) hb hkp hy0); clear ho_ hG_; (try clear hb); (try clear hkp); (try clear hy0); have hcz131_0 : w130.cell? ⟨gb261, 0, none⟩ = some (.int .i64 t257) := (blk_cell (Sat.B HG 5 rfl) 0).trans rfl; have hcz131_1 : w130.cell? ⟨gb261, 1, none⟩ = some (.slice Ao103 t258.length co103) := (blk_cell (Sat.B HG 5 rfl) 1).trans rfl; have hfz131_0 := blk_frozen (Sat.B HG 5 rfl) 0; have hfz131_1 := blk_frozen (Sat.B HG 5 rfl) 1); go_wp2_with (((with_reducible refine gC 42 ?_); refine GL (some 90) Try.func42 #[.agg #[.int .i64 t257, .slice Ao103 t258.length co103], .int .i64 t285] ?_; obtain ⟨ok_, ho_, hG_⟩ := Sat.atR HG 6 rfl; (with_reducible refine (laws_markWeighting.calls k t257 ok_ (.slice Ao103 t258.length co103) t258 t285 t287 t288 w _ ?side1 ?side2 A46.out).mono ?_); (case side1 => exact Bw HG); (case side2 => exact R1 ⟨ho_⟩); rintro e w132 ⟨rfl, hy0, hb, hkp⟩; refine ⟨_, rfl, ?_⟩; replace HG := Sat.nf (hG_ _ _ _ (by with_reducible repeat (first | exact Qt.rf _ | apply Qt.al | apply Qt.dn | apply Qt.d1)) hb hkp hy0); clear ho_ hG_; (try clear hb); (try clear hkp); (try clear hy0); have hcz133_0 : w132.cell? ⟨gb267, 0, none⟩ = some (.int .i64 t262) := (blk_cell (Sat.B HG 3 rfl) 0).trans rfl; have hcz133_1 : w132.cell? ⟨gb267, 1, none⟩ = some (.slice Ao114 t263.length co114) := (blk_cell (Sat.B HG 3 rfl) 1).trans rfl; have hfz133_0 := blk_frozen (Sat.B HG 3 rfl) 0; have hfz133_1 := blk_frozen (Sat.B HG 3 rfl) 1; have hcz134_0 : w132.cell? ⟨gb248, 0, none⟩ = some (.int .i64 t243) := (blk_cell (Sat.B HG 16 rfl) 0).trans rfl; have hcz134_1 : w132.cell? ⟨gb248, 1, none⟩ = some (.slice Ao82 t244.length co82) := (blk_cell (Sat.B HG 16 rfl) 1).trans rfl; have hfz134_0 := blk_frozen (Sat.B HG 16 rfl) 0; have hfz134_1 := blk_frozen (Sat.B HG 16 rfl) 1); go_wp2_with ((go_at_call 31; (with_reducible refine (laws_eqWeighting.calls k t262 _ _ t263 t243 _ _ t244 true _ ?side1 ?side2 ?side3 ?side4 A48.out).mono ?_); (case side1 => exact Ck (Kd.R_reads' (Sat.R HG 4 rfl)).2.2); (case side2 => exact (Kd.R_reads' (Sat.R HG 4 rfl)).2.1); (case side3 => exact Ck (Kd.R_reads' (Sat.R HG 13 rfl)).2.2); (case side4 => exact (Kd.R_reads' (Sat.R HG 13 rfl)).2.1); rintro e w135 ⟨rfl, hb⟩; replace HG := Sat.rd HG hb; (try clear hb); (try clear hb2); (try clear hk); (try clear hi); have hcz136_0 : w135.cell? ⟨gb267, 0, none⟩ = some (.int .i64 t262) := (blk_cell (Sat.B HG 3 rfl) 0).trans rfl; have hcz136_1 : w135.cell? ⟨gb267, 1, none⟩ = some (.slice Ao114 t263.length co114) := (blk_cell (Sat.B HG 3 rfl) 1).trans rfl; have hfz136_0 := blk_frozen (Sat.B HG 3 rfl) 0; have hfz136_1 := blk_frozen (Sat.B HG 3 rfl) 1); go_wp2_with (((with_reducible refine gC 42 ?_); refine GL (some 106) Try.func42 #[.agg #[.int .i64 t262, .slice Ao114 t263.length co114], .int .i64 1] ?_; obtain ⟨ok_, ho_, hG_⟩ := Sat.atR HG 4 rfl; (with_reducible refine (laws_markWeighting.calls k t262 ok_ (.slice Ao114 t263.length co114) t263 1 t290 t291 w _ ?side1 ?side2 A50.out).mono ?_); (case side1 => exact Bw HG); (case side2 => exact R1 ⟨ho_⟩); rintro e w137 ⟨rfl, hy0, hb, hkp⟩; refine ⟨_, rfl, ?_⟩; replace HG := Sat.nf (hG_ _ _ _ (by with_reducible repeat (first | exact Qt.rf _ | apply Qt.al | apply Qt.dn | apply Qt.d1)) hb hkp hy0); clear ho_ hG_; (try clear hb); (try clear hkp); (try clear hy0); have hcz138_0 : w137.cell? ⟨gb267, 0, none⟩ = some (.int .i64 t262) := (blk_cell (Sat.B HG 3 rfl) 0).trans rfl; have hcz138_1 : w137.cell? ⟨gb267, 1, none⟩ = some (.slice Ao114 t263.length co114) := (blk_cell (Sat.B HG 3 rfl) 1).trans rfl; have hfz138_0 := blk_frozen (Sat.B HG 3 rfl) 0; have hfz138_1 := blk_frozen (Sat.B HG 3 rfl) 1); go_wp2_with (((with_reducible refine gC 43 ?_); refine goesL_ (some 109) rfl rfl Try.func43 (by kernel_rfl) rfl #[.agg #[.int .i64 t262, .slice Ao114 t291.length co114], .int .i64 1] rfl (by (try simp only [List.map_toArray, List.map_cons, List.map_nil]); first | done | (rw [show t291.length = t263.length from (Kd.R_reads' (Sat.R HG 4 rfl)).1.symm] <;> rfl) | rfl | (simp only [List.length_drop, List.length_take]; rfl)) ?_; (with_reducible refine (laws_heldWeighting.calls k t262 _ _ t291 1 t292 _ ?side1 ?side2 A51.out).mono ?_); (case side1 => exact Ck (Kd.R_reads' (Sat.R HG 4 rfl)).2.2); (case side2 => rw [show t291.length = t263.length from (Kd.R_reads' (Sat.R HG 4 rfl)).1.symm]; exact (Kd.R_reads' (Sat.R HG 4 rfl)).2.1); rintro e w139 ⟨rfl, hb⟩; refine ⟨_, rfl, ?_⟩; replace HG := Sat.rd HG hb; (try clear hb); (try clear hb2); (try clear hk); (try clear hi))))))))
                                  replace HG := Sat.drew HG
                                  refine start_ (n := 13) (S := fun w' => w'.cell? ⟨gb227, 0, none⟩ = some (.int .i64 a1_0) ∧ w'.cell? ⟨gb227, 1, none⟩ = some (.slice A1_1 l1_1.length c1_1) ∧ w'.cell? ⟨gb228, 0, none⟩ = some (.int .i64 a2_0) ∧ w'.cell? ⟨gb228, 1, none⟩ = some (.slice A2_1 l2_1.length c2_1)) (ds := []) #[false, false, false, false, false, false, false, false, false, false, false, false, false] (by kernel_rfl) rfl rfl ⟨(blk_cell (Sat.B HG 14 rfl) 0).trans rfl, (blk_cell (Sat.B HG 14 rfl) 1).trans rfl, (blk_cell (Sat.B HG 15 rfl) 0).trans rfl, (blk_cell (Sat.B HG 15 rfl) 1).trans rfl⟩ (fun hHeld => ?_); refine with_tabW laws_FnExactAddWeightings.tab38 laws_FnExactAddWeightings.bits38 (fun HT_ HW_ => ?_)
                                  generalize w139.drew = w140 at HG hHeld ⊢
                                  refine PU 0 116 ?_
                                  refine TK 2 118 hHeld ?_
                                  refine TK 4 120 hHeld ?_
                                  refine join_ (σ := Value × Value × Value × Value × Nat) 2 #[true, true, true, true, true, true, true, true, true, true, true, false, false] (fun s_ => [(117, s_.1), (119, .agg #[.int .i64 t296, s_.2.1]), (121, .agg #[.int .i64 t300, s_.2.2.1]), (122, .tuple #[.agg #[.int .i64 t304, s_.2.2.2.1], .int .i64 t308]), (18, .pointer (some ⟨s_.2.2.2.2, 0, none⟩)), (115, .tuple #[.agg #[.int .i64 t304, s_.2.2.2.1], .int .i64 t308]), (123, .agg #[.int .i64 t304, s_.2.2.2.1]), (124, .int .i64 t308)]) (fun s_ w' => (w'.cell? ⟨gb227, 0, none⟩ = some (.int .i64 a1_0) ∧ w'.cell? ⟨gb227, 1, none⟩ = some (.slice A1_1 l1_1.length c1_1) ∧ w'.cell? ⟨gb228, 0, none⟩ = some (.int .i64 a2_0) ∧ w'.cell? ⟨gb228, 1, none⟩ = some (.slice A2_1 l2_1.length c2_1)) ∧ Aside0 (Sat w [Ctx.R k103 103 v233 t232, Ctx.R (Kd.int .i64) 2 v237 t236, Ctx.R (Kd.int .i64) 2 v241 t240, Ctx.R (Kd.int .i64) 2 (.slice Ao82 t244.length co82) t244, Ctx.R k103 103 (.slice Ao105 t249.length co105) t284, Ctx.R (Kd.int .i64) 2 (.slice Ao93 t253.length co93) t286, Ctx.R (Kd.int .i64) 2 (.slice Ao103 t258.length co103) t288, Ctx.R (Kd.int .i64) 2 (.slice Ao114 t263.length co114) t291, Ctx.R k103 103 (.slice Ao118 t269.length co118) t269, Ctx.R (Kd.int .i64) 2 (.slice Ao122 t274.length co122) t274, Ctx.R (Kd.int .i64) 2 (.slice Ao126 t279.length co126) t279, Ctx.R k103 103 s_.1 t293, Ctx.R (Kd.int .i64) 2 s_.2.1 t297, Ctx.R (Kd.int .i64) 2 s_.2.2.1 t301, Ctx.R (Kd.int .i64) 2 s_.2.2.2.1 t305, Ctx.blk gb227 (.cells #[.int .i64 a1_0, .slice A1_1 l1_1.length c1_1] 39 (0, 0)), Ctx.blk gb228 (.cells #[.int .i64 a2_0, .slice A2_1 l2_1.length c2_1] 39 (0, 0)), Ctx.blk gb248 (.cells #[.int .i64 t243, .slice Ao82 t244.length co82] 46 (0, 0)), Ctx.blk gb256 (.cells #[.int .i64 t252, .slice Ao93 t253.length co93] 46 (0, 0)), Ctx.blk gb261 (.cells #[.int .i64 t257, .slice Ao103 t258.length co103] 46 (0, 0)), Ctx.blk gb267 (.cells #[.int .i64 t262, .slice Ao114 t263.length co114] 46 (0, 0)), Ctx.blk s_.2.2.2.2 (.cells #[.int .i64 0, .slice none 0 0] 46 (0, 0))] w')) ?_ ?_
                                  rotate_left
                                  · intro hJ1_3_5_6_10
                                    refine join_ (σ := Value × Value × Value × Value) 3 #[true, true, true, true, true, true, true, true, true, true, false, false, false] (fun s_ => [(117, s_.1), (119, .agg #[.int .i64 t296, s_.2.1]), (121, .agg #[.int .i64 t300, s_.2.2.1]), (122, .tuple #[.agg #[.int .i64 t304, s_.2.2.2], .int .i64 t308]), (115, .tuple #[.agg #[.int .i64 t304, s_.2.2.2], .int .i64 t308]), (123, .agg #[.int .i64 t304, s_.2.2.2]), (124, .int .i64 t308)]) (fun s_ w' => (w'.cell? ⟨gb227, 0, none⟩ = some (.int .i64 a1_0) ∧ w'.cell? ⟨gb227, 1, none⟩ = some (.slice A1_1 l1_1.length c1_1) ∧ w'.cell? ⟨gb228, 0, none⟩ = some (.int .i64 a2_0) ∧ w'.cell? ⟨gb228, 1, none⟩ = some (.slice A2_1 l2_1.length c2_1)) ∧ Aside0 (Sat w [Ctx.R k103 103 v233 t232, Ctx.R (Kd.int .i64) 2 v237 t236, Ctx.R (Kd.int .i64) 2 v241 t240, Ctx.R (Kd.int .i64) 2 (.slice Ao82 t244.length co82) t244, Ctx.R k103 103 (.slice Ao105 t249.length co105) t284, Ctx.R (Kd.int .i64) 2 (.slice Ao93 t253.length co93) t286, Ctx.R (Kd.int .i64) 2 (.slice Ao103 t258.length co103) t288, Ctx.R (Kd.int .i64) 2 (.slice Ao114 t263.length co114) t291, Ctx.R k103 103 (.slice Ao118 t269.length co118) t269, Ctx.R (Kd.int .i64) 2 (.slice Ao122 t274.length co122) t274, Ctx.R (Kd.int .i64) 2 (.slice Ao126 t279.length co126) t279, Ctx.R k103 103 s_.1 t293, Ctx.R (Kd.int .i64) 2 s_.2.1 t297, Ctx.R (Kd.int .i64) 2 s_.2.2.1 t301, Ctx.R (Kd.int .i64) 2 s_.2.2.2 t305, Ctx.blk gb227 (.cells #[.int .i64 a1_0, .slice A1_1 l1_1.length c1_1] 39 (0, 0)), Ctx.blk gb228 (.cells #[.int .i64 a2_0, .slice A2_1 l2_1.length c2_1] 39 (0, 0)), Ctx.blk gb248 (.cells #[.int .i64 t243, .slice Ao82 t244.length co82] 46 (0, 0)), Ctx.blk gb256 (.cells #[.int .i64 t252, .slice Ao93 t253.length co93] 46 (0, 0)), Ctx.blk gb261 (.cells #[.int .i64 t257, .slice Ao103 t258.length co103] 46 (0, 0)), Ctx.blk gb267 (.cells #[.int .i64 t262, .slice Ao114 t263.length co114] 46 (0, 0))] w')) ?_ ?_
                                    rotate_left
                                    · intro hJ1_3_5_6
                                      refine join_ (σ := Value × Value × Value × Nat) 6 #[true, true, true, true, true, true, false, false, false, false, true, false, false] (fun s_ => [(117, s_.1), (119, .agg #[.int .i64 t296, s_.2.1]), (121, .agg #[.int .i64 t300, s_.2.2.1]), (18, .pointer (some ⟨s_.2.2.2, 0, none⟩))]) (fun s_ w' => (w'.cell? ⟨gb227, 0, none⟩ = some (.int .i64 a1_0) ∧ w'.cell? ⟨gb227, 1, none⟩ = some (.slice A1_1 l1_1.length c1_1) ∧ w'.cell? ⟨gb228, 0, none⟩ = some (.int .i64 a2_0) ∧ w'.cell? ⟨gb228, 1, none⟩ = some (.slice A2_1 l2_1.length c2_1)) ∧ Aside0 (Sat w [Ctx.R k103 103 v233 t232, Ctx.R (Kd.int .i64) 2 v237 t236, Ctx.R (Kd.int .i64) 2 v241 t240, Ctx.R (Kd.int .i64) 2 (.slice Ao82 t244.length co82) t244, Ctx.R k103 103 (.slice Ao105 t249.length co105) t284, Ctx.R (Kd.int .i64) 2 (.slice Ao93 t253.length co93) t286, Ctx.R (Kd.int .i64) 2 (.slice Ao103 t258.length co103) t288, Ctx.R (Kd.int .i64) 2 (.slice Ao114 t263.length co114) t291, Ctx.R k103 103 (.slice Ao118 t269.length co118) t269, Ctx.R (Kd.int .i64) 2 (.slice Ao122 t274.length co122) t274, Ctx.R (Kd.int .i64) 2 (.slice Ao126 t279.length co126) t279, Ctx.R k103 103 s_.1 t293, Ctx.R (Kd.int .i64) 2 s_.2.1 t297, Ctx.R (Kd.int .i64) 2 s_.2.2.1 t301, Ctx.blk gb227 (.cells #[.int .i64 a1_0, .slice A1_1 l1_1.length c1_1] 39 (0, 0)), Ctx.blk gb228 (.cells #[.int .i64 a2_0, .slice A2_1 l2_1.length c2_1] 39 (0, 0)), Ctx.blk gb248 (.cells #[.int .i64 t243, .slice Ao82 t244.length co82] 46 (0, 0)), Ctx.blk gb256 (.cells #[.int .i64 t252, .slice Ao93 t253.length co93] 46 (0, 0)), Ctx.blk gb261 (.cells #[.int .i64 t257, .slice Ao103 t258.length co103] 46 (0, 0)), Ctx.blk gb267 (.cells #[.int .i64 t262, .slice Ao114 t263.length co114] 46 (0, 0)), Ctx.blk s_.2.2.2 (.cells #[.int .i64 0, .slice none 0 0] 46 (0, 0))] w')) ?_ ?_
                                      rotate_left
                                      · intro hJ1_3_5_10
                                        refine join_ (σ := Value × Value × Value) 7 #[true, true, true, true, true, true, false, false, false, false, false, false, false] (fun s_ => [(117, s_.1), (119, .agg #[.int .i64 t296, s_.2.1]), (121, .agg #[.int .i64 t300, s_.2.2])]) (fun s_ w' => (w'.cell? ⟨gb227, 0, none⟩ = some (.int .i64 a1_0) ∧ w'.cell? ⟨gb227, 1, none⟩ = some (.slice A1_1 l1_1.length c1_1) ∧ w'.cell? ⟨gb228, 0, none⟩ = some (.int .i64 a2_0) ∧ w'.cell? ⟨gb228, 1, none⟩ = some (.slice A2_1 l2_1.length c2_1)) ∧ Aside0 (Sat w [Ctx.R k103 103 v233 t232, Ctx.R (Kd.int .i64) 2 v237 t236, Ctx.R (Kd.int .i64) 2 v241 t240, Ctx.R (Kd.int .i64) 2 (.slice Ao82 t244.length co82) t244, Ctx.R k103 103 (.slice Ao105 t249.length co105) t284, Ctx.R (Kd.int .i64) 2 (.slice Ao93 t253.length co93) t286, Ctx.R (Kd.int .i64) 2 (.slice Ao103 t258.length co103) t288, Ctx.R (Kd.int .i64) 2 (.slice Ao114 t263.length co114) t291, Ctx.R k103 103 (.slice Ao118 t269.length co118) t269, Ctx.R (Kd.int .i64) 2 (.slice Ao122 t274.length co122) t274, Ctx.R (Kd.int .i64) 2 (.slice Ao126 t279.length co126) t279, Ctx.R k103 103 s_.1 t293, Ctx.R (Kd.int .i64) 2 s_.2.1 t297, Ctx.R (Kd.int .i64) 2 s_.2.2 t301, Ctx.blk gb227 (.cells #[.int .i64 a1_0, .slice A1_1 l1_1.length c1_1] 39 (0, 0)), Ctx.blk gb228 (.cells #[.int .i64 a2_0, .slice A2_1 l2_1.length c2_1] 39 (0, 0)), Ctx.blk gb248 (.cells #[.int .i64 t243, .slice Ao82 t244.length co82] 46 (0, 0)), Ctx.blk gb256 (.cells #[.int .i64 t252, .slice Ao93 t253.length co93] 46 (0, 0)), Ctx.blk gb261 (.cells #[.int .i64 t257, .slice Ao103 t258.length co103] 46 (0, 0)), Ctx.blk gb267 (.cells #[.int .i64 t262, .slice Ao114 t263.length co114] 46 (0, 0))] w')) ?_ ?_
                                        rotate_left
                                        · intro hJ1_3_5
                                          refine join_ (σ := Value × Value × Nat) 7 #[true, true, true, true, true, false, false, false, false, false, true, false, false] (fun s_ => [(117, s_.1), (119, .agg #[.int .i64 t296, s_.2.1]), (18, .pointer (some ⟨s_.2.2, 0, none⟩))]) (fun s_ w' => (w'.cell? ⟨gb227, 0, none⟩ = some (.int .i64 a1_0) ∧ w'.cell? ⟨gb227, 1, none⟩ = some (.slice A1_1 l1_1.length c1_1) ∧ w'.cell? ⟨gb228, 0, none⟩ = some (.int .i64 a2_0) ∧ w'.cell? ⟨gb228, 1, none⟩ = some (.slice A2_1 l2_1.length c2_1)) ∧ Aside0 (Sat w [Ctx.R k103 103 v233 t232, Ctx.R (Kd.int .i64) 2 v237 t236, Ctx.R (Kd.int .i64) 2 v241 t240, Ctx.R (Kd.int .i64) 2 (.slice Ao82 t244.length co82) t244, Ctx.R k103 103 (.slice Ao105 t249.length co105) t284, Ctx.R (Kd.int .i64) 2 (.slice Ao93 t253.length co93) t286, Ctx.R (Kd.int .i64) 2 (.slice Ao103 t258.length co103) t288, Ctx.R (Kd.int .i64) 2 (.slice Ao114 t263.length co114) t291, Ctx.R k103 103 (.slice Ao118 t269.length co118) t269, Ctx.R (Kd.int .i64) 2 (.slice Ao122 t274.length co122) t274, Ctx.R (Kd.int .i64) 2 (.slice Ao126 t279.length co126) t279, Ctx.R k103 103 s_.1 t293, Ctx.R (Kd.int .i64) 2 s_.2.1 t297, Ctx.blk gb227 (.cells #[.int .i64 a1_0, .slice A1_1 l1_1.length c1_1] 39 (0, 0)), Ctx.blk gb228 (.cells #[.int .i64 a2_0, .slice A2_1 l2_1.length c2_1] 39 (0, 0)), Ctx.blk gb248 (.cells #[.int .i64 t243, .slice Ao82 t244.length co82] 46 (0, 0)), Ctx.blk gb256 (.cells #[.int .i64 t252, .slice Ao93 t253.length co93] 46 (0, 0)), Ctx.blk gb261 (.cells #[.int .i64 t257, .slice Ao103 t258.length co103] 46 (0, 0)), Ctx.blk gb267 (.cells #[.int .i64 t262, .slice Ao114 t263.length co114] 46 (0, 0)), Ctx.blk s_.2.2 (.cells #[.int .i64 0, .slice none 0 0] 46 (0, 0))] w')) ?_ ?_
                                          rotate_left
                                          · intro hJ1_3_10
                                            refine join_ (σ := Value × Value) 8 #[true, true, true, true, true, false, false, false, false, false, false, false, false] (fun s_ => [(117, s_.1), (119, .agg #[.int .i64 t296, s_.2])]) (fun s_ w' => (w'.cell? ⟨gb227, 0, none⟩ = some (.int .i64 a1_0) ∧ w'.cell? ⟨gb227, 1, none⟩ = some (.slice A1_1 l1_1.length c1_1) ∧ w'.cell? ⟨gb228, 0, none⟩ = some (.int .i64 a2_0) ∧ w'.cell? ⟨gb228, 1, none⟩ = some (.slice A2_1 l2_1.length c2_1)) ∧ Aside0 (Sat w [Ctx.R k103 103 v233 t232, Ctx.R (Kd.int .i64) 2 v237 t236, Ctx.R (Kd.int .i64) 2 v241 t240, Ctx.R (Kd.int .i64) 2 (.slice Ao82 t244.length co82) t244, Ctx.R k103 103 (.slice Ao105 t249.length co105) t284, Ctx.R (Kd.int .i64) 2 (.slice Ao93 t253.length co93) t286, Ctx.R (Kd.int .i64) 2 (.slice Ao103 t258.length co103) t288, Ctx.R (Kd.int .i64) 2 (.slice Ao114 t263.length co114) t291, Ctx.R k103 103 (.slice Ao118 t269.length co118) t269, Ctx.R (Kd.int .i64) 2 (.slice Ao122 t274.length co122) t274, Ctx.R (Kd.int .i64) 2 (.slice Ao126 t279.length co126) t279, Ctx.R k103 103 s_.1 t293, Ctx.R (Kd.int .i64) 2 s_.2 t297, Ctx.blk gb227 (.cells #[.int .i64 a1_0, .slice A1_1 l1_1.length c1_1] 39 (0, 0)), Ctx.blk gb228 (.cells #[.int .i64 a2_0, .slice A2_1 l2_1.length c2_1] 39 (0, 0)), Ctx.blk gb248 (.cells #[.int .i64 t243, .slice Ao82 t244.length co82] 46 (0, 0)), Ctx.blk gb256 (.cells #[.int .i64 t252, .slice Ao93 t253.length co93] 46 (0, 0)), Ctx.blk gb261 (.cells #[.int .i64 t257, .slice Ao103 t258.length co103] 46 (0, 0)), Ctx.blk gb267 (.cells #[.int .i64 t262, .slice Ao114 t263.length co114] 46 (0, 0))] w')) ?_ ?_
                                            rotate_left
                                            · intro hJ1_3
                                              refine join_ (σ := Value × Nat) 8 #[true, true, true, false, true, false, false, false, false, false, true, false, false] (fun s_ => [(117, s_.1), (18, .pointer (some ⟨s_.2, 0, none⟩))]) (fun s_ w' => (w'.cell? ⟨gb227, 0, none⟩ = some (.int .i64 a1_0) ∧ w'.cell? ⟨gb227, 1, none⟩ = some (.slice A1_1 l1_1.length c1_1) ∧ w'.cell? ⟨gb228, 0, none⟩ = some (.int .i64 a2_0) ∧ w'.cell? ⟨gb228, 1, none⟩ = some (.slice A2_1 l2_1.length c2_1)) ∧ Aside0 (Sat w [Ctx.R k103 103 v233 t232, Ctx.R (Kd.int .i64) 2 v237 t236, Ctx.R (Kd.int .i64) 2 v241 t240, Ctx.R (Kd.int .i64) 2 (.slice Ao82 t244.length co82) t244, Ctx.R k103 103 (.slice Ao105 t249.length co105) t284, Ctx.R (Kd.int .i64) 2 (.slice Ao93 t253.length co93) t286, Ctx.R (Kd.int .i64) 2 (.slice Ao103 t258.length co103) t288, Ctx.R (Kd.int .i64) 2 (.slice Ao114 t263.length co114) t291, Ctx.R k103 103 (.slice Ao118 t269.length co118) t269, Ctx.R (Kd.int .i64) 2 (.slice Ao122 t274.length co122) t274, Ctx.R (Kd.int .i64) 2 (.slice Ao126 t279.length co126) t279, Ctx.R k103 103 s_.1 t293, Ctx.blk gb227 (.cells #[.int .i64 a1_0, .slice A1_1 l1_1.length c1_1] 39 (0, 0)), Ctx.blk gb228 (.cells #[.int .i64 a2_0, .slice A2_1 l2_1.length c2_1] 39 (0, 0)), Ctx.blk gb248 (.cells #[.int .i64 t243, .slice Ao82 t244.length co82] 46 (0, 0)), Ctx.blk gb256 (.cells #[.int .i64 t252, .slice Ao93 t253.length co93] 46 (0, 0)), Ctx.blk gb261 (.cells #[.int .i64 t257, .slice Ao103 t258.length co103] 46 (0, 0)), Ctx.blk gb267 (.cells #[.int .i64 t262, .slice Ao114 t263.length co114] 46 (0, 0)), Ctx.blk s_.2 (.cells #[.int .i64 0, .slice none 0 0] 46 (0, 0))] w')) ?_ ?_
                                              rotate_left
                                              · intro hJ1_10
                                                refine join_ (σ := Value) 9 #[true, true, true, false, true, false, false, false, false, false, false, false, false] (fun s_ => [(117, s_)]) (fun s_ w' => (w'.cell? ⟨gb227, 0, none⟩ = some (.int .i64 a1_0) ∧ w'.cell? ⟨gb227, 1, none⟩ = some (.slice A1_1 l1_1.length c1_1) ∧ w'.cell? ⟨gb228, 0, none⟩ = some (.int .i64 a2_0) ∧ w'.cell? ⟨gb228, 1, none⟩ = some (.slice A2_1 l2_1.length c2_1)) ∧ Aside0 (Sat w [Ctx.R k103 103 v233 t232, Ctx.R (Kd.int .i64) 2 v237 t236, Ctx.R (Kd.int .i64) 2 v241 t240, Ctx.R (Kd.int .i64) 2 (.slice Ao82 t244.length co82) t244, Ctx.R k103 103 (.slice Ao105 t249.length co105) t284, Ctx.R (Kd.int .i64) 2 (.slice Ao93 t253.length co93) t286, Ctx.R (Kd.int .i64) 2 (.slice Ao103 t258.length co103) t288, Ctx.R (Kd.int .i64) 2 (.slice Ao114 t263.length co114) t291, Ctx.R k103 103 (.slice Ao118 t269.length co118) t269, Ctx.R (Kd.int .i64) 2 (.slice Ao122 t274.length co122) t274, Ctx.R (Kd.int .i64) 2 (.slice Ao126 t279.length co126) t279, Ctx.R k103 103 s_ t293, Ctx.blk gb227 (.cells #[.int .i64 a1_0, .slice A1_1 l1_1.length c1_1] 39 (0, 0)), Ctx.blk gb228 (.cells #[.int .i64 a2_0, .slice A2_1 l2_1.length c2_1] 39 (0, 0)), Ctx.blk gb248 (.cells #[.int .i64 t243, .slice Ao82 t244.length co82] 46 (0, 0)), Ctx.blk gb256 (.cells #[.int .i64 t252, .slice Ao93 t253.length co93] 46 (0, 0)), Ctx.blk gb261 (.cells #[.int .i64 t257, .slice Ao103 t258.length co103] 46 (0, 0)), Ctx.blk gb267 (.cells #[.int .i64 t262, .slice Ao114 t263.length co114] 46 (0, 0))] w')) ?_ ?_
                                                rotate_left
                                                · intro hJ1
                                                  refine join_ (σ := Nat) 9 #[true, false, true, false, true, false, false, false, false, false, true, false, false] (fun s_ => [(18, .pointer (some ⟨s_, 0, none⟩))]) (fun s_ w' => (w'.cell? ⟨gb227, 0, none⟩ = some (.int .i64 a1_0) ∧ w'.cell? ⟨gb227, 1, none⟩ = some (.slice A1_1 l1_1.length c1_1) ∧ w'.cell? ⟨gb228, 0, none⟩ = some (.int .i64 a2_0) ∧ w'.cell? ⟨gb228, 1, none⟩ = some (.slice A2_1 l2_1.length c2_1)) ∧ Aside0 (Sat w [Ctx.R k103 103 v233 t232, Ctx.R (Kd.int .i64) 2 v237 t236, Ctx.R (Kd.int .i64) 2 v241 t240, Ctx.R (Kd.int .i64) 2 (.slice Ao82 t244.length co82) t244, Ctx.R k103 103 (.slice Ao105 t249.length co105) t284, Ctx.R (Kd.int .i64) 2 (.slice Ao93 t253.length co93) t286, Ctx.R (Kd.int .i64) 2 (.slice Ao103 t258.length co103) t288, Ctx.R (Kd.int .i64) 2 (.slice Ao114 t263.length co114) t291, Ctx.R k103 103 (.slice Ao118 t269.length co118) t269, Ctx.R (Kd.int .i64) 2 (.slice Ao122 t274.length co122) t274, Ctx.R (Kd.int .i64) 2 (.slice Ao126 t279.length co126) t279, Ctx.blk gb227 (.cells #[.int .i64 a1_0, .slice A1_1 l1_1.length c1_1] 39 (0, 0)), Ctx.blk gb228 (.cells #[.int .i64 a2_0, .slice A2_1 l2_1.length c2_1] 39 (0, 0)), Ctx.blk gb248 (.cells #[.int .i64 t243, .slice Ao82 t244.length co82] 46 (0, 0)), Ctx.blk gb256 (.cells #[.int .i64 t252, .slice Ao93 t253.length co93] 46 (0, 0)), Ctx.blk gb261 (.cells #[.int .i64 t257, .slice Ao103 t258.length co103] 46 (0, 0)), Ctx.blk gb267 (.cells #[.int .i64 t262, .slice Ao114 t263.length co114] 46 (0, 0)), Ctx.blk s_ (.cells #[.int .i64 0, .slice none 0 0] 46 (0, 0))] w')) ?_ ?_
                                                  rotate_left
                                                  · intro hJ10
                                                    refine two_ (i := 1) (j := 10) (Ni := some 117) (Nj := some 18) #[true, true, true, false, true, false, false, false, false, false, false, false, false] #[true, false, true, false, true, false, false, false, false, false, true, false, false] rfl rfl rfl rfl (two_of HT_.out (by kernel_rfl)) (by decide) (by decide) (fun K hK => ?_) (fun K hK => ?_)
                                                    · skip
                                                      refine GO Try.func27 #[.slice A0 l0.length c0] ?_
                                                      with_reducible refine (laws_toCellS.calls k _ _ l0 t293 _ ?side1 ?side2 A54.out).mono ?_
                                                      (case side1 => exact Ck (Kd.C_below HR0.out HG.out.1))
                                                      (case side2 => exact HC0.out)
                                                      rintro e w141 ⟨v294, rfl, ho0, hb⟩
                                                      refine ⟨_, rfl, ?_⟩
                                                      replace HG := Sat.mkR HG hb ho0
                                                      (try clear hb)
                                                      (try clear hb2)
                                                      (try clear hk)
                                                      (try clear hi)
                                                      (try clear ho0)
                                                      refine hK.out _ _ ⟨(blk_cell (Sat.B HG 15 rfl) 0).trans rfl, (blk_cell (Sat.B HG 15 rfl) 1).trans rfl, (blk_cell (Sat.B HG 16 rfl) 0).trans rfl, (blk_cell (Sat.B HG 16 rfl) 1).trans rfl⟩ (fun hHeld => ?_)
                                                      clear hK K
                                                      refine NM ?_
                                                      exact norm_ (by first | (simp only [putAll, Act.put, List.setIfInBounds_toArray, List.set_cons_zero, List.set_cons_succ]; done) | (simp only [putAll, Act.put, List.setIfInBounds_toArray, List.set_cons_zero, List.set_cons_succ]; rfl)) (hJ1 (v294) _ ⟨hHeld, Sat.pick HG [11, 12, 13, 14, 10, 9, 7, 5, 3, 2, 1, 0, 15, 16, 17, 8, 6, 4]⟩)
                                                    · skip
                                                      refine box_step ?hg (N := 18) ?hd (cs := #[.int .i64 0, .slice none 0 0]) (t := 46) ?hr ?_; (case hd => rfl); (case hg => rfl); (case hr => first | (go_simp; done) | (go_simp; rfl))
                                                      intro gb309 hg w141 hbox hb
                                                      replace HG := Sat.box HG hg hbox hb
                                                      clear hb hbox hg
                                                      refine hK.out _ _ ⟨(blk_cell (Sat.B HG 15 rfl) 0).trans rfl, (blk_cell (Sat.B HG 15 rfl) 1).trans rfl, (blk_cell (Sat.B HG 16 rfl) 0).trans rfl, (blk_cell (Sat.B HG 16 rfl) 1).trans rfl⟩ (fun hHeld => ?_)
                                                      clear hK K
                                                      refine NM ?_
                                                      exact norm_ (by first | (simp only [putAll, Act.put, List.setIfInBounds_toArray, List.set_cons_zero, List.set_cons_succ]; done) | (simp only [putAll, Act.put, List.setIfInBounds_toArray, List.set_cons_zero, List.set_cons_succ]; rfl)) (hJ10 (gb309) _ ⟨hHeld, Sat.pick HG [11, 12, 13, 14, 10, 9, 7, 5, 3, 2, 1, 15, 16, 17, 8, 6, 4, 0]⟩)
                                                  · skip
                                                    rintro gb309 w142 ⟨hS_, hG1_⟩
                                                    replace HG := hG1_
                                                    clear hG1_
                                                    have hHeld : w142.cell? ⟨gb227, 0, none⟩ = some (.int .i64 a1_0) ∧ w142.cell? ⟨gb227, 1, none⟩ = some (.slice A1_1 l1_1.length c1_1) ∧ w142.cell? ⟨gb228, 0, none⟩ = some (.int .i64 a2_0) ∧ w142.cell? ⟨gb228, 1, none⟩ = some (.slice A2_1 l2_1.length c2_1) := hS_
                                                    refine norm_ (a' := ?_) ?_ ?_
                                                    rotate_left
                                                    · simp only [putAll, Act.put, List.setIfInBounds_toArray, List.set_cons_zero, List.set_cons_succ]
                                                      rfl
                                                    refine ON 1 117 (fun K hK => ?_)
                                                    refine GO Try.func27 #[.slice A0 l0.length c0] ?_
                                                    with_reducible refine (laws_toCellS.calls k _ _ l0 t293 _ ?side1 ?side2 A54.out).mono ?_
                                                    (case side1 => exact Ck (Kd.C_below HR0.out HG.out.1))
                                                    (case side2 => exact HC0.out)
                                                    rintro e w143 ⟨v294, rfl, ho0, hb⟩
                                                    refine ⟨_, rfl, ?_⟩
                                                    replace HG := Sat.mkR HG hb ho0
                                                    (try clear hb)
                                                    (try clear hb2)
                                                    (try clear hk)
                                                    (try clear hi)
                                                    (try clear ho0)
                                                    refine hK.out _ _ ⟨(blk_cell (Sat.B HG 12 rfl) 0).trans rfl, (blk_cell (Sat.B HG 12 rfl) 1).trans rfl, (blk_cell (Sat.B HG 13 rfl) 0).trans rfl, (blk_cell (Sat.B HG 13 rfl) 1).trans rfl⟩ (fun hHeld => ?_)
                                                    clear hK K
                                                    refine NM ?_
                                                    exact norm_ (by first | (simp only [putAll, Act.put, List.setIfInBounds_toArray, List.set_cons_zero, List.set_cons_succ]; done) | (simp only [putAll, Act.put, List.setIfInBounds_toArray, List.set_cons_zero, List.set_cons_succ]; rfl)) (hJ1_10 (v294, gb309) _ ⟨hHeld, Sat.pick HG [1, 2, 3, 4, 5, 6, 7, 8, 9, 10, 11, 0, 12, 13, 14, 15, 16, 17, 18]⟩)
                                                · skip
                                                  rintro v294 w142 ⟨hS_, hG1_⟩
                                                  replace HG := hG1_
                                                  clear hG1_
                                                  have hHeld : w142.cell? ⟨gb227, 0, none⟩ = some (.int .i64 a1_0) ∧ w142.cell? ⟨gb227, 1, none⟩ = some (.slice A1_1 l1_1.length c1_1) ∧ w142.cell? ⟨gb228, 0, none⟩ = some (.int .i64 a2_0) ∧ w142.cell? ⟨gb228, 1, none⟩ = some (.slice A2_1 l2_1.length c2_1) := hS_
                                                  refine norm_ (a' := ?_) ?_ ?_
                                                  rotate_left
                                                  · simp only [putAll, Act.put, List.setIfInBounds_toArray, List.set_cons_zero, List.set_cons_succ]
                                                    rfl
                                                  refine two_ (i := 3) (j := 10) (Ni := some 119) (Nj := some 18) #[true, true, true, true, true, false, false, false, false, false, false, false, false] #[true, true, true, false, true, false, false, false, false, false, true, false, false] rfl rfl rfl rfl (two_of HT_.out (by kernel_rfl)) (by decide) (by decide) (fun K hK => ?_) (fun K hK => ?_)
                                                  · skip
                                                    refine GO Try.func28 #[.agg #[.int .i64 a1_0, .slice A1_1 l1_1.length c1_1]] ?_
                                                    with_reducible refine (laws_toWeighting.calls k a1_0 _ _ l1_1 t296 t297 _ ?side1 ?side2 A55.out).mono ?_
                                                    (case side1 => exact Ck (Kd.C_below HR1_1.out HG.out.1))
                                                    (case side2 => exact HC1_1.out)
                                                    rintro e w143 ⟨v298, rfl, ho0, hb⟩
                                                    refine ⟨_, rfl, ?_⟩
                                                    replace HG := Sat.mkR HG hb ho0
                                                    (try clear hb)
                                                    (try clear hb2)
                                                    (try clear hk)
                                                    (try clear hi)
                                                    (try clear ho0)
                                                    refine hK.out _ _ ⟨(blk_cell (Sat.B HG 13 rfl) 0).trans rfl, (blk_cell (Sat.B HG 13 rfl) 1).trans rfl, (blk_cell (Sat.B HG 14 rfl) 0).trans rfl, (blk_cell (Sat.B HG 14 rfl) 1).trans rfl⟩ (fun hHeld => ?_)
                                                    clear hK K
                                                    refine NM ?_
                                                    exact norm_ (by first | (simp only [putAll, Act.put, List.setIfInBounds_toArray, List.set_cons_zero, List.set_cons_succ]; done) | (simp only [putAll, Act.put, List.setIfInBounds_toArray, List.set_cons_zero, List.set_cons_succ]; rfl)) (hJ1_3 (v294, v298) _ ⟨hHeld, Sat.pick HG [1, 2, 3, 4, 5, 6, 7, 8, 9, 10, 11, 12, 0, 13, 14, 15, 16, 17, 18]⟩)
                                                  · skip
                                                    refine box_step ?hg (N := 18) ?hd (cs := #[.int .i64 0, .slice none 0 0]) (t := 46) ?hr ?_; (case hd => rfl); (case hg => rfl); (case hr => first | (go_simp; done) | (go_simp; rfl))
                                                    intro gb309 hg w143 hbox hb
                                                    replace HG := Sat.box HG hg hbox hb
                                                    clear hb hbox hg
                                                    refine hK.out _ _ ⟨(blk_cell (Sat.B HG 13 rfl) 0).trans rfl, (blk_cell (Sat.B HG 13 rfl) 1).trans rfl, (blk_cell (Sat.B HG 14 rfl) 0).trans rfl, (blk_cell (Sat.B HG 14 rfl) 1).trans rfl⟩ (fun hHeld => ?_)
                                                    clear hK K
                                                    refine NM ?_
                                                    exact norm_ (by first | (simp only [putAll, Act.put, List.setIfInBounds_toArray, List.set_cons_zero, List.set_cons_succ]; done) | (simp only [putAll, Act.put, List.setIfInBounds_toArray, List.set_cons_zero, List.set_cons_succ]; rfl)) (hJ1_10 (v294, gb309) _ ⟨hHeld, Sat.pick HG [1, 2, 3, 4, 5, 6, 7, 8, 9, 10, 11, 12, 13, 14, 15, 16, 17, 18, 0]⟩)
                                              · skip
                                                rintro ⟨v294, gb309⟩ w143 ⟨hS_, hG1_⟩
                                                replace HG := hG1_
                                                clear hG1_
                                                have hHeld : w143.cell? ⟨gb227, 0, none⟩ = some (.int .i64 a1_0) ∧ w143.cell? ⟨gb227, 1, none⟩ = some (.slice A1_1 l1_1.length c1_1) ∧ w143.cell? ⟨gb228, 0, none⟩ = some (.int .i64 a2_0) ∧ w143.cell? ⟨gb228, 1, none⟩ = some (.slice A2_1 l2_1.length c2_1) := hS_
                                                refine norm_ (a' := ?_) ?_ ?_
                                                rotate_left
                                                · simp only [putAll, Act.put, List.setIfInBounds_toArray, List.set_cons_zero, List.set_cons_succ]
                                                  rfl
                                                refine ON 3 119 (fun K hK => ?_)
                                                refine GO Try.func28 #[.agg #[.int .i64 a1_0, .slice A1_1 l1_1.length c1_1]] ?_
                                                with_reducible refine (laws_toWeighting.calls k a1_0 _ _ l1_1 t296 t297 _ ?side1 ?side2 A55.out).mono ?_
                                                (case side1 => exact Ck (Kd.C_below HR1_1.out HG.out.1))
                                                (case side2 => exact HC1_1.out)
                                                rintro e w144 ⟨v298, rfl, ho0, hb⟩
                                                refine ⟨_, rfl, ?_⟩
                                                replace HG := Sat.mkR HG hb ho0
                                                (try clear hb)
                                                (try clear hb2)
                                                (try clear hk)
                                                (try clear hi)
                                                (try clear ho0)
                                                refine hK.out _ _ ⟨(blk_cell (Sat.B HG 13 rfl) 0).trans rfl, (blk_cell (Sat.B HG 13 rfl) 1).trans rfl, (blk_cell (Sat.B HG 14 rfl) 0).trans rfl, (blk_cell (Sat.B HG 14 rfl) 1).trans rfl⟩ (fun hHeld => ?_)
                                                clear hK K
                                                refine NM ?_
                                                exact norm_ (by first | (simp only [putAll, Act.put, List.setIfInBounds_toArray, List.set_cons_zero, List.set_cons_succ]; done) | (simp only [putAll, Act.put, List.setIfInBounds_toArray, List.set_cons_zero, List.set_cons_succ]; rfl)) (hJ1_3_10 (v294, v298, gb309) _ ⟨hHeld, Sat.pick HG [1, 2, 3, 4, 5, 6, 7, 8, 9, 10, 11, 12, 0, 13, 14, 15, 16, 17, 18, 19]⟩)
                                            · skip
                                              rintro ⟨v294, v298⟩ w143 ⟨hS_, hG1_⟩
                                              replace HG := hG1_
                                              clear hG1_
                                              have hHeld : w143.cell? ⟨gb227, 0, none⟩ = some (.int .i64 a1_0) ∧ w143.cell? ⟨gb227, 1, none⟩ = some (.slice A1_1 l1_1.length c1_1) ∧ w143.cell? ⟨gb228, 0, none⟩ = some (.int .i64 a2_0) ∧ w143.cell? ⟨gb228, 1, none⟩ = some (.slice A2_1 l2_1.length c2_1) := hS_
                                              refine norm_ (a' := ?_) ?_ ?_
                                              rotate_left
                                              · simp only [putAll, Act.put, List.setIfInBounds_toArray, List.set_cons_zero, List.set_cons_succ]
                                                rfl
                                              refine two_ (i := 5) (j := 10) (Ni := some 121) (Nj := some 18) #[true, true, true, true, true, true, false, false, false, false, false, false, false] #[true, true, true, true, true, false, false, false, false, false, true, false, false] rfl rfl rfl rfl (two_of HT_.out (by kernel_rfl)) (by decide) (by decide) (fun K hK => ?_) (fun K hK => ?_)
                                              · skip
                                                refine GO Try.func28 #[.agg #[.int .i64 a2_0, .slice A2_1 l2_1.length c2_1]] ?_
                                                with_reducible refine (laws_toWeighting.calls k a2_0 _ _ l2_1 t300 t301 _ ?side1 ?side2 A56.out).mono ?_
                                                (case side1 => exact Ck (Kd.C_below HR2_1.out HG.out.1))
                                                (case side2 => exact HC2_1.out)
                                                rintro e w144 ⟨v302, rfl, ho0, hb⟩
                                                refine ⟨_, rfl, ?_⟩
                                                replace HG := Sat.mkR HG hb ho0
                                                (try clear hb)
                                                (try clear hb2)
                                                (try clear hk)
                                                (try clear hi)
                                                (try clear ho0)
                                                refine hK.out _ _ ⟨(blk_cell (Sat.B HG 14 rfl) 0).trans rfl, (blk_cell (Sat.B HG 14 rfl) 1).trans rfl, (blk_cell (Sat.B HG 15 rfl) 0).trans rfl, (blk_cell (Sat.B HG 15 rfl) 1).trans rfl⟩ (fun hHeld => ?_)
                                                clear hK K
                                                refine NM ?_
                                                exact norm_ (by first | (simp only [putAll, Act.put, List.setIfInBounds_toArray, List.set_cons_zero, List.set_cons_succ]; done) | (simp only [putAll, Act.put, List.setIfInBounds_toArray, List.set_cons_zero, List.set_cons_succ]; rfl)) (hJ1_3_5 (v294, v298, v302) _ ⟨hHeld, Sat.pick HG [1, 2, 3, 4, 5, 6, 7, 8, 9, 10, 11, 12, 13, 0, 14, 15, 16, 17, 18, 19]⟩)
                                              · skip
                                                refine box_step ?hg (N := 18) ?hd (cs := #[.int .i64 0, .slice none 0 0]) (t := 46) ?hr ?_; (case hd => rfl); (case hg => rfl); (case hr => first | (go_simp; done) | (go_simp; rfl))
                                                intro gb309 hg w144 hbox hb
                                                replace HG := Sat.box HG hg hbox hb
                                                clear hb hbox hg
                                                refine hK.out _ _ ⟨(blk_cell (Sat.B HG 14 rfl) 0).trans rfl, (blk_cell (Sat.B HG 14 rfl) 1).trans rfl, (blk_cell (Sat.B HG 15 rfl) 0).trans rfl, (blk_cell (Sat.B HG 15 rfl) 1).trans rfl⟩ (fun hHeld => ?_)
                                                clear hK K
                                                refine NM ?_
                                                exact norm_ (by first | (simp only [putAll, Act.put, List.setIfInBounds_toArray, List.set_cons_zero, List.set_cons_succ]; done) | (simp only [putAll, Act.put, List.setIfInBounds_toArray, List.set_cons_zero, List.set_cons_succ]; rfl)) (hJ1_3_10 (v294, v298, gb309) _ ⟨hHeld, Sat.pick HG [1, 2, 3, 4, 5, 6, 7, 8, 9, 10, 11, 12, 13, 14, 15, 16, 17, 18, 19, 0]⟩)
                                          · skip
                                            rintro ⟨v294, v298, gb309⟩ w144 ⟨hS_, hG1_⟩
                                            replace HG := hG1_
                                            clear hG1_
                                            have hHeld : w144.cell? ⟨gb227, 0, none⟩ = some (.int .i64 a1_0) ∧ w144.cell? ⟨gb227, 1, none⟩ = some (.slice A1_1 l1_1.length c1_1) ∧ w144.cell? ⟨gb228, 0, none⟩ = some (.int .i64 a2_0) ∧ w144.cell? ⟨gb228, 1, none⟩ = some (.slice A2_1 l2_1.length c2_1) := hS_
                                            refine norm_ (a' := ?_) ?_ ?_
                                            rotate_left
                                            · simp only [putAll, Act.put, List.setIfInBounds_toArray, List.set_cons_zero, List.set_cons_succ]
                                              rfl
                                            refine ON 5 121 (fun K hK => ?_)
                                            refine GO Try.func28 #[.agg #[.int .i64 a2_0, .slice A2_1 l2_1.length c2_1]] ?_
                                            with_reducible refine (laws_toWeighting.calls k a2_0 _ _ l2_1 t300 t301 _ ?side1 ?side2 A56.out).mono ?_
                                            (case side1 => exact Ck (Kd.C_below HR2_1.out HG.out.1))
                                            (case side2 => exact HC2_1.out)
                                            rintro e w145 ⟨v302, rfl, ho0, hb⟩
                                            refine ⟨_, rfl, ?_⟩
                                            replace HG := Sat.mkR HG hb ho0
                                            (try clear hb)
                                            (try clear hb2)
                                            (try clear hk)
                                            (try clear hi)
                                            (try clear ho0)
                                            refine hK.out _ _ ⟨(blk_cell (Sat.B HG 14 rfl) 0).trans rfl, (blk_cell (Sat.B HG 14 rfl) 1).trans rfl, (blk_cell (Sat.B HG 15 rfl) 0).trans rfl, (blk_cell (Sat.B HG 15 rfl) 1).trans rfl⟩ (fun hHeld => ?_)
                                            clear hK K
                                            refine NM ?_
                                            exact norm_ (by first | (simp only [putAll, Act.put, List.setIfInBounds_toArray, List.set_cons_zero, List.set_cons_succ]; done) | (simp only [putAll, Act.put, List.setIfInBounds_toArray, List.set_cons_zero, List.set_cons_succ]; rfl)) (hJ1_3_5_10 (v294, v298, v302, gb309) _ ⟨hHeld, Sat.pick HG [1, 2, 3, 4, 5, 6, 7, 8, 9, 10, 11, 12, 13, 0, 14, 15, 16, 17, 18, 19, 20]⟩)
                                        · skip
                                          rintro ⟨v294, v298, v302⟩ w144 ⟨hS_, hG1_⟩
                                          replace HG := hG1_
                                          clear hG1_
                                          have hHeld : w144.cell? ⟨gb227, 0, none⟩ = some (.int .i64 a1_0) ∧ w144.cell? ⟨gb227, 1, none⟩ = some (.slice A1_1 l1_1.length c1_1) ∧ w144.cell? ⟨gb228, 0, none⟩ = some (.int .i64 a2_0) ∧ w144.cell? ⟨gb228, 1, none⟩ = some (.slice A2_1 l2_1.length c2_1) := hS_
                                          obtain ⟨Ao145, co145, eo145⟩ := Kd.R_slice (Sat.R HG 11 rfl)
                                          (first | subst eo145 | (injection eo145 with f1_ f2_ f3_; have f4_ := f1_.symm; have f5_ := f3_.symm; clear f1_ f2_ f3_; subst f4_; subst f5_))
                                          obtain ⟨Ao146, co146, eo146⟩ := Kd.R_slice (Sat.R HG 12 rfl)
                                          (first | subst eo146 | (injection eo146 with f1_ f2_ f3_; have f4_ := f1_.symm; have f5_ := f3_.symm; clear f1_ f2_ f3_; subst f4_; subst f5_))
                                          obtain ⟨Ao147, co147, eo147⟩ := Kd.R_slice (Sat.R HG 13 rfl)
                                          (first | subst eo147 | (injection eo147 with f1_ f2_ f3_; have f4_ := f1_.symm; have f5_ := f3_.symm; clear f1_ f2_ f3_; subst f4_; subst f5_))
                                          refine norm_ (a' := ?_) ?_ ?_
                                          rotate_left
                                          · simp only [putAll, Act.put, List.setIfInBounds_toArray, List.set_cons_zero, List.set_cons_succ]
                                            rfl
                                          refine two_ (i := 6) (j := 10) (Ni := some 122) (Nj := some 18) #[true, true, true, true, true, true, true, false, false, false, false, false, false] #[true, true, true, true, true, true, false, false, false, false, true, false, false] rfl rfl rfl rfl (two_of HT_.out (by kernel_rfl)) (by decide) (by decide) (fun K hK => ?_) (fun K hK => ?_)
                                          · skip
                                            refine GO Try.func40 #[.slice Ao145 t293.length co145, .agg #[.int .i64 t296, .slice Ao146 t297.length co146], .agg #[.int .i64 t300, .slice Ao147 t301.length co147]] ?_
                                            with_reducible refine (impl_AddWeightings.calls k _ _ t293 t296 _ _ t297 t300 _ _ t301 t304 t305 t308 _ ?side1 ?side2 ?side3 ?side4 ?side5 ?side6 A57.out).mono ?_
                                            (case side1 => exact Ck (Kd.R_reads' (Sat.R HG 11 rfl)).2.2)
                                            (case side2 => exact (Kd.R_reads' (Sat.R HG 11 rfl)).2.1)
                                            (case side3 => exact Ck (Kd.R_reads' (Sat.R HG 12 rfl)).2.2)
                                            (case side4 => exact (Kd.R_reads' (Sat.R HG 12 rfl)).2.1)
                                            (case side5 => exact Ck (Kd.R_reads' (Sat.R HG 13 rfl)).2.2)
                                            (case side6 => exact (Kd.R_reads' (Sat.R HG 13 rfl)).2.1)
                                            rintro e w148 ⟨v306, rfl, ho0, hb⟩
                                            refine ⟨_, rfl, ?_⟩
                                            replace HG := Sat.mkR HG hb ho0
                                            (try clear hb)
                                            (try clear hb2)
                                            (try clear hk)
                                            (try clear hi)
                                            (try clear ho0)
                                            refine hK.out _ _ ⟨(blk_cell (Sat.B HG 15 rfl) 0).trans rfl, (blk_cell (Sat.B HG 15 rfl) 1).trans rfl, (blk_cell (Sat.B HG 16 rfl) 0).trans rfl, (blk_cell (Sat.B HG 16 rfl) 1).trans rfl⟩ (fun hHeld => ?_)
                                            clear hK K
                                            refine NM ?_
                                            refine PU 7 115 ?_
                                            refine PU 8 123 ?_
                                            refine PU 9 124 ?_
                                            exact norm_ (by first | (simp only [putAll, Act.put, List.setIfInBounds_toArray, List.set_cons_zero, List.set_cons_succ]; done) | (simp only [putAll, Act.put, List.setIfInBounds_toArray, List.set_cons_zero, List.set_cons_succ]; rfl)) (hJ1_3_5_6 (.slice Ao145 t293.length co145, .slice Ao146 t297.length co146, .slice Ao147 t301.length co147, v306) _ ⟨hHeld, Sat.pick HG [1, 2, 3, 4, 5, 6, 7, 8, 9, 10, 11, 12, 13, 14, 0, 15, 16, 17, 18, 19, 20]⟩)
                                          · skip
                                            refine box_step ?hg (N := 18) ?hd (cs := #[.int .i64 0, .slice none 0 0]) (t := 46) ?hr ?_; (case hd => rfl); (case hg => rfl); (case hr => first | (go_simp; done) | (go_simp; rfl))
                                            intro gb309 hg w145 hbox hb
                                            replace HG := Sat.box HG hg hbox hb
                                            clear hb hbox hg
                                            refine hK.out _ _ ⟨(blk_cell (Sat.B HG 15 rfl) 0).trans rfl, (blk_cell (Sat.B HG 15 rfl) 1).trans rfl, (blk_cell (Sat.B HG 16 rfl) 0).trans rfl, (blk_cell (Sat.B HG 16 rfl) 1).trans rfl⟩ (fun hHeld => ?_)
                                            clear hK K
                                            refine NM ?_
                                            exact norm_ (by first | (simp only [putAll, Act.put, List.setIfInBounds_toArray, List.set_cons_zero, List.set_cons_succ]; done) | (simp only [putAll, Act.put, List.setIfInBounds_toArray, List.set_cons_zero, List.set_cons_succ]; rfl)) (hJ1_3_5_10 (.slice Ao145 t293.length co145, .slice Ao146 t297.length co146, .slice Ao147 t301.length co147, gb309) _ ⟨hHeld, Sat.pick HG [1, 2, 3, 4, 5, 6, 7, 8, 9, 10, 11, 12, 13, 14, 15, 16, 17, 18, 19, 20, 0]⟩)
                                      · skip
                                        rintro ⟨v294, v298, v302, gb309⟩ w145 ⟨hS_, hG1_⟩
                                        replace HG := hG1_
                                        clear hG1_
                                        have hHeld : w145.cell? ⟨gb227, 0, none⟩ = some (.int .i64 a1_0) ∧ w145.cell? ⟨gb227, 1, none⟩ = some (.slice A1_1 l1_1.length c1_1) ∧ w145.cell? ⟨gb228, 0, none⟩ = some (.int .i64 a2_0) ∧ w145.cell? ⟨gb228, 1, none⟩ = some (.slice A2_1 l2_1.length c2_1) := hS_
                                        obtain ⟨Ao146, co146, eo146⟩ := Kd.R_slice (Sat.R HG 11 rfl)
                                        (first | subst eo146 | (injection eo146 with f1_ f2_ f3_; have f4_ := f1_.symm; have f5_ := f3_.symm; clear f1_ f2_ f3_; subst f4_; subst f5_))
                                        obtain ⟨Ao147, co147, eo147⟩ := Kd.R_slice (Sat.R HG 12 rfl)
                                        (first | subst eo147 | (injection eo147 with f1_ f2_ f3_; have f4_ := f1_.symm; have f5_ := f3_.symm; clear f1_ f2_ f3_; subst f4_; subst f5_))
                                        obtain ⟨Ao148, co148, eo148⟩ := Kd.R_slice (Sat.R HG 13 rfl)
                                        (first | subst eo148 | (injection eo148 with f1_ f2_ f3_; have f4_ := f1_.symm; have f5_ := f3_.symm; clear f1_ f2_ f3_; subst f4_; subst f5_))
                                        refine norm_ (a' := ?_) ?_ ?_
                                        rotate_left
                                        · simp only [putAll, Act.put, List.setIfInBounds_toArray, List.set_cons_zero, List.set_cons_succ]
                                          rfl
                                        refine ON 6 122 (fun K hK => ?_)
                                        refine GO Try.func40 #[.slice Ao146 t293.length co146, .agg #[.int .i64 t296, .slice Ao147 t297.length co147], .agg #[.int .i64 t300, .slice Ao148 t301.length co148]] ?_
                                        with_reducible refine (impl_AddWeightings.calls k _ _ t293 t296 _ _ t297 t300 _ _ t301 t304 t305 t308 _ ?side1 ?side2 ?side3 ?side4 ?side5 ?side6 A57.out).mono ?_
                                        (case side1 => exact Ck (Kd.R_reads' (Sat.R HG 11 rfl)).2.2)
                                        (case side2 => exact (Kd.R_reads' (Sat.R HG 11 rfl)).2.1)
                                        (case side3 => exact Ck (Kd.R_reads' (Sat.R HG 12 rfl)).2.2)
                                        (case side4 => exact (Kd.R_reads' (Sat.R HG 12 rfl)).2.1)
                                        (case side5 => exact Ck (Kd.R_reads' (Sat.R HG 13 rfl)).2.2)
                                        (case side6 => exact (Kd.R_reads' (Sat.R HG 13 rfl)).2.1)
                                        rintro e w149 ⟨v306, rfl, ho0, hb⟩
                                        refine ⟨_, rfl, ?_⟩
                                        replace HG := Sat.mkR HG hb ho0
                                        (try clear hb)
                                        (try clear hb2)
                                        (try clear hk)
                                        (try clear hi)
                                        (try clear ho0)
                                        refine hK.out _ _ ⟨(blk_cell (Sat.B HG 15 rfl) 0).trans rfl, (blk_cell (Sat.B HG 15 rfl) 1).trans rfl, (blk_cell (Sat.B HG 16 rfl) 0).trans rfl, (blk_cell (Sat.B HG 16 rfl) 1).trans rfl⟩ (fun hHeld => ?_)
                                        clear hK K
                                        refine NM ?_
                                        refine PU 7 115 ?_
                                        refine PU 8 123 ?_
                                        refine PU 9 124 ?_
                                        exact norm_ (by first | (simp only [putAll, Act.put, List.setIfInBounds_toArray, List.set_cons_zero, List.set_cons_succ]; done) | (simp only [putAll, Act.put, List.setIfInBounds_toArray, List.set_cons_zero, List.set_cons_succ]; rfl)) (hJ1_3_5_6_10 (.slice Ao146 t293.length co146, .slice Ao147 t297.length co147, .slice Ao148 t301.length co148, v306, gb309) _ ⟨hHeld, Sat.pick HG [1, 2, 3, 4, 5, 6, 7, 8, 9, 10, 11, 12, 13, 14, 0, 15, 16, 17, 18, 19, 20, 21]⟩)
                                    · skip
                                      rintro ⟨v294, v298, v302, v306⟩ w148 ⟨hS_, hG1_⟩
                                      replace HG := hG1_
                                      clear hG1_
                                      have hHeld : w148.cell? ⟨gb227, 0, none⟩ = some (.int .i64 a1_0) ∧ w148.cell? ⟨gb227, 1, none⟩ = some (.slice A1_1 l1_1.length c1_1) ∧ w148.cell? ⟨gb228, 0, none⟩ = some (.int .i64 a2_0) ∧ w148.cell? ⟨gb228, 1, none⟩ = some (.slice A2_1 l2_1.length c2_1) := hS_
                                      refine norm_ (a' := ?_) ?_ ?_
                                      rotate_left
                                      · simp only [putAll, Act.put, List.setIfInBounds_toArray, List.set_cons_zero, List.set_cons_succ]
                                        rfl
                                      refine ON 10 18 (fun K hK => ?_)
                                      refine box_step ?hg (N := 18) ?hd (cs := #[.int .i64 0, .slice none 0 0]) (t := 46) ?hr ?_; (case hd => rfl); (case hg => rfl); (case hr => first | (go_simp; done) | (go_simp; rfl))
                                      intro gb309 hg w149 hbox hb
                                      replace HG := Sat.box HG hg hbox hb
                                      clear hb hbox hg
                                      refine hK.out _ _ ⟨(blk_cell (Sat.B HG 16 rfl) 0).trans rfl, (blk_cell (Sat.B HG 16 rfl) 1).trans rfl, (blk_cell (Sat.B HG 17 rfl) 0).trans rfl, (blk_cell (Sat.B HG 17 rfl) 1).trans rfl⟩ (fun hHeld => ?_)
                                      clear hK K
                                      refine NM ?_
                                      exact norm_ (by first | (simp only [putAll, Act.put, List.setIfInBounds_toArray, List.set_cons_zero, List.set_cons_succ]; done) | (simp only [putAll, Act.put, List.setIfInBounds_toArray, List.set_cons_zero, List.set_cons_succ]; rfl)) (hJ1_3_5_6_10 (v294, v298, v302, v306, gb309) _ ⟨hHeld, Sat.pick HG [1, 2, 3, 4, 5, 6, 7, 8, 9, 10, 11, 12, 13, 14, 15, 16, 17, 18, 19, 20, 21, 0]⟩)
                                  rintro ⟨v294, v298, v302, v306, gb309⟩ w149 ⟨hS_, hG1_⟩
                                  replace HG := hG1_
                                  clear hG1_
                                  have hHeld : w149.cell? ⟨gb227, 0, none⟩ = some (.int .i64 a1_0) ∧ w149.cell? ⟨gb227, 1, none⟩ = some (.slice A1_1 l1_1.length c1_1) ∧ w149.cell? ⟨gb228, 0, none⟩ = some (.int .i64 a2_0) ∧ w149.cell? ⟨gb228, 1, none⟩ = some (.slice A2_1 l2_1.length c2_1) := hS_
                                  obtain ⟨Ao151, co151, eo151⟩ := Kd.R_slice (Sat.R HG 14 rfl)
                                  (first | subst eo151 | (injection eo151 with f1_ f2_ f3_; have f4_ := f1_.symm; have f5_ := f3_.symm; clear f1_ f2_ f3_; subst f4_; subst f5_))
                                  refine norm_ (a' := ?_) ?_ ?_
                                  rotate_left
                                  · simp only [putAll, Act.put, List.setIfInBounds_toArray, List.set_cons_zero, List.set_cons_succ]
                                    rfl
                                  refine one_ (i := 11) (N := none) #[true, true, true, true, true, true, true, true, true, true, true, true, false] rfl rfl (one_of HT_.out (by kernel_rfl)) (by decide) (fun K hK => ?_)
                                  have hs150 : w149.cell? ⟨gb309, 0, none⟩ = some (.int .i64 0) := (blk_cell (Sat.B HG 21 rfl) 0).trans rfl
                                  have hfs150 := blk_frozen (Sat.B HG 21 rfl) 0
                                  have hns150_0 := (Sat.ne HG 15 21 (by decide) rfl rfl)
                                  have hns150_1 := (Sat.ne HG 16 21 (by decide) rfl rfl)
                                  have hns150_2 := (Sat.ne HG 17 21 (by decide) rfl rfl)
                                  have hns150_3 := (Sat.ne HG 18 21 (by decide) rfl rfl)
                                  have hns150_4 := (Sat.ne HG 19 21 (by decide) rfl rfl)
                                  have hns150_5 := (Sat.ne HG 20 21 (by decide) rfl rfl)
                                  have hms150_0 := (Sat.ne HG 21 15 (by decide) rfl rfl)
                                  have hms150_1 := (Sat.ne HG 21 16 (by decide) rfl rfl)
                                  have hms150_2 := (Sat.ne HG 21 17 (by decide) rfl rfl)
                                  have hms150_3 := (Sat.ne HG 21 18 (by decide) rfl rfl)
                                  have hms150_4 := (Sat.ne HG 21 19 (by decide) rfl rfl)
                                  have hms150_5 := (Sat.ne HG 21 20 (by decide) rfl rfl)
                                  have hs152 : w149.cell? ⟨gb309, 1, none⟩ = some (.slice none 0 0) := (blk_cell (Sat.B HG 21 rfl) 1).trans rfl
                                  have hfs152 := blk_frozen (Sat.B HG 21 rfl) 1
                                  have hns152_0 := (Sat.ne HG 15 21 (by decide) rfl rfl)
                                  have hns152_1 := (Sat.ne HG 16 21 (by decide) rfl rfl)
                                  have hns152_2 := (Sat.ne HG 17 21 (by decide) rfl rfl)
                                  have hns152_3 := (Sat.ne HG 18 21 (by decide) rfl rfl)
                                  have hns152_4 := (Sat.ne HG 19 21 (by decide) rfl rfl)
                                  have hns152_5 := (Sat.ne HG 20 21 (by decide) rfl rfl)
                                  have hms152_0 := (Sat.ne HG 21 15 (by decide) rfl rfl)
                                  have hms152_1 := (Sat.ne HG 21 16 (by decide) rfl rfl)
                                  have hms152_2 := (Sat.ne HG 21 17 (by decide) rfl rfl)
                                  have hms152_3 := (Sat.ne HG 21 18 (by decide) rfl rfl)
                                  have hms152_4 := (Sat.ne HG 21 19 (by decide) rfl rfl)
                                  have hms152_5 := (Sat.ne HG 21 20 (by decide) rfl rfl)
                                  refine skip_ (w1 := ?_) (by rfl) rfl ?_ ?_
                                  rotate_left
                                  · go_simp
                                    rfl
                                  refine hK.out _ _ ⟨((cell_far (p := ⟨gb309, _, none⟩) (Sat.ne HG 15 21 (by decide) rfl rfl) _).trans (((cell_far (p := ⟨gb309, _, none⟩) (Sat.ne HG 15 21 (by decide) rfl rfl) _).trans (hHeld.1)))), ((cell_far (p := ⟨gb309, _, none⟩) (Sat.ne HG 15 21 (by decide) rfl rfl) _).trans (((cell_far (p := ⟨gb309, _, none⟩) (Sat.ne HG 15 21 (by decide) rfl rfl) _).trans (hHeld.2.1)))), ((cell_far (p := ⟨gb309, _, none⟩) (Sat.ne HG 16 21 (by decide) rfl rfl) _).trans (((cell_far (p := ⟨gb309, _, none⟩) (Sat.ne HG 16 21 (by decide) rfl rfl) _).trans (hHeld.2.2.1)))), ((cell_far (p := ⟨gb309, _, none⟩) (Sat.ne HG 16 21 (by decide) rfl rfl) _).trans (((cell_far (p := ⟨gb309, _, none⟩) (Sat.ne HG 16 21 (by decide) rfl rfl) _).trans (hHeld.2.2.2))))⟩ (fun hHeld => ?_)
                                  clear hK K
                                  refine PU 12 19 ?_
                                  refine done_ (done_of HT_.out (by kernel_rfl)) ?_
                                  have hnb153 := (Sat.ne HG 21 15 (by decide) rfl rfl)
                                  have hnc153 := (Sat.ne HG 15 21 (by decide) rfl rfl)
                                  have hnb154 := (Sat.ne HG 21 16 (by decide) rfl rfl)
                                  have hnc154 := (Sat.ne HG 16 21 (by decide) rfl rfl)
                                  have hnb155 := (Sat.ne HG 21 17 (by decide) rfl rfl)
                                  have hnc155 := (Sat.ne HG 17 21 (by decide) rfl rfl)
                                  have hnb156 := (Sat.ne HG 21 18 (by decide) rfl rfl)
                                  have hnc156 := (Sat.ne HG 18 21 (by decide) rfl rfl)
                                  have hnb157 := (Sat.ne HG 21 19 (by decide) rfl rfl)
                                  have hnc157 := (Sat.ne HG 19 21 (by decide) rfl rfl)
                                  have hnb158 := (Sat.ne HG 21 20 (by decide) rfl rfl)
                                  have hnc158 := (Sat.ne HG 20 21 (by decide) rfl rfl)
                                  have hcz159_0 : w149.cell? ⟨gb309, 0, none⟩ = some (.int .i64 0) := (blk_cell (Sat.B HG 21 rfl) 0).trans rfl
                                  have hcz159_1 : w149.cell? ⟨gb309, 1, none⟩ = some (.slice none 0 0) := (blk_cell (Sat.B HG 21 rfl) 1).trans rfl
                                  have hfz159_0 := blk_frozen (Sat.B HG 21 rfl) 0
                                  have hfz159_1 := blk_frozen (Sat.B HG 21 rfl) 1
                                  have hcz160_0 : w149.cell? ⟨gb248, 0, none⟩ = some (.int .i64 t243) := (blk_cell (Sat.B HG 17 rfl) 0).trans rfl
                                  have hcz160_1 : w149.cell? ⟨gb248, 1, none⟩ = some (.slice Ao82 t244.length co82) := (blk_cell (Sat.B HG 17 rfl) 1).trans rfl
                                  have hfz160_0 := blk_frozen (Sat.B HG 17 rfl) 0
                                  have hfz160_1 := blk_frozen (Sat.B HG 17 rfl) 1
                                  try go_wp2_with (((with_reducible refine gC 31 ?_); replace HG := Sat.put HG 21 0 (.int .i64 t304) #[.int .i64 t304, .slice none 0 0]; replace HG := Sat.put HG 21 1 (.slice Ao151 t305.length co151) #[.int .i64 t304, .slice Ao151 t305.length co151]; refine GL (some 127) Try.func31 #[.agg #[.int .i64 t304, .slice Ao151 t305.length co151], .agg #[.int .i64 t243, .slice Ao82 t244.length co82]] ?_; (with_reducible refine (laws_eqWeighting.calls k t304 _ _ t305 t243 _ _ t244 true _ ?side1 ?side2 ?side3 ?side4 A58.out).mono ?_); (case side1 => exact Ck (Kd.R_reads' (Sat.R HG 14 rfl)).2.2); (case side2 => exact (Kd.R_reads' (Sat.R HG 14 rfl)).2.1); (case side3 => exact Ck (Kd.R_reads' (Sat.R HG 3 rfl)).2.2); (case side4 => exact (Kd.R_reads' (Sat.R HG 3 rfl)).2.1); rintro e w161 ⟨rfl, hb⟩; refine ⟨_, rfl, ?_⟩; replace HG := Sat.rd HG hb; (try clear hb); (try clear hb2); (try clear hk); (try clear hi); have hcz162_0 : w161.cell? ⟨gb267, 0, none⟩ = some (.int .i64 t262) := (blk_cell (Sat.B HG 20 rfl) 0).trans rfl; have hcz162_1 : w161.cell? ⟨gb267, 1, none⟩ = some (.slice Ao114 t263.length co114) := (blk_cell (Sat.B HG 20 rfl) 1).trans rfl; have hfz162_0 := blk_frozen (Sat.B HG 20 rfl) 0; have hfz162_1 := blk_frozen (Sat.B HG 20 rfl) 1); go_wp2_with (((with_reducible refine gC 43 ?_); refine goesL_ (some 136) rfl rfl Try.func43 (by kernel_rfl) rfl #[.agg #[.int .i64 t262, .slice Ao114 t291.length co114], .int .i64 1] rfl (by (try simp only [List.map_toArray, List.map_cons, List.map_nil]); first | done | (rw [show t291.length = t263.length from (Kd.R_reads' (Sat.R HG 7 rfl)).1.symm] <;> rfl) | rfl | (simp only [List.length_drop, List.length_take]; rfl)) ?_; (with_reducible refine (laws_heldWeighting.calls k t262 _ _ t291 1 t311 _ ?side1 ?side2 A61.out).mono ?_); (case side1 => exact Ck (Kd.R_reads' (Sat.R HG 7 rfl)).2.2); (case side2 => rw [show t291.length = t263.length from (Kd.R_reads' (Sat.R HG 7 rfl)).1.symm]; exact (Kd.R_reads' (Sat.R HG 7 rfl)).2.1); rintro e w163 ⟨rfl, hb⟩; refine ⟨_, rfl, ?_⟩; replace HG := Sat.rd HG hb; (try clear hb); (try clear hb2); (try clear hk); (try clear hi))))
                                  go_ret
                                  exact ⟨Fin, Bw HG⟩
                                · rw [if_neg c63] at H
                                  have c63b0 : (t311 == t290) = false := beq_eq_false_iff_ne.mpr c63
                                  have c63b1 : (t311 != t290) = true := bne_iff_ne.mpr c63
                                  exact absurd (H.trans (congrArg some hrt)) (by simp)
                            · rw [if_neg c60] at H
                              have c60b0 : (t308 == t247) = false := beq_eq_false_iff_ne.mpr c60
                              have c60b1 : (t308 != t247) = true := bne_iff_ne.mpr c60
                              exact absurd (H.trans (congrArg some hrt)) (by simp)
                          · replace c59 := Bool.eq_false_iff.mpr c59
                            subst c59
                            rw [if_neg (show ¬ (false = true) by decide)] at H
                            exact absurd (H.trans (congrArg some hrt)) (by simp)
                        · rw [if_neg c53] at H
                          have c53b0 : (t292 == t290) = false := beq_eq_false_iff_ne.mpr c53
                          have c53b1 : (t292 != t290) = true := bne_iff_ne.mpr c53
                          exact absurd (H.trans (congrArg some hrt)) (by simp)
                    · replace c49 := Bool.eq_false_iff.mpr c49
                      subst c49
                      rw [if_neg (show ¬ (false = true) by decide)] at H
                      exact absurd (H.trans (congrArg some hrt)) (by simp)
                · replace c43 := Bool.eq_false_iff.mpr c43
                  subst c43
                  rw [if_neg (show ¬ (false = true) by decide)] at H
                  exact absurd (H.trans (congrArg some hrt)) (by simp)
              · replace c40 := Bool.eq_false_iff.mpr c40
                subst c40
                rw [if_neg (show ¬ (false = true) by decide)] at H
                exact absurd (H.trans (congrArg some hrt)) (by simp)
            · replace c37 := Bool.eq_false_iff.mpr c37
              subst c37
              rw [if_neg (show ¬ (false = true) by decide)] at H
              exact absurd (H.trans (congrArg some hrt)) (by simp)
          · rw [if_neg c34] at H
            have c34b0 : (t266 == t247) = false := beq_eq_false_iff_ne.mpr c34
            have c34b1 : (t266 != t247) = true := bne_iff_ne.mpr c34
            exact absurd (H.trans (congrArg some hrt)) (by simp)
        · replace c33 := Bool.eq_false_iff.mpr c33
          subst c33
          rw [if_neg (show ¬ (false = true) by decide)] at H
          exact absurd (H.trans (congrArg some hrt)) (by simp)

end Go.Proofs.Ytkmlgfihoaneeaa.XFnExactAddWeightings
