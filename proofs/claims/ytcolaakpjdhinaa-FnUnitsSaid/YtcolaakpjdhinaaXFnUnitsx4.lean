-- Written by ext.py (wip/) over the kit's print: not trusted, Lean checks it.
import Derived.Test.YtcolaakpjdhinaaXFnUnitsx0
import Derived.Test.YtcolaakpjdhinaaXFnUnitsx3
namespace Go.Proofs.Ytcolaakpjdhinaa.XFnUnits
open Go.RowKit Go.Proofs.YtcolaakpjdhinaaW.PrintWords Go.Proofs.YtcolaakpjdhinaaW.PrintLast Go.Proofs.YtcolaakpjdhinaaW.PrintMore
attribute [local go_sem] max2_int min2_int max_two min_two max_three min_three max_four min_four   -- for this text's walks alone
set_option linter.unusedVariables false
set_option linter.unusedSimpArgs false

/-! ### spec_l01Abs: function 39 -/
def spec_l01Abs.f (a0 : Int) : Option (Int) := some (mx a0 (wrap64 (-a0)))
set_option maxHeartbeats 8000000 in
set_option maxRecDepth 100000 in
theorem spec_l01Abs.calls (a0 : Int) (r : Int) (w : World) (h : spec_l01Abs.f a0 = some r) :
    Calls Try.prog 39 #[.int .i64 a0] w fun e w' => e = .returned (.int .i64 r) ∧ Below w.heap.size w w' := by
  have HB := Aside0.mk (Below.refl w.heap.size w)
  have H : (some (mx a0 (wrap64 (-a0)))) = some r := h
  clear h
  obtain ⟨ji2, hji2⟩ : ∃ j_ : Int, (mx a0 (wrap64 (-a0))) = j_ := ⟨_, rfl⟩
  replace H : (some ji2) = some r := by first | (rw [hji2] at H; exact H) | (simp only [hji2] at H ⊢; exact H)
  have hji2_ : (if a0 < (wrap64 (-a0)) then (wrap64 (-a0)) else a0) = ji2 := hji2
  obtain rfl := Option.some.inj H
  go_enter Try.func39, Try.ntmps39
  go_wp2
  go_ret
  exact ⟨by first | rfl | (simp [errW_none, errW_some] <;> rfl) | (simp only [← hji2]; first | rfl | (simp [errW_none, errW_some] <;> rfl)) | (simp [*, errW_none, errW_some] <;> rfl), Hb⟩

/-! ### spec_l20Clause: function 38 -/
def spec_l20Clause.l0 : Nat → List Int → Int → Int → Option (Bool)
  | 0, _, _, _ => none
  | k + 1, x0, x1, x5 => if x5 < (x0.length : Int) then (if 0 ≤ x5 then (if (rd x0 x5) = 0 then (some false) else ((spec_l01In.f (rd x0 x5) (wrap64 (-x1)) x1).bind fun t232 => (if t232 = true then (if x5 > 0 then ((spec_l01Abs.f (rd x0 x5)).bind fun t234 => (if 0 ≤ (wrap64 (x5 - 1)) then (if (wrap64 (x5 - 1)) < (x0.length : Int) then ((spec_l01Abs.f (rd x0 (wrap64 (x5 - 1)))).bind fun t236 => (if t234 ≤ t236 then (some false) else (spec_l20Clause.l0 k x0 x1 (wrap64 (x5 + 1))))) else (none)) else (none))) else (spec_l20Clause.l0 k x0 x1 (wrap64 (x5 + 1)))) else (some false)))) else (none)) else (some true)
def spec_l20Clause.f (k : Nat) (l0 : List Int) (a1 : Int) : Option (Bool) := spec_l20Clause.l0 k l0 a1 0
theorem spec_l20Clause.mono_l : ∀ k, (∀ y0 y1 y2, LeO (spec_l20Clause.l0 k y0 y1 y2) (spec_l20Clause.l0 (k + 1) y0 y1 y2))
  | 0 => fun _ _ _ r h => by simp [spec_l20Clause.l0] at h
  | k + 1 => by
    have ih0 := spec_l20Clause.mono_l k
    · intro y0 y1 y2
      unfold spec_l20Clause.l0
      repeat' first
      | (with_reducible exact ih0 _ _ _)
      | (with_reducible exact LeO.refl _)
      | (with_reducible exact LeO.none _)
      | (with_reducible refine LeO.ite ?_ ?_)
      | (with_reducible refine LeO.bind ?_ (fun _ => ?_))
      | exact ih0 _ _ _
      | exact LeO.none _
      | refine LeO.ite ?_ ?_
      | refine LeO.bind ?_ (fun _ => ?_)
theorem spec_l20Clause.mono : ∀ a0 a1 k, LeO (spec_l20Clause.f k a0 a1) (spec_l20Clause.f (k + 1) a0 a1) := by
  intro a0 a1 k
  have ih0 := spec_l20Clause.mono_l k
  unfold spec_l20Clause.f
  repeat' first
      | (with_reducible exact ih0 _ _ _)
      | (with_reducible exact LeO.refl _)
      | (with_reducible exact LeO.none _)
      | (with_reducible refine LeO.ite ?_ ?_)
      | (with_reducible refine LeO.bind ?_ (fun _ => ?_))
      | exact ih0 _ _ _
      | exact LeO.none _
      | refine LeO.ite ?_ ?_
      | refine LeO.bind ?_ (fun _ => ?_)
def spec_l20Clause.T4 : Bool × List (List Nat × List Nat) := (true, [([], []), ([], []), ([0, 1], [0, 1]), ([2], [2]), ([3], [3]), ([4], [4]), ([5], [5]), ([5], [5]), ([6, 7, 5], [5, 6, 7]), ([8, 5], [5, 8]), ([5], [5]), ([10, 5], [5, 10]), ([5], [5]), ([9, 11, 12, 5, 5], [5, 9, 11, 12]), ([13, 5], [5, 13]), ([5, 14], [5, 14]), ([15, 13], [15]), ([16], [16]), ([17, 16], [16, 17]), ([18, 16, 16], [16, 18]), ([19], [19]), ([19], [19]), ([20, 21, 19], [19, 20, 21]), ([22, 19], [19, 22]), ([23, 19, 19], [19, 23]), ([19], [19]), ([19], [19]), ([26, 19], [19, 26]), ([25, 27, 19], [19, 25, 27]), ([28, 19], [19, 28]), ([29, 24, 19], [19, 29]), ([24, 30, 19], [19, 24, 30]), ([19, 31, 16], [16, 19, 31]), ([16, 32], [16, 32])])
def spec_l20Clause.B4 : List Nat := [0, 0, 3, 7, 15, 31, 63, 63, 255, 511, 63, 1087, 63, 8191, 16383, 32767, 65535, 131071, 262143, 524287, 1048575, 1048575, 4194303, 8388607, 16777215, 1048575, 1048575, 68157439, 235929599, 504365055, 1073741823, 2147483647, 4294967295, 8589934591]
theorem spec_l20Clause.tab4 : rtab .any (opsOf Try.f38 4) = spec_l20Clause.T4 := by kernel_rfl
theorem spec_l20Clause.bits4 : waitsOk spec_l20Clause.T4.2 spec_l20Clause.B4 = true := by kernel_rfl
set_option maxHeartbeats 8000000 in
set_option maxRecDepth 100000 in
theorem spec_l20Clause.calls (k : Nat) (A0 : Option Addr) (c0 : Nat) (l0 : List Int) (a1 : Int) (r : Bool) (w : World) (hr0 : Kd.C (Kd.int .i64) w A0 l0.length l0) (hc0 : l0.length ≤ c0) (h : spec_l20Clause.f k l0 a1 = some r) :
    Calls Try.prog 38 #[.slice A0 l0.length c0, .int .i64 a1] w fun e w' => e = .returned (.bool r) ∧ Below w.heap.size w w' := by
  have HR0 := Aside0.mk hr0
  have HC0 := Aside0.mk hc0
  clear hr0 hc0
  have HB := Aside0.mk (Below.refl w.heap.size w)
  have H : (spec_l20Clause.l0 k l0 a1 0) = some r := h
  clear h
  have H' := Aside0.mk H
  clear H
  go_enter Try.func38, Try.ntmps38
  go_wp2
  go_loopg [5] k (fun kq v5 w' => ∃ (x5_1 : Int), v5 = .int .i64 x5_1 ∧ Aside0 (spec_l20Clause.l0 kq l0 a1 x5_1 = some r) ∧ Aside0 (kq ≤ k) ∧ Aside0 (Below w.heap.size w w'))
  case atStart => exact ⟨(0), Fs, H', ⟨Nat.le_refl _⟩, ⟨Hb⟩⟩
  case round =>
    clear H'
    try clear p2
    obtain ⟨x5_1, rfl, HA, HK1, HB⟩ := hrel
    cases gk with
    | zero => exact absurd HA.out (by simp [spec_l20Clause.l0])
    | succ k1 =>
      have H := HA.out
      clear HA
      simp only [spec_l20Clause.l0] at H
      by_cases c3 : x5_1 < (l0.length : Int)
      · rw [if_pos c3] at H
        have c3b0 : decide (x5_1 < (l0.length : Int)) = true := decide_eq_true c3
        clear c3
        by_cases c4 : 0 ≤ x5_1
        · rw [if_pos c4] at H
          have c4b0 : decide (0 ≤ x5_1) = true := decide_eq_true c4
          clear c4
          by_cases c5 : (rd l0 x5_1) = 0
          · rw [if_pos c5] at H
            have c5b0 : ((rd l0 x5_1) == 0) = true := beq_iff_eq.mpr c5
            have c5b1 : ((rd l0 x5_1) != 0) = false := bne_eq_false_iff_eq.mpr c5
            clear c5
            obtain rfl := Option.some.inj H
            try go_wp2
            replace HB := Aside0.mk (below_drew1 HB.out)
            have p230 : 0 ≤ (x5_1 : Int) := oD
            have q230 : x5_1 < (l0.length : Int) := oD
            obtain ⟨ad230, e230, hx230_0⟩ := Kd.at_int HR0.out x5_1 p230 q230
            have hw230_0 := hx230_0
            cases e230
            replace hx230_0 := hxb hx230_0
            replace p230 := eq_true p230
            replace q230 := eq_true q230
            refine start_ (n := 34) (S := fun w' => w'.cell? (ad230.add (x5_1).toNat) = some (.int .i64 (rd l0 x5_1))) (ds := []) #[false, false, false, false, false, false, false, false, false, false, false, false, false, false, false, false, false, false, false, false, false, false, false, false, false, false, false, false, false, false, false, false, false, false] (by kernel_rfl) rfl rfl ((hxb hw230_0)) (fun hHeld => ?_); refine with_tabW spec_l20Clause.tab4 spec_l20Clause.bits4 (fun HT_ HW_ => ?_)
            generalize wr.drew = w6 at HB hx230_0 hHeld ⊢
            refine PU 0 12 ?_
            refine PU 1 13 ?_
            refine PU 2 14 ?_
            refine take_ (i := 3) (N := some 15) (v := ?_) (a' := ?_) #[true, true, true, true, false, false, false, false, false, false, false, false, false, false, false, false, false, false, false, false, false, false, false, false, false, false, false, false, false, false, false, false, false, false] rfl rfl (take_ofW HT_.out HW_.out (by kernel_rfl)) (fun _ _ _ h => h) (Or.inl ⟨by rfl, ?_⟩) hHeld ?_ ?_
            rotate_left
            · intro w' s0
              go_simp
              with_reducible rfl
            rotate_left
            · simp only [Act.put, List.setIfInBounds_toArray, List.set_cons_zero, List.set_cons_succ, i64_w, i32_w]
              rfl
            refine PU 4 16 ?_
            refine PU 5 17 ?_
            refine PV 6 18 ?_
            refine PV 7 19 ?_
            refine PV 8 20 ?_
            refine PV 9 21 ?_
            refine PV 10 22 ?_
            refine PV 11 23 ?_
            refine PV 12 24 ?_
            refine PV 13 25 ?_
            refine PV 14 26 ?_
            refine PU 15 27 ?_
            refine PU 16 28 ?_
            refine PV 17 29 ?_
            refine PV 18 30 ?_
            refine PV 19 31 ?_
            refine PV 20 32 ?_
            refine PV 21 33 ?_
            refine PV 22 34 ?_
            refine PV 23 35 ?_
            refine PV 24 36 ?_
            refine PV 25 37 ?_
            refine PV 26 38 ?_
            refine PV 27 39 ?_
            refine PV 28 40 ?_
            refine PV 29 41 ?_
            refine PV 30 42 ?_
            refine PV 31 43 ?_
            refine PV 32 44 ?_
            refine PU 33 45 ?_
            refine done_ (done_of HT_.out (by kernel_rfl)) ?_
            try go_wp2
            go_ret
            exact ⟨Fin, Hb⟩
          · rw [if_neg c5] at H
            have c5b0 : ((rd l0 x5_1) == 0) = false := beq_eq_false_iff_ne.mpr c5
            have c5b1 : ((rd l0 x5_1) != 0) = true := bne_iff_ne.mpr c5
            obtain ⟨t232, A70, H⟩ := Option.bind_eq_some_iff.mp H
            have A7 := Aside0.mk A70
            clear A70
            by_cases c8 : t232 = true
            · subst c8
              rw [if_pos rfl] at H
              by_cases c9 : x5_1 > 0
              · rw [if_pos c9] at H
                have c9b0 : decide (0 < x5_1) = true := decide_eq_true c9
                clear c9
                obtain ⟨t234, A100, H⟩ := Option.bind_eq_some_iff.mp H
                have A10 := Aside0.mk A100
                clear A100
                obtain ⟨ji11, hji11⟩ : ∃ j_ : Int, (wrap64 (x5_1 - 1)) = j_ := ⟨_, rfl⟩
                replace H : (if 0 ≤ (ji11) then (if (ji11) < (l0.length : Int) then ((spec_l01Abs.f (rd l0 (ji11))).bind fun t236 => (if t234 ≤ t236 then (some false) else (spec_l20Clause.l0 k1 l0 a1 (wrap64 (x5_1 + 1))))) else (none)) else (none)) = some r := by first | (rw [hji11] at H; exact H) | (simp only [hji11] at H ⊢; exact H)
                (try rw [hji11] at A7)
                (try rw [hji11] at A10)
                have hji11w : (IntKind.i64.wrap (x5_1 - 1)) = ji11 := (i64_w _).trans hji11
                by_cases c12 : 0 ≤ (ji11)
                · rw [if_pos c12] at H
                  have c12b0 : decide (0 ≤ (ji11)) = true := decide_eq_true c12
                  clear c12
                  by_cases c13 : (ji11) < (l0.length : Int)
                  · rw [if_pos c13] at H
                    have c13b0 : decide ((ji11) < (l0.length : Int)) = true := decide_eq_true c13
                    clear c13
                    obtain ⟨t236, A140, H⟩ := Option.bind_eq_some_iff.mp H
                    have A14 := Aside0.mk A140
                    clear A140
                    by_cases c15 : t234 ≤ t236
                    · rw [if_pos c15] at H
                      have c15b0 : decide (t234 ≤ t236) = true := decide_eq_true c15
                      clear c15
                      obtain rfl := Option.some.inj H
                      try go_wp2
                      replace HB := Aside0.mk (below_drew1 HB.out)
                      have p230 : 0 ≤ (x5_1 : Int) := oD
                      have q230 : x5_1 < (l0.length : Int) := oD
                      obtain ⟨ad230, e230, hx230_0⟩ := Kd.at_int HR0.out x5_1 p230 q230
                      have hw230_0 := hx230_0
                      cases e230
                      replace hx230_0 := hxb hx230_0
                      replace p230 := eq_true p230
                      replace q230 := eq_true q230
                      have p231 : 0 ≤ (x5_1 : Int) := oD
                      have q231 : x5_1 < (l0.length : Int) := oD
                      obtain ⟨ad231, e231, hx231_0⟩ := Kd.at_int HR0.out x5_1 p231 q231
                      have hw231_0 := hx231_0
                      obtain rfl : ad230 = ad231 := (by injection e231)
                      replace hx231_0 := hxb hx231_0
                      replace p231 := eq_true p231
                      replace q231 := eq_true q231
                      have p233 : 0 ≤ (x5_1 : Int) := oD
                      have q233 : x5_1 < (l0.length : Int) := oD
                      obtain ⟨ad233, e233, hx233_0⟩ := Kd.at_int HR0.out x5_1 p233 q233
                      have hw233_0 := hx233_0
                      obtain rfl : ad230 = ad233 := (by injection e233)
                      replace hx233_0 := hxb hx233_0
                      replace p233 := eq_true p233
                      replace q233 := eq_true q233
                      have p235 : 0 ≤ ((ji11) : Int) := oD
                      have q235 : (ji11) < (l0.length : Int) := oD
                      obtain ⟨ad235, e235, hx235_0⟩ := Kd.at_int HR0.out (ji11) p235 q235
                      have hw235_0 := hx235_0
                      obtain rfl : ad230 = ad235 := (by injection e235)
                      replace hx235_0 := hxb hx235_0
                      replace p235 := eq_true p235
                      replace q235 := eq_true q235
                      refine start_ (n := 34) (S := fun w' => w'.cell? (ad230.add (x5_1).toNat) = some (.int .i64 (rd l0 x5_1)) ∧ w'.cell? (ad230.add (x5_1).toNat) = some (.int .i64 (rd l0 x5_1)) ∧ w'.cell? (ad230.add (x5_1).toNat) = some (.int .i64 (rd l0 x5_1)) ∧ w'.cell? (ad230.add ((ji11)).toNat) = some (.int .i64 (rd l0 (ji11)))) (ds := []) #[false, false, false, false, false, false, false, false, false, false, false, false, false, false, false, false, false, false, false, false, false, false, false, false, false, false, false, false, false, false, false, false, false, false] (by kernel_rfl) rfl rfl ⟨(hxb hw230_0), (hxb hw231_0), (hxb hw233_0), (hxb hw235_0)⟩ (fun hHeld => ?_); refine with_tabW spec_l20Clause.tab4 spec_l20Clause.bits4 (fun HT_ HW_ => ?_)
                      generalize wr.drew = w16 at HB hx230_0 hx231_0 hx233_0 hx235_0 hHeld ⊢
                      refine PU 0 12 ?_
                      refine PU 1 13 ?_
                      refine PU 2 14 ?_
                      refine TK 3 15 hHeld ?_
                      refine PU 4 16 ?_
                      refine PU 5 17 ?_
                      refine PU 6 18 ?_
                      refine PU 7 19 ?_
                      refine PU 8 20 ?_
                      refine PU 10 22 ?_
                      refine PU 11 23 ?_
                      refine PU 12 24 ?_
                      refine TK 9 21 hHeld ?_
                      refine ON 13 25 (fun K hK => ?_)
                      refine GO Try.func33 #[.int .i64 (rd l0 x5_1), .int .i64 (wrap64 (-a1)), .int .i64 a1] ?_
                      with_reducible refine (spec_l01In.calls (rd l0 x5_1) (wrap64 (-a1)) a1 true _ A7.out).mono ?_
                      rintro e w' ⟨rfl, ⟨nd, rfl⟩⟩
                      refine ⟨_, rfl, ?_⟩
                      refine hK.out _ _ ⟨(hxb hw230_0), (hxb hw231_0), (hxb hw233_0), (hxb hw235_0)⟩ (fun hHeld => ?_)
                      clear hK K
                      refine NM 25 ?_
                      refine PU 14 26 ?_
                      refine PU 15 27 ?_
                      refine PU 16 28 ?_
                      refine PU 17 29 ?_
                      refine PU 18 30 ?_
                      refine PU 19 31 ?_
                      refine PU 20 32 ?_
                      refine PU 21 33 ?_
                      refine PU 22 34 ?_
                      refine PU 25 37 ?_
                      refine PU 26 38 ?_
                      refine PU 27 39 ?_
                      refine PU 28 40 ?_
                      refine TK 23 35 hHeld ?_
                      refine TK 29 41 hHeld ?_
                      refine ON 24 36 (fun K hK => ?_)
                      refine GO Try.func39 #[.int .i64 (rd l0 x5_1)] ?_
                      with_reducible refine (spec_l01Abs.calls (rd l0 x5_1) t234 _ A10.out).mono ?_
                      rintro e w17 ⟨rfl, hb⟩
                      refine ⟨_, rfl, ?_⟩
                      replace HB := Aside0.mk (below_step Hb hb)
                      (try clear hb)
                      (try clear hb2)
                      (try clear hk)
                      (try clear hi)
                      refine hK.out _ _ ⟨(hxb hw230_0), (hxb hw231_0), (hxb hw233_0), (hxb hw235_0)⟩ (fun hHeld => ?_)
                      clear hK K
                      refine NM 36 ?_
                      refine ON 30 42 (fun K hK => ?_)
                      refine goes_ Try.func39 (by kernel_rfl) rfl #[.int .i64 (rd l0 (ji11))] (by rfl) rfl rfl (by (try simp only [List.map_toArray, List.map_cons, List.map_nil]); first | done | (simp only [hji11]; rfl) | rfl | (simp only [List.length_drop, List.length_take]; rfl)) ?_
                      with_reducible refine (spec_l01Abs.calls (rd l0 (ji11)) t236 _ A14.out).mono ?_
                      rintro e w18 ⟨rfl, hb⟩
                      refine ⟨_, rfl, ?_⟩
                      replace HB := Aside0.mk (below_step Hb hb)
                      (try clear hb)
                      (try clear hb2)
                      (try clear hk)
                      (try clear hi)
                      refine hK.out _ _ ⟨(hxb hw230_0), (hxb hw231_0), (hxb hw233_0), (hxb hw235_0)⟩ (fun hHeld => ?_)
                      clear hK K
                      refine NM 42 ?_
                      refine PU 31 43 ?_
                      refine PU 32 44 ?_
                      refine PU 33 45 ?_
                      refine done_ (done_of HT_.out (by kernel_rfl)) ?_
                      try go_wp2
                      go_ret
                      exact ⟨by first | rfl | (simp [errW_none, errW_some] <;> rfl) | (simp only [← hji11]; first | rfl | (simp [errW_none, errW_some] <;> rfl)) | (simp [*, errW_none, errW_some] <;> rfl), Hb⟩
                    · rw [if_neg c15] at H
                      have c15b0 : decide (t234 ≤ t236) = false := decide_eq_false c15
                      clear c15
                      have H' := Aside0.mk H
                      clear H
                      try go_wp2
                      replace HB := Aside0.mk (below_drew1 HB.out)
                      have p230 : 0 ≤ (x5_1 : Int) := oD
                      have q230 : x5_1 < (l0.length : Int) := oD
                      obtain ⟨ad230, e230, hx230_0⟩ := Kd.at_int HR0.out x5_1 p230 q230
                      have hw230_0 := hx230_0
                      cases e230
                      replace hx230_0 := hxb hx230_0
                      replace p230 := eq_true p230
                      replace q230 := eq_true q230
                      have p231 : 0 ≤ (x5_1 : Int) := oD
                      have q231 : x5_1 < (l0.length : Int) := oD
                      obtain ⟨ad231, e231, hx231_0⟩ := Kd.at_int HR0.out x5_1 p231 q231
                      have hw231_0 := hx231_0
                      obtain rfl : ad230 = ad231 := (by injection e231)
                      replace hx231_0 := hxb hx231_0
                      replace p231 := eq_true p231
                      replace q231 := eq_true q231
                      have p233 : 0 ≤ (x5_1 : Int) := oD
                      have q233 : x5_1 < (l0.length : Int) := oD
                      obtain ⟨ad233, e233, hx233_0⟩ := Kd.at_int HR0.out x5_1 p233 q233
                      have hw233_0 := hx233_0
                      obtain rfl : ad230 = ad233 := (by injection e233)
                      replace hx233_0 := hxb hx233_0
                      replace p233 := eq_true p233
                      replace q233 := eq_true q233
                      have p235 : 0 ≤ ((ji11) : Int) := oD
                      have q235 : (ji11) < (l0.length : Int) := oD
                      obtain ⟨ad235, e235, hx235_0⟩ := Kd.at_int HR0.out (ji11) p235 q235
                      have hw235_0 := hx235_0
                      obtain rfl : ad230 = ad235 := (by injection e235)
                      replace hx235_0 := hxb hx235_0
                      replace p235 := eq_true p235
                      replace q235 := eq_true q235
                      refine start_ (n := 34) (S := fun w' => w'.cell? (ad230.add (x5_1).toNat) = some (.int .i64 (rd l0 x5_1)) ∧ w'.cell? (ad230.add (x5_1).toNat) = some (.int .i64 (rd l0 x5_1)) ∧ w'.cell? (ad230.add (x5_1).toNat) = some (.int .i64 (rd l0 x5_1)) ∧ w'.cell? (ad230.add ((ji11)).toNat) = some (.int .i64 (rd l0 (ji11)))) (ds := []) #[false, false, false, false, false, false, false, false, false, false, false, false, false, false, false, false, false, false, false, false, false, false, false, false, false, false, false, false, false, false, false, false, false, false] (by kernel_rfl) rfl rfl ⟨(hxb hw230_0), (hxb hw231_0), (hxb hw233_0), (hxb hw235_0)⟩ (fun hHeld => ?_); refine with_tabW spec_l20Clause.tab4 spec_l20Clause.bits4 (fun HT_ HW_ => ?_)
                      generalize wr.drew = w19 at HB hx230_0 hx231_0 hx233_0 hx235_0 hHeld ⊢
                      refine PU 0 12 ?_
                      refine PU 1 13 ?_
                      refine PU 2 14 ?_
                      refine TK 3 15 hHeld ?_
                      refine PU 4 16 ?_
                      refine PU 5 17 ?_
                      refine PU 6 18 ?_
                      refine PU 7 19 ?_
                      refine PU 8 20 ?_
                      refine PU 10 22 ?_
                      refine PU 11 23 ?_
                      refine PU 12 24 ?_
                      refine TK 9 21 hHeld ?_
                      refine ON 13 25 (fun K hK => ?_)
                      refine GO Try.func33 #[.int .i64 (rd l0 x5_1), .int .i64 (wrap64 (-a1)), .int .i64 a1] ?_
                      with_reducible refine (spec_l01In.calls (rd l0 x5_1) (wrap64 (-a1)) a1 true _ A7.out).mono ?_
                      rintro e w' ⟨rfl, ⟨nd, rfl⟩⟩
                      refine ⟨_, rfl, ?_⟩
                      refine hK.out _ _ ⟨(hxb hw230_0), (hxb hw231_0), (hxb hw233_0), (hxb hw235_0)⟩ (fun hHeld => ?_)
                      clear hK K
                      refine NM 25 ?_
                      refine PU 14 26 ?_
                      refine PU 15 27 ?_
                      refine PU 16 28 ?_
                      refine PU 17 29 ?_
                      refine PU 18 30 ?_
                      refine PU 19 31 ?_
                      refine PU 20 32 ?_
                      refine PU 21 33 ?_
                      refine PU 22 34 ?_
                      refine PU 25 37 ?_
                      refine PU 26 38 ?_
                      refine PU 27 39 ?_
                      refine PU 28 40 ?_
                      refine TK 23 35 hHeld ?_
                      refine TK 29 41 hHeld ?_
                      refine ON 24 36 (fun K hK => ?_)
                      refine GO Try.func39 #[.int .i64 (rd l0 x5_1)] ?_
                      with_reducible refine (spec_l01Abs.calls (rd l0 x5_1) t234 _ A10.out).mono ?_
                      rintro e w20 ⟨rfl, hb⟩
                      refine ⟨_, rfl, ?_⟩
                      replace HB := Aside0.mk (below_step Hb hb)
                      (try clear hb)
                      (try clear hb2)
                      (try clear hk)
                      (try clear hi)
                      refine hK.out _ _ ⟨(hxb hw230_0), (hxb hw231_0), (hxb hw233_0), (hxb hw235_0)⟩ (fun hHeld => ?_)
                      clear hK K
                      refine NM 36 ?_
                      refine ON 30 42 (fun K hK => ?_)
                      refine goes_ Try.func39 (by kernel_rfl) rfl #[.int .i64 (rd l0 (ji11))] (by rfl) rfl rfl (by (try simp only [List.map_toArray, List.map_cons, List.map_nil]); first | done | (simp only [hji11]; rfl) | rfl | (simp only [List.length_drop, List.length_take]; rfl)) ?_
                      with_reducible refine (spec_l01Abs.calls (rd l0 (ji11)) t236 _ A14.out).mono ?_
                      rintro e w21 ⟨rfl, hb⟩
                      refine ⟨_, rfl, ?_⟩
                      replace HB := Aside0.mk (below_step Hb hb)
                      (try clear hb)
                      (try clear hb2)
                      (try clear hk)
                      (try clear hi)
                      refine hK.out _ _ ⟨(hxb hw230_0), (hxb hw231_0), (hxb hw233_0), (hxb hw235_0)⟩ (fun hHeld => ?_)
                      clear hK K
                      refine NM 42 ?_
                      refine PU 31 43 ?_
                      refine PU 32 44 ?_
                      refine PU 33 45 ?_
                      refine done_ (done_of HT_.out (by kernel_rfl)) ?_
                      try go_wp2
                      go_roundg k1
                      case measure => have := HK1.out; omega
                      case rel => exact ⟨(wrap64 (x5_1 + 1)), Fs, H', ⟨by have := HK1.out; omega⟩, ⟨Hb⟩⟩
                  · rw [if_neg c13] at H
                    exact absurd H (by simp)
                · rw [if_neg c12] at H
                  exact absurd H (by simp)
              · rw [if_neg c9] at H
                have c9b0 : decide (0 < x5_1) = false := decide_eq_false c9
                clear c9
                have H' := Aside0.mk H
                clear H
                try go_wp2
                replace HB := Aside0.mk (below_drew1 HB.out)
                have p230 : 0 ≤ (x5_1 : Int) := oD
                have q230 : x5_1 < (l0.length : Int) := oD
                obtain ⟨ad230, e230, hx230_0⟩ := Kd.at_int HR0.out x5_1 p230 q230
                have hw230_0 := hx230_0
                cases e230
                replace hx230_0 := hxb hx230_0
                replace p230 := eq_true p230
                replace q230 := eq_true q230
                have p231 : 0 ≤ (x5_1 : Int) := oD
                have q231 : x5_1 < (l0.length : Int) := oD
                obtain ⟨ad231, e231, hx231_0⟩ := Kd.at_int HR0.out x5_1 p231 q231
                have hw231_0 := hx231_0
                obtain rfl : ad230 = ad231 := (by injection e231)
                replace hx231_0 := hxb hx231_0
                replace p231 := eq_true p231
                replace q231 := eq_true q231
                refine start_ (n := 34) (S := fun w' => w'.cell? (ad230.add (x5_1).toNat) = some (.int .i64 (rd l0 x5_1)) ∧ w'.cell? (ad230.add (x5_1).toNat) = some (.int .i64 (rd l0 x5_1))) (ds := []) #[false, false, false, false, false, false, false, false, false, false, false, false, false, false, false, false, false, false, false, false, false, false, false, false, false, false, false, false, false, false, false, false, false, false] (by kernel_rfl) rfl rfl ⟨(hxb hw230_0), (hxb hw231_0)⟩ (fun hHeld => ?_); refine with_tabW spec_l20Clause.tab4 spec_l20Clause.bits4 (fun HT_ HW_ => ?_)
                generalize wr.drew = w22 at HB hx230_0 hx231_0 hHeld ⊢
                refine PU 0 12 ?_
                refine PU 1 13 ?_
                refine PU 2 14 ?_
                refine TK 3 15 hHeld ?_
                refine PU 4 16 ?_
                refine PU 5 17 ?_
                refine PU 6 18 ?_
                refine PU 7 19 ?_
                refine PU 8 20 ?_
                refine PU 10 22 ?_
                refine PU 11 23 ?_
                refine PU 12 24 ?_
                refine TK 9 21 hHeld ?_
                refine ON 13 25 (fun K hK => ?_)
                refine GO Try.func33 #[.int .i64 (rd l0 x5_1), .int .i64 (wrap64 (-a1)), .int .i64 a1] ?_
                with_reducible refine (spec_l01In.calls (rd l0 x5_1) (wrap64 (-a1)) a1 true _ A7.out).mono ?_
                rintro e w' ⟨rfl, ⟨nd, rfl⟩⟩
                refine ⟨_, rfl, ?_⟩
                refine hK.out _ _ ⟨(hxb hw230_0), (hxb hw231_0)⟩ (fun hHeld => ?_)
                clear hK K
                refine NM 25 ?_
                refine PU 14 26 ?_
                refine PU 15 27 ?_
                refine PU 16 28 ?_
                refine PU 17 29 ?_
                refine PU 18 30 ?_
                refine PU 19 31 ?_
                refine PV 20 32 ?_
                refine PV 21 33 ?_
                refine PV 22 34 ?_
                refine PV 23 35 ?_
                refine PV 24 36 ?_
                refine PV 25 37 ?_
                refine PV 26 38 ?_
                refine PV 27 39 ?_
                refine PV 28 40 ?_
                refine PV 29 41 ?_
                refine PV 30 42 ?_
                refine PV 31 43 ?_
                refine PU 32 44 ?_
                refine PU 33 45 ?_
                refine done_ (done_of HT_.out (by kernel_rfl)) ?_
                try go_wp2
                go_roundg k1
                case measure => have := HK1.out; omega
                case rel => exact ⟨(wrap64 (x5_1 + 1)), Fs, H', ⟨by have := HK1.out; omega⟩, ⟨Hb⟩⟩
            · replace c8 := Bool.eq_false_iff.mpr c8
              subst c8
              rw [if_neg (show ¬ (false = true) by decide)] at H
              obtain rfl := Option.some.inj H
              try go_wp2
              replace HB := Aside0.mk (below_drew1 HB.out)
              have p230 : 0 ≤ (x5_1 : Int) := oD
              have q230 : x5_1 < (l0.length : Int) := oD
              obtain ⟨ad230, e230, hx230_0⟩ := Kd.at_int HR0.out x5_1 p230 q230
              have hw230_0 := hx230_0
              cases e230
              replace hx230_0 := hxb hx230_0
              replace p230 := eq_true p230
              replace q230 := eq_true q230
              have p231 : 0 ≤ (x5_1 : Int) := oD
              have q231 : x5_1 < (l0.length : Int) := oD
              obtain ⟨ad231, e231, hx231_0⟩ := Kd.at_int HR0.out x5_1 p231 q231
              have hw231_0 := hx231_0
              obtain rfl : ad230 = ad231 := (by injection e231)
              replace hx231_0 := hxb hx231_0
              replace p231 := eq_true p231
              replace q231 := eq_true q231
              refine start_ (n := 34) (S := fun w' => w'.cell? (ad230.add (x5_1).toNat) = some (.int .i64 (rd l0 x5_1)) ∧ w'.cell? (ad230.add (x5_1).toNat) = some (.int .i64 (rd l0 x5_1))) (ds := []) #[false, false, false, false, false, false, false, false, false, false, false, false, false, false, false, false, false, false, false, false, false, false, false, false, false, false, false, false, false, false, false, false, false, false] (by kernel_rfl) rfl rfl ⟨(hxb hw230_0), (hxb hw231_0)⟩ (fun hHeld => ?_); refine with_tabW spec_l20Clause.tab4 spec_l20Clause.bits4 (fun HT_ HW_ => ?_)
              generalize wr.drew = w23 at HB hx230_0 hx231_0 hHeld ⊢
              refine PU 0 12 ?_
              refine PU 1 13 ?_
              refine PU 2 14 ?_
              refine TK 3 15 hHeld ?_
              refine PU 4 16 ?_
              refine PU 5 17 ?_
              refine PU 6 18 ?_
              refine PU 7 19 ?_
              refine PU 8 20 ?_
              refine PU 10 22 ?_
              refine PU 11 23 ?_
              refine PU 12 24 ?_
              refine TK 9 21 hHeld ?_
              refine ON 13 25 (fun K hK => ?_)
              refine GO Try.func33 #[.int .i64 (rd l0 x5_1), .int .i64 (wrap64 (-a1)), .int .i64 a1] ?_
              with_reducible refine (spec_l01In.calls (rd l0 x5_1) (wrap64 (-a1)) a1 false _ A7.out).mono ?_
              rintro e w' ⟨rfl, ⟨nd, rfl⟩⟩
              refine ⟨_, rfl, ?_⟩
              refine hK.out _ _ ⟨(hxb hw230_0), (hxb hw231_0)⟩ (fun hHeld => ?_)
              clear hK K
              refine NM 25 ?_
              refine PU 14 26 ?_
              refine PU 15 27 ?_
              refine PU 16 28 ?_
              refine PV 17 29 ?_
              refine PV 18 30 ?_
              refine PV 19 31 ?_
              refine PV 20 32 ?_
              refine PV 21 33 ?_
              refine PV 22 34 ?_
              refine PV 23 35 ?_
              refine PV 24 36 ?_
              refine PV 25 37 ?_
              refine PV 26 38 ?_
              refine PV 27 39 ?_
              refine PV 28 40 ?_
              refine PV 29 41 ?_
              refine PV 30 42 ?_
              refine PV 31 43 ?_
              refine PV 32 44 ?_
              refine PU 33 45 ?_
              refine done_ (done_of HT_.out (by kernel_rfl)) ?_
              try go_wp2
              go_ret
              exact ⟨Fin, Hb⟩
        · rw [if_neg c4] at H
          exact absurd H (by simp)
      · rw [if_neg c3] at H
        have c3b0 : decide (x5_1 < (l0.length : Int)) = false := decide_eq_false c3
        clear c3
        obtain rfl := Option.some.inj H
        go_wp2
        go_ret
        exact ⟨Fin, Hb⟩

/-! ### spec_IsFormula: function 28 -/
mutual
def spec_IsFormula.j0 : Nat → Bool → Int → List (List Int) → Option (Bool)
  | 0, _, _, _ => none
  | k + 1, x13, x238000, x238001 => if x13 = true then (some false) else (spec_IsFormula.l0 k 0 x238000 x238001)
def spec_IsFormula.l0 : Nat → Int → Int → List (List Int) → Option (Bool)
  | 0, _, _, _ => none
  | k + 1, x3, x238000, x238001 => if x3 < (x238001.length : Int) then (if 0 ≤ x3 then ((spec_l20Clause.f k (rd_L2 x238001 x3) x238000).bind fun t240 => (if t240 = true then (spec_IsFormula.l0 k (wrap64 (x3 + 1)) x238000 x238001) else (some false))) else (none)) else (some true)
end
def spec_IsFormula.f (k : Nat) (a0_0 : Int) (l0_1 : List (List Int)) : Option (Bool) := (spec_l01In.f a0_0 0 400).bind fun t238 => (if t238 = true then (spec_IsFormula.j0 k (decide ((l0_1.length : Int) > 20000)) a0_0 l0_1) else (spec_IsFormula.j0 k true a0_0 l0_1))
theorem spec_IsFormula.mono_l : ∀ k, (∀ y0 y1 y2, LeO (spec_IsFormula.j0 k y0 y1 y2) (spec_IsFormula.j0 (k + 1) y0 y1 y2)) ∧ (∀ y0 y1 y2, LeO (spec_IsFormula.l0 k y0 y1 y2) (spec_IsFormula.l0 (k + 1) y0 y1 y2))
  | 0 => ⟨fun _ _ _ r h => by simp [spec_IsFormula.j0] at h, fun _ _ _ r h => by simp [spec_IsFormula.l0] at h⟩
  | k + 1 => by
    obtain ⟨ih0, ih1⟩ := spec_IsFormula.mono_l k
    refine ⟨?_, ?_⟩
    · intro y0 y1 y2
      unfold spec_IsFormula.j0
      repeat' first
      | (with_reducible exact ih0 _ _ _)
      | (with_reducible exact ih1 _ _ _)
      | (with_reducible exact spec_l20Clause.mono _ _ _)
      | (with_reducible exact LeO.refl _)
      | (with_reducible exact LeO.none _)
      | (with_reducible refine LeO.ite ?_ ?_)
      | (with_reducible refine LeO.bind ?_ (fun _ => ?_))
      | exact ih0 _ _ _
      | exact ih1 _ _ _
      | exact spec_l20Clause.mono _ _ _
      | exact LeO.none _
      | refine LeO.ite ?_ ?_
      | refine LeO.bind ?_ (fun _ => ?_)
    · intro y0 y1 y2
      unfold spec_IsFormula.l0
      repeat' first
      | (with_reducible exact ih0 _ _ _)
      | (with_reducible exact ih1 _ _ _)
      | (with_reducible exact spec_l20Clause.mono _ _ _)
      | (with_reducible exact LeO.refl _)
      | (with_reducible exact LeO.none _)
      | (with_reducible refine LeO.ite ?_ ?_)
      | (with_reducible refine LeO.bind ?_ (fun _ => ?_))
      | exact ih0 _ _ _
      | exact ih1 _ _ _
      | exact spec_l20Clause.mono _ _ _
      | exact LeO.none _
      | refine LeO.ite ?_ ?_
      | refine LeO.bind ?_ (fun _ => ?_)
theorem spec_IsFormula.mono : ∀ a0 a1 k, LeO (spec_IsFormula.f k a0 a1) (spec_IsFormula.f (k + 1) a0 a1) := by
  intro a0 a1 k
  obtain ⟨ih0, ih1⟩ := spec_IsFormula.mono_l k
  unfold spec_IsFormula.f
  repeat' first
      | (with_reducible exact ih0 _ _ _)
      | (with_reducible exact ih1 _ _ _)
      | (with_reducible exact spec_l20Clause.mono _ _ _)
      | (with_reducible exact LeO.refl _)
      | (with_reducible exact LeO.none _)
      | (with_reducible refine LeO.ite ?_ ?_)
      | (with_reducible refine LeO.bind ?_ (fun _ => ?_))
      | exact ih0 _ _ _
      | exact ih1 _ _ _
      | exact spec_l20Clause.mono _ _ _
      | exact LeO.none _
      | refine LeO.ite ?_ ?_
      | refine LeO.bind ?_ (fun _ => ?_)
def spec_IsFormula.T6 : Bool × List (List Nat × List Nat) := (true, [([], []), ([0], [0]), ([], []), ([1, 2], [1, 2]), ([3], [3]), ([], []), ([5], [5]), ([4, 6], [4, 6]), ([7], [7])])
def spec_IsFormula.B6 : List Nat := [0, 1, 0, 7, 15, 0, 32, 127, 255]
theorem spec_IsFormula.tab6 : rtab .any (opsOf Try.f28 6) = spec_IsFormula.T6 := by kernel_rfl
theorem spec_IsFormula.bits6 : waitsOk spec_IsFormula.T6.2 spec_IsFormula.B6 = true := by kernel_rfl
set_option maxHeartbeats 8000000 in
set_option maxRecDepth 100000 in
theorem spec_IsFormula.calls (k : Nat) (a0_0 : Int) (A0_1 : Option Addr) (c0_1 : Nat) (l0_1 : List (List Int)) (r : Bool) (w : World) (hr0_1 : Kd.C (Kd.slice 2 (Kd.int .i64)) w A0_1 l0_1.length l0_1) (hc0_1 : l0_1.length ≤ c0_1) (h : spec_IsFormula.f k a0_0 l0_1 = some r) :
    Calls Try.prog 28 #[.agg #[.int .i64 a0_0, .slice A0_1 l0_1.length c0_1]] w fun e w' => e = .returned (.bool r) ∧ Below w.heap.size w w' := by
  have hu26 := Try.underlying26
  have HR0_1 := Aside0.mk hr0_1
  have HC0_1 := Aside0.mk hc0_1
  clear hr0_1 hc0_1
  have HB := Aside0.mk (Below.refl w.heap.size w)
  have H : ((spec_l01In.f a0_0 0 400).bind fun t238 => (if t238 = true then (spec_IsFormula.j0 k (decide ((l0_1.length : Int) > 20000)) a0_0 l0_1) else (spec_IsFormula.j0 k true a0_0 l0_1))) = some r := h
  clear h
  have HC2 := Aside0.mk H
  clear H
  go_enter Try.func28, Try.ntmps28
  go_upto_region 1 with (first | ((with_reducible refine gD 1 ?_); (try (refine gate_guard (by rfl) ?_; dsimp only)); refine BX #[.int .i64 a0_0, .slice A0_1 l0_1.length c0_1] 26 ?_; intro gb237 hg w3 hbox hb; have BK237 := Aside0.mk (hbox); have GW237 := Aside0.mk ((Gle hg Hb : w.heap.size ≤ gb237)); have GE237 := Aside0.mk ((Gle hg Hb : w.heap.size ≤ gb237)); replace HB := Aside0.mk (below_step Hb hb); clear hb hbox hg))
  (try simp only [Act.put, List.setIfInBounds_toArray, List.set_cons_zero, List.set_cons_succ])
  go_cut [13] (fun v13 wc => ∃ (kq : Nat) (x13_1 : Bool), v13 = .bool x13_1 ∧ Aside0 (spec_IsFormula.j0 kq x13_1 a0_0 l0_1 = some r) ∧ Aside0 (kq ≤ k) ∧ Aside0 (wc.heap[gb237]? = some (.cells #[.int .i64 a0_0, (.slice A0_1 l0_1.length c0_1)] 26 (0, 0))) ∧ Aside0 (Below w.heap.size w wc))
  case first =>
    have H := HC2.out
    clear HC2
    obtain ⟨t238, A40, H⟩ := Option.bind_eq_some_iff.mp H
    have A4 := Aside0.mk A40
    clear A40
    by_cases c5 : t238 = true
    · subst c5
      rw [if_pos rfl] at H
      have H' := Aside0.mk H
      clear H
      have hcz6_0 : w3.cell? ⟨gb237, 0, none⟩ = some (.int .i64 a0_0) := bc BK237
      have hcz6_1 : w3.cell? ⟨gb237, 1, none⟩ = some (.slice A0_1 l0_1.length c0_1) := bc BK237
      have hfz6_0 := blk_frozen BK237.out 0
      have hfz6_1 := blk_frozen BK237.out 1
      go_wp2_with (first | ((with_reducible refine gC 33 ?_); refine GL (some 6) Try.func33 #[.int .i64 a0_0, .int .i64 0, .int .i64 400] ?_; (with_reducible refine (spec_l01In.calls a0_0 0 400 true _ A4.out).mono ?_); rintro e w' ⟨rfl, ⟨nd, rfl⟩⟩; refine ⟨_, rfl, ?_⟩))
      go_meet
      case rel => exact ⟨_, (decide ((l0_1.length : Int) > 20000)), Fs, H', ⟨by first | omega | exact Nat.le_refl _⟩, ⟨B1 BK237⟩, ⟨Hb⟩⟩
    · replace c5 := Bool.eq_false_iff.mpr c5
      subst c5
      rw [if_neg (show ¬ (false = true) by decide)] at H
      have H' := Aside0.mk H
      clear H
      have hcz7_0 : w3.cell? ⟨gb237, 0, none⟩ = some (.int .i64 a0_0) := bc BK237
      have hcz7_1 : w3.cell? ⟨gb237, 1, none⟩ = some (.slice A0_1 l0_1.length c0_1) := bc BK237
      have hfz7_0 := blk_frozen BK237.out 0
      have hfz7_1 := blk_frozen BK237.out 1
      go_wp2_with (first | ((with_reducible refine gC 33 ?_); refine GL (some 6) Try.func33 #[.int .i64 a0_0, .int .i64 0, .int .i64 400] ?_; (with_reducible refine (spec_l01In.calls a0_0 0 400 false _ A4.out).mono ?_); rintro e w' ⟨rfl, ⟨nd, rfl⟩⟩; refine ⟨_, rfl, ?_⟩))
      go_meet
      case rel => exact ⟨_, (true), Fs, H', ⟨by first | omega | exact Nat.le_refl _⟩, ⟨B1 BK237⟩, ⟨Hb⟩⟩
  case rest =>
    clear HC2
    try clear c2
    try clear p2
    try clear c3
    try clear c5
    try clear hcz6_0
    try clear hcz6_1
    try clear hcz7_0
    try clear hcz7_1
    try clear hfz6_0
    try clear hfz6_1
    try clear hfz7_0
    try clear hfz7_1
    obtain ⟨kq, x13_1, rfl, HA, HJ1, BK237, HB⟩ := hcut
    cases kq with
    | zero => exact absurd HA.out (by simp [spec_IsFormula.j0])
    | succ kj1 =>
      have H := HA.out
      clear HA
      simp only [spec_IsFormula.j0] at H
      by_cases c8 : x13_1 = true
      · subst c8
        rw [if_pos rfl] at H
        obtain rfl := Option.some.inj H
        go_wp2
        go_ret
        exact ⟨Fin, Hb⟩
      · replace c8 := Bool.eq_false_iff.mpr c8
        subst c8
        rw [if_neg (show ¬ (false = true) by decide)] at H
        have H' := Aside0.mk H
        clear H
        go_wp2
        go_loopg [3] kj1 (fun kq v3 w' => ∃ (x3_2 : Int), v3 = .int .i64 x3_2 ∧ Aside0 (spec_IsFormula.l0 kq x3_2 a0_0 l0_1 = some r) ∧ Aside0 (kq ≤ kj1) ∧ Aside0 (w'.heap[gb237]? = some (.cells #[.int .i64 a0_0, (.slice A0_1 l0_1.length c0_1)] 26 (0, 0))) ∧ Aside0 (Below w.heap.size w w'))
        case atStart => exact ⟨(0), Fs, H', ⟨Nat.le_refl _⟩, ⟨B1 BK237⟩, ⟨Hb⟩⟩
        case round =>
          clear H'
          try clear c2
          try clear p2
          try clear c3
          try clear c5
          try clear c8
          try clear hcz6_0
          try clear hcz6_1
          try clear hcz7_0
          try clear hcz7_1
          try clear hfz6_0
          try clear hfz6_1
          try clear hfz7_0
          try clear hfz7_1
          try clear p2
          obtain ⟨x3_2, rfl, HA, HK2, BK237, HB⟩ := hrel
          cases gk with
          | zero => exact absurd HA.out (by simp [spec_IsFormula.l0])
          | succ k2 =>
            have H := HA.out
            clear HA
            simp only [spec_IsFormula.l0] at H
            by_cases c9 : x3_2 < (l0_1.length : Int)
            · rw [if_pos c9] at H
              have c9b0 : decide (x3_2 < (l0_1.length : Int)) = true := decide_eq_true c9
              clear c9
              by_cases c10 : 0 ≤ x3_2
              · rw [if_pos c10] at H
                have c10b0 : decide (0 ≤ x3_2) = true := decide_eq_true c10
                clear c10
                obtain ⟨t240, A110, H⟩ := Option.bind_eq_some_iff.mp H
                have A11 := Aside0.mk A110
                clear A110
                by_cases c12 : t240 = true
                · subst c12
                  rw [if_pos rfl] at H
                  have H' := Aside0.mk H
                  clear H
                  have hcz13_0 : wr.cell? ⟨gb237, 0, none⟩ = some (.int .i64 a0_0) := bc BK237
                  have hcz13_1 : wr.cell? ⟨gb237, 1, none⟩ = some (.slice A0_1 l0_1.length c0_1) := bc BK237
                  have hfz13_0 := blk_frozen BK237.out 0
                  have hfz13_1 := blk_frozen BK237.out 1
                  try go_wp2
                  replace BK237 := Aside0.mk (blk_drew BK237.out)
                  replace HB := Aside0.mk (below_drew1 HB.out)
                  have p239 : 0 ≤ (x3_2 : Int) := oD
                  have q239 : x3_2 < (l0_1.length : Int) := oD
                  obtain ⟨ad239, A239_0, c239_0, e239, hx239_0, hl239_0, hi239_0⟩ := at_L2 HR0_1.out x3_2 p239 q239
                  have hw239_0 := hx239_0
                  cases e239
                  replace hx239_0 := hxb hx239_0
                  have HR239_0 := Aside0.mk hi239_0
                  have HC239_0 := Aside0.mk hl239_0
                  clear hi239_0 hl239_0
                  replace p239 := eq_true p239
                  replace q239 := eq_true q239
                  refine start_ (n := 9) (S := fun w' => w'.cell? ⟨gb237, 0, none⟩ = some (.int .i64 a0_0) ∧ w'.cell? ⟨gb237, 1, none⟩ = some (.slice (some ad239) l0_1.length c0_1) ∧ w'.cell? (ad239.add (x3_2).toNat) = some (.slice A239_0 (rd_L2 l0_1 x3_2).length c239_0)) (ds := []) #[false, false, false, false, false, false, false, false, false] (by kernel_rfl) rfl rfl ⟨(blk_cell BK237.out 0).trans rfl, (blk_cell BK237.out 1).trans rfl, (hxb hw239_0)⟩ (fun hHeld => ?_); refine with_tabW spec_IsFormula.tab6 spec_IsFormula.bits6 (fun HT_ HW_ => ?_)
                  generalize wr.drew = w14 at BK237 HB HR239_0 hx239_0 hHeld ⊢
                  refine PU 0 21 ?_
                  refine PU 2 23 ?_
                  refine PU 5 26 ?_
                  refine TK 1 22 hHeld ?_
                  refine PU 3 24 ?_
                  refine TK 4 25 hHeld ?_
                  refine TK 6 27 hHeld ?_
                  refine ON 7 28 (fun K hK => ?_)
                  refine GO Try.func38 #[.slice A239_0 (rd_L2 l0_1 x3_2).length c239_0, .int .i64 a0_0] ?_
                  with_reducible refine (spec_l20Clause.calls k2 _ _ (rd_L2 l0_1 x3_2) a0_0 true _ ?side1 ?side2 A11.out).mono ?_
                  (case side1 => exact Kd.C_below HR239_0.out Hb)
                  (case side2 => exact HC239_0.out)
                  rintro e w15 ⟨rfl, hb⟩
                  refine ⟨_, rfl, ?_⟩
                  replace BK237 := Aside0.mk (blk_below (B1 BK237) hb)
                  replace HB := Aside0.mk (below_step Hb hb)
                  (try clear hb)
                  (try clear hb2)
                  (try clear hk)
                  (try clear hi)
                  refine hK.out _ _ ⟨(blk_cell BK237.out 0).trans rfl, (blk_cell BK237.out 1).trans rfl, (hxb hw239_0)⟩ (fun hHeld => ?_)
                  clear hK K
                  refine NM 28 ?_
                  refine PU 8 29 ?_
                  refine done_ (done_of HT_.out (by kernel_rfl)) ?_
                  try go_wp2
                  go_roundg k2
                  case measure => have := HJ1.out; have := HK2.out; omega
                  case rel => exact ⟨(wrap64 (x3_2 + 1)), Fs, H', ⟨by have := HJ1.out; have := HK2.out; omega⟩, ⟨B1 BK237⟩, ⟨Hb⟩⟩
                · replace c12 := Bool.eq_false_iff.mpr c12
                  subst c12
                  rw [if_neg (show ¬ (false = true) by decide)] at H
                  obtain rfl := Option.some.inj H
                  have hcz16_0 : wr.cell? ⟨gb237, 0, none⟩ = some (.int .i64 a0_0) := bc BK237
                  have hcz16_1 : wr.cell? ⟨gb237, 1, none⟩ = some (.slice A0_1 l0_1.length c0_1) := bc BK237
                  have hfz16_0 := blk_frozen BK237.out 0
                  have hfz16_1 := blk_frozen BK237.out 1
                  try go_wp2
                  replace BK237 := Aside0.mk (blk_drew BK237.out)
                  replace HB := Aside0.mk (below_drew1 HB.out)
                  have p239 : 0 ≤ (x3_2 : Int) := oD
                  have q239 : x3_2 < (l0_1.length : Int) := oD
                  obtain ⟨ad239, A239_0, c239_0, e239, hx239_0, hl239_0, hi239_0⟩ := at_L2 HR0_1.out x3_2 p239 q239
                  have hw239_0 := hx239_0
                  cases e239
                  replace hx239_0 := hxb hx239_0
                  have HR239_0 := Aside0.mk hi239_0
                  have HC239_0 := Aside0.mk hl239_0
                  clear hi239_0 hl239_0
                  replace p239 := eq_true p239
                  replace q239 := eq_true q239
                  refine start_ (n := 9) (S := fun w' => w'.cell? ⟨gb237, 0, none⟩ = some (.int .i64 a0_0) ∧ w'.cell? ⟨gb237, 1, none⟩ = some (.slice (some ad239) l0_1.length c0_1) ∧ w'.cell? (ad239.add (x3_2).toNat) = some (.slice A239_0 (rd_L2 l0_1 x3_2).length c239_0)) (ds := []) #[false, false, false, false, false, false, false, false, false] (by kernel_rfl) rfl rfl ⟨(blk_cell BK237.out 0).trans rfl, (blk_cell BK237.out 1).trans rfl, (hxb hw239_0)⟩ (fun hHeld => ?_); refine with_tabW spec_IsFormula.tab6 spec_IsFormula.bits6 (fun HT_ HW_ => ?_)
                  generalize wr.drew = w17 at BK237 HB HR239_0 hx239_0 hHeld ⊢
                  refine PU 0 21 ?_
                  refine PU 2 23 ?_
                  refine PU 5 26 ?_
                  refine TK 1 22 hHeld ?_
                  refine PU 3 24 ?_
                  refine TK 4 25 hHeld ?_
                  refine TK 6 27 hHeld ?_
                  refine ON 7 28 (fun K hK => ?_)
                  refine GO Try.func38 #[.slice A239_0 (rd_L2 l0_1 x3_2).length c239_0, .int .i64 a0_0] ?_
                  with_reducible refine (spec_l20Clause.calls k2 _ _ (rd_L2 l0_1 x3_2) a0_0 false _ ?side1 ?side2 A11.out).mono ?_
                  (case side1 => exact Kd.C_below HR239_0.out Hb)
                  (case side2 => exact HC239_0.out)
                  rintro e w18 ⟨rfl, hb⟩
                  refine ⟨_, rfl, ?_⟩
                  replace BK237 := Aside0.mk (blk_below (B1 BK237) hb)
                  replace HB := Aside0.mk (below_step Hb hb)
                  (try clear hb)
                  (try clear hb2)
                  (try clear hk)
                  (try clear hi)
                  refine hK.out _ _ ⟨(blk_cell BK237.out 0).trans rfl, (blk_cell BK237.out 1).trans rfl, (hxb hw239_0)⟩ (fun hHeld => ?_)
                  clear hK K
                  refine NM 28 ?_
                  refine PU 8 29 ?_
                  refine done_ (done_of HT_.out (by kernel_rfl)) ?_
                  try go_wp2
                  go_ret
                  exact ⟨Fin, Hb⟩
              · rw [if_neg c10] at H
                exact absurd H (by simp)
            · rw [if_neg c9] at H
              have c9b0 : decide (x3_2 < (l0_1.length : Int)) = false := decide_eq_false c9
              clear c9
              obtain rfl := Option.some.inj H
              have hcz19_0 : wr.cell? ⟨gb237, 0, none⟩ = some (.int .i64 a0_0) := bc BK237
              have hcz19_1 : wr.cell? ⟨gb237, 1, none⟩ = some (.slice A0_1 l0_1.length c0_1) := bc BK237
              have hfz19_0 := blk_frozen BK237.out 0
              have hfz19_1 := blk_frozen BK237.out 1
              go_wp2
              go_ret
              exact ⟨Fin, Hb⟩

end Go.Proofs.Ytcolaakpjdhinaa.XFnUnits
