-- Written by ext.py (wip/) over the kit's print: not trusted, Lean checks it.
import Derived.Test.YtpnlidfebnkgmaaXFnWeightSumsx0
import Derived.Test.YtpnlidfebnkgmaaXFnWeightSumsx2
import Derived.Test.YtpnlidfebnkgmaaXFnWeightSumsx3
import Derived.Test.YtpnlidfebnkgmaaXFnWeightSumsx4
namespace Go.Proofs.Ytpnlidfebnkgmaa.XFnWeightSums
open Go.RowKit Go.Proofs.YtpnlidfebnkgmaaW.PrintWords Go.Proofs.YtpnlidfebnkgmaaW.PrintLast Go.Proofs.YtpnlidfebnkgmaaW.PrintMore
attribute [local go_sem] max2_int min2_int max_two min_two max_three min_three max_four min_four   -- for this text's walks alone
set_option linter.unusedVariables false
set_option linter.unusedSimpArgs false

/-! ### spec_l05Without: function 75 -/
def spec_l05Without.f (l0 : List (S68)) (a1 : Int) : Option ((List (S68))) := (some (([] : List (S68)) : List (S68))).bind fun y255 => (if 0 ≤ a1 then (if a1 ≤ (l0.length : Int) then ((some (l0.take (a1 : Int).toNat : List (S68))).bind fun y258 => (if y255.length + y258.length < 8796093022208 then ((some (y255 ++ y258 : List (S68))).bind fun y262 => (if 0 ≤ (wrap64 (a1 + 1)) then (if (wrap64 (a1 + 1)) ≤ (l0.length : Int) then ((some (l0.drop ((wrap64 (a1 + 1)) : Int).toNat : List (S68))).bind fun y265 => (if y262.length + y265.length < 8796093022208 then (some (y262 ++ y265)) else (none))) else (none)) else (none))) else (none))) else (none)) else (none))
def spec_l05Without.T1 : Bool × List (List Nat × List Nat) := (true, [([], []), ([], []), ([], []), ([1, 2], [1, 2]), ([0, 3], [0, 3]), ([], []), ([], []), ([6], [6]), ([5, 7], [5, 7]), ([4, 8, 4], [4, 8]), ([9, 9, 0, 1, 2, 3, 4, 5, 6, 7, 8, 9], [9])])
def spec_l05Without.B1 : List Nat := [0, 0, 0, 6, 15, 0, 0, 64, 224, 511, 1023]
theorem spec_l05Without.tab1 : rtab .any (opsOf Try.f75 1) = spec_l05Without.T1 := by kernel_rfl
theorem spec_l05Without.bits1 : waitsOk spec_l05Without.T1.2 spec_l05Without.B1 = true := by kernel_rfl
set_option maxHeartbeats 8000000 in
set_option maxRecDepth 100000 in
theorem spec_l05Without.calls (A0 : Option Addr) (c0 : Nat) (l0 : List (S68)) (a1 : Int) (r : List (S68)) (w : World) (hr0 : Kd.C k68 w A0 l0.length l0) (hc0 : l0.length ≤ c0) (h : spec_l05Without.f l0 a1 = some r) :
    Calls Try.prog 75 #[.slice A0 l0.length c0, .int .i64 a1] w fun e w' => ∃ v0_ : Value, e = .returned (v0_) ∧ Kd.R k68 68 w' w.heap.size (fun _ => True) v0_ r ∧ Below w.heap.size w w' := by
  have HR0 := Aside0.mk hr0
  have HC0 := Aside0.mk hc0
  clear hr0 hc0
  have HB := Aside0.mk (Below.refl w.heap.size w)
  have H : ((some (([] : List (S68)) : List (S68))).bind fun y255 => (if 0 ≤ a1 then (if a1 ≤ (l0.length : Int) then ((some (l0.take (a1 : Int).toNat : List (S68))).bind fun y258 => (if y255.length + y258.length < 8796093022208 then ((some (y255 ++ y258 : List (S68))).bind fun y262 => (if 0 ≤ (wrap64 (a1 + 1)) then (if (wrap64 (a1 + 1)) ≤ (l0.length : Int) then ((some (l0.drop ((wrap64 (a1 + 1)) : Int).toNat : List (S68))).bind fun y265 => (if y262.length + y265.length < 8796093022208 then (some (y262 ++ y265)) else (none))) else (none)) else (none))) else (none))) else (none)) else (none))) = some r := h
  clear h
  obtain ⟨y255, hy255⟩ : ∃ y_ : List (S68), y_ = (([] : List (S68))) := ⟨_, rfl⟩
  replace H : (if 0 ≤ a1 then (if a1 ≤ (l0.length : Int) then ((some (l0.take (a1 : Int).toNat : List (S68))).bind fun y258 => (if y255.length + y258.length < 8796093022208 then ((some (y255 ++ y258 : List (S68))).bind fun y262 => (if 0 ≤ (wrap64 (a1 + 1)) then (if (wrap64 (a1 + 1)) ≤ (l0.length : Int) then ((some (l0.drop ((wrap64 (a1 + 1)) : Int).toNat : List (S68))).bind fun y265 => (if y262.length + y265.length < 8796093022208 then (some (y262 ++ y265)) else (none))) else (none)) else (none))) else (none))) else (none)) else (none)) = some r := by first | (rw [hy255]; with_reducible exact H) | (have H2_ := (Option.bind_some _ _).symm.trans H; rw [hy255]; with_reducible exact H2_) | (have H2_ := (Option.bind_some _ _).symm.trans H; with_reducible exact H2_) | with_reducible exact H | (rw [hy255]; exact H) | exact H
  have Ny255 := Aside0.mk hy255
  clear hy255
  by_cases c3 : 0 ≤ a1
  · rw [if_pos c3] at H
    have c3b0 := eq_true c3
    have c3b1 : decide (0 ≤ a1) = true := decide_eq_true c3
    clear c3
    by_cases c4 : a1 ≤ (l0.length : Int)
    · rw [if_pos c4] at H
      have c4b0 := eq_true c4
      have c4b1 : decide (a1 ≤ (l0.length : Int)) = true := decide_eq_true c4
      clear c4
      obtain ⟨y258, hy258⟩ : ∃ y_ : List (S68), y_ = (l0.take (a1 : Int).toNat) := ⟨_, rfl⟩
      replace H : (if y255.length + y258.length < 8796093022208 then ((some (y255 ++ y258 : List (S68))).bind fun y262 => (if 0 ≤ (wrap64 (a1 + 1)) then (if (wrap64 (a1 + 1)) ≤ (l0.length : Int) then ((some (l0.drop ((wrap64 (a1 + 1)) : Int).toNat : List (S68))).bind fun y265 => (if y262.length + y265.length < 8796093022208 then (some (y262 ++ y265)) else (none))) else (none)) else (none))) else (none)) = some r := by first | (rw [hy258]; with_reducible exact H) | (have H2_ := (Option.bind_some _ _).symm.trans H; rw [hy258]; with_reducible exact H2_) | (have H2_ := (Option.bind_some _ _).symm.trans H; with_reducible exact H2_) | with_reducible exact H | (rw [hy258]; exact H) | exact H
      have Ny258 := Aside0.mk hy258
      clear hy258
      by_cases c5 : y255.length + y258.length < 8796093022208
      · rw [if_pos c5] at H
        have LMc5 := Aside0.mk c5
        clear c5
        obtain ⟨y262, hy262⟩ : ∃ y_ : List (S68), y_ = (y255 ++ y258) := ⟨_, rfl⟩
        replace H : (if 0 ≤ (wrap64 (a1 + 1)) then (if (wrap64 (a1 + 1)) ≤ (l0.length : Int) then ((some (l0.drop ((wrap64 (a1 + 1)) : Int).toNat : List (S68))).bind fun y265 => (if y262.length + y265.length < 8796093022208 then (some (y262 ++ y265)) else (none))) else (none)) else (none)) = some r := by first | (rw [hy262]; with_reducible exact H) | (have H2_ := (Option.bind_some _ _).symm.trans H; rw [hy262]; with_reducible exact H2_) | (have H2_ := (Option.bind_some _ _).symm.trans H; with_reducible exact H2_) | with_reducible exact H | (rw [hy262]; exact H) | exact H
        have Ny262 := Aside0.mk hy262
        clear hy262
        obtain ⟨ji6, hji6⟩ : ∃ j_ : Int, (wrap64 (a1 + 1)) = j_ := ⟨_, rfl⟩
        replace H : (if 0 ≤ (ji6) then (if (ji6) ≤ (l0.length : Int) then ((some (l0.drop ((ji6) : Int).toNat : List (S68))).bind fun y265 => (if y262.length + y265.length < 8796093022208 then (some (y262 ++ y265)) else (none))) else (none)) else (none)) = some r := by first | (rw [hji6] at H; exact H) | (simp only [hji6] at H ⊢; exact H)
        have hji6w : (IntKind.i64.wrap (a1 + 1)) = ji6 := (i64_w _).trans hji6
        by_cases c7 : 0 ≤ (ji6)
        · rw [if_pos c7] at H
          have c7b0 := eq_true c7
          have c7b1 : decide (0 ≤ (ji6)) = true := decide_eq_true c7
          clear c7
          by_cases c8 : (ji6) ≤ (l0.length : Int)
          · rw [if_pos c8] at H
            have c8b0 := eq_true c8
            have c8b1 : decide ((ji6) ≤ (l0.length : Int)) = true := decide_eq_true c8
            clear c8
            obtain ⟨y265, hy265⟩ : ∃ y_ : List (S68), y_ = (l0.drop ((ji6) : Int).toNat) := ⟨_, rfl⟩
            replace H : (if y262.length + y265.length < 8796093022208 then (some (y262 ++ y265)) else (none)) = some r := by first | (rw [hy265]; with_reducible exact H) | (have H2_ := (Option.bind_some _ _).symm.trans H; rw [hy265]; with_reducible exact H2_) | (have H2_ := (Option.bind_some _ _).symm.trans H; with_reducible exact H2_) | with_reducible exact H | (rw [hy265]; exact H) | exact H
            have Ny265 := Aside0.mk hy265
            clear hy265
            by_cases c9 : y262.length + y265.length < 8796093022208
            · rw [if_pos c9] at H
              have LMc9 := Aside0.mk c9
              clear c9
              obtain ⟨y269, hy269⟩ : ∃ y_ : List (S68), y_ = (y262 ++ y265) := ⟨_, rfl⟩
              replace H : (some y269) = some r := by first | (rw [hy269]; with_reducible exact H) | (have H2_ := (Option.bind_some _ _).symm.trans H; rw [hy269]; with_reducible exact H2_) | (have H2_ := (Option.bind_some _ _).symm.trans H; with_reducible exact H2_) | with_reducible exact H | (rw [hy269]; exact H) | exact H
              have Ny269 := Aside0.mk hy269
              clear hy269
              obtain rfl := Option.some.inj H
              go_enter Try.func75, Try.ntmps75
              try go_wp2
              replace HB := Aside0.mk (below_drew1 HB.out)
              have q11 : (a1 : Int) ≤ ((l0.length : Int) : Int) := oD
              obtain ⟨i011, hi011, _, hsz11, _⟩ := info_parts info68
              have hroom11 : l0.length ≤ c0 := HC0.out
              have hC11 : Kd.C k68 _ A0 l0.length l0 := HR0.out
              have hcut11 := cut_to (P := Try.prog) 24 68 .i64 Try.underlying24 hi011 A0 l0.length c0 a1 (oD) q11 hroom11
              have hr11 := Kd.C_take (m := (a1 : Int).toNat) hC11 (by omega)
              have hy11 : y258.length = (a1 : Int).toNat := (by rw [Ny258.out, List.length_take]; omega)
              rw [← Ny258.out] at hr11
              rw [← hy11] at hcut11
              have HR261 := Aside0.mk hr11
              have HC261 := Aside0.mk (show y258.length ≤ c0 from by omega)
              clear hr11 hC11 hroom11 hi011 hsz11
              have KY11 := Aside0.mk hy11
              clear hy11
              replace q11 := eq_true q11
              have q12 : ((ji6) : Int) ≤ ((l0.length : Int) : Int) := oD
              obtain ⟨i012, hi012, _, hsz12, _⟩ := info_parts info68
              have hroom12 : l0.length ≤ c0 := HC0.out
              have hC12 : Kd.C k68 _ A0 l0.length l0 := HR0.out
              have q012 : (0 : Int) ≤ ((ji6) : Int) := oD
              have hcut12 := cut_from (P := Try.prog) 24 68 .i64 Try.underlying24 hi012 2 hsz12 A0 l0.length c0 (ji6) q012 q12
              have hr12 := Kd.C_drop (m := ((ji6) : Int).toNat) (c := c0) hC12 (by omega) hroom12
              obtain ⟨A12, hA12⟩ : ∃ A1, A1 = (if c0 = ((ji6) : Int).toNat then A0 else (A0 : Option Addr).map (·.add (((ji6) : Int).toNat * 2))) := ⟨_, rfl⟩
              obtain ⟨c12, hc12⟩ : ∃ c1, c1 = c0 - ((ji6) : Int).toNat := ⟨_, rfl⟩
              have hy12 : y265.length = l0.length - ((ji6) : Int).toNat := (by rw [Ny265.out, List.length_drop] <;> omega)
              rw [show (l0).drop ((ji6) : Int).toNat = y265 from Ny265.out.symm] at hr12
              replace hr12 : Kd.C k68 _ A12 y265.length y265 := (by rw [hA12]; exact hr12)
              rw [← hy12, ← hA12, ← hc12] at hcut12
              have HR268 := Aside0.mk hr12
              have HC268 := Aside0.mk (show y265.length ≤ c12 from by rw [hy12, hc12]; exact Nat.sub_le_sub_right hroom12 _)
              clear hr12 hC12 hroom12 hi012 hsz12 hc12
              have KY12 := Aside0.mk hy12
              have KA12 := Aside0.mk hA12
              clear hy12 hA12
              replace q12 := eq_true q12
              refine start_ (n := 11) (S := fun w' => True) (ds := []) #[false, false, false, false, false, false, false, false, false, false, false] (by kernel_rfl) rfl rfl trivial (fun hHeld => ?_); refine with_tabW spec_l05Without.tab1 spec_l05Without.bits1 (fun HT_ HW_ => ?_)
              generalize w.drew = w10 at HB HR261 HR268 hHeld ⊢
              refine PU 1 6 ?_
              refine PU 2 7 ?_
              refine PU 3 8 ?_
              refine PU 5 10 ?_
              refine PU 6 11 ?_
              refine PU 7 12 ?_
              refine PU 8 13 ?_
              refine ON 0 5 (fun K hK => ?_)
              refine Kd.R_lit_step k68 _ 68 ?hg (N := 5) ?hd (xs := ([] : List (S68))) (inner := []) (ok := fun _ => True) (okp := fun _ => True) ?hr ?hp (fun _ hk => hk) trivial (Below.refl _ _) (Nat.le_refl _) (by simp) ?_; (case hd => rfl); (case hg => rfl); (case hr => first | (go_simp; done) | (go_simp; rfl)); (case hp => exact (Reps.none _ _))
              intro v256 w13 ho14 hb hg_ hnew_
              clear hg_ hnew_
              (first | rw [← Ny255.out] at ho14 | (simp only [Int.reduceToNat] at ho14; rw [← Ny255.out] at ho14))
              have HO257 := Aside0.mk (Kd.R_lower ho14 (below_size Hb))
              replace HB := Aside0.mk (below_step Hb hb)
              clear hb ho14
              refine hK.out _ _ trivial (fun hHeld => ?_)
              clear hK K
              refine NM 5 ?_
              refine ON 4 9 (fun K hK => ?_)
              refine Kd.R_append_rows_step k68 (w0 := w) w.heap.size (by rfl) (.tmp 5) (.tmp 8) 24 68 (.agg #[(.int .i64 0), (.int .i64 0)]) 16 rfl Try.underlying24 info68 rfl (by decide) (by omega) v256 y255 y258 _ _ _ (fun _ => True) (fun _ => False) rfl rfl ?aO ?aR (fun _ _ h => h) (fun _ h => h.elim) ?aF ?aB ?aS ?aL ?_
              (case aR => repeat (first | exact (Kd.C_below HR261.out HB.out) | (with_reducible refine Kd.C_alloc ?_ _) | (with_reducible refine Kd.C_drewN ?_ _) | (with_reducible refine Kd.C_drew ?_)))
              (case aB => exact Hb)
              (case aF => exact (fun _ _ => trivial))
              (case aO => exact (R1 HO257))
              (case aS => exact (below_size Hb))
              (case aL => have := LMc5.out; omega)
              intro v263 w15 ho hb hg hat
              rw [← Ny262.out] at ho
              replace HB := Aside0.mk (hb)
              have HO264 := Aside0.mk (ho)
              clear HO257
              clear ho hb hg hat
              refine hK.out _ _ trivial (fun hHeld => ?_)
              clear hK K
              refine NM 9 ?_
              refine ON 9 14 (fun K hK => ?_)
              refine Kd.R_append_rows_step k68 (w0 := w) w.heap.size (by rfl) (.tmp 9) (.tmp 13) 24 68 (.agg #[(.int .i64 0), (.int .i64 0)]) 16 rfl Try.underlying24 info68 rfl (by decide) (by omega) v263 y262 y265 _ _ _ (fun _ => True) (fun _ => False) rfl rfl ?aO ?aR (fun _ _ h => h) (fun _ h => h.elim) ?aF ?aB ?aS ?aL ?_
              (case aR => repeat (first | exact (Kd.C_below HR268.out HB.out) | (with_reducible refine Kd.C_alloc ?_ _) | (with_reducible refine Kd.C_drewN ?_ _) | (with_reducible refine Kd.C_drew ?_)))
              (case aB => exact Hb)
              (case aF => exact (fun _ _ => trivial))
              (case aO => exact (R1 HO264))
              (case aS => exact (below_size Hb))
              (case aL => have := LMc9.out; omega)
              intro v270 w16 ho hb hg hat
              rw [← Ny269.out] at ho
              replace HB := Aside0.mk (hb)
              have HO271 := Aside0.mk (ho)
              clear HO264
              clear ho hb hg hat
              refine hK.out _ _ trivial (fun hHeld => ?_)
              clear hK K
              refine NM 14 ?_
              refine PU 10 4 ?_
              refine done_ (done_of HT_.out (by kernel_rfl)) ?_
              try go_wp2
              go_ret
              exact ⟨_, by first | rfl | (simp [errW_none, errW_some] <;> rfl) | (simp only [← hji6]; first | rfl | (simp [errW_none, errW_some] <;> rfl)) | (simp [*, errW_none, errW_some] <;> rfl), R1 HO271, Hb⟩
            · rw [if_neg c9] at H
              exact absurd H (by simp)
          · rw [if_neg c8] at H
            exact absurd H (by simp)
        · rw [if_neg c7] at H
          exact absurd H (by simp)
      · rw [if_neg c5] at H
        exact absurd H (by simp)
    · rw [if_neg c4] at H
      exact absurd H (by simp)
  · rw [if_neg c3] at H
    exact absurd H (by simp)

/-! ### spec_l10DrawSmall: function 51 -/
def spec_l10DrawSmall.f (k : Nat) (s0_0 : List Int) (s0_1 : Int) (s0_2 : Int) : Option ((List (S68)) × Int × Int) := (some (([(([3, 4] : List Int)), (([4, 3] : List Int)), (([2, 5] : List Int)), (([5, 2] : List Int)), (([3, 3] : List Int)), (([6, 2] : List Int)), (([4, 2] : List Int))] : List (List Int)) : List (List Int))).bind fun y293 => ((spec_l01Next.f s0_0 s0_1 s0_2 7).bind fun bt296 => (if 0 ≤ bt296.1 then (if bt296.1 < (y293.length : Int) then (if 0 < ((rd_L3 y293 bt296.1).length : Int) then (if 1 < ((rd_L3 y293 bt296.1).length : Int) then ((spec_l10Rectangle.f k (rd (rd_L3 y293 bt296.1) 0) (rd (rd_L3 y293 bt296.1) 1)).bind fun t302 => ((spec_l01Next.f s0_0 bt296.2.1 bt296.2.2 3).bind fun bt305 => (if bt305.1 = 0 then ((spec_l01Next.f s0_0 bt305.2.1 bt305.2.2 (t302.length : Int)).bind fun bt308 => ((spec_l05Without.f t302 bt308.1).bind fun t311 => ((spec_l02Normal.f k t311).bind fun t314 => (some (t314, bt308.2.1, bt308.2.2))))) else (some (t302, bt305.2.1, bt305.2.2))))) else (none)) else (none)) else (none)) else (none)))
theorem spec_l10DrawSmall.mono : ∀ a0 a1 a2 k, LeO (spec_l10DrawSmall.f k a0 a1 a2) (spec_l10DrawSmall.f (k + 1) a0 a1 a2) := by
  intro a0 a1 a2 k
  unfold spec_l10DrawSmall.f
  repeat' first
      | (with_reducible exact spec_l02Normal.mono _ _)
      | (with_reducible exact spec_l10Rectangle.mono _ _ _)
      | (with_reducible exact LeO.refl _)
      | (with_reducible exact LeO.none _)
      | (with_reducible refine LeO.ite ?_ ?_)
      | (with_reducible refine LeO.bind ?_ (fun _ => ?_))
      | exact spec_l02Normal.mono _ _
      | exact spec_l10Rectangle.mono _ _ _
      | exact LeO.none _
      | refine LeO.ite ?_ ?_
      | refine LeO.bind ?_ (fun _ => ?_)
def spec_l10DrawSmall.T3 : Bool × List (List Nat × List Nat) := (true, [([], []), ([0], [0]), ([1], [1]), ([], []), ([3], [3]), ([4], [4]), ([2, 5], [2, 5]), ([6, 6, 0, 1, 2, 3, 4, 5, 6], [6])])
def spec_l10DrawSmall.B3 : List Nat := [0, 1, 3, 0, 8, 24, 63, 127]
theorem spec_l10DrawSmall.tab3 : rtab .any (opsOf Try.f51 3) = spec_l10DrawSmall.T3 := by kernel_rfl
theorem spec_l10DrawSmall.bits3 : waitsOk spec_l10DrawSmall.T3.2 spec_l10DrawSmall.B3 = true := by kernel_rfl
set_option maxHeartbeats 8000000 in
set_option maxRecDepth 100000 in
theorem spec_l10DrawSmall.calls (k : Nat) (g : Nat) (s0_0 : List Int) (s0_1 : Int) (s0_2 : Int) (r1 : List (S68)) (r2 : Int) (r3 : Int) (w0 w : World) (hI : IsS75 w0 w g s0_0 s0_1 s0_2) (hB : Below w0.heap.size w0 w) (h : spec_l10DrawSmall.f k s0_0 s0_1 s0_2 = some (r1, r2, r3)) :
    Calls Try.prog 51 #[.pointer (some ⟨g, 0, none⟩)] w fun e w' => ∃ v0_ : Value, e = .returned (v0_) ∧ Kd.R k68 68 w' w.heap.size (fun _ => True) v0_ r1 ∧ IsS75 w0 w' g s0_0 r2 r3 ∧ Below w0.heap.size w0 w' ∧ KeepBut w w' g none := by
  have HI0 := Aside0.mk hI
  have HK := Aside0.mk (KeepBut.refl w g none)
  have HL := Aside0.mk hB.size
  clear hI
  have HW0 := Aside0.mk hB.size
  have HB := Aside0.mk hB
  clear hB
  have H : ((some (([(([3, 4] : List Int)), (([4, 3] : List Int)), (([2, 5] : List Int)), (([5, 2] : List Int)), (([3, 3] : List Int)), (([6, 2] : List Int)), (([4, 2] : List Int))] : List (List Int)) : List (List Int))).bind fun y293 => ((spec_l01Next.f s0_0 s0_1 s0_2 7).bind fun bt296 => (if 0 ≤ bt296.1 then (if bt296.1 < (y293.length : Int) then (if 0 < ((rd_L3 y293 bt296.1).length : Int) then (if 1 < ((rd_L3 y293 bt296.1).length : Int) then ((spec_l10Rectangle.f k (rd (rd_L3 y293 bt296.1) 0) (rd (rd_L3 y293 bt296.1) 1)).bind fun t302 => ((spec_l01Next.f s0_0 bt296.2.1 bt296.2.2 3).bind fun bt305 => (if bt305.1 = 0 then ((spec_l01Next.f s0_0 bt305.2.1 bt305.2.2 (t302.length : Int)).bind fun bt308 => ((spec_l05Without.f t302 bt308.1).bind fun t311 => ((spec_l02Normal.f k t311).bind fun t314 => (some (t314, bt308.2.1, bt308.2.2))))) else (some (t302, bt305.2.1, bt305.2.2))))) else (none)) else (none)) else (none)) else (none)))) = some (r1, r2, r3) := h
  clear h
  obtain ⟨y272, hy272⟩ : ∃ y_ : List Int, y_ = (([3, 4] : List Int)) := ⟨_, rfl⟩
  replace H : ((some (([y272, (([4, 3] : List Int)), (([2, 5] : List Int)), (([5, 2] : List Int)), (([3, 3] : List Int)), (([6, 2] : List Int)), (([4, 2] : List Int))] : List (List Int)) : List (List Int))).bind fun y293 => ((spec_l01Next.f s0_0 s0_1 s0_2 7).bind fun bt296 => (if 0 ≤ bt296.1 then (if bt296.1 < (y293.length : Int) then (if 0 < ((rd_L3 y293 bt296.1).length : Int) then (if 1 < ((rd_L3 y293 bt296.1).length : Int) then ((spec_l10Rectangle.f k (rd (rd_L3 y293 bt296.1) 0) (rd (rd_L3 y293 bt296.1) 1)).bind fun t302 => ((spec_l01Next.f s0_0 bt296.2.1 bt296.2.2 3).bind fun bt305 => (if bt305.1 = 0 then ((spec_l01Next.f s0_0 bt305.2.1 bt305.2.2 (t302.length : Int)).bind fun bt308 => ((spec_l05Without.f t302 bt308.1).bind fun t311 => ((spec_l02Normal.f k t311).bind fun t314 => (some (t314, bt308.2.1, bt308.2.2))))) else (some (t302, bt305.2.1, bt305.2.2))))) else (none)) else (none)) else (none)) else (none)))) = some (r1, r2, r3) := by first | (rw [hy272]; with_reducible exact H) | (have H2_ := (Option.bind_some _ _).symm.trans H; rw [hy272]; with_reducible exact H2_) | (have H2_ := (Option.bind_some _ _).symm.trans H; with_reducible exact H2_) | with_reducible exact H | (rw [hy272]; exact H) | exact H
  have Ny272 := Aside0.mk hy272
  clear hy272
  obtain ⟨y275, hy275⟩ : ∃ y_ : List Int, y_ = (([4, 3] : List Int)) := ⟨_, rfl⟩
  replace H : ((some (([y272, y275, (([2, 5] : List Int)), (([5, 2] : List Int)), (([3, 3] : List Int)), (([6, 2] : List Int)), (([4, 2] : List Int))] : List (List Int)) : List (List Int))).bind fun y293 => ((spec_l01Next.f s0_0 s0_1 s0_2 7).bind fun bt296 => (if 0 ≤ bt296.1 then (if bt296.1 < (y293.length : Int) then (if 0 < ((rd_L3 y293 bt296.1).length : Int) then (if 1 < ((rd_L3 y293 bt296.1).length : Int) then ((spec_l10Rectangle.f k (rd (rd_L3 y293 bt296.1) 0) (rd (rd_L3 y293 bt296.1) 1)).bind fun t302 => ((spec_l01Next.f s0_0 bt296.2.1 bt296.2.2 3).bind fun bt305 => (if bt305.1 = 0 then ((spec_l01Next.f s0_0 bt305.2.1 bt305.2.2 (t302.length : Int)).bind fun bt308 => ((spec_l05Without.f t302 bt308.1).bind fun t311 => ((spec_l02Normal.f k t311).bind fun t314 => (some (t314, bt308.2.1, bt308.2.2))))) else (some (t302, bt305.2.1, bt305.2.2))))) else (none)) else (none)) else (none)) else (none)))) = some (r1, r2, r3) := by first | (rw [hy275]; with_reducible exact H) | (have H2_ := (Option.bind_some _ _).symm.trans H; rw [hy275]; with_reducible exact H2_) | (have H2_ := (Option.bind_some _ _).symm.trans H; with_reducible exact H2_) | with_reducible exact H | (rw [hy275]; exact H) | exact H
  have Ny275 := Aside0.mk hy275
  clear hy275
  obtain ⟨y278, hy278⟩ : ∃ y_ : List Int, y_ = (([2, 5] : List Int)) := ⟨_, rfl⟩
  replace H : ((some (([y272, y275, y278, (([5, 2] : List Int)), (([3, 3] : List Int)), (([6, 2] : List Int)), (([4, 2] : List Int))] : List (List Int)) : List (List Int))).bind fun y293 => ((spec_l01Next.f s0_0 s0_1 s0_2 7).bind fun bt296 => (if 0 ≤ bt296.1 then (if bt296.1 < (y293.length : Int) then (if 0 < ((rd_L3 y293 bt296.1).length : Int) then (if 1 < ((rd_L3 y293 bt296.1).length : Int) then ((spec_l10Rectangle.f k (rd (rd_L3 y293 bt296.1) 0) (rd (rd_L3 y293 bt296.1) 1)).bind fun t302 => ((spec_l01Next.f s0_0 bt296.2.1 bt296.2.2 3).bind fun bt305 => (if bt305.1 = 0 then ((spec_l01Next.f s0_0 bt305.2.1 bt305.2.2 (t302.length : Int)).bind fun bt308 => ((spec_l05Without.f t302 bt308.1).bind fun t311 => ((spec_l02Normal.f k t311).bind fun t314 => (some (t314, bt308.2.1, bt308.2.2))))) else (some (t302, bt305.2.1, bt305.2.2))))) else (none)) else (none)) else (none)) else (none)))) = some (r1, r2, r3) := by first | (rw [hy278]; with_reducible exact H) | (have H2_ := (Option.bind_some _ _).symm.trans H; rw [hy278]; with_reducible exact H2_) | (have H2_ := (Option.bind_some _ _).symm.trans H; with_reducible exact H2_) | with_reducible exact H | (rw [hy278]; exact H) | exact H
  have Ny278 := Aside0.mk hy278
  clear hy278
  obtain ⟨y281, hy281⟩ : ∃ y_ : List Int, y_ = (([5, 2] : List Int)) := ⟨_, rfl⟩
  replace H : ((some (([y272, y275, y278, y281, (([3, 3] : List Int)), (([6, 2] : List Int)), (([4, 2] : List Int))] : List (List Int)) : List (List Int))).bind fun y293 => ((spec_l01Next.f s0_0 s0_1 s0_2 7).bind fun bt296 => (if 0 ≤ bt296.1 then (if bt296.1 < (y293.length : Int) then (if 0 < ((rd_L3 y293 bt296.1).length : Int) then (if 1 < ((rd_L3 y293 bt296.1).length : Int) then ((spec_l10Rectangle.f k (rd (rd_L3 y293 bt296.1) 0) (rd (rd_L3 y293 bt296.1) 1)).bind fun t302 => ((spec_l01Next.f s0_0 bt296.2.1 bt296.2.2 3).bind fun bt305 => (if bt305.1 = 0 then ((spec_l01Next.f s0_0 bt305.2.1 bt305.2.2 (t302.length : Int)).bind fun bt308 => ((spec_l05Without.f t302 bt308.1).bind fun t311 => ((spec_l02Normal.f k t311).bind fun t314 => (some (t314, bt308.2.1, bt308.2.2))))) else (some (t302, bt305.2.1, bt305.2.2))))) else (none)) else (none)) else (none)) else (none)))) = some (r1, r2, r3) := by first | (rw [hy281]; with_reducible exact H) | (have H2_ := (Option.bind_some _ _).symm.trans H; rw [hy281]; with_reducible exact H2_) | (have H2_ := (Option.bind_some _ _).symm.trans H; with_reducible exact H2_) | with_reducible exact H | (rw [hy281]; exact H) | exact H
  have Ny281 := Aside0.mk hy281
  clear hy281
  obtain ⟨y284, hy284⟩ : ∃ y_ : List Int, y_ = (([3, 3] : List Int)) := ⟨_, rfl⟩
  replace H : ((some (([y272, y275, y278, y281, y284, (([6, 2] : List Int)), (([4, 2] : List Int))] : List (List Int)) : List (List Int))).bind fun y293 => ((spec_l01Next.f s0_0 s0_1 s0_2 7).bind fun bt296 => (if 0 ≤ bt296.1 then (if bt296.1 < (y293.length : Int) then (if 0 < ((rd_L3 y293 bt296.1).length : Int) then (if 1 < ((rd_L3 y293 bt296.1).length : Int) then ((spec_l10Rectangle.f k (rd (rd_L3 y293 bt296.1) 0) (rd (rd_L3 y293 bt296.1) 1)).bind fun t302 => ((spec_l01Next.f s0_0 bt296.2.1 bt296.2.2 3).bind fun bt305 => (if bt305.1 = 0 then ((spec_l01Next.f s0_0 bt305.2.1 bt305.2.2 (t302.length : Int)).bind fun bt308 => ((spec_l05Without.f t302 bt308.1).bind fun t311 => ((spec_l02Normal.f k t311).bind fun t314 => (some (t314, bt308.2.1, bt308.2.2))))) else (some (t302, bt305.2.1, bt305.2.2))))) else (none)) else (none)) else (none)) else (none)))) = some (r1, r2, r3) := by first | (rw [hy284]; with_reducible exact H) | (have H2_ := (Option.bind_some _ _).symm.trans H; rw [hy284]; with_reducible exact H2_) | (have H2_ := (Option.bind_some _ _).symm.trans H; with_reducible exact H2_) | with_reducible exact H | (rw [hy284]; exact H) | exact H
  have Ny284 := Aside0.mk hy284
  clear hy284
  obtain ⟨y287, hy287⟩ : ∃ y_ : List Int, y_ = (([6, 2] : List Int)) := ⟨_, rfl⟩
  replace H : ((some (([y272, y275, y278, y281, y284, y287, (([4, 2] : List Int))] : List (List Int)) : List (List Int))).bind fun y293 => ((spec_l01Next.f s0_0 s0_1 s0_2 7).bind fun bt296 => (if 0 ≤ bt296.1 then (if bt296.1 < (y293.length : Int) then (if 0 < ((rd_L3 y293 bt296.1).length : Int) then (if 1 < ((rd_L3 y293 bt296.1).length : Int) then ((spec_l10Rectangle.f k (rd (rd_L3 y293 bt296.1) 0) (rd (rd_L3 y293 bt296.1) 1)).bind fun t302 => ((spec_l01Next.f s0_0 bt296.2.1 bt296.2.2 3).bind fun bt305 => (if bt305.1 = 0 then ((spec_l01Next.f s0_0 bt305.2.1 bt305.2.2 (t302.length : Int)).bind fun bt308 => ((spec_l05Without.f t302 bt308.1).bind fun t311 => ((spec_l02Normal.f k t311).bind fun t314 => (some (t314, bt308.2.1, bt308.2.2))))) else (some (t302, bt305.2.1, bt305.2.2))))) else (none)) else (none)) else (none)) else (none)))) = some (r1, r2, r3) := by first | (rw [hy287]; with_reducible exact H) | (have H2_ := (Option.bind_some _ _).symm.trans H; rw [hy287]; with_reducible exact H2_) | (have H2_ := (Option.bind_some _ _).symm.trans H; with_reducible exact H2_) | with_reducible exact H | (rw [hy287]; exact H) | exact H
  have Ny287 := Aside0.mk hy287
  clear hy287
  obtain ⟨y290, hy290⟩ : ∃ y_ : List Int, y_ = (([4, 2] : List Int)) := ⟨_, rfl⟩
  replace H : ((some (([y272, y275, y278, y281, y284, y287, y290] : List (List Int)) : List (List Int))).bind fun y293 => ((spec_l01Next.f s0_0 s0_1 s0_2 7).bind fun bt296 => (if 0 ≤ bt296.1 then (if bt296.1 < (y293.length : Int) then (if 0 < ((rd_L3 y293 bt296.1).length : Int) then (if 1 < ((rd_L3 y293 bt296.1).length : Int) then ((spec_l10Rectangle.f k (rd (rd_L3 y293 bt296.1) 0) (rd (rd_L3 y293 bt296.1) 1)).bind fun t302 => ((spec_l01Next.f s0_0 bt296.2.1 bt296.2.2 3).bind fun bt305 => (if bt305.1 = 0 then ((spec_l01Next.f s0_0 bt305.2.1 bt305.2.2 (t302.length : Int)).bind fun bt308 => ((spec_l05Without.f t302 bt308.1).bind fun t311 => ((spec_l02Normal.f k t311).bind fun t314 => (some (t314, bt308.2.1, bt308.2.2))))) else (some (t302, bt305.2.1, bt305.2.2))))) else (none)) else (none)) else (none)) else (none)))) = some (r1, r2, r3) := by first | (rw [hy290]; with_reducible exact H) | (have H2_ := (Option.bind_some _ _).symm.trans H; rw [hy290]; with_reducible exact H2_) | (have H2_ := (Option.bind_some _ _).symm.trans H; with_reducible exact H2_) | with_reducible exact H | (rw [hy290]; exact H) | exact H
  have Ny290 := Aside0.mk hy290
  clear hy290
  obtain ⟨y293, hy293⟩ : ∃ y_ : List (List Int), y_ = (([y272, y275, y278, y281, y284, y287, y290] : List (List Int))) := ⟨_, rfl⟩
  replace H : ((spec_l01Next.f s0_0 s0_1 s0_2 7).bind fun bt296 => (if 0 ≤ bt296.1 then (if bt296.1 < (y293.length : Int) then (if 0 < ((rd_L3 y293 bt296.1).length : Int) then (if 1 < ((rd_L3 y293 bt296.1).length : Int) then ((spec_l10Rectangle.f k (rd (rd_L3 y293 bt296.1) 0) (rd (rd_L3 y293 bt296.1) 1)).bind fun t302 => ((spec_l01Next.f s0_0 bt296.2.1 bt296.2.2 3).bind fun bt305 => (if bt305.1 = 0 then ((spec_l01Next.f s0_0 bt305.2.1 bt305.2.2 (t302.length : Int)).bind fun bt308 => ((spec_l05Without.f t302 bt308.1).bind fun t311 => ((spec_l02Normal.f k t311).bind fun t314 => (some (t314, bt308.2.1, bt308.2.2))))) else (some (t302, bt305.2.1, bt305.2.2))))) else (none)) else (none)) else (none)) else (none))) = some (r1, r2, r3) := by first | (rw [hy293]; with_reducible exact H) | (have H2_ := (Option.bind_some _ _).symm.trans H; rw [hy293]; with_reducible exact H2_) | (have H2_ := (Option.bind_some _ _).symm.trans H; with_reducible exact H2_) | with_reducible exact H | (rw [hy293]; exact H) | exact H
  have Ny293 := Aside0.mk hy293
  clear hy293
  obtain ⟨⟨t296, t297, t298⟩, A20, H⟩ := Option.bind_eq_some_iff.mp H
  dsimp only at H
  have A2 := Aside0.mk A20
  clear A20
  by_cases c3 : 0 ≤ t296
  · rw [if_pos c3] at H
    have c3b0 : decide (0 ≤ t296) = true := decide_eq_true c3
    clear c3
    by_cases c4 : t296 < (y293.length : Int)
    · rw [if_pos c4] at H
      have c4b0 : decide (t296 < (y293.length : Int)) = true := decide_eq_true c4
      clear c4
      by_cases c5 : 0 < ((rd_L3 y293 t296).length : Int)
      · rw [if_pos c5] at H
        have c5b0 : decide (0 < ((rd_L3 y293 t296).length : Int)) = true := decide_eq_true c5
        have c5b1 : decide (0 < (rd_L3 y293 t296).length) = true := decide_eq_true (by omega)
        clear c5
        by_cases c6 : 1 < ((rd_L3 y293 t296).length : Int)
        · rw [if_pos c6] at H
          have c6b0 : decide (1 < ((rd_L3 y293 t296).length : Int)) = true := decide_eq_true c6
          have c6b1 : decide (1 < (rd_L3 y293 t296).length) = true := decide_eq_true (by omega)
          clear c6
          obtain ⟨t302, A70, H⟩ := Option.bind_eq_some_iff.mp H
          have A7 := Aside0.mk A70
          clear A70
          obtain ⟨⟨t305, t306, t307⟩, A80, H⟩ := Option.bind_eq_some_iff.mp H
          dsimp only at H
          have A8 := Aside0.mk A80
          clear A80
          by_cases c9 : t305 = 0
          · rw [if_pos c9] at H
            have c9b0 : (t305 == 0) = true := beq_iff_eq.mpr c9
            have c9b1 : (t305 != 0) = false := bne_eq_false_iff_eq.mpr c9
            clear c9
            obtain ⟨⟨t308, t309, t310⟩, A100, H⟩ := Option.bind_eq_some_iff.mp H
            dsimp only at H
            have A10 := Aside0.mk A100
            clear A100
            obtain ⟨t311, A110, H⟩ := Option.bind_eq_some_iff.mp H
            have A11 := Aside0.mk A110
            clear A110
            obtain ⟨t314, A120, H⟩ := Option.bind_eq_some_iff.mp H
            have A12 := Aside0.mk A120
            clear A120
            simp only [Option.some.injEq, Prod.mk.injEq] at H
            obtain ⟨rfl, rfl, rfl⟩ := H
            go_enter Try.func51, Try.ntmps51
            try go_wp2_with (first | ((with_reducible refine gD 7 ?_); refine Kd.R_lit (Kd.int .i64) _ 2 ?hg (N := 7) ?hd (xs := ([3, 4] : List Int)) (inner := [.int .i64 3, .int .i64 4]) (ok := fun _ => True) (okp := fun _ => True) ?hr ?hp (fun _ hk => hk) trivial (Below.refl _ _) (Nat.le_refl _) (by simp) ?_; (case hd => rfl); (case hg => rfl); (case hr => first | (go_simp; done) | (go_simp; rfl)); (case hp => exact (Reps.one (show Kd.M (Kd.int .i64) _ _ _ 3 [.int .i64 3] from rfl) (Reps.one (show Kd.M (Kd.int .i64) _ _ _ 4 [.int .i64 4] from rfl) (Reps.none _ _)))); intro v273 w13 ho14 hb hg_ hnew_; clear hg_ hnew_; (first | rw [← Ny272.out] at ho14 | (simp only [Int.reduceToNat] at ho14; rw [← Ny272.out] at ho14)); have HO274 := Aside0.mk (Kd.R_lower ho14 (keep_size (w := w) (g := g) (row := none) Hk)); replace HK := Aside0.mk (KeepBut.trans Hk (KeepBut.of_below hb g none) (.inl rfl)); replace HB := Aside0.mk (below_step (by repeat (first | (with_reducible first | exact HB.out | apply below_alloc | apply pw_below_drewN | apply below_drew1 | refine below_set ?_ (IsS75.ge HI0.out)) | exact HB.out)) hb); replace HI0 := Aside0.mk (IsS75.below (by repeat (first | (with_reducible first | exact HI0.out | apply IsS75.alloc | apply IsS75.drewN | apply IsS75.drew | apply IsS75.set_1 | apply IsS75.set_2) | exact HI0.out)) hb); clear hb ho14) | ((with_reducible refine gD 8 ?_); refine Kd.R_lit (Kd.int .i64) _ 2 ?hg (N := 8) ?hd (xs := ([4, 3] : List Int)) (inner := [.int .i64 4, .int .i64 3]) (ok := fun _ => True) (okp := fun _ => True) ?hr ?hp (fun _ hk => hk) trivial (Below.refl _ _) (Nat.le_refl _) (by simp) ?_; (case hd => rfl); (case hg => rfl); (case hr => first | (go_simp; done) | (go_simp; rfl)); (case hp => exact (Reps.one (show Kd.M (Kd.int .i64) _ _ _ 4 [.int .i64 4] from rfl) (Reps.one (show Kd.M (Kd.int .i64) _ _ _ 3 [.int .i64 3] from rfl) (Reps.none _ _)))); intro v276 w15 ho16 hb hg_ hnew_; clear hg_ hnew_; (first | rw [← Ny275.out] at ho16 | (simp only [Int.reduceToNat] at ho16; rw [← Ny275.out] at ho16)); have HO277 := Aside0.mk (Kd.R_lower (Kd.R_new' ho16 (Kd.R_lt (R1 HO274))) (keep_size (w := w) (g := g) (row := none) Hk)); replace HO274 := Aside0.mk (Kd.R_elder' (R1 HO274) (Kd.R_base ho16) hb); replace HK := Aside0.mk (KeepBut.trans Hk (KeepBut.of_below hb g none) (.inl rfl)); replace HB := Aside0.mk (below_step (by repeat (first | (with_reducible first | exact HB.out | apply below_alloc | apply pw_below_drewN | apply below_drew1 | refine below_set ?_ (IsS75.ge HI0.out)) | exact HB.out)) hb); replace HI0 := Aside0.mk (IsS75.below (by repeat (first | (with_reducible first | exact HI0.out | apply IsS75.alloc | apply IsS75.drewN | apply IsS75.drew | apply IsS75.set_1 | apply IsS75.set_2) | exact HI0.out)) hb); clear hb ho16) | ((with_reducible refine gD 9 ?_); refine Kd.R_lit (Kd.int .i64) _ 2 ?hg (N := 9) ?hd (xs := ([2, 5] : List Int)) (inner := [.int .i64 2, .int .i64 5]) (ok := fun _ => True) (okp := fun _ => True) ?hr ?hp (fun _ hk => hk) trivial (Below.refl _ _) (Nat.le_refl _) (by simp) ?_; (case hd => rfl); (case hg => rfl); (case hr => first | (go_simp; done) | (go_simp; rfl)); (case hp => exact (Reps.one (show Kd.M (Kd.int .i64) _ _ _ 2 [.int .i64 2] from rfl) (Reps.one (show Kd.M (Kd.int .i64) _ _ _ 5 [.int .i64 5] from rfl) (Reps.none _ _)))); intro v279 w17 ho18 hb hg_ hnew_; clear hg_ hnew_; (first | rw [← Ny278.out] at ho18 | (simp only [Int.reduceToNat] at ho18; rw [← Ny278.out] at ho18)); have HO280 := Aside0.mk (Kd.R_lower (Kd.R_new' (Kd.R_new' ho18 (Kd.R_lt (R1 HO274))) (Kd.R_lt (R1 HO277))) (keep_size (w := w) (g := g) (row := none) Hk)); replace HO274 := Aside0.mk (Kd.R_elder' (R1 HO274) (Kd.R_base ho18) hb); replace HO277 := Aside0.mk (Kd.R_elder' (R1 HO277) (Kd.R_base ho18) hb); replace HK := Aside0.mk (KeepBut.trans Hk (KeepBut.of_below hb g none) (.inl rfl)); replace HB := Aside0.mk (below_step (by repeat (first | (with_reducible first | exact HB.out | apply below_alloc | apply pw_below_drewN | apply below_drew1 | refine below_set ?_ (IsS75.ge HI0.out)) | exact HB.out)) hb); replace HI0 := Aside0.mk (IsS75.below (by repeat (first | (with_reducible first | exact HI0.out | apply IsS75.alloc | apply IsS75.drewN | apply IsS75.drew | apply IsS75.set_1 | apply IsS75.set_2) | exact HI0.out)) hb); clear hb ho18) | ((with_reducible refine gD 10 ?_); refine Kd.R_lit (Kd.int .i64) _ 2 ?hg (N := 10) ?hd (xs := ([5, 2] : List Int)) (inner := [.int .i64 5, .int .i64 2]) (ok := fun _ => True) (okp := fun _ => True) ?hr ?hp (fun _ hk => hk) trivial (Below.refl _ _) (Nat.le_refl _) (by simp) ?_; (case hd => rfl); (case hg => rfl); (case hr => first | (go_simp; done) | (go_simp; rfl)); (case hp => exact (Reps.one (show Kd.M (Kd.int .i64) _ _ _ 5 [.int .i64 5] from rfl) (Reps.one (show Kd.M (Kd.int .i64) _ _ _ 2 [.int .i64 2] from rfl) (Reps.none _ _)))); intro v282 w19 ho20 hb hg_ hnew_; clear hg_ hnew_; (first | rw [← Ny281.out] at ho20 | (simp only [Int.reduceToNat] at ho20; rw [← Ny281.out] at ho20)); have HO283 := Aside0.mk (Kd.R_lower (Kd.R_new' (Kd.R_new' (Kd.R_new' ho20 (Kd.R_lt (R1 HO274))) (Kd.R_lt (R1 HO277))) (Kd.R_lt (R1 HO280))) (keep_size (w := w) (g := g) (row := none) Hk)); replace HO274 := Aside0.mk (Kd.R_elder' (R1 HO274) (Kd.R_base ho20) hb); replace HO277 := Aside0.mk (Kd.R_elder' (R1 HO277) (Kd.R_base ho20) hb); replace HO280 := Aside0.mk (Kd.R_elder' (R1 HO280) (Kd.R_base ho20) hb); replace HK := Aside0.mk (KeepBut.trans Hk (KeepBut.of_below hb g none) (.inl rfl)); replace HB := Aside0.mk (below_step (by repeat (first | (with_reducible first | exact HB.out | apply below_alloc | apply pw_below_drewN | apply below_drew1 | refine below_set ?_ (IsS75.ge HI0.out)) | exact HB.out)) hb); replace HI0 := Aside0.mk (IsS75.below (by repeat (first | (with_reducible first | exact HI0.out | apply IsS75.alloc | apply IsS75.drewN | apply IsS75.drew | apply IsS75.set_1 | apply IsS75.set_2) | exact HI0.out)) hb); clear hb ho20) | ((with_reducible refine gD 11 ?_); refine Kd.R_lit (Kd.int .i64) _ 2 ?hg (N := 11) ?hd (xs := ([3, 3] : List Int)) (inner := [.int .i64 3, .int .i64 3]) (ok := fun _ => True) (okp := fun _ => True) ?hr ?hp (fun _ hk => hk) trivial (Below.refl _ _) (Nat.le_refl _) (by simp) ?_; (case hd => rfl); (case hg => rfl); (case hr => first | (go_simp; done) | (go_simp; rfl)); (case hp => exact (Reps.one (show Kd.M (Kd.int .i64) _ _ _ 3 [.int .i64 3] from rfl) (Reps.one (show Kd.M (Kd.int .i64) _ _ _ 3 [.int .i64 3] from rfl) (Reps.none _ _)))); intro v285 w21 ho22 hb hg_ hnew_; clear hg_ hnew_; (first | rw [← Ny284.out] at ho22 | (simp only [Int.reduceToNat] at ho22; rw [← Ny284.out] at ho22)); have HO286 := Aside0.mk (Kd.R_lower (Kd.R_new' (Kd.R_new' (Kd.R_new' (Kd.R_new' ho22 (Kd.R_lt (R1 HO274))) (Kd.R_lt (R1 HO277))) (Kd.R_lt (R1 HO280))) (Kd.R_lt (R1 HO283))) (keep_size (w := w) (g := g) (row := none) Hk)); replace HO274 := Aside0.mk (Kd.R_elder' (R1 HO274) (Kd.R_base ho22) hb); replace HO277 := Aside0.mk (Kd.R_elder' (R1 HO277) (Kd.R_base ho22) hb); replace HO280 := Aside0.mk (Kd.R_elder' (R1 HO280) (Kd.R_base ho22) hb); replace HO283 := Aside0.mk (Kd.R_elder' (R1 HO283) (Kd.R_base ho22) hb); replace HK := Aside0.mk (KeepBut.trans Hk (KeepBut.of_below hb g none) (.inl rfl)); replace HB := Aside0.mk (below_step (by repeat (first | (with_reducible first | exact HB.out | apply below_alloc | apply pw_below_drewN | apply below_drew1 | refine below_set ?_ (IsS75.ge HI0.out)) | exact HB.out)) hb); replace HI0 := Aside0.mk (IsS75.below (by repeat (first | (with_reducible first | exact HI0.out | apply IsS75.alloc | apply IsS75.drewN | apply IsS75.drew | apply IsS75.set_1 | apply IsS75.set_2) | exact HI0.out)) hb); clear hb ho22) | ((with_reducible refine gD 12 ?_); refine Kd.R_lit (Kd.int .i64) _ 2 ?hg (N := 12) ?hd (xs := ([6, 2] : List Int)) (inner := [.int .i64 6, .int .i64 2]) (ok := fun _ => True) (okp := fun _ => True) ?hr ?hp (fun _ hk => hk) trivial (Below.refl _ _) (Nat.le_refl _) (by simp) ?_; (case hd => rfl); (case hg => rfl); (case hr => first | (go_simp; done) | (go_simp; rfl)); (case hp => exact (Reps.one (show Kd.M (Kd.int .i64) _ _ _ 6 [.int .i64 6] from rfl) (Reps.one (show Kd.M (Kd.int .i64) _ _ _ 2 [.int .i64 2] from rfl) (Reps.none _ _)))); intro v288 w23 ho24 hb hg_ hnew_; clear hg_ hnew_; (first | rw [← Ny287.out] at ho24 | (simp only [Int.reduceToNat] at ho24; rw [← Ny287.out] at ho24)); have HO289 := Aside0.mk (Kd.R_lower (Kd.R_new' (Kd.R_new' (Kd.R_new' (Kd.R_new' (Kd.R_new' ho24 (Kd.R_lt (R1 HO274))) (Kd.R_lt (R1 HO277))) (Kd.R_lt (R1 HO280))) (Kd.R_lt (R1 HO283))) (Kd.R_lt (R1 HO286))) (keep_size (w := w) (g := g) (row := none) Hk)); replace HO274 := Aside0.mk (Kd.R_elder' (R1 HO274) (Kd.R_base ho24) hb); replace HO277 := Aside0.mk (Kd.R_elder' (R1 HO277) (Kd.R_base ho24) hb); replace HO280 := Aside0.mk (Kd.R_elder' (R1 HO280) (Kd.R_base ho24) hb); replace HO283 := Aside0.mk (Kd.R_elder' (R1 HO283) (Kd.R_base ho24) hb); replace HO286 := Aside0.mk (Kd.R_elder' (R1 HO286) (Kd.R_base ho24) hb); replace HK := Aside0.mk (KeepBut.trans Hk (KeepBut.of_below hb g none) (.inl rfl)); replace HB := Aside0.mk (below_step (by repeat (first | (with_reducible first | exact HB.out | apply below_alloc | apply pw_below_drewN | apply below_drew1 | refine below_set ?_ (IsS75.ge HI0.out)) | exact HB.out)) hb); replace HI0 := Aside0.mk (IsS75.below (by repeat (first | (with_reducible first | exact HI0.out | apply IsS75.alloc | apply IsS75.drewN | apply IsS75.drew | apply IsS75.set_1 | apply IsS75.set_2) | exact HI0.out)) hb); clear hb ho24) | ((with_reducible refine gD 13 ?_); refine Kd.R_lit (Kd.int .i64) _ 2 ?hg (N := 13) ?hd (xs := ([4, 2] : List Int)) (inner := [.int .i64 4, .int .i64 2]) (ok := fun _ => True) (okp := fun _ => True) ?hr ?hp (fun _ hk => hk) trivial (Below.refl _ _) (Nat.le_refl _) (by simp) ?_; (case hd => rfl); (case hg => rfl); (case hr => first | (go_simp; done) | (go_simp; rfl)); (case hp => exact (Reps.one (show Kd.M (Kd.int .i64) _ _ _ 4 [.int .i64 4] from rfl) (Reps.one (show Kd.M (Kd.int .i64) _ _ _ 2 [.int .i64 2] from rfl) (Reps.none _ _)))); intro v291 w25 ho26 hb hg_ hnew_; clear hg_ hnew_; (first | rw [← Ny290.out] at ho26 | (simp only [Int.reduceToNat] at ho26; rw [← Ny290.out] at ho26)); have HO292 := Aside0.mk (Kd.R_lower (Kd.R_new' (Kd.R_new' (Kd.R_new' (Kd.R_new' (Kd.R_new' (Kd.R_new' ho26 (Kd.R_lt (R1 HO274))) (Kd.R_lt (R1 HO277))) (Kd.R_lt (R1 HO280))) (Kd.R_lt (R1 HO283))) (Kd.R_lt (R1 HO286))) (Kd.R_lt (R1 HO289))) (keep_size (w := w) (g := g) (row := none) Hk)); replace HO274 := Aside0.mk (Kd.R_elder' (R1 HO274) (Kd.R_base ho26) hb); replace HO277 := Aside0.mk (Kd.R_elder' (R1 HO277) (Kd.R_base ho26) hb); replace HO280 := Aside0.mk (Kd.R_elder' (R1 HO280) (Kd.R_base ho26) hb); replace HO283 := Aside0.mk (Kd.R_elder' (R1 HO283) (Kd.R_base ho26) hb); replace HO286 := Aside0.mk (Kd.R_elder' (R1 HO286) (Kd.R_base ho26) hb); replace HO289 := Aside0.mk (Kd.R_elder' (R1 HO289) (Kd.R_base ho26) hb); replace HK := Aside0.mk (KeepBut.trans Hk (KeepBut.of_below hb g none) (.inl rfl)); replace HB := Aside0.mk (below_step (by repeat (first | (with_reducible first | exact HB.out | apply below_alloc | apply pw_below_drewN | apply below_drew1 | refine below_set ?_ (IsS75.ge HI0.out)) | exact HB.out)) hb); replace HI0 := Aside0.mk (IsS75.below (by repeat (first | (with_reducible first | exact HI0.out | apply IsS75.alloc | apply IsS75.drewN | apply IsS75.drew | apply IsS75.set_1 | apply IsS75.set_2) | exact HI0.out)) hb); clear hb ho26; obtain ⟨Ao27, co27, eo27⟩ := Kd.R_slice HO274.out; subst eo27; obtain ⟨Ao28, co28, eo28⟩ := Kd.R_slice HO277.out; subst eo28; obtain ⟨Ao29, co29, eo29⟩ := Kd.R_slice HO280.out; subst eo29; obtain ⟨Ao30, co30, eo30⟩ := Kd.R_slice HO283.out; subst eo30; obtain ⟨Ao31, co31, eo31⟩ := Kd.R_slice HO286.out; subst eo31; obtain ⟨Ao32, co32, eo32⟩ := Kd.R_slice HO289.out; subst eo32; obtain ⟨Ao33, co33, eo33⟩ := Kd.R_slice HO292.out; subst eo33) | ((with_reducible refine gD 14 ?_); refine Kd.N_lit (Kd.slice 2 (Kd.int .i64)) _ 25 ?hg (N' := 14) ?hd (xs := ([y272, y275, y278, y281, y284, y287, y290] : List (List Int))) (inner := [.slice Ao27 y272.length co27, .slice Ao28 y275.length co28, .slice Ao29 y278.length co29, .slice Ao30 y281.length co30, .slice Ao31 y284.length co31, .slice Ao32 y287.length co32, .slice Ao33 y290.length co33]) (ok := (fun k_ => k_ ≠ g)) (okp := (fun k_ => k_ ≠ g)) ?hr ?hp (fun _ hk => hk) ((show ∀ k_, w25.heap.size ≤ k_ → (fun k_ => k_ ≠ g) k_ from fun k_ hk => IsS75.fresh (by repeat (first | (with_reducible first | exact HI0.out | apply IsS75.alloc | apply IsS75.drewN | apply IsS75.drew | apply IsS75.set_1 | apply IsS75.set_2) | exact HI0.out)) k_ hk) _ (Nat.le_refl _)) (Below.refl _ _) (Nat.le_refl _) (by simp) ?_; (case hd => rfl); (case hg => rfl); (case hr => first | (go_simp; done) | (go_simp; rfl)); (case hp => exact (Reps.one (show Kd.FK (Kd.slice 2 (Kd.int .i64)) _ _ y272 [.slice Ao27 y272.length co27] from (Kd.FK_slice_mk (Kd.R_reads' (Kd.R_mono (ok' := (fun k_ => k_ ≠ g)) (IsS75.apart HI0.out (HO274.out) (by decide)) (fun k_ hk => hk.2))).2.1 (Kd.R_F (Kd.R_mono (ok' := (fun k_ => k_ ≠ g)) (IsS75.apart HI0.out (HO274.out) (by decide)) (fun k_ hk => hk.2))))) (Reps.one (show Kd.FK (Kd.slice 2 (Kd.int .i64)) _ _ y275 [.slice Ao28 y275.length co28] from (Kd.FK_slice_mk (Kd.R_reads' (Kd.R_mono (ok' := (fun k_ => k_ ≠ g)) (IsS75.apart HI0.out (HO277.out) (by decide)) (fun k_ hk => hk.2))).2.1 (Kd.R_F (Kd.R_mono (ok' := (fun k_ => k_ ≠ g)) (IsS75.apart HI0.out (HO277.out) (by decide)) (fun k_ hk => hk.2))))) (Reps.one (show Kd.FK (Kd.slice 2 (Kd.int .i64)) _ _ y278 [.slice Ao29 y278.length co29] from (Kd.FK_slice_mk (Kd.R_reads' (Kd.R_mono (ok' := (fun k_ => k_ ≠ g)) (IsS75.apart HI0.out (HO280.out) (by decide)) (fun k_ hk => hk.2))).2.1 (Kd.R_F (Kd.R_mono (ok' := (fun k_ => k_ ≠ g)) (IsS75.apart HI0.out (HO280.out) (by decide)) (fun k_ hk => hk.2))))) (Reps.one (show Kd.FK (Kd.slice 2 (Kd.int .i64)) _ _ y281 [.slice Ao30 y281.length co30] from (Kd.FK_slice_mk (Kd.R_reads' (Kd.R_mono (ok' := (fun k_ => k_ ≠ g)) (IsS75.apart HI0.out (HO283.out) (by decide)) (fun k_ hk => hk.2))).2.1 (Kd.R_F (Kd.R_mono (ok' := (fun k_ => k_ ≠ g)) (IsS75.apart HI0.out (HO283.out) (by decide)) (fun k_ hk => hk.2))))) (Reps.one (show Kd.FK (Kd.slice 2 (Kd.int .i64)) _ _ y284 [.slice Ao31 y284.length co31] from (Kd.FK_slice_mk (Kd.R_reads' (Kd.R_mono (ok' := (fun k_ => k_ ≠ g)) (IsS75.apart HI0.out (HO286.out) (by decide)) (fun k_ hk => hk.2))).2.1 (Kd.R_F (Kd.R_mono (ok' := (fun k_ => k_ ≠ g)) (IsS75.apart HI0.out (HO286.out) (by decide)) (fun k_ hk => hk.2))))) (Reps.one (show Kd.FK (Kd.slice 2 (Kd.int .i64)) _ _ y287 [.slice Ao32 y287.length co32] from (Kd.FK_slice_mk (Kd.R_reads' (Kd.R_mono (ok' := (fun k_ => k_ ≠ g)) (IsS75.apart HI0.out (HO289.out) (by decide)) (fun k_ hk => hk.2))).2.1 (Kd.R_F (Kd.R_mono (ok' := (fun k_ => k_ ≠ g)) (IsS75.apart HI0.out (HO289.out) (by decide)) (fun k_ hk => hk.2))))) (Reps.one (show Kd.FK (Kd.slice 2 (Kd.int .i64)) _ _ y290 [.slice Ao33 y290.length co33] from (Kd.FK_slice_mk (Kd.R_reads' (Kd.R_mono (ok' := (fun k_ => k_ ≠ g)) (IsS75.apart HI0.out (HO292.out) (by decide)) (fun k_ hk => hk.2))).2.1 (Kd.R_F (Kd.R_mono (ok' := (fun k_ => k_ ≠ g)) (IsS75.apart HI0.out (HO292.out) (by decide)) (fun k_ hk => hk.2))))) (Reps.none _ _))))))))); intro v294 w34 ho35 hb hg_ hnew_; clear hg_ hnew_; (first | rw [← Ny293.out] at ho35 | (simp only [Int.reduceToNat] at ho35; rw [← Ny293.out] at ho35)); have HO295 := Aside0.mk (Kd.N_lower ho35 (keep_size (w := w) (g := g) (row := none) Hk)); replace HK := Aside0.mk (KeepBut.trans Hk (KeepBut.of_below hb g none) (.inl rfl)); replace HB := Aside0.mk (below_step (by repeat (first | (with_reducible first | exact HB.out | apply below_alloc | apply pw_below_drewN | apply below_drew1 | refine below_set ?_ (IsS75.ge HI0.out)) | exact HB.out)) hb); replace HI0 := Aside0.mk (IsS75.below (by repeat (first | (with_reducible first | exact HI0.out | apply IsS75.alloc | apply IsS75.drewN | apply IsS75.drew | apply IsS75.set_1 | apply IsS75.set_2) | exact HI0.out)) hb); clear HO274; clear HO277; clear HO280; clear HO283; clear HO286; clear HO289; clear HO292; clear hb ho35) | ((with_reducible refine gC 24 ?_); refine GL (some 17) Try.func24 #[.pointer (some ⟨g, 0, none⟩), .int .i64 7] ?_; (with_reducible refine (spec_l01Next.calls g s0_0 s0_1 s0_2 7 t296 t297 t298 w0 _ ?side1 ?side2 A2.out).mono ?_); (case side1 => repeat (first | (with_reducible first | exact HI0.out | apply IsS75.alloc | apply IsS75.drewN | apply IsS75.drew | apply IsS75.set_1 | apply IsS75.set_2) | exact HI0.out)); (case side2 => repeat (first | (with_reducible first | exact HB.out | apply below_alloc | apply pw_below_drewN | apply below_drew1 | refine below_set ?_ (IsS75.ge HI0.out)) | exact HB.out)); rintro e w36 ⟨rfl, hi, hb, hk⟩; refine ⟨_, rfl, ?_⟩; replace HO295 := Aside0.mk (Kd.N_mono (Kd.N_keep (Kd.N_mono (ok := fun k_ => k_ ≠ g) (by (with_reducible repeat (first | apply Kd.N_alloc | apply Kd.N_drewN | apply Kd.N_drew)); exact HO295.out) (fun k_ hk_ => (⟨hk_, hk_⟩ : _ ∧ k_ ≠ g))) hk (fun _ h => h.2)) (fun _ h => h.1)); replace HK := Aside0.mk (KeepBut.trans Hk hk (.inl rfl)); replace HB := Aside0.mk (hb); replace HI0 := Aside0.mk (hi); (try clear hb); (try clear hb2); (try clear hk); (try clear hi); obtain ⟨Ao37, co37, eo37⟩ := Kd.N_slice HO295.out; subst eo37; have p299 : 0 ≤ (t296 : Int) := oD; have q299 : t296 < (y293.length : Int) := oD; obtain ⟨ad299, A299_0, c299_0, e299, hx299_0, hl299_0, hi299_0⟩ := at_L3 (Kd.N_reads' HO295.out).2.2 t296 p299 q299; cases e299; obtain ⟨ce299, hce299, hMe299, hcc299⟩ := Kd.N_get HO295.out [] t296 p299 (by first | exact q299 | exact oD | (have e_ := (Kd.N_reads' HO295.out).1; omega)); obtain ⟨ua299_0, uc299_0, rfl, ul299_0, ge299_0⟩ := Kd.FK_slice_open hMe299; have hv299_0 := hcc299 0 _ rfl; rw [Nat.add_zero, show ((Kd.slice 2 (Kd.int .i64))).sz = 1 from rfl, Nat.mul_one] at hv299_0; replace hv299_0 := Option.some.inj (hv299_0.symm.trans hx299_0); injection hv299_0 with hva_ hvn_ hvc_; rw [hva_] at ge299_0; rw [hvc_] at ul299_0; have HL299_0 := Aside0.mk (show Kd.V (Kd.int .i64) 2 _ w.heap.size _ _ (rd_L3 y293 t296) from Kd.V_mk ul299_0 ge299_0); clear hva_ hvn_ hvc_ ge299_0 ul299_0; clear hcc299 hce299; have HR299_0 := Aside0.mk hi299_0; have HC299_0 := Aside0.mk hl299_0; clear hi299_0 hl299_0; replace p299 := eq_true p299; replace q299 := eq_true q299))
            replace HO295 := Aside0.mk (Kd.N_drew HO295.out)
            replace HL299_0 := Aside0.mk (Kd.V_drew HL299_0.out)
            replace HR299_0 := Aside0.mk (Kd.C_drew HR299_0.out)
            replace HI0 := Aside0.mk (IsS75.drew HI0.out)
            replace HK := Aside0.mk (keep_drew HK.out)
            replace HB := Aside0.mk (below_drew1 HB.out)
            have p300 : 0 ≤ (0 : Int) := (by omega)
            have q300 : 0 < ((rd_L3 y293 t296).length : Int) := oD
            obtain ⟨ad300, e300, hx300_0⟩ := Kd.at_int (by repeat (first | (with_reducible exact HR299_0.out) | (with_reducible refine Kd.C_alloc ?_ _) | (with_reducible refine Kd.C_drewN ?_ _) | (with_reducible refine Kd.C_drew ?_) | exact HR299_0.out)) 0 p300 q300
            cases e300
            have qi300 : (0 < (rd_L3 y293 t296).length) = True := eq_true (by omega)
            (try rw [show ((0 : Int)).toNat = 0 from rfl] at hx300_0)
            (try rw [Addr.add_zero'] at hx300_0)
            replace p300 := eq_true p300
            replace q300 := eq_true q300
            have p301 : 0 ≤ (1 : Int) := (by omega)
            have q301 : 1 < ((rd_L3 y293 t296).length : Int) := oD
            obtain ⟨ad301, e301, hx301_0⟩ := Kd.at_int (by repeat (first | (with_reducible exact HR299_0.out) | (with_reducible refine Kd.C_alloc ?_ _) | (with_reducible refine Kd.C_drewN ?_ _) | (with_reducible refine Kd.C_drew ?_) | exact HR299_0.out)) 1 p301 q301
            obtain rfl : ad300 = ad301 := (by injection e301)
            (try simp only [show (1 : Int).toNat = 1 from rfl, Nat.reduceMul, Nat.reduceEqDiff, Go.Addr.add, ↓reduceIte] at hx301_0)
            have qi301 : (1 < (rd_L3 y293 t296).length) = True := eq_true (by omega)
            (try rw [show ((1 : Int)).toNat = 1 from rfl] at hx301_0)
            replace p301 := eq_true p301
            replace q301 := eq_true q301
            refine start_ (n := 8) (S := fun w' => w'.cell? ad300 = some (.int .i64 (rd (rd_L3 y293 t296) 0)) ∧ w'.cell? ⟨ad300.block, ad300.off + 1, none⟩ = some (.int .i64 (rd (rd_L3 y293 t296) 1))) (ds := []) #[false, false, false, false, false, false, false, false] (by kernel_rfl) rfl rfl ⟨hx300_0, hx301_0⟩ (fun hHeld => ?_); refine with_tabW spec_l10DrawSmall.tab3 spec_l10DrawSmall.bits3 (fun HT_ HW_ => ?_)
            generalize w36.drew = w38 at HO295 HL299_0 HR299_0 HI0 HK HB hx300_0 hx301_0 hHeld ⊢
            refine PU 0 20 ?_
            refine PU 1 21 ?_
            refine PU 3 23 ?_
            refine PU 4 24 ?_
            refine TK 2 22 hHeld ?_
            refine TK 5 25 hHeld ?_
            refine ON 6 26 (fun K hK => ?_)
            refine GO Try.func49 #[.int .i64 (rd (rd_L3 y293 t296) 0), .int .i64 (rd (rd_L3 y293 t296) 1)] ?_
            with_reducible refine (spec_l10Rectangle.calls k (rd (rd_L3 y293 t296) 0) (rd (rd_L3 y293 t296) 1) t302 _ A7.out).mono ?_
            rintro e w39 ⟨v303, rfl, ho0, hb⟩
            have HS0_ := (hb.cell (World.block_lt_of_cell? _ _ (hHeld.1))).trans (hHeld.1)
            have HS1_ := (hb.cell (World.block_lt_of_cell? _ _ (hHeld.2))).trans (hHeld.2)
            refine ⟨_, rfl, ?_⟩
            replace HO295 := Aside0.mk (Kd.N_elder' (by (with_reducible repeat (first | apply Kd.N_alloc | apply Kd.N_drewN | apply Kd.N_drew)); exact HO295.out) (Kd.R_base ho0) hb)
            replace HL299_0 := Aside0.mk (Kd.V_elder' (by (with_reducible repeat (first | apply Kd.V_alloc | apply Kd.V_drewN | apply Kd.V_drew)); exact HL299_0.out) (Kd.R_base ho0) hb)
            have HO304 := Aside0.mk (Kd.R_lower ho0 (keep_size (w := w) (g := g) (row := none) Hk))
            replace HR299_0 := Aside0.mk (Kd.C_below (by repeat (first | (with_reducible exact HR299_0.out) | (with_reducible refine Kd.C_alloc ?_ _) | (with_reducible refine Kd.C_drewN ?_ _) | (with_reducible refine Kd.C_drew ?_) | exact HR299_0.out)) hb)
            replace HK := Aside0.mk (KeepBut.trans Hk (KeepBut.of_below hb g none) (.inl rfl))
            replace HB := Aside0.mk (below_step (by repeat (first | (with_reducible first | exact HB.out | apply below_alloc | apply pw_below_drewN | apply below_drew1 | refine below_set ?_ (IsS75.ge HI0.out)) | exact HB.out)) hb)
            replace HI0 := Aside0.mk (IsS75.below (by repeat (first | (with_reducible first | exact HI0.out | apply IsS75.alloc | apply IsS75.drewN | apply IsS75.drew | apply IsS75.set_1 | apply IsS75.set_2) | exact HI0.out)) hb)
            (try clear hb)
            (try clear hb2)
            (try clear hk)
            (try clear hi)
            (try clear ho0)
            refine hK.out _ _ ⟨HS0_, HS1_⟩ (fun hHeld => ?_)
            clear hK K
            refine NM 26 ?_
            refine PU 7 5 ?_
            refine done_ (done_of HT_.out (by kernel_rfl)) ?_
            try go_wp2_with (first | ((with_reducible refine gC 24 ?_); refine GL (some 28) Try.func24 #[.pointer (some ⟨g, 0, none⟩), .int .i64 3] ?_; (with_reducible refine (spec_l01Next.calls g s0_0 t297 t298 3 t305 t306 t307 w0 _ ?side1 ?side2 A8.out).mono ?_); (case side1 => repeat (first | (with_reducible first | exact HI0.out | apply IsS75.alloc | apply IsS75.drewN | apply IsS75.drew | apply IsS75.set_1 | apply IsS75.set_2) | exact HI0.out)); (case side2 => repeat (first | (with_reducible first | exact HB.out | apply below_alloc | apply pw_below_drewN | apply below_drew1 | refine below_set ?_ (IsS75.ge HI0.out)) | exact HB.out)); rintro e w40 ⟨rfl, hi, hb, hk⟩; refine ⟨_, rfl, ?_⟩; replace HO295 := Aside0.mk (Kd.N_mono (Kd.N_keep (Kd.N_mono (ok := fun k_ => (k_ ≠ g ∧ some k_ ≠ (v303 : Value).ownBlock)) (by (with_reducible repeat (first | apply Kd.N_alloc | apply Kd.N_drewN | apply Kd.N_drew)); exact HO295.out) (fun k_ hk_ => (⟨hk_, hk_.1⟩ : _ ∧ k_ ≠ g))) hk (fun _ h => h.2)) (fun _ h => h.1)); replace HL299_0 := Aside0.mk (Kd.V_mono (Kd.V_keep (Kd.V_mono (ok := fun k_ => ((k_ ≠ g ∧ some k_ ≠ (.slice (some ad299) y293.length co37 : Value).ownBlock) ∧ some k_ ≠ (v303 : Value).ownBlock)) (by (with_reducible repeat (first | apply Kd.V_alloc | apply Kd.V_drewN | apply Kd.V_drew)); exact HL299_0.out) (fun k_ hk_ => (⟨hk_, hk_.1.1⟩ : _ ∧ k_ ≠ g))) hk (fun _ h => h.2)) (fun _ h => h.1)); replace HO304 := Aside0.mk (Kd.R_mono (Kd.R_keep (IsS75.apart (show IsS75 w0 _ g s0_0 t297 t298 from by repeat (first | (with_reducible first | exact HI0.out | apply IsS75.alloc | apply IsS75.drewN | apply IsS75.drew | apply IsS75.set_1 | apply IsS75.set_2) | exact HI0.out)) (R1 HO304) (by decide)) hk (fun _ h => h.2)) (fun _ h => h.1)); replace HK := Aside0.mk (KeepBut.trans Hk hk (.inl rfl)); replace HB := Aside0.mk (hb); replace HI0 := Aside0.mk (hi); (try clear hb); (try clear hb2); (try clear hk); (try clear hi); obtain ⟨Ao41, co41, eo41⟩ := Kd.R_slice HO304.out; subst eo41) | ((with_reducible refine gC 24 ?_); refine GL (some 33) Try.func24 #[.pointer (some ⟨g, 0, none⟩), .int .i64 (t302.length : Int)] ?_; (with_reducible refine (spec_l01Next.calls g s0_0 t306 t307 (t302.length : Int) t308 t309 t310 w0 _ ?side1 ?side2 A10.out).mono ?_); (case side1 => repeat (first | (with_reducible first | exact HI0.out | apply IsS75.alloc | apply IsS75.drewN | apply IsS75.drew | apply IsS75.set_1 | apply IsS75.set_2) | exact HI0.out)); (case side2 => repeat (first | (with_reducible first | exact HB.out | apply below_alloc | apply pw_below_drewN | apply below_drew1 | refine below_set ?_ (IsS75.ge HI0.out)) | exact HB.out)); rintro e w42 ⟨rfl, hi, hb, hk⟩; refine ⟨_, rfl, ?_⟩; replace HO295 := Aside0.mk (Kd.N_mono (Kd.N_keep (Kd.N_mono (ok := fun k_ => (k_ ≠ g ∧ some k_ ≠ (.slice Ao41 t302.length co41 : Value).ownBlock)) (by (with_reducible repeat (first | apply Kd.N_alloc | apply Kd.N_drewN | apply Kd.N_drew)); exact HO295.out) (fun k_ hk_ => (⟨hk_, hk_.1⟩ : _ ∧ k_ ≠ g))) hk (fun _ h => h.2)) (fun _ h => h.1)); replace HL299_0 := Aside0.mk (Kd.V_mono (Kd.V_keep (Kd.V_mono (ok := fun k_ => ((k_ ≠ g ∧ some k_ ≠ (.slice (some ad299) y293.length co37 : Value).ownBlock) ∧ some k_ ≠ (.slice Ao41 t302.length co41 : Value).ownBlock)) (by (with_reducible repeat (first | apply Kd.V_alloc | apply Kd.V_drewN | apply Kd.V_drew)); exact HL299_0.out) (fun k_ hk_ => (⟨hk_, hk_.1.1⟩ : _ ∧ k_ ≠ g))) hk (fun _ h => h.2)) (fun _ h => h.1)); replace HO304 := Aside0.mk (Kd.R_mono (Kd.R_keep (IsS75.apart (show IsS75 w0 _ g s0_0 t306 t307 from by repeat (first | (with_reducible first | exact HI0.out | apply IsS75.alloc | apply IsS75.drewN | apply IsS75.drew | apply IsS75.set_1 | apply IsS75.set_2) | exact HI0.out)) (R1 HO304) (by decide)) hk (fun _ h => h.2)) (fun _ h => h.1)); replace HK := Aside0.mk (KeepBut.trans Hk hk (.inl rfl)); replace HB := Aside0.mk (hb); replace HI0 := Aside0.mk (hi); (try clear hb); (try clear hb2); (try clear hk); (try clear hi)) | ((with_reducible refine gC 75 ?_); refine GL (some 36) Try.func75 #[.slice Ao41 t302.length co41, .int .i64 t308] ?_; (with_reducible refine (spec_l05Without.calls _ _ t302 t308 t311 _ ?side1 ?side2 A11.out).mono ?_); (case side1 => exact Ck (Kd.R_reads' HO304.out).2.2); (case side2 => exact (Kd.R_reads' HO304.out).2.1); rintro e w43 ⟨v312, rfl, ho0, hb⟩; refine ⟨_, rfl, ?_⟩; replace HO295 := Aside0.mk (Kd.N_elder' (by (with_reducible repeat (first | apply Kd.N_alloc | apply Kd.N_drewN | apply Kd.N_drew)); exact HO295.out) (Kd.R_base ho0) hb); replace HL299_0 := Aside0.mk (Kd.V_elder' (by (with_reducible repeat (first | apply Kd.V_alloc | apply Kd.V_drewN | apply Kd.V_drew)); exact HL299_0.out) (Kd.R_base ho0) hb); have HO313 := Aside0.mk (Kd.R_lower (Kd.R_new' ho0 (Kd.R_lt (R1 HO304))) (keep_size (w := w) (g := g) (row := none) Hk)); replace HO304 := Aside0.mk (Kd.R_elder' (R1 HO304) (Kd.R_base ho0) hb); replace HK := Aside0.mk (KeepBut.trans Hk (KeepBut.of_below hb g none) (.inl rfl)); replace HB := Aside0.mk (below_step (by repeat (first | (with_reducible first | exact HB.out | apply below_alloc | apply pw_below_drewN | apply below_drew1 | refine below_set ?_ (IsS75.ge HI0.out)) | exact HB.out)) hb); replace HI0 := Aside0.mk (IsS75.below (by repeat (first | (with_reducible first | exact HI0.out | apply IsS75.alloc | apply IsS75.drewN | apply IsS75.drew | apply IsS75.set_1 | apply IsS75.set_2) | exact HI0.out)) hb); (try clear hb); (try clear hb2); (try clear hk); (try clear hi); (try clear ho0); obtain ⟨Ao44, co44, eo44⟩ := Kd.R_slice HO313.out; subst eo44) | ((with_reducible refine gC 37 ?_); refine GL (some 37) Try.func37 #[.slice Ao44 t311.length co44] ?_; (with_reducible refine (spec_l02Normal.calls k _ _ t311 t314 _ ?side1 ?side2 A12.out).mono ?_); (case side1 => exact Ck (Kd.R_reads' HO313.out).2.2); (case side2 => exact (Kd.R_reads' HO313.out).2.1); rintro e w45 ⟨v315, rfl, ho0, hb⟩; refine ⟨_, rfl, ?_⟩; replace HO295 := Aside0.mk (Kd.N_elder' (by (with_reducible repeat (first | apply Kd.N_alloc | apply Kd.N_drewN | apply Kd.N_drew)); exact HO295.out) (Kd.R_base ho0) hb); replace HL299_0 := Aside0.mk (Kd.V_elder' (by (with_reducible repeat (first | apply Kd.V_alloc | apply Kd.V_drewN | apply Kd.V_drew)); exact HL299_0.out) (Kd.R_base ho0) hb); have HO316 := Aside0.mk (Kd.R_lower (Kd.R_new' (Kd.R_new' ho0 (Kd.R_lt (R1 HO304))) (Kd.R_lt (R1 HO313))) (keep_size (w := w) (g := g) (row := none) Hk)); replace HO304 := Aside0.mk (Kd.R_elder' (R1 HO304) (Kd.R_base ho0) hb); replace HO313 := Aside0.mk (Kd.R_elder' (R1 HO313) (Kd.R_base ho0) hb); replace HK := Aside0.mk (KeepBut.trans Hk (KeepBut.of_below hb g none) (.inl rfl)); replace HB := Aside0.mk (below_step (by repeat (first | (with_reducible first | exact HB.out | apply below_alloc | apply pw_below_drewN | apply below_drew1 | refine below_set ?_ (IsS75.ge HI0.out)) | exact HB.out)) hb); replace HI0 := Aside0.mk (IsS75.below (by repeat (first | (with_reducible first | exact HI0.out | apply IsS75.alloc | apply IsS75.drewN | apply IsS75.drew | apply IsS75.set_1 | apply IsS75.set_2) | exact HI0.out)) hb); (try clear hb); (try clear hb2); (try clear hk); (try clear hi); (try clear ho0)))
            go_ret
            exact ⟨_, Fin, by (with_reducible repeat (first | apply Kd.R_alloc | apply Kd.R_drewN | apply Kd.R_drew)); exact Kd.R_mono HO316.out (fun _ hk => trivial), by repeat (first | (with_reducible first | exact HI0.out | apply IsS75.alloc | apply IsS75.drewN | apply IsS75.drew | apply IsS75.set_1 | apply IsS75.set_2) | exact HI0.out), by repeat (first | (with_reducible first | exact HB.out | apply below_alloc | apply pw_below_drewN | apply below_drew1 | refine below_set ?_ (IsS75.ge HI0.out)) | exact HB.out), by repeat (first | (with_reducible first | exact HK.out | apply KeepBut.set_ | apply keep_drewN | apply keep_drew | apply keep_alloc) | exact HK.out)⟩
          · rw [if_neg c9] at H
            have c9b0 : (t305 == 0) = false := beq_eq_false_iff_ne.mpr c9
            have c9b1 : (t305 != 0) = true := bne_iff_ne.mpr c9
            simp only [Option.some.injEq, Prod.mk.injEq] at H
            obtain ⟨rfl, rfl, rfl⟩ := H
            go_enter Try.func51, Try.ntmps51
            try go_wp2_with (first | ((with_reducible refine gD 7 ?_); refine Kd.R_lit (Kd.int .i64) _ 2 ?hg (N := 7) ?hd (xs := ([3, 4] : List Int)) (inner := [.int .i64 3, .int .i64 4]) (ok := fun _ => True) (okp := fun _ => True) ?hr ?hp (fun _ hk => hk) trivial (Below.refl _ _) (Nat.le_refl _) (by simp) ?_; (case hd => rfl); (case hg => rfl); (case hr => first | (go_simp; done) | (go_simp; rfl)); (case hp => exact (Reps.one (show Kd.M (Kd.int .i64) _ _ _ 3 [.int .i64 3] from rfl) (Reps.one (show Kd.M (Kd.int .i64) _ _ _ 4 [.int .i64 4] from rfl) (Reps.none _ _)))); intro v273 w46 ho47 hb hg_ hnew_; clear hg_ hnew_; (first | rw [← Ny272.out] at ho47 | (simp only [Int.reduceToNat] at ho47; rw [← Ny272.out] at ho47)); have HO274 := Aside0.mk (Kd.R_lower ho47 (keep_size (w := w) (g := g) (row := none) Hk)); replace HK := Aside0.mk (KeepBut.trans Hk (KeepBut.of_below hb g none) (.inl rfl)); replace HB := Aside0.mk (below_step (by repeat (first | (with_reducible first | exact HB.out | apply below_alloc | apply pw_below_drewN | apply below_drew1 | refine below_set ?_ (IsS75.ge HI0.out)) | exact HB.out)) hb); replace HI0 := Aside0.mk (IsS75.below (by repeat (first | (with_reducible first | exact HI0.out | apply IsS75.alloc | apply IsS75.drewN | apply IsS75.drew | apply IsS75.set_1 | apply IsS75.set_2) | exact HI0.out)) hb); clear hb ho47) | ((with_reducible refine gD 8 ?_); refine Kd.R_lit (Kd.int .i64) _ 2 ?hg (N := 8) ?hd (xs := ([4, 3] : List Int)) (inner := [.int .i64 4, .int .i64 3]) (ok := fun _ => True) (okp := fun _ => True) ?hr ?hp (fun _ hk => hk) trivial (Below.refl _ _) (Nat.le_refl _) (by simp) ?_; (case hd => rfl); (case hg => rfl); (case hr => first | (go_simp; done) | (go_simp; rfl)); (case hp => exact (Reps.one (show Kd.M (Kd.int .i64) _ _ _ 4 [.int .i64 4] from rfl) (Reps.one (show Kd.M (Kd.int .i64) _ _ _ 3 [.int .i64 3] from rfl) (Reps.none _ _)))); intro v276 w48 ho49 hb hg_ hnew_; clear hg_ hnew_; (first | rw [← Ny275.out] at ho49 | (simp only [Int.reduceToNat] at ho49; rw [← Ny275.out] at ho49)); have HO277 := Aside0.mk (Kd.R_lower (Kd.R_new' ho49 (Kd.R_lt (R1 HO274))) (keep_size (w := w) (g := g) (row := none) Hk)); replace HO274 := Aside0.mk (Kd.R_elder' (R1 HO274) (Kd.R_base ho49) hb); replace HK := Aside0.mk (KeepBut.trans Hk (KeepBut.of_below hb g none) (.inl rfl)); replace HB := Aside0.mk (below_step (by repeat (first | (with_reducible first | exact HB.out | apply below_alloc | apply pw_below_drewN | apply below_drew1 | refine below_set ?_ (IsS75.ge HI0.out)) | exact HB.out)) hb); replace HI0 := Aside0.mk (IsS75.below (by repeat (first | (with_reducible first | exact HI0.out | apply IsS75.alloc | apply IsS75.drewN | apply IsS75.drew | apply IsS75.set_1 | apply IsS75.set_2) | exact HI0.out)) hb); clear hb ho49) | ((with_reducible refine gD 9 ?_); refine Kd.R_lit (Kd.int .i64) _ 2 ?hg (N := 9) ?hd (xs := ([2, 5] : List Int)) (inner := [.int .i64 2, .int .i64 5]) (ok := fun _ => True) (okp := fun _ => True) ?hr ?hp (fun _ hk => hk) trivial (Below.refl _ _) (Nat.le_refl _) (by simp) ?_; (case hd => rfl); (case hg => rfl); (case hr => first | (go_simp; done) | (go_simp; rfl)); (case hp => exact (Reps.one (show Kd.M (Kd.int .i64) _ _ _ 2 [.int .i64 2] from rfl) (Reps.one (show Kd.M (Kd.int .i64) _ _ _ 5 [.int .i64 5] from rfl) (Reps.none _ _)))); intro v279 w50 ho51 hb hg_ hnew_; clear hg_ hnew_; (first | rw [← Ny278.out] at ho51 | (simp only [Int.reduceToNat] at ho51; rw [← Ny278.out] at ho51)); have HO280 := Aside0.mk (Kd.R_lower (Kd.R_new' (Kd.R_new' ho51 (Kd.R_lt (R1 HO274))) (Kd.R_lt (R1 HO277))) (keep_size (w := w) (g := g) (row := none) Hk)); replace HO274 := Aside0.mk (Kd.R_elder' (R1 HO274) (Kd.R_base ho51) hb); replace HO277 := Aside0.mk (Kd.R_elder' (R1 HO277) (Kd.R_base ho51) hb); replace HK := Aside0.mk (KeepBut.trans Hk (KeepBut.of_below hb g none) (.inl rfl)); replace HB := Aside0.mk (below_step (by repeat (first | (with_reducible first | exact HB.out | apply below_alloc | apply pw_below_drewN | apply below_drew1 | refine below_set ?_ (IsS75.ge HI0.out)) | exact HB.out)) hb); replace HI0 := Aside0.mk (IsS75.below (by repeat (first | (with_reducible first | exact HI0.out | apply IsS75.alloc | apply IsS75.drewN | apply IsS75.drew | apply IsS75.set_1 | apply IsS75.set_2) | exact HI0.out)) hb); clear hb ho51) | ((with_reducible refine gD 10 ?_); refine Kd.R_lit (Kd.int .i64) _ 2 ?hg (N := 10) ?hd (xs := ([5, 2] : List Int)) (inner := [.int .i64 5, .int .i64 2]) (ok := fun _ => True) (okp := fun _ => True) ?hr ?hp (fun _ hk => hk) trivial (Below.refl _ _) (Nat.le_refl _) (by simp) ?_; (case hd => rfl); (case hg => rfl); (case hr => first | (go_simp; done) | (go_simp; rfl)); (case hp => exact (Reps.one (show Kd.M (Kd.int .i64) _ _ _ 5 [.int .i64 5] from rfl) (Reps.one (show Kd.M (Kd.int .i64) _ _ _ 2 [.int .i64 2] from rfl) (Reps.none _ _)))); intro v282 w52 ho53 hb hg_ hnew_; clear hg_ hnew_; (first | rw [← Ny281.out] at ho53 | (simp only [Int.reduceToNat] at ho53; rw [← Ny281.out] at ho53)); have HO283 := Aside0.mk (Kd.R_lower (Kd.R_new' (Kd.R_new' (Kd.R_new' ho53 (Kd.R_lt (R1 HO274))) (Kd.R_lt (R1 HO277))) (Kd.R_lt (R1 HO280))) (keep_size (w := w) (g := g) (row := none) Hk)); replace HO274 := Aside0.mk (Kd.R_elder' (R1 HO274) (Kd.R_base ho53) hb); replace HO277 := Aside0.mk (Kd.R_elder' (R1 HO277) (Kd.R_base ho53) hb); replace HO280 := Aside0.mk (Kd.R_elder' (R1 HO280) (Kd.R_base ho53) hb); replace HK := Aside0.mk (KeepBut.trans Hk (KeepBut.of_below hb g none) (.inl rfl)); replace HB := Aside0.mk (below_step (by repeat (first | (with_reducible first | exact HB.out | apply below_alloc | apply pw_below_drewN | apply below_drew1 | refine below_set ?_ (IsS75.ge HI0.out)) | exact HB.out)) hb); replace HI0 := Aside0.mk (IsS75.below (by repeat (first | (with_reducible first | exact HI0.out | apply IsS75.alloc | apply IsS75.drewN | apply IsS75.drew | apply IsS75.set_1 | apply IsS75.set_2) | exact HI0.out)) hb); clear hb ho53) | ((with_reducible refine gD 11 ?_); refine Kd.R_lit (Kd.int .i64) _ 2 ?hg (N := 11) ?hd (xs := ([3, 3] : List Int)) (inner := [.int .i64 3, .int .i64 3]) (ok := fun _ => True) (okp := fun _ => True) ?hr ?hp (fun _ hk => hk) trivial (Below.refl _ _) (Nat.le_refl _) (by simp) ?_; (case hd => rfl); (case hg => rfl); (case hr => first | (go_simp; done) | (go_simp; rfl)); (case hp => exact (Reps.one (show Kd.M (Kd.int .i64) _ _ _ 3 [.int .i64 3] from rfl) (Reps.one (show Kd.M (Kd.int .i64) _ _ _ 3 [.int .i64 3] from rfl) (Reps.none _ _)))); intro v285 w54 ho55 hb hg_ hnew_; clear hg_ hnew_; (first | rw [← Ny284.out] at ho55 | (simp only [Int.reduceToNat] at ho55; rw [← Ny284.out] at ho55)); have HO286 := Aside0.mk (Kd.R_lower (Kd.R_new' (Kd.R_new' (Kd.R_new' (Kd.R_new' ho55 (Kd.R_lt (R1 HO274))) (Kd.R_lt (R1 HO277))) (Kd.R_lt (R1 HO280))) (Kd.R_lt (R1 HO283))) (keep_size (w := w) (g := g) (row := none) Hk)); replace HO274 := Aside0.mk (Kd.R_elder' (R1 HO274) (Kd.R_base ho55) hb); replace HO277 := Aside0.mk (Kd.R_elder' (R1 HO277) (Kd.R_base ho55) hb); replace HO280 := Aside0.mk (Kd.R_elder' (R1 HO280) (Kd.R_base ho55) hb); replace HO283 := Aside0.mk (Kd.R_elder' (R1 HO283) (Kd.R_base ho55) hb); replace HK := Aside0.mk (KeepBut.trans Hk (KeepBut.of_below hb g none) (.inl rfl)); replace HB := Aside0.mk (below_step (by repeat (first | (with_reducible first | exact HB.out | apply below_alloc | apply pw_below_drewN | apply below_drew1 | refine below_set ?_ (IsS75.ge HI0.out)) | exact HB.out)) hb); replace HI0 := Aside0.mk (IsS75.below (by repeat (first | (with_reducible first | exact HI0.out | apply IsS75.alloc | apply IsS75.drewN | apply IsS75.drew | apply IsS75.set_1 | apply IsS75.set_2) | exact HI0.out)) hb); clear hb ho55) | ((with_reducible refine gD 12 ?_); refine Kd.R_lit (Kd.int .i64) _ 2 ?hg (N := 12) ?hd (xs := ([6, 2] : List Int)) (inner := [.int .i64 6, .int .i64 2]) (ok := fun _ => True) (okp := fun _ => True) ?hr ?hp (fun _ hk => hk) trivial (Below.refl _ _) (Nat.le_refl _) (by simp) ?_; (case hd => rfl); (case hg => rfl); (case hr => first | (go_simp; done) | (go_simp; rfl)); (case hp => exact (Reps.one (show Kd.M (Kd.int .i64) _ _ _ 6 [.int .i64 6] from rfl) (Reps.one (show Kd.M (Kd.int .i64) _ _ _ 2 [.int .i64 2] from rfl) (Reps.none _ _)))); intro v288 w56 ho57 hb hg_ hnew_; clear hg_ hnew_; (first | rw [← Ny287.out] at ho57 | (simp only [Int.reduceToNat] at ho57; rw [← Ny287.out] at ho57)); have HO289 := Aside0.mk (Kd.R_lower (Kd.R_new' (Kd.R_new' (Kd.R_new' (Kd.R_new' (Kd.R_new' ho57 (Kd.R_lt (R1 HO274))) (Kd.R_lt (R1 HO277))) (Kd.R_lt (R1 HO280))) (Kd.R_lt (R1 HO283))) (Kd.R_lt (R1 HO286))) (keep_size (w := w) (g := g) (row := none) Hk)); replace HO274 := Aside0.mk (Kd.R_elder' (R1 HO274) (Kd.R_base ho57) hb); replace HO277 := Aside0.mk (Kd.R_elder' (R1 HO277) (Kd.R_base ho57) hb); replace HO280 := Aside0.mk (Kd.R_elder' (R1 HO280) (Kd.R_base ho57) hb); replace HO283 := Aside0.mk (Kd.R_elder' (R1 HO283) (Kd.R_base ho57) hb); replace HO286 := Aside0.mk (Kd.R_elder' (R1 HO286) (Kd.R_base ho57) hb); replace HK := Aside0.mk (KeepBut.trans Hk (KeepBut.of_below hb g none) (.inl rfl)); replace HB := Aside0.mk (below_step (by repeat (first | (with_reducible first | exact HB.out | apply below_alloc | apply pw_below_drewN | apply below_drew1 | refine below_set ?_ (IsS75.ge HI0.out)) | exact HB.out)) hb); replace HI0 := Aside0.mk (IsS75.below (by repeat (first | (with_reducible first | exact HI0.out | apply IsS75.alloc | apply IsS75.drewN | apply IsS75.drew | apply IsS75.set_1 | apply IsS75.set_2) | exact HI0.out)) hb); clear hb ho57) | ((with_reducible refine gD 13 ?_); refine Kd.R_lit (Kd.int .i64) _ 2 ?hg (N := 13) ?hd (xs := ([4, 2] : List Int)) (inner := [.int .i64 4, .int .i64 2]) (ok := fun _ => True) (okp := fun _ => True) ?hr ?hp (fun _ hk => hk) trivial (Below.refl _ _) (Nat.le_refl _) (by simp) ?_; (case hd => rfl); (case hg => rfl); (case hr => first | (go_simp; done) | (go_simp; rfl)); (case hp => exact (Reps.one (show Kd.M (Kd.int .i64) _ _ _ 4 [.int .i64 4] from rfl) (Reps.one (show Kd.M (Kd.int .i64) _ _ _ 2 [.int .i64 2] from rfl) (Reps.none _ _)))); intro v291 w58 ho59 hb hg_ hnew_; clear hg_ hnew_; (first | rw [← Ny290.out] at ho59 | (simp only [Int.reduceToNat] at ho59; rw [← Ny290.out] at ho59)); have HO292 := Aside0.mk (Kd.R_lower (Kd.R_new' (Kd.R_new' (Kd.R_new' (Kd.R_new' (Kd.R_new' (Kd.R_new' ho59 (Kd.R_lt (R1 HO274))) (Kd.R_lt (R1 HO277))) (Kd.R_lt (R1 HO280))) (Kd.R_lt (R1 HO283))) (Kd.R_lt (R1 HO286))) (Kd.R_lt (R1 HO289))) (keep_size (w := w) (g := g) (row := none) Hk)); replace HO274 := Aside0.mk (Kd.R_elder' (R1 HO274) (Kd.R_base ho59) hb); replace HO277 := Aside0.mk (Kd.R_elder' (R1 HO277) (Kd.R_base ho59) hb); replace HO280 := Aside0.mk (Kd.R_elder' (R1 HO280) (Kd.R_base ho59) hb); replace HO283 := Aside0.mk (Kd.R_elder' (R1 HO283) (Kd.R_base ho59) hb); replace HO286 := Aside0.mk (Kd.R_elder' (R1 HO286) (Kd.R_base ho59) hb); replace HO289 := Aside0.mk (Kd.R_elder' (R1 HO289) (Kd.R_base ho59) hb); replace HK := Aside0.mk (KeepBut.trans Hk (KeepBut.of_below hb g none) (.inl rfl)); replace HB := Aside0.mk (below_step (by repeat (first | (with_reducible first | exact HB.out | apply below_alloc | apply pw_below_drewN | apply below_drew1 | refine below_set ?_ (IsS75.ge HI0.out)) | exact HB.out)) hb); replace HI0 := Aside0.mk (IsS75.below (by repeat (first | (with_reducible first | exact HI0.out | apply IsS75.alloc | apply IsS75.drewN | apply IsS75.drew | apply IsS75.set_1 | apply IsS75.set_2) | exact HI0.out)) hb); clear hb ho59; obtain ⟨Ao60, co60, eo60⟩ := Kd.R_slice HO274.out; subst eo60; obtain ⟨Ao61, co61, eo61⟩ := Kd.R_slice HO277.out; subst eo61; obtain ⟨Ao62, co62, eo62⟩ := Kd.R_slice HO280.out; subst eo62; obtain ⟨Ao63, co63, eo63⟩ := Kd.R_slice HO283.out; subst eo63; obtain ⟨Ao64, co64, eo64⟩ := Kd.R_slice HO286.out; subst eo64; obtain ⟨Ao65, co65, eo65⟩ := Kd.R_slice HO289.out; subst eo65; obtain ⟨Ao66, co66, eo66⟩ := Kd.R_slice HO292.out; subst eo66) | ((with_reducible refine gD 14 ?_); refine Kd.N_lit (Kd.slice 2 (Kd.int .i64)) _ 25 ?hg (N' := 14) ?hd (xs := ([y272, y275, y278, y281, y284, y287, y290] : List (List Int))) (inner := [.slice Ao60 y272.length co60, .slice Ao61 y275.length co61, .slice Ao62 y278.length co62, .slice Ao63 y281.length co63, .slice Ao64 y284.length co64, .slice Ao65 y287.length co65, .slice Ao66 y290.length co66]) (ok := (fun k_ => k_ ≠ g)) (okp := (fun k_ => k_ ≠ g)) ?hr ?hp (fun _ hk => hk) ((show ∀ k_, w58.heap.size ≤ k_ → (fun k_ => k_ ≠ g) k_ from fun k_ hk => IsS75.fresh (by repeat (first | (with_reducible first | exact HI0.out | apply IsS75.alloc | apply IsS75.drewN | apply IsS75.drew | apply IsS75.set_1 | apply IsS75.set_2) | exact HI0.out)) k_ hk) _ (Nat.le_refl _)) (Below.refl _ _) (Nat.le_refl _) (by simp) ?_; (case hd => rfl); (case hg => rfl); (case hr => first | (go_simp; done) | (go_simp; rfl)); (case hp => exact (Reps.one (show Kd.FK (Kd.slice 2 (Kd.int .i64)) _ _ y272 [.slice Ao60 y272.length co60] from (Kd.FK_slice_mk (Kd.R_reads' (Kd.R_mono (ok' := (fun k_ => k_ ≠ g)) (IsS75.apart HI0.out (HO274.out) (by decide)) (fun k_ hk => hk.2))).2.1 (Kd.R_F (Kd.R_mono (ok' := (fun k_ => k_ ≠ g)) (IsS75.apart HI0.out (HO274.out) (by decide)) (fun k_ hk => hk.2))))) (Reps.one (show Kd.FK (Kd.slice 2 (Kd.int .i64)) _ _ y275 [.slice Ao61 y275.length co61] from (Kd.FK_slice_mk (Kd.R_reads' (Kd.R_mono (ok' := (fun k_ => k_ ≠ g)) (IsS75.apart HI0.out (HO277.out) (by decide)) (fun k_ hk => hk.2))).2.1 (Kd.R_F (Kd.R_mono (ok' := (fun k_ => k_ ≠ g)) (IsS75.apart HI0.out (HO277.out) (by decide)) (fun k_ hk => hk.2))))) (Reps.one (show Kd.FK (Kd.slice 2 (Kd.int .i64)) _ _ y278 [.slice Ao62 y278.length co62] from (Kd.FK_slice_mk (Kd.R_reads' (Kd.R_mono (ok' := (fun k_ => k_ ≠ g)) (IsS75.apart HI0.out (HO280.out) (by decide)) (fun k_ hk => hk.2))).2.1 (Kd.R_F (Kd.R_mono (ok' := (fun k_ => k_ ≠ g)) (IsS75.apart HI0.out (HO280.out) (by decide)) (fun k_ hk => hk.2))))) (Reps.one (show Kd.FK (Kd.slice 2 (Kd.int .i64)) _ _ y281 [.slice Ao63 y281.length co63] from (Kd.FK_slice_mk (Kd.R_reads' (Kd.R_mono (ok' := (fun k_ => k_ ≠ g)) (IsS75.apart HI0.out (HO283.out) (by decide)) (fun k_ hk => hk.2))).2.1 (Kd.R_F (Kd.R_mono (ok' := (fun k_ => k_ ≠ g)) (IsS75.apart HI0.out (HO283.out) (by decide)) (fun k_ hk => hk.2))))) (Reps.one (show Kd.FK (Kd.slice 2 (Kd.int .i64)) _ _ y284 [.slice Ao64 y284.length co64] from (Kd.FK_slice_mk (Kd.R_reads' (Kd.R_mono (ok' := (fun k_ => k_ ≠ g)) (IsS75.apart HI0.out (HO286.out) (by decide)) (fun k_ hk => hk.2))).2.1 (Kd.R_F (Kd.R_mono (ok' := (fun k_ => k_ ≠ g)) (IsS75.apart HI0.out (HO286.out) (by decide)) (fun k_ hk => hk.2))))) (Reps.one (show Kd.FK (Kd.slice 2 (Kd.int .i64)) _ _ y287 [.slice Ao65 y287.length co65] from (Kd.FK_slice_mk (Kd.R_reads' (Kd.R_mono (ok' := (fun k_ => k_ ≠ g)) (IsS75.apart HI0.out (HO289.out) (by decide)) (fun k_ hk => hk.2))).2.1 (Kd.R_F (Kd.R_mono (ok' := (fun k_ => k_ ≠ g)) (IsS75.apart HI0.out (HO289.out) (by decide)) (fun k_ hk => hk.2))))) (Reps.one (show Kd.FK (Kd.slice 2 (Kd.int .i64)) _ _ y290 [.slice Ao66 y290.length co66] from (Kd.FK_slice_mk (Kd.R_reads' (Kd.R_mono (ok' := (fun k_ => k_ ≠ g)) (IsS75.apart HI0.out (HO292.out) (by decide)) (fun k_ hk => hk.2))).2.1 (Kd.R_F (Kd.R_mono (ok' := (fun k_ => k_ ≠ g)) (IsS75.apart HI0.out (HO292.out) (by decide)) (fun k_ hk => hk.2))))) (Reps.none _ _))))))))); intro v294 w67 ho68 hb hg_ hnew_; clear hg_ hnew_; (first | rw [← Ny293.out] at ho68 | (simp only [Int.reduceToNat] at ho68; rw [← Ny293.out] at ho68)); have HO295 := Aside0.mk (Kd.N_lower ho68 (keep_size (w := w) (g := g) (row := none) Hk)); replace HK := Aside0.mk (KeepBut.trans Hk (KeepBut.of_below hb g none) (.inl rfl)); replace HB := Aside0.mk (below_step (by repeat (first | (with_reducible first | exact HB.out | apply below_alloc | apply pw_below_drewN | apply below_drew1 | refine below_set ?_ (IsS75.ge HI0.out)) | exact HB.out)) hb); replace HI0 := Aside0.mk (IsS75.below (by repeat (first | (with_reducible first | exact HI0.out | apply IsS75.alloc | apply IsS75.drewN | apply IsS75.drew | apply IsS75.set_1 | apply IsS75.set_2) | exact HI0.out)) hb); clear HO274; clear HO277; clear HO280; clear HO283; clear HO286; clear HO289; clear HO292; clear hb ho68) | ((with_reducible refine gC 24 ?_); refine GL (some 17) Try.func24 #[.pointer (some ⟨g, 0, none⟩), .int .i64 7] ?_; (with_reducible refine (spec_l01Next.calls g s0_0 s0_1 s0_2 7 t296 t297 t298 w0 _ ?side1 ?side2 A2.out).mono ?_); (case side1 => repeat (first | (with_reducible first | exact HI0.out | apply IsS75.alloc | apply IsS75.drewN | apply IsS75.drew | apply IsS75.set_1 | apply IsS75.set_2) | exact HI0.out)); (case side2 => repeat (first | (with_reducible first | exact HB.out | apply below_alloc | apply pw_below_drewN | apply below_drew1 | refine below_set ?_ (IsS75.ge HI0.out)) | exact HB.out)); rintro e w69 ⟨rfl, hi, hb, hk⟩; refine ⟨_, rfl, ?_⟩; replace HO295 := Aside0.mk (Kd.N_mono (Kd.N_keep (Kd.N_mono (ok := fun k_ => k_ ≠ g) (by (with_reducible repeat (first | apply Kd.N_alloc | apply Kd.N_drewN | apply Kd.N_drew)); exact HO295.out) (fun k_ hk_ => (⟨hk_, hk_⟩ : _ ∧ k_ ≠ g))) hk (fun _ h => h.2)) (fun _ h => h.1)); replace HK := Aside0.mk (KeepBut.trans Hk hk (.inl rfl)); replace HB := Aside0.mk (hb); replace HI0 := Aside0.mk (hi); (try clear hb); (try clear hb2); (try clear hk); (try clear hi); obtain ⟨Ao70, co70, eo70⟩ := Kd.N_slice HO295.out; subst eo70; have p299 : 0 ≤ (t296 : Int) := oD; have q299 : t296 < (y293.length : Int) := oD; obtain ⟨ad299, A299_0, c299_0, e299, hx299_0, hl299_0, hi299_0⟩ := at_L3 (Kd.N_reads' HO295.out).2.2 t296 p299 q299; cases e299; obtain ⟨ce299, hce299, hMe299, hcc299⟩ := Kd.N_get HO295.out [] t296 p299 (by first | exact q299 | exact oD | (have e_ := (Kd.N_reads' HO295.out).1; omega)); obtain ⟨ua299_0, uc299_0, rfl, ul299_0, ge299_0⟩ := Kd.FK_slice_open hMe299; have hv299_0 := hcc299 0 _ rfl; rw [Nat.add_zero, show ((Kd.slice 2 (Kd.int .i64))).sz = 1 from rfl, Nat.mul_one] at hv299_0; replace hv299_0 := Option.some.inj (hv299_0.symm.trans hx299_0); injection hv299_0 with hva_ hvn_ hvc_; rw [hva_] at ge299_0; rw [hvc_] at ul299_0; have HL299_0 := Aside0.mk (show Kd.V (Kd.int .i64) 2 _ w.heap.size _ _ (rd_L3 y293 t296) from Kd.V_mk ul299_0 ge299_0); clear hva_ hvn_ hvc_ ge299_0 ul299_0; clear hcc299 hce299; have HR299_0 := Aside0.mk hi299_0; have HC299_0 := Aside0.mk hl299_0; clear hi299_0 hl299_0; replace p299 := eq_true p299; replace q299 := eq_true q299))
            replace HO295 := Aside0.mk (Kd.N_drew HO295.out)
            replace HL299_0 := Aside0.mk (Kd.V_drew HL299_0.out)
            replace HR299_0 := Aside0.mk (Kd.C_drew HR299_0.out)
            replace HI0 := Aside0.mk (IsS75.drew HI0.out)
            replace HK := Aside0.mk (keep_drew HK.out)
            replace HB := Aside0.mk (below_drew1 HB.out)
            have p300 : 0 ≤ (0 : Int) := (by omega)
            have q300 : 0 < ((rd_L3 y293 t296).length : Int) := oD
            obtain ⟨ad300, e300, hx300_0⟩ := Kd.at_int (by repeat (first | (with_reducible exact HR299_0.out) | (with_reducible refine Kd.C_alloc ?_ _) | (with_reducible refine Kd.C_drewN ?_ _) | (with_reducible refine Kd.C_drew ?_) | exact HR299_0.out)) 0 p300 q300
            cases e300
            have qi300 : (0 < (rd_L3 y293 t296).length) = True := eq_true (by omega)
            (try rw [show ((0 : Int)).toNat = 0 from rfl] at hx300_0)
            (try rw [Addr.add_zero'] at hx300_0)
            replace p300 := eq_true p300
            replace q300 := eq_true q300
            have p301 : 0 ≤ (1 : Int) := (by omega)
            have q301 : 1 < ((rd_L3 y293 t296).length : Int) := oD
            obtain ⟨ad301, e301, hx301_0⟩ := Kd.at_int (by repeat (first | (with_reducible exact HR299_0.out) | (with_reducible refine Kd.C_alloc ?_ _) | (with_reducible refine Kd.C_drewN ?_ _) | (with_reducible refine Kd.C_drew ?_) | exact HR299_0.out)) 1 p301 q301
            obtain rfl : ad300 = ad301 := (by injection e301)
            (try simp only [show (1 : Int).toNat = 1 from rfl, Nat.reduceMul, Nat.reduceEqDiff, Go.Addr.add, ↓reduceIte] at hx301_0)
            have qi301 : (1 < (rd_L3 y293 t296).length) = True := eq_true (by omega)
            (try rw [show ((1 : Int)).toNat = 1 from rfl] at hx301_0)
            replace p301 := eq_true p301
            replace q301 := eq_true q301
            refine start_ (n := 8) (S := fun w' => w'.cell? ad300 = some (.int .i64 (rd (rd_L3 y293 t296) 0)) ∧ w'.cell? ⟨ad300.block, ad300.off + 1, none⟩ = some (.int .i64 (rd (rd_L3 y293 t296) 1))) (ds := []) #[false, false, false, false, false, false, false, false] (by kernel_rfl) rfl rfl ⟨hx300_0, hx301_0⟩ (fun hHeld => ?_); refine with_tabW spec_l10DrawSmall.tab3 spec_l10DrawSmall.bits3 (fun HT_ HW_ => ?_)
            generalize w69.drew = w71 at HO295 HL299_0 HR299_0 HI0 HK HB hx300_0 hx301_0 hHeld ⊢
            refine PU 0 20 ?_
            refine PU 1 21 ?_
            refine PU 3 23 ?_
            refine PU 4 24 ?_
            refine TK 2 22 hHeld ?_
            refine TK 5 25 hHeld ?_
            refine ON 6 26 (fun K hK => ?_)
            refine GO Try.func49 #[.int .i64 (rd (rd_L3 y293 t296) 0), .int .i64 (rd (rd_L3 y293 t296) 1)] ?_
            with_reducible refine (spec_l10Rectangle.calls k (rd (rd_L3 y293 t296) 0) (rd (rd_L3 y293 t296) 1) t302 _ A7.out).mono ?_
            rintro e w72 ⟨v303, rfl, ho0, hb⟩
            have HS0_ := (hb.cell (World.block_lt_of_cell? _ _ (hHeld.1))).trans (hHeld.1)
            have HS1_ := (hb.cell (World.block_lt_of_cell? _ _ (hHeld.2))).trans (hHeld.2)
            refine ⟨_, rfl, ?_⟩
            replace HO295 := Aside0.mk (Kd.N_elder' (by (with_reducible repeat (first | apply Kd.N_alloc | apply Kd.N_drewN | apply Kd.N_drew)); exact HO295.out) (Kd.R_base ho0) hb)
            replace HL299_0 := Aside0.mk (Kd.V_elder' (by (with_reducible repeat (first | apply Kd.V_alloc | apply Kd.V_drewN | apply Kd.V_drew)); exact HL299_0.out) (Kd.R_base ho0) hb)
            have HO304 := Aside0.mk (Kd.R_lower ho0 (keep_size (w := w) (g := g) (row := none) Hk))
            replace HR299_0 := Aside0.mk (Kd.C_below (by repeat (first | (with_reducible exact HR299_0.out) | (with_reducible refine Kd.C_alloc ?_ _) | (with_reducible refine Kd.C_drewN ?_ _) | (with_reducible refine Kd.C_drew ?_) | exact HR299_0.out)) hb)
            replace HK := Aside0.mk (KeepBut.trans Hk (KeepBut.of_below hb g none) (.inl rfl))
            replace HB := Aside0.mk (below_step (by repeat (first | (with_reducible first | exact HB.out | apply below_alloc | apply pw_below_drewN | apply below_drew1 | refine below_set ?_ (IsS75.ge HI0.out)) | exact HB.out)) hb)
            replace HI0 := Aside0.mk (IsS75.below (by repeat (first | (with_reducible first | exact HI0.out | apply IsS75.alloc | apply IsS75.drewN | apply IsS75.drew | apply IsS75.set_1 | apply IsS75.set_2) | exact HI0.out)) hb)
            (try clear hb)
            (try clear hb2)
            (try clear hk)
            (try clear hi)
            (try clear ho0)
            refine hK.out _ _ ⟨HS0_, HS1_⟩ (fun hHeld => ?_)
            clear hK K
            refine NM 26 ?_
            refine PU 7 5 ?_
            refine done_ (done_of HT_.out (by kernel_rfl)) ?_
            try go_wp2_with (first | ((with_reducible refine gC 24 ?_); refine GL (some 28) Try.func24 #[.pointer (some ⟨g, 0, none⟩), .int .i64 3] ?_; (with_reducible refine (spec_l01Next.calls g s0_0 t297 t298 3 t305 t306 t307 w0 _ ?side1 ?side2 A8.out).mono ?_); (case side1 => repeat (first | (with_reducible first | exact HI0.out | apply IsS75.alloc | apply IsS75.drewN | apply IsS75.drew | apply IsS75.set_1 | apply IsS75.set_2) | exact HI0.out)); (case side2 => repeat (first | (with_reducible first | exact HB.out | apply below_alloc | apply pw_below_drewN | apply below_drew1 | refine below_set ?_ (IsS75.ge HI0.out)) | exact HB.out)); rintro e w73 ⟨rfl, hi, hb, hk⟩; refine ⟨_, rfl, ?_⟩; replace HO295 := Aside0.mk (Kd.N_mono (Kd.N_keep (Kd.N_mono (ok := fun k_ => (k_ ≠ g ∧ some k_ ≠ (v303 : Value).ownBlock)) (by (with_reducible repeat (first | apply Kd.N_alloc | apply Kd.N_drewN | apply Kd.N_drew)); exact HO295.out) (fun k_ hk_ => (⟨hk_, hk_.1⟩ : _ ∧ k_ ≠ g))) hk (fun _ h => h.2)) (fun _ h => h.1)); replace HL299_0 := Aside0.mk (Kd.V_mono (Kd.V_keep (Kd.V_mono (ok := fun k_ => ((k_ ≠ g ∧ some k_ ≠ (.slice (some ad299) y293.length co70 : Value).ownBlock) ∧ some k_ ≠ (v303 : Value).ownBlock)) (by (with_reducible repeat (first | apply Kd.V_alloc | apply Kd.V_drewN | apply Kd.V_drew)); exact HL299_0.out) (fun k_ hk_ => (⟨hk_, hk_.1.1⟩ : _ ∧ k_ ≠ g))) hk (fun _ h => h.2)) (fun _ h => h.1)); replace HO304 := Aside0.mk (Kd.R_mono (Kd.R_keep (IsS75.apart (show IsS75 w0 _ g s0_0 t297 t298 from by repeat (first | (with_reducible first | exact HI0.out | apply IsS75.alloc | apply IsS75.drewN | apply IsS75.drew | apply IsS75.set_1 | apply IsS75.set_2) | exact HI0.out)) (R1 HO304) (by decide)) hk (fun _ h => h.2)) (fun _ h => h.1)); replace HK := Aside0.mk (KeepBut.trans Hk hk (.inl rfl)); replace HB := Aside0.mk (hb); replace HI0 := Aside0.mk (hi); (try clear hb); (try clear hb2); (try clear hk); (try clear hi)))
            go_ret
            exact ⟨_, Fin, R1 HO304, by repeat (first | (with_reducible first | exact HI0.out | apply IsS75.alloc | apply IsS75.drewN | apply IsS75.drew | apply IsS75.set_1 | apply IsS75.set_2) | exact HI0.out), by repeat (first | (with_reducible first | exact HB.out | apply below_alloc | apply pw_below_drewN | apply below_drew1 | refine below_set ?_ (IsS75.ge HI0.out)) | exact HB.out), by repeat (first | (with_reducible first | exact HK.out | apply KeepBut.set_ | apply keep_drewN | apply keep_drew | apply keep_alloc) | exact HK.out)⟩
        · rw [if_neg c6] at H
          exact absurd H (by simp)
      · rw [if_neg c5] at H
        exact absurd H (by simp)
    · rw [if_neg c4] at H
      exact absurd H (by simp)
  · rw [if_neg c3] at H
    exact absurd H (by simp)

/-! ### spec_l10Draw: function 23 -/
def spec_l10Draw.j0 : Nat → Bool → List Int → Int → Int → Option ((List (S68)) × Int × Int)
  | 0, _, _, _, _ => none
  | k + 1, x20, x1000, x1001, x1002 => if x20 = true then ((spec_l02DrawPoly.f k x1000 x1001 x1002 9).bind fun bt334 => (some (bt334.1, bt334.2.1, bt334.2.2))) else ((spec_l10DrawSmall.f k x1000 x1001 x1002).bind fun bt339 => (some (bt339.1, bt339.2.1, bt339.2.2)))
def spec_l10Draw.f (k : Nat) (s0_0 : List Int) (s0_1 : Int) (s0_2 : Int) : Option ((List (S68)) × Int × Int) := (spec_l01Next.f s0_0 s0_1 s0_2 24).bind fun bt317 => (if bt317.1 = 0 then ((spec_l02Draw.f k s0_0 bt317.2.1 bt317.2.2).bind fun bt320 => (some (bt320.1, bt320.2.1, bt320.2.2))) else (if bt317.1 = 1 then ((spec_l10Rectangle.f k 20 2).bind fun t325 => (some (t325, bt317.2.1, bt317.2.2))) else (if bt317.1 = 2 then ((spec_l01Next.f s0_0 bt317.2.1 bt317.2.2 2).bind fun bt328 => (some ((([(⟨0, 0⟩ : S68), (⟨wrap64 (19 + bt328.1), 0⟩ : S68)] : List (S68))), bt328.2.1, bt328.2.2))) else (if bt317.1 = 3 then (spec_l10Draw.j0 k (bt317.1 == 3) s0_0 bt317.2.1 bt317.2.2) else (spec_l10Draw.j0 k (bt317.1 == 4) s0_0 bt317.2.1 bt317.2.2)))))
theorem spec_l10Draw.mono_l : ∀ k, (∀ y0 y1 y2 y3, LeO (spec_l10Draw.j0 k y0 y1 y2 y3) (spec_l10Draw.j0 (k + 1) y0 y1 y2 y3))
  | 0 => fun _ _ _ _ r h => by simp [spec_l10Draw.j0] at h
  | k + 1 => by
    have ih0 := spec_l10Draw.mono_l k
    · intro y0 y1 y2 y3
      unfold spec_l10Draw.j0
      repeat' first
      | (with_reducible exact ih0 _ _ _ _)
      | (with_reducible exact spec_l02Draw.mono _ _ _ _)
      | (with_reducible exact spec_l02DrawPoly.mono _ _ _ _ _)
      | (with_reducible exact spec_l10DrawSmall.mono _ _ _ _)
      | (with_reducible exact spec_l10Rectangle.mono _ _ _)
      | (with_reducible exact LeO.refl _)
      | (with_reducible exact LeO.none _)
      | (with_reducible refine LeO.ite ?_ ?_)
      | (with_reducible refine LeO.bind ?_ (fun _ => ?_))
      | exact ih0 _ _ _ _
      | exact spec_l02Draw.mono _ _ _ _
      | exact spec_l02DrawPoly.mono _ _ _ _ _
      | exact spec_l10DrawSmall.mono _ _ _ _
      | exact spec_l10Rectangle.mono _ _ _
      | exact LeO.none _
      | refine LeO.ite ?_ ?_
      | refine LeO.bind ?_ (fun _ => ?_)
theorem spec_l10Draw.mono : ∀ a0 a1 a2 k, LeO (spec_l10Draw.f k a0 a1 a2) (spec_l10Draw.f (k + 1) a0 a1 a2) := by
  intro a0 a1 a2 k
  have ih0 := spec_l10Draw.mono_l k
  unfold spec_l10Draw.f
  repeat' first
      | (with_reducible exact ih0 _ _ _ _)
      | (with_reducible exact spec_l02Draw.mono _ _ _ _)
      | (with_reducible exact spec_l02DrawPoly.mono _ _ _ _ _)
      | (with_reducible exact spec_l10DrawSmall.mono _ _ _ _)
      | (with_reducible exact spec_l10Rectangle.mono _ _ _)
      | (with_reducible exact LeO.refl _)
      | (with_reducible exact LeO.none _)
      | (with_reducible refine LeO.ite ?_ ?_)
      | (with_reducible refine LeO.bind ?_ (fun _ => ?_))
      | exact ih0 _ _ _ _
      | exact spec_l02Draw.mono _ _ _ _
      | exact spec_l02DrawPoly.mono _ _ _ _ _
      | exact spec_l10DrawSmall.mono _ _ _ _
      | exact spec_l10Rectangle.mono _ _ _
      | exact LeO.none _
      | refine LeO.ite ?_ ?_
      | refine LeO.bind ?_ (fun _ => ?_)
set_option maxHeartbeats 8000000 in
set_option maxRecDepth 100000 in
theorem spec_l10Draw.calls (k : Nat) (g : Nat) (s0_0 : List Int) (s0_1 : Int) (s0_2 : Int) (r1 : List (S68)) (r2 : Int) (r3 : Int) (w0 w : World) (hI : IsS75 w0 w g s0_0 s0_1 s0_2) (hB : Below w0.heap.size w0 w) (h : spec_l10Draw.f k s0_0 s0_1 s0_2 = some (r1, r2, r3)) :
    Calls Try.prog 23 #[.pointer (some ⟨g, 0, none⟩)] w fun e w' => ∃ v0_ : Value, e = .returned (v0_) ∧ Kd.R k68 68 w' w.heap.size (fun _ => True) v0_ r1 ∧ IsS75 w0 w' g s0_0 r2 r3 ∧ Below w0.heap.size w0 w' ∧ KeepBut w w' g none := by
  have hu68 := Try.underlying68
  have HI0 := Aside0.mk hI
  have HK := Aside0.mk (KeepBut.refl w g none)
  have HL := Aside0.mk hB.size
  clear hI
  have HW0 := Aside0.mk hB.size
  have HB := Aside0.mk hB
  clear hB
  have H : ((spec_l01Next.f s0_0 s0_1 s0_2 24).bind fun bt317 => (if bt317.1 = 0 then ((spec_l02Draw.f k s0_0 bt317.2.1 bt317.2.2).bind fun bt320 => (some (bt320.1, bt320.2.1, bt320.2.2))) else (if bt317.1 = 1 then ((spec_l10Rectangle.f k 20 2).bind fun t325 => (some (t325, bt317.2.1, bt317.2.2))) else (if bt317.1 = 2 then ((spec_l01Next.f s0_0 bt317.2.1 bt317.2.2 2).bind fun bt328 => (some ((([(⟨0, 0⟩ : S68), (⟨wrap64 (19 + bt328.1), 0⟩ : S68)] : List (S68))), bt328.2.1, bt328.2.2))) else (if bt317.1 = 3 then (spec_l10Draw.j0 k (bt317.1 == 3) s0_0 bt317.2.1 bt317.2.2) else (spec_l10Draw.j0 k (bt317.1 == 4) s0_0 bt317.2.1 bt317.2.2)))))) = some (r1, r2, r3) := h
  clear h
  obtain ⟨⟨t317, t318, t319⟩, A20, H⟩ := Option.bind_eq_some_iff.mp H
  dsimp only at H
  have A2 := Aside0.mk A20
  clear A20
  by_cases c3 : t317 = 0
  · rw [if_pos c3] at H
    have c3b0 : (t317 == 0) = true := beq_iff_eq.mpr c3
    have c3b1 : (t317 != 0) = false := bne_eq_false_iff_eq.mpr c3
    clear c3
    obtain ⟨⟨t320, t323, t324⟩, A40, H⟩ := Option.bind_eq_some_iff.mp H
    dsimp only at H
    have A4 := Aside0.mk A40
    clear A40
    simp only [Option.some.injEq, Prod.mk.injEq] at H
    obtain ⟨rfl, rfl, rfl⟩ := H
    go_enter Try.func23, Try.ntmps23
    go_wp2_with (first | ((with_reducible refine gC 24 ?_); refine GL (some 4) Try.func24 #[.pointer (some ⟨g, 0, none⟩), .int .i64 24] ?_; (with_reducible refine (spec_l01Next.calls g s0_0 s0_1 s0_2 24 t317 t318 t319 w0 _ ?side1 ?side2 A2.out).mono ?_); (case side1 => repeat (first | (with_reducible first | exact HI0.out | apply IsS75.alloc | apply IsS75.drewN | apply IsS75.drew | apply IsS75.set_1 | apply IsS75.set_2) | exact HI0.out)); (case side2 => repeat (first | (with_reducible first | exact HB.out | apply below_alloc | apply pw_below_drewN | apply below_drew1 | refine below_set ?_ (IsS75.ge HI0.out)) | exact HB.out)); rintro e w5 ⟨rfl, hi, hb, hk⟩; refine ⟨_, rfl, ?_⟩; replace HK := Aside0.mk (KeepBut.trans Hk hk (.inl rfl)); replace HB := Aside0.mk (hb); replace HI0 := Aside0.mk (hi); (try clear hb); (try clear hb2); (try clear hk); (try clear hi)) | ((with_reducible refine gC 48 ?_); refine GL (some 8) Try.func48 #[.pointer (some ⟨g, 0, none⟩)] ?_; (with_reducible refine (spec_l02Draw.calls k g s0_0 t318 t319 t320 t323 t324 w0 _ ?side1 ?side2 A4.out).mono ?_); (case side1 => repeat (first | (with_reducible first | exact HI0.out | apply IsS75.alloc | apply IsS75.drewN | apply IsS75.drew | apply IsS75.set_1 | apply IsS75.set_2) | exact HI0.out)); (case side2 => repeat (first | (with_reducible first | exact HB.out | apply below_alloc | apply pw_below_drewN | apply below_drew1 | refine below_set ?_ (IsS75.ge HI0.out)) | exact HB.out)); rintro e w6 ⟨v321, rfl, ho0, hi, hb, hk⟩; refine ⟨_, rfl, ?_⟩; have HO322 := Aside0.mk (Kd.R_lower ho0 (keep_size (w := w) (g := g) (row := none) Hk)); replace HK := Aside0.mk (KeepBut.trans Hk hk (.inl rfl)); replace HB := Aside0.mk (hb); replace HI0 := Aside0.mk (hi); (try clear hb); (try clear hb2); (try clear hk); (try clear hi); (try clear ho0)))
    go_ret
    exact ⟨_, Fin, R1 HO322, by repeat (first | (with_reducible first | exact HI0.out | apply IsS75.alloc | apply IsS75.drewN | apply IsS75.drew | apply IsS75.set_1 | apply IsS75.set_2) | exact HI0.out), by repeat (first | (with_reducible first | exact HB.out | apply below_alloc | apply pw_below_drewN | apply below_drew1 | refine below_set ?_ (IsS75.ge HI0.out)) | exact HB.out), by repeat (first | (with_reducible first | exact HK.out | apply KeepBut.set_ | apply keep_drewN | apply keep_drew | apply keep_alloc) | exact HK.out)⟩
  · rw [if_neg c3] at H
    have c3b0 : (t317 == 0) = false := beq_eq_false_iff_ne.mpr c3
    have c3b1 : (t317 != 0) = true := bne_iff_ne.mpr c3
    by_cases c7 : t317 = 1
    · rw [if_pos c7] at H
      have c7b0 : (t317 == 1) = true := beq_iff_eq.mpr c7
      have c7b1 : (t317 != 1) = false := bne_eq_false_iff_eq.mpr c7
      clear c7
      obtain ⟨t325, A80, H⟩ := Option.bind_eq_some_iff.mp H
      have A8 := Aside0.mk A80
      clear A80
      simp only [Option.some.injEq, Prod.mk.injEq] at H
      obtain ⟨rfl, rfl, rfl⟩ := H
      go_enter Try.func23, Try.ntmps23
      go_wp2_with (first | ((with_reducible refine gC 24 ?_); refine GL (some 4) Try.func24 #[.pointer (some ⟨g, 0, none⟩), .int .i64 24] ?_; (with_reducible refine (spec_l01Next.calls g s0_0 s0_1 s0_2 24 t317 t318 t319 w0 _ ?side1 ?side2 A2.out).mono ?_); (case side1 => repeat (first | (with_reducible first | exact HI0.out | apply IsS75.alloc | apply IsS75.drewN | apply IsS75.drew | apply IsS75.set_1 | apply IsS75.set_2) | exact HI0.out)); (case side2 => repeat (first | (with_reducible first | exact HB.out | apply below_alloc | apply pw_below_drewN | apply below_drew1 | refine below_set ?_ (IsS75.ge HI0.out)) | exact HB.out)); rintro e w9 ⟨rfl, hi, hb, hk⟩; refine ⟨_, rfl, ?_⟩; replace HK := Aside0.mk (KeepBut.trans Hk hk (.inl rfl)); replace HB := Aside0.mk (hb); replace HI0 := Aside0.mk (hi); (try clear hb); (try clear hb2); (try clear hk); (try clear hi)) | ((with_reducible refine gC 49 ?_); refine GL (some 11) Try.func49 #[.int .i64 20, .int .i64 2] ?_; (with_reducible refine (spec_l10Rectangle.calls k 20 2 t325 _ A8.out).mono ?_); rintro e w10 ⟨v326, rfl, ho0, hb⟩; refine ⟨_, rfl, ?_⟩; have HO327 := Aside0.mk (Kd.R_lower ho0 (keep_size (w := w) (g := g) (row := none) Hk)); replace HK := Aside0.mk (KeepBut.trans Hk (KeepBut.of_below hb g none) (.inl rfl)); replace HB := Aside0.mk (below_step (by repeat (first | (with_reducible first | exact HB.out | apply below_alloc | apply pw_below_drewN | apply below_drew1 | refine below_set ?_ (IsS75.ge HI0.out)) | exact HB.out)) hb); replace HI0 := Aside0.mk (IsS75.below (by repeat (first | (with_reducible first | exact HI0.out | apply IsS75.alloc | apply IsS75.drewN | apply IsS75.drew | apply IsS75.set_1 | apply IsS75.set_2) | exact HI0.out)) hb); (try clear hb); (try clear hb2); (try clear hk); (try clear hi); (try clear ho0)))
      go_ret
      exact ⟨_, Fin, R1 HO327, by repeat (first | (with_reducible first | exact HI0.out | apply IsS75.alloc | apply IsS75.drewN | apply IsS75.drew | apply IsS75.set_1 | apply IsS75.set_2) | exact HI0.out), by repeat (first | (with_reducible first | exact HB.out | apply below_alloc | apply pw_below_drewN | apply below_drew1 | refine below_set ?_ (IsS75.ge HI0.out)) | exact HB.out), by repeat (first | (with_reducible first | exact HK.out | apply KeepBut.set_ | apply keep_drewN | apply keep_drew | apply keep_alloc) | exact HK.out)⟩
    · rw [if_neg c7] at H
      have c7b0 : (t317 == 1) = false := beq_eq_false_iff_ne.mpr c7
      have c7b1 : (t317 != 1) = true := bne_iff_ne.mpr c7
      by_cases c11 : t317 = 2
      · rw [if_pos c11] at H
        have c11b0 : (t317 == 2) = true := beq_iff_eq.mpr c11
        have c11b1 : (t317 != 2) = false := bne_eq_false_iff_eq.mpr c11
        clear c11
        obtain ⟨⟨t328, t329, t330⟩, A120, H⟩ := Option.bind_eq_some_iff.mp H
        dsimp only at H
        have A12 := Aside0.mk A120
        clear A120
        obtain ⟨y331, hy331⟩ : ∃ y_ : List (S68), y_ = (([(⟨0, 0⟩ : S68), (⟨wrap64 (19 + t328), 0⟩ : S68)] : List (S68))) := ⟨_, rfl⟩
        replace H : (some (y331, t329, t330)) = some (r1, r2, r3) := by first | (rw [hy331]; with_reducible exact H) | (have H2_ := (Option.bind_some _ _).symm.trans H; rw [hy331]; with_reducible exact H2_) | (have H2_ := (Option.bind_some _ _).symm.trans H; with_reducible exact H2_) | with_reducible exact H | (rw [hy331]; exact H) | exact H
        have Ny331 := Aside0.mk hy331
        clear hy331
        simp only [Option.some.injEq, Prod.mk.injEq] at H
        obtain ⟨rfl, rfl, rfl⟩ := H
        go_enter Try.func23, Try.ntmps23
        go_wp2_with (first | ((with_reducible refine gC 24 ?_); refine GL (some 4) Try.func24 #[.pointer (some ⟨g, 0, none⟩), .int .i64 24] ?_; (with_reducible refine (spec_l01Next.calls g s0_0 s0_1 s0_2 24 t317 t318 t319 w0 _ ?side1 ?side2 A2.out).mono ?_); (case side1 => repeat (first | (with_reducible first | exact HI0.out | apply IsS75.alloc | apply IsS75.drewN | apply IsS75.drew | apply IsS75.set_1 | apply IsS75.set_2) | exact HI0.out)); (case side2 => repeat (first | (with_reducible first | exact HB.out | apply below_alloc | apply pw_below_drewN | apply below_drew1 | refine below_set ?_ (IsS75.ge HI0.out)) | exact HB.out)); rintro e w13 ⟨rfl, hi, hb, hk⟩; refine ⟨_, rfl, ?_⟩; replace HK := Aside0.mk (KeepBut.trans Hk hk (.inl rfl)); replace HB := Aside0.mk (hb); replace HI0 := Aside0.mk (hi); (try clear hb); (try clear hb2); (try clear hk); (try clear hi)) | ((with_reducible refine gC 24 ?_); refine GL (some 16) Try.func24 #[.pointer (some ⟨g, 0, none⟩), .int .i64 2] ?_; (with_reducible refine (spec_l01Next.calls g s0_0 t318 t319 2 t328 t329 t330 w0 _ ?side1 ?side2 A12.out).mono ?_); (case side1 => repeat (first | (with_reducible first | exact HI0.out | apply IsS75.alloc | apply IsS75.drewN | apply IsS75.drew | apply IsS75.set_1 | apply IsS75.set_2) | exact HI0.out)); (case side2 => repeat (first | (with_reducible first | exact HB.out | apply below_alloc | apply pw_below_drewN | apply below_drew1 | refine below_set ?_ (IsS75.ge HI0.out)) | exact HB.out)); rintro e w14 ⟨rfl, hi, hb, hk⟩; refine ⟨_, rfl, ?_⟩; replace HK := Aside0.mk (KeepBut.trans Hk hk (.inl rfl)); replace HB := Aside0.mk (hb); replace HI0 := Aside0.mk (hi); (try clear hb); (try clear hb2); (try clear hk); (try clear hi)) | ((with_reducible refine gD 19 ?_); refine Kd.R_lit k68 _ 68 ?hg (N := 19) ?hd (xs := ([(⟨0, 0⟩ : S68), (⟨wrap64 (19 + t328), 0⟩ : S68)] : List (S68))) (inner := [.int .i64 0, .int .i64 0, .int .i64 (wrap64 (19 + t328)), .int .i64 0]) (ok := fun _ => True) (okp := fun _ => True) ?hr ?hp (fun _ hk => hk) trivial (Below.refl _ _) (Nat.le_refl _) (by simp) ?_; (case hd => rfl); (case hg => rfl); (case hr => first | (go_simp; done) | (go_simp; rfl)); (case hp => exact (Reps.c2 (show Kd.M k68 _ _ _ (⟨0, 0⟩ : S68) [.int .i64 0, .int .i64 0] from (k68_mkM _ _ _ (⟨0, 0⟩ : S68) )) (Reps.c2 (show Kd.M k68 _ _ _ (⟨wrap64 (19 + t328), 0⟩ : S68) [.int .i64 (wrap64 (19 + t328)), .int .i64 0] from (k68_mkM _ _ _ (⟨wrap64 (19 + t328), 0⟩ : S68) )) (Reps.none _ _)))); intro v332 w15 ho16 hb hg_ hnew_; clear hg_ hnew_; (first | rw [← Ny331.out] at ho16 | (simp only [Int.reduceToNat] at ho16; rw [← Ny331.out] at ho16)); have HO333 := Aside0.mk (Kd.R_lower ho16 (keep_size (w := w) (g := g) (row := none) Hk)); replace HK := Aside0.mk (KeepBut.trans Hk (KeepBut.of_below hb g none) (.inl rfl)); replace HB := Aside0.mk (below_step (by repeat (first | (with_reducible first | exact HB.out | apply below_alloc | apply pw_below_drewN | apply below_drew1 | refine below_set ?_ (IsS75.ge HI0.out)) | exact HB.out)) hb); replace HI0 := Aside0.mk (IsS75.below (by repeat (first | (with_reducible first | exact HI0.out | apply IsS75.alloc | apply IsS75.drewN | apply IsS75.drew | apply IsS75.set_1 | apply IsS75.set_2) | exact HI0.out)) hb); clear hb ho16))
        go_ret
        exact ⟨_, Fin, R1 HO333, by repeat (first | (with_reducible first | exact HI0.out | apply IsS75.alloc | apply IsS75.drewN | apply IsS75.drew | apply IsS75.set_1 | apply IsS75.set_2) | exact HI0.out), by repeat (first | (with_reducible first | exact HB.out | apply below_alloc | apply pw_below_drewN | apply below_drew1 | refine below_set ?_ (IsS75.ge HI0.out)) | exact HB.out), by repeat (first | (with_reducible first | exact HK.out | apply KeepBut.set_ | apply keep_drewN | apply keep_drew | apply keep_alloc) | exact HK.out)⟩
      · rw [if_neg c11] at H
        have c11b0 : (t317 == 2) = false := beq_eq_false_iff_ne.mpr c11
        have c11b1 : (t317 != 2) = true := bne_iff_ne.mpr c11
        have HC17 := Aside0.mk H
        clear H
        go_enter Try.func23, Try.ntmps23
        go_upto_if 20 with (first | ((with_reducible refine gC 24 ?_); refine GL (some 4) Try.func24 #[.pointer (some ⟨g, 0, none⟩), .int .i64 24] ?_; (with_reducible refine (spec_l01Next.calls g s0_0 s0_1 s0_2 24 t317 t318 t319 w0 _ ?side1 ?side2 A2.out).mono ?_); (case side1 => repeat (first | (with_reducible first | exact HI0.out | apply IsS75.alloc | apply IsS75.drewN | apply IsS75.drew | apply IsS75.set_1 | apply IsS75.set_2) | exact HI0.out)); (case side2 => repeat (first | (with_reducible first | exact HB.out | apply below_alloc | apply pw_below_drewN | apply below_drew1 | refine below_set ?_ (IsS75.ge HI0.out)) | exact HB.out)); rintro e w18 ⟨rfl, hi, hb, hk⟩; refine ⟨_, rfl, ?_⟩; replace HK := Aside0.mk (KeepBut.trans Hk hk (.inl rfl)); replace HB := Aside0.mk (hb); replace HI0 := Aside0.mk (hi); (try clear hb); (try clear hb2); (try clear hk); (try clear hi)))
        (try simp only [Act.put, List.setIfInBounds_toArray, List.set_cons_zero, List.set_cons_succ])
        go_cut [20] (fun v20 wc => ∃ (kq : Nat) (x20_16 : Bool), v20 = .bool x20_16 ∧ Aside0 (spec_l10Draw.j0 kq x20_16 s0_0 t318 t319 = some (r1, r2, r3)) ∧ Aside0 (kq ≤ k) ∧ Aside0 (IsS75 w0 wc g s0_0 t318 t319) ∧ Aside0 (KeepBut w wc g none) ∧ Aside0 (Below w0.heap.size w0 wc))
        case first =>
          have H := HC17.out
          clear HC17
          by_cases c19 : t317 = 3
          · rw [if_pos c19] at H
            have c19b0 : (t317 == 3) = true := beq_iff_eq.mpr c19
            have c19b1 : (t317 != 3) = false := bne_eq_false_iff_eq.mpr c19
            clear c19
            (first | rw [c19b0] | (simp only [i64_w, i32_w]; rw [c19b0]) | skip)
            have H' := Aside0.mk H
            clear H
            go_wp2
            go_meet
            case rel => exact ⟨_, ((t317 == 3)), Fs, H', ⟨by first | omega | exact Nat.le_refl _⟩, ⟨by repeat (first | (with_reducible first | exact HI0.out | apply IsS75.alloc | apply IsS75.drewN | apply IsS75.drew | apply IsS75.set_1 | apply IsS75.set_2) | exact HI0.out)⟩, ⟨by repeat (first | (with_reducible first | exact HK.out | apply KeepBut.set_ | apply keep_drewN | apply keep_drew | apply keep_alloc) | exact HK.out)⟩, ⟨by repeat (first | (with_reducible first | exact HB.out | apply below_alloc | apply pw_below_drewN | apply below_drew1 | refine below_set ?_ (IsS75.ge HI0.out)) | exact HB.out)⟩⟩
          · rw [if_neg c19] at H
            have c19b0 : (t317 == 3) = false := beq_eq_false_iff_ne.mpr c19
            have c19b1 : (t317 != 3) = true := bne_iff_ne.mpr c19
            (first | rw [c19b0] | (simp only [i64_w, i32_w]; rw [c19b0]) | skip)
            have H' := Aside0.mk H
            clear H
            go_wp2
            go_meet
            case rel => exact ⟨_, ((t317 == 4)), Fs, H', ⟨by first | omega | exact Nat.le_refl _⟩, ⟨by repeat (first | (with_reducible first | exact HI0.out | apply IsS75.alloc | apply IsS75.drewN | apply IsS75.drew | apply IsS75.set_1 | apply IsS75.set_2) | exact HI0.out)⟩, ⟨by repeat (first | (with_reducible first | exact HK.out | apply KeepBut.set_ | apply keep_drewN | apply keep_drew | apply keep_alloc) | exact HK.out)⟩, ⟨by repeat (first | (with_reducible first | exact HB.out | apply below_alloc | apply pw_below_drewN | apply below_drew1 | refine below_set ?_ (IsS75.ge HI0.out)) | exact HB.out)⟩⟩
        case rest =>
          clear HC17
          try clear c1
          try clear c2
          try clear p2
          try clear c3
          try clear c3b0
          try clear c3b1
          try clear c4
          try clear p6
          try clear c7
          try clear c7b0
          try clear c7b1
          try clear c11
          try clear c11b0
          try clear c11b1
          try clear c19
          try clear c19b0
          try clear c19b1
          obtain ⟨kq, x20_16, rfl, HA, HJ16, HI0, HK, HB⟩ := hcut
          cases kq with
          | zero => exact absurd HA.out (by simp [spec_l10Draw.j0])
          | succ kj16 =>
            have H := HA.out
            clear HA
            simp only [spec_l10Draw.j0] at H
            by_cases c20 : x20_16 = true
            · subst c20
              rw [if_pos rfl] at H
              obtain ⟨⟨t334, t337, t338⟩, A210, H⟩ := Option.bind_eq_some_iff.mp H
              dsimp only at H
              have A21 := Aside0.mk A210
              clear A210
              simp only [Option.some.injEq, Prod.mk.injEq] at H
              obtain ⟨rfl, rfl, rfl⟩ := H
              go_wp2_with (first | ((with_reducible refine gC 50 ?_); refine GL (some 24) Try.func50 #[.pointer (some ⟨g, 0, none⟩), .int .i64 9] ?_; (with_reducible refine (spec_l02DrawPoly.calls kj16 g s0_0 t318 t319 9 t334 t337 t338 w0 _ ?side1 ?side2 A21.out).mono ?_); (case side1 => repeat (first | (with_reducible first | exact HI0.out | apply IsS75.alloc | apply IsS75.drewN | apply IsS75.drew | apply IsS75.set_1 | apply IsS75.set_2) | exact HI0.out)); (case side2 => repeat (first | (with_reducible first | exact HB.out | apply below_alloc | apply pw_below_drewN | apply below_drew1 | refine below_set ?_ (IsS75.ge HI0.out)) | exact HB.out)); rintro e w22 ⟨v335, rfl, ho0, hi, hb, hk⟩; refine ⟨_, rfl, ?_⟩; have HO336 := Aside0.mk (Kd.R_lower ho0 (keep_size (w := w) (g := g) (row := none) Hk)); replace HK := Aside0.mk (KeepBut.trans Hk hk (.inl rfl)); replace HB := Aside0.mk (hb); replace HI0 := Aside0.mk (hi); (try clear hb); (try clear hb2); (try clear hk); (try clear hi); (try clear ho0)))
              go_ret
              exact ⟨_, Fin, R1 HO336, by repeat (first | (with_reducible first | exact HI0.out | apply IsS75.alloc | apply IsS75.drewN | apply IsS75.drew | apply IsS75.set_1 | apply IsS75.set_2) | exact HI0.out), by repeat (first | (with_reducible first | exact HB.out | apply below_alloc | apply pw_below_drewN | apply below_drew1 | refine below_set ?_ (IsS75.ge HI0.out)) | exact HB.out), by repeat (first | (with_reducible first | exact HK.out | apply KeepBut.set_ | apply keep_drewN | apply keep_drew | apply keep_alloc) | exact HK.out)⟩
            · replace c20 := Bool.eq_false_iff.mpr c20
              subst c20
              rw [if_neg (show ¬ (false = true) by decide)] at H
              obtain ⟨⟨t339, t342, t343⟩, A230, H⟩ := Option.bind_eq_some_iff.mp H
              dsimp only at H
              have A23 := Aside0.mk A230
              clear A230
              simp only [Option.some.injEq, Prod.mk.injEq] at H
              obtain ⟨rfl, rfl, rfl⟩ := H
              go_wp2_with (first | ((with_reducible refine gC 51 ?_); refine GL (some 26) Try.func51 #[.pointer (some ⟨g, 0, none⟩)] ?_; (with_reducible refine (spec_l10DrawSmall.calls kj16 g s0_0 t318 t319 t339 t342 t343 w0 _ ?side1 ?side2 A23.out).mono ?_); (case side1 => repeat (first | (with_reducible first | exact HI0.out | apply IsS75.alloc | apply IsS75.drewN | apply IsS75.drew | apply IsS75.set_1 | apply IsS75.set_2) | exact HI0.out)); (case side2 => repeat (first | (with_reducible first | exact HB.out | apply below_alloc | apply pw_below_drewN | apply below_drew1 | refine below_set ?_ (IsS75.ge HI0.out)) | exact HB.out)); rintro e w24 ⟨v340, rfl, ho0, hi, hb, hk⟩; refine ⟨_, rfl, ?_⟩; have HO341 := Aside0.mk (Kd.R_lower ho0 (keep_size (w := w) (g := g) (row := none) Hk)); replace HK := Aside0.mk (KeepBut.trans Hk hk (.inl rfl)); replace HB := Aside0.mk (hb); replace HI0 := Aside0.mk (hi); (try clear hb); (try clear hb2); (try clear hk); (try clear hi); (try clear ho0)))
              go_ret
              exact ⟨_, Fin, R1 HO341, by repeat (first | (with_reducible first | exact HI0.out | apply IsS75.alloc | apply IsS75.drewN | apply IsS75.drew | apply IsS75.set_1 | apply IsS75.set_2) | exact HI0.out), by repeat (first | (with_reducible first | exact HB.out | apply below_alloc | apply pw_below_drewN | apply below_drew1 | refine below_set ?_ (IsS75.ge HI0.out)) | exact HB.out), by repeat (first | (with_reducible first | exact HK.out | apply KeepBut.set_ | apply keep_drewN | apply keep_drew | apply keep_alloc) | exact HK.out)⟩

/-! ### spec_l01Mod: function 39 -/
def spec_l01Mod.f (a0 : Int) (a1 : Int) : Option (Int) := if a1 = 0 then (none) else (some (Int.tmod (wrap64 ((Int.tmod a0 a1) + a1)) a1))
set_option maxHeartbeats 8000000 in
set_option maxRecDepth 100000 in
theorem spec_l01Mod.calls (a0 : Int) (a1 : Int) (r : Int) (w : World) (h : spec_l01Mod.f a0 a1 = some r) :
    Calls Try.prog 39 #[.int .i64 a0, .int .i64 a1] w fun e w' => e = .returned (.int .i64 r) ∧ Drawn0 w w' := by
  have H : (if a1 = 0 then (none) else (some (Int.tmod (wrap64 ((Int.tmod a0 a1) + a1)) a1))) = some r := h
  clear h
  by_cases c3 : a1 = 0
  · rw [if_pos c3] at H
    exact absurd H (by simp)
  · rw [if_neg c3] at H
    have c3b0 : (a1 == 0) = false := beq_eq_false_iff_ne.mpr c3
    have c3b1 : (a1 != 0) = true := bne_iff_ne.mpr c3
    obtain rfl := Option.some.inj H
    go_enter Try.func39, Try.ntmps39
    go_wp2
    go_ret
    exact ⟨Fs, by repeat (first | exact Drawn0.refl _ | apply Drawn0.step)⟩

/-! ### spec_l19Plane: function 52 -/
def spec_l19Plane.l0 : Nat → List (S68) → Int → Int → Int → Int → List Int → Int → Option (Int × List Int)
  | 0, _, _, _, _, _, _, _ => none
  | k + 1, x0, x1, x2, x3, x4, x11, x12 => if x12 < (x0.length : Int) then (if 0 ≤ x12 then ((spec_l01Mod.f (wrap64 ((wrap64 ((wrap64 (x2 * ((rd_T68 x0 x12).f0))) + (wrap64 (x3 * ((rd_T68 x0 x12).f1))))) + x4)) x1).bind fun t350 => (if x11.length < 17592186044416 then (spec_l19Plane.l0 k x0 x1 x2 x3 x4 (x11 ++ [t350]) (wrap64 (x12 + 1))) else (none))) else (none)) else (some (x1, x11))
def spec_l19Plane.f (k : Nat) (l0 : List (S68)) (a1 : Int) (a2 : Int) (a3 : Int) (a4 : Int) : Option (Int × List Int) := spec_l19Plane.l0 k l0 a1 a2 a3 a4 (([] : List Int)) 0
theorem spec_l19Plane.mono_l : ∀ k, (∀ y0 y1 y2 y3 y4 y5 y6, LeO (spec_l19Plane.l0 k y0 y1 y2 y3 y4 y5 y6) (spec_l19Plane.l0 (k + 1) y0 y1 y2 y3 y4 y5 y6))
  | 0 => fun _ _ _ _ _ _ _ r h => by simp [spec_l19Plane.l0] at h
  | k + 1 => by
    have ih0 := spec_l19Plane.mono_l k
    · intro y0 y1 y2 y3 y4 y5 y6
      unfold spec_l19Plane.l0
      repeat' first
      | (with_reducible exact ih0 _ _ _ _ _ _ _)
      | (with_reducible exact LeO.refl _)
      | (with_reducible exact LeO.none _)
      | (with_reducible refine LeO.ite ?_ ?_)
      | (with_reducible refine LeO.bind ?_ (fun _ => ?_))
      | exact ih0 _ _ _ _ _ _ _
      | exact LeO.none _
      | refine LeO.ite ?_ ?_
      | refine LeO.bind ?_ (fun _ => ?_)
theorem spec_l19Plane.mono : ∀ a0 a1 a2 a3 a4 k, LeO (spec_l19Plane.f k a0 a1 a2 a3 a4) (spec_l19Plane.f (k + 1) a0 a1 a2 a3 a4) := by
  intro a0 a1 a2 a3 a4 k
  have ih0 := spec_l19Plane.mono_l k
  unfold spec_l19Plane.f
  repeat' first
      | (with_reducible exact ih0 _ _ _ _ _ _ _)
      | (with_reducible exact LeO.refl _)
      | (with_reducible exact LeO.none _)
      | (with_reducible refine LeO.ite ?_ ?_)
      | (with_reducible refine LeO.bind ?_ (fun _ => ?_))
      | exact ih0 _ _ _ _ _ _ _
      | exact LeO.none _
      | refine LeO.ite ?_ ?_
      | refine LeO.bind ?_ (fun _ => ?_)
def spec_l19Plane.T5 : Bool × List (List Nat × List Nat) := (true, [([], []), ([], []), ([], []), ([], []), ([2, 3], [2, 3]), ([4], [4]), ([5], [5]), ([1, 6], [1, 6]), ([], []), ([], []), ([], []), ([9, 10], [9, 10]), ([11], [11]), ([12], [12]), ([8, 13], [8, 13]), ([7, 14], [7, 14]), ([], []), ([15, 16], [15, 16]), ([], []), ([17, 18], [17, 18]), ([19], [19]), ([0, 20, 19], [0, 20]), ([21, 21, 0, 1, 2, 3, 4, 5, 6, 7, 8, 9, 10, 11, 12, 13, 14, 15, 16, 17, 18, 19, 20, 21], [0, 21])])
def spec_l19Plane.B5 : List Nat := [0, 0, 0, 0, 12, 28, 60, 126, 0, 0, 0, 1536, 3584, 7680, 16128, 32766, 0, 131070, 0, 524286, 1048574, 2097151, 4194303]
theorem spec_l19Plane.tab5 : rtab .any (opsOf Try.f52 5) = spec_l19Plane.T5 := by kernel_rfl
theorem spec_l19Plane.bits5 : waitsOk spec_l19Plane.T5.2 spec_l19Plane.B5 = true := by kernel_rfl
set_option maxHeartbeats 8000000 in
set_option maxRecDepth 100000 in
theorem spec_l19Plane.calls (k : Nat) (A0 : Option Addr) (c0 : Nat) (l0 : List (S68)) (a1 : Int) (a2 : Int) (a3 : Int) (a4 : Int) (r1 : Int) (r2 : List Int) (w : World) (hr0 : Kd.C k68 w A0 l0.length l0) (hc0 : l0.length ≤ c0) (h : spec_l19Plane.f k l0 a1 a2 a3 a4 = some (r1, r2)) :
    Calls Try.prog 52 #[.slice A0 l0.length c0, .int .i64 a1, .int .i64 a2, .int .i64 a3, .int .i64 a4] w fun e w' => ∃ v1_ : Value, e = .returned (.agg #[.int .i64 r1, v1_]) ∧ Kd.R (Kd.int .i64) 2 w' w.heap.size (fun _ => True) v1_ r2 ∧ Below w.heap.size w w' := by
  have hu27 := Try.underlying27
  have HR0 := Aside0.mk hr0
  have HC0 := Aside0.mk hc0
  clear hr0 hc0
  have HB := Aside0.mk (Below.refl w.heap.size w)
  have H : (spec_l19Plane.l0 k l0 a1 a2 a3 a4 (([] : List Int)) 0) = some (r1, r2) := h
  clear h
  obtain ⟨y345, hy345⟩ : ∃ y_ : List Int, y_ = (([] : List Int)) := ⟨_, rfl⟩
  replace H : (spec_l19Plane.l0 k l0 a1 a2 a3 a4 y345 0) = some (r1, r2) := by first | (rw [hy345]; with_reducible exact H) | (have H2_ := (Option.bind_some _ _).symm.trans H; rw [hy345]; with_reducible exact H2_) | (have H2_ := (Option.bind_some _ _).symm.trans H; with_reducible exact H2_) | with_reducible exact H | (rw [hy345]; exact H) | exact H
  have Ny345 := Aside0.mk hy345
  clear hy345
  have H' := Aside0.mk H
  clear H
  go_enter Try.func52, Try.ntmps52
  go_wp2_with (first | ((with_reducible refine gD 10 ?_); refine BX #[.int .i64 0, .slice none 0 0] 27 ?_; intro gb344 hg w6 hbox hb; have BK344 := Aside0.mk (hbox); have GW344 := Aside0.mk ((Gle hg Hb : w.heap.size ≤ gb344)); have GE344 := Aside0.mk ((Gle hg Hb : w.heap.size ≤ gb344)); replace HB := Aside0.mk (below_step Hb hb); clear hb hbox hg) | ((with_reducible refine gD 13 ?_); refine Kd.R_lit (Kd.int .i64) _ 2 ?hg (N := 13) ?hd (xs := ([] : List Int)) (inner := []) (ok := fun _ => True) (okp := fun _ => True) ?hr ?hp (fun _ hk => hk) trivial (Below.refl _ _) (Nat.le_refl _) (by simp) ?_; (case hd => rfl); (case hg => rfl); (case hr => first | (go_simp; done) | (go_simp; rfl)); (case hp => exact (Reps.none _ _)); intro v346 w7 ho8 hb hg_ hnew_; clear hg_ hnew_; (first | rw [← Ny345.out] at ho8 | (simp only [Int.reduceToNat] at ho8; rw [← Ny345.out] at ho8)); have HO347 := Aside0.mk (Kd.R_lower ho8 (below_size Hb)); replace BK344 := Aside0.mk (blk_below (B1 BK344) hb); replace HB := Aside0.mk (below_step Hb hb); clear hb ho8))
  go_loopg [11, 12] k (fun kq v11 v12 w' => ∃ (x11_1 : List Int) (x12_1 : Int), v12 = .int .i64 x12_1 ∧ Aside0 (spec_l19Plane.l0 kq l0 a1 a2 a3 a4 x11_1 x12_1 = some (r1, r2)) ∧ Aside0 (kq ≤ k) ∧ Aside0 (Kd.R (Kd.int .i64) 2 w' w.heap.size (fun _ => True) v11 x11_1) ∧ Aside0 (w'.heap[gb344]? = some (.cells #[.int .i64 0, (.slice none 0 0)] 27 (0, 0))) ∧ Aside0 (Below w.heap.size w w'))
  case atStart => exact ⟨(y345), (0), Fs, H', ⟨Nat.le_refl _⟩, ⟨R1 HO347⟩, ⟨B1 BK344⟩, ⟨Hb⟩⟩
  case round =>
    clear H'
    try clear p2
    try clear c5
    obtain ⟨x11_1, x12_1, rfl, HA, HK1, HO_11, BK344, HB⟩ := hrel
    cases gk with
    | zero => exact absurd HA.out (by simp [spec_l19Plane.l0])
    | succ k1 =>
      have H := HA.out
      clear HA
      simp only [spec_l19Plane.l0] at H
      by_cases c9 : x12_1 < (l0.length : Int)
      · rw [if_pos c9] at H
        have c9b0 : decide (x12_1 < (l0.length : Int)) = true := decide_eq_true c9
        clear c9
        by_cases c10 : 0 ≤ x12_1
        · rw [if_pos c10] at H
          have c10b0 : decide (0 ≤ x12_1) = true := decide_eq_true c10
          clear c10
          obtain ⟨t350, A110, H⟩ := Option.bind_eq_some_iff.mp H
          have A11 := Aside0.mk A110
          clear A110
          by_cases c12 : x11_1.length < 17592186044416
          · rw [if_pos c12] at H
            have LMc12 := Aside0.mk c12
            clear c12
            obtain ⟨y351, hy351⟩ : ∃ y_ : List Int, y_ = (x11_1 ++ [t350]) := ⟨_, rfl⟩
            replace H : (spec_l19Plane.l0 k1 l0 a1 a2 a3 a4 y351 (wrap64 (x12_1 + 1))) = some (r1, r2) := by first | (rw [hy351]; with_reducible exact H) | (have H2_ := (Option.bind_some _ _).symm.trans H; rw [hy351]; with_reducible exact H2_) | (have H2_ := (Option.bind_some _ _).symm.trans H; with_reducible exact H2_) | with_reducible exact H | (rw [hy351]; exact H) | exact H
            have Ny351 := Aside0.mk hy351
            clear hy351
            have H' := Aside0.mk H
            clear H
            try go_wp2
            replace HO_11 := Aside0.mk (Kd.R_drew HO_11.out)
            replace BK344 := Aside0.mk (blk_drew BK344.out)
            replace HB := Aside0.mk (below_drew1 HB.out)
            have p348 : 0 ≤ (x12_1 : Int) := oD
            have q348 : x12_1 < (l0.length : Int) := oD
            obtain ⟨ad348, e348, hx348_0, hx348_1⟩ := at_T68 HR0.out x12_1 p348 q348
            have hw348_1 := hx348_1
            have hw348_0 := hx348_0
            cases e348
            replace hx348_0 := hxb hx348_0
            replace hx348_1 := hxb hx348_1
            replace p348 := eq_true p348
            replace q348 := eq_true q348
            have p349 : 0 ≤ (x12_1 : Int) := oD
            have q349 : x12_1 < (l0.length : Int) := oD
            obtain ⟨ad349, e349, hx349_0, hx349_1⟩ := at_T68 HR0.out x12_1 p349 q349
            have hw349_1 := hx349_1
            have hw349_0 := hx349_0
            obtain rfl : ad348 = ad349 := (by injection e349)
            replace hx349_0 := hxb hx349_0
            replace hx349_1 := hxb hx349_1
            replace p349 := eq_true p349
            replace q349 := eq_true q349
            refine start_ (n := 23) (S := fun w' => w'.cell? (ad348.add ((x12_1).toNat * 2)) = some (.int .i64 ((rd_T68 l0 x12_1).f0)) ∧ w'.cell? ⟨(ad348.add ((x12_1).toNat * 2)).block, (ad348.add ((x12_1).toNat * 2)).off + 1, none⟩ = some (.int .i64 ((rd_T68 l0 x12_1).f1)) ∧ w'.cell? (ad348.add ((x12_1).toNat * 2)) = some (.int .i64 ((rd_T68 l0 x12_1).f0)) ∧ w'.cell? ⟨(ad348.add ((x12_1).toNat * 2)).block, (ad348.add ((x12_1).toNat * 2)).off + 1, none⟩ = some (.int .i64 ((rd_T68 l0 x12_1).f1))) (ds := []) #[false, false, false, false, false, false, false, false, false, false, false, false, false, false, false, false, false, false, false, false, false, false, false] (by kernel_rfl) rfl rfl ⟨(hxb hw348_0), (hxb hw348_1), (hxb hw349_0), (hxb hw349_1)⟩ (fun hHeld => ?_); refine with_tabW spec_l19Plane.tab5 spec_l19Plane.bits5 (fun HT_ HW_ => ?_)
            generalize wr.drew = w13 at HO_11 BK344 HB hx348_0 hx348_1 hx349_0 hx349_1 hHeld ⊢
            refine PU 0 20 ?_
            refine PU 1 21 ?_
            refine PU 2 22 ?_
            refine PU 3 23 ?_
            refine PU 4 24 ?_
            refine PU 5 25 ?_
            refine PU 8 28 ?_
            refine PU 9 29 ?_
            refine PU 10 30 ?_
            refine PU 11 31 ?_
            refine PU 12 32 ?_
            refine PU 16 36 ?_
            refine PU 18 38 ?_
            refine TK 6 26 hHeld ?_
            refine PU 7 27 ?_
            refine TK 13 33 hHeld ?_
            refine PU 14 34 ?_
            refine PU 15 35 ?_
            refine PU 17 37 ?_
            refine ON 19 39 (fun K hK => ?_)
            refine GO Try.func39 #[.int .i64 (wrap64 ((wrap64 ((wrap64 (a2 * ((rd_T68 l0 x12_1).f0))) + (wrap64 (a3 * ((rd_T68 l0 x12_1).f1))))) + a4)), .int .i64 a1] ?_
            with_reducible refine (spec_l01Mod.calls (wrap64 ((wrap64 ((wrap64 (a2 * ((rd_T68 l0 x12_1).f0))) + (wrap64 (a3 * ((rd_T68 l0 x12_1).f1))))) + a4)) a1 t350 _ A11.out).mono ?_
            rintro e w' ⟨rfl, ⟨nd, rfl⟩⟩
            refine ⟨_, rfl, ?_⟩
            refine hK.out _ _ ⟨(hxb hw348_0), (hxb hw348_1), (hxb hw349_0), (hxb hw349_1)⟩ (fun hHeld => ?_)
            clear hK K
            refine NM 39 ?_
            refine ON 20 40 (fun K hK => ?_)
            refine value_ (w1 := ?_) (v := ?_) (by rfl) rfl ?_ ?_
            rotate_left 2
            · go_simp
              constructor
              · rfl
              · rfl
            refine hK.out _ _ ⟨(World.cell?_alloc_lt _ _ _ (World.block_lt_of_cell? _ _ ((hxb hw348_0)))).trans ((hxb hw348_0)), (World.cell?_alloc_lt _ _ _ (World.block_lt_of_cell? _ _ ((hxb hw348_1)))).trans ((hxb hw348_1)), (World.cell?_alloc_lt _ _ _ (World.block_lt_of_cell? _ _ ((hxb hw349_0)))).trans ((hxb hw349_0)), (World.cell?_alloc_lt _ _ _ (World.block_lt_of_cell? _ _ ((hxb hw349_1)))).trans ((hxb hw349_1))⟩ (fun hHeld => ?_)
            clear hK K
            refine NM 40 ?_
            refine ON 21 41 (fun K hK => ?_)
            refine Kd.R_append_step (Kd.int .i64) (w0 := w) w.heap.size (by rfl) (.tmp 20) (.tmp 40) 25 2 (.int .i64 0) 8 rfl Try.underlying25 info2 rfl (by decide) (by omega) u11 x11_1 t350 [.int .i64 t350] (fun _ => True) (fun _ => False) rfl rfl ?aP (fun _ hk => hk.elim) ?aF ?aO ?aB ?aS ?aL ?_
            (case aP => exact rfl)
            (case aB => exact Hb)
            (case aF => exact (fun _ _ => trivial))
            (case aO => exact (R1 HO_11))
            (case aS => exact (below_size Hb))
            (case aL => have := LMc12.out; omega)
            intro v352 w14 ho hb hg hat
            rw [← Ny351.out] at ho
            replace BK344 := Aside0.mk (blk_grown (B1 BK344) hg (Kd.R_ne HO_11.out BK344.out (by decide)))
            replace HB := Aside0.mk (hb)
            have HO353 := Aside0.mk (ho)
            clear HO_11
            clear ho hb hg hat
            refine hK.out _ _ ⟨(hxb hw348_0), (hxb hw348_1), (hxb hw349_0), (hxb hw349_1)⟩ (fun hHeld => ?_)
            clear hK K
            refine NM 41 ?_
            refine PU 22 11 ?_
            refine done_ (done_of HT_.out (by kernel_rfl)) ?_
            try go_wp2
            go_roundg k1
            case measure => have := HK1.out; omega
            case rel => exact ⟨(y351), (wrap64 (x12_1 + 1)), Fs, H', ⟨by have := HK1.out; omega⟩, ⟨R1 HO353⟩, ⟨B1 BK344⟩, ⟨Hb⟩⟩
          · rw [if_neg c12] at H
            exact absurd H (by simp)
        · rw [if_neg c10] at H
          exact absurd H (by simp)
      · rw [if_neg c9] at H
        have c9b0 : decide (x12_1 < (l0.length : Int)) = false := decide_eq_false c9
        clear c9
        simp only [Option.some.injEq, Prod.mk.injEq] at H
        obtain ⟨rfl, rfl⟩ := H
        obtain ⟨Ao15, co15, eo15⟩ := Kd.R_slice HO_11.out
        subst eo15
        have hcz16_0 : wr.cell? ⟨gb344, 0, none⟩ = some (.int .i64 0) := bc BK344
        have hcz16_1 : wr.cell? ⟨gb344, 1, none⟩ = some (.slice none 0 0) := bc BK344
        have hfz16_0 := blk_frozen BK344.out 0
        have hfz16_1 := blk_frozen BK344.out 1
        go_wp2
        refine bodyPost_ret (results_cell_row rfl _ _ gb344 27 #[.int .i64 a1, .slice Ao15 x11_1.length co15] (0, 0) _ rfl (by (with_reducible repeat (first | refine blk_drewN ?_ _ | refine blk_drew ?_ | refine blk_alloc ?_ _)); refine blk_put (cs := #[.int .i64 a1, .slice none 0 0]) ?_ 1 _ rfl; (with_reducible repeat (first | refine blk_drewN ?_ _ | refine blk_drew ?_ | refine blk_alloc ?_ _)); refine blk_put (cs := #[.int .i64 0, .slice none 0 0]) ?_ 0 _ rfl; (with_reducible repeat (first | refine blk_drewN ?_ _ | refine blk_drew ?_ | refine blk_alloc ?_ _)); exact BK344.out) Try.underlying27 rfl (by kernel_rfl)) rfl ?_
        exact ⟨_, Fin, by (with_reducible repeat (first | apply Kd.R_alloc | apply Kd.R_drewN | apply Kd.R_drew)); exact Kd.R_mono (Kd.R_far (p := ⟨gb344, 1, none⟩) (Kd.R_far (p := ⟨gb344, 0, none⟩) (Kd.R_types HO_11.out BK344.out (by decide)) (fun _ hk => hk.2) (.int .i64 a1)) (fun _ hk => hk.2) (.slice Ao15 x11_1.length co15)) (fun _ hk => trivial), Hb⟩

/-! ### spec_l01Own: function 53 -/
def spec_l01Own.f (l0 : List Int) : Option (List Int) := (some (([] : List Int) : List Int)).bind fun y354 => (if y354.length + l0.length < 17592186044416 then (some (y354 ++ l0)) else (none))
set_option maxHeartbeats 8000000 in
set_option maxRecDepth 100000 in
theorem spec_l01Own.calls (A0 : Option Addr) (c0 : Nat) (l0 : List Int) (r : List Int) (w : World) (hr0 : Kd.C (Kd.int .i64) w A0 l0.length l0) (hc0 : l0.length ≤ c0) (h : spec_l01Own.f l0 = some r) :
    Calls Try.prog 53 #[.slice A0 l0.length c0] w fun e w' => ∃ v0_ : Value, e = .returned (v0_) ∧ Kd.R (Kd.int .i64) 2 w' w.heap.size (fun _ => True) v0_ r ∧ Below w.heap.size w w' := by
  have HR0 := Aside0.mk hr0
  have HC0 := Aside0.mk hc0
  clear hr0 hc0
  have HB := Aside0.mk (Below.refl w.heap.size w)
  have H : ((some (([] : List Int) : List Int)).bind fun y354 => (if y354.length + l0.length < 17592186044416 then (some (y354 ++ l0)) else (none))) = some r := h
  clear h
  obtain ⟨y354, hy354⟩ : ∃ y_ : List Int, y_ = (([] : List Int)) := ⟨_, rfl⟩
  replace H : (if y354.length + l0.length < 17592186044416 then (some (y354 ++ l0)) else (none)) = some r := by first | (rw [hy354]; with_reducible exact H) | (have H2_ := (Option.bind_some _ _).symm.trans H; rw [hy354]; with_reducible exact H2_) | (have H2_ := (Option.bind_some _ _).symm.trans H; with_reducible exact H2_) | with_reducible exact H | (rw [hy354]; exact H) | exact H
  have Ny354 := Aside0.mk hy354
  clear hy354
  by_cases c2 : y354.length + l0.length < 17592186044416
  · rw [if_pos c2] at H
    have LMc2 := Aside0.mk c2
    clear c2
    obtain ⟨y357, hy357⟩ : ∃ y_ : List Int, y_ = (y354 ++ l0) := ⟨_, rfl⟩
    replace H : (some y357) = some r := by first | (rw [hy357]; with_reducible exact H) | (have H2_ := (Option.bind_some _ _).symm.trans H; rw [hy357]; with_reducible exact H2_) | (have H2_ := (Option.bind_some _ _).symm.trans H; with_reducible exact H2_) | with_reducible exact H | (rw [hy357]; exact H) | exact H
    have Ny357 := Aside0.mk hy357
    clear hy357
    obtain rfl := Option.some.inj H
    go_enter Try.func53, Try.ntmps53
    go_wp2_with (first | ((with_reducible refine gD 3 ?_); refine Kd.R_lit (Kd.int .i64) _ 2 ?hg (N := 3) ?hd (xs := ([] : List Int)) (inner := []) (ok := fun _ => True) (okp := fun _ => True) ?hr ?hp (fun _ hk => hk) trivial (Below.refl _ _) (Nat.le_refl _) (by simp) ?_; (case hd => rfl); (case hg => rfl); (case hr => first | (go_simp; done) | (go_simp; rfl)); (case hp => exact (Reps.none _ _)); intro v355 w3 ho4 hb hg_ hnew_; clear hg_ hnew_; (first | rw [← Ny354.out] at ho4 | (simp only [Int.reduceToNat] at ho4; rw [← Ny354.out] at ho4)); have HO356 := Aside0.mk (Kd.R_lower ho4 (below_size Hb)); replace HB := Aside0.mk (below_step Hb hb); clear hb ho4) | ((with_reducible refine gate_builtin (b := .append) (xs := #[.tmp 3, .tmp 4]) rfl ?_); at_builtin; refine Kd.R_append_rows (Kd.int .i64) (w0 := w) w.heap.size rfl (.tmp 3) (.tmp 4) 25 2 (.int .i64 0) 8 rfl Try.underlying25 info2 rfl (by decide) (by omega) v355 y354 l0 _ _ _ (fun _ => True) (fun _ => False) rfl rfl ?aO ?aR (fun _ _ h => h) (fun _ h => h.elim) ?aF ?aB ?aS ?aL ?_; (case aR => repeat (first | exact (Kd.C_below HR0.out HB.out) | (with_reducible refine Kd.C_alloc ?_ _) | (with_reducible refine Kd.C_drewN ?_ _) | (with_reducible refine Kd.C_drew ?_))); (case aB => exact Hb); (case aF => exact (fun _ _ => trivial)); (case aO => exact (R1 HO356)); (case aS => exact (below_size Hb)); (case aL => have := LMc2.out; omega); intro v358 w5 ho hb hg hat; rw [← Ny357.out] at ho; replace HB := Aside0.mk (hb); have HO359 := Aside0.mk (ho); clear HO356; clear ho hb hg hat))
    go_ret
    exact ⟨_, Fin, R1 HO359, Hb⟩
  · rw [if_neg c2] at H
    exact absurd H (by simp)

end Go.Proofs.Ytpnlidfebnkgmaa.XFnWeightSums
