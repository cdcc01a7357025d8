-- Written by ext.py (wip/) over the kit's print: not trusted, Lean checks it.
import Derived.Test.YtpnlidfebnkgmaaXFnWeightSumsx0
import Derived.Test.YtpnlidfebnkgmaaXFnWeightSumsx2
import Derived.Test.YtpnlidfebnkgmaaXFnWeightSumsx5
namespace Go.Proofs.Ytpnlidfebnkgmaa.XFnWeightSums
open Go.RowKit Go.Proofs.YtpnlidfebnkgmaaW.PrintWords Go.Proofs.YtpnlidfebnkgmaaW.PrintLast Go.Proofs.YtpnlidfebnkgmaaW.PrintMore
attribute [local go_sem] max2_int min2_int max_two min_two max_three min_three max_four min_four   -- for this text's walks alone
set_option linter.unusedVariables false
set_option linter.unusedSimpArgs false

/-! ### spec_l19Draw: function 25 -/
mutual
def spec_l19Draw.j0 : Nat → List (S68) → Int → Bool → List Int → Int → Int → Int → List Int → Option (Int × List Int × Int × Int)
  | 0, _, _, _, _, _, _, _, _ => none
  | k + 1, x1, x2, x28, x1000, x1001, x1002, x375000, x375001 => if x28 = true then ((spec_l01Next.f x1000 x1001 x1002 (x375001.length : Int)).bind fun bt378 => ((spec_l01Next.f x1000 bt378.2.1 bt378.2.2 x2).bind fun bt381 => (if 0 ≤ bt378.1 then (if bt378.1 < (x375001.length : Int) then (spec_l19Draw.j1 k x1 x2 x1000 bt381.2.1 bt381.2.2 x375000 (x375001.set (bt378.1 : Int).toNat bt381.1)) else (none)) else (none)))) else (spec_l19Draw.j1 k x1 x2 x1000 x1001 x1002 x375000 x375001)
def spec_l19Draw.j1 : Nat → List (S68) → Int → List Int → Int → Int → Int → List Int → Option (Int × List Int × Int × Int)
  | 0, _, _, _, _, _, _, _ => none
  | k + 1, x1, x2, x1000, x1001, x1002, x375000, x375001 => (spec_l01Next.f x1000 x1001 x1002 24).bind fun bt385 => (if bt385.1 = 0 then ((some (([1, 7] : List Int) : List Int)).bind fun y388 => ((spec_l01Next.f x1000 bt385.2.1 bt385.2.2 2).bind fun bt391 => (if 0 ≤ bt391.1 then (if bt391.1 < (y388.length : Int) then (if 0 ≤ (x1.length : Int) then (if ((x1.length : Int) : Int).toNat ≤ 35184372088832 then (some (rd y388 bt391.1, (List.replicate ((x1.length : Int) : Int).toNat 0), bt391.2.1, bt391.2.2)) else (none)) else (none)) else (none)) else (none)))) else (if bt385.1 = 1 then ((spec_l01Own.f x375001).bind fun t398 => (if t398.length < 17592186044416 then (some (x2, (t398 ++ [0]), bt385.2.1, bt385.2.2)) else (none))) else (if bt385.1 = 2 then (if (x375001.length : Int) > 0 then ((some (([(-1), x2] : List Int) : List Int)).bind fun y404 => ((spec_l01Next.f x1000 bt385.2.1 bt385.2.2 2).bind fun bt407 => (if 0 ≤ bt407.1 then (if bt407.1 < (y404.length : Int) then (if 0 < (x375001.length : Int) then (some (x375000, (x375001.set (0 : Int).toNat (rd y404 bt407.1)), bt407.2.1, bt407.2.2)) else (none)) else (none)) else (none)))) else (some (x375000, x375001, bt385.2.1, bt385.2.2))) else (some (x375000, x375001, bt385.2.1, bt385.2.2)))))
end
def spec_l19Draw.f (k : Nat) (s0_0 : List Int) (s0_1 : Int) (s0_2 : Int) (l1 : List (S68)) (a2 : Int) : Option (Int × List Int × Int × Int) := (spec_l01Next.f s0_0 s0_1 s0_2 a2).bind fun bt361 => ((spec_l01Next.f s0_0 bt361.2.1 bt361.2.2 a2).bind fun bt364 => ((spec_l01Next.f s0_0 bt364.2.1 bt364.2.2 a2).bind fun bt367 => ((spec_l19Plane.f k l1 a2 bt361.1 bt364.1 bt367.1).bind fun bt370 => ((spec_l01Next.f s0_0 bt367.2.1 bt367.2.2 3).bind fun bt375 => (if bt375.1 = 0 then (spec_l19Draw.j0 k l1 a2 (decide ((bt370.2.length : Int) > 0)) s0_0 bt375.2.1 bt375.2.2 bt370.1 bt370.2) else (spec_l19Draw.j0 k l1 a2 false s0_0 bt375.2.1 bt375.2.2 bt370.1 bt370.2))))))
theorem spec_l19Draw.mono_l : ∀ k, (∀ y0 y1 y2 y3 y4 y5 y6 y7, LeO (spec_l19Draw.j0 k y0 y1 y2 y3 y4 y5 y6 y7) (spec_l19Draw.j0 (k + 1) y0 y1 y2 y3 y4 y5 y6 y7)) ∧ (∀ y0 y1 y2 y3 y4 y5 y6, LeO (spec_l19Draw.j1 k y0 y1 y2 y3 y4 y5 y6) (spec_l19Draw.j1 (k + 1) y0 y1 y2 y3 y4 y5 y6))
  | 0 => ⟨fun _ _ _ _ _ _ _ _ r h => by simp [spec_l19Draw.j0] at h, fun _ _ _ _ _ _ _ r h => by simp [spec_l19Draw.j1] at h⟩
  | k + 1 => by
    obtain ⟨ih0, ih1⟩ := spec_l19Draw.mono_l k
    refine ⟨?_, ?_⟩
    · intro y0 y1 y2 y3 y4 y5 y6 y7
      unfold spec_l19Draw.j0
      repeat' first
      | (with_reducible exact ih0 _ _ _ _ _ _ _ _)
      | (with_reducible exact ih1 _ _ _ _ _ _ _)
      | (with_reducible exact spec_l19Plane.mono _ _ _ _ _ _)
      | (with_reducible exact LeO.refl _)
      | (with_reducible exact LeO.none _)
      | (with_reducible refine LeO.ite ?_ ?_)
      | (with_reducible refine LeO.bind ?_ (fun _ => ?_))
      | exact ih0 _ _ _ _ _ _ _ _
      | exact ih1 _ _ _ _ _ _ _
      | exact spec_l19Plane.mono _ _ _ _ _ _
      | exact LeO.none _
      | refine LeO.ite ?_ ?_
      | refine LeO.bind ?_ (fun _ => ?_)
    · intro y0 y1 y2 y3 y4 y5 y6
      unfold spec_l19Draw.j1
      repeat' first
      | (with_reducible exact ih0 _ _ _ _ _ _ _ _)
      | (with_reducible exact ih1 _ _ _ _ _ _ _)
      | (with_reducible exact spec_l19Plane.mono _ _ _ _ _ _)
      | (with_reducible exact LeO.refl _)
      | (with_reducible exact LeO.none _)
      | (with_reducible refine LeO.ite ?_ ?_)
      | (with_reducible refine LeO.bind ?_ (fun _ => ?_))
      | exact ih0 _ _ _ _ _ _ _ _
      | exact ih1 _ _ _ _ _ _ _
      | exact spec_l19Plane.mono _ _ _ _ _ _
      | exact LeO.none _
      | refine LeO.ite ?_ ?_
      | refine LeO.bind ?_ (fun _ => ?_)
theorem spec_l19Draw.mono : ∀ a0 a1 a2 a3 a4 k, LeO (spec_l19Draw.f k a0 a1 a2 a3 a4) (spec_l19Draw.f (k + 1) a0 a1 a2 a3 a4) := by
  intro a0 a1 a2 a3 a4 k
  obtain ⟨ih0, ih1⟩ := spec_l19Draw.mono_l k
  unfold spec_l19Draw.f
  repeat' first
      | (with_reducible exact ih0 _ _ _ _ _ _ _ _)
      | (with_reducible exact ih1 _ _ _ _ _ _ _)
      | (with_reducible exact spec_l19Plane.mono _ _ _ _ _ _)
      | (with_reducible exact LeO.refl _)
      | (with_reducible exact LeO.none _)
      | (with_reducible refine LeO.ite ?_ ?_)
      | (with_reducible refine LeO.bind ?_ (fun _ => ?_))
      | exact ih0 _ _ _ _ _ _ _ _
      | exact ih1 _ _ _ _ _ _ _
      | exact spec_l19Plane.mono _ _ _ _ _ _
      | exact LeO.none _
      | refine LeO.ite ?_ ?_
      | refine LeO.bind ?_ (fun _ => ?_)
def spec_l19Draw.T3 : Bool × List (List Nat × List Nat) := (true, [([], []), ([0], [0]), ([], []), ([], []), ([3], [3]), ([4], [4]), ([2, 5], [2, 5]), ([], []), ([], []), ([7, 8, 6], [7, 8]), ([1, 6, 0, 1, 2, 3, 4, 5, 6, 7, 8, 9], [1, 6]), ([10, 9, 9, 0, 1, 2, 3, 4, 5, 6, 7, 8, 9], [9, 10])])
def spec_l19Draw.B3 : List Nat := [0, 1, 0, 0, 8, 24, 60, 0, 0, 508, 1023, 2047]
theorem spec_l19Draw.tab3 : rtab .any (opsOf Try.f25 3) = spec_l19Draw.T3 := by kernel_rfl
theorem spec_l19Draw.bits3 : waitsOk spec_l19Draw.T3.2 spec_l19Draw.B3 = true := by kernel_rfl
def spec_l19Draw.T6 : Bool × List (List Nat × List Nat) := (true, [([], []), ([], []), ([1], [1]), ([0, 2], [0, 2]), ([3], [3]), ([], []), ([5], [5]), ([6, 6], [6]), ([4, 7], [4, 7]), ([8, 2, 0, 1, 2, 3, 4, 5, 6, 7, 8], [8])])
def spec_l19Draw.B6 : List Nat := [0, 0, 2, 7, 15, 0, 32, 96, 255, 511]
theorem spec_l19Draw.tab6 : rtab .any (opsOf Try.f25 6) = spec_l19Draw.T6 := by kernel_rfl
theorem spec_l19Draw.bits6 : waitsOk spec_l19Draw.T6.2 spec_l19Draw.B6 = true := by kernel_rfl
def spec_l19Draw.T11 : Bool × List (List Nat × List Nat) := (true, [([], []), ([0], [0]), ([], []), ([2], [2]), ([], []), ([4], [4]), ([3, 5], [3, 5]), ([6], [6]), ([1, 0, 1, 2, 3, 4, 5, 6, 7], [1]), ([8, 7, 5, 0, 1, 2, 3, 4, 5, 6, 7], [7, 8])])
def spec_l19Draw.B11 : List Nat := [0, 1, 0, 4, 0, 16, 60, 124, 255, 511]
theorem spec_l19Draw.tab11 : rtab .any (opsOf Try.f25 11) = spec_l19Draw.T11 := by kernel_rfl
theorem spec_l19Draw.bits11 : waitsOk spec_l19Draw.T11.2 spec_l19Draw.B11 = true := by kernel_rfl
set_option maxHeartbeats 8000000 in
set_option maxRecDepth 100000 in
theorem spec_l19Draw.calls (k : Nat) (g : Nat) (s0_0 : List Int) (s0_1 : Int) (s0_2 : Int) (A1 : Option Addr) (c1 : Nat) (l1 : List (S68)) (a2 : Int) (r1 : Int) (r2 : List Int) (r3 : Int) (r4 : Int) (w0 w : World) (hI : IsS75 w0 w g s0_0 s0_1 s0_2) (hB : Below w0.heap.size w0 w) (hr1 : ∀ W_, KeepBut w W_ g none → Kd.C k68 W_ A1 l1.length l1) (hc1 : l1.length ≤ c1) (h : spec_l19Draw.f k s0_0 s0_1 s0_2 l1 a2 = some (r1, r2, r3, r4)) :
    Calls Try.prog 25 #[.pointer (some ⟨g, 0, none⟩), .slice A1 l1.length c1, .int .i64 a2] w fun e w' => ∃ v1_ : Value, e = .returned (.agg #[.int .i64 r1, v1_]) ∧ Kd.R (Kd.int .i64) 2 w' w.heap.size (fun _ => True) v1_ r2 ∧ IsS75 w0 w' g s0_0 r3 r4 ∧ Below w0.heap.size w0 w' ∧ KeepBut w w' g none := by
  have hu27 := Try.underlying27
  have HR1 := Aside0.mk hr1
  have HC1 := Aside0.mk hc1
  clear hr1 hc1
  have HI0 := Aside0.mk hI
  have HK := Aside0.mk (KeepBut.refl w g none)
  have HL := Aside0.mk hB.size
  clear hI
  have HW0 := Aside0.mk hB.size
  have HB := Aside0.mk hB
  clear hB
  have H : ((spec_l01Next.f s0_0 s0_1 s0_2 a2).bind fun bt361 => ((spec_l01Next.f s0_0 bt361.2.1 bt361.2.2 a2).bind fun bt364 => ((spec_l01Next.f s0_0 bt364.2.1 bt364.2.2 a2).bind fun bt367 => ((spec_l19Plane.f k l1 a2 bt361.1 bt364.1 bt367.1).bind fun bt370 => ((spec_l01Next.f s0_0 bt367.2.1 bt367.2.2 3).bind fun bt375 => (if bt375.1 = 0 then (spec_l19Draw.j0 k l1 a2 (decide ((bt370.2.length : Int) > 0)) s0_0 bt375.2.1 bt375.2.2 bt370.1 bt370.2) else (spec_l19Draw.j0 k l1 a2 false s0_0 bt375.2.1 bt375.2.2 bt370.1 bt370.2))))))) = some (r1, r2, r3, r4) := h
  clear h
  obtain ⟨⟨t361, t362, t363⟩, A40, H⟩ := Option.bind_eq_some_iff.mp H
  dsimp only at H
  have A4 := Aside0.mk A40
  clear A40
  obtain ⟨⟨t364, t365, t366⟩, A50, H⟩ := Option.bind_eq_some_iff.mp H
  dsimp only at H
  have A5 := Aside0.mk A50
  clear A50
  obtain ⟨⟨t367, t368, t369⟩, A60, H⟩ := Option.bind_eq_some_iff.mp H
  dsimp only at H
  have A6 := Aside0.mk A60
  clear A60
  obtain ⟨⟨t370, t371⟩, A70, H⟩ := Option.bind_eq_some_iff.mp H
  dsimp only at H
  have A7 := Aside0.mk A70
  clear A70
  have HC8 := Aside0.mk H
  clear H
  go_enter Try.func25, Try.ntmps25
  go_upto_region 2 with (first | ((with_reducible refine gD 6 ?_); (try (refine gate_guard (by rfl) ?_; dsimp only)); refine BX #[.int .i64 0, .slice none 0 0] 27 ?_; intro gb360 hg w9 hbox hb; replace HB := Aside0.mk (below_step (by repeat (first | (with_reducible first | exact HB.out | apply below_alloc | apply pw_below_drewN | apply below_drew1 | refine below_set ?_ (IsS75.ge HI0.out)) | exact HB.out)) hb); have BK360 := Aside0.mk (hbox); have GW360 := Aside0.mk ((by rw [hg]; exact (keep_size (w := w) (g := g) (row := none) Hk) : w.heap.size ≤ gb360)); have GE360 := Aside0.mk ((Nat.le_trans HW0.out (by rw [hg]; exact (keep_size (w := w) (g := g) (row := none) Hk) : w.heap.size ≤ gb360) : w0.heap.size ≤ gb360)); replace HK := Aside0.mk (KeepBut.trans Hk (KeepBut.of_below hb g none) (.inl rfl)); have NB0_360 := Aside0.mk ((by rw [hg]; exact Nat.ne_of_lt (IsS75.lt (show IsS75 w0 _ g s0_0 s0_1 s0_2 from by repeat (first | (with_reducible first | exact HI0.out | apply IsS75.alloc | apply IsS75.drewN | apply IsS75.drew | apply IsS75.set_1 | apply IsS75.set_2) | exact HI0.out))) : g ≠ gb360)); have NB360_0 := Aside0.mk ((by rw [hg]; exact Nat.ne_of_gt (IsS75.lt (show IsS75 w0 _ g s0_0 s0_1 s0_2 from by repeat (first | (with_reducible first | exact HI0.out | apply IsS75.alloc | apply IsS75.drewN | apply IsS75.drew | apply IsS75.set_1 | apply IsS75.set_2) | exact HI0.out))) : gb360 ≠ g)); replace HI0 := Aside0.mk (IsS75.below (by repeat (first | (with_reducible first | exact HI0.out | apply IsS75.alloc | apply IsS75.drewN | apply IsS75.drew | apply IsS75.set_1 | apply IsS75.set_2) | exact HI0.out)) hb); clear hb hbox hg) | ((with_reducible refine gC 24 ?_); refine GL (some 12) Try.func24 #[.pointer (some ⟨g, 0, none⟩), .int .i64 a2] ?_; (with_reducible refine (spec_l01Next.calls g s0_0 s0_1 s0_2 a2 t361 t362 t363 w0 _ ?side1 ?side2 A4.out).mono ?_); (case side1 => repeat (first | (with_reducible first | exact HI0.out | apply IsS75.alloc | apply IsS75.drewN | apply IsS75.drew | apply IsS75.set_1 | apply IsS75.set_2 | refine IsS75.far ?_ NB0_360.out _) | exact HI0.out)); (case side2 => repeat (first | (with_reducible first | exact HB.out | apply below_alloc | apply pw_below_drewN | apply below_drew1 | refine below_set ?_ (IsS75.ge HI0.out) | refine below_set ?_ GE360.out) | exact HB.out)); rintro e w10 ⟨rfl, hi, hb, hk⟩; refine ⟨_, rfl, ?_⟩; replace BK360 := Aside0.mk (KeepBut.blk hk (g' := gb360) (o := .cells #[.int .i64 0, .slice none 0 0] 27 (0, 0)) (B1 BK360) NB360_0.out (by simp)); replace HK := Aside0.mk (KeepBut.trans (by repeat (first | (with_reducible first | exact HK.out | apply KeepBut.set_ | apply keep_drewN | apply keep_drew | apply keep_alloc | refine keep_far ?_ GW360.out _) | exact HK.out)) hk (.inl rfl)); replace HB := Aside0.mk (hb); replace HI0 := Aside0.mk (hi); (try clear hb); (try clear hb2); (try clear hk); (try clear hi)) | ((with_reducible refine gC 24 ?_); refine GL (some 15) Try.func24 #[.pointer (some ⟨g, 0, none⟩), .int .i64 a2] ?_; (with_reducible refine (spec_l01Next.calls g s0_0 t362 t363 a2 t364 t365 t366 w0 _ ?side1 ?side2 A5.out).mono ?_); (case side1 => repeat (first | (with_reducible first | exact HI0.out | apply IsS75.alloc | apply IsS75.drewN | apply IsS75.drew | apply IsS75.set_1 | apply IsS75.set_2 | refine IsS75.far ?_ NB0_360.out _) | exact HI0.out)); (case side2 => repeat (first | (with_reducible first | exact HB.out | apply below_alloc | apply pw_below_drewN | apply below_drew1 | refine below_set ?_ (IsS75.ge HI0.out) | refine below_set ?_ GE360.out) | exact HB.out)); rintro e w11 ⟨rfl, hi, hb, hk⟩; refine ⟨_, rfl, ?_⟩; replace BK360 := Aside0.mk (KeepBut.blk hk (g' := gb360) (o := .cells #[.int .i64 0, .slice none 0 0] 27 (0, 0)) (B1 BK360) NB360_0.out (by simp)); replace HK := Aside0.mk (KeepBut.trans (by repeat (first | (with_reducible first | exact HK.out | apply KeepBut.set_ | apply keep_drewN | apply keep_drew | apply keep_alloc | refine keep_far ?_ GW360.out _) | exact HK.out)) hk (.inl rfl)); replace HB := Aside0.mk (hb); replace HI0 := Aside0.mk (hi); (try clear hb); (try clear hb2); (try clear hk); (try clear hi)) | ((with_reducible refine gC 24 ?_); refine GL (some 18) Try.func24 #[.pointer (some ⟨g, 0, none⟩), .int .i64 a2] ?_; (with_reducible refine (spec_l01Next.calls g s0_0 t365 t366 a2 t367 t368 t369 w0 _ ?side1 ?side2 A6.out).mono ?_); (case side1 => repeat (first | (with_reducible first | exact HI0.out | apply IsS75.alloc | apply IsS75.drewN | apply IsS75.drew | apply IsS75.set_1 | apply IsS75.set_2 | refine IsS75.far ?_ NB0_360.out _) | exact HI0.out)); (case side2 => repeat (first | (with_reducible first | exact HB.out | apply below_alloc | apply pw_below_drewN | apply below_drew1 | refine below_set ?_ (IsS75.ge HI0.out) | refine below_set ?_ GE360.out) | exact HB.out)); rintro e w12 ⟨rfl, hi, hb, hk⟩; refine ⟨_, rfl, ?_⟩; replace BK360 := Aside0.mk (KeepBut.blk hk (g' := gb360) (o := .cells #[.int .i64 0, .slice none 0 0] 27 (0, 0)) (B1 BK360) NB360_0.out (by simp)); replace HK := Aside0.mk (KeepBut.trans (by repeat (first | (with_reducible first | exact HK.out | apply KeepBut.set_ | apply keep_drewN | apply keep_drew | apply keep_alloc | refine keep_far ?_ GW360.out _) | exact HK.out)) hk (.inl rfl)); replace HB := Aside0.mk (hb); replace HI0 := Aside0.mk (hi); (try clear hb); (try clear hb2); (try clear hk); (try clear hi)) | ((with_reducible refine gC 52 ?_); refine GL (some 19) Try.func52 #[.slice A1 l1.length c1, .int .i64 a2, .int .i64 t361, .int .i64 t364, .int .i64 t367] ?_; (with_reducible refine (spec_l19Plane.calls k _ _ l1 a2 t361 t364 t367 t370 t371 _ ?side1 ?side2 A7.out).mono ?_); (case side1 => exact Kd.C_foot_now HR1.out (by repeat (first | (with_reducible first | exact HK.out | apply KeepBut.set_ | apply keep_drewN | apply keep_drew | apply keep_alloc | refine keep_far ?_ GW360.out _) | exact HK.out))); (case side2 => exact HC1.out); rintro e w13 ⟨v372, rfl, ho0, hb⟩; refine ⟨_, rfl, ?_⟩; have HO373 := Aside0.mk (Kd.R_lower ho0 (keep_size (w := w) (g := g) (row := none) (by repeat (first | (with_reducible first | exact HK.out | apply KeepBut.set_ | apply keep_drewN | apply keep_drew | apply keep_alloc | refine keep_far ?_ GW360.out _) | exact HK.out)))); replace BK360 := Aside0.mk (blk_below (B1 BK360) hb); replace HK := Aside0.mk (KeepBut.trans (by repeat (first | (with_reducible first | exact HK.out | apply KeepBut.set_ | apply keep_drewN | apply keep_drew | apply keep_alloc | refine keep_far ?_ GW360.out _) | exact HK.out)) (KeepBut.of_below hb g none) (.inl rfl)); replace HB := Aside0.mk (below_step (by repeat (first | (with_reducible first | exact HB.out | apply below_alloc | apply pw_below_drewN | apply below_drew1 | refine below_set ?_ (IsS75.ge HI0.out) | refine below_set ?_ GE360.out) | exact HB.out)) hb); replace HI0 := Aside0.mk (IsS75.below (by repeat (first | (with_reducible first | exact HI0.out | apply IsS75.alloc | apply IsS75.drewN | apply IsS75.drew | apply IsS75.set_1 | apply IsS75.set_2 | refine IsS75.far ?_ NB0_360.out _) | exact HI0.out)) hb); (try clear hb); (try clear hb2); (try clear hk); (try clear hi); (try clear ho0)) | ((with_reducible refine gD 7 ?_); (try (refine gate_guard (by rfl) ?_; dsimp only)); refine BX #[.int .i64 0, .slice none 0 0] 27 ?_; intro gb374 hg w14 hbox hb; replace HO373 := Aside0.mk (Kd.R_below (R1 HO373) hb); replace HB := Aside0.mk (below_step (by repeat (first | (with_reducible first | exact HB.out | apply below_alloc | apply pw_below_drewN | apply below_drew1 | refine below_set ?_ (IsS75.ge HI0.out) | refine below_set ?_ GE360.out) | exact HB.out)) hb); have BK374 := Aside0.mk (hbox); have GW374 := Aside0.mk ((by rw [hg]; exact (keep_size (w := w) (g := g) (row := none) (by repeat (first | (with_reducible first | exact HK.out | apply KeepBut.set_ | apply keep_drewN | apply keep_drew | apply keep_alloc | refine keep_far ?_ GW360.out _) | exact HK.out))) : w.heap.size ≤ gb374)); have GE374 := Aside0.mk ((Nat.le_trans HW0.out (by rw [hg]; exact (keep_size (w := w) (g := g) (row := none) (by repeat (first | (with_reducible first | exact HK.out | apply KeepBut.set_ | apply keep_drewN | apply keep_drew | apply keep_alloc | refine keep_far ?_ GW360.out _) | exact HK.out))) : w.heap.size ≤ gb374) : w0.heap.size ≤ gb374)); replace HK := Aside0.mk (KeepBut.trans (by repeat (first | (with_reducible first | exact HK.out | apply KeepBut.set_ | apply keep_drewN | apply keep_drew | apply keep_alloc | refine keep_far ?_ GW360.out _) | exact HK.out)) (KeepBut.of_below hb g none) (.inl rfl)); have NB360_374 := Aside0.mk ((by rw [hg]; exact Nat.ne_of_lt (blk_lt (B1 BK360)) : gb360 ≠ gb374)); have NB374_360 := Aside0.mk ((by rw [hg]; exact Nat.ne_of_gt (blk_lt (B1 BK360)) : gb374 ≠ gb360)); replace BK360 := Aside0.mk (blk_below (B1 BK360) hb); have NB0_374 := Aside0.mk ((by rw [hg]; exact Nat.ne_of_lt (IsS75.lt (show IsS75 w0 _ g s0_0 t368 t369 from by repeat (first | (with_reducible first | exact HI0.out | apply IsS75.alloc | apply IsS75.drewN | apply IsS75.drew | apply IsS75.set_1 | apply IsS75.set_2 | refine IsS75.far ?_ NB0_360.out _) | exact HI0.out))) : g ≠ gb374)); have NB374_0 := Aside0.mk ((by rw [hg]; exact Nat.ne_of_gt (IsS75.lt (show IsS75 w0 _ g s0_0 t368 t369 from by repeat (first | (with_reducible first | exact HI0.out | apply IsS75.alloc | apply IsS75.drewN | apply IsS75.drew | apply IsS75.set_1 | apply IsS75.set_2 | refine IsS75.far ?_ NB0_360.out _) | exact HI0.out))) : gb374 ≠ g)); replace HI0 := Aside0.mk (IsS75.below (by repeat (first | (with_reducible first | exact HI0.out | apply IsS75.alloc | apply IsS75.drewN | apply IsS75.drew | apply IsS75.set_1 | apply IsS75.set_2 | refine IsS75.far ?_ NB0_360.out _) | exact HI0.out)) hb); clear hb hbox hg; have hnb15 := NB374_360.out; have hnc15 := NB360_374.out; have hnb16 := NB374_0.out; have hnc16 := NB0_374.out; have hcz17_0 : w14.cell? ⟨gb374, 0, none⟩ = some (.int .i64 0) := bc BK374; have hcz17_1 : w14.cell? ⟨gb374, 1, none⟩ = some (.slice none 0 0) := bc BK374; have hfz17_0 := blk_frozen BK374.out 0; have hfz17_1 := blk_frozen BK374.out 1; obtain ⟨Ao18, co18, eo18⟩ := Kd.R_slice HO373.out; subst eo18))
  (try simp only [Act.put, List.setIfInBounds_toArray, List.set_cons_zero, List.set_cons_succ])
  go_cut [28] (fun v28 wc => ∃ (kq : Nat) (x28_7 : Bool) (x1001_7 : Int) (x1002_7 : Int), v28 = .bool x28_7 ∧ Aside0 (spec_l19Draw.j0 kq l1 a2 x28_7 s0_0 x1001_7 x1002_7 t370 t371 = some (r1, r2, r3, r4)) ∧ Aside0 (kq ≤ k) ∧ Aside0 (Kd.R (Kd.int .i64) 2 wc w.heap.size (fun _ => True) (.slice Ao18 t371.length co18) t371) ∧ Aside0 (wc.heap[gb360]? = some (.cells #[.int .i64 0, (.slice none 0 0)] 27 (0, 0))) ∧ Aside0 (wc.heap[gb374]? = some (.cells #[.int .i64 t370, (.slice Ao18 t371.length co18)] 27 (0, 0))) ∧ Aside0 (IsS75 w0 wc g s0_0 x1001_7 x1002_7) ∧ Aside0 (KeepBut w wc g none) ∧ Aside0 (Below w0.heap.size w0 wc))
  case first =>
    have H := HC8.out
    clear HC8
    obtain ⟨⟨t375, t376, t377⟩, A190, H⟩ := Option.bind_eq_some_iff.mp H
    dsimp only at H
    have A19 := Aside0.mk A190
    clear A190
    by_cases c20 : t375 = 0
    · rw [if_pos c20] at H
      have c20b0 : (t375 == 0) = true := beq_iff_eq.mpr c20
      have c20b1 : (t375 != 0) = false := bne_eq_false_iff_eq.mpr c20
      clear c20
      (first | rw [c20b0] | (simp only [i64_w, i32_w]; rw [c20b0]) | skip)
      have H' := Aside0.mk H
      clear H
      go_wp2_with (first | ((with_reducible refine gC 24 ?_); refine GL (some 21) Try.func24 #[.pointer (some ⟨g, 0, none⟩), .int .i64 3] ?_; (with_reducible refine (spec_l01Next.calls g s0_0 t368 t369 3 t375 t376 t377 w0 _ ?side1 ?side2 A19.out).mono ?_); (case side1 => repeat (first | (with_reducible first | exact HI0.out | apply IsS75.alloc | apply IsS75.drewN | apply IsS75.drew | apply IsS75.set_1 | apply IsS75.set_2 | refine IsS75.far ?_ NB0_360.out _ | refine IsS75.far ?_ NB0_374.out _) | exact HI0.out)); (case side2 => repeat (first | (with_reducible first | exact HB.out | apply below_alloc | apply pw_below_drewN | apply below_drew1 | refine below_set ?_ (IsS75.ge HI0.out) | refine below_set ?_ GE360.out | refine below_set ?_ GE374.out) | exact HB.out)); rintro e w21 ⟨rfl, hi, hb, hk⟩; refine ⟨_, rfl, ?_⟩; replace BK360 := Aside0.mk (KeepBut.blk hk (g' := gb360) (o := .cells #[.int .i64 0, .slice none 0 0] 27 (0, 0)) (by (with_reducible repeat (first | refine blk_drewN ?_ _ | refine blk_drew ?_ | refine blk_alloc ?_ _)); refine blk_far ?_ NB360_374.out _; (with_reducible repeat (first | refine blk_drewN ?_ _ | refine blk_drew ?_ | refine blk_alloc ?_ _)); refine blk_far ?_ NB360_374.out _; (with_reducible repeat (first | refine blk_drewN ?_ _ | refine blk_drew ?_ | refine blk_alloc ?_ _)); exact BK360.out) NB360_0.out (by simp)); replace HO373 := Aside0.mk (Kd.R_mono (Kd.R_keep (IsS75.apart (show IsS75 w0 _ g s0_0 t368 t369 from by repeat (first | (with_reducible first | exact HI0.out | apply IsS75.alloc | apply IsS75.drewN | apply IsS75.drew | apply IsS75.set_1 | apply IsS75.set_2 | refine IsS75.far ?_ NB0_360.out _ | refine IsS75.far ?_ NB0_374.out _) | exact HI0.out)) (by (with_reducible repeat (first | apply Kd.R_alloc | apply Kd.R_drewN | apply Kd.R_drew)); exact (Kd.R_mono (Kd.R_far (p := ⟨gb374, 1, none⟩) (Kd.R_far (p := ⟨gb374, 0, none⟩) (Kd.R_types HO373.out BK374.out (by decide)) (fun _ hk => hk.2) (.int .i64 t370)) (fun _ hk => hk.2) (.slice Ao18 t371.length co18)) (fun _ h_ => h_.1))) (by decide)) hk (fun _ h => h.2)) (fun _ h => h.1)); replace BK374 := Aside0.mk (KeepBut.blk hk (g' := gb374) (o := .cells #[.int .i64 t370, .slice Ao18 t371.length co18] 27 (0, 0)) (by (with_reducible repeat (first | refine blk_drewN ?_ _ | refine blk_drew ?_ | refine blk_alloc ?_ _)); refine blk_put (cs := #[.int .i64 t370, .slice none 0 0]) ?_ 1 _ rfl; (with_reducible repeat (first | refine blk_drewN ?_ _ | refine blk_drew ?_ | refine blk_alloc ?_ _)); refine blk_put (cs := #[.int .i64 0, .slice none 0 0]) ?_ 0 _ rfl; (with_reducible repeat (first | refine blk_drewN ?_ _ | refine blk_drew ?_ | refine blk_alloc ?_ _)); exact BK374.out) NB374_0.out (by simp)); replace HK := Aside0.mk (KeepBut.trans (by repeat (first | (with_reducible first | exact HK.out | apply KeepBut.set_ | apply keep_drewN | apply keep_drew | apply keep_alloc | refine keep_far ?_ GW360.out _ | refine keep_far ?_ GW374.out _) | exact HK.out)) hk (.inl rfl)); replace HB := Aside0.mk (hb); replace HI0 := Aside0.mk (hi); (try clear hb); (try clear hb2); (try clear hk); (try clear hi); have hnb22 := NB374_360.out; have hnc22 := NB360_374.out; have hnb23 := NB374_0.out; have hnc23 := NB0_374.out; have hcz24_0 : w21.cell? ⟨gb374, 0, none⟩ = some (.int .i64 t370) := bc BK374; have hcz24_1 : w21.cell? ⟨gb374, 1, none⟩ = some (.slice Ao18 t371.length co18) := bc BK374; have hfz24_0 := blk_frozen BK374.out 0; have hfz24_1 := blk_frozen BK374.out 1))
      go_meet
      case rel => exact ⟨_, (decide ((t371.length : Int) > 0)), (t376), (t377), Fs, H', ⟨by first | omega | exact Nat.le_refl _⟩, ⟨R1 HO373⟩, ⟨B1 BK360⟩, ⟨B1 BK374⟩, ⟨by repeat (first | (with_reducible first | exact HI0.out | apply IsS75.alloc | apply IsS75.drewN | apply IsS75.drew | apply IsS75.set_1 | apply IsS75.set_2 | refine IsS75.far ?_ NB0_360.out _ | refine IsS75.far ?_ NB0_374.out _) | exact HI0.out)⟩, ⟨by repeat (first | (with_reducible first | exact HK.out | apply KeepBut.set_ | apply keep_drewN | apply keep_drew | apply keep_alloc | refine keep_far ?_ GW360.out _ | refine keep_far ?_ GW374.out _) | exact HK.out)⟩, ⟨by repeat (first | (with_reducible first | exact HB.out | apply below_alloc | apply pw_below_drewN | apply below_drew1 | refine below_set ?_ (IsS75.ge HI0.out) | refine below_set ?_ GE360.out | refine below_set ?_ GE374.out) | exact HB.out)⟩⟩
    · rw [if_neg c20] at H
      have c20b0 : (t375 == 0) = false := beq_eq_false_iff_ne.mpr c20
      have c20b1 : (t375 != 0) = true := bne_iff_ne.mpr c20
      (first | rw [c20b0] | (simp only [i64_w, i32_w]; rw [c20b0]) | skip)
      have H' := Aside0.mk H
      clear H
      go_wp2_with (first | ((with_reducible refine gC 24 ?_); refine GL (some 21) Try.func24 #[.pointer (some ⟨g, 0, none⟩), .int .i64 3] ?_; (with_reducible refine (spec_l01Next.calls g s0_0 t368 t369 3 t375 t376 t377 w0 _ ?side1 ?side2 A19.out).mono ?_); (case side1 => repeat (first | (with_reducible first | exact HI0.out | apply IsS75.alloc | apply IsS75.drewN | apply IsS75.drew | apply IsS75.set_1 | apply IsS75.set_2 | refine IsS75.far ?_ NB0_360.out _ | refine IsS75.far ?_ NB0_374.out _) | exact HI0.out)); (case side2 => repeat (first | (with_reducible first | exact HB.out | apply below_alloc | apply pw_below_drewN | apply below_drew1 | refine below_set ?_ (IsS75.ge HI0.out) | refine below_set ?_ GE360.out | refine below_set ?_ GE374.out) | exact HB.out)); rintro e w25 ⟨rfl, hi, hb, hk⟩; refine ⟨_, rfl, ?_⟩; replace BK360 := Aside0.mk (KeepBut.blk hk (g' := gb360) (o := .cells #[.int .i64 0, .slice none 0 0] 27 (0, 0)) (by (with_reducible repeat (first | refine blk_drewN ?_ _ | refine blk_drew ?_ | refine blk_alloc ?_ _)); refine blk_far ?_ NB360_374.out _; (with_reducible repeat (first | refine blk_drewN ?_ _ | refine blk_drew ?_ | refine blk_alloc ?_ _)); refine blk_far ?_ NB360_374.out _; (with_reducible repeat (first | refine blk_drewN ?_ _ | refine blk_drew ?_ | refine blk_alloc ?_ _)); exact BK360.out) NB360_0.out (by simp)); replace HO373 := Aside0.mk (Kd.R_mono (Kd.R_keep (IsS75.apart (show IsS75 w0 _ g s0_0 t368 t369 from by repeat (first | (with_reducible first | exact HI0.out | apply IsS75.alloc | apply IsS75.drewN | apply IsS75.drew | apply IsS75.set_1 | apply IsS75.set_2 | refine IsS75.far ?_ NB0_360.out _ | refine IsS75.far ?_ NB0_374.out _) | exact HI0.out)) (by (with_reducible repeat (first | apply Kd.R_alloc | apply Kd.R_drewN | apply Kd.R_drew)); exact (Kd.R_mono (Kd.R_far (p := ⟨gb374, 1, none⟩) (Kd.R_far (p := ⟨gb374, 0, none⟩) (Kd.R_types HO373.out BK374.out (by decide)) (fun _ hk => hk.2) (.int .i64 t370)) (fun _ hk => hk.2) (.slice Ao18 t371.length co18)) (fun _ h_ => h_.1))) (by decide)) hk (fun _ h => h.2)) (fun _ h => h.1)); replace BK374 := Aside0.mk (KeepBut.blk hk (g' := gb374) (o := .cells #[.int .i64 t370, .slice Ao18 t371.length co18] 27 (0, 0)) (by (with_reducible repeat (first | refine blk_drewN ?_ _ | refine blk_drew ?_ | refine blk_alloc ?_ _)); refine blk_put (cs := #[.int .i64 t370, .slice none 0 0]) ?_ 1 _ rfl; (with_reducible repeat (first | refine blk_drewN ?_ _ | refine blk_drew ?_ | refine blk_alloc ?_ _)); refine blk_put (cs := #[.int .i64 0, .slice none 0 0]) ?_ 0 _ rfl; (with_reducible repeat (first | refine blk_drewN ?_ _ | refine blk_drew ?_ | refine blk_alloc ?_ _)); exact BK374.out) NB374_0.out (by simp)); replace HK := Aside0.mk (KeepBut.trans (by repeat (first | (with_reducible first | exact HK.out | apply KeepBut.set_ | apply keep_drewN | apply keep_drew | apply keep_alloc | refine keep_far ?_ GW360.out _ | refine keep_far ?_ GW374.out _) | exact HK.out)) hk (.inl rfl)); replace HB := Aside0.mk (hb); replace HI0 := Aside0.mk (hi); (try clear hb); (try clear hb2); (try clear hk); (try clear hi)))
      go_meet
      case rel => exact ⟨_, (false), (t376), (t377), Fs, H', ⟨by first | omega | exact Nat.le_refl _⟩, ⟨R1 HO373⟩, ⟨B1 BK360⟩, ⟨B1 BK374⟩, ⟨by repeat (first | (with_reducible first | exact HI0.out | apply IsS75.alloc | apply IsS75.drewN | apply IsS75.drew | apply IsS75.set_1 | apply IsS75.set_2 | refine IsS75.far ?_ NB0_360.out _ | refine IsS75.far ?_ NB0_374.out _) | exact HI0.out)⟩, ⟨by repeat (first | (with_reducible first | exact HK.out | apply KeepBut.set_ | apply keep_drewN | apply keep_drew | apply keep_alloc | refine keep_far ?_ GW360.out _ | refine keep_far ?_ GW374.out _) | exact HK.out)⟩, ⟨by repeat (first | (with_reducible first | exact HB.out | apply below_alloc | apply pw_below_drewN | apply below_drew1 | refine below_set ?_ (IsS75.ge HI0.out) | refine below_set ?_ GE360.out | refine below_set ?_ GE374.out) | exact HB.out)⟩⟩
  case rest =>
    clear HC8
    try clear c1
    try clear c2
    try clear p2
    try clear c5
    try clear c15
    try clear c16
    try clear c20
    try clear c20b0
    try clear c20b1
    try clear c22
    try clear c23
    try clear c24
    try clear c25
    try clear hcz17_0
    try clear hcz17_1
    try clear hcz24_0
    try clear hcz24_1
    try clear hfz17_0
    try clear hfz17_1
    try clear hfz24_0
    try clear hfz24_1
    obtain ⟨kq, x28_7, x1001_7, x1002_7, rfl, HA, HJ7, HO_375001, BK360, BK374, HI0, HK, HB⟩ := hcut
    cases kq with
    | zero => exact absurd HA.out (by simp [spec_l19Draw.j0])
    | succ kj7 =>
      have H := HA.out
      clear HA
      simp only [spec_l19Draw.j0] at H
      have HC26 := Aside0.mk H
      clear H
      go_upto_if 28 with (fail)
      go_cut [] (fun wc => ∃ (kq : Nat) (x1001_25 : Int) (x1002_25 : Int) (x375001_25 : List Int) (u375001 : Value), Aside0 (spec_l19Draw.j1 kq l1 a2 s0_0 x1001_25 x1002_25 t370 x375001_25 = some (r1, r2, r3, r4)) ∧ Aside0 (kq ≤ kj7) ∧ Aside0 (Kd.R (Kd.int .i64) 2 wc w.heap.size (fun _ => True) u375001 x375001_25) ∧ Aside0 (wc.heap[gb360]? = some (.cells #[.int .i64 0, (.slice none 0 0)] 27 (0, 0))) ∧ Aside0 (wc.heap[gb374]? = some (.cells #[.int .i64 t370, u375001] 27 (0, 0))) ∧ Aside0 (IsS75 w0 wc g s0_0 x1001_25 x1002_25) ∧ Aside0 (KeepBut w wc g none) ∧ Aside0 (Below w0.heap.size w0 wc))
      case first =>
        have H := HC26.out
        clear HC26
        by_cases c27 : x28_7 = true
        · subst c27
          rw [if_pos rfl] at H
          obtain ⟨⟨t378, t379, t380⟩, A280, H⟩ := Option.bind_eq_some_iff.mp H
          dsimp only at H
          have A28 := Aside0.mk A280
          clear A280
          obtain ⟨⟨t381, t382, t383⟩, A290, H⟩ := Option.bind_eq_some_iff.mp H
          dsimp only at H
          have A29 := Aside0.mk A290
          clear A290
          by_cases c30 : 0 ≤ t378
          · rw [if_pos c30] at H
            have c30b0 : decide (0 ≤ t378) = true := decide_eq_true c30
            clear c30
            (first | rw [c30b0] | (simp only [i64_w, i32_w]; rw [c30b0]) | skip)
            by_cases c31 : t378 < (t371.length : Int)
            · rw [if_pos c31] at H
              have c31b0 : decide (t378 < (t371.length : Int)) = true := decide_eq_true c31
              clear c31
              obtain ⟨y384, hy384⟩ : ∃ y_ : List Int, y_ = (t371.set (t378 : Int).toNat t381) := ⟨_, rfl⟩
              replace H : (spec_l19Draw.j1 kj7 l1 a2 s0_0 t382 t383 t370 y384) = some (r1, r2, r3, r4) := by first | (rw [hy384]; with_reducible exact H) | (have H2_ := (Option.bind_some _ _).symm.trans H; rw [hy384]; with_reducible exact H2_) | (have H2_ := (Option.bind_some _ _).symm.trans H; with_reducible exact H2_) | with_reducible exact H | (rw [hy384]; exact H) | exact H
              have Ny384 := Aside0.mk hy384
              clear hy384
              have H' := Aside0.mk H
              clear H
              try go_wp2
              replace HO_375001 := Aside0.mk (Kd.R_drew HO_375001.out)
              replace BK360 := Aside0.mk (blk_drew BK360.out)
              replace BK374 := Aside0.mk (blk_drew BK374.out)
              replace HI0 := Aside0.mk (IsS75.drew HI0.out)
              replace HK := Aside0.mk (keep_drew HK.out)
              replace HB := Aside0.mk (below_drew1 HB.out)
              refine start_ (n := 12) (S := fun w' => w'.cell? ⟨gb374, 0, none⟩ = some (.int .i64 t370) ∧ w'.cell? ⟨gb374, 1, none⟩ = some (.slice Ao18 t371.length co18)) (ds := [11]) #[false, false, false, false, false, false, false, false, false, false, false, false] (by kernel_rfl) rfl rfl ⟨(blk_cell BK374.out 0).trans rfl, (blk_cell BK374.out 1).trans rfl⟩ (fun hHeld => ?_); refine with_tabW spec_l19Draw.tab3 spec_l19Draw.bits3 (fun HT_ HW_ => ?_)
              generalize wc.drew = w33 at HO_375001 BK360 BK374 HI0 HK HB hHeld ⊢
              refine PU 0 29 ?_
              refine PU 2 31 ?_
              refine PU 3 32 ?_
              refine PU 7 36 ?_
              refine PU 8 37 ?_
              refine TK 1 30 hHeld ?_
              refine TK 4 33 hHeld ?_
              refine PU 5 34 ?_
              refine ON 6 35 (fun K hK => ?_)
              refine GO Try.func24 #[.pointer (some ⟨g, 0, none⟩), .int .i64 (t371.length : Int)] ?_
              with_reducible refine (spec_l01Next.calls g s0_0 x1001_7 x1002_7 (t371.length : Int) t378 t379 t380 w0 _ ?side1 ?side2 A28.out).mono ?_
              (case side1 => repeat (first | (with_reducible first | exact HI0.out | apply IsS75.alloc | apply IsS75.drewN | apply IsS75.drew | apply IsS75.set_1 | apply IsS75.set_2 | refine IsS75.far ?_ NB0_360.out _ | refine IsS75.far ?_ NB0_374.out _) | exact HI0.out))
              (case side2 => repeat (first | (with_reducible first | exact HB.out | apply below_alloc | apply pw_below_drewN | apply below_drew1 | refine below_set ?_ (IsS75.ge HI0.out) | refine below_set ?_ GE360.out | refine below_set ?_ GE374.out) | exact HB.out))
              rintro e w34 ⟨rfl, hi, hb, hk⟩
              refine ⟨_, rfl, ?_⟩
              replace HO_375001 := Aside0.mk (Kd.R_mono (Kd.R_keep (IsS75.apart (show IsS75 w0 _ g s0_0 x1001_7 x1002_7 from by repeat (first | (with_reducible first | exact HI0.out | apply IsS75.alloc | apply IsS75.drewN | apply IsS75.drew | apply IsS75.set_1 | apply IsS75.set_2 | refine IsS75.far ?_ NB0_360.out _ | refine IsS75.far ?_ NB0_374.out _) | exact HI0.out)) (R1 HO_375001) (by decide)) hk (fun _ h => h.2)) (fun _ h => h.1))
              replace BK360 := Aside0.mk (KeepBut.blk hk (g' := gb360) (o := .cells #[.int .i64 0, .slice none 0 0] 27 (0, 0)) (B1 BK360) NB360_0.out (by simp))
              replace BK374 := Aside0.mk (KeepBut.blk hk (g' := gb374) (o := .cells #[.int .i64 t370, .slice Ao18 t371.length co18] 27 (0, 0)) (B1 BK374) NB374_0.out (by simp))
              replace HK := Aside0.mk (KeepBut.trans (by repeat (first | (with_reducible first | exact HK.out | apply KeepBut.set_ | apply keep_drewN | apply keep_drew | apply keep_alloc | refine keep_far ?_ GW360.out _ | refine keep_far ?_ GW374.out _) | exact HK.out)) hk (.inl rfl))
              replace HB := Aside0.mk (hb)
              replace HI0 := Aside0.mk (hi)
              (try clear hb)
              (try clear hb2)
              (try clear hk)
              (try clear hi)
              refine hK.out _ _ ⟨(blk_cell BK374.out 0).trans rfl, (blk_cell BK374.out 1).trans rfl⟩ (fun hHeld => ?_)
              clear hK K
              refine NM 35 ?_
              refine ON 9 38 (fun K hK => ?_)
              refine GO Try.func24 #[.pointer (some ⟨g, 0, none⟩), .int .i64 a2] ?_
              with_reducible refine (spec_l01Next.calls g s0_0 t379 t380 a2 t381 t382 t383 w0 _ ?side1 ?side2 A29.out).mono ?_
              (case side1 => repeat (first | (with_reducible first | exact HI0.out | apply IsS75.alloc | apply IsS75.drewN | apply IsS75.drew | apply IsS75.set_1 | apply IsS75.set_2 | refine IsS75.far ?_ NB0_360.out _ | refine IsS75.far ?_ NB0_374.out _) | exact HI0.out))
              (case side2 => repeat (first | (with_reducible first | exact HB.out | apply below_alloc | apply pw_below_drewN | apply below_drew1 | refine below_set ?_ (IsS75.ge HI0.out) | refine below_set ?_ GE360.out | refine below_set ?_ GE374.out) | exact HB.out))
              rintro e w35 ⟨rfl, hi, hb, hk⟩
              refine ⟨_, rfl, ?_⟩
              replace HO_375001 := Aside0.mk (Kd.R_mono (Kd.R_keep (IsS75.apart (show IsS75 w0 _ g s0_0 t379 t380 from by repeat (first | (with_reducible first | exact HI0.out | apply IsS75.alloc | apply IsS75.drewN | apply IsS75.drew | apply IsS75.set_1 | apply IsS75.set_2 | refine IsS75.far ?_ NB0_360.out _ | refine IsS75.far ?_ NB0_374.out _) | exact HI0.out)) (R1 HO_375001) (by decide)) hk (fun _ h => h.2)) (fun _ h => h.1))
              replace BK360 := Aside0.mk (KeepBut.blk hk (g' := gb360) (o := .cells #[.int .i64 0, .slice none 0 0] 27 (0, 0)) (B1 BK360) NB360_0.out (by simp))
              replace BK374 := Aside0.mk (KeepBut.blk hk (g' := gb374) (o := .cells #[.int .i64 t370, .slice Ao18 t371.length co18] 27 (0, 0)) (B1 BK374) NB374_0.out (by simp))
              replace HK := Aside0.mk (KeepBut.trans (by repeat (first | (with_reducible first | exact HK.out | apply KeepBut.set_ | apply keep_drewN | apply keep_drew | apply keep_alloc | refine keep_far ?_ GW360.out _ | refine keep_far ?_ GW374.out _) | exact HK.out)) hk (.inl rfl))
              replace HB := Aside0.mk (hb)
              replace HI0 := Aside0.mk (hi)
              (try clear hb)
              (try clear hb2)
              (try clear hk)
              (try clear hi)
              have p32 : 0 ≤ (t378 : Int) := oD
              have q32 : (t378 : Int) < ((t371.length : Int) : Int) := oD
              obtain ⟨go32, co32, eo32, gb32, gl32, cl32, HG32⟩ := Kd.R_form HO_375001.out (by omega)
              (first | cases eo32 | (injection eo32 with ea_ en_ ec_; (first | subst ea_ | (injection ea_ with ea_; subst ea_)); subst ec_; clear en_))
              have GB32 := Aside0.mk gb32
              have GG32 := Aside0.mk HG32
              clear gb32 gl32 HG32
              obtain ⟨hx32_0, hf32_0⟩ := Kd.R_celln 0 HO_375001.out (t378 : Int) p32 q32
              replace p32 := eq_true p32
              replace q32 := eq_true q32
              have HN0_go32 := Aside0.mk (show g ≠ go32 from by have h_ := IsS75.own_ne HI0.out HO_375001.out (by decide); intro e_; exact h_ (by rw [e_]; rfl))
              have HP36 := Kd.R_putn HO_375001.out (t378 : Int) t381
              rw [← Ny384.out] at HP36
              have HQ36 := Aside0.mk HP36
              clear HP36
              refine hK.out _ _ ⟨(blk_cell BK374.out 0).trans rfl, (blk_cell BK374.out 1).trans rfl⟩ (fun hHeld => ?_)
              clear hK K
              refine NM 38 ?_
              refine PU 10 39 ?_
              refine last_ (i := 11) (N := none) #[true, true, true, true, true, true, true, true, true, true, true, true] rfl rfl (one_of HT_.out (by kernel_rfl)) (by decide) (fun K hK => ?_)
              refine skip_ (w1 := ?_) (by rfl) rfl ?_ ?_
              rotate_left
              · go_simp
                rfl
              refine hK.out _ _ ?_
              clear hK K
              refine done_ (done_of HT_.out (by kernel_rfl)) ?_
              try go_wp2
              go_meet
              case rel => exact ⟨_, (t382), (t383), (y384), (.slice (some ⟨go32, 0, none⟩) t371.length co18), H', ⟨by have := HJ7.out; first | omega | exact Nat.le_refl _⟩, ⟨by (with_reducible repeat (first | apply Kd.R_alloc | apply Kd.R_drewN | apply Kd.R_drew)); exact HQ36.out⟩, ⟨by (with_reducible repeat (first | refine blk_drewN ?_ _ | refine blk_drew ?_ | refine blk_alloc ?_ _)); refine blk_far ?_ (by have h_ := Kd.R_ne HO_375001.out BK360.out (by decide); intro e_; exact h_ (by rw [e_]; rfl)) _; (with_reducible repeat (first | refine blk_drewN ?_ _ | refine blk_drew ?_ | refine blk_alloc ?_ _)); exact BK360.out⟩, ⟨by (with_reducible repeat (first | refine blk_drewN ?_ _ | refine blk_drew ?_ | refine blk_alloc ?_ _)); refine blk_far ?_ (by have h_ := Kd.R_ne HO_375001.out BK374.out (by decide); intro e_; exact h_ (by rw [e_]; rfl)) _; (with_reducible repeat (first | refine blk_drewN ?_ _ | refine blk_drew ?_ | refine blk_alloc ?_ _)); exact BK374.out⟩, ⟨by repeat (first | (with_reducible first | exact HI0.out | apply IsS75.alloc | apply IsS75.drewN | apply IsS75.drew | apply IsS75.set_1 | apply IsS75.set_2 | refine IsS75.far ?_ HN0_go32.out _ | refine IsS75.far ?_ NB0_360.out _ | refine IsS75.far ?_ NB0_374.out _) | exact HI0.out)⟩, ⟨by repeat (first | (with_reducible first | exact HK.out | apply KeepBut.set_ | apply keep_drewN | apply keep_drew | apply keep_alloc | refine keep_far ?_ GB32.out _ | refine keep_far ?_ GW360.out _ | refine keep_far ?_ GW374.out _) | exact HK.out)⟩, ⟨by repeat (first | (with_reducible first | exact HB.out | apply below_alloc | apply pw_below_drewN | apply below_drew1 | refine below_set ?_ (Nat.le_trans HL.out GB32.out) | refine below_set ?_ (IsS75.ge HI0.out) | refine below_set ?_ GE360.out | refine below_set ?_ GE374.out) | exact HB.out)⟩⟩
            · rw [if_neg c31] at H
              exact absurd H (by simp)
          · rw [if_neg c30] at H
            exact absurd H (by simp)
        · replace c27 := Bool.eq_false_iff.mpr c27
          subst c27
          rw [if_neg (show ¬ (false = true) by decide)] at H
          have H' := Aside0.mk H
          clear H
          go_wp2
          go_meet
          case rel => exact ⟨_, (x1001_7), (x1002_7), (t371), (.slice Ao18 t371.length co18), H', ⟨by have := HJ7.out; first | omega | exact Nat.le_refl _⟩, ⟨R1 HO_375001⟩, ⟨B1 BK360⟩, ⟨B1 BK374⟩, ⟨by repeat (first | (with_reducible first | exact HI0.out | apply IsS75.alloc | apply IsS75.drewN | apply IsS75.drew | apply IsS75.set_1 | apply IsS75.set_2 | refine IsS75.far ?_ NB0_360.out _ | refine IsS75.far ?_ NB0_374.out _) | exact HI0.out)⟩, ⟨by repeat (first | (with_reducible first | exact HK.out | apply KeepBut.set_ | apply keep_drewN | apply keep_drew | apply keep_alloc | refine keep_far ?_ GW360.out _ | refine keep_far ?_ GW374.out _) | exact HK.out)⟩, ⟨by repeat (first | (with_reducible first | exact HB.out | apply below_alloc | apply pw_below_drewN | apply below_drew1 | refine below_set ?_ (IsS75.ge HI0.out) | refine below_set ?_ GE360.out | refine below_set ?_ GE374.out) | exact HB.out)⟩⟩
      case rest =>
        clear HC26
        try clear c1
        try clear c2
        try clear p2
        try clear c3
        try clear p3
        try clear q3
        try clear hx3
        try clear hf3
        try clear c5
        try clear c15
        try clear c16
        try clear c20
        try clear c20b0
        try clear c20b1
        try clear c22
        try clear c23
        try clear c24
        try clear c25
        try clear c27
        try clear c30
        try clear c30b0
        try clear c31
        try clear c31b0
        try clear p32
        try clear q32
        try clear hx32
        try clear hf32
        try clear hcz17_0
        try clear hcz17_1
        try clear hcz24_0
        try clear hcz24_1
        try clear hfz17_0
        try clear hfz17_1
        try clear hfz24_0
        try clear hfz24_1
        try clear hx32_0
        try clear p2
        try clear p32
        try clear q32
        obtain ⟨kq, x1001_25, x1002_25, x375001_25, u375001, HA, HJ25, HO_375001, BK360, BK374, HI0, HK, HB⟩ := hcut
        cases kq with
        | zero => exact absurd HA.out (by simp [spec_l19Draw.j1])
        | succ kj25 =>
          have H := HA.out
          clear HA
          simp only [spec_l19Draw.j1] at H
          obtain ⟨⟨t385, t386, t387⟩, A370, H⟩ := Option.bind_eq_some_iff.mp H
          dsimp only at H
          have A37 := Aside0.mk A370
          clear A370
          by_cases c38 : t385 = 0
          · rw [if_pos c38] at H
            have c38b0 : (t385 == 0) = true := beq_iff_eq.mpr c38
            have c38b1 : (t385 != 0) = false := bne_eq_false_iff_eq.mpr c38
            clear c38
            obtain ⟨y388, hy388⟩ : ∃ y_ : List Int, y_ = (([1, 7] : List Int)) := ⟨_, rfl⟩
            replace H : ((spec_l01Next.f s0_0 t386 t387 2).bind fun bt391 => (if 0 ≤ bt391.1 then (if bt391.1 < (y388.length : Int) then (if 0 ≤ (l1.length : Int) then (if ((l1.length : Int) : Int).toNat ≤ 35184372088832 then (some (rd y388 bt391.1, (List.replicate ((l1.length : Int) : Int).toNat 0), bt391.2.1, bt391.2.2)) else (none)) else (none)) else (none)) else (none))) = some (r1, r2, r3, r4) := by first | (rw [hy388]; with_reducible exact H) | (have H2_ := (Option.bind_some _ _).symm.trans H; rw [hy388]; with_reducible exact H2_) | (have H2_ := (Option.bind_some _ _).symm.trans H; with_reducible exact H2_) | with_reducible exact H | (rw [hy388]; exact H) | exact H
            have Ny388 := Aside0.mk hy388
            clear hy388
            obtain ⟨⟨t391, t392, t393⟩, A390, H⟩ := Option.bind_eq_some_iff.mp H
            dsimp only at H
            have A39 := Aside0.mk A390
            clear A390
            by_cases c40 : 0 ≤ t391
            · rw [if_pos c40] at H
              have c40b0 : decide (0 ≤ t391) = true := decide_eq_true c40
              clear c40
              by_cases c41 : t391 < (y388.length : Int)
              · rw [if_pos c41] at H
                have c41b0 : decide (t391 < (y388.length : Int)) = true := decide_eq_true c41
                clear c41
                by_cases c42 : 0 ≤ (l1.length : Int)
                · rw [if_pos c42] at H
                  have c42b0 := eq_true c42
                  have c42b1 : decide (0 ≤ (l1.length : Int)) = true := decide_eq_true c42
                  clear c42
                  by_cases c43 : ((l1.length : Int) : Int).toNat ≤ 35184372088832
                  · rw [if_pos c43] at H
                    have c43b0 := eq_true c43
                    have c43b1 : decide (((l1.length : Int) : Int).toNat ≤ 35184372088832) = true := decide_eq_true c43
                    clear c43
                    obtain ⟨y395, hy395⟩ : ∃ y_ : List Int, y_ = (List.replicate ((l1.length : Int) : Int).toNat 0) := ⟨_, rfl⟩
                    replace H : (some (rd y388 t391, y395, t392, t393)) = some (r1, r2, r3, r4) := by first | (rw [hy395]; with_reducible exact H) | (have H2_ := (Option.bind_some _ _).symm.trans H; rw [hy395]; with_reducible exact H2_) | (have H2_ := (Option.bind_some _ _).symm.trans H; with_reducible exact H2_) | with_reducible exact H | (rw [hy395]; exact H) | exact H
                    have Ny395 := Aside0.mk hy395
                    clear hy395
                    simp only [Option.some.injEq, Prod.mk.injEq] at H
                    obtain ⟨rfl, rfl, rfl, rfl⟩ := H
                    try go_wp2_with (first | ((with_reducible refine gC 24 ?_); refine GL (some 41) Try.func24 #[.pointer (some ⟨g, 0, none⟩), .int .i64 24] ?_; (with_reducible refine (spec_l01Next.calls g s0_0 x1001_25 x1002_25 24 t385 t386 t387 w0 _ ?side1 ?side2 A37.out).mono ?_); (case side1 => repeat (first | (with_reducible first | exact HI0.out | apply IsS75.alloc | apply IsS75.drewN | apply IsS75.drew | apply IsS75.set_1 | apply IsS75.set_2 | refine IsS75.far ?_ NB0_360.out _ | refine IsS75.far ?_ NB0_374.out _) | exact HI0.out)); (case side2 => repeat (first | (with_reducible first | exact HB.out | apply below_alloc | apply pw_below_drewN | apply below_drew1 | refine below_set ?_ (IsS75.ge HI0.out) | refine below_set ?_ GE360.out | refine below_set ?_ GE374.out) | exact HB.out)); rintro e w44 ⟨rfl, hi, hb, hk⟩; refine ⟨_, rfl, ?_⟩; replace HO_375001 := Aside0.mk (Kd.R_mono (Kd.R_keep (IsS75.apart (show IsS75 w0 _ g s0_0 x1001_25 x1002_25 from by repeat (first | (with_reducible first | exact HI0.out | apply IsS75.alloc | apply IsS75.drewN | apply IsS75.drew | apply IsS75.set_1 | apply IsS75.set_2 | refine IsS75.far ?_ NB0_360.out _ | refine IsS75.far ?_ NB0_374.out _) | exact HI0.out)) (R1 HO_375001) (by decide)) hk (fun _ h => h.2)) (fun _ h => h.1)); replace BK360 := Aside0.mk (KeepBut.blk hk (g' := gb360) (o := .cells #[.int .i64 0, .slice none 0 0] 27 (0, 0)) (B1 BK360) NB360_0.out (by simp)); replace BK374 := Aside0.mk (KeepBut.blk hk (g' := gb374) (o := .cells #[.int .i64 t370, u375001] 27 (0, 0)) (B1 BK374) NB374_0.out (by simp)); replace HK := Aside0.mk (KeepBut.trans (by repeat (first | (with_reducible first | exact HK.out | apply KeepBut.set_ | apply keep_drewN | apply keep_drew | apply keep_alloc | refine keep_far ?_ GW360.out _ | refine keep_far ?_ GW374.out _) | exact HK.out)) hk (.inl rfl)); replace HB := Aside0.mk (hb); replace HI0 := Aside0.mk (hi); (try clear hb); (try clear hb2); (try clear hk); (try clear hi)))
                    have pi394 : (0 ≤ (t391 : Int)) = True := eq_true (oD)
                    have qi394 : (t391 < (y388.length : Int)) = True := eq_true (oD)
                    replace HO_375001 := Aside0.mk (Kd.R_drew HO_375001.out)
                    replace BK360 := Aside0.mk (blk_drew BK360.out)
                    replace BK374 := Aside0.mk (blk_drew BK374.out)
                    replace HI0 := Aside0.mk (IsS75.drew HI0.out)
                    replace HK := Aside0.mk (keep_drew HK.out)
                    replace HB := Aside0.mk (below_drew1 HB.out)
                    refine start_ (n := 10) (S := fun w' => True) (ds := []) #[false, false, false, false, false, false, false, false, false, false] (by kernel_rfl) rfl rfl trivial (fun hHeld => ?_); refine with_tabW spec_l19Draw.tab6 spec_l19Draw.bits6 (fun HT_ HW_ => ?_)
                    generalize w44.drew = w45 at HO_375001 BK360 BK374 HI0 HK HB hHeld ⊢
                    refine PU 1 45 ?_
                    refine PU 5 49 ?_
                    refine PU 6 50 ?_
                    refine join_ (σ := Value × Addr × Value) 2 #[true, true, true, true, true, true, true, true, false, false] (fun s_ => [(44, s_.1), (46, .int .i64 t391), (48, .int .i64 (rd y388 t391)), (51, s_.2.2), (47, .pointer (some (s_.2.1.add (t391).toNat)))]) (fun s_ w' => (Kd.R (Kd.int .i64) 2 w' w.heap.size (fun k_ => some k_ ≠ (s_.2.2 : Value).ownBlock ∧ some k_ ≠ (u375001 : Value).ownBlock) s_.1 y388) ∧ (Kd.R (Kd.int .i64) 2 w' w.heap.size (fun k_ => some k_ ≠ (s_.1 : Value).ownBlock ∧ some k_ ≠ (u375001 : Value).ownBlock) s_.2.2 y395) ∧ (Kd.R (Kd.int .i64) 2 w' w.heap.size (fun k_ => some k_ ≠ (s_.1 : Value).ownBlock ∧ some k_ ≠ (s_.2.2 : Value).ownBlock) u375001 x375001_25) ∧ (∃ c_, (s_.1 : Value) = .slice (some s_.2.1) y388.length c_) ∧ (w'.heap[gb360]? = some (.cells #[.int .i64 0, .slice none 0 0] 27 (0, 0))) ∧ (w'.heap[gb374]? = some (.cells #[.int .i64 t370, u375001] 27 (0, 0))) ∧ (IsS75 w0 w' g s0_0 t392 t393) ∧ (KeepBut w w' g none) ∧ (Below w0.heap.size w0 w')) ?_ ?_
                    rotate_left
                    · intro hJ0_2_4_7
                      refine join_ (σ := Value × Addr) 3 #[true, true, true, true, true, true, true, false, false, false] (fun s_ => [(44, s_.1), (46, .int .i64 t391), (48, .int .i64 (rd y388 t391)), (47, .pointer (some (s_.2.add (t391).toNat)))]) (fun s_ w' => (Kd.R (Kd.int .i64) 2 w' w.heap.size (fun k_ => some k_ ≠ (u375001 : Value).ownBlock) s_.1 y388) ∧ (Kd.R (Kd.int .i64) 2 w' w.heap.size (fun k_ => some k_ ≠ (s_.1 : Value).ownBlock) u375001 x375001_25) ∧ (∃ c_, (s_.1 : Value) = .slice (some s_.2) y388.length c_) ∧ (w'.heap[gb360]? = some (.cells #[.int .i64 0, .slice none 0 0] 27 (0, 0))) ∧ (w'.heap[gb374]? = some (.cells #[.int .i64 t370, u375001] 27 (0, 0))) ∧ (IsS75 w0 w' g s0_0 t392 t393) ∧ (KeepBut w w' g none) ∧ (Below w0.heap.size w0 w')) ?_ ?_
                      rotate_left
                      · intro hJ0_2_4
                        refine join_ (σ := Value × Addr × Value) 3 #[true, true, true, true, false, true, true, true, false, false] (fun s_ => [(44, s_.1), (46, .int .i64 t391), (51, s_.2.2), (47, .pointer (some (s_.2.1.add (t391).toNat)))]) (fun s_ w' => (Kd.R (Kd.int .i64) 2 w' w.heap.size (fun k_ => some k_ ≠ (s_.2.2 : Value).ownBlock ∧ some k_ ≠ (u375001 : Value).ownBlock) s_.1 y388) ∧ (Kd.R (Kd.int .i64) 2 w' w.heap.size (fun k_ => some k_ ≠ (s_.1 : Value).ownBlock ∧ some k_ ≠ (u375001 : Value).ownBlock) s_.2.2 y395) ∧ (Kd.R (Kd.int .i64) 2 w' w.heap.size (fun k_ => some k_ ≠ (s_.1 : Value).ownBlock ∧ some k_ ≠ (s_.2.2 : Value).ownBlock) u375001 x375001_25) ∧ (∃ c_, (s_.1 : Value) = .slice (some s_.2.1) y388.length c_) ∧ (w'.heap[gb360]? = some (.cells #[.int .i64 0, .slice none 0 0] 27 (0, 0))) ∧ (w'.heap[gb374]? = some (.cells #[.int .i64 t370, u375001] 27 (0, 0))) ∧ (IsS75 w0 w' g s0_0 t392 t393) ∧ (KeepBut w w' g none) ∧ (Below w0.heap.size w0 w')) ?_ ?_
                        rotate_left
                        · intro hJ0_2_7
                          refine join_ (σ := Value × Addr) 4 #[true, true, true, true, false, true, true, false, false, false] (fun s_ => [(44, s_.1), (46, .int .i64 t391), (47, .pointer (some (s_.2.add (t391).toNat)))]) (fun s_ w' => (Kd.R (Kd.int .i64) 2 w' w.heap.size (fun k_ => some k_ ≠ (u375001 : Value).ownBlock) s_.1 y388) ∧ (Kd.R (Kd.int .i64) 2 w' w.heap.size (fun k_ => some k_ ≠ (s_.1 : Value).ownBlock) u375001 x375001_25) ∧ (∃ c_, (s_.1 : Value) = .slice (some s_.2) y388.length c_) ∧ (w'.heap[gb360]? = some (.cells #[.int .i64 0, .slice none 0 0] 27 (0, 0))) ∧ (w'.heap[gb374]? = some (.cells #[.int .i64 t370, u375001] 27 (0, 0))) ∧ (IsS75 w0 w' g s0_0 t392 t393) ∧ (KeepBut w w' g none) ∧ (Below w0.heap.size w0 w')) ?_ ?_
                          rotate_left
                          · intro hJ0_2
                            refine join_ (σ := Value × Addr × Value) 5 #[true, true, false, false, false, true, true, true, false, false] (fun s_ => [(44, s_.1), (51, s_.2.2)]) (fun s_ w' => (Kd.R (Kd.int .i64) 2 w' w.heap.size (fun k_ => some k_ ≠ (s_.2.2 : Value).ownBlock ∧ some k_ ≠ (u375001 : Value).ownBlock) s_.1 y388) ∧ (Kd.R (Kd.int .i64) 2 w' w.heap.size (fun k_ => some k_ ≠ (s_.1 : Value).ownBlock ∧ some k_ ≠ (u375001 : Value).ownBlock) s_.2.2 y395) ∧ (Kd.R (Kd.int .i64) 2 w' w.heap.size (fun k_ => some k_ ≠ (s_.1 : Value).ownBlock ∧ some k_ ≠ (s_.2.2 : Value).ownBlock) u375001 x375001_25) ∧ (∃ c_, (s_.1 : Value) = .slice (some s_.2.1) y388.length c_) ∧ (w'.heap[gb360]? = some (.cells #[.int .i64 0, .slice none 0 0] 27 (0, 0))) ∧ (w'.heap[gb374]? = some (.cells #[.int .i64 t370, u375001] 27 (0, 0))) ∧ (IsS75 w0 w' g s0_0 t386 t387) ∧ (KeepBut w w' g none) ∧ (Below w0.heap.size w0 w')) ?_ ?_
                            rotate_left
                            · intro hJ0_7
                              refine join_ (σ := Value) 5 #[false, true, true, false, false, true, true, true, false, false] (fun s_ => [(46, .int .i64 t391), (51, s_)]) (fun s_ w' => (Kd.R (Kd.int .i64) 2 w' w.heap.size (fun k_ => some k_ ≠ (u375001 : Value).ownBlock) s_ y395) ∧ (Kd.R (Kd.int .i64) 2 w' w.heap.size (fun k_ => some k_ ≠ (s_ : Value).ownBlock) u375001 x375001_25) ∧ (w'.heap[gb360]? = some (.cells #[.int .i64 0, .slice none 0 0] 27 (0, 0))) ∧ (w'.heap[gb374]? = some (.cells #[.int .i64 t370, u375001] 27 (0, 0))) ∧ (IsS75 w0 w' g s0_0 t392 t393) ∧ (KeepBut w w' g none) ∧ (Below w0.heap.size w0 w')) ?_ ?_
                              rotate_left
                              · intro hJ2_7
                                refine join_ (σ := Value × Addr) 6 #[true, true, false, false, false, true, true, false, false, false] (fun s_ => [(44, s_.1)]) (fun s_ w' => (Kd.R (Kd.int .i64) 2 w' w.heap.size (fun k_ => some k_ ≠ (u375001 : Value).ownBlock) s_.1 y388) ∧ (Kd.R (Kd.int .i64) 2 w' w.heap.size (fun k_ => some k_ ≠ (s_.1 : Value).ownBlock) u375001 x375001_25) ∧ (∃ c_, (s_.1 : Value) = .slice (some s_.2) y388.length c_) ∧ (w'.heap[gb360]? = some (.cells #[.int .i64 0, .slice none 0 0] 27 (0, 0))) ∧ (w'.heap[gb374]? = some (.cells #[.int .i64 t370, u375001] 27 (0, 0))) ∧ (IsS75 w0 w' g s0_0 t386 t387) ∧ (KeepBut w w' g none) ∧ (Below w0.heap.size w0 w')) ?_ ?_
                                rotate_left
                                · intro hJ0
                                  refine join_ (σ := Unit) 6 #[false, true, true, false, false, true, true, false, false, false] (fun s_ => [(46, .int .i64 t391)]) (fun s_ w' => (Kd.R (Kd.int .i64) 2 w' w.heap.size (fun _ => True) u375001 x375001_25) ∧ (w'.heap[gb360]? = some (.cells #[.int .i64 0, .slice none 0 0] 27 (0, 0))) ∧ (w'.heap[gb374]? = some (.cells #[.int .i64 t370, u375001] 27 (0, 0))) ∧ (IsS75 w0 w' g s0_0 t392 t393) ∧ (KeepBut w w' g none) ∧ (Below w0.heap.size w0 w')) ?_ ?_
                                  rotate_left
                                  · intro hJ2
                                    refine join_ (σ := Value) 6 #[false, true, false, false, false, true, true, true, false, false] (fun s_ => [(51, s_)]) (fun s_ w' => (Kd.R (Kd.int .i64) 2 w' w.heap.size (fun k_ => some k_ ≠ (u375001 : Value).ownBlock) s_ y395) ∧ (Kd.R (Kd.int .i64) 2 w' w.heap.size (fun k_ => some k_ ≠ (s_ : Value).ownBlock) u375001 x375001_25) ∧ (w'.heap[gb360]? = some (.cells #[.int .i64 0, .slice none 0 0] 27 (0, 0))) ∧ (w'.heap[gb374]? = some (.cells #[.int .i64 t370, u375001] 27 (0, 0))) ∧ (IsS75 w0 w' g s0_0 t386 t387) ∧ (KeepBut w w' g none) ∧ (Below w0.heap.size w0 w')) ?_ ?_
                                    rotate_left
                                    · intro hJ7
                                      refine three_ (i := 0) (j := 2) (k := 7) (Ni := some 44) (Nj := some 46) (Nk := some 51) #[true, true, false, false, false, true, true, false, false, false] #[false, true, true, false, false, true, true, false, false, false] #[false, true, false, false, false, true, true, true, false, false] rfl rfl rfl rfl rfl rfl (three_of HT_.out (by kernel_rfl)) (by decide) (by decide) (by decide) (fun K hK => ?_) (fun K hK => ?_) (fun K hK => ?_)
                                      · skip
                                        refine Kd.R_lit_step (Kd.int .i64) _ 2 ?hg (N := 44) ?hd (xs := ([1, 7] : List Int)) (inner := [.int .i64 1, .int .i64 7]) (ok := fun _ => True) (okp := fun _ => True) ?hr ?hp (fun _ hk => hk) trivial (Below.refl _ _) (Nat.le_refl _) (by simp) ?_; (case hd => rfl); (case hg => rfl); (case hr => first | (go_simp; done) | (go_simp; rfl)); (case hp => exact (Reps.one (show Kd.M (Kd.int .i64) _ _ _ 1 [.int .i64 1] from rfl) (Reps.one (show Kd.M (Kd.int .i64) _ _ _ 7 [.int .i64 7] from rfl) (Reps.none _ _))))
                                        intro v389 w46 ho47 hb hg_ hnew_
                                        clear hg_ hnew_
                                        (first | rw [← Ny388.out] at ho47 | (simp only [Int.reduceToNat] at ho47; rw [← Ny388.out] at ho47))
                                        have HO390 := Aside0.mk (Kd.R_lower (Kd.R_new' ho47 (Kd.R_lt (R1 HO_375001))) (keep_size (w := w) (g := g) (row := none) (by repeat (first | (with_reducible first | exact HK.out | apply KeepBut.set_ | apply keep_drewN | apply keep_drew | apply keep_alloc | refine keep_far ?_ GW360.out _ | refine keep_far ?_ GW374.out _) | exact HK.out))))
                                        replace HO_375001 := Aside0.mk (Kd.R_elder' (R1 HO_375001) (Kd.R_base ho47) hb)
                                        replace BK360 := Aside0.mk (blk_below (B1 BK360) hb)
                                        replace BK374 := Aside0.mk (blk_below (B1 BK374) hb)
                                        replace HK := Aside0.mk (KeepBut.trans (by repeat (first | (with_reducible first | exact HK.out | apply KeepBut.set_ | apply keep_drewN | apply keep_drew | apply keep_alloc | refine keep_far ?_ GW360.out _ | refine keep_far ?_ GW374.out _) | exact HK.out)) (KeepBut.of_below hb g none) (.inl rfl))
                                        replace HB := Aside0.mk (below_step (by repeat (first | (with_reducible first | exact HB.out | apply below_alloc | apply pw_below_drewN | apply below_drew1 | refine below_set ?_ (IsS75.ge HI0.out) | refine below_set ?_ GE360.out | refine below_set ?_ GE374.out) | exact HB.out)) hb)
                                        replace HI0 := Aside0.mk (IsS75.below (by repeat (first | (with_reducible first | exact HI0.out | apply IsS75.alloc | apply IsS75.drewN | apply IsS75.drew | apply IsS75.set_1 | apply IsS75.set_2 | refine IsS75.far ?_ NB0_360.out _ | refine IsS75.far ?_ NB0_374.out _) | exact HI0.out)) hb)
                                        clear hb ho47
                                        obtain ⟨Ao48, co48, eo48⟩ := Kd.R_slice HO390.out
                                        subst eo48
                                        obtain ⟨ado48, fo48, _⟩ := Kd.at_int (Kd.R_reads' HO390.out).2.2 0 (by decide) (by rw [Ny388.out]; simp)
                                        cases fo48
                                        refine hK.out _ _ trivial (fun hHeld => ?_)
                                        clear hK K
                                        refine NM 44 ?_
                                        exact norm_ (by first | (simp only [putAll, Act.put, List.setIfInBounds_toArray, List.set_cons_zero, List.set_cons_succ]; done) | (simp only [putAll, Act.put, List.setIfInBounds_toArray, List.set_cons_zero, List.set_cons_succ]; rfl)) (hJ0 (.slice (some ado48) y388.length co48, ado48) _ ⟨(by (with_reducible repeat (first | apply Kd.R_alloc | apply Kd.R_drewN | apply Kd.R_drew)); exact Kd.R_mono HO390.out (fun _ hk => hk.2)), (by (with_reducible repeat (first | apply Kd.R_alloc | apply Kd.R_drewN | apply Kd.R_drew)); exact Kd.R_mono HO_375001.out (fun _ hk => hk.2)), ⟨_, rfl⟩, (B1 BK360), (B1 BK374), (by repeat (first | (with_reducible first | exact HI0.out | apply IsS75.alloc | apply IsS75.drewN | apply IsS75.drew | apply IsS75.set_1 | apply IsS75.set_2 | refine IsS75.far ?_ NB0_360.out _ | refine IsS75.far ?_ NB0_374.out _) | exact HI0.out)), (by repeat (first | (with_reducible first | exact HK.out | apply KeepBut.set_ | apply keep_drewN | apply keep_drew | apply keep_alloc | refine keep_far ?_ GW360.out _ | refine keep_far ?_ GW374.out _) | exact HK.out)), (by repeat (first | (with_reducible first | exact HB.out | apply below_alloc | apply pw_below_drewN | apply below_drew1 | refine below_set ?_ (IsS75.ge HI0.out) | refine below_set ?_ GE360.out | refine below_set ?_ GE374.out) | exact HB.out))⟩)
                                      · skip
                                        refine GO Try.func24 #[.pointer (some ⟨g, 0, none⟩), .int .i64 2] ?_
                                        with_reducible refine (spec_l01Next.calls g s0_0 t386 t387 2 t391 t392 t393 w0 _ ?side1 ?side2 A39.out).mono ?_
                                        (case side1 => repeat (first | (with_reducible first | exact HI0.out | apply IsS75.alloc | apply IsS75.drewN | apply IsS75.drew | apply IsS75.set_1 | apply IsS75.set_2 | refine IsS75.far ?_ NB0_360.out _ | refine IsS75.far ?_ NB0_374.out _) | exact HI0.out))
                                        (case side2 => repeat (first | (with_reducible first | exact HB.out | apply below_alloc | apply pw_below_drewN | apply below_drew1 | refine below_set ?_ (IsS75.ge HI0.out) | refine below_set ?_ GE360.out | refine below_set ?_ GE374.out) | exact HB.out))
                                        rintro e w46 ⟨rfl, hi, hb, hk⟩
                                        refine ⟨_, rfl, ?_⟩
                                        replace HO_375001 := Aside0.mk (Kd.R_mono (Kd.R_keep (IsS75.apart (show IsS75 w0 _ g s0_0 t386 t387 from by repeat (first | (with_reducible first | exact HI0.out | apply IsS75.alloc | apply IsS75.drewN | apply IsS75.drew | apply IsS75.set_1 | apply IsS75.set_2 | refine IsS75.far ?_ NB0_360.out _ | refine IsS75.far ?_ NB0_374.out _) | exact HI0.out)) (R1 HO_375001) (by decide)) hk (fun _ h => h.2)) (fun _ h => h.1))
                                        replace BK360 := Aside0.mk (KeepBut.blk hk (g' := gb360) (o := .cells #[.int .i64 0, .slice none 0 0] 27 (0, 0)) (B1 BK360) NB360_0.out (by simp))
                                        replace BK374 := Aside0.mk (KeepBut.blk hk (g' := gb374) (o := .cells #[.int .i64 t370, u375001] 27 (0, 0)) (B1 BK374) NB374_0.out (by simp))
                                        replace HK := Aside0.mk (KeepBut.trans (by repeat (first | (with_reducible first | exact HK.out | apply KeepBut.set_ | apply keep_drewN | apply keep_drew | apply keep_alloc | refine keep_far ?_ GW360.out _ | refine keep_far ?_ GW374.out _) | exact HK.out)) hk (.inl rfl))
                                        replace HB := Aside0.mk (hb)
                                        replace HI0 := Aside0.mk (hi)
                                        (try clear hb)
                                        (try clear hb2)
                                        (try clear hk)
                                        (try clear hi)
                                        refine hK.out _ _ trivial (fun hHeld => ?_)
                                        clear hK K
                                        refine NM 46 ?_
                                        exact norm_ (by first | (simp only [putAll, Act.put, List.setIfInBounds_toArray, List.set_cons_zero, List.set_cons_succ]; done) | (simp only [putAll, Act.put, List.setIfInBounds_toArray, List.set_cons_zero, List.set_cons_succ]; rfl)) (hJ2 () _ ⟨(R1 HO_375001), (B1 BK360), (B1 BK374), (by repeat (first | (with_reducible first | exact HI0.out | apply IsS75.alloc | apply IsS75.drewN | apply IsS75.drew | apply IsS75.set_1 | apply IsS75.set_2 | refine IsS75.far ?_ NB0_360.out _ | refine IsS75.far ?_ NB0_374.out _) | exact HI0.out)), (by repeat (first | (with_reducible first | exact HK.out | apply KeepBut.set_ | apply keep_drewN | apply keep_drew | apply keep_alloc | refine keep_far ?_ GW360.out _ | refine keep_far ?_ GW374.out _) | exact HK.out)), (by repeat (first | (with_reducible first | exact HB.out | apply below_alloc | apply pw_below_drewN | apply below_drew1 | refine below_set ?_ (IsS75.ge HI0.out) | refine below_set ?_ GE360.out | refine below_set ?_ GE374.out) | exact HB.out))⟩)
                                      · skip
                                        refine Kd.R_make_step (Kd.int .i64) _ 2 (by rfl) (N := 51) rfl 25 _ _ rfl (l1.length : Int) rfl rfl Try.underlying25 (.int .i64 0) 8 info2 rfl (by decide) (by omega) 0 (ok := fun _ => True) (okp := fun _ => True) rfl (fun _ hk => hk) trivial (oD) (Nat.le_trans (Nat.mul_le_mul_right _ (oD : (l1.length : Int).toNat ≤ 35184372088832)) (by omega)) (Below.refl _ _) (Nat.le_refl _) ?_
                                        intro v396 w46 ho47 hb hg_ hnew_
                                        clear hg_ hnew_
                                        (first | rw [← Ny395.out] at ho47 | (simp only [Int.reduceToNat] at ho47; rw [← Ny395.out] at ho47))
                                        have HO397 := Aside0.mk (Kd.R_lower (Kd.R_new' ho47 (Kd.R_lt (R1 HO_375001))) (keep_size (w := w) (g := g) (row := none) (by repeat (first | (with_reducible first | exact HK.out | apply KeepBut.set_ | apply keep_drewN | apply keep_drew | apply keep_alloc | refine keep_far ?_ GW360.out _ | refine keep_far ?_ GW374.out _) | exact HK.out))))
                                        replace HO_375001 := Aside0.mk (Kd.R_elder' (R1 HO_375001) (Kd.R_base ho47) hb)
                                        replace BK360 := Aside0.mk (blk_below (B1 BK360) hb)
                                        replace BK374 := Aside0.mk (blk_below (B1 BK374) hb)
                                        replace HK := Aside0.mk (KeepBut.trans (by repeat (first | (with_reducible first | exact HK.out | apply KeepBut.set_ | apply keep_drewN | apply keep_drew | apply keep_alloc | refine keep_far ?_ GW360.out _ | refine keep_far ?_ GW374.out _) | exact HK.out)) (KeepBut.of_below hb g none) (.inl rfl))
                                        replace HB := Aside0.mk (below_step (by repeat (first | (with_reducible first | exact HB.out | apply below_alloc | apply pw_below_drewN | apply below_drew1 | refine below_set ?_ (IsS75.ge HI0.out) | refine below_set ?_ GE360.out | refine below_set ?_ GE374.out) | exact HB.out)) hb)
                                        replace HI0 := Aside0.mk (IsS75.below (by repeat (first | (with_reducible first | exact HI0.out | apply IsS75.alloc | apply IsS75.drewN | apply IsS75.drew | apply IsS75.set_1 | apply IsS75.set_2 | refine IsS75.far ?_ NB0_360.out _ | refine IsS75.far ?_ NB0_374.out _) | exact HI0.out)) hb)
                                        clear hb ho47
                                        refine hK.out _ _ trivial (fun hHeld => ?_)
                                        clear hK K
                                        refine NM 51 ?_
                                        exact norm_ (by first | (simp only [putAll, Act.put, List.setIfInBounds_toArray, List.set_cons_zero, List.set_cons_succ]; done) | (simp only [putAll, Act.put, List.setIfInBounds_toArray, List.set_cons_zero, List.set_cons_succ]; rfl)) (hJ7 (v396) _ ⟨(by (with_reducible repeat (first | apply Kd.R_alloc | apply Kd.R_drewN | apply Kd.R_drew)); exact Kd.R_mono HO397.out (fun _ hk => hk.2)), (by (with_reducible repeat (first | apply Kd.R_alloc | apply Kd.R_drewN | apply Kd.R_drew)); exact Kd.R_mono HO_375001.out (fun _ hk => hk.2)), (B1 BK360), (B1 BK374), (by repeat (first | (with_reducible first | exact HI0.out | apply IsS75.alloc | apply IsS75.drewN | apply IsS75.drew | apply IsS75.set_1 | apply IsS75.set_2 | refine IsS75.far ?_ NB0_360.out _ | refine IsS75.far ?_ NB0_374.out _) | exact HI0.out)), (by repeat (first | (with_reducible first | exact HK.out | apply KeepBut.set_ | apply keep_drewN | apply keep_drew | apply keep_alloc | refine keep_far ?_ GW360.out _ | refine keep_far ?_ GW374.out _) | exact HK.out)), (by repeat (first | (with_reducible first | exact HB.out | apply below_alloc | apply pw_below_drewN | apply below_drew1 | refine below_set ?_ (IsS75.ge HI0.out) | refine below_set ?_ GE360.out | refine below_set ?_ GE374.out) | exact HB.out))⟩)
                                    · skip
                                      rintro v396 w48 ⟨h0_, h1_, h2_, h3_, h4_, h5_, h6_⟩
                                      have n0_ : Aside0 (Kd.R (Kd.int .i64) 2 w48 w.heap.size (fun k_ => some k_ ≠ (u375001 : Value).ownBlock) v396 y395) := ⟨h0_⟩
                                      have n1_ : Aside0 (Kd.R (Kd.int .i64) 2 w48 w.heap.size (fun k_ => some k_ ≠ (v396 : Value).ownBlock) u375001 x375001_25) := ⟨h1_⟩
                                      have n2_ : Aside0 (w48.heap[gb360]? = some (.cells #[.int .i64 0, .slice none 0 0] 27 (0, 0))) := ⟨h2_⟩
                                      have n3_ : Aside0 (w48.heap[gb374]? = some (.cells #[.int .i64 t370, u375001] 27 (0, 0))) := ⟨h3_⟩
                                      have n4_ : Aside0 (IsS75 w0 w48 g s0_0 t386 t387) := ⟨h4_⟩
                                      have n5_ : Aside0 (KeepBut w w48 g none) := ⟨h5_⟩
                                      have n6_ : Aside0 (Below w0.heap.size w0 w48) := ⟨h6_⟩
                                      clear HO_375001
                                      clear BK360
                                      clear BK374
                                      clear HI0
                                      clear HK
                                      clear HB
                                      clear h0_ h1_ h2_ h3_ h4_ h5_ h6_
                                      have HO397 := n0_
                                      have HO_375001 := n1_
                                      have BK360 := n2_
                                      have BK374 := n3_
                                      have HI0 := n4_
                                      have HK := n5_
                                      have HB := n6_
                                      clear n0_ n1_ n2_ n3_ n4_ n5_ n6_
                                      have hHeld := trivial
                                      refine norm_ (a' := ?_) ?_ ?_
                                      rotate_left
                                      · simp only [putAll, Act.put, List.setIfInBounds_toArray, List.set_cons_zero, List.set_cons_succ]
                                        rfl
                                      refine two_ (i := 0) (j := 2) (Ni := some 44) (Nj := some 46) #[true, true, false, false, false, true, true, true, false, false] #[false, true, true, false, false, true, true, true, false, false] rfl rfl rfl rfl (two_of HT_.out (by kernel_rfl)) (by decide) (by decide) (fun K hK => ?_) (fun K hK => ?_)
                                      · skip
                                        refine Kd.R_lit_step (Kd.int .i64) _ 2 ?hg (N := 44) ?hd (xs := ([1, 7] : List Int)) (inner := [.int .i64 1, .int .i64 7]) (ok := fun _ => True) (okp := fun _ => True) ?hr ?hp (fun _ hk => hk) trivial (Below.refl _ _) (Nat.le_refl _) (by simp) ?_; (case hd => rfl); (case hg => rfl); (case hr => first | (go_simp; done) | (go_simp; rfl)); (case hp => exact (Reps.one (show Kd.M (Kd.int .i64) _ _ _ 1 [.int .i64 1] from rfl) (Reps.one (show Kd.M (Kd.int .i64) _ _ _ 7 [.int .i64 7] from rfl) (Reps.none _ _))))
                                        intro v389 w49 ho50 hb hg_ hnew_
                                        clear hg_ hnew_
                                        (first | rw [← Ny388.out] at ho50 | (simp only [Int.reduceToNat] at ho50; rw [← Ny388.out] at ho50))
                                        have HO390 := Aside0.mk (Kd.R_lower (Kd.R_new' (Kd.R_new' ho50 (Kd.R_lt (R1 HO_375001))) (Kd.R_lt (R1 HO397))) (keep_size (w := w) (g := g) (row := none) (by repeat (first | (with_reducible first | exact HK.out | apply KeepBut.set_ | apply keep_drewN | apply keep_drew | apply keep_alloc | refine keep_far ?_ GW360.out _ | refine keep_far ?_ GW374.out _) | exact HK.out))))
                                        replace HO_375001 := Aside0.mk (Kd.R_elder' (R1 HO_375001) (Kd.R_base ho50) hb)
                                        replace HO397 := Aside0.mk (Kd.R_elder' (R1 HO397) (Kd.R_base ho50) hb)
                                        replace BK360 := Aside0.mk (blk_below (B1 BK360) hb)
                                        replace BK374 := Aside0.mk (blk_below (B1 BK374) hb)
                                        replace HK := Aside0.mk (KeepBut.trans (by repeat (first | (with_reducible first | exact HK.out | apply KeepBut.set_ | apply keep_drewN | apply keep_drew | apply keep_alloc | refine keep_far ?_ GW360.out _ | refine keep_far ?_ GW374.out _) | exact HK.out)) (KeepBut.of_below hb g none) (.inl rfl))
                                        replace HB := Aside0.mk (below_step (by repeat (first | (with_reducible first | exact HB.out | apply below_alloc | apply pw_below_drewN | apply below_drew1 | refine below_set ?_ (IsS75.ge HI0.out) | refine below_set ?_ GE360.out | refine below_set ?_ GE374.out) | exact HB.out)) hb)
                                        replace HI0 := Aside0.mk (IsS75.below (by repeat (first | (with_reducible first | exact HI0.out | apply IsS75.alloc | apply IsS75.drewN | apply IsS75.drew | apply IsS75.set_1 | apply IsS75.set_2 | refine IsS75.far ?_ NB0_360.out _ | refine IsS75.far ?_ NB0_374.out _) | exact HI0.out)) hb)
                                        clear hb ho50
                                        obtain ⟨Ao51, co51, eo51⟩ := Kd.R_slice HO390.out
                                        subst eo51
                                        obtain ⟨ado51, fo51, _⟩ := Kd.at_int (Kd.R_reads' HO390.out).2.2 0 (by decide) (by rw [Ny388.out]; simp)
                                        cases fo51
                                        refine hK.out _ _ trivial (fun hHeld => ?_)
                                        clear hK K
                                        refine NM 44 ?_
                                        exact norm_ (by first | (simp only [putAll, Act.put, List.setIfInBounds_toArray, List.set_cons_zero, List.set_cons_succ]; done) | (simp only [putAll, Act.put, List.setIfInBounds_toArray, List.set_cons_zero, List.set_cons_succ]; rfl)) (hJ0_7 (.slice (some ado51) y388.length co51, ado51, v396) _ ⟨(by (with_reducible repeat (first | apply Kd.R_alloc | apply Kd.R_drewN | apply Kd.R_drew)); exact Kd.R_mono HO390.out (fun _ hk => ⟨hk.2, hk.1.2⟩)), (by (with_reducible repeat (first | apply Kd.R_alloc | apply Kd.R_drewN | apply Kd.R_drew)); exact Kd.R_mono HO397.out (fun _ hk => ⟨hk.2, hk.1⟩)), (by (with_reducible repeat (first | apply Kd.R_alloc | apply Kd.R_drewN | apply Kd.R_drew)); exact Kd.R_mono HO_375001.out (fun _ hk => ⟨hk.2, hk.1⟩)), ⟨_, rfl⟩, (B1 BK360), (B1 BK374), (by repeat (first | (with_reducible first | exact HI0.out | apply IsS75.alloc | apply IsS75.drewN | apply IsS75.drew | apply IsS75.set_1 | apply IsS75.set_2 | refine IsS75.far ?_ NB0_360.out _ | refine IsS75.far ?_ NB0_374.out _) | exact HI0.out)), (by repeat (first | (with_reducible first | exact HK.out | apply KeepBut.set_ | apply keep_drewN | apply keep_drew | apply keep_alloc | refine keep_far ?_ GW360.out _ | refine keep_far ?_ GW374.out _) | exact HK.out)), (by repeat (first | (with_reducible first | exact HB.out | apply below_alloc | apply pw_below_drewN | apply below_drew1 | refine below_set ?_ (IsS75.ge HI0.out) | refine below_set ?_ GE360.out | refine below_set ?_ GE374.out) | exact HB.out))⟩)
                                      · skip
                                        refine GO Try.func24 #[.pointer (some ⟨g, 0, none⟩), .int .i64 2] ?_
                                        with_reducible refine (spec_l01Next.calls g s0_0 t386 t387 2 t391 t392 t393 w0 _ ?side1 ?side2 A39.out).mono ?_
                                        (case side1 => repeat (first | (with_reducible first | exact HI0.out | apply IsS75.alloc | apply IsS75.drewN | apply IsS75.drew | apply IsS75.set_1 | apply IsS75.set_2 | refine IsS75.far ?_ NB0_360.out _ | refine IsS75.far ?_ NB0_374.out _) | exact HI0.out))
                                        (case side2 => repeat (first | (with_reducible first | exact HB.out | apply below_alloc | apply pw_below_drewN | apply below_drew1 | refine below_set ?_ (IsS75.ge HI0.out) | refine below_set ?_ GE360.out | refine below_set ?_ GE374.out) | exact HB.out))
                                        rintro e w49 ⟨rfl, hi, hb, hk⟩
                                        refine ⟨_, rfl, ?_⟩
                                        replace HO_375001 := Aside0.mk (Kd.R_mono (Kd.R_keep (IsS75.apart (show IsS75 w0 _ g s0_0 t386 t387 from by repeat (first | (with_reducible first | exact HI0.out | apply IsS75.alloc | apply IsS75.drewN | apply IsS75.drew | apply IsS75.set_1 | apply IsS75.set_2 | refine IsS75.far ?_ NB0_360.out _ | refine IsS75.far ?_ NB0_374.out _) | exact HI0.out)) (R1 HO_375001) (by decide)) hk (fun _ h => h.2)) (fun _ h => h.1))
                                        replace BK360 := Aside0.mk (KeepBut.blk hk (g' := gb360) (o := .cells #[.int .i64 0, .slice none 0 0] 27 (0, 0)) (B1 BK360) NB360_0.out (by simp))
                                        replace BK374 := Aside0.mk (KeepBut.blk hk (g' := gb374) (o := .cells #[.int .i64 t370, u375001] 27 (0, 0)) (B1 BK374) NB374_0.out (by simp))
                                        replace HO397 := Aside0.mk (Kd.R_mono (Kd.R_keep (IsS75.apart (show IsS75 w0 _ g s0_0 t386 t387 from by repeat (first | (with_reducible first | exact HI0.out | apply IsS75.alloc | apply IsS75.drewN | apply IsS75.drew | apply IsS75.set_1 | apply IsS75.set_2 | refine IsS75.far ?_ NB0_360.out _ | refine IsS75.far ?_ NB0_374.out _) | exact HI0.out)) (R1 HO397) (by decide)) hk (fun _ h => h.2)) (fun _ h => h.1))
                                        replace HK := Aside0.mk (KeepBut.trans (by repeat (first | (with_reducible first | exact HK.out | apply KeepBut.set_ | apply keep_drewN | apply keep_drew | apply keep_alloc | refine keep_far ?_ GW360.out _ | refine keep_far ?_ GW374.out _) | exact HK.out)) hk (.inl rfl))
                                        replace HB := Aside0.mk (hb)
                                        replace HI0 := Aside0.mk (hi)
                                        (try clear hb)
                                        (try clear hb2)
                                        (try clear hk)
                                        (try clear hi)
                                        refine hK.out _ _ trivial (fun hHeld => ?_)
                                        clear hK K
                                        refine NM 46 ?_
                                        exact norm_ (by first | (simp only [putAll, Act.put, List.setIfInBounds_toArray, List.set_cons_zero, List.set_cons_succ]; done) | (simp only [putAll, Act.put, List.setIfInBounds_toArray, List.set_cons_zero, List.set_cons_succ]; rfl)) (hJ2_7 (v396) _ ⟨(R1 HO397), (R1 HO_375001), (B1 BK360), (B1 BK374), (by repeat (first | (with_reducible first | exact HI0.out | apply IsS75.alloc | apply IsS75.drewN | apply IsS75.drew | apply IsS75.set_1 | apply IsS75.set_2 | refine IsS75.far ?_ NB0_360.out _ | refine IsS75.far ?_ NB0_374.out _) | exact HI0.out)), (by repeat (first | (with_reducible first | exact HK.out | apply KeepBut.set_ | apply keep_drewN | apply keep_drew | apply keep_alloc | refine keep_far ?_ GW360.out _ | refine keep_far ?_ GW374.out _) | exact HK.out)), (by repeat (first | (with_reducible first | exact HB.out | apply below_alloc | apply pw_below_drewN | apply below_drew1 | refine below_set ?_ (IsS75.ge HI0.out) | refine below_set ?_ GE360.out | refine below_set ?_ GE374.out) | exact HB.out))⟩)
                                  · skip
                                    rintro _ w47 ⟨h0_, h1_, h2_, h3_, h4_, h5_⟩
                                    have n0_ : Aside0 (Kd.R (Kd.int .i64) 2 w47 w.heap.size (fun _ => True) u375001 x375001_25) := ⟨h0_⟩
                                    have n1_ : Aside0 (w47.heap[gb360]? = some (.cells #[.int .i64 0, .slice none 0 0] 27 (0, 0))) := ⟨h1_⟩
                                    have n2_ : Aside0 (w47.heap[gb374]? = some (.cells #[.int .i64 t370, u375001] 27 (0, 0))) := ⟨h2_⟩
                                    have n3_ : Aside0 (IsS75 w0 w47 g s0_0 t392 t393) := ⟨h3_⟩
                                    have n4_ : Aside0 (KeepBut w w47 g none) := ⟨h4_⟩
                                    have n5_ : Aside0 (Below w0.heap.size w0 w47) := ⟨h5_⟩
                                    clear HO_375001
                                    clear BK360
                                    clear BK374
                                    clear HI0
                                    clear HK
                                    clear HB
                                    clear h0_ h1_ h2_ h3_ h4_ h5_
                                    have HO_375001 := n0_
                                    have BK360 := n1_
                                    have BK374 := n2_
                                    have HI0 := n3_
                                    have HK := n4_
                                    have HB := n5_
                                    clear n0_ n1_ n2_ n3_ n4_ n5_
                                    have hHeld := trivial
                                    refine norm_ (a' := ?_) ?_ ?_
                                    rotate_left
                                    · simp only [putAll, Act.put, List.setIfInBounds_toArray, List.set_cons_zero, List.set_cons_succ]
                                      rfl
                                    refine two_ (i := 0) (j := 7) (Ni := some 44) (Nj := some 51) #[true, true, true, false, false, true, true, false, false, false] #[false, true, true, false, false, true, true, true, false, false] rfl rfl rfl rfl (two_of HT_.out (by kernel_rfl)) (by decide) (by decide) (fun K hK => ?_) (fun K hK => ?_)
                                    · skip
                                      refine Kd.R_lit_step (Kd.int .i64) _ 2 ?hg (N := 44) ?hd (xs := ([1, 7] : List Int)) (inner := [.int .i64 1, .int .i64 7]) (ok := fun _ => True) (okp := fun _ => True) ?hr ?hp (fun _ hk => hk) trivial (Below.refl _ _) (Nat.le_refl _) (by simp) ?_; (case hd => rfl); (case hg => rfl); (case hr => first | (go_simp; done) | (go_simp; rfl)); (case hp => exact (Reps.one (show Kd.M (Kd.int .i64) _ _ _ 1 [.int .i64 1] from rfl) (Reps.one (show Kd.M (Kd.int .i64) _ _ _ 7 [.int .i64 7] from rfl) (Reps.none _ _))))
                                      intro v389 w48 ho49 hb hg_ hnew_
                                      clear hg_ hnew_
                                      (first | rw [← Ny388.out] at ho49 | (simp only [Int.reduceToNat] at ho49; rw [← Ny388.out] at ho49))
                                      have HO390 := Aside0.mk (Kd.R_lower (Kd.R_new' ho49 (Kd.R_lt (R1 HO_375001))) (keep_size (w := w) (g := g) (row := none) (by repeat (first | (with_reducible first | exact HK.out | apply KeepBut.set_ | apply keep_drewN | apply keep_drew | apply keep_alloc | refine keep_far ?_ GW360.out _ | refine keep_far ?_ GW374.out _) | exact HK.out))))
                                      replace HO_375001 := Aside0.mk (Kd.R_elder' (R1 HO_375001) (Kd.R_base ho49) hb)
                                      replace BK360 := Aside0.mk (blk_below (B1 BK360) hb)
                                      replace BK374 := Aside0.mk (blk_below (B1 BK374) hb)
                                      replace HK := Aside0.mk (KeepBut.trans (by repeat (first | (with_reducible first | exact HK.out | apply KeepBut.set_ | apply keep_drewN | apply keep_drew | apply keep_alloc | refine keep_far ?_ GW360.out _ | refine keep_far ?_ GW374.out _) | exact HK.out)) (KeepBut.of_below hb g none) (.inl rfl))
                                      replace HB := Aside0.mk (below_step (by repeat (first | (with_reducible first | exact HB.out | apply below_alloc | apply pw_below_drewN | apply below_drew1 | refine below_set ?_ (IsS75.ge HI0.out) | refine below_set ?_ GE360.out | refine below_set ?_ GE374.out) | exact HB.out)) hb)
                                      replace HI0 := Aside0.mk (IsS75.below (by repeat (first | (with_reducible first | exact HI0.out | apply IsS75.alloc | apply IsS75.drewN | apply IsS75.drew | apply IsS75.set_1 | apply IsS75.set_2 | refine IsS75.far ?_ NB0_360.out _ | refine IsS75.far ?_ NB0_374.out _) | exact HI0.out)) hb)
                                      clear hb ho49
                                      obtain ⟨Ao50, co50, eo50⟩ := Kd.R_slice HO390.out
                                      subst eo50
                                      obtain ⟨ado50, fo50, _⟩ := Kd.at_int (Kd.R_reads' HO390.out).2.2 0 (by decide) (by rw [Ny388.out]; simp)
                                      cases fo50
                                      refine hK.out _ _ trivial (fun hHeld => ?_)
                                      clear hK K
                                      refine NM 44 ?_
                                      refine PU 3 47 ?_
                                      exact norm_ (by first | (simp only [putAll, Act.put, List.setIfInBounds_toArray, List.set_cons_zero, List.set_cons_succ]; done) | (simp only [putAll, Act.put, List.setIfInBounds_toArray, List.set_cons_zero, List.set_cons_succ]; rfl)) (hJ0_2 (.slice (some ado50) y388.length co50, ado50) _ ⟨(by (with_reducible repeat (first | apply Kd.R_alloc | apply Kd.R_drewN | apply Kd.R_drew)); exact Kd.R_mono HO390.out (fun _ hk => hk.2)), (by (with_reducible repeat (first | apply Kd.R_alloc | apply Kd.R_drewN | apply Kd.R_drew)); exact Kd.R_mono HO_375001.out (fun _ hk => hk.2)), ⟨_, rfl⟩, (B1 BK360), (B1 BK374), (by repeat (first | (with_reducible first | exact HI0.out | apply IsS75.alloc | apply IsS75.drewN | apply IsS75.drew | apply IsS75.set_1 | apply IsS75.set_2 | refine IsS75.far ?_ NB0_360.out _ | refine IsS75.far ?_ NB0_374.out _) | exact HI0.out)), (by repeat (first | (with_reducible first | exact HK.out | apply KeepBut.set_ | apply keep_drewN | apply keep_drew | apply keep_alloc | refine keep_far ?_ GW360.out _ | refine keep_far ?_ GW374.out _) | exact HK.out)), (by repeat (first | (with_reducible first | exact HB.out | apply below_alloc | apply pw_below_drewN | apply below_drew1 | refine below_set ?_ (IsS75.ge HI0.out) | refine below_set ?_ GE360.out | refine below_set ?_ GE374.out) | exact HB.out))⟩)
                                    · skip
                                      refine Kd.R_make_step (Kd.int .i64) _ 2 (by rfl) (N := 51) rfl 25 _ _ rfl (l1.length : Int) rfl rfl Try.underlying25 (.int .i64 0) 8 info2 rfl (by decide) (by omega) 0 (ok := fun _ => True) (okp := fun _ => True) rfl (fun _ hk => hk) trivial (oD) (Nat.le_trans (Nat.mul_le_mul_right _ (oD : (l1.length : Int).toNat ≤ 35184372088832)) (by omega)) (Below.refl _ _) (Nat.le_refl _) ?_
                                      intro v396 w48 ho49 hb hg_ hnew_
                                      clear hg_ hnew_
                                      (first | rw [← Ny395.out] at ho49 | (simp only [Int.reduceToNat] at ho49; rw [← Ny395.out] at ho49))
                                      have HO397 := Aside0.mk (Kd.R_lower (Kd.R_new' ho49 (Kd.R_lt (R1 HO_375001))) (keep_size (w := w) (g := g) (row := none) (by repeat (first | (with_reducible first | exact HK.out | apply KeepBut.set_ | apply keep_drewN | apply keep_drew | apply keep_alloc | refine keep_far ?_ GW360.out _ | refine keep_far ?_ GW374.out _) | exact HK.out))))
                                      replace HO_375001 := Aside0.mk (Kd.R_elder' (R1 HO_375001) (Kd.R_base ho49) hb)
                                      replace BK360 := Aside0.mk (blk_below (B1 BK360) hb)
                                      replace BK374 := Aside0.mk (blk_below (B1 BK374) hb)
                                      replace HK := Aside0.mk (KeepBut.trans (by repeat (first | (with_reducible first | exact HK.out | apply KeepBut.set_ | apply keep_drewN | apply keep_drew | apply keep_alloc | refine keep_far ?_ GW360.out _ | refine keep_far ?_ GW374.out _) | exact HK.out)) (KeepBut.of_below hb g none) (.inl rfl))
                                      replace HB := Aside0.mk (below_step (by repeat (first | (with_reducible first | exact HB.out | apply below_alloc | apply pw_below_drewN | apply below_drew1 | refine below_set ?_ (IsS75.ge HI0.out) | refine below_set ?_ GE360.out | refine below_set ?_ GE374.out) | exact HB.out)) hb)
                                      replace HI0 := Aside0.mk (IsS75.below (by repeat (first | (with_reducible first | exact HI0.out | apply IsS75.alloc | apply IsS75.drewN | apply IsS75.drew | apply IsS75.set_1 | apply IsS75.set_2 | refine IsS75.far ?_ NB0_360.out _ | refine IsS75.far ?_ NB0_374.out _) | exact HI0.out)) hb)
                                      clear hb ho49
                                      refine hK.out _ _ trivial (fun hHeld => ?_)
                                      clear hK K
                                      refine NM 51 ?_
                                      exact norm_ (by first | (simp only [putAll, Act.put, List.setIfInBounds_toArray, List.set_cons_zero, List.set_cons_succ]; done) | (simp only [putAll, Act.put, List.setIfInBounds_toArray, List.set_cons_zero, List.set_cons_succ]; rfl)) (hJ2_7 (v396) _ ⟨(by (with_reducible repeat (first | apply Kd.R_alloc | apply Kd.R_drewN | apply Kd.R_drew)); exact Kd.R_mono HO397.out (fun _ hk => hk.2)), (by (with_reducible repeat (first | apply Kd.R_alloc | apply Kd.R_drewN | apply Kd.R_drew)); exact Kd.R_mono HO_375001.out (fun _ hk => hk.2)), (B1 BK360), (B1 BK374), (by repeat (first | (with_reducible first | exact HI0.out | apply IsS75.alloc | apply IsS75.drewN | apply IsS75.drew | apply IsS75.set_1 | apply IsS75.set_2 | refine IsS75.far ?_ NB0_360.out _ | refine IsS75.far ?_ NB0_374.out _) | exact HI0.out)), (by repeat (first | (with_reducible first | exact HK.out | apply KeepBut.set_ | apply keep_drewN | apply keep_drew | apply keep_alloc | refine keep_far ?_ GW360.out _ | refine keep_far ?_ GW374.out _) | exact HK.out)), (by repeat (first | (with_reducible first | exact HB.out | apply below_alloc | apply pw_below_drewN | apply below_drew1 | refine below_set ?_ (IsS75.ge HI0.out) | refine below_set ?_ GE360.out | refine below_set ?_ GE374.out) | exact HB.out))⟩)
                                · skip
                                  rintro ⟨v389, adz_v389⟩ w49 ⟨h0_, h1_, h2_, h3_, h4_, h5_, h6_, h7_⟩
                                  have n0_ : Aside0 (Kd.R (Kd.int .i64) 2 w49 w.heap.size (fun k_ => some k_ ≠ (u375001 : Value).ownBlock) v389 y388) := ⟨h0_⟩
                                  have n1_ : Aside0 (Kd.R (Kd.int .i64) 2 w49 w.heap.size (fun k_ => some k_ ≠ (v389 : Value).ownBlock) u375001 x375001_25) := ⟨h1_⟩
                                  have n2_ : Aside0 (∃ c_, (v389 : Value) = .slice (some adz_v389) y388.length c_) := ⟨h2_⟩
                                  have n3_ : Aside0 (w49.heap[gb360]? = some (.cells #[.int .i64 0, .slice none 0 0] 27 (0, 0))) := ⟨h3_⟩
                                  have n4_ : Aside0 (w49.heap[gb374]? = some (.cells #[.int .i64 t370, u375001] 27 (0, 0))) := ⟨h4_⟩
                                  have n5_ : Aside0 (IsS75 w0 w49 g s0_0 t386 t387) := ⟨h5_⟩
                                  have n6_ : Aside0 (KeepBut w w49 g none) := ⟨h6_⟩
                                  have n7_ : Aside0 (Below w0.heap.size w0 w49) := ⟨h7_⟩
                                  clear HO_375001
                                  clear BK360
                                  clear BK374
                                  clear HI0
                                  clear HK
                                  clear HB
                                  clear h0_ h1_ h2_ h3_ h4_ h5_ h6_ h7_
                                  have HO390 := n0_
                                  have HO_375001 := n1_
                                  have HA_HO390 := n2_
                                  have BK360 := n3_
                                  have BK374 := n4_
                                  have HI0 := n5_
                                  have HK := n6_
                                  have HB := n7_
                                  clear n0_ n1_ n2_ n3_ n4_ n5_ n6_ n7_
                                  have hHeld := trivial
                                  obtain ⟨co50, eo50⟩ := HA_HO390.out
                                  clear HA_HO390
                                  subst eo50
                                  refine norm_ (a' := ?_) ?_ ?_
                                  rotate_left
                                  · simp only [putAll, Act.put, List.setIfInBounds_toArray, List.set_cons_zero, List.set_cons_succ]
                                    rfl
                                  refine two_ (i := 2) (j := 7) (Ni := some 46) (Nj := some 51) #[true, true, true, false, false, true, true, false, false, false] #[true, true, false, false, false, true, true, true, false, false] rfl rfl rfl rfl (two_of HT_.out (by kernel_rfl)) (by decide) (by decide) (fun K hK => ?_) (fun K hK => ?_)
                                  · skip
                                    refine GO Try.func24 #[.pointer (some ⟨g, 0, none⟩), .int .i64 2] ?_
                                    with_reducible refine (spec_l01Next.calls g s0_0 t386 t387 2 t391 t392 t393 w0 _ ?side1 ?side2 A39.out).mono ?_
                                    (case side1 => repeat (first | (with_reducible first | exact HI0.out | apply IsS75.alloc | apply IsS75.drewN | apply IsS75.drew | apply IsS75.set_1 | apply IsS75.set_2 | refine IsS75.far ?_ NB0_360.out _ | refine IsS75.far ?_ NB0_374.out _) | exact HI0.out))
                                    (case side2 => repeat (first | (with_reducible first | exact HB.out | apply below_alloc | apply pw_below_drewN | apply below_drew1 | refine below_set ?_ (IsS75.ge HI0.out) | refine below_set ?_ GE360.out | refine below_set ?_ GE374.out) | exact HB.out))
                                    rintro e w51 ⟨rfl, hi, hb, hk⟩
                                    refine ⟨_, rfl, ?_⟩
                                    replace HO_375001 := Aside0.mk (Kd.R_mono (Kd.R_keep (IsS75.apart (show IsS75 w0 _ g s0_0 t386 t387 from by repeat (first | (with_reducible first | exact HI0.out | apply IsS75.alloc | apply IsS75.drewN | apply IsS75.drew | apply IsS75.set_1 | apply IsS75.set_2 | refine IsS75.far ?_ NB0_360.out _ | refine IsS75.far ?_ NB0_374.out _) | exact HI0.out)) (R1 HO_375001) (by decide)) hk (fun _ h => h.2)) (fun _ h => h.1))
                                    replace BK360 := Aside0.mk (KeepBut.blk hk (g' := gb360) (o := .cells #[.int .i64 0, .slice none 0 0] 27 (0, 0)) (B1 BK360) NB360_0.out (by simp))
                                    replace BK374 := Aside0.mk (KeepBut.blk hk (g' := gb374) (o := .cells #[.int .i64 t370, u375001] 27 (0, 0)) (B1 BK374) NB374_0.out (by simp))
                                    replace HO390 := Aside0.mk (Kd.R_mono (Kd.R_keep (IsS75.apart (show IsS75 w0 _ g s0_0 t386 t387 from by repeat (first | (with_reducible first | exact HI0.out | apply IsS75.alloc | apply IsS75.drewN | apply IsS75.drew | apply IsS75.set_1 | apply IsS75.set_2 | refine IsS75.far ?_ NB0_360.out _ | refine IsS75.far ?_ NB0_374.out _) | exact HI0.out)) (R1 HO390) (by decide)) hk (fun _ h => h.2)) (fun _ h => h.1))
                                    replace HK := Aside0.mk (KeepBut.trans (by repeat (first | (with_reducible first | exact HK.out | apply KeepBut.set_ | apply keep_drewN | apply keep_drew | apply keep_alloc | refine keep_far ?_ GW360.out _ | refine keep_far ?_ GW374.out _) | exact HK.out)) hk (.inl rfl))
                                    replace HB := Aside0.mk (hb)
                                    replace HI0 := Aside0.mk (hi)
                                    (try clear hb)
                                    (try clear hb2)
                                    (try clear hk)
                                    (try clear hi)
                                    refine hK.out _ _ trivial (fun hHeld => ?_)
                                    clear hK K
                                    refine NM 46 ?_
                                    refine PU 3 47 ?_
                                    exact norm_ (by first | (simp only [putAll, Act.put, List.setIfInBounds_toArray, List.set_cons_zero, List.set_cons_succ]; done) | (simp only [putAll, Act.put, List.setIfInBounds_toArray, List.set_cons_zero, List.set_cons_succ]; rfl)) (hJ0_2 (.slice (some adz_v389) y388.length co50, adz_v389) _ ⟨(R1 HO390), (R1 HO_375001), ⟨_, rfl⟩, (B1 BK360), (B1 BK374), (by repeat (first | (with_reducible first | exact HI0.out | apply IsS75.alloc | apply IsS75.drewN | apply IsS75.drew | apply IsS75.set_1 | apply IsS75.set_2 | refine IsS75.far ?_ NB0_360.out _ | refine IsS75.far ?_ NB0_374.out _) | exact HI0.out)), (by repeat (first | (with_reducible first | exact HK.out | apply KeepBut.set_ | apply keep_drewN | apply keep_drew | apply keep_alloc | refine keep_far ?_ GW360.out _ | refine keep_far ?_ GW374.out _) | exact HK.out)), (by repeat (first | (with_reducible first | exact HB.out | apply below_alloc | apply pw_below_drewN | apply below_drew1 | refine below_set ?_ (IsS75.ge HI0.out) | refine below_set ?_ GE360.out | refine below_set ?_ GE374.out) | exact HB.out))⟩)
                                  · skip
                                    refine Kd.R_make_step (Kd.int .i64) _ 2 (by rfl) (N := 51) rfl 25 _ _ rfl (l1.length : Int) rfl rfl Try.underlying25 (.int .i64 0) 8 info2 rfl (by decide) (by omega) 0 (ok := fun _ => True) (okp := fun _ => True) rfl (fun _ hk => hk) trivial (oD) (Nat.le_trans (Nat.mul_le_mul_right _ (oD : (l1.length : Int).toNat ≤ 35184372088832)) (by omega)) (Below.refl _ _) (Nat.le_refl _) ?_
                                    intro v396 w51 ho52 hb hg_ hnew_
                                    clear hg_ hnew_
                                    (first | rw [← Ny395.out] at ho52 | (simp only [Int.reduceToNat] at ho52; rw [← Ny395.out] at ho52))
                                    have HO397 := Aside0.mk (Kd.R_lower (Kd.R_new' (Kd.R_new' ho52 (Kd.R_lt (R1 HO_375001))) (Kd.R_lt (R1 HO390))) (keep_size (w := w) (g := g) (row := none) (by repeat (first | (with_reducible first | exact HK.out | apply KeepBut.set_ | apply keep_drewN | apply keep_drew | apply keep_alloc | refine keep_far ?_ GW360.out _ | refine keep_far ?_ GW374.out _) | exact HK.out))))
                                    replace HO_375001 := Aside0.mk (Kd.R_elder' (R1 HO_375001) (Kd.R_base ho52) hb)
                                    replace HO390 := Aside0.mk (Kd.R_elder' (R1 HO390) (Kd.R_base ho52) hb)
                                    replace BK360 := Aside0.mk (blk_below (B1 BK360) hb)
                                    replace BK374 := Aside0.mk (blk_below (B1 BK374) hb)
                                    replace HK := Aside0.mk (KeepBut.trans (by repeat (first | (with_reducible first | exact HK.out | apply KeepBut.set_ | apply keep_drewN | apply keep_drew | apply keep_alloc | refine keep_far ?_ GW360.out _ | refine keep_far ?_ GW374.out _) | exact HK.out)) (KeepBut.of_below hb g none) (.inl rfl))
                                    replace HB := Aside0.mk (below_step (by repeat (first | (with_reducible first | exact HB.out | apply below_alloc | apply pw_below_drewN | apply below_drew1 | refine below_set ?_ (IsS75.ge HI0.out) | refine below_set ?_ GE360.out | refine below_set ?_ GE374.out) | exact HB.out)) hb)
                                    replace HI0 := Aside0.mk (IsS75.below (by repeat (first | (with_reducible first | exact HI0.out | apply IsS75.alloc | apply IsS75.drewN | apply IsS75.drew | apply IsS75.set_1 | apply IsS75.set_2 | refine IsS75.far ?_ NB0_360.out _ | refine IsS75.far ?_ NB0_374.out _) | exact HI0.out)) hb)
                                    clear hb ho52
                                    refine hK.out _ _ trivial (fun hHeld => ?_)
                                    clear hK K
                                    refine NM 51 ?_
                                    exact norm_ (by first | (simp only [putAll, Act.put, List.setIfInBounds_toArray, List.set_cons_zero, List.set_cons_succ]; done) | (simp only [putAll, Act.put, List.setIfInBounds_toArray, List.set_cons_zero, List.set_cons_succ]; rfl)) (hJ0_7 (.slice (some adz_v389) y388.length co50, adz_v389, v396) _ ⟨(by (with_reducible repeat (first | apply Kd.R_alloc | apply Kd.R_drewN | apply Kd.R_drew)); exact Kd.R_mono HO390.out (fun _ hk => ⟨hk.2, hk.1⟩)), (by (with_reducible repeat (first | apply Kd.R_alloc | apply Kd.R_drewN | apply Kd.R_drew)); exact Kd.R_mono HO397.out (fun _ hk => ⟨hk.2, hk.1.2⟩)), (R1 HO_375001), ⟨_, rfl⟩, (B1 BK360), (B1 BK374), (by repeat (first | (with_reducible first | exact HI0.out | apply IsS75.alloc | apply IsS75.drewN | apply IsS75.drew | apply IsS75.set_1 | apply IsS75.set_2 | refine IsS75.far ?_ NB0_360.out _ | refine IsS75.far ?_ NB0_374.out _) | exact HI0.out)), (by repeat (first | (with_reducible first | exact HK.out | apply KeepBut.set_ | apply keep_drewN | apply keep_drew | apply keep_alloc | refine keep_far ?_ GW360.out _ | refine keep_far ?_ GW374.out _) | exact HK.out)), (by repeat (first | (with_reducible first | exact HB.out | apply below_alloc | apply pw_below_drewN | apply below_drew1 | refine below_set ?_ (IsS75.ge HI0.out) | refine below_set ?_ GE360.out | refine below_set ?_ GE374.out) | exact HB.out))⟩)
                              · skip
                                rintro v396 w49 ⟨h0_, h1_, h2_, h3_, h4_, h5_, h6_⟩
                                have n0_ : Aside0 (Kd.R (Kd.int .i64) 2 w49 w.heap.size (fun k_ => some k_ ≠ (u375001 : Value).ownBlock) v396 y395) := ⟨h0_⟩
                                have n1_ : Aside0 (Kd.R (Kd.int .i64) 2 w49 w.heap.size (fun k_ => some k_ ≠ (v396 : Value).ownBlock) u375001 x375001_25) := ⟨h1_⟩
                                have n2_ : Aside0 (w49.heap[gb360]? = some (.cells #[.int .i64 0, .slice none 0 0] 27 (0, 0))) := ⟨h2_⟩
                                have n3_ : Aside0 (w49.heap[gb374]? = some (.cells #[.int .i64 t370, u375001] 27 (0, 0))) := ⟨h3_⟩
                                have n4_ : Aside0 (IsS75 w0 w49 g s0_0 t392 t393) := ⟨h4_⟩
                                have n5_ : Aside0 (KeepBut w w49 g none) := ⟨h5_⟩
                                have n6_ : Aside0 (Below w0.heap.size w0 w49) := ⟨h6_⟩
                                clear HO_375001
                                clear BK360
                                clear BK374
                                clear HI0
                                clear HK
                                clear HB
                                clear h0_ h1_ h2_ h3_ h4_ h5_ h6_
                                have HO397 := n0_
                                have HO_375001 := n1_
                                have BK360 := n2_
                                have BK374 := n3_
                                have HI0 := n4_
                                have HK := n5_
                                have HB := n6_
                                clear n0_ n1_ n2_ n3_ n4_ n5_ n6_
                                have hHeld := trivial
                                refine norm_ (a' := ?_) ?_ ?_
                                rotate_left
                                · simp only [putAll, Act.put, List.setIfInBounds_toArray, List.set_cons_zero, List.set_cons_succ]
                                  rfl
                                refine ON 0 44 (fun K hK => ?_)
                                refine Kd.R_lit_step (Kd.int .i64) _ 2 ?hg (N := 44) ?hd (xs := ([1, 7] : List Int)) (inner := [.int .i64 1, .int .i64 7]) (ok := fun _ => True) (okp := fun _ => True) ?hr ?hp (fun _ hk => hk) trivial (Below.refl _ _) (Nat.le_refl _) (by simp) ?_; (case hd => rfl); (case hg => rfl); (case hr => first | (go_simp; done) | (go_simp; rfl)); (case hp => exact (Reps.one (show Kd.M (Kd.int .i64) _ _ _ 1 [.int .i64 1] from rfl) (Reps.one (show Kd.M (Kd.int .i64) _ _ _ 7 [.int .i64 7] from rfl) (Reps.none _ _))))
                                intro v389 w50 ho51 hb hg_ hnew_
                                clear hg_ hnew_
                                (first | rw [← Ny388.out] at ho51 | (simp only [Int.reduceToNat] at ho51; rw [← Ny388.out] at ho51))
                                have HO390 := Aside0.mk (Kd.R_lower (Kd.R_new' (Kd.R_new' ho51 (Kd.R_lt (R1 HO_375001))) (Kd.R_lt (R1 HO397))) (keep_size (w := w) (g := g) (row := none) (by repeat (first | (with_reducible first | exact HK.out | apply KeepBut.set_ | apply keep_drewN | apply keep_drew | apply keep_alloc | refine keep_far ?_ GW360.out _ | refine keep_far ?_ GW374.out _) | exact HK.out))))
                                replace HO_375001 := Aside0.mk (Kd.R_elder' (R1 HO_375001) (Kd.R_base ho51) hb)
                                replace HO397 := Aside0.mk (Kd.R_elder' (R1 HO397) (Kd.R_base ho51) hb)
                                replace BK360 := Aside0.mk (blk_below (B1 BK360) hb)
                                replace BK374 := Aside0.mk (blk_below (B1 BK374) hb)
                                replace HK := Aside0.mk (KeepBut.trans (by repeat (first | (with_reducible first | exact HK.out | apply KeepBut.set_ | apply keep_drewN | apply keep_drew | apply keep_alloc | refine keep_far ?_ GW360.out _ | refine keep_far ?_ GW374.out _) | exact HK.out)) (KeepBut.of_below hb g none) (.inl rfl))
                                replace HB := Aside0.mk (below_step (by repeat (first | (with_reducible first | exact HB.out | apply below_alloc | apply pw_below_drewN | apply below_drew1 | refine below_set ?_ (IsS75.ge HI0.out) | refine below_set ?_ GE360.out | refine below_set ?_ GE374.out) | exact HB.out)) hb)
                                replace HI0 := Aside0.mk (IsS75.below (by repeat (first | (with_reducible first | exact HI0.out | apply IsS75.alloc | apply IsS75.drewN | apply IsS75.drew | apply IsS75.set_1 | apply IsS75.set_2 | refine IsS75.far ?_ NB0_360.out _ | refine IsS75.far ?_ NB0_374.out _) | exact HI0.out)) hb)
                                clear hb ho51
                                obtain ⟨Ao52, co52, eo52⟩ := Kd.R_slice HO390.out
                                subst eo52
                                obtain ⟨ado52, fo52, _⟩ := Kd.at_int (Kd.R_reads' HO390.out).2.2 0 (by decide) (by rw [Ny388.out]; simp)
                                cases fo52
                                refine hK.out _ _ trivial (fun hHeld => ?_)
                                clear hK K
                                refine NM 44 ?_
                                refine PU 3 47 ?_
                                exact norm_ (by first | (simp only [putAll, Act.put, List.setIfInBounds_toArray, List.set_cons_zero, List.set_cons_succ]; done) | (simp only [putAll, Act.put, List.setIfInBounds_toArray, List.set_cons_zero, List.set_cons_succ]; rfl)) (hJ0_2_7 (.slice (some ado52) y388.length co52, ado52, v396) _ ⟨(by (with_reducible repeat (first | apply Kd.R_alloc | apply Kd.R_drewN | apply Kd.R_drew)); exact Kd.R_mono HO390.out (fun _ hk => ⟨hk.2, hk.1.2⟩)), (by (with_reducible repeat (first | apply Kd.R_alloc | apply Kd.R_drewN | apply Kd.R_drew)); exact Kd.R_mono HO397.out (fun _ hk => ⟨hk.2, hk.1⟩)), (by (with_reducible repeat (first | apply Kd.R_alloc | apply Kd.R_drewN | apply Kd.R_drew)); exact Kd.R_mono HO_375001.out (fun _ hk => ⟨hk.2, hk.1⟩)), ⟨_, rfl⟩, (B1 BK360), (B1 BK374), (by repeat (first | (with_reducible first | exact HI0.out | apply IsS75.alloc | apply IsS75.drewN | apply IsS75.drew | apply IsS75.set_1 | apply IsS75.set_2 | refine IsS75.far ?_ NB0_360.out _ | refine IsS75.far ?_ NB0_374.out _) | exact HI0.out)), (by repeat (first | (with_reducible first | exact HK.out | apply KeepBut.set_ | apply keep_drewN | apply keep_drew | apply keep_alloc | refine keep_far ?_ GW360.out _ | refine keep_far ?_ GW374.out _) | exact HK.out)), (by repeat (first | (with_reducible first | exact HB.out | apply below_alloc | apply pw_below_drewN | apply below_drew1 | refine below_set ?_ (IsS75.ge HI0.out) | refine below_set ?_ GE360.out | refine below_set ?_ GE374.out) | exact HB.out))⟩)
                            · skip
                              rintro ⟨v389, adz_v389, v396⟩ w51 ⟨h0_, h1_, h2_, h3_, h4_, h5_, h6_, h7_, h8_⟩
                              have n0_ : Aside0 (Kd.R (Kd.int .i64) 2 w51 w.heap.size (fun k_ => some k_ ≠ (v396 : Value).ownBlock ∧ some k_ ≠ (u375001 : Value).ownBlock) v389 y388) := ⟨h0_⟩
                              have n1_ : Aside0 (Kd.R (Kd.int .i64) 2 w51 w.heap.size (fun k_ => some k_ ≠ (v389 : Value).ownBlock ∧ some k_ ≠ (u375001 : Value).ownBlock) v396 y395) := ⟨h1_⟩
                              have n2_ : Aside0 (Kd.R (Kd.int .i64) 2 w51 w.heap.size (fun k_ => some k_ ≠ (v389 : Value).ownBlock ∧ some k_ ≠ (v396 : Value).ownBlock) u375001 x375001_25) := ⟨h2_⟩
                              have n3_ : Aside0 (∃ c_, (v389 : Value) = .slice (some adz_v389) y388.length c_) := ⟨h3_⟩
                              have n4_ : Aside0 (w51.heap[gb360]? = some (.cells #[.int .i64 0, .slice none 0 0] 27 (0, 0))) := ⟨h4_⟩
                              have n5_ : Aside0 (w51.heap[gb374]? = some (.cells #[.int .i64 t370, u375001] 27 (0, 0))) := ⟨h5_⟩
                              have n6_ : Aside0 (IsS75 w0 w51 g s0_0 t386 t387) := ⟨h6_⟩
                              have n7_ : Aside0 (KeepBut w w51 g none) := ⟨h7_⟩
                              have n8_ : Aside0 (Below w0.heap.size w0 w51) := ⟨h8_⟩
                              clear HO_375001
                              clear BK360
                              clear BK374
                              clear HI0
                              clear HK
                              clear HB
                              clear h0_ h1_ h2_ h3_ h4_ h5_ h6_ h7_ h8_
                              have HO390 := n0_
                              have HO397 := n1_
                              have HO_375001 := n2_
                              have HA_HO390 := n3_
                              have BK360 := n4_
                              have BK374 := n5_
                              have HI0 := n6_
                              have HK := n7_
                              have HB := n8_
                              clear n0_ n1_ n2_ n3_ n4_ n5_ n6_ n7_ n8_
                              have hHeld := trivial
                              obtain ⟨co52, eo52⟩ := HA_HO390.out
                              clear HA_HO390
                              subst eo52
                              refine norm_ (a' := ?_) ?_ ?_
                              rotate_left
                              · simp only [putAll, Act.put, List.setIfInBounds_toArray, List.set_cons_zero, List.set_cons_succ]
                                rfl
                              refine ON 2 46 (fun K hK => ?_)
                              refine GO Try.func24 #[.pointer (some ⟨g, 0, none⟩), .int .i64 2] ?_
                              with_reducible refine (spec_l01Next.calls g s0_0 t386 t387 2 t391 t392 t393 w0 _ ?side1 ?side2 A39.out).mono ?_
                              (case side1 => repeat (first | (with_reducible first | exact HI0.out | apply IsS75.alloc | apply IsS75.drewN | apply IsS75.drew | apply IsS75.set_1 | apply IsS75.set_2 | refine IsS75.far ?_ NB0_360.out _ | refine IsS75.far ?_ NB0_374.out _) | exact HI0.out))
                              (case side2 => repeat (first | (with_reducible first | exact HB.out | apply below_alloc | apply pw_below_drewN | apply below_drew1 | refine below_set ?_ (IsS75.ge HI0.out) | refine below_set ?_ GE360.out | refine below_set ?_ GE374.out) | exact HB.out))
                              rintro e w53 ⟨rfl, hi, hb, hk⟩
                              refine ⟨_, rfl, ?_⟩
                              replace HO_375001 := Aside0.mk (Kd.R_mono (Kd.R_keep (IsS75.apart (show IsS75 w0 _ g s0_0 t386 t387 from by repeat (first | (with_reducible first | exact HI0.out | apply IsS75.alloc | apply IsS75.drewN | apply IsS75.drew | apply IsS75.set_1 | apply IsS75.set_2 | refine IsS75.far ?_ NB0_360.out _ | refine IsS75.far ?_ NB0_374.out _) | exact HI0.out)) (R1 HO_375001) (by decide)) hk (fun _ h => h.2)) (fun _ h => h.1))
                              replace BK360 := Aside0.mk (KeepBut.blk hk (g' := gb360) (o := .cells #[.int .i64 0, .slice none 0 0] 27 (0, 0)) (B1 BK360) NB360_0.out (by simp))
                              replace BK374 := Aside0.mk (KeepBut.blk hk (g' := gb374) (o := .cells #[.int .i64 t370, u375001] 27 (0, 0)) (B1 BK374) NB374_0.out (by simp))
                              replace HO390 := Aside0.mk (Kd.R_mono (Kd.R_keep (IsS75.apart (show IsS75 w0 _ g s0_0 t386 t387 from by repeat (first | (with_reducible first | exact HI0.out | apply IsS75.alloc | apply IsS75.drewN | apply IsS75.drew | apply IsS75.set_1 | apply IsS75.set_2 | refine IsS75.far ?_ NB0_360.out _ | refine IsS75.far ?_ NB0_374.out _) | exact HI0.out)) (R1 HO390) (by decide)) hk (fun _ h => h.2)) (fun _ h => h.1))
                              replace HO397 := Aside0.mk (Kd.R_mono (Kd.R_keep (IsS75.apart (show IsS75 w0 _ g s0_0 t386 t387 from by repeat (first | (with_reducible first | exact HI0.out | apply IsS75.alloc | apply IsS75.drewN | apply IsS75.drew | apply IsS75.set_1 | apply IsS75.set_2 | refine IsS75.far ?_ NB0_360.out _ | refine IsS75.far ?_ NB0_374.out _) | exact HI0.out)) (R1 HO397) (by decide)) hk (fun _ h => h.2)) (fun _ h => h.1))
                              replace HK := Aside0.mk (KeepBut.trans (by repeat (first | (with_reducible first | exact HK.out | apply KeepBut.set_ | apply keep_drewN | apply keep_drew | apply keep_alloc | refine keep_far ?_ GW360.out _ | refine keep_far ?_ GW374.out _) | exact HK.out)) hk (.inl rfl))
                              replace HB := Aside0.mk (hb)
                              replace HI0 := Aside0.mk (hi)
                              (try clear hb)
                              (try clear hb2)
                              (try clear hk)
                              (try clear hi)
                              refine hK.out _ _ trivial (fun hHeld => ?_)
                              clear hK K
                              refine NM 46 ?_
                              refine PU 3 47 ?_
                              exact norm_ (by first | (simp only [putAll, Act.put, List.setIfInBounds_toArray, List.set_cons_zero, List.set_cons_succ]; done) | (simp only [putAll, Act.put, List.setIfInBounds_toArray, List.set_cons_zero, List.set_cons_succ]; rfl)) (hJ0_2_7 (.slice (some adz_v389) y388.length co52, adz_v389, v396) _ ⟨(R1 HO390), (R1 HO397), (R1 HO_375001), ⟨_, rfl⟩, (B1 BK360), (B1 BK374), (by repeat (first | (with_reducible first | exact HI0.out | apply IsS75.alloc | apply IsS75.drewN | apply IsS75.drew | apply IsS75.set_1 | apply IsS75.set_2 | refine IsS75.far ?_ NB0_360.out _ | refine IsS75.far ?_ NB0_374.out _) | exact HI0.out)), (by repeat (first | (with_reducible first | exact HK.out | apply KeepBut.set_ | apply keep_drewN | apply keep_drew | apply keep_alloc | refine keep_far ?_ GW360.out _ | refine keep_far ?_ GW374.out _) | exact HK.out)), (by repeat (first | (with_reducible first | exact HB.out | apply below_alloc | apply pw_below_drewN | apply below_drew1 | refine below_set ?_ (IsS75.ge HI0.out) | refine below_set ?_ GE360.out | refine below_set ?_ GE374.out) | exact HB.out))⟩)
                          · skip
                            rintro ⟨v389, adz_v389⟩ w50 ⟨h0_, h1_, h2_, h3_, h4_, h5_, h6_, h7_⟩
                            have n0_ : Aside0 (Kd.R (Kd.int .i64) 2 w50 w.heap.size (fun k_ => some k_ ≠ (u375001 : Value).ownBlock) v389 y388) := ⟨h0_⟩
                            have n1_ : Aside0 (Kd.R (Kd.int .i64) 2 w50 w.heap.size (fun k_ => some k_ ≠ (v389 : Value).ownBlock) u375001 x375001_25) := ⟨h1_⟩
                            have n2_ : Aside0 (∃ c_, (v389 : Value) = .slice (some adz_v389) y388.length c_) := ⟨h2_⟩
                            have n3_ : Aside0 (w50.heap[gb360]? = some (.cells #[.int .i64 0, .slice none 0 0] 27 (0, 0))) := ⟨h3_⟩
                            have n4_ : Aside0 (w50.heap[gb374]? = some (.cells #[.int .i64 t370, u375001] 27 (0, 0))) := ⟨h4_⟩
                            have n5_ : Aside0 (IsS75 w0 w50 g s0_0 t392 t393) := ⟨h5_⟩
                            have n6_ : Aside0 (KeepBut w w50 g none) := ⟨h6_⟩
                            have n7_ : Aside0 (Below w0.heap.size w0 w50) := ⟨h7_⟩
                            clear HO_375001
                            clear BK360
                            clear BK374
                            clear HI0
                            clear HK
                            clear HB
                            clear h0_ h1_ h2_ h3_ h4_ h5_ h6_ h7_
                            have HO390 := n0_
                            have HO_375001 := n1_
                            have HA_HO390 := n2_
                            have BK360 := n3_
                            have BK374 := n4_
                            have HI0 := n5_
                            have HK := n6_
                            have HB := n7_
                            clear n0_ n1_ n2_ n3_ n4_ n5_ n6_ n7_
                            have hHeld := trivial
                            obtain ⟨co51, eo51⟩ := HA_HO390.out
                            clear HA_HO390
                            subst eo51
                            refine norm_ (a' := ?_) ?_ ?_
                            rotate_left
                            · simp only [putAll, Act.put, List.setIfInBounds_toArray, List.set_cons_zero, List.set_cons_succ]
                              rfl
                            refine two_ (i := 4) (j := 7) (Ni := some 48) (Nj := some 51) #[true, true, true, true, true, true, true, false, false, false] #[true, true, true, true, false, true, true, true, false, false] rfl rfl rfl rfl (two_of HT_.out (by kernel_rfl)) (by decide) (by decide) (fun K hK => ?_) (fun K hK => ?_)
                            · skip
                              (have p394 : 0 ≤ (t391 : Int) := oD; have q394 : t391 < (y388.length : Int) := oD; obtain ⟨ad394, e394, hx394_0⟩ := Kd.at_int (Kd.R_reads' HO390.out).2.2 t391 p394 q394; obtain rfl : adz_v389 = ad394 := (by injection e394))
                              refine value_ (w1 := ?_) (v := ?_) (by rfl) rfl ?_ ?_
                              rotate_left 2
                              · go_simp
                                constructor
                                · rfl
                                · rfl
                              clear hx394_0
                              refine hK.out _ _ trivial (fun hHeld => ?_)
                              clear hK K
                              refine NM 48 ?_
                              exact norm_ (by first | (simp only [putAll, Act.put, List.setIfInBounds_toArray, List.set_cons_zero, List.set_cons_succ]; done) | (simp only [putAll, Act.put, List.setIfInBounds_toArray, List.set_cons_zero, List.set_cons_succ]; rfl)) (hJ0_2_4 (.slice (some adz_v389) y388.length co51, adz_v389) _ ⟨(R1 HO390), (R1 HO_375001), ⟨_, rfl⟩, (B1 BK360), (B1 BK374), (by repeat (first | (with_reducible first | exact HI0.out | apply IsS75.alloc | apply IsS75.drewN | apply IsS75.drew | apply IsS75.set_1 | apply IsS75.set_2 | refine IsS75.far ?_ NB0_360.out _ | refine IsS75.far ?_ NB0_374.out _) | exact HI0.out)), (by repeat (first | (with_reducible first | exact HK.out | apply KeepBut.set_ | apply keep_drewN | apply keep_drew | apply keep_alloc | refine keep_far ?_ GW360.out _ | refine keep_far ?_ GW374.out _) | exact HK.out)), (by repeat (first | (with_reducible first | exact HB.out | apply below_alloc | apply pw_below_drewN | apply below_drew1 | refine below_set ?_ (IsS75.ge HI0.out) | refine below_set ?_ GE360.out | refine below_set ?_ GE374.out) | exact HB.out))⟩)
                            · skip
                              refine Kd.R_make_step (Kd.int .i64) _ 2 (by rfl) (N := 51) rfl 25 _ _ rfl (l1.length : Int) rfl rfl Try.underlying25 (.int .i64 0) 8 info2 rfl (by decide) (by omega) 0 (ok := fun _ => True) (okp := fun _ => True) rfl (fun _ hk => hk) trivial (oD) (Nat.le_trans (Nat.mul_le_mul_right _ (oD : (l1.length : Int).toNat ≤ 35184372088832)) (by omega)) (Below.refl _ _) (Nat.le_refl _) ?_
                              intro v396 w52 ho53 hb hg_ hnew_
                              clear hg_ hnew_
                              (first | rw [← Ny395.out] at ho53 | (simp only [Int.reduceToNat] at ho53; rw [← Ny395.out] at ho53))
                              have HO397 := Aside0.mk (Kd.R_lower (Kd.R_new' (Kd.R_new' ho53 (Kd.R_lt (R1 HO_375001))) (Kd.R_lt (R1 HO390))) (keep_size (w := w) (g := g) (row := none) (by repeat (first | (with_reducible first | exact HK.out | apply KeepBut.set_ | apply keep_drewN | apply keep_drew | apply keep_alloc | refine keep_far ?_ GW360.out _ | refine keep_far ?_ GW374.out _) | exact HK.out))))
                              replace HO_375001 := Aside0.mk (Kd.R_elder' (R1 HO_375001) (Kd.R_base ho53) hb)
                              replace HO390 := Aside0.mk (Kd.R_elder' (R1 HO390) (Kd.R_base ho53) hb)
                              replace BK360 := Aside0.mk (blk_below (B1 BK360) hb)
                              replace BK374 := Aside0.mk (blk_below (B1 BK374) hb)
                              replace HK := Aside0.mk (KeepBut.trans (by repeat (first | (with_reducible first | exact HK.out | apply KeepBut.set_ | apply keep_drewN | apply keep_drew | apply keep_alloc | refine keep_far ?_ GW360.out _ | refine keep_far ?_ GW374.out _) | exact HK.out)) (KeepBut.of_below hb g none) (.inl rfl))
                              replace HB := Aside0.mk (below_step (by repeat (first | (with_reducible first | exact HB.out | apply below_alloc | apply pw_below_drewN | apply below_drew1 | refine below_set ?_ (IsS75.ge HI0.out) | refine below_set ?_ GE360.out | refine below_set ?_ GE374.out) | exact HB.out)) hb)
                              replace HI0 := Aside0.mk (IsS75.below (by repeat (first | (with_reducible first | exact HI0.out | apply IsS75.alloc | apply IsS75.drewN | apply IsS75.drew | apply IsS75.set_1 | apply IsS75.set_2 | refine IsS75.far ?_ NB0_360.out _ | refine IsS75.far ?_ NB0_374.out _) | exact HI0.out)) hb)
                              clear hb ho53
                              refine hK.out _ _ trivial (fun hHeld => ?_)
                              clear hK K
                              refine NM 51 ?_
                              exact norm_ (by first | (simp only [putAll, Act.put, List.setIfInBounds_toArray, List.set_cons_zero, List.set_cons_succ]; done) | (simp only [putAll, Act.put, List.setIfInBounds_toArray, List.set_cons_zero, List.set_cons_succ]; rfl)) (hJ0_2_7 (.slice (some adz_v389) y388.length co51, adz_v389, v396) _ ⟨(by (with_reducible repeat (first | apply Kd.R_alloc | apply Kd.R_drewN | apply Kd.R_drew)); exact Kd.R_mono HO390.out (fun _ hk => ⟨hk.2, hk.1⟩)), (by (with_reducible repeat (first | apply Kd.R_alloc | apply Kd.R_drewN | apply Kd.R_drew)); exact Kd.R_mono HO397.out (fun _ hk => ⟨hk.2, hk.1.2⟩)), (R1 HO_375001), ⟨_, rfl⟩, (B1 BK360), (B1 BK374), (by repeat (first | (with_reducible first | exact HI0.out | apply IsS75.alloc | apply IsS75.drewN | apply IsS75.drew | apply IsS75.set_1 | apply IsS75.set_2 | refine IsS75.far ?_ NB0_360.out _ | refine IsS75.far ?_ NB0_374.out _) | exact HI0.out)), (by repeat (first | (with_reducible first | exact HK.out | apply KeepBut.set_ | apply keep_drewN | apply keep_drew | apply keep_alloc | refine keep_far ?_ GW360.out _ | refine keep_far ?_ GW374.out _) | exact HK.out)), (by repeat (first | (with_reducible first | exact HB.out | apply below_alloc | apply pw_below_drewN | apply below_drew1 | refine below_set ?_ (IsS75.ge HI0.out) | refine below_set ?_ GE360.out | refine below_set ?_ GE374.out) | exact HB.out))⟩)
                        · skip
                          rintro ⟨v389, adz_v389, v396⟩ w52 ⟨h0_, h1_, h2_, h3_, h4_, h5_, h6_, h7_, h8_⟩
                          have n0_ : Aside0 (Kd.R (Kd.int .i64) 2 w52 w.heap.size (fun k_ => some k_ ≠ (v396 : Value).ownBlock ∧ some k_ ≠ (u375001 : Value).ownBlock) v389 y388) := ⟨h0_⟩
                          have n1_ : Aside0 (Kd.R (Kd.int .i64) 2 w52 w.heap.size (fun k_ => some k_ ≠ (v389 : Value).ownBlock ∧ some k_ ≠ (u375001 : Value).ownBlock) v396 y395) := ⟨h1_⟩
                          have n2_ : Aside0 (Kd.R (Kd.int .i64) 2 w52 w.heap.size (fun k_ => some k_ ≠ (v389 : Value).ownBlock ∧ some k_ ≠ (v396 : Value).ownBlock) u375001 x375001_25) := ⟨h2_⟩
                          have n3_ : Aside0 (∃ c_, (v389 : Value) = .slice (some adz_v389) y388.length c_) := ⟨h3_⟩
                          have n4_ : Aside0 (w52.heap[gb360]? = some (.cells #[.int .i64 0, .slice none 0 0] 27 (0, 0))) := ⟨h4_⟩
                          have n5_ : Aside0 (w52.heap[gb374]? = some (.cells #[.int .i64 t370, u375001] 27 (0, 0))) := ⟨h5_⟩
                          have n6_ : Aside0 (IsS75 w0 w52 g s0_0 t392 t393) := ⟨h6_⟩
                          have n7_ : Aside0 (KeepBut w w52 g none) := ⟨h7_⟩
                          have n8_ : Aside0 (Below w0.heap.size w0 w52) := ⟨h8_⟩
                          clear HO_375001
                          clear BK360
                          clear BK374
                          clear HI0
                          clear HK
                          clear HB
                          clear h0_ h1_ h2_ h3_ h4_ h5_ h6_ h7_ h8_
                          have HO390 := n0_
                          have HO397 := n1_
                          have HO_375001 := n2_
                          have HA_HO390 := n3_
                          have BK360 := n4_
                          have BK374 := n5_
                          have HI0 := n6_
                          have HK := n7_
                          have HB := n8_
                          clear n0_ n1_ n2_ n3_ n4_ n5_ n6_ n7_ n8_
                          have hHeld := trivial
                          obtain ⟨co53, eo53⟩ := HA_HO390.out
                          clear HA_HO390
                          subst eo53
                          obtain ⟨Ao54, co54, eo54⟩ := Kd.R_slice HO397.out
                          (first | subst eo54 | (injection eo54 with f1_ f2_ f3_; have f4_ := f1_.symm; have f5_ := f3_.symm; clear f1_ f2_ f3_; subst f4_; subst f5_))
                          refine norm_ (a' := ?_) ?_ ?_
                          rotate_left
                          · simp only [putAll, Act.put, List.setIfInBounds_toArray, List.set_cons_zero, List.set_cons_succ]
                            rfl
                          refine ON 4 48 (fun K hK => ?_)
                          (have p394 : 0 ≤ (t391 : Int) := oD; have q394 : t391 < (y388.length : Int) := oD; obtain ⟨ad394, e394, hx394_0⟩ := Kd.at_int (Kd.R_reads' HO390.out).2.2 t391 p394 q394; obtain rfl : adz_v389 = ad394 := (by injection e394))
                          refine value_ (w1 := ?_) (v := ?_) (by rfl) rfl ?_ ?_
                          rotate_left 2
                          · go_simp
                            constructor
                            · rfl
                            · rfl
                          clear hx394_0
                          refine hK.out _ _ trivial (fun hHeld => ?_)
                          clear hK K
                          refine NM 48 ?_
                          exact norm_ (by first | (simp only [putAll, Act.put, List.setIfInBounds_toArray, List.set_cons_zero, List.set_cons_succ]; done) | (simp only [putAll, Act.put, List.setIfInBounds_toArray, List.set_cons_zero, List.set_cons_succ]; rfl)) (hJ0_2_4_7 (.slice (some adz_v389) y388.length co53, adz_v389, .slice Ao54 y395.length co54) _ ⟨(R1 HO390), (R1 HO397), (R1 HO_375001), ⟨_, rfl⟩, (B1 BK360), (B1 BK374), (by repeat (first | (with_reducible first | exact HI0.out | apply IsS75.alloc | apply IsS75.drewN | apply IsS75.drew | apply IsS75.set_1 | apply IsS75.set_2 | refine IsS75.far ?_ NB0_360.out _ | refine IsS75.far ?_ NB0_374.out _) | exact HI0.out)), (by repeat (first | (with_reducible first | exact HK.out | apply KeepBut.set_ | apply keep_drewN | apply keep_drew | apply keep_alloc | refine keep_far ?_ GW360.out _ | refine keep_far ?_ GW374.out _) | exact HK.out)), (by repeat (first | (with_reducible first | exact HB.out | apply below_alloc | apply pw_below_drewN | apply below_drew1 | refine below_set ?_ (IsS75.ge HI0.out) | refine below_set ?_ GE360.out | refine below_set ?_ GE374.out) | exact HB.out))⟩)
                      · skip
                        rintro ⟨v389, adz_v389⟩ w50 ⟨h0_, h1_, h2_, h3_, h4_, h5_, h6_, h7_⟩
                        have n0_ : Aside0 (Kd.R (Kd.int .i64) 2 w50 w.heap.size (fun k_ => some k_ ≠ (u375001 : Value).ownBlock) v389 y388) := ⟨h0_⟩
                        have n1_ : Aside0 (Kd.R (Kd.int .i64) 2 w50 w.heap.size (fun k_ => some k_ ≠ (v389 : Value).ownBlock) u375001 x375001_25) := ⟨h1_⟩
                        have n2_ : Aside0 (∃ c_, (v389 : Value) = .slice (some adz_v389) y388.length c_) := ⟨h2_⟩
                        have n3_ : Aside0 (w50.heap[gb360]? = some (.cells #[.int .i64 0, .slice none 0 0] 27 (0, 0))) := ⟨h3_⟩
                        have n4_ : Aside0 (w50.heap[gb374]? = some (.cells #[.int .i64 t370, u375001] 27 (0, 0))) := ⟨h4_⟩
                        have n5_ : Aside0 (IsS75 w0 w50 g s0_0 t392 t393) := ⟨h5_⟩
                        have n6_ : Aside0 (KeepBut w w50 g none) := ⟨h6_⟩
                        have n7_ : Aside0 (Below w0.heap.size w0 w50) := ⟨h7_⟩
                        clear HO_375001
                        clear BK360
                        clear BK374
                        clear HI0
                        clear HK
                        clear HB
                        clear h0_ h1_ h2_ h3_ h4_ h5_ h6_ h7_
                        have HO390 := n0_
                        have HO_375001 := n1_
                        have HA_HO390 := n2_
                        have BK360 := n3_
                        have BK374 := n4_
                        have HI0 := n5_
                        have HK := n6_
                        have HB := n7_
                        clear n0_ n1_ n2_ n3_ n4_ n5_ n6_ n7_
                        have hHeld := trivial
                        obtain ⟨co51, eo51⟩ := HA_HO390.out
                        clear HA_HO390
                        subst eo51
                        refine norm_ (a' := ?_) ?_ ?_
                        rotate_left
                        · simp only [putAll, Act.put, List.setIfInBounds_toArray, List.set_cons_zero, List.set_cons_succ]
                          rfl
                        refine ON 7 51 (fun K hK => ?_)
                        refine Kd.R_make_step (Kd.int .i64) _ 2 (by rfl) (N := 51) rfl 25 _ _ rfl (l1.length : Int) rfl rfl Try.underlying25 (.int .i64 0) 8 info2 rfl (by decide) (by omega) 0 (ok := fun _ => True) (okp := fun _ => True) rfl (fun _ hk => hk) trivial (oD) (Nat.le_trans (Nat.mul_le_mul_right _ (oD : (l1.length : Int).toNat ≤ 35184372088832)) (by omega)) (Below.refl _ _) (Nat.le_refl _) ?_
                        intro v396 w52 ho53 hb hg_ hnew_
                        clear hg_ hnew_
                        (first | rw [← Ny395.out] at ho53 | (simp only [Int.reduceToNat] at ho53; rw [← Ny395.out] at ho53))
                        have HO397 := Aside0.mk (Kd.R_lower (Kd.R_new' (Kd.R_new' ho53 (Kd.R_lt (R1 HO_375001))) (Kd.R_lt (R1 HO390))) (keep_size (w := w) (g := g) (row := none) (by repeat (first | (with_reducible first | exact HK.out | apply KeepBut.set_ | apply keep_drewN | apply keep_drew | apply keep_alloc | refine keep_far ?_ GW360.out _ | refine keep_far ?_ GW374.out _) | exact HK.out))))
                        replace HO_375001 := Aside0.mk (Kd.R_elder' (R1 HO_375001) (Kd.R_base ho53) hb)
                        replace HO390 := Aside0.mk (Kd.R_elder' (R1 HO390) (Kd.R_base ho53) hb)
                        replace BK360 := Aside0.mk (blk_below (B1 BK360) hb)
                        replace BK374 := Aside0.mk (blk_below (B1 BK374) hb)
                        replace HK := Aside0.mk (KeepBut.trans (by repeat (first | (with_reducible first | exact HK.out | apply KeepBut.set_ | apply keep_drewN | apply keep_drew | apply keep_alloc | refine keep_far ?_ GW360.out _ | refine keep_far ?_ GW374.out _) | exact HK.out)) (KeepBut.of_below hb g none) (.inl rfl))
                        replace HB := Aside0.mk (below_step (by repeat (first | (with_reducible first | exact HB.out | apply below_alloc | apply pw_below_drewN | apply below_drew1 | refine below_set ?_ (IsS75.ge HI0.out) | refine below_set ?_ GE360.out | refine below_set ?_ GE374.out) | exact HB.out)) hb)
                        replace HI0 := Aside0.mk (IsS75.below (by repeat (first | (with_reducible first | exact HI0.out | apply IsS75.alloc | apply IsS75.drewN | apply IsS75.drew | apply IsS75.set_1 | apply IsS75.set_2 | refine IsS75.far ?_ NB0_360.out _ | refine IsS75.far ?_ NB0_374.out _) | exact HI0.out)) hb)
                        clear hb ho53
                        obtain ⟨Ao54, co54, eo54⟩ := Kd.R_slice HO397.out
                        (first | subst eo54 | (injection eo54 with f1_ f2_ f3_; have f4_ := f1_.symm; have f5_ := f3_.symm; clear f1_ f2_ f3_; subst f4_; subst f5_))
                        refine hK.out _ _ trivial (fun hHeld => ?_)
                        clear hK K
                        refine NM 51 ?_
                        exact norm_ (by first | (simp only [putAll, Act.put, List.setIfInBounds_toArray, List.set_cons_zero, List.set_cons_succ]; done) | (simp only [putAll, Act.put, List.setIfInBounds_toArray, List.set_cons_zero, List.set_cons_succ]; rfl)) (hJ0_2_4_7 (.slice (some adz_v389) y388.length co51, adz_v389, .slice Ao54 y395.length co54) _ ⟨(by (with_reducible repeat (first | apply Kd.R_alloc | apply Kd.R_drewN | apply Kd.R_drew)); exact Kd.R_mono HO390.out (fun _ hk => ⟨hk.2, hk.1⟩)), (by (with_reducible repeat (first | apply Kd.R_alloc | apply Kd.R_drewN | apply Kd.R_drew)); exact Kd.R_mono HO397.out (fun _ hk => ⟨hk.2, hk.1.2⟩)), (R1 HO_375001), ⟨_, rfl⟩, (B1 BK360), (B1 BK374), (by repeat (first | (with_reducible first | exact HI0.out | apply IsS75.alloc | apply IsS75.drewN | apply IsS75.drew | apply IsS75.set_1 | apply IsS75.set_2 | refine IsS75.far ?_ NB0_360.out _ | refine IsS75.far ?_ NB0_374.out _) | exact HI0.out)), (by repeat (first | (with_reducible first | exact HK.out | apply KeepBut.set_ | apply keep_drewN | apply keep_drew | apply keep_alloc | refine keep_far ?_ GW360.out _ | refine keep_far ?_ GW374.out _) | exact HK.out)), (by repeat (first | (with_reducible first | exact HB.out | apply below_alloc | apply pw_below_drewN | apply below_drew1 | refine below_set ?_ (IsS75.ge HI0.out) | refine below_set ?_ GE360.out | refine below_set ?_ GE374.out) | exact HB.out))⟩)
                    rintro ⟨v389, adz_v389, v396⟩ w53 ⟨h0_, h1_, h2_, h3_, h4_, h5_, h6_, h7_, h8_⟩
                    have n0_ : Aside0 (Kd.R (Kd.int .i64) 2 w53 w.heap.size (fun k_ => some k_ ≠ (v396 : Value).ownBlock ∧ some k_ ≠ (u375001 : Value).ownBlock) v389 y388) := ⟨h0_⟩
                    have n1_ : Aside0 (Kd.R (Kd.int .i64) 2 w53 w.heap.size (fun k_ => some k_ ≠ (v389 : Value).ownBlock ∧ some k_ ≠ (u375001 : Value).ownBlock) v396 y395) := ⟨h1_⟩
                    have n2_ : Aside0 (Kd.R (Kd.int .i64) 2 w53 w.heap.size (fun k_ => some k_ ≠ (v389 : Value).ownBlock ∧ some k_ ≠ (v396 : Value).ownBlock) u375001 x375001_25) := ⟨h2_⟩
                    have n3_ : Aside0 (∃ c_, (v389 : Value) = .slice (some adz_v389) y388.length c_) := ⟨h3_⟩
                    have n4_ : Aside0 (w53.heap[gb360]? = some (.cells #[.int .i64 0, .slice none 0 0] 27 (0, 0))) := ⟨h4_⟩
                    have n5_ : Aside0 (w53.heap[gb374]? = some (.cells #[.int .i64 t370, u375001] 27 (0, 0))) := ⟨h5_⟩
                    have n6_ : Aside0 (IsS75 w0 w53 g s0_0 t392 t393) := ⟨h6_⟩
                    have n7_ : Aside0 (KeepBut w w53 g none) := ⟨h7_⟩
                    have n8_ : Aside0 (Below w0.heap.size w0 w53) := ⟨h8_⟩
                    clear HO_375001
                    clear BK360
                    clear BK374
                    clear HI0
                    clear HK
                    clear HB
                    clear h0_ h1_ h2_ h3_ h4_ h5_ h6_ h7_ h8_
                    have HO390 := n0_
                    have HO397 := n1_
                    have HO_375001 := n2_
                    have HA_HO390 := n3_
                    have BK360 := n4_
                    have BK374 := n5_
                    have HI0 := n6_
                    have HK := n7_
                    have HB := n8_
                    clear n0_ n1_ n2_ n3_ n4_ n5_ n6_ n7_ n8_
                    have hHeld := trivial
                    obtain ⟨co54, eo54⟩ := HA_HO390.out
                    clear HA_HO390
                    subst eo54
                    obtain ⟨Ao55, co55, eo55⟩ := Kd.R_slice HO397.out
                    (first | subst eo55 | (injection eo55 with f1_ f2_ f3_; have f4_ := f1_.symm; have f5_ := f3_.symm; clear f1_ f2_ f3_; subst f4_; subst f5_))
                    refine norm_ (a' := ?_) ?_ ?_
                    rotate_left
                    · simp only [putAll, Act.put, List.setIfInBounds_toArray, List.set_cons_zero, List.set_cons_succ]
                      rfl
                    refine PU 8 52 ?_
                    refine one_ (i := 9) (N := none) #[true, true, true, true, true, true, true, true, true, true] rfl rfl (one_of HT_.out (by kernel_rfl)) (by decide) (fun K hK => ?_)
                    have hs56 : w53.cell? ⟨gb360, 0, none⟩ = some (.int .i64 0) := (blk_cell BK360.out 0).trans rfl
                    have hfs56 := blk_frozen BK360.out 0
                    have hns56_1 := NB374_360.out
                    have hms56_1 := NB360_374.out
                    have hs57 : w53.cell? ⟨gb360, 1, none⟩ = some (.slice none 0 0) := (blk_cell BK360.out 1).trans rfl
                    have hfs57 := blk_frozen BK360.out 1
                    have hns57_1 := NB374_360.out
                    have hms57_1 := NB360_374.out
                    refine skip_ (w1 := ?_) (by rfl) rfl ?_ ?_
                    rotate_left
                    · go_simp
                      rfl
                    refine hK.out _ _ trivial (fun hHeld => ?_)
                    clear hK K
                    refine done_ (done_of HT_.out (by kernel_rfl)) ?_
                    try go_wp2
                    refine bodyPost_ret (results_cell_row rfl _ _ gb360 27 #[.int .i64 (rd y388 t391), .slice Ao55 y395.length co55] (0, 0) _ rfl (by (with_reducible repeat (first | refine blk_drewN ?_ _ | refine blk_drew ?_ | refine blk_alloc ?_ _)); refine blk_put (cs := #[.int .i64 (rd y388 t391), .slice none 0 0]) ?_ 1 _ rfl; (with_reducible repeat (first | refine blk_drewN ?_ _ | refine blk_drew ?_ | refine blk_alloc ?_ _)); refine blk_put (cs := #[.int .i64 0, .slice none 0 0]) ?_ 0 _ rfl; (with_reducible repeat (first | refine blk_drewN ?_ _ | refine blk_drew ?_ | refine blk_alloc ?_ _)); exact BK360.out) Try.underlying27 rfl (by kernel_rfl)) rfl ?_
                    exact ⟨_, Fin, by (with_reducible repeat (first | apply Kd.R_alloc | apply Kd.R_drewN | apply Kd.R_drew)); exact Kd.R_mono (Kd.R_far (p := ⟨gb360, 1, none⟩) (Kd.R_far (p := ⟨gb360, 0, none⟩) (Kd.R_types HO397.out BK360.out (by decide)) (fun _ hk => hk.2) (.int .i64 (rd y388 t391))) (fun _ hk => hk.2) (.slice Ao55 y395.length co55)) (fun _ hk => trivial), by repeat (first | (with_reducible first | exact HI0.out | apply IsS75.alloc | apply IsS75.drewN | apply IsS75.drew | apply IsS75.set_1 | apply IsS75.set_2 | refine IsS75.far ?_ NB0_360.out _ | refine IsS75.far ?_ NB0_374.out _) | exact HI0.out), by repeat (first | (with_reducible first | exact HB.out | apply below_alloc | apply pw_below_drewN | apply below_drew1 | refine below_set ?_ (IsS75.ge HI0.out) | refine below_set ?_ GE360.out | refine below_set ?_ GE374.out) | exact HB.out), by repeat (first | (with_reducible first | exact HK.out | apply KeepBut.set_ | apply keep_drewN | apply keep_drew | apply keep_alloc | refine keep_far ?_ GW360.out _ | refine keep_far ?_ GW374.out _) | exact HK.out)⟩
                  · rw [if_neg c43] at H
                    exact absurd H (by simp)
                · rw [if_neg c42] at H
                  exact absurd H (by simp)
              · rw [if_neg c41] at H
                exact absurd H (by simp)
            · rw [if_neg c40] at H
              exact absurd H (by simp)
          · rw [if_neg c38] at H
            have c38b0 : (t385 == 0) = false := beq_eq_false_iff_ne.mpr c38
            have c38b1 : (t385 != 0) = true := bne_iff_ne.mpr c38
            by_cases c58 : t385 = 1
            · rw [if_pos c58] at H
              have c58b0 : (t385 == 1) = true := beq_iff_eq.mpr c58
              have c58b1 : (t385 != 1) = false := bne_eq_false_iff_eq.mpr c58
              clear c58
              obtain ⟨t398, A590, H⟩ := Option.bind_eq_some_iff.mp H
              have A59 := Aside0.mk A590
              clear A590
              by_cases c60 : t398.length < 17592186044416
              · rw [if_pos c60] at H
                have LMc60 := Aside0.mk c60
                clear c60
                obtain ⟨y401, hy401⟩ : ∃ y_ : List Int, y_ = (t398 ++ [0]) := ⟨_, rfl⟩
                replace H : (some (a2, y401, t386, t387)) = some (r1, r2, r3, r4) := by first | (rw [hy401]; with_reducible exact H) | (have H2_ := (Option.bind_some _ _).symm.trans H; rw [hy401]; with_reducible exact H2_) | (have H2_ := (Option.bind_some _ _).symm.trans H; with_reducible exact H2_) | with_reducible exact H | (rw [hy401]; exact H) | exact H
                have Ny401 := Aside0.mk hy401
                clear hy401
                simp only [Option.some.injEq, Prod.mk.injEq] at H
                obtain ⟨rfl, rfl, rfl, rfl⟩ := H
                go_wp2_with (first | ((with_reducible refine gC 24 ?_); refine GL (some 41) Try.func24 #[.pointer (some ⟨g, 0, none⟩), .int .i64 24] ?_; (with_reducible refine (spec_l01Next.calls g s0_0 x1001_25 x1002_25 24 t385 t386 t387 w0 _ ?side1 ?side2 A37.out).mono ?_); (case side1 => repeat (first | (with_reducible first | exact HI0.out | apply IsS75.alloc | apply IsS75.drewN | apply IsS75.drew | apply IsS75.set_1 | apply IsS75.set_2 | refine IsS75.far ?_ NB0_360.out _ | refine IsS75.far ?_ NB0_374.out _) | exact HI0.out)); (case side2 => repeat (first | (with_reducible first | exact HB.out | apply below_alloc | apply pw_below_drewN | apply below_drew1 | refine below_set ?_ (IsS75.ge HI0.out) | refine below_set ?_ GE360.out | refine below_set ?_ GE374.out) | exact HB.out)); rintro e w61 ⟨rfl, hi, hb, hk⟩; refine ⟨_, rfl, ?_⟩; replace HO_375001 := Aside0.mk (Kd.R_mono (Kd.R_keep (IsS75.apart (show IsS75 w0 _ g s0_0 x1001_25 x1002_25 from by repeat (first | (with_reducible first | exact HI0.out | apply IsS75.alloc | apply IsS75.drewN | apply IsS75.drew | apply IsS75.set_1 | apply IsS75.set_2 | refine IsS75.far ?_ NB0_360.out _ | refine IsS75.far ?_ NB0_374.out _) | exact HI0.out)) (R1 HO_375001) (by decide)) hk (fun _ h => h.2)) (fun _ h => h.1)); replace BK360 := Aside0.mk (KeepBut.blk hk (g' := gb360) (o := .cells #[.int .i64 0, .slice none 0 0] 27 (0, 0)) (B1 BK360) NB360_0.out (by simp)); replace BK374 := Aside0.mk (KeepBut.blk hk (g' := gb374) (o := .cells #[.int .i64 t370, u375001] 27 (0, 0)) (B1 BK374) NB374_0.out (by simp)); replace HK := Aside0.mk (KeepBut.trans (by repeat (first | (with_reducible first | exact HK.out | apply KeepBut.set_ | apply keep_drewN | apply keep_drew | apply keep_alloc | refine keep_far ?_ GW360.out _ | refine keep_far ?_ GW374.out _) | exact HK.out)) hk (.inl rfl)); replace HB := Aside0.mk (hb); replace HI0 := Aside0.mk (hi); (try clear hb); (try clear hb2); (try clear hk); (try clear hi); have hnb62 := NB374_360.out; have hnc62 := NB360_374.out; have hnb63 := NB374_0.out; have hnc63 := NB0_374.out; have hcz64_0 : w61.cell? ⟨gb374, 0, none⟩ = some (.int .i64 t370) := bc BK374; have hcz64_1 : w61.cell? ⟨gb374, 1, none⟩ = some (u375001) := bc BK374; have hfz64_0 := blk_frozen BK374.out 0; have hfz64_1 := blk_frozen BK374.out 1; obtain ⟨Ao65, co65, eo65⟩ := Kd.R_slice HO_375001.out; subst eo65) | ((with_reducible refine gC 53 ?_); refine GL (some 58) Try.func53 #[.slice Ao65 x375001_25.length co65] ?_; (with_reducible refine (spec_l01Own.calls _ _ x375001_25 t398 _ ?side1 ?side2 A59.out).mono ?_); (case side1 => exact Ck (Kd.R_reads' HO_375001.out).2.2); (case side2 => exact (Kd.R_reads' HO_375001.out).2.1); rintro e w66 ⟨v399, rfl, ho0, hb⟩; refine ⟨_, rfl, ?_⟩; have HO400 := Aside0.mk (Kd.R_lower (Kd.R_new' ho0 (Kd.R_lt (R1 HO_375001))) (keep_size (w := w) (g := g) (row := none) (by repeat (first | (with_reducible first | exact HK.out | apply KeepBut.set_ | apply keep_drewN | apply keep_drew | apply keep_alloc | refine keep_far ?_ GW360.out _ | refine keep_far ?_ GW374.out _) | exact HK.out)))); replace HO_375001 := Aside0.mk (Kd.R_elder' (R1 HO_375001) (Kd.R_base ho0) hb); replace BK360 := Aside0.mk (blk_below (B1 BK360) hb); replace BK374 := Aside0.mk (blk_below (B1 BK374) hb); replace HK := Aside0.mk (KeepBut.trans (by repeat (first | (with_reducible first | exact HK.out | apply KeepBut.set_ | apply keep_drewN | apply keep_drew | apply keep_alloc | refine keep_far ?_ GW360.out _ | refine keep_far ?_ GW374.out _) | exact HK.out)) (KeepBut.of_below hb g none) (.inl rfl)); replace HB := Aside0.mk (below_step (by repeat (first | (with_reducible first | exact HB.out | apply below_alloc | apply pw_below_drewN | apply below_drew1 | refine below_set ?_ (IsS75.ge HI0.out) | refine below_set ?_ GE360.out | refine below_set ?_ GE374.out) | exact HB.out)) hb); replace HI0 := Aside0.mk (IsS75.below (by repeat (first | (with_reducible first | exact HI0.out | apply IsS75.alloc | apply IsS75.drewN | apply IsS75.drew | apply IsS75.set_1 | apply IsS75.set_2 | refine IsS75.far ?_ NB0_360.out _ | refine IsS75.far ?_ NB0_374.out _) | exact HI0.out)) hb); (try clear hb); (try clear hb2); (try clear hk); (try clear hi); (try clear ho0)) | ((with_reducible refine gate_builtin (b := .append) (xs := #[.tmp 58, .tmp 59]) rfl ?_); (try (refine gate_guard (by rfl) ?_; dsimp only)); at_builtin; refine Kd.R_append (Kd.int .i64) w.heap.size rfl (.tmp 58) (.tmp 59) 25 2 (.int .i64 0) 8 rfl Try.underlying25 info2 rfl (by decide) (by omega) v399 t398 0 [.int .i64 0] (fun k_ => some k_ ≠ (.slice Ao65 x375001_25.length co65 : Value).ownBlock) (fun _ => False) rfl rfl ?aP (fun _ hk => hk.elim) ?aF ?aO (Below.refl _ _) ?aS ?aL ?_; (case aP => exact rfl); (case aF => exact (fun k_ hk => Kd.fresh' (Kd.R_lt (R1 HO_375001)) k_ hk)); (case aO => exact (by (with_reducible repeat (first | apply Kd.R_alloc | apply Kd.R_drewN | apply Kd.R_drew)); exact Kd.R_mono HO400.out (fun _ hk => hk.2))); (case aS => exact (keep_size (w := w) (g := g) (row := none) (by repeat (first | (with_reducible first | exact HK.out | apply KeepBut.set_ | apply keep_drewN | apply keep_drew | apply keep_alloc | refine keep_far ?_ GW360.out _ | refine keep_far ?_ GW374.out _) | exact HK.out)))); (case aL => have := LMc60.out; omega); intro v402 w67 ho hb hg hat; rw [← Ny401.out] at ho; replace HO_375001 := Aside0.mk (Kd.R_after (ok := (fun _ => True)) (R1 HO_375001) hg hat); replace BK360 := Aside0.mk (blk_grown (B1 BK360) hg (Kd.R_ne HO400.out BK360.out (by decide))); replace BK374 := Aside0.mk (blk_grown (B1 BK374) hg (Kd.R_ne HO400.out BK374.out (by decide))); replace HB := Aside0.mk (below_weaken (by repeat (first | (with_reducible first | exact HB.out | apply below_alloc | apply pw_below_drewN | apply below_drew1 | refine below_set ?_ (IsS75.ge HI0.out) | refine below_set ?_ GE360.out | refine below_set ?_ GE374.out) | exact HB.out)) HL.out hb); replace HI0 := Aside0.mk (IsS75.grown (by repeat (first | (with_reducible first | exact HI0.out | apply IsS75.alloc | apply IsS75.drewN | apply IsS75.drew | apply IsS75.set_1 | apply IsS75.set_2 | refine IsS75.far ?_ NB0_360.out _ | refine IsS75.far ?_ NB0_374.out _) | exact HI0.out)) hg (IsS75.own_ne HI0.out HO400.out (by decide))); replace HK := Aside0.mk (KeepBut.trans (by repeat (first | (with_reducible first | exact HK.out | apply KeepBut.set_ | apply keep_drewN | apply keep_drew | apply keep_alloc | refine keep_far ?_ GW360.out _ | refine keep_far ?_ GW374.out _) | exact HK.out)) (KeepBut.of_grown hg g) (Kd.R_base2 HO400.out)); have HO403 := Aside0.mk (ho); clear HO400; clear ho hb hg hat; obtain ⟨Ao68, co68, eo68⟩ := Kd.R_slice HO403.out; subst eo68; have hnb69 := NB360_0.out; have hnc69 := NB0_360.out; have hcz70_0 : w67.cell? ⟨gb360, 0, none⟩ = some (.int .i64 0) := bc BK360; have hcz70_1 : w67.cell? ⟨gb360, 1, none⟩ = some (.slice none 0 0) := bc BK360; have hfz70_0 := blk_frozen BK360.out 0; have hfz70_1 := blk_frozen BK360.out 1))
                refine bodyPost_ret (results_cell_row rfl _ _ gb360 27 #[.int .i64 a2, .slice Ao68 y401.length co68] (0, 0) _ rfl (by (with_reducible repeat (first | refine blk_drewN ?_ _ | refine blk_drew ?_ | refine blk_alloc ?_ _)); refine blk_put (cs := #[.int .i64 a2, .slice none 0 0]) ?_ 1 _ rfl; (with_reducible repeat (first | refine blk_drewN ?_ _ | refine blk_drew ?_ | refine blk_alloc ?_ _)); refine blk_put (cs := #[.int .i64 0, .slice none 0 0]) ?_ 0 _ rfl; (with_reducible repeat (first | refine blk_drewN ?_ _ | refine blk_drew ?_ | refine blk_alloc ?_ _)); exact BK360.out) Try.underlying27 rfl (by kernel_rfl)) rfl ?_
                exact ⟨_, Fin, by (with_reducible repeat (first | apply Kd.R_alloc | apply Kd.R_drewN | apply Kd.R_drew)); exact Kd.R_mono (Kd.R_far (p := ⟨gb360, 1, none⟩) (Kd.R_far (p := ⟨gb360, 0, none⟩) (Kd.R_types HO403.out BK360.out (by decide)) (fun _ hk => hk.2) (.int .i64 a2)) (fun _ hk => hk.2) (.slice Ao68 y401.length co68)) (fun _ hk => trivial), by repeat (first | (with_reducible first | exact HI0.out | apply IsS75.alloc | apply IsS75.drewN | apply IsS75.drew | apply IsS75.set_1 | apply IsS75.set_2 | refine IsS75.far ?_ NB0_360.out _ | refine IsS75.far ?_ NB0_374.out _) | exact HI0.out), by repeat (first | (with_reducible first | exact HB.out | apply below_alloc | apply pw_below_drewN | apply below_drew1 | refine below_set ?_ (IsS75.ge HI0.out) | refine below_set ?_ GE360.out | refine below_set ?_ GE374.out) | exact HB.out), by repeat (first | (with_reducible first | exact HK.out | apply KeepBut.set_ | apply keep_drewN | apply keep_drew | apply keep_alloc | refine keep_far ?_ GW360.out _ | refine keep_far ?_ GW374.out _) | exact HK.out)⟩
              · rw [if_neg c60] at H
                exact absurd H (by simp)
            · rw [if_neg c58] at H
              have c58b0 : (t385 == 1) = false := beq_eq_false_iff_ne.mpr c58
              have c58b1 : (t385 != 1) = true := bne_iff_ne.mpr c58
              by_cases c71 : t385 = 2
              · rw [if_pos c71] at H
                have c71b0 : (t385 == 2) = true := beq_iff_eq.mpr c71
                have c71b1 : (t385 != 2) = false := bne_eq_false_iff_eq.mpr c71
                clear c71
                by_cases c72 : (x375001_25.length : Int) > 0
                · rw [if_pos c72] at H
                  have c72b0 : decide (0 < (x375001_25.length : Int)) = true := decide_eq_true c72
                  have c72b1 : decide (0 < x375001_25.length) = true := decide_eq_true (by omega)
                  clear c72
                  obtain ⟨y404, hy404⟩ : ∃ y_ : List Int, y_ = (([(-1), a2] : List Int)) := ⟨_, rfl⟩
                  replace H : ((spec_l01Next.f s0_0 t386 t387 2).bind fun bt407 => (if 0 ≤ bt407.1 then (if bt407.1 < (y404.length : Int) then (if 0 < (x375001_25.length : Int) then (some (t370, (x375001_25.set (0 : Int).toNat (rd y404 bt407.1)), bt407.2.1, bt407.2.2)) else (none)) else (none)) else (none))) = some (r1, r2, r3, r4) := by first | (rw [hy404]; with_reducible exact H) | (have H2_ := (Option.bind_some _ _).symm.trans H; rw [hy404]; with_reducible exact H2_) | (have H2_ := (Option.bind_some _ _).symm.trans H; with_reducible exact H2_) | with_reducible exact H | (rw [hy404]; exact H) | exact H
                  have Ny404 := Aside0.mk hy404
                  clear hy404
                  obtain ⟨⟨t407, t408, t409⟩, A730, H⟩ := Option.bind_eq_some_iff.mp H
                  dsimp only at H
                  have A73 := Aside0.mk A730
                  clear A730
                  by_cases c74 : 0 ≤ t407
                  · rw [if_pos c74] at H
                    have c74b0 : decide (0 ≤ t407) = true := decide_eq_true c74
                    clear c74
                    by_cases c75 : t407 < (y404.length : Int)
                    · rw [if_pos c75] at H
                      have c75b0 : decide (t407 < (y404.length : Int)) = true := decide_eq_true c75
                      clear c75
                      by_cases c76 : 0 < (x375001_25.length : Int)
                      · rw [if_pos c76] at H
                        have c76b0 : decide (0 < (x375001_25.length : Int)) = true := decide_eq_true c76
                        have c76b1 : decide (0 < x375001_25.length) = true := decide_eq_true (by omega)
                        clear c76
                        obtain ⟨y411, hy411⟩ : ∃ y_ : List Int, y_ = (x375001_25.set (0 : Int).toNat (rd y404 t407)) := ⟨_, rfl⟩
                        replace H : (some (t370, y411, t408, t409)) = some (r1, r2, r3, r4) := by first | (rw [hy411]; with_reducible exact H) | (have H2_ := (Option.bind_some _ _).symm.trans H; rw [hy411]; with_reducible exact H2_) | (have H2_ := (Option.bind_some _ _).symm.trans H; with_reducible exact H2_) | with_reducible exact H | (rw [hy411]; exact H) | exact H
                        have Ny411 := Aside0.mk hy411
                        clear hy411
                        simp only [Option.some.injEq, Prod.mk.injEq] at H
                        obtain ⟨rfl, rfl, rfl, rfl⟩ := H
                        try go_wp2_with (first | ((with_reducible refine gC 24 ?_); refine GL (some 41) Try.func24 #[.pointer (some ⟨g, 0, none⟩), .int .i64 24] ?_; (with_reducible refine (spec_l01Next.calls g s0_0 x1001_25 x1002_25 24 t385 t386 t387 w0 _ ?side1 ?side2 A37.out).mono ?_); (case side1 => repeat (first | (with_reducible first | exact HI0.out | apply IsS75.alloc | apply IsS75.drewN | apply IsS75.drew | apply IsS75.set_1 | apply IsS75.set_2 | refine IsS75.far ?_ NB0_360.out _ | refine IsS75.far ?_ NB0_374.out _) | exact HI0.out)); (case side2 => repeat (first | (with_reducible first | exact HB.out | apply below_alloc | apply pw_below_drewN | apply below_drew1 | refine below_set ?_ (IsS75.ge HI0.out) | refine below_set ?_ GE360.out | refine below_set ?_ GE374.out) | exact HB.out)); rintro e w78 ⟨rfl, hi, hb, hk⟩; refine ⟨_, rfl, ?_⟩; replace HO_375001 := Aside0.mk (Kd.R_mono (Kd.R_keep (IsS75.apart (show IsS75 w0 _ g s0_0 x1001_25 x1002_25 from by repeat (first | (with_reducible first | exact HI0.out | apply IsS75.alloc | apply IsS75.drewN | apply IsS75.drew | apply IsS75.set_1 | apply IsS75.set_2 | refine IsS75.far ?_ NB0_360.out _ | refine IsS75.far ?_ NB0_374.out _) | exact HI0.out)) (R1 HO_375001) (by decide)) hk (fun _ h => h.2)) (fun _ h => h.1)); replace BK360 := Aside0.mk (KeepBut.blk hk (g' := gb360) (o := .cells #[.int .i64 0, .slice none 0 0] 27 (0, 0)) (B1 BK360) NB360_0.out (by simp)); replace BK374 := Aside0.mk (KeepBut.blk hk (g' := gb374) (o := .cells #[.int .i64 t370, u375001] 27 (0, 0)) (B1 BK374) NB374_0.out (by simp)); replace HK := Aside0.mk (KeepBut.trans (by repeat (first | (with_reducible first | exact HK.out | apply KeepBut.set_ | apply keep_drewN | apply keep_drew | apply keep_alloc | refine keep_far ?_ GW360.out _ | refine keep_far ?_ GW374.out _) | exact HK.out)) hk (.inl rfl)); replace HB := Aside0.mk (hb); replace HI0 := Aside0.mk (hi); (try clear hb); (try clear hb2); (try clear hk); (try clear hi); have hnb79 := NB374_360.out; have hnc79 := NB360_374.out; have hnb80 := NB374_0.out; have hnc80 := NB0_374.out; have hcz81_0 : w78.cell? ⟨gb374, 0, none⟩ = some (.int .i64 t370) := bc BK374; have hcz81_1 : w78.cell? ⟨gb374, 1, none⟩ = some (u375001) := bc BK374; have hfz81_0 := blk_frozen BK374.out 0; have hfz81_1 := blk_frozen BK374.out 1; obtain ⟨Ao82, co82, eo82⟩ := Kd.R_slice HO_375001.out; subst eo82))
                        have pi410 : (0 ≤ (t407 : Int)) = True := eq_true (oD)
                        have qi410 : (t407 < (y404.length : Int)) = True := eq_true (oD)
                        replace HO_375001 := Aside0.mk (Kd.R_drew HO_375001.out)
                        replace BK360 := Aside0.mk (blk_drew BK360.out)
                        replace BK374 := Aside0.mk (blk_drew BK374.out)
                        replace HI0 := Aside0.mk (IsS75.drew HI0.out)
                        replace HK := Aside0.mk (keep_drew HK.out)
                        replace HB := Aside0.mk (below_drew1 HB.out)
                        refine start_ (n := 10) (S := fun w' => w'.cell? ⟨gb374, 0, none⟩ = some (.int .i64 t370) ∧ w'.cell? ⟨gb374, 1, none⟩ = some (.slice Ao82 x375001_25.length co82)) (ds := [9]) #[false, false, false, false, false, false, false, false, false, false] (by kernel_rfl) rfl rfl ⟨(blk_cell BK374.out 0).trans rfl, (blk_cell BK374.out 1).trans rfl⟩ (fun hHeld => ?_); refine with_tabW spec_l19Draw.tab11 spec_l19Draw.bits11 (fun HT_ HW_ => ?_)
                        generalize w78.drew = w83 at HO_375001 BK360 BK374 HI0 HK HB hHeld ⊢
                        refine PU 0 68 ?_
                        refine PU 2 70 ?_
                        refine PU 4 72 ?_
                        refine TK 1 69 hHeld ?_
                        refine join_ (σ := Value × Addr) 4 #[true, true, true, true, true, true, false, false, false, false] (fun s_ => [(71, s_.1), (73, .int .i64 t407)]) (fun s_ w' => (w'.cell? ⟨gb374, 0, none⟩ = some (.int .i64 t370) ∧ w'.cell? ⟨gb374, 1, none⟩ = some (.slice Ao82 x375001_25.length co82)) ∧ (Kd.R (Kd.int .i64) 2 w' w.heap.size (fun k_ => some k_ ≠ (.slice Ao82 x375001_25.length co82 : Value).ownBlock) s_.1 y404) ∧ (Kd.R (Kd.int .i64) 2 w' w.heap.size (fun k_ => some k_ ≠ (s_.1 : Value).ownBlock) (.slice Ao82 x375001_25.length co82) x375001_25) ∧ (∃ c_, (s_.1 : Value) = .slice (some s_.2) y404.length c_) ∧ (w'.heap[gb360]? = some (.cells #[.int .i64 0, .slice none 0 0] 27 (0, 0))) ∧ (w'.heap[gb374]? = some (.cells #[.int .i64 t370, .slice Ao82 x375001_25.length co82] 27 (0, 0))) ∧ (IsS75 w0 w' g s0_0 t408 t409) ∧ (KeepBut w w' g none) ∧ (Below w0.heap.size w0 w')) ?_ ?_
                        rotate_left
                        · intro hCont
                          refine two_ (i := 3) (j := 5) (Ni := some 71) (Nj := some 73) #[true, true, true, true, true, false, false, false, false, false] #[true, true, true, false, true, true, false, false, false, false] rfl rfl rfl rfl (two_of HT_.out (by kernel_rfl)) (by decide) (by decide) (fun K hK => ?_) (fun K hK => ?_)
                          · skip
                            refine Kd.R_lit_step (Kd.int .i64) _ 2 ?hg (N := 71) ?hd (xs := ([(-1), a2] : List Int)) (inner := [.int .i64 (-1), .int .i64 a2]) (ok := fun _ => True) (okp := fun _ => True) ?hr ?hp (fun _ hk => hk) trivial (Below.refl _ _) (Nat.le_refl _) (by simp) ?_; (case hd => rfl); (case hg => rfl); (case hr => first | (go_simp; done) | (go_simp; rfl)); (case hp => exact (Reps.one (show Kd.M (Kd.int .i64) _ _ _ (-1) [.int .i64 (-1)] from rfl) (Reps.one (show Kd.M (Kd.int .i64) _ _ _ a2 [.int .i64 a2] from rfl) (Reps.none _ _))))
                            intro v405 w84 ho85 hb hg_ hnew_
                            clear hg_ hnew_
                            (first | rw [← Ny404.out] at ho85 | (simp only [Int.reduceToNat] at ho85; rw [← Ny404.out] at ho85))
                            have HO406 := Aside0.mk (Kd.R_lower (Kd.R_new' ho85 (Kd.R_lt (R1 HO_375001))) (keep_size (w := w) (g := g) (row := none) (by repeat (first | (with_reducible first | exact HK.out | apply KeepBut.set_ | apply keep_drewN | apply keep_drew | apply keep_alloc | refine keep_far ?_ GW360.out _ | refine keep_far ?_ GW374.out _) | exact HK.out))))
                            replace HO_375001 := Aside0.mk (Kd.R_elder' (R1 HO_375001) (Kd.R_base ho85) hb)
                            replace BK360 := Aside0.mk (blk_below (B1 BK360) hb)
                            replace BK374 := Aside0.mk (blk_below (B1 BK374) hb)
                            replace HK := Aside0.mk (KeepBut.trans (by repeat (first | (with_reducible first | exact HK.out | apply KeepBut.set_ | apply keep_drewN | apply keep_drew | apply keep_alloc | refine keep_far ?_ GW360.out _ | refine keep_far ?_ GW374.out _) | exact HK.out)) (KeepBut.of_below hb g none) (.inl rfl))
                            replace HB := Aside0.mk (below_step (by repeat (first | (with_reducible first | exact HB.out | apply below_alloc | apply pw_below_drewN | apply below_drew1 | refine below_set ?_ (IsS75.ge HI0.out) | refine below_set ?_ GE360.out | refine below_set ?_ GE374.out) | exact HB.out)) hb)
                            replace HI0 := Aside0.mk (IsS75.below (by repeat (first | (with_reducible first | exact HI0.out | apply IsS75.alloc | apply IsS75.drewN | apply IsS75.drew | apply IsS75.set_1 | apply IsS75.set_2 | refine IsS75.far ?_ NB0_360.out _ | refine IsS75.far ?_ NB0_374.out _) | exact HI0.out)) hb)
                            clear hb ho85
                            obtain ⟨Ao86, co86, eo86⟩ := Kd.R_slice HO406.out
                            subst eo86
                            obtain ⟨ado86, fo86, _⟩ := Kd.at_int (Kd.R_reads' HO406.out).2.2 0 (by decide) (by rw [Ny404.out]; simp)
                            cases fo86
                            refine hK.out _ _ ⟨(blk_cell BK374.out 0).trans rfl, (blk_cell BK374.out 1).trans rfl⟩ (fun hHeld => ?_)
                            clear hK K
                            refine NM 71 ?_
                            refine ON 5 73 (fun K hK => ?_)
                            refine GO Try.func24 #[.pointer (some ⟨g, 0, none⟩), .int .i64 2] ?_
                            with_reducible refine (spec_l01Next.calls g s0_0 t386 t387 2 t407 t408 t409 w0 _ ?side1 ?side2 A73.out).mono ?_
                            (case side1 => repeat (first | (with_reducible first | exact HI0.out | apply IsS75.alloc | apply IsS75.drewN | apply IsS75.drew | apply IsS75.set_1 | apply IsS75.set_2 | refine IsS75.far ?_ NB0_360.out _ | refine IsS75.far ?_ NB0_374.out _) | exact HI0.out))
                            (case side2 => repeat (first | (with_reducible first | exact HB.out | apply below_alloc | apply pw_below_drewN | apply below_drew1 | refine below_set ?_ (IsS75.ge HI0.out) | refine below_set ?_ GE360.out | refine below_set ?_ GE374.out) | exact HB.out))
                            rintro e w87 ⟨rfl, hi, hb, hk⟩
                            refine ⟨_, rfl, ?_⟩
                            replace HO_375001 := Aside0.mk (Kd.R_mono (Kd.R_keep (IsS75.apart (show IsS75 w0 _ g s0_0 t386 t387 from by repeat (first | (with_reducible first | exact HI0.out | apply IsS75.alloc | apply IsS75.drewN | apply IsS75.drew | apply IsS75.set_1 | apply IsS75.set_2 | refine IsS75.far ?_ NB0_360.out _ | refine IsS75.far ?_ NB0_374.out _) | exact HI0.out)) (R1 HO_375001) (by decide)) hk (fun _ h => h.2)) (fun _ h => h.1))
                            replace BK360 := Aside0.mk (KeepBut.blk hk (g' := gb360) (o := .cells #[.int .i64 0, .slice none 0 0] 27 (0, 0)) (B1 BK360) NB360_0.out (by simp))
                            replace BK374 := Aside0.mk (KeepBut.blk hk (g' := gb374) (o := .cells #[.int .i64 t370, .slice Ao82 x375001_25.length co82] 27 (0, 0)) (B1 BK374) NB374_0.out (by simp))
                            replace HO406 := Aside0.mk (Kd.R_mono (Kd.R_keep (IsS75.apart (show IsS75 w0 _ g s0_0 t386 t387 from by repeat (first | (with_reducible first | exact HI0.out | apply IsS75.alloc | apply IsS75.drewN | apply IsS75.drew | apply IsS75.set_1 | apply IsS75.set_2 | refine IsS75.far ?_ NB0_360.out _ | refine IsS75.far ?_ NB0_374.out _) | exact HI0.out)) (R1 HO406) (by decide)) hk (fun _ h => h.2)) (fun _ h => h.1))
                            replace HK := Aside0.mk (KeepBut.trans (by repeat (first | (with_reducible first | exact HK.out | apply KeepBut.set_ | apply keep_drewN | apply keep_drew | apply keep_alloc | refine keep_far ?_ GW360.out _ | refine keep_far ?_ GW374.out _) | exact HK.out)) hk (.inl rfl))
                            replace HB := Aside0.mk (hb)
                            replace HI0 := Aside0.mk (hi)
                            (try clear hb)
                            (try clear hb2)
                            (try clear hk)
                            (try clear hi)
                            refine hK.out _ _ ⟨(blk_cell BK374.out 0).trans rfl, (blk_cell BK374.out 1).trans rfl⟩ (fun hHeld => ?_)
                            clear hK K
                            refine NM 73 ?_
                            exact norm_ (by simp only [putAll, Act.put, List.setIfInBounds_toArray, List.set_cons_zero, List.set_cons_succ]) (hCont (.slice (some ado86) y404.length co86, ado86) _ ⟨hHeld, (by (with_reducible repeat (first | apply Kd.R_alloc | apply Kd.R_drewN | apply Kd.R_drew)); exact Kd.R_mono HO406.out (fun _ hk => hk.2)), (by (with_reducible repeat (first | apply Kd.R_alloc | apply Kd.R_drewN | apply Kd.R_drew)); exact Kd.R_mono HO_375001.out (fun _ hk => hk.2)), ⟨_, rfl⟩, (B1 BK360), (B1 BK374), (by repeat (first | (with_reducible first | exact HI0.out | apply IsS75.alloc | apply IsS75.drewN | apply IsS75.drew | apply IsS75.set_1 | apply IsS75.set_2 | refine IsS75.far ?_ NB0_360.out _ | refine IsS75.far ?_ NB0_374.out _) | exact HI0.out)), (by repeat (first | (with_reducible first | exact HK.out | apply KeepBut.set_ | apply keep_drewN | apply keep_drew | apply keep_alloc | refine keep_far ?_ GW360.out _ | refine keep_far ?_ GW374.out _) | exact HK.out)), (by repeat (first | (with_reducible first | exact HB.out | apply below_alloc | apply pw_below_drewN | apply below_drew1 | refine below_set ?_ (IsS75.ge HI0.out) | refine below_set ?_ GE360.out | refine below_set ?_ GE374.out) | exact HB.out))⟩)
                          · skip
                            refine GO Try.func24 #[.pointer (some ⟨g, 0, none⟩), .int .i64 2] ?_
                            with_reducible refine (spec_l01Next.calls g s0_0 t386 t387 2 t407 t408 t409 w0 _ ?side1 ?side2 A73.out).mono ?_
                            (case side1 => repeat (first | (with_reducible first | exact HI0.out | apply IsS75.alloc | apply IsS75.drewN | apply IsS75.drew | apply IsS75.set_1 | apply IsS75.set_2 | refine IsS75.far ?_ NB0_360.out _ | refine IsS75.far ?_ NB0_374.out _) | exact HI0.out))
                            (case side2 => repeat (first | (with_reducible first | exact HB.out | apply below_alloc | apply pw_below_drewN | apply below_drew1 | refine below_set ?_ (IsS75.ge HI0.out) | refine below_set ?_ GE360.out | refine below_set ?_ GE374.out) | exact HB.out))
                            rintro e w84 ⟨rfl, hi, hb, hk⟩
                            refine ⟨_, rfl, ?_⟩
                            replace HO_375001 := Aside0.mk (Kd.R_mono (Kd.R_keep (IsS75.apart (show IsS75 w0 _ g s0_0 t386 t387 from by repeat (first | (with_reducible first | exact HI0.out | apply IsS75.alloc | apply IsS75.drewN | apply IsS75.drew | apply IsS75.set_1 | apply IsS75.set_2 | refine IsS75.far ?_ NB0_360.out _ | refine IsS75.far ?_ NB0_374.out _) | exact HI0.out)) (R1 HO_375001) (by decide)) hk (fun _ h => h.2)) (fun _ h => h.1))
                            replace BK360 := Aside0.mk (KeepBut.blk hk (g' := gb360) (o := .cells #[.int .i64 0, .slice none 0 0] 27 (0, 0)) (B1 BK360) NB360_0.out (by simp))
                            replace BK374 := Aside0.mk (KeepBut.blk hk (g' := gb374) (o := .cells #[.int .i64 t370, .slice Ao82 x375001_25.length co82] 27 (0, 0)) (B1 BK374) NB374_0.out (by simp))
                            replace HK := Aside0.mk (KeepBut.trans (by repeat (first | (with_reducible first | exact HK.out | apply KeepBut.set_ | apply keep_drewN | apply keep_drew | apply keep_alloc | refine keep_far ?_ GW360.out _ | refine keep_far ?_ GW374.out _) | exact HK.out)) hk (.inl rfl))
                            replace HB := Aside0.mk (hb)
                            replace HI0 := Aside0.mk (hi)
                            (try clear hb)
                            (try clear hb2)
                            (try clear hk)
                            (try clear hi)
                            refine hK.out _ _ ⟨(blk_cell BK374.out 0).trans rfl, (blk_cell BK374.out 1).trans rfl⟩ (fun hHeld => ?_)
                            clear hK K
                            refine NM 73 ?_
                            refine ON 3 71 (fun K hK => ?_)
                            refine Kd.R_lit_step (Kd.int .i64) _ 2 ?hg (N := 71) ?hd (xs := ([(-1), a2] : List Int)) (inner := [.int .i64 (-1), .int .i64 a2]) (ok := fun _ => True) (okp := fun _ => True) ?hr ?hp (fun _ hk => hk) trivial (Below.refl _ _) (Nat.le_refl _) (by simp) ?_; (case hd => rfl); (case hg => rfl); (case hr => first | (go_simp; done) | (go_simp; rfl)); (case hp => exact (Reps.one (show Kd.M (Kd.int .i64) _ _ _ (-1) [.int .i64 (-1)] from rfl) (Reps.one (show Kd.M (Kd.int .i64) _ _ _ a2 [.int .i64 a2] from rfl) (Reps.none _ _))))
                            intro v405 w85 ho86 hb hg_ hnew_
                            clear hg_ hnew_
                            (first | rw [← Ny404.out] at ho86 | (simp only [Int.reduceToNat] at ho86; rw [← Ny404.out] at ho86))
                            have HO406 := Aside0.mk (Kd.R_lower (Kd.R_new' ho86 (Kd.R_lt (R1 HO_375001))) (keep_size (w := w) (g := g) (row := none) (by repeat (first | (with_reducible first | exact HK.out | apply KeepBut.set_ | apply keep_drewN | apply keep_drew | apply keep_alloc | refine keep_far ?_ GW360.out _ | refine keep_far ?_ GW374.out _) | exact HK.out))))
                            replace HO_375001 := Aside0.mk (Kd.R_elder' (R1 HO_375001) (Kd.R_base ho86) hb)
                            replace BK360 := Aside0.mk (blk_below (B1 BK360) hb)
                            replace BK374 := Aside0.mk (blk_below (B1 BK374) hb)
                            replace HK := Aside0.mk (KeepBut.trans (by repeat (first | (with_reducible first | exact HK.out | apply KeepBut.set_ | apply keep_drewN | apply keep_drew | apply keep_alloc | refine keep_far ?_ GW360.out _ | refine keep_far ?_ GW374.out _) | exact HK.out)) (KeepBut.of_below hb g none) (.inl rfl))
                            replace HB := Aside0.mk (below_step (by repeat (first | (with_reducible first | exact HB.out | apply below_alloc | apply pw_below_drewN | apply below_drew1 | refine below_set ?_ (IsS75.ge HI0.out) | refine below_set ?_ GE360.out | refine below_set ?_ GE374.out) | exact HB.out)) hb)
                            replace HI0 := Aside0.mk (IsS75.below (by repeat (first | (with_reducible first | exact HI0.out | apply IsS75.alloc | apply IsS75.drewN | apply IsS75.drew | apply IsS75.set_1 | apply IsS75.set_2 | refine IsS75.far ?_ NB0_360.out _ | refine IsS75.far ?_ NB0_374.out _) | exact HI0.out)) hb)
                            clear hb ho86
                            obtain ⟨Ao87, co87, eo87⟩ := Kd.R_slice HO406.out
                            subst eo87
                            obtain ⟨ado87, fo87, _⟩ := Kd.at_int (Kd.R_reads' HO406.out).2.2 0 (by decide) (by rw [Ny404.out]; simp)
                            cases fo87
                            refine hK.out _ _ ⟨(blk_cell BK374.out 0).trans rfl, (blk_cell BK374.out 1).trans rfl⟩ (fun hHeld => ?_)
                            clear hK K
                            refine NM 71 ?_
                            exact norm_ (by simp only [putAll, Act.put, List.setIfInBounds_toArray, List.set_cons_zero, List.set_cons_succ]) (hCont (.slice (some ado87) y404.length co87, ado87) _ ⟨hHeld, (by (with_reducible repeat (first | apply Kd.R_alloc | apply Kd.R_drewN | apply Kd.R_drew)); exact Kd.R_mono HO406.out (fun _ hk => hk.2)), (by (with_reducible repeat (first | apply Kd.R_alloc | apply Kd.R_drewN | apply Kd.R_drew)); exact Kd.R_mono HO_375001.out (fun _ hk => hk.2)), ⟨_, rfl⟩, (B1 BK360), (B1 BK374), (by repeat (first | (with_reducible first | exact HI0.out | apply IsS75.alloc | apply IsS75.drewN | apply IsS75.drew | apply IsS75.set_1 | apply IsS75.set_2 | refine IsS75.far ?_ NB0_360.out _ | refine IsS75.far ?_ NB0_374.out _) | exact HI0.out)), (by repeat (first | (with_reducible first | exact HK.out | apply KeepBut.set_ | apply keep_drewN | apply keep_drew | apply keep_alloc | refine keep_far ?_ GW360.out _ | refine keep_far ?_ GW374.out _) | exact HK.out)), (by repeat (first | (with_reducible first | exact HB.out | apply below_alloc | apply pw_below_drewN | apply below_drew1 | refine below_set ?_ (IsS75.ge HI0.out) | refine below_set ?_ GE360.out | refine below_set ?_ GE374.out) | exact HB.out))⟩)
                        rintro ⟨v405, adz_v405⟩ w88 ⟨hS_, h0_, h1_, h2_, h3_, h4_, h5_, h6_, h7_⟩
                        have n0_ : Aside0 (Kd.R (Kd.int .i64) 2 w88 w.heap.size (fun k_ => some k_ ≠ (.slice Ao82 x375001_25.length co82 : Value).ownBlock) v405 y404) := ⟨h0_⟩
                        have n1_ : Aside0 (Kd.R (Kd.int .i64) 2 w88 w.heap.size (fun k_ => some k_ ≠ (v405 : Value).ownBlock) (.slice Ao82 x375001_25.length co82) x375001_25) := ⟨h1_⟩
                        have n2_ : Aside0 (∃ c_, (v405 : Value) = .slice (some adz_v405) y404.length c_) := ⟨h2_⟩
                        have n3_ : Aside0 (w88.heap[gb360]? = some (.cells #[.int .i64 0, .slice none 0 0] 27 (0, 0))) := ⟨h3_⟩
                        have n4_ : Aside0 (w88.heap[gb374]? = some (.cells #[.int .i64 t370, .slice Ao82 x375001_25.length co82] 27 (0, 0))) := ⟨h4_⟩
                        have n5_ : Aside0 (IsS75 w0 w88 g s0_0 t408 t409) := ⟨h5_⟩
                        have n6_ : Aside0 (KeepBut w w88 g none) := ⟨h6_⟩
                        have n7_ : Aside0 (Below w0.heap.size w0 w88) := ⟨h7_⟩
                        clear HO_375001
                        clear BK360
                        clear BK374
                        clear HI0
                        clear HK
                        clear HB
                        clear h0_ h1_ h2_ h3_ h4_ h5_ h6_ h7_
                        have HO406 := n0_
                        have HO_375001 := n1_
                        have HA_HO406 := n2_
                        have BK360 := n3_
                        have BK374 := n4_
                        have HI0 := n5_
                        have HK := n6_
                        have HB := n7_
                        clear n0_ n1_ n2_ n3_ n4_ n5_ n6_ n7_
                        have hHeld : w88.cell? ⟨gb374, 0, none⟩ = some (.int .i64 t370) ∧ w88.cell? ⟨gb374, 1, none⟩ = some (.slice Ao82 x375001_25.length co82) := hS_
                        obtain ⟨co89, eo89⟩ := HA_HO406.out
                        clear HA_HO406
                        subst eo89
                        have p77 : 0 ≤ (0 : Int) := (by omega)
                        have q77 : (0 : Int) < ((x375001_25.length : Int) : Int) := oD
                        have qi77 : (0 < x375001_25.length) = True := eq_true (by omega)
                        obtain ⟨go77, co77, eo77, gb77, gl77, cl77, HG77⟩ := Kd.R_form HO_375001.out (by omega)
                        (first | cases eo77 | (injection eo77 with ea_ en_ ec_; (first | subst ea_ | (injection ea_ with ea_; subst ea_)); subst ec_; clear en_))
                        have GB77 := Aside0.mk gb77
                        have GG77 := Aside0.mk HG77
                        clear gb77 gl77 HG77
                        obtain ⟨hx77_0, hf77_0⟩ := Kd.R_celln 0 HO_375001.out (0 : Int) p77 q77
                        (try rw [show ((0 : Int)).toNat = 0 from rfl] at hx77_0)
                        (try simp only [Nat.reduceMul, Nat.zero_mul, Nat.zero_add, Nat.reduceAdd] at hx77_0)
                        (try rw [show ((0 : Int)).toNat = 0 from rfl] at hf77_0)
                        (try simp only [Nat.reduceMul, Nat.zero_mul, Nat.zero_add, Nat.reduceAdd] at hf77_0)
                        replace p77 := eq_true p77
                        replace q77 := eq_true q77
                        have HN0_go77 := Aside0.mk (show g ≠ go77 from by have h_ := IsS75.own_ne HI0.out HO_375001.out (by decide); intro e_; exact h_ (by rw [e_]; rfl))
                        have HP90 := Kd.R_putn HO_375001.out (0 : Int) (rd y404 t407)
                        rw [← Ny411.out] at HP90
                        have HQ90 := Aside0.mk HP90
                        clear HP90
                        refine norm_ (a' := ?_) ?_ ?_
                        rotate_left
                        · simp only [putAll, Act.put, List.setIfInBounds_toArray, List.set_cons_zero, List.set_cons_succ]
                          rfl
                        refine PU 6 74 ?_
                        refine ON 7 75 (fun K hK => ?_)
                        (have p410 : 0 ≤ (t407 : Int) := oD; have q410 : t407 < (y404.length : Int) := oD; obtain ⟨ad410, e410, hx410_0⟩ := Kd.at_int (Kd.R_reads' HO406.out).2.2 t407 p410 q410; obtain rfl : adz_v405 = ad410 := (by injection e410))
                        refine value_ (w1 := ?_) (v := ?_) (by rfl) rfl ?_ ?_
                        rotate_left 2
                        · go_simp
                          constructor
                          · rfl
                          · rfl
                        clear hx410_0
                        refine hK.out _ _ ⟨(blk_cell BK374.out 0).trans rfl, (blk_cell BK374.out 1).trans rfl⟩ (fun hHeld => ?_)
                        clear hK K
                        refine NM 75 ?_
                        refine PU 8 76 ?_
                        refine last_ (i := 9) (N := none) #[true, true, true, true, true, true, true, true, true, true] rfl rfl (one_of HT_.out (by kernel_rfl)) (by decide) (fun K hK => ?_)
                        refine skip_ (w1 := ?_) (by rfl) rfl ?_ ?_
                        rotate_left
                        · go_simp
                          rfl
                        refine hK.out _ _ ?_
                        clear hK K
                        refine done_ (done_of HT_.out (by kernel_rfl)) ?_
                        have n0_ : Aside0 (Kd.R (Kd.int .i64) 2 (w88.setCell ⟨go77, 0, none⟩ (.int .i64 (rd y404 t407))) w.heap.size (fun k_ => some k_ ≠ (.slice (some adz_v405) y404.length co89 : Value).ownBlock) (.slice (some ⟨go77, 0, none⟩) x375001_25.length co82) y411) := ⟨by (with_reducible repeat (first | apply Kd.R_alloc | apply Kd.R_drewN | apply Kd.R_drew)); exact HQ90.out⟩
                        have n1_ : Aside0 (Kd.R (Kd.int .i64) 2 (w88.setCell ⟨go77, 0, none⟩ (.int .i64 (rd y404 t407))) w.heap.size (fun k_ => some k_ ≠ (.slice (some ⟨go77, 0, none⟩) x375001_25.length co82 : Value).ownBlock) (.slice (some adz_v405) y404.length co89) y404) := ⟨by (with_reducible repeat (first | apply Kd.R_alloc | apply Kd.R_drewN | apply Kd.R_drew)); exact Kd.R_mono (Kd.R_far (p := ⟨go77, 0, none⟩) (Kd.R_mono HO406.out (fun k_ hk => (⟨hk, fun e_ => hk (by rw [e_]; rfl)⟩ : _ ∧ k_ ≠ go77))) (fun _ hk => hk.2) (.int .i64 (rd y404 t407))) (fun _ hk => hk.1)⟩
                        have n2_ : Aside0 ((w88.setCell ⟨go77, 0, none⟩ (.int .i64 (rd y404 t407))).heap[gb360]? = some (.cells #[.int .i64 0, .slice none 0 0] 27 (0, 0))) := ⟨by (with_reducible repeat (first | refine blk_drewN ?_ _ | refine blk_drew ?_ | refine blk_alloc ?_ _)); refine blk_far ?_ (by have h_ := Kd.R_ne HO_375001.out BK360.out (by decide); intro e_; exact h_ (by rw [e_]; rfl)) _; (with_reducible repeat (first | refine blk_drewN ?_ _ | refine blk_drew ?_ | refine blk_alloc ?_ _)); exact BK360.out⟩
                        have n3_ : Aside0 ((w88.setCell ⟨go77, 0, none⟩ (.int .i64 (rd y404 t407))).heap[gb374]? = some (.cells #[.int .i64 t370, .slice (some ⟨go77, 0, none⟩) x375001_25.length co82] 27 (0, 0))) := ⟨by (with_reducible repeat (first | refine blk_drewN ?_ _ | refine blk_drew ?_ | refine blk_alloc ?_ _)); refine blk_far ?_ (by have h_ := Kd.R_ne HO_375001.out BK374.out (by decide); intro e_; exact h_ (by rw [e_]; rfl)) _; (with_reducible repeat (first | refine blk_drewN ?_ _ | refine blk_drew ?_ | refine blk_alloc ?_ _)); exact BK374.out⟩
                        have n4_ : Aside0 (IsS75 w0 (w88.setCell ⟨go77, 0, none⟩ (.int .i64 (rd y404 t407))) g s0_0 t408 t409) := ⟨by repeat (first | (with_reducible first | exact HI0.out | apply IsS75.alloc | apply IsS75.drewN | apply IsS75.drew | apply IsS75.set_1 | apply IsS75.set_2 | refine IsS75.far ?_ HN0_go77.out _ | refine IsS75.far ?_ NB0_360.out _ | refine IsS75.far ?_ NB0_374.out _) | exact HI0.out)⟩
                        have n5_ : Aside0 (KeepBut w (w88.setCell ⟨go77, 0, none⟩ (.int .i64 (rd y404 t407))) g none) := ⟨by repeat (first | (with_reducible first | exact HK.out | apply KeepBut.set_ | apply keep_drewN | apply keep_drew | apply keep_alloc | refine keep_far ?_ GB77.out _ | refine keep_far ?_ GW360.out _ | refine keep_far ?_ GW374.out _) | exact HK.out)⟩
                        have n6_ : Aside0 (Below w0.heap.size w0 (w88.setCell ⟨go77, 0, none⟩ (.int .i64 (rd y404 t407)))) := ⟨by repeat (first | (with_reducible first | exact HB.out | apply below_alloc | apply pw_below_drewN | apply below_drew1 | refine below_set ?_ (Nat.le_trans HL.out GB77.out) | refine below_set ?_ (IsS75.ge HI0.out) | refine below_set ?_ GE360.out | refine below_set ?_ GE374.out) | exact HB.out)⟩
                        (try clear HO_375001)
                        (try clear HO406)
                        (try clear BK360)
                        (try clear BK374)
                        (try clear HI0)
                        (try clear HK)
                        (try clear HB)
                        generalize (w88.setCell ⟨go77, 0, none⟩ (.int .i64 (rd y404 t407))) = w91 at n0_ n1_ n2_ n3_ n4_ n5_ n6_ ⊢
                        have HO_375001 := n0_
                        have HO406 := n1_
                        have BK360 := n2_
                        have BK374 := n3_
                        have HI0 := n4_
                        have HK := n5_
                        have HB := n6_
                        clear n0_ n1_ n2_ n3_ n4_ n5_ n6_
                        have hcz92_0 : w91.cell? ⟨gb374, 0, none⟩ = some (.int .i64 t370) := bc BK374
                        have hcz92_1 : w91.cell? ⟨gb374, 1, none⟩ = some (.slice (some ⟨go77, 0, none⟩) x375001_25.length co82) := bc BK374
                        have hfz92_0 := blk_frozen BK374.out 0
                        have hfz92_1 := blk_frozen BK374.out 1
                        have hnb93 := NB360_0.out
                        have hnc93 := NB0_360.out
                        have hcz94_0 : w91.cell? ⟨gb360, 0, none⟩ = some (.int .i64 0) := bc BK360
                        have hcz94_1 : w91.cell? ⟨gb360, 1, none⟩ = some (.slice none 0 0) := bc BK360
                        have hfz94_0 := blk_frozen BK360.out 0
                        have hfz94_1 := blk_frozen BK360.out 1
                        try go_wp2
                        refine bodyPost_ret (results_cell_row rfl _ _ gb360 27 #[.int .i64 t370, .slice (some ⟨go77, 0, none⟩) x375001_25.length co82] (0, 0) _ rfl (by (with_reducible repeat (first | refine blk_drewN ?_ _ | refine blk_drew ?_ | refine blk_alloc ?_ _)); refine blk_put (cs := #[.int .i64 t370, .slice none 0 0]) ?_ 1 _ rfl; (with_reducible repeat (first | refine blk_drewN ?_ _ | refine blk_drew ?_ | refine blk_alloc ?_ _)); refine blk_put (cs := #[.int .i64 0, .slice none 0 0]) ?_ 0 _ rfl; (with_reducible repeat (first | refine blk_drewN ?_ _ | refine blk_drew ?_ | refine blk_alloc ?_ _)); exact BK360.out) Try.underlying27 rfl (by kernel_rfl)) rfl ?_
                        exact ⟨_, Fin, by (with_reducible repeat (first | apply Kd.R_alloc | apply Kd.R_drewN | apply Kd.R_drew)); exact Kd.R_mono (Kd.R_far (p := ⟨gb360, 1, none⟩) (Kd.R_far (p := ⟨gb360, 0, none⟩) (Kd.R_types HO_375001.out BK360.out (by decide)) (fun _ hk => hk.2) (.int .i64 t370)) (fun _ hk => hk.2) (.slice (some ⟨go77, 0, none⟩) x375001_25.length co82)) (fun _ hk => trivial), by repeat (first | (with_reducible first | exact HI0.out | apply IsS75.alloc | apply IsS75.drewN | apply IsS75.drew | apply IsS75.set_1 | apply IsS75.set_2 | refine IsS75.far ?_ NB0_360.out _ | refine IsS75.far ?_ NB0_374.out _) | exact HI0.out), by repeat (first | (with_reducible first | exact HB.out | apply below_alloc | apply pw_below_drewN | apply below_drew1 | refine below_set ?_ (IsS75.ge HI0.out) | refine below_set ?_ GE360.out | refine below_set ?_ GE374.out) | exact HB.out), by repeat (first | (with_reducible first | exact HK.out | apply KeepBut.set_ | apply keep_drewN | apply keep_drew | apply keep_alloc | refine keep_far ?_ GW360.out _ | refine keep_far ?_ GW374.out _) | exact HK.out)⟩
                      · rw [if_neg c76] at H
                        exact absurd H (by simp)
                    · rw [if_neg c75] at H
                      exact absurd H (by simp)
                  · rw [if_neg c74] at H
                    exact absurd H (by simp)
                · rw [if_neg c72] at H
                  have c72b0 : decide (0 < (x375001_25.length : Int)) = false := decide_eq_false c72
                  have c72b1 : decide (0 < x375001_25.length) = false := decide_eq_false (by omega)
                  clear c72
                  simp only [Option.some.injEq, Prod.mk.injEq] at H
                  obtain ⟨rfl, rfl, rfl, rfl⟩ := H
                  go_wp2_with (first | ((with_reducible refine gC 24 ?_); refine GL (some 41) Try.func24 #[.pointer (some ⟨g, 0, none⟩), .int .i64 24] ?_; (with_reducible refine (spec_l01Next.calls g s0_0 x1001_25 x1002_25 24 t385 t386 t387 w0 _ ?side1 ?side2 A37.out).mono ?_); (case side1 => repeat (first | (with_reducible first | exact HI0.out | apply IsS75.alloc | apply IsS75.drewN | apply IsS75.drew | apply IsS75.set_1 | apply IsS75.set_2 | refine IsS75.far ?_ NB0_360.out _ | refine IsS75.far ?_ NB0_374.out _) | exact HI0.out)); (case side2 => repeat (first | (with_reducible first | exact HB.out | apply below_alloc | apply pw_below_drewN | apply below_drew1 | refine below_set ?_ (IsS75.ge HI0.out) | refine below_set ?_ GE360.out | refine below_set ?_ GE374.out) | exact HB.out)); rintro e w95 ⟨rfl, hi, hb, hk⟩; refine ⟨_, rfl, ?_⟩; replace HO_375001 := Aside0.mk (Kd.R_mono (Kd.R_keep (IsS75.apart (show IsS75 w0 _ g s0_0 x1001_25 x1002_25 from by repeat (first | (with_reducible first | exact HI0.out | apply IsS75.alloc | apply IsS75.drewN | apply IsS75.drew | apply IsS75.set_1 | apply IsS75.set_2 | refine IsS75.far ?_ NB0_360.out _ | refine IsS75.far ?_ NB0_374.out _) | exact HI0.out)) (R1 HO_375001) (by decide)) hk (fun _ h => h.2)) (fun _ h => h.1)); replace BK360 := Aside0.mk (KeepBut.blk hk (g' := gb360) (o := .cells #[.int .i64 0, .slice none 0 0] 27 (0, 0)) (B1 BK360) NB360_0.out (by simp)); replace BK374 := Aside0.mk (KeepBut.blk hk (g' := gb374) (o := .cells #[.int .i64 t370, u375001] 27 (0, 0)) (B1 BK374) NB374_0.out (by simp)); replace HK := Aside0.mk (KeepBut.trans (by repeat (first | (with_reducible first | exact HK.out | apply KeepBut.set_ | apply keep_drewN | apply keep_drew | apply keep_alloc | refine keep_far ?_ GW360.out _ | refine keep_far ?_ GW374.out _) | exact HK.out)) hk (.inl rfl)); replace HB := Aside0.mk (hb); replace HI0 := Aside0.mk (hi); (try clear hb); (try clear hb2); (try clear hk); (try clear hi); have hnb96 := NB374_360.out; have hnc96 := NB360_374.out; have hnb97 := NB374_0.out; have hnc97 := NB0_374.out; have hcz98_0 : w95.cell? ⟨gb374, 0, none⟩ = some (.int .i64 t370) := bc BK374; have hcz98_1 : w95.cell? ⟨gb374, 1, none⟩ = some (u375001) := bc BK374; have hfz98_0 := blk_frozen BK374.out 0; have hfz98_1 := blk_frozen BK374.out 1; obtain ⟨Ao99, co99, eo99⟩ := Kd.R_slice HO_375001.out; subst eo99; have hnb100 := NB360_0.out; have hnc100 := NB0_360.out; have hcz101_0 : w95.cell? ⟨gb360, 0, none⟩ = some (.int .i64 0) := bc BK360; have hcz101_1 : w95.cell? ⟨gb360, 1, none⟩ = some (.slice none 0 0) := bc BK360; have hfz101_0 := blk_frozen BK360.out 0; have hfz101_1 := blk_frozen BK360.out 1))
                  refine bodyPost_ret (results_cell_row rfl _ _ gb360 27 #[.int .i64 t370, .slice Ao99 x375001_25.length co99] (0, 0) _ rfl (by (with_reducible repeat (first | refine blk_drewN ?_ _ | refine blk_drew ?_ | refine blk_alloc ?_ _)); refine blk_put (cs := #[.int .i64 t370, .slice none 0 0]) ?_ 1 _ rfl; (with_reducible repeat (first | refine blk_drewN ?_ _ | refine blk_drew ?_ | refine blk_alloc ?_ _)); refine blk_put (cs := #[.int .i64 0, .slice none 0 0]) ?_ 0 _ rfl; (with_reducible repeat (first | refine blk_drewN ?_ _ | refine blk_drew ?_ | refine blk_alloc ?_ _)); exact BK360.out) Try.underlying27 rfl (by kernel_rfl)) rfl ?_
                  exact ⟨_, Fin, by (with_reducible repeat (first | apply Kd.R_alloc | apply Kd.R_drewN | apply Kd.R_drew)); exact Kd.R_mono (Kd.R_far (p := ⟨gb360, 1, none⟩) (Kd.R_far (p := ⟨gb360, 0, none⟩) (Kd.R_types HO_375001.out BK360.out (by decide)) (fun _ hk => hk.2) (.int .i64 t370)) (fun _ hk => hk.2) (.slice Ao99 x375001_25.length co99)) (fun _ hk => trivial), by repeat (first | (with_reducible first | exact HI0.out | apply IsS75.alloc | apply IsS75.drewN | apply IsS75.drew | apply IsS75.set_1 | apply IsS75.set_2 | refine IsS75.far ?_ NB0_360.out _ | refine IsS75.far ?_ NB0_374.out _) | exact HI0.out), by repeat (first | (with_reducible first | exact HB.out | apply below_alloc | apply pw_below_drewN | apply below_drew1 | refine below_set ?_ (IsS75.ge HI0.out) | refine below_set ?_ GE360.out | refine below_set ?_ GE374.out) | exact HB.out), by repeat (first | (with_reducible first | exact HK.out | apply KeepBut.set_ | apply keep_drewN | apply keep_drew | apply keep_alloc | refine keep_far ?_ GW360.out _ | refine keep_far ?_ GW374.out _) | exact HK.out)⟩
              · rw [if_neg c71] at H
                have c71b0 : (t385 == 2) = false := beq_eq_false_iff_ne.mpr c71
                have c71b1 : (t385 != 2) = true := bne_iff_ne.mpr c71
                simp only [Option.some.injEq, Prod.mk.injEq] at H
                obtain ⟨rfl, rfl, rfl, rfl⟩ := H
                go_wp2_with (first | ((with_reducible refine gC 24 ?_); refine GL (some 41) Try.func24 #[.pointer (some ⟨g, 0, none⟩), .int .i64 24] ?_; (with_reducible refine (spec_l01Next.calls g s0_0 x1001_25 x1002_25 24 t385 t386 t387 w0 _ ?side1 ?side2 A37.out).mono ?_); (case side1 => repeat (first | (with_reducible first | exact HI0.out | apply IsS75.alloc | apply IsS75.drewN | apply IsS75.drew | apply IsS75.set_1 | apply IsS75.set_2 | refine IsS75.far ?_ NB0_360.out _ | refine IsS75.far ?_ NB0_374.out _) | exact HI0.out)); (case side2 => repeat (first | (with_reducible first | exact HB.out | apply below_alloc | apply pw_below_drewN | apply below_drew1 | refine below_set ?_ (IsS75.ge HI0.out) | refine below_set ?_ GE360.out | refine below_set ?_ GE374.out) | exact HB.out)); rintro e w102 ⟨rfl, hi, hb, hk⟩; refine ⟨_, rfl, ?_⟩; replace HO_375001 := Aside0.mk (Kd.R_mono (Kd.R_keep (IsS75.apart (show IsS75 w0 _ g s0_0 x1001_25 x1002_25 from by repeat (first | (with_reducible first | exact HI0.out | apply IsS75.alloc | apply IsS75.drewN | apply IsS75.drew | apply IsS75.set_1 | apply IsS75.set_2 | refine IsS75.far ?_ NB0_360.out _ | refine IsS75.far ?_ NB0_374.out _) | exact HI0.out)) (R1 HO_375001) (by decide)) hk (fun _ h => h.2)) (fun _ h => h.1)); replace BK360 := Aside0.mk (KeepBut.blk hk (g' := gb360) (o := .cells #[.int .i64 0, .slice none 0 0] 27 (0, 0)) (B1 BK360) NB360_0.out (by simp)); replace BK374 := Aside0.mk (KeepBut.blk hk (g' := gb374) (o := .cells #[.int .i64 t370, u375001] 27 (0, 0)) (B1 BK374) NB374_0.out (by simp)); replace HK := Aside0.mk (KeepBut.trans (by repeat (first | (with_reducible first | exact HK.out | apply KeepBut.set_ | apply keep_drewN | apply keep_drew | apply keep_alloc | refine keep_far ?_ GW360.out _ | refine keep_far ?_ GW374.out _) | exact HK.out)) hk (.inl rfl)); replace HB := Aside0.mk (hb); replace HI0 := Aside0.mk (hi); (try clear hb); (try clear hb2); (try clear hk); (try clear hi); have hnb103 := NB374_360.out; have hnc103 := NB360_374.out; have hnb104 := NB374_0.out; have hnc104 := NB0_374.out; have hcz105_0 : w102.cell? ⟨gb374, 0, none⟩ = some (.int .i64 t370) := bc BK374; have hcz105_1 : w102.cell? ⟨gb374, 1, none⟩ = some (u375001) := bc BK374; have hfz105_0 := blk_frozen BK374.out 0; have hfz105_1 := blk_frozen BK374.out 1; have hnb106 := NB360_0.out; have hnc106 := NB0_360.out; have hcz107_0 : w102.cell? ⟨gb360, 0, none⟩ = some (.int .i64 0) := bc BK360; have hcz107_1 : w102.cell? ⟨gb360, 1, none⟩ = some (.slice none 0 0) := bc BK360; have hfz107_0 := blk_frozen BK360.out 0; have hfz107_1 := blk_frozen BK360.out 1; obtain ⟨Ao108, co108, eo108⟩ := Kd.R_slice HO_375001.out; subst eo108))
                refine bodyPost_ret (results_cell_row rfl _ _ gb360 27 #[.int .i64 t370, .slice Ao108 x375001_25.length co108] (0, 0) _ rfl (by (with_reducible repeat (first | refine blk_drewN ?_ _ | refine blk_drew ?_ | refine blk_alloc ?_ _)); refine blk_put (cs := #[.int .i64 t370, .slice none 0 0]) ?_ 1 _ rfl; (with_reducible repeat (first | refine blk_drewN ?_ _ | refine blk_drew ?_ | refine blk_alloc ?_ _)); refine blk_put (cs := #[.int .i64 0, .slice none 0 0]) ?_ 0 _ rfl; (with_reducible repeat (first | refine blk_drewN ?_ _ | refine blk_drew ?_ | refine blk_alloc ?_ _)); exact BK360.out) Try.underlying27 rfl (by kernel_rfl)) rfl ?_
                exact ⟨_, Fin, by (with_reducible repeat (first | apply Kd.R_alloc | apply Kd.R_drewN | apply Kd.R_drew)); exact Kd.R_mono (Kd.R_far (p := ⟨gb360, 1, none⟩) (Kd.R_far (p := ⟨gb360, 0, none⟩) (Kd.R_types HO_375001.out BK360.out (by decide)) (fun _ hk => hk.2) (.int .i64 t370)) (fun _ hk => hk.2) (.slice Ao108 x375001_25.length co108)) (fun _ hk => trivial), by repeat (first | (with_reducible first | exact HI0.out | apply IsS75.alloc | apply IsS75.drewN | apply IsS75.drew | apply IsS75.set_1 | apply IsS75.set_2 | refine IsS75.far ?_ NB0_360.out _ | refine IsS75.far ?_ NB0_374.out _) | exact HI0.out), by repeat (first | (with_reducible first | exact HB.out | apply below_alloc | apply pw_below_drewN | apply below_drew1 | refine below_set ?_ (IsS75.ge HI0.out) | refine below_set ?_ GE360.out | refine below_set ?_ GE374.out) | exact HB.out), by repeat (first | (with_reducible first | exact HK.out | apply KeepBut.set_ | apply keep_drewN | apply keep_drew | apply keep_alloc | refine keep_far ?_ GW360.out _ | refine keep_far ?_ GW374.out _) | exact HK.out)⟩

end Go.Proofs.Ytpnlidfebnkgmaa.XFnWeightSums
