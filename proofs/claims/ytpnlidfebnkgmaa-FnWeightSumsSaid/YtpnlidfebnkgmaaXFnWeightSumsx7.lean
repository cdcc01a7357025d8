-- Written by ext.py (wip/) over the kit's print: not trusted, Lean checks it.
import Derived.Test.YtpnlidfebnkgmaaXFnWeightSumsx0
import Derived.Test.YtpnlidfebnkgmaaXFnWeightSumsx2
import Derived.Test.YtpnlidfebnkgmaaXFnWeightSumsx5
import Derived.Test.YtpnlidfebnkgmaaXFnWeightSumsx6
namespace Go.Proofs.Ytpnlidfebnkgmaa.XFnWeightSums
open Go.RowKit Go.Proofs.YtpnlidfebnkgmaaW.PrintWords Go.Proofs.YtpnlidfebnkgmaaW.PrintLast Go.Proofs.YtpnlidfebnkgmaaW.PrintMore
attribute [local go_sem] max2_int min2_int max_two min_two max_three min_three max_four min_four   -- for this text's walks alone
set_option linter.unusedVariables false
set_option linter.unusedSimpArgs false

/-! ### spec_DrawAddWeightings: function 6 -/
def spec_DrawAddWeightings.f (k : Nat) (l0 : List Int) : Option ((List (S68)) × Int × List Int × Int × List Int) := (spec_l01From.f k l0).bind fun bt414 => ((spec_l10Draw.f k bt414.1 bt414.2.1 bt414.2.2).bind fun bt418 => ((spec_l01Next.f bt414.1 bt418.2.1 bt418.2.2 5).bind fun bt423 => ((spec_l19Draw.f k bt414.1 bt423.2.1 bt423.2.2 bt418.1 (wrap64 (2 + bt423.1))).bind fun bt426 => ((spec_l19Draw.f k bt414.1 bt426.2.2.1 bt426.2.2.2 bt418.1 (wrap64 (2 + bt423.1))).bind fun bt433 => (some (bt418.1, bt426.1, bt426.2.1, bt433.1, bt433.2.1))))))
theorem spec_DrawAddWeightings.mono : ∀ a0 k, LeO (spec_DrawAddWeightings.f k a0) (spec_DrawAddWeightings.f (k + 1) a0) := by
  intro a0 k
  unfold spec_DrawAddWeightings.f
  repeat' first
      | (with_reducible exact spec_l01From.mono _ _)
      | (with_reducible exact spec_l10Draw.mono _ _ _ _)
      | (with_reducible exact spec_l19Draw.mono _ _ _ _ _ _)
      | (with_reducible exact LeO.refl _)
      | (with_reducible exact LeO.none _)
      | (with_reducible refine LeO.ite ?_ ?_)
      | (with_reducible refine LeO.bind ?_ (fun _ => ?_))
      | exact spec_l01From.mono _ _
      | exact spec_l10Draw.mono _ _ _ _
      | exact spec_l19Draw.mono _ _ _ _ _ _
      | exact LeO.none _
      | refine LeO.ite ?_ ?_
      | refine LeO.bind ?_ (fun _ => ?_)
def spec_DrawAddWeightings.T5 : Bool × List (List Nat × List Nat) := (true, [([], []), ([], []), ([], []), ([], []), ([], []), ([2, 3, 4], [2, 3, 4]), ([0, 5, 0], [0]), ([1, 6, 0, 1, 6], [1]), ([5, 7, 0, 1, 2, 3, 4, 5, 6, 7], [5])])
def spec_DrawAddWeightings.B5 : List Nat := [0, 0, 0, 0, 0, 28, 61, 127, 255]
theorem spec_DrawAddWeightings.tab5 : rtab .any (opsOf Try.f6 5) = spec_DrawAddWeightings.T5 := by kernel_rfl
theorem spec_DrawAddWeightings.bits5 : waitsOk spec_DrawAddWeightings.T5.2 spec_DrawAddWeightings.B5 = true := by kernel_rfl
set_option maxHeartbeats 8000000 in
set_option maxRecDepth 100000 in
theorem spec_DrawAddWeightings.calls (k : Nat) (A0 : Option Addr) (c0 : Nat) (l0 : List Int) (r1 : List (S68)) (r2 : Int) (r3 : List Int) (r4 : Int) (r5 : List Int) (w : World) (hr0 : Kd.C (Kd.int .u8) w A0 l0.length l0) (hc0 : l0.length ≤ c0) (h : spec_DrawAddWeightings.f k l0 = some (r1, r2, r3, r4, r5)) :
    Calls Try.prog 6 #[.slice A0 l0.length c0] w fun e w' => ∃ v0_ v2_ v4_ : Value, e = .returned (.tuple #[v0_, .agg #[.int .i64 r2, v2_], .agg #[.int .i64 r4, v4_]]) ∧ Kd.R k68 68 w' w.heap.size (fun _ => True) v0_ r1 ∧ Kd.R (Kd.int .i64) 2 w' w.heap.size (fun k_ => some k_ ≠ (v4_ : Value).ownBlock) v2_ r3 ∧ Kd.R (Kd.int .i64) 2 w' w.heap.size (fun k_ => some k_ ≠ (v2_ : Value).ownBlock) v4_ r5 ∧ Below w.heap.size w w' := by
  have hu27 := Try.underlying27
  have HR0 := Aside0.mk hr0
  have HC0 := Aside0.mk hc0
  clear hr0 hc0
  have HB := Aside0.mk (Below.refl w.heap.size w)
  have H : ((spec_l01From.f k l0).bind fun bt414 => ((spec_l10Draw.f k bt414.1 bt414.2.1 bt414.2.2).bind fun bt418 => ((spec_l01Next.f bt414.1 bt418.2.1 bt418.2.2 5).bind fun bt423 => ((spec_l19Draw.f k bt414.1 bt423.2.1 bt423.2.2 bt418.1 (wrap64 (2 + bt423.1))).bind fun bt426 => ((spec_l19Draw.f k bt414.1 bt426.2.2.1 bt426.2.2.2 bt418.1 (wrap64 (2 + bt423.1))).bind fun bt433 => (some (bt418.1, bt426.1, bt426.2.1, bt433.1, bt433.2.1))))))) = some (r1, r2, r3, r4, r5) := h
  clear h
  obtain ⟨⟨t414, t415, t416⟩, A20, H⟩ := Option.bind_eq_some_iff.mp H
  dsimp only at H
  have A2 := Aside0.mk A20
  clear A20
  obtain ⟨⟨t418, t421, t422⟩, A30, H⟩ := Option.bind_eq_some_iff.mp H
  dsimp only at H
  have A3 := Aside0.mk A30
  clear A30
  obtain ⟨⟨t423, t424, t425⟩, A40, H⟩ := Option.bind_eq_some_iff.mp H
  dsimp only at H
  have A4 := Aside0.mk A40
  clear A40
  obtain ⟨⟨t426, t427, t430, t431⟩, A50, H⟩ := Option.bind_eq_some_iff.mp H
  dsimp only at H
  have A5 := Aside0.mk A50
  clear A50
  obtain ⟨⟨t433, t434, t437, t438⟩, A60, H⟩ := Option.bind_eq_some_iff.mp H
  dsimp only at H
  have A6 := Aside0.mk A60
  clear A60
  simp only [Option.some.injEq, Prod.mk.injEq] at H
  obtain ⟨rfl, rfl, rfl, rfl, rfl⟩ := H
  go_enter Try.func6, Try.ntmps6
  try go_wp2_with (first | ((with_reducible refine gD 3 ?_); refine BX #[.int .i64 0, .slice none 0 0] 27 ?_; intro gb412 hg w7 hbox hb; have BK412 := Aside0.mk (hbox); have GW412 := Aside0.mk ((Gle hg Hb : w.heap.size ≤ gb412)); have GE412 := Aside0.mk ((Gle hg Hb : w.heap.size ≤ gb412)); replace HB := Aside0.mk (below_step Hb hb); clear hb hbox hg) | ((with_reducible refine gD 4 ?_); refine BX #[.int .i64 0, .slice none 0 0] 27 ?_; intro gb413 hg w8 hbox hb; have BK413 := Aside0.mk (hbox); have GW413 := Aside0.mk ((Gle hg Hb : w.heap.size ≤ gb413)); have GE413 := Aside0.mk ((Gle hg Hb : w.heap.size ≤ gb413)); replace HB := Aside0.mk (below_step Hb hb); have NB412_413 := Aside0.mk ((by rw [hg]; exact Nat.ne_of_lt (blk_lt (B1 BK412)) : gb412 ≠ gb413)); have NB413_412 := Aside0.mk ((by rw [hg]; exact Nat.ne_of_gt (blk_lt (B1 BK412)) : gb413 ≠ gb412)); replace BK412 := Aside0.mk (blk_below (B1 BK412) hb); clear hb hbox hg) | ((with_reducible refine gC 22 ?_); refine GL (some 10) Try.func22 #[.slice A0 l0.length c0] ?_; (with_reducible refine (spec_l01From.calls k _ _ l0 t414 t415 t416 w _ ?side1 ?side2 ?side3 A2.out).mono ?_); (case side1 => exact Hb); (case side2 => exact HR0.out); (case side3 => exact HC0.out); rintro e w9 ⟨g417, rfl, hi, hb, hb2⟩; refine ⟨_, rfl, ?_⟩; replace HB := Aside0.mk (hb); have HI417 := Aside0.mk (hi); have NB417_412 := Aside0.mk (IsS75.ne_blk hi (blk_below (B1 BK412) hb2) (by decide)); have NB412_417 := Aside0.mk (Ne.symm (IsS75.ne_blk hi (blk_below (B1 BK412) hb2) (by decide))); replace BK412 := Aside0.mk (blk_below (B1 BK412) hb2); have NB417_413 := Aside0.mk (IsS75.ne_blk hi (blk_below (B1 BK413) hb2) (by decide)); have NB413_417 := Aside0.mk (Ne.symm (IsS75.ne_blk hi (blk_below (B1 BK413) hb2) (by decide))); replace BK413 := Aside0.mk (blk_below (B1 BK413) hb2); (try clear hb); (try clear hb2); (try clear hk); (try clear hi)) | ((with_reducible refine gC 23 ?_); refine GL (some 12) Try.func23 #[.pointer (some ⟨g417, 0, none⟩)] ?_; (with_reducible refine (spec_l10Draw.calls k g417 t414 t415 t416 t418 t421 t422 w _ ?side1 ?side2 A3.out).mono ?_); (case side1 => repeat (first | (with_reducible first | exact HI417.out | apply IsS75.alloc | apply IsS75.drewN | apply IsS75.drew | apply IsS75.set_1 | apply IsS75.set_2 | refine IsS75.far ?_ NB417_412.out _ | refine IsS75.far ?_ NB417_413.out _) | exact HI417.out)); (case side2 => repeat (first | (with_reducible first | exact HB.out | apply below_alloc | apply pw_below_drewN | apply below_drew1 | refine below_set ?_ (IsS75.ge HI417.out) | refine below_set ?_ GE412.out | refine below_set ?_ GE413.out) | exact HB.out)); rintro e w10 ⟨v419, rfl, ho0, hi, hb, hk⟩; refine ⟨_, rfl, ?_⟩; replace BK412 := Aside0.mk (KeepBut.blk hk (g' := gb412) (o := .cells #[.int .i64 0, .slice none 0 0] 27 (0, 0)) (B1 BK412) NB412_417.out (by simp)); replace BK413 := Aside0.mk (KeepBut.blk hk (g' := gb413) (o := .cells #[.int .i64 0, .slice none 0 0] 27 (0, 0)) (B1 BK413) NB413_417.out (by simp)); have HO420 := Aside0.mk (Kd.R_lower ho0 (below_size (by repeat (first | (with_reducible first | exact HB.out | apply below_alloc | apply pw_below_drewN | apply below_drew1 | refine below_set ?_ (IsS75.ge HI417.out) | refine below_set ?_ GE412.out | refine below_set ?_ GE413.out) | exact HB.out)))); replace HB := Aside0.mk (hb); replace HI417 := Aside0.mk (hi); (try clear hb); (try clear hb2); (try clear hk); (try clear hi); (try clear ho0)) | ((with_reducible refine gC 24 ?_); refine GL (some 14) Try.func24 #[.pointer (some ⟨g417, 0, none⟩), .int .i64 5] ?_; (with_reducible refine (spec_l01Next.calls g417 t414 t421 t422 5 t423 t424 t425 w _ ?side1 ?side2 A4.out).mono ?_); (case side1 => repeat (first | (with_reducible first | exact HI417.out | apply IsS75.alloc | apply IsS75.drewN | apply IsS75.drew | apply IsS75.set_1 | apply IsS75.set_2 | refine IsS75.far ?_ NB417_412.out _ | refine IsS75.far ?_ NB417_413.out _) | exact HI417.out)); (case side2 => repeat (first | (with_reducible first | exact HB.out | apply below_alloc | apply pw_below_drewN | apply below_drew1 | refine below_set ?_ (IsS75.ge HI417.out) | refine below_set ?_ GE412.out | refine below_set ?_ GE413.out) | exact HB.out)); rintro e w11 ⟨rfl, hi, hb, hk⟩; refine ⟨_, rfl, ?_⟩; replace BK412 := Aside0.mk (KeepBut.blk hk (g' := gb412) (o := .cells #[.int .i64 0, .slice none 0 0] 27 (0, 0)) (B1 BK412) NB412_417.out (by simp)); replace BK413 := Aside0.mk (KeepBut.blk hk (g' := gb413) (o := .cells #[.int .i64 0, .slice none 0 0] 27 (0, 0)) (B1 BK413) NB413_417.out (by simp)); replace HO420 := Aside0.mk (Kd.R_mono (Kd.R_keep (IsS75.apart (show IsS75 w _ g417 t414 t421 t422 from by repeat (first | (with_reducible first | exact HI417.out | apply IsS75.alloc | apply IsS75.drewN | apply IsS75.drew | apply IsS75.set_1 | apply IsS75.set_2 | refine IsS75.far ?_ NB417_412.out _ | refine IsS75.far ?_ NB417_413.out _) | exact HI417.out)) (R1 HO420) (by decide)) hk (fun _ h => h.2)) (fun _ h => h.1)); replace HB := Aside0.mk (hb); replace HI417 := Aside0.mk (hi); (try clear hb); (try clear hb2); (try clear hk); (try clear hi); obtain ⟨Ao12, co12, eo12⟩ := Kd.R_slice HO420.out; subst eo12) | ((with_reducible refine gC 25 ?_); refine GL (some 19) Try.func25 #[.pointer (some ⟨g417, 0, none⟩), .slice Ao12 t418.length co12, .int .i64 (wrap64 (2 + t423))] ?_; (with_reducible refine (spec_l19Draw.calls k g417 t414 t424 t425 _ _ t418 (wrap64 (2 + t423)) t426 t427 t430 t431 w _ ?side1 ?side2 ?side3 ?side4 A5.out).mono ?_); (case side1 => repeat (first | (with_reducible first | exact HI417.out | apply IsS75.alloc | apply IsS75.drewN | apply IsS75.drew | apply IsS75.set_1 | apply IsS75.set_2 | refine IsS75.far ?_ NB417_412.out _ | refine IsS75.far ?_ NB417_413.out _) | exact HI417.out)); (case side2 => repeat (first | (with_reducible first | exact HB.out | apply below_alloc | apply pw_below_drewN | apply below_drew1 | refine below_set ?_ (IsS75.ge HI417.out) | refine below_set ?_ GE412.out | refine below_set ?_ GE413.out) | exact HB.out)); (case side3 => exact Kd.C_foot_own (IsS75.apart (show IsS75 w _ g417 t414 t424 t425 from by repeat (first | (with_reducible first | exact HI417.out | apply IsS75.alloc | apply IsS75.drewN | apply IsS75.drew | apply IsS75.set_1 | apply IsS75.set_2 | refine IsS75.far ?_ NB417_412.out _ | refine IsS75.far ?_ NB417_413.out _) | exact HI417.out)) (R1 HO420) (by decide)) (fun _ h_ => h_.2)); (case side4 => exact (Kd.R_reads' HO420.out).2.1); rintro e w13 ⟨v428, rfl, ho0, hi, hb, hk⟩; refine ⟨_, rfl, ?_⟩; replace BK412 := Aside0.mk (KeepBut.blk hk (g' := gb412) (o := .cells #[.int .i64 0, .slice none 0 0] 27 (0, 0)) (B1 BK412) NB412_417.out (by simp)); replace BK413 := Aside0.mk (KeepBut.blk hk (g' := gb413) (o := .cells #[.int .i64 0, .slice none 0 0] 27 (0, 0)) (B1 BK413) NB413_417.out (by simp)); replace HO420 := Aside0.mk (Kd.R_mono (Kd.R_keep (IsS75.apart (show IsS75 w _ g417 t414 t424 t425 from by repeat (first | (with_reducible first | exact HI417.out | apply IsS75.alloc | apply IsS75.drewN | apply IsS75.drew | apply IsS75.set_1 | apply IsS75.set_2 | refine IsS75.far ?_ NB417_412.out _ | refine IsS75.far ?_ NB417_413.out _) | exact HI417.out)) (R1 HO420) (by decide)) hk (fun _ h => h.2)) (fun _ h => h.1)); have HO429 := Aside0.mk (Kd.R_lower ho0 (below_size (by repeat (first | (with_reducible first | exact HB.out | apply below_alloc | apply pw_below_drewN | apply below_drew1 | refine below_set ?_ (IsS75.ge HI417.out) | refine below_set ?_ GE412.out | refine below_set ?_ GE413.out) | exact HB.out)))); replace HB := Aside0.mk (hb); replace HI417 := Aside0.mk (hi); (try clear hb); (try clear hb2); (try clear hk); (try clear hi); (try clear ho0)) | ((with_reducible refine gD 8 ?_); refine BX #[.int .i64 0, .slice none 0 0] 27 ?_; intro gb432 hg w14 hbox hb; replace HO420 := Aside0.mk (Kd.R_below (R1 HO420) hb); replace HO429 := Aside0.mk (Kd.R_below (R1 HO429) hb); have BK432 := Aside0.mk (hbox); have GW432 := Aside0.mk ((by rw [hg]; exact (below_size (by repeat (first | (with_reducible first | exact HB.out | apply below_alloc | apply pw_below_drewN | apply below_drew1 | refine below_set ?_ (IsS75.ge HI417.out) | refine below_set ?_ GE412.out | refine below_set ?_ GE413.out) | exact HB.out))) : w.heap.size ≤ gb432)); have GE432 := Aside0.mk ((by rw [hg]; exact (below_size (by repeat (first | (with_reducible first | exact HB.out | apply below_alloc | apply pw_below_drewN | apply below_drew1 | refine below_set ?_ (IsS75.ge HI417.out) | refine below_set ?_ GE412.out | refine below_set ?_ GE413.out) | exact HB.out))) : w.heap.size ≤ gb432)); replace HB := Aside0.mk (below_step (by repeat (first | (with_reducible first | exact HB.out | apply below_alloc | apply pw_below_drewN | apply below_drew1 | refine below_set ?_ (IsS75.ge HI417.out) | refine below_set ?_ GE412.out | refine below_set ?_ GE413.out) | exact HB.out)) hb); have NB412_432 := Aside0.mk ((by rw [hg]; exact Nat.ne_of_lt (blk_lt (B1 BK412)) : gb412 ≠ gb432)); have NB432_412 := Aside0.mk ((by rw [hg]; exact Nat.ne_of_gt (blk_lt (B1 BK412)) : gb432 ≠ gb412)); replace BK412 := Aside0.mk (blk_below (B1 BK412) hb); have NB413_432 := Aside0.mk ((by rw [hg]; exact Nat.ne_of_lt (blk_lt (B1 BK413)) : gb413 ≠ gb432)); have NB432_413 := Aside0.mk ((by rw [hg]; exact Nat.ne_of_gt (blk_lt (B1 BK413)) : gb432 ≠ gb413)); replace BK413 := Aside0.mk (blk_below (B1 BK413) hb); have NB417_432 := Aside0.mk ((by rw [hg]; exact Nat.ne_of_lt (IsS75.lt (show IsS75 w _ g417 t414 t430 t431 from by repeat (first | (with_reducible first | exact HI417.out | apply IsS75.alloc | apply IsS75.drewN | apply IsS75.drew | apply IsS75.set_1 | apply IsS75.set_2 | refine IsS75.far ?_ NB417_412.out _ | refine IsS75.far ?_ NB417_413.out _) | exact HI417.out))) : g417 ≠ gb432)); have NB432_417 := Aside0.mk ((by rw [hg]; exact Nat.ne_of_gt (IsS75.lt (show IsS75 w _ g417 t414 t430 t431 from by repeat (first | (with_reducible first | exact HI417.out | apply IsS75.alloc | apply IsS75.drewN | apply IsS75.drew | apply IsS75.set_1 | apply IsS75.set_2 | refine IsS75.far ?_ NB417_412.out _ | refine IsS75.far ?_ NB417_413.out _) | exact HI417.out))) : gb432 ≠ g417)); replace HI417 := Aside0.mk (IsS75.below (by repeat (first | (with_reducible first | exact HI417.out | apply IsS75.alloc | apply IsS75.drewN | apply IsS75.drew | apply IsS75.set_1 | apply IsS75.set_2 | refine IsS75.far ?_ NB417_412.out _ | refine IsS75.far ?_ NB417_413.out _) | exact HI417.out)) hb); clear hb hbox hg; have hnb15 := NB432_412.out; have hnc15 := NB412_432.out; have hnb16 := NB432_413.out; have hnc16 := NB413_432.out; have hnb17 := NB432_417.out; have hnc17 := NB417_432.out; have hcz18_0 : w14.cell? ⟨gb432, 0, none⟩ = some (.int .i64 0) := bc BK432; have hcz18_1 : w14.cell? ⟨gb432, 1, none⟩ = some (.slice none 0 0) := bc BK432; have hfz18_0 := blk_frozen BK432.out 0; have hfz18_1 := blk_frozen BK432.out 1; obtain ⟨Ao19, co19, eo19⟩ := Kd.R_slice HO429.out; subst eo19))
  have n0_ : Aside0 (Kd.R k68 68 ((w14.setCell ⟨gb432, 0, none⟩ (.int .i64 t426)).setCell ⟨gb432, 1, none⟩ (.slice Ao19 t427.length co19)) w.heap.size (fun _ => True) (.slice Ao12 t418.length co12) t418) := ⟨by (with_reducible repeat (first | apply Kd.R_alloc | apply Kd.R_drewN | apply Kd.R_drew)); exact Kd.R_mono (Kd.R_far (p := ⟨gb432, 1, none⟩) (Kd.R_far (p := ⟨gb432, 0, none⟩) (Kd.R_types HO420.out BK432.out (by decide)) (fun _ hk => hk.2) (.int .i64 t426)) (fun _ hk => hk.2) (.slice Ao19 t427.length co19)) (fun _ hk => trivial)⟩
  have n1_ : Aside0 (Kd.R (Kd.int .i64) 2 ((w14.setCell ⟨gb432, 0, none⟩ (.int .i64 t426)).setCell ⟨gb432, 1, none⟩ (.slice Ao19 t427.length co19)) w.heap.size (fun _ => True) (.slice Ao19 t427.length co19) t427) := ⟨by (with_reducible repeat (first | apply Kd.R_alloc | apply Kd.R_drewN | apply Kd.R_drew)); exact Kd.R_mono (Kd.R_far (p := ⟨gb432, 1, none⟩) (Kd.R_far (p := ⟨gb432, 0, none⟩) (Kd.R_types HO429.out BK432.out (by decide)) (fun _ hk => hk.2) (.int .i64 t426)) (fun _ hk => hk.2) (.slice Ao19 t427.length co19)) (fun _ hk => trivial)⟩
  have n2_ : Aside0 (((w14.setCell ⟨gb432, 0, none⟩ (.int .i64 t426)).setCell ⟨gb432, 1, none⟩ (.slice Ao19 t427.length co19)).heap[gb412]? = some (.cells #[.int .i64 0, .slice none 0 0] 27 (0, 0))) := ⟨by (with_reducible repeat (first | refine blk_drewN ?_ _ | refine blk_drew ?_ | refine blk_alloc ?_ _)); refine blk_far ?_ NB412_432.out _; (with_reducible repeat (first | refine blk_drewN ?_ _ | refine blk_drew ?_ | refine blk_alloc ?_ _)); refine blk_far ?_ NB412_432.out _; (with_reducible repeat (first | refine blk_drewN ?_ _ | refine blk_drew ?_ | refine blk_alloc ?_ _)); exact BK412.out⟩
  have n3_ : Aside0 (((w14.setCell ⟨gb432, 0, none⟩ (.int .i64 t426)).setCell ⟨gb432, 1, none⟩ (.slice Ao19 t427.length co19)).heap[gb413]? = some (.cells #[.int .i64 0, .slice none 0 0] 27 (0, 0))) := ⟨by (with_reducible repeat (first | refine blk_drewN ?_ _ | refine blk_drew ?_ | refine blk_alloc ?_ _)); refine blk_far ?_ NB413_432.out _; (with_reducible repeat (first | refine blk_drewN ?_ _ | refine blk_drew ?_ | refine blk_alloc ?_ _)); refine blk_far ?_ NB413_432.out _; (with_reducible repeat (first | refine blk_drewN ?_ _ | refine blk_drew ?_ | refine blk_alloc ?_ _)); exact BK413.out⟩
  have n4_ : Aside0 (((w14.setCell ⟨gb432, 0, none⟩ (.int .i64 t426)).setCell ⟨gb432, 1, none⟩ (.slice Ao19 t427.length co19)).heap[gb432]? = some (.cells #[.int .i64 t426, .slice Ao19 t427.length co19] 27 (0, 0))) := ⟨by (with_reducible repeat (first | refine blk_drewN ?_ _ | refine blk_drew ?_ | refine blk_alloc ?_ _)); refine blk_put (cs := #[.int .i64 t426, .slice none 0 0]) ?_ 1 _ rfl; (with_reducible repeat (first | refine blk_drewN ?_ _ | refine blk_drew ?_ | refine blk_alloc ?_ _)); refine blk_put (cs := #[.int .i64 0, .slice none 0 0]) ?_ 0 _ rfl; (with_reducible repeat (first | refine blk_drewN ?_ _ | refine blk_drew ?_ | refine blk_alloc ?_ _)); exact BK432.out⟩
  have n5_ : Aside0 (IsS75 w ((w14.setCell ⟨gb432, 0, none⟩ (.int .i64 t426)).setCell ⟨gb432, 1, none⟩ (.slice Ao19 t427.length co19)) g417 t414 t430 t431) := ⟨by repeat (first | (with_reducible first | exact HI417.out | apply IsS75.alloc | apply IsS75.drewN | apply IsS75.drew | apply IsS75.set_1 | apply IsS75.set_2 | refine IsS75.far ?_ NB417_412.out _ | refine IsS75.far ?_ NB417_413.out _ | refine IsS75.far ?_ NB417_432.out _) | exact HI417.out)⟩
  have n6_ : Aside0 (Below w.heap.size w ((w14.setCell ⟨gb432, 0, none⟩ (.int .i64 t426)).setCell ⟨gb432, 1, none⟩ (.slice Ao19 t427.length co19))) := ⟨by repeat (first | (with_reducible first | exact HB.out | apply below_alloc | apply pw_below_drewN | apply below_drew1 | refine below_set ?_ (IsS75.ge HI417.out) | refine below_set ?_ GE412.out | refine below_set ?_ GE413.out | refine below_set ?_ GE432.out) | exact HB.out)⟩
  (try clear HO420)
  (try clear HO429)
  (try clear BK412)
  (try clear BK413)
  (try clear BK432)
  (try clear HI417)
  (try clear HB)
  generalize ((w14.setCell ⟨gb432, 0, none⟩ (.int .i64 t426)).setCell ⟨gb432, 1, none⟩ (.slice Ao19 t427.length co19)) = w20 at n0_ n1_ n2_ n3_ n4_ n5_ n6_ ⊢
  have HO420 := n0_
  have HO429 := n1_
  have BK412 := n2_
  have BK413 := n3_
  have BK432 := n4_
  have HI417 := n5_
  have HB := n6_
  clear n0_ n1_ n2_ n3_ n4_ n5_ n6_
  replace HO420 := Aside0.mk (Kd.R_drew HO420.out)
  replace HO429 := Aside0.mk (Kd.R_drew HO429.out)
  replace BK412 := Aside0.mk (blk_drew BK412.out)
  replace BK413 := Aside0.mk (blk_drew BK413.out)
  replace BK432 := Aside0.mk (blk_drew BK432.out)
  replace HI417 := Aside0.mk (IsS75.drew HI417.out)
  replace HB := Aside0.mk (below_drew1 HB.out)
  refine start_ (n := 9) (S := fun w' => w'.cell? ⟨gb432, 0, none⟩ = some (.int .i64 t426) ∧ w'.cell? ⟨gb432, 1, none⟩ = some (.slice Ao19 t427.length co19)) (ds := []) #[false, false, false, false, false, false, false, false, false] (by kernel_rfl) rfl rfl ⟨(blk_cell BK432.out 0).trans rfl, (blk_cell BK432.out 1).trans rfl⟩ (fun hHeld => ?_); refine with_tabW spec_DrawAddWeightings.tab5 spec_DrawAddWeightings.bits5 (fun HT_ HW_ => ?_)
  generalize w20.drew = w21 at HO420 HO429 BK412 BK413 BK432 HI417 HB hHeld ⊢
  refine PU 0 20 ?_
  refine PU 2 22 ?_
  refine PU 3 23 ?_
  refine PU 4 24 ?_
  refine TK 1 21 hHeld ?_
  refine ON 5 25 (fun K hK => ?_)
  refine GO Try.func25 #[.pointer (some ⟨g417, 0, none⟩), .slice Ao12 t418.length co12, .int .i64 (wrap64 (2 + t423))] ?_
  with_reducible refine (spec_l19Draw.calls k g417 t414 t430 t431 _ _ t418 (wrap64 (2 + t423)) t433 t434 t437 t438 w _ ?side1 ?side2 ?side3 ?side4 A6.out).mono ?_
  (case side1 => repeat (first | (with_reducible first | exact HI417.out | apply IsS75.alloc | apply IsS75.drewN | apply IsS75.drew | apply IsS75.set_1 | apply IsS75.set_2 | refine IsS75.far ?_ NB417_412.out _ | refine IsS75.far ?_ NB417_413.out _ | refine IsS75.far ?_ NB417_432.out _) | exact HI417.out))
  (case side2 => repeat (first | (with_reducible first | exact HB.out | apply below_alloc | apply pw_below_drewN | apply below_drew1 | refine below_set ?_ (IsS75.ge HI417.out) | refine below_set ?_ GE412.out | refine below_set ?_ GE413.out | refine below_set ?_ GE432.out) | exact HB.out))
  (case side3 => exact Kd.C_foot_own (IsS75.apart (show IsS75 w _ g417 t414 t430 t431 from by repeat (first | (with_reducible first | exact HI417.out | apply IsS75.alloc | apply IsS75.drewN | apply IsS75.drew | apply IsS75.set_1 | apply IsS75.set_2 | refine IsS75.far ?_ NB417_412.out _ | refine IsS75.far ?_ NB417_413.out _ | refine IsS75.far ?_ NB417_432.out _) | exact HI417.out)) (R1 HO420) (by decide)) (fun _ h_ => h_.2))
  (case side4 => exact (Kd.R_reads' HO420.out).2.1)
  rintro e w22 ⟨v435, rfl, ho0, hi, hb, hk⟩
  refine ⟨_, rfl, ?_⟩
  replace BK412 := Aside0.mk (KeepBut.blk hk (g' := gb412) (o := .cells #[.int .i64 0, .slice none 0 0] 27 (0, 0)) (B1 BK412) NB412_417.out (by simp))
  replace BK413 := Aside0.mk (KeepBut.blk hk (g' := gb413) (o := .cells #[.int .i64 0, .slice none 0 0] 27 (0, 0)) (B1 BK413) NB413_417.out (by simp))
  replace HO420 := Aside0.mk (Kd.R_mono (Kd.R_keep (IsS75.apart (show IsS75 w _ g417 t414 t430 t431 from by repeat (first | (with_reducible first | exact HI417.out | apply IsS75.alloc | apply IsS75.drewN | apply IsS75.drew | apply IsS75.set_1 | apply IsS75.set_2 | refine IsS75.far ?_ NB417_412.out _ | refine IsS75.far ?_ NB417_413.out _ | refine IsS75.far ?_ NB417_432.out _) | exact HI417.out)) (R1 HO420) (by decide)) hk (fun _ h => h.2)) (fun _ h => h.1))
  replace BK432 := Aside0.mk (KeepBut.blk hk (g' := gb432) (o := .cells #[.int .i64 t426, .slice Ao19 t427.length co19] 27 (0, 0)) (B1 BK432) NB432_417.out (by simp))
  have HO436 := Aside0.mk (Kd.R_lower (Kd.R_new' ho0 (Kd.R_lt (R1 HO429))) (below_size (by repeat (first | (with_reducible first | exact HB.out | apply below_alloc | apply pw_below_drewN | apply below_drew1 | refine below_set ?_ (IsS75.ge HI417.out) | refine below_set ?_ GE412.out | refine below_set ?_ GE413.out | refine below_set ?_ GE432.out) | exact HB.out))))
  replace HO429 := Aside0.mk (Kd.R_mono (Kd.R_told (Kd.R_oldK (IsS75.apart (show IsS75 w _ g417 t414 t430 t431 from by repeat (first | (with_reducible first | exact HI417.out | apply IsS75.alloc | apply IsS75.drewN | apply IsS75.drew | apply IsS75.set_1 | apply IsS75.set_2 | refine IsS75.far ?_ NB417_412.out _ | refine IsS75.far ?_ NB417_413.out _ | refine IsS75.far ?_ NB417_432.out _) | exact HI417.out)) (R1 HO429) (by decide)) hk) (Kd.R_base ho0)) (fun _ h_ => h_.1))
  replace HB := Aside0.mk (hb)
  replace HI417 := Aside0.mk (hi)
  (try clear hb)
  (try clear hb2)
  (try clear hk)
  (try clear hi)
  (try clear ho0)
  obtain ⟨Ao26, co26, eo26⟩ := Kd.R_slice HO436.out
  (first | subst eo26 | (injection eo26 with f1_ f2_ f3_; have f4_ := f1_.symm; have f5_ := f3_.symm; clear f1_ f2_ f3_; subst f4_; subst f5_))
  refine hK.out _ _ ⟨(blk_cell BK432.out 0).trans rfl, (blk_cell BK432.out 1).trans rfl⟩ (fun hHeld => ?_)
  clear hK K
  refine NM 25 ?_
  refine PU 6 2 ?_
  refine one_ (i := 7) (N := none) #[true, true, true, true, true, true, true, true, false] rfl rfl (one_of HT_.out (by kernel_rfl)) (by decide) (fun K hK => ?_)
  have hs23 : w22.cell? ⟨gb412, 0, none⟩ = some (.int .i64 0) := (blk_cell BK412.out 0).trans rfl
  have hfs23 := blk_frozen BK412.out 0
  have hns23_1 := NB413_412.out
  have hns23_2 := NB432_412.out
  have hms23_1 := NB412_413.out
  have hms23_2 := NB412_432.out
  have hs24 : w22.cell? ⟨gb412, 1, none⟩ = some (.slice none 0 0) := (blk_cell BK412.out 1).trans rfl
  have hfs24 := blk_frozen BK412.out 1
  have hns24_1 := NB413_412.out
  have hns24_2 := NB432_412.out
  have hms24_1 := NB412_413.out
  have hms24_2 := NB412_432.out
  refine skip_ (w1 := ?_) (by rfl) rfl ?_ ?_
  rotate_left
  · go_simp
    rfl
  refine hK.out _ _ ⟨((cell_far (p := ⟨gb412, _, none⟩) NB432_412.out _).trans (((cell_far (p := ⟨gb412, _, none⟩) NB432_412.out _).trans (hHeld.1)))), ((cell_far (p := ⟨gb412, _, none⟩) NB432_412.out _).trans (((cell_far (p := ⟨gb412, _, none⟩) NB432_412.out _).trans (hHeld.2))))⟩ (fun hHeld => ?_)
  clear hK K
  refine one_ (i := 8) (N := none) #[true, true, true, true, true, true, true, true, true] rfl rfl (one_of HT_.out (by kernel_rfl)) (by decide) (fun K hK => ?_)
  have hs25 : w22.cell? ⟨gb413, 0, none⟩ = some (.int .i64 0) := (blk_cell BK413.out 0).trans rfl
  have hfs25 := blk_frozen BK413.out 0
  have hns25_0 := NB412_413.out
  have hns25_2 := NB432_413.out
  have hms25_0 := NB413_412.out
  have hms25_2 := NB413_432.out
  have hs27 : w22.cell? ⟨gb413, 1, none⟩ = some (.slice none 0 0) := (blk_cell BK413.out 1).trans rfl
  have hfs27 := blk_frozen BK413.out 1
  have hns27_0 := NB412_413.out
  have hns27_2 := NB432_413.out
  have hms27_0 := NB413_412.out
  have hms27_2 := NB413_432.out
  refine skip_ (w1 := ?_) (by rfl) rfl ?_ ?_
  rotate_left
  · go_simp
    rfl
  refine hK.out _ _ ⟨((cell_far (p := ⟨gb413, _, none⟩) NB432_413.out _).trans (((cell_far (p := ⟨gb413, _, none⟩) NB432_413.out _).trans (hHeld.1)))), ((cell_far (p := ⟨gb413, _, none⟩) NB432_413.out _).trans (((cell_far (p := ⟨gb413, _, none⟩) NB432_413.out _).trans (hHeld.2))))⟩ (fun hHeld => ?_)
  clear hK K
  refine done_ (done_of HT_.out (by kernel_rfl)) ?_
  try go_wp2
  refine bodyPost_ret (results_list (rs := [.tmp 2, .cell 3 27, .cell 4 27]) rfl (by simp) (.tmp (.cell gb412 27 #[.int .i64 t426, .slice Ao19 t427.length co19] (0, 0) _ rfl (by (with_reducible repeat (first | refine blk_drewN ?_ _ | refine blk_drew ?_ | refine blk_alloc ?_ _)); refine blk_far ?_ NB412_413.out _; (with_reducible repeat (first | refine blk_drewN ?_ _ | refine blk_drew ?_ | refine blk_alloc ?_ _)); refine blk_far ?_ NB412_413.out _; (with_reducible repeat (first | refine blk_drewN ?_ _ | refine blk_drew ?_ | refine blk_alloc ?_ _)); refine blk_put (cs := #[.int .i64 t426, .slice none 0 0]) ?_ 1 _ rfl; (with_reducible repeat (first | refine blk_drewN ?_ _ | refine blk_drew ?_ | refine blk_alloc ?_ _)); refine blk_put (cs := #[.int .i64 0, .slice none 0 0]) ?_ 0 _ rfl; (with_reducible repeat (first | refine blk_drewN ?_ _ | refine blk_drew ?_ | refine blk_alloc ?_ _)); exact BK412.out) Try.underlying27 rfl (by kernel_rfl) (.cell gb413 27 #[.int .i64 t433, .slice Ao26 t434.length co26] (0, 0) _ rfl (by (with_reducible repeat (first | refine blk_drewN ?_ _ | refine blk_drew ?_ | refine blk_alloc ?_ _)); refine blk_put (cs := #[.int .i64 t433, .slice none 0 0]) ?_ 1 _ rfl; (with_reducible repeat (first | refine blk_drewN ?_ _ | refine blk_drew ?_ | refine blk_alloc ?_ _)); refine blk_put (cs := #[.int .i64 0, .slice none 0 0]) ?_ 0 _ rfl; (with_reducible repeat (first | refine blk_drewN ?_ _ | refine blk_drew ?_ | refine blk_alloc ?_ _)); refine blk_far ?_ NB413_412.out _; (with_reducible repeat (first | refine blk_drewN ?_ _ | refine blk_drew ?_ | refine blk_alloc ?_ _)); refine blk_far ?_ NB413_412.out _; (with_reducible repeat (first | refine blk_drewN ?_ _ | refine blk_drew ?_ | refine blk_alloc ?_ _)); exact BK413.out) Try.underlying27 rfl (by kernel_rfl) .nil)))) rfl ?_
  exact ⟨_, _, _, Fin, by (with_reducible repeat (first | apply Kd.R_alloc | apply Kd.R_drewN | apply Kd.R_drew)); exact Kd.R_mono (Kd.R_far (p := ⟨gb413, 1, none⟩) (Kd.R_far (p := ⟨gb413, 0, none⟩) (Kd.R_far (p := ⟨gb412, 1, none⟩) (Kd.R_far (p := ⟨gb412, 0, none⟩) (Kd.R_types (Kd.R_types HO420.out BK412.out (by decide)) BK413.out (by decide)) (fun _ hk => hk.1.2) (.int .i64 t426)) (fun _ hk => hk.1.2) (.slice Ao19 t427.length co19)) (fun _ hk => hk.2) (.int .i64 t433)) (fun _ hk => hk.2) (.slice Ao26 t434.length co26)) (fun _ hk => trivial), by (with_reducible repeat (first | apply Kd.R_alloc | apply Kd.R_drewN | apply Kd.R_drew)); exact Kd.R_mono (Kd.R_far (p := ⟨gb413, 1, none⟩) (Kd.R_far (p := ⟨gb413, 0, none⟩) (Kd.R_far (p := ⟨gb412, 1, none⟩) (Kd.R_far (p := ⟨gb412, 0, none⟩) (Kd.R_types (Kd.R_types HO429.out BK412.out (by decide)) BK413.out (by decide)) (fun _ hk => hk.1.2) (.int .i64 t426)) (fun _ hk => hk.1.2) (.slice Ao19 t427.length co19)) (fun _ hk => hk.2) (.int .i64 t433)) (fun _ hk => hk.2) (.slice Ao26 t434.length co26)) (fun _ hk => hk.1.1.2), by (with_reducible repeat (first | apply Kd.R_alloc | apply Kd.R_drewN | apply Kd.R_drew)); exact Kd.R_mono (Kd.R_far (p := ⟨gb413, 1, none⟩) (Kd.R_far (p := ⟨gb413, 0, none⟩) (Kd.R_far (p := ⟨gb412, 1, none⟩) (Kd.R_far (p := ⟨gb412, 0, none⟩) (Kd.R_types (Kd.R_types HO436.out BK412.out (by decide)) BK413.out (by decide)) (fun _ hk => hk.1.2) (.int .i64 t426)) (fun _ hk => hk.1.2) (.slice Ao19 t427.length co19)) (fun _ hk => hk.2) (.int .i64 t433)) (fun _ hk => hk.2) (.slice Ao26 t434.length co26)) (fun _ hk => hk.1.1.2), by repeat (first | (with_reducible first | exact HB.out | apply below_alloc | apply pw_below_drewN | apply below_drew1 | refine below_set ?_ (IsS75.ge HI417.out) | refine below_set ?_ GE412.out | refine below_set ?_ GE413.out | refine below_set ?_ GE432.out) | exact HB.out)⟩

/-! ### impl_within: function 59 -/
def impl_within.f (a0 : Int) (a1 : Int) (a2 : Int) : Option (Bool) := if a0 ≥ a1 then (some (decide (a0 ≤ a2))) else (some false)
set_option maxHeartbeats 8000000 in
set_option maxRecDepth 100000 in
theorem impl_within.calls (a0 : Int) (a1 : Int) (a2 : Int) (r : Bool) (w : World) (h : impl_within.f a0 a1 a2 = some r) :
    Calls Try.prog 59 #[.int .i64 a0, .int .i64 a1, .int .i64 a2] w fun e w' => e = .returned (.bool r) ∧ Drawn0 w w' := by
  have H : (if a0 ≥ a1 then (some (decide (a0 ≤ a2))) else (some false)) = some r := h
  clear h
  by_cases c4 : a0 ≥ a1
  · rw [if_pos c4] at H
    have c4b0 : decide (a1 ≤ a0) = true := decide_eq_true c4
    clear c4
    obtain rfl := Option.some.inj H
    go_enter Try.func59, Try.ntmps59
    go_wp2
    go_ret
    exact ⟨Fs, by repeat (first | exact Drawn0.refl _ | apply Drawn0.step)⟩
  · rw [if_neg c4] at H
    have c4b0 : decide (a1 ≤ a0) = false := decide_eq_false c4
    clear c4
    obtain rfl := Option.some.inj H
    go_enter Try.func59, Try.ntmps59
    go_wp2
    go_ret
    exact ⟨Fs, by repeat (first | exact Drawn0.refl _ | apply Drawn0.step)⟩

/-! ### impl_isCoordinate: function 66 -/
def impl_isCoordinate.f (a0 : Int) : Option (Bool) := (impl_within.f a0 (-100) 100).bind fun t439 => (some t439)
set_option maxHeartbeats 8000000 in
set_option maxRecDepth 100000 in
theorem impl_isCoordinate.calls (a0 : Int) (r : Bool) (w : World) (h : impl_isCoordinate.f a0 = some r) :
    Calls Try.prog 66 #[.int .i64 a0] w fun e w' => e = .returned (.bool r) ∧ Drawn0 w w' := by
  have H : ((impl_within.f a0 (-100) 100).bind fun t439 => (some t439)) = some r := h
  clear h
  obtain ⟨t439, A20, H⟩ := Option.bind_eq_some_iff.mp H
  have A2 := Aside0.mk A20
  clear A20
  obtain rfl := Option.some.inj H
  go_enter Try.func66, Try.ntmps66
  go_wp2_with (first | ((with_reducible refine gC 59 ?_); refine GL (some 4) Try.func59 #[.int .i64 a0, .int .i64 (-100), .int .i64 100] ?_; (with_reducible refine (impl_within.calls a0 (-100) 100 t439 _ A2.out).mono ?_); rintro e w' ⟨rfl, ⟨nd, rfl⟩⟩; refine ⟨_, rfl, ?_⟩))
  go_ret
  exact ⟨Fs, by repeat (first | exact Drawn0.refl _ | apply Drawn0.step)⟩

/-! ### cmp_isNaN_int64: function 87 -/
def cmp_isNaN_int64.f (a0 : Int) : Option (Bool) := some (a0 != a0)
set_option maxHeartbeats 8000000 in
set_option maxRecDepth 100000 in
theorem cmp_isNaN_int64.calls (a0 : Int) (r : Bool) (w : World) (h : cmp_isNaN_int64.f a0 = some r) :
    Calls Try.prog 87 #[.int .i64 a0] w fun e w' => e = .returned (.bool r) ∧ Drawn0 w w' := by
  have H : (some (a0 != a0)) = some r := h
  clear h
  obtain rfl := Option.some.inj H
  go_enter Try.func87, Try.ntmps87
  go_wp2
  go_ret
  exact ⟨Fs, by repeat (first | exact Drawn0.refl _ | apply Drawn0.step)⟩

/-! ### cmp_Compare_int64: function 79 -/
def cmp_Compare_int64.f (a0 : Int) (a1 : Int) : Option (Int) := (cmp_isNaN_int64.f a0).bind fun t440 => ((cmp_isNaN_int64.f a1).bind fun t441 => (if t440 = true then (if t441 = true then (some 0) else (some (-1))) else (if t441 = true then (some 1) else (if a0 < a1 then (some (-1)) else (if a0 > a1 then (some 1) else (some 0))))))
set_option maxHeartbeats 8000000 in
set_option maxRecDepth 100000 in
theorem cmp_Compare_int64.calls (a0 : Int) (a1 : Int) (r : Int) (w : World) (h : cmp_Compare_int64.f a0 a1 = some r) :
    Calls Try.prog 79 #[.int .i64 a0, .int .i64 a1] w fun e w' => e = .returned (.int .i64 r) ∧ Drawn0 w w' := by
  have H : ((cmp_isNaN_int64.f a0).bind fun t440 => ((cmp_isNaN_int64.f a1).bind fun t441 => (if t440 = true then (if t441 = true then (some 0) else (some (-1))) else (if t441 = true then (some 1) else (if a0 < a1 then (some (-1)) else (if a0 > a1 then (some 1) else (some 0))))))) = some r := h
  clear h
  obtain ⟨t440, A30, H⟩ := Option.bind_eq_some_iff.mp H
  have A3 := Aside0.mk A30
  clear A30
  obtain ⟨t441, A40, H⟩ := Option.bind_eq_some_iff.mp H
  have A4 := Aside0.mk A40
  clear A40
  by_cases c5 : t440 = true
  · subst c5
    rw [if_pos rfl] at H
    by_cases c6 : t441 = true
    · subst c6
      rw [if_pos rfl] at H
      obtain rfl := Option.some.inj H
      go_enter Try.func79, Try.ntmps79
      go_wp2_with (first | ((with_reducible refine gC 87 ?_); refine GL (some 8) Try.func87 #[.int .i64 a0] ?_; (with_reducible refine (cmp_isNaN_int64.calls a0 true _ A3.out).mono ?_); rintro e w' ⟨rfl, ⟨nd, rfl⟩⟩; refine ⟨_, rfl, ?_⟩) | ((with_reducible refine gC 87 ?_); refine GL (some 10) Try.func87 #[.int .i64 a1] ?_; (with_reducible refine (cmp_isNaN_int64.calls a1 true _ A4.out).mono ?_); rintro e w' ⟨rfl, ⟨nd, rfl⟩⟩; refine ⟨_, rfl, ?_⟩))
      go_ret
      exact ⟨Fs, by repeat (first | exact Drawn0.refl _ | apply Drawn0.step)⟩
    · replace c6 := Bool.eq_false_iff.mpr c6
      subst c6
      rw [if_neg (show ¬ (false = true) by decide)] at H
      obtain rfl := Option.some.inj H
      go_enter Try.func79, Try.ntmps79
      go_wp2_with (first | ((with_reducible refine gC 87 ?_); refine GL (some 8) Try.func87 #[.int .i64 a0] ?_; (with_reducible refine (cmp_isNaN_int64.calls a0 true _ A3.out).mono ?_); rintro e w' ⟨rfl, ⟨nd, rfl⟩⟩; refine ⟨_, rfl, ?_⟩) | ((with_reducible refine gC 87 ?_); refine GL (some 10) Try.func87 #[.int .i64 a1] ?_; (with_reducible refine (cmp_isNaN_int64.calls a1 false _ A4.out).mono ?_); rintro e w' ⟨rfl, ⟨nd, rfl⟩⟩; refine ⟨_, rfl, ?_⟩))
      go_ret
      exact ⟨Fs, by repeat (first | exact Drawn0.refl _ | apply Drawn0.step)⟩
  · replace c5 := Bool.eq_false_iff.mpr c5
    subst c5
    rw [if_neg (show ¬ (false = true) by decide)] at H
    by_cases c7 : t441 = true
    · subst c7
      rw [if_pos rfl] at H
      obtain rfl := Option.some.inj H
      go_enter Try.func79, Try.ntmps79
      go_wp2_with (first | ((with_reducible refine gC 87 ?_); refine GL (some 8) Try.func87 #[.int .i64 a0] ?_; (with_reducible refine (cmp_isNaN_int64.calls a0 false _ A3.out).mono ?_); rintro e w' ⟨rfl, ⟨nd, rfl⟩⟩; refine ⟨_, rfl, ?_⟩) | ((with_reducible refine gC 87 ?_); refine GL (some 10) Try.func87 #[.int .i64 a1] ?_; (with_reducible refine (cmp_isNaN_int64.calls a1 true _ A4.out).mono ?_); rintro e w' ⟨rfl, ⟨nd, rfl⟩⟩; refine ⟨_, rfl, ?_⟩))
      go_ret
      exact ⟨Fs, by repeat (first | exact Drawn0.refl _ | apply Drawn0.step)⟩
    · replace c7 := Bool.eq_false_iff.mpr c7
      subst c7
      rw [if_neg (show ¬ (false = true) by decide)] at H
      by_cases c8 : a0 < a1
      · rw [if_pos c8] at H
        have c8b0 : decide (a0 < a1) = true := decide_eq_true c8
        clear c8
        obtain rfl := Option.some.inj H
        go_enter Try.func79, Try.ntmps79
        go_wp2_with (first | ((with_reducible refine gC 87 ?_); refine GL (some 8) Try.func87 #[.int .i64 a0] ?_; (with_reducible refine (cmp_isNaN_int64.calls a0 false _ A3.out).mono ?_); rintro e w' ⟨rfl, ⟨nd, rfl⟩⟩; refine ⟨_, rfl, ?_⟩) | ((with_reducible refine gC 87 ?_); refine GL (some 10) Try.func87 #[.int .i64 a1] ?_; (with_reducible refine (cmp_isNaN_int64.calls a1 false _ A4.out).mono ?_); rintro e w' ⟨rfl, ⟨nd, rfl⟩⟩; refine ⟨_, rfl, ?_⟩))
        go_ret
        exact ⟨Fs, by repeat (first | exact Drawn0.refl _ | apply Drawn0.step)⟩
      · rw [if_neg c8] at H
        have c8b0 : decide (a0 < a1) = false := decide_eq_false c8
        clear c8
        by_cases c9 : a0 > a1
        · rw [if_pos c9] at H
          have c9b0 : decide (a1 < a0) = true := decide_eq_true c9
          clear c9
          obtain rfl := Option.some.inj H
          go_enter Try.func79, Try.ntmps79
          go_wp2_with (first | ((with_reducible refine gC 87 ?_); refine GL (some 8) Try.func87 #[.int .i64 a0] ?_; (with_reducible refine (cmp_isNaN_int64.calls a0 false _ A3.out).mono ?_); rintro e w' ⟨rfl, ⟨nd, rfl⟩⟩; refine ⟨_, rfl, ?_⟩) | ((with_reducible refine gC 87 ?_); refine GL (some 10) Try.func87 #[.int .i64 a1] ?_; (with_reducible refine (cmp_isNaN_int64.calls a1 false _ A4.out).mono ?_); rintro e w' ⟨rfl, ⟨nd, rfl⟩⟩; refine ⟨_, rfl, ?_⟩))
          go_ret
          exact ⟨Fs, by repeat (first | exact Drawn0.refl _ | apply Drawn0.step)⟩
        · rw [if_neg c9] at H
          have c9b0 : decide (a1 < a0) = false := decide_eq_false c9
          clear c9
          obtain rfl := Option.some.inj H
          go_enter Try.func79, Try.ntmps79
          go_wp2_with (first | ((with_reducible refine gC 87 ?_); refine GL (some 8) Try.func87 #[.int .i64 a0] ?_; (with_reducible refine (cmp_isNaN_int64.calls a0 false _ A3.out).mono ?_); rintro e w' ⟨rfl, ⟨nd, rfl⟩⟩; refine ⟨_, rfl, ?_⟩) | ((with_reducible refine gC 87 ?_); refine GL (some 10) Try.func87 #[.int .i64 a1] ?_; (with_reducible refine (cmp_isNaN_int64.calls a1 false _ A4.out).mono ?_); rintro e w' ⟨rfl, ⟨nd, rfl⟩⟩; refine ⟨_, rfl, ?_⟩))
          go_ret
          exact ⟨Fs, by repeat (first | exact Drawn0.refl _ | apply Drawn0.step)⟩

/-! ### impl_compareCells: function 67 -/
def impl_compareCells.f (a0_0 : Int) (a0_1 : Int) (a1_0 : Int) (a1_1 : Int) : Option (Int) := (cmp_Compare_int64.f a0_1 a1_1).bind fun t444 => (if t444 = 0 then ((cmp_Compare_int64.f a0_0 a1_0).bind fun t445 => (some t445)) else (some t444))
set_option maxHeartbeats 8000000 in
set_option maxRecDepth 100000 in
theorem impl_compareCells.calls (a0_0 : Int) (a0_1 : Int) (a1_0 : Int) (a1_1 : Int) (r : Int) (w : World) (h : impl_compareCells.f a0_0 a0_1 a1_0 a1_1 = some r) :
    Calls Try.prog 67 #[.agg #[.int .i64 a0_0, .int .i64 a0_1], .agg #[.int .i64 a1_0, .int .i64 a1_1]] w fun e w' => e = .returned (.int .i64 r) ∧ Below w.heap.size w w' := by
  have hu68 := Try.underlying68
  have HB := Aside0.mk (Below.refl w.heap.size w)
  have H : ((cmp_Compare_int64.f a0_1 a1_1).bind fun t444 => (if t444 = 0 then ((cmp_Compare_int64.f a0_0 a1_0).bind fun t445 => (some t445)) else (some t444))) = some r := h
  clear h
  obtain ⟨t444, A30, H⟩ := Option.bind_eq_some_iff.mp H
  have A3 := Aside0.mk A30
  clear A30
  by_cases c4 : t444 = 0
  · rw [if_pos c4] at H
    have c4b0 : (t444 == 0) = true := beq_iff_eq.mpr c4
    have c4b1 : (t444 != 0) = false := bne_eq_false_iff_eq.mpr c4
    clear c4
    obtain ⟨t445, A50, H⟩ := Option.bind_eq_some_iff.mp H
    have A5 := Aside0.mk A50
    clear A50
    obtain rfl := Option.some.inj H
    go_enter Try.func67, Try.ntmps67
    go_wp2_with (first | ((with_reducible refine gD 2 ?_); refine BX #[.int .i64 a0_0, .int .i64 a0_1] 68 ?_; intro gb442 hg w6 hbox hb; have BK442 := Aside0.mk (hbox); have GW442 := Aside0.mk ((Gle hg Hb : w.heap.size ≤ gb442)); have GE442 := Aside0.mk ((Gle hg Hb : w.heap.size ≤ gb442)); replace HB := Aside0.mk (below_step Hb hb); clear hb hbox hg) | ((with_reducible refine gD 3 ?_); refine BX #[.int .i64 a1_0, .int .i64 a1_1] 68 ?_; intro gb443 hg w7 hbox hb; have BK443 := Aside0.mk (hbox); have GW443 := Aside0.mk ((Gle hg Hb : w.heap.size ≤ gb443)); have GE443 := Aside0.mk ((Gle hg Hb : w.heap.size ≤ gb443)); replace HB := Aside0.mk (below_step Hb hb); have NB442_443 := Aside0.mk ((by rw [hg]; exact Nat.ne_of_lt (blk_lt (B1 BK442)) : gb442 ≠ gb443)); have NB443_442 := Aside0.mk ((by rw [hg]; exact Nat.ne_of_gt (blk_lt (B1 BK442)) : gb443 ≠ gb442)); replace BK442 := Aside0.mk (blk_below (B1 BK442) hb); clear hb hbox hg; have hnb8 := NB442_443.out; have hnc8 := NB443_442.out; have hcz9_0 : w7.cell? ⟨gb442, 0, none⟩ = some (.int .i64 a0_0) := bc BK442; have hcz9_1 : w7.cell? ⟨gb442, 1, none⟩ = some (.int .i64 a0_1) := bc BK442; have hfz9_0 := blk_frozen BK442.out 0; have hfz9_1 := blk_frozen BK442.out 1; have hcz10_0 : w7.cell? ⟨gb443, 0, none⟩ = some (.int .i64 a1_0) := bc BK443; have hcz10_1 : w7.cell? ⟨gb443, 1, none⟩ = some (.int .i64 a1_1) := bc BK443; have hfz10_0 := blk_frozen BK443.out 0; have hfz10_1 := blk_frozen BK443.out 1) | ((with_reducible refine gC 79 ?_); refine GL (some 10) Try.func79 #[.int .i64 a0_1, .int .i64 a1_1] ?_; (with_reducible refine (cmp_Compare_int64.calls a0_1 a1_1 t444 _ A3.out).mono ?_); rintro e w' ⟨rfl, ⟨nd, rfl⟩⟩; refine ⟨_, rfl, ?_⟩) | ((with_reducible refine gC 79 ?_); refine GL (some 18) Try.func79 #[.int .i64 a0_0, .int .i64 a1_0] ?_; (with_reducible refine (cmp_Compare_int64.calls a0_0 a1_0 t445 _ A5.out).mono ?_); rintro e w' ⟨rfl, ⟨nd, rfl⟩⟩; refine ⟨_, rfl, ?_⟩))
    go_ret
    exact ⟨Fin, Hb⟩
  · rw [if_neg c4] at H
    have c4b0 : (t444 == 0) = false := beq_eq_false_iff_ne.mpr c4
    have c4b1 : (t444 != 0) = true := bne_iff_ne.mpr c4
    obtain rfl := Option.some.inj H
    go_enter Try.func67, Try.ntmps67
    go_wp2_with (first | ((with_reducible refine gD 2 ?_); refine BX #[.int .i64 a0_0, .int .i64 a0_1] 68 ?_; intro gb442 hg w11 hbox hb; have BK442 := Aside0.mk (hbox); have GW442 := Aside0.mk ((Gle hg Hb : w.heap.size ≤ gb442)); have GE442 := Aside0.mk ((Gle hg Hb : w.heap.size ≤ gb442)); replace HB := Aside0.mk (below_step Hb hb); clear hb hbox hg) | ((with_reducible refine gD 3 ?_); refine BX #[.int .i64 a1_0, .int .i64 a1_1] 68 ?_; intro gb443 hg w12 hbox hb; have BK443 := Aside0.mk (hbox); have GW443 := Aside0.mk ((Gle hg Hb : w.heap.size ≤ gb443)); have GE443 := Aside0.mk ((Gle hg Hb : w.heap.size ≤ gb443)); replace HB := Aside0.mk (below_step Hb hb); have NB442_443 := Aside0.mk ((by rw [hg]; exact Nat.ne_of_lt (blk_lt (B1 BK442)) : gb442 ≠ gb443)); have NB443_442 := Aside0.mk ((by rw [hg]; exact Nat.ne_of_gt (blk_lt (B1 BK442)) : gb443 ≠ gb442)); replace BK442 := Aside0.mk (blk_below (B1 BK442) hb); clear hb hbox hg; have hnb13 := NB442_443.out; have hnc13 := NB443_442.out; have hcz14_0 : w12.cell? ⟨gb442, 0, none⟩ = some (.int .i64 a0_0) := bc BK442; have hcz14_1 : w12.cell? ⟨gb442, 1, none⟩ = some (.int .i64 a0_1) := bc BK442; have hfz14_0 := blk_frozen BK442.out 0; have hfz14_1 := blk_frozen BK442.out 1; have hcz15_0 : w12.cell? ⟨gb443, 0, none⟩ = some (.int .i64 a1_0) := bc BK443; have hcz15_1 : w12.cell? ⟨gb443, 1, none⟩ = some (.int .i64 a1_1) := bc BK443; have hfz15_0 := blk_frozen BK443.out 0; have hfz15_1 := blk_frozen BK443.out 1) | ((with_reducible refine gC 79 ?_); refine GL (some 10) Try.func79 #[.int .i64 a0_1, .int .i64 a1_1] ?_; (with_reducible refine (cmp_Compare_int64.calls a0_1 a1_1 t444 _ A3.out).mono ?_); rintro e w' ⟨rfl, ⟨nd, rfl⟩⟩; refine ⟨_, rfl, ?_⟩))
    go_ret
    exact ⟨Fin, Hb⟩

/-! ### impl_IsShape: function 41 -/
def impl_IsShape.l0 : Nat → List (S68) → List (S68) → Int → Int → Option (Bool)
  | 0, _, _, _, _ => none
  | k + 1, x0, x5, x6, x7 => if x7 < x6 then (if 0 ≤ x7 then (if x7 < (x5.length : Int) then ((impl_isCoordinate.f ((rd_T68 x5 x7).f0)).bind fun t448 => (if t448 = true then ((impl_isCoordinate.f ((rd_T68 x5 x7).f1)).bind fun t449 => (if t449 = true then (if x7 > 0 then (if 0 ≤ (wrap64 (x7 - 1)) then (if (wrap64 (x7 - 1)) < (x0.length : Int) then ((impl_compareCells.f ((rd_T68 x0 (wrap64 (x7 - 1))).f0) ((rd_T68 x0 (wrap64 (x7 - 1))).f1) ((rd_T68 x5 x7).f0) ((rd_T68 x5 x7).f1)).bind fun t451 => (if t451 ≥ 0 then (some false) else (impl_IsShape.l0 k x0 x5 x6 (wrap64 (x7 + 1))))) else (none)) else (none)) else (impl_IsShape.l0 k x0 x5 x6 (wrap64 (x7 + 1)))) else (some false))) else (some false))) else (none)) else (none)) else (if (x0.length : Int) ≥ 1 then (some (decide ((x0.length : Int) ≤ 40))) else (some false))
def impl_IsShape.f (k : Nat) (l0 : List (S68)) : Option (Bool) := impl_IsShape.l0 k l0 l0 (l0.length : Int) 0
theorem impl_IsShape.mono_l : ∀ k, (∀ y0 y1 y2 y3, LeO (impl_IsShape.l0 k y0 y1 y2 y3) (impl_IsShape.l0 (k + 1) y0 y1 y2 y3))
  | 0 => fun _ _ _ _ r h => by simp [impl_IsShape.l0] at h
  | k + 1 => by
    have ih0 := impl_IsShape.mono_l k
    · intro y0 y1 y2 y3
      unfold impl_IsShape.l0
      repeat' first
      | (with_reducible exact ih0 _ _ _ _)
      | (with_reducible exact LeO.refl _)
      | (with_reducible exact LeO.none _)
      | (with_reducible refine LeO.ite ?_ ?_)
      | (with_reducible refine LeO.bind ?_ (fun _ => ?_))
      | exact ih0 _ _ _ _
      | exact LeO.none _
      | refine LeO.ite ?_ ?_
      | refine LeO.bind ?_ (fun _ => ?_)
theorem impl_IsShape.mono : ∀ a0 k, LeO (impl_IsShape.f k a0) (impl_IsShape.f (k + 1) a0) := by
  intro a0 k
  have ih0 := impl_IsShape.mono_l k
  unfold impl_IsShape.f
  repeat' first
      | (with_reducible exact ih0 _ _ _ _)
      | (with_reducible exact LeO.refl _)
      | (with_reducible exact LeO.none _)
      | (with_reducible refine LeO.ite ?_ ?_)
      | (with_reducible refine LeO.bind ?_ (fun _ => ?_))
      | exact ih0 _ _ _ _
      | exact LeO.none _
      | refine LeO.ite ?_ ?_
      | refine LeO.bind ?_ (fun _ => ?_)
def impl_IsShape.T4 : Bool × List (List Nat × List Nat) := (true, [([], []), ([0], [0]), ([1], [1]), ([2], [2]), ([3, 2], [3]), ([4], [4]), ([5, 4], [4, 5]), ([6, 4, 4], [4, 6]), ([7, 4], [4, 7]), ([4, 8], [4, 8]), ([9, 7], [9]), ([10], [10]), ([11, 10], [10, 11]), ([12, 10, 10], [10, 12]), ([13], [13]), ([13], [13]), ([15, 13], [13, 15]), ([14, 16, 13], [13, 14, 16]), ([17, 13], [13, 17]), ([13], [13]), ([18, 19, 13, 13], [13, 18, 19]), ([20, 13], [13, 20]), ([13, 21, 10], [10, 13, 21]), ([10, 22], [10, 22])])
def impl_IsShape.B4 : List Nat := [0, 1, 3, 7, 15, 31, 63, 127, 255, 511, 1023, 2047, 4095, 8191, 16383, 16383, 49151, 131071, 262143, 16383, 1048575, 2097151, 4194303, 8388607]
theorem impl_IsShape.tab4 : rtab .any (opsOf Try.f41 4) = impl_IsShape.T4 := by kernel_rfl
theorem impl_IsShape.bits4 : waitsOk impl_IsShape.T4.2 impl_IsShape.B4 = true := by kernel_rfl
set_option maxHeartbeats 8000000 in
set_option maxRecDepth 100000 in
theorem impl_IsShape.calls (k : Nat) (A0 : Option Addr) (c0 : Nat) (l0 : List (S68)) (r : Bool) (w : World) (hr0 : Kd.C k68 w A0 l0.length l0) (hc0 : l0.length ≤ c0) (h : impl_IsShape.f k l0 = some r) :
    Calls Try.prog 41 #[.slice A0 l0.length c0] w fun e w' => e = .returned (.bool r) ∧ Below w.heap.size w w' := by
  have hu68 := Try.underlying68
  have HR0 := Aside0.mk hr0
  have HC0 := Aside0.mk hc0
  clear hr0 hc0
  have HB := Aside0.mk (Below.refl w.heap.size w)
  have H : (impl_IsShape.l0 k l0 l0 (l0.length : Int) 0) = some r := h
  clear h
  have H' := Aside0.mk H
  clear H
  go_enter Try.func41, Try.ntmps41
  go_wp2
  go_loopg [7] k (fun kq v7 w' => ∃ (x7_1 : Int), v7 = .int .i64 x7_1 ∧ Aside0 (impl_IsShape.l0 kq l0 l0 (l0.length : Int) x7_1 = some r) ∧ Aside0 (kq ≤ k) ∧ Aside0 (Below w.heap.size w w'))
  case atStart => exact ⟨(0), Fs, H', ⟨Nat.le_refl _⟩, ⟨Hb⟩⟩
  case round =>
    clear H'
    obtain ⟨x7_1, rfl, HA, HK1, HB⟩ := hrel
    cases gk with
    | zero => exact absurd HA.out (by simp [impl_IsShape.l0])
    | succ k1 =>
      have H := HA.out
      clear HA
      simp only [impl_IsShape.l0] at H
      by_cases c2 : x7_1 < (l0.length : Int)
      · rw [if_pos c2] at H
        have c2b0 : decide (x7_1 < (l0.length : Int)) = true := decide_eq_true c2
        clear c2
        by_cases c3 : 0 ≤ x7_1
        · rw [if_pos c3] at H
          have c3b0 : decide (0 ≤ x7_1) = true := decide_eq_true c3
          clear c3
          by_cases c4 : x7_1 < (l0.length : Int)
          · rw [if_pos c4] at H
            have c4b0 : decide (x7_1 < (l0.length : Int)) = true := decide_eq_true c4
            clear c4
            obtain ⟨t448, A50, H⟩ := Option.bind_eq_some_iff.mp H
            have A5 := Aside0.mk A50
            clear A50
            by_cases c6 : t448 = true
            · subst c6
              rw [if_pos rfl] at H
              obtain ⟨t449, A70, H⟩ := Option.bind_eq_some_iff.mp H
              have A7 := Aside0.mk A70
              clear A70
              by_cases c8 : t449 = true
              · subst c8
                rw [if_pos rfl] at H
                by_cases c9 : x7_1 > 0
                · rw [if_pos c9] at H
                  have c9b0 : decide (0 < x7_1) = true := decide_eq_true c9
                  clear c9
                  obtain ⟨ji10, hji10⟩ : ∃ j_ : Int, (wrap64 (x7_1 - 1)) = j_ := ⟨_, rfl⟩
                  replace H : (if 0 ≤ (ji10) then (if (ji10) < (l0.length : Int) then ((impl_compareCells.f ((rd_T68 l0 (ji10)).f0) ((rd_T68 l0 (ji10)).f1) ((rd_T68 l0 x7_1).f0) ((rd_T68 l0 x7_1).f1)).bind fun t451 => (if t451 ≥ 0 then (some false) else (impl_IsShape.l0 k1 l0 l0 (l0.length : Int) (wrap64 (x7_1 + 1))))) else (none)) else (none)) = some r := by first | (rw [hji10] at H; exact H) | (simp only [hji10] at H ⊢; exact H)
                  (try rw [hji10] at A5)
                  (try rw [hji10] at A7)
                  have hji10w : (IntKind.i64.wrap (x7_1 - 1)) = ji10 := (i64_w _).trans hji10
                  by_cases c11 : 0 ≤ (ji10)
                  · rw [if_pos c11] at H
                    have c11b0 : decide (0 ≤ (ji10)) = true := decide_eq_true c11
                    clear c11
                    by_cases c12 : (ji10) < (l0.length : Int)
                    · rw [if_pos c12] at H
                      have c12b0 : decide ((ji10) < (l0.length : Int)) = true := decide_eq_true c12
                      clear c12
                      obtain ⟨t451, A130, H⟩ := Option.bind_eq_some_iff.mp H
                      have A13 := Aside0.mk A130
                      clear A130
                      by_cases c14 : t451 ≥ 0
                      · rw [if_pos c14] at H
                        have c14b0 : decide (0 ≤ t451) = true := decide_eq_true c14
                        clear c14
                        obtain rfl := Option.some.inj H
                        have p446 : 0 ≤ (x7_1 : Int) := oD
                        have q446 : x7_1 < (l0.length : Int) := oD
                        obtain ⟨ad446, e446, hx446_0, hx446_1⟩ := at_T68 HR0.out x7_1 p446 q446
                        cases e446
                        replace hx446_0 := hxb hx446_0
                        replace hx446_1 := hxb hx446_1
                        replace p446 := eq_true p446
                        replace q446 := eq_true q446
                        try go_wp2_with (first | ((with_reducible refine gD 4 ?_); (try (refine gate_guard (by rfl) ?_; dsimp only)); refine BX #[.int .i64 0, .int .i64 0] 68 ?_; intro gb447 hg w15 hbox hb; have BK447 := Aside0.mk (hbox); have GW447 := Aside0.mk ((Gle hg Hb : w.heap.size ≤ gb447)); have GE447 := Aside0.mk ((Gle hg Hb : w.heap.size ≤ gb447)); replace HB := Aside0.mk (below_step Hb hb); clear hb hbox hg; have hcz16_0 : w15.cell? ⟨gb447, 0, none⟩ = some (.int .i64 0) := bc BK447; have hcz16_1 : w15.cell? ⟨gb447, 1, none⟩ = some (.int .i64 0) := bc BK447; have hfz16_0 := blk_frozen BK447.out 0; have hfz16_1 := blk_frozen BK447.out 1))
                        have n0_ : Aside0 (((w15.setCell ⟨gb447, 0, none⟩ (.int .i64 ((rd_T68 l0 x7_1).f0))).setCell ⟨gb447, 1, none⟩ (.int .i64 ((rd_T68 l0 x7_1).f1))).heap[gb447]? = some (.cells #[.int .i64 ((rd_T68 l0 x7_1).f0), .int .i64 ((rd_T68 l0 x7_1).f1)] 68 (0, 0))) := ⟨by (with_reducible repeat (first | refine blk_drewN ?_ _ | refine blk_drew ?_ | refine blk_alloc ?_ _)); refine blk_put (cs := #[.int .i64 ((rd_T68 l0 x7_1).f0), .int .i64 0]) ?_ 1 _ rfl; (with_reducible repeat (first | refine blk_drewN ?_ _ | refine blk_drew ?_ | refine blk_alloc ?_ _)); refine blk_put (cs := #[.int .i64 0, .int .i64 0]) ?_ 0 _ rfl; (with_reducible repeat (first | refine blk_drewN ?_ _ | refine blk_drew ?_ | refine blk_alloc ?_ _)); exact BK447.out⟩
                        have n1_ : Aside0 (Below w.heap.size w ((w15.setCell ⟨gb447, 0, none⟩ (.int .i64 ((rd_T68 l0 x7_1).f0))).setCell ⟨gb447, 1, none⟩ (.int .i64 ((rd_T68 l0 x7_1).f1)))) := ⟨Hb⟩
                        (try clear BK447)
                        (try clear HB)
                        generalize ((w15.setCell ⟨gb447, 0, none⟩ (.int .i64 ((rd_T68 l0 x7_1).f0))).setCell ⟨gb447, 1, none⟩ (.int .i64 ((rd_T68 l0 x7_1).f1))) = w17 at n0_ n1_ ⊢
                        have BK447 := n0_
                        have HB := n1_
                        clear n0_ n1_
                        replace BK447 := Aside0.mk (blk_drew BK447.out)
                        replace HB := Aside0.mk (below_drew1 HB.out)
                        have p450 : 0 ≤ ((ji10) : Int) := oD
                        have q450 : (ji10) < (l0.length : Int) := oD
                        obtain ⟨ad450, e450, hx450_0, hx450_1⟩ := at_T68 HR0.out (ji10) p450 q450
                        have hw450_1 := hx450_1
                        have hw450_0 := hx450_0
                        obtain rfl : ad446 = ad450 := (by injection e450)
                        replace hx450_0 := hxb hx450_0
                        replace hx450_1 := hxb hx450_1
                        replace p450 := eq_true p450
                        replace q450 := eq_true q450
                        refine start_ (n := 24) (S := fun w' => w'.cell? ⟨gb447, 0, none⟩ = some (.int .i64 ((rd_T68 l0 x7_1).f0)) ∧ w'.cell? ⟨gb447, 1, none⟩ = some (.int .i64 ((rd_T68 l0 x7_1).f1)) ∧ w'.cell? (ad446.add (((ji10)).toNat * 2)) = some (.int .i64 ((rd_T68 l0 (ji10)).f0)) ∧ w'.cell? ⟨(ad446.add (((ji10)).toNat * 2)).block, (ad446.add (((ji10)).toNat * 2)).off + 1, none⟩ = some (.int .i64 ((rd_T68 l0 (ji10)).f1))) (ds := []) #[false, false, false, false, false, false, false, false, false, false, false, false, false, false, false, false, false, false, false, false, false, false, false, false] (by kernel_rfl) rfl rfl ⟨(blk_cell BK447.out 0).trans rfl, (blk_cell BK447.out 1).trans rfl, (hxb hw450_0), (hxb hw450_1)⟩ (fun hHeld => ?_); refine with_tabW impl_IsShape.tab4 impl_IsShape.bits4 (fun HT_ HW_ => ?_)
                        generalize w17.drew = w18 at BK447 HB hx450_0 hx450_1 hHeld ⊢
                        refine PU 0 12 ?_
                        refine TK 1 13 hHeld ?_
                        refine ON 2 14 (fun K hK => ?_)
                        refine GO Try.func66 #[.int .i64 ((rd_T68 l0 x7_1).f0)] ?_
                        with_reducible refine (impl_isCoordinate.calls ((rd_T68 l0 x7_1).f0) true _ A5.out).mono ?_
                        rintro e w' ⟨rfl, ⟨nd, rfl⟩⟩
                        refine ⟨_, rfl, ?_⟩
                        refine hK.out _ _ ⟨(blk_cell BK447.out 0).trans rfl, (blk_cell BK447.out 1).trans rfl, (hxb hw450_0), (hxb hw450_1)⟩ (fun hHeld => ?_)
                        clear hK K
                        refine NM 14 ?_
                        refine PU 3 15 ?_
                        refine PU 4 16 ?_
                        refine PU 5 17 ?_
                        refine TK 6 18 hHeld ?_
                        refine ON 7 19 (fun K hK => ?_)
                        refine GO Try.func66 #[.int .i64 ((rd_T68 l0 x7_1).f1)] ?_
                        with_reducible refine (impl_isCoordinate.calls ((rd_T68 l0 x7_1).f1) true _ A7.out).mono ?_
                        rintro e w' ⟨rfl, ⟨nd, rfl⟩⟩
                        refine ⟨_, rfl, ?_⟩
                        refine hK.out _ _ ⟨(blk_cell BK447.out 0).trans rfl, (blk_cell BK447.out 1).trans rfl, (hxb hw450_0), (hxb hw450_1)⟩ (fun hHeld => ?_)
                        clear hK K
                        refine NM 19 ?_
                        refine PU 8 20 ?_
                        refine PU 9 21 ?_
                        refine PU 10 22 ?_
                        refine PU 11 23 ?_
                        refine PU 12 24 ?_
                        refine PU 13 25 ?_
                        refine PU 14 26 ?_
                        refine PU 15 27 ?_
                        refine PU 16 28 ?_
                        refine PU 17 29 ?_
                        refine TK 18 30 hHeld ?_
                        refine TK 19 31 hHeld ?_
                        refine ON 20 32 (fun K hK => ?_)
                        refine goes_ Try.func67 (by kernel_rfl) rfl #[.agg #[.int .i64 ((rd_T68 l0 (ji10)).f0), .int .i64 ((rd_T68 l0 (ji10)).f1)], .agg #[.int .i64 ((rd_T68 l0 x7_1).f0), .int .i64 ((rd_T68 l0 x7_1).f1)]] (by rfl) rfl rfl (by (try simp only [List.map_toArray, List.map_cons, List.map_nil]); first | done | (simp only [hji10]; rfl) | rfl | (simp only [List.length_drop, List.length_take]; rfl)) ?_
                        with_reducible refine (impl_compareCells.calls ((rd_T68 l0 (ji10)).f0) ((rd_T68 l0 (ji10)).f1) ((rd_T68 l0 x7_1).f0) ((rd_T68 l0 x7_1).f1) t451 _ A13.out).mono ?_
                        rintro e w19 ⟨rfl, hb⟩
                        refine ⟨_, rfl, ?_⟩
                        replace BK447 := Aside0.mk (blk_below (B1 BK447) hb)
                        replace HB := Aside0.mk (below_step Hb hb)
                        (try clear hb)
                        (try clear hb2)
                        (try clear hk)
                        (try clear hi)
                        refine hK.out _ _ ⟨(blk_cell BK447.out 0).trans rfl, (blk_cell BK447.out 1).trans rfl, (hxb hw450_0), (hxb hw450_1)⟩ (fun hHeld => ?_)
                        clear hK K
                        refine NM 32 ?_
                        refine PU 21 33 ?_
                        refine PU 22 34 ?_
                        refine PU 23 35 ?_
                        refine done_ (done_of HT_.out (by kernel_rfl)) ?_
                        try go_wp2
                        go_ret
                        exact ⟨by first | rfl | (simp [errW_none, errW_some] <;> rfl) | (simp only [← hji10]; first | rfl | (simp [errW_none, errW_some] <;> rfl)) | (simp [*, errW_none, errW_some] <;> rfl), Hb⟩
                      · rw [if_neg c14] at H
                        have c14b0 : decide (0 ≤ t451) = false := decide_eq_false c14
                        clear c14
                        have H' := Aside0.mk H
                        clear H
                        have p446 : 0 ≤ (x7_1 : Int) := oD
                        have q446 : x7_1 < (l0.length : Int) := oD
                        obtain ⟨ad446, e446, hx446_0, hx446_1⟩ := at_T68 HR0.out x7_1 p446 q446
                        cases e446
                        replace hx446_0 := hxb hx446_0
                        replace hx446_1 := hxb hx446_1
                        replace p446 := eq_true p446
                        replace q446 := eq_true q446
                        try go_wp2_with (first | ((with_reducible refine gD 4 ?_); (try (refine gate_guard (by rfl) ?_; dsimp only)); refine BX #[.int .i64 0, .int .i64 0] 68 ?_; intro gb447 hg w20 hbox hb; have BK447 := Aside0.mk (hbox); have GW447 := Aside0.mk ((Gle hg Hb : w.heap.size ≤ gb447)); have GE447 := Aside0.mk ((Gle hg Hb : w.heap.size ≤ gb447)); replace HB := Aside0.mk (below_step Hb hb); clear hb hbox hg; have hcz21_0 : w20.cell? ⟨gb447, 0, none⟩ = some (.int .i64 0) := bc BK447; have hcz21_1 : w20.cell? ⟨gb447, 1, none⟩ = some (.int .i64 0) := bc BK447; have hfz21_0 := blk_frozen BK447.out 0; have hfz21_1 := blk_frozen BK447.out 1))
                        have n0_ : Aside0 (((w20.setCell ⟨gb447, 0, none⟩ (.int .i64 ((rd_T68 l0 x7_1).f0))).setCell ⟨gb447, 1, none⟩ (.int .i64 ((rd_T68 l0 x7_1).f1))).heap[gb447]? = some (.cells #[.int .i64 ((rd_T68 l0 x7_1).f0), .int .i64 ((rd_T68 l0 x7_1).f1)] 68 (0, 0))) := ⟨by (with_reducible repeat (first | refine blk_drewN ?_ _ | refine blk_drew ?_ | refine blk_alloc ?_ _)); refine blk_put (cs := #[.int .i64 ((rd_T68 l0 x7_1).f0), .int .i64 0]) ?_ 1 _ rfl; (with_reducible repeat (first | refine blk_drewN ?_ _ | refine blk_drew ?_ | refine blk_alloc ?_ _)); refine blk_put (cs := #[.int .i64 0, .int .i64 0]) ?_ 0 _ rfl; (with_reducible repeat (first | refine blk_drewN ?_ _ | refine blk_drew ?_ | refine blk_alloc ?_ _)); exact BK447.out⟩
                        have n1_ : Aside0 (Below w.heap.size w ((w20.setCell ⟨gb447, 0, none⟩ (.int .i64 ((rd_T68 l0 x7_1).f0))).setCell ⟨gb447, 1, none⟩ (.int .i64 ((rd_T68 l0 x7_1).f1)))) := ⟨Hb⟩
                        (try clear BK447)
                        (try clear HB)
                        generalize ((w20.setCell ⟨gb447, 0, none⟩ (.int .i64 ((rd_T68 l0 x7_1).f0))).setCell ⟨gb447, 1, none⟩ (.int .i64 ((rd_T68 l0 x7_1).f1))) = w22 at n0_ n1_ ⊢
                        have BK447 := n0_
                        have HB := n1_
                        clear n0_ n1_
                        replace BK447 := Aside0.mk (blk_drew BK447.out)
                        replace HB := Aside0.mk (below_drew1 HB.out)
                        have p450 : 0 ≤ ((ji10) : Int) := oD
                        have q450 : (ji10) < (l0.length : Int) := oD
                        obtain ⟨ad450, e450, hx450_0, hx450_1⟩ := at_T68 HR0.out (ji10) p450 q450
                        have hw450_1 := hx450_1
                        have hw450_0 := hx450_0
                        obtain rfl : ad446 = ad450 := (by injection e450)
                        replace hx450_0 := hxb hx450_0
                        replace hx450_1 := hxb hx450_1
                        replace p450 := eq_true p450
                        replace q450 := eq_true q450
                        refine start_ (n := 24) (S := fun w' => w'.cell? ⟨gb447, 0, none⟩ = some (.int .i64 ((rd_T68 l0 x7_1).f0)) ∧ w'.cell? ⟨gb447, 1, none⟩ = some (.int .i64 ((rd_T68 l0 x7_1).f1)) ∧ w'.cell? (ad446.add (((ji10)).toNat * 2)) = some (.int .i64 ((rd_T68 l0 (ji10)).f0)) ∧ w'.cell? ⟨(ad446.add (((ji10)).toNat * 2)).block, (ad446.add (((ji10)).toNat * 2)).off + 1, none⟩ = some (.int .i64 ((rd_T68 l0 (ji10)).f1))) (ds := []) #[false, false, false, false, false, false, false, false, false, false, false, false, false, false, false, false, false, false, false, false, false, false, false, false] (by kernel_rfl) rfl rfl ⟨(blk_cell BK447.out 0).trans rfl, (blk_cell BK447.out 1).trans rfl, (hxb hw450_0), (hxb hw450_1)⟩ (fun hHeld => ?_); refine with_tabW impl_IsShape.tab4 impl_IsShape.bits4 (fun HT_ HW_ => ?_)
                        generalize w22.drew = w23 at BK447 HB hx450_0 hx450_1 hHeld ⊢
                        refine PU 0 12 ?_
                        refine TK 1 13 hHeld ?_
                        refine ON 2 14 (fun K hK => ?_)
                        refine GO Try.func66 #[.int .i64 ((rd_T68 l0 x7_1).f0)] ?_
                        with_reducible refine (impl_isCoordinate.calls ((rd_T68 l0 x7_1).f0) true _ A5.out).mono ?_
                        rintro e w' ⟨rfl, ⟨nd, rfl⟩⟩
                        refine ⟨_, rfl, ?_⟩
                        refine hK.out _ _ ⟨(blk_cell BK447.out 0).trans rfl, (blk_cell BK447.out 1).trans rfl, (hxb hw450_0), (hxb hw450_1)⟩ (fun hHeld => ?_)
                        clear hK K
                        refine NM 14 ?_
                        refine PU 3 15 ?_
                        refine PU 4 16 ?_
                        refine PU 5 17 ?_
                        refine TK 6 18 hHeld ?_
                        refine ON 7 19 (fun K hK => ?_)
                        refine GO Try.func66 #[.int .i64 ((rd_T68 l0 x7_1).f1)] ?_
                        with_reducible refine (impl_isCoordinate.calls ((rd_T68 l0 x7_1).f1) true _ A7.out).mono ?_
                        rintro e w' ⟨rfl, ⟨nd, rfl⟩⟩
                        refine ⟨_, rfl, ?_⟩
                        refine hK.out _ _ ⟨(blk_cell BK447.out 0).trans rfl, (blk_cell BK447.out 1).trans rfl, (hxb hw450_0), (hxb hw450_1)⟩ (fun hHeld => ?_)
                        clear hK K
                        refine NM 19 ?_
                        refine PU 8 20 ?_
                        refine PU 9 21 ?_
                        refine PU 10 22 ?_
                        refine PU 11 23 ?_
                        refine PU 12 24 ?_
                        refine PU 13 25 ?_
                        refine PU 14 26 ?_
                        refine PU 15 27 ?_
                        refine PU 16 28 ?_
                        refine PU 17 29 ?_
                        refine TK 18 30 hHeld ?_
                        refine TK 19 31 hHeld ?_
                        refine ON 20 32 (fun K hK => ?_)
                        refine goes_ Try.func67 (by kernel_rfl) rfl #[.agg #[.int .i64 ((rd_T68 l0 (ji10)).f0), .int .i64 ((rd_T68 l0 (ji10)).f1)], .agg #[.int .i64 ((rd_T68 l0 x7_1).f0), .int .i64 ((rd_T68 l0 x7_1).f1)]] (by rfl) rfl rfl (by (try simp only [List.map_toArray, List.map_cons, List.map_nil]); first | done | (simp only [hji10]; rfl) | rfl | (simp only [List.length_drop, List.length_take]; rfl)) ?_
                        with_reducible refine (impl_compareCells.calls ((rd_T68 l0 (ji10)).f0) ((rd_T68 l0 (ji10)).f1) ((rd_T68 l0 x7_1).f0) ((rd_T68 l0 x7_1).f1) t451 _ A13.out).mono ?_
                        rintro e w24 ⟨rfl, hb⟩
                        refine ⟨_, rfl, ?_⟩
                        replace BK447 := Aside0.mk (blk_below (B1 BK447) hb)
                        replace HB := Aside0.mk (below_step Hb hb)
                        (try clear hb)
                        (try clear hb2)
                        (try clear hk)
                        (try clear hi)
                        refine hK.out _ _ ⟨(blk_cell BK447.out 0).trans rfl, (blk_cell BK447.out 1).trans rfl, (hxb hw450_0), (hxb hw450_1)⟩ (fun hHeld => ?_)
                        clear hK K
                        refine NM 32 ?_
                        refine PU 21 33 ?_
                        refine PU 22 34 ?_
                        refine PU 23 35 ?_
                        refine done_ (done_of HT_.out (by kernel_rfl)) ?_
                        try go_wp2
                        go_roundg k1
                        case measure => have := HK1.out; omega
                        case rel => exact ⟨(wrap64 (x7_1 + 1)), Fs, H', ⟨by have := HK1.out; omega⟩, ⟨Hb⟩⟩
                    · rw [if_neg c12] at H
                      exact absurd H (by simp)
                  · rw [if_neg c11] at H
                    exact absurd H (by simp)
                · rw [if_neg c9] at H
                  have c9b0 : decide (0 < x7_1) = false := decide_eq_false c9
                  clear c9
                  have H' := Aside0.mk H
                  clear H
                  have p446 : 0 ≤ (x7_1 : Int) := oD
                  have q446 : x7_1 < (l0.length : Int) := oD
                  obtain ⟨ad446, e446, hx446_0, hx446_1⟩ := at_T68 HR0.out x7_1 p446 q446
                  cases e446
                  replace hx446_0 := hxb hx446_0
                  replace hx446_1 := hxb hx446_1
                  replace p446 := eq_true p446
                  replace q446 := eq_true q446
                  try go_wp2_with (first | ((with_reducible refine gD 4 ?_); (try (refine gate_guard (by rfl) ?_; dsimp only)); refine BX #[.int .i64 0, .int .i64 0] 68 ?_; intro gb447 hg w25 hbox hb; have BK447 := Aside0.mk (hbox); have GW447 := Aside0.mk ((Gle hg Hb : w.heap.size ≤ gb447)); have GE447 := Aside0.mk ((Gle hg Hb : w.heap.size ≤ gb447)); replace HB := Aside0.mk (below_step Hb hb); clear hb hbox hg; have hcz26_0 : w25.cell? ⟨gb447, 0, none⟩ = some (.int .i64 0) := bc BK447; have hcz26_1 : w25.cell? ⟨gb447, 1, none⟩ = some (.int .i64 0) := bc BK447; have hfz26_0 := blk_frozen BK447.out 0; have hfz26_1 := blk_frozen BK447.out 1))
                  have n0_ : Aside0 (((w25.setCell ⟨gb447, 0, none⟩ (.int .i64 ((rd_T68 l0 x7_1).f0))).setCell ⟨gb447, 1, none⟩ (.int .i64 ((rd_T68 l0 x7_1).f1))).heap[gb447]? = some (.cells #[.int .i64 ((rd_T68 l0 x7_1).f0), .int .i64 ((rd_T68 l0 x7_1).f1)] 68 (0, 0))) := ⟨by (with_reducible repeat (first | refine blk_drewN ?_ _ | refine blk_drew ?_ | refine blk_alloc ?_ _)); refine blk_put (cs := #[.int .i64 ((rd_T68 l0 x7_1).f0), .int .i64 0]) ?_ 1 _ rfl; (with_reducible repeat (first | refine blk_drewN ?_ _ | refine blk_drew ?_ | refine blk_alloc ?_ _)); refine blk_put (cs := #[.int .i64 0, .int .i64 0]) ?_ 0 _ rfl; (with_reducible repeat (first | refine blk_drewN ?_ _ | refine blk_drew ?_ | refine blk_alloc ?_ _)); exact BK447.out⟩
                  have n1_ : Aside0 (Below w.heap.size w ((w25.setCell ⟨gb447, 0, none⟩ (.int .i64 ((rd_T68 l0 x7_1).f0))).setCell ⟨gb447, 1, none⟩ (.int .i64 ((rd_T68 l0 x7_1).f1)))) := ⟨Hb⟩
                  (try clear BK447)
                  (try clear HB)
                  generalize ((w25.setCell ⟨gb447, 0, none⟩ (.int .i64 ((rd_T68 l0 x7_1).f0))).setCell ⟨gb447, 1, none⟩ (.int .i64 ((rd_T68 l0 x7_1).f1))) = w27 at n0_ n1_ ⊢
                  have BK447 := n0_
                  have HB := n1_
                  clear n0_ n1_
                  replace BK447 := Aside0.mk (blk_drew BK447.out)
                  replace HB := Aside0.mk (below_drew1 HB.out)
                  refine start_ (n := 24) (S := fun w' => w'.cell? ⟨gb447, 0, none⟩ = some (.int .i64 ((rd_T68 l0 x7_1).f0)) ∧ w'.cell? ⟨gb447, 1, none⟩ = some (.int .i64 ((rd_T68 l0 x7_1).f1))) (ds := []) #[false, false, false, false, false, false, false, false, false, false, false, false, false, false, false, false, false, false, false, false, false, false, false, false] (by kernel_rfl) rfl rfl ⟨(blk_cell BK447.out 0).trans rfl, (blk_cell BK447.out 1).trans rfl⟩ (fun hHeld => ?_); refine with_tabW impl_IsShape.tab4 impl_IsShape.bits4 (fun HT_ HW_ => ?_)
                  generalize w27.drew = w28 at BK447 HB hHeld ⊢
                  refine PU 0 12 ?_
                  refine TK 1 13 hHeld ?_
                  refine ON 2 14 (fun K hK => ?_)
                  refine GO Try.func66 #[.int .i64 ((rd_T68 l0 x7_1).f0)] ?_
                  with_reducible refine (impl_isCoordinate.calls ((rd_T68 l0 x7_1).f0) true _ A5.out).mono ?_
                  rintro e w' ⟨rfl, ⟨nd, rfl⟩⟩
                  refine ⟨_, rfl, ?_⟩
                  refine hK.out _ _ ⟨(blk_cell BK447.out 0).trans rfl, (blk_cell BK447.out 1).trans rfl⟩ (fun hHeld => ?_)
                  clear hK K
                  refine NM 14 ?_
                  refine PU 3 15 ?_
                  refine PU 4 16 ?_
                  refine PU 5 17 ?_
                  refine TK 6 18 hHeld ?_
                  refine ON 7 19 (fun K hK => ?_)
                  refine GO Try.func66 #[.int .i64 ((rd_T68 l0 x7_1).f1)] ?_
                  with_reducible refine (impl_isCoordinate.calls ((rd_T68 l0 x7_1).f1) true _ A7.out).mono ?_
                  rintro e w' ⟨rfl, ⟨nd, rfl⟩⟩
                  refine ⟨_, rfl, ?_⟩
                  refine hK.out _ _ ⟨(blk_cell BK447.out 0).trans rfl, (blk_cell BK447.out 1).trans rfl⟩ (fun hHeld => ?_)
                  clear hK K
                  refine NM 19 ?_
                  refine PU 8 20 ?_
                  refine PU 9 21 ?_
                  refine PU 10 22 ?_
                  refine PU 11 23 ?_
                  refine PU 12 24 ?_
                  refine PU 13 25 ?_
                  refine PV 14 26 ?_
                  refine PV 15 27 ?_
                  refine PV 16 28 ?_
                  refine PV 17 29 ?_
                  refine PV 18 30 ?_
                  refine PV 19 31 ?_
                  refine PV 20 32 ?_
                  refine PV 21 33 ?_
                  refine PU 22 34 ?_
                  refine PU 23 35 ?_
                  refine done_ (done_of HT_.out (by kernel_rfl)) ?_
                  try go_wp2
                  go_roundg k1
                  case measure => have := HK1.out; omega
                  case rel => exact ⟨(wrap64 (x7_1 + 1)), Fs, H', ⟨by have := HK1.out; omega⟩, ⟨Hb⟩⟩
              · replace c8 := Bool.eq_false_iff.mpr c8
                subst c8
                rw [if_neg (show ¬ (false = true) by decide)] at H
                obtain rfl := Option.some.inj H
                have p446 : 0 ≤ (x7_1 : Int) := oD
                have q446 : x7_1 < (l0.length : Int) := oD
                obtain ⟨ad446, e446, hx446_0, hx446_1⟩ := at_T68 HR0.out x7_1 p446 q446
                cases e446
                replace hx446_0 := hxb hx446_0
                replace hx446_1 := hxb hx446_1
                replace p446 := eq_true p446
                replace q446 := eq_true q446
                try go_wp2_with (first | ((with_reducible refine gD 4 ?_); (try (refine gate_guard (by rfl) ?_; dsimp only)); refine BX #[.int .i64 0, .int .i64 0] 68 ?_; intro gb447 hg w29 hbox hb; have BK447 := Aside0.mk (hbox); have GW447 := Aside0.mk ((Gle hg Hb : w.heap.size ≤ gb447)); have GE447 := Aside0.mk ((Gle hg Hb : w.heap.size ≤ gb447)); replace HB := Aside0.mk (below_step Hb hb); clear hb hbox hg; have hcz30_0 : w29.cell? ⟨gb447, 0, none⟩ = some (.int .i64 0) := bc BK447; have hcz30_1 : w29.cell? ⟨gb447, 1, none⟩ = some (.int .i64 0) := bc BK447; have hfz30_0 := blk_frozen BK447.out 0; have hfz30_1 := blk_frozen BK447.out 1))
                have n0_ : Aside0 (((w29.setCell ⟨gb447, 0, none⟩ (.int .i64 ((rd_T68 l0 x7_1).f0))).setCell ⟨gb447, 1, none⟩ (.int .i64 ((rd_T68 l0 x7_1).f1))).heap[gb447]? = some (.cells #[.int .i64 ((rd_T68 l0 x7_1).f0), .int .i64 ((rd_T68 l0 x7_1).f1)] 68 (0, 0))) := ⟨by (with_reducible repeat (first | refine blk_drewN ?_ _ | refine blk_drew ?_ | refine blk_alloc ?_ _)); refine blk_put (cs := #[.int .i64 ((rd_T68 l0 x7_1).f0), .int .i64 0]) ?_ 1 _ rfl; (with_reducible repeat (first | refine blk_drewN ?_ _ | refine blk_drew ?_ | refine blk_alloc ?_ _)); refine blk_put (cs := #[.int .i64 0, .int .i64 0]) ?_ 0 _ rfl; (with_reducible repeat (first | refine blk_drewN ?_ _ | refine blk_drew ?_ | refine blk_alloc ?_ _)); exact BK447.out⟩
                have n1_ : Aside0 (Below w.heap.size w ((w29.setCell ⟨gb447, 0, none⟩ (.int .i64 ((rd_T68 l0 x7_1).f0))).setCell ⟨gb447, 1, none⟩ (.int .i64 ((rd_T68 l0 x7_1).f1)))) := ⟨Hb⟩
                (try clear BK447)
                (try clear HB)
                generalize ((w29.setCell ⟨gb447, 0, none⟩ (.int .i64 ((rd_T68 l0 x7_1).f0))).setCell ⟨gb447, 1, none⟩ (.int .i64 ((rd_T68 l0 x7_1).f1))) = w31 at n0_ n1_ ⊢
                have BK447 := n0_
                have HB := n1_
                clear n0_ n1_
                replace BK447 := Aside0.mk (blk_drew BK447.out)
                replace HB := Aside0.mk (below_drew1 HB.out)
                refine start_ (n := 24) (S := fun w' => w'.cell? ⟨gb447, 0, none⟩ = some (.int .i64 ((rd_T68 l0 x7_1).f0)) ∧ w'.cell? ⟨gb447, 1, none⟩ = some (.int .i64 ((rd_T68 l0 x7_1).f1))) (ds := []) #[false, false, false, false, false, false, false, false, false, false, false, false, false, false, false, false, false, false, false, false, false, false, false, false] (by kernel_rfl) rfl rfl ⟨(blk_cell BK447.out 0).trans rfl, (blk_cell BK447.out 1).trans rfl⟩ (fun hHeld => ?_); refine with_tabW impl_IsShape.tab4 impl_IsShape.bits4 (fun HT_ HW_ => ?_)
                generalize w31.drew = w32 at BK447 HB hHeld ⊢
                refine PU 0 12 ?_
                refine TK 1 13 hHeld ?_
                refine ON 2 14 (fun K hK => ?_)
                refine GO Try.func66 #[.int .i64 ((rd_T68 l0 x7_1).f0)] ?_
                with_reducible refine (impl_isCoordinate.calls ((rd_T68 l0 x7_1).f0) true _ A5.out).mono ?_
                rintro e w' ⟨rfl, ⟨nd, rfl⟩⟩
                refine ⟨_, rfl, ?_⟩
                refine hK.out _ _ ⟨(blk_cell BK447.out 0).trans rfl, (blk_cell BK447.out 1).trans rfl⟩ (fun hHeld => ?_)
                clear hK K
                refine NM 14 ?_
                refine PU 3 15 ?_
                refine PU 4 16 ?_
                refine PU 5 17 ?_
                refine TK 6 18 hHeld ?_
                refine ON 7 19 (fun K hK => ?_)
                refine GO Try.func66 #[.int .i64 ((rd_T68 l0 x7_1).f1)] ?_
                with_reducible refine (impl_isCoordinate.calls ((rd_T68 l0 x7_1).f1) false _ A7.out).mono ?_
                rintro e w' ⟨rfl, ⟨nd, rfl⟩⟩
                refine ⟨_, rfl, ?_⟩
                refine hK.out _ _ ⟨(blk_cell BK447.out 0).trans rfl, (blk_cell BK447.out 1).trans rfl⟩ (fun hHeld => ?_)
                clear hK K
                refine NM 19 ?_
                refine PU 8 20 ?_
                refine PU 9 21 ?_
                refine PU 10 22 ?_
                refine PV 11 23 ?_
                refine PV 12 24 ?_
                refine PV 13 25 ?_
                refine PV 14 26 ?_
                refine PV 15 27 ?_
                refine PV 16 28 ?_
                refine PV 17 29 ?_
                refine PV 18 30 ?_
                refine PV 19 31 ?_
                refine PV 20 32 ?_
                refine PV 21 33 ?_
                refine PV 22 34 ?_
                refine PU 23 35 ?_
                refine done_ (done_of HT_.out (by kernel_rfl)) ?_
                try go_wp2
                go_ret
                exact ⟨Fin, Hb⟩
            · replace c6 := Bool.eq_false_iff.mpr c6
              subst c6
              rw [if_neg (show ¬ (false = true) by decide)] at H
              obtain rfl := Option.some.inj H
              have p446 : 0 ≤ (x7_1 : Int) := oD
              have q446 : x7_1 < (l0.length : Int) := oD
              obtain ⟨ad446, e446, hx446_0, hx446_1⟩ := at_T68 HR0.out x7_1 p446 q446
              cases e446
              replace hx446_0 := hxb hx446_0
              replace hx446_1 := hxb hx446_1
              replace p446 := eq_true p446
              replace q446 := eq_true q446
              try go_wp2_with (first | ((with_reducible refine gD 4 ?_); (try (refine gate_guard (by rfl) ?_; dsimp only)); refine BX #[.int .i64 0, .int .i64 0] 68 ?_; intro gb447 hg w33 hbox hb; have BK447 := Aside0.mk (hbox); have GW447 := Aside0.mk ((Gle hg Hb : w.heap.size ≤ gb447)); have GE447 := Aside0.mk ((Gle hg Hb : w.heap.size ≤ gb447)); replace HB := Aside0.mk (below_step Hb hb); clear hb hbox hg; have hcz34_0 : w33.cell? ⟨gb447, 0, none⟩ = some (.int .i64 0) := bc BK447; have hcz34_1 : w33.cell? ⟨gb447, 1, none⟩ = some (.int .i64 0) := bc BK447; have hfz34_0 := blk_frozen BK447.out 0; have hfz34_1 := blk_frozen BK447.out 1))
              have n0_ : Aside0 (((w33.setCell ⟨gb447, 0, none⟩ (.int .i64 ((rd_T68 l0 x7_1).f0))).setCell ⟨gb447, 1, none⟩ (.int .i64 ((rd_T68 l0 x7_1).f1))).heap[gb447]? = some (.cells #[.int .i64 ((rd_T68 l0 x7_1).f0), .int .i64 ((rd_T68 l0 x7_1).f1)] 68 (0, 0))) := ⟨by (with_reducible repeat (first | refine blk_drewN ?_ _ | refine blk_drew ?_ | refine blk_alloc ?_ _)); refine blk_put (cs := #[.int .i64 ((rd_T68 l0 x7_1).f0), .int .i64 0]) ?_ 1 _ rfl; (with_reducible repeat (first | refine blk_drewN ?_ _ | refine blk_drew ?_ | refine blk_alloc ?_ _)); refine blk_put (cs := #[.int .i64 0, .int .i64 0]) ?_ 0 _ rfl; (with_reducible repeat (first | refine blk_drewN ?_ _ | refine blk_drew ?_ | refine blk_alloc ?_ _)); exact BK447.out⟩
              have n1_ : Aside0 (Below w.heap.size w ((w33.setCell ⟨gb447, 0, none⟩ (.int .i64 ((rd_T68 l0 x7_1).f0))).setCell ⟨gb447, 1, none⟩ (.int .i64 ((rd_T68 l0 x7_1).f1)))) := ⟨Hb⟩
              (try clear BK447)
              (try clear HB)
              generalize ((w33.setCell ⟨gb447, 0, none⟩ (.int .i64 ((rd_T68 l0 x7_1).f0))).setCell ⟨gb447, 1, none⟩ (.int .i64 ((rd_T68 l0 x7_1).f1))) = w35 at n0_ n1_ ⊢
              have BK447 := n0_
              have HB := n1_
              clear n0_ n1_
              replace BK447 := Aside0.mk (blk_drew BK447.out)
              replace HB := Aside0.mk (below_drew1 HB.out)
              refine start_ (n := 24) (S := fun w' => w'.cell? ⟨gb447, 0, none⟩ = some (.int .i64 ((rd_T68 l0 x7_1).f0)) ∧ w'.cell? ⟨gb447, 1, none⟩ = some (.int .i64 ((rd_T68 l0 x7_1).f1))) (ds := []) #[false, false, false, false, false, false, false, false, false, false, false, false, false, false, false, false, false, false, false, false, false, false, false, false] (by kernel_rfl) rfl rfl ⟨(blk_cell BK447.out 0).trans rfl, (blk_cell BK447.out 1).trans rfl⟩ (fun hHeld => ?_); refine with_tabW impl_IsShape.tab4 impl_IsShape.bits4 (fun HT_ HW_ => ?_)
              generalize w35.drew = w36 at BK447 HB hHeld ⊢
              refine PU 0 12 ?_
              refine TK 1 13 hHeld ?_
              refine ON 2 14 (fun K hK => ?_)
              refine GO Try.func66 #[.int .i64 ((rd_T68 l0 x7_1).f0)] ?_
              with_reducible refine (impl_isCoordinate.calls ((rd_T68 l0 x7_1).f0) false _ A5.out).mono ?_
              rintro e w' ⟨rfl, ⟨nd, rfl⟩⟩
              refine ⟨_, rfl, ?_⟩
              refine hK.out _ _ ⟨(blk_cell BK447.out 0).trans rfl, (blk_cell BK447.out 1).trans rfl⟩ (fun hHeld => ?_)
              clear hK K
              refine NM 14 ?_
              refine PU 3 15 ?_
              refine PU 4 16 ?_
              refine PV 5 17 ?_
              refine PV 6 18 ?_
              refine PV 7 19 ?_
              refine PV 8 20 ?_
              refine PU 9 21 ?_
              refine PU 10 22 ?_
              refine PV 11 23 ?_
              refine PV 12 24 ?_
              refine PV 13 25 ?_
              refine PV 14 26 ?_
              refine PV 15 27 ?_
              refine PV 16 28 ?_
              refine PV 17 29 ?_
              refine PV 18 30 ?_
              refine PV 19 31 ?_
              refine PV 20 32 ?_
              refine PV 21 33 ?_
              refine PV 22 34 ?_
              refine PU 23 35 ?_
              refine done_ (done_of HT_.out (by kernel_rfl)) ?_
              try go_wp2
              go_ret
              exact ⟨Fin, Hb⟩
          · rw [if_neg c4] at H
            exact absurd H (by simp)
        · rw [if_neg c3] at H
          exact absurd H (by simp)
      · rw [if_neg c2] at H
        have c2b0 : decide (x7_1 < (l0.length : Int)) = false := decide_eq_false c2
        clear c2
        by_cases c37 : (l0.length : Int) ≥ 1
        · rw [if_pos c37] at H
          have c37b0 : decide (1 ≤ (l0.length : Int)) = true := decide_eq_true c37
          have c37b1 : decide (1 ≤ l0.length) = true := decide_eq_true (by omega)
          clear c37
          obtain rfl := Option.some.inj H
          go_wp2
          go_ret
          exact ⟨Fin, Hb⟩
        · rw [if_neg c37] at H
          have c37b0 : decide (1 ≤ (l0.length : Int)) = false := decide_eq_false c37
          have c37b1 : decide (1 ≤ l0.length) = false := decide_eq_false (by omega)
          clear c37
          obtain rfl := Option.some.inj H
          go_wp2
          go_ret
          exact ⟨Fin, Hb⟩

end Go.Proofs.Ytpnlidfebnkgmaa.XFnWeightSums
