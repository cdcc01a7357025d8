-- Written by ext.py (wip/) over the kit's print: not trusted, Lean checks it.
import Derived.Test.YtcolaakpjdhinaaXFnUnitsx0
import Derived.Test.YtcolaakpjdhinaaXFnUnitsx1
namespace Go.Proofs.Ytcolaakpjdhinaa.XFnUnits
open Go.RowKit Go.Proofs.YtcolaakpjdhinaaW.PrintWords Go.Proofs.YtcolaakpjdhinaaW.PrintLast Go.Proofs.YtcolaakpjdhinaaW.PrintMore
attribute [local go_sem] max2_int min2_int max_two min_two max_three min_three max_four min_four   -- for this text's walks alone
set_option linter.unusedVariables false
set_option linter.unusedSimpArgs false

/-! ### spec_l20Draw: function 26 -/
mutual
def spec_l20Draw.l0 : Nat → List (List Int) → Int → List Int → Int → Int → Int → Option (Int × (List (List Int)) × Int × Int)
  | 0, _, _, _, _, _, _ => none
  | k + 1, x4, x5, x1000, x1001, x1002, x134000 => if x5 > 0 then (spec_l20Draw.l1 k x4 x5 (([] : List Int)) 1 x1000 x1001 x1002 x134000) else ((spec_l01Next.f x1000 x1001 x1002 30).bind fun bt161 => (if bt161.1 = 0 then ((some (([(-1), 0, 400, 401] : List Int) : List Int)).bind fun y164 => ((spec_l01Next.f x1000 bt161.2.1 bt161.2.2 4).bind fun bt167 => (if 0 ≤ bt167.1 then (if bt167.1 < (y164.length : Int) then (some (rd y164 bt167.1, x4, bt167.2.1, bt167.2.2)) else (none)) else (none)))) else (if bt161.1 = 1 then ((spec_l01Next.f x1000 bt161.2.1 bt161.2.2 4).bind fun bt171 => (if 0 ≤ bt171.1 then (if bt171.1 < 4 then (if x4.length < 5864062014805 then (some (x134000, (x4 ++ [(rd_L2 [[0], [2, 1], [1, -1], [wrap64 ((wrap64 (-x134000)) - 1)]] bt171.1)]), bt171.2.1, bt171.2.2)) else (none)) else (none)) else (none))) else (some (x134000, x4, bt161.2.1, bt161.2.2)))))
def spec_l20Draw.l1 : Nat → List (List Int) → Int → List Int → Int → List Int → Int → Int → Int → Option (Int × (List (List Int)) × Int × Int)
  | 0, _, _, _, _, _, _, _, _ => none
  | k + 1, x4, x5, x6, x7, x1000, x1001, x1002, x134000 => if x7 ≤ x134000 then ((spec_l01Next.f x1000 x1001 x1002 5).bind fun bt152 => (if bt152.1 = 0 then (if x6.length < 17592186044416 then (spec_l20Draw.l1 k x4 x5 (x6 ++ [x7]) (wrap64 (x7 + 1)) x1000 bt152.2.1 bt152.2.2 x134000) else (none)) else (if bt152.1 = 1 then (if x6.length < 17592186044416 then (spec_l20Draw.l1 k x4 x5 (x6 ++ [wrap64 (-x7)]) (wrap64 (x7 + 1)) x1000 bt152.2.1 bt152.2.2 x134000) else (none)) else (spec_l20Draw.l1 k x4 x5 x6 (wrap64 (x7 + 1)) x1000 bt152.2.1 bt152.2.2 x134000)))) else (if (x6.length : Int) > 0 then (if x4.length < 5864062014805 then (spec_l20Draw.l0 k (x4 ++ [x6]) (wrap64 (x5 - 1)) x1000 x1001 x1002 x134000) else (none)) else ((spec_l01Next.f x1000 x1001 x1002 20).bind fun bt146 => (if bt146.1 = 0 then (if x4.length < 5864062014805 then (spec_l20Draw.l0 k (x4 ++ [x6]) (wrap64 (x5 - 1)) x1000 bt146.2.1 bt146.2.2 x134000) else (none)) else (spec_l20Draw.l0 k x4 (wrap64 (x5 - 1)) x1000 bt146.2.1 bt146.2.2 x134000))))
end
def spec_l20Draw.f (k : Nat) (s0_0 : List Int) (s0_1 : Int) (s0_2 : Int) : Option (Int × (List (List Int)) × Int × Int) := (spec_l01Next.f s0_0 s0_1 s0_2 6).bind fun bt130 => ((spec_l01Next.f s0_0 bt130.2.1 bt130.2.2 14).bind fun bt137 => (spec_l20Draw.l0 k (([] : List (List Int))) bt137.1 s0_0 bt137.2.1 bt137.2.2 (wrap64 (1 + bt130.1))))
theorem spec_l20Draw.mono_l : ∀ k, (∀ y0 y1 y2 y3 y4 y5, LeO (spec_l20Draw.l0 k y0 y1 y2 y3 y4 y5) (spec_l20Draw.l0 (k + 1) y0 y1 y2 y3 y4 y5)) ∧ (∀ y0 y1 y2 y3 y4 y5 y6 y7, LeO (spec_l20Draw.l1 k y0 y1 y2 y3 y4 y5 y6 y7) (spec_l20Draw.l1 (k + 1) y0 y1 y2 y3 y4 y5 y6 y7))
  | 0 => ⟨fun _ _ _ _ _ _ r h => by simp [spec_l20Draw.l0] at h, fun _ _ _ _ _ _ _ _ r h => by simp [spec_l20Draw.l1] at h⟩
  | k + 1 => by
    obtain ⟨ih0, ih1⟩ := spec_l20Draw.mono_l k
    refine ⟨?_, ?_⟩
    · intro y0 y1 y2 y3 y4 y5
      unfold spec_l20Draw.l0
      repeat' first
      | (with_reducible exact ih0 _ _ _ _ _ _)
      | (with_reducible exact ih1 _ _ _ _ _ _ _ _)
      | (with_reducible exact LeO.refl _)
      | (with_reducible exact LeO.none _)
      | (with_reducible refine LeO.ite ?_ ?_)
      | (with_reducible refine LeO.bind ?_ (fun _ => ?_))
      | exact ih0 _ _ _ _ _ _
      | exact ih1 _ _ _ _ _ _ _ _
      | exact LeO.none _
      | refine LeO.ite ?_ ?_
      | refine LeO.bind ?_ (fun _ => ?_)
    · intro y0 y1 y2 y3 y4 y5 y6 y7
      unfold spec_l20Draw.l1
      repeat' first
      | (with_reducible exact ih0 _ _ _ _ _ _)
      | (with_reducible exact ih1 _ _ _ _ _ _ _ _)
      | (with_reducible exact LeO.refl _)
      | (with_reducible exact LeO.none _)
      | (with_reducible refine LeO.ite ?_ ?_)
      | (with_reducible refine LeO.bind ?_ (fun _ => ?_))
      | exact ih0 _ _ _ _ _ _
      | exact ih1 _ _ _ _ _ _ _ _
      | exact LeO.none _
      | refine LeO.ite ?_ ?_
      | refine LeO.bind ?_ (fun _ => ?_)
theorem spec_l20Draw.mono : ∀ a0 a1 a2 k, LeO (spec_l20Draw.f k a0 a1 a2) (spec_l20Draw.f (k + 1) a0 a1 a2) := by
  intro a0 a1 a2 k
  obtain ⟨ih0, ih1⟩ := spec_l20Draw.mono_l k
  unfold spec_l20Draw.f
  repeat' first
      | (with_reducible exact ih0 _ _ _ _ _ _)
      | (with_reducible exact ih1 _ _ _ _ _ _ _ _)
      | (with_reducible exact LeO.refl _)
      | (with_reducible exact LeO.none _)
      | (with_reducible refine LeO.ite ?_ ?_)
      | (with_reducible refine LeO.bind ?_ (fun _ => ?_))
      | exact ih0 _ _ _ _ _ _
      | exact ih1 _ _ _ _ _ _ _ _
      | exact LeO.none _
      | refine LeO.ite ?_ ?_
      | refine LeO.bind ?_ (fun _ => ?_)
def spec_l20Draw.T21 : Bool × List (List Nat × List Nat) := (true, [([], []), ([], []), ([1], [1]), ([2], [2]), ([3], [3]), ([], []), ([5], [5]), ([4, 6], [4, 6]), ([7], [7]), ([0, 8, 6], [0, 8]), ([9, 9, 0, 1, 2, 3, 4, 5, 6, 7, 8, 9], [0, 9])])
def spec_l20Draw.B21 : List Nat := [0, 0, 2, 6, 14, 0, 32, 126, 254, 511, 1023]
set_option maxHeartbeats 8000000 in
set_option maxRecDepth 100000 in
theorem spec_l20Draw.calls (k : Nat) (g : Nat) (s0_0 : List Int) (s0_1 : Int) (s0_2 : Int) (r1 : Int) (r2 : List (List Int)) (r3 : Int) (r4 : Int) (w0 w : World) (hI : IsS50 w0 w g s0_0 s0_1 s0_2) (hB : Below w0.heap.size w0 w) (h : spec_l20Draw.f k s0_0 s0_1 s0_2 = some (r1, r2, r3, r4)) :
    Calls Try.prog 26 #[.pointer (some ⟨g, 0, none⟩)] w fun e w' => ∃ v1_ : Value, e = .returned (.agg #[.int .i64 r1, v1_]) ∧ Kd.S (Kd.slice 2 (Kd.int .i64)) 27 w' w.heap.size (fun _ => True) v1_ r2 ∧ IsS50 w0 w' g s0_0 r3 r4 ∧ Below w0.heap.size w0 w' ∧ KeepBut w w' g none := by
  have hu26 := Try.underlying26
  have HI0 := Aside0.mk hI
  have HK := Aside0.mk (KeepBut.refl w g none)
  have HL := Aside0.mk hB.size
  clear hI
  have HW0 := Aside0.mk hB.size
  have HB := Aside0.mk hB
  clear hB
  have H : ((spec_l01Next.f s0_0 s0_1 s0_2 6).bind fun bt130 => ((spec_l01Next.f s0_0 bt130.2.1 bt130.2.2 14).bind fun bt137 => (spec_l20Draw.l0 k (([] : List (List Int))) bt137.1 s0_0 bt137.2.1 bt137.2.2 (wrap64 (1 + bt130.1))))) = some (r1, r2, r3, r4) := h
  clear h
  obtain ⟨⟨t130, t131, t132⟩, A20, H⟩ := Option.bind_eq_some_iff.mp H
  dsimp only at H
  have A2 := Aside0.mk A20
  clear A20
  obtain ⟨y134, hy134⟩ : ∃ y_ : List (List Int), y_ = (([] : List (List Int))) := ⟨_, rfl⟩
  replace H : ((spec_l01Next.f s0_0 t131 t132 14).bind fun bt137 => (spec_l20Draw.l0 k y134 bt137.1 s0_0 bt137.2.1 bt137.2.2 (wrap64 (1 + t130)))) = some (r1, r2, r3, r4) := by first | (rw [hy134]; with_reducible exact H) | (have H2_ := (Option.bind_some _ _).symm.trans H; rw [hy134]; with_reducible exact H2_) | (have H2_ := (Option.bind_some _ _).symm.trans H; with_reducible exact H2_) | with_reducible exact H | (rw [hy134]; exact H) | exact H
  have Ny134 := Aside0.mk hy134
  clear hy134
  obtain ⟨⟨t137, t138, t139⟩, A30, H⟩ := Option.bind_eq_some_iff.mp H
  dsimp only at H
  have A3 := Aside0.mk A30
  clear A30
  have H' := Aside0.mk H
  clear H
  go_enter Try.func26, Try.ntmps26
  go_wp2_with (first | ((with_reducible refine gD 2 ?_); refine BX #[.int .i64 0, .slice none 0 0] 26 ?_; intro gb129 hg w4 hbox hb; replace HB := Aside0.mk (below_step (by repeat (first | (with_reducible first | exact HB.out | apply below_alloc | apply pw_below_drewN | apply below_drew1 | refine below_set ?_ (IsS50.ge HI0.out)) | exact HB.out)) hb); have BK129 := Aside0.mk (hbox); have GW129 := Aside0.mk ((by rw [hg]; exact (keep_size (w := w) (g := g) (row := none) Hk) : w.heap.size ≤ gb129)); have GE129 := Aside0.mk ((Nat.le_trans HW0.out (by rw [hg]; exact (keep_size (w := w) (g := g) (row := none) Hk) : w.heap.size ≤ gb129) : w0.heap.size ≤ gb129)); replace HK := Aside0.mk (KeepBut.trans Hk (KeepBut.of_below hb g none) (.inl rfl)); have NB0_129 := Aside0.mk ((by rw [hg]; exact Nat.ne_of_lt (IsS50.lt (show IsS50 w0 _ g s0_0 s0_1 s0_2 from by repeat (first | (with_reducible first | exact HI0.out | apply IsS50.alloc | apply IsS50.drewN | apply IsS50.drew | apply IsS50.set_1 | apply IsS50.set_2) | exact HI0.out))) : g ≠ gb129)); have NB129_0 := Aside0.mk ((by rw [hg]; exact Nat.ne_of_gt (IsS50.lt (show IsS50 w0 _ g s0_0 s0_1 s0_2 from by repeat (first | (with_reducible first | exact HI0.out | apply IsS50.alloc | apply IsS50.drewN | apply IsS50.drew | apply IsS50.set_1 | apply IsS50.set_2) | exact HI0.out))) : gb129 ≠ g)); replace HI0 := Aside0.mk (IsS50.below (by repeat (first | (with_reducible first | exact HI0.out | apply IsS50.alloc | apply IsS50.drewN | apply IsS50.drew | apply IsS50.set_1 | apply IsS50.set_2) | exact HI0.out)) hb); clear hb hbox hg) | ((with_reducible refine gC 21 ?_); refine GL (some 9) Try.func21 #[.pointer (some ⟨g, 0, none⟩), .int .i64 6] ?_; (with_reducible refine (spec_l01Next.calls g s0_0 s0_1 s0_2 6 t130 t131 t132 w0 _ ?side1 ?side2 A2.out).mono ?_); (case side1 => repeat (first | (with_reducible first | exact HI0.out | apply IsS50.alloc | apply IsS50.drewN | apply IsS50.drew | apply IsS50.set_1 | apply IsS50.set_2 | refine IsS50.far ?_ NB0_129.out _) | exact HI0.out)); (case side2 => repeat (first | (with_reducible first | exact HB.out | apply below_alloc | apply pw_below_drewN | apply below_drew1 | refine below_set ?_ (IsS50.ge HI0.out) | refine below_set ?_ GE129.out) | exact HB.out)); rintro e w5 ⟨rfl, hi, hb, hk⟩; refine ⟨_, rfl, ?_⟩; replace BK129 := Aside0.mk (KeepBut.blk hk (g' := gb129) (o := .cells #[.int .i64 0, .slice none 0 0] 26 (0, 0)) (B1 BK129) NB129_0.out (by simp)); replace HK := Aside0.mk (KeepBut.trans (by repeat (first | (with_reducible first | exact HK.out | apply KeepBut.set_ | apply keep_drewN | apply keep_drew | apply keep_alloc | refine keep_far ?_ GW129.out _) | exact HK.out)) hk (.inl rfl)); replace HB := Aside0.mk (hb); replace HI0 := Aside0.mk (hi); (try clear hb); (try clear hb2); (try clear hk); (try clear hi)) | ((with_reducible refine gD 3 ?_); refine BX #[.int .i64 0, .slice none 0 0] 26 ?_; intro gb133 hg w6 hbox hb; replace HB := Aside0.mk (below_step (by repeat (first | (with_reducible first | exact HB.out | apply below_alloc | apply pw_below_drewN | apply below_drew1 | refine below_set ?_ (IsS50.ge HI0.out) | refine below_set ?_ GE129.out) | exact HB.out)) hb); have BK133 := Aside0.mk (hbox); have GW133 := Aside0.mk ((by rw [hg]; exact (keep_size (w := w) (g := g) (row := none) (by repeat (first | (with_reducible first | exact HK.out | apply KeepBut.set_ | apply keep_drewN | apply keep_drew | apply keep_alloc | refine keep_far ?_ GW129.out _) | exact HK.out))) : w.heap.size ≤ gb133)); have GE133 := Aside0.mk ((Nat.le_trans HW0.out (by rw [hg]; exact (keep_size (w := w) (g := g) (row := none) (by repeat (first | (with_reducible first | exact HK.out | apply KeepBut.set_ | apply keep_drewN | apply keep_drew | apply keep_alloc | refine keep_far ?_ GW129.out _) | exact HK.out))) : w.heap.size ≤ gb133) : w0.heap.size ≤ gb133)); replace HK := Aside0.mk (KeepBut.trans (by repeat (first | (with_reducible first | exact HK.out | apply KeepBut.set_ | apply keep_drewN | apply keep_drew | apply keep_alloc | refine keep_far ?_ GW129.out _) | exact HK.out)) (KeepBut.of_below hb g none) (.inl rfl)); have NB129_133 := Aside0.mk ((by rw [hg]; exact Nat.ne_of_lt (blk_lt (B1 BK129)) : gb129 ≠ gb133)); have NB133_129 := Aside0.mk ((by rw [hg]; exact Nat.ne_of_gt (blk_lt (B1 BK129)) : gb133 ≠ gb129)); replace BK129 := Aside0.mk (blk_below (B1 BK129) hb); have NB0_133 := Aside0.mk ((by rw [hg]; exact Nat.ne_of_lt (IsS50.lt (show IsS50 w0 _ g s0_0 t131 t132 from by repeat (first | (with_reducible first | exact HI0.out | apply IsS50.alloc | apply IsS50.drewN | apply IsS50.drew | apply IsS50.set_1 | apply IsS50.set_2 | refine IsS50.far ?_ NB0_129.out _) | exact HI0.out))) : g ≠ gb133)); have NB133_0 := Aside0.mk ((by rw [hg]; exact Nat.ne_of_gt (IsS50.lt (show IsS50 w0 _ g s0_0 t131 t132 from by repeat (first | (with_reducible first | exact HI0.out | apply IsS50.alloc | apply IsS50.drewN | apply IsS50.drew | apply IsS50.set_1 | apply IsS50.set_2 | refine IsS50.far ?_ NB0_129.out _) | exact HI0.out))) : gb133 ≠ g)); replace HI0 := Aside0.mk (IsS50.below (by repeat (first | (with_reducible first | exact HI0.out | apply IsS50.alloc | apply IsS50.drewN | apply IsS50.drew | apply IsS50.set_1 | apply IsS50.set_2 | refine IsS50.far ?_ NB0_129.out _) | exact HI0.out)) hb); clear hb hbox hg; have hnb7 := NB133_129.out; have hnc7 := NB129_133.out; have hnb8 := NB133_0.out; have hnc8 := NB0_133.out; have hcz9_0 : w6.cell? ⟨gb133, 0, none⟩ = some (.int .i64 0) := bc BK133; have hcz9_1 : w6.cell? ⟨gb133, 1, none⟩ = some (.slice none 0 0) := bc BK133; have hfz9_0 := blk_frozen BK133.out 0; have hfz9_1 := blk_frozen BK133.out 1) | ((with_reducible refine gD 12 ?_); refine Kd.S_lit (Kd.slice 2 (Kd.int .i64)) _ 27 ?hg (N := 12) ?hd (xs := ([] : List (List Int))) (inner := []) (ok := fun _ => True) (okp := fun _ => True) ?hr ?hp (fun _ hk => hk) trivial (Below.refl _ _) (Nat.le_refl _) (by simp) ?_; (case hd => rfl); (case hg => rfl); (case hr => first | (go_simp; done) | (go_simp; rfl)); (case hp => exact (Reps.none _ _)); intro v135 w10 ho11 hb hg_ hnew_; clear hg_ hnew_; (first | rw [← Ny134.out] at ho11 | (simp only [Int.reduceToNat] at ho11; rw [← Ny134.out] at ho11)); have HO136 := Aside0.mk (Kd.S_lower ho11 (keep_size (w := w) (g := g) (row := none) (by repeat (first | (with_reducible first | exact HK.out | apply KeepBut.set_ | apply keep_drewN | apply keep_drew | apply keep_alloc | refine keep_far ?_ GW129.out _ | refine keep_far ?_ GW133.out _) | exact HK.out)))); replace BK129 := Aside0.mk (blk_below (g := gb129) (o := .cells #[.int .i64 0, .slice none 0 0] 26 (0, 0)) (by (with_reducible repeat (first | refine blk_drewN ?_ _ | refine blk_drew ?_ | refine blk_alloc ?_ _)); refine blk_far ?_ NB129_133.out _; (with_reducible repeat (first | refine blk_drewN ?_ _ | refine blk_drew ?_ | refine blk_alloc ?_ _)); refine blk_far ?_ NB129_133.out _; (with_reducible repeat (first | refine blk_drewN ?_ _ | refine blk_drew ?_ | refine blk_alloc ?_ _)); exact BK129.out) hb); replace BK133 := Aside0.mk (blk_below (g := gb133) (o := .cells #[.int .i64 (wrap64 (1 + t130)), .slice none 0 0] 26 (0, 0)) (by (with_reducible repeat (first | refine blk_drewN ?_ _ | refine blk_drew ?_ | refine blk_alloc ?_ _)); refine blk_put (cs := #[.int .i64 (wrap64 (1 + t130)), .slice none 0 0]) ?_ 1 _ rfl; (with_reducible repeat (first | refine blk_drewN ?_ _ | refine blk_drew ?_ | refine blk_alloc ?_ _)); refine blk_put (cs := #[.int .i64 0, .slice none 0 0]) ?_ 0 _ rfl; (with_reducible repeat (first | refine blk_drewN ?_ _ | refine blk_drew ?_ | refine blk_alloc ?_ _)); exact BK133.out) hb); replace HK := Aside0.mk (KeepBut.trans (by repeat (first | (with_reducible first | exact HK.out | apply KeepBut.set_ | apply keep_drewN | apply keep_drew | apply keep_alloc | refine keep_far ?_ GW129.out _ | refine keep_far ?_ GW133.out _) | exact HK.out)) (KeepBut.of_below hb g none) (.inl rfl)); replace HB := Aside0.mk (below_step (by repeat (first | (with_reducible first | exact HB.out | apply below_alloc | apply pw_below_drewN | apply below_drew1 | refine below_set ?_ (IsS50.ge HI0.out) | refine below_set ?_ GE129.out | refine below_set ?_ GE133.out) | exact HB.out)) hb); replace HI0 := Aside0.mk (IsS50.below (show IsS50 w0 ((w6.setCell ⟨gb133, 0, none⟩ (.int .i64 (wrap64 (1 + t130)))).setCell ⟨gb133, 1, none⟩ (.slice none 0 0)) g s0_0 t131 t132 from by repeat (first | (with_reducible first | exact HI0.out | apply IsS50.alloc | apply IsS50.drewN | apply IsS50.drew | apply IsS50.set_1 | apply IsS50.set_2 | refine IsS50.far ?_ NB0_129.out _ | refine IsS50.far ?_ NB0_133.out _) | exact HI0.out)) hb); clear hb ho11) | ((with_reducible refine gC 21 ?_); refine GL (some 14) Try.func21 #[.pointer (some ⟨g, 0, none⟩), .int .i64 14] ?_; (with_reducible refine (spec_l01Next.calls g s0_0 t131 t132 14 t137 t138 t139 w0 _ ?side1 ?side2 A3.out).mono ?_); (case side1 => repeat (first | (with_reducible first | exact HI0.out | apply IsS50.alloc | apply IsS50.drewN | apply IsS50.drew | apply IsS50.set_1 | apply IsS50.set_2 | refine IsS50.far ?_ NB0_129.out _ | refine IsS50.far ?_ NB0_133.out _) | exact HI0.out)); (case side2 => repeat (first | (with_reducible first | exact HB.out | apply below_alloc | apply pw_below_drewN | apply below_drew1 | refine below_set ?_ (IsS50.ge HI0.out) | refine below_set ?_ GE129.out | refine below_set ?_ GE133.out) | exact HB.out)); rintro e w12 ⟨rfl, hi, hb, hk⟩; refine ⟨_, rfl, ?_⟩; replace BK129 := Aside0.mk (KeepBut.blk hk (g' := gb129) (o := .cells #[.int .i64 0, .slice none 0 0] 26 (0, 0)) (B1 BK129) NB129_0.out (by simp)); replace BK133 := Aside0.mk (KeepBut.blk hk (g' := gb133) (o := .cells #[.int .i64 (wrap64 (1 + t130)), .slice none 0 0] 26 (0, 0)) (B1 BK133) NB133_0.out (by simp)); replace HO136 := Aside0.mk (Kd.S_mono (Kd.S_keep (IsS50.apartS (show IsS50 w0 _ g s0_0 t131 t132 from by repeat (first | (with_reducible first | exact HI0.out | apply IsS50.alloc | apply IsS50.drewN | apply IsS50.drew | apply IsS50.set_1 | apply IsS50.set_2 | refine IsS50.far ?_ NB0_129.out _ | refine IsS50.far ?_ NB0_133.out _) | exact HI0.out)) (S1 HO136) (by decide)) hk (fun _ h => h.2)) (fun _ h => h.1)); replace HK := Aside0.mk (KeepBut.trans (by repeat (first | (with_reducible first | exact HK.out | apply KeepBut.set_ | apply keep_drewN | apply keep_drew | apply keep_alloc | refine keep_far ?_ GW129.out _ | refine keep_far ?_ GW133.out _) | exact HK.out)) hk (.inl rfl)); replace HB := Aside0.mk (hb); replace HI0 := Aside0.mk (hi); (try clear hb); (try clear hb2); (try clear hk); (try clear hi)))
  go_loopg [4, 5] k (fun kq v4 v5 w' => ∃ (x4_1 : List (List Int)) (x5_1 : Int) (x1001_1 : Int) (x1002_1 : Int), v5 = .int .i64 x5_1 ∧ Aside0 (spec_l20Draw.l0 kq x4_1 x5_1 s0_0 x1001_1 x1002_1 (wrap64 (1 + t130)) = some (r1, r2, r3, r4)) ∧ Aside0 (kq ≤ k) ∧ Aside0 (Kd.S (Kd.slice 2 (Kd.int .i64)) 27 w' w.heap.size (fun _ => True) v4 x4_1) ∧ Aside0 (w'.heap[gb129]? = some (.cells #[.int .i64 0, (.slice none 0 0)] 26 (0, 0))) ∧ Aside0 (w'.heap[gb133]? = some (.cells #[.int .i64 (wrap64 (1 + t130)), (.slice none 0 0)] 26 (0, 0))) ∧ Aside0 (IsS50 w0 w' g s0_0 x1001_1 x1002_1) ∧ Aside0 (KeepBut w w' g none) ∧ Aside0 (Below w0.heap.size w0 w'))
  case atStart => exact ⟨(y134), (t137), (t138), (t139), Fs, H', ⟨Nat.le_refl _⟩, ⟨S1 HO136⟩, ⟨B1 BK129⟩, ⟨B1 BK133⟩, ⟨by repeat (first | (with_reducible first | exact HI0.out | apply IsS50.alloc | apply IsS50.drewN | apply IsS50.drew | apply IsS50.set_1 | apply IsS50.set_2 | refine IsS50.far ?_ NB0_129.out _ | refine IsS50.far ?_ NB0_133.out _) | exact HI0.out)⟩, ⟨by repeat (first | (with_reducible first | exact HK.out | apply KeepBut.set_ | apply keep_drewN | apply keep_drew | apply keep_alloc | refine keep_far ?_ GW129.out _ | refine keep_far ?_ GW133.out _) | exact HK.out)⟩, ⟨by repeat (first | (with_reducible first | exact HB.out | apply below_alloc | apply pw_below_drewN | apply below_drew1 | refine below_set ?_ (IsS50.ge HI0.out) | refine below_set ?_ GE129.out | refine below_set ?_ GE133.out) | exact HB.out)⟩⟩
  case round =>
    clear H'
    try clear c2
    try clear p2
    try clear p6
    try clear c7
    try clear c8
    try clear hcz9_0
    try clear hcz9_1
    try clear hfz9_0
    try clear hfz9_1
    obtain ⟨x4_1, x5_1, x1001_1, x1002_1, rfl, HA, HK1, HO_4, BK129, BK133, HI0, HK, HB⟩ := hrel
    cases gk with
    | zero => exact absurd HA.out (by simp [spec_l20Draw.l0])
    | succ k1 =>
      have H := HA.out
      clear HA
      simp only [spec_l20Draw.l0] at H
      by_cases c13 : x5_1 > 0
      · rw [if_pos c13] at H
        have c13b0 : decide (0 < x5_1) = true := decide_eq_true c13
        clear c13
        obtain ⟨y140, hy140⟩ : ∃ y_ : List Int, y_ = (([] : List Int)) := ⟨_, rfl⟩
        replace H : (spec_l20Draw.l1 k1 x4_1 x5_1 y140 1 s0_0 x1001_1 x1002_1 (wrap64 (1 + t130))) = some (r1, r2, r3, r4) := by first | (rw [hy140]; with_reducible exact H) | (have H2_ := (Option.bind_some _ _).symm.trans H; rw [hy140]; with_reducible exact H2_) | (have H2_ := (Option.bind_some _ _).symm.trans H; with_reducible exact H2_) | with_reducible exact H | (rw [hy140]; exact H) | exact H
        have Ny140 := Aside0.mk hy140
        clear hy140
        have H' := Aside0.mk H
        clear H
        go_wp2_with (first | ((with_reducible refine gD 19 ?_); refine Kd.R_lit (Kd.int .i64) _ 2 ?hg (N := 19) ?hd (xs := ([] : List Int)) (inner := []) (ok := fun _ => True) (okp := fun _ => True) ?hr ?hp (fun _ hk => hk) trivial (Below.refl _ _) (Nat.le_refl _) (by simp) ?_; (case hd => rfl); (case hg => rfl); (case hr => first | (go_simp; done) | (go_simp; rfl)); (case hp => exact (Reps.none _ _)); intro v141 w14 ho15 hb hg_ hnew_; clear hg_ hnew_; (first | rw [← Ny140.out] at ho15 | (simp only [Int.reduceToNat] at ho15; rw [← Ny140.out] at ho15)); replace HO_4 := Aside0.mk (Kd.S_elder' (S1 HO_4) (Kd.R_base ho15) hb); have HO142 := Aside0.mk (Kd.R_lower ho15 (keep_size (w := w) (g := g) (row := none) (by repeat (first | (with_reducible first | exact HK.out | apply KeepBut.set_ | apply keep_drewN | apply keep_drew | apply keep_alloc | refine keep_far ?_ GW129.out _ | refine keep_far ?_ GW133.out _) | exact HK.out)))); replace BK129 := Aside0.mk (blk_below (B1 BK129) hb); replace BK133 := Aside0.mk (blk_below (B1 BK133) hb); replace HK := Aside0.mk (KeepBut.trans (by repeat (first | (with_reducible first | exact HK.out | apply KeepBut.set_ | apply keep_drewN | apply keep_drew | apply keep_alloc | refine keep_far ?_ GW129.out _ | refine keep_far ?_ GW133.out _) | exact HK.out)) (KeepBut.of_below hb g none) (.inl rfl)); replace HB := Aside0.mk (below_step (by repeat (first | (with_reducible first | exact HB.out | apply below_alloc | apply pw_below_drewN | apply below_drew1 | refine below_set ?_ (IsS50.ge HI0.out) | refine below_set ?_ GE129.out | refine below_set ?_ GE133.out) | exact HB.out)) hb); replace HI0 := Aside0.mk (IsS50.below (by repeat (first | (with_reducible first | exact HI0.out | apply IsS50.alloc | apply IsS50.drewN | apply IsS50.drew | apply IsS50.set_1 | apply IsS50.set_2 | refine IsS50.far ?_ NB0_129.out _ | refine IsS50.far ?_ NB0_133.out _) | exact HI0.out)) hb); clear hb ho15))
        go_loopg [6, 7] k1 (fun kq v6 v7 w' => ∃ (x6_2 : List Int) (x7_2 : Int) (x1001_2 : Int) (x1002_2 : Int), v7 = .int .i64 x7_2 ∧ Aside0 (spec_l20Draw.l1 kq x4_1 x5_1 x6_2 x7_2 s0_0 x1001_2 x1002_2 (wrap64 (1 + t130)) = some (r1, r2, r3, r4)) ∧ Aside0 (kq ≤ k1) ∧ Aside0 (Kd.S (Kd.slice 2 (Kd.int .i64)) 27 w' w.heap.size (fun k_ => some k_ ≠ (v6 : Value).ownBlock) u4 x4_1) ∧ Aside0 (Kd.R (Kd.int .i64) 2 w' w.heap.size (fun _ => True) v6 x6_2) ∧ Aside0 (w'.heap[gb129]? = some (.cells #[.int .i64 0, (.slice none 0 0)] 26 (0, 0))) ∧ Aside0 (w'.heap[gb133]? = some (.cells #[.int .i64 (wrap64 (1 + t130)), (.slice none 0 0)] 26 (0, 0))) ∧ Aside0 (IsS50 w0 w' g s0_0 x1001_2 x1002_2) ∧ Aside0 (KeepBut w w' g none) ∧ Aside0 (Below w0.heap.size w0 w'))
        case atStart => exact ⟨(y140), (1), (x1001_1), (x1002_1), Fs, H', ⟨Nat.le_refl _⟩, ⟨by (with_reducible repeat (first | apply Kd.S_alloc | apply Kd.S_drewN | apply Kd.S_drew)); exact Kd.S_mono HO_4.out (fun _ hk => hk.2)⟩, ⟨R1 HO142⟩, ⟨B1 BK129⟩, ⟨B1 BK133⟩, ⟨by repeat (first | (with_reducible first | exact HI0.out | apply IsS50.alloc | apply IsS50.drewN | apply IsS50.drew | apply IsS50.set_1 | apply IsS50.set_2 | refine IsS50.far ?_ NB0_129.out _ | refine IsS50.far ?_ NB0_133.out _) | exact HI0.out)⟩, ⟨by repeat (first | (with_reducible first | exact HK.out | apply KeepBut.set_ | apply keep_drewN | apply keep_drew | apply keep_alloc | refine keep_far ?_ GW129.out _ | refine keep_far ?_ GW133.out _) | exact HK.out)⟩, ⟨by repeat (first | (with_reducible first | exact HB.out | apply below_alloc | apply pw_below_drewN | apply below_drew1 | refine below_set ?_ (IsS50.ge HI0.out) | refine below_set ?_ GE129.out | refine below_set ?_ GE133.out) | exact HB.out)⟩⟩
        case round =>
          clear H'
          try clear c1
          try clear c2
          try clear p2
          try clear p6
          try clear c7
          try clear c8
          try clear c13
          try clear c13b0
          try clear hcz9_0
          try clear hcz9_1
          try clear hfz9_0
          try clear hfz9_1
          try clear p2
          try clear p6
          obtain ⟨x6_2, x7_2, x1001_2, x1002_2, rfl, HA, HK2, HO_4, HO_6, BK129, BK133, HI0, HK, HB⟩ := hrel
          cases gk with
          | zero => exact absurd HA.out (by simp [spec_l20Draw.l1])
          | succ k2 =>
            have H := HA.out
            clear HA
            simp only [spec_l20Draw.l1] at H
            by_cases c16 : x7_2 ≤ (wrap64 (1 + t130))
            · rw [if_pos c16] at H
              have c16b0 : decide (x7_2 ≤ (wrap64 (1 + t130))) = true := decide_eq_true c16
              clear c16
              obtain ⟨⟨t152, t153, t154⟩, A170, H⟩ := Option.bind_eq_some_iff.mp H
              dsimp only at H
              have A17 := Aside0.mk A170
              clear A170
              by_cases c18 : t152 = 0
              · rw [if_pos c18] at H
                have c18b0 : (t152 == 0) = true := beq_iff_eq.mpr c18
                have c18b1 : (t152 != 0) = false := bne_eq_false_iff_eq.mpr c18
                clear c18
                by_cases c19 : x6_2.length < 17592186044416
                · rw [if_pos c19] at H
                  have LMc19 := Aside0.mk c19
                  clear c19
                  obtain ⟨y155, hy155⟩ : ∃ y_ : List Int, y_ = (x6_2 ++ [x7_2]) := ⟨_, rfl⟩
                  replace H : (spec_l20Draw.l1 k2 x4_1 x5_1 y155 (wrap64 (x7_2 + 1)) s0_0 t153 t154 (wrap64 (1 + t130))) = some (r1, r2, r3, r4) := by first | (rw [hy155]; with_reducible exact H) | (have H2_ := (Option.bind_some _ _).symm.trans H; rw [hy155]; with_reducible exact H2_) | (have H2_ := (Option.bind_some _ _).symm.trans H; with_reducible exact H2_) | with_reducible exact H | (rw [hy155]; exact H) | exact H
                  have Ny155 := Aside0.mk hy155
                  clear hy155
                  have H' := Aside0.mk H
                  clear H
                  have hnb20 := NB133_129.out
                  have hnc20 := NB129_133.out
                  have hnb21 := NB133_0.out
                  have hnc21 := NB0_133.out
                  have hcz22_0 : wr.cell? ⟨gb133, 0, none⟩ = some (.int .i64 (wrap64 (1 + t130))) := bc BK133
                  have hcz22_1 : wr.cell? ⟨gb133, 1, none⟩ = some (.slice none 0 0) := bc BK133
                  have hfz22_0 := blk_frozen BK133.out 0
                  have hfz22_1 := blk_frozen BK133.out 1
                  go_wp2_with (first | ((with_reducible refine gC 21 ?_); refine GL (some 27) Try.func21 #[.pointer (some ⟨g, 0, none⟩), .int .i64 5] ?_; (with_reducible refine (spec_l01Next.calls g s0_0 x1001_2 x1002_2 5 t152 t153 t154 w0 _ ?side1 ?side2 A17.out).mono ?_); (case side1 => repeat (first | (with_reducible first | exact HI0.out | apply IsS50.alloc | apply IsS50.drewN | apply IsS50.drew | apply IsS50.set_1 | apply IsS50.set_2 | refine IsS50.far ?_ NB0_129.out _ | refine IsS50.far ?_ NB0_133.out _) | exact HI0.out)); (case side2 => repeat (first | (with_reducible first | exact HB.out | apply below_alloc | apply pw_below_drewN | apply below_drew1 | refine below_set ?_ (IsS50.ge HI0.out) | refine below_set ?_ GE129.out | refine below_set ?_ GE133.out) | exact HB.out)); rintro e w23 ⟨rfl, hi, hb, hk⟩; refine ⟨_, rfl, ?_⟩; replace HO_4 := Aside0.mk (Kd.S_mono (Kd.S_keep (IsS50.apartS (show IsS50 w0 _ g s0_0 x1001_2 x1002_2 from by repeat (first | (with_reducible first | exact HI0.out | apply IsS50.alloc | apply IsS50.drewN | apply IsS50.drew | apply IsS50.set_1 | apply IsS50.set_2 | refine IsS50.far ?_ NB0_129.out _ | refine IsS50.far ?_ NB0_133.out _) | exact HI0.out)) (S1 HO_4) (by decide)) hk (fun _ h => h.2)) (fun _ h => h.1)); replace HO_6 := Aside0.mk (Kd.R_mono (Kd.R_keep (IsS50.apart (show IsS50 w0 _ g s0_0 x1001_2 x1002_2 from by repeat (first | (with_reducible first | exact HI0.out | apply IsS50.alloc | apply IsS50.drewN | apply IsS50.drew | apply IsS50.set_1 | apply IsS50.set_2 | refine IsS50.far ?_ NB0_129.out _ | refine IsS50.far ?_ NB0_133.out _) | exact HI0.out)) (R1 HO_6) (by decide)) hk (fun _ h => h.2)) (fun _ h => h.1)); replace BK129 := Aside0.mk (KeepBut.blk hk (g' := gb129) (o := .cells #[.int .i64 0, .slice none 0 0] 26 (0, 0)) (B1 BK129) NB129_0.out (by simp)); replace BK133 := Aside0.mk (KeepBut.blk hk (g' := gb133) (o := .cells #[.int .i64 (wrap64 (1 + t130)), .slice none 0 0] 26 (0, 0)) (B1 BK133) NB133_0.out (by simp)); replace HK := Aside0.mk (KeepBut.trans (by repeat (first | (with_reducible first | exact HK.out | apply KeepBut.set_ | apply keep_drewN | apply keep_drew | apply keep_alloc | refine keep_far ?_ GW129.out _ | refine keep_far ?_ GW133.out _) | exact HK.out)) hk (.inl rfl)); replace HB := Aside0.mk (hb); replace HI0 := Aside0.mk (hi); (try clear hb); (try clear hb2); (try clear hk); (try clear hi)) | ((with_reducible refine gate_builtin (b := .append) (xs := #[.tmp 30, .tmp 32]) rfl ?_); at_builtin; refine Kd.R_append (Kd.int .i64) w.heap.size rfl (.tmp 30) (.tmp 32) 27 2 (.int .i64 0) 8 rfl Try.underlying27 info2 rfl (by decide) (by omega) u6 x6_2 x7_2 [.int .i64 x7_2] (fun _ => True) (fun _ => False) rfl rfl ?aP (fun _ hk => hk.elim) ?aF ?aO (Below.refl _ _) ?aS ?aL ?_; (case aP => exact rfl); (case aF => exact (fun _ _ => trivial)); (case aO => exact (R1 HO_6)); (case aS => exact (keep_size (w := w) (g := g) (row := none) (by repeat (first | (with_reducible first | exact HK.out | apply KeepBut.set_ | apply keep_drewN | apply keep_drew | apply keep_alloc | refine keep_far ?_ GW129.out _ | refine keep_far ?_ GW133.out _) | exact HK.out)))); (case aL => have := LMc19.out; omega); intro v156 w24 ho hb hg hat; rw [← Ny155.out] at ho; replace HO_4 := Aside0.mk (Kd.S_after (ok := (fun _ => True)) (by (with_reducible repeat (first | apply Kd.S_alloc | apply Kd.S_drewN | apply Kd.S_drew)); exact Kd.S_mono HO_4.out (fun _ hk => ⟨trivial, hk⟩)) hg hat); replace BK129 := Aside0.mk (blk_grown (B1 BK129) hg (Kd.R_ne HO_6.out BK129.out (by decide))); replace BK133 := Aside0.mk (blk_grown (B1 BK133) hg (Kd.R_ne HO_6.out BK133.out (by decide))); replace HB := Aside0.mk (below_weaken (by repeat (first | (with_reducible first | exact HB.out | apply below_alloc | apply pw_below_drewN | apply below_drew1 | refine below_set ?_ (IsS50.ge HI0.out) | refine below_set ?_ GE129.out | refine below_set ?_ GE133.out) | exact HB.out)) HL.out hb); replace HI0 := Aside0.mk (IsS50.grown (by repeat (first | (with_reducible first | exact HI0.out | apply IsS50.alloc | apply IsS50.drewN | apply IsS50.drew | apply IsS50.set_1 | apply IsS50.set_2 | refine IsS50.far ?_ NB0_129.out _ | refine IsS50.far ?_ NB0_133.out _) | exact HI0.out)) hg (IsS50.own_ne HI0.out HO_6.out (by decide))); replace HK := Aside0.mk (KeepBut.trans (by repeat (first | (with_reducible first | exact HK.out | apply KeepBut.set_ | apply keep_drewN | apply keep_drew | apply keep_alloc | refine keep_far ?_ GW129.out _ | refine keep_far ?_ GW133.out _) | exact HK.out)) (KeepBut.of_grown hg g) (Kd.R_base2 HO_6.out)); have HO157 := Aside0.mk (ho); clear HO_6; clear ho hb hg hat))
                  go_roundg k2
                  case measure => have := HK1.out; have := HK2.out; omega
                  case rel => exact ⟨(y155), (wrap64 (x7_2 + 1)), (t153), (t154), Fs, H', ⟨by have := HK1.out; have := HK2.out; omega⟩, ⟨by (with_reducible repeat (first | apply Kd.S_alloc | apply Kd.S_drewN | apply Kd.S_drew)); exact Kd.S_mono HO_4.out (fun _ hk => hk.2)⟩, ⟨R1 HO157⟩, ⟨B1 BK129⟩, ⟨B1 BK133⟩, ⟨by repeat (first | (with_reducible first | exact HI0.out | apply IsS50.alloc | apply IsS50.drewN | apply IsS50.drew | apply IsS50.set_1 | apply IsS50.set_2 | refine IsS50.far ?_ NB0_129.out _ | refine IsS50.far ?_ NB0_133.out _) | exact HI0.out)⟩, ⟨by repeat (first | (with_reducible first | exact HK.out | apply KeepBut.set_ | apply keep_drewN | apply keep_drew | apply keep_alloc | refine keep_far ?_ GW129.out _ | refine keep_far ?_ GW133.out _) | exact HK.out)⟩, ⟨by repeat (first | (with_reducible first | exact HB.out | apply below_alloc | apply pw_below_drewN | apply below_drew1 | refine below_set ?_ (IsS50.ge HI0.out) | refine below_set ?_ GE129.out | refine below_set ?_ GE133.out) | exact HB.out)⟩⟩
                · rw [if_neg c19] at H
                  exact absurd H (by simp)
              · rw [if_neg c18] at H
                have c18b0 : (t152 == 0) = false := beq_eq_false_iff_ne.mpr c18
                have c18b1 : (t152 != 0) = true := bne_iff_ne.mpr c18
                by_cases c25 : t152 = 1
                · rw [if_pos c25] at H
                  have c25b0 : (t152 == 1) = true := beq_iff_eq.mpr c25
                  have c25b1 : (t152 != 1) = false := bne_eq_false_iff_eq.mpr c25
                  clear c25
                  by_cases c26 : x6_2.length < 17592186044416
                  · rw [if_pos c26] at H
                    have LMc26 := Aside0.mk c26
                    clear c26
                    obtain ⟨y158, hy158⟩ : ∃ y_ : List Int, y_ = (x6_2 ++ [wrap64 (-x7_2)]) := ⟨_, rfl⟩
                    replace H : (spec_l20Draw.l1 k2 x4_1 x5_1 y158 (wrap64 (x7_2 + 1)) s0_0 t153 t154 (wrap64 (1 + t130))) = some (r1, r2, r3, r4) := by first | (rw [hy158]; with_reducible exact H) | (have H2_ := (Option.bind_some _ _).symm.trans H; rw [hy158]; with_reducible exact H2_) | (have H2_ := (Option.bind_some _ _).symm.trans H; with_reducible exact H2_) | with_reducible exact H | (rw [hy158]; exact H) | exact H
                    have Ny158 := Aside0.mk hy158
                    clear hy158
                    have H' := Aside0.mk H
                    clear H
                    have hnb27 := NB133_129.out
                    have hnc27 := NB129_133.out
                    have hnb28 := NB133_0.out
                    have hnc28 := NB0_133.out
                    have hcz29_0 : wr.cell? ⟨gb133, 0, none⟩ = some (.int .i64 (wrap64 (1 + t130))) := bc BK133
                    have hcz29_1 : wr.cell? ⟨gb133, 1, none⟩ = some (.slice none 0 0) := bc BK133
                    have hfz29_0 := blk_frozen BK133.out 0
                    have hfz29_1 := blk_frozen BK133.out 1
                    go_wp2_with (first | ((with_reducible refine gC 21 ?_); refine GL (some 27) Try.func21 #[.pointer (some ⟨g, 0, none⟩), .int .i64 5] ?_; (with_reducible refine (spec_l01Next.calls g s0_0 x1001_2 x1002_2 5 t152 t153 t154 w0 _ ?side1 ?side2 A17.out).mono ?_); (case side1 => repeat (first | (with_reducible first | exact HI0.out | apply IsS50.alloc | apply IsS50.drewN | apply IsS50.drew | apply IsS50.set_1 | apply IsS50.set_2 | refine IsS50.far ?_ NB0_129.out _ | refine IsS50.far ?_ NB0_133.out _) | exact HI0.out)); (case side2 => repeat (first | (with_reducible first | exact HB.out | apply below_alloc | apply pw_below_drewN | apply below_drew1 | refine below_set ?_ (IsS50.ge HI0.out) | refine below_set ?_ GE129.out | refine below_set ?_ GE133.out) | exact HB.out)); rintro e w30 ⟨rfl, hi, hb, hk⟩; refine ⟨_, rfl, ?_⟩; replace HO_4 := Aside0.mk (Kd.S_mono (Kd.S_keep (IsS50.apartS (show IsS50 w0 _ g s0_0 x1001_2 x1002_2 from by repeat (first | (with_reducible first | exact HI0.out | apply IsS50.alloc | apply IsS50.drewN | apply IsS50.drew | apply IsS50.set_1 | apply IsS50.set_2 | refine IsS50.far ?_ NB0_129.out _ | refine IsS50.far ?_ NB0_133.out _) | exact HI0.out)) (S1 HO_4) (by decide)) hk (fun _ h => h.2)) (fun _ h => h.1)); replace HO_6 := Aside0.mk (Kd.R_mono (Kd.R_keep (IsS50.apart (show IsS50 w0 _ g s0_0 x1001_2 x1002_2 from by repeat (first | (with_reducible first | exact HI0.out | apply IsS50.alloc | apply IsS50.drewN | apply IsS50.drew | apply IsS50.set_1 | apply IsS50.set_2 | refine IsS50.far ?_ NB0_129.out _ | refine IsS50.far ?_ NB0_133.out _) | exact HI0.out)) (R1 HO_6) (by decide)) hk (fun _ h => h.2)) (fun _ h => h.1)); replace BK129 := Aside0.mk (KeepBut.blk hk (g' := gb129) (o := .cells #[.int .i64 0, .slice none 0 0] 26 (0, 0)) (B1 BK129) NB129_0.out (by simp)); replace BK133 := Aside0.mk (KeepBut.blk hk (g' := gb133) (o := .cells #[.int .i64 (wrap64 (1 + t130)), .slice none 0 0] 26 (0, 0)) (B1 BK133) NB133_0.out (by simp)); replace HK := Aside0.mk (KeepBut.trans (by repeat (first | (with_reducible first | exact HK.out | apply KeepBut.set_ | apply keep_drewN | apply keep_drew | apply keep_alloc | refine keep_far ?_ GW129.out _ | refine keep_far ?_ GW133.out _) | exact HK.out)) hk (.inl rfl)); replace HB := Aside0.mk (hb); replace HI0 := Aside0.mk (hi); (try clear hb); (try clear hb2); (try clear hk); (try clear hi)) | ((with_reducible refine gate_builtin (b := .append) (xs := #[.tmp 36, .tmp 39]) rfl ?_); at_builtin; refine Kd.R_append (Kd.int .i64) w.heap.size rfl (.tmp 36) (.tmp 39) 27 2 (.int .i64 0) 8 rfl Try.underlying27 info2 rfl (by decide) (by omega) u6 x6_2 (wrap64 (-x7_2)) [.int .i64 (wrap64 (-x7_2))] (fun _ => True) (fun _ => False) rfl rfl ?aP (fun _ hk => hk.elim) ?aF ?aO (Below.refl _ _) ?aS ?aL ?_; (case aP => exact rfl); (case aF => exact (fun _ _ => trivial)); (case aO => exact (R1 HO_6)); (case aS => exact (keep_size (w := w) (g := g) (row := none) (by repeat (first | (with_reducible first | exact HK.out | apply KeepBut.set_ | apply keep_drewN | apply keep_drew | apply keep_alloc | refine keep_far ?_ GW129.out _ | refine keep_far ?_ GW133.out _) | exact HK.out)))); (case aL => have := LMc26.out; omega); intro v159 w31 ho hb hg hat; rw [← Ny158.out] at ho; replace HO_4 := Aside0.mk (Kd.S_after (ok := (fun _ => True)) (by (with_reducible repeat (first | apply Kd.S_alloc | apply Kd.S_drewN | apply Kd.S_drew)); exact Kd.S_mono HO_4.out (fun _ hk => ⟨trivial, hk⟩)) hg hat); replace BK129 := Aside0.mk (blk_grown (B1 BK129) hg (Kd.R_ne HO_6.out BK129.out (by decide))); replace BK133 := Aside0.mk (blk_grown (B1 BK133) hg (Kd.R_ne HO_6.out BK133.out (by decide))); replace HB := Aside0.mk (below_weaken (by repeat (first | (with_reducible first | exact HB.out | apply below_alloc | apply pw_below_drewN | apply below_drew1 | refine below_set ?_ (IsS50.ge HI0.out) | refine below_set ?_ GE129.out | refine below_set ?_ GE133.out) | exact HB.out)) HL.out hb); replace HI0 := Aside0.mk (IsS50.grown (by repeat (first | (with_reducible first | exact HI0.out | apply IsS50.alloc | apply IsS50.drewN | apply IsS50.drew | apply IsS50.set_1 | apply IsS50.set_2 | refine IsS50.far ?_ NB0_129.out _ | refine IsS50.far ?_ NB0_133.out _) | exact HI0.out)) hg (IsS50.own_ne HI0.out HO_6.out (by decide))); replace HK := Aside0.mk (KeepBut.trans (by repeat (first | (with_reducible first | exact HK.out | apply KeepBut.set_ | apply keep_drewN | apply keep_drew | apply keep_alloc | refine keep_far ?_ GW129.out _ | refine keep_far ?_ GW133.out _) | exact HK.out)) (KeepBut.of_grown hg g) (Kd.R_base2 HO_6.out)); have HO160 := Aside0.mk (ho); clear HO_6; clear ho hb hg hat))
                    go_roundg k2
                    case measure => have := HK1.out; have := HK2.out; omega
                    case rel => exact ⟨(y158), (wrap64 (x7_2 + 1)), (t153), (t154), Fs, H', ⟨by have := HK1.out; have := HK2.out; omega⟩, ⟨by (with_reducible repeat (first | apply Kd.S_alloc | apply Kd.S_drewN | apply Kd.S_drew)); exact Kd.S_mono HO_4.out (fun _ hk => hk.2)⟩, ⟨R1 HO160⟩, ⟨B1 BK129⟩, ⟨B1 BK133⟩, ⟨by repeat (first | (with_reducible first | exact HI0.out | apply IsS50.alloc | apply IsS50.drewN | apply IsS50.drew | apply IsS50.set_1 | apply IsS50.set_2 | refine IsS50.far ?_ NB0_129.out _ | refine IsS50.far ?_ NB0_133.out _) | exact HI0.out)⟩, ⟨by repeat (first | (with_reducible first | exact HK.out | apply KeepBut.set_ | apply keep_drewN | apply keep_drew | apply keep_alloc | refine keep_far ?_ GW129.out _ | refine keep_far ?_ GW133.out _) | exact HK.out)⟩, ⟨by repeat (first | (with_reducible first | exact HB.out | apply below_alloc | apply pw_below_drewN | apply below_drew1 | refine below_set ?_ (IsS50.ge HI0.out) | refine below_set ?_ GE129.out | refine below_set ?_ GE133.out) | exact HB.out)⟩⟩
                  · rw [if_neg c26] at H
                    exact absurd H (by simp)
                · rw [if_neg c25] at H
                  have c25b0 : (t152 == 1) = false := beq_eq_false_iff_ne.mpr c25
                  have c25b1 : (t152 != 1) = true := bne_iff_ne.mpr c25
                  have H' := Aside0.mk H
                  clear H
                  have hnb32 := NB133_129.out
                  have hnc32 := NB129_133.out
                  have hnb33 := NB133_0.out
                  have hnc33 := NB0_133.out
                  have hcz34_0 : wr.cell? ⟨gb133, 0, none⟩ = some (.int .i64 (wrap64 (1 + t130))) := bc BK133
                  have hcz34_1 : wr.cell? ⟨gb133, 1, none⟩ = some (.slice none 0 0) := bc BK133
                  have hfz34_0 := blk_frozen BK133.out 0
                  have hfz34_1 := blk_frozen BK133.out 1
                  go_wp2_with (first | ((with_reducible refine gC 21 ?_); refine GL (some 27) Try.func21 #[.pointer (some ⟨g, 0, none⟩), .int .i64 5] ?_; (with_reducible refine (spec_l01Next.calls g s0_0 x1001_2 x1002_2 5 t152 t153 t154 w0 _ ?side1 ?side2 A17.out).mono ?_); (case side1 => repeat (first | (with_reducible first | exact HI0.out | apply IsS50.alloc | apply IsS50.drewN | apply IsS50.drew | apply IsS50.set_1 | apply IsS50.set_2 | refine IsS50.far ?_ NB0_129.out _ | refine IsS50.far ?_ NB0_133.out _) | exact HI0.out)); (case side2 => repeat (first | (with_reducible first | exact HB.out | apply below_alloc | apply pw_below_drewN | apply below_drew1 | refine below_set ?_ (IsS50.ge HI0.out) | refine below_set ?_ GE129.out | refine below_set ?_ GE133.out) | exact HB.out)); rintro e w35 ⟨rfl, hi, hb, hk⟩; refine ⟨_, rfl, ?_⟩; replace HO_4 := Aside0.mk (Kd.S_mono (Kd.S_keep (IsS50.apartS (show IsS50 w0 _ g s0_0 x1001_2 x1002_2 from by repeat (first | (with_reducible first | exact HI0.out | apply IsS50.alloc | apply IsS50.drewN | apply IsS50.drew | apply IsS50.set_1 | apply IsS50.set_2 | refine IsS50.far ?_ NB0_129.out _ | refine IsS50.far ?_ NB0_133.out _) | exact HI0.out)) (S1 HO_4) (by decide)) hk (fun _ h => h.2)) (fun _ h => h.1)); replace HO_6 := Aside0.mk (Kd.R_mono (Kd.R_keep (IsS50.apart (show IsS50 w0 _ g s0_0 x1001_2 x1002_2 from by repeat (first | (with_reducible first | exact HI0.out | apply IsS50.alloc | apply IsS50.drewN | apply IsS50.drew | apply IsS50.set_1 | apply IsS50.set_2 | refine IsS50.far ?_ NB0_129.out _ | refine IsS50.far ?_ NB0_133.out _) | exact HI0.out)) (R1 HO_6) (by decide)) hk (fun _ h => h.2)) (fun _ h => h.1)); replace BK129 := Aside0.mk (KeepBut.blk hk (g' := gb129) (o := .cells #[.int .i64 0, .slice none 0 0] 26 (0, 0)) (B1 BK129) NB129_0.out (by simp)); replace BK133 := Aside0.mk (KeepBut.blk hk (g' := gb133) (o := .cells #[.int .i64 (wrap64 (1 + t130)), .slice none 0 0] 26 (0, 0)) (B1 BK133) NB133_0.out (by simp)); replace HK := Aside0.mk (KeepBut.trans (by repeat (first | (with_reducible first | exact HK.out | apply KeepBut.set_ | apply keep_drewN | apply keep_drew | apply keep_alloc | refine keep_far ?_ GW129.out _ | refine keep_far ?_ GW133.out _) | exact HK.out)) hk (.inl rfl)); replace HB := Aside0.mk (hb); replace HI0 := Aside0.mk (hi); (try clear hb); (try clear hb2); (try clear hk); (try clear hi)))
                  go_roundg k2
                  case measure => have := HK1.out; have := HK2.out; omega
                  case rel => exact ⟨(x6_2), (wrap64 (x7_2 + 1)), (t153), (t154), Fs, H', ⟨by have := HK1.out; have := HK2.out; omega⟩, ⟨S1 HO_4⟩, ⟨R1 HO_6⟩, ⟨B1 BK129⟩, ⟨B1 BK133⟩, ⟨by repeat (first | (with_reducible first | exact HI0.out | apply IsS50.alloc | apply IsS50.drewN | apply IsS50.drew | apply IsS50.set_1 | apply IsS50.set_2 | refine IsS50.far ?_ NB0_129.out _ | refine IsS50.far ?_ NB0_133.out _) | exact HI0.out)⟩, ⟨by repeat (first | (with_reducible first | exact HK.out | apply KeepBut.set_ | apply keep_drewN | apply keep_drew | apply keep_alloc | refine keep_far ?_ GW129.out _ | refine keep_far ?_ GW133.out _) | exact HK.out)⟩, ⟨by repeat (first | (with_reducible first | exact HB.out | apply below_alloc | apply pw_below_drewN | apply below_drew1 | refine below_set ?_ (IsS50.ge HI0.out) | refine below_set ?_ GE129.out | refine below_set ?_ GE133.out) | exact HB.out)⟩⟩
            · rw [if_neg c16] at H
              have c16b0 : decide (x7_2 ≤ (wrap64 (1 + t130))) = false := decide_eq_false c16
              clear c16
              by_cases c36 : (x6_2.length : Int) > 0
              · rw [if_pos c36] at H
                have c36b0 : decide (0 < (x6_2.length : Int)) = true := decide_eq_true c36
                have c36b1 : decide (0 < x6_2.length) = true := decide_eq_true (by omega)
                clear c36
                by_cases c37 : x4_1.length < 5864062014805
                · rw [if_pos c37] at H
                  have LMc37 := Aside0.mk c37
                  clear c37
                  obtain ⟨y143, hy143⟩ : ∃ y_ : List (List Int), y_ = (x4_1 ++ [x6_2]) := ⟨_, rfl⟩
                  replace H : (spec_l20Draw.l0 k2 y143 (wrap64 (x5_1 - 1)) s0_0 x1001_2 x1002_2 (wrap64 (1 + t130))) = some (r1, r2, r3, r4) := by first | (rw [hy143]; with_reducible exact H) | (have H2_ := (Option.bind_some _ _).symm.trans H; rw [hy143]; with_reducible exact H2_) | (have H2_ := (Option.bind_some _ _).symm.trans H; with_reducible exact H2_) | with_reducible exact H | (rw [hy143]; exact H) | exact H
                  have Ny143 := Aside0.mk hy143
                  clear hy143
                  have H' := Aside0.mk H
                  clear H
                  have hnb38 := NB133_129.out
                  have hnc38 := NB129_133.out
                  have hnb39 := NB133_0.out
                  have hnc39 := NB0_133.out
                  have hcz40_0 : wr.cell? ⟨gb133, 0, none⟩ = some (.int .i64 (wrap64 (1 + t130))) := bc BK133
                  have hcz40_1 : wr.cell? ⟨gb133, 1, none⟩ = some (.slice none 0 0) := bc BK133
                  have hfz40_0 := blk_frozen BK133.out 0
                  have hfz40_1 := blk_frozen BK133.out 1
                  obtain ⟨Ao41, co41, eo41⟩ := Kd.R_slice HO_6.out
                  subst eo41
                  go_wp2_with (first | ((with_reducible refine gate_builtin (b := .append) (xs := #[.tmp 49, .tmp 51]) rfl ?_); at_builtin; refine Kd.S_append (Kd.slice 2 (Kd.int .i64)) w.heap.size rfl (.tmp 49) (.tmp 51) 24 27 (.slice none 0 0) 24 rfl Try.underlying24 info27 rfl (by decide) (by omega) u4 x4_1 x6_2 [.slice Ao41 x6_2.length co41] (fun _ => True) (fun k_ => some k_ = (.slice Ao41 x6_2.length co41 : Value).ownBlock) rfl rfl ?aP (fun k_ hk_ => ((Kd.R_mono (ok' := fun k_ => ((fun _ => True)) k_ ∧ some k_ ≠ (u4 : Value).ownBlock) (Kd.R_apart' (HO_6.out) (Kd.S_typed HO_4.out) (by decide)) (fun k_ hk => ⟨trivial, hk.2⟩))).1 k_ hk_.symm) ?aF ?aO (Below.refl _ _) ?aS ?aL ?_; (case aP => exact Kd.M_row (Kd.R_mono (Kd.R_tight rfl (Kd.R_mono (ok' := fun k_ => ((fun _ => True)) k_ ∧ some k_ ≠ (u4 : Value).ownBlock) (Kd.R_apart' (HO_6.out) (Kd.S_typed HO_4.out) (by decide)) (fun k_ hk => ⟨trivial, hk.2⟩))) (fun _ h_ => h_))); (case aF => exact (fun _ _ => trivial)); (case aO => exact (by (with_reducible repeat (first | apply Kd.S_alloc | apply Kd.S_drewN | apply Kd.S_drew)); exact Kd.S_mono HO_4.out (fun k_ hk => ⟨trivial, fun e_ => hk e_⟩))); (case aS => exact (keep_size (w := w) (g := g) (row := none) (by repeat (first | (with_reducible first | exact HK.out | apply KeepBut.set_ | apply keep_drewN | apply keep_drew | apply keep_alloc | refine keep_far ?_ GW129.out _ | refine keep_far ?_ GW133.out _) | exact HK.out)))); (case aL => have := LMc37.out; omega); intro v144 w42 ho hb hg hat; rw [← Ny143.out] at ho; replace BK129 := Aside0.mk (blk_grown (B1 BK129) hg (Kd.S_ne HO_4.out BK129.out (by decide))); replace BK133 := Aside0.mk (blk_grown (B1 BK133) hg (Kd.S_ne HO_4.out BK133.out (by decide))); replace HB := Aside0.mk (below_weaken (by repeat (first | (with_reducible first | exact HB.out | apply below_alloc | apply pw_below_drewN | apply below_drew1 | refine below_set ?_ (IsS50.ge HI0.out) | refine below_set ?_ GE129.out | refine below_set ?_ GE133.out) | exact HB.out)) HL.out hb); replace HI0 := Aside0.mk (IsS50.grown (by repeat (first | (with_reducible first | exact HI0.out | apply IsS50.alloc | apply IsS50.drewN | apply IsS50.drew | apply IsS50.set_1 | apply IsS50.set_2 | refine IsS50.far ?_ NB0_129.out _ | refine IsS50.far ?_ NB0_133.out _) | exact HI0.out)) hg (IsS50.own_neS HI0.out HO_4.out (by decide))); replace HK := Aside0.mk (KeepBut.trans (by repeat (first | (with_reducible first | exact HK.out | apply KeepBut.set_ | apply keep_drewN | apply keep_drew | apply keep_alloc | refine keep_far ?_ GW129.out _ | refine keep_far ?_ GW133.out _) | exact HK.out)) (KeepBut.of_grown hg g) (Kd.S_base2 HO_4.out)); have HO145 := Aside0.mk (ho); clear HO_4; clear HO_6; clear ho hb hg hat))
                  go_roundg k2
                  case measure => have := HK1.out; have := HK2.out; omega
                  case rel => exact ⟨(y143), (wrap64 (x5_1 - 1)), (x1001_2), (x1002_2), Fs, H', ⟨by have := HK1.out; have := HK2.out; omega⟩, ⟨S1 HO145⟩, ⟨B1 BK129⟩, ⟨B1 BK133⟩, ⟨by repeat (first | (with_reducible first | exact HI0.out | apply IsS50.alloc | apply IsS50.drewN | apply IsS50.drew | apply IsS50.set_1 | apply IsS50.set_2 | refine IsS50.far ?_ NB0_129.out _ | refine IsS50.far ?_ NB0_133.out _) | exact HI0.out)⟩, ⟨by repeat (first | (with_reducible first | exact HK.out | apply KeepBut.set_ | apply keep_drewN | apply keep_drew | apply keep_alloc | refine keep_far ?_ GW129.out _ | refine keep_far ?_ GW133.out _) | exact HK.out)⟩, ⟨by repeat (first | (with_reducible first | exact HB.out | apply below_alloc | apply pw_below_drewN | apply below_drew1 | refine below_set ?_ (IsS50.ge HI0.out) | refine below_set ?_ GE129.out | refine below_set ?_ GE133.out) | exact HB.out)⟩⟩
                · rw [if_neg c37] at H
                  exact absurd H (by simp)
              · rw [if_neg c36] at H
                have c36b0 : decide (0 < (x6_2.length : Int)) = false := decide_eq_false c36
                have c36b1 : decide (0 < x6_2.length) = false := decide_eq_false (by omega)
                clear c36
                obtain ⟨⟨t146, t147, t148⟩, A430, H⟩ := Option.bind_eq_some_iff.mp H
                dsimp only at H
                have A43 := Aside0.mk A430
                clear A430
                by_cases c44 : t146 = 0
                · rw [if_pos c44] at H
                  have c44b0 : (t146 == 0) = true := beq_iff_eq.mpr c44
                  have c44b1 : (t146 != 0) = false := bne_eq_false_iff_eq.mpr c44
                  clear c44
                  by_cases c45 : x4_1.length < 5864062014805
                  · rw [if_pos c45] at H
                    have LMc45 := Aside0.mk c45
                    clear c45
                    obtain ⟨y149, hy149⟩ : ∃ y_ : List (List Int), y_ = (x4_1 ++ [x6_2]) := ⟨_, rfl⟩
                    replace H : (spec_l20Draw.l0 k2 y149 (wrap64 (x5_1 - 1)) s0_0 t147 t148 (wrap64 (1 + t130))) = some (r1, r2, r3, r4) := by first | (rw [hy149]; with_reducible exact H) | (have H2_ := (Option.bind_some _ _).symm.trans H; rw [hy149]; with_reducible exact H2_) | (have H2_ := (Option.bind_some _ _).symm.trans H; with_reducible exact H2_) | with_reducible exact H | (rw [hy149]; exact H) | exact H
                    have Ny149 := Aside0.mk hy149
                    clear hy149
                    have H' := Aside0.mk H
                    clear H
                    have hnb46 := NB133_129.out
                    have hnc46 := NB129_133.out
                    have hnb47 := NB133_0.out
                    have hnc47 := NB0_133.out
                    have hcz48_0 : wr.cell? ⟨gb133, 0, none⟩ = some (.int .i64 (wrap64 (1 + t130))) := bc BK133
                    have hcz48_1 : wr.cell? ⟨gb133, 1, none⟩ = some (.slice none 0 0) := bc BK133
                    have hfz48_0 := blk_frozen BK133.out 0
                    have hfz48_1 := blk_frozen BK133.out 1
                    obtain ⟨Ao49, co49, eo49⟩ := Kd.R_slice HO_6.out
                    subst eo49
                    go_wp2_with (first | (go_at_call 21; (with_reducible refine (spec_l01Next.calls g s0_0 x1001_2 x1002_2 20 t146 t147 t148 w0 _ ?side1 ?side2 A43.out).mono ?_); (case side1 => repeat (first | (with_reducible first | exact HI0.out | apply IsS50.alloc | apply IsS50.drewN | apply IsS50.drew | apply IsS50.set_1 | apply IsS50.set_2 | refine IsS50.far ?_ NB0_129.out _ | refine IsS50.far ?_ NB0_133.out _) | exact HI0.out)); (case side2 => repeat (first | (with_reducible first | exact HB.out | apply below_alloc | apply pw_below_drewN | apply below_drew1 | refine below_set ?_ (IsS50.ge HI0.out) | refine below_set ?_ GE129.out | refine below_set ?_ GE133.out) | exact HB.out)); rintro e w50 ⟨rfl, hi, hb, hk⟩; replace HO_4 := Aside0.mk (Kd.S_mono (Kd.S_keep (IsS50.apartS (show IsS50 w0 _ g s0_0 x1001_2 x1002_2 from by repeat (first | (with_reducible first | exact HI0.out | apply IsS50.alloc | apply IsS50.drewN | apply IsS50.drew | apply IsS50.set_1 | apply IsS50.set_2 | refine IsS50.far ?_ NB0_129.out _ | refine IsS50.far ?_ NB0_133.out _) | exact HI0.out)) (S1 HO_4) (by decide)) hk (fun _ h => h.2)) (fun _ h => h.1)); replace HO_6 := Aside0.mk (Kd.R_mono (Kd.R_keep (IsS50.apart (show IsS50 w0 _ g s0_0 x1001_2 x1002_2 from by repeat (first | (with_reducible first | exact HI0.out | apply IsS50.alloc | apply IsS50.drewN | apply IsS50.drew | apply IsS50.set_1 | apply IsS50.set_2 | refine IsS50.far ?_ NB0_129.out _ | refine IsS50.far ?_ NB0_133.out _) | exact HI0.out)) (R1 HO_6) (by decide)) hk (fun _ h => h.2)) (fun _ h => h.1)); replace BK129 := Aside0.mk (KeepBut.blk hk (g' := gb129) (o := .cells #[.int .i64 0, .slice none 0 0] 26 (0, 0)) (B1 BK129) NB129_0.out (by simp)); replace BK133 := Aside0.mk (KeepBut.blk hk (g' := gb133) (o := .cells #[.int .i64 (wrap64 (1 + t130)), .slice none 0 0] 26 (0, 0)) (B1 BK133) NB133_0.out (by simp)); replace HK := Aside0.mk (KeepBut.trans (by repeat (first | (with_reducible first | exact HK.out | apply KeepBut.set_ | apply keep_drewN | apply keep_drew | apply keep_alloc | refine keep_far ?_ GW129.out _ | refine keep_far ?_ GW133.out _) | exact HK.out)) hk (.inl rfl)); replace HB := Aside0.mk (hb); replace HI0 := Aside0.mk (hi); (try clear hb); (try clear hb2); (try clear hk); (try clear hi)) | ((with_reducible refine gate_builtin (b := .append) (xs := #[.tmp 49, .tmp 51]) rfl ?_); at_builtin; refine Kd.S_append (Kd.slice 2 (Kd.int .i64)) w.heap.size rfl (.tmp 49) (.tmp 51) 24 27 (.slice none 0 0) 24 rfl Try.underlying24 info27 rfl (by decide) (by omega) u4 x4_1 x6_2 [.slice Ao49 x6_2.length co49] (fun _ => True) (fun k_ => some k_ = (.slice Ao49 x6_2.length co49 : Value).ownBlock) rfl rfl ?aP (fun k_ hk_ => ((Kd.R_mono (ok' := fun k_ => ((fun _ => True)) k_ ∧ some k_ ≠ (u4 : Value).ownBlock) (Kd.R_apart' (HO_6.out) (Kd.S_typed HO_4.out) (by decide)) (fun k_ hk => ⟨trivial, hk.2⟩))).1 k_ hk_.symm) ?aF ?aO (Below.refl _ _) ?aS ?aL ?_; (case aP => exact Kd.M_row (Kd.R_mono (Kd.R_tight rfl (Kd.R_mono (ok' := fun k_ => ((fun _ => True)) k_ ∧ some k_ ≠ (u4 : Value).ownBlock) (Kd.R_apart' (HO_6.out) (Kd.S_typed HO_4.out) (by decide)) (fun k_ hk => ⟨trivial, hk.2⟩))) (fun _ h_ => h_))); (case aF => exact (fun _ _ => trivial)); (case aO => exact (by (with_reducible repeat (first | apply Kd.S_alloc | apply Kd.S_drewN | apply Kd.S_drew)); exact Kd.S_mono HO_4.out (fun k_ hk => ⟨trivial, fun e_ => hk e_⟩))); (case aS => exact (keep_size (w := w) (g := g) (row := none) (by repeat (first | (with_reducible first | exact HK.out | apply KeepBut.set_ | apply keep_drewN | apply keep_drew | apply keep_alloc | refine keep_far ?_ GW129.out _ | refine keep_far ?_ GW133.out _) | exact HK.out)))); (case aL => have := LMc45.out; omega); intro v150 w51 ho hb hg hat; rw [← Ny149.out] at ho; replace BK129 := Aside0.mk (blk_grown (B1 BK129) hg (Kd.S_ne HO_4.out BK129.out (by decide))); replace BK133 := Aside0.mk (blk_grown (B1 BK133) hg (Kd.S_ne HO_4.out BK133.out (by decide))); replace HB := Aside0.mk (below_weaken (by repeat (first | (with_reducible first | exact HB.out | apply below_alloc | apply pw_below_drewN | apply below_drew1 | refine below_set ?_ (IsS50.ge HI0.out) | refine below_set ?_ GE129.out | refine below_set ?_ GE133.out) | exact HB.out)) HL.out hb); replace HI0 := Aside0.mk (IsS50.grown (by repeat (first | (with_reducible first | exact HI0.out | apply IsS50.alloc | apply IsS50.drewN | apply IsS50.drew | apply IsS50.set_1 | apply IsS50.set_2 | refine IsS50.far ?_ NB0_129.out _ | refine IsS50.far ?_ NB0_133.out _) | exact HI0.out)) hg (IsS50.own_neS HI0.out HO_4.out (by decide))); replace HK := Aside0.mk (KeepBut.trans (by repeat (first | (with_reducible first | exact HK.out | apply KeepBut.set_ | apply keep_drewN | apply keep_drew | apply keep_alloc | refine keep_far ?_ GW129.out _ | refine keep_far ?_ GW133.out _) | exact HK.out)) (KeepBut.of_grown hg g) (Kd.S_base2 HO_4.out)); have HO151 := Aside0.mk (ho); clear HO_4; clear HO_6; clear ho hb hg hat))
                    go_roundg k2
                    case measure => have := HK1.out; have := HK2.out; omega
                    case rel => exact ⟨(y149), (wrap64 (x5_1 - 1)), (t147), (t148), Fs, H', ⟨by have := HK1.out; have := HK2.out; omega⟩, ⟨S1 HO151⟩, ⟨B1 BK129⟩, ⟨B1 BK133⟩, ⟨by repeat (first | (with_reducible first | exact HI0.out | apply IsS50.alloc | apply IsS50.drewN | apply IsS50.drew | apply IsS50.set_1 | apply IsS50.set_2 | refine IsS50.far ?_ NB0_129.out _ | refine IsS50.far ?_ NB0_133.out _) | exact HI0.out)⟩, ⟨by repeat (first | (with_reducible first | exact HK.out | apply KeepBut.set_ | apply keep_drewN | apply keep_drew | apply keep_alloc | refine keep_far ?_ GW129.out _ | refine keep_far ?_ GW133.out _) | exact HK.out)⟩, ⟨by repeat (first | (with_reducible first | exact HB.out | apply below_alloc | apply pw_below_drewN | apply below_drew1 | refine below_set ?_ (IsS50.ge HI0.out) | refine below_set ?_ GE129.out | refine below_set ?_ GE133.out) | exact HB.out)⟩⟩
                  · rw [if_neg c45] at H
                    exact absurd H (by simp)
                · rw [if_neg c44] at H
                  have c44b0 : (t146 == 0) = false := beq_eq_false_iff_ne.mpr c44
                  have c44b1 : (t146 != 0) = true := bne_iff_ne.mpr c44
                  have H' := Aside0.mk H
                  clear H
                  have hnb52 := NB133_129.out
                  have hnc52 := NB129_133.out
                  have hnb53 := NB133_0.out
                  have hnc53 := NB0_133.out
                  have hcz54_0 : wr.cell? ⟨gb133, 0, none⟩ = some (.int .i64 (wrap64 (1 + t130))) := bc BK133
                  have hcz54_1 : wr.cell? ⟨gb133, 1, none⟩ = some (.slice none 0 0) := bc BK133
                  have hfz54_0 := blk_frozen BK133.out 0
                  have hfz54_1 := blk_frozen BK133.out 1
                  obtain ⟨Ao55, co55, eo55⟩ := Kd.R_slice HO_6.out
                  subst eo55
                  go_wp2_with (first | (go_at_call 21; (with_reducible refine (spec_l01Next.calls g s0_0 x1001_2 x1002_2 20 t146 t147 t148 w0 _ ?side1 ?side2 A43.out).mono ?_); (case side1 => repeat (first | (with_reducible first | exact HI0.out | apply IsS50.alloc | apply IsS50.drewN | apply IsS50.drew | apply IsS50.set_1 | apply IsS50.set_2 | refine IsS50.far ?_ NB0_129.out _ | refine IsS50.far ?_ NB0_133.out _) | exact HI0.out)); (case side2 => repeat (first | (with_reducible first | exact HB.out | apply below_alloc | apply pw_below_drewN | apply below_drew1 | refine below_set ?_ (IsS50.ge HI0.out) | refine below_set ?_ GE129.out | refine below_set ?_ GE133.out) | exact HB.out)); rintro e w56 ⟨rfl, hi, hb, hk⟩; replace HO_4 := Aside0.mk (Kd.S_mono (Kd.S_keep (IsS50.apartS (show IsS50 w0 _ g s0_0 x1001_2 x1002_2 from by repeat (first | (with_reducible first | exact HI0.out | apply IsS50.alloc | apply IsS50.drewN | apply IsS50.drew | apply IsS50.set_1 | apply IsS50.set_2 | refine IsS50.far ?_ NB0_129.out _ | refine IsS50.far ?_ NB0_133.out _) | exact HI0.out)) (S1 HO_4) (by decide)) hk (fun _ h => h.2)) (fun _ h => h.1)); replace HO_6 := Aside0.mk (Kd.R_mono (Kd.R_keep (IsS50.apart (show IsS50 w0 _ g s0_0 x1001_2 x1002_2 from by repeat (first | (with_reducible first | exact HI0.out | apply IsS50.alloc | apply IsS50.drewN | apply IsS50.drew | apply IsS50.set_1 | apply IsS50.set_2 | refine IsS50.far ?_ NB0_129.out _ | refine IsS50.far ?_ NB0_133.out _) | exact HI0.out)) (R1 HO_6) (by decide)) hk (fun _ h => h.2)) (fun _ h => h.1)); replace BK129 := Aside0.mk (KeepBut.blk hk (g' := gb129) (o := .cells #[.int .i64 0, .slice none 0 0] 26 (0, 0)) (B1 BK129) NB129_0.out (by simp)); replace BK133 := Aside0.mk (KeepBut.blk hk (g' := gb133) (o := .cells #[.int .i64 (wrap64 (1 + t130)), .slice none 0 0] 26 (0, 0)) (B1 BK133) NB133_0.out (by simp)); replace HK := Aside0.mk (KeepBut.trans (by repeat (first | (with_reducible first | exact HK.out | apply KeepBut.set_ | apply keep_drewN | apply keep_drew | apply keep_alloc | refine keep_far ?_ GW129.out _ | refine keep_far ?_ GW133.out _) | exact HK.out)) hk (.inl rfl)); replace HB := Aside0.mk (hb); replace HI0 := Aside0.mk (hi); (try clear hb); (try clear hb2); (try clear hk); (try clear hi)))
                  go_roundg k2
                  case measure => have := HK1.out; have := HK2.out; omega
                  case rel => exact ⟨(x4_1), (wrap64 (x5_1 - 1)), (t147), (t148), Fs, H', ⟨by have := HK1.out; have := HK2.out; omega⟩, ⟨by (with_reducible repeat (first | apply Kd.S_alloc | apply Kd.S_drewN | apply Kd.S_drew)); exact Kd.S_mono HO_4.out (fun _ hk => trivial)⟩, ⟨B1 BK129⟩, ⟨B1 BK133⟩, ⟨by repeat (first | (with_reducible first | exact HI0.out | apply IsS50.alloc | apply IsS50.drewN | apply IsS50.drew | apply IsS50.set_1 | apply IsS50.set_2 | refine IsS50.far ?_ NB0_129.out _ | refine IsS50.far ?_ NB0_133.out _) | exact HI0.out)⟩, ⟨by repeat (first | (with_reducible first | exact HK.out | apply KeepBut.set_ | apply keep_drewN | apply keep_drew | apply keep_alloc | refine keep_far ?_ GW129.out _ | refine keep_far ?_ GW133.out _) | exact HK.out)⟩, ⟨by repeat (first | (with_reducible first | exact HB.out | apply below_alloc | apply pw_below_drewN | apply below_drew1 | refine below_set ?_ (IsS50.ge HI0.out) | refine below_set ?_ GE129.out | refine below_set ?_ GE133.out) | exact HB.out)⟩⟩
      · rw [if_neg c13] at H
        have c13b0 : decide (0 < x5_1) = false := decide_eq_false c13
        clear c13
        obtain ⟨⟨t161, t162, t163⟩, A570, H⟩ := Option.bind_eq_some_iff.mp H
        dsimp only at H
        have A57 := Aside0.mk A570
        clear A570
        by_cases c58 : t161 = 0
        · rw [if_pos c58] at H
          have c58b0 : (t161 == 0) = true := beq_iff_eq.mpr c58
          have c58b1 : (t161 != 0) = false := bne_eq_false_iff_eq.mpr c58
          clear c58
          obtain ⟨y164, hy164⟩ : ∃ y_ : List Int, y_ = (([(-1), 0, 400, 401] : List Int)) := ⟨_, rfl⟩
          replace H : ((spec_l01Next.f s0_0 t162 t163 4).bind fun bt167 => (if 0 ≤ bt167.1 then (if bt167.1 < (y164.length : Int) then (some (rd y164 bt167.1, x4_1, bt167.2.1, bt167.2.2)) else (none)) else (none))) = some (r1, r2, r3, r4) := by first | (rw [hy164]; with_reducible exact H) | (have H2_ := (Option.bind_some _ _).symm.trans H; rw [hy164]; with_reducible exact H2_) | (have H2_ := (Option.bind_some _ _).symm.trans H; with_reducible exact H2_) | with_reducible exact H | (rw [hy164]; exact H) | exact H
          have Ny164 := Aside0.mk hy164
          clear hy164
          obtain ⟨⟨t167, t168, t169⟩, A590, H⟩ := Option.bind_eq_some_iff.mp H
          dsimp only at H
          have A59 := Aside0.mk A590
          clear A590
          by_cases c60 : 0 ≤ t167
          · rw [if_pos c60] at H
            have c60b0 : decide (0 ≤ t167) = true := decide_eq_true c60
            clear c60
            by_cases c61 : t167 < (y164.length : Int)
            · rw [if_pos c61] at H
              have c61b0 : decide (t167 < (y164.length : Int)) = true := decide_eq_true c61
              clear c61
              simp only [Option.some.injEq, Prod.mk.injEq] at H
              obtain ⟨rfl, rfl, rfl, rfl⟩ := H
              go_wp2_with (first | ((with_reducible refine gC 21 ?_); refine GL (some 54) Try.func21 #[.pointer (some ⟨g, 0, none⟩), .int .i64 30] ?_; (with_reducible refine (spec_l01Next.calls g s0_0 x1001_1 x1002_1 30 t161 t162 t163 w0 _ ?side1 ?side2 A57.out).mono ?_); (case side1 => repeat (first | (with_reducible first | exact HI0.out | apply IsS50.alloc | apply IsS50.drewN | apply IsS50.drew | apply IsS50.set_1 | apply IsS50.set_2 | refine IsS50.far ?_ NB0_129.out _ | refine IsS50.far ?_ NB0_133.out _) | exact HI0.out)); (case side2 => repeat (first | (with_reducible first | exact HB.out | apply below_alloc | apply pw_below_drewN | apply below_drew1 | refine below_set ?_ (IsS50.ge HI0.out) | refine below_set ?_ GE129.out | refine below_set ?_ GE133.out) | exact HB.out)); rintro e w62 ⟨rfl, hi, hb, hk⟩; refine ⟨_, rfl, ?_⟩; replace HO_4 := Aside0.mk (Kd.S_mono (Kd.S_keep (IsS50.apartS (show IsS50 w0 _ g s0_0 x1001_1 x1002_1 from by repeat (first | (with_reducible first | exact HI0.out | apply IsS50.alloc | apply IsS50.drewN | apply IsS50.drew | apply IsS50.set_1 | apply IsS50.set_2 | refine IsS50.far ?_ NB0_129.out _ | refine IsS50.far ?_ NB0_133.out _) | exact HI0.out)) (S1 HO_4) (by decide)) hk (fun _ h => h.2)) (fun _ h => h.1)); replace BK129 := Aside0.mk (KeepBut.blk hk (g' := gb129) (o := .cells #[.int .i64 0, .slice none 0 0] 26 (0, 0)) (B1 BK129) NB129_0.out (by simp)); replace BK133 := Aside0.mk (KeepBut.blk hk (g' := gb133) (o := .cells #[.int .i64 (wrap64 (1 + t130)), .slice none 0 0] 26 (0, 0)) (B1 BK133) NB133_0.out (by simp)); replace HK := Aside0.mk (KeepBut.trans (by repeat (first | (with_reducible first | exact HK.out | apply KeepBut.set_ | apply keep_drewN | apply keep_drew | apply keep_alloc | refine keep_far ?_ GW129.out _ | refine keep_far ?_ GW133.out _) | exact HK.out)) hk (.inl rfl)); replace HB := Aside0.mk (hb); replace HI0 := Aside0.mk (hi); (try clear hb); (try clear hb2); (try clear hk); (try clear hi)) | ((with_reducible refine gD 57 ?_); refine Kd.R_lit (Kd.int .i64) _ 2 ?hg (N := 57) ?hd (xs := ([(-1), 0, 400, 401] : List Int)) (inner := [.int .i64 (-1), .int .i64 0, .int .i64 400, .int .i64 401]) (ok := fun _ => True) (okp := fun _ => True) ?hr ?hp (fun _ hk => hk) trivial (Below.refl _ _) (Nat.le_refl _) (by simp) ?_; (case hd => rfl); (case hg => rfl); (case hr => first | (go_simp; done) | (go_simp; rfl)); (case hp => exact (Reps.one (show Kd.M (Kd.int .i64) _ _ _ (-1) [.int .i64 (-1)] from rfl) (Reps.one (show Kd.M (Kd.int .i64) _ _ _ 0 [.int .i64 0] from rfl) (Reps.one (show Kd.M (Kd.int .i64) _ _ _ 400 [.int .i64 400] from rfl) (Reps.one (show Kd.M (Kd.int .i64) _ _ _ 401 [.int .i64 401] from rfl) (Reps.none _ _)))))); intro v165 w63 ho64 hb hg_ hnew_; clear hg_ hnew_; (first | rw [← Ny164.out] at ho64 | (simp only [Int.reduceToNat] at ho64; rw [← Ny164.out] at ho64)); replace HO_4 := Aside0.mk (Kd.S_elder' (S1 HO_4) (Kd.R_base ho64) hb); have HO166 := Aside0.mk (Kd.R_lower ho64 (keep_size (w := w) (g := g) (row := none) (by repeat (first | (with_reducible first | exact HK.out | apply KeepBut.set_ | apply keep_drewN | apply keep_drew | apply keep_alloc | refine keep_far ?_ GW129.out _ | refine keep_far ?_ GW133.out _) | exact HK.out)))); replace BK129 := Aside0.mk (blk_below (B1 BK129) hb); replace BK133 := Aside0.mk (blk_below (B1 BK133) hb); replace HK := Aside0.mk (KeepBut.trans (by repeat (first | (with_reducible first | exact HK.out | apply KeepBut.set_ | apply keep_drewN | apply keep_drew | apply keep_alloc | refine keep_far ?_ GW129.out _ | refine keep_far ?_ GW133.out _) | exact HK.out)) (KeepBut.of_below hb g none) (.inl rfl)); replace HB := Aside0.mk (below_step (by repeat (first | (with_reducible first | exact HB.out | apply below_alloc | apply pw_below_drewN | apply below_drew1 | refine below_set ?_ (IsS50.ge HI0.out) | refine below_set ?_ GE129.out | refine below_set ?_ GE133.out) | exact HB.out)) hb); replace HI0 := Aside0.mk (IsS50.below (by repeat (first | (with_reducible first | exact HI0.out | apply IsS50.alloc | apply IsS50.drewN | apply IsS50.drew | apply IsS50.set_1 | apply IsS50.set_2 | refine IsS50.far ?_ NB0_129.out _ | refine IsS50.far ?_ NB0_133.out _) | exact HI0.out)) hb); clear hb ho64) | ((with_reducible refine gC 21 ?_); refine GL (some 59) Try.func21 #[.pointer (some ⟨g, 0, none⟩), .int .i64 4] ?_; (with_reducible refine (spec_l01Next.calls g s0_0 t162 t163 4 t167 t168 t169 w0 _ ?side1 ?side2 A59.out).mono ?_); (case side1 => repeat (first | (with_reducible first | exact HI0.out | apply IsS50.alloc | apply IsS50.drewN | apply IsS50.drew | apply IsS50.set_1 | apply IsS50.set_2 | refine IsS50.far ?_ NB0_129.out _ | refine IsS50.far ?_ NB0_133.out _) | exact HI0.out)); (case side2 => repeat (first | (with_reducible first | exact HB.out | apply below_alloc | apply pw_below_drewN | apply below_drew1 | refine below_set ?_ (IsS50.ge HI0.out) | refine below_set ?_ GE129.out | refine below_set ?_ GE133.out) | exact HB.out)); rintro e w65 ⟨rfl, hi, hb, hk⟩; refine ⟨_, rfl, ?_⟩; replace HO_4 := Aside0.mk (Kd.S_mono (Kd.S_keep (IsS50.apartS (show IsS50 w0 _ g s0_0 t162 t163 from by repeat (first | (with_reducible first | exact HI0.out | apply IsS50.alloc | apply IsS50.drewN | apply IsS50.drew | apply IsS50.set_1 | apply IsS50.set_2 | refine IsS50.far ?_ NB0_129.out _ | refine IsS50.far ?_ NB0_133.out _) | exact HI0.out)) (S1 HO_4) (by decide)) hk (fun _ h => h.2)) (fun _ h => h.1)); replace BK129 := Aside0.mk (KeepBut.blk hk (g' := gb129) (o := .cells #[.int .i64 0, .slice none 0 0] 26 (0, 0)) (B1 BK129) NB129_0.out (by simp)); replace BK133 := Aside0.mk (KeepBut.blk hk (g' := gb133) (o := .cells #[.int .i64 (wrap64 (1 + t130)), .slice none 0 0] 26 (0, 0)) (B1 BK133) NB133_0.out (by simp)); replace HO166 := Aside0.mk (Kd.R_mono (Kd.R_keep (IsS50.apart (show IsS50 w0 _ g s0_0 t162 t163 from by repeat (first | (with_reducible first | exact HI0.out | apply IsS50.alloc | apply IsS50.drewN | apply IsS50.drew | apply IsS50.set_1 | apply IsS50.set_2 | refine IsS50.far ?_ NB0_129.out _ | refine IsS50.far ?_ NB0_133.out _) | exact HI0.out)) (R1 HO166) (by decide)) hk (fun _ h => h.2)) (fun _ h => h.1)); replace HK := Aside0.mk (KeepBut.trans (by repeat (first | (with_reducible first | exact HK.out | apply KeepBut.set_ | apply keep_drewN | apply keep_drew | apply keep_alloc | refine keep_far ?_ GW129.out _ | refine keep_far ?_ GW133.out _) | exact HK.out)) hk (.inl rfl)); replace HB := Aside0.mk (hb); replace HI0 := Aside0.mk (hi); (try clear hb); (try clear hb2); (try clear hk); (try clear hi); obtain ⟨Ao66, co66, eo66⟩ := Kd.R_slice HO166.out; subst eo66; have p170 : 0 ≤ (t167 : Int) := oD; have q170 : t167 < (y164.length : Int) := oD; obtain ⟨ad170, e170, hx170_0⟩ := Kd.at_int (Kd.R_reads' HO166.out).2.2 t167 p170 q170; cases e170; replace p170 := eq_true p170; replace q170 := eq_true q170; have hnb67 := NB133_129.out; have hnc67 := NB129_133.out; have hnb68 := NB133_0.out; have hnc68 := NB0_133.out; have hcz69_0 : w65.cell? ⟨gb133, 0, none⟩ = some (.int .i64 (wrap64 (1 + t130))) := bc BK133; have hcz69_1 : w65.cell? ⟨gb133, 1, none⟩ = some (.slice none 0 0) := bc BK133; have hfz69_0 := blk_frozen BK133.out 0; have hfz69_1 := blk_frozen BK133.out 1; obtain ⟨Ao70, co70, eo70⟩ := Kd.S_slice HO_4.out; subst eo70; have hnb71 := NB129_0.out; have hnc71 := NB0_129.out; have hcz72_0 : w65.cell? ⟨gb129, 0, none⟩ = some (.int .i64 0) := bc BK129; have hcz72_1 : w65.cell? ⟨gb129, 1, none⟩ = some (.slice none 0 0) := bc BK129; have hfz72_0 := blk_frozen BK129.out 0; have hfz72_1 := blk_frozen BK129.out 1))
              refine bodyPost_ret (results_cell_row rfl _ _ gb129 26 #[.int .i64 (rd y164 t167), .slice Ao70 x4_1.length co70] (0, 0) _ rfl (by (with_reducible repeat (first | refine blk_drewN ?_ _ | refine blk_drew ?_ | refine blk_alloc ?_ _)); refine blk_put (cs := #[.int .i64 (rd y164 t167), .slice none 0 0]) ?_ 1 _ rfl; (with_reducible repeat (first | refine blk_drewN ?_ _ | refine blk_drew ?_ | refine blk_alloc ?_ _)); refine blk_put (cs := #[.int .i64 0, .slice none 0 0]) ?_ 0 _ rfl; (with_reducible repeat (first | refine blk_drewN ?_ _ | refine blk_drew ?_ | refine blk_alloc ?_ _)); refine blk_far ?_ NB129_133.out _; (with_reducible repeat (first | refine blk_drewN ?_ _ | refine blk_drew ?_ | refine blk_alloc ?_ _)); exact BK129.out) Try.underlying26 rfl (by kernel_rfl)) rfl ?_
              exact ⟨_, Fin, by (with_reducible repeat (first | apply Kd.S_alloc | apply Kd.S_drewN | apply Kd.S_drew)); exact Kd.S_mono (Kd.S_far (p := ⟨gb129, 1, none⟩) (Kd.S_far (p := ⟨gb129, 0, none⟩) (Kd.S_far (p := ⟨gb133, 0, none⟩) (Kd.S_types (Kd.S_types HO_4.out BK133.out (by decide)) BK129.out (by decide)) (fun _ hk => hk.1.2) (.int .i64 (rd y164 t167))) (fun _ hk => hk.2) (.int .i64 (rd y164 t167))) (fun _ hk => hk.2) (.slice Ao70 x4_1.length co70)) (fun _ hk => trivial), by repeat (first | (with_reducible first | exact HI0.out | apply IsS50.alloc | apply IsS50.drewN | apply IsS50.drew | apply IsS50.set_1 | apply IsS50.set_2 | refine IsS50.far ?_ NB0_129.out _ | refine IsS50.far ?_ NB0_133.out _) | exact HI0.out), by repeat (first | (with_reducible first | exact HB.out | apply below_alloc | apply pw_below_drewN | apply below_drew1 | refine below_set ?_ (IsS50.ge HI0.out) | refine below_set ?_ GE129.out | refine below_set ?_ GE133.out) | exact HB.out), by repeat (first | (with_reducible first | exact HK.out | apply KeepBut.set_ | apply keep_drewN | apply keep_drew | apply keep_alloc | refine keep_far ?_ GW129.out _ | refine keep_far ?_ GW133.out _) | exact HK.out)⟩
            · rw [if_neg c61] at H
              exact absurd H (by simp)
          · rw [if_neg c60] at H
            exact absurd H (by simp)
        · rw [if_neg c58] at H
          have c58b0 : (t161 == 0) = false := beq_eq_false_iff_ne.mpr c58
          have c58b1 : (t161 != 0) = true := bne_iff_ne.mpr c58
          by_cases c73 : t161 = 1
          · rw [if_pos c73] at H
            have c73b0 : (t161 == 1) = true := beq_iff_eq.mpr c73
            have c73b1 : (t161 != 1) = false := bne_eq_false_iff_eq.mpr c73
            clear c73
            obtain ⟨⟨t171, t172, t173⟩, A740, H⟩ := Option.bind_eq_some_iff.mp H
            dsimp only at H
            have A74 := Aside0.mk A740
            clear A740
            have ca_ : 0 ≤ t171 := Decidable.byContradiction (fun c_ => by rw [if_neg c_] at H; exact absurd H (by simp))
            rw [if_pos ca_] at H
            have cb_ : t171 < 4 := Decidable.byContradiction (fun c_ => by rw [if_neg c_] at H; exact absurd H (by simp))
            rw [if_pos cb_] at H
            obtain ⟨y174, hy174⟩ : ∃ y_ : List Int, y_ = rd_L2 [[0], [2, 1], [1, -1], [wrap64 ((wrap64 (-(wrap64 (1 + t130)))) - 1)]] t171 := ⟨_, rfl⟩
            replace H : (if x4_1.length < 5864062014805 then (some ((wrap64 (1 + t130)), (x4_1 ++ [y174]), t172, t173)) else (none)) = some (r1, r2, r3, r4) := by first | (rw [hy174]; with_reducible exact H) | (have H2_ := (Option.bind_some _ _).symm.trans H; rw [hy174]; with_reducible exact H2_) | (have H2_ := (Option.bind_some _ _).symm.trans H; with_reducible exact H2_) | with_reducible exact H | (rw [hy174]; exact H) | exact H
            have Ny174 := Aside0.mk hy174
            clear hy174
            by_cases c75 : x4_1.length < 5864062014805
            · rw [if_pos c75] at H
              have LMc75 := Aside0.mk c75
              clear c75
              obtain ⟨y177, hy177⟩ : ∃ y_ : List (List Int), y_ = (x4_1 ++ [y174]) := ⟨_, rfl⟩
              replace H : (some ((wrap64 (1 + t130)), y177, t172, t173)) = some (r1, r2, r3, r4) := by first | (rw [hy177]; with_reducible exact H) | (have H2_ := (Option.bind_some _ _).symm.trans H; rw [hy177]; with_reducible exact H2_) | (have H2_ := (Option.bind_some _ _).symm.trans H; with_reducible exact H2_) | with_reducible exact H | (rw [hy177]; exact H) | exact H
              have Ny177 := Aside0.mk hy177
              clear hy177
              simp only [Option.some.injEq, Prod.mk.injEq] at H
              obtain ⟨rfl, rfl, rfl, rfl⟩ := H
              try go_wp2_with (first | ((with_reducible refine gC 21 ?_); refine GL (some 54) Try.func21 #[.pointer (some ⟨g, 0, none⟩), .int .i64 30] ?_; (with_reducible refine (spec_l01Next.calls g s0_0 x1001_1 x1002_1 30 t161 t162 t163 w0 _ ?side1 ?side2 A57.out).mono ?_); (case side1 => repeat (first | (with_reducible first | exact HI0.out | apply IsS50.alloc | apply IsS50.drewN | apply IsS50.drew | apply IsS50.set_1 | apply IsS50.set_2 | refine IsS50.far ?_ NB0_129.out _ | refine IsS50.far ?_ NB0_133.out _) | exact HI0.out)); (case side2 => repeat (first | (with_reducible first | exact HB.out | apply below_alloc | apply pw_below_drewN | apply below_drew1 | refine below_set ?_ (IsS50.ge HI0.out) | refine below_set ?_ GE129.out | refine below_set ?_ GE133.out) | exact HB.out)); rintro e w76 ⟨rfl, hi, hb, hk⟩; refine ⟨_, rfl, ?_⟩; replace HO_4 := Aside0.mk (Kd.S_mono (Kd.S_keep (IsS50.apartS (show IsS50 w0 _ g s0_0 x1001_1 x1002_1 from by repeat (first | (with_reducible first | exact HI0.out | apply IsS50.alloc | apply IsS50.drewN | apply IsS50.drew | apply IsS50.set_1 | apply IsS50.set_2 | refine IsS50.far ?_ NB0_129.out _ | refine IsS50.far ?_ NB0_133.out _) | exact HI0.out)) (S1 HO_4) (by decide)) hk (fun _ h => h.2)) (fun _ h => h.1)); replace BK129 := Aside0.mk (KeepBut.blk hk (g' := gb129) (o := .cells #[.int .i64 0, .slice none 0 0] 26 (0, 0)) (B1 BK129) NB129_0.out (by simp)); replace BK133 := Aside0.mk (KeepBut.blk hk (g' := gb133) (o := .cells #[.int .i64 (wrap64 (1 + t130)), .slice none 0 0] 26 (0, 0)) (B1 BK133) NB133_0.out (by simp)); replace HK := Aside0.mk (KeepBut.trans (by repeat (first | (with_reducible first | exact HK.out | apply KeepBut.set_ | apply keep_drewN | apply keep_drew | apply keep_alloc | refine keep_far ?_ GW129.out _ | refine keep_far ?_ GW133.out _) | exact HK.out)) hk (.inl rfl)); replace HB := Aside0.mk (hb); replace HI0 := Aside0.mk (hi); (try clear hb); (try clear hb2); (try clear hk); (try clear hi)))
              replace HO_4 := Aside0.mk (Kd.S_drew HO_4.out)
              replace BK129 := Aside0.mk (blk_drew BK129.out)
              replace BK133 := Aside0.mk (blk_drew BK133.out)
              replace HI0 := Aside0.mk (IsS50.drew HI0.out)
              replace HK := Aside0.mk (keep_drew HK.out)
              replace HB := Aside0.mk (below_drew1 HB.out)
              refine start_ (n := 17) (S := fun w' => w'.cell? ⟨gb133, 0, none⟩ = some (.int .i64 (wrap64 (1 + t130))) ∧ w'.cell? ⟨gb133, 1, none⟩ = some (.slice none 0 0)) (ds := []) #[false, false, false, false, false, false, false, false, false, false, false, false, false, false, false, false, false] (by kernel_rfl) rfl rfl ⟨(blk_cell BK133.out 0).trans rfl, (blk_cell BK133.out 1).trans rfl⟩ (fun hHeld => ?_)
              generalize w76.drew = w77 at HO_4 BK129 BK133 HI0 HK HB hHeld ⊢
              obtain ⟨ya_, hya_⟩ : ∃ y_ : List Int, y_ = ([0] : List Int) := ⟨_, rfl⟩
              have Nya_ := Aside0.mk hya_
              clear hya_
              obtain ⟨yb_, hyb_⟩ : ∃ y_ : List Int, y_ = ([2, 1] : List Int) := ⟨_, rfl⟩
              have Nyb_ := Aside0.mk hyb_
              clear hyb_
              obtain ⟨yc_, hyc_⟩ : ∃ y_ : List Int, y_ = ([1, -1] : List Int) := ⟨_, rfl⟩
              have Nyc_ := Aside0.mk hyc_
              clear hyc_
              obtain ⟨yd_, hyd_⟩ : ∃ y_ : List Int, y_ = ([wrap64 ((wrap64 (-(wrap64 (1 + t130)))) - 1)] : List Int) := ⟨_, rfl⟩
              have Nyd_ := Aside0.mk hyd_
              clear hyd_
              refine PU 0 65 ?_
              refine PU 4 69 ?_
              refine PU 10 75 ?_
              refine TK 5 70 hHeld ?_
              refine PU 6 71 ?_
              refine PU 7 72 ?_
              refine pool_at [true, false, false, false, true, true, true, true, false, false, true, false, false, false, false, false, false] [true, true, true, true, true, true, true, true, true, true, true, true, false, false, false, false, false] [1, 2, 3, 8, 9, 11] (fun i_ => if i_ = 9 then [1, 2, 3, 8] else []) 5 (fun a0_ b a_ w' => ∃ (va_ vb_ vc_ vd_ : Value) (gl_ : Nat), Aside0 (a_ = putSel a0_ b [(1, 66, va_), (2, 67, vb_), (3, 68, vc_), (8, 73, vd_), (9, 74, .slice (some ⟨gl_, 0, none⟩) 4 4), (11, 76, .int .i64 t171)]) ∧ (b 1 = true → Kd.R (Kd.int .i64) 2 w' w.heap.size (fun _ => True) va_ ya_) ∧ (b 2 = true → Kd.R (Kd.int .i64) 2 w' w.heap.size (fun _ => True) vb_ yb_) ∧ (b 3 = true → Kd.R (Kd.int .i64) 2 w' w.heap.size (fun _ => True) vc_ yc_) ∧ (b 8 = true → Kd.R (Kd.int .i64) 2 w' w.heap.size (fun _ => True) vd_ yd_) ∧ Aside0 (Kd.S (Kd.slice 2 (Kd.int .i64)) 27 w' w.heap.size (fun k_ => (b 1 = true → some k_ ≠ (va_ : Value).ownBlock) ∧ (b 2 = true → some k_ ≠ (vb_ : Value).ownBlock) ∧ (b 3 = true → some k_ ≠ (vc_ : Value).ownBlock) ∧ (b 8 = true → some k_ ≠ (vd_ : Value).ownBlock)) u4 x4_1) ∧ (b 9 = true → w'.heap[gl_]? = some (.cells #[va_, vb_, vc_, vd_] 27 (0, 0)) ∧ gl_ ≠ g) ∧ Aside0 (w'.heap[gb129]? = some (.cells #[.int .i64 0, .slice none 0 0] 26 (0, 0))) ∧ Aside0 (w'.heap[gb133]? = some (.cells #[.int .i64 (wrap64 (1 + t130)), .slice none 0 0] 26 (0, 0))) ∧ Aside0 (IsS50 w0 w' g s0_0 (bif b 11 then t172 else t162) (bif b 11 then t173 else t163)) ∧ Aside0 (KeepBut w w' g none) ∧ Aside0 (Below w0.heap.size w0 w')) (by kernel_rfl) (by kernel_rfl) ?h0 (fun b a_ w' hI_ => ?hS) ?hs ?hend
              case h0 => exact ⟨undef, undef, undef, undef, 0, ⟨rfl⟩, (fun h_ => by cases h_), (fun h_ => by cases h_), (fun h_ => by cases h_), (fun h_ => by cases h_), ⟨Kd.S_mono (S1 HO_4) (fun _ _ => ⟨(fun h_ => by cases h_), (fun h_ => by cases h_), (fun h_ => by cases h_), (fun h_ => by cases h_)⟩)⟩, (fun h_ => by cases h_), BK129, BK133, HI0, HK, HB⟩
              case hS => obtain ⟨va_, vb_, vc_, vd_, gl_, ⟨rfl⟩, Ha_, Hb_, Hc_, Hd_, HO_4, HL_, BK129, BK133, HI0, HK, HB⟩ := hI_; exact ⟨(blk_cell BK133.out 0).trans rfl, (blk_cell BK133.out 1).trans rfl⟩
              case hs =>
                refine pool_cons ?_ (pool_cons ?_ (pool_cons ?_ (pool_cons ?_ (pool_cons ?_ (pool_cons ?_ (pool_nil))))))
                · intro b a_ w' hI_ hbi_ hneed_ hcl_
                  obtain ⟨va_, vb_, vc_, vd_, gl_, ha_, Ha_, Hb_, Hc_, Hd_, HO_4, HL_, BK129, BK133, HI0, HK, HB⟩ := hI_
                  refine ⟨_, rfl, fun K hK => ?_⟩
                  refine Kd.R_lit_step (Kd.int .i64) _ 2 ?hg (N := 66) ?hd (xs := ([0] : List Int)) (inner := [.int .i64 (0)]) (ok := fun _ => True) (okp := fun _ => True) ?hr ?hp (fun _ hk => hk) trivial (Below.refl _ _) (Nat.le_refl _) (by simp) ?_; (case hd => rfl); (case hg => rfl); (case hr => first | (go_simp; done) | (go_simp; rfl)); (case hp => exact (Reps.one (show Kd.M (Kd.int .i64) _ _ _ (0) [.int .i64 (0)] from rfl) (Reps.none _ _)))
                  intro v_ w1_ ho_ hb _ _
                  (first | rw [← Nya_.out] at ho_ | (simp only [Int.reduceToNat] at ho_; rw [← Nya_.out] at ho_))
                  exact hK.out _ _ ⟨v_, vb_, vc_, vd_, gl_, ⟨by rw [ha_.out]; exact putSel_upk 0 hbi_ rfl rfl rfl⟩, fun _ => Kd.R_lower ho_ (keep_size (w := w) (g := g) (row := none) HK.out), fun h_ => Kd.R_below (Hb_ (up_of h_ (by decide))) hb, fun h_ => Kd.R_below (Hc_ (up_of h_ (by decide))) hb, fun h_ => Kd.R_below (Hd_ (up_of h_ (by decide))) hb, ⟨Kd.S_mono (Kd.S_elder' HO_4.out (Kd.R_base ho_) hb) (fun k_ hk_ => ⟨fun _ => hk_.2, fun h_ => hk_.1.2.1 (up_of h_ (by decide)), fun h_ => hk_.1.2.2.1 (up_of h_ (by decide)), fun h_ => hk_.1.2.2.2 (up_of h_ (by decide))⟩)⟩, fun h_ => absurd (hcl_ 9 (by decide) (up_of h_ (by decide)) 1 (by decide)) (by rw [hbi_]; decide), ⟨blk_below BK129.out hb⟩, ⟨blk_below BK133.out hb⟩, ⟨IsS50.below HI0.out hb⟩, ⟨KeepBut.trans HK.out (KeepBut.of_below hb g none) (.inl rfl)⟩, ⟨below_step HB.out hb⟩⟩
                · intro b a_ w' hI_ hbi_ hneed_ hcl_
                  obtain ⟨va_, vb_, vc_, vd_, gl_, ha_, Ha_, Hb_, Hc_, Hd_, HO_4, HL_, BK129, BK133, HI0, HK, HB⟩ := hI_
                  refine ⟨_, rfl, fun K hK => ?_⟩
                  refine Kd.R_lit_step (Kd.int .i64) _ 2 ?hg (N := 67) ?hd (xs := ([2, 1] : List Int)) (inner := [.int .i64 (2), .int .i64 (1)]) (ok := fun _ => True) (okp := fun _ => True) ?hr ?hp (fun _ hk => hk) trivial (Below.refl _ _) (Nat.le_refl _) (by simp) ?_; (case hd => rfl); (case hg => rfl); (case hr => first | (go_simp; done) | (go_simp; rfl)); (case hp => exact (Reps.one (show Kd.M (Kd.int .i64) _ _ _ (2) [.int .i64 (2)] from rfl) (Reps.one (show Kd.M (Kd.int .i64) _ _ _ (1) [.int .i64 (1)] from rfl) (Reps.none _ _))))
                  intro v_ w1_ ho_ hb _ _
                  (first | rw [← Nyb_.out] at ho_ | (simp only [Int.reduceToNat] at ho_; rw [← Nyb_.out] at ho_))
                  exact hK.out _ _ ⟨va_, v_, vc_, vd_, gl_, ⟨by rw [ha_.out]; exact putSel_upk 1 hbi_ rfl rfl rfl⟩, fun h_ => Kd.R_below (Ha_ (up_of h_ (by decide))) hb, fun _ => Kd.R_lower ho_ (keep_size (w := w) (g := g) (row := none) HK.out), fun h_ => Kd.R_below (Hc_ (up_of h_ (by decide))) hb, fun h_ => Kd.R_below (Hd_ (up_of h_ (by decide))) hb, ⟨Kd.S_mono (Kd.S_elder' HO_4.out (Kd.R_base ho_) hb) (fun k_ hk_ => ⟨fun h_ => hk_.1.1 (up_of h_ (by decide)), fun _ => hk_.2, fun h_ => hk_.1.2.2.1 (up_of h_ (by decide)), fun h_ => hk_.1.2.2.2 (up_of h_ (by decide))⟩)⟩, fun h_ => absurd (hcl_ 9 (by decide) (up_of h_ (by decide)) 2 (by decide)) (by rw [hbi_]; decide), ⟨blk_below BK129.out hb⟩, ⟨blk_below BK133.out hb⟩, ⟨IsS50.below HI0.out hb⟩, ⟨KeepBut.trans HK.out (KeepBut.of_below hb g none) (.inl rfl)⟩, ⟨below_step HB.out hb⟩⟩
                · intro b a_ w' hI_ hbi_ hneed_ hcl_
                  obtain ⟨va_, vb_, vc_, vd_, gl_, ha_, Ha_, Hb_, Hc_, Hd_, HO_4, HL_, BK129, BK133, HI0, HK, HB⟩ := hI_
                  refine ⟨_, rfl, fun K hK => ?_⟩
                  refine Kd.R_lit_step (Kd.int .i64) _ 2 ?hg (N := 68) ?hd (xs := ([1, -1] : List Int)) (inner := [.int .i64 (1), .int .i64 (-1)]) (ok := fun _ => True) (okp := fun _ => True) ?hr ?hp (fun _ hk => hk) trivial (Below.refl _ _) (Nat.le_refl _) (by simp) ?_; (case hd => rfl); (case hg => rfl); (case hr => first | (go_simp; done) | (go_simp; rfl)); (case hp => exact (Reps.one (show Kd.M (Kd.int .i64) _ _ _ (1) [.int .i64 (1)] from rfl) (Reps.one (show Kd.M (Kd.int .i64) _ _ _ (-1) [.int .i64 (-1)] from rfl) (Reps.none _ _))))
                  intro v_ w1_ ho_ hb _ _
                  (first | rw [← Nyc_.out] at ho_ | (simp only [Int.reduceToNat] at ho_; rw [← Nyc_.out] at ho_))
                  exact hK.out _ _ ⟨va_, vb_, v_, vd_, gl_, ⟨by rw [ha_.out]; exact putSel_upk 2 hbi_ rfl rfl rfl⟩, fun h_ => Kd.R_below (Ha_ (up_of h_ (by decide))) hb, fun h_ => Kd.R_below (Hb_ (up_of h_ (by decide))) hb, fun _ => Kd.R_lower ho_ (keep_size (w := w) (g := g) (row := none) HK.out), fun h_ => Kd.R_below (Hd_ (up_of h_ (by decide))) hb, ⟨Kd.S_mono (Kd.S_elder' HO_4.out (Kd.R_base ho_) hb) (fun k_ hk_ => ⟨fun h_ => hk_.1.1 (up_of h_ (by decide)), fun h_ => hk_.1.2.1 (up_of h_ (by decide)), fun _ => hk_.2, fun h_ => hk_.1.2.2.2 (up_of h_ (by decide))⟩)⟩, fun h_ => absurd (hcl_ 9 (by decide) (up_of h_ (by decide)) 3 (by decide)) (by rw [hbi_]; decide), ⟨blk_below BK129.out hb⟩, ⟨blk_below BK133.out hb⟩, ⟨IsS50.below HI0.out hb⟩, ⟨KeepBut.trans HK.out (KeepBut.of_below hb g none) (.inl rfl)⟩, ⟨below_step HB.out hb⟩⟩
                · intro b a_ w' hI_ hbi_ hneed_ hcl_
                  obtain ⟨va_, vb_, vc_, vd_, gl_, ha_, Ha_, Hb_, Hc_, Hd_, HO_4, HL_, BK129, BK133, HI0, HK, HB⟩ := hI_
                  have he72_ : a_.tmps[72]? = some (.int .i64 (wrap64 ((wrap64 (-(wrap64 (1 + t130)))) - 1))) := by rw [ha_.out]; exact (putSel_off rfl).trans rfl
                  refine ⟨_, rfl, fun K hK => ?_⟩
                  refine Kd.R_lit_step (Kd.int .i64) _ 2 ?hg (N := 73) ?hd (xs := ([wrap64 ((wrap64 (-(wrap64 (1 + t130)))) - 1)] : List Int)) (inner := [.int .i64 (wrap64 ((wrap64 (-(wrap64 (1 + t130)))) - 1))]) (ok := fun _ => True) (okp := fun _ => True) ?hr ?hp (fun _ hk => hk) trivial (Below.refl _ _) (Nat.le_refl _) (by simp) ?_; (case hd => rfl); (case hg => rfl); (case hr => first | (go_simp; done) | (go_simp; rfl)); (case hp => exact (Reps.one (show Kd.M (Kd.int .i64) _ _ _ (wrap64 ((wrap64 (-(wrap64 (1 + t130)))) - 1)) [.int .i64 (wrap64 ((wrap64 (-(wrap64 (1 + t130)))) - 1))] from rfl) (Reps.none _ _)))
                  intro v_ w1_ ho_ hb _ _
                  (first | rw [← Nyd_.out] at ho_ | (simp only [Int.reduceToNat] at ho_; rw [← Nyd_.out] at ho_))
                  exact hK.out _ _ ⟨va_, vb_, vc_, v_, gl_, ⟨by rw [ha_.out]; exact putSel_upk 3 hbi_ rfl rfl rfl⟩, fun h_ => Kd.R_below (Ha_ (up_of h_ (by decide))) hb, fun h_ => Kd.R_below (Hb_ (up_of h_ (by decide))) hb, fun h_ => Kd.R_below (Hc_ (up_of h_ (by decide))) hb, fun _ => Kd.R_lower ho_ (keep_size (w := w) (g := g) (row := none) HK.out), ⟨Kd.S_mono (Kd.S_elder' HO_4.out (Kd.R_base ho_) hb) (fun k_ hk_ => ⟨fun h_ => hk_.1.1 (up_of h_ (by decide)), fun h_ => hk_.1.2.1 (up_of h_ (by decide)), fun h_ => hk_.1.2.2.1 (up_of h_ (by decide)), fun _ => hk_.2⟩)⟩, fun h_ => absurd (hcl_ 9 (by decide) (up_of h_ (by decide)) 8 (by decide)) (by rw [hbi_]; decide), ⟨blk_below BK129.out hb⟩, ⟨blk_below BK133.out hb⟩, ⟨IsS50.below HI0.out hb⟩, ⟨KeepBut.trans HK.out (KeepBut.of_below hb g none) (.inl rfl)⟩, ⟨below_step HB.out hb⟩⟩
                · intro b a_ w' hI_ hbi_ hneed_ hcl_
                  obtain ⟨va_, vb_, vc_, vd_, gl_, ha_, Ha_, Hb_, Hc_, Hd_, HO_4, HL_, BK129, BK133, HI0, HK, HB⟩ := hI_
                  have b1_ := hneed_ 1 (by decide)
                  have b2_ := hneed_ 2 (by decide)
                  have b3_ := hneed_ 3 (by decide)
                  have b8_ := hneed_ 8 (by decide)
                  obtain ⟨Aa_, ca_, rfl⟩ := Kd.R_slice (Ha_ b1_)
                  obtain ⟨Ab_, cb_, rfl⟩ := Kd.R_slice (Hb_ b2_)
                  obtain ⟨Ac_, cc_, rfl⟩ := Kd.R_slice (Hc_ b3_)
                  obtain ⟨Ad_, cd_, rfl⟩ := Kd.R_slice (Hd_ b8_)
                  have he66_ : a_.tmps[66]? = some (.slice Aa_ ya_.length ca_) := by rw [ha_.out]; exact (putSel_on (b := b) (e := (1, 66, _)) 0 rfl rfl b1_ rfl)
                  have he67_ : a_.tmps[67]? = some (.slice Ab_ yb_.length cb_) := by rw [ha_.out]; exact (putSel_on (b := b) (e := (2, 67, _)) 1 rfl rfl b2_ rfl)
                  have he68_ : a_.tmps[68]? = some (.slice Ac_ yc_.length cc_) := by rw [ha_.out]; exact (putSel_on (b := b) (e := (3, 68, _)) 2 rfl rfl b3_ rfl)
                  have he73_ : a_.tmps[73]? = some (.slice Ad_ yd_.length cd_) := by rw [ha_.out]; exact (putSel_on (b := b) (e := (8, 73, _)) 3 rfl rfl b8_ rfl)
                  refine ⟨_, rfl, fun K hK => ?_⟩
                  refine value_ (w1 := w'.alloc (.cells #[.slice Aa_ ya_.length ca_, .slice Ab_ yb_.length cb_, .slice Ac_ yc_.length cc_, .slice Ad_ yd_.length cd_] 27 (0, 0))) (v := .slice (some ⟨w'.heap.size, 0, none⟩) 4 4) (by rfl) rfl (by first | (go_simp; done) | (go_simp; rfl) | (go_simp; constructor <;> rfl)) ?_
                  have hb := below_alloc (Below.refl w'.heap.size w') (.cells #[.slice Aa_ ya_.length ca_, .slice Ab_ yb_.length cb_, .slice Ac_ yc_.length cc_, .slice Ad_ yd_.length cd_] 27 (0, 0))
                  exact hK.out _ _ ⟨_, _, _, _, w'.heap.size, ⟨by rw [ha_.out]; exact putSel_upk 4 hbi_ rfl rfl rfl⟩, fun h_ => Kd.R_below (Ha_ (up_of h_ (by decide))) hb, fun h_ => Kd.R_below (Hb_ (up_of h_ (by decide))) hb, fun h_ => Kd.R_below (Hc_ (up_of h_ (by decide))) hb, fun h_ => Kd.R_below (Hd_ (up_of h_ (by decide))) hb, ⟨Kd.S_mono (Kd.S_below HO_4.out hb) (fun k_ hk_ => ⟨fun h_ => hk_.1 (up_of h_ (by decide)), fun h_ => hk_.2.1 (up_of h_ (by decide)), fun h_ => hk_.2.2.1 (up_of h_ (by decide)), fun h_ => hk_.2.2.2 (up_of h_ (by decide))⟩)⟩, fun _ => ⟨blk_new _ _, Nat.ne_of_gt (IsS50.lt HI0.out)⟩, ⟨blk_below BK129.out hb⟩, ⟨blk_below BK133.out hb⟩, ⟨IsS50.below HI0.out hb⟩, ⟨KeepBut.trans HK.out (KeepBut.of_below hb g none) (.inl rfl)⟩, ⟨below_step HB.out hb⟩⟩
                · intro b a_ w' hI_ hbi_ hneed_ hcl_
                  obtain ⟨va_, vb_, vc_, vd_, gl_, ha_, Ha_, Hb_, Hc_, Hd_, HO_4, HL_, BK129, BK133, HI0, HK, HB⟩ := hI_
                  have hI0_ := HI0.out
                  rw [hbi_] at hI0_
                  have he_ : a_.eval (.tmp 75) = .pointer (some ⟨g, 0, none⟩) := by rw [ha_.out]; exact eval_of ((putSel_off rfl).trans rfl)
                  refine ⟨_, rfl, fun K hK => ?_⟩
                  refine GO Try.func21 #[.pointer (some ⟨g, 0, none⟩), .int .i64 4] ?_ (hargs := by simp only [List.map_toArray, List.map_cons, List.map_nil, he_]; rfl)
                  refine (spec_l01Next.calls g s0_0 t162 t163 4 t171 t172 t173 w0 _ hI0_ HB.out A74.out).mono ?_
                  rintro e w1_ ⟨rfl, hi, hb, hk⟩
                  refine ⟨_, rfl, ?_⟩
                  exact hK.out _ _ ⟨va_, vb_, vc_, vd_, gl_, ⟨by rw [ha_.out]; exact putSel_upk 5 hbi_ rfl rfl rfl⟩, fun h_ => Kd.R_mono (Kd.R_keep (IsS50.apart hI0_ (Ha_ (up_of h_ (by decide))) (by decide)) hk (fun _ h => h.2)) (fun _ h => h.1), fun h_ => Kd.R_mono (Kd.R_keep (IsS50.apart hI0_ (Hb_ (up_of h_ (by decide))) (by decide)) hk (fun _ h => h.2)) (fun _ h => h.1), fun h_ => Kd.R_mono (Kd.R_keep (IsS50.apart hI0_ (Hc_ (up_of h_ (by decide))) (by decide)) hk (fun _ h => h.2)) (fun _ h => h.1), fun h_ => Kd.R_mono (Kd.R_keep (IsS50.apart hI0_ (Hd_ (up_of h_ (by decide))) (by decide)) hk (fun _ h => h.2)) (fun _ h => h.1), ⟨Kd.S_mono (Kd.S_keep (IsS50.apartS hI0_ HO_4.out (by decide)) hk (fun _ h => h.2)) (fun k_ hk_ => ⟨fun h_ => hk_.1.1 (up_of h_ (by decide)), fun h_ => hk_.1.2.1 (up_of h_ (by decide)), fun h_ => hk_.1.2.2.1 (up_of h_ (by decide)), fun h_ => hk_.1.2.2.2 (up_of h_ (by decide))⟩)⟩, fun h_ => ⟨KeepBut.blk hk (g' := gl_) (HL_ (up_of h_ (by decide))).1 (HL_ (up_of h_ (by decide))).2 (by simp), (HL_ (up_of h_ (by decide))).2⟩, ⟨KeepBut.blk hk (g' := gb129) (o := .cells #[.int .i64 0, .slice none 0 0] 26 (0, 0)) BK129.out NB129_0.out (by simp)⟩, ⟨KeepBut.blk hk (g' := gb133) (o := .cells #[.int .i64 (wrap64 (1 + t130)), .slice none 0 0] 26 (0, 0)) BK133.out NB133_0.out (by simp)⟩, ⟨hi⟩, ⟨KeepBut.trans HK.out hk (.inl rfl)⟩, ⟨hb⟩⟩
              case hend =>
                intro b a_ wl_ hall_ hI_
                obtain ⟨va_, vb_, vc_, vd_, gl_, ⟨rfl⟩, Ha_, Hb_, Hc_, Hd_, HO_4, HL_, BK129, BK133, HI0, HK, HB⟩ := hI_
                have b1_ := hall_ 1 (by decide)
                have b2_ := hall_ 2 (by decide)
                have b3_ := hall_ 3 (by decide)
                have b8_ := hall_ 8 (by decide)
                have b9_ := hall_ 9 (by decide)
                have b11_ := hall_ 11 (by decide)
                clear hall_
                rw [b11_] at HI0
                replace HI0 := Aside0.mk (show IsS50 w0 wl_ g s0_0 t172 t173 from HI0.out)
                simp only [putSel, b1_, b2_, b3_, b8_, b9_, b11_, if_true, Act.put, List.setIfInBounds_toArray, List.set_cons_zero, List.set_cons_succ]
                obtain ⟨hL_, hNL_⟩ := HL_ b9_
                clear HL_
                have HL_ := Aside0.mk hL_
                have NL_ := Aside0.mk hNL_
                clear hL_ hNL_
                obtain ⟨vs_, hvs_, hRs_, hne_⟩ : ∃ vs_ : Value, (#[va_, vb_, vc_, vd_] : Array Value)[t171.toNat]? = some vs_ ∧ Kd.R (Kd.int .i64) 2 wl_ w.heap.size (fun _ => True) vs_ y174 ∧ ∀ k_ : Nat, ((b 1 = true → some k_ ≠ (va_ : Value).ownBlock) ∧ (b 2 = true → some k_ ≠ (vb_ : Value).ownBlock) ∧ (b 3 = true → some k_ ≠ (vc_ : Value).ownBlock) ∧ (b 8 = true → some k_ ≠ (vd_ : Value).ownBlock)) → some k_ ≠ vs_.ownBlock := by
                  rcases (by omega : t171 = 0 ∨ t171 = 1 ∨ t171 = 2 ∨ t171 = 3) with h4_ | h4_ | h4_ | h4_
                  · exact ⟨_, by rw [h4_]; rfl, by rw [Ny174.out, h4_]; have h5_ := Ha_ b1_; rw [Nya_.out] at h5_; exact h5_, fun k_ hk_ => hk_.1 b1_⟩
                  · exact ⟨_, by rw [h4_]; rfl, by rw [Ny174.out, h4_]; have h5_ := Hb_ b2_; rw [Nyb_.out] at h5_; exact h5_, fun k_ hk_ => hk_.2.1 b2_⟩
                  · exact ⟨_, by rw [h4_]; rfl, by rw [Ny174.out, h4_]; have h5_ := Hc_ b3_; rw [Nyc_.out] at h5_; exact h5_, fun k_ hk_ => hk_.2.2.1 b3_⟩
                  · exact ⟨_, by rw [h4_]; rfl, by rw [Ny174.out, h4_]; have h5_ := Hd_ b8_; rw [Nyd_.out] at h5_; exact h5_, fun k_ hk_ => hk_.2.2.2 b8_⟩
                have HRs_ := Aside0.mk hRs_
                clear hRs_ Ha_ Hb_ Hc_ Hd_
                replace HO_4 := Aside0.mk (Kd.S_mono HO_4.out (ok' := fun k_ => True ∧ some k_ ≠ vs_.ownBlock) (fun k_ hk_ => ⟨trivial, hne_ k_ hk_⟩))
                clear hne_
                obtain ⟨As_, cs_, es_⟩ := Kd.R_slice HRs_.out
                subst es_
                have hcl_ := (blk_cell HL_.out t171.toNat).trans hvs_
                have hHeld : wl_.cell? ⟨gb133, 0, none⟩ = some (.int .i64 (wrap64 (1 + t130))) ∧ wl_.cell? ⟨gb133, 1, none⟩ = some (.slice none 0 0) := ⟨(blk_cell BK133.out 0).trans rfl, (blk_cell BK133.out 1).trans rfl⟩
                refine PU 12 77 (v := .pointer (some ⟨gl_, t171.toNat, none⟩)) ?_ (hy := by intro w'; rcases (by omega : t171 = 0 ∨ t171 = 1 ∨ t171 = 2 ∨ t171 = 3) with h4_ | h4_ | h4_ | h4_ <;> (rw [h4_]; first | (go_simp; done) | (go_simp; rfl)))
                refine ON 13 78 (fun K hK => ?_)
                refine value_ (v := .slice As_ y174.length cs_) (by rfl) rfl (by first | (go_simp; done) | (go_simp; rfl)) ?_
                refine hK.out _ _ ⟨(blk_cell BK133.out 0).trans rfl, (blk_cell BK133.out 1).trans rfl⟩ (fun hHeld => ?_)
                clear hK K
                refine NM 78 ?_
                refine ON 14 79 (fun K hK => ?_)
                refine value_ (w1 := ?_) (v := ?_) (by rfl) rfl ?_ ?_
                rotate_left 2
                · go_simp
                  constructor
                  · rfl
                  · rfl
                refine hK.out _ _ ⟨(blk_cell (blk_alloc BK133.out _) 0).trans rfl, (blk_cell (blk_alloc BK133.out _) 1).trans rfl⟩ (fun hHeld => ?_)
                clear hK K
                refine NM 79 ?_
                refine ON 15 80 (fun K hK => ?_)
                refine Kd.S_append_step (Kd.slice 2 (Kd.int .i64)) w.heap.size (by rfl) (.tmp 65) (.tmp 79) 24 27 (.slice none 0 0) 24 rfl Try.underlying24 info27 rfl (by decide) (by omega) u4 x4_1 y174 [.slice As_ y174.length cs_] (fun _ => True) (fun k_ => some k_ = (.slice As_ y174.length cs_ : Value).ownBlock) rfl rfl ?aP (fun k_ hk_ => ((Kd.R_mono (ok' := fun k_ => ((fun _ => True)) k_ ∧ some k_ ≠ (u4 : Value).ownBlock) (Kd.R_apart' (HRs_.out) (Kd.S_typed HO_4.out) (by decide)) (fun k_ hk => ⟨trivial, hk.2⟩))).1 k_ hk_.symm) ?aF ?aO (Below.refl _ _) ?aS ?aL ?_
                (case aP => exact Kd.M_row (Kd.R_mono (Kd.R_tight rfl (Kd.R_mono (ok' := fun k_ => ((fun _ => True)) k_ ∧ some k_ ≠ (u4 : Value).ownBlock) (Kd.R_apart' (HRs_.out) (Kd.S_typed HO_4.out) (by decide)) (fun k_ hk => ⟨trivial, hk.2⟩))) (fun _ h_ => h_)))
                (case aF => exact (fun _ _ => trivial))
                (case aO => exact (by (with_reducible repeat (first | apply Kd.S_alloc | apply Kd.S_drewN | apply Kd.S_drew)); exact Kd.S_mono HO_4.out (fun k_ hk => ⟨trivial, fun e_ => hk.2 e_⟩)))
                (case aS => exact (keep_size (w := w) (g := g) (row := none) (by repeat (first | (with_reducible first | exact HK.out | apply KeepBut.set_ | apply keep_drewN | apply keep_drew | apply keep_alloc | refine keep_far ?_ GW129.out _ | refine keep_far ?_ GW133.out _) | exact HK.out))))
                (case aL => have := LMc75.out; omega)
                intro v178 w81 ho hb hg hat
                rw [← Ny177.out] at ho
                replace BK129 := Aside0.mk (blk_grown (B1 BK129) hg (Kd.S_ne HO_4.out BK129.out (by decide)))
                replace BK133 := Aside0.mk (blk_grown (B1 BK133) hg (Kd.S_ne HO_4.out BK133.out (by decide)))
                replace HB := Aside0.mk (below_weaken (by repeat (first | (with_reducible first | exact HB.out | apply below_alloc | apply pw_below_drewN | apply below_drew1 | refine below_set ?_ (IsS50.ge HI0.out) | refine below_set ?_ GE129.out | refine below_set ?_ GE133.out) | exact HB.out)) HL.out hb)
                replace HI0 := Aside0.mk (IsS50.grown (by repeat (first | (with_reducible first | exact HI0.out | apply IsS50.alloc | apply IsS50.drewN | apply IsS50.drew | apply IsS50.set_1 | apply IsS50.set_2 | refine IsS50.far ?_ NB0_129.out _ | refine IsS50.far ?_ NB0_133.out _) | exact HI0.out)) hg (IsS50.own_neS HI0.out HO_4.out (by decide)))
                replace HK := Aside0.mk (KeepBut.trans (by repeat (first | (with_reducible first | exact HK.out | apply KeepBut.set_ | apply keep_drewN | apply keep_drew | apply keep_alloc | refine keep_far ?_ GW129.out _ | refine keep_far ?_ GW133.out _) | exact HK.out)) (KeepBut.of_grown hg g) (Kd.S_base2 HO_4.out))
                have HO179 := Aside0.mk (ho)
                clear HO_4
                clear HRs_
                clear ho hb hg hat
                refine hK.out _ _ ⟨(blk_cell BK133.out 0).trans rfl, (blk_cell BK133.out 1).trans rfl⟩ (fun hHeld => ?_)
                clear hK K
                refine NM 80 ?_
                refine PU 16 4 ?_
                refine done_ (by kernel_rfl) ?_
                have hnb83 := NB133_129.out
                have hnc83 := NB129_133.out
                have hnb84 := NB133_0.out
                have hnc84 := NB0_133.out
                have hcz85_0 : w81.cell? ⟨gb133, 0, none⟩ = some (.int .i64 (wrap64 (1 + t130))) := bc BK133
                have hcz85_1 : w81.cell? ⟨gb133, 1, none⟩ = some (.slice none 0 0) := bc BK133
                have hfz85_0 := blk_frozen BK133.out 0
                have hfz85_1 := blk_frozen BK133.out 1
                obtain ⟨Ao86, co86, eo86⟩ := Kd.S_slice HO179.out
                subst eo86
                have hnb87 := NB129_0.out
                have hnc87 := NB0_129.out
                have hcz88_0 : w81.cell? ⟨gb129, 0, none⟩ = some (.int .i64 0) := bc BK129
                have hcz88_1 : w81.cell? ⟨gb129, 1, none⟩ = some (.slice none 0 0) := bc BK129
                have hfz88_0 := blk_frozen BK129.out 0
                have hfz88_1 := blk_frozen BK129.out 1
                try go_wp2
                refine bodyPost_ret (results_cell_row rfl _ _ gb129 26 #[.int .i64 (wrap64 (1 + t130)), .slice Ao86 y177.length co86] (0, 0) _ rfl (by (with_reducible repeat (first | refine blk_drewN ?_ _ | refine blk_drew ?_ | refine blk_alloc ?_ _)); refine blk_put (cs := #[.int .i64 (wrap64 (1 + t130)), .slice none 0 0]) ?_ 1 _ rfl; (with_reducible repeat (first | refine blk_drewN ?_ _ | refine blk_drew ?_ | refine blk_alloc ?_ _)); refine blk_put (cs := #[.int .i64 0, .slice none 0 0]) ?_ 0 _ rfl; (with_reducible repeat (first | refine blk_drewN ?_ _ | refine blk_drew ?_ | refine blk_alloc ?_ _)); exact BK129.out) Try.underlying26 rfl (by kernel_rfl)) rfl ?_
                exact ⟨_, Fin, by (with_reducible repeat (first | apply Kd.S_alloc | apply Kd.S_drewN | apply Kd.S_drew)); exact Kd.S_mono (Kd.S_far (p := ⟨gb129, 1, none⟩) (Kd.S_far (p := ⟨gb129, 0, none⟩) (Kd.S_types HO179.out BK129.out (by decide)) (fun _ hk => hk.2) (.int .i64 (wrap64 (1 + t130)))) (fun _ hk => hk.2) (.slice Ao86 y177.length co86)) (fun _ hk => trivial), by repeat (first | (with_reducible first | exact HI0.out | apply IsS50.alloc | apply IsS50.drewN | apply IsS50.drew | apply IsS50.set_1 | apply IsS50.set_2 | refine IsS50.far ?_ NB0_129.out _ | refine IsS50.far ?_ NB0_133.out _) | exact HI0.out), by repeat (first | (with_reducible first | exact HB.out | apply below_alloc | apply pw_below_drewN | apply below_drew1 | refine below_set ?_ (IsS50.ge HI0.out) | refine below_set ?_ GE129.out | refine below_set ?_ GE133.out) | exact HB.out), by repeat (first | (with_reducible first | exact HK.out | apply KeepBut.set_ | apply keep_drewN | apply keep_drew | apply keep_alloc | refine keep_far ?_ GW129.out _ | refine keep_far ?_ GW133.out _) | exact HK.out)⟩
            · rw [if_neg c75] at H
              exact absurd H (by simp)
          · rw [if_neg c73] at H
            have c73b0 : (t161 == 1) = false := beq_eq_false_iff_ne.mpr c73
            have c73b1 : (t161 != 1) = true := bne_iff_ne.mpr c73
            simp only [Option.some.injEq, Prod.mk.injEq] at H
            obtain ⟨rfl, rfl, rfl, rfl⟩ := H
            go_wp2_with (first | ((with_reducible refine gC 21 ?_); refine GL (some 54) Try.func21 #[.pointer (some ⟨g, 0, none⟩), .int .i64 30] ?_; (with_reducible refine (spec_l01Next.calls g s0_0 x1001_1 x1002_1 30 t161 t162 t163 w0 _ ?side1 ?side2 A57.out).mono ?_); (case side1 => repeat (first | (with_reducible first | exact HI0.out | apply IsS50.alloc | apply IsS50.drewN | apply IsS50.drew | apply IsS50.set_1 | apply IsS50.set_2 | refine IsS50.far ?_ NB0_129.out _ | refine IsS50.far ?_ NB0_133.out _) | exact HI0.out)); (case side2 => repeat (first | (with_reducible first | exact HB.out | apply below_alloc | apply pw_below_drewN | apply below_drew1 | refine below_set ?_ (IsS50.ge HI0.out) | refine below_set ?_ GE129.out | refine below_set ?_ GE133.out) | exact HB.out)); rintro e w89 ⟨rfl, hi, hb, hk⟩; refine ⟨_, rfl, ?_⟩; replace HO_4 := Aside0.mk (Kd.S_mono (Kd.S_keep (IsS50.apartS (show IsS50 w0 _ g s0_0 x1001_1 x1002_1 from by repeat (first | (with_reducible first | exact HI0.out | apply IsS50.alloc | apply IsS50.drewN | apply IsS50.drew | apply IsS50.set_1 | apply IsS50.set_2 | refine IsS50.far ?_ NB0_129.out _ | refine IsS50.far ?_ NB0_133.out _) | exact HI0.out)) (S1 HO_4) (by decide)) hk (fun _ h => h.2)) (fun _ h => h.1)); replace BK129 := Aside0.mk (KeepBut.blk hk (g' := gb129) (o := .cells #[.int .i64 0, .slice none 0 0] 26 (0, 0)) (B1 BK129) NB129_0.out (by simp)); replace BK133 := Aside0.mk (KeepBut.blk hk (g' := gb133) (o := .cells #[.int .i64 (wrap64 (1 + t130)), .slice none 0 0] 26 (0, 0)) (B1 BK133) NB133_0.out (by simp)); replace HK := Aside0.mk (KeepBut.trans (by repeat (first | (with_reducible first | exact HK.out | apply KeepBut.set_ | apply keep_drewN | apply keep_drew | apply keep_alloc | refine keep_far ?_ GW129.out _ | refine keep_far ?_ GW133.out _) | exact HK.out)) hk (.inl rfl)); replace HB := Aside0.mk (hb); replace HI0 := Aside0.mk (hi); (try clear hb); (try clear hb2); (try clear hk); (try clear hi); have hnb90 := NB133_129.out; have hnc90 := NB129_133.out; have hnb91 := NB133_0.out; have hnc91 := NB0_133.out; have hcz92_0 : w89.cell? ⟨gb133, 0, none⟩ = some (.int .i64 (wrap64 (1 + t130))) := bc BK133; have hcz92_1 : w89.cell? ⟨gb133, 1, none⟩ = some (.slice none 0 0) := bc BK133; have hfz92_0 := blk_frozen BK133.out 0; have hfz92_1 := blk_frozen BK133.out 1; obtain ⟨Ao93, co93, eo93⟩ := Kd.S_slice HO_4.out; subst eo93; have hnb94 := NB129_0.out; have hnc94 := NB0_129.out; have hcz95_0 : w89.cell? ⟨gb129, 0, none⟩ = some (.int .i64 0) := bc BK129; have hcz95_1 : w89.cell? ⟨gb129, 1, none⟩ = some (.slice none 0 0) := bc BK129; have hfz95_0 := blk_frozen BK129.out 0; have hfz95_1 := blk_frozen BK129.out 1))
            refine bodyPost_ret (results_cell_row rfl _ _ gb129 26 #[.int .i64 (wrap64 (1 + t130)), .slice Ao93 x4_1.length co93] (0, 0) _ rfl (by (with_reducible repeat (first | refine blk_drewN ?_ _ | refine blk_drew ?_ | refine blk_alloc ?_ _)); refine blk_put (cs := #[.int .i64 (wrap64 (1 + t130)), .slice none 0 0]) ?_ 1 _ rfl; (with_reducible repeat (first | refine blk_drewN ?_ _ | refine blk_drew ?_ | refine blk_alloc ?_ _)); refine blk_put (cs := #[.int .i64 0, .slice none 0 0]) ?_ 0 _ rfl; (with_reducible repeat (first | refine blk_drewN ?_ _ | refine blk_drew ?_ | refine blk_alloc ?_ _)); exact BK129.out) Try.underlying26 rfl (by kernel_rfl)) rfl ?_
            exact ⟨_, Fin, by (with_reducible repeat (first | apply Kd.S_alloc | apply Kd.S_drewN | apply Kd.S_drew)); exact Kd.S_mono (Kd.S_far (p := ⟨gb129, 1, none⟩) (Kd.S_far (p := ⟨gb129, 0, none⟩) (Kd.S_types HO_4.out BK129.out (by decide)) (fun _ hk => hk.2) (.int .i64 (wrap64 (1 + t130)))) (fun _ hk => hk.2) (.slice Ao93 x4_1.length co93)) (fun _ hk => trivial), by repeat (first | (with_reducible first | exact HI0.out | apply IsS50.alloc | apply IsS50.drewN | apply IsS50.drew | apply IsS50.set_1 | apply IsS50.set_2 | refine IsS50.far ?_ NB0_129.out _ | refine IsS50.far ?_ NB0_133.out _) | exact HI0.out), by repeat (first | (with_reducible first | exact HB.out | apply below_alloc | apply pw_below_drewN | apply below_drew1 | refine below_set ?_ (IsS50.ge HI0.out) | refine below_set ?_ GE129.out | refine below_set ?_ GE133.out) | exact HB.out), by repeat (first | (with_reducible first | exact HK.out | apply KeepBut.set_ | apply keep_drewN | apply keep_drew | apply keep_alloc | refine keep_far ?_ GW129.out _ | refine keep_far ?_ GW133.out _) | exact HK.out)⟩

/-! ### spec_DrawSatisfies: function 15 -/
def spec_DrawSatisfies.f (k : Nat) (l0 : List Int) : Option (Int × (List (List Int)) × List Int) := (spec_l01From.f k l0).bind fun bt181 => ((spec_l20Draw.f k bt181.1 bt181.2.1 bt181.2.2).bind fun bt185 => ((spec_l20DrawValues.f k bt181.1 bt185.2.2.1 bt185.2.2.2 bt185.1 bt185.2.1).bind fun bt192 => (some (bt185.1, bt185.2.1, bt192.1))))
theorem spec_DrawSatisfies.mono : ∀ a0 k, LeO (spec_DrawSatisfies.f k a0) (spec_DrawSatisfies.f (k + 1) a0) := by
  intro a0 k
  unfold spec_DrawSatisfies.f
  repeat' first
      | (with_reducible exact spec_l01From.mono _ _)
      | (with_reducible exact spec_l20Draw.mono _ _ _ _)
      | (with_reducible exact spec_l20DrawValues.mono _ _ _ _ _ _)
      | (with_reducible exact LeO.refl _)
      | (with_reducible exact LeO.none _)
      | (with_reducible refine LeO.ite ?_ ?_)
      | (with_reducible refine LeO.bind ?_ (fun _ => ?_))
      | exact spec_l01From.mono _ _
      | exact spec_l20Draw.mono _ _ _ _
      | exact spec_l20DrawValues.mono _ _ _ _ _ _
      | exact LeO.none _
      | refine LeO.ite ?_ ?_
      | refine LeO.bind ?_ (fun _ => ?_)
set_option maxHeartbeats 8000000 in
set_option maxRecDepth 100000 in
theorem spec_DrawSatisfies.calls (k : Nat) (A0 : Option Addr) (c0 : Nat) (l0 : List Int) (r1 : Int) (r2 : List (List Int)) (r3 : List Int) (w : World) (hr0 : Kd.C (Kd.int .u8) w A0 l0.length l0) (hc0 : l0.length ≤ c0) (h : spec_DrawSatisfies.f k l0 = some (r1, r2, r3)) :
    Calls Try.prog 15 #[.slice A0 l0.length c0] w fun e w' => ∃ v1_ v2_ : Value, e = .returned (.tuple #[.agg #[.int .i64 r1, v1_], v2_]) ∧ Kd.S (Kd.slice 2 (Kd.int .i64)) 27 w' w.heap.size (fun k_ => some k_ ≠ (v2_ : Value).ownBlock) v1_ r2 ∧ Kd.R (Kd.int .i64) 2 w' w.heap.size (fun _ => True) v2_ r3 ∧ Below w.heap.size w w' := by
  have hu26 := Try.underlying26
  have HR0 := Aside0.mk hr0
  have HC0 := Aside0.mk hc0
  clear hr0 hc0
  have HB := Aside0.mk (Below.refl w.heap.size w)
  have H : ((spec_l01From.f k l0).bind fun bt181 => ((spec_l20Draw.f k bt181.1 bt181.2.1 bt181.2.2).bind fun bt185 => ((spec_l20DrawValues.f k bt181.1 bt185.2.2.1 bt185.2.2.2 bt185.1 bt185.2.1).bind fun bt192 => (some (bt185.1, bt185.2.1, bt192.1))))) = some (r1, r2, r3) := h
  clear h
  obtain ⟨⟨t181, t182, t183⟩, A20, H⟩ := Option.bind_eq_some_iff.mp H
  dsimp only at H
  have A2 := Aside0.mk A20
  clear A20
  obtain ⟨⟨t185, t186, t189, t190⟩, A30, H⟩ := Option.bind_eq_some_iff.mp H
  dsimp only at H
  have A3 := Aside0.mk A30
  clear A30
  obtain ⟨⟨t192, t195, t196⟩, A40, H⟩ := Option.bind_eq_some_iff.mp H
  dsimp only at H
  have A4 := Aside0.mk A40
  clear A40
  simp only [Option.some.injEq, Prod.mk.injEq] at H
  obtain ⟨rfl, rfl, rfl⟩ := H
  go_enter Try.func15, Try.ntmps15
  try go_wp2_with (first | ((with_reducible refine gD 2 ?_); refine BX #[.int .i64 0, .slice none 0 0] 26 ?_; intro gb180 hg w5 hbox hb; have BK180 := Aside0.mk (hbox); have GW180 := Aside0.mk ((Gle hg Hb : w.heap.size ≤ gb180)); have GE180 := Aside0.mk ((Gle hg Hb : w.heap.size ≤ gb180)); replace HB := Aside0.mk (below_step Hb hb); clear hb hbox hg) | ((with_reducible refine gC 20 ?_); refine GL (some 7) Try.func20 #[.slice A0 l0.length c0] ?_; (with_reducible refine (spec_l01From.calls k _ _ l0 t181 t182 t183 w _ ?side1 ?side2 ?side3 A2.out).mono ?_); (case side1 => exact Hb); (case side2 => exact HR0.out); (case side3 => exact HC0.out); rintro e w6 ⟨g184, rfl, hi, hb, hb2⟩; refine ⟨_, rfl, ?_⟩; replace HB := Aside0.mk (hb); have HI184 := Aside0.mk (hi); have NB184_180 := Aside0.mk (IsS50.ne_blk hi (blk_below (B1 BK180) hb2) (by decide)); have NB180_184 := Aside0.mk (Ne.symm (IsS50.ne_blk hi (blk_below (B1 BK180) hb2) (by decide))); replace BK180 := Aside0.mk (blk_below (B1 BK180) hb2); (try clear hb); (try clear hb2); (try clear hk); (try clear hi)) | ((with_reducible refine gC 26 ?_); refine GL (some 9) Try.func26 #[.pointer (some ⟨g184, 0, none⟩)] ?_; (with_reducible refine (spec_l20Draw.calls k g184 t181 t182 t183 t185 t186 t189 t190 w _ ?side1 ?side2 A3.out).mono ?_); (case side1 => repeat (first | (with_reducible first | exact HI184.out | apply IsS50.alloc | apply IsS50.drewN | apply IsS50.drew | apply IsS50.set_1 | apply IsS50.set_2 | refine IsS50.far ?_ NB184_180.out _) | exact HI184.out)); (case side2 => repeat (first | (with_reducible first | exact HB.out | apply below_alloc | apply pw_below_drewN | apply below_drew1 | refine below_set ?_ (IsS50.ge HI184.out) | refine below_set ?_ GE180.out) | exact HB.out)); rintro e w7 ⟨v187, rfl, ho0, hi, hb, hk⟩; refine ⟨_, rfl, ?_⟩; replace BK180 := Aside0.mk (KeepBut.blk hk (g' := gb180) (o := .cells #[.int .i64 0, .slice none 0 0] 26 (0, 0)) (B1 BK180) NB180_184.out (by simp)); have HO188 := Aside0.mk (Kd.S_lower ho0 (below_size (by repeat (first | (with_reducible first | exact HB.out | apply below_alloc | apply pw_below_drewN | apply below_drew1 | refine below_set ?_ (IsS50.ge HI184.out) | refine below_set ?_ GE180.out) | exact HB.out)))); replace HB := Aside0.mk (hb); replace HI184 := Aside0.mk (hi); (try clear hb); (try clear hb2); (try clear hk); (try clear hi); (try clear ho0)) | ((with_reducible refine gD 5 ?_); refine BX #[.int .i64 0, .slice none 0 0] 26 ?_; intro gb191 hg w8 hbox hb; replace HO188 := Aside0.mk (Kd.S_below (S1 HO188) hb); have BK191 := Aside0.mk (hbox); have GW191 := Aside0.mk ((by rw [hg]; exact (below_size (by repeat (first | (with_reducible first | exact HB.out | apply below_alloc | apply pw_below_drewN | apply below_drew1 | refine below_set ?_ (IsS50.ge HI184.out) | refine below_set ?_ GE180.out) | exact HB.out))) : w.heap.size ≤ gb191)); have GE191 := Aside0.mk ((by rw [hg]; exact (below_size (by repeat (first | (with_reducible first | exact HB.out | apply below_alloc | apply pw_below_drewN | apply below_drew1 | refine below_set ?_ (IsS50.ge HI184.out) | refine below_set ?_ GE180.out) | exact HB.out))) : w.heap.size ≤ gb191)); replace HB := Aside0.mk (below_step (by repeat (first | (with_reducible first | exact HB.out | apply below_alloc | apply pw_below_drewN | apply below_drew1 | refine below_set ?_ (IsS50.ge HI184.out) | refine below_set ?_ GE180.out) | exact HB.out)) hb); have NB180_191 := Aside0.mk ((by rw [hg]; exact Nat.ne_of_lt (blk_lt (B1 BK180)) : gb180 ≠ gb191)); have NB191_180 := Aside0.mk ((by rw [hg]; exact Nat.ne_of_gt (blk_lt (B1 BK180)) : gb191 ≠ gb180)); replace BK180 := Aside0.mk (blk_below (B1 BK180) hb); have NB184_191 := Aside0.mk ((by rw [hg]; exact Nat.ne_of_lt (IsS50.lt (show IsS50 w _ g184 t181 t189 t190 from by repeat (first | (with_reducible first | exact HI184.out | apply IsS50.alloc | apply IsS50.drewN | apply IsS50.drew | apply IsS50.set_1 | apply IsS50.set_2 | refine IsS50.far ?_ NB184_180.out _) | exact HI184.out))) : g184 ≠ gb191)); have NB191_184 := Aside0.mk ((by rw [hg]; exact Nat.ne_of_gt (IsS50.lt (show IsS50 w _ g184 t181 t189 t190 from by repeat (first | (with_reducible first | exact HI184.out | apply IsS50.alloc | apply IsS50.drewN | apply IsS50.drew | apply IsS50.set_1 | apply IsS50.set_2 | refine IsS50.far ?_ NB184_180.out _) | exact HI184.out))) : gb191 ≠ g184)); replace HI184 := Aside0.mk (IsS50.below (by repeat (first | (with_reducible first | exact HI184.out | apply IsS50.alloc | apply IsS50.drewN | apply IsS50.drew | apply IsS50.set_1 | apply IsS50.set_2 | refine IsS50.far ?_ NB184_180.out _) | exact HI184.out)) hb); clear hb hbox hg; have hnb9 := NB191_180.out; have hnc9 := NB180_191.out; have hnb10 := NB191_184.out; have hnc10 := NB184_191.out; have hcz11_0 : w8.cell? ⟨gb191, 0, none⟩ = some (.int .i64 0) := bc BK191; have hcz11_1 : w8.cell? ⟨gb191, 1, none⟩ = some (.slice none 0 0) := bc BK191; have hfz11_0 := blk_frozen BK191.out 0; have hfz11_1 := blk_frozen BK191.out 1; obtain ⟨Ao12, co12, eo12⟩ := Kd.S_slice HO188.out; subst eo12))
  have n0_ : Aside0 (Kd.S (Kd.slice 2 (Kd.int .i64)) 27 ((w8.setCell ⟨gb191, 0, none⟩ (.int .i64 t185)).setCell ⟨gb191, 1, none⟩ (.slice Ao12 t186.length co12)) w.heap.size (fun _ => True) (.slice Ao12 t186.length co12) t186) := ⟨by (with_reducible repeat (first | apply Kd.S_alloc | apply Kd.S_drewN | apply Kd.S_drew)); exact Kd.S_mono (Kd.S_far (p := ⟨gb191, 1, none⟩) (Kd.S_far (p := ⟨gb191, 0, none⟩) (Kd.S_types HO188.out BK191.out (by decide)) (fun _ hk => hk.2) (.int .i64 t185)) (fun _ hk => hk.2) (.slice Ao12 t186.length co12)) (fun _ hk => trivial)⟩
  have n1_ : Aside0 (((w8.setCell ⟨gb191, 0, none⟩ (.int .i64 t185)).setCell ⟨gb191, 1, none⟩ (.slice Ao12 t186.length co12)).heap[gb180]? = some (.cells #[.int .i64 0, .slice none 0 0] 26 (0, 0))) := ⟨by (with_reducible repeat (first | refine blk_drewN ?_ _ | refine blk_drew ?_ | refine blk_alloc ?_ _)); refine blk_far ?_ NB180_191.out _; (with_reducible repeat (first | refine blk_drewN ?_ _ | refine blk_drew ?_ | refine blk_alloc ?_ _)); refine blk_far ?_ NB180_191.out _; (with_reducible repeat (first | refine blk_drewN ?_ _ | refine blk_drew ?_ | refine blk_alloc ?_ _)); exact BK180.out⟩
  have n2_ : Aside0 (((w8.setCell ⟨gb191, 0, none⟩ (.int .i64 t185)).setCell ⟨gb191, 1, none⟩ (.slice Ao12 t186.length co12)).heap[gb191]? = some (.cells #[.int .i64 t185, .slice Ao12 t186.length co12] 26 (0, 0))) := ⟨by (with_reducible repeat (first | refine blk_drewN ?_ _ | refine blk_drew ?_ | refine blk_alloc ?_ _)); refine blk_put (cs := #[.int .i64 t185, .slice none 0 0]) ?_ 1 _ rfl; (with_reducible repeat (first | refine blk_drewN ?_ _ | refine blk_drew ?_ | refine blk_alloc ?_ _)); refine blk_put (cs := #[.int .i64 0, .slice none 0 0]) ?_ 0 _ rfl; (with_reducible repeat (first | refine blk_drewN ?_ _ | refine blk_drew ?_ | refine blk_alloc ?_ _)); exact BK191.out⟩
  have n3_ : Aside0 (IsS50 w ((w8.setCell ⟨gb191, 0, none⟩ (.int .i64 t185)).setCell ⟨gb191, 1, none⟩ (.slice Ao12 t186.length co12)) g184 t181 t189 t190) := ⟨by repeat (first | (with_reducible first | exact HI184.out | apply IsS50.alloc | apply IsS50.drewN | apply IsS50.drew | apply IsS50.set_1 | apply IsS50.set_2 | refine IsS50.far ?_ NB184_180.out _ | refine IsS50.far ?_ NB184_191.out _) | exact HI184.out)⟩
  have n4_ : Aside0 (Below w.heap.size w ((w8.setCell ⟨gb191, 0, none⟩ (.int .i64 t185)).setCell ⟨gb191, 1, none⟩ (.slice Ao12 t186.length co12))) := ⟨by repeat (first | (with_reducible first | exact HB.out | apply below_alloc | apply pw_below_drewN | apply below_drew1 | refine below_set ?_ (IsS50.ge HI184.out) | refine below_set ?_ GE180.out | refine below_set ?_ GE191.out) | exact HB.out)⟩
  (try clear HO188)
  (try clear BK180)
  (try clear BK191)
  (try clear HI184)
  (try clear HB)
  generalize ((w8.setCell ⟨gb191, 0, none⟩ (.int .i64 t185)).setCell ⟨gb191, 1, none⟩ (.slice Ao12 t186.length co12)) = w13 at n0_ n1_ n2_ n3_ n4_ ⊢
  have HO188 := n0_
  have BK180 := n1_
  have BK191 := n2_
  have HI184 := n3_
  have HB := n4_
  clear n0_ n1_ n2_ n3_ n4_
  replace HO188 := Aside0.mk (Kd.S_drew HO188.out)
  replace BK180 := Aside0.mk (blk_drew BK180.out)
  replace BK191 := Aside0.mk (blk_drew BK191.out)
  replace HI184 := Aside0.mk (IsS50.drew HI184.out)
  replace HB := Aside0.mk (below_drew1 HB.out)
  refine start_ (n := 6) (S := fun w' => w'.cell? ⟨gb191, 0, none⟩ = some (.int .i64 t185) ∧ w'.cell? ⟨gb191, 1, none⟩ = some (.slice Ao12 t186.length co12)) (ds := []) #[false, false, false, false, false, false] (by kernel_rfl) rfl rfl ⟨(blk_cell BK191.out 0).trans rfl, (blk_cell BK191.out 1).trans rfl⟩ (fun hHeld => ?_)
  generalize w13.drew = w14 at HO188 BK180 BK191 HI184 HB hHeld ⊢
  refine PU 1 11 ?_
  refine TK 0 10 hHeld ?_
  refine TK 2 12 hHeld ?_
  refine ON 3 13 (fun K hK => ?_)
  refine GO Try.func22 #[.pointer (some ⟨g184, 0, none⟩), .agg #[.int .i64 t185, .slice Ao12 t186.length co12]] ?_
  with_reducible refine (spec_l20DrawValues.calls k g184 t181 t189 t190 t185 _ _ t186 t192 t195 t196 w _ ?side1 ?side2 ?side3 ?side4 A4.out).mono ?_
  (case side1 => repeat (first | (with_reducible first | exact HI184.out | apply IsS50.alloc | apply IsS50.drewN | apply IsS50.drew | apply IsS50.set_1 | apply IsS50.set_2 | refine IsS50.far ?_ NB184_180.out _ | refine IsS50.far ?_ NB184_191.out _) | exact HI184.out))
  (case side2 => repeat (first | (with_reducible first | exact HB.out | apply below_alloc | apply pw_below_drewN | apply below_drew1 | refine below_set ?_ (IsS50.ge HI184.out) | refine below_set ?_ GE180.out | refine below_set ?_ GE191.out) | exact HB.out))
  (case side3 => exact Kd.C_foot_own ((Kd.S_R (IsS50.apartS (show IsS50 w _ g184 t181 t189 t190 from by repeat (first | (with_reducible first | exact HI184.out | apply IsS50.alloc | apply IsS50.drewN | apply IsS50.drew | apply IsS50.set_1 | apply IsS50.set_2 | refine IsS50.far ?_ NB184_180.out _ | refine IsS50.far ?_ NB184_191.out _) | exact HI184.out)) (S1 HO188) (by decide)))) (fun _ h_ => h_.2))
  (case side4 => exact (Kd.S_reads' HO188.out).2.1)
  rintro e w15 ⟨v193, rfl, ho0, hi, hb, hk⟩
  refine ⟨_, rfl, ?_⟩
  replace BK180 := Aside0.mk (KeepBut.blk hk (g' := gb180) (o := .cells #[.int .i64 0, .slice none 0 0] 26 (0, 0)) (B1 BK180) NB180_184.out (by simp))
  replace HO188 := Aside0.mk (Kd.S_mono (Kd.S_told (Kd.S_oldK (IsS50.apartS (show IsS50 w _ g184 t181 t189 t190 from by repeat (first | (with_reducible first | exact HI184.out | apply IsS50.alloc | apply IsS50.drewN | apply IsS50.drew | apply IsS50.set_1 | apply IsS50.set_2 | refine IsS50.far ?_ NB184_180.out _ | refine IsS50.far ?_ NB184_191.out _) | exact HI184.out)) (S1 HO188) (by decide)) hk) (Kd.R_base ho0)) (fun _ h_ => h_.1))
  replace BK191 := Aside0.mk (KeepBut.blk hk (g' := gb191) (o := .cells #[.int .i64 t185, .slice Ao12 t186.length co12] 26 (0, 0)) (B1 BK191) NB191_184.out (by simp))
  have HO194 := Aside0.mk (Kd.R_lower ho0 (below_size (by repeat (first | (with_reducible first | exact HB.out | apply below_alloc | apply pw_below_drewN | apply below_drew1 | refine below_set ?_ (IsS50.ge HI184.out) | refine below_set ?_ GE180.out | refine below_set ?_ GE191.out) | exact HB.out))))
  replace HB := Aside0.mk (hb)
  replace HI184 := Aside0.mk (hi)
  (try clear hb)
  (try clear hb2)
  (try clear hk)
  (try clear hi)
  (try clear ho0)
  refine hK.out _ _ ⟨(blk_cell BK191.out 0).trans rfl, (blk_cell BK191.out 1).trans rfl⟩ (fun hHeld => ?_)
  clear hK K
  refine NM 13 ?_
  refine one_ (i := 4) (N := none) #[true, true, true, true, true, false] rfl rfl (by kernel_rfl) (by decide) (fun K hK => ?_)
  have hs16 : w15.cell? ⟨gb180, 0, none⟩ = some (.int .i64 0) := (blk_cell BK180.out 0).trans rfl
  have hfs16 := blk_frozen BK180.out 0
  have hns16_1 := NB191_180.out
  have hms16_1 := NB180_191.out
  have hs17 : w15.cell? ⟨gb180, 1, none⟩ = some (.slice none 0 0) := (blk_cell BK180.out 1).trans rfl
  have hfs17 := blk_frozen BK180.out 1
  have hns17_1 := NB191_180.out
  have hms17_1 := NB180_191.out
  refine skip_ (w1 := ?_) (by rfl) rfl ?_ ?_
  rotate_left
  · go_simp
    rfl
  refine hK.out _ _ ⟨((cell_far (p := ⟨gb180, _, none⟩) NB191_180.out _).trans (((cell_far (p := ⟨gb180, _, none⟩) NB191_180.out _).trans (hHeld.1)))), ((cell_far (p := ⟨gb180, _, none⟩) NB191_180.out _).trans (((cell_far (p := ⟨gb180, _, none⟩) NB191_180.out _).trans (hHeld.2))))⟩ (fun hHeld => ?_)
  clear hK K
  refine PU 5 3 ?_
  refine done_ (by kernel_rfl) ?_
  try go_wp2
  refine bodyPost_ret (results_ct rfl _ _ gb180 26 #[.int .i64 t185, .slice Ao12 t186.length co12] (0, 0) _ rfl (by (with_reducible repeat (first | refine blk_drewN ?_ _ | refine blk_drew ?_ | refine blk_alloc ?_ _)); refine blk_put (cs := #[.int .i64 t185, .slice none 0 0]) ?_ 1 _ rfl; (with_reducible repeat (first | refine blk_drewN ?_ _ | refine blk_drew ?_ | refine blk_alloc ?_ _)); refine blk_put (cs := #[.int .i64 0, .slice none 0 0]) ?_ 0 _ rfl; (with_reducible repeat (first | refine blk_drewN ?_ _ | refine blk_drew ?_ | refine blk_alloc ?_ _)); exact BK180.out) Try.underlying26 rfl (by kernel_rfl)) rfl ?_
  exact ⟨_, _, Fin, by (with_reducible repeat (first | apply Kd.S_alloc | apply Kd.S_drewN | apply Kd.S_drew)); exact Kd.S_mono (Kd.S_far (p := ⟨gb180, 1, none⟩) (Kd.S_far (p := ⟨gb180, 0, none⟩) (Kd.S_types HO188.out BK180.out (by decide)) (fun _ hk => hk.2) (.int .i64 t185)) (fun _ hk => hk.2) (.slice Ao12 t186.length co12)) (fun _ hk => hk.1.2), by (with_reducible repeat (first | apply Kd.R_alloc | apply Kd.R_drewN | apply Kd.R_drew)); exact Kd.R_mono (Kd.R_far (p := ⟨gb180, 1, none⟩) (Kd.R_far (p := ⟨gb180, 0, none⟩) (Kd.R_types HO194.out BK180.out (by decide)) (fun _ hk => hk.2) (.int .i64 t185)) (fun _ hk => hk.2) (.slice Ao12 t186.length co12)) (fun _ hk => trivial), by repeat (first | (with_reducible first | exact HB.out | apply below_alloc | apply pw_below_drewN | apply below_drew1 | refine below_set ?_ (IsS50.ge HI184.out) | refine below_set ?_ GE180.out | refine below_set ?_ GE191.out) | exact HB.out)⟩

/-! ### spec_DrawUnitLiterals: function 5 -/
def spec_DrawUnitLiterals.f (k : Nat) (l0 : List Int) : Option (Int × (List (List Int)) × List Int) := (spec_DrawSatisfies.f k l0).bind fun bt198 => (some (bt198.1, bt198.2.1, bt198.2.2))
theorem spec_DrawUnitLiterals.mono : ∀ a0 k, LeO (spec_DrawUnitLiterals.f k a0) (spec_DrawUnitLiterals.f (k + 1) a0) := by
  intro a0 k
  unfold spec_DrawUnitLiterals.f
  repeat' first
      | (with_reducible exact spec_DrawSatisfies.mono _ _)
      | (with_reducible exact LeO.refl _)
      | (with_reducible exact LeO.none _)
      | (with_reducible refine LeO.ite ?_ ?_)
      | (with_reducible refine LeO.bind ?_ (fun _ => ?_))
      | exact spec_DrawSatisfies.mono _ _
      | exact LeO.none _
      | refine LeO.ite ?_ ?_
      | refine LeO.bind ?_ (fun _ => ?_)
set_option maxHeartbeats 8000000 in
set_option maxRecDepth 100000 in
theorem spec_DrawUnitLiterals.calls (k : Nat) (A0 : Option Addr) (c0 : Nat) (l0 : List Int) (r1 : Int) (r2 : List (List Int)) (r3 : List Int) (w : World) (hr0 : Kd.C (Kd.int .u8) w A0 l0.length l0) (hc0 : l0.length ≤ c0) (h : spec_DrawUnitLiterals.f k l0 = some (r1, r2, r3)) :
    Calls Try.prog 5 #[.slice A0 l0.length c0] w fun e w' => ∃ v1_ v2_ : Value, e = .returned (.tuple #[.agg #[.int .i64 r1, v1_], v2_]) ∧ Kd.S (Kd.slice 2 (Kd.int .i64)) 27 w' w.heap.size (fun k_ => some k_ ≠ (v2_ : Value).ownBlock) v1_ r2 ∧ Kd.R (Kd.int .i64) 2 w' w.heap.size (fun _ => True) v2_ r3 ∧ Below w.heap.size w w' := by
  have hu26 := Try.underlying26
  have HR0 := Aside0.mk hr0
  have HC0 := Aside0.mk hc0
  clear hr0 hc0
  have HB := Aside0.mk (Below.refl w.heap.size w)
  have H : ((spec_DrawSatisfies.f k l0).bind fun bt198 => (some (bt198.1, bt198.2.1, bt198.2.2))) = some (r1, r2, r3) := h
  clear h
  obtain ⟨⟨t198, t199, t202⟩, A20, H⟩ := Option.bind_eq_some_iff.mp H
  dsimp only at H
  have A2 := Aside0.mk A20
  clear A20
  simp only [Option.some.injEq, Prod.mk.injEq] at H
  obtain ⟨rfl, rfl, rfl⟩ := H
  go_enter Try.func5, Try.ntmps5
  go_wp2_with (first | ((with_reducible refine gD 2 ?_); refine BX #[.int .i64 0, .slice none 0 0] 26 ?_; intro gb197 hg w3 hbox hb; have BK197 := Aside0.mk (hbox); have GW197 := Aside0.mk ((Gle hg Hb : w.heap.size ≤ gb197)); have GE197 := Aside0.mk ((Gle hg Hb : w.heap.size ≤ gb197)); replace HB := Aside0.mk (below_step Hb hb); clear hb hbox hg) | ((with_reducible refine gC 15 ?_); refine GL (some 5) Try.func15 #[.slice A0 l0.length c0] ?_; (with_reducible refine (spec_DrawSatisfies.calls k _ _ l0 t198 t199 t202 _ ?side1 ?side2 A2.out).mono ?_); (case side1 => exact Kd.C_below HR0.out Hb); (case side2 => exact HC0.out); rintro e w4 ⟨v200, v203, rfl, ho0, ho1, hb⟩; refine ⟨_, rfl, ?_⟩; have HO201 := Aside0.mk (Kd.S_lower ho0 (below_size Hb)); have HO204 := Aside0.mk (Kd.R_lower ho1 (below_size Hb)); replace BK197 := Aside0.mk (blk_below (B1 BK197) hb); replace HB := Aside0.mk (below_step Hb hb); (try clear hb); (try clear hb2); (try clear hk); (try clear hi); (try clear ho0); (try clear ho1); have hcz5_0 : w4.cell? ⟨gb197, 0, none⟩ = some (.int .i64 0) := bc BK197; have hcz5_1 : w4.cell? ⟨gb197, 1, none⟩ = some (.slice none 0 0) := bc BK197; have hfz5_0 := blk_frozen BK197.out 0; have hfz5_1 := blk_frozen BK197.out 1; obtain ⟨Ao6, co6, eo6⟩ := Kd.S_slice HO201.out; subst eo6))
  refine bodyPost_ret (results_ct rfl _ _ gb197 26 #[.int .i64 t198, .slice Ao6 t199.length co6] (0, 0) _ rfl (by (with_reducible repeat (first | refine blk_drewN ?_ _ | refine blk_drew ?_ | refine blk_alloc ?_ _)); refine blk_put (cs := #[.int .i64 t198, .slice none 0 0]) ?_ 1 _ rfl; (with_reducible repeat (first | refine blk_drewN ?_ _ | refine blk_drew ?_ | refine blk_alloc ?_ _)); refine blk_put (cs := #[.int .i64 0, .slice none 0 0]) ?_ 0 _ rfl; (with_reducible repeat (first | refine blk_drewN ?_ _ | refine blk_drew ?_ | refine blk_alloc ?_ _)); exact BK197.out) Try.underlying26 rfl (by kernel_rfl)) rfl ?_
  exact ⟨_, _, Fin, by (with_reducible repeat (first | apply Kd.S_alloc | apply Kd.S_drewN | apply Kd.S_drew)); exact Kd.S_mono (Kd.S_far (p := ⟨gb197, 1, none⟩) (Kd.S_far (p := ⟨gb197, 0, none⟩) (Kd.S_types HO201.out BK197.out (by decide)) (fun _ hk => hk.2) (.int .i64 t198)) (fun _ hk => hk.2) (.slice Ao6 t199.length co6)) (fun _ hk => hk.1), by (with_reducible repeat (first | apply Kd.R_alloc | apply Kd.R_drewN | apply Kd.R_drew)); exact Kd.R_mono (Kd.R_far (p := ⟨gb197, 1, none⟩) (Kd.R_far (p := ⟨gb197, 0, none⟩) (Kd.R_types HO204.out BK197.out (by decide)) (fun _ hk => hk.2) (.int .i64 t198)) (fun _ hk => hk.2) (.slice Ao6 t199.length co6)) (fun _ hk => trivial), Hb⟩

/-! ### impl_within: function 32 -/
def impl_within.f (a0 : Int) (a1 : Int) (a2 : Int) : Option (Bool) := if a0 ≥ a1 then (some (decide (a0 ≤ a2))) else (some false)
set_option maxHeartbeats 8000000 in
set_option maxRecDepth 100000 in
theorem impl_within.calls (a0 : Int) (a1 : Int) (a2 : Int) (r : Bool) (w : World) (h : impl_within.f a0 a1 a2 = some r) :
    Calls Try.prog 32 #[.int .i64 a0, .int .i64 a1, .int .i64 a2] w fun e w' => e = .returned (.bool r) ∧ Drawn0 w w' := by
  have H : (if a0 ≥ a1 then (some (decide (a0 ≤ a2))) else (some false)) = some r := h
  clear h
  by_cases c4 : a0 ≥ a1
  · rw [if_pos c4] at H
    have c4b0 : decide (a1 ≤ a0) = true := decide_eq_true c4
    clear c4
    obtain rfl := Option.some.inj H
    go_enter Try.func32, Try.ntmps32
    go_wp2
    go_ret
    exact ⟨Fs, by repeat (first | exact Drawn0.refl _ | apply Drawn0.step)⟩
  · rw [if_neg c4] at H
    have c4b0 : decide (a1 ≤ a0) = false := decide_eq_false c4
    clear c4
    obtain rfl := Option.some.inj H
    go_enter Try.func32, Try.ntmps32
    go_wp2
    go_ret
    exact ⟨Fs, by repeat (first | exact Drawn0.refl _ | apply Drawn0.step)⟩

/-! ### slices_IndexFunc_int64_int64_40: function 40 (a contract of ours) -/
theorem idxf_I.calls (g : Nat) (lb : Array Value) (eg : ∀ args w, (callFunc g args).run Try.prog w = .ok (.enter g args) w) (p : Int → Option Bool) (A0 : Option Addr) (c0 : Nat) (l0 : List Int) (v : Int) (w : World)
    (hr : Kd.C (Kd.int .i64) w A0 l0.length l0) (hc : l0.length ≤ c0)
    (hp : ∀ (W : World) (x : Int) (b : Bool), Below w.heap.size w W → p x = some b → Calls Try.prog g (#[.int .i64 x] ++ lb) W fun e w' => e = .returned (.bool b) ∧ Below w.heap.size w w')
    (h : U.idxM p l0 0 = some v) :
    Calls Try.prog 40 #[.slice A0 l0.length c0, .func (.func g) #[] lb] w fun e w' => e = .returned (.int .i64 v) ∧ Below w.heap.size w w' := by
  have hn := hr.2.1
  have HR := Aside0.mk hr
  have HP := Aside0.mk hp
  have H := Aside0.mk h
  clear hr hp h
  go_enter Try.func40, Try.ntmps40
  go_wp2
  go_loopg [5, 8] l0.length (fun gg _ s8 wr => ∃ i : Nat, s8 = .int .i64 i ∧ Aside0 (i ≤ l0.length) ∧ Aside0 (l0.length - i ≤ gg) ∧ Aside0 (U.idxM p (l0.drop i) i = some v) ∧ Aside0 (Below w.heap.size w wr))
  case atStart => exact ⟨0, rfl, ⟨Nat.zero_le _⟩, ⟨by omega⟩, H, ⟨Below.refl _ _⟩⟩
  case round =>
    obtain ⟨i, rfl, HI, HG, HA, HB⟩ := hrel
    clear H
    by_cases hlt : i < l0.length
    · have c1 : decide ((i : Int) < (l0.length : Int)) = true := decide_eq_true (by omega)
      obtain ⟨ad, e1, hx⟩ := Kd.at_int (Kd.C_below HR.out HB.out) (i : Int) (by omega) (by omega)
      cases e1
      simp only [rd, Int.toNat_natCast] at hx
      obtain ⟨b, hb, ht, hf⟩ := U.idxM_step hlt HA.out (0 : Int)
      generalize l0.getD i (0 : Int) = y at hx hb
      have hcall := HP.out wr _ b HB.out hb
      clear hb HA HR HP
      cases b with
      | true =>
        have hv := ht rfl
        subst hv
        clear ht hf
        go_wp2_with (go_at_fn g; refine hcall.mono ?_; rintro e w' ⟨rfl, hb'⟩)
        go_ret
        exact ⟨rfl, hb'⟩
      | false =>
        have HA := Aside0.mk (hf rfl)
        clear ht hf
        go_wp2_with (go_at_fn g; refine hcall.mono ?_; rintro e w' ⟨rfl, hb'⟩)
        go_roundg (l0.length - (i + 1))
        case measure => have := HG.out; omega
        case rel => exact ⟨i + 1, by go_num, ⟨by omega⟩, ⟨by omega⟩, HA, ⟨hb'⟩⟩
    · have c1 : decide ((i : Int) < (l0.length : Int)) = false := decide_eq_false (by omega)
      have hv := U.idxM_end (by omega) HA.out
      subst hv
      go_wp2
      go_ret
      exact ⟨rfl, HB.out⟩

/-! ### slices_ContainsFunc_int64_int64_30: function 30 (a contract of ours) -/
theorem anyf_I.calls (g : Nat) (lb : Array Value) (eg : ∀ args w, (callFunc g args).run Try.prog w = .ok (.enter g args) w) (p : Int → Option Bool) (A0 : Option Addr) (c0 : Nat) (l0 : List Int) (r : Bool) (w : World)
    (hr : Kd.C (Kd.int .i64) w A0 l0.length l0) (hc : l0.length ≤ c0)
    (hp : ∀ (W : World) (x : Int) (b : Bool), Below w.heap.size w W → p x = some b → Calls Try.prog g (#[.int .i64 x] ++ lb) W fun e w' => e = .returned (.bool b) ∧ Below w.heap.size w w')
    (h : U.anyM p l0 = some r) :
    Calls Try.prog 30 #[.slice A0 l0.length c0, .func (.func g) #[] lb] w fun e w' => e = .returned (.bool r) ∧ Below w.heap.size w w' := by
  obtain ⟨v, hv, hd⟩ := U.idxM_of_anyM p l0 0 r (Int.le_refl 0) h
  have HC := Aside0.mk (idxf_I.calls g lb eg p A0 c0 l0 v w hr hc hp hv)
  subst hd
  clear hr hp h hv
  go_enter Try.func30, Try.ntmps30
  go_wp2_with (go_at_call 40; refine HC.out.mono ?_; rintro e w' ⟨rfl, hb'⟩)
  go_ret
  exact ⟨rfl, hb'⟩

/-! ### impl_isAssignment: function 23 (a contract of ours) -/
def impl_isAssignment_1.f (x : Int) : Option Bool := (impl_within.f x (-1) 1).bind fun b => some (!b)
def impl_isAssignment.f (l : List Int) (n : Int) : Option Bool := if (l.length : Int) = n then (U.anyM impl_isAssignment_1.f l).bind fun b => some (!b) else some false
theorem impl_isAssignment_1.calls (x : Int) (r : Bool) (w : World) (h : impl_isAssignment_1.f x = some r) : Calls Try.prog 31 #[.int .i64 x] w fun e w' => e = .returned (.bool r) ∧ Drawn0 w w' := by
  obtain ⟨b, hb, h⟩ := Option.bind_eq_some_iff.mp h
  obtain rfl := Option.some.inj h
  have HB := Aside0.mk hb
  clear h hb
  go_enter Try.func31, Try.ntmps31
  go_wp2_with (go_at_call 32; (with_reducible refine (impl_within.calls x (-1) 1 b _ HB.out).mono ?_); rintro e w' ⟨rfl, ⟨nd, rfl⟩⟩)
  go_ret
  exact ⟨by first | rfl | simp [*], ⟨⟨_, rfl⟩⟩⟩
theorem impl_isAssignment.calls (A0 : Option Addr) (c0 : Nat) (l0 : List Int) (a1 : Int) (r : Bool) (w : World) (hr0 : Kd.C (Kd.int .i64) w A0 l0.length l0) (hc0 : l0.length ≤ c0) (h : impl_isAssignment.f l0 a1 = some r) :
    Calls Try.prog 23 #[.slice A0 l0.length c0, .int .i64 a1] w fun e w' => e = .returned (.bool r) ∧ Below w.heap.size w w' := by
  have HR := Aside0.mk hr0
  clear hr0
  unfold impl_isAssignment.f at h
  by_cases c : (l0.length : Int) = a1
  · rw [if_pos c] at h
    obtain ⟨b, hb, h⟩ := Option.bind_eq_some_iff.mp h
    obtain rfl := Option.some.inj h
    have cb : ((l0.length : Int) == a1) = true := beq_iff_eq.mpr c
    have HT := Aside0.mk hb
    clear c h hb
    go_enter Try.func23, Try.ntmps23
    go_wp2_with (go_at_call 30; refine (anyf_I.calls 31 _ (enters_of Try.func31 (by kernel_rfl) rfl) impl_isAssignment_1.f _ _ l0 b _ ?c1 hc0 ?c2 HT.out).mono ?_; (case c1 => repeat (first | exact HR.out | (with_reducible refine Kd.C_alloc ?_ _) | (with_reducible refine Kd.C_drewN ?_ _) | (with_reducible refine Kd.C_drew ?_))); (case c2 => exact fun W x b hW hpx => (impl_isAssignment_1.calls x b W hpx).mono fun e w' hq => ⟨hq.1, below_then hW hW.size hq.2.below⟩); rintro e w' ⟨rfl, hb'⟩)
    go_ret
    exact ⟨by first | rfl | simp [*], below_step (by repeat (first | exact Below.refl _ _ | apply below_alloc | apply pw_below_drewN | apply below_drew)) hb'⟩
  · rw [if_neg c] at h
    obtain rfl := Option.some.inj h
    have cb : ((l0.length : Int) == a1) = false := beq_eq_false_iff_ne.mpr c
    clear c h
    go_enter Try.func23, Try.ntmps23
    go_wp2
    go_ret
    exact ⟨by first | rfl | simp [*], Below.refl _ _⟩

/-! ### impl_variableOf: function 37 -/
def impl_variableOf.f (a0 : Int) : Option (Int) := some (mx a0 (wrap64 (-a0)))
set_option maxHeartbeats 8000000 in
set_option maxRecDepth 100000 in
theorem impl_variableOf.calls (a0 : Int) (r : Int) (w : World) (h : impl_variableOf.f a0 = some r) :
    Calls Try.prog 37 #[.int .i64 a0] w fun e w' => e = .returned (.int .i64 r) ∧ Below w.heap.size w w' := by
  have HB := Aside0.mk (Below.refl w.heap.size w)
  have H : (some (mx a0 (wrap64 (-a0)))) = some r := h
  clear h
  obtain ⟨ji2, hji2⟩ : ∃ j_ : Int, (mx a0 (wrap64 (-a0))) = j_ := ⟨_, rfl⟩
  replace H : (some ji2) = some r := by first | (rw [hji2] at H; exact H) | (simp only [hji2] at H ⊢; exact H)
  have hji2_ : (if a0 < (wrap64 (-a0)) then (wrap64 (-a0)) else a0) = ji2 := hji2
  obtain rfl := Option.some.inj H
  go_enter Try.func37, Try.ntmps37
  go_wp2
  go_ret
  exact ⟨by first | rfl | (simp [errW_none, errW_some] <;> rfl) | (simp only [← hji2]; first | rfl | (simp [errW_none, errW_some] <;> rfl)) | (simp [*, errW_none, errW_some] <;> rfl), Hb⟩

end Go.Proofs.Ytcolaakpjdhinaa.XFnUnits
