-- Written by ext.py (wip/) over the kit's print: not trusted, Lean checks it.
import Derived.Test.YtcbpbdhglblagaaDoorXFnExactReadCoverx0
import Derived.Test.YtcbpbdhglblagaaDoorXFnExactReadCoverx1
import Derived.Test.YtcbpbdhglblagaaDoorXFnExactReadCoverx2
namespace Go.Proofs.YtcbpbdhglblagaaDoor.XFnExactReadCover
open Go.RowKit Go.Proofs.YtcbpbdhglblagaaDoorW.PrintWords Go.Proofs.YtcbpbdhglblagaaDoorW.PrintLast Go.Proofs.YtcbpbdhglblagaaDoorW.PrintMore
attribute [local go_sem] max2_int min2_int max_two min_two max_three min_three max_four min_four   -- for this text's walks alone
set_option linter.unusedVariables false
set_option linter.unusedSimpArgs false

/-! ### spec_ReadCover: function 4 -/
mutual
def spec_ReadCover.j0 : Nat → List ByteArray → List Int → Bool → Option (Int × Int × (List (List Int)) × Bool)
  | 0, _, _, _ => none
  | k + 1, x4, x5, x28 => if x28 = true then (some (0, 0, ([] : List (List Int)), false)) else (spec_ReadCover.l0 k x4 x5 (([] : List (List Int))) 1)
def spec_ReadCover.l0 : Nat → List ByteArray → List Int → List (List Int) → Int → Option (Int × Int × (List (List Int)) × Bool)
  | 0, _, _, _, _ => none
  | k + 1, x4, x5, x7, x8 => if x8 < (x4.length : Int) then (if 0 ≤ x8 then ((spec_l01Split.f k (rdOf ByteArray.empty x4 x8) 44).bind fun t157 => ((spec_l13Numbers.f k t157).bind fun bt160 => (if bt160.2 = true then (if x7.length < 5864062014805 then (spec_ReadCover.l0 k x4 x5 (x7 ++ [bt160.1]) (wrap64 (x8 + 1))) else (none)) else (some (0, 0, ([] : List (List Int)), false))))) else (none)) else (if 0 < (x5.length : Int) then (if 1 < (x5.length : Int) then ((spec_IsCover.f k (rd x5 0) (rd x5 1) x7).bind fun t155 => (if t155 = true then (some (rd x5 0, rd x5 1, x7, true)) else (some (0, 0, ([] : List (List Int)), false)))) else (none)) else (none))
end
def spec_ReadCover.f (k : Nat) (a0 : ByteArray) : Option (Int × Int × (List (List Int)) × Bool) := (spec_l01Split.f k a0 59).bind fun t138 => (if 0 < (t138.length : Int) then ((spec_l01Split.f k (rdOf ByteArray.empty t138 0) 47).bind fun t142 => ((spec_l13Numbers.f k t142).bind fun bt145 => (if bt145.2 = true then (spec_ReadCover.j0 k t138 bt145.1 ((bt145.1.length : Int) != 2)) else (spec_ReadCover.j0 k t138 bt145.1 true)))) else (none))
theorem spec_ReadCover.mono_l : ∀ k, (∀ y0 y1 y2, LeO (spec_ReadCover.j0 k y0 y1 y2) (spec_ReadCover.j0 (k + 1) y0 y1 y2)) ∧ (∀ y0 y1 y2 y3, LeO (spec_ReadCover.l0 k y0 y1 y2 y3) (spec_ReadCover.l0 (k + 1) y0 y1 y2 y3))
  | 0 => ⟨fun _ _ _ r h => by simp [spec_ReadCover.j0] at h, fun _ _ _ _ r h => by simp [spec_ReadCover.l0] at h⟩
  | k + 1 => by
    obtain ⟨ih0, ih1⟩ := spec_ReadCover.mono_l k
    refine ⟨?_, ?_⟩
    · intro y0 y1 y2
      unfold spec_ReadCover.j0
      repeat' first
      | (with_reducible exact ih0 _ _ _)
      | (with_reducible exact ih1 _ _ _ _)
      | (with_reducible exact spec_IsCover.mono _ _ _ _)
      | (with_reducible exact spec_l01Split.mono _ _ _)
      | (with_reducible exact spec_l13Numbers.mono _ _)
      | (with_reducible exact LeO.refl _)
      | (with_reducible exact LeO.none _)
      | (with_reducible refine LeO.ite ?_ ?_)
      | (with_reducible refine LeO.bind ?_ (fun _ => ?_))
      | exact ih0 _ _ _
      | exact ih1 _ _ _ _
      | exact spec_IsCover.mono _ _ _ _
      | exact spec_l01Split.mono _ _ _
      | exact spec_l13Numbers.mono _ _
      | exact LeO.none _
      | refine LeO.ite ?_ ?_
      | refine LeO.bind ?_ (fun _ => ?_)
    · intro y0 y1 y2 y3
      unfold spec_ReadCover.l0
      repeat' first
      | (with_reducible exact ih0 _ _ _)
      | (with_reducible exact ih1 _ _ _ _)
      | (with_reducible exact spec_IsCover.mono _ _ _ _)
      | (with_reducible exact spec_l01Split.mono _ _ _)
      | (with_reducible exact spec_l13Numbers.mono _ _)
      | (with_reducible exact LeO.refl _)
      | (with_reducible exact LeO.none _)
      | (with_reducible refine LeO.ite ?_ ?_)
      | (with_reducible refine LeO.bind ?_ (fun _ => ?_))
      | exact ih0 _ _ _
      | exact ih1 _ _ _ _
      | exact spec_IsCover.mono _ _ _ _
      | exact spec_l01Split.mono _ _ _
      | exact spec_l13Numbers.mono _ _
      | exact LeO.none _
      | refine LeO.ite ?_ ?_
      | refine LeO.bind ?_ (fun _ => ?_)
theorem spec_ReadCover.mono : ∀ a0 k, LeO (spec_ReadCover.f k a0) (spec_ReadCover.f (k + 1) a0) := by
  intro a0 k
  obtain ⟨ih0, ih1⟩ := spec_ReadCover.mono_l k
  unfold spec_ReadCover.f
  repeat' first
      | (with_reducible exact ih0 _ _ _)
      | (with_reducible exact ih1 _ _ _ _)
      | (with_reducible exact spec_IsCover.mono _ _ _ _)
      | (with_reducible exact spec_l01Split.mono _ _ _)
      | (with_reducible exact spec_l13Numbers.mono _ _)
      | (with_reducible exact LeO.refl _)
      | (with_reducible exact LeO.none _)
      | (with_reducible refine LeO.ite ?_ ?_)
      | (with_reducible refine LeO.bind ?_ (fun _ => ?_))
      | exact ih0 _ _ _
      | exact ih1 _ _ _ _
      | exact spec_IsCover.mono _ _ _ _
      | exact spec_l01Split.mono _ _ _
      | exact spec_l13Numbers.mono _ _
      | exact LeO.none _
      | refine LeO.ite ?_ ?_
      | refine LeO.bind ?_ (fun _ => ?_)
def spec_ReadCover.T13 : Bool × List (List Nat × List Nat) := (true, [([], []), ([0], [0]), ([1], [1]), ([], []), ([3], [3]), ([4], [4]), ([], []), ([2, 5, 6], [2, 5, 6]), ([], []), ([8, 7, 0, 1, 2, 3, 4, 5, 6, 7, 8], [7, 8])])
def spec_ReadCover.B13 : List Nat := [0, 1, 3, 0, 8, 24, 0, 127, 0, 511]
theorem spec_ReadCover.tab13 : rtab .any (opsOf Tryd.f4 13) = spec_ReadCover.T13 := by kernel_rfl
theorem spec_ReadCover.bits13 : waitsOk spec_ReadCover.T13.2 spec_ReadCover.B13 = true := by kernel_rfl
set_option maxHeartbeats 8000000 in
set_option maxRecDepth 100000 in
theorem spec_ReadCover.calls (k : Nat) (a0 : ByteArray) (r1 : Int) (r2 : Int) (r3 : List (List Int)) (r4 : Bool) (w : World) (h : spec_ReadCover.f k a0 = some (r1, r2, r3, r4)) :
    Calls Tryd.prog 4 #[.string a0] w fun e w' => ∃ v2_ : Value, e = .returned (.tuple #[.agg #[.int .i64 r1, .int .i64 r2, v2_], .bool r4]) ∧ Kd.S (Kd.slice 2 (Kd.int .i64)) 32 w' w.heap.size (fun _ => True) v2_ r3 ∧ Below w.heap.size w w' := by
  have hu24 := Tryd.underlying24
  have HB := Aside0.mk (Below.refl w.heap.size w)
  have H : ((spec_l01Split.f k a0 59).bind fun t138 => (if 0 < (t138.length : Int) then ((spec_l01Split.f k (rdOf ByteArray.empty t138 0) 47).bind fun t142 => ((spec_l13Numbers.f k t142).bind fun bt145 => (if bt145.2 = true then (spec_ReadCover.j0 k t138 bt145.1 ((bt145.1.length : Int) != 2)) else (spec_ReadCover.j0 k t138 bt145.1 true)))) else (none))) = some (r1, r2, r3, r4) := h
  clear h
  obtain ⟨t138, A20, H⟩ := Option.bind_eq_some_iff.mp H
  have A2 := Aside0.mk A20
  clear A20
  by_cases c3 : 0 < (t138.length : Int)
  · rw [if_pos c3] at H
    have c3b0 : decide (0 < (t138.length : Int)) = true := decide_eq_true c3
    have c3b1 : decide (0 < t138.length) = true := decide_eq_true (by omega)
    clear c3
    obtain ⟨t142, A40, H⟩ := Option.bind_eq_some_iff.mp H
    have A4 := Aside0.mk A40
    clear A40
    obtain ⟨⟨t145, t146⟩, A50, H⟩ := Option.bind_eq_some_iff.mp H
    dsimp only at H
    have A5 := Aside0.mk A50
    clear A50
    have HC6 := Aside0.mk H
    clear H
    go_enter Tryd.func4, Tryd.ntmps4
    go_upto_region 3 with (first | ((with_reducible refine gD 2 ?_); (try (refine gate_guard (by rfl) ?_; dsimp only)); refine BX #[.int .i64 0, .int .i64 0, .slice none 0 0] 24 ?_; intro gb137 hg w7 hbox hb; have BK137 := Aside0.mk (hbox); have GW137 := Aside0.mk ((Gle hg Hb : w.heap.size ≤ gb137)); have GE137 := Aside0.mk ((Gle hg Hb : w.heap.size ≤ gb137)); replace HB := Aside0.mk (below_step Hb hb); clear hb hbox hg) | ((with_reducible refine gC 9 ?_); refine GL (some 13) Tryd.func9 #[.string a0, .int .u8 59] ?_; (with_reducible refine (spec_l01Split.calls k a0 59 t138 _ A2.out).mono ?_); rintro e w8 ⟨v139, rfl, ho0, hb⟩; refine ⟨_, rfl, ?_⟩; have HO140 := Aside0.mk (Kd.R_lower ho0 (below_size Hb)); replace BK137 := Aside0.mk (blk_below (B1 BK137) hb); replace HB := Aside0.mk (below_step Hb hb); (try clear hb); (try clear hb2); (try clear hk); (try clear hi); (try clear ho0); obtain ⟨Ao9, co9, eo9⟩ := Kd.R_slice HO140.out; subst eo9; have p141 : 0 ≤ (0 : Int) := (by omega); have q141 : 0 < (t138.length : Int) := oD; obtain ⟨ad141, e141, hx141_0⟩ := Kd.at_string (Kd.R_reads' HO140.out).2.2 0 p141 q141; cases e141; have qi141 : (0 < t138.length) = True := eq_true (by omega); (try rw [show ((0 : Int)).toNat = 0 from rfl] at hx141_0); (try rw [Addr.add_zero'] at hx141_0); replace p141 := eq_true p141; replace q141 := eq_true q141) | ((with_reducible refine gC 9 ?_); refine GL (some 18) Tryd.func9 #[.string (rdOf ByteArray.empty t138 0), .int .u8 47] ?_; (with_reducible refine (spec_l01Split.calls k (rdOf ByteArray.empty t138 0) 47 t142 _ A4.out).mono ?_); rintro e w10 ⟨v143, rfl, ho0, hb⟩; refine ⟨_, rfl, ?_⟩; have HO144 := Aside0.mk (Kd.R_lower (Kd.R_new' ho0 (Kd.R_lt (R1 HO140))) (below_size Hb)); replace HO140 := Aside0.mk (Kd.R_elder' (R1 HO140) (Kd.R_base ho0) hb); replace BK137 := Aside0.mk (blk_below (B1 BK137) hb); replace HB := Aside0.mk (below_step Hb hb); (try clear hb); (try clear hb2); (try clear hk); (try clear hi); (try clear ho0); obtain ⟨Ao11, co11, eo11⟩ := Kd.R_slice HO144.out; subst eo11) | ((with_reducible refine gC 10 ?_); refine GL (some 19) Tryd.func10 #[.slice Ao11 t142.length co11] ?_; (with_reducible refine (spec_l13Numbers.calls k _ _ t142 t145 t146 _ ?side1 ?side2 A5.out).mono ?_); (case side1 => exact Ck (Kd.R_reads' HO144.out).2.2); (case side2 => exact (Kd.R_reads' HO144.out).2.1); rintro e w12 ⟨v147, rfl, ho0, hb⟩; refine ⟨_, rfl, ?_⟩; replace HO140 := Aside0.mk (Kd.R_below (R1 HO140) hb); replace HO144 := Aside0.mk (Kd.R_below (R1 HO144) hb); have HO148 := Aside0.mk (Kd.R_lower ho0 (below_size Hb)); replace BK137 := Aside0.mk (blk_below (B1 BK137) hb); replace HB := Aside0.mk (below_step Hb hb); (try clear hb); (try clear hb2); (try clear hk); (try clear hi); (try clear ho0)))
    (try simp only [Act.put, List.setIfInBounds_toArray, List.set_cons_zero, List.set_cons_succ])
    go_cut [28] (fun v28 wc => ∃ (kq : Nat) (x28_5 : Bool), v28 = .bool x28_5 ∧ Aside0 (spec_ReadCover.j0 kq t138 t145 x28_5 = some (r1, r2, r3, r4)) ∧ Aside0 (kq ≤ k) ∧ Aside0 (Kd.R Kd.string 9 wc w.heap.size (fun _ => True) (.slice (some ad141) t138.length co9) t138) ∧ Aside0 (Kd.R (Kd.int .i64) 2 wc w.heap.size (fun _ => True) v147 t145) ∧ Aside0 (wc.heap[gb137]? = some (.cells #[.int .i64 0, .int .i64 0, (.slice none 0 0)] 24 (0, 0))) ∧ Aside0 (Below w.heap.size w wc))
    case first =>
      have H := HC6.out
      clear HC6
      by_cases c13 : t146 = true
      · subst c13
        rw [if_pos rfl] at H
        have H' := Aside0.mk H
        clear H
        obtain ⟨Ao14, co14, eo14⟩ := Kd.R_slice HO148.out
        subst eo14
        go_wp2
        go_meet
        case rel => exact ⟨_, (((t145.length : Int) != 2)), Fs, H', ⟨by first | omega | exact Nat.le_refl _⟩, ⟨by (with_reducible repeat (first | apply Kd.R_alloc | apply Kd.R_drewN | apply Kd.R_drew)); exact Kd.R_mono HO140.out (fun _ hk => trivial)⟩, ⟨R1 HO148⟩, ⟨B1 BK137⟩, ⟨Hb⟩⟩
      · replace c13 := Bool.eq_false_iff.mpr c13
        subst c13
        rw [if_neg (show ¬ (false = true) by decide)] at H
        have H' := Aside0.mk H
        clear H
        go_wp2
        go_meet
        case rel => exact ⟨_, (true), Fs, H', ⟨by first | omega | exact Nat.le_refl _⟩, ⟨by (with_reducible repeat (first | apply Kd.R_alloc | apply Kd.R_drewN | apply Kd.R_drew)); exact Kd.R_mono HO140.out (fun _ hk => trivial)⟩, ⟨R1 HO148⟩, ⟨B1 BK137⟩, ⟨Hb⟩⟩
    case rest =>
      clear HC6
      try clear c1
      try clear p1
      try clear q1
      try clear hx1
      try clear qi1
      try clear p2
      try clear c3
      try clear c3b0
      try clear c3b1
      try clear c4
      try clear c9
      try clear c10
      try clear c13
      try clear p14
      try clear q14
      try clear hx14
      try clear qi14
      try clear hx141_0
      try clear p141
      try clear q141
      obtain ⟨kq, x28_5, rfl, HA, HJ5, HO_4, HO_5, BK137, HB⟩ := hcut
      cases kq with
      | zero => exact absurd HA.out (by simp [spec_ReadCover.j0])
      | succ kj5 =>
        have H := HA.out
        clear HA
        simp only [spec_ReadCover.j0] at H
        by_cases c15 : x28_5 = true
        · subst c15
          rw [if_pos rfl] at H
          simp only [Option.some.injEq, Prod.mk.injEq] at H
          obtain ⟨rfl, rfl, rfl, rfl⟩ := H
          have hcz16_0 : wc.cell? ⟨gb137, 0, none⟩ = some (.int .i64 0) := bc BK137
          have hcz16_1 : wc.cell? ⟨gb137, 1, none⟩ = some (.int .i64 0) := bc BK137
          have hcz16_2 : wc.cell? ⟨gb137, 2, none⟩ = some (.slice none 0 0) := bc BK137
          have hfz16_0 := blk_frozen BK137.out 0
          have hfz16_1 := blk_frozen BK137.out 1
          have hfz16_2 := blk_frozen BK137.out 2
          go_wp2
          refine bodyPost_ret (results_ct rfl _ _ gb137 24 #[.int .i64 0, .int .i64 0, .slice none 0 0] (0, 0) _ rfl (by (with_reducible repeat (first | refine blk_drewN ?_ _ | refine blk_drew ?_ | refine blk_alloc ?_ _)); refine blk_put (cs := #[.int .i64 0, .int .i64 0, .slice none 0 0]) ?_ 2 _ rfl; (with_reducible repeat (first | refine blk_drewN ?_ _ | refine blk_drew ?_ | refine blk_alloc ?_ _)); refine blk_put (cs := #[.int .i64 0, .int .i64 0, .slice none 0 0]) ?_ 1 _ rfl; (with_reducible repeat (first | refine blk_drewN ?_ _ | refine blk_drew ?_ | refine blk_alloc ?_ _)); refine blk_put (cs := #[.int .i64 0, .int .i64 0, .slice none 0 0]) ?_ 0 _ rfl; (with_reducible repeat (first | refine blk_drewN ?_ _ | refine blk_drew ?_ | refine blk_alloc ?_ _)); exact BK137.out) Tryd.underlying24 rfl (by kernel_rfl)) rfl ?_
          exact ⟨_, Fin, by first | exact Kd.S_nil _ _ _ _ _ | exact Kd.N_nil _ _ _ _ _ | exact Kd.V_nil _ _ _ _ _ | exact Kd.Q_nil _ _ _ _ _ | exact Kd.R_nil _ _ _ _ _, Hb⟩
        · replace c15 := Bool.eq_false_iff.mpr c15
          subst c15
          rw [if_neg (show ¬ (false = true) by decide)] at H
          obtain ⟨y149, hy149⟩ : ∃ y_ : List (List Int), y_ = (([] : List (List Int))) := ⟨_, rfl⟩
          replace H : (spec_ReadCover.l0 kj5 t138 t145 y149 1) = some (r1, r2, r3, r4) := by first | (rw [hy149]; with_reducible exact H) | (have H2_ := (Option.bind_some _ _).symm.trans H; rw [hy149]; with_reducible exact H2_) | (have H2_ := (Option.bind_some _ _).symm.trans H; with_reducible exact H2_) | with_reducible exact H | (rw [hy149]; exact H) | exact H
          have Ny149 := Aside0.mk hy149
          clear hy149
          have H' := Aside0.mk H
          clear H
          go_wp2_with (first | ((with_reducible refine gD 30 ?_); (try (refine gate_guard (by rfl) ?_; dsimp only)); refine Kd.S_lit (Kd.slice 2 (Kd.int .i64)) _ 32 ?hg (N := 30) ?hd (xs := ([] : List (List Int))) (inner := []) (ok := fun _ => True) (okp := fun _ => True) ?hr ?hp (fun _ hk => hk) trivial (Below.refl _ _) (Nat.le_refl _) (by simp) ?_; (case hd => rfl); (case hg => rfl); (case hr => first | (go_simp; done) | (go_simp; rfl)); (case hp => exact (Reps.none _ _)); intro v150 w17 ho18 hb hg_ hnew_; clear hg_ hnew_; (first | rw [← Ny149.out] at ho18 | (simp only [Int.reduceToNat] at ho18; rw [← Ny149.out] at ho18)); replace HO_4 := Aside0.mk (Kd.R_below (R1 HO_4) hb); have HO151 := Aside0.mk (Kd.S_lower (Kd.S_new' ho18 (Kd.R_lt (R1 HO_5))) (below_size Hb)); replace HO_5 := Aside0.mk (Kd.R_below (R1 HO_5) hb); replace BK137 := Aside0.mk (blk_below (B1 BK137) hb); replace HB := Aside0.mk (below_step Hb hb); clear hb ho18))
          go_loopg [7, 8] kj5 (fun kq v7 v8 w' => ∃ (x7_2 : List (List Int)) (x8_2 : Int) (x138000_2 : Int) (x138001_2 : Int), v8 = .int .i64 x8_2 ∧ Aside0 (spec_ReadCover.l0 kq t138 t145 x7_2 x8_2 = some (r1, r2, r3, r4)) ∧ Aside0 (kq ≤ kj5) ∧ Aside0 (Kd.R Kd.string 9 w' w.heap.size (fun _ => True) (.slice (some ad141) t138.length co9) t138) ∧ Aside0 (Kd.R (Kd.int .i64) 2 w' w.heap.size (fun _ => True) v147 t145) ∧ Aside0 (Kd.S (Kd.slice 2 (Kd.int .i64)) 32 w' w.heap.size (fun k_ => some k_ ≠ (v147 : Value).ownBlock) v7 x7_2) ∧ Aside0 (w'.heap[gb137]? = some (.cells #[.int .i64 x138000_2, .int .i64 x138001_2, (.slice none 0 0)] 24 (0, 0))) ∧ Aside0 (Below w.heap.size w w'))
          case atStart => exact ⟨(y149), (1), (0), (0), Fs, H', ⟨Nat.le_refl _⟩, ⟨R1 HO_4⟩, ⟨R1 HO_5⟩, ⟨by (with_reducible repeat (first | apply Kd.S_alloc | apply Kd.S_drewN | apply Kd.S_drew)); exact Kd.S_mono HO151.out (fun _ hk => hk.2)⟩, ⟨B1 BK137⟩, ⟨Hb⟩⟩
          case round =>
            clear H'
            try clear c1
            try clear p1
            try clear q1
            try clear hx1
            try clear qi1
            try clear p2
            try clear c3
            try clear c3b0
            try clear c3b1
            try clear c4
            try clear c9
            try clear c10
            try clear c13
            try clear p14
            try clear q14
            try clear hx14
            try clear qi14
            try clear c15
            try clear hcz16_0
            try clear hcz16_1
            try clear hcz16_2
            try clear hfz16_0
            try clear hfz16_1
            try clear hfz16_2
            try clear hx141_0
            try clear p1
            try clear p14
            try clear p141
            try clear p2
            try clear q1
            try clear q14
            try clear q141
            obtain ⟨x7_2, x8_2, x138000_2, x138001_2, rfl, HA, HK2, HO_4, HO_5, HO_7, BK137, HB⟩ := hrel
            cases gk with
            | zero => exact absurd HA.out (by simp [spec_ReadCover.l0])
            | succ k2 =>
              have H := HA.out
              clear HA
              simp only [spec_ReadCover.l0] at H
              by_cases c19 : x8_2 < (t138.length : Int)
              · rw [if_pos c19] at H
                have c19b0 : decide (x8_2 < (t138.length : Int)) = true := decide_eq_true c19
                clear c19
                by_cases c20 : 0 ≤ x8_2
                · rw [if_pos c20] at H
                  have c20b0 : decide (0 ≤ x8_2) = true := decide_eq_true c20
                  clear c20
                  obtain ⟨t157, A210, H⟩ := Option.bind_eq_some_iff.mp H
                  have A21 := Aside0.mk A210
                  clear A210
                  obtain ⟨⟨t160, t161⟩, A220, H⟩ := Option.bind_eq_some_iff.mp H
                  dsimp only at H
                  have A22 := Aside0.mk A220
                  clear A220
                  by_cases c23 : t161 = true
                  · subst c23
                    rw [if_pos rfl] at H
                    by_cases c24 : x7_2.length < 5864062014805
                    · rw [if_pos c24] at H
                      have LMc24 := Aside0.mk c24
                      clear c24
                      obtain ⟨y164, hy164⟩ : ∃ y_ : List (List Int), y_ = (x7_2 ++ [t160]) := ⟨_, rfl⟩
                      replace H : (spec_ReadCover.l0 k2 t138 t145 y164 (wrap64 (x8_2 + 1))) = some (r1, r2, r3, r4) := by first | (rw [hy164]; with_reducible exact H) | (have H2_ := (Option.bind_some _ _).symm.trans H; rw [hy164]; with_reducible exact H2_) | (have H2_ := (Option.bind_some _ _).symm.trans H; with_reducible exact H2_) | with_reducible exact H | (rw [hy164]; exact H) | exact H
                      have Ny164 := Aside0.mk hy164
                      clear hy164
                      have H' := Aside0.mk H
                      clear H
                      have p156 : 0 ≤ (x8_2 : Int) := oD
                      have q156 : x8_2 < (t138.length : Int) := oD
                      (try (obtain ⟨Aq_, cq_, eq_⟩ := Kd.R_slice HO_4.out; subst eq_))
                      obtain ⟨ad156, e156, hx156_0⟩ := Kd.at_string (Kd.R_reads' HO_4.out).2.2 x8_2 p156 q156
                      obtain rfl : ad141 = ad156 := (by injection e156)
                      replace p156 := eq_true p156
                      replace q156 := eq_true q156
                      go_wp2_with (first | ((with_reducible refine gC 9 ?_); refine GL (some 42) Tryd.func9 #[.string (rdOf ByteArray.empty t138 x8_2), .int .u8 44] ?_; (with_reducible refine (spec_l01Split.calls k2 (rdOf ByteArray.empty t138 x8_2) 44 t157 _ A21.out).mono ?_); rintro e w25 ⟨v158, rfl, ho0, hb⟩; refine ⟨_, rfl, ?_⟩; replace HO_5 := Aside0.mk (Kd.R_below (R1 HO_5) hb); replace HO_7 := Aside0.mk (Kd.S_below (S1 HO_7) hb); have HO159 := Aside0.mk (Kd.R_lower (Kd.R_new' ho0 (Kd.R_lt (R1 HO_4))) (below_size Hb)); replace HO_4 := Aside0.mk (Kd.R_elder' (R1 HO_4) (Kd.R_base ho0) hb); replace BK137 := Aside0.mk (blk_below (B1 BK137) hb); replace HB := Aside0.mk (below_step Hb hb); (try clear hb); (try clear hb2); (try clear hk); (try clear hi); (try clear ho0); obtain ⟨Ao26, co26, eo26⟩ := Kd.R_slice HO159.out; subst eo26) | ((with_reducible refine gC 10 ?_); refine GL (some 43) Tryd.func10 #[.slice Ao26 t157.length co26] ?_; (with_reducible refine (spec_l13Numbers.calls k2 _ _ t157 t160 true _ ?side1 ?side2 A22.out).mono ?_); (case side1 => exact Ck (Kd.R_reads' HO159.out).2.2); (case side2 => exact (Kd.R_reads' HO159.out).2.1); rintro e w27 ⟨v162, rfl, ho0, hb⟩; refine ⟨_, rfl, ?_⟩; replace HO_4 := Aside0.mk (Kd.R_below (R1 HO_4) hb); replace HO_7 := Aside0.mk (Kd.S_elder' (S1 HO_7) (Kd.R_base ho0) hb); replace HO159 := Aside0.mk (Kd.R_below (R1 HO159) hb); have HO163 := Aside0.mk (Kd.R_lower (Kd.R_new' ho0 (Kd.R_lt (R1 HO_5))) (below_size Hb)); replace HO_5 := Aside0.mk (Kd.R_elder' (R1 HO_5) (Kd.R_base ho0) hb); replace BK137 := Aside0.mk (blk_below (B1 BK137) hb); replace HB := Aside0.mk (below_step Hb hb); (try clear hb); (try clear hb2); (try clear hk); (try clear hi); (try clear ho0); obtain ⟨Ao29, co29, eo29⟩ := Kd.R_slice HO163.out; subst eo29) | ((with_reducible refine gate_builtin (b := .append) (xs := #[.tmp 49, .tmp 51]) rfl ?_); (try (refine gate_guard (by rfl) ?_; dsimp only)); at_builtin; refine Kd.S_append (Kd.slice 2 (Kd.int .i64)) (w0 := w) w.heap.size rfl (.tmp 49) (.tmp 51) 22 32 (.slice none 0 0) 24 rfl Tryd.underlying22 info32 rfl (by decide) (by omega) u7 x7_2 t160 [.slice Ao29 t160.length co29] (fun k_ => some k_ ≠ (v147 : Value).ownBlock) (fun k_ => some k_ = (.slice Ao29 t160.length co29 : Value).ownBlock) rfl rfl ?aP (fun k_ hk_ => ((Kd.R_mono (ok' := fun k_ => ((fun k_ => some k_ ≠ (v147 : Value).ownBlock)) k_ ∧ some k_ ≠ (u7 : Value).ownBlock) (Kd.R_apart' (HO163.out) (Kd.S_typed HO_7.out) (by decide)) (fun k_ hk => ⟨hk.1.2, hk.2⟩))).1 k_ hk_.symm) ?aF ?aO ?aB ?aS ?aL ?_; (case aP => exact Kd.M_row (Kd.R_mono (Kd.R_tight rfl (Kd.R_mono (ok' := fun k_ => ((fun k_ => some k_ ≠ (v147 : Value).ownBlock)) k_ ∧ some k_ ≠ (u7 : Value).ownBlock) (Kd.R_apart' (HO163.out) (Kd.S_typed HO_7.out) (by decide)) (fun k_ hk => ⟨hk.1.2, hk.2⟩))) (fun _ h_ => h_))); (case aB => exact Hb); (case aF => exact (fun k_ hk => Kd.fresh' (Kd.R_lt (R1 HO_5)) k_ hk)); (case aO => exact (by (with_reducible repeat (first | apply Kd.S_alloc | apply Kd.S_drewN | apply Kd.S_drew)); exact Kd.S_mono HO_7.out (fun k_ hk => ⟨hk.1, fun e_ => hk.2 e_⟩))); (case aS => exact (below_size Hb)); (case aL => have := LMc24.out; omega); intro v165 w28 ho hb hg hat; rw [← Ny164.out] at ho; replace HO_4 := Aside0.mk (Kd.R_over' (R1 HO_4) (Kd.S_typed (S1 HO_7)) (by decide) hg); replace HO_5 := Aside0.mk (Kd.R_over' (R1 HO_5) (Kd.S_typed (S1 HO_7)) (by decide) hg); replace BK137 := Aside0.mk (blk_grown (B1 BK137) hg (Kd.S_ne HO_7.out BK137.out (by decide))); replace HO159 := Aside0.mk (Kd.R_over' (R1 HO159) (Kd.S_typed (S1 HO_7)) (by decide) hg); replace HB := Aside0.mk (hb); have HO166 := Aside0.mk (ho); clear HO_7; clear HO163; clear ho hb hg hat))
                      go_roundg k2
                      case measure => have := HJ5.out; have := HK2.out; omega
                      case rel => exact ⟨(y164), (wrap64 (x8_2 + 1)), (x138000_2), (x138001_2), Fs, H', ⟨by have := HJ5.out; have := HK2.out; omega⟩, ⟨by (with_reducible repeat (first | apply Kd.R_alloc | apply Kd.R_drewN | apply Kd.R_drew)); exact Kd.R_mono HO_4.out (fun _ hk => trivial)⟩, ⟨by (with_reducible repeat (first | apply Kd.R_alloc | apply Kd.R_drewN | apply Kd.R_drew)); exact Kd.R_mono HO_5.out (fun _ hk => trivial)⟩, ⟨S1 HO166⟩, ⟨B1 BK137⟩, ⟨Hb⟩⟩
                    · rw [if_neg c24] at H
                      exact absurd H (by simp)
                  · replace c23 := Bool.eq_false_iff.mpr c23
                    subst c23
                    rw [if_neg (show ¬ (false = true) by decide)] at H
                    simp only [Option.some.injEq, Prod.mk.injEq] at H
                    obtain ⟨rfl, rfl, rfl, rfl⟩ := H
                    have p156 : 0 ≤ (x8_2 : Int) := oD
                    have q156 : x8_2 < (t138.length : Int) := oD
                    (try (obtain ⟨Aq_, cq_, eq_⟩ := Kd.R_slice HO_4.out; subst eq_))
                    obtain ⟨ad156, e156, hx156_0⟩ := Kd.at_string (Kd.R_reads' HO_4.out).2.2 x8_2 p156 q156
                    obtain rfl : ad141 = ad156 := (by injection e156)
                    replace p156 := eq_true p156
                    replace q156 := eq_true q156
                    go_wp2_with (first | ((with_reducible refine gC 9 ?_); refine GL (some 42) Tryd.func9 #[.string (rdOf ByteArray.empty t138 x8_2), .int .u8 44] ?_; (with_reducible refine (spec_l01Split.calls k2 (rdOf ByteArray.empty t138 x8_2) 44 t157 _ A21.out).mono ?_); rintro e w30 ⟨v158, rfl, ho0, hb⟩; refine ⟨_, rfl, ?_⟩; replace HO_5 := Aside0.mk (Kd.R_below (R1 HO_5) hb); replace HO_7 := Aside0.mk (Kd.S_below (S1 HO_7) hb); have HO159 := Aside0.mk (Kd.R_lower (Kd.R_new' ho0 (Kd.R_lt (R1 HO_4))) (below_size Hb)); replace HO_4 := Aside0.mk (Kd.R_elder' (R1 HO_4) (Kd.R_base ho0) hb); replace BK137 := Aside0.mk (blk_below (B1 BK137) hb); replace HB := Aside0.mk (below_step Hb hb); (try clear hb); (try clear hb2); (try clear hk); (try clear hi); (try clear ho0); obtain ⟨Ao31, co31, eo31⟩ := Kd.R_slice HO159.out; subst eo31) | ((with_reducible refine gC 10 ?_); refine GL (some 43) Tryd.func10 #[.slice Ao31 t157.length co31] ?_; (with_reducible refine (spec_l13Numbers.calls k2 _ _ t157 t160 false _ ?side1 ?side2 A22.out).mono ?_); (case side1 => exact Ck (Kd.R_reads' HO159.out).2.2); (case side2 => exact (Kd.R_reads' HO159.out).2.1); rintro e w32 ⟨v162, rfl, ho0, hb⟩; refine ⟨_, rfl, ?_⟩; replace HO_4 := Aside0.mk (Kd.R_below (R1 HO_4) hb); replace HO_7 := Aside0.mk (Kd.S_elder' (S1 HO_7) (Kd.R_base ho0) hb); replace HO159 := Aside0.mk (Kd.R_below (R1 HO159) hb); have HO163 := Aside0.mk (Kd.R_lower (Kd.R_new' ho0 (Kd.R_lt (R1 HO_5))) (below_size Hb)); replace HO_5 := Aside0.mk (Kd.R_elder' (R1 HO_5) (Kd.R_base ho0) hb); replace BK137 := Aside0.mk (blk_below (B1 BK137) hb); replace HB := Aside0.mk (below_step Hb hb); (try clear hb); (try clear hb2); (try clear hk); (try clear hi); (try clear ho0); have hcz33_0 : w32.cell? ⟨gb137, 0, none⟩ = some (.int .i64 x138000_2) := bc BK137; have hcz33_1 : w32.cell? ⟨gb137, 1, none⟩ = some (.int .i64 x138001_2) := bc BK137; have hcz33_2 : w32.cell? ⟨gb137, 2, none⟩ = some (.slice none 0 0) := bc BK137; have hfz33_0 := blk_frozen BK137.out 0; have hfz33_1 := blk_frozen BK137.out 1; have hfz33_2 := blk_frozen BK137.out 2))
                    refine bodyPost_ret (results_ct rfl _ _ gb137 24 #[.int .i64 0, .int .i64 0, .slice none 0 0] (0, 0) _ rfl (by (with_reducible repeat (first | refine blk_drewN ?_ _ | refine blk_drew ?_ | refine blk_alloc ?_ _)); refine blk_put (cs := #[.int .i64 0, .int .i64 0, .slice none 0 0]) ?_ 2 _ rfl; (with_reducible repeat (first | refine blk_drewN ?_ _ | refine blk_drew ?_ | refine blk_alloc ?_ _)); refine blk_put (cs := #[.int .i64 0, .int .i64 x138001_2, .slice none 0 0]) ?_ 1 _ rfl; (with_reducible repeat (first | refine blk_drewN ?_ _ | refine blk_drew ?_ | refine blk_alloc ?_ _)); refine blk_put (cs := #[.int .i64 x138000_2, .int .i64 x138001_2, .slice none 0 0]) ?_ 0 _ rfl; (with_reducible repeat (first | refine blk_drewN ?_ _ | refine blk_drew ?_ | refine blk_alloc ?_ _)); exact BK137.out) Tryd.underlying24 rfl (by kernel_rfl)) rfl ?_
                    exact ⟨_, Fin, by first | exact Kd.S_nil _ _ _ _ _ | exact Kd.N_nil _ _ _ _ _ | exact Kd.V_nil _ _ _ _ _ | exact Kd.Q_nil _ _ _ _ _ | exact Kd.R_nil _ _ _ _ _, Hb⟩
                · rw [if_neg c20] at H
                  exact absurd H (by simp)
              · rw [if_neg c19] at H
                have c19b0 : decide (x8_2 < (t138.length : Int)) = false := decide_eq_false c19
                clear c19
                by_cases c34 : 0 < (t145.length : Int)
                · rw [if_pos c34] at H
                  have c34b0 : decide (0 < (t145.length : Int)) = true := decide_eq_true c34
                  have c34b1 : decide (0 < t145.length) = true := decide_eq_true (by omega)
                  clear c34
                  by_cases c35 : 1 < (t145.length : Int)
                  · rw [if_pos c35] at H
                    have c35b0 : decide (1 < (t145.length : Int)) = true := decide_eq_true c35
                    have c35b1 : decide (1 < t145.length) = true := decide_eq_true (by omega)
                    clear c35
                    obtain ⟨t155, A360, H⟩ := Option.bind_eq_some_iff.mp H
                    have A36 := Aside0.mk A360
                    clear A360
                    by_cases c37 : t155 = true
                    · subst c37
                      rw [if_pos rfl] at H
                      simp only [Option.some.injEq, Prod.mk.injEq] at H
                      obtain ⟨rfl, rfl, rfl, rfl⟩ := H
                      try go_wp2
                      replace HO_4 := Aside0.mk (Kd.R_drew HO_4.out)
                      replace HO_5 := Aside0.mk (Kd.R_drew HO_5.out)
                      replace HO_7 := Aside0.mk (Kd.S_drew HO_7.out)
                      replace BK137 := Aside0.mk (blk_drew BK137.out)
                      replace HB := Aside0.mk (below_drew1 HB.out)
                      obtain ⟨Ao39, co39, eo39⟩ := Kd.R_slice HO_5.out
                      (first | subst eo39 | (injection eo39 with f1_ f2_ f3_; have f4_ := f1_.symm; have f5_ := f3_.symm; clear f1_ f2_ f3_; subst f4_; subst f5_))
                      have p152 : 0 ≤ (0 : Int) := (by omega)
                      have q152 : 0 < (t145.length : Int) := oD
                      (try (obtain ⟨Aq_, cq_, eq_⟩ := Kd.R_slice HO_5.out; subst eq_))
                      obtain ⟨ad152, e152, hx152_0⟩ := Kd.at_int (Kd.R_reads' HO_5.out).2.2 0 p152 q152
                      cases e152
                      have qi152 : (0 < t145.length) = True := eq_true (by omega)
                      (try rw [show ((0 : Int)).toNat = 0 from rfl] at hx152_0)
                      (try rw [Addr.add_zero'] at hx152_0)
                      replace p152 := eq_true p152
                      replace q152 := eq_true q152
                      have p153 : 0 ≤ (1 : Int) := (by omega)
                      have q153 : 1 < (t145.length : Int) := oD
                      (try (obtain ⟨Aq_, cq_, eq_⟩ := Kd.R_slice HO_5.out; subst eq_))
                      obtain ⟨ad153, e153, hx153_0⟩ := Kd.at_int (Kd.R_reads' HO_5.out).2.2 1 p153 q153
                      obtain rfl : ad152 = ad153 := (by injection e153)
                      (try simp only [show (1 : Int).toNat = 1 from rfl, Nat.reduceMul, Nat.reduceEqDiff, Go.Addr.add, ↓reduceIte] at hx153_0)
                      have qi153 : (1 < t145.length) = True := eq_true (by omega)
                      (try rw [show ((1 : Int)).toNat = 1 from rfl] at hx153_0)
                      replace p153 := eq_true p153
                      replace q153 := eq_true q153
                      obtain ⟨Ao40, co40, eo40⟩ := Kd.S_slice HO_7.out
                      (first | subst eo40 | (injection eo40 with f1_ f2_ f3_; have f4_ := f1_.symm; have f5_ := f3_.symm; clear f1_ f2_ f3_; subst f4_; subst f5_))
                      refine start_ (n := 10) (S := fun w' => w'.cell? ad152 = some (.int .i64 (rd t145 0)) ∧ w'.cell? ⟨ad152.block, ad152.off + 1, none⟩ = some (.int .i64 (rd t145 1))) (ds := []) #[false, false, false, false, false, false, false, false, false, false] (by kernel_rfl) rfl rfl ⟨hx152_0, hx153_0⟩ (fun hHeld => ?_); refine with_tabW spec_ReadCover.tab13 spec_ReadCover.bits13 (fun HT_ HW_ => ?_)
                      generalize wr.drew = w38 at HO_4 HO_5 HO_7 BK137 HB hx152_0 hx153_0 hHeld ⊢
                      refine PU 0 53 ?_
                      refine PU 1 54 ?_
                      refine PU 3 56 ?_
                      refine PU 4 57 ?_
                      refine PU 6 59 ?_
                      refine TK 2 55 hHeld ?_
                      refine TK 5 58 hHeld ?_
                      refine PU 7 60 ?_
                      refine ON 8 11 (fun K hK => ?_)
                      refine box_step ?hg (N := 11) ?hd (cs := #[.int .i64 0, .int .i64 0, .slice none 0 0]) (t := 24) ?hr ?_; (case hd => rfl); (case hg => rfl); (case hr => first | (go_simp; done) | (go_simp; rfl))
                      intro gb154 hg w41 hbox hb
                      have HS0_ := (hb.cell (World.block_lt_of_cell? _ _ (hHeld.1))).trans (hHeld.1)
                      have HS1_ := (hb.cell (World.block_lt_of_cell? _ _ (hHeld.2))).trans (hHeld.2)
                      replace HO_4 := Aside0.mk (Kd.R_below (R1 HO_4) hb)
                      replace HO_5 := Aside0.mk (Kd.R_below (R1 HO_5) hb)
                      replace HO_7 := Aside0.mk (Kd.S_below (S1 HO_7) hb)
                      have BK154 := Aside0.mk (hbox)
                      have GW154 := Aside0.mk ((Gle hg Hb : w.heap.size ≤ gb154))
                      have GE154 := Aside0.mk ((Gle hg Hb : w.heap.size ≤ gb154))
                      replace HB := Aside0.mk (below_step Hb hb)
                      have NB137_154 := Aside0.mk ((by rw [hg]; exact Nat.ne_of_lt (blk_lt (B1 BK137)) : gb137 ≠ gb154))
                      have NB154_137 := Aside0.mk ((by rw [hg]; exact Nat.ne_of_gt (blk_lt (B1 BK137)) : gb154 ≠ gb137))
                      replace BK137 := Aside0.mk (blk_below (B1 BK137) hb)
                      clear hb hbox hg
                      refine hK.out _ _ ⟨HS0_, HS1_⟩ (fun hHeld => ?_)
                      clear hK K
                      refine NM 11 ?_
                      refine one_ (i := 9) (N := none) #[true, true, true, true, true, true, true, true, true, true] rfl rfl (one_of HT_.out (by kernel_rfl)) (by decide) (fun K hK => ?_)
                      have hs42 : w41.cell? ⟨gb154, 0, none⟩ = some (.int .i64 0) := (blk_cell BK154.out 0).trans rfl
                      have hfs42 := blk_frozen BK154.out 0
                      have hns42_0 := NB137_154.out
                      have hms42_0 := NB154_137.out
                      have hs43 : w41.cell? ⟨gb154, 1, none⟩ = some (.int .i64 0) := (blk_cell BK154.out 1).trans rfl
                      have hfs43 := blk_frozen BK154.out 1
                      have hns43_0 := NB137_154.out
                      have hms43_0 := NB154_137.out
                      have hs44 : w41.cell? ⟨gb154, 2, none⟩ = some (.slice none 0 0) := (blk_cell BK154.out 2).trans rfl
                      have hfs44 := blk_frozen BK154.out 2
                      have hns44_0 := NB137_154.out
                      have hms44_0 := NB154_137.out
                      refine skip_ (w1 := ?_) (by rfl) rfl ?_ ?_
                      rotate_left
                      · go_simp
                        rfl
                      refine hK.out _ _ ⟨((cell_far (p := ⟨gb154, _, none⟩) (by first | exact Kd.own_blk (Kd.R_ne HO_5.out BK154.out (by decide)) | (rw [add_block]; exact Kd.own_blk (Kd.R_ne HO_5.out BK154.out (by decide))) | (show (Addr.add _ _).block ≠ _; rw [add_block]; exact Kd.own_blk (Kd.R_ne HO_5.out BK154.out (by decide))) | (dsimp only; exact Kd.own_blk (Kd.R_ne HO_5.out BK154.out (by decide)))) _).trans (((cell_far (p := ⟨gb154, _, none⟩) (by first | exact Kd.own_blk (Kd.R_ne HO_5.out BK154.out (by decide)) | (rw [add_block]; exact Kd.own_blk (Kd.R_ne HO_5.out BK154.out (by decide))) | (show (Addr.add _ _).block ≠ _; rw [add_block]; exact Kd.own_blk (Kd.R_ne HO_5.out BK154.out (by decide))) | (dsimp only; exact Kd.own_blk (Kd.R_ne HO_5.out BK154.out (by decide)))) _).trans (((cell_far (p := ⟨gb154, _, none⟩) (by first | exact Kd.own_blk (Kd.R_ne HO_5.out BK154.out (by decide)) | (rw [add_block]; exact Kd.own_blk (Kd.R_ne HO_5.out BK154.out (by decide))) | (show (Addr.add _ _).block ≠ _; rw [add_block]; exact Kd.own_blk (Kd.R_ne HO_5.out BK154.out (by decide))) | (dsimp only; exact Kd.own_blk (Kd.R_ne HO_5.out BK154.out (by decide)))) _).trans (hHeld.1)))))), ((cell_far (p := ⟨gb154, _, none⟩) (by first | exact Kd.own_blk (Kd.R_ne HO_5.out BK154.out (by decide)) | (rw [add_block]; exact Kd.own_blk (Kd.R_ne HO_5.out BK154.out (by decide))) | (show (Addr.add _ _).block ≠ _; rw [add_block]; exact Kd.own_blk (Kd.R_ne HO_5.out BK154.out (by decide))) | (dsimp only; exact Kd.own_blk (Kd.R_ne HO_5.out BK154.out (by decide)))) _).trans (((cell_far (p := ⟨gb154, _, none⟩) (by first | exact Kd.own_blk (Kd.R_ne HO_5.out BK154.out (by decide)) | (rw [add_block]; exact Kd.own_blk (Kd.R_ne HO_5.out BK154.out (by decide))) | (show (Addr.add _ _).block ≠ _; rw [add_block]; exact Kd.own_blk (Kd.R_ne HO_5.out BK154.out (by decide))) | (dsimp only; exact Kd.own_blk (Kd.R_ne HO_5.out BK154.out (by decide)))) _).trans (((cell_far (p := ⟨gb154, _, none⟩) (by first | exact Kd.own_blk (Kd.R_ne HO_5.out BK154.out (by decide)) | (rw [add_block]; exact Kd.own_blk (Kd.R_ne HO_5.out BK154.out (by decide))) | (show (Addr.add _ _).block ≠ _; rw [add_block]; exact Kd.own_blk (Kd.R_ne HO_5.out BK154.out (by decide))) | (dsimp only; exact Kd.own_blk (Kd.R_ne HO_5.out BK154.out (by decide)))) _).trans (hHeld.2))))))⟩ (fun hHeld => ?_)
                      clear hK K
                      refine done_ (done_of HT_.out (by kernel_rfl)) ?_
                      have hnb45 := NB154_137.out
                      have hnc45 := NB137_154.out
                      have hcz46_0 : w41.cell? ⟨gb154, 0, none⟩ = some (.int .i64 0) := bc BK154
                      have hcz46_1 : w41.cell? ⟨gb154, 1, none⟩ = some (.int .i64 0) := bc BK154
                      have hcz46_2 : w41.cell? ⟨gb154, 2, none⟩ = some (.slice none 0 0) := bc BK154
                      have hfz46_0 := blk_frozen BK154.out 0
                      have hfz46_1 := blk_frozen BK154.out 1
                      have hfz46_2 := blk_frozen BK154.out 2
                      try go_wp2_with (first | ((with_reducible refine gC 11 ?_); refine GL (some 62) Tryd.func11 #[.agg #[.int .i64 (rd t145 0), .int .i64 (rd t145 1), .slice Ao40 x7_2.length co40]] ?_; (with_reducible refine (spec_IsCover.calls k2 (rd t145 0) (rd t145 1) _ _ x7_2 true _ ?side1 ?side2 A36.out).mono ?_); (case side1 => refine (Kd.S_reads' (e := 32) (base := w.heap.size) (ok := fun k_ => some k_ ≠ (.slice (some ad152) t145.length co39 : Value).ownBlock) (n := x7_2.length) (c := co40) ?_).2.2; exact (by (with_reducible repeat (first | apply Kd.S_alloc | apply Kd.S_drewN | apply Kd.S_drew)); exact (Kd.S_mono (Kd.S_far (p := ⟨gb154, 2, none⟩) (Kd.S_far (p := ⟨gb154, 1, none⟩) (Kd.S_far (p := ⟨gb154, 0, none⟩) (Kd.S_types HO_7.out BK154.out (by decide)) (fun _ hk => hk.2) (.int .i64 (rd t145 0))) (fun _ hk => hk.2) (.int .i64 (rd t145 1))) (fun _ hk => hk.2) (.slice Ao40 x7_2.length co40)) (fun _ h_ => h_.1)))); (case side2 => exact (Kd.S_reads' HO_7.out).2.1); rintro e w47 ⟨rfl, hb⟩; refine ⟨_, rfl, ?_⟩; replace HO_4 := Aside0.mk (Kd.R_below (by (with_reducible repeat (first | apply Kd.R_alloc | apply Kd.R_drewN | apply Kd.R_drew)); exact (Kd.R_mono (Kd.R_far (p := ⟨gb154, 2, none⟩) (Kd.R_far (p := ⟨gb154, 1, none⟩) (Kd.R_far (p := ⟨gb154, 0, none⟩) (Kd.R_types HO_4.out BK154.out (by decide)) (fun _ hk => hk.2) (.int .i64 (rd t145 0))) (fun _ hk => hk.2) (.int .i64 (rd t145 1))) (fun _ hk => hk.2) (.slice Ao40 x7_2.length co40)) (fun _ h_ => h_.1))) hb); replace HO_5 := Aside0.mk (Kd.R_below (by (with_reducible repeat (first | apply Kd.R_alloc | apply Kd.R_drewN | apply Kd.R_drew)); exact (Kd.R_mono (Kd.R_far (p := ⟨gb154, 2, none⟩) (Kd.R_far (p := ⟨gb154, 1, none⟩) (Kd.R_far (p := ⟨gb154, 0, none⟩) (Kd.R_types HO_5.out BK154.out (by decide)) (fun _ hk => hk.2) (.int .i64 (rd t145 0))) (fun _ hk => hk.2) (.int .i64 (rd t145 1))) (fun _ hk => hk.2) (.slice Ao40 x7_2.length co40)) (fun _ h_ => h_.1))) hb); replace HO_7 := Aside0.mk (Kd.S_below (by (with_reducible repeat (first | apply Kd.S_alloc | apply Kd.S_drewN | apply Kd.S_drew)); exact (Kd.S_mono (Kd.S_far (p := ⟨gb154, 2, none⟩) (Kd.S_far (p := ⟨gb154, 1, none⟩) (Kd.S_far (p := ⟨gb154, 0, none⟩) (Kd.S_types HO_7.out BK154.out (by decide)) (fun _ hk => hk.2) (.int .i64 (rd t145 0))) (fun _ hk => hk.2) (.int .i64 (rd t145 1))) (fun _ hk => hk.2) (.slice Ao40 x7_2.length co40)) (fun _ h_ => h_.1))) hb); replace BK137 := Aside0.mk (blk_below (g := gb137) (o := .cells #[.int .i64 x138000_2, .int .i64 x138001_2, .slice none 0 0] 24 (0, 0)) (by (with_reducible repeat (first | refine blk_drewN ?_ _ | refine blk_drew ?_ | refine blk_alloc ?_ _)); refine blk_far ?_ NB137_154.out _; (with_reducible repeat (first | refine blk_drewN ?_ _ | refine blk_drew ?_ | refine blk_alloc ?_ _)); refine blk_far ?_ NB137_154.out _; (with_reducible repeat (first | refine blk_drewN ?_ _ | refine blk_drew ?_ | refine blk_alloc ?_ _)); refine blk_far ?_ NB137_154.out _; (with_reducible repeat (first | refine blk_drewN ?_ _ | refine blk_drew ?_ | refine blk_alloc ?_ _)); exact BK137.out) hb); replace BK154 := Aside0.mk (blk_below (g := gb154) (o := .cells #[.int .i64 (rd t145 0), .int .i64 (rd t145 1), .slice Ao40 x7_2.length co40] 24 (0, 0)) (by (with_reducible repeat (first | refine blk_drewN ?_ _ | refine blk_drew ?_ | refine blk_alloc ?_ _)); refine blk_put (cs := #[.int .i64 (rd t145 0), .int .i64 (rd t145 1), .slice none 0 0]) ?_ 2 _ rfl; (with_reducible repeat (first | refine blk_drewN ?_ _ | refine blk_drew ?_ | refine blk_alloc ?_ _)); refine blk_put (cs := #[.int .i64 (rd t145 0), .int .i64 0, .slice none 0 0]) ?_ 1 _ rfl; (with_reducible repeat (first | refine blk_drewN ?_ _ | refine blk_drew ?_ | refine blk_alloc ?_ _)); refine blk_put (cs := #[.int .i64 0, .int .i64 0, .slice none 0 0]) ?_ 0 _ rfl; (with_reducible repeat (first | refine blk_drewN ?_ _ | refine blk_drew ?_ | refine blk_alloc ?_ _)); exact BK154.out) hb); replace HB := Aside0.mk (below_step Hb hb); (try clear hb); (try clear hb2); (try clear hk); (try clear hi); have hcz48_0 : w47.cell? ⟨gb154, 0, none⟩ = some (.int .i64 (rd t145 0)) := bc BK154; have hcz48_1 : w47.cell? ⟨gb154, 1, none⟩ = some (.int .i64 (rd t145 1)) := bc BK154; have hcz48_2 : w47.cell? ⟨gb154, 2, none⟩ = some (.slice Ao40 x7_2.length co40) := bc BK154; have hfz48_0 := blk_frozen BK154.out 0; have hfz48_1 := blk_frozen BK154.out 1; have hfz48_2 := blk_frozen BK154.out 2; have hcz49_0 : w47.cell? ⟨gb137, 0, none⟩ = some (.int .i64 x138000_2) := bc BK137; have hcz49_1 : w47.cell? ⟨gb137, 1, none⟩ = some (.int .i64 x138001_2) := bc BK137; have hcz49_2 : w47.cell? ⟨gb137, 2, none⟩ = some (.slice none 0 0) := bc BK137; have hfz49_0 := blk_frozen BK137.out 0; have hfz49_1 := blk_frozen BK137.out 1; have hfz49_2 := blk_frozen BK137.out 2))
                      refine bodyPost_ret (results_ct rfl _ _ gb137 24 #[.int .i64 (rd t145 0), .int .i64 (rd t145 1), .slice Ao40 x7_2.length co40] (0, 0) _ rfl (by (with_reducible repeat (first | refine blk_drewN ?_ _ | refine blk_drew ?_ | refine blk_alloc ?_ _)); refine blk_put (cs := #[.int .i64 (rd t145 0), .int .i64 (rd t145 1), .slice none 0 0]) ?_ 2 _ rfl; (with_reducible repeat (first | refine blk_drewN ?_ _ | refine blk_drew ?_ | refine blk_alloc ?_ _)); refine blk_put (cs := #[.int .i64 (rd t145 0), .int .i64 x138001_2, .slice none 0 0]) ?_ 1 _ rfl; (with_reducible repeat (first | refine blk_drewN ?_ _ | refine blk_drew ?_ | refine blk_alloc ?_ _)); refine blk_put (cs := #[.int .i64 x138000_2, .int .i64 x138001_2, .slice none 0 0]) ?_ 0 _ rfl; (with_reducible repeat (first | refine blk_drewN ?_ _ | refine blk_drew ?_ | refine blk_alloc ?_ _)); exact BK137.out) Tryd.underlying24 rfl (by kernel_rfl)) rfl ?_
                      exact ⟨_, Fin, by (with_reducible repeat (first | apply Kd.S_alloc | apply Kd.S_drewN | apply Kd.S_drew)); exact Kd.S_mono (Kd.S_far (p := ⟨gb137, 2, none⟩) (Kd.S_far (p := ⟨gb137, 1, none⟩) (Kd.S_far (p := ⟨gb137, 0, none⟩) (Kd.S_types HO_7.out BK137.out (by decide)) (fun _ hk => hk.2) (.int .i64 (rd t145 0))) (fun _ hk => hk.2) (.int .i64 (rd t145 1))) (fun _ hk => hk.2) (.slice Ao40 x7_2.length co40)) (fun _ hk => trivial), Hb⟩
                    · replace c37 := Bool.eq_false_iff.mpr c37
                      subst c37
                      rw [if_neg (show ¬ (false = true) by decide)] at H
                      simp only [Option.some.injEq, Prod.mk.injEq] at H
                      obtain ⟨rfl, rfl, rfl, rfl⟩ := H
                      try go_wp2
                      replace HO_4 := Aside0.mk (Kd.R_drew HO_4.out)
                      replace HO_5 := Aside0.mk (Kd.R_drew HO_5.out)
                      replace HO_7 := Aside0.mk (Kd.S_drew HO_7.out)
                      replace BK137 := Aside0.mk (blk_drew BK137.out)
                      replace HB := Aside0.mk (below_drew1 HB.out)
                      obtain ⟨Ao51, co51, eo51⟩ := Kd.R_slice HO_5.out
                      (first | subst eo51 | (injection eo51 with f1_ f2_ f3_; have f4_ := f1_.symm; have f5_ := f3_.symm; clear f1_ f2_ f3_; subst f4_; subst f5_))
                      have p152 : 0 ≤ (0 : Int) := (by omega)
                      have q152 : 0 < (t145.length : Int) := oD
                      (try (obtain ⟨Aq_, cq_, eq_⟩ := Kd.R_slice HO_5.out; subst eq_))
                      obtain ⟨ad152, e152, hx152_0⟩ := Kd.at_int (Kd.R_reads' HO_5.out).2.2 0 p152 q152
                      cases e152
                      have qi152 : (0 < t145.length) = True := eq_true (by omega)
                      (try rw [show ((0 : Int)).toNat = 0 from rfl] at hx152_0)
                      (try rw [Addr.add_zero'] at hx152_0)
                      replace p152 := eq_true p152
                      replace q152 := eq_true q152
                      have p153 : 0 ≤ (1 : Int) := (by omega)
                      have q153 : 1 < (t145.length : Int) := oD
                      (try (obtain ⟨Aq_, cq_, eq_⟩ := Kd.R_slice HO_5.out; subst eq_))
                      obtain ⟨ad153, e153, hx153_0⟩ := Kd.at_int (Kd.R_reads' HO_5.out).2.2 1 p153 q153
                      obtain rfl : ad152 = ad153 := (by injection e153)
                      (try simp only [show (1 : Int).toNat = 1 from rfl, Nat.reduceMul, Nat.reduceEqDiff, Go.Addr.add, ↓reduceIte] at hx153_0)
                      have qi153 : (1 < t145.length) = True := eq_true (by omega)
                      (try rw [show ((1 : Int)).toNat = 1 from rfl] at hx153_0)
                      replace p153 := eq_true p153
                      replace q153 := eq_true q153
                      obtain ⟨Ao52, co52, eo52⟩ := Kd.S_slice HO_7.out
                      (first | subst eo52 | (injection eo52 with f1_ f2_ f3_; have f4_ := f1_.symm; have f5_ := f3_.symm; clear f1_ f2_ f3_; subst f4_; subst f5_))
                      refine start_ (n := 10) (S := fun w' => w'.cell? ad152 = some (.int .i64 (rd t145 0)) ∧ w'.cell? ⟨ad152.block, ad152.off + 1, none⟩ = some (.int .i64 (rd t145 1))) (ds := []) #[false, false, false, false, false, false, false, false, false, false] (by kernel_rfl) rfl rfl ⟨hx152_0, hx153_0⟩ (fun hHeld => ?_); refine with_tabW spec_ReadCover.tab13 spec_ReadCover.bits13 (fun HT_ HW_ => ?_)
                      generalize wr.drew = w50 at HO_4 HO_5 HO_7 BK137 HB hx152_0 hx153_0 hHeld ⊢
                      refine PU 0 53 ?_
                      refine PU 1 54 ?_
                      refine PU 3 56 ?_
                      refine PU 4 57 ?_
                      refine PU 6 59 ?_
                      refine TK 2 55 hHeld ?_
                      refine TK 5 58 hHeld ?_
                      refine PU 7 60 ?_
                      refine ON 8 11 (fun K hK => ?_)
                      refine box_step ?hg (N := 11) ?hd (cs := #[.int .i64 0, .int .i64 0, .slice none 0 0]) (t := 24) ?hr ?_; (case hd => rfl); (case hg => rfl); (case hr => first | (go_simp; done) | (go_simp; rfl))
                      intro gb154 hg w53 hbox hb
                      have HS0_ := (hb.cell (World.block_lt_of_cell? _ _ (hHeld.1))).trans (hHeld.1)
                      have HS1_ := (hb.cell (World.block_lt_of_cell? _ _ (hHeld.2))).trans (hHeld.2)
                      replace HO_4 := Aside0.mk (Kd.R_below (R1 HO_4) hb)
                      replace HO_5 := Aside0.mk (Kd.R_below (R1 HO_5) hb)
                      replace HO_7 := Aside0.mk (Kd.S_below (S1 HO_7) hb)
                      have BK154 := Aside0.mk (hbox)
                      have GW154 := Aside0.mk ((Gle hg Hb : w.heap.size ≤ gb154))
                      have GE154 := Aside0.mk ((Gle hg Hb : w.heap.size ≤ gb154))
                      replace HB := Aside0.mk (below_step Hb hb)
                      have NB137_154 := Aside0.mk ((by rw [hg]; exact Nat.ne_of_lt (blk_lt (B1 BK137)) : gb137 ≠ gb154))
                      have NB154_137 := Aside0.mk ((by rw [hg]; exact Nat.ne_of_gt (blk_lt (B1 BK137)) : gb154 ≠ gb137))
                      replace BK137 := Aside0.mk (blk_below (B1 BK137) hb)
                      clear hb hbox hg
                      refine hK.out _ _ ⟨HS0_, HS1_⟩ (fun hHeld => ?_)
                      clear hK K
                      refine NM 11 ?_
                      refine one_ (i := 9) (N := none) #[true, true, true, true, true, true, true, true, true, true] rfl rfl (one_of HT_.out (by kernel_rfl)) (by decide) (fun K hK => ?_)
                      have hs54 : w53.cell? ⟨gb154, 0, none⟩ = some (.int .i64 0) := (blk_cell BK154.out 0).trans rfl
                      have hfs54 := blk_frozen BK154.out 0
                      have hns54_0 := NB137_154.out
                      have hms54_0 := NB154_137.out
                      have hs55 : w53.cell? ⟨gb154, 1, none⟩ = some (.int .i64 0) := (blk_cell BK154.out 1).trans rfl
                      have hfs55 := blk_frozen BK154.out 1
                      have hns55_0 := NB137_154.out
                      have hms55_0 := NB154_137.out
                      have hs56 : w53.cell? ⟨gb154, 2, none⟩ = some (.slice none 0 0) := (blk_cell BK154.out 2).trans rfl
                      have hfs56 := blk_frozen BK154.out 2
                      have hns56_0 := NB137_154.out
                      have hms56_0 := NB154_137.out
                      refine skip_ (w1 := ?_) (by rfl) rfl ?_ ?_
                      rotate_left
                      · go_simp
                        rfl
                      refine hK.out _ _ ⟨((cell_far (p := ⟨gb154, _, none⟩) (by first | exact Kd.own_blk (Kd.R_ne HO_5.out BK154.out (by decide)) | (rw [add_block]; exact Kd.own_blk (Kd.R_ne HO_5.out BK154.out (by decide))) | (show (Addr.add _ _).block ≠ _; rw [add_block]; exact Kd.own_blk (Kd.R_ne HO_5.out BK154.out (by decide))) | (dsimp only; exact Kd.own_blk (Kd.R_ne HO_5.out BK154.out (by decide)))) _).trans (((cell_far (p := ⟨gb154, _, none⟩) (by first | exact Kd.own_blk (Kd.R_ne HO_5.out BK154.out (by decide)) | (rw [add_block]; exact Kd.own_blk (Kd.R_ne HO_5.out BK154.out (by decide))) | (show (Addr.add _ _).block ≠ _; rw [add_block]; exact Kd.own_blk (Kd.R_ne HO_5.out BK154.out (by decide))) | (dsimp only; exact Kd.own_blk (Kd.R_ne HO_5.out BK154.out (by decide)))) _).trans (((cell_far (p := ⟨gb154, _, none⟩) (by first | exact Kd.own_blk (Kd.R_ne HO_5.out BK154.out (by decide)) | (rw [add_block]; exact Kd.own_blk (Kd.R_ne HO_5.out BK154.out (by decide))) | (show (Addr.add _ _).block ≠ _; rw [add_block]; exact Kd.own_blk (Kd.R_ne HO_5.out BK154.out (by decide))) | (dsimp only; exact Kd.own_blk (Kd.R_ne HO_5.out BK154.out (by decide)))) _).trans (hHeld.1)))))), ((cell_far (p := ⟨gb154, _, none⟩) (by first | exact Kd.own_blk (Kd.R_ne HO_5.out BK154.out (by decide)) | (rw [add_block]; exact Kd.own_blk (Kd.R_ne HO_5.out BK154.out (by decide))) | (show (Addr.add _ _).block ≠ _; rw [add_block]; exact Kd.own_blk (Kd.R_ne HO_5.out BK154.out (by decide))) | (dsimp only; exact Kd.own_blk (Kd.R_ne HO_5.out BK154.out (by decide)))) _).trans (((cell_far (p := ⟨gb154, _, none⟩) (by first | exact Kd.own_blk (Kd.R_ne HO_5.out BK154.out (by decide)) | (rw [add_block]; exact Kd.own_blk (Kd.R_ne HO_5.out BK154.out (by decide))) | (show (Addr.add _ _).block ≠ _; rw [add_block]; exact Kd.own_blk (Kd.R_ne HO_5.out BK154.out (by decide))) | (dsimp only; exact Kd.own_blk (Kd.R_ne HO_5.out BK154.out (by decide)))) _).trans (((cell_far (p := ⟨gb154, _, none⟩) (by first | exact Kd.own_blk (Kd.R_ne HO_5.out BK154.out (by decide)) | (rw [add_block]; exact Kd.own_blk (Kd.R_ne HO_5.out BK154.out (by decide))) | (show (Addr.add _ _).block ≠ _; rw [add_block]; exact Kd.own_blk (Kd.R_ne HO_5.out BK154.out (by decide))) | (dsimp only; exact Kd.own_blk (Kd.R_ne HO_5.out BK154.out (by decide)))) _).trans (hHeld.2))))))⟩ (fun hHeld => ?_)
                      clear hK K
                      refine done_ (done_of HT_.out (by kernel_rfl)) ?_
                      have hnb57 := NB154_137.out
                      have hnc57 := NB137_154.out
                      have hcz58_0 : w53.cell? ⟨gb154, 0, none⟩ = some (.int .i64 0) := bc BK154
                      have hcz58_1 : w53.cell? ⟨gb154, 1, none⟩ = some (.int .i64 0) := bc BK154
                      have hcz58_2 : w53.cell? ⟨gb154, 2, none⟩ = some (.slice none 0 0) := bc BK154
                      have hfz58_0 := blk_frozen BK154.out 0
                      have hfz58_1 := blk_frozen BK154.out 1
                      have hfz58_2 := blk_frozen BK154.out 2
                      try go_wp2_with (first | ((with_reducible refine gC 11 ?_); refine GL (some 62) Tryd.func11 #[.agg #[.int .i64 (rd t145 0), .int .i64 (rd t145 1), .slice Ao52 x7_2.length co52]] ?_; (with_reducible refine (spec_IsCover.calls k2 (rd t145 0) (rd t145 1) _ _ x7_2 false _ ?side1 ?side2 A36.out).mono ?_); (case side1 => refine (Kd.S_reads' (e := 32) (base := w.heap.size) (ok := fun k_ => some k_ ≠ (.slice (some ad152) t145.length co51 : Value).ownBlock) (n := x7_2.length) (c := co52) ?_).2.2; exact (by (with_reducible repeat (first | apply Kd.S_alloc | apply Kd.S_drewN | apply Kd.S_drew)); exact (Kd.S_mono (Kd.S_far (p := ⟨gb154, 2, none⟩) (Kd.S_far (p := ⟨gb154, 1, none⟩) (Kd.S_far (p := ⟨gb154, 0, none⟩) (Kd.S_types HO_7.out BK154.out (by decide)) (fun _ hk => hk.2) (.int .i64 (rd t145 0))) (fun _ hk => hk.2) (.int .i64 (rd t145 1))) (fun _ hk => hk.2) (.slice Ao52 x7_2.length co52)) (fun _ h_ => h_.1)))); (case side2 => exact (Kd.S_reads' HO_7.out).2.1); rintro e w59 ⟨rfl, hb⟩; refine ⟨_, rfl, ?_⟩; replace HO_4 := Aside0.mk (Kd.R_below (by (with_reducible repeat (first | apply Kd.R_alloc | apply Kd.R_drewN | apply Kd.R_drew)); exact (Kd.R_mono (Kd.R_far (p := ⟨gb154, 2, none⟩) (Kd.R_far (p := ⟨gb154, 1, none⟩) (Kd.R_far (p := ⟨gb154, 0, none⟩) (Kd.R_types HO_4.out BK154.out (by decide)) (fun _ hk => hk.2) (.int .i64 (rd t145 0))) (fun _ hk => hk.2) (.int .i64 (rd t145 1))) (fun _ hk => hk.2) (.slice Ao52 x7_2.length co52)) (fun _ h_ => h_.1))) hb); replace HO_5 := Aside0.mk (Kd.R_below (by (with_reducible repeat (first | apply Kd.R_alloc | apply Kd.R_drewN | apply Kd.R_drew)); exact (Kd.R_mono (Kd.R_far (p := ⟨gb154, 2, none⟩) (Kd.R_far (p := ⟨gb154, 1, none⟩) (Kd.R_far (p := ⟨gb154, 0, none⟩) (Kd.R_types HO_5.out BK154.out (by decide)) (fun _ hk => hk.2) (.int .i64 (rd t145 0))) (fun _ hk => hk.2) (.int .i64 (rd t145 1))) (fun _ hk => hk.2) (.slice Ao52 x7_2.length co52)) (fun _ h_ => h_.1))) hb); replace HO_7 := Aside0.mk (Kd.S_below (by (with_reducible repeat (first | apply Kd.S_alloc | apply Kd.S_drewN | apply Kd.S_drew)); exact (Kd.S_mono (Kd.S_far (p := ⟨gb154, 2, none⟩) (Kd.S_far (p := ⟨gb154, 1, none⟩) (Kd.S_far (p := ⟨gb154, 0, none⟩) (Kd.S_types HO_7.out BK154.out (by decide)) (fun _ hk => hk.2) (.int .i64 (rd t145 0))) (fun _ hk => hk.2) (.int .i64 (rd t145 1))) (fun _ hk => hk.2) (.slice Ao52 x7_2.length co52)) (fun _ h_ => h_.1))) hb); replace BK137 := Aside0.mk (blk_below (g := gb137) (o := .cells #[.int .i64 x138000_2, .int .i64 x138001_2, .slice none 0 0] 24 (0, 0)) (by (with_reducible repeat (first | refine blk_drewN ?_ _ | refine blk_drew ?_ | refine blk_alloc ?_ _)); refine blk_far ?_ NB137_154.out _; (with_reducible repeat (first | refine blk_drewN ?_ _ | refine blk_drew ?_ | refine blk_alloc ?_ _)); refine blk_far ?_ NB137_154.out _; (with_reducible repeat (first | refine blk_drewN ?_ _ | refine blk_drew ?_ | refine blk_alloc ?_ _)); refine blk_far ?_ NB137_154.out _; (with_reducible repeat (first | refine blk_drewN ?_ _ | refine blk_drew ?_ | refine blk_alloc ?_ _)); exact BK137.out) hb); replace BK154 := Aside0.mk (blk_below (g := gb154) (o := .cells #[.int .i64 (rd t145 0), .int .i64 (rd t145 1), .slice Ao52 x7_2.length co52] 24 (0, 0)) (by (with_reducible repeat (first | refine blk_drewN ?_ _ | refine blk_drew ?_ | refine blk_alloc ?_ _)); refine blk_put (cs := #[.int .i64 (rd t145 0), .int .i64 (rd t145 1), .slice none 0 0]) ?_ 2 _ rfl; (with_reducible repeat (first | refine blk_drewN ?_ _ | refine blk_drew ?_ | refine blk_alloc ?_ _)); refine blk_put (cs := #[.int .i64 (rd t145 0), .int .i64 0, .slice none 0 0]) ?_ 1 _ rfl; (with_reducible repeat (first | refine blk_drewN ?_ _ | refine blk_drew ?_ | refine blk_alloc ?_ _)); refine blk_put (cs := #[.int .i64 0, .int .i64 0, .slice none 0 0]) ?_ 0 _ rfl; (with_reducible repeat (first | refine blk_drewN ?_ _ | refine blk_drew ?_ | refine blk_alloc ?_ _)); exact BK154.out) hb); replace HB := Aside0.mk (below_step Hb hb); (try clear hb); (try clear hb2); (try clear hk); (try clear hi); have hcz60_0 : w59.cell? ⟨gb137, 0, none⟩ = some (.int .i64 x138000_2) := bc BK137; have hcz60_1 : w59.cell? ⟨gb137, 1, none⟩ = some (.int .i64 x138001_2) := bc BK137; have hcz60_2 : w59.cell? ⟨gb137, 2, none⟩ = some (.slice none 0 0) := bc BK137; have hfz60_0 := blk_frozen BK137.out 0; have hfz60_1 := blk_frozen BK137.out 1; have hfz60_2 := blk_frozen BK137.out 2))
                      refine bodyPost_ret (results_ct rfl _ _ gb137 24 #[.int .i64 0, .int .i64 0, .slice none 0 0] (0, 0) _ rfl (by (with_reducible repeat (first | refine blk_drewN ?_ _ | refine blk_drew ?_ | refine blk_alloc ?_ _)); refine blk_put (cs := #[.int .i64 0, .int .i64 0, .slice none 0 0]) ?_ 2 _ rfl; (with_reducible repeat (first | refine blk_drewN ?_ _ | refine blk_drew ?_ | refine blk_alloc ?_ _)); refine blk_put (cs := #[.int .i64 0, .int .i64 x138001_2, .slice none 0 0]) ?_ 1 _ rfl; (with_reducible repeat (first | refine blk_drewN ?_ _ | refine blk_drew ?_ | refine blk_alloc ?_ _)); refine blk_put (cs := #[.int .i64 x138000_2, .int .i64 x138001_2, .slice none 0 0]) ?_ 0 _ rfl; (with_reducible repeat (first | refine blk_drewN ?_ _ | refine blk_drew ?_ | refine blk_alloc ?_ _)); exact BK137.out) Tryd.underlying24 rfl (by kernel_rfl)) rfl ?_
                      exact ⟨_, Fin, by first | exact Kd.S_nil _ _ _ _ _ | exact Kd.N_nil _ _ _ _ _ | exact Kd.V_nil _ _ _ _ _ | exact Kd.Q_nil _ _ _ _ _ | exact Kd.R_nil _ _ _ _ _, Hb⟩
                  · rw [if_neg c35] at H
                    exact absurd H (by simp)
                · rw [if_neg c34] at H
                  exact absurd H (by simp)
  · rw [if_neg c3] at H
    exact absurd H (by simp)

/-! ### strings_Split: function 12 (a contract of ours) -/
/-- What the library's variables hold, as the row says it. -/
def Amb (w : World) : Prop := (∃ m : Int, w.cell? ⟨0, 0, none⟩ = some (.int .i64 m)) ∧ (∃ te pe, w.cell? ⟨1, 0, none⟩ = some (.iface te pe)) ∧ ∃ te pe, w.cell? ⟨2, 0, none⟩ = some (.iface te pe)
theorem Amb.mv {w w' : World} (h : Amb w) (hb : Below w.heap.size w w') : Amb w' := by
  obtain ⟨⟨m, h0⟩, ⟨te, pe, h1⟩, ⟨te', pe', h2⟩⟩ := h
  exact ⟨⟨m, pw_cell_below hb h0⟩, ⟨te, pe, pw_cell_below hb h1⟩, ⟨te', pe', pw_cell_below hb h2⟩⟩
def strings_Split.f (a0 a1 : ByteArray) : Option (List ByteArray) := if a0.size < 4294967281 ∧ 1 ≤ a1.size then some (Lib.splitB a1 0 (Lib.countB a0 a1) a0) else none
theorem strings_Split.calls (a0 a1 : ByteArray) (r : List ByteArray) (w : World) (h : strings_Split.f a0 a1 = some r) (hamb_ : Amb w := by first | (with_reducible assumption) | exact Amb.mv hamb_ Hb | exact Amb.mv hamb_ (by repeat (first | exact (Aside0.out HG).1 | apply below_alloc | apply pw_below_drewN | apply below_drew1))) :
    Calls Tryd.prog 12 #[.string a0, .string a1] w fun e w' => ∃ v0_ : Value, e = .returned (v0_) ∧ Kd.R Kd.string 9 w' w.heap.size (fun _ => True) v0_ r ∧ Below w.heap.size w w' := by
  unfold strings_Split.f at h
  by_cases c : a0.size < 4294967281 ∧ 1 ≤ a1.size
  · rw [if_pos c] at h
    obtain rfl := Option.some.inj h
    obtain ⟨⟨m, hm⟩, _⟩ := hamb_
    have hl := Lib.splitB_all a1 c.2 0 _ a0 rfl
    refine (Tryd.strings_Split a0 a1 m w c.1 hm c.2).mono fun e w' ⟨he, hw⟩ => ⟨_, he, ?_, hw ▸ below_alloc (Below.refl _ _) _⟩
    subst hw
    refine ⟨fun _ _ => trivial, (Lib.splitB a1 0 (Lib.countB a0 a1) a0).map Value.string, ?_, by rw [List.length_map]; exact (Nat.mul_one _).symm, fun j p hj => ?_⟩
    · have h2 := World.ownsRow_lit (base := w.heap.size) (e := 9) (size := 1) w ((Lib.splitB a1 0 (Lib.countB a0 a1) a0).map Value.string).toArray (Lib.countB a0 a1 + 1) (Nat.le_refl _) (by have := Lib.countB_le a1 c.2 _ a0 (Nat.le_refl _); simp only [maxLen]; omega) (by simp [hl])
      rw [hl]
      rw [List.toList_toArray] at h2
      exact h2
    · have hlt : j < (Lib.splitB a1 0 (Lib.countB a0 a1) a0).length := (List.getElem?_eq_some_iff.1 hj).1
      have e1 : (((Lib.splitB a1 0 (Lib.countB a0 a1) a0).map Value.string).drop (j * 1)).take 1 = [.string p] := by
        rw [Nat.mul_one, List.drop_eq_getElem_cons (by rw [List.length_map]; exact hlt), List.take_succ_cons, List.take_zero, List.getElem_map, (List.getElem?_eq_some_iff.1 hj).2]
      exact e1
  · rw [if_neg c] at h; exact absurd h (by simp)

/-! ### strconv_ParseInt: function 23 (a contract of ours) -/
/-- An error of strconv's, or none. -/
def errB : Bool → Nat → Value
  | true, n => .iface 73 (.pointer (some ⟨n, 0, none⟩))
  | false, _ => .nilIface
/-- The number that a text spells, and whether there is an error. -/
def strconv_ParseInt.f (a0 : ByteArray) (a1 a2 : Int) : Option (Int × Bool) := if a0.size ≤ 281474976710656 ∧ a1 = 10 ∧ a2 = 64 then (match Lib.parseIntB 64 a0.data.toList with | .ok v => some (v, false) | .«syntax» => some (0, true) | .range => some (Lib.intSat 64 a0.data.toList, true)) else none
theorem strconv_ParseInt.calls (a0 : ByteArray) (a1 a2 : Int) (t0 : Int) (t1 : Bool) (w : World) (h : strconv_ParseInt.f a0 a1 a2 = some (t0, t1)) (hamb_ : Amb w := by first | (with_reducible assumption) | exact Amb.mv hamb_ Hb | exact Amb.mv hamb_ (by repeat (first | exact (Aside0.out HG).1 | apply below_alloc | apply pw_below_drewN | apply below_drew1))) :
    Calls Tryd.prog 23 #[.string a0, .int .i64 a1, .int .i64 a2] w fun e w' => (∃ N, e = .returned (.tuple #[.int .i64 t0, errB t1 N])) ∧ Below w.heap.size w w' := by
  unfold strconv_ParseInt.f at h
  by_cases c : a0.size ≤ 281474976710656 ∧ a1 = 10 ∧ a2 = 64
  · rw [if_pos c] at h
    obtain ⟨c0, rfl, rfl⟩ := c
    obtain ⟨_, ⟨te, pe, h1⟩, ⟨te', pe', h2⟩⟩ := hamb_
    cases q : Lib.parseIntB 64 a0.data.toList with
    | ok v =>
      rw [q] at h
      simp only [Option.some.injEq, Prod.mk.injEq] at h
      obtain ⟨rfl, rfl⟩ := h
      refine (Tryd.strconv_ParseInt_10_at64_ok a0 (by omega) v q w).mono fun e w' ⟨he, hw⟩ => ⟨⟨0, he⟩, ?_⟩
      rcases hw with rfl | ⟨t, rfl⟩
      · exact Below.refl _ _
      · exact Lib.bytesWorld_below w _ t
    | «syntax» =>
      rw [q] at h
      simp only [Option.some.injEq, Prod.mk.injEq] at h
      obtain ⟨rfl, rfl⟩ := h
      exact (Tryd.strconv_ParseInt_10_at64_syntax a0 c0 q _ w h1 (.inr ⟨te, pe, rfl⟩)).mono fun e w' ⟨n, he, _, _, hb⟩ => ⟨⟨n, he⟩, hb⟩
    | range =>
      rw [q] at h
      simp only [Option.some.injEq, Prod.mk.injEq] at h
      obtain ⟨rfl, rfl⟩ := h
      exact (Tryd.strconv_ParseInt_10_at64_range a0 c0 q _ w h2 (.inr ⟨te', pe', rfl⟩)).mono fun e w' ⟨n, he, _, _, hb⟩ => ⟨⟨n, he⟩, hb⟩
  · rw [if_neg c] at h; exact absurd h (by simp)

/-! ### impl_readNumbers: function 13 -/
def impl_readNumbers.l0 : Nat → List Int → List ByteArray → Int → Int → Option (List Int × Bool)
  | 0, _, _, _, _ => none
  | k + 1, x6, x14, x15, x16 => if x16 < x15 then (if 0 ≤ x16 then (if x16 < (x14.length : Int) then ((strconv_ParseInt.f (rdOf ByteArray.empty x14 x16) 10 64).bind fun bt174 => (if bt174.2 = true then (some (([] : List Int), false)) else (if x6.length < 17592186044416 then (impl_readNumbers.l0 k (x6 ++ [bt174.1]) x14 x15 (wrap64 (x16 + 1))) else (none)))) else (none)) else (none)) else (some (x6, true))
def impl_readNumbers.f (k : Nat) (a0 : ByteArray) (a1 : ByteArray) : Option (List Int × Bool) := (strings_Split.f a0 a1).bind fun t170 => (impl_readNumbers.l0 k (([] : List Int)) t170 (t170.length : Int) 0)
theorem impl_readNumbers.mono_l : ∀ k, (∀ y0 y1 y2 y3, LeO (impl_readNumbers.l0 k y0 y1 y2 y3) (impl_readNumbers.l0 (k + 1) y0 y1 y2 y3))
  | 0 => fun _ _ _ _ r h => by simp [impl_readNumbers.l0] at h
  | k + 1 => by
    have ih0 := impl_readNumbers.mono_l k
    · intro y0 y1 y2 y3
      unfold impl_readNumbers.l0
      repeat' first
      | (with_reducible exact ih0 _ _ _ _)
      | (with_reducible exact LeO.refl _)
      | (with_reducible exact LeO.none _)
      | (with_reducible refine LeO.ite ?_ ?_)
      | (with_reducible refine LeO.bind ?_ (fun _ => ?_))
      | exact ih0 _ _ _ _
      | exact LeO.none _
      | refine LeO.ite ?_ ?_
      | refine LeO.bind ?_ (fun _ => ?_)
theorem impl_readNumbers.mono : ∀ a0 a1 k, LeO (impl_readNumbers.f k a0 a1) (impl_readNumbers.f (k + 1) a0 a1) := by
  intro a0 a1 k
  have ih0 := impl_readNumbers.mono_l k
  unfold impl_readNumbers.f
  repeat' first
      | (with_reducible exact ih0 _ _ _ _)
      | (with_reducible exact LeO.refl _)
      | (with_reducible exact LeO.none _)
      | (with_reducible refine LeO.ite ?_ ?_)
      | (with_reducible refine LeO.bind ?_ (fun _ => ?_))
      | exact ih0 _ _ _ _
      | exact LeO.none _
      | refine LeO.ite ?_ ?_
      | refine LeO.bind ?_ (fun _ => ?_)
set_option maxHeartbeats 8000000 in
set_option maxRecDepth 100000 in
theorem impl_readNumbers.calls (k : Nat) (a0 : ByteArray) (a1 : ByteArray) (r1 : List Int) (r2 : Bool) (w : World) (h : impl_readNumbers.f k a0 a1 = some (r1, r2)) (hamb_ : Amb w := by first | (with_reducible assumption) | exact Amb.mv hamb_ Hb | exact Amb.mv hamb_ (by repeat (first | exact (Aside0.out HG).1 | apply below_alloc | apply pw_below_drewN | apply below_drew1))) :
    Calls Tryd.prog 13 #[.string a0, .string a1] w fun e w' => ∃ v0_ : Value, e = .returned (.tuple #[v0_, .bool r2]) ∧ Kd.R (Kd.int .i64) 2 w' w.heap.size (fun _ => True) v0_ r1 ∧ Below w.heap.size w w' := by
  have HB := Aside0.mk (Below.refl w.heap.size w)
  have H : ((strings_Split.f a0 a1).bind fun t170 => (impl_readNumbers.l0 k (([] : List Int)) t170 (t170.length : Int) 0)) = some (r1, r2) := h
  clear h
  obtain ⟨y167, hy167⟩ : ∃ y_ : List Int, y_ = (([] : List Int)) := ⟨_, rfl⟩
  replace H : ((strings_Split.f a0 a1).bind fun t170 => (impl_readNumbers.l0 k y167 t170 (t170.length : Int) 0)) = some (r1, r2) := by first | (rw [hy167]; with_reducible exact H) | (have H2_ := (Option.bind_some _ _).symm.trans H; rw [hy167]; with_reducible exact H2_) | (have H2_ := (Option.bind_some _ _).symm.trans H; with_reducible exact H2_) | with_reducible exact H | (rw [hy167]; exact H) | exact H
  have Ny167 := Aside0.mk hy167
  clear hy167
  obtain ⟨t170, A30, H⟩ := Option.bind_eq_some_iff.mp H
  have A3 := Aside0.mk A30
  clear A30
  have H' := Aside0.mk H
  clear H
  go_enter Tryd.func13, Tryd.ntmps13
  go_wp2_with (first | ((with_reducible refine gD 11 ?_); refine Kd.R_lit (Kd.int .i64) _ 2 ?hg (N := 11) ?hd (xs := ([] : List Int)) (inner := []) (ok := fun _ => True) (okp := fun _ => True) ?hr ?hp (fun _ hk => hk) trivial (Below.refl _ _) (Nat.le_refl _) (by simp) ?_; (case hd => rfl); (case hg => rfl); (case hr => first | (go_simp; done) | (go_simp; rfl)); (case hp => exact (Reps.none _ _)); intro v168 w4 ho5 hb hg_ hnew_; clear hg_ hnew_; (first | rw [← Ny167.out] at ho5 | (simp only [Int.reduceToNat] at ho5; rw [← Ny167.out] at ho5)); have HO169 := Aside0.mk (Kd.R_lower ho5 (below_size Hb)); replace HB := Aside0.mk (below_step Hb hb); clear hb ho5) | ((with_reducible refine gC 12 ?_); refine GL (some 14) Tryd.func12 #[.string a0, .string a1] ?_; (with_reducible refine (strings_Split.calls a0 a1 t170 _ A3.out).mono ?_); rintro e w6 ⟨v171, rfl, ho0, hb⟩; refine ⟨_, rfl, ?_⟩; replace HO169 := Aside0.mk (Kd.R_below (R1 HO169) hb); have HO172 := Aside0.mk (Kd.R_lower ho0 (below_size Hb)); replace HB := Aside0.mk (below_step Hb hb); (try clear hb); (try clear hb2); (try clear hk); (try clear hi); (try clear ho0); obtain ⟨Ao7, co7, eo7⟩ := Kd.R_slice HO172.out; subst eo7))
  go_loopg [6, 16] k (fun kq v6 v16 w' => ∃ (x6_1 : List Int) (x16_1 : Int), v16 = .int .i64 x16_1 ∧ Aside0 (impl_readNumbers.l0 kq x6_1 t170 (t170.length : Int) x16_1 = some (r1, r2)) ∧ Aside0 (kq ≤ k) ∧ Aside0 (Kd.R (Kd.int .i64) 2 w' w.heap.size (fun _ => True) v6 x6_1) ∧ Aside0 (Kd.R Kd.string 9 w' w.heap.size (fun _ => True) (.slice Ao7 t170.length co7) t170) ∧ Aside0 (Below w.heap.size w w'))
  case atStart => exact ⟨(y167), (0), Fs, H', ⟨Nat.le_refl _⟩, ⟨R1 HO169⟩, ⟨R1 HO172⟩, ⟨Hb⟩⟩
  case round =>
    clear H'
    try clear c1
    try clear p2
    obtain ⟨x6_1, x16_1, rfl, HA, HK1, HO_6, HO_14, HB⟩ := hrel
    cases gk with
    | zero => exact absurd HA.out (by simp [impl_readNumbers.l0])
    | succ k1 =>
      have H := HA.out
      clear HA
      simp only [impl_readNumbers.l0] at H
      by_cases c8 : x16_1 < (t170.length : Int)
      · rw [if_pos c8] at H
        have c8b0 : decide (x16_1 < (t170.length : Int)) = true := decide_eq_true c8
        clear c8
        by_cases c9 : 0 ≤ x16_1
        · rw [if_pos c9] at H
          have c9b0 : decide (0 ≤ x16_1) = true := decide_eq_true c9
          clear c9
          by_cases c10 : x16_1 < (t170.length : Int)
          · rw [if_pos c10] at H
            have c10b0 : decide (x16_1 < (t170.length : Int)) = true := decide_eq_true c10
            clear c10
            obtain ⟨⟨t174, t175⟩, A110, H⟩ := Option.bind_eq_some_iff.mp H
            dsimp only at H
            have A11 := Aside0.mk A110
            clear A110
            by_cases c12 : t175 = true
            · subst c12
              rw [if_pos rfl] at H
              simp only [Option.some.injEq, Prod.mk.injEq] at H
              obtain ⟨rfl, rfl⟩ := H
              have p173 : 0 ≤ (x16_1 : Int) := oD
              have q173 : x16_1 < (t170.length : Int) := oD
              (try (obtain ⟨Aq_, cq_, eq_⟩ := Kd.R_slice HO_14.out; subst eq_))
              obtain ⟨ad173, e173, hx173_0⟩ := Kd.at_string (Kd.R_reads' HO_14.out).2.2 x16_1 p173 q173
              cases e173
              replace p173 := eq_true p173
              replace q173 := eq_true q173
              go_wp2_with (first | ((with_reducible refine gC 23 ?_); refine GL (some 22) Tryd.func23 #[.string (rdOf ByteArray.empty t170 x16_1), .int .i64 10, .int .i64 64] ?_; (with_reducible refine (strconv_ParseInt.calls (rdOf ByteArray.empty t170 x16_1) 10 64 t174 true _ A11.out).mono ?_); rintro e w13 ⟨⟨N_, rfl⟩, hb⟩; refine ⟨_, rfl, ?_⟩; (try simp only [errB]); replace HO_6 := Aside0.mk (Kd.R_below (R1 HO_6) hb); replace HO_14 := Aside0.mk (Kd.R_below (R1 HO_14) hb); replace HB := Aside0.mk (below_step Hb hb); (try clear hb); (try clear hb2); (try clear hk); (try clear hi)))
              go_ret2
              exact ⟨_, Fin, by first | exact Kd.R_nil _ _ _ _ _ | exact Kd.N_nil _ _ _ _ _ | exact Kd.V_nil _ _ _ _ _ | exact Kd.Q_nil _ _ _ _ _ | exact Kd.S_nil _ _ _ _ _, Hb⟩
            · replace c12 := Bool.eq_false_iff.mpr c12
              subst c12
              rw [if_neg (show ¬ (false = true) by decide)] at H
              by_cases c14 : x6_1.length < 17592186044416
              · rw [if_pos c14] at H
                have LMc14 := Aside0.mk c14
                clear c14
                obtain ⟨y176, hy176⟩ : ∃ y_ : List Int, y_ = (x6_1 ++ [t174]) := ⟨_, rfl⟩
                replace H : (impl_readNumbers.l0 k1 y176 t170 (t170.length : Int) (wrap64 (x16_1 + 1))) = some (r1, r2) := by first | (rw [hy176]; with_reducible exact H) | (have H2_ := (Option.bind_some _ _).symm.trans H; rw [hy176]; with_reducible exact H2_) | (have H2_ := (Option.bind_some _ _).symm.trans H; with_reducible exact H2_) | with_reducible exact H | (rw [hy176]; exact H) | exact H
                have Ny176 := Aside0.mk hy176
                clear hy176
                have H' := Aside0.mk H
                clear H
                have p173 : 0 ≤ (x16_1 : Int) := oD
                have q173 : x16_1 < (t170.length : Int) := oD
                (try (obtain ⟨Aq_, cq_, eq_⟩ := Kd.R_slice HO_14.out; subst eq_))
                obtain ⟨ad173, e173, hx173_0⟩ := Kd.at_string (Kd.R_reads' HO_14.out).2.2 x16_1 p173 q173
                cases e173
                replace p173 := eq_true p173
                replace q173 := eq_true q173
                go_wp2_with (first | ((with_reducible refine gC 23 ?_); refine GL (some 22) Tryd.func23 #[.string (rdOf ByteArray.empty t170 x16_1), .int .i64 10, .int .i64 64] ?_; (with_reducible refine (strconv_ParseInt.calls (rdOf ByteArray.empty t170 x16_1) 10 64 t174 false _ A11.out).mono ?_); rintro e w15 ⟨⟨N_, rfl⟩, hb⟩; refine ⟨_, rfl, ?_⟩; (try simp only [errB]); replace HO_6 := Aside0.mk (Kd.R_below (R1 HO_6) hb); replace HO_14 := Aside0.mk (Kd.R_below (R1 HO_14) hb); replace HB := Aside0.mk (below_step Hb hb); (try clear hb); (try clear hb2); (try clear hk); (try clear hi)) | ((with_reducible refine gate_builtin (b := .append) (xs := #[.tmp 27, .tmp 29]) rfl ?_); at_builtin; refine Kd.R_append (Kd.int .i64) (w0 := w) w.heap.size rfl (.tmp 27) (.tmp 29) 32 2 (.int .i64 0) 8 rfl Tryd.underlying32 info2 rfl (by decide) (by omega) u6 x6_1 t174 [.int .i64 t174] (fun _ => True) (fun _ => False) rfl rfl ?aP (fun _ hk => hk.elim) ?aF ?aO ?aB ?aS ?aL ?_; (case aP => exact rfl); (case aB => exact Hb); (case aF => exact (fun _ _ => trivial)); (case aO => exact (R1 HO_6)); (case aS => exact (below_size Hb)); (case aL => have := LMc14.out; omega); intro v177 w16 ho hb hg hat; rw [← Ny176.out] at ho; replace HO_14 := Aside0.mk (Kd.R_over' (R1 HO_14) (Kd.R_typed (R1 HO_6)) (by decide) hg); replace HB := Aside0.mk (hb); have HO178 := Aside0.mk (ho); clear HO_6; clear ho hb hg hat))
                go_roundg k1
                case measure => have := HK1.out; omega
                case rel => exact ⟨(y176), (wrap64 (x16_1 + 1)), Fs, H', ⟨by have := HK1.out; omega⟩, ⟨R1 HO178⟩, ⟨R1 HO_14⟩, ⟨Hb⟩⟩
              · rw [if_neg c14] at H
                exact absurd H (by simp)
          · rw [if_neg c10] at H
            exact absurd H (by simp)
        · rw [if_neg c9] at H
          exact absurd H (by simp)
      · rw [if_neg c8] at H
        have c8b0 : decide (x16_1 < (t170.length : Int)) = false := decide_eq_false c8
        clear c8
        simp only [Option.some.injEq, Prod.mk.injEq] at H
        obtain ⟨rfl, rfl⟩ := H
        go_wp2
        go_ret2
        exact ⟨_, Fin, R1 HO_6, Hb⟩

/-! ### impl_within: function 24 -/
def impl_within.f (a0 : Int) (a1 : Int) (a2 : Int) : Option (Bool) := if a0 ≥ a1 then (some (decide (a0 ≤ a2))) else (some false)
set_option maxHeartbeats 8000000 in
set_option maxRecDepth 100000 in
theorem impl_within.calls (a0 : Int) (a1 : Int) (a2 : Int) (r : Bool) (w : World) (h : impl_within.f a0 a1 a2 = some r) :
    Calls Tryd.prog 24 #[.int .i64 a0, .int .i64 a1, .int .i64 a2] w fun e w' => e = .returned (.bool r) ∧ Drawn0 w w' := by
  have H : (if a0 ≥ a1 then (some (decide (a0 ≤ a2))) else (some false)) = some r := h
  clear h
  by_cases c4 : a0 ≥ a1
  · rw [if_pos c4] at H
    have c4b0 : decide (a1 ≤ a0) = true := decide_eq_true c4
    clear c4
    obtain rfl := Option.some.inj H
    go_enter Tryd.func24, Tryd.ntmps24
    go_wp2
    go_ret
    exact ⟨Fs, by repeat (first | exact Drawn0.refl _ | apply Drawn0.step)⟩
  · rw [if_neg c4] at H
    have c4b0 : decide (a1 ≤ a0) = false := decide_eq_false c4
    clear c4
    obtain rfl := Option.some.inj H
    go_enter Tryd.func24, Tryd.ntmps24
    go_wp2
    go_ret
    exact ⟨Fs, by repeat (first | exact Drawn0.refl _ | apply Drawn0.step)⟩

/-! ### impl_isIncreasing: function 27 -/
def impl_isIncreasing.l0 : Nat → List Int → Int → List Int → Int → Int → Option (Bool)
  | 0, _, _, _, _, _ => none
  | k + 1, x0, x1, x7, x8, x9 => if x9 < x8 then (if 0 ≤ x9 then (if x9 < (x7.length : Int) then ((impl_within.f (rd x7 x9) 0 (wrap64 (x1 - 1))).bind fun t180 => (if t180 = true then (if x9 > 0 then (if 0 ≤ (wrap64 (x9 - 1)) then (if (wrap64 (x9 - 1)) < (x0.length : Int) then (if (rd x7 x9) ≤ (rd x0 (wrap64 (x9 - 1))) then (some false) else (impl_isIncreasing.l0 k x0 x1 x7 x8 (wrap64 (x9 + 1)))) else (none)) else (none)) else (impl_isIncreasing.l0 k x0 x1 x7 x8 (wrap64 (x9 + 1)))) else (some false))) else (none)) else (none)) else (some true)
def impl_isIncreasing.f (k : Nat) (l0 : List Int) (a1 : Int) : Option (Bool) := impl_isIncreasing.l0 k l0 a1 l0 (l0.length : Int) 0
theorem impl_isIncreasing.mono_l : ∀ k, (∀ y0 y1 y2 y3 y4, LeO (impl_isIncreasing.l0 k y0 y1 y2 y3 y4) (impl_isIncreasing.l0 (k + 1) y0 y1 y2 y3 y4))
  | 0 => fun _ _ _ _ _ r h => by simp [impl_isIncreasing.l0] at h
  | k + 1 => by
    have ih0 := impl_isIncreasing.mono_l k
    · intro y0 y1 y2 y3 y4
      unfold impl_isIncreasing.l0
      repeat' first
      | (with_reducible exact ih0 _ _ _ _ _)
      | (with_reducible exact LeO.refl _)
      | (with_reducible exact LeO.none _)
      | (with_reducible refine LeO.ite ?_ ?_)
      | (with_reducible refine LeO.bind ?_ (fun _ => ?_))
      | exact ih0 _ _ _ _ _
      | exact LeO.none _
      | refine LeO.ite ?_ ?_
      | refine LeO.bind ?_ (fun _ => ?_)
theorem impl_isIncreasing.mono : ∀ a0 a1 k, LeO (impl_isIncreasing.f k a0 a1) (impl_isIncreasing.f (k + 1) a0 a1) := by
  intro a0 a1 k
  have ih0 := impl_isIncreasing.mono_l k
  unfold impl_isIncreasing.f
  repeat' first
      | (with_reducible exact ih0 _ _ _ _ _)
      | (with_reducible exact LeO.refl _)
      | (with_reducible exact LeO.none _)
      | (with_reducible refine LeO.ite ?_ ?_)
      | (with_reducible refine LeO.bind ?_ (fun _ => ?_))
      | exact ih0 _ _ _ _ _
      | exact LeO.none _
      | refine LeO.ite ?_ ?_
      | refine LeO.bind ?_ (fun _ => ?_)
set_option maxHeartbeats 8000000 in
set_option maxRecDepth 100000 in
theorem impl_isIncreasing.calls (k : Nat) (A0 : Option Addr) (c0 : Nat) (l0 : List Int) (a1 : Int) (r : Bool) (w : World) (hr0 : Kd.C (Kd.int .i64) w A0 l0.length l0) (hc0 : l0.length ≤ c0) (h : impl_isIncreasing.f k l0 a1 = some r) :
    Calls Tryd.prog 27 #[.slice A0 l0.length c0, .int .i64 a1] w fun e w' => e = .returned (.bool r) ∧ Drawn0 w w' := by
  have HR0 := Aside0.mk hr0
  have HC0 := Aside0.mk hc0
  clear hr0 hc0
  have H : (impl_isIncreasing.l0 k l0 a1 l0 (l0.length : Int) 0) = some r := h
  clear h
  have H' := Aside0.mk H
  clear H
  go_enter Tryd.func27, Tryd.ntmps27
  go_wp2
  go_loopg [9] k (fun kq v9 w' => ∃ (x9_1 : Int), v9 = .int .i64 x9_1 ∧ Aside0 (impl_isIncreasing.l0 kq l0 a1 l0 (l0.length : Int) x9_1 = some r) ∧ Aside0 (kq ≤ k) ∧ Drawn0 w w')
  case atStart => exact ⟨(0), Fs, H', ⟨Nat.le_refl _⟩, by repeat (first | exact Drawn0.refl _ | apply Drawn0.step)⟩
  case round =>
    clear H'
    try clear c2
    try clear p2
    obtain ⟨x9_1, rfl, HA, HK1, ⟨m1, rfl⟩⟩ := hrel
    cases gk with
    | zero => exact absurd HA.out (by simp [impl_isIncreasing.l0])
    | succ k1 =>
      have H := HA.out
      clear HA
      simp only [impl_isIncreasing.l0] at H
      by_cases c3 : x9_1 < (l0.length : Int)
      · rw [if_pos c3] at H
        have c3b0 : decide (x9_1 < (l0.length : Int)) = true := decide_eq_true c3
        clear c3
        by_cases c4 : 0 ≤ x9_1
        · rw [if_pos c4] at H
          have c4b0 : decide (0 ≤ x9_1) = true := decide_eq_true c4
          clear c4
          by_cases c5 : x9_1 < (l0.length : Int)
          · rw [if_pos c5] at H
            have c5b0 : decide (x9_1 < (l0.length : Int)) = true := decide_eq_true c5
            clear c5
            obtain ⟨t180, A60, H⟩ := Option.bind_eq_some_iff.mp H
            have A6 := Aside0.mk A60
            clear A60
            by_cases c7 : t180 = true
            · subst c7
              rw [if_pos rfl] at H
              by_cases c8 : x9_1 > 0
              · rw [if_pos c8] at H
                have c8b0 : decide (0 < x9_1) = true := decide_eq_true c8
                clear c8
                obtain ⟨ji9, hji9⟩ : ∃ j_ : Int, (wrap64 (x9_1 - 1)) = j_ := ⟨_, rfl⟩
                replace H : (if 0 ≤ (ji9) then (if (ji9) < (l0.length : Int) then (if (rd l0 x9_1) ≤ (rd l0 (ji9)) then (some false) else (impl_isIncreasing.l0 k1 l0 a1 l0 (l0.length : Int) (wrap64 (x9_1 + 1)))) else (none)) else (none)) = some r := by first | (rw [hji9] at H; exact H) | (simp only [hji9] at H ⊢; exact H)
                (try rw [hji9] at A6)
                have hji9w : (IntKind.i64.wrap (x9_1 - 1)) = ji9 := (i64_w _).trans hji9
                by_cases c10 : 0 ≤ (ji9)
                · rw [if_pos c10] at H
                  have c10b0 : decide (0 ≤ (ji9)) = true := decide_eq_true c10
                  clear c10
                  by_cases c11 : (ji9) < (l0.length : Int)
                  · rw [if_pos c11] at H
                    have c11b0 : decide ((ji9) < (l0.length : Int)) = true := decide_eq_true c11
                    clear c11
                    by_cases c12 : (rd l0 x9_1) ≤ (rd l0 (ji9))
                    · rw [if_pos c12] at H
                      have c12b0 : decide ((rd l0 x9_1) ≤ (rd l0 (ji9))) = true := decide_eq_true c12
                      clear c12
                      obtain rfl := Option.some.inj H
                      have p179 : 0 ≤ (x9_1 : Int) := oD
                      have q179 : x9_1 < (l0.length : Int) := oD
                      obtain ⟨ad179, e179, hx179_0⟩ := Kd.at_int HR0.out x9_1 p179 q179
                      cases e179
                      replace p179 := eq_true p179
                      replace q179 := eq_true q179
                      go_wp2_with (first | ((with_reducible refine gC 24 ?_); refine GL (some 17) Tryd.func24 #[.int .i64 (rd l0 x9_1), .int .i64 0, .int .i64 (wrap64 (a1 - 1))] ?_; (with_reducible refine (impl_within.calls (rd l0 x9_1) 0 (wrap64 (a1 - 1)) true _ A6.out).mono ?_); rintro e w' ⟨rfl, ⟨nd, rfl⟩⟩; refine ⟨_, rfl, ?_⟩; have p181 : 0 ≤ ((ji9) : Int) := oD; have q181 : (ji9) < (l0.length : Int) := oD; obtain ⟨ad181, e181, hx181_0⟩ := Kd.at_int HR0.out (ji9) p181 q181; obtain rfl : ad179 = ad181 := (by injection e181); replace p181 := eq_true p181; replace q181 := eq_true q181))
                      go_ret
                      exact ⟨by first | rfl | (simp; done) | (simp only [← hji9] <;> (first | rfl | simp)) | (simp [*]; done), by repeat (first | exact Drawn0.refl _ | apply Drawn0.step)⟩
                    · rw [if_neg c12] at H
                      have c12b0 : decide ((rd l0 x9_1) ≤ (rd l0 (ji9))) = false := decide_eq_false c12
                      clear c12
                      have H' := Aside0.mk H
                      clear H
                      have p179 : 0 ≤ (x9_1 : Int) := oD
                      have q179 : x9_1 < (l0.length : Int) := oD
                      obtain ⟨ad179, e179, hx179_0⟩ := Kd.at_int HR0.out x9_1 p179 q179
                      cases e179
                      replace p179 := eq_true p179
                      replace q179 := eq_true q179
                      go_wp2_with (first | ((with_reducible refine gC 24 ?_); refine GL (some 17) Tryd.func24 #[.int .i64 (rd l0 x9_1), .int .i64 0, .int .i64 (wrap64 (a1 - 1))] ?_; (with_reducible refine (impl_within.calls (rd l0 x9_1) 0 (wrap64 (a1 - 1)) true _ A6.out).mono ?_); rintro e w' ⟨rfl, ⟨nd, rfl⟩⟩; refine ⟨_, rfl, ?_⟩; have p181 : 0 ≤ ((ji9) : Int) := oD; have q181 : (ji9) < (l0.length : Int) := oD; obtain ⟨ad181, e181, hx181_0⟩ := Kd.at_int HR0.out (ji9) p181 q181; obtain rfl : ad179 = ad181 := (by injection e181); replace p181 := eq_true p181; replace q181 := eq_true q181))
                      go_roundg k1
                      case measure => have := HK1.out; omega
                      case rel => exact ⟨(wrap64 (x9_1 + 1)), Fs, H', ⟨by have := HK1.out; omega⟩, by repeat (first | exact Drawn0.refl _ | apply Drawn0.step)⟩
                  · rw [if_neg c11] at H
                    exact absurd H (by simp)
                · rw [if_neg c10] at H
                  exact absurd H (by simp)
              · rw [if_neg c8] at H
                have c8b0 : decide (0 < x9_1) = false := decide_eq_false c8
                clear c8
                have H' := Aside0.mk H
                clear H
                have p179 : 0 ≤ (x9_1 : Int) := oD
                have q179 : x9_1 < (l0.length : Int) := oD
                obtain ⟨ad179, e179, hx179_0⟩ := Kd.at_int HR0.out x9_1 p179 q179
                cases e179
                replace p179 := eq_true p179
                replace q179 := eq_true q179
                go_wp2_with (first | ((with_reducible refine gC 24 ?_); refine GL (some 17) Tryd.func24 #[.int .i64 (rd l0 x9_1), .int .i64 0, .int .i64 (wrap64 (a1 - 1))] ?_; (with_reducible refine (impl_within.calls (rd l0 x9_1) 0 (wrap64 (a1 - 1)) true _ A6.out).mono ?_); rintro e w' ⟨rfl, ⟨nd, rfl⟩⟩; refine ⟨_, rfl, ?_⟩))
                go_roundg k1
                case measure => have := HK1.out; omega
                case rel => exact ⟨(wrap64 (x9_1 + 1)), Fs, H', ⟨by have := HK1.out; omega⟩, by repeat (first | exact Drawn0.refl _ | apply Drawn0.step)⟩
            · replace c7 := Bool.eq_false_iff.mpr c7
              subst c7
              rw [if_neg (show ¬ (false = true) by decide)] at H
              obtain rfl := Option.some.inj H
              have p179 : 0 ≤ (x9_1 : Int) := oD
              have q179 : x9_1 < (l0.length : Int) := oD
              obtain ⟨ad179, e179, hx179_0⟩ := Kd.at_int HR0.out x9_1 p179 q179
              cases e179
              replace p179 := eq_true p179
              replace q179 := eq_true q179
              go_wp2_with (first | ((with_reducible refine gC 24 ?_); refine GL (some 17) Tryd.func24 #[.int .i64 (rd l0 x9_1), .int .i64 0, .int .i64 (wrap64 (a1 - 1))] ?_; (with_reducible refine (impl_within.calls (rd l0 x9_1) 0 (wrap64 (a1 - 1)) false _ A6.out).mono ?_); rintro e w' ⟨rfl, ⟨nd, rfl⟩⟩; refine ⟨_, rfl, ?_⟩))
              go_ret
              exact ⟨Fs, by repeat (first | exact Drawn0.refl _ | apply Drawn0.step)⟩
          · rw [if_neg c5] at H
            exact absurd H (by simp)
        · rw [if_neg c4] at H
          exact absurd H (by simp)
      · rw [if_neg c3] at H
        have c3b0 : decide (x9_1 < (l0.length : Int)) = false := decide_eq_false c3
        clear c3
        obtain rfl := Option.some.inj H
        go_wp2
        go_ret
        exact ⟨Fs, by repeat (first | exact Drawn0.refl _ | apply Drawn0.step)⟩

end Go.Proofs.YtcbpbdhglblagaaDoor.XFnExactReadCover
