-- Written by ext.py (wip/) over the kit's print: not trusted, Lean checks it.
import Derived.Test.YtkmlgfihoaneeaaXFnExactAddWeightingsx0
import Derived.Test.YtkmlgfihoaneeaaXFnExactAddWeightingsx1
import Derived.Test.YtkmlgfihoaneeaaXFnExactAddWeightingsx4
namespace Go.Proofs.Ytkmlgfihoaneeaa.XFnExactAddWeightings
open Go.RowKit Go.Proofs.YtkmlgfihoaneeaaW.PrintWords Go.Proofs.YtkmlgfihoaneeaaW.PrintLast Go.Proofs.YtkmlgfihoaneeaaW.PrintMore
attribute [local go_sem] max2_int min2_int max_two min_two max_three min_three max_four min_four   -- for this text's walks alone
set_option linter.unusedVariables false
set_option linter.unusedSimpArgs false

attribute [local go_sem high] eqA103
/-! ### impl_IsShape: function 114 -/
def impl_IsShape.l0 : Nat → List (S103) → List (S103) → Int → Int → Option (Bool)
  | 0, _, _, _, _ => none
  | k + 1, x0, x5, x6, x7 => if x7 < x6 then (if 0 ≤ x7 then (if x7 < (x5.length : Int) then ((impl_isCoordinate.f ((rd_T103 x5 x7).f0)).bind fun t185 => (if t185 = true then ((impl_isCoordinate.f ((rd_T103 x5 x7).f1)).bind fun t186 => (if t186 = true then (if x7 > 0 then (if 0 ≤ (wrap64 (x7 - 1)) then (if (wrap64 (x7 - 1)) < (x0.length : Int) then ((impl_compareCells.f ((rd_T103 x0 (wrap64 (x7 - 1))).f0) ((rd_T103 x0 (wrap64 (x7 - 1))).f1) ((rd_T103 x5 x7).f0) ((rd_T103 x5 x7).f1)).bind fun t188 => (if t188 ≥ 0 then (some false) else (impl_IsShape.l0 k x0 x5 x6 (wrap64 (x7 + 1))))) else (none)) else (none)) else (impl_IsShape.l0 k x0 x5 x6 (wrap64 (x7 + 1)))) else (some false))) else (some false))) else (none)) else (none)) else (if (x0.length : Int) ≥ 1 then (some (decide ((x0.length : Int) ≤ 40))) else (some false))
def impl_IsShape.f (k : Nat) (l0 : List (S103)) : Option (Bool) := impl_IsShape.l0 k l0 l0 (l0.length : Int) 0
theorem impl_IsShape.mono_l : ∀ k, (∀ y0 y1 y2 y3, LeO (impl_IsShape.l0 k y0 y1 y2 y3) (impl_IsShape.l0 (k + 1) y0 y1 y2 y3))
  | 0 => fun _ _ _ _ r h => by simp [impl_IsShape.l0] at h
  | k + 1 => by
    have ih0 := impl_IsShape.mono_l k
    · intro y0 y1 y2 y3
      unfold impl_IsShape.l0
      repeat' first
      | (with_reducible exact ih0 _ _ _ _)
      | (with_reducible exact LeO.refl _)
      | (with_reducible exact LeO.none _)
      | (with_reducible refine LeO.ite ?_ ?_)
      | (with_reducible refine LeO.bind ?_ (fun _ => ?_))
      | exact ih0 _ _ _ _
      | exact LeO.none _
      | refine LeO.ite ?_ ?_
      | refine LeO.bind ?_ (fun _ => ?_)
theorem impl_IsShape.mono : ∀ a0 k, LeO (impl_IsShape.f k a0) (impl_IsShape.f (k + 1) a0) := by
  intro a0 k
  have ih0 := impl_IsShape.mono_l k
  unfold impl_IsShape.f
  repeat' first
      | (with_reducible exact ih0 _ _ _ _)
      | (with_reducible exact LeO.refl _)
      | (with_reducible exact LeO.none _)
      | (with_reducible refine LeO.ite ?_ ?_)
      | (with_reducible refine LeO.bind ?_ (fun _ => ?_))
      | exact ih0 _ _ _ _
      | exact LeO.none _
      | refine LeO.ite ?_ ?_
      | refine LeO.bind ?_ (fun _ => ?_)
def impl_IsShape.T4 : Bool × List (List Nat × List Nat) := (true, [([], []), ([0], [0]), ([1], [1]), ([2], [2]), ([3, 2], [3]), ([4], [4]), ([5, 4], [4, 5]), ([6, 4, 4], [4, 6]), ([7, 4], [4, 7]), ([4, 8], [4, 8]), ([9, 7], [9]), ([10], [10]), ([11, 10], [10, 11]), ([12, 10, 10], [10, 12]), ([13], [13]), ([13], [13]), ([15, 13], [13, 15]), ([14, 16, 13], [13, 14, 16]), ([17, 13], [13, 17]), ([13], [13]), ([18, 19, 13, 13], [13, 18, 19]), ([20, 13], [13, 20]), ([13, 21, 10], [10, 13, 21]), ([10, 22], [10, 22])])
def impl_IsShape.B4 : List Nat := [0, 1, 3, 7, 15, 31, 63, 127, 255, 511, 1023, 2047, 4095, 8191, 16383, 16383, 49151, 131071, 262143, 16383, 1048575, 2097151, 4194303, 8388607]
theorem impl_IsShape.tab4 : rtab .any (opsOf Try.f114 4) = impl_IsShape.T4 := by kernel_rfl
theorem impl_IsShape.bits4 : waitsOk impl_IsShape.T4.2 impl_IsShape.B4 = true := by kernel_rfl
set_option maxHeartbeats 8000000 in
set_option maxRecDepth 100000 in
theorem impl_IsShape.calls (k : Nat) (A0 : Option Addr) (c0 : Nat) (l0 : List (S103)) (r : Bool) (w : World) (hr0 : Kd.C k103 w A0 l0.length l0) (hc0 : l0.length ≤ c0) (h : impl_IsShape.f k l0 = some r) :
    Calls Try.prog 114 #[.slice A0 l0.length c0] w fun e w' => e = .returned (.bool r) ∧ Below w.heap.size w w' := by
  have hu103 := Try.underlying103
  have HR0 := Aside0.mk hr0
  have HC0 := Aside0.mk hc0
  clear hr0 hc0
  have HB := Aside0.mk (Below.refl w.heap.size w)
  have H : (impl_IsShape.l0 k l0 l0 (l0.length : Int) 0) = some r := h
  clear h
  have H' := Aside0.mk H
  clear H
  go_enter Try.func114, Try.ntmps114
  go_wp2
  go_loopg [7] k (fun kq v7 w' => ∃ (x7_1 : Int), v7 = .int .i64 x7_1 ∧ Aside0 (impl_IsShape.l0 kq l0 l0 (l0.length : Int) x7_1 = some r) ∧ Aside0 (kq ≤ k) ∧ Aside0 (Below w.heap.size w w'))
  case atStart => exact ⟨(0), Fs, H', ⟨Nat.le_refl _⟩, ⟨Hb⟩⟩
  case round =>
    clear H'
    try clear c1
    obtain ⟨x7_1, rfl, HA, HK1, HB⟩ := hrel
    cases gk with
    | zero => exact absurd HA.out (by simp [impl_IsShape.l0])
    | succ k1 =>
      have H := HA.out
      clear HA
      simp only [impl_IsShape.l0] at H
      by_cases c2 : x7_1 < (l0.length : Int)
      · rw [if_pos c2] at H
        have c2b0 : decide (x7_1 < (l0.length : Int)) = true := decide_eq_true c2
        clear c2
        by_cases c3 : 0 ≤ x7_1
        · rw [if_pos c3] at H
          have c3b0 : decide (0 ≤ x7_1) = true := decide_eq_true c3
          clear c3
          by_cases c4 : x7_1 < (l0.length : Int)
          · rw [if_pos c4] at H
            have c4b0 : decide (x7_1 < (l0.length : Int)) = true := decide_eq_true c4
            clear c4
            obtain ⟨t185, A50, H⟩ := Option.bind_eq_some_iff.mp H
            have A5 := Aside0.mk A50
            clear A50
            by_cases c6 : t185 = true
            · subst c6
              rw [if_pos rfl] at H
              obtain ⟨t186, A70, H⟩ := Option.bind_eq_some_iff.mp H
              have A7 := Aside0.mk A70
              clear A70
              by_cases c8 : t186 = true
              · subst c8
                rw [if_pos rfl] at H
                by_cases c9 : x7_1 > 0
                · rw [if_pos c9] at H
                  have c9b0 : decide (0 < x7_1) = true := decide_eq_true c9
                  clear c9
                  obtain ⟨ji10, hji10⟩ : ∃ j_ : Int, (wrap64 (x7_1 - 1)) = j_ := ⟨_, rfl⟩
                  replace H : (if 0 ≤ (ji10) then (if (ji10) < (l0.length : Int) then ((impl_compareCells.f ((rd_T103 l0 (ji10)).f0) ((rd_T103 l0 (ji10)).f1) ((rd_T103 l0 x7_1).f0) ((rd_T103 l0 x7_1).f1)).bind fun t188 => (if t188 ≥ 0 then (some false) else (impl_IsShape.l0 k1 l0 l0 (l0.length : Int) (wrap64 (x7_1 + 1))))) else (none)) else (none)) = some r := by first | (rw [hji10] at H; exact H) | (simp only [hji10] at H ⊢; exact H)
                  (try rw [hji10] at A5)
                  (try rw [hji10] at A7)
                  have hji10w : (IntKind.i64.wrap (x7_1 - 1)) = ji10 := (i64_w _).trans hji10
                  by_cases c11 : 0 ≤ (ji10)
                  · rw [if_pos c11] at H
                    have c11b0 : decide (0 ≤ (ji10)) = true := decide_eq_true c11
                    clear c11
                    by_cases c12 : (ji10) < (l0.length : Int)
                    · rw [if_pos c12] at H
                      have c12b0 : decide ((ji10) < (l0.length : Int)) = true := decide_eq_true c12
                      clear c12
                      obtain ⟨t188, A130, H⟩ := Option.bind_eq_some_iff.mp H
                      have A13 := Aside0.mk A130
                      clear A130
                      by_cases c14 : t188 ≥ 0
                      · rw [if_pos c14] at H
                        have c14b0 : decide (0 ≤ t188) = true := decide_eq_true c14
                        clear c14
                        obtain rfl := Option.some.inj H
                        have p183 : 0 ≤ (x7_1 : Int) := oD
                        have q183 : x7_1 < (l0.length : Int) := oD
                        obtain ⟨ad183, e183, hx183_0, hx183_1⟩ := at_T103 HR0.out x7_1 p183 q183
                        cases e183
                        replace hx183_0 := hxb hx183_0
                        replace hx183_1 := hxb hx183_1
                        replace p183 := eq_true p183
                        replace q183 := eq_true q183
                        try go_wp2_with (first | ((with_reducible refine gD 4 ?_); (try (refine gate_guard (by rfl) ?_; dsimp only)); refine BX #[.int .i64 0, .int .i64 0] 103 ?_; intro gb184 hg w15 hbox hb; have BK184 := Aside0.mk (hbox); have GW184 := Aside0.mk ((Gle hg Hb : w.heap.size ≤ gb184)); have GE184 := Aside0.mk ((Gle hg Hb : w.heap.size ≤ gb184)); replace HB := Aside0.mk (below_step Hb hb); clear hb hbox hg; have hcz16_0 : w15.cell? ⟨gb184, 0, none⟩ = some (.int .i64 0) := bc BK184; have hcz16_1 : w15.cell? ⟨gb184, 1, none⟩ = some (.int .i64 0) := bc BK184; have hfz16_0 := blk_frozen BK184.out 0; have hfz16_1 := blk_frozen BK184.out 1))
                        have n0_ : Aside0 (((w15.setCell ⟨gb184, 0, none⟩ (.int .i64 ((rd_T103 l0 x7_1).f0))).setCell ⟨gb184, 1, none⟩ (.int .i64 ((rd_T103 l0 x7_1).f1))).heap[gb184]? = some (.cells #[.int .i64 ((rd_T103 l0 x7_1).f0), .int .i64 ((rd_T103 l0 x7_1).f1)] 103 (0, 0))) := ⟨by (with_reducible repeat (first | refine blk_drewN ?_ _ | refine blk_drew ?_ | refine blk_alloc ?_ _)); refine blk_put (cs := #[.int .i64 ((rd_T103 l0 x7_1).f0), .int .i64 0]) ?_ 1 _ rfl; (with_reducible repeat (first | refine blk_drewN ?_ _ | refine blk_drew ?_ | refine blk_alloc ?_ _)); refine blk_put (cs := #[.int .i64 0, .int .i64 0]) ?_ 0 _ rfl; (with_reducible repeat (first | refine blk_drewN ?_ _ | refine blk_drew ?_ | refine blk_alloc ?_ _)); exact BK184.out⟩
                        have n1_ : Aside0 (Below w.heap.size w ((w15.setCell ⟨gb184, 0, none⟩ (.int .i64 ((rd_T103 l0 x7_1).f0))).setCell ⟨gb184, 1, none⟩ (.int .i64 ((rd_T103 l0 x7_1).f1)))) := ⟨Hb⟩
                        (try clear BK184)
                        (try clear HB)
                        generalize ((w15.setCell ⟨gb184, 0, none⟩ (.int .i64 ((rd_T103 l0 x7_1).f0))).setCell ⟨gb184, 1, none⟩ (.int .i64 ((rd_T103 l0 x7_1).f1))) = w17 at n0_ n1_ ⊢
                        have BK184 := n0_
                        have HB := n1_
                        clear n0_ n1_
                        replace BK184 := Aside0.mk (blk_drew BK184.out)
                        replace HB := Aside0.mk (below_drew1 HB.out)
                        have p187 : 0 ≤ ((ji10) : Int) := oD
                        have q187 : (ji10) < (l0.length : Int) := oD
                        obtain ⟨ad187, e187, hx187_0, hx187_1⟩ := at_T103 HR0.out (ji10) p187 q187
                        have hw187_1 := hx187_1
                        have hw187_0 := hx187_0
                        obtain rfl : ad183 = ad187 := (by injection e187)
                        replace hx187_0 := hxb hx187_0
                        replace hx187_1 := hxb hx187_1
                        replace p187 := eq_true p187
                        replace q187 := eq_true q187
                        refine start_ (n := 24) (S := fun w' => w'.cell? ⟨gb184, 0, none⟩ = some (.int .i64 ((rd_T103 l0 x7_1).f0)) ∧ w'.cell? ⟨gb184, 1, none⟩ = some (.int .i64 ((rd_T103 l0 x7_1).f1)) ∧ w'.cell? (ad183.add (((ji10)).toNat * 2)) = some (.int .i64 ((rd_T103 l0 (ji10)).f0)) ∧ w'.cell? ⟨(ad183.add (((ji10)).toNat * 2)).block, (ad183.add (((ji10)).toNat * 2)).off + 1, none⟩ = some (.int .i64 ((rd_T103 l0 (ji10)).f1))) (ds := []) #[false, false, false, false, false, false, false, false, false, false, false, false, false, false, false, false, false, false, false, false, false, false, false, false] (by kernel_rfl) rfl rfl ⟨(blk_cell BK184.out 0).trans rfl, (blk_cell BK184.out 1).trans rfl, (hxb hw187_0), (hxb hw187_1)⟩ (fun hHeld => ?_); refine with_tabW impl_IsShape.tab4 impl_IsShape.bits4 (fun HT_ HW_ => ?_)
                        generalize w17.drew = w18 at BK184 HB hx187_0 hx187_1 hHeld ⊢
                        refine PU 0 12 ?_
                        refine TK 1 13 hHeld ?_
                        refine ON 2 14 (fun K hK => ?_)
                        refine GO Try.func150 #[.int .i64 ((rd_T103 l0 x7_1).f0)] ?_
                        with_reducible refine (impl_isCoordinate.calls ((rd_T103 l0 x7_1).f0) true _ A5.out).mono ?_
                        rintro e w' ⟨rfl, ⟨nd, rfl⟩⟩
                        refine ⟨_, rfl, ?_⟩
                        refine hK.out _ _ ⟨(blk_cell BK184.out 0).trans rfl, (blk_cell BK184.out 1).trans rfl, (hxb hw187_0), (hxb hw187_1)⟩ (fun hHeld => ?_)
                        clear hK K
                        refine NM ?_
                        refine PU 3 15 ?_
                        refine PU 4 16 ?_
                        refine PU 5 17 ?_
                        refine TK 6 18 hHeld ?_
                        refine ON 7 19 (fun K hK => ?_)
                        refine GO Try.func150 #[.int .i64 ((rd_T103 l0 x7_1).f1)] ?_
                        with_reducible refine (impl_isCoordinate.calls ((rd_T103 l0 x7_1).f1) true _ A7.out).mono ?_
                        rintro e w' ⟨rfl, ⟨nd, rfl⟩⟩
                        refine ⟨_, rfl, ?_⟩
                        refine hK.out _ _ ⟨(blk_cell BK184.out 0).trans rfl, (blk_cell BK184.out 1).trans rfl, (hxb hw187_0), (hxb hw187_1)⟩ (fun hHeld => ?_)
                        clear hK K
                        refine NM ?_
                        refine PU 8 20 ?_
                        refine PU 9 21 ?_
                        refine PU 10 22 ?_
                        refine PU 11 23 ?_
                        refine PU 12 24 ?_
                        refine PU 13 25 ?_
                        refine PU 14 26 ?_
                        refine PU 15 27 ?_
                        refine PU 16 28 ?_
                        refine PU 17 29 ?_
                        refine TK 18 30 hHeld ?_
                        refine TK 19 31 hHeld ?_
                        refine ON 20 32 (fun K hK => ?_)
                        refine goes_ Try.func151 (by kernel_rfl) rfl #[.agg #[.int .i64 ((rd_T103 l0 (ji10)).f0), .int .i64 ((rd_T103 l0 (ji10)).f1)], .agg #[.int .i64 ((rd_T103 l0 x7_1).f0), .int .i64 ((rd_T103 l0 x7_1).f1)]] (by rfl) rfl rfl (by (try simp only [List.map_toArray, List.map_cons, List.map_nil]); first | done | (simp only [hji10]; rfl) | rfl | (simp only [List.length_drop, List.length_take]; rfl)) ?_
                        with_reducible refine (impl_compareCells.calls ((rd_T103 l0 (ji10)).f0) ((rd_T103 l0 (ji10)).f1) ((rd_T103 l0 x7_1).f0) ((rd_T103 l0 x7_1).f1) t188 _ A13.out).mono ?_
                        rintro e w19 ⟨rfl, hb⟩
                        refine ⟨_, rfl, ?_⟩
                        replace BK184 := Aside0.mk (blk_below (B1 BK184) hb)
                        replace HB := Aside0.mk (below_step Hb hb)
                        (try clear hb)
                        (try clear hb2)
                        (try clear hk)
                        (try clear hi)
                        refine hK.out _ _ ⟨(blk_cell BK184.out 0).trans rfl, (blk_cell BK184.out 1).trans rfl, (hxb hw187_0), (hxb hw187_1)⟩ (fun hHeld => ?_)
                        clear hK K
                        refine NM ?_
                        refine PU 21 33 ?_
                        refine PU 22 34 ?_
                        refine PU 23 35 ?_
                        refine done_ (done_of HT_.out (by kernel_rfl)) ?_
                        try go_wp2
                        go_ret
                        exact ⟨by first | rfl | (simp [errW_none, errW_some] <;> rfl) | (simp only [← hji10]; first | rfl | (simp [errW_none, errW_some] <;> rfl)) | (simp [*, errW_none, errW_some] <;> rfl), Hb⟩
                      · rw [if_neg c14] at H
                        have c14b0 : decide (0 ≤ t188) = false := decide_eq_false c14
                        clear c14
                        have H' := Aside0.mk H
                        clear H
                        have p183 : 0 ≤ (x7_1 : Int) := oD
                        have q183 : x7_1 < (l0.length : Int) := oD
                        obtain ⟨ad183, e183, hx183_0, hx183_1⟩ := at_T103 HR0.out x7_1 p183 q183
                        cases e183
                        replace hx183_0 := hxb hx183_0
                        replace hx183_1 := hxb hx183_1
                        replace p183 := eq_true p183
                        replace q183 := eq_true q183
                        try go_wp2_with (first | ((with_reducible refine gD 4 ?_); (try (refine gate_guard (by rfl) ?_; dsimp only)); refine BX #[.int .i64 0, .int .i64 0] 103 ?_; intro gb184 hg w20 hbox hb; have BK184 := Aside0.mk (hbox); have GW184 := Aside0.mk ((Gle hg Hb : w.heap.size ≤ gb184)); have GE184 := Aside0.mk ((Gle hg Hb : w.heap.size ≤ gb184)); replace HB := Aside0.mk (below_step Hb hb); clear hb hbox hg; have hcz21_0 : w20.cell? ⟨gb184, 0, none⟩ = some (.int .i64 0) := bc BK184; have hcz21_1 : w20.cell? ⟨gb184, 1, none⟩ = some (.int .i64 0) := bc BK184; have hfz21_0 := blk_frozen BK184.out 0; have hfz21_1 := blk_frozen BK184.out 1))
                        have n0_ : Aside0 (((w20.setCell ⟨gb184, 0, none⟩ (.int .i64 ((rd_T103 l0 x7_1).f0))).setCell ⟨gb184, 1, none⟩ (.int .i64 ((rd_T103 l0 x7_1).f1))).heap[gb184]? = some (.cells #[.int .i64 ((rd_T103 l0 x7_1).f0), .int .i64 ((rd_T103 l0 x7_1).f1)] 103 (0, 0))) := ⟨by (with_reducible repeat (first | refine blk_drewN ?_ _ | refine blk_drew ?_ | refine blk_alloc ?_ _)); refine blk_put (cs := #[.int .i64 ((rd_T103 l0 x7_1).f0), .int .i64 0]) ?_ 1 _ rfl; (with_reducible repeat (first | refine blk_drewN ?_ _ | refine blk_drew ?_ | refine blk_alloc ?_ _)); refine blk_put (cs := #[.int .i64 0, .int .i64 0]) ?_ 0 _ rfl; (with_reducible repeat (first | refine blk_drewN ?_ _ | refine blk_drew ?_ | refine blk_alloc ?_ _)); exact BK184.out⟩
                        have n1_ : Aside0 (Below w.heap.size w ((w20.setCell ⟨gb184, 0, none⟩ (.int .i64 ((rd_T103 l0 x7_1).f0))).setCell ⟨gb184, 1, none⟩ (.int .i64 ((rd_T103 l0 x7_1).f1)))) := ⟨Hb⟩
                        (try clear BK184)
                        (try clear HB)
                        generalize ((w20.setCell ⟨gb184, 0, none⟩ (.int .i64 ((rd_T103 l0 x7_1).f0))).setCell ⟨gb184, 1, none⟩ (.int .i64 ((rd_T103 l0 x7_1).f1))) = w22 at n0_ n1_ ⊢
                        have BK184 := n0_
                        have HB := n1_
                        clear n0_ n1_
                        replace BK184 := Aside0.mk (blk_drew BK184.out)
                        replace HB := Aside0.mk (below_drew1 HB.out)
                        have p187 : 0 ≤ ((ji10) : Int) := oD
                        have q187 : (ji10) < (l0.length : Int) := oD
                        obtain ⟨ad187, e187, hx187_0, hx187_1⟩ := at_T103 HR0.out (ji10) p187 q187
                        have hw187_1 := hx187_1
                        have hw187_0 := hx187_0
                        obtain rfl : ad183 = ad187 := (by injection e187)
                        replace hx187_0 := hxb hx187_0
                        replace hx187_1 := hxb hx187_1
                        replace p187 := eq_true p187
                        replace q187 := eq_true q187
                        refine start_ (n := 24) (S := fun w' => w'.cell? ⟨gb184, 0, none⟩ = some (.int .i64 ((rd_T103 l0 x7_1).f0)) ∧ w'.cell? ⟨gb184, 1, none⟩ = some (.int .i64 ((rd_T103 l0 x7_1).f1)) ∧ w'.cell? (ad183.add (((ji10)).toNat * 2)) = some (.int .i64 ((rd_T103 l0 (ji10)).f0)) ∧ w'.cell? ⟨(ad183.add (((ji10)).toNat * 2)).block, (ad183.add (((ji10)).toNat * 2)).off + 1, none⟩ = some (.int .i64 ((rd_T103 l0 (ji10)).f1))) (ds := []) #[false, false, false, false, false, false, false, false, false, false, false, false, false, false, false, false, false, false, false, false, false, false, false, false] (by kernel_rfl) rfl rfl ⟨(blk_cell BK184.out 0).trans rfl, (blk_cell BK184.out 1).trans rfl, (hxb hw187_0), (hxb hw187_1)⟩ (fun hHeld => ?_); refine with_tabW impl_IsShape.tab4 impl_IsShape.bits4 (fun HT_ HW_ => ?_)
                        generalize w22.drew = w23 at BK184 HB hx187_0 hx187_1 hHeld ⊢
                        refine PU 0 12 ?_
                        refine TK 1 13 hHeld ?_
                        refine ON 2 14 (fun K hK => ?_)
                        refine GO Try.func150 #[.int .i64 ((rd_T103 l0 x7_1).f0)] ?_
                        with_reducible refine (impl_isCoordinate.calls ((rd_T103 l0 x7_1).f0) true _ A5.out).mono ?_
                        rintro e w' ⟨rfl, ⟨nd, rfl⟩⟩
                        refine ⟨_, rfl, ?_⟩
                        refine hK.out _ _ ⟨(blk_cell BK184.out 0).trans rfl, (blk_cell BK184.out 1).trans rfl, (hxb hw187_0), (hxb hw187_1)⟩ (fun hHeld => ?_)
                        clear hK K
                        refine NM ?_
                        refine PU 3 15 ?_
                        refine PU 4 16 ?_
                        refine PU 5 17 ?_
                        refine TK 6 18 hHeld ?_
                        refine ON 7 19 (fun K hK => ?_)
                        refine GO Try.func150 #[.int .i64 ((rd_T103 l0 x7_1).f1)] ?_
                        with_reducible refine (impl_isCoordinate.calls ((rd_T103 l0 x7_1).f1) true _ A7.out).mono ?_
                        rintro e w' ⟨rfl, ⟨nd, rfl⟩⟩
                        refine ⟨_, rfl, ?_⟩
                        refine hK.out _ _ ⟨(blk_cell BK184.out 0).trans rfl, (blk_cell BK184.out 1).trans rfl, (hxb hw187_0), (hxb hw187_1)⟩ (fun hHeld => ?_)
                        clear hK K
                        refine NM ?_
                        refine PU 8 20 ?_
                        refine PU 9 21 ?_
                        refine PU 10 22 ?_
                        refine PU 11 23 ?_
                        refine PU 12 24 ?_
                        refine PU 13 25 ?_
                        refine PU 14 26 ?_
                        refine PU 15 27 ?_
                        refine PU 16 28 ?_
                        refine PU 17 29 ?_
                        refine TK 18 30 hHeld ?_
                        refine TK 19 31 hHeld ?_
                        refine ON 20 32 (fun K hK => ?_)
                        refine goes_ Try.func151 (by kernel_rfl) rfl #[.agg #[.int .i64 ((rd_T103 l0 (ji10)).f0), .int .i64 ((rd_T103 l0 (ji10)).f1)], .agg #[.int .i64 ((rd_T103 l0 x7_1).f0), .int .i64 ((rd_T103 l0 x7_1).f1)]] (by rfl) rfl rfl (by (try simp only [List.map_toArray, List.map_cons, List.map_nil]); first | done | (simp only [hji10]; rfl) | rfl | (simp only [List.length_drop, List.length_take]; rfl)) ?_
                        with_reducible refine (impl_compareCells.calls ((rd_T103 l0 (ji10)).f0) ((rd_T103 l0 (ji10)).f1) ((rd_T103 l0 x7_1).f0) ((rd_T103 l0 x7_1).f1) t188 _ A13.out).mono ?_
                        rintro e w24 ⟨rfl, hb⟩
                        refine ⟨_, rfl, ?_⟩
                        replace BK184 := Aside0.mk (blk_below (B1 BK184) hb)
                        replace HB := Aside0.mk (below_step Hb hb)
                        (try clear hb)
                        (try clear hb2)
                        (try clear hk)
                        (try clear hi)
                        refine hK.out _ _ ⟨(blk_cell BK184.out 0).trans rfl, (blk_cell BK184.out 1).trans rfl, (hxb hw187_0), (hxb hw187_1)⟩ (fun hHeld => ?_)
                        clear hK K
                        refine NM ?_
                        refine PU 21 33 ?_
                        refine PU 22 34 ?_
                        refine PU 23 35 ?_
                        refine done_ (done_of HT_.out (by kernel_rfl)) ?_
                        try go_wp2
                        go_roundg k1
                        case measure => have := HK1.out; omega
                        case rel => exact ⟨(wrap64 (x7_1 + 1)), Fs, H', ⟨by have := HK1.out; omega⟩, ⟨Hb⟩⟩
                    · rw [if_neg c12] at H
                      exact absurd H (by simp)
                  · rw [if_neg c11] at H
                    exact absurd H (by simp)
                · rw [if_neg c9] at H
                  have c9b0 : decide (0 < x7_1) = false := decide_eq_false c9
                  clear c9
                  have H' := Aside0.mk H
                  clear H
                  have p183 : 0 ≤ (x7_1 : Int) := oD
                  have q183 : x7_1 < (l0.length : Int) := oD
                  obtain ⟨ad183, e183, hx183_0, hx183_1⟩ := at_T103 HR0.out x7_1 p183 q183
                  cases e183
                  replace hx183_0 := hxb hx183_0
                  replace hx183_1 := hxb hx183_1
                  replace p183 := eq_true p183
                  replace q183 := eq_true q183
                  try go_wp2_with (first | ((with_reducible refine gD 4 ?_); (try (refine gate_guard (by rfl) ?_; dsimp only)); refine BX #[.int .i64 0, .int .i64 0] 103 ?_; intro gb184 hg w25 hbox hb; have BK184 := Aside0.mk (hbox); have GW184 := Aside0.mk ((Gle hg Hb : w.heap.size ≤ gb184)); have GE184 := Aside0.mk ((Gle hg Hb : w.heap.size ≤ gb184)); replace HB := Aside0.mk (below_step Hb hb); clear hb hbox hg; have hcz26_0 : w25.cell? ⟨gb184, 0, none⟩ = some (.int .i64 0) := bc BK184; have hcz26_1 : w25.cell? ⟨gb184, 1, none⟩ = some (.int .i64 0) := bc BK184; have hfz26_0 := blk_frozen BK184.out 0; have hfz26_1 := blk_frozen BK184.out 1))
                  have n0_ : Aside0 (((w25.setCell ⟨gb184, 0, none⟩ (.int .i64 ((rd_T103 l0 x7_1).f0))).setCell ⟨gb184, 1, none⟩ (.int .i64 ((rd_T103 l0 x7_1).f1))).heap[gb184]? = some (.cells #[.int .i64 ((rd_T103 l0 x7_1).f0), .int .i64 ((rd_T103 l0 x7_1).f1)] 103 (0, 0))) := ⟨by (with_reducible repeat (first | refine blk_drewN ?_ _ | refine blk_drew ?_ | refine blk_alloc ?_ _)); refine blk_put (cs := #[.int .i64 ((rd_T103 l0 x7_1).f0), .int .i64 0]) ?_ 1 _ rfl; (with_reducible repeat (first | refine blk_drewN ?_ _ | refine blk_drew ?_ | refine blk_alloc ?_ _)); refine blk_put (cs := #[.int .i64 0, .int .i64 0]) ?_ 0 _ rfl; (with_reducible repeat (first | refine blk_drewN ?_ _ | refine blk_drew ?_ | refine blk_alloc ?_ _)); exact BK184.out⟩
                  have n1_ : Aside0 (Below w.heap.size w ((w25.setCell ⟨gb184, 0, none⟩ (.int .i64 ((rd_T103 l0 x7_1).f0))).setCell ⟨gb184, 1, none⟩ (.int .i64 ((rd_T103 l0 x7_1).f1)))) := ⟨Hb⟩
                  (try clear BK184)
                  (try clear HB)
                  generalize ((w25.setCell ⟨gb184, 0, none⟩ (.int .i64 ((rd_T103 l0 x7_1).f0))).setCell ⟨gb184, 1, none⟩ (.int .i64 ((rd_T103 l0 x7_1).f1))) = w27 at n0_ n1_ ⊢
                  have BK184 := n0_
                  have HB := n1_
                  clear n0_ n1_
                  replace BK184 := Aside0.mk (blk_drew BK184.out)
                  replace HB := Aside0.mk (below_drew1 HB.out)
                  refine start_ (n := 24) (S := fun w' => w'.cell? ⟨gb184, 0, none⟩ = some (.int .i64 ((rd_T103 l0 x7_1).f0)) ∧ w'.cell? ⟨gb184, 1, none⟩ = some (.int .i64 ((rd_T103 l0 x7_1).f1))) (ds := []) #[false, false, false, false, false, false, false, false, false, false, false, false, false, false, false, false, false, false, false, false, false, false, false, false] (by kernel_rfl) rfl rfl ⟨(blk_cell BK184.out 0).trans rfl, (blk_cell BK184.out 1).trans rfl⟩ (fun hHeld => ?_); refine with_tabW impl_IsShape.tab4 impl_IsShape.bits4 (fun HT_ HW_ => ?_)
                  generalize w27.drew = w28 at BK184 HB hHeld ⊢
                  refine PU 0 12 ?_
                  refine TK 1 13 hHeld ?_
                  refine ON 2 14 (fun K hK => ?_)
                  refine GO Try.func150 #[.int .i64 ((rd_T103 l0 x7_1).f0)] ?_
                  with_reducible refine (impl_isCoordinate.calls ((rd_T103 l0 x7_1).f0) true _ A5.out).mono ?_
                  rintro e w' ⟨rfl, ⟨nd, rfl⟩⟩
                  refine ⟨_, rfl, ?_⟩
                  refine hK.out _ _ ⟨(blk_cell BK184.out 0).trans rfl, (blk_cell BK184.out 1).trans rfl⟩ (fun hHeld => ?_)
                  clear hK K
                  refine NM ?_
                  refine PU 3 15 ?_
                  refine PU 4 16 ?_
                  refine PU 5 17 ?_
                  refine TK 6 18 hHeld ?_
                  refine ON 7 19 (fun K hK => ?_)
                  refine GO Try.func150 #[.int .i64 ((rd_T103 l0 x7_1).f1)] ?_
                  with_reducible refine (impl_isCoordinate.calls ((rd_T103 l0 x7_1).f1) true _ A7.out).mono ?_
                  rintro e w' ⟨rfl, ⟨nd, rfl⟩⟩
                  refine ⟨_, rfl, ?_⟩
                  refine hK.out _ _ ⟨(blk_cell BK184.out 0).trans rfl, (blk_cell BK184.out 1).trans rfl⟩ (fun hHeld => ?_)
                  clear hK K
                  refine NM ?_
                  refine PU 8 20 ?_
                  refine PU 9 21 ?_
                  refine PU 10 22 ?_
                  refine PU 11 23 ?_
                  refine PU 12 24 ?_
                  refine PU 13 25 ?_
                  refine PV 14 26 ?_
                  refine PV 15 27 ?_
                  refine PV 16 28 ?_
                  refine PV 17 29 ?_
                  refine PV 18 30 ?_
                  refine PV 19 31 ?_
                  refine PV 20 32 ?_
                  refine PV 21 33 ?_
                  refine PU 22 34 ?_
                  refine PU 23 35 ?_
                  refine done_ (done_of HT_.out (by kernel_rfl)) ?_
                  try go_wp2
                  go_roundg k1
                  case measure => have := HK1.out; omega
                  case rel => exact ⟨(wrap64 (x7_1 + 1)), Fs, H', ⟨by have := HK1.out; omega⟩, ⟨Hb⟩⟩
              · replace c8 := Bool.eq_false_iff.mpr c8
                subst c8
                rw [if_neg (show ¬ (false = true) by decide)] at H
                obtain rfl := Option.some.inj H
                have p183 : 0 ≤ (x7_1 : Int) := oD
                have q183 : x7_1 < (l0.length : Int) := oD
                obtain ⟨ad183, e183, hx183_0, hx183_1⟩ := at_T103 HR0.out x7_1 p183 q183
                cases e183
                replace hx183_0 := hxb hx183_0
                replace hx183_1 := hxb hx183_1
                replace p183 := eq_true p183
                replace q183 := eq_true q183
                try go_wp2_with (first | ((with_reducible refine gD 4 ?_); (try (refine gate_guard (by rfl) ?_; dsimp only)); refine BX #[.int .i64 0, .int .i64 0] 103 ?_; intro gb184 hg w29 hbox hb; have BK184 := Aside0.mk (hbox); have GW184 := Aside0.mk ((Gle hg Hb : w.heap.size ≤ gb184)); have GE184 := Aside0.mk ((Gle hg Hb : w.heap.size ≤ gb184)); replace HB := Aside0.mk (below_step Hb hb); clear hb hbox hg; have hcz30_0 : w29.cell? ⟨gb184, 0, none⟩ = some (.int .i64 0) := bc BK184; have hcz30_1 : w29.cell? ⟨gb184, 1, none⟩ = some (.int .i64 0) := bc BK184; have hfz30_0 := blk_frozen BK184.out 0; have hfz30_1 := blk_frozen BK184.out 1))
                have n0_ : Aside0 (((w29.setCell ⟨gb184, 0, none⟩ (.int .i64 ((rd_T103 l0 x7_1).f0))).setCell ⟨gb184, 1, none⟩ (.int .i64 ((rd_T103 l0 x7_1).f1))).heap[gb184]? = some (.cells #[.int .i64 ((rd_T103 l0 x7_1).f0), .int .i64 ((rd_T103 l0 x7_1).f1)] 103 (0, 0))) := ⟨by (with_reducible repeat (first | refine blk_drewN ?_ _ | refine blk_drew ?_ | refine blk_alloc ?_ _)); refine blk_put (cs := #[.int .i64 ((rd_T103 l0 x7_1).f0), .int .i64 0]) ?_ 1 _ rfl; (with_reducible repeat (first | refine blk_drewN ?_ _ | refine blk_drew ?_ | refine blk_alloc ?_ _)); refine blk_put (cs := #[.int .i64 0, .int .i64 0]) ?_ 0 _ rfl; (with_reducible repeat (first | refine blk_drewN ?_ _ | refine blk_drew ?_ | refine blk_alloc ?_ _)); exact BK184.out⟩
                have n1_ : Aside0 (Below w.heap.size w ((w29.setCell ⟨gb184, 0, none⟩ (.int .i64 ((rd_T103 l0 x7_1).f0))).setCell ⟨gb184, 1, none⟩ (.int .i64 ((rd_T103 l0 x7_1).f1)))) := ⟨Hb⟩
                (try clear BK184)
                (try clear HB)
                generalize ((w29.setCell ⟨gb184, 0, none⟩ (.int .i64 ((rd_T103 l0 x7_1).f0))).setCell ⟨gb184, 1, none⟩ (.int .i64 ((rd_T103 l0 x7_1).f1))) = w31 at n0_ n1_ ⊢
                have BK184 := n0_
                have HB := n1_
                clear n0_ n1_
                replace BK184 := Aside0.mk (blk_drew BK184.out)
                replace HB := Aside0.mk (below_drew1 HB.out)
                refine start_ (n := 24) (S := fun w' => w'.cell? ⟨gb184, 0, none⟩ = some (.int .i64 ((rd_T103 l0 x7_1).f0)) ∧ w'.cell? ⟨gb184, 1, none⟩ = some (.int .i64 ((rd_T103 l0 x7_1).f1))) (ds := []) #[false, false, false, false, false, false, false, false, false, false, false, false, false, false, false, false, false, false, false, false, false, false, false, false] (by kernel_rfl) rfl rfl ⟨(blk_cell BK184.out 0).trans rfl, (blk_cell BK184.out 1).trans rfl⟩ (fun hHeld => ?_); refine with_tabW impl_IsShape.tab4 impl_IsShape.bits4 (fun HT_ HW_ => ?_)
                generalize w31.drew = w32 at BK184 HB hHeld ⊢
                refine PU 0 12 ?_
                refine TK 1 13 hHeld ?_
                refine ON 2 14 (fun K hK => ?_)
                refine GO Try.func150 #[.int .i64 ((rd_T103 l0 x7_1).f0)] ?_
                with_reducible refine (impl_isCoordinate.calls ((rd_T103 l0 x7_1).f0) true _ A5.out).mono ?_
                rintro e w' ⟨rfl, ⟨nd, rfl⟩⟩
                refine ⟨_, rfl, ?_⟩
                refine hK.out _ _ ⟨(blk_cell BK184.out 0).trans rfl, (blk_cell BK184.out 1).trans rfl⟩ (fun hHeld => ?_)
                clear hK K
                refine NM ?_
                refine PU 3 15 ?_
                refine PU 4 16 ?_
                refine PU 5 17 ?_
                refine TK 6 18 hHeld ?_
                refine ON 7 19 (fun K hK => ?_)
                refine GO Try.func150 #[.int .i64 ((rd_T103 l0 x7_1).f1)] ?_
                with_reducible refine (impl_isCoordinate.calls ((rd_T103 l0 x7_1).f1) false _ A7.out).mono ?_
                rintro e w' ⟨rfl, ⟨nd, rfl⟩⟩
                refine ⟨_, rfl, ?_⟩
                refine hK.out _ _ ⟨(blk_cell BK184.out 0).trans rfl, (blk_cell BK184.out 1).trans rfl⟩ (fun hHeld => ?_)
                clear hK K
                refine NM ?_
                refine PU 8 20 ?_
                refine PU 9 21 ?_
                refine PU 10 22 ?_
                refine PV 11 23 ?_
                refine PV 12 24 ?_
                refine PV 13 25 ?_
                refine PV 14 26 ?_
                refine PV 15 27 ?_
                refine PV 16 28 ?_
                refine PV 17 29 ?_
                refine PV 18 30 ?_
                refine PV 19 31 ?_
                refine PV 20 32 ?_
                refine PV 21 33 ?_
                refine PV 22 34 ?_
                refine PU 23 35 ?_
                refine done_ (done_of HT_.out (by kernel_rfl)) ?_
                try go_wp2
                go_ret
                exact ⟨Fin, Hb⟩
            · replace c6 := Bool.eq_false_iff.mpr c6
              subst c6
              rw [if_neg (show ¬ (false = true) by decide)] at H
              obtain rfl := Option.some.inj H
              have p183 : 0 ≤ (x7_1 : Int) := oD
              have q183 : x7_1 < (l0.length : Int) := oD
              obtain ⟨ad183, e183, hx183_0, hx183_1⟩ := at_T103 HR0.out x7_1 p183 q183
              cases e183
              replace hx183_0 := hxb hx183_0
              replace hx183_1 := hxb hx183_1
              replace p183 := eq_true p183
              replace q183 := eq_true q183
              try go_wp2_with (first | ((with_reducible refine gD 4 ?_); (try (refine gate_guard (by rfl) ?_; dsimp only)); refine BX #[.int .i64 0, .int .i64 0] 103 ?_; intro gb184 hg w33 hbox hb; have BK184 := Aside0.mk (hbox); have GW184 := Aside0.mk ((Gle hg Hb : w.heap.size ≤ gb184)); have GE184 := Aside0.mk ((Gle hg Hb : w.heap.size ≤ gb184)); replace HB := Aside0.mk (below_step Hb hb); clear hb hbox hg; have hcz34_0 : w33.cell? ⟨gb184, 0, none⟩ = some (.int .i64 0) := bc BK184; have hcz34_1 : w33.cell? ⟨gb184, 1, none⟩ = some (.int .i64 0) := bc BK184; have hfz34_0 := blk_frozen BK184.out 0; have hfz34_1 := blk_frozen BK184.out 1))
              have n0_ : Aside0 (((w33.setCell ⟨gb184, 0, none⟩ (.int .i64 ((rd_T103 l0 x7_1).f0))).setCell ⟨gb184, 1, none⟩ (.int .i64 ((rd_T103 l0 x7_1).f1))).heap[gb184]? = some (.cells #[.int .i64 ((rd_T103 l0 x7_1).f0), .int .i64 ((rd_T103 l0 x7_1).f1)] 103 (0, 0))) := ⟨by (with_reducible repeat (first | refine blk_drewN ?_ _ | refine blk_drew ?_ | refine blk_alloc ?_ _)); refine blk_put (cs := #[.int .i64 ((rd_T103 l0 x7_1).f0), .int .i64 0]) ?_ 1 _ rfl; (with_reducible repeat (first | refine blk_drewN ?_ _ | refine blk_drew ?_ | refine blk_alloc ?_ _)); refine blk_put (cs := #[.int .i64 0, .int .i64 0]) ?_ 0 _ rfl; (with_reducible repeat (first | refine blk_drewN ?_ _ | refine blk_drew ?_ | refine blk_alloc ?_ _)); exact BK184.out⟩
              have n1_ : Aside0 (Below w.heap.size w ((w33.setCell ⟨gb184, 0, none⟩ (.int .i64 ((rd_T103 l0 x7_1).f0))).setCell ⟨gb184, 1, none⟩ (.int .i64 ((rd_T103 l0 x7_1).f1)))) := ⟨Hb⟩
              (try clear BK184)
              (try clear HB)
              generalize ((w33.setCell ⟨gb184, 0, none⟩ (.int .i64 ((rd_T103 l0 x7_1).f0))).setCell ⟨gb184, 1, none⟩ (.int .i64 ((rd_T103 l0 x7_1).f1))) = w35 at n0_ n1_ ⊢
              have BK184 := n0_
              have HB := n1_
              clear n0_ n1_
              replace BK184 := Aside0.mk (blk_drew BK184.out)
              replace HB := Aside0.mk (below_drew1 HB.out)
              refine start_ (n := 24) (S := fun w' => w'.cell? ⟨gb184, 0, none⟩ = some (.int .i64 ((rd_T103 l0 x7_1).f0)) ∧ w'.cell? ⟨gb184, 1, none⟩ = some (.int .i64 ((rd_T103 l0 x7_1).f1))) (ds := []) #[false, false, false, false, false, false, false, false, false, false, false, false, false, false, false, false, false, false, false, false, false, false, false, false] (by kernel_rfl) rfl rfl ⟨(blk_cell BK184.out 0).trans rfl, (blk_cell BK184.out 1).trans rfl⟩ (fun hHeld => ?_); refine with_tabW impl_IsShape.tab4 impl_IsShape.bits4 (fun HT_ HW_ => ?_)
              generalize w35.drew = w36 at BK184 HB hHeld ⊢
              refine PU 0 12 ?_
              refine TK 1 13 hHeld ?_
              refine ON 2 14 (fun K hK => ?_)
              refine GO Try.func150 #[.int .i64 ((rd_T103 l0 x7_1).f0)] ?_
              with_reducible refine (impl_isCoordinate.calls ((rd_T103 l0 x7_1).f0) false _ A5.out).mono ?_
              rintro e w' ⟨rfl, ⟨nd, rfl⟩⟩
              refine ⟨_, rfl, ?_⟩
              refine hK.out _ _ ⟨(blk_cell BK184.out 0).trans rfl, (blk_cell BK184.out 1).trans rfl⟩ (fun hHeld => ?_)
              clear hK K
              refine NM ?_
              refine PU 3 15 ?_
              refine PU 4 16 ?_
              refine PV 5 17 ?_
              refine PV 6 18 ?_
              refine PV 7 19 ?_
              refine PV 8 20 ?_
              refine PU 9 21 ?_
              refine PU 10 22 ?_
              refine PV 11 23 ?_
              refine PV 12 24 ?_
              refine PV 13 25 ?_
              refine PV 14 26 ?_
              refine PV 15 27 ?_
              refine PV 16 28 ?_
              refine PV 17 29 ?_
              refine PV 18 30 ?_
              refine PV 19 31 ?_
              refine PV 20 32 ?_
              refine PV 21 33 ?_
              refine PV 22 34 ?_
              refine PU 23 35 ?_
              refine done_ (done_of HT_.out (by kernel_rfl)) ?_
              try go_wp2
              go_ret
              exact ⟨Fin, Hb⟩
          · rw [if_neg c4] at H
            exact absurd H (by simp)
        · rw [if_neg c3] at H
          exact absurd H (by simp)
      · rw [if_neg c2] at H
        have c2b0 : decide (x7_1 < (l0.length : Int)) = false := decide_eq_false c2
        clear c2
        by_cases c37 : (l0.length : Int) ≥ 1
        · rw [if_pos c37] at H
          have c37b0 : decide (1 ≤ (l0.length : Int)) = true := decide_eq_true c37
          have c37b1 : decide (1 ≤ l0.length) = true := decide_eq_true (by omega)
          clear c37
          obtain rfl := Option.some.inj H
          go_wp2
          go_ret
          exact ⟨Fin, Hb⟩
        · rw [if_neg c37] at H
          have c37b0 : decide (1 ≤ (l0.length : Int)) = false := decide_eq_false c37
          have c37b1 : decide (1 ≤ l0.length) = false := decide_eq_false (by omega)
          clear c37
          obtain rfl := Option.some.inj H
          go_wp2
          go_ret
          exact ⟨Fin, Hb⟩

/-! ### impl_corner: function 127 -/
def impl_corner.l0 : Nat → List (S103) → Int → Int → Int → Int → Option (Int × Int)
  | 0, _, _, _, _, _ => none
  | k + 1, x9, x10, x11, x192000, x192001 => if x11 < x10 then (if 0 ≤ x11 then (if x11 < (x9.length : Int) then (impl_corner.l0 k x9 x10 (wrap64 (x11 + 1)) (mn x192000 ((rd_T103 x9 x11).f0)) (mn x192001 ((rd_T103 x9 x11).f1))) else (none)) else (none)) else (some (x192000, x192001))
def impl_corner.f (k : Nat) (l0 : List (S103)) : Option (Int × Int) := if 0 < (l0.length : Int) then (impl_corner.l0 k l0 (l0.length : Int) 0 ((rd_T103 l0 0).f0) ((rd_T103 l0 0).f1)) else (none)
theorem impl_corner.mono_l : ∀ k, (∀ y0 y1 y2 y3 y4, LeO (impl_corner.l0 k y0 y1 y2 y3 y4) (impl_corner.l0 (k + 1) y0 y1 y2 y3 y4))
  | 0 => fun _ _ _ _ _ r h => by simp [impl_corner.l0] at h
  | k + 1 => by
    have ih0 := impl_corner.mono_l k
    · intro y0 y1 y2 y3 y4
      unfold impl_corner.l0
      repeat' first
      | (with_reducible exact ih0 _ _ _ _ _)
      | (with_reducible exact LeO.refl _)
      | (with_reducible exact LeO.none _)
      | (with_reducible refine LeO.ite ?_ ?_)
      | (with_reducible refine LeO.bind ?_ (fun _ => ?_))
      | exact ih0 _ _ _ _ _
      | exact LeO.none _
      | refine LeO.ite ?_ ?_
      | refine LeO.bind ?_ (fun _ => ?_)
theorem impl_corner.mono : ∀ a0 k, LeO (impl_corner.f k a0) (impl_corner.f (k + 1) a0) := by
  intro a0 k
  have ih0 := impl_corner.mono_l k
  unfold impl_corner.f
  repeat' first
      | (with_reducible exact ih0 _ _ _ _ _)
      | (with_reducible exact LeO.refl _)
      | (with_reducible exact LeO.none _)
      | (with_reducible refine LeO.ite ?_ ?_)
      | (with_reducible refine LeO.bind ?_ (fun _ => ?_))
      | exact ih0 _ _ _ _ _
      | exact LeO.none _
      | refine LeO.ite ?_ ?_
      | refine LeO.bind ?_ (fun _ => ?_)
set_option maxHeartbeats 8000000 in
set_option maxRecDepth 100000 in
theorem impl_corner.calls (k : Nat) (A0 : Option Addr) (c0 : Nat) (l0 : List (S103)) (r1 : Int) (r2 : Int) (w : World) (hr0 : Kd.C k103 w A0 l0.length l0) (hc0 : l0.length ≤ c0) (h : impl_corner.f k l0 = some (r1, r2)) :
    Calls Try.prog 127 #[.slice A0 l0.length c0] w fun e w' => e = .returned (.agg #[.int .i64 r1, .int .i64 r2]) ∧ Below w.heap.size w w' := by
  have hu103 := Try.underlying103
  have HR0 := Aside0.mk hr0
  have HC0 := Aside0.mk hc0
  clear hr0 hc0
  have HB := Aside0.mk (Below.refl w.heap.size w)
  have H : (if 0 < (l0.length : Int) then (impl_corner.l0 k l0 (l0.length : Int) 0 ((rd_T103 l0 0).f0) ((rd_T103 l0 0).f1)) else (none)) = some (r1, r2) := h
  clear h
  by_cases c2 : 0 < (l0.length : Int)
  · rw [if_pos c2] at H
    have c2b0 : decide (0 < (l0.length : Int)) = true := decide_eq_true c2
    have c2b1 : decide (0 < l0.length) = true := decide_eq_true (by omega)
    clear c2
    have H' := Aside0.mk H
    clear H
    go_enter Try.func127, Try.ntmps127
    go_wp2_with (first | ((with_reducible refine gD 2 ?_); refine BX #[.int .i64 0, .int .i64 0] 103 ?_; intro gb189 hg w3 hbox hb; have BK189 := Aside0.mk (hbox); have GW189 := Aside0.mk ((Gle hg Hb : w.heap.size ≤ gb189)); have GE189 := Aside0.mk ((Gle hg Hb : w.heap.size ≤ gb189)); replace HB := Aside0.mk (below_step Hb hb); clear hb hbox hg; have p190 : 0 ≤ (0 : Int) := (by omega); have q190 : 0 < (l0.length : Int) := oD; obtain ⟨ad190, e190, hx190_0, hx190_1⟩ := at_T103 HR0.out 0 p190 q190; cases e190; have qi190 : (0 < l0.length) = True := eq_true (by omega); (try rw [show ((0 : Int)).toNat = 0 from rfl] at hx190_0); (try rw [show 0 * 2 = 0 from rfl] at hx190_0); (try rw [Addr.add_zero'] at hx190_0); (try rw [show ((0 : Int)).toNat = 0 from rfl] at hx190_1); (try rw [show 0 * 2 = 0 from rfl] at hx190_1); (try rw [Addr.add_zero'] at hx190_1); replace hx190_0 := hxb hx190_0; replace hx190_1 := hxb hx190_1; replace p190 := eq_true p190; replace q190 := eq_true q190) | ((with_reducible refine gD 3 ?_); refine BX #[.int .i64 0, .int .i64 0] 103 ?_; intro gb191 hg w4 hbox hb; have BK191 := Aside0.mk (hbox); have GW191 := Aside0.mk ((Gle hg Hb : w.heap.size ≤ gb191)); have GE191 := Aside0.mk ((Gle hg Hb : w.heap.size ≤ gb191)); replace HB := Aside0.mk (below_step Hb hb); have NB189_191 := Aside0.mk ((by rw [hg]; exact Nat.ne_of_lt (blk_lt (B1 BK189)) : gb189 ≠ gb191)); have NB191_189 := Aside0.mk ((by rw [hg]; exact Nat.ne_of_gt (blk_lt (B1 BK189)) : gb191 ≠ gb189)); replace BK189 := Aside0.mk (blk_below (B1 BK189) hb); clear hb hbox hg; have hnb5 := NB191_189.out; have hnc5 := NB189_191.out; have hcz6_0 : w4.cell? ⟨gb191, 0, none⟩ = some (.int .i64 0) := bc BK191; have hcz6_1 : w4.cell? ⟨gb191, 1, none⟩ = some (.int .i64 0) := bc BK191; have hfz6_0 := blk_frozen BK191.out 0; have hfz6_1 := blk_frozen BK191.out 1))
    go_loopg [11] k (fun kq v11 w' => ∃ (x11_1 : Int) (x192000_1 : Int) (x192001_1 : Int), v11 = .int .i64 x11_1 ∧ Aside0 (impl_corner.l0 kq l0 (l0.length : Int) x11_1 x192000_1 x192001_1 = some (r1, r2)) ∧ Aside0 (kq ≤ k) ∧ Aside0 (w'.heap[gb189]? = some (.cells #[.int .i64 0, .int .i64 0] 103 (0, 0))) ∧ Aside0 (w'.heap[gb191]? = some (.cells #[.int .i64 x192000_1, .int .i64 x192001_1] 103 (0, 0))) ∧ Aside0 (Below w.heap.size w w'))
    case atStart => exact ⟨(0), ((rd_T103 l0 0).f0), ((rd_T103 l0 0).f1), Fs, H', ⟨Nat.le_refl _⟩, ⟨by (with_reducible repeat (first | refine blk_drewN ?_ _ | refine blk_drew ?_ | refine blk_alloc ?_ _)); refine blk_far ?_ NB189_191.out _; (with_reducible repeat (first | refine blk_drewN ?_ _ | refine blk_drew ?_ | refine blk_alloc ?_ _)); refine blk_far ?_ NB189_191.out _; (with_reducible repeat (first | refine blk_drewN ?_ _ | refine blk_drew ?_ | refine blk_alloc ?_ _)); exact BK189.out⟩, ⟨by (with_reducible repeat (first | refine blk_drewN ?_ _ | refine blk_drew ?_ | refine blk_alloc ?_ _)); refine blk_put (cs := #[.int .i64 ((rd_T103 l0 0).f0), .int .i64 0]) ?_ 1 _ rfl; (with_reducible repeat (first | refine blk_drewN ?_ _ | refine blk_drew ?_ | refine blk_alloc ?_ _)); refine blk_put (cs := #[.int .i64 0, .int .i64 0]) ?_ 0 _ rfl; (with_reducible repeat (first | refine blk_drewN ?_ _ | refine blk_drew ?_ | refine blk_alloc ?_ _)); exact BK191.out⟩, ⟨Hb⟩⟩
    case round =>
      clear H'
      try clear c1
      try clear p1
      try clear q1
      try clear hx1
      try clear qi1
      try clear c2
      try clear c2b0
      try clear c2b1
      try clear p2
      try clear c5
      try clear hcz6_0
      try clear hcz6_1
      try clear hfz6_0
      try clear hfz6_1
      try clear hx190_0
      try clear hx190_1
      try clear p190
      try clear q190
      obtain ⟨x11_1, x192000_1, x192001_1, rfl, HA, HK1, BK189, BK191, HB⟩ := hrel
      cases gk with
      | zero => exact absurd HA.out (by simp [impl_corner.l0])
      | succ k1 =>
        have H := HA.out
        clear HA
        simp only [impl_corner.l0] at H
        by_cases c7 : x11_1 < (l0.length : Int)
        · rw [if_pos c7] at H
          have c7b0 : decide (x11_1 < (l0.length : Int)) = true := decide_eq_true c7
          clear c7
          by_cases c8 : 0 ≤ x11_1
          · rw [if_pos c8] at H
            have c8b0 : decide (0 ≤ x11_1) = true := decide_eq_true c8
            clear c8
            by_cases c9 : x11_1 < (l0.length : Int)
            · rw [if_pos c9] at H
              have c9b0 : decide (x11_1 < (l0.length : Int)) = true := decide_eq_true c9
              clear c9
              obtain ⟨ji10, hji10⟩ : ∃ j_ : Int, (mn x192000_1 ((rd_T103 l0 x11_1).f0)) = j_ := ⟨_, rfl⟩
              replace H : (impl_corner.l0 k1 l0 (l0.length : Int) (wrap64 (x11_1 + 1)) ji10 (mn x192001_1 ((rd_T103 l0 x11_1).f1))) = some (r1, r2) := by first | (rw [hji10] at H; exact H) | (simp only [hji10] at H ⊢; exact H)
              have hji10_ : (if ((rd_T103 l0 x11_1).f0) < x192000_1 then ((rd_T103 l0 x11_1).f0) else x192000_1) = ji10 := hji10
              obtain ⟨ji11, hji11⟩ : ∃ j_ : Int, (mn x192001_1 ((rd_T103 l0 x11_1).f1)) = j_ := ⟨_, rfl⟩
              replace H : (impl_corner.l0 k1 l0 (l0.length : Int) (wrap64 (x11_1 + 1)) ji10 ji11) = some (r1, r2) := by first | (rw [hji11] at H; exact H) | (simp only [hji11] at H ⊢; exact H)
              have hji11_ : (if ((rd_T103 l0 x11_1).f1) < x192001_1 then ((rd_T103 l0 x11_1).f1) else x192001_1) = ji11 := hji11
              have H' := Aside0.mk H
              clear H
              have p192 : 0 ≤ (x11_1 : Int) := oD
              have q192 : x11_1 < (l0.length : Int) := oD
              obtain ⟨ad192, e192, hx192_0, hx192_1⟩ := at_T103 HR0.out x11_1 p192 q192
              obtain rfl : ad190 = ad192 := (by injection e192)
              replace hx192_0 := hxb hx192_0
              replace hx192_1 := hxb hx192_1
              replace p192 := eq_true p192
              replace q192 := eq_true q192
              go_wp2_with (first | ((with_reducible refine gD 5 ?_); refine BX #[.int .i64 0, .int .i64 0] 103 ?_; intro gb193 hg w12 hbox hb; have BK193 := Aside0.mk (hbox); have GW193 := Aside0.mk ((Gle hg Hb : w.heap.size ≤ gb193)); have GE193 := Aside0.mk ((Gle hg Hb : w.heap.size ≤ gb193)); replace HB := Aside0.mk (below_step Hb hb); have NB189_193 := Aside0.mk ((by rw [hg]; exact Nat.ne_of_lt (blk_lt (B1 BK189)) : gb189 ≠ gb193)); have NB193_189 := Aside0.mk ((by rw [hg]; exact Nat.ne_of_gt (blk_lt (B1 BK189)) : gb193 ≠ gb189)); replace BK189 := Aside0.mk (blk_below (B1 BK189) hb); have NB191_193 := Aside0.mk ((by rw [hg]; exact Nat.ne_of_lt (blk_lt (B1 BK191)) : gb191 ≠ gb193)); have NB193_191 := Aside0.mk ((by rw [hg]; exact Nat.ne_of_gt (blk_lt (B1 BK191)) : gb193 ≠ gb191)); replace BK191 := Aside0.mk (blk_below (B1 BK191) hb); clear hb hbox hg; have hnb13 := NB193_189.out; have hnc13 := NB189_193.out; have hnb14 := NB193_191.out; have hnc14 := NB191_193.out; have hcz15_0 : w12.cell? ⟨gb193, 0, none⟩ = some (.int .i64 0) := bc BK193; have hcz15_1 : w12.cell? ⟨gb193, 1, none⟩ = some (.int .i64 0) := bc BK193; have hfz15_0 := blk_frozen BK193.out 0; have hfz15_1 := blk_frozen BK193.out 1; have hnb16 := NB191_189.out; have hnc16 := NB189_191.out; have hcz17_0 : w12.cell? ⟨gb191, 0, none⟩ = some (.int .i64 x192000_1) := bc BK191; have hcz17_1 : w12.cell? ⟨gb191, 1, none⟩ = some (.int .i64 x192001_1) := bc BK191; have hfz17_0 := blk_frozen BK191.out 0; have hfz17_1 := blk_frozen BK191.out 1))
              go_roundg k1
              case measure => have := HK1.out; omega
              case rel => exact ⟨(wrap64 (x11_1 + 1)), (ji10), (ji11), Fs, H', ⟨by have := HK1.out; omega⟩, ⟨by (with_reducible repeat (first | refine blk_drewN ?_ _ | refine blk_drew ?_ | refine blk_alloc ?_ _)); refine blk_far ?_ NB189_191.out _; (with_reducible repeat (first | refine blk_drewN ?_ _ | refine blk_drew ?_ | refine blk_alloc ?_ _)); refine blk_far ?_ NB189_191.out _; (with_reducible repeat (first | refine blk_drewN ?_ _ | refine blk_drew ?_ | refine blk_alloc ?_ _)); refine blk_far ?_ NB189_193.out _; (with_reducible repeat (first | refine blk_drewN ?_ _ | refine blk_drew ?_ | refine blk_alloc ?_ _)); refine blk_far ?_ NB189_193.out _; (with_reducible repeat (first | refine blk_drewN ?_ _ | refine blk_drew ?_ | refine blk_alloc ?_ _)); exact BK189.out⟩, ⟨by (with_reducible repeat (first | refine blk_drewN ?_ _ | refine blk_drew ?_ | refine blk_alloc ?_ _)); refine blk_put (cs := #[.int .i64 ji10, .int .i64 x192001_1]) ?_ 1 _ rfl; (with_reducible repeat (first | refine blk_drewN ?_ _ | refine blk_drew ?_ | refine blk_alloc ?_ _)); refine blk_put (cs := #[.int .i64 x192000_1, .int .i64 x192001_1]) ?_ 0 _ rfl; (with_reducible repeat (first | refine blk_drewN ?_ _ | refine blk_drew ?_ | refine blk_alloc ?_ _)); refine blk_far ?_ NB191_193.out _; (with_reducible repeat (first | refine blk_drewN ?_ _ | refine blk_drew ?_ | refine blk_alloc ?_ _)); refine blk_far ?_ NB191_193.out _; (with_reducible repeat (first | refine blk_drewN ?_ _ | refine blk_drew ?_ | refine blk_alloc ?_ _)); exact BK191.out⟩, ⟨Hb⟩⟩
            · rw [if_neg c9] at H
              exact absurd H (by simp)
          · rw [if_neg c8] at H
            exact absurd H (by simp)
        · rw [if_neg c7] at H
          have c7b0 : decide (x11_1 < (l0.length : Int)) = false := decide_eq_false c7
          clear c7
          simp only [Option.some.injEq, Prod.mk.injEq] at H
          obtain ⟨rfl, rfl⟩ := H
          have hnb18 := NB191_189.out
          have hnc18 := NB189_191.out
          have hcz19_0 : wr.cell? ⟨gb191, 0, none⟩ = some (.int .i64 x192000_1) := bc BK191
          have hcz19_1 : wr.cell? ⟨gb191, 1, none⟩ = some (.int .i64 x192001_1) := bc BK191
          have hfz19_0 := blk_frozen BK191.out 0
          have hfz19_1 := blk_frozen BK191.out 1
          have hcz20_0 : wr.cell? ⟨gb189, 0, none⟩ = some (.int .i64 0) := bc BK189
          have hcz20_1 : wr.cell? ⟨gb189, 1, none⟩ = some (.int .i64 0) := bc BK189
          have hfz20_0 := blk_frozen BK189.out 0
          have hfz20_1 := blk_frozen BK189.out 1
          go_wp2
          refine bodyPost_ret (results_cell_row rfl _ _ gb189 103 #[.int .i64 x192000_1, .int .i64 x192001_1] (0, 0) _ rfl (by (with_reducible repeat (first | refine blk_drewN ?_ _ | refine blk_drew ?_ | refine blk_alloc ?_ _)); refine blk_put (cs := #[.int .i64 x192000_1, .int .i64 0]) ?_ 1 _ rfl; (with_reducible repeat (first | refine blk_drewN ?_ _ | refine blk_drew ?_ | refine blk_alloc ?_ _)); refine blk_put (cs := #[.int .i64 0, .int .i64 0]) ?_ 0 _ rfl; (with_reducible repeat (first | refine blk_drewN ?_ _ | refine blk_drew ?_ | refine blk_alloc ?_ _)); exact BK189.out) Try.underlying103 rfl (by kernel_rfl)) rfl ?_
          exact ⟨Fin, Hb⟩
  · rw [if_neg c2] at H
    exact absurd H (by simp)

/-! ### impl_reach: function 128 -/
def impl_reach.l0 : Nat → List (S103) → Int → Int → Int → Int → Option (Int × Int)
  | 0, _, _, _, _, _ => none
  | k + 1, x9, x10, x11, x197000, x197001 => if x11 < x10 then (if 0 ≤ x11 then (if x11 < (x9.length : Int) then (impl_reach.l0 k x9 x10 (wrap64 (x11 + 1)) (mx x197000 ((rd_T103 x9 x11).f0)) (mx x197001 ((rd_T103 x9 x11).f1))) else (none)) else (none)) else (some (x197000, x197001))
def impl_reach.f (k : Nat) (l0 : List (S103)) : Option (Int × Int) := if 0 < (l0.length : Int) then (impl_reach.l0 k l0 (l0.length : Int) 0 ((rd_T103 l0 0).f0) ((rd_T103 l0 0).f1)) else (none)
theorem impl_reach.mono_l : ∀ k, (∀ y0 y1 y2 y3 y4, LeO (impl_reach.l0 k y0 y1 y2 y3 y4) (impl_reach.l0 (k + 1) y0 y1 y2 y3 y4))
  | 0 => fun _ _ _ _ _ r h => by simp [impl_reach.l0] at h
  | k + 1 => by
    have ih0 := impl_reach.mono_l k
    · intro y0 y1 y2 y3 y4
      unfold impl_reach.l0
      repeat' first
      | (with_reducible exact ih0 _ _ _ _ _)
      | (with_reducible exact LeO.refl _)
      | (with_reducible exact LeO.none _)
      | (with_reducible refine LeO.ite ?_ ?_)
      | (with_reducible refine LeO.bind ?_ (fun _ => ?_))
      | exact ih0 _ _ _ _ _
      | exact LeO.none _
      | refine LeO.ite ?_ ?_
      | refine LeO.bind ?_ (fun _ => ?_)
theorem impl_reach.mono : ∀ a0 k, LeO (impl_reach.f k a0) (impl_reach.f (k + 1) a0) := by
  intro a0 k
  have ih0 := impl_reach.mono_l k
  unfold impl_reach.f
  repeat' first
      | (with_reducible exact ih0 _ _ _ _ _)
      | (with_reducible exact LeO.refl _)
      | (with_reducible exact LeO.none _)
      | (with_reducible refine LeO.ite ?_ ?_)
      | (with_reducible refine LeO.bind ?_ (fun _ => ?_))
      | exact ih0 _ _ _ _ _
      | exact LeO.none _
      | refine LeO.ite ?_ ?_
      | refine LeO.bind ?_ (fun _ => ?_)
set_option maxHeartbeats 8000000 in
set_option maxRecDepth 100000 in
theorem impl_reach.calls (k : Nat) (A0 : Option Addr) (c0 : Nat) (l0 : List (S103)) (r1 : Int) (r2 : Int) (w : World) (hr0 : Kd.C k103 w A0 l0.length l0) (hc0 : l0.length ≤ c0) (h : impl_reach.f k l0 = some (r1, r2)) :
    Calls Try.prog 128 #[.slice A0 l0.length c0] w fun e w' => e = .returned (.agg #[.int .i64 r1, .int .i64 r2]) ∧ Below w.heap.size w w' := by
  have hu103 := Try.underlying103
  have HR0 := Aside0.mk hr0
  have HC0 := Aside0.mk hc0
  clear hr0 hc0
  have HB := Aside0.mk (Below.refl w.heap.size w)
  have H : (if 0 < (l0.length : Int) then (impl_reach.l0 k l0 (l0.length : Int) 0 ((rd_T103 l0 0).f0) ((rd_T103 l0 0).f1)) else (none)) = some (r1, r2) := h
  clear h
  by_cases c2 : 0 < (l0.length : Int)
  · rw [if_pos c2] at H
    have c2b0 : decide (0 < (l0.length : Int)) = true := decide_eq_true c2
    have c2b1 : decide (0 < l0.length) = true := decide_eq_true (by omega)
    clear c2
    have H' := Aside0.mk H
    clear H
    go_enter Try.func128, Try.ntmps128
    go_wp2_with (first | ((with_reducible refine gD 2 ?_); refine BX #[.int .i64 0, .int .i64 0] 103 ?_; intro gb194 hg w3 hbox hb; have BK194 := Aside0.mk (hbox); have GW194 := Aside0.mk ((Gle hg Hb : w.heap.size ≤ gb194)); have GE194 := Aside0.mk ((Gle hg Hb : w.heap.size ≤ gb194)); replace HB := Aside0.mk (below_step Hb hb); clear hb hbox hg; have p195 : 0 ≤ (0 : Int) := (by omega); have q195 : 0 < (l0.length : Int) := oD; obtain ⟨ad195, e195, hx195_0, hx195_1⟩ := at_T103 HR0.out 0 p195 q195; cases e195; have qi195 : (0 < l0.length) = True := eq_true (by omega); (try rw [show ((0 : Int)).toNat = 0 from rfl] at hx195_0); (try rw [show 0 * 2 = 0 from rfl] at hx195_0); (try rw [Addr.add_zero'] at hx195_0); (try rw [show ((0 : Int)).toNat = 0 from rfl] at hx195_1); (try rw [show 0 * 2 = 0 from rfl] at hx195_1); (try rw [Addr.add_zero'] at hx195_1); replace hx195_0 := hxb hx195_0; replace hx195_1 := hxb hx195_1; replace p195 := eq_true p195; replace q195 := eq_true q195) | ((with_reducible refine gD 3 ?_); refine BX #[.int .i64 0, .int .i64 0] 103 ?_; intro gb196 hg w4 hbox hb; have BK196 := Aside0.mk (hbox); have GW196 := Aside0.mk ((Gle hg Hb : w.heap.size ≤ gb196)); have GE196 := Aside0.mk ((Gle hg Hb : w.heap.size ≤ gb196)); replace HB := Aside0.mk (below_step Hb hb); have NB194_196 := Aside0.mk ((by rw [hg]; exact Nat.ne_of_lt (blk_lt (B1 BK194)) : gb194 ≠ gb196)); have NB196_194 := Aside0.mk ((by rw [hg]; exact Nat.ne_of_gt (blk_lt (B1 BK194)) : gb196 ≠ gb194)); replace BK194 := Aside0.mk (blk_below (B1 BK194) hb); clear hb hbox hg; have hnb5 := NB196_194.out; have hnc5 := NB194_196.out; have hcz6_0 : w4.cell? ⟨gb196, 0, none⟩ = some (.int .i64 0) := bc BK196; have hcz6_1 : w4.cell? ⟨gb196, 1, none⟩ = some (.int .i64 0) := bc BK196; have hfz6_0 := blk_frozen BK196.out 0; have hfz6_1 := blk_frozen BK196.out 1))
    go_loopg [11] k (fun kq v11 w' => ∃ (x11_1 : Int) (x197000_1 : Int) (x197001_1 : Int), v11 = .int .i64 x11_1 ∧ Aside0 (impl_reach.l0 kq l0 (l0.length : Int) x11_1 x197000_1 x197001_1 = some (r1, r2)) ∧ Aside0 (kq ≤ k) ∧ Aside0 (w'.heap[gb194]? = some (.cells #[.int .i64 0, .int .i64 0] 103 (0, 0))) ∧ Aside0 (w'.heap[gb196]? = some (.cells #[.int .i64 x197000_1, .int .i64 x197001_1] 103 (0, 0))) ∧ Aside0 (Below w.heap.size w w'))
    case atStart => exact ⟨(0), ((rd_T103 l0 0).f0), ((rd_T103 l0 0).f1), Fs, H', ⟨Nat.le_refl _⟩, ⟨by (with_reducible repeat (first | refine blk_drewN ?_ _ | refine blk_drew ?_ | refine blk_alloc ?_ _)); refine blk_far ?_ NB194_196.out _; (with_reducible repeat (first | refine blk_drewN ?_ _ | refine blk_drew ?_ | refine blk_alloc ?_ _)); refine blk_far ?_ NB194_196.out _; (with_reducible repeat (first | refine blk_drewN ?_ _ | refine blk_drew ?_ | refine blk_alloc ?_ _)); exact BK194.out⟩, ⟨by (with_reducible repeat (first | refine blk_drewN ?_ _ | refine blk_drew ?_ | refine blk_alloc ?_ _)); refine blk_put (cs := #[.int .i64 ((rd_T103 l0 0).f0), .int .i64 0]) ?_ 1 _ rfl; (with_reducible repeat (first | refine blk_drewN ?_ _ | refine blk_drew ?_ | refine blk_alloc ?_ _)); refine blk_put (cs := #[.int .i64 0, .int .i64 0]) ?_ 0 _ rfl; (with_reducible repeat (first | refine blk_drewN ?_ _ | refine blk_drew ?_ | refine blk_alloc ?_ _)); exact BK196.out⟩, ⟨Hb⟩⟩
    case round =>
      clear H'
      try clear c1
      try clear p1
      try clear q1
      try clear hx1
      try clear qi1
      try clear c2
      try clear c2b0
      try clear c2b1
      try clear p2
      try clear c5
      try clear hcz6_0
      try clear hcz6_1
      try clear hfz6_0
      try clear hfz6_1
      try clear hx195_0
      try clear hx195_1
      try clear p195
      try clear q195
      obtain ⟨x11_1, x197000_1, x197001_1, rfl, HA, HK1, BK194, BK196, HB⟩ := hrel
      cases gk with
      | zero => exact absurd HA.out (by simp [impl_reach.l0])
      | succ k1 =>
        have H := HA.out
        clear HA
        simp only [impl_reach.l0] at H
        by_cases c7 : x11_1 < (l0.length : Int)
        · rw [if_pos c7] at H
          have c7b0 : decide (x11_1 < (l0.length : Int)) = true := decide_eq_true c7
          clear c7
          by_cases c8 : 0 ≤ x11_1
          · rw [if_pos c8] at H
            have c8b0 : decide (0 ≤ x11_1) = true := decide_eq_true c8
            clear c8
            by_cases c9 : x11_1 < (l0.length : Int)
            · rw [if_pos c9] at H
              have c9b0 : decide (x11_1 < (l0.length : Int)) = true := decide_eq_true c9
              clear c9
              obtain ⟨ji10, hji10⟩ : ∃ j_ : Int, (mx x197000_1 ((rd_T103 l0 x11_1).f0)) = j_ := ⟨_, rfl⟩
              replace H : (impl_reach.l0 k1 l0 (l0.length : Int) (wrap64 (x11_1 + 1)) ji10 (mx x197001_1 ((rd_T103 l0 x11_1).f1))) = some (r1, r2) := by first | (rw [hji10] at H; exact H) | (simp only [hji10] at H ⊢; exact H)
              have hji10_ : (if x197000_1 < ((rd_T103 l0 x11_1).f0) then ((rd_T103 l0 x11_1).f0) else x197000_1) = ji10 := hji10
              obtain ⟨ji11, hji11⟩ : ∃ j_ : Int, (mx x197001_1 ((rd_T103 l0 x11_1).f1)) = j_ := ⟨_, rfl⟩
              replace H : (impl_reach.l0 k1 l0 (l0.length : Int) (wrap64 (x11_1 + 1)) ji10 ji11) = some (r1, r2) := by first | (rw [hji11] at H; exact H) | (simp only [hji11] at H ⊢; exact H)
              have hji11_ : (if x197001_1 < ((rd_T103 l0 x11_1).f1) then ((rd_T103 l0 x11_1).f1) else x197001_1) = ji11 := hji11
              have H' := Aside0.mk H
              clear H
              have p197 : 0 ≤ (x11_1 : Int) := oD
              have q197 : x11_1 < (l0.length : Int) := oD
              obtain ⟨ad197, e197, hx197_0, hx197_1⟩ := at_T103 HR0.out x11_1 p197 q197
              obtain rfl : ad195 = ad197 := (by injection e197)
              replace hx197_0 := hxb hx197_0
              replace hx197_1 := hxb hx197_1
              replace p197 := eq_true p197
              replace q197 := eq_true q197
              go_wp2_with (first | ((with_reducible refine gD 5 ?_); refine BX #[.int .i64 0, .int .i64 0] 103 ?_; intro gb198 hg w12 hbox hb; have BK198 := Aside0.mk (hbox); have GW198 := Aside0.mk ((Gle hg Hb : w.heap.size ≤ gb198)); have GE198 := Aside0.mk ((Gle hg Hb : w.heap.size ≤ gb198)); replace HB := Aside0.mk (below_step Hb hb); have NB194_198 := Aside0.mk ((by rw [hg]; exact Nat.ne_of_lt (blk_lt (B1 BK194)) : gb194 ≠ gb198)); have NB198_194 := Aside0.mk ((by rw [hg]; exact Nat.ne_of_gt (blk_lt (B1 BK194)) : gb198 ≠ gb194)); replace BK194 := Aside0.mk (blk_below (B1 BK194) hb); have NB196_198 := Aside0.mk ((by rw [hg]; exact Nat.ne_of_lt (blk_lt (B1 BK196)) : gb196 ≠ gb198)); have NB198_196 := Aside0.mk ((by rw [hg]; exact Nat.ne_of_gt (blk_lt (B1 BK196)) : gb198 ≠ gb196)); replace BK196 := Aside0.mk (blk_below (B1 BK196) hb); clear hb hbox hg; have hnb13 := NB198_194.out; have hnc13 := NB194_198.out; have hnb14 := NB198_196.out; have hnc14 := NB196_198.out; have hcz15_0 : w12.cell? ⟨gb198, 0, none⟩ = some (.int .i64 0) := bc BK198; have hcz15_1 : w12.cell? ⟨gb198, 1, none⟩ = some (.int .i64 0) := bc BK198; have hfz15_0 := blk_frozen BK198.out 0; have hfz15_1 := blk_frozen BK198.out 1; have hnb16 := NB196_194.out; have hnc16 := NB194_196.out; have hcz17_0 : w12.cell? ⟨gb196, 0, none⟩ = some (.int .i64 x197000_1) := bc BK196; have hcz17_1 : w12.cell? ⟨gb196, 1, none⟩ = some (.int .i64 x197001_1) := bc BK196; have hfz17_0 := blk_frozen BK196.out 0; have hfz17_1 := blk_frozen BK196.out 1))
              go_roundg k1
              case measure => have := HK1.out; omega
              case rel => exact ⟨(wrap64 (x11_1 + 1)), (ji10), (ji11), Fs, H', ⟨by have := HK1.out; omega⟩, ⟨by (with_reducible repeat (first | refine blk_drewN ?_ _ | refine blk_drew ?_ | refine blk_alloc ?_ _)); refine blk_far ?_ NB194_196.out _; (with_reducible repeat (first | refine blk_drewN ?_ _ | refine blk_drew ?_ | refine blk_alloc ?_ _)); refine blk_far ?_ NB194_196.out _; (with_reducible repeat (first | refine blk_drewN ?_ _ | refine blk_drew ?_ | refine blk_alloc ?_ _)); refine blk_far ?_ NB194_198.out _; (with_reducible repeat (first | refine blk_drewN ?_ _ | refine blk_drew ?_ | refine blk_alloc ?_ _)); refine blk_far ?_ NB194_198.out _; (with_reducible repeat (first | refine blk_drewN ?_ _ | refine blk_drew ?_ | refine blk_alloc ?_ _)); exact BK194.out⟩, ⟨by (with_reducible repeat (first | refine blk_drewN ?_ _ | refine blk_drew ?_ | refine blk_alloc ?_ _)); refine blk_put (cs := #[.int .i64 ji10, .int .i64 x197001_1]) ?_ 1 _ rfl; (with_reducible repeat (first | refine blk_drewN ?_ _ | refine blk_drew ?_ | refine blk_alloc ?_ _)); refine blk_put (cs := #[.int .i64 x197000_1, .int .i64 x197001_1]) ?_ 0 _ rfl; (with_reducible repeat (first | refine blk_drewN ?_ _ | refine blk_drew ?_ | refine blk_alloc ?_ _)); refine blk_far ?_ NB196_198.out _; (with_reducible repeat (first | refine blk_drewN ?_ _ | refine blk_drew ?_ | refine blk_alloc ?_ _)); refine blk_far ?_ NB196_198.out _; (with_reducible repeat (first | refine blk_drewN ?_ _ | refine blk_drew ?_ | refine blk_alloc ?_ _)); exact BK196.out⟩, ⟨Hb⟩⟩
            · rw [if_neg c9] at H
              exact absurd H (by simp)
          · rw [if_neg c8] at H
            exact absurd H (by simp)
        · rw [if_neg c7] at H
          have c7b0 : decide (x11_1 < (l0.length : Int)) = false := decide_eq_false c7
          clear c7
          simp only [Option.some.injEq, Prod.mk.injEq] at H
          obtain ⟨rfl, rfl⟩ := H
          have hnb18 := NB196_194.out
          have hnc18 := NB194_196.out
          have hcz19_0 : wr.cell? ⟨gb196, 0, none⟩ = some (.int .i64 x197000_1) := bc BK196
          have hcz19_1 : wr.cell? ⟨gb196, 1, none⟩ = some (.int .i64 x197001_1) := bc BK196
          have hfz19_0 := blk_frozen BK196.out 0
          have hfz19_1 := blk_frozen BK196.out 1
          have hcz20_0 : wr.cell? ⟨gb194, 0, none⟩ = some (.int .i64 0) := bc BK194
          have hcz20_1 : wr.cell? ⟨gb194, 1, none⟩ = some (.int .i64 0) := bc BK194
          have hfz20_0 := blk_frozen BK194.out 0
          have hfz20_1 := blk_frozen BK194.out 1
          go_wp2
          refine bodyPost_ret (results_cell_row rfl _ _ gb194 103 #[.int .i64 x197000_1, .int .i64 x197001_1] (0, 0) _ rfl (by (with_reducible repeat (first | refine blk_drewN ?_ _ | refine blk_drew ?_ | refine blk_alloc ?_ _)); refine blk_put (cs := #[.int .i64 x197000_1, .int .i64 0]) ?_ 1 _ rfl; (with_reducible repeat (first | refine blk_drewN ?_ _ | refine blk_drew ?_ | refine blk_alloc ?_ _)); refine blk_put (cs := #[.int .i64 0, .int .i64 0]) ?_ 0 _ rfl; (with_reducible repeat (first | refine blk_drewN ?_ _ | refine blk_drew ?_ | refine blk_alloc ?_ _)); exact BK194.out) Try.underlying103 rfl (by kernel_rfl)) rfl ?_
          exact ⟨Fin, Hb⟩
  · rw [if_neg c2] at H
    exact absurd H (by simp)

/-! ### impl_IsRegion: function 80 -/
def impl_IsRegion.f (k : Nat) (l0 : List (S103)) : Option (Bool) := (impl_IsShape.f k l0).bind fun t199 => (if t199 = true then ((impl_corner.f k l0).bind fun bt200 => (if (!(bt200.1 == 0) || (!(bt200.2 == 0))) = true then (some false) else ((impl_reach.f k l0).bind fun bt202 => (if bt202.1 < 20 then (some (decide (bt202.2 < 20))) else (some false))))) else (some false))
theorem impl_IsRegion.mono : ∀ a0 k, LeO (impl_IsRegion.f k a0) (impl_IsRegion.f (k + 1) a0) := by
  intro a0 k
  unfold impl_IsRegion.f
  repeat' first
      | (with_reducible exact impl_IsShape.mono _ _)
      | (with_reducible exact impl_corner.mono _ _)
      | (with_reducible exact impl_reach.mono _ _)
      | (with_reducible exact LeO.refl _)
      | (with_reducible exact LeO.none _)
      | (with_reducible refine LeO.ite ?_ ?_)
      | (with_reducible refine LeO.bind ?_ (fun _ => ?_))
      | exact impl_IsShape.mono _ _
      | exact impl_corner.mono _ _
      | exact impl_reach.mono _ _
      | exact LeO.none _
      | refine LeO.ite ?_ ?_
      | refine LeO.bind ?_ (fun _ => ?_)
set_option maxHeartbeats 8000000 in
set_option maxRecDepth 100000 in
theorem impl_IsRegion.calls (k : Nat) (A0 : Option Addr) (c0 : Nat) (l0 : List (S103)) (r : Bool) (w : World) (hr0 : Kd.C k103 w A0 l0.length l0) (hc0 : l0.length ≤ c0) (h : impl_IsRegion.f k l0 = some r) :
    Calls Try.prog 80 #[.slice A0 l0.length c0] w fun e w' => e = .returned (.bool r) ∧ Below w.heap.size w w' := by
  have hu103 := Try.underlying103
  have HR0 := Aside0.mk hr0
  have HC0 := Aside0.mk hc0
  clear hr0 hc0
  have HB := Aside0.mk (Below.refl w.heap.size w)
  have H : ((impl_IsShape.f k l0).bind fun t199 => (if t199 = true then ((impl_corner.f k l0).bind fun bt200 => (if (!(bt200.1 == 0) || (!(bt200.2 == 0))) = true then (some false) else ((impl_reach.f k l0).bind fun bt202 => (if bt202.1 < 20 then (some (decide (bt202.2 < 20))) else (some false))))) else (some false))) = some r := h
  clear h
  obtain ⟨t199, A20, H⟩ := Option.bind_eq_some_iff.mp H
  have A2 := Aside0.mk A20
  clear A20
  by_cases c3 : t199 = true
  · subst c3
    rw [if_pos rfl] at H
    obtain ⟨⟨t200, t201⟩, A40, H⟩ := Option.bind_eq_some_iff.mp H
    dsimp only at H
    have A4 := Aside0.mk A40
    clear A40
    by_cases c5 : (!(t200 == 0) || (!(t201 == 0))) = true
    · rw [if_pos c5] at H
      have c5b0 : (!(t200 == 0) || (!(t201 == 0))) = true := c5
      clear c5
      obtain rfl := Option.some.inj H
      go_enter Try.func80, Try.ntmps80
      go_wp2_with (first | ((with_reducible refine gC 114 ?_); refine GL (some 5) Try.func114 #[.slice A0 l0.length c0] ?_; (with_reducible refine (impl_IsShape.calls k _ _ l0 true _ ?side1 ?side2 A2.out).mono ?_); (case side1 => exact Ck HR0.out); (case side2 => exact HC0.out); rintro e w6 ⟨rfl, hb⟩; refine ⟨_, rfl, ?_⟩; replace HB := Aside0.mk (below_step Hb hb); (try clear hb); (try clear hb2); (try clear hk); (try clear hi)) | (go_at_call 127; (with_reducible refine (impl_corner.calls k _ _ l0 t200 t201 _ ?side1 ?side2 A4.out).mono ?_); (case side1 => exact Kd.C_below HR0.out Hb); (case side2 => exact HC0.out); rintro e w7 ⟨rfl, hb⟩; replace HB := Aside0.mk (below_step Hb hb); (try clear hb); (try clear hb2); (try clear hk); (try clear hi)))
      go_ret
      exact ⟨Fin, Hb⟩
    · rw [if_neg c5] at H
      have c5b0 : (!(t200 == 0) || (!(t201 == 0))) = false := by simpa using c5
      clear c5
      obtain ⟨⟨t202, t203⟩, A80, H⟩ := Option.bind_eq_some_iff.mp H
      dsimp only at H
      have A8 := Aside0.mk A80
      clear A80
      by_cases c9 : t202 < 20
      · rw [if_pos c9] at H
        have c9b0 : decide (t202 < 20) = true := decide_eq_true c9
        clear c9
        obtain rfl := Option.some.inj H
        go_enter Try.func80, Try.ntmps80
        go_wp2_with (first | ((with_reducible refine gC 114 ?_); refine GL (some 5) Try.func114 #[.slice A0 l0.length c0] ?_; (with_reducible refine (impl_IsShape.calls k _ _ l0 true _ ?side1 ?side2 A2.out).mono ?_); (case side1 => exact Ck HR0.out); (case side2 => exact HC0.out); rintro e w10 ⟨rfl, hb⟩; refine ⟨_, rfl, ?_⟩; replace HB := Aside0.mk (below_step Hb hb); (try clear hb); (try clear hb2); (try clear hk); (try clear hi)) | (go_at_call 127; (with_reducible refine (impl_corner.calls k _ _ l0 t200 t201 _ ?side1 ?side2 A4.out).mono ?_); (case side1 => exact Kd.C_below HR0.out Hb); (case side2 => exact HC0.out); rintro e w11 ⟨rfl, hb⟩; replace HB := Aside0.mk (below_step Hb hb); (try clear hb); (try clear hb2); (try clear hk); (try clear hi)) | ((with_reducible refine gC 128 ?_); refine GL (some 14) Try.func128 #[.slice A0 l0.length c0] ?_; (with_reducible refine (impl_reach.calls k _ _ l0 t202 t203 _ ?side1 ?side2 A8.out).mono ?_); (case side1 => exact Kd.C_below HR0.out Hb); (case side2 => exact HC0.out); rintro e w12 ⟨rfl, hb⟩; refine ⟨_, rfl, ?_⟩; replace HB := Aside0.mk (below_step Hb hb); (try clear hb); (try clear hb2); (try clear hk); (try clear hi)) | ((with_reducible refine gD 3 ?_); refine BX #[.int .i64 0, .int .i64 0] 103 ?_; intro gb204 hg w13 hbox hb; have BK204 := Aside0.mk (hbox); have GW204 := Aside0.mk ((Gle hg Hb : w.heap.size ≤ gb204)); have GE204 := Aside0.mk ((Gle hg Hb : w.heap.size ≤ gb204)); replace HB := Aside0.mk (below_step Hb hb); clear hb hbox hg; have hcz14_0 : w13.cell? ⟨gb204, 0, none⟩ = some (.int .i64 0) := bc BK204; have hcz14_1 : w13.cell? ⟨gb204, 1, none⟩ = some (.int .i64 0) := bc BK204; have hfz14_0 := blk_frozen BK204.out 0; have hfz14_1 := blk_frozen BK204.out 1))
        go_ret
        exact ⟨Fin, Hb⟩
      · rw [if_neg c9] at H
        have c9b0 : decide (t202 < 20) = false := decide_eq_false c9
        clear c9
        obtain rfl := Option.some.inj H
        go_enter Try.func80, Try.ntmps80
        go_wp2_with (first | ((with_reducible refine gC 114 ?_); refine GL (some 5) Try.func114 #[.slice A0 l0.length c0] ?_; (with_reducible refine (impl_IsShape.calls k _ _ l0 true _ ?side1 ?side2 A2.out).mono ?_); (case side1 => exact Ck HR0.out); (case side2 => exact HC0.out); rintro e w15 ⟨rfl, hb⟩; refine ⟨_, rfl, ?_⟩; replace HB := Aside0.mk (below_step Hb hb); (try clear hb); (try clear hb2); (try clear hk); (try clear hi)) | (go_at_call 127; (with_reducible refine (impl_corner.calls k _ _ l0 t200 t201 _ ?side1 ?side2 A4.out).mono ?_); (case side1 => exact Kd.C_below HR0.out Hb); (case side2 => exact HC0.out); rintro e w16 ⟨rfl, hb⟩; replace HB := Aside0.mk (below_step Hb hb); (try clear hb); (try clear hb2); (try clear hk); (try clear hi)) | ((with_reducible refine gC 128 ?_); refine GL (some 14) Try.func128 #[.slice A0 l0.length c0] ?_; (with_reducible refine (impl_reach.calls k _ _ l0 t202 t203 _ ?side1 ?side2 A8.out).mono ?_); (case side1 => exact Kd.C_below HR0.out Hb); (case side2 => exact HC0.out); rintro e w17 ⟨rfl, hb⟩; refine ⟨_, rfl, ?_⟩; replace HB := Aside0.mk (below_step Hb hb); (try clear hb); (try clear hb2); (try clear hk); (try clear hi)) | ((with_reducible refine gD 3 ?_); refine BX #[.int .i64 0, .int .i64 0] 103 ?_; intro gb204 hg w18 hbox hb; have BK204 := Aside0.mk (hbox); have GW204 := Aside0.mk ((Gle hg Hb : w.heap.size ≤ gb204)); have GE204 := Aside0.mk ((Gle hg Hb : w.heap.size ≤ gb204)); replace HB := Aside0.mk (below_step Hb hb); clear hb hbox hg; have hcz19_0 : w18.cell? ⟨gb204, 0, none⟩ = some (.int .i64 0) := bc BK204; have hcz19_1 : w18.cell? ⟨gb204, 1, none⟩ = some (.int .i64 0) := bc BK204; have hfz19_0 := blk_frozen BK204.out 0; have hfz19_1 := blk_frozen BK204.out 1))
        go_ret
        exact ⟨Fin, Hb⟩
  · replace c3 := Bool.eq_false_iff.mpr c3
    subst c3
    rw [if_neg (show ¬ (false = true) by decide)] at H
    obtain rfl := Option.some.inj H
    go_enter Try.func80, Try.ntmps80
    go_wp2_with (first | ((with_reducible refine gC 114 ?_); refine GL (some 5) Try.func114 #[.slice A0 l0.length c0] ?_; (with_reducible refine (impl_IsShape.calls k _ _ l0 false _ ?side1 ?side2 A2.out).mono ?_); (case side1 => exact Ck HR0.out); (case side2 => exact HC0.out); rintro e w20 ⟨rfl, hb⟩; refine ⟨_, rfl, ?_⟩; replace HB := Aside0.mk (below_step Hb hb); (try clear hb); (try clear hb2); (try clear hk); (try clear hi)))
    go_ret
    exact ⟨Fin, Hb⟩

/-! ### impl_isModulus: function 129 -/
def impl_isModulus.f (a0 : Int) : Option (Bool) := (impl_within.f a0 2 6).bind fun t205 => (some t205)
set_option maxHeartbeats 8000000 in
set_option maxRecDepth 100000 in
theorem impl_isModulus.calls (a0 : Int) (r : Bool) (w : World) (h : impl_isModulus.f a0 = some r) :
    Calls Try.prog 129 #[.int .i64 a0] w fun e w' => e = .returned (.bool r) ∧ Drawn0 w w' := by
  have H : ((impl_within.f a0 2 6).bind fun t205 => (some t205)) = some r := h
  clear h
  obtain ⟨t205, A20, H⟩ := Option.bind_eq_some_iff.mp H
  have A2 := Aside0.mk A20
  clear A20
  obtain rfl := Option.some.inj H
  go_enter Try.func129, Try.ntmps129
  go_wp2_with (first | ((with_reducible refine gC 132 ?_); refine GL (some 4) Try.func132 #[.int .i64 a0, .int .i64 2, .int .i64 6] ?_; (with_reducible refine (impl_within.calls a0 2 6 t205 _ A2.out).mono ?_); rintro e w' ⟨rfl, ⟨nd, rfl⟩⟩; refine ⟨_, rfl, ?_⟩))
  go_ret
  exact ⟨Fs, by repeat (first | exact Drawn0.refl _ | apply Drawn0.step)⟩

end Go.Proofs.Ytkmlgfihoaneeaa.XFnExactAddWeightings
