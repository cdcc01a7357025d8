-- Written by ext.py (wip/) over the kit's print: not trusted, Lean checks it.
import Derived.Test.YtcbpbdhglblagaaDoorXFnExactReadCoverx0
import Derived.Test.YtcbpbdhglblagaaDoorXFnExactReadCoverx3
import Derived.Test.YtcbpbdhglblagaaDoorXFnExactReadCoverx4
namespace Go.Proofs.YtcbpbdhglblagaaDoor.XFnExactReadCover
open Go.RowKit Go.Proofs.YtcbpbdhglblagaaDoorW.PrintWords Go.Proofs.YtcbpbdhglblagaaDoorW.PrintLast Go.Proofs.YtcbpbdhglblagaaDoorW.PrintMore
attribute [local go_sem] max2_int min2_int max_two min_two max_three min_three max_four min_four   -- for this text's walks alone
set_option linter.unusedVariables false
set_option linter.unusedSimpArgs false

/-! ### impl_ReadCover: function 5 -/
mutual
def impl_ReadCover.j0 : Nat → ByteArray → List ByteArray → List Int → Bool → Option (Int × Int × (List (List Int)) × Bool)
  | 0, _, _, _, _ => none
  | k + 1, x0, x4, x5, x33 => if x33 = true then (some (0, 0, ([] : List (List Int)), false)) else (if 0 < (x5.length : Int) then (if 1 < (x5.length : Int) then (if 1 ≤ (x4.length : Int) then ((some (x4.drop 1 : List ByteArray)).bind fun y210 => (impl_ReadCover.l0 k x0 y210 (y210.length : Int) 0 (rd x5 0) (rd x5 1) ([] : List (List Int)))) else (none)) else (none)) else (none))
def impl_ReadCover.l0 : Nat → ByteArray → List ByteArray → Int → Int → Int → Int → List (List Int) → Option (Int × Int × (List (List Int)) × Bool)
  | 0, _, _, _, _, _, _, _ => none
  | k + 1, x0, x43, x44, x45, x210000, x210001, x210002 => if x45 < x44 then (if 0 ≤ x45 then (if x45 < (x43.length : Int) then ((impl_readNumbers.f k (rdOf ByteArray.empty x43 x45) (⟨#[44]⟩ : ByteArray)).bind fun bt215 => (if bt215.2 = true then (if x210002.length < 5864062014805 then (impl_ReadCover.l0 k x0 x43 x44 (wrap64 (x45 + 1)) x210000 x210001 (x210002 ++ [bt215.1])) else (none)) else (some (0, 0, ([] : List (List Int)), false)))) else (none)) else (none)) else ((impl_IsCover.f k x210000 x210001 x210002).bind fun t222 => (if t222 = true then ((impl_coverText.f k x210000 x210001 x210002).bind fun t223 => (if t223.toList = x0.toList then (some (x210000, x210001, x210002, true)) else (some (0, 0, ([] : List (List Int)), false)))) else (some (0, 0, ([] : List (List Int)), false))))
end
def impl_ReadCover.f (k : Nat) (a0 : ByteArray) : Option (Int × Int × (List (List Int)) × Bool) := (strings_Split.f a0 (⟨#[59]⟩ : ByteArray)).bind fun t199 => (if 0 < (t199.length : Int) then ((impl_readNumbers.f k (rdOf ByteArray.empty t199 0) (⟨#[47]⟩ : ByteArray)).bind fun bt203 => (if bt203.2 = true then (if (bt203.1.length : Int) = 2 then (impl_ReadCover.j0 k a0 t199 bt203.1 (decide ((wrap64 ((t199.length : Int) - 1)) > 400))) else (impl_ReadCover.j0 k a0 t199 bt203.1 true)) else (impl_ReadCover.j0 k a0 t199 bt203.1 true))) else (none))
theorem impl_ReadCover.mono_l : ∀ k, (∀ y0 y1 y2 y3, LeO (impl_ReadCover.j0 k y0 y1 y2 y3) (impl_ReadCover.j0 (k + 1) y0 y1 y2 y3)) ∧ (∀ y0 y1 y2 y3 y4 y5 y6, LeO (impl_ReadCover.l0 k y0 y1 y2 y3 y4 y5 y6) (impl_ReadCover.l0 (k + 1) y0 y1 y2 y3 y4 y5 y6))
  | 0 => ⟨fun _ _ _ _ r h => by simp [impl_ReadCover.j0] at h, fun _ _ _ _ _ _ _ r h => by simp [impl_ReadCover.l0] at h⟩
  | k + 1 => by
    obtain ⟨ih0, ih1⟩ := impl_ReadCover.mono_l k
    refine ⟨?_, ?_⟩
    · intro y0 y1 y2 y3
      unfold impl_ReadCover.j0
      repeat' first
      | (with_reducible exact ih0 _ _ _ _)
      | (with_reducible exact ih1 _ _ _ _ _ _ _)
      | (with_reducible exact impl_IsCover.mono _ _ _ _)
      | (with_reducible exact impl_coverText.mono _ _ _ _)
      | (with_reducible exact impl_readNumbers.mono _ _ _)
      | (with_reducible exact LeO.refl _)
      | (with_reducible exact LeO.none _)
      | (with_reducible refine LeO.ite ?_ ?_)
      | (with_reducible refine LeO.bind ?_ (fun _ => ?_))
      | exact ih0 _ _ _ _
      | exact ih1 _ _ _ _ _ _ _
      | exact impl_IsCover.mono _ _ _ _
      | exact impl_coverText.mono _ _ _ _
      | exact impl_readNumbers.mono _ _ _
      | exact LeO.none _
      | refine LeO.ite ?_ ?_
      | refine LeO.bind ?_ (fun _ => ?_)
    · intro y0 y1 y2 y3 y4 y5 y6
      unfold impl_ReadCover.l0
      repeat' first
      | (with_reducible exact ih0 _ _ _ _)
      | (with_reducible exact ih1 _ _ _ _ _ _ _)
      | (with_reducible exact impl_IsCover.mono _ _ _ _)
      | (with_reducible exact impl_coverText.mono _ _ _ _)
      | (with_reducible exact impl_readNumbers.mono _ _ _)
      | (with_reducible exact LeO.refl _)
      | (with_reducible exact LeO.none _)
      | (with_reducible refine LeO.ite ?_ ?_)
      | (with_reducible refine LeO.bind ?_ (fun _ => ?_))
      | exact ih0 _ _ _ _
      | exact ih1 _ _ _ _ _ _ _
      | exact impl_IsCover.mono _ _ _ _
      | exact impl_coverText.mono _ _ _ _
      | exact impl_readNumbers.mono _ _ _
      | exact LeO.none _
      | refine LeO.ite ?_ ?_
      | refine LeO.bind ?_ (fun _ => ?_)
theorem impl_ReadCover.mono : ∀ a0 k, LeO (impl_ReadCover.f k a0) (impl_ReadCover.f (k + 1) a0) := by
  intro a0 k
  obtain ⟨ih0, ih1⟩ := impl_ReadCover.mono_l k
  unfold impl_ReadCover.f
  repeat' first
      | (with_reducible exact ih0 _ _ _ _)
      | (with_reducible exact ih1 _ _ _ _ _ _ _)
      | (with_reducible exact impl_IsCover.mono _ _ _ _)
      | (with_reducible exact impl_coverText.mono _ _ _ _)
      | (with_reducible exact impl_readNumbers.mono _ _ _)
      | (with_reducible exact LeO.refl _)
      | (with_reducible exact LeO.none _)
      | (with_reducible refine LeO.ite ?_ ?_)
      | (with_reducible refine LeO.bind ?_ (fun _ => ?_))
      | exact ih0 _ _ _ _
      | exact ih1 _ _ _ _ _ _ _
      | exact impl_IsCover.mono _ _ _ _
      | exact impl_coverText.mono _ _ _ _
      | exact impl_readNumbers.mono _ _ _
      | exact LeO.none _
      | refine LeO.ite ?_ ?_
      | refine LeO.bind ?_ (fun _ => ?_)
def impl_ReadCover.T5 : Bool × List (List Nat × List Nat) := (true, [([], []), ([0], [0]), ([1], [1]), ([], []), ([3], [3]), ([4], [4]), ([2, 5], [2, 5]), ([], []), ([7, 6, 0, 1, 2, 3, 4, 5, 6, 7], [6, 7])])
def impl_ReadCover.B5 : List Nat := [0, 1, 3, 0, 8, 24, 63, 0, 255]
theorem impl_ReadCover.tab5 : rtab .any (opsOf Tryd.f5 5) = impl_ReadCover.T5 := by kernel_rfl
theorem impl_ReadCover.bits5 : waitsOk impl_ReadCover.T5.2 impl_ReadCover.B5 = true := by kernel_rfl
set_option maxHeartbeats 8000000 in
set_option maxRecDepth 100000 in
theorem impl_ReadCover.calls (k : Nat) (a0 : ByteArray) (r1 : Int) (r2 : Int) (r3 : List (List Int)) (r4 : Bool) (w : World) (h : impl_ReadCover.f k a0 = some (r1, r2, r3, r4)) (hamb_ : Amb w := by first | (with_reducible assumption) | exact Amb.mv hamb_ Hb | exact Amb.mv hamb_ (by repeat (first | exact (Aside0.out HG).1 | apply below_alloc | apply pw_below_drewN | apply below_drew1))) :
    Calls Tryd.prog 5 #[.string a0] w fun e w' => ∃ v2_ : Value, e = .returned (.tuple #[.agg #[.int .i64 r1, .int .i64 r2, v2_], .bool r4]) ∧ Kd.S (Kd.slice 2 (Kd.int .i64)) 32 w' w.heap.size (fun _ => True) v2_ r3 ∧ Below w.heap.size w w' := by
  have hu24 := Tryd.underlying24
  have HB := Aside0.mk (Below.refl w.heap.size w)
  have H : ((strings_Split.f a0 (⟨#[59]⟩ : ByteArray)).bind fun t199 => (if 0 < (t199.length : Int) then ((impl_readNumbers.f k (rdOf ByteArray.empty t199 0) (⟨#[47]⟩ : ByteArray)).bind fun bt203 => (if bt203.2 = true then (if (bt203.1.length : Int) = 2 then (impl_ReadCover.j0 k a0 t199 bt203.1 (decide ((wrap64 ((t199.length : Int) - 1)) > 400))) else (impl_ReadCover.j0 k a0 t199 bt203.1 true)) else (impl_ReadCover.j0 k a0 t199 bt203.1 true))) else (none))) = some (r1, r2, r3, r4) := h
  clear h
  obtain ⟨t199, A20, H⟩ := Option.bind_eq_some_iff.mp H
  have A2 := Aside0.mk A20
  clear A20
  by_cases c3 : 0 < (t199.length : Int)
  · rw [if_pos c3] at H
    have c3b0 : decide (0 < (t199.length : Int)) = true := decide_eq_true c3
    have c3b1 : decide (0 < t199.length) = true := decide_eq_true (by omega)
    clear c3
    obtain ⟨⟨t203, t204⟩, A40, H⟩ := Option.bind_eq_some_iff.mp H
    dsimp only at H
    have A4 := Aside0.mk A40
    clear A40
    have HC5 := Aside0.mk H
    clear H
    go_enter Tryd.func5, Tryd.ntmps5
    go_upto_region 3 with (first | ((with_reducible refine gD 2 ?_); (try (refine gate_guard (by rfl) ?_; dsimp only)); refine BX #[.int .i64 0, .int .i64 0, .slice none 0 0] 24 ?_; intro gb198 hg w6 hbox hb; have BK198 := Aside0.mk (hbox); have GW198 := Aside0.mk ((Gle hg Hb : w.heap.size ≤ gb198)); have GE198 := Aside0.mk ((Gle hg Hb : w.heap.size ≤ gb198)); replace HB := Aside0.mk (below_step Hb hb); clear hb hbox hg) | ((with_reducible refine gC 12 ?_); refine GL (some 13) Tryd.func12 #[.string a0, .string (⟨#[59]⟩ : ByteArray)] ?_; (with_reducible refine (strings_Split.calls a0 (⟨#[59]⟩ : ByteArray) t199 _ A2.out).mono ?_); rintro e w7 ⟨v200, rfl, ho0, hb⟩; refine ⟨_, rfl, ?_⟩; have HO201 := Aside0.mk (Kd.R_lower ho0 (below_size Hb)); replace BK198 := Aside0.mk (blk_below (B1 BK198) hb); replace HB := Aside0.mk (below_step Hb hb); (try clear hb); (try clear hb2); (try clear hk); (try clear hi); (try clear ho0); obtain ⟨Ao8, co8, eo8⟩ := Kd.R_slice HO201.out; subst eo8; have p202 : 0 ≤ (0 : Int) := (by omega); have q202 : 0 < (t199.length : Int) := oD; obtain ⟨ad202, e202, hx202_0⟩ := Kd.at_string (Kd.R_reads' HO201.out).2.2 0 p202 q202; cases e202; have qi202 : (0 < t199.length) = True := eq_true (by omega); (try rw [show ((0 : Int)).toNat = 0 from rfl] at hx202_0); (try rw [Addr.add_zero'] at hx202_0); replace p202 := eq_true p202; replace q202 := eq_true q202) | ((with_reducible refine gC 13 ?_); refine GL (some 18) Tryd.func13 #[.string (rdOf ByteArray.empty t199 0), .string (⟨#[47]⟩ : ByteArray)] ?_; (with_reducible refine (impl_readNumbers.calls k (rdOf ByteArray.empty t199 0) (⟨#[47]⟩ : ByteArray) t203 t204 _ A4.out).mono ?_); rintro e w9 ⟨v205, rfl, ho0, hb⟩; refine ⟨_, rfl, ?_⟩; replace HO201 := Aside0.mk (Kd.R_below (R1 HO201) hb); have HO206 := Aside0.mk (Kd.R_lower ho0 (below_size Hb)); replace BK198 := Aside0.mk (blk_below (B1 BK198) hb); replace HB := Aside0.mk (below_step Hb hb); (try clear hb); (try clear hb2); (try clear hk); (try clear hi); (try clear ho0)))
    (try simp only [Act.put, List.setIfInBounds_toArray, List.set_cons_zero, List.set_cons_succ])
    go_cut [33] (fun v33 wc => ∃ (kq : Nat) (x33_4 : Bool), v33 = .bool x33_4 ∧ Aside0 (impl_ReadCover.j0 kq a0 t199 t203 x33_4 = some (r1, r2, r3, r4)) ∧ Aside0 (kq ≤ k) ∧ Aside0 (Kd.R Kd.string 9 wc w.heap.size (fun _ => True) (.slice (some ad202) t199.length co8) t199) ∧ Aside0 (Kd.R (Kd.int .i64) 2 wc w.heap.size (fun _ => True) v205 t203) ∧ Aside0 (wc.heap[gb198]? = some (.cells #[.int .i64 0, .int .i64 0, (.slice none 0 0)] 24 (0, 0))) ∧ Aside0 (Below w.heap.size w wc))
    case first =>
      have H := HC5.out
      clear HC5
      by_cases c10 : t204 = true
      · subst c10
        rw [if_pos rfl] at H
        by_cases c11 : (t203.length : Int) = 2
        · rw [if_pos c11] at H
          have c11b0 : ((t203.length : Int) == 2) = true := beq_iff_eq.mpr c11
          have c11b1 : ((t203.length : Int) != 2) = false := bne_eq_false_iff_eq.mpr c11
          clear c11
          (first | rw [c11b0] | (simp only [i64_w, i32_w]; rw [c11b0]) | skip)
          have H' := Aside0.mk H
          clear H
          obtain ⟨Ao12, co12, eo12⟩ := Kd.R_slice HO206.out
          subst eo12
          go_wp2
          go_meet
          case rel => exact ⟨_, (decide ((wrap64 ((t199.length : Int) - 1)) > 400)), Fs, H', ⟨by first | omega | exact Nat.le_refl _⟩, ⟨R1 HO201⟩, ⟨R1 HO206⟩, ⟨B1 BK198⟩, ⟨Hb⟩⟩
        · rw [if_neg c11] at H
          have c11b0 : ((t203.length : Int) == 2) = false := beq_eq_false_iff_ne.mpr c11
          have c11b1 : ((t203.length : Int) != 2) = true := bne_iff_ne.mpr c11
          (first | rw [c11b0] | (simp only [i64_w, i32_w]; rw [c11b0]) | skip)
          have H' := Aside0.mk H
          clear H
          obtain ⟨Ao13, co13, eo13⟩ := Kd.R_slice HO206.out
          subst eo13
          go_wp2
          go_meet
          case rel => exact ⟨_, (true), Fs, H', ⟨by first | omega | exact Nat.le_refl _⟩, ⟨R1 HO201⟩, ⟨R1 HO206⟩, ⟨B1 BK198⟩, ⟨Hb⟩⟩
      · replace c10 := Bool.eq_false_iff.mpr c10
        subst c10
        rw [if_neg (show ¬ (false = true) by decide)] at H
        have H' := Aside0.mk H
        clear H
        go_wp2
        go_meet
        case rel => exact ⟨_, (true), Fs, H', ⟨by first | omega | exact Nat.le_refl _⟩, ⟨R1 HO201⟩, ⟨R1 HO206⟩, ⟨B1 BK198⟩, ⟨Hb⟩⟩
    case rest =>
      clear HC5
      try clear c1
      try clear p2
      try clear q2
      try clear hx2
      try clear qi2
      try clear c3
      try clear c3b0
      try clear c3b1
      try clear c5
      try clear p6
      try clear c10
      try clear c11
      try clear c11b0
      try clear c11b1
      try clear c12
      try clear c13
      try clear hx202_0
      try clear p202
      try clear q202
      obtain ⟨kq, x33_4, rfl, HA, HJ4, HO_4, HO_5, BK198, HB⟩ := hcut
      cases kq with
      | zero => exact absurd HA.out (by simp [impl_ReadCover.j0])
      | succ kj4 =>
        have H := HA.out
        clear HA
        simp only [impl_ReadCover.j0] at H
        by_cases c14 : x33_4 = true
        · subst c14
          rw [if_pos rfl] at H
          simp only [Option.some.injEq, Prod.mk.injEq] at H
          obtain ⟨rfl, rfl, rfl, rfl⟩ := H
          have hcz15_0 : wc.cell? ⟨gb198, 0, none⟩ = some (.int .i64 0) := bc BK198
          have hcz15_1 : wc.cell? ⟨gb198, 1, none⟩ = some (.int .i64 0) := bc BK198
          have hcz15_2 : wc.cell? ⟨gb198, 2, none⟩ = some (.slice none 0 0) := bc BK198
          have hfz15_0 := blk_frozen BK198.out 0
          have hfz15_1 := blk_frozen BK198.out 1
          have hfz15_2 := blk_frozen BK198.out 2
          go_wp2
          refine bodyPost_ret (results_ct rfl _ _ gb198 24 #[.int .i64 0, .int .i64 0, .slice none 0 0] (0, 0) _ rfl (by (with_reducible repeat (first | refine blk_drewN ?_ _ | refine blk_drew ?_ | refine blk_alloc ?_ _)); refine blk_put (cs := #[.int .i64 0, .int .i64 0, .slice none 0 0]) ?_ 2 _ rfl; (with_reducible repeat (first | refine blk_drewN ?_ _ | refine blk_drew ?_ | refine blk_alloc ?_ _)); refine blk_put (cs := #[.int .i64 0, .int .i64 0, .slice none 0 0]) ?_ 1 _ rfl; (with_reducible repeat (first | refine blk_drewN ?_ _ | refine blk_drew ?_ | refine blk_alloc ?_ _)); refine blk_put (cs := #[.int .i64 0, .int .i64 0, .slice none 0 0]) ?_ 0 _ rfl; (with_reducible repeat (first | refine blk_drewN ?_ _ | refine blk_drew ?_ | refine blk_alloc ?_ _)); exact BK198.out) Tryd.underlying24 rfl (by kernel_rfl)) rfl ?_
          exact ⟨_, Fin, by first | exact Kd.S_nil _ _ _ _ _ | exact Kd.N_nil _ _ _ _ _ | exact Kd.V_nil _ _ _ _ _ | exact Kd.Q_nil _ _ _ _ _ | exact Kd.R_nil _ _ _ _ _, Hb⟩
        · replace c14 := Bool.eq_false_iff.mpr c14
          subst c14
          rw [if_neg (show ¬ (false = true) by decide)] at H
          by_cases c16 : 0 < (t203.length : Int)
          · rw [if_pos c16] at H
            have c16b0 : decide (0 < (t203.length : Int)) = true := decide_eq_true c16
            have c16b1 : decide (0 < t203.length) = true := decide_eq_true (by omega)
            clear c16
            by_cases c17 : 1 < (t203.length : Int)
            · rw [if_pos c17] at H
              have c17b0 : decide (1 < (t203.length : Int)) = true := decide_eq_true c17
              have c17b1 : decide (1 < t203.length) = true := decide_eq_true (by omega)
              clear c17
              by_cases c18 : 1 ≤ (t199.length : Int)
              · rw [if_pos c18] at H
                have c18b0 := eq_true c18
                have c18b1 : decide (1 ≤ (t199.length : Int)) = true := decide_eq_true c18
                clear c18
                obtain ⟨y210, hy210⟩ : ∃ y_ : List ByteArray, y_ = (t199.drop 1) := ⟨_, rfl⟩
                replace H : (impl_ReadCover.l0 kj4 a0 y210 (y210.length : Int) 0 (rd t203 0) (rd t203 1) ([] : List (List Int))) = some (r1, r2, r3, r4) := by first | (rw [hy210]; with_reducible exact H) | (have H2_ := (Option.bind_some _ _).symm.trans H; rw [hy210]; with_reducible exact H2_) | (have H2_ := (Option.bind_some _ _).symm.trans H; with_reducible exact H2_) | with_reducible exact H | (rw [hy210]; exact H) | exact H
                have Ny210 := Aside0.mk hy210
                clear hy210
                have H' := Aside0.mk H
                clear H
                try go_wp2
                replace HO_4 := Aside0.mk (Kd.R_drew HO_4.out)
                replace HO_5 := Aside0.mk (Kd.R_drew HO_5.out)
                replace BK198 := Aside0.mk (blk_drew BK198.out)
                replace HB := Aside0.mk (below_drew1 HB.out)
                obtain ⟨Ao20, co20, eo20⟩ := Kd.R_slice HO_5.out
                (first | subst eo20 | (injection eo20 with f1_ f2_ f3_; have f4_ := f1_.symm; have f5_ := f3_.symm; clear f1_ f2_ f3_; subst f4_; subst f5_))
                have p207 : 0 ≤ (0 : Int) := (by omega)
                have q207 : 0 < (t203.length : Int) := oD
                (try (obtain ⟨Aq_, cq_, eq_⟩ := Kd.R_slice HO_5.out; subst eq_))
                obtain ⟨ad207, e207, hx207_0⟩ := Kd.at_int (Kd.R_reads' HO_5.out).2.2 0 p207 q207
                cases e207
                have qi207 : (0 < t203.length) = True := eq_true (by omega)
                (try rw [show ((0 : Int)).toNat = 0 from rfl] at hx207_0)
                (try rw [Addr.add_zero'] at hx207_0)
                replace p207 := eq_true p207
                replace q207 := eq_true q207
                have p208 : 0 ≤ (1 : Int) := (by omega)
                have q208 : 1 < (t203.length : Int) := oD
                (try (obtain ⟨Aq_, cq_, eq_⟩ := Kd.R_slice HO_5.out; subst eq_))
                obtain ⟨ad208, e208, hx208_0⟩ := Kd.at_int (Kd.R_reads' HO_5.out).2.2 1 p208 q208
                obtain rfl : ad207 = ad208 := (by injection e208)
                (try simp only [show (1 : Int).toNat = 1 from rfl, Nat.reduceMul, Nat.reduceEqDiff, Go.Addr.add, ↓reduceIte] at hx208_0)
                have qi208 : (1 < t203.length) = True := eq_true (by omega)
                (try rw [show ((1 : Int)).toNat = 1 from rfl] at hx208_0)
                replace p208 := eq_true p208
                replace q208 := eq_true q208
                refine start_ (n := 9) (S := fun w' => w'.cell? ad207 = some (.int .i64 (rd t203 0)) ∧ w'.cell? ⟨ad207.block, ad207.off + 1, none⟩ = some (.int .i64 (rd t203 1))) (ds := []) #[false, false, false, false, false, false, false, false, false] (by kernel_rfl) rfl rfl ⟨hx207_0, hx208_0⟩ (fun hHeld => ?_); refine with_tabW impl_ReadCover.tab5 impl_ReadCover.bits5 (fun HT_ HW_ => ?_)
                generalize wc.drew = w19 at HO_4 HO_5 BK198 HB hx207_0 hx208_0 hHeld ⊢
                refine PU 0 35 ?_
                refine PU 1 36 ?_
                refine PU 3 38 ?_
                refine PU 4 39 ?_
                refine TK 2 37 hHeld ?_
                refine TK 5 40 hHeld ?_
                refine PU 6 41 ?_
                refine ON 7 7 (fun K hK => ?_)
                refine box_step ?hg (N := 7) ?hd (cs := #[.int .i64 0, .int .i64 0, .slice none 0 0]) (t := 24) ?hr ?_; (case hd => rfl); (case hg => rfl); (case hr => first | (go_simp; done) | (go_simp; rfl))
                intro gb209 hg w21 hbox hb
                have HS0_ := (hb.cell (World.block_lt_of_cell? _ _ (hHeld.1))).trans (hHeld.1)
                have HS1_ := (hb.cell (World.block_lt_of_cell? _ _ (hHeld.2))).trans (hHeld.2)
                replace HO_4 := Aside0.mk (Kd.R_below (R1 HO_4) hb)
                replace HO_5 := Aside0.mk (Kd.R_below (R1 HO_5) hb)
                have BK209 := Aside0.mk (hbox)
                have GW209 := Aside0.mk ((Gle hg Hb : w.heap.size ≤ gb209))
                have GE209 := Aside0.mk ((Gle hg Hb : w.heap.size ≤ gb209))
                replace HB := Aside0.mk (below_step Hb hb)
                have NB198_209 := Aside0.mk ((by rw [hg]; exact Nat.ne_of_lt (blk_lt (B1 BK198)) : gb198 ≠ gb209))
                have NB209_198 := Aside0.mk ((by rw [hg]; exact Nat.ne_of_gt (blk_lt (B1 BK198)) : gb209 ≠ gb198))
                replace BK198 := Aside0.mk (blk_below (B1 BK198) hb)
                clear hb hbox hg
                refine hK.out _ _ ⟨HS0_, HS1_⟩ (fun hHeld => ?_)
                clear hK K
                refine NM 7 ?_
                refine one_ (i := 8) (N := none) #[true, true, true, true, true, true, true, true, true] rfl rfl (one_of HT_.out (by kernel_rfl)) (by decide) (fun K hK => ?_)
                have hs22 : w21.cell? ⟨gb209, 0, none⟩ = some (.int .i64 0) := (blk_cell BK209.out 0).trans rfl
                have hfs22 := blk_frozen BK209.out 0
                have hns22_0 := NB198_209.out
                have hms22_0 := NB209_198.out
                have hs23 : w21.cell? ⟨gb209, 1, none⟩ = some (.int .i64 0) := (blk_cell BK209.out 1).trans rfl
                have hfs23 := blk_frozen BK209.out 1
                have hns23_0 := NB198_209.out
                have hms23_0 := NB209_198.out
                have hs24 : w21.cell? ⟨gb209, 2, none⟩ = some (.slice none 0 0) := (blk_cell BK209.out 2).trans rfl
                have hfs24 := blk_frozen BK209.out 2
                have hns24_0 := NB198_209.out
                have hms24_0 := NB209_198.out
                refine skip_ (w1 := ?_) (by rfl) rfl ?_ ?_
                rotate_left
                · go_simp
                  rfl
                refine hK.out _ _ ⟨((cell_far (p := ⟨gb209, _, none⟩) (by first | exact Kd.own_blk (Kd.R_ne HO_5.out BK209.out (by decide)) | (rw [add_block]; exact Kd.own_blk (Kd.R_ne HO_5.out BK209.out (by decide))) | (show (Addr.add _ _).block ≠ _; rw [add_block]; exact Kd.own_blk (Kd.R_ne HO_5.out BK209.out (by decide))) | (dsimp only; exact Kd.own_blk (Kd.R_ne HO_5.out BK209.out (by decide)))) _).trans (((cell_far (p := ⟨gb209, _, none⟩) (by first | exact Kd.own_blk (Kd.R_ne HO_5.out BK209.out (by decide)) | (rw [add_block]; exact Kd.own_blk (Kd.R_ne HO_5.out BK209.out (by decide))) | (show (Addr.add _ _).block ≠ _; rw [add_block]; exact Kd.own_blk (Kd.R_ne HO_5.out BK209.out (by decide))) | (dsimp only; exact Kd.own_blk (Kd.R_ne HO_5.out BK209.out (by decide)))) _).trans (((cell_far (p := ⟨gb209, _, none⟩) (by first | exact Kd.own_blk (Kd.R_ne HO_5.out BK209.out (by decide)) | (rw [add_block]; exact Kd.own_blk (Kd.R_ne HO_5.out BK209.out (by decide))) | (show (Addr.add _ _).block ≠ _; rw [add_block]; exact Kd.own_blk (Kd.R_ne HO_5.out BK209.out (by decide))) | (dsimp only; exact Kd.own_blk (Kd.R_ne HO_5.out BK209.out (by decide)))) _).trans (hHeld.1)))))), ((cell_far (p := ⟨gb209, _, none⟩) (by first | exact Kd.own_blk (Kd.R_ne HO_5.out BK209.out (by decide)) | (rw [add_block]; exact Kd.own_blk (Kd.R_ne HO_5.out BK209.out (by decide))) | (show (Addr.add _ _).block ≠ _; rw [add_block]; exact Kd.own_blk (Kd.R_ne HO_5.out BK209.out (by decide))) | (dsimp only; exact Kd.own_blk (Kd.R_ne HO_5.out BK209.out (by decide)))) _).trans (((cell_far (p := ⟨gb209, _, none⟩) (by first | exact Kd.own_blk (Kd.R_ne HO_5.out BK209.out (by decide)) | (rw [add_block]; exact Kd.own_blk (Kd.R_ne HO_5.out BK209.out (by decide))) | (show (Addr.add _ _).block ≠ _; rw [add_block]; exact Kd.own_blk (Kd.R_ne HO_5.out BK209.out (by decide))) | (dsimp only; exact Kd.own_blk (Kd.R_ne HO_5.out BK209.out (by decide)))) _).trans (((cell_far (p := ⟨gb209, _, none⟩) (by first | exact Kd.own_blk (Kd.R_ne HO_5.out BK209.out (by decide)) | (rw [add_block]; exact Kd.own_blk (Kd.R_ne HO_5.out BK209.out (by decide))) | (show (Addr.add _ _).block ≠ _; rw [add_block]; exact Kd.own_blk (Kd.R_ne HO_5.out BK209.out (by decide))) | (dsimp only; exact Kd.own_blk (Kd.R_ne HO_5.out BK209.out (by decide)))) _).trans (hHeld.2))))))⟩ (fun hHeld => ?_)
                clear hK K
                refine done_ (done_of HT_.out (by kernel_rfl)) ?_
                have n0_ : Aside0 (Kd.R Kd.string 9 (((w21.setCell ⟨gb209, 0, none⟩ (.int .i64 (rd t203 0))).setCell ⟨gb209, 1, none⟩ (.int .i64 (rd t203 1))).setCell ⟨gb209, 2, none⟩ (.slice none 0 0)) w.heap.size (fun _ => True) (.slice (some ad202) t199.length co8) t199) := ⟨by (with_reducible repeat (first | apply Kd.R_alloc | apply Kd.R_drewN | apply Kd.R_drew)); exact Kd.R_mono (Kd.R_far (p := ⟨gb209, 2, none⟩) (Kd.R_far (p := ⟨gb209, 1, none⟩) (Kd.R_far (p := ⟨gb209, 0, none⟩) (Kd.R_types HO_4.out BK209.out (by decide)) (fun _ hk => hk.2) (.int .i64 (rd t203 0))) (fun _ hk => hk.2) (.int .i64 (rd t203 1))) (fun _ hk => hk.2) (.slice none 0 0)) (fun _ hk => trivial)⟩
                have n1_ : Aside0 (Kd.R (Kd.int .i64) 2 (((w21.setCell ⟨gb209, 0, none⟩ (.int .i64 (rd t203 0))).setCell ⟨gb209, 1, none⟩ (.int .i64 (rd t203 1))).setCell ⟨gb209, 2, none⟩ (.slice none 0 0)) w.heap.size (fun _ => True) (.slice (some ad207) t203.length co20) t203) := ⟨by (with_reducible repeat (first | apply Kd.R_alloc | apply Kd.R_drewN | apply Kd.R_drew)); exact Kd.R_mono (Kd.R_far (p := ⟨gb209, 2, none⟩) (Kd.R_far (p := ⟨gb209, 1, none⟩) (Kd.R_far (p := ⟨gb209, 0, none⟩) (Kd.R_types HO_5.out BK209.out (by decide)) (fun _ hk => hk.2) (.int .i64 (rd t203 0))) (fun _ hk => hk.2) (.int .i64 (rd t203 1))) (fun _ hk => hk.2) (.slice none 0 0)) (fun _ hk => trivial)⟩
                have n2_ : Aside0 ((((w21.setCell ⟨gb209, 0, none⟩ (.int .i64 (rd t203 0))).setCell ⟨gb209, 1, none⟩ (.int .i64 (rd t203 1))).setCell ⟨gb209, 2, none⟩ (.slice none 0 0)).heap[gb198]? = some (.cells #[.int .i64 0, .int .i64 0, .slice none 0 0] 24 (0, 0))) := ⟨by (with_reducible repeat (first | refine blk_drewN ?_ _ | refine blk_drew ?_ | refine blk_alloc ?_ _)); refine blk_far ?_ NB198_209.out _; (with_reducible repeat (first | refine blk_drewN ?_ _ | refine blk_drew ?_ | refine blk_alloc ?_ _)); refine blk_far ?_ NB198_209.out _; (with_reducible repeat (first | refine blk_drewN ?_ _ | refine blk_drew ?_ | refine blk_alloc ?_ _)); refine blk_far ?_ NB198_209.out _; (with_reducible repeat (first | refine blk_drewN ?_ _ | refine blk_drew ?_ | refine blk_alloc ?_ _)); exact BK198.out⟩
                have n3_ : Aside0 ((((w21.setCell ⟨gb209, 0, none⟩ (.int .i64 (rd t203 0))).setCell ⟨gb209, 1, none⟩ (.int .i64 (rd t203 1))).setCell ⟨gb209, 2, none⟩ (.slice none 0 0)).heap[gb209]? = some (.cells #[.int .i64 (rd t203 0), .int .i64 (rd t203 1), .slice none 0 0] 24 (0, 0))) := ⟨by (with_reducible repeat (first | refine blk_drewN ?_ _ | refine blk_drew ?_ | refine blk_alloc ?_ _)); refine blk_put (cs := #[.int .i64 (rd t203 0), .int .i64 (rd t203 1), .slice none 0 0]) ?_ 2 _ rfl; (with_reducible repeat (first | refine blk_drewN ?_ _ | refine blk_drew ?_ | refine blk_alloc ?_ _)); refine blk_put (cs := #[.int .i64 (rd t203 0), .int .i64 0, .slice none 0 0]) ?_ 1 _ rfl; (with_reducible repeat (first | refine blk_drewN ?_ _ | refine blk_drew ?_ | refine blk_alloc ?_ _)); refine blk_put (cs := #[.int .i64 0, .int .i64 0, .slice none 0 0]) ?_ 0 _ rfl; (with_reducible repeat (first | refine blk_drewN ?_ _ | refine blk_drew ?_ | refine blk_alloc ?_ _)); exact BK209.out⟩
                have n4_ : Aside0 (Below w.heap.size w (((w21.setCell ⟨gb209, 0, none⟩ (.int .i64 (rd t203 0))).setCell ⟨gb209, 1, none⟩ (.int .i64 (rd t203 1))).setCell ⟨gb209, 2, none⟩ (.slice none 0 0))) := ⟨Hb⟩
                (try clear HO_4)
                (try clear HO_5)
                (try clear BK198)
                (try clear BK209)
                (try clear HB)
                generalize (((w21.setCell ⟨gb209, 0, none⟩ (.int .i64 (rd t203 0))).setCell ⟨gb209, 1, none⟩ (.int .i64 (rd t203 1))).setCell ⟨gb209, 2, none⟩ (.slice none 0 0)) = w25 at n0_ n1_ n2_ n3_ n4_ ⊢
                have HO_4 := n0_
                have HO_5 := n1_
                have BK198 := n2_
                have BK209 := n3_
                have HB := n4_
                clear n0_ n1_ n2_ n3_ n4_
                have q26 : (1 : Int) ≤ ((t199.length : Int) : Int) := oD
                obtain ⟨i026, hi026, _, hsz26, _⟩ := info_parts info9
                have hroom26 : t199.length ≤ co8 := (Kd.R_reads' HO_4.out).2.1
                have hC26 : Kd.C Kd.string _ (some ad202) t199.length t199 := (Kd.R_reads' HO_4.out).2.2
                have hcut26 := cut_from (P := Tryd.prog) 30 9 .i64 Tryd.underlying30 hi026 1 hsz26 (some ad202) t199.length co8 1 (by omega) q26
                have hr26 := Kd.C_drop (m := (1 : Int).toNat) (c := co8) hC26 (by omega) hroom26
                obtain ⟨A26, hA26⟩ : ∃ A1, A1 = (if co8 = (1 : Int).toNat then (some ad202) else ((some ad202) : Option Addr).map (·.add ((1 : Int).toNat * 1))) := ⟨_, rfl⟩
                obtain ⟨c26, hc26⟩ : ∃ c1, c1 = co8 - (1 : Int).toNat := ⟨_, rfl⟩
                have hy26 : y210.length = t199.length - (1 : Int).toNat := (by rw [Ny210.out, List.length_drop] <;> omega)
                rw [show (t199).drop (1 : Int).toNat = y210 from Ny210.out.symm] at hr26
                replace hr26 : Kd.C Kd.string _ A26 y210.length y210 := (by rw [hA26]; exact hr26)
                rw [← hy26, ← hA26, ← hc26] at hcut26
                have HR213 := Aside0.mk hr26
                have HC213 := Aside0.mk (show y210.length ≤ c26 from by rw [hy26, hc26]; exact Nat.sub_le_sub_right hroom26 _)
                clear hr26 hC26 hroom26 hi026 hsz26 hc26
                have KY26 := Aside0.mk hy26
                have KA26 := Aside0.mk hA26
                clear hy26 hA26
                have KL26 := Aside0.mk (show 1 ≤ t199.length from by omega)
                replace q26 := eq_true q26
                try go_wp2
                go_loopg [45] kj4 (fun kq v45 w' => ∃ (x45_2 : Int) (x199000_2 : Int) (x199001_2 : Int) (x210002_2 : List (List Int)) (u210002 : Value), v45 = .int .i64 x45_2 ∧ Aside0 (impl_ReadCover.l0 kq a0 y210 (y210.length : Int) x45_2 (rd t203 0) (rd t203 1) x210002_2 = some (r1, r2, r3, r4)) ∧ Aside0 (kq ≤ kj4) ∧ Aside0 (Kd.S (Kd.slice 2 (Kd.int .i64)) 32 w' w.heap.size (fun _ => True) u210002 x210002_2) ∧ Aside0 (w'.heap[gb198]? = some (.cells #[.int .i64 x199000_2, .int .i64 x199001_2, (.slice none 0 0)] 24 (0, 0))) ∧ Aside0 (w'.heap[gb209]? = some (.cells #[.int .i64 (rd t203 0), .int .i64 (rd t203 1), u210002] 24 (0, 0))) ∧ Aside0 (Kd.R Kd.string 9 w' w.heap.size (fun _ => True) (.slice (some ad202) t199.length co8) t199) ∧ Aside0 (Below w.heap.size w w'))
                case atStart => exact ⟨(0), (0), (0), (([] : List (List Int))), (.slice none 0 0), Fs, H', ⟨Nat.le_refl _⟩, ⟨by first | exact Kd.S_nil _ _ _ _ _ | exact Kd.N_nil _ _ _ _ _ | exact Kd.V_nil _ _ _ _ _ | exact Kd.Q_nil _ _ _ _ _ | exact Kd.R_nil _ _ _ _ _⟩, ⟨B1 BK198⟩, ⟨B1 BK209⟩, ⟨R1 HO_4⟩, ⟨Hb⟩⟩
                case round =>
                  clear H'
                  try clear c1
                  try clear c2
                  try clear p2
                  try clear q2
                  try clear hx2
                  try clear qi2
                  try clear c3
                  try clear c3b0
                  try clear c3b1
                  try clear c5
                  try clear p6
                  try clear c10
                  try clear c11
                  try clear c11b0
                  try clear c11b1
                  try clear c12
                  try clear c13
                  try clear c14
                  try clear c16
                  try clear c16b0
                  try clear c16b1
                  try clear c17
                  try clear c17b0
                  try clear c17b1
                  try clear c18
                  try clear c18b0
                  try clear c18b1
                  try clear p20
                  try clear q20
                  try clear hx20
                  try clear qi20
                  try clear c26
                  try clear q26
                  try clear hcz15_0
                  try clear hcz15_1
                  try clear hcz15_2
                  try clear hfz15_0
                  try clear hfz15_1
                  try clear hfz15_2
                  try clear hx202_0
                  try clear hx207_0
                  try clear hx208_0
                  try clear p2
                  try clear p202
                  try clear p207
                  try clear p208
                  try clear p6
                  try clear q2
                  try clear q202
                  try clear q207
                  try clear q208
                  try clear q26
                  obtain ⟨x45_2, x199000_2, x199001_2, x210002_2, u210002, rfl, HA, HK2, HO_210002, BK198, BK209, HO_4, HB⟩ := hrel
                  cases gk with
                  | zero => exact absurd HA.out (by simp [impl_ReadCover.l0])
                  | succ k2 =>
                    have HR_ := Kd.C_drop (m := (1 : Int).toNat) (c := co8) (Kd.R_reads' HO_4.out).2.2 (by have := KL26.out; omega) (Kd.R_reads' HO_4.out).2.1
                    rw [show (t199).drop (1 : Int).toNat = y210 from Ny210.out.symm] at HR_
                    replace HR213 : Aside0 (Kd.C Kd.string _ A26 y210.length y210) := Aside0.mk (by rw [KA26.out]; exact HR_)
                    clear HR_
                    have H := HA.out
                    clear HA
                    simp only [impl_ReadCover.l0] at H
                    by_cases c27 : x45_2 < (y210.length : Int)
                    · rw [if_pos c27] at H
                      have c27b0 : decide (x45_2 < (y210.length : Int)) = true := decide_eq_true c27
                      clear c27
                      by_cases c28 : 0 ≤ x45_2
                      · rw [if_pos c28] at H
                        have c28b0 : decide (0 ≤ x45_2) = true := decide_eq_true c28
                        clear c28
                        by_cases c29 : x45_2 < (y210.length : Int)
                        · rw [if_pos c29] at H
                          have c29b0 : decide (x45_2 < (y210.length : Int)) = true := decide_eq_true c29
                          clear c29
                          obtain ⟨⟨t215, t216⟩, A300, H⟩ := Option.bind_eq_some_iff.mp H
                          dsimp only at H
                          have A30 := Aside0.mk A300
                          clear A300
                          by_cases c31 : t216 = true
                          · subst c31
                            rw [if_pos rfl] at H
                            by_cases c32 : x210002_2.length < 5864062014805
                            · rw [if_pos c32] at H
                              have LMc32 := Aside0.mk c32
                              clear c32
                              obtain ⟨y219, hy219⟩ : ∃ y_ : List (List Int), y_ = (x210002_2 ++ [t215]) := ⟨_, rfl⟩
                              replace H : (impl_ReadCover.l0 k2 a0 y210 (y210.length : Int) (wrap64 (x45_2 + 1)) (rd t203 0) (rd t203 1) y219) = some (r1, r2, r3, r4) := by first | (rw [hy219]; with_reducible exact H) | (have H2_ := (Option.bind_some _ _).symm.trans H; rw [hy219]; with_reducible exact H2_) | (have H2_ := (Option.bind_some _ _).symm.trans H; with_reducible exact H2_) | with_reducible exact H | (rw [hy219]; exact H) | exact H
                              have Ny219 := Aside0.mk hy219
                              clear hy219
                              have H' := Aside0.mk H
                              clear H
                              have p214 : 0 ≤ (x45_2 : Int) := oD
                              have q214 : x45_2 < (y210.length : Int) := oD
                              obtain ⟨ad214, e214, hx214_0⟩ := Kd.at_string HR213.out x45_2 p214 q214
                              cases e214
                              replace p214 := eq_true p214
                              replace q214 := eq_true q214
                              go_wp2_with (first | ((with_reducible refine gC 13 ?_); refine GL (some 51) Tryd.func13 #[.string (rdOf ByteArray.empty y210 x45_2), .string (⟨#[44]⟩ : ByteArray)] ?_; (with_reducible refine (impl_readNumbers.calls k2 (rdOf ByteArray.empty y210 x45_2) (⟨#[44]⟩ : ByteArray) t215 true _ A30.out).mono ?_); rintro e w33 ⟨v217, rfl, ho0, hb⟩; refine ⟨_, rfl, ?_⟩; replace HO_210002 := Aside0.mk (Kd.S_elder' (S1 HO_210002) (Kd.R_base ho0) hb); replace HO_4 := Aside0.mk (Kd.R_below (R1 HO_4) hb); have HO218 := Aside0.mk (Kd.R_lower ho0 (below_size Hb)); replace BK198 := Aside0.mk (blk_below (B1 BK198) hb); replace BK209 := Aside0.mk (blk_below (B1 BK209) hb); replace HB := Aside0.mk (below_step Hb hb); (try clear hb); (try clear hb2); (try clear hk); (try clear hi); (try clear ho0); have hnb34 := NB209_198.out; have hnc34 := NB198_209.out; have hcz35_0 : w33.cell? ⟨gb209, 0, none⟩ = some (.int .i64 (rd t203 0)) := bc BK209; have hcz35_1 : w33.cell? ⟨gb209, 1, none⟩ = some (.int .i64 (rd t203 1)) := bc BK209; have hcz35_2 : w33.cell? ⟨gb209, 2, none⟩ = some (u210002) := bc BK209; have hfz35_0 := blk_frozen BK209.out 0; have hfz35_1 := blk_frozen BK209.out 1; have hfz35_2 := blk_frozen BK209.out 2; obtain ⟨Ao37, co37, eo37⟩ := Kd.R_slice HO218.out; subst eo37) | ((with_reducible refine gate_builtin (b := .append) (xs := #[.tmp 58, .tmp 60]) rfl ?_); (try (refine gate_guard (by rfl) ?_; dsimp only)); at_builtin; refine Kd.S_append (Kd.slice 2 (Kd.int .i64)) (w0 := w) w.heap.size rfl (.tmp 58) (.tmp 60) 22 32 (.slice none 0 0) 24 rfl Tryd.underlying22 info32 rfl (by decide) (by omega) u210002 x210002_2 t215 [.slice Ao37 t215.length co37] (fun _ => True) (fun k_ => some k_ = (.slice Ao37 t215.length co37 : Value).ownBlock) rfl rfl ?aP (fun k_ hk_ => ((Kd.R_mono (ok' := fun k_ => ((fun _ => True)) k_ ∧ some k_ ≠ (u210002 : Value).ownBlock) (Kd.R_apart' (HO218.out) (Kd.S_typed HO_210002.out) (by decide)) (fun k_ hk => ⟨trivial, hk.2⟩))).1 k_ hk_.symm) ?aF ?aO ?aB ?aS ?aL ?_; (case aP => exact Kd.M_row (Kd.R_mono (Kd.R_tight rfl (Kd.R_mono (ok' := fun k_ => ((fun _ => True)) k_ ∧ some k_ ≠ (u210002 : Value).ownBlock) (Kd.R_apart' (HO218.out) (Kd.S_typed HO_210002.out) (by decide)) (fun k_ hk => ⟨trivial, hk.2⟩))) (fun _ h_ => h_))); (case aB => exact Hb); (case aF => exact (fun _ _ => trivial)); (case aO => exact (by (with_reducible repeat (first | apply Kd.S_alloc | apply Kd.S_drewN | apply Kd.S_drew)); exact Kd.S_mono HO_210002.out (fun k_ hk => ⟨trivial, fun e_ => hk.2 e_⟩))); (case aS => exact (below_size Hb)); (case aL => have := LMc32.out; omega); intro v220 w36 ho hb hg hat; rw [← Ny219.out] at ho; replace BK198 := Aside0.mk (blk_grown (B1 BK198) hg (Kd.S_ne HO_210002.out BK198.out (by decide))); replace BK209 := Aside0.mk (blk_grown (B1 BK209) hg (Kd.S_ne HO_210002.out BK209.out (by decide))); replace HO_4 := Aside0.mk (Kd.R_over' (R1 HO_4) (Kd.S_typed HO_210002.out) (by decide) hg); replace HB := Aside0.mk (hb); have HO221 := Aside0.mk (ho); clear HO_210002; clear HO218; clear ho hb hg hat; obtain ⟨Ao38, co38, eo38⟩ := Kd.S_slice HO221.out; subst eo38; have hcz39_0 : w36.cell? ⟨gb209, 0, none⟩ = some (.int .i64 (rd t203 0)) := bc BK209; have hcz39_1 : w36.cell? ⟨gb209, 1, none⟩ = some (.int .i64 (rd t203 1)) := bc BK209; have hcz39_2 : w36.cell? ⟨gb209, 2, none⟩ = some (u210002) := bc BK209; have hfz39_0 := blk_frozen BK209.out 0; have hfz39_1 := blk_frozen BK209.out 1; have hfz39_2 := blk_frozen BK209.out 2))
                              go_roundg k2
                              case measure => have := HJ4.out; have := HK2.out; omega
                              case rel => exact ⟨(wrap64 (x45_2 + 1)), (x199000_2), (x199001_2), (y219), (.slice Ao38 y219.length co38), Fs, H', ⟨by have := HJ4.out; have := HK2.out; omega⟩, ⟨by (with_reducible repeat (first | apply Kd.S_alloc | apply Kd.S_drewN | apply Kd.S_drew)); exact Kd.S_mono (Kd.S_far (p := ⟨gb209, 2, none⟩) (Kd.S_types HO221.out BK209.out (by decide)) (fun _ hk => hk.2) (.slice Ao38 y219.length co38)) (fun _ hk => trivial)⟩, ⟨by (with_reducible repeat (first | refine blk_drewN ?_ _ | refine blk_drew ?_ | refine blk_alloc ?_ _)); refine blk_far ?_ NB198_209.out _; (with_reducible repeat (first | refine blk_drewN ?_ _ | refine blk_drew ?_ | refine blk_alloc ?_ _)); exact BK198.out⟩, ⟨by (with_reducible repeat (first | refine blk_drewN ?_ _ | refine blk_drew ?_ | refine blk_alloc ?_ _)); refine blk_put (cs := #[.int .i64 (rd t203 0), .int .i64 (rd t203 1), u210002]) ?_ 2 _ rfl; (with_reducible repeat (first | refine blk_drewN ?_ _ | refine blk_drew ?_ | refine blk_alloc ?_ _)); exact BK209.out⟩, ⟨by (with_reducible repeat (first | apply Kd.R_alloc | apply Kd.R_drewN | apply Kd.R_drew)); exact Kd.R_mono (Kd.R_far (p := ⟨gb209, 2, none⟩) (Kd.R_types HO_4.out BK209.out (by decide)) (fun _ hk => hk.2) (.slice Ao38 y219.length co38)) (fun _ hk => trivial)⟩, ⟨Hb⟩⟩
                            · rw [if_neg c32] at H
                              exact absurd H (by simp)
                          · replace c31 := Bool.eq_false_iff.mpr c31
                            subst c31
                            rw [if_neg (show ¬ (false = true) by decide)] at H
                            simp only [Option.some.injEq, Prod.mk.injEq] at H
                            obtain ⟨rfl, rfl, rfl, rfl⟩ := H
                            have p214 : 0 ≤ (x45_2 : Int) := oD
                            have q214 : x45_2 < (y210.length : Int) := oD
                            obtain ⟨ad214, e214, hx214_0⟩ := Kd.at_string HR213.out x45_2 p214 q214
                            cases e214
                            replace p214 := eq_true p214
                            replace q214 := eq_true q214
                            go_wp2_with (first | ((with_reducible refine gC 13 ?_); refine GL (some 51) Tryd.func13 #[.string (rdOf ByteArray.empty y210 x45_2), .string (⟨#[44]⟩ : ByteArray)] ?_; (with_reducible refine (impl_readNumbers.calls k2 (rdOf ByteArray.empty y210 x45_2) (⟨#[44]⟩ : ByteArray) t215 false _ A30.out).mono ?_); rintro e w40 ⟨v217, rfl, ho0, hb⟩; refine ⟨_, rfl, ?_⟩; replace HO_210002 := Aside0.mk (Kd.S_elder' (S1 HO_210002) (Kd.R_base ho0) hb); replace HO_4 := Aside0.mk (Kd.R_below (R1 HO_4) hb); have HO218 := Aside0.mk (Kd.R_lower ho0 (below_size Hb)); replace BK198 := Aside0.mk (blk_below (B1 BK198) hb); replace BK209 := Aside0.mk (blk_below (B1 BK209) hb); replace HB := Aside0.mk (below_step Hb hb); (try clear hb); (try clear hb2); (try clear hk); (try clear hi); (try clear ho0); have hnb41 := NB198_209.out; have hnc41 := NB209_198.out; have hcz42_0 : w40.cell? ⟨gb198, 0, none⟩ = some (.int .i64 x199000_2) := bc BK198; have hcz42_1 : w40.cell? ⟨gb198, 1, none⟩ = some (.int .i64 x199001_2) := bc BK198; have hcz42_2 : w40.cell? ⟨gb198, 2, none⟩ = some (.slice none 0 0) := bc BK198; have hfz42_0 := blk_frozen BK198.out 0; have hfz42_1 := blk_frozen BK198.out 1; have hfz42_2 := blk_frozen BK198.out 2))
                            refine bodyPost_ret (results_ct rfl _ _ gb198 24 #[.int .i64 0, .int .i64 0, .slice none 0 0] (0, 0) _ rfl (by (with_reducible repeat (first | refine blk_drewN ?_ _ | refine blk_drew ?_ | refine blk_alloc ?_ _)); refine blk_put (cs := #[.int .i64 0, .int .i64 0, .slice none 0 0]) ?_ 2 _ rfl; (with_reducible repeat (first | refine blk_drewN ?_ _ | refine blk_drew ?_ | refine blk_alloc ?_ _)); refine blk_put (cs := #[.int .i64 0, .int .i64 x199001_2, .slice none 0 0]) ?_ 1 _ rfl; (with_reducible repeat (first | refine blk_drewN ?_ _ | refine blk_drew ?_ | refine blk_alloc ?_ _)); refine blk_put (cs := #[.int .i64 x199000_2, .int .i64 x199001_2, .slice none 0 0]) ?_ 0 _ rfl; (with_reducible repeat (first | refine blk_drewN ?_ _ | refine blk_drew ?_ | refine blk_alloc ?_ _)); exact BK198.out) Tryd.underlying24 rfl (by kernel_rfl)) rfl ?_
                            exact ⟨_, Fin, by first | exact Kd.S_nil _ _ _ _ _ | exact Kd.N_nil _ _ _ _ _ | exact Kd.V_nil _ _ _ _ _ | exact Kd.Q_nil _ _ _ _ _ | exact Kd.R_nil _ _ _ _ _, Hb⟩
                        · rw [if_neg c29] at H
                          exact absurd H (by simp)
                      · rw [if_neg c28] at H
                        exact absurd H (by simp)
                    · rw [if_neg c27] at H
                      have c27b0 : decide (x45_2 < (y210.length : Int)) = false := decide_eq_false c27
                      clear c27
                      obtain ⟨t222, A430, H⟩ := Option.bind_eq_some_iff.mp H
                      have A43 := Aside0.mk A430
                      clear A430
                      by_cases c44 : t222 = true
                      · subst c44
                        rw [if_pos rfl] at H
                        obtain ⟨t223, A450, H⟩ := Option.bind_eq_some_iff.mp H
                        have A45 := Aside0.mk A450
                        clear A450
                        by_cases c46 : t223.toList = a0.toList
                        · rw [if_pos c46] at H
                          have c46b0 : (t223.toList == a0.toList) = true := beq_iff_eq.mpr c46
                          have c46b1 : (t223.toList != a0.toList) = false := bne_eq_false_iff_eq.mpr c46
                          clear c46
                          simp only [Option.some.injEq, Prod.mk.injEq] at H
                          obtain ⟨rfl, rfl, rfl, rfl⟩ := H
                          have hnb47 := NB209_198.out
                          have hnc47 := NB198_209.out
                          have hcz48_0 : wr.cell? ⟨gb209, 0, none⟩ = some (.int .i64 (rd t203 0)) := bc BK209
                          have hcz48_1 : wr.cell? ⟨gb209, 1, none⟩ = some (.int .i64 (rd t203 1)) := bc BK209
                          have hcz48_2 : wr.cell? ⟨gb209, 2, none⟩ = some (u210002) := bc BK209
                          have hfz48_0 := blk_frozen BK209.out 0
                          have hfz48_1 := blk_frozen BK209.out 1
                          have hfz48_2 := blk_frozen BK209.out 2
                          obtain ⟨Ao49, co49, eo49⟩ := Kd.S_slice HO_210002.out
                          subst eo49
                          go_wp2_with (first | ((with_reducible refine gC 14 ?_); refine GL (some 65) Tryd.func14 #[.agg #[.int .i64 (rd t203 0), .int .i64 (rd t203 1), .slice Ao49 x210002_2.length co49]] ?_; (with_reducible refine (impl_IsCover.calls k2 (rd t203 0) (rd t203 1) _ _ x210002_2 true _ ?side1 ?side2 A43.out).mono ?_); (case side1 => exact Ck (Kd.S_reads' HO_210002.out).2.2); (case side2 => exact (Kd.S_reads' HO_210002.out).2.1); rintro e w50 ⟨rfl, hb⟩; refine ⟨_, rfl, ?_⟩; replace HO_210002 := Aside0.mk (Kd.S_below (S1 HO_210002) hb); replace BK198 := Aside0.mk (blk_below (B1 BK198) hb); replace BK209 := Aside0.mk (blk_below (B1 BK209) hb); replace HB := Aside0.mk (below_step Hb hb); (try clear hb); (try clear hb2); (try clear hk); (try clear hi); have hcz51_0 : w50.cell? ⟨gb209, 0, none⟩ = some (.int .i64 (rd t203 0)) := bc BK209; have hcz51_1 : w50.cell? ⟨gb209, 1, none⟩ = some (.int .i64 (rd t203 1)) := bc BK209; have hcz51_2 : w50.cell? ⟨gb209, 2, none⟩ = some (.slice Ao49 x210002_2.length co49) := bc BK209; have hfz51_0 := blk_frozen BK209.out 0; have hfz51_1 := blk_frozen BK209.out 1; have hfz51_2 := blk_frozen BK209.out 2) | (go_at_call 15; (with_reducible refine (impl_coverText.calls k2 (rd t203 0) (rd t203 1) _ _ x210002_2 t223 _ ?side1 ?side2 A45.out).mono ?_); (case side1 => exact Ck (Kd.S_reads' HO_210002.out).2.2); (case side2 => exact (Kd.S_reads' HO_210002.out).2.1); rintro e w52 ⟨rfl, hb⟩; replace HO_210002 := Aside0.mk (Kd.S_below (S1 HO_210002) hb); replace BK198 := Aside0.mk (blk_below (B1 BK198) hb); replace BK209 := Aside0.mk (blk_below (B1 BK209) hb); replace HB := Aside0.mk (below_step Hb hb); (try clear hb); (try clear hb2); (try clear hk); (try clear hi); have hcz53_0 : w52.cell? ⟨gb209, 0, none⟩ = some (.int .i64 (rd t203 0)) := bc BK209; have hcz53_1 : w52.cell? ⟨gb209, 1, none⟩ = some (.int .i64 (rd t203 1)) := bc BK209; have hcz53_2 : w52.cell? ⟨gb209, 2, none⟩ = some (.slice Ao49 x210002_2.length co49) := bc BK209; have hfz53_0 := blk_frozen BK209.out 0; have hfz53_1 := blk_frozen BK209.out 1; have hfz53_2 := blk_frozen BK209.out 2; have hcz54_0 : w52.cell? ⟨gb198, 0, none⟩ = some (.int .i64 x199000_2) := bc BK198; have hcz54_1 : w52.cell? ⟨gb198, 1, none⟩ = some (.int .i64 x199001_2) := bc BK198; have hcz54_2 : w52.cell? ⟨gb198, 2, none⟩ = some (.slice none 0 0) := bc BK198; have hfz54_0 := blk_frozen BK198.out 0; have hfz54_1 := blk_frozen BK198.out 1; have hfz54_2 := blk_frozen BK198.out 2))
                          refine bodyPost_ret (results_ct rfl _ _ gb198 24 #[.int .i64 (rd t203 0), .int .i64 (rd t203 1), .slice Ao49 x210002_2.length co49] (0, 0) _ rfl (by (with_reducible repeat (first | refine blk_drewN ?_ _ | refine blk_drew ?_ | refine blk_alloc ?_ _)); refine blk_put (cs := #[.int .i64 (rd t203 0), .int .i64 (rd t203 1), .slice none 0 0]) ?_ 2 _ rfl; (with_reducible repeat (first | refine blk_drewN ?_ _ | refine blk_drew ?_ | refine blk_alloc ?_ _)); refine blk_put (cs := #[.int .i64 (rd t203 0), .int .i64 x199001_2, .slice none 0 0]) ?_ 1 _ rfl; (with_reducible repeat (first | refine blk_drewN ?_ _ | refine blk_drew ?_ | refine blk_alloc ?_ _)); refine blk_put (cs := #[.int .i64 x199000_2, .int .i64 x199001_2, .slice none 0 0]) ?_ 0 _ rfl; (with_reducible repeat (first | refine blk_drewN ?_ _ | refine blk_drew ?_ | refine blk_alloc ?_ _)); exact BK198.out) Tryd.underlying24 rfl (by kernel_rfl)) rfl ?_
                          exact ⟨_, Fin, by (with_reducible repeat (first | apply Kd.S_alloc | apply Kd.S_drewN | apply Kd.S_drew)); exact Kd.S_mono (Kd.S_far (p := ⟨gb198, 2, none⟩) (Kd.S_far (p := ⟨gb198, 1, none⟩) (Kd.S_far (p := ⟨gb198, 0, none⟩) (Kd.S_types HO_210002.out BK198.out (by decide)) (fun _ hk => hk.2) (.int .i64 (rd t203 0))) (fun _ hk => hk.2) (.int .i64 (rd t203 1))) (fun _ hk => hk.2) (.slice Ao49 x210002_2.length co49)) (fun _ hk => trivial), Hb⟩
                        · rw [if_neg c46] at H
                          have c46b0 : (t223.toList == a0.toList) = false := beq_eq_false_iff_ne.mpr c46
                          have c46b1 : (t223.toList != a0.toList) = true := bne_iff_ne.mpr c46
                          simp only [Option.some.injEq, Prod.mk.injEq] at H
                          obtain ⟨rfl, rfl, rfl, rfl⟩ := H
                          have hnb55 := NB209_198.out
                          have hnc55 := NB198_209.out
                          have hcz56_0 : wr.cell? ⟨gb209, 0, none⟩ = some (.int .i64 (rd t203 0)) := bc BK209
                          have hcz56_1 : wr.cell? ⟨gb209, 1, none⟩ = some (.int .i64 (rd t203 1)) := bc BK209
                          have hcz56_2 : wr.cell? ⟨gb209, 2, none⟩ = some (u210002) := bc BK209
                          have hfz56_0 := blk_frozen BK209.out 0
                          have hfz56_1 := blk_frozen BK209.out 1
                          have hfz56_2 := blk_frozen BK209.out 2
                          obtain ⟨Ao57, co57, eo57⟩ := Kd.S_slice HO_210002.out
                          subst eo57
                          go_wp2_with (first | ((with_reducible refine gC 14 ?_); refine GL (some 65) Tryd.func14 #[.agg #[.int .i64 (rd t203 0), .int .i64 (rd t203 1), .slice Ao57 x210002_2.length co57]] ?_; (with_reducible refine (impl_IsCover.calls k2 (rd t203 0) (rd t203 1) _ _ x210002_2 true _ ?side1 ?side2 A43.out).mono ?_); (case side1 => exact Ck (Kd.S_reads' HO_210002.out).2.2); (case side2 => exact (Kd.S_reads' HO_210002.out).2.1); rintro e w58 ⟨rfl, hb⟩; refine ⟨_, rfl, ?_⟩; replace HO_210002 := Aside0.mk (Kd.S_below (S1 HO_210002) hb); replace BK198 := Aside0.mk (blk_below (B1 BK198) hb); replace BK209 := Aside0.mk (blk_below (B1 BK209) hb); replace HB := Aside0.mk (below_step Hb hb); (try clear hb); (try clear hb2); (try clear hk); (try clear hi); have hcz59_0 : w58.cell? ⟨gb209, 0, none⟩ = some (.int .i64 (rd t203 0)) := bc BK209; have hcz59_1 : w58.cell? ⟨gb209, 1, none⟩ = some (.int .i64 (rd t203 1)) := bc BK209; have hcz59_2 : w58.cell? ⟨gb209, 2, none⟩ = some (.slice Ao57 x210002_2.length co57) := bc BK209; have hfz59_0 := blk_frozen BK209.out 0; have hfz59_1 := blk_frozen BK209.out 1; have hfz59_2 := blk_frozen BK209.out 2) | (go_at_call 15; (with_reducible refine (impl_coverText.calls k2 (rd t203 0) (rd t203 1) _ _ x210002_2 t223 _ ?side1 ?side2 A45.out).mono ?_); (case side1 => exact Ck (Kd.S_reads' HO_210002.out).2.2); (case side2 => exact (Kd.S_reads' HO_210002.out).2.1); rintro e w60 ⟨rfl, hb⟩; replace HO_210002 := Aside0.mk (Kd.S_below (S1 HO_210002) hb); replace BK198 := Aside0.mk (blk_below (B1 BK198) hb); replace BK209 := Aside0.mk (blk_below (B1 BK209) hb); replace HB := Aside0.mk (below_step Hb hb); (try clear hb); (try clear hb2); (try clear hk); (try clear hi); have hcz61_0 : w60.cell? ⟨gb198, 0, none⟩ = some (.int .i64 x199000_2) := bc BK198; have hcz61_1 : w60.cell? ⟨gb198, 1, none⟩ = some (.int .i64 x199001_2) := bc BK198; have hcz61_2 : w60.cell? ⟨gb198, 2, none⟩ = some (.slice none 0 0) := bc BK198; have hfz61_0 := blk_frozen BK198.out 0; have hfz61_1 := blk_frozen BK198.out 1; have hfz61_2 := blk_frozen BK198.out 2))
                          refine bodyPost_ret (results_ct rfl _ _ gb198 24 #[.int .i64 0, .int .i64 0, .slice none 0 0] (0, 0) _ rfl (by (with_reducible repeat (first | refine blk_drewN ?_ _ | refine blk_drew ?_ | refine blk_alloc ?_ _)); refine blk_put (cs := #[.int .i64 0, .int .i64 0, .slice none 0 0]) ?_ 2 _ rfl; (with_reducible repeat (first | refine blk_drewN ?_ _ | refine blk_drew ?_ | refine blk_alloc ?_ _)); refine blk_put (cs := #[.int .i64 0, .int .i64 x199001_2, .slice none 0 0]) ?_ 1 _ rfl; (with_reducible repeat (first | refine blk_drewN ?_ _ | refine blk_drew ?_ | refine blk_alloc ?_ _)); refine blk_put (cs := #[.int .i64 x199000_2, .int .i64 x199001_2, .slice none 0 0]) ?_ 0 _ rfl; (with_reducible repeat (first | refine blk_drewN ?_ _ | refine blk_drew ?_ | refine blk_alloc ?_ _)); exact BK198.out) Tryd.underlying24 rfl (by kernel_rfl)) rfl ?_
                          exact ⟨_, Fin, by first | exact Kd.S_nil _ _ _ _ _ | exact Kd.N_nil _ _ _ _ _ | exact Kd.V_nil _ _ _ _ _ | exact Kd.Q_nil _ _ _ _ _ | exact Kd.R_nil _ _ _ _ _, Hb⟩
                      · replace c44 := Bool.eq_false_iff.mpr c44
                        subst c44
                        rw [if_neg (show ¬ (false = true) by decide)] at H
                        simp only [Option.some.injEq, Prod.mk.injEq] at H
                        obtain ⟨rfl, rfl, rfl, rfl⟩ := H
                        have hnb62 := NB209_198.out
                        have hnc62 := NB198_209.out
                        have hcz63_0 : wr.cell? ⟨gb209, 0, none⟩ = some (.int .i64 (rd t203 0)) := bc BK209
                        have hcz63_1 : wr.cell? ⟨gb209, 1, none⟩ = some (.int .i64 (rd t203 1)) := bc BK209
                        have hcz63_2 : wr.cell? ⟨gb209, 2, none⟩ = some (u210002) := bc BK209
                        have hfz63_0 := blk_frozen BK209.out 0
                        have hfz63_1 := blk_frozen BK209.out 1
                        have hfz63_2 := blk_frozen BK209.out 2
                        obtain ⟨Ao64, co64, eo64⟩ := Kd.S_slice HO_210002.out
                        subst eo64
                        go_wp2_with (first | ((with_reducible refine gC 14 ?_); refine GL (some 65) Tryd.func14 #[.agg #[.int .i64 (rd t203 0), .int .i64 (rd t203 1), .slice Ao64 x210002_2.length co64]] ?_; (with_reducible refine (impl_IsCover.calls k2 (rd t203 0) (rd t203 1) _ _ x210002_2 false _ ?side1 ?side2 A43.out).mono ?_); (case side1 => exact Ck (Kd.S_reads' HO_210002.out).2.2); (case side2 => exact (Kd.S_reads' HO_210002.out).2.1); rintro e w65 ⟨rfl, hb⟩; refine ⟨_, rfl, ?_⟩; replace HO_210002 := Aside0.mk (Kd.S_below (S1 HO_210002) hb); replace BK198 := Aside0.mk (blk_below (B1 BK198) hb); replace BK209 := Aside0.mk (blk_below (B1 BK209) hb); replace HB := Aside0.mk (below_step Hb hb); (try clear hb); (try clear hb2); (try clear hk); (try clear hi); have hcz66_0 : w65.cell? ⟨gb198, 0, none⟩ = some (.int .i64 x199000_2) := bc BK198; have hcz66_1 : w65.cell? ⟨gb198, 1, none⟩ = some (.int .i64 x199001_2) := bc BK198; have hcz66_2 : w65.cell? ⟨gb198, 2, none⟩ = some (.slice none 0 0) := bc BK198; have hfz66_0 := blk_frozen BK198.out 0; have hfz66_1 := blk_frozen BK198.out 1; have hfz66_2 := blk_frozen BK198.out 2))
                        refine bodyPost_ret (results_ct rfl _ _ gb198 24 #[.int .i64 0, .int .i64 0, .slice none 0 0] (0, 0) _ rfl (by (with_reducible repeat (first | refine blk_drewN ?_ _ | refine blk_drew ?_ | refine blk_alloc ?_ _)); refine blk_put (cs := #[.int .i64 0, .int .i64 0, .slice none 0 0]) ?_ 2 _ rfl; (with_reducible repeat (first | refine blk_drewN ?_ _ | refine blk_drew ?_ | refine blk_alloc ?_ _)); refine blk_put (cs := #[.int .i64 0, .int .i64 x199001_2, .slice none 0 0]) ?_ 1 _ rfl; (with_reducible repeat (first | refine blk_drewN ?_ _ | refine blk_drew ?_ | refine blk_alloc ?_ _)); refine blk_put (cs := #[.int .i64 x199000_2, .int .i64 x199001_2, .slice none 0 0]) ?_ 0 _ rfl; (with_reducible repeat (first | refine blk_drewN ?_ _ | refine blk_drew ?_ | refine blk_alloc ?_ _)); exact BK198.out) Tryd.underlying24 rfl (by kernel_rfl)) rfl ?_
                        exact ⟨_, Fin, by first | exact Kd.S_nil _ _ _ _ _ | exact Kd.N_nil _ _ _ _ _ | exact Kd.V_nil _ _ _ _ _ | exact Kd.Q_nil _ _ _ _ _ | exact Kd.R_nil _ _ _ _ _, Hb⟩
              · rw [if_neg c18] at H
                exact absurd H (by simp)
            · rw [if_neg c17] at H
              exact absurd H (by simp)
          · rw [if_neg c16] at H
            exact absurd H (by simp)
  · rw [if_neg c3] at H
    exact absurd H (by simp)

/-! ### laws_eqInt64S: function 29 -/
def laws_eqInt64S.l0 : Nat → List Int → List Int → Int → Option (Bool)
  | 0, _, _, _ => none
  | k + 1, x0, x1, x5 => if x5 < (x0.length : Int) then (if 0 ≤ x5 then (if x5 < (x1.length : Int) then (if (rd x0 x5) = (rd x1 x5) then (laws_eqInt64S.l0 k x0 x1 (wrap64 (x5 + 1))) else (some false)) else (none)) else (none)) else (some true)
def laws_eqInt64S.f (k : Nat) (l0 : List Int) (l1 : List Int) : Option (Bool) := if (l0.length : Int) = (l1.length : Int) then (laws_eqInt64S.l0 k l0 l1 0) else (some false)
theorem laws_eqInt64S.mono_l : ∀ k, (∀ y0 y1 y2, LeO (laws_eqInt64S.l0 k y0 y1 y2) (laws_eqInt64S.l0 (k + 1) y0 y1 y2))
  | 0 => fun _ _ _ r h => by simp [laws_eqInt64S.l0] at h
  | k + 1 => by
    have ih0 := laws_eqInt64S.mono_l k
    · intro y0 y1 y2
      unfold laws_eqInt64S.l0
      repeat' first
      | (with_reducible exact ih0 _ _ _)
      | (with_reducible exact LeO.refl _)
      | (with_reducible exact LeO.none _)
      | (with_reducible refine LeO.ite ?_ ?_)
      | (with_reducible refine LeO.bind ?_ (fun _ => ?_))
      | exact ih0 _ _ _
      | exact LeO.none _
      | refine LeO.ite ?_ ?_
      | refine LeO.bind ?_ (fun _ => ?_)
theorem laws_eqInt64S.mono : ∀ a0 a1 k, LeO (laws_eqInt64S.f k a0 a1) (laws_eqInt64S.f (k + 1) a0 a1) := by
  intro a0 a1 k
  have ih0 := laws_eqInt64S.mono_l k
  unfold laws_eqInt64S.f
  repeat' first
      | (with_reducible exact ih0 _ _ _)
      | (with_reducible exact LeO.refl _)
      | (with_reducible exact LeO.none _)
      | (with_reducible refine LeO.ite ?_ ?_)
      | (with_reducible refine LeO.bind ?_ (fun _ => ?_))
      | exact ih0 _ _ _
      | exact LeO.none _
      | refine LeO.ite ?_ ?_
      | refine LeO.bind ?_ (fun _ => ?_)
set_option maxHeartbeats 8000000 in
set_option maxRecDepth 100000 in
theorem laws_eqInt64S.calls (k : Nat) (A0 : Option Addr) (c0 : Nat) (l0 : List Int) (A1 : Option Addr) (c1 : Nat) (l1 : List Int) (r : Bool) (w : World) (hr0 : Kd.C (Kd.int .i64) w A0 l0.length l0) (hc0 : l0.length ≤ c0) (hr1 : Kd.C (Kd.int .i64) w A1 l1.length l1) (hc1 : l1.length ≤ c1) (h : laws_eqInt64S.f k l0 l1 = some r) :
    Calls Tryd.prog 29 #[.slice A0 l0.length c0, .slice A1 l1.length c1] w fun e w' => e = .returned (.bool r) ∧ Drawn0 w w' := by
  have HR0 := Aside0.mk hr0
  have HC0 := Aside0.mk hc0
  clear hr0 hc0
  have HR1 := Aside0.mk hr1
  have HC1 := Aside0.mk hc1
  clear hr1 hc1
  have H : (if (l0.length : Int) = (l1.length : Int) then (laws_eqInt64S.l0 k l0 l1 0) else (some false)) = some r := h
  clear h
  by_cases c3 : (l0.length : Int) = (l1.length : Int)
  · rw [if_pos c3] at H
    have c3b0 : ((l0.length : Int) == (l1.length : Int)) = true := beq_iff_eq.mpr c3
    have c3b1 : ((l0.length : Int) != (l1.length : Int)) = false := bne_eq_false_iff_eq.mpr c3
    have c3b2 : (l0.length == l1.length) = true := by first | simpa using c3 | (simp at c3 ⊢; omega)
    clear c3
    have H' := Aside0.mk H
    clear H
    go_enter Tryd.func29, Tryd.ntmps29
    go_wp2
    repeat (go_quiet (fail); try go_wp2)
    go_loopg [5] k (fun kq v5 w' => ∃ (x5_1 : Int), v5 = .int .i64 x5_1 ∧ Aside0 (laws_eqInt64S.l0 kq l0 l1 x5_1 = some r) ∧ Aside0 (kq ≤ k) ∧ Drawn0 w w')
    case atStart => exact ⟨(0), Fs, H', ⟨Nat.le_refl _⟩, by repeat (first | exact Drawn0.refl _ | apply Drawn0.step)⟩
    case round =>
      clear H'
      try clear c1
      try clear c2
      try clear p2
      try clear c3
      try clear c3b0
      try clear c3b1
      try clear c3b2
      obtain ⟨x5_1, rfl, HA, HK1, ⟨m1, rfl⟩⟩ := hrel
      cases gk with
      | zero => exact absurd HA.out (by simp [laws_eqInt64S.l0])
      | succ k1 =>
        have H := HA.out
        clear HA
        simp only [laws_eqInt64S.l0] at H
        by_cases c4 : x5_1 < (l0.length : Int)
        · rw [if_pos c4] at H
          have c4b0 : decide (x5_1 < (l0.length : Int)) = true := decide_eq_true c4
          clear c4
          by_cases c5 : 0 ≤ x5_1
          · rw [if_pos c5] at H
            have c5b0 : decide (0 ≤ x5_1) = true := decide_eq_true c5
            clear c5
            by_cases c6 : x5_1 < (l1.length : Int)
            · rw [if_pos c6] at H
              have c6b0 : decide (x5_1 < (l1.length : Int)) = true := decide_eq_true c6
              clear c6
              by_cases c7 : (rd l0 x5_1) = (rd l1 x5_1)
              · rw [if_pos c7] at H
                have c7b0 : ((rd l0 x5_1) == (rd l1 x5_1)) = true := beq_iff_eq.mpr c7
                have c7b1 : ((rd l0 x5_1) != (rd l1 x5_1)) = false := bne_eq_false_iff_eq.mpr c7
                clear c7
                have H' := Aside0.mk H
                clear H
                have p224 : 0 ≤ (x5_1 : Int) := oD
                have q224 : x5_1 < (l0.length : Int) := oD
                obtain ⟨ad224, e224, hx224_0⟩ := Kd.at_int HR0.out x5_1 p224 q224
                cases e224
                replace p224 := eq_true p224
                replace q224 := eq_true q224
                have p225 : 0 ≤ (x5_1 : Int) := oD
                have q225 : x5_1 < (l1.length : Int) := oD
                obtain ⟨ad225, e225, hx225_0⟩ := Kd.at_int HR1.out x5_1 p225 q225
                cases e225
                replace p225 := eq_true p225
                replace q225 := eq_true q225
                go_wp2
                repeat (go_quiet (fail); try go_wp2)
                go_roundg k1
                case measure => have := HK1.out; omega
                case rel => exact ⟨(wrap64 (x5_1 + 1)), Fs, H', ⟨by have := HK1.out; omega⟩, by repeat (first | exact Drawn0.refl _ | apply Drawn0.step)⟩
              · rw [if_neg c7] at H
                have c7b0 : ((rd l0 x5_1) == (rd l1 x5_1)) = false := beq_eq_false_iff_ne.mpr c7
                have c7b1 : ((rd l0 x5_1) != (rd l1 x5_1)) = true := bne_iff_ne.mpr c7
                obtain rfl := Option.some.inj H
                have p224 : 0 ≤ (x5_1 : Int) := oD
                have q224 : x5_1 < (l0.length : Int) := oD
                obtain ⟨ad224, e224, hx224_0⟩ := Kd.at_int HR0.out x5_1 p224 q224
                cases e224
                replace p224 := eq_true p224
                replace q224 := eq_true q224
                have p225 : 0 ≤ (x5_1 : Int) := oD
                have q225 : x5_1 < (l1.length : Int) := oD
                obtain ⟨ad225, e225, hx225_0⟩ := Kd.at_int HR1.out x5_1 p225 q225
                cases e225
                replace p225 := eq_true p225
                replace q225 := eq_true q225
                go_wp2
                repeat (go_quiet (fail); try go_wp2)
                go_ret
                exact ⟨Fs, by repeat (first | exact Drawn0.refl _ | apply Drawn0.step)⟩
            · rw [if_neg c6] at H
              exact absurd H (by simp)
          · rw [if_neg c5] at H
            exact absurd H (by simp)
        · rw [if_neg c4] at H
          have c4b0 : decide (x5_1 < (l0.length : Int)) = false := decide_eq_false c4
          clear c4
          obtain rfl := Option.some.inj H
          go_wp2
          repeat (go_quiet (fail); try go_wp2)
          go_ret
          exact ⟨Fs, by repeat (first | exact Drawn0.refl _ | apply Drawn0.step)⟩
  · rw [if_neg c3] at H
    have c3b0 : ((l0.length : Int) == (l1.length : Int)) = false := beq_eq_false_iff_ne.mpr c3
    have c3b1 : ((l0.length : Int) != (l1.length : Int)) = true := bne_iff_ne.mpr c3
    have c3b2 : (l0.length == l1.length) = false := by first | simpa using c3 | (simp at c3 ⊢; omega)
    obtain rfl := Option.some.inj H
    go_enter Tryd.func29, Tryd.ntmps29
    go_wp2
    repeat (go_quiet (fail); try go_wp2)
    go_ret
    exact ⟨Fs, by repeat (first | exact Drawn0.refl _ | apply Drawn0.step)⟩

/-! ### laws_eqInt64SS: function 16 -/
def laws_eqInt64SS.l0 : Nat → List (List Int) → List (List Int) → Int → Option (Bool)
  | 0, _, _, _ => none
  | k + 1, x0, x1, x5 => if x5 < (x0.length : Int) then (if 0 ≤ x5 then (if x5 < (x1.length : Int) then ((laws_eqInt64S.f k (rd_L3 x0 x5) (rd_L3 x1 x5)).bind fun t228 => (if t228 = true then (laws_eqInt64SS.l0 k x0 x1 (wrap64 (x5 + 1))) else (some false))) else (none)) else (none)) else (some true)
def laws_eqInt64SS.f (k : Nat) (l0 : List (List Int)) (l1 : List (List Int)) : Option (Bool) := if (l0.length : Int) = (l1.length : Int) then (laws_eqInt64SS.l0 k l0 l1 0) else (some false)
theorem laws_eqInt64SS.mono_l : ∀ k, (∀ y0 y1 y2, LeO (laws_eqInt64SS.l0 k y0 y1 y2) (laws_eqInt64SS.l0 (k + 1) y0 y1 y2))
  | 0 => fun _ _ _ r h => by simp [laws_eqInt64SS.l0] at h
  | k + 1 => by
    have ih0 := laws_eqInt64SS.mono_l k
    · intro y0 y1 y2
      unfold laws_eqInt64SS.l0
      repeat' first
      | (with_reducible exact ih0 _ _ _)
      | (with_reducible exact laws_eqInt64S.mono _ _ _)
      | (with_reducible exact LeO.refl _)
      | (with_reducible exact LeO.none _)
      | (with_reducible refine LeO.ite ?_ ?_)
      | (with_reducible refine LeO.bind ?_ (fun _ => ?_))
      | exact ih0 _ _ _
      | exact laws_eqInt64S.mono _ _ _
      | exact LeO.none _
      | refine LeO.ite ?_ ?_
      | refine LeO.bind ?_ (fun _ => ?_)
theorem laws_eqInt64SS.mono : ∀ a0 a1 k, LeO (laws_eqInt64SS.f k a0 a1) (laws_eqInt64SS.f (k + 1) a0 a1) := by
  intro a0 a1 k
  have ih0 := laws_eqInt64SS.mono_l k
  unfold laws_eqInt64SS.f
  repeat' first
      | (with_reducible exact ih0 _ _ _)
      | (with_reducible exact laws_eqInt64S.mono _ _ _)
      | (with_reducible exact LeO.refl _)
      | (with_reducible exact LeO.none _)
      | (with_reducible refine LeO.ite ?_ ?_)
      | (with_reducible refine LeO.bind ?_ (fun _ => ?_))
      | exact ih0 _ _ _
      | exact laws_eqInt64S.mono _ _ _
      | exact LeO.none _
      | refine LeO.ite ?_ ?_
      | refine LeO.bind ?_ (fun _ => ?_)
set_option maxHeartbeats 8000000 in
set_option maxRecDepth 100000 in
theorem laws_eqInt64SS.calls (k : Nat) (A0 : Option Addr) (c0 : Nat) (l0 : List (List Int)) (A1 : Option Addr) (c1 : Nat) (l1 : List (List Int)) (r : Bool) (w : World) (hr0 : Kd.C (Kd.slice 2 (Kd.int .i64)) w A0 l0.length l0) (hc0 : l0.length ≤ c0) (hr1 : Kd.C (Kd.slice 2 (Kd.int .i64)) w A1 l1.length l1) (hc1 : l1.length ≤ c1) (h : laws_eqInt64SS.f k l0 l1 = some r) :
    Calls Tryd.prog 16 #[.slice A0 l0.length c0, .slice A1 l1.length c1] w fun e w' => e = .returned (.bool r) ∧ Drawn0 w w' := by
  have HR0 := Aside0.mk hr0
  have HC0 := Aside0.mk hc0
  clear hr0 hc0
  have HR1 := Aside0.mk hr1
  have HC1 := Aside0.mk hc1
  clear hr1 hc1
  have H : (if (l0.length : Int) = (l1.length : Int) then (laws_eqInt64SS.l0 k l0 l1 0) else (some false)) = some r := h
  clear h
  by_cases c3 : (l0.length : Int) = (l1.length : Int)
  · rw [if_pos c3] at H
    have c3b0 : ((l0.length : Int) == (l1.length : Int)) = true := beq_iff_eq.mpr c3
    have c3b1 : ((l0.length : Int) != (l1.length : Int)) = false := bne_eq_false_iff_eq.mpr c3
    have c3b2 : (l0.length == l1.length) = true := by first | simpa using c3 | (simp at c3 ⊢; omega)
    clear c3
    have H' := Aside0.mk H
    clear H
    go_enter Tryd.func16, Tryd.ntmps16
    go_wp2
    repeat (go_quiet (fail); try go_wp2)
    go_loopg [5] k (fun kq v5 w' => ∃ (x5_1 : Int), v5 = .int .i64 x5_1 ∧ Aside0 (laws_eqInt64SS.l0 kq l0 l1 x5_1 = some r) ∧ Aside0 (kq ≤ k) ∧ Drawn0 w w')
    case atStart => exact ⟨(0), Fs, H', ⟨Nat.le_refl _⟩, by repeat (first | exact Drawn0.refl _ | apply Drawn0.step)⟩
    case round =>
      clear H'
      try clear c1
      try clear p2
      try clear c3
      try clear c3b0
      try clear c3b1
      try clear c3b2
      obtain ⟨x5_1, rfl, HA, HK1, ⟨m1, rfl⟩⟩ := hrel
      cases gk with
      | zero => exact absurd HA.out (by simp [laws_eqInt64SS.l0])
      | succ k1 =>
        have H := HA.out
        clear HA
        simp only [laws_eqInt64SS.l0] at H
        by_cases c4 : x5_1 < (l0.length : Int)
        · rw [if_pos c4] at H
          have c4b0 : decide (x5_1 < (l0.length : Int)) = true := decide_eq_true c4
          clear c4
          by_cases c5 : 0 ≤ x5_1
          · rw [if_pos c5] at H
            have c5b0 : decide (0 ≤ x5_1) = true := decide_eq_true c5
            clear c5
            by_cases c6 : x5_1 < (l1.length : Int)
            · rw [if_pos c6] at H
              have c6b0 : decide (x5_1 < (l1.length : Int)) = true := decide_eq_true c6
              clear c6
              obtain ⟨t228, A70, H⟩ := Option.bind_eq_some_iff.mp H
              have A7 := Aside0.mk A70
              clear A70
              by_cases c8 : t228 = true
              · subst c8
                rw [if_pos rfl] at H
                have H' := Aside0.mk H
                clear H
                have p226 : 0 ≤ (x5_1 : Int) := oD
                have q226 : x5_1 < (l0.length : Int) := oD
                obtain ⟨ad226, A226_0, c226_0, e226, hx226_0, hl226_0, hi226_0⟩ := at_L3 HR0.out x5_1 p226 q226
                cases e226
                have HR226_0 := Aside0.mk hi226_0
                have HC226_0 := Aside0.mk hl226_0
                clear hi226_0 hl226_0
                replace p226 := eq_true p226
                replace q226 := eq_true q226
                have p227 : 0 ≤ (x5_1 : Int) := oD
                have q227 : x5_1 < (l1.length : Int) := oD
                obtain ⟨ad227, A227_0, c227_0, e227, hx227_0, hl227_0, hi227_0⟩ := at_L3 HR1.out x5_1 p227 q227
                cases e227
                have HR227_0 := Aside0.mk hi227_0
                have HC227_0 := Aside0.mk hl227_0
                clear hi227_0 hl227_0
                replace p227 := eq_true p227
                replace q227 := eq_true q227
                go_wp2_with (first | (go_at_call 29; (with_reducible refine (laws_eqInt64S.calls k1 _ _ (rd_L3 l0 x5_1) _ _ (rd_L3 l1 x5_1) true _ ?side1 ?side2 ?side3 ?side4 A7.out).mono ?_); (case side1 => exact Ck HR226_0.out); (case side2 => exact HC226_0.out); (case side3 => exact Ck HR227_0.out); (case side4 => exact HC227_0.out); rintro e w' ⟨rfl, ⟨nd, rfl⟩⟩; (try first | exact ⟨rfl, _, World.drewN_drewN _ _ _⟩ | exact ⟨rfl, _, Eq.trans (World.drewN_drewN _ _ _) (congrArg (World.drewN _) (Nat.add_assoc _ _ _))⟩)))
                repeat (go_quiet (first | (go_at_call 29; (with_reducible refine (laws_eqInt64S.calls k1 _ _ (rd_L3 l0 x5_1) _ _ (rd_L3 l1 x5_1) true _ ?side1 ?side2 ?side3 ?side4 A7.out).mono ?_); (case side1 => exact Ck HR226_0.out); (case side2 => exact HC226_0.out); (case side3 => exact Ck HR227_0.out); (case side4 => exact HC227_0.out); rintro e w' ⟨rfl, ⟨nd, rfl⟩⟩; (try first | exact ⟨rfl, _, World.drewN_drewN _ _ _⟩ | exact ⟨rfl, _, Eq.trans (World.drewN_drewN _ _ _) (congrArg (World.drewN _) (Nat.add_assoc _ _ _))⟩))); try go_wp2_with (first | (go_at_call 29; (with_reducible refine (laws_eqInt64S.calls k1 _ _ (rd_L3 l0 x5_1) _ _ (rd_L3 l1 x5_1) true _ ?side1 ?side2 ?side3 ?side4 A7.out).mono ?_); (case side1 => exact Ck HR226_0.out); (case side2 => exact HC226_0.out); (case side3 => exact Ck HR227_0.out); (case side4 => exact HC227_0.out); rintro e w' ⟨rfl, ⟨nd, rfl⟩⟩; (try first | exact ⟨rfl, _, World.drewN_drewN _ _ _⟩ | exact ⟨rfl, _, Eq.trans (World.drewN_drewN _ _ _) (congrArg (World.drewN _) (Nat.add_assoc _ _ _))⟩))))
                go_roundg k1
                case measure => have := HK1.out; omega
                case rel => exact ⟨(wrap64 (x5_1 + 1)), Fs, H', ⟨by have := HK1.out; omega⟩, by repeat (first | exact Drawn0.refl _ | apply Drawn0.step)⟩
              · replace c8 := Bool.eq_false_iff.mpr c8
                subst c8
                rw [if_neg (show ¬ (false = true) by decide)] at H
                obtain rfl := Option.some.inj H
                have p226 : 0 ≤ (x5_1 : Int) := oD
                have q226 : x5_1 < (l0.length : Int) := oD
                obtain ⟨ad226, A226_0, c226_0, e226, hx226_0, hl226_0, hi226_0⟩ := at_L3 HR0.out x5_1 p226 q226
                cases e226
                have HR226_0 := Aside0.mk hi226_0
                have HC226_0 := Aside0.mk hl226_0
                clear hi226_0 hl226_0
                replace p226 := eq_true p226
                replace q226 := eq_true q226
                have p227 : 0 ≤ (x5_1 : Int) := oD
                have q227 : x5_1 < (l1.length : Int) := oD
                obtain ⟨ad227, A227_0, c227_0, e227, hx227_0, hl227_0, hi227_0⟩ := at_L3 HR1.out x5_1 p227 q227
                cases e227
                have HR227_0 := Aside0.mk hi227_0
                have HC227_0 := Aside0.mk hl227_0
                clear hi227_0 hl227_0
                replace p227 := eq_true p227
                replace q227 := eq_true q227
                go_wp2_with (first | (go_at_call 29; (with_reducible refine (laws_eqInt64S.calls k1 _ _ (rd_L3 l0 x5_1) _ _ (rd_L3 l1 x5_1) false _ ?side1 ?side2 ?side3 ?side4 A7.out).mono ?_); (case side1 => exact Ck HR226_0.out); (case side2 => exact HC226_0.out); (case side3 => exact Ck HR227_0.out); (case side4 => exact HC227_0.out); rintro e w' ⟨rfl, ⟨nd, rfl⟩⟩; (try first | exact ⟨rfl, _, World.drewN_drewN _ _ _⟩ | exact ⟨rfl, _, Eq.trans (World.drewN_drewN _ _ _) (congrArg (World.drewN _) (Nat.add_assoc _ _ _))⟩)))
                repeat (go_quiet (first | (go_at_call 29; (with_reducible refine (laws_eqInt64S.calls k1 _ _ (rd_L3 l0 x5_1) _ _ (rd_L3 l1 x5_1) false _ ?side1 ?side2 ?side3 ?side4 A7.out).mono ?_); (case side1 => exact Ck HR226_0.out); (case side2 => exact HC226_0.out); (case side3 => exact Ck HR227_0.out); (case side4 => exact HC227_0.out); rintro e w' ⟨rfl, ⟨nd, rfl⟩⟩; (try first | exact ⟨rfl, _, World.drewN_drewN _ _ _⟩ | exact ⟨rfl, _, Eq.trans (World.drewN_drewN _ _ _) (congrArg (World.drewN _) (Nat.add_assoc _ _ _))⟩))); try go_wp2_with (first | (go_at_call 29; (with_reducible refine (laws_eqInt64S.calls k1 _ _ (rd_L3 l0 x5_1) _ _ (rd_L3 l1 x5_1) false _ ?side1 ?side2 ?side3 ?side4 A7.out).mono ?_); (case side1 => exact Ck HR226_0.out); (case side2 => exact HC226_0.out); (case side3 => exact Ck HR227_0.out); (case side4 => exact HC227_0.out); rintro e w' ⟨rfl, ⟨nd, rfl⟩⟩; (try first | exact ⟨rfl, _, World.drewN_drewN _ _ _⟩ | exact ⟨rfl, _, Eq.trans (World.drewN_drewN _ _ _) (congrArg (World.drewN _) (Nat.add_assoc _ _ _))⟩))))
                go_ret
                exact ⟨Fs, by repeat (first | exact Drawn0.refl _ | apply Drawn0.step)⟩
            · rw [if_neg c6] at H
              exact absurd H (by simp)
          · rw [if_neg c5] at H
            exact absurd H (by simp)
        · rw [if_neg c4] at H
          have c4b0 : decide (x5_1 < (l0.length : Int)) = false := decide_eq_false c4
          clear c4
          obtain rfl := Option.some.inj H
          go_wp2
          repeat (go_quiet (fail); try go_wp2)
          go_ret
          exact ⟨Fs, by repeat (first | exact Drawn0.refl _ | apply Drawn0.step)⟩
  · rw [if_neg c3] at H
    have c3b0 : ((l0.length : Int) == (l1.length : Int)) = false := beq_eq_false_iff_ne.mpr c3
    have c3b1 : ((l0.length : Int) != (l1.length : Int)) = true := bne_iff_ne.mpr c3
    have c3b2 : (l0.length == l1.length) = false := by first | simpa using c3 | (simp at c3 ⊢; omega)
    obtain rfl := Option.some.inj H
    go_enter Tryd.func16, Tryd.ntmps16
    go_wp2
    repeat (go_quiet (fail); try go_wp2)
    go_ret
    exact ⟨Fs, by repeat (first | exact Drawn0.refl _ | apply Drawn0.step)⟩

end Go.Proofs.YtcbpbdhglblagaaDoor.XFnExactReadCover
