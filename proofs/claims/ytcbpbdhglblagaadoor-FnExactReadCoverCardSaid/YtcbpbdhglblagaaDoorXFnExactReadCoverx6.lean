-- Written by ext.py (wip/) over the kit's print: not trusted, Lean checks it.
import Derived.Test.YtcbpbdhglblagaaDoorXFnExactReadCoverx0
import Derived.Test.YtcbpbdhglblagaaDoorXFnExactReadCoverx3
import Derived.Test.YtcbpbdhglblagaaDoorXFnExactReadCoverx5
namespace Go.Proofs.YtcbpbdhglblagaaDoor.XFnExactReadCover
open Go.RowKit Go.Proofs.YtcbpbdhglblagaaDoorW.PrintWords Go.Proofs.YtcbpbdhglblagaaDoorW.PrintLast Go.Proofs.YtcbpbdhglblagaaDoorW.PrintMore
attribute [local go_sem] max2_int min2_int max_two min_two max_three min_three max_four min_four   -- for this text's walks alone
set_option linter.unusedVariables false
set_option linter.unusedSimpArgs false

/-! ### laws_eqCover: function 6 -/
def laws_eqCover.f (k : Nat) (a0_0 : Int) (a0_1 : Int) (l0_2 : List (List Int)) (a1_0 : Int) (a1_1 : Int) (l1_2 : List (List Int)) : Option (Bool) := if a0_0 = a1_0 then (if a0_1 = a1_1 then ((laws_eqInt64SS.f k l0_2 l1_2).bind fun t231 => (if t231 = true then (some true) else (some false))) else (some false)) else (some false)
theorem laws_eqCover.mono : ∀ a0 a1 a2 a3 a4 a5 k, LeO (laws_eqCover.f k a0 a1 a2 a3 a4 a5) (laws_eqCover.f (k + 1) a0 a1 a2 a3 a4 a5) := by
  intro a0 a1 a2 a3 a4 a5 k
  unfold laws_eqCover.f
  repeat' first
      | (with_reducible exact laws_eqInt64SS.mono _ _ _)
      | (with_reducible exact LeO.refl _)
      | (with_reducible exact LeO.none _)
      | (with_reducible refine LeO.ite ?_ ?_)
      | (with_reducible refine LeO.bind ?_ (fun _ => ?_))
      | exact laws_eqInt64SS.mono _ _ _
      | exact LeO.none _
      | refine LeO.ite ?_ ?_
      | refine LeO.bind ?_ (fun _ => ?_)
set_option maxHeartbeats 8000000 in
set_option maxRecDepth 100000 in
theorem laws_eqCover.calls (k : Nat) (a0_0 : Int) (a0_1 : Int) (A0_2 : Option Addr) (c0_2 : Nat) (l0_2 : List (List Int)) (a1_0 : Int) (a1_1 : Int) (A1_2 : Option Addr) (c1_2 : Nat) (l1_2 : List (List Int)) (r : Bool) (w : World) (hr0_2 : Kd.C (Kd.slice 2 (Kd.int .i64)) w A0_2 l0_2.length l0_2) (hc0_2 : l0_2.length ≤ c0_2) (hr1_2 : Kd.C (Kd.slice 2 (Kd.int .i64)) w A1_2 l1_2.length l1_2) (hc1_2 : l1_2.length ≤ c1_2) (h : laws_eqCover.f k a0_0 a0_1 l0_2 a1_0 a1_1 l1_2 = some r) :
    Calls Tryd.prog 6 #[.agg #[.int .i64 a0_0, .int .i64 a0_1, .slice A0_2 l0_2.length c0_2], .agg #[.int .i64 a1_0, .int .i64 a1_1, .slice A1_2 l1_2.length c1_2]] w fun e w' => e = .returned (.bool r) ∧ Below w.heap.size w w' := by
  have hu24 := Tryd.underlying24
  have HR0_2 := Aside0.mk hr0_2
  have HC0_2 := Aside0.mk hc0_2
  clear hr0_2 hc0_2
  have HR1_2 := Aside0.mk hr1_2
  have HC1_2 := Aside0.mk hc1_2
  clear hr1_2 hc1_2
  have HB := Aside0.mk (Below.refl w.heap.size w)
  have H : (if a0_0 = a1_0 then (if a0_1 = a1_1 then ((laws_eqInt64SS.f k l0_2 l1_2).bind fun t231 => (if t231 = true then (some true) else (some false))) else (some false)) else (some false)) = some r := h
  clear h
  by_cases c3 : a0_0 = a1_0
  · rw [if_pos c3] at H
    have c3b0 : (a0_0 == a1_0) = true := beq_iff_eq.mpr c3
    have c3b1 : (a0_0 != a1_0) = false := bne_eq_false_iff_eq.mpr c3
    clear c3
    by_cases c4 : a0_1 = a1_1
    · rw [if_pos c4] at H
      have c4b0 : (a0_1 == a1_1) = true := beq_iff_eq.mpr c4
      have c4b1 : (a0_1 != a1_1) = false := bne_eq_false_iff_eq.mpr c4
      clear c4
      obtain ⟨t231, A50, H⟩ := Option.bind_eq_some_iff.mp H
      have A5 := Aside0.mk A50
      clear A50
      by_cases c6 : t231 = true
      · subst c6
        rw [if_pos rfl] at H
        obtain rfl := Option.some.inj H
        go_enter Tryd.func6, Tryd.ntmps6
        go_wp2_with (first | ((with_reducible refine gD 2 ?_); refine BX #[.int .i64 a0_0, .int .i64 a0_1, .slice A0_2 l0_2.length c0_2] 24 ?_; intro gb229 hg w7 hbox hb; have BK229 := Aside0.mk (hbox); have GW229 := Aside0.mk ((Gle hg Hb : w.heap.size ≤ gb229)); have GE229 := Aside0.mk ((Gle hg Hb : w.heap.size ≤ gb229)); replace HB := Aside0.mk (below_step Hb hb); clear hb hbox hg) | ((with_reducible refine gD 3 ?_); refine BX #[.int .i64 a1_0, .int .i64 a1_1, .slice A1_2 l1_2.length c1_2] 24 ?_; intro gb230 hg w8 hbox hb; have BK230 := Aside0.mk (hbox); have GW230 := Aside0.mk ((Gle hg Hb : w.heap.size ≤ gb230)); have GE230 := Aside0.mk ((Gle hg Hb : w.heap.size ≤ gb230)); replace HB := Aside0.mk (below_step Hb hb); have NB229_230 := Aside0.mk ((by rw [hg]; exact Nat.ne_of_lt (blk_lt (B1 BK229)) : gb229 ≠ gb230)); have NB230_229 := Aside0.mk ((by rw [hg]; exact Nat.ne_of_gt (blk_lt (B1 BK229)) : gb230 ≠ gb229)); replace BK229 := Aside0.mk (blk_below (B1 BK229) hb); clear hb hbox hg; have hnb9 := NB229_230.out; have hnc9 := NB230_229.out; have hcz10_0 : w8.cell? ⟨gb229, 0, none⟩ = some (.int .i64 a0_0) := bc BK229; have hcz10_1 : w8.cell? ⟨gb229, 1, none⟩ = some (.int .i64 a0_1) := bc BK229; have hcz10_2 : w8.cell? ⟨gb229, 2, none⟩ = some (.slice A0_2 l0_2.length c0_2) := bc BK229; have hfz10_0 := blk_frozen BK229.out 0; have hfz10_1 := blk_frozen BK229.out 1; have hfz10_2 := blk_frozen BK229.out 2; have hcz11_0 : w8.cell? ⟨gb230, 0, none⟩ = some (.int .i64 a1_0) := bc BK230; have hcz11_1 : w8.cell? ⟨gb230, 1, none⟩ = some (.int .i64 a1_1) := bc BK230; have hcz11_2 : w8.cell? ⟨gb230, 2, none⟩ = some (.slice A1_2 l1_2.length c1_2) := bc BK230; have hfz11_0 := blk_frozen BK230.out 0; have hfz11_1 := blk_frozen BK230.out 1; have hfz11_2 := blk_frozen BK230.out 2) | ((with_reducible refine gC 16 ?_); refine GL (some 19) Tryd.func16 #[.slice A0_2 l0_2.length c0_2, .slice A1_2 l1_2.length c1_2] ?_; (with_reducible refine (laws_eqInt64SS.calls k _ _ l0_2 _ _ l1_2 true _ ?side1 ?side2 ?side3 ?side4 A5.out).mono ?_); (case side1 => exact Kd.C_below HR0_2.out Hb); (case side2 => exact HC0_2.out); (case side3 => exact Kd.C_below HR1_2.out Hb); (case side4 => exact HC1_2.out); rintro e w' ⟨rfl, ⟨nd, rfl⟩⟩; refine ⟨_, rfl, ?_⟩))
        go_ret
        exact ⟨Fin, Hb⟩
      · replace c6 := Bool.eq_false_iff.mpr c6
        subst c6
        rw [if_neg (show ¬ (false = true) by decide)] at H
        obtain rfl := Option.some.inj H
        go_enter Tryd.func6, Tryd.ntmps6
        go_wp2_with (first | ((with_reducible refine gD 2 ?_); refine BX #[.int .i64 a0_0, .int .i64 a0_1, .slice A0_2 l0_2.length c0_2] 24 ?_; intro gb229 hg w12 hbox hb; have BK229 := Aside0.mk (hbox); have GW229 := Aside0.mk ((Gle hg Hb : w.heap.size ≤ gb229)); have GE229 := Aside0.mk ((Gle hg Hb : w.heap.size ≤ gb229)); replace HB := Aside0.mk (below_step Hb hb); clear hb hbox hg) | ((with_reducible refine gD 3 ?_); refine BX #[.int .i64 a1_0, .int .i64 a1_1, .slice A1_2 l1_2.length c1_2] 24 ?_; intro gb230 hg w13 hbox hb; have BK230 := Aside0.mk (hbox); have GW230 := Aside0.mk ((Gle hg Hb : w.heap.size ≤ gb230)); have GE230 := Aside0.mk ((Gle hg Hb : w.heap.size ≤ gb230)); replace HB := Aside0.mk (below_step Hb hb); have NB229_230 := Aside0.mk ((by rw [hg]; exact Nat.ne_of_lt (blk_lt (B1 BK229)) : gb229 ≠ gb230)); have NB230_229 := Aside0.mk ((by rw [hg]; exact Nat.ne_of_gt (blk_lt (B1 BK229)) : gb230 ≠ gb229)); replace BK229 := Aside0.mk (blk_below (B1 BK229) hb); clear hb hbox hg; have hnb14 := NB229_230.out; have hnc14 := NB230_229.out; have hcz15_0 : w13.cell? ⟨gb229, 0, none⟩ = some (.int .i64 a0_0) := bc BK229; have hcz15_1 : w13.cell? ⟨gb229, 1, none⟩ = some (.int .i64 a0_1) := bc BK229; have hcz15_2 : w13.cell? ⟨gb229, 2, none⟩ = some (.slice A0_2 l0_2.length c0_2) := bc BK229; have hfz15_0 := blk_frozen BK229.out 0; have hfz15_1 := blk_frozen BK229.out 1; have hfz15_2 := blk_frozen BK229.out 2; have hcz16_0 : w13.cell? ⟨gb230, 0, none⟩ = some (.int .i64 a1_0) := bc BK230; have hcz16_1 : w13.cell? ⟨gb230, 1, none⟩ = some (.int .i64 a1_1) := bc BK230; have hcz16_2 : w13.cell? ⟨gb230, 2, none⟩ = some (.slice A1_2 l1_2.length c1_2) := bc BK230; have hfz16_0 := blk_frozen BK230.out 0; have hfz16_1 := blk_frozen BK230.out 1; have hfz16_2 := blk_frozen BK230.out 2) | ((with_reducible refine gC 16 ?_); refine GL (some 19) Tryd.func16 #[.slice A0_2 l0_2.length c0_2, .slice A1_2 l1_2.length c1_2] ?_; (with_reducible refine (laws_eqInt64SS.calls k _ _ l0_2 _ _ l1_2 false _ ?side1 ?side2 ?side3 ?side4 A5.out).mono ?_); (case side1 => exact Kd.C_below HR0_2.out Hb); (case side2 => exact HC0_2.out); (case side3 => exact Kd.C_below HR1_2.out Hb); (case side4 => exact HC1_2.out); rintro e w' ⟨rfl, ⟨nd, rfl⟩⟩; refine ⟨_, rfl, ?_⟩))
        go_ret
        exact ⟨Fin, Hb⟩
    · rw [if_neg c4] at H
      have c4b0 : (a0_1 == a1_1) = false := beq_eq_false_iff_ne.mpr c4
      have c4b1 : (a0_1 != a1_1) = true := bne_iff_ne.mpr c4
      obtain rfl := Option.some.inj H
      go_enter Tryd.func6, Tryd.ntmps6
      go_wp2_with (first | ((with_reducible refine gD 2 ?_); refine BX #[.int .i64 a0_0, .int .i64 a0_1, .slice A0_2 l0_2.length c0_2] 24 ?_; intro gb229 hg w17 hbox hb; have BK229 := Aside0.mk (hbox); have GW229 := Aside0.mk ((Gle hg Hb : w.heap.size ≤ gb229)); have GE229 := Aside0.mk ((Gle hg Hb : w.heap.size ≤ gb229)); replace HB := Aside0.mk (below_step Hb hb); clear hb hbox hg) | ((with_reducible refine gD 3 ?_); refine BX #[.int .i64 a1_0, .int .i64 a1_1, .slice A1_2 l1_2.length c1_2] 24 ?_; intro gb230 hg w18 hbox hb; have BK230 := Aside0.mk (hbox); have GW230 := Aside0.mk ((Gle hg Hb : w.heap.size ≤ gb230)); have GE230 := Aside0.mk ((Gle hg Hb : w.heap.size ≤ gb230)); replace HB := Aside0.mk (below_step Hb hb); have NB229_230 := Aside0.mk ((by rw [hg]; exact Nat.ne_of_lt (blk_lt (B1 BK229)) : gb229 ≠ gb230)); have NB230_229 := Aside0.mk ((by rw [hg]; exact Nat.ne_of_gt (blk_lt (B1 BK229)) : gb230 ≠ gb229)); replace BK229 := Aside0.mk (blk_below (B1 BK229) hb); clear hb hbox hg; have hnb19 := NB229_230.out; have hnc19 := NB230_229.out; have hcz20_0 : w18.cell? ⟨gb229, 0, none⟩ = some (.int .i64 a0_0) := bc BK229; have hcz20_1 : w18.cell? ⟨gb229, 1, none⟩ = some (.int .i64 a0_1) := bc BK229; have hcz20_2 : w18.cell? ⟨gb229, 2, none⟩ = some (.slice A0_2 l0_2.length c0_2) := bc BK229; have hfz20_0 := blk_frozen BK229.out 0; have hfz20_1 := blk_frozen BK229.out 1; have hfz20_2 := blk_frozen BK229.out 2; have hcz21_0 : w18.cell? ⟨gb230, 0, none⟩ = some (.int .i64 a1_0) := bc BK230; have hcz21_1 : w18.cell? ⟨gb230, 1, none⟩ = some (.int .i64 a1_1) := bc BK230; have hcz21_2 : w18.cell? ⟨gb230, 2, none⟩ = some (.slice A1_2 l1_2.length c1_2) := bc BK230; have hfz21_0 := blk_frozen BK230.out 0; have hfz21_1 := blk_frozen BK230.out 1; have hfz21_2 := blk_frozen BK230.out 2))
      go_ret
      exact ⟨Fin, Hb⟩
  · rw [if_neg c3] at H
    have c3b0 : (a0_0 == a1_0) = false := beq_eq_false_iff_ne.mpr c3
    have c3b1 : (a0_0 != a1_0) = true := bne_iff_ne.mpr c3
    obtain rfl := Option.some.inj H
    go_enter Tryd.func6, Tryd.ntmps6
    go_wp2_with (first | ((with_reducible refine gD 2 ?_); refine BX #[.int .i64 a0_0, .int .i64 a0_1, .slice A0_2 l0_2.length c0_2] 24 ?_; intro gb229 hg w22 hbox hb; have BK229 := Aside0.mk (hbox); have GW229 := Aside0.mk ((Gle hg Hb : w.heap.size ≤ gb229)); have GE229 := Aside0.mk ((Gle hg Hb : w.heap.size ≤ gb229)); replace HB := Aside0.mk (below_step Hb hb); clear hb hbox hg) | ((with_reducible refine gD 3 ?_); refine BX #[.int .i64 a1_0, .int .i64 a1_1, .slice A1_2 l1_2.length c1_2] 24 ?_; intro gb230 hg w23 hbox hb; have BK230 := Aside0.mk (hbox); have GW230 := Aside0.mk ((Gle hg Hb : w.heap.size ≤ gb230)); have GE230 := Aside0.mk ((Gle hg Hb : w.heap.size ≤ gb230)); replace HB := Aside0.mk (below_step Hb hb); have NB229_230 := Aside0.mk ((by rw [hg]; exact Nat.ne_of_lt (blk_lt (B1 BK229)) : gb229 ≠ gb230)); have NB230_229 := Aside0.mk ((by rw [hg]; exact Nat.ne_of_gt (blk_lt (B1 BK229)) : gb230 ≠ gb229)); replace BK229 := Aside0.mk (blk_below (B1 BK229) hb); clear hb hbox hg; have hnb24 := NB229_230.out; have hnc24 := NB230_229.out; have hcz25_0 : w23.cell? ⟨gb229, 0, none⟩ = some (.int .i64 a0_0) := bc BK229; have hcz25_1 : w23.cell? ⟨gb229, 1, none⟩ = some (.int .i64 a0_1) := bc BK229; have hcz25_2 : w23.cell? ⟨gb229, 2, none⟩ = some (.slice A0_2 l0_2.length c0_2) := bc BK229; have hfz25_0 := blk_frozen BK229.out 0; have hfz25_1 := blk_frozen BK229.out 1; have hfz25_2 := blk_frozen BK229.out 2; have hcz26_0 : w23.cell? ⟨gb230, 0, none⟩ = some (.int .i64 a1_0) := bc BK230; have hcz26_1 : w23.cell? ⟨gb230, 1, none⟩ = some (.int .i64 a1_1) := bc BK230; have hcz26_2 : w23.cell? ⟨gb230, 2, none⟩ = some (.slice A1_2 l1_2.length c1_2) := bc BK230; have hfz26_0 := blk_frozen BK230.out 0; have hfz26_1 := blk_frozen BK230.out 1; have hfz26_2 := blk_frozen BK230.out 2))
    go_ret
    exact ⟨Fin, Hb⟩

/-! ### laws_markInt64S: function 30 -/
def laws_markInt64S.l0 : Nat → List Int → Int → Int → Option (Int × List Int)
  | 0, _, _, _ => none
  | k + 1, x0, x1, x5 => if x5 < (x0.length : Int) then (if 0 ≤ x5 then (laws_markInt64S.l0 k (x0.set (x5 : Int).toNat x1) (wrap64 (x1 + 1)) (wrap64 (x5 + 1))) else (none)) else (some (x1, x0))
def laws_markInt64S.f (k : Nat) (l0 : List Int) (a1 : Int) : Option (Int × List Int) := laws_markInt64S.l0 k l0 a1 0
theorem laws_markInt64S.mono_l : ∀ k, (∀ y0 y1 y2, LeO (laws_markInt64S.l0 k y0 y1 y2) (laws_markInt64S.l0 (k + 1) y0 y1 y2))
  | 0 => fun _ _ _ r h => by simp [laws_markInt64S.l0] at h
  | k + 1 => by
    have ih0 := laws_markInt64S.mono_l k
    · intro y0 y1 y2
      unfold laws_markInt64S.l0
      repeat' first
      | (with_reducible exact ih0 _ _ _)
      | (with_reducible exact LeO.refl _)
      | (with_reducible exact LeO.none _)
      | (with_reducible refine LeO.ite ?_ ?_)
      | (with_reducible refine LeO.bind ?_ (fun _ => ?_))
      | exact ih0 _ _ _
      | exact LeO.none _
      | refine LeO.ite ?_ ?_
      | refine LeO.bind ?_ (fun _ => ?_)
theorem laws_markInt64S.mono : ∀ a0 a1 k, LeO (laws_markInt64S.f k a0 a1) (laws_markInt64S.f (k + 1) a0 a1) := by
  intro a0 a1 k
  have ih0 := laws_markInt64S.mono_l k
  unfold laws_markInt64S.f
  repeat' first
      | (with_reducible exact ih0 _ _ _)
      | (with_reducible exact LeO.refl _)
      | (with_reducible exact LeO.none _)
      | (with_reducible refine LeO.ite ?_ ?_)
      | (with_reducible refine LeO.bind ?_ (fun _ => ?_))
      | exact ih0 _ _ _
      | exact LeO.none _
      | refine LeO.ite ?_ ?_
      | refine LeO.bind ?_ (fun _ => ?_)
set_option maxHeartbeats 8000000 in
set_option maxRecDepth 100000 in
theorem laws_markInt64S.calls (k : Nat) (P0_ : Nat → Prop) (u9000_ : Value) (l0 : List Int) (a1 : Int) (r1 : Int) (r2 : List Int) (w0 w : World) (hB : Below w0.heap.size w0 w) (ho0 : Kd.R (Kd.int .i64) 2 w w0.heap.size P0_ u9000_ l0) (h : laws_markInt64S.f k l0 a1 = some (r1, r2)) :
    Calls Tryd.prog 30 #[u9000_, .int .i64 a1] w fun e w' => e = .returned (.int .i64 r1) ∧ Kd.R (Kd.int .i64) 2 w' w0.heap.size (fun k_ => (P0_ k_ ∨ w.heap.size ≤ k_)) u9000_ r2 ∧ Below w0.heap.size w0 w' ∧ Kept w w' (fun k_ => P0_ k_) := by
  have HO0 := Aside0.mk (show Kd.R (Kd.int .i64) 2 w w0.heap.size (fun k_ => (P0_ k_ ∨ w.heap.size ≤ k_)) u9000_ l0 from Kd.R_mono ho0 (fun k_ hk => (.inl hk)))
  have HK := Aside0.mk (Kept.refl w (fun k_ => P0_ k_))
  have HW0 := Aside0.mk hB.size
  have HB := Aside0.mk hB
  clear hB
  have H : (laws_markInt64S.l0 k l0 a1 0) = some (r1, r2) := h
  clear h
  have H' := Aside0.mk H
  clear H
  go_enter Tryd.func30, Tryd.ntmps30
  go_wp2
  go_loopg [1, 5] k (fun kq v1 v5 w' => ∃ (x0_1 : List Int) (x1_1 : Int) (x5_1 : Int), v1 = .int .i64 x1_1 ∧ v5 = .int .i64 x5_1 ∧ Aside0 (laws_markInt64S.l0 kq x0_1 x1_1 x5_1 = some (r1, r2)) ∧ Aside0 (kq ≤ k) ∧ Aside0 (Kd.R (Kd.int .i64) 2 w' w0.heap.size (fun k_ => (P0_ k_ ∨ w.heap.size ≤ k_)) u9000_ x0_1) ∧ Aside0 (Kept w w' (fun k_ => P0_ k_)) ∧ Aside0 (Below w0.heap.size w0 w'))
  case atStart => exact ⟨(l0), (a1), (0), Fs, Fs, H', ⟨Nat.le_refl _⟩, ⟨R1 HO0⟩, ⟨by repeat (first | (with_reducible first | exact HK.out | apply Kept.alloc | apply Kept.drewN | apply Kept.drew) | exact HK.out)⟩, ⟨Hb⟩⟩
  case round =>
    clear H'
    try clear p2
    obtain ⟨x0_1, x1_1, x5_1, rfl, rfl, HA, HK1, HO_0, HK, HB⟩ := hrel
    cases gk with
    | zero => exact absurd HA.out (by simp [laws_markInt64S.l0])
    | succ k1 =>
      have H := HA.out
      clear HA
      simp only [laws_markInt64S.l0] at H
      by_cases c3 : x5_1 < (x0_1.length : Int)
      · rw [if_pos c3] at H
        have c3b0 : decide (x5_1 < (x0_1.length : Int)) = true := decide_eq_true c3
        clear c3
        by_cases c4 : 0 ≤ x5_1
        · rw [if_pos c4] at H
          have c4b0 : decide (0 ≤ x5_1) = true := decide_eq_true c4
          clear c4
          obtain ⟨y232, hy232⟩ : ∃ y_ : List Int, y_ = (x0_1.set (x5_1 : Int).toNat x1_1) := ⟨_, rfl⟩
          replace H : (laws_markInt64S.l0 k1 y232 (wrap64 (x1_1 + 1)) (wrap64 (x5_1 + 1))) = some (r1, r2) := by first | (rw [hy232]; with_reducible exact H) | (have H2_ := (Option.bind_some _ _).symm.trans H; rw [hy232]; with_reducible exact H2_) | (have H2_ := (Option.bind_some _ _).symm.trans H; with_reducible exact H2_) | with_reducible exact H | (rw [hy232]; exact H) | exact H
          have Ny232 := Aside0.mk hy232
          clear hy232
          have H' := Aside0.mk H
          clear H
          obtain ⟨Ao6, co6, eo6⟩ := Kd.R_slice HO_0.out
          subst eo6
          have p5 : 0 ≤ (x5_1 : Int) := oD
          have q5 : (x5_1 : Int) < ((x0_1.length : Int) : Int) := oD
          obtain ⟨go5, co5, eo5, gb5, gl5, cl5, HG5⟩ := Kd.R_form HO_0.out (by omega)
          (first | cases eo5 | (injection eo5 with ea_ en_ ec_; (first | subst ea_ | (injection ea_ with ea_; subst ea_)); subst ec_; clear en_))
          have GB5 := Aside0.mk gb5
          have GG5 := Aside0.mk HG5
          clear gb5 gl5 HG5
          have HMgo5 := Aside0.mk (show (P0_ go5 ∨ w.heap.size ≤ go5) from (HO_0.out.1 _ rfl))
          obtain ⟨hx5_0, hf5_0⟩ := Kd.R_celln 0 HO_0.out (x5_1 : Int) p5 q5
          replace p5 := eq_true p5
          replace q5 := eq_true q5
          have HP7 := Kd.R_putg HO_0.out (x5_1 : Int) x1_1
          go_wp2_with (first | ((with_reducible refine gate_store (t := 2) (p := 15) rfl ?_); refine store_event (t := 2) (p := 15) (v := ?vo_w8) (w1 := (wr.setCell ⟨go5, (x5_1 : Int).toNat, none⟩ (.int .i64 x1_1))) ?hg ?ho ?hn ?hr ?_; (case ho => rfl); (case hg => rfl); (case hn => rfl); (case hr => first | (go_simp; done) | (go_simp; rfl)); intro w8 hw; have hg : wr.grownBy w8 (some go5) := (by rw [hw]; exact HP7.2); have hp_ : Kd.R (Kd.int .i64) 2 w8 w0.heap.size (fun k_ => (P0_ k_ ∨ w.heap.size ≤ k_)) (.slice (some ⟨go5, 0, none⟩) x0_1.length co6) y232 := (by rw [hw, Ny232.out]; exact HP7.1); clear HP7; replace HB := Aside0.mk ((by rw [hw]; exact below_set (HB.out) GB5.out : Below w0.heap.size w0 w8)); replace HK := Aside0.mk (Kept.of_grown (S := (fun k_ => P0_ k_)) hg (by repeat (first | (with_reducible first | exact HK.out | apply Kept.alloc | apply Kept.drewN | apply Kept.drew) | exact HK.out)) (fun k_ e_ => (HO_0.out.1 k_ e_))); replace HO_0 := Aside0.mk (hp_); clear hg hw hp_))
          go_roundg k1
          case measure => have := HK1.out; omega
          case rel => exact ⟨(y232), (wrap64 (x1_1 + 1)), (wrap64 (x5_1 + 1)), Fs, Fs, H', ⟨by have := HK1.out; omega⟩, ⟨R1 HO_0⟩, ⟨by repeat (first | (with_reducible first | exact HK.out | apply Kept.alloc | apply Kept.drewN | apply Kept.drew) | exact HK.out)⟩, ⟨Hb⟩⟩
        · rw [if_neg c4] at H
          exact absurd H (by simp)
      · rw [if_neg c3] at H
        have c3b0 : decide (x5_1 < (x0_1.length : Int)) = false := decide_eq_false c3
        clear c3
        simp only [Option.some.injEq, Prod.mk.injEq] at H
        obtain ⟨rfl, rfl⟩ := H
        obtain ⟨Ao9, co9, eo9⟩ := Kd.R_slice HO_0.out
        subst eo9
        go_wp2
        go_ret
        exact ⟨Fin, R1 HO_0, Hb, by repeat (first | (with_reducible first | exact HK.out | apply Kept.alloc | apply Kept.drewN | apply Kept.drew) | exact HK.out)⟩

/-! ### laws_markInt64SS: function 17 (a contract of ours) -/
def laws_markInt64SS.f (k : Nat) : List (List Int) → Int → Option (Int × List (List Int))
  | [], a => some (a, [])
  | x :: xs, a => (laws_markInt64S.f k x a).bind fun p => (laws_markInt64SS.f k xs p.1).bind fun q => some (q.1, p.2 :: q.2)
theorem laws_markInt64SS.mono : ∀ a0 a1 k, LeO (laws_markInt64SS.f k a0 a1) (laws_markInt64SS.f (k + 1) a0 a1)
  | [], _, _ => LeO.refl _
  | x :: xs, a, k => LeO.bind (laws_markInt64S.mono x a k) (fun p => LeO.bind (laws_markInt64SS.mono xs p.1 k) (fun _ => LeO.refl _))
set_option maxRecDepth 100000 in
set_option maxHeartbeats 2000000 in
theorem laws_markInt64SS.calls (k : Nat) (P0_ : Nat → Prop) (u9000_ : Value) (l0 : List (List Int)) (a1 : Int) (r1 : Int) (r2 : List (List Int)) (w0 w : World) (hB : Below w0.heap.size w0 w) (ho0 : Kd.S (Kd.slice 2 (Kd.int .i64)) 32 w w0.heap.size P0_ u9000_ l0) (h : laws_markInt64SS.f k l0 a1 = some (r1, r2)) :
    Calls Tryd.prog 17 #[u9000_, .int .i64 a1] w fun e w' => e = .returned (.int .i64 r1) ∧ Kd.S (Kd.slice 2 (Kd.int .i64)) 32 w' w0.heap.size (fun k_ => (P0_ k_ ∨ w.heap.size ≤ k_)) u9000_ r2 ∧ Below w0.heap.size w0 w' ∧ Kept w w' (fun k_ => P0_ k_) := by
  obtain ⟨A, c, rfl, hlc, hC⟩ := Kd.S_reads ho0
  have hn := hC.2.1
  have HO := Aside0.mk ho0
  have HB := Aside0.mk hB
  have H := Aside0.mk h
  clear ho0 hB h hC
  go_enter Tryd.func17, Tryd.ntmps17
  go_wp2
  go_loopg [1, 5] l0.length (fun gg v1 v5 wr => ∃ (i : Nat) (a : Int) (y z : List (List Int)), v1 = .int .i64 a ∧ v5 = .int .i64 i ∧ Aside0 (i ≤ l0.length ∧ y.length = l0.length ∧ l0.length - i ≤ gg) ∧ Aside0 (laws_markInt64SS.f k (y.drop i) a = some (r1, z) ∧ r2 = y.take i ++ z) ∧ Aside0 (Kd.S (Kd.slice 2 (Kd.int .i64)) 32 wr w0.heap.size P0_ (.slice A l0.length c) y) ∧ Aside0 (Below w0.heap.size w0 wr) ∧ Aside0 (Kept w wr P0_))
  case atStart => exact ⟨0, a1, l0, r2, rfl, rfl, ⟨Nat.zero_le _, rfl, Nat.le_refl _⟩, ⟨H.out, rfl⟩, HO, HB, ⟨Kept.refl _ _⟩⟩
  case round =>
    clear H HO HB
    obtain ⟨i, a, y, z, rfl, rfl, HI, HA, HS, HB, HK⟩ := hrel
    by_cases hlt : i < l0.length
    · have c1 : decide ((i : Int) < (l0.length : Int)) = true := decide_eq_true (by omega)
      have hy : i < y.length := by rw [HI.out.2.1]; exact hlt
      have hA := HA.out.1
      rw [List.drop_eq_getElem_cons hy] at hA
      simp only [laws_markInt64SS.f] at hA
      obtain ⟨⟨a2, x2⟩, hx2, hA⟩ := Option.bind_eq_some_iff.mp hA
      obtain ⟨⟨b, zs⟩, hzs, hA⟩ := Option.bind_eq_some_iff.mp hA
      simp only [Option.some.injEq, Prod.mk.injEq] at hA
      obtain ⟨rfl, rfl⟩ := hA
      obtain ⟨g, cap, he, _, _, _⟩ := Kd.S_form HS.out (by omega)
      simp only [Value.slice.injEq] at he
      obtain ⟨rfl, hq_, rfl⟩ := he
      clear hq_
      obtain ⟨oki, cc, _, hM, hcells, hok, hH⟩ := Kd.S_lend HS.out ([] : List Int) (i : Int) (by omega) (by omega)
      obtain ⟨v, rfl, hR⟩ := hM
      have hx : wr.cell? ⟨g, i, none⟩ = some v := by have := hcells 0 v rfl; simpa [Kd.slice] using this
      have hyi : y.getD (i : Int).toNat [] = y[i] := by simp [List.getD_eq_getElem?_getD, List.getElem?_eq_getElem hy]
      rw [hyi] at hR
      have HC := Aside0.mk (laws_markInt64S.calls k oki v y[i] a a2 x2 w0 wr HB.out hR hx2)
      have HR := Aside0.mk hR
      have HH := Aside0.mk hH
      have HZ := Aside0.mk hzs
      have HOK := Aside0.mk hok
      clear hcells hok hH hR hx2 hzs hyi HS
      go_wp2_with (go_at_call 30; refine HC.out.mono ?_; rintro e w' ⟨rfl, hR2, hB2, hK2⟩)
      have hS2 := Kd.H_back (Kd.H_kept HH.out hK2 (fun _ _ hn => hn)) (okp := oki) (x' := x2) ⟨v, rfl, Kd.R_flat (fun hh => hh) hR2 (fun k hk _ => HR.out.1 k hk)⟩ (fun _ hh => hh)
      rw [Int.toNat_natCast] at hS2
      have hK3 := HK.out.then_ hK2 (fun k hk => .inl (HOK.out k hk).1)
      go_roundg (l0.length - (i + 1))
      case measure => have := HI.out; omega
      case rel =>
        have e1 : (y.set i x2).drop (i + 1) = y.drop (i + 1) := by rw [List.drop_set_of_lt (by omega)]
        have e2 : r2 = (y.set i x2).take (i + 1) ++ zs := by
          rw [List.take_succ_eq_append_getElem (by simpa using hy), List.take_set_of_le (Nat.le_refl i), HA.out.2]
          simp
        exact ⟨i + 1, a2, y.set i x2, zs, by first | rfl | (simp; done), by go_num, ⟨by omega, by rw [List.length_set]; exact HI.out.2.1, by omega⟩, ⟨by rw [e1]; exact HZ.out, e2⟩, ⟨hS2⟩, ⟨hB2⟩, ⟨hK3⟩⟩
    · have c1 : decide ((i : Int) < (l0.length : Int)) = false := decide_eq_false (by omega)
      have hA := HA.out.1
      rw [List.drop_eq_nil_of_le (by have := HI.out.2.1; omega)] at hA
      simp only [laws_markInt64SS.f, Option.some.injEq, Prod.mk.injEq] at hA
      obtain ⟨rfl, rfl⟩ := hA
      have e2 : r2 = y := by rw [HA.out.2, List.append_nil, List.take_of_length_le (by have := HI.out.2.1; omega)]
      subst e2
      go_wp2
      go_ret
      exact ⟨rfl, Kd.S_mono HS.out (fun _ hk => .inl hk), HB.out, HK.out⟩

/-! ### laws_markCover: function 7 (a contract of ours) -/
def laws_markCover.f (k : Nat) (a0 a1 : Int) (l : List (List Int)) (a : Int) : Option (Int × List (List Int)) := laws_markInt64SS.f k l a
theorem laws_markCover.mono : ∀ a0 a1 a2 a3 k, LeO (laws_markCover.f k a0 a1 a2 a3) (laws_markCover.f (k + 1) a0 a1 a2 a3) := fun _ _ l a k => laws_markInt64SS.mono l a k
set_option maxRecDepth 100000 in
set_option maxHeartbeats 2000000 in
theorem laws_markCover.calls (k : Nat) (a0_0 a0_1 : Int) (P0_2_ : Nat → Prop) (u9000_ : Value) (l0_2 : List (List Int)) (a1 : Int) (r1 : Int) (r2 : List (List Int)) (w0 w : World) (hB : Below w0.heap.size w0 w) (ho0_2 : Kd.S (Kd.slice 2 (Kd.int .i64)) 32 w w0.heap.size P0_2_ u9000_ l0_2) (h : laws_markCover.f k a0_0 a0_1 l0_2 a1 = some (r1, r2)) :
    Calls Tryd.prog 7 #[.agg #[.int .i64 a0_0, .int .i64 a0_1, u9000_], .int .i64 a1] w fun e w' => e = .returned (.int .i64 r1) ∧ Kd.S (Kd.slice 2 (Kd.int .i64)) 32 w' w0.heap.size (fun k_ => (P0_2_ k_ ∨ w.heap.size ≤ k_)) u9000_ r2 ∧ Below w0.heap.size w0 w' ∧ Kept w w' (fun k_ => P0_2_ k_) := by
  have hu := Tryd.underlying24
  obtain ⟨A, c, rfl, hlc, hC⟩ := Kd.S_reads ho0_2
  have HO := Aside0.mk ho0_2
  have HB := Aside0.mk hB
  have H := Aside0.mk (show laws_markInt64SS.f k l0_2 a1 = some (r1, r2) from h)
  clear ho0_2 hB h hC
  go_enter Tryd.func7, Tryd.ntmps7
  go_wp2_with (go_at_call 17; refine (laws_markInt64SS.calls k P0_2_ _ l0_2 a1 r1 r2 w0 _ ?c1 ?c2 H.out).mono ?_; (case c1 => exact HB.out.alloc HB.out.size _); (case c2 => exact Kd.S_alloc HO.out _); rintro e w' ⟨rfl, hS2, hB2, hK2⟩)
  go_ret
  exact ⟨rfl, Kd.S_mono hS2 (fun _ hk => hk.imp_right (fun hk => by simp at hk; omega)), hB2, (Kept.alloc (Kept.refl _ _) _).then_ hK2 (fun _ hk => .inl hk)⟩

/-! ### laws_heldInt64S: function 31 -/
def laws_heldInt64S.l0 : Nat → List Int → Int → Int → Option (Int)
  | 0, _, _, _ => none
  | k + 1, x0, x1, x5 => if x5 < (x0.length : Int) then (if 0 ≤ x5 then (if (rd x0 x5) = x1 then (laws_heldInt64S.l0 k x0 (wrap64 (x1 + 1)) (wrap64 (x5 + 1))) else (some (-1))) else (none)) else (some x1)
def laws_heldInt64S.f (k : Nat) (l0 : List Int) (a1 : Int) : Option (Int) := laws_heldInt64S.l0 k l0 a1 0
theorem laws_heldInt64S.mono_l : ∀ k, (∀ y0 y1 y2, LeO (laws_heldInt64S.l0 k y0 y1 y2) (laws_heldInt64S.l0 (k + 1) y0 y1 y2))
  | 0 => fun _ _ _ r h => by simp [laws_heldInt64S.l0] at h
  | k + 1 => by
    have ih0 := laws_heldInt64S.mono_l k
    · intro y0 y1 y2
      unfold laws_heldInt64S.l0
      repeat' first
      | (with_reducible exact ih0 _ _ _)
      | (with_reducible exact LeO.refl _)
      | (with_reducible exact LeO.none _)
      | (with_reducible refine LeO.ite ?_ ?_)
      | (with_reducible refine LeO.bind ?_ (fun _ => ?_))
      | exact ih0 _ _ _
      | exact LeO.none _
      | refine LeO.ite ?_ ?_
      | refine LeO.bind ?_ (fun _ => ?_)
theorem laws_heldInt64S.mono : ∀ a0 a1 k, LeO (laws_heldInt64S.f k a0 a1) (laws_heldInt64S.f (k + 1) a0 a1) := by
  intro a0 a1 k
  have ih0 := laws_heldInt64S.mono_l k
  unfold laws_heldInt64S.f
  repeat' first
      | (with_reducible exact ih0 _ _ _)
      | (with_reducible exact LeO.refl _)
      | (with_reducible exact LeO.none _)
      | (with_reducible refine LeO.ite ?_ ?_)
      | (with_reducible refine LeO.bind ?_ (fun _ => ?_))
      | exact ih0 _ _ _
      | exact LeO.none _
      | refine LeO.ite ?_ ?_
      | refine LeO.bind ?_ (fun _ => ?_)
set_option maxHeartbeats 8000000 in
set_option maxRecDepth 100000 in
theorem laws_heldInt64S.calls (k : Nat) (A0 : Option Addr) (c0 : Nat) (l0 : List Int) (a1 : Int) (r : Int) (w : World) (hr0 : Kd.C (Kd.int .i64) w A0 l0.length l0) (hc0 : l0.length ≤ c0) (h : laws_heldInt64S.f k l0 a1 = some r) :
    Calls Tryd.prog 31 #[.slice A0 l0.length c0, .int .i64 a1] w fun e w' => e = .returned (.int .i64 r) ∧ Drawn0 w w' := by
  have HR0 := Aside0.mk hr0
  have HC0 := Aside0.mk hc0
  clear hr0 hc0
  have H : (laws_heldInt64S.l0 k l0 a1 0) = some r := h
  clear h
  have H' := Aside0.mk H
  clear H
  go_enter Tryd.func31, Tryd.ntmps31
  go_wp2
  go_loopg [1, 5] k (fun kq v1 v5 w' => ∃ (x1_1 : Int) (x5_1 : Int), v1 = .int .i64 x1_1 ∧ v5 = .int .i64 x5_1 ∧ Aside0 (laws_heldInt64S.l0 kq l0 x1_1 x5_1 = some r) ∧ Aside0 (kq ≤ k) ∧ Drawn0 w w')
  case atStart => exact ⟨(a1), (0), Fs, Fs, H', ⟨Nat.le_refl _⟩, by repeat (first | exact Drawn0.refl _ | apply Drawn0.step)⟩
  case round =>
    clear H'
    try clear p2
    obtain ⟨x1_1, x5_1, rfl, rfl, HA, HK1, ⟨m1, rfl⟩⟩ := hrel
    cases gk with
    | zero => exact absurd HA.out (by simp [laws_heldInt64S.l0])
    | succ k1 =>
      have H := HA.out
      clear HA
      simp only [laws_heldInt64S.l0] at H
      by_cases c3 : x5_1 < (l0.length : Int)
      · rw [if_pos c3] at H
        have c3b0 : decide (x5_1 < (l0.length : Int)) = true := decide_eq_true c3
        clear c3
        by_cases c4 : 0 ≤ x5_1
        · rw [if_pos c4] at H
          have c4b0 : decide (0 ≤ x5_1) = true := decide_eq_true c4
          clear c4
          by_cases c5 : (rd l0 x5_1) = x1_1
          · rw [if_pos c5] at H
            have c5b0 : ((rd l0 x5_1) == x1_1) = true := beq_iff_eq.mpr c5
            have c5b1 : ((rd l0 x5_1) != x1_1) = false := bne_eq_false_iff_eq.mpr c5
            clear c5
            have H' := Aside0.mk H
            clear H
            have p233 : 0 ≤ (x5_1 : Int) := oD
            have q233 : x5_1 < (l0.length : Int) := oD
            obtain ⟨ad233, e233, hx233_0⟩ := Kd.at_int HR0.out x5_1 p233 q233
            cases e233
            replace p233 := eq_true p233
            replace q233 := eq_true q233
            go_wp2
            go_roundg k1
            case measure => have := HK1.out; omega
            case rel => exact ⟨(wrap64 (x1_1 + 1)), (wrap64 (x5_1 + 1)), Fs, Fs, H', ⟨by have := HK1.out; omega⟩, by repeat (first | exact Drawn0.refl _ | apply Drawn0.step)⟩
          · rw [if_neg c5] at H
            have c5b0 : ((rd l0 x5_1) == x1_1) = false := beq_eq_false_iff_ne.mpr c5
            have c5b1 : ((rd l0 x5_1) != x1_1) = true := bne_iff_ne.mpr c5
            obtain rfl := Option.some.inj H
            have p233 : 0 ≤ (x5_1 : Int) := oD
            have q233 : x5_1 < (l0.length : Int) := oD
            obtain ⟨ad233, e233, hx233_0⟩ := Kd.at_int HR0.out x5_1 p233 q233
            cases e233
            replace p233 := eq_true p233
            replace q233 := eq_true q233
            go_wp2
            go_ret
            exact ⟨Fs, by repeat (first | exact Drawn0.refl _ | apply Drawn0.step)⟩
        · rw [if_neg c4] at H
          exact absurd H (by simp)
      · rw [if_neg c3] at H
        have c3b0 : decide (x5_1 < (l0.length : Int)) = false := decide_eq_false c3
        clear c3
        obtain rfl := Option.some.inj H
        go_wp2
        go_ret
        exact ⟨Fs, by repeat (first | exact Drawn0.refl _ | apply Drawn0.step)⟩

/-! ### laws_heldInt64SS: function 18 -/
def laws_heldInt64SS.l0 : Nat → List (List Int) → Int → Int → Option (Int)
  | 0, _, _, _ => none
  | k + 1, x0, x1, x5 => if x5 < (x0.length : Int) then (if 0 ≤ x5 then ((laws_heldInt64S.f k (rd_L3 x0 x5) x1).bind fun t235 => (if t235 < 0 then (some (-1)) else (laws_heldInt64SS.l0 k x0 t235 (wrap64 (x5 + 1))))) else (none)) else (some x1)
def laws_heldInt64SS.f (k : Nat) (l0 : List (List Int)) (a1 : Int) : Option (Int) := laws_heldInt64SS.l0 k l0 a1 0
theorem laws_heldInt64SS.mono_l : ∀ k, (∀ y0 y1 y2, LeO (laws_heldInt64SS.l0 k y0 y1 y2) (laws_heldInt64SS.l0 (k + 1) y0 y1 y2))
  | 0 => fun _ _ _ r h => by simp [laws_heldInt64SS.l0] at h
  | k + 1 => by
    have ih0 := laws_heldInt64SS.mono_l k
    · intro y0 y1 y2
      unfold laws_heldInt64SS.l0
      repeat' first
      | (with_reducible exact ih0 _ _ _)
      | (with_reducible exact laws_heldInt64S.mono _ _ _)
      | (with_reducible exact LeO.refl _)
      | (with_reducible exact LeO.none _)
      | (with_reducible refine LeO.ite ?_ ?_)
      | (with_reducible refine LeO.bind ?_ (fun _ => ?_))
      | exact ih0 _ _ _
      | exact laws_heldInt64S.mono _ _ _
      | exact LeO.none _
      | refine LeO.ite ?_ ?_
      | refine LeO.bind ?_ (fun _ => ?_)
theorem laws_heldInt64SS.mono : ∀ a0 a1 k, LeO (laws_heldInt64SS.f k a0 a1) (laws_heldInt64SS.f (k + 1) a0 a1) := by
  intro a0 a1 k
  have ih0 := laws_heldInt64SS.mono_l k
  unfold laws_heldInt64SS.f
  repeat' first
      | (with_reducible exact ih0 _ _ _)
      | (with_reducible exact laws_heldInt64S.mono _ _ _)
      | (with_reducible exact LeO.refl _)
      | (with_reducible exact LeO.none _)
      | (with_reducible refine LeO.ite ?_ ?_)
      | (with_reducible refine LeO.bind ?_ (fun _ => ?_))
      | exact ih0 _ _ _
      | exact laws_heldInt64S.mono _ _ _
      | exact LeO.none _
      | refine LeO.ite ?_ ?_
      | refine LeO.bind ?_ (fun _ => ?_)
set_option maxHeartbeats 8000000 in
set_option maxRecDepth 100000 in
theorem laws_heldInt64SS.calls (k : Nat) (A0 : Option Addr) (c0 : Nat) (l0 : List (List Int)) (a1 : Int) (r : Int) (w : World) (hr0 : Kd.C (Kd.slice 2 (Kd.int .i64)) w A0 l0.length l0) (hc0 : l0.length ≤ c0) (h : laws_heldInt64SS.f k l0 a1 = some r) :
    Calls Tryd.prog 18 #[.slice A0 l0.length c0, .int .i64 a1] w fun e w' => e = .returned (.int .i64 r) ∧ Drawn0 w w' := by
  have HR0 := Aside0.mk hr0
  have HC0 := Aside0.mk hc0
  clear hr0 hc0
  have H : (laws_heldInt64SS.l0 k l0 a1 0) = some r := h
  clear h
  have H' := Aside0.mk H
  clear H
  go_enter Tryd.func18, Tryd.ntmps18
  go_wp2
  go_loopg [1, 5] k (fun kq v1 v5 w' => ∃ (x1_1 : Int) (x5_1 : Int), v1 = .int .i64 x1_1 ∧ v5 = .int .i64 x5_1 ∧ Aside0 (laws_heldInt64SS.l0 kq l0 x1_1 x5_1 = some r) ∧ Aside0 (kq ≤ k) ∧ Drawn0 w w')
  case atStart => exact ⟨(a1), (0), Fs, Fs, H', ⟨Nat.le_refl _⟩, by repeat (first | exact Drawn0.refl _ | apply Drawn0.step)⟩
  case round =>
    clear H'
    try clear c1
    try clear p2
    obtain ⟨x1_1, x5_1, rfl, rfl, HA, HK1, ⟨m1, rfl⟩⟩ := hrel
    cases gk with
    | zero => exact absurd HA.out (by simp [laws_heldInt64SS.l0])
    | succ k1 =>
      have H := HA.out
      clear HA
      simp only [laws_heldInt64SS.l0] at H
      by_cases c3 : x5_1 < (l0.length : Int)
      · rw [if_pos c3] at H
        have c3b0 : decide (x5_1 < (l0.length : Int)) = true := decide_eq_true c3
        clear c3
        by_cases c4 : 0 ≤ x5_1
        · rw [if_pos c4] at H
          have c4b0 : decide (0 ≤ x5_1) = true := decide_eq_true c4
          clear c4
          obtain ⟨t235, A50, H⟩ := Option.bind_eq_some_iff.mp H
          have A5 := Aside0.mk A50
          clear A50
          by_cases c6 : t235 < 0
          · rw [if_pos c6] at H
            have c6b0 : decide (t235 < 0) = true := decide_eq_true c6
            clear c6
            obtain rfl := Option.some.inj H
            have p234 : 0 ≤ (x5_1 : Int) := oD
            have q234 : x5_1 < (l0.length : Int) := oD
            obtain ⟨ad234, A234_0, c234_0, e234, hx234_0, hl234_0, hi234_0⟩ := at_L3 HR0.out x5_1 p234 q234
            cases e234
            have HR234_0 := Aside0.mk hi234_0
            have HC234_0 := Aside0.mk hl234_0
            clear hi234_0 hl234_0
            replace p234 := eq_true p234
            replace q234 := eq_true q234
            go_wp2_with (first | ((with_reducible refine gC 31 ?_); refine GL (some 17) Tryd.func31 #[.slice A234_0 (rd_L3 l0 x5_1).length c234_0, .int .i64 x1_1] ?_; (with_reducible refine (laws_heldInt64S.calls k1 _ _ (rd_L3 l0 x5_1) x1_1 t235 _ ?side1 ?side2 A5.out).mono ?_); (case side1 => exact Ck HR234_0.out); (case side2 => exact HC234_0.out); rintro e w' ⟨rfl, ⟨nd, rfl⟩⟩; refine ⟨_, rfl, ?_⟩))
            go_ret
            exact ⟨Fs, by repeat (first | exact Drawn0.refl _ | apply Drawn0.step)⟩
          · rw [if_neg c6] at H
            have c6b0 : decide (t235 < 0) = false := decide_eq_false c6
            clear c6
            have H' := Aside0.mk H
            clear H
            have p234 : 0 ≤ (x5_1 : Int) := oD
            have q234 : x5_1 < (l0.length : Int) := oD
            obtain ⟨ad234, A234_0, c234_0, e234, hx234_0, hl234_0, hi234_0⟩ := at_L3 HR0.out x5_1 p234 q234
            cases e234
            have HR234_0 := Aside0.mk hi234_0
            have HC234_0 := Aside0.mk hl234_0
            clear hi234_0 hl234_0
            replace p234 := eq_true p234
            replace q234 := eq_true q234
            go_wp2_with (first | ((with_reducible refine gC 31 ?_); refine GL (some 17) Tryd.func31 #[.slice A234_0 (rd_L3 l0 x5_1).length c234_0, .int .i64 x1_1] ?_; (with_reducible refine (laws_heldInt64S.calls k1 _ _ (rd_L3 l0 x5_1) x1_1 t235 _ ?side1 ?side2 A5.out).mono ?_); (case side1 => exact Ck HR234_0.out); (case side2 => exact HC234_0.out); rintro e w' ⟨rfl, ⟨nd, rfl⟩⟩; refine ⟨_, rfl, ?_⟩))
            go_roundg k1
            case measure => have := HK1.out; omega
            case rel => exact ⟨(t235), (wrap64 (x5_1 + 1)), Fs, Fs, H', ⟨by have := HK1.out; omega⟩, by repeat (first | exact Drawn0.refl _ | apply Drawn0.step)⟩
        · rw [if_neg c4] at H
          exact absurd H (by simp)
      · rw [if_neg c3] at H
        have c3b0 : decide (x5_1 < (l0.length : Int)) = false := decide_eq_false c3
        clear c3
        obtain rfl := Option.some.inj H
        go_wp2
        go_ret
        exact ⟨Fs, by repeat (first | exact Drawn0.refl _ | apply Drawn0.step)⟩

/-! ### laws_heldCover: function 8 -/
def laws_heldCover.f (k : Nat) (a0_0 : Int) (a0_1 : Int) (l0_2 : List (List Int)) (a1 : Int) : Option (Int) := (laws_heldInt64SS.f k l0_2 a1).bind fun t237 => (if t237 < 0 then (some (-1)) else (some t237))
theorem laws_heldCover.mono : ∀ a0 a1 a2 a3 k, LeO (laws_heldCover.f k a0 a1 a2 a3) (laws_heldCover.f (k + 1) a0 a1 a2 a3) := by
  intro a0 a1 a2 a3 k
  unfold laws_heldCover.f
  repeat' first
      | (with_reducible exact laws_heldInt64SS.mono _ _ _)
      | (with_reducible exact LeO.refl _)
      | (with_reducible exact LeO.none _)
      | (with_reducible refine LeO.ite ?_ ?_)
      | (with_reducible refine LeO.bind ?_ (fun _ => ?_))
      | exact laws_heldInt64SS.mono _ _ _
      | exact LeO.none _
      | refine LeO.ite ?_ ?_
      | refine LeO.bind ?_ (fun _ => ?_)
set_option maxHeartbeats 8000000 in
set_option maxRecDepth 100000 in
theorem laws_heldCover.calls (k : Nat) (a0_0 : Int) (a0_1 : Int) (A0_2 : Option Addr) (c0_2 : Nat) (l0_2 : List (List Int)) (a1 : Int) (r : Int) (w : World) (hr0_2 : Kd.C (Kd.slice 2 (Kd.int .i64)) w A0_2 l0_2.length l0_2) (hc0_2 : l0_2.length ≤ c0_2) (h : laws_heldCover.f k a0_0 a0_1 l0_2 a1 = some r) :
    Calls Tryd.prog 8 #[.agg #[.int .i64 a0_0, .int .i64 a0_1, .slice A0_2 l0_2.length c0_2], .int .i64 a1] w fun e w' => e = .returned (.int .i64 r) ∧ Below w.heap.size w w' := by
  have hu24 := Tryd.underlying24
  have HR0_2 := Aside0.mk hr0_2
  have HC0_2 := Aside0.mk hc0_2
  clear hr0_2 hc0_2
  have HB := Aside0.mk (Below.refl w.heap.size w)
  have H : ((laws_heldInt64SS.f k l0_2 a1).bind fun t237 => (if t237 < 0 then (some (-1)) else (some t237))) = some r := h
  clear h
  obtain ⟨t237, A30, H⟩ := Option.bind_eq_some_iff.mp H
  have A3 := Aside0.mk A30
  clear A30
  by_cases c4 : t237 < 0
  · rw [if_pos c4] at H
    have c4b0 : decide (t237 < 0) = true := decide_eq_true c4
    clear c4
    obtain rfl := Option.some.inj H
    go_enter Tryd.func8, Tryd.ntmps8
    go_wp2_with (first | ((with_reducible refine gD 2 ?_); refine BX #[.int .i64 a0_0, .int .i64 a0_1, .slice A0_2 l0_2.length c0_2] 24 ?_; intro gb236 hg w5 hbox hb; have BK236 := Aside0.mk (hbox); have GW236 := Aside0.mk ((Gle hg Hb : w.heap.size ≤ gb236)); have GE236 := Aside0.mk ((Gle hg Hb : w.heap.size ≤ gb236)); replace HB := Aside0.mk (below_step Hb hb); clear hb hbox hg; have hcz6_0 : w5.cell? ⟨gb236, 0, none⟩ = some (.int .i64 a0_0) := bc BK236; have hcz6_1 : w5.cell? ⟨gb236, 1, none⟩ = some (.int .i64 a0_1) := bc BK236; have hcz6_2 : w5.cell? ⟨gb236, 2, none⟩ = some (.slice A0_2 l0_2.length c0_2) := bc BK236; have hfz6_0 := blk_frozen BK236.out 0; have hfz6_1 := blk_frozen BK236.out 1; have hfz6_2 := blk_frozen BK236.out 2) | ((with_reducible refine gC 18 ?_); refine GL (some 8) Tryd.func18 #[.slice A0_2 l0_2.length c0_2, .int .i64 a1] ?_; (with_reducible refine (laws_heldInt64SS.calls k _ _ l0_2 a1 t237 _ ?side1 ?side2 A3.out).mono ?_); (case side1 => exact Kd.C_below HR0_2.out Hb); (case side2 => exact HC0_2.out); rintro e w' ⟨rfl, ⟨nd, rfl⟩⟩; refine ⟨_, rfl, ?_⟩))
    go_ret
    exact ⟨Fin, Hb⟩
  · rw [if_neg c4] at H
    have c4b0 : decide (t237 < 0) = false := decide_eq_false c4
    clear c4
    obtain rfl := Option.some.inj H
    go_enter Tryd.func8, Tryd.ntmps8
    go_wp2_with (first | ((with_reducible refine gD 2 ?_); refine BX #[.int .i64 a0_0, .int .i64 a0_1, .slice A0_2 l0_2.length c0_2] 24 ?_; intro gb236 hg w7 hbox hb; have BK236 := Aside0.mk (hbox); have GW236 := Aside0.mk ((Gle hg Hb : w.heap.size ≤ gb236)); have GE236 := Aside0.mk ((Gle hg Hb : w.heap.size ≤ gb236)); replace HB := Aside0.mk (below_step Hb hb); clear hb hbox hg; have hcz8_0 : w7.cell? ⟨gb236, 0, none⟩ = some (.int .i64 a0_0) := bc BK236; have hcz8_1 : w7.cell? ⟨gb236, 1, none⟩ = some (.int .i64 a0_1) := bc BK236; have hcz8_2 : w7.cell? ⟨gb236, 2, none⟩ = some (.slice A0_2 l0_2.length c0_2) := bc BK236; have hfz8_0 := blk_frozen BK236.out 0; have hfz8_1 := blk_frozen BK236.out 1; have hfz8_2 := blk_frozen BK236.out 2) | ((with_reducible refine gC 18 ?_); refine GL (some 8) Tryd.func18 #[.slice A0_2 l0_2.length c0_2, .int .i64 a1] ?_; (with_reducible refine (laws_heldInt64SS.calls k _ _ l0_2 a1 t237 _ ?side1 ?side2 A3.out).mono ?_); (case side1 => exact Kd.C_below HR0_2.out Hb); (case side2 => exact HC0_2.out); rintro e w' ⟨rfl, ⟨nd, rfl⟩⟩; refine ⟨_, rfl, ?_⟩))
    go_ret
    exact ⟨Fin, Hb⟩

/-! ### laws_FnExactReadCover: function 3 -/
def laws_FnExactReadCover.f (k : Nat) (a0 : ByteArray) : Option (Bool) := if (a0.size : Int) > 1048576 then (some true) else ((spec_ReadCover.f k a0).bind fun bt238 => ((impl_ReadCover.f k a0).bind fun bt245 => ((laws_eqCover.f k bt245.1 bt245.2.1 bt245.2.2.1 bt238.1 bt238.2.1 bt238.2.2.1).bind fun t252 => (if t252 = true then (if (bt245.2.2.2 != bt238.2.2.2) = true then (some false) else ((laws_markCover.f k bt245.1 bt245.2.1 bt245.2.2.1 1).bind fun bt253 => ((laws_heldCover.f k bt245.1 bt245.2.1 bt253.2 1).bind fun t255 => (if t255 < 0 then (some false) else (if t255 = bt253.1 then ((impl_ReadCover.f k a0).bind fun bt256 => ((laws_eqCover.f k bt256.1 bt256.2.1 bt256.2.2.1 bt238.1 bt238.2.1 bt238.2.2.1).bind fun t263 => (if t263 = true then (if (bt256.2.2.2 != bt238.2.2.2) = true then (some false) else ((laws_heldCover.f k bt245.1 bt245.2.1 bt253.2 1).bind fun t264 => (if t264 < 0 then (some false) else (if t264 = bt253.1 then (some true) else (some false))))) else (some false)))) else (some false)))))) else (some false)))))
theorem laws_FnExactReadCover.mono : ∀ a0 k, LeO (laws_FnExactReadCover.f k a0) (laws_FnExactReadCover.f (k + 1) a0) := by
  intro a0 k
  unfold laws_FnExactReadCover.f
  repeat' first
      | (with_reducible exact impl_ReadCover.mono _ _)
      | (with_reducible exact laws_eqCover.mono _ _ _ _ _ _ _)
      | (with_reducible exact laws_heldCover.mono _ _ _ _ _)
      | (with_reducible exact laws_markCover.mono _ _ _ _ _)
      | (with_reducible exact spec_ReadCover.mono _ _)
      | (with_reducible exact LeO.refl _)
      | (with_reducible exact LeO.none _)
      | (with_reducible refine LeO.ite ?_ ?_)
      | (with_reducible refine LeO.bind ?_ (fun _ => ?_))
      | exact impl_ReadCover.mono _ _
      | exact laws_eqCover.mono _ _ _ _ _ _ _
      | exact laws_heldCover.mono _ _ _ _ _
      | exact laws_markCover.mono _ _ _ _ _
      | exact spec_ReadCover.mono _ _
      | exact LeO.none _
      | refine LeO.ite ?_ ?_
      | refine LeO.bind ?_ (fun _ => ?_)
set_option maxHeartbeats 8000000 in
set_option maxRecDepth 100000 in
theorem laws_FnExactReadCover.calls (k : Nat) (a0 : ByteArray) (r : Bool) (w : World) (hrt : r = true) (h : laws_FnExactReadCover.f k a0 = some r) (hamb_ : Amb w) :
    Calls Tryd.prog 3 #[.string a0] w fun e w' => e = .returned (.bool r) ∧ Below w.heap.size w w' := by
  have hu24 := Tryd.underlying24
  have HG := Aside0.mk (Sat.start w)
  have H : (if (a0.size : Int) > 1048576 then (some true) else ((spec_ReadCover.f k a0).bind fun bt238 => ((impl_ReadCover.f k a0).bind fun bt245 => ((laws_eqCover.f k bt245.1 bt245.2.1 bt245.2.2.1 bt238.1 bt238.2.1 bt238.2.2.1).bind fun t252 => (if t252 = true then (if (bt245.2.2.2 != bt238.2.2.2) = true then (some false) else ((laws_markCover.f k bt245.1 bt245.2.1 bt245.2.2.1 1).bind fun bt253 => ((laws_heldCover.f k bt245.1 bt245.2.1 bt253.2 1).bind fun t255 => (if t255 < 0 then (some false) else (if t255 = bt253.1 then ((impl_ReadCover.f k a0).bind fun bt256 => ((laws_eqCover.f k bt256.1 bt256.2.1 bt256.2.2.1 bt238.1 bt238.2.1 bt238.2.2.1).bind fun t263 => (if t263 = true then (if (bt256.2.2.2 != bt238.2.2.2) = true then (some false) else ((laws_heldCover.f k bt245.1 bt245.2.1 bt253.2 1).bind fun t264 => (if t264 < 0 then (some false) else (if t264 = bt253.1 then (some true) else (some false))))) else (some false)))) else (some false)))))) else (some false)))))) = some r := h
  clear h
  by_cases c2 : (a0.size : Int) > 1048576
  · rw [if_pos c2] at H
    have c2b0 : decide (1048576 < (a0.size : Int)) = true := decide_eq_true c2
    have c2b1 : decide (1048576 < a0.size) = true := decide_eq_true (by omega)
    clear c2
    obtain rfl := Option.some.inj H
    go_enter Tryd.func3, Tryd.ntmps3
    go_wp2
    go_ret
    exact ⟨Fin, Bw HG⟩
  · rw [if_neg c2] at H
    have c2b0 : decide (1048576 < (a0.size : Int)) = false := decide_eq_false c2
    have c2b1 : decide (1048576 < a0.size) = false := decide_eq_false (by omega)
    clear c2
    obtain ⟨⟨t238, t239, t240, t243⟩, A30, H⟩ := Option.bind_eq_some_iff.mp H
    dsimp only at H
    have A3 := Aside0.mk A30
    clear A30
    obtain ⟨⟨t245, t246, t247, t250⟩, A40, H⟩ := Option.bind_eq_some_iff.mp H
    dsimp only at H
    have A4 := Aside0.mk A40
    clear A40
    obtain ⟨t252, A50, H⟩ := Option.bind_eq_some_iff.mp H
    have A5 := Aside0.mk A50
    clear A50
    by_cases c6 : t252 = true
    · subst c6
      rw [if_pos rfl] at H
      by_cases c7 : (t250 != t243) = true
      · rw [if_pos c7] at H
        have c7b0 : (t250 != t243) = true := c7
        (try (have c7b1 : decide (t250 = t243) = false := by simpa using c7))
        (try (have c7b2 : (t250 == t243) = false := by simpa using c7))
        (try (have c7b3 : ¬ (t250 = t243) := by simpa using c7))
        clear c7
        exact absurd (H.trans (congrArg some hrt)) (by simp)
      · rw [if_neg c7] at H
        have c7b0 : (t250 != t243) = false := by simpa using c7
        (try (have c7b1 : decide (t250 = t243) = true := by simpa using c7))
        (try (have c7b2 : (t250 == t243) = true := by simpa using c7))
        clear c7
        obtain ⟨⟨t253, t254⟩, A80, H⟩ := Option.bind_eq_some_iff.mp H
        dsimp only at H
        have A8 := Aside0.mk A80
        clear A80
        obtain ⟨t255, A90, H⟩ := Option.bind_eq_some_iff.mp H
        have A9 := Aside0.mk A90
        clear A90
        by_cases c10 : t255 < 0
        · rw [if_pos c10] at H
          have c10b0 : decide (t255 < 0) = true := decide_eq_true c10
          clear c10
          exact absurd (H.trans (congrArg some hrt)) (by simp)
        · rw [if_neg c10] at H
          have c10b0 : decide (t255 < 0) = false := decide_eq_false c10
          clear c10
          by_cases c11 : t255 = t253
          · rw [if_pos c11] at H
            have c11b0 : (t255 == t253) = true := beq_iff_eq.mpr c11
            have c11b1 : (t255 != t253) = false := bne_eq_false_iff_eq.mpr c11
            clear c11
            obtain ⟨⟨t256, t257, t258, t261⟩, A120, H⟩ := Option.bind_eq_some_iff.mp H
            dsimp only at H
            have A12 := Aside0.mk A120
            clear A120
            obtain ⟨t263, A130, H⟩ := Option.bind_eq_some_iff.mp H
            have A13 := Aside0.mk A130
            clear A130
            by_cases c14 : t263 = true
            · subst c14
              rw [if_pos rfl] at H
              by_cases c15 : (t261 != t243) = true
              · rw [if_pos c15] at H
                have c15b0 : (t261 != t243) = true := c15
                (try (have c15b1 : decide (t261 = t243) = false := by simpa using c15))
                (try (have c15b2 : (t261 == t243) = false := by simpa using c15))
                (try (have c15b3 : ¬ (t261 = t243) := by simpa using c15))
                clear c15
                exact absurd (H.trans (congrArg some hrt)) (by simp)
              · rw [if_neg c15] at H
                have c15b0 : (t261 != t243) = false := by simpa using c15
                (try (have c15b1 : decide (t261 = t243) = true := by simpa using c15))
                (try (have c15b2 : (t261 == t243) = true := by simpa using c15))
                clear c15
                obtain ⟨t264, A160, H⟩ := Option.bind_eq_some_iff.mp H
                have A16 := Aside0.mk A160
                clear A160
                by_cases c17 : t264 < 0
                · rw [if_pos c17] at H
                  have c17b0 : decide (t264 < 0) = true := decide_eq_true c17
                  clear c17
                  exact absurd (H.trans (congrArg some hrt)) (by simp)
                · rw [if_neg c17] at H
                  have c17b0 : decide (t264 < 0) = false := decide_eq_false c17
                  clear c17
                  by_cases c18 : t264 = t253
                  · rw [if_pos c18] at H
                    have c18b0 : (t264 == t253) = true := beq_iff_eq.mpr c18
                    have c18b1 : (t264 != t253) = false := bne_eq_false_iff_eq.mpr c18
                    clear c18
                    obtain rfl := Option.some.inj H
                    go_enter Tryd.func3, Tryd.ntmps3
                    go_wp2_with (first | ((with_reducible refine gC 4 ?_); refine GL (some 16) Tryd.func4 #[.string a0] ?_; (with_reducible refine (spec_ReadCover.calls k a0 t238 t239 t240 t243 _ A3.out).mono ?_); rintro e w19 ⟨v241, rfl, ho0, hb⟩; refine ⟨_, rfl, ?_⟩; replace HG := Sat.mkS HG hb ho0; (try clear hb); (try clear hb2); (try clear hk); (try clear hi); (try clear ho0)) | ((with_reducible refine gD 3 ?_); refine BX #[.int .i64 0, .int .i64 0, .slice none 0 0] 24 ?_; intro gb244 hg w20 hbox hb; replace HG := Sat.box HG hg hbox hb; clear hb hbox hg; have hcz21_0 : w20.cell? ⟨gb244, 0, none⟩ = some (.int .i64 0) := (blk_cell (Sat.B HG 0 rfl) 0).trans rfl; have hcz21_1 : w20.cell? ⟨gb244, 1, none⟩ = some (.int .i64 0) := (blk_cell (Sat.B HG 0 rfl) 1).trans rfl; have hcz21_2 : w20.cell? ⟨gb244, 2, none⟩ = some (.slice none 0 0) := (blk_cell (Sat.B HG 0 rfl) 2).trans rfl; have hfz21_0 := blk_frozen (Sat.B HG 0 rfl) 0; have hfz21_1 := blk_frozen (Sat.B HG 0 rfl) 1; have hfz21_2 := blk_frozen (Sat.B HG 0 rfl) 2; obtain ⟨Ao22, co22, eo22⟩ := Kd.S_slice (Sat.S HG 1 rfl); subst eo22) | ((with_reducible refine gC 5 ?_); replace HG := Sat.put HG 0 0 (.int .i64 t238) #[.int .i64 t238, .int .i64 0, .slice none 0 0]; replace HG := Sat.put HG 0 1 (.int .i64 t239) #[.int .i64 t238, .int .i64 t239, .slice none 0 0]; replace HG := Sat.put HG 0 2 (.slice Ao22 t240.length co22) #[.int .i64 t238, .int .i64 t239, .slice Ao22 t240.length co22]; refine GL (some 21) Tryd.func5 #[.string a0] ?_; (with_reducible refine (impl_ReadCover.calls k a0 t245 t246 t247 t250 _ A4.out (hamb_ := Amb.mv hamb_ (Sat.bel HG))).mono ?_); rintro e w23 ⟨v248, rfl, ho0, hb⟩; refine ⟨_, rfl, ?_⟩; replace HG := Sat.mkS HG hb ho0; (try clear hb); (try clear hb2); (try clear hk); (try clear hi); (try clear ho0)) | ((with_reducible refine gD 5 ?_); refine BX #[.int .i64 0, .int .i64 0, .slice none 0 0] 24 ?_; intro gb251 hg w24 hbox hb; replace HG := Sat.box HG hg hbox hb; clear hb hbox hg; have hnb25 := (Sat.ne HG 0 2 (by decide) rfl rfl); have hnc25 := (Sat.ne HG 2 0 (by decide) rfl rfl); have hcz26_0 : w24.cell? ⟨gb251, 0, none⟩ = some (.int .i64 0) := (blk_cell (Sat.B HG 0 rfl) 0).trans rfl; have hcz26_1 : w24.cell? ⟨gb251, 1, none⟩ = some (.int .i64 0) := (blk_cell (Sat.B HG 0 rfl) 1).trans rfl; have hcz26_2 : w24.cell? ⟨gb251, 2, none⟩ = some (.slice none 0 0) := (blk_cell (Sat.B HG 0 rfl) 2).trans rfl; have hfz26_0 := blk_frozen (Sat.B HG 0 rfl) 0; have hfz26_1 := blk_frozen (Sat.B HG 0 rfl) 1; have hfz26_2 := blk_frozen (Sat.B HG 0 rfl) 2; obtain ⟨Ao27, co27, eo27⟩ := Kd.S_slice (Sat.S HG 1 rfl); subst eo27; have hcz28_0 : w24.cell? ⟨gb244, 0, none⟩ = some (.int .i64 t238) := (blk_cell (Sat.B HG 2 rfl) 0).trans rfl; have hcz28_1 : w24.cell? ⟨gb244, 1, none⟩ = some (.int .i64 t239) := (blk_cell (Sat.B HG 2 rfl) 1).trans rfl; have hcz28_2 : w24.cell? ⟨gb244, 2, none⟩ = some (.slice Ao22 t240.length co22) := (blk_cell (Sat.B HG 2 rfl) 2).trans rfl; have hfz28_0 := blk_frozen (Sat.B HG 2 rfl) 0; have hfz28_1 := blk_frozen (Sat.B HG 2 rfl) 1; have hfz28_2 := blk_frozen (Sat.B HG 2 rfl) 2) | ((with_reducible refine gC 6 ?_); replace HG := Sat.put HG 0 0 (.int .i64 t245) #[.int .i64 t245, .int .i64 0, .slice none 0 0]; replace HG := Sat.put HG 0 1 (.int .i64 t246) #[.int .i64 t245, .int .i64 t246, .slice none 0 0]; replace HG := Sat.put HG 0 2 (.slice Ao27 t247.length co27) #[.int .i64 t245, .int .i64 t246, .slice Ao27 t247.length co27]; refine GL (some 26) Tryd.func6 #[.agg #[.int .i64 t245, .int .i64 t246, .slice Ao27 t247.length co27], .agg #[.int .i64 t238, .int .i64 t239, .slice Ao22 t240.length co22]] ?_; (with_reducible refine (laws_eqCover.calls k t245 t246 _ _ t247 t238 t239 _ _ t240 true _ ?side1 ?side2 ?side3 ?side4 A5.out).mono ?_); (case side1 => exact Ck (Kd.S_reads' (Sat.S HG 1 rfl)).2.2); (case side2 => exact (Kd.S_reads' (Sat.S HG 1 rfl)).2.1); (case side3 => exact Ck (Kd.S_reads' (Sat.S HG 3 rfl)).2.2); (case side4 => exact (Kd.S_reads' (Sat.S HG 3 rfl)).2.1); rintro e w29 ⟨rfl, hb⟩; refine ⟨_, rfl, ?_⟩; replace HG := Sat.rd HG hb; (try clear hb); (try clear hb2); (try clear hk); (try clear hi); have hcz30_0 : w29.cell? ⟨gb251, 0, none⟩ = some (.int .i64 t245) := (blk_cell (Sat.B HG 0 rfl) 0).trans rfl; have hcz30_1 : w29.cell? ⟨gb251, 1, none⟩ = some (.int .i64 t246) := (blk_cell (Sat.B HG 0 rfl) 1).trans rfl; have hcz30_2 : w29.cell? ⟨gb251, 2, none⟩ = some (.slice Ao27 t247.length co27) := (blk_cell (Sat.B HG 0 rfl) 2).trans rfl; have hfz30_0 := blk_frozen (Sat.B HG 0 rfl) 0; have hfz30_1 := blk_frozen (Sat.B HG 0 rfl) 1; have hfz30_2 := blk_frozen (Sat.B HG 0 rfl) 2) | (obtain ⟨ok_, ho_, hG_⟩ := Sat.atS HG 1 rfl; (with_reducible refine gC 7 ?_); refine GL (some 35) Tryd.func7 #[.agg #[.int .i64 t245, .int .i64 t246, .slice Ao27 t247.length co27], .int .i64 1] ?_; (with_reducible refine (laws_markCover.calls k t245 t246 _ (.slice Ao27 t247.length co27) t247 1 t253 t254 w _ ?side1 (S1 ⟨ho_⟩) A8.out).mono ?_); (case side1 => exact Bw HG); rintro e w31 ⟨rfl, hy0, hb, hkp⟩; refine ⟨_, rfl, ?_⟩; replace HG := Sat.nf (hG_ _ _ _ (by with_reducible repeat (first | exact Qt.rf _ | apply Qt.al | apply Qt.dn | apply Qt.d1)) hb hkp hy0); clear ho_ hG_; (try clear hb); (try clear hkp); (try clear hy0); (try clear hSA_); have hcz32_0 : w31.cell? ⟨gb251, 0, none⟩ = some (.int .i64 t245) := (blk_cell (Sat.B HG 0 rfl) 0).trans rfl; have hcz32_1 : w31.cell? ⟨gb251, 1, none⟩ = some (.int .i64 t246) := (blk_cell (Sat.B HG 0 rfl) 1).trans rfl; have hcz32_2 : w31.cell? ⟨gb251, 2, none⟩ = some (.slice Ao27 t247.length co27) := (blk_cell (Sat.B HG 0 rfl) 2).trans rfl; have hfz32_0 := blk_frozen (Sat.B HG 0 rfl) 0; have hfz32_1 := blk_frozen (Sat.B HG 0 rfl) 1; have hfz32_2 := blk_frozen (Sat.B HG 0 rfl) 2) | ((with_reducible refine gC 8 ?_); refine GL (some 38) Tryd.func8 #[.agg #[.int .i64 t245, .int .i64 t246, .slice Ao27 t254.length co27], .int .i64 1] ?_ (hargs := by (try simp only [List.map_toArray, List.map_cons, List.map_nil]); first | done | (rw [show t254.length = t247.length from (Kd.S_reads' (Sat.S HG 1 rfl)).1.symm] <;> rfl) | rfl | (simp only [List.length_drop, List.length_take]; rfl)); (with_reducible refine (laws_heldCover.calls k t245 t246 _ _ t254 1 t255 _ ?side1 ?side2 A9.out).mono ?_); (case side1 => exact Ck (Kd.S_reads' (Sat.S HG 1 rfl)).2.2); (case side2 => rw [show t254.length = t247.length from (Kd.S_reads' (Sat.S HG 1 rfl)).1.symm]; exact (Kd.S_reads' (Sat.S HG 1 rfl)).2.1); rintro e w33 ⟨rfl, hb⟩; refine ⟨_, rfl, ?_⟩; replace HG := Sat.rd HG hb; (try clear hb); (try clear hb2); (try clear hk); (try clear hi)) | ((with_reducible refine gC 5 ?_); refine GL (some 46) Tryd.func5 #[.string a0] ?_; (with_reducible refine (impl_ReadCover.calls k a0 t256 t257 t258 t261 _ A12.out (hamb_ := Amb.mv hamb_ (Sat.bel HG))).mono ?_); rintro e w34 ⟨v259, rfl, ho0, hb⟩; refine ⟨_, rfl, ?_⟩; replace HG := Sat.mkS HG hb ho0; (try clear hb); (try clear hb2); (try clear hk); (try clear hi); (try clear ho0)) | ((with_reducible refine gD 9 ?_); refine BX #[.int .i64 0, .int .i64 0, .slice none 0 0] 24 ?_; intro gb262 hg w35 hbox hb; replace HG := Sat.box HG hg hbox hb; clear hb hbox hg; have hnb36 := (Sat.ne HG 0 4 (by decide) rfl rfl); have hnc36 := (Sat.ne HG 4 0 (by decide) rfl rfl); have hnb37 := (Sat.ne HG 0 2 (by decide) rfl rfl); have hnc37 := (Sat.ne HG 2 0 (by decide) rfl rfl); have hcz38_0 : w35.cell? ⟨gb262, 0, none⟩ = some (.int .i64 0) := (blk_cell (Sat.B HG 0 rfl) 0).trans rfl; have hcz38_1 : w35.cell? ⟨gb262, 1, none⟩ = some (.int .i64 0) := (blk_cell (Sat.B HG 0 rfl) 1).trans rfl; have hcz38_2 : w35.cell? ⟨gb262, 2, none⟩ = some (.slice none 0 0) := (blk_cell (Sat.B HG 0 rfl) 2).trans rfl; have hfz38_0 := blk_frozen (Sat.B HG 0 rfl) 0; have hfz38_1 := blk_frozen (Sat.B HG 0 rfl) 1; have hfz38_2 := blk_frozen (Sat.B HG 0 rfl) 2; obtain ⟨Ao39, co39, eo39⟩ := Kd.S_slice (Sat.S HG 1 rfl); subst eo39; have hcz40_0 : w35.cell? ⟨gb244, 0, none⟩ = some (.int .i64 t238) := (blk_cell (Sat.B HG 4 rfl) 0).trans rfl; have hcz40_1 : w35.cell? ⟨gb244, 1, none⟩ = some (.int .i64 t239) := (blk_cell (Sat.B HG 4 rfl) 1).trans rfl; have hcz40_2 : w35.cell? ⟨gb244, 2, none⟩ = some (.slice Ao22 t240.length co22) := (blk_cell (Sat.B HG 4 rfl) 2).trans rfl; have hfz40_0 := blk_frozen (Sat.B HG 4 rfl) 0; have hfz40_1 := blk_frozen (Sat.B HG 4 rfl) 1; have hfz40_2 := blk_frozen (Sat.B HG 4 rfl) 2) | ((with_reducible refine gC 6 ?_); replace HG := Sat.put HG 0 0 (.int .i64 t256) #[.int .i64 t256, .int .i64 0, .slice none 0 0]; replace HG := Sat.put HG 0 1 (.int .i64 t257) #[.int .i64 t256, .int .i64 t257, .slice none 0 0]; replace HG := Sat.put HG 0 2 (.slice Ao39 t258.length co39) #[.int .i64 t256, .int .i64 t257, .slice Ao39 t258.length co39]; refine GL (some 51) Tryd.func6 #[.agg #[.int .i64 t256, .int .i64 t257, .slice Ao39 t258.length co39], .agg #[.int .i64 t238, .int .i64 t239, .slice Ao22 t240.length co22]] ?_; (with_reducible refine (laws_eqCover.calls k t256 t257 _ _ t258 t238 t239 _ _ t240 true _ ?side1 ?side2 ?side3 ?side4 A13.out).mono ?_); (case side1 => exact Ck (Kd.S_reads' (Sat.S HG 1 rfl)).2.2); (case side2 => exact (Kd.S_reads' (Sat.S HG 1 rfl)).2.1); (case side3 => exact Ck (Kd.S_reads' (Sat.S HG 5 rfl)).2.2); (case side4 => exact (Kd.S_reads' (Sat.S HG 5 rfl)).2.1); rintro e w41 ⟨rfl, hb⟩; refine ⟨_, rfl, ?_⟩; replace HG := Sat.rd HG hb; (try clear hb); (try clear hb2); (try clear hk); (try clear hi); have hcz42_0 : w41.cell? ⟨gb251, 0, none⟩ = some (.int .i64 t245) := (blk_cell (Sat.B HG 2 rfl) 0).trans rfl; have hcz42_1 : w41.cell? ⟨gb251, 1, none⟩ = some (.int .i64 t246) := (blk_cell (Sat.B HG 2 rfl) 1).trans rfl; have hcz42_2 : w41.cell? ⟨gb251, 2, none⟩ = some (.slice Ao27 t247.length co27) := (blk_cell (Sat.B HG 2 rfl) 2).trans rfl; have hfz42_0 := blk_frozen (Sat.B HG 2 rfl) 0; have hfz42_1 := blk_frozen (Sat.B HG 2 rfl) 1; have hfz42_2 := blk_frozen (Sat.B HG 2 rfl) 2) | ((with_reducible refine gC 8 ?_); refine GL (some 60) Tryd.func8 #[.agg #[.int .i64 t245, .int .i64 t246, .slice Ao27 t254.length co27], .int .i64 1] ?_ (hargs := by (try simp only [List.map_toArray, List.map_cons, List.map_nil]); first | done | (rw [show t254.length = t247.length from (Kd.S_reads' (Sat.S HG 3 rfl)).1.symm] <;> rfl) | rfl | (simp only [List.length_drop, List.length_take]; rfl)); (with_reducible refine (laws_heldCover.calls k t245 t246 _ _ t254 1 t264 _ ?side1 ?side2 A16.out).mono ?_); (case side1 => exact Ck (Kd.S_reads' (Sat.S HG 3 rfl)).2.2); (case side2 => rw [show t254.length = t247.length from (Kd.S_reads' (Sat.S HG 3 rfl)).1.symm]; exact (Kd.S_reads' (Sat.S HG 3 rfl)).2.1); rintro e w43 ⟨rfl, hb⟩; refine ⟨_, rfl, ?_⟩; replace HG := Sat.rd HG hb; (try clear hb); (try clear hb2); (try clear hk); (try clear hi)))
                    go_ret
                    exact ⟨Fin, Bw HG⟩
                  · rw [if_neg c18] at H
                    have c18b0 : (t264 == t253) = false := beq_eq_false_iff_ne.mpr c18
                    have c18b1 : (t264 != t253) = true := bne_iff_ne.mpr c18
                    exact absurd (H.trans (congrArg some hrt)) (by simp)
            · replace c14 := Bool.eq_false_iff.mpr c14
              subst c14
              rw [if_neg (show ¬ (false = true) by decide)] at H
              exact absurd (H.trans (congrArg some hrt)) (by simp)
          · rw [if_neg c11] at H
            have c11b0 : (t255 == t253) = false := beq_eq_false_iff_ne.mpr c11
            have c11b1 : (t255 != t253) = true := bne_iff_ne.mpr c11
            exact absurd (H.trans (congrArg some hrt)) (by simp)
    · replace c6 := Bool.eq_false_iff.mpr c6
      subst c6
      rw [if_neg (show ¬ (false = true) by decide)] at H
      exact absurd (H.trans (congrArg some hrt)) (by simp)

end Go.Proofs.YtcbpbdhglblagaaDoor.XFnExactReadCover
