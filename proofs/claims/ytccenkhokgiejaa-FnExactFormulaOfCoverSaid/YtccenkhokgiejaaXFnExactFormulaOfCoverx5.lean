-- Written by ext.py (wip/) over the kit's print: not trusted, Lean checks it.
import Derived.Test.YtccenkhokgiejaaXFnExactFormulaOfCoverx0
import Derived.Test.YtccenkhokgiejaaXFnExactFormulaOfCoverx3
import Derived.Test.YtccenkhokgiejaaXFnExactFormulaOfCoverx4
namespace Go.Proofs.Ytccenkhokgiejaa.XFnExactFormulaOfCover
open Go.RowKit Go.Proofs.YtccenkhokgiejaaW.PrintWords Go.Proofs.YtccenkhokgiejaaW.PrintLast Go.Proofs.YtccenkhokgiejaaW.PrintMore
attribute [local go_sem] max2_int min2_int max_two min_two max_three min_three max_four min_four   -- for this text's walks alone
set_option linter.unusedVariables false
set_option linter.unusedSimpArgs false

/-! ### impl_FormulaOfCover: function 7 (a contract of ours) -/
mutual
def impl_FormulaOfCover.l0 : Nat → List (List Int) → List Int → List Int → Int → Int → Int → Int → List (List Int) → Option (Int × (List (List Int)) × Int)
  | 0, _, _, _, _, _, _, _, _ => none
  | k + 1, x4, x5, x28, x29, x30, x191000, x191001, x191002 => if x30 < x29 then (if 0 ≤ x30 then (if x30 < (x28.length : Int) then (impl_FormulaOfCover.l1 k x4 x5 x30 (rd x28 x30) x28 x29 x30 x191001 0 x191000 x191001 x191002) else (none)) else (none)) else (impl_FormulaOfCover.l2 k x4 x5 x5 (x5.length : Int) 0 x191000 x191001 x191002)
def impl_FormulaOfCover.l1 : Nat → List (List Int) → List Int → Int → Int → List Int → Int → Int → Int → Int → Int → Int → List (List Int) → Option (Int × (List (List Int)) × Int)
  | 0, _, _, _, _, _, _, _, _, _, _, _, _ => none
  | k + 1, x4, x5, x6, x7, x28, x29, x30, x36, x37, x191000, x191001, x191002 => if x37 < x36 then (if 0 ≤ (IntKind.u64.wrap (x37)) then (if (Go.bits .and .u64 (shr .u64 x7 (IntKind.u64.wrap (x37))) 1) = 1 then (if 0 ≤ x37 then (if x37 < (x4.length : Int) then (if (rd_L1 x4 x37).length < 17592186044416 then (impl_FormulaOfCover.l1 k (x4.set (x37 : Int).toNat ((rd_L1 x4 x37) ++ [wrap64 (x6 + 1)])) x5 x6 x7 x28 x29 x30 x36 (wrap64 (x37 + 1)) x191000 x191001 x191002) else (none)) else (none)) else (none)) else (impl_FormulaOfCover.l1 k x4 x5 x6 x7 x28 x29 x30 x36 (wrap64 (x37 + 1)) x191000 x191001 x191002)) else (none)) else (impl_FormulaOfCover.l0 k x4 x5 x28 x29 (wrap64 (x30 + 1)) x191000 x191001 x191002)
def impl_FormulaOfCover.l2 : Nat → List (List Int) → List Int → List Int → Int → Int → Int → Int → List (List Int) → Option (Int × (List (List Int)) × Int)
  | 0, _, _, _, _, _, _, _, _ => none
  | k + 1, x4, x5, x61, x62, x63, x191000, x191001, x191002 => if x63 < x62 then (if 0 ≤ x63 then (if x63 < (x61.length : Int) then (impl_FormulaOfCover.l3 k x4 x5 x63 (rd x61 x63) (wrap64 (x63 + 1)) x61 x62 x63 x191000 x191001 x191002) else (none)) else (none)) else (some ((x191002.length : Int), x4, 0))
def impl_FormulaOfCover.l3 : Nat → List (List Int) → List Int → Int → Int → Int → List Int → Int → Int → Int → Int → List (List Int) → Option (Int × (List (List Int)) × Int)
  | 0, _, _, _, _, _, _, _, _, _, _, _ => none
  | k + 1, x4, x5, x9, x10, x11, x61, x62, x63, x191000, x191001, x191002 => if x11 < (x5.length : Int) then (if 0 ≤ x11 then (if (Go.bits .and .u64 x10 (rd x5 x11)) = 0 then (impl_FormulaOfCover.l3 k x4 x5 x9 x10 (wrap64 (x11 + 1)) x61 x62 x63 x191000 x191001 x191002) else (if (x4.length : Int) = 20000 then (some (0, ([] : List (List Int)), 3)) else (if x4.length < 5864062014805 then (impl_FormulaOfCover.l3 k (x4 ++ [(([wrap64 ((wrap64 (-x9)) - 1), wrap64 ((wrap64 (-x11)) - 1)] : List Int))]) x5 x9 x10 (wrap64 (x11 + 1)) x61 x62 x63 x191000 x191001 x191002) else (none)))) else (none)) else (impl_FormulaOfCover.l2 k x4 x5 x61 x62 (wrap64 (x63 + 1)) x191000 x191001 x191002)
end
def impl_FormulaOfCover.f (k : Nat) (a0_0 : Int) (a0_1 : Int) (l0_2 : List (List Int)) : Option (Int × (List (List Int)) × Int) := (impl_IsCover.f k a0_0 a0_1 l0_2).bind fun t192 => (if t192 = true then (if 0 ≤ a0_1 then (if (a0_1 : Int).toNat ≤ 11728124029610 then ((impl_newCoverSearch.f k a0_0 a0_1 l0_2).bind fun t196 => (impl_FormulaOfCover.l0 k (List.replicate (a0_1 : Int).toNat []) t196 t196 (t196.length : Int) 0 a0_0 a0_1 l0_2)) else (none)) else (none)) else (some (0, ([] : List (List Int)), 1)))
theorem impl_FormulaOfCover.mono_l : ∀ k, (∀ y0 y1 y2 y3 y4 y5 y6 y7, LeO (impl_FormulaOfCover.l0 k y0 y1 y2 y3 y4 y5 y6 y7) (impl_FormulaOfCover.l0 (k + 1) y0 y1 y2 y3 y4 y5 y6 y7)) ∧ (∀ y0 y1 y2 y3 y4 y5 y6 y7 y8 y9 y10 y11, LeO (impl_FormulaOfCover.l1 k y0 y1 y2 y3 y4 y5 y6 y7 y8 y9 y10 y11) (impl_FormulaOfCover.l1 (k + 1) y0 y1 y2 y3 y4 y5 y6 y7 y8 y9 y10 y11)) ∧ (∀ y0 y1 y2 y3 y4 y5 y6 y7, LeO (impl_FormulaOfCover.l2 k y0 y1 y2 y3 y4 y5 y6 y7) (impl_FormulaOfCover.l2 (k + 1) y0 y1 y2 y3 y4 y5 y6 y7)) ∧ (∀ y0 y1 y2 y3 y4 y5 y6 y7 y8 y9 y10, LeO (impl_FormulaOfCover.l3 k y0 y1 y2 y3 y4 y5 y6 y7 y8 y9 y10) (impl_FormulaOfCover.l3 (k + 1) y0 y1 y2 y3 y4 y5 y6 y7 y8 y9 y10))
  | 0 => ⟨fun _ _ _ _ _ _ _ _ r h => by simp [impl_FormulaOfCover.l0] at h, fun _ _ _ _ _ _ _ _ _ _ _ _ r h => by simp [impl_FormulaOfCover.l1] at h, fun _ _ _ _ _ _ _ _ r h => by simp [impl_FormulaOfCover.l2] at h, fun _ _ _ _ _ _ _ _ _ _ _ r h => by simp [impl_FormulaOfCover.l3] at h⟩
  | k + 1 => by
    obtain ⟨ih0, ih1, ih2, ih3⟩ := impl_FormulaOfCover.mono_l k
    refine ⟨?_, ?_, ?_, ?_⟩
    · intro y0 y1 y2 y3 y4 y5 y6 y7
      unfold impl_FormulaOfCover.l0
      repeat' first
      | (with_reducible exact ih0 _ _ _ _ _ _ _ _)
      | (with_reducible exact ih1 _ _ _ _ _ _ _ _ _ _ _ _)
      | (with_reducible exact ih2 _ _ _ _ _ _ _ _)
      | (with_reducible exact ih3 _ _ _ _ _ _ _ _ _ _ _)
      | (with_reducible exact impl_IsCover.mono _ _ _ _)
      | (with_reducible exact impl_newCoverSearch.mono _ _ _ _)
      | (with_reducible exact LeO.refl _)
      | (with_reducible exact LeO.none _)
      | (with_reducible refine LeO.ite ?_ ?_)
      | (with_reducible refine LeO.bind ?_ (fun _ => ?_))
      | exact ih0 _ _ _ _ _ _ _ _
      | exact ih1 _ _ _ _ _ _ _ _ _ _ _ _
      | exact ih2 _ _ _ _ _ _ _ _
      | exact ih3 _ _ _ _ _ _ _ _ _ _ _
      | exact impl_IsCover.mono _ _ _ _
      | exact impl_newCoverSearch.mono _ _ _ _
      | exact LeO.none _
      | refine LeO.ite ?_ ?_
      | refine LeO.bind ?_ (fun _ => ?_)
    · intro y0 y1 y2 y3 y4 y5 y6 y7 y8 y9 y10 y11
      unfold impl_FormulaOfCover.l1
      repeat' first
      | (with_reducible exact ih0 _ _ _ _ _ _ _ _)
      | (with_reducible exact ih1 _ _ _ _ _ _ _ _ _ _ _ _)
      | (with_reducible exact ih2 _ _ _ _ _ _ _ _)
      | (with_reducible exact ih3 _ _ _ _ _ _ _ _ _ _ _)
      | (with_reducible exact impl_IsCover.mono _ _ _ _)
      | (with_reducible exact impl_newCoverSearch.mono _ _ _ _)
      | (with_reducible exact LeO.refl _)
      | (with_reducible exact LeO.none _)
      | (with_reducible refine LeO.ite ?_ ?_)
      | (with_reducible refine LeO.bind ?_ (fun _ => ?_))
      | exact ih0 _ _ _ _ _ _ _ _
      | exact ih1 _ _ _ _ _ _ _ _ _ _ _ _
      | exact ih2 _ _ _ _ _ _ _ _
      | exact ih3 _ _ _ _ _ _ _ _ _ _ _
      | exact impl_IsCover.mono _ _ _ _
      | exact impl_newCoverSearch.mono _ _ _ _
      | exact LeO.none _
      | refine LeO.ite ?_ ?_
      | refine LeO.bind ?_ (fun _ => ?_)
    · intro y0 y1 y2 y3 y4 y5 y6 y7
      unfold impl_FormulaOfCover.l2
      repeat' first
      | (with_reducible exact ih0 _ _ _ _ _ _ _ _)
      | (with_reducible exact ih1 _ _ _ _ _ _ _ _ _ _ _ _)
      | (with_reducible exact ih2 _ _ _ _ _ _ _ _)
      | (with_reducible exact ih3 _ _ _ _ _ _ _ _ _ _ _)
      | (with_reducible exact impl_IsCover.mono _ _ _ _)
      | (with_reducible exact impl_newCoverSearch.mono _ _ _ _)
      | (with_reducible exact LeO.refl _)
      | (with_reducible exact LeO.none _)
      | (with_reducible refine LeO.ite ?_ ?_)
      | (with_reducible refine LeO.bind ?_ (fun _ => ?_))
      | exact ih0 _ _ _ _ _ _ _ _
      | exact ih1 _ _ _ _ _ _ _ _ _ _ _ _
      | exact ih2 _ _ _ _ _ _ _ _
      | exact ih3 _ _ _ _ _ _ _ _ _ _ _
      | exact impl_IsCover.mono _ _ _ _
      | exact impl_newCoverSearch.mono _ _ _ _
      | exact LeO.none _
      | refine LeO.ite ?_ ?_
      | refine LeO.bind ?_ (fun _ => ?_)
    · intro y0 y1 y2 y3 y4 y5 y6 y7 y8 y9 y10
      unfold impl_FormulaOfCover.l3
      repeat' first
      | (with_reducible exact ih0 _ _ _ _ _ _ _ _)
      | (with_reducible exact ih1 _ _ _ _ _ _ _ _ _ _ _ _)
      | (with_reducible exact ih2 _ _ _ _ _ _ _ _)
      | (with_reducible exact ih3 _ _ _ _ _ _ _ _ _ _ _)
      | (with_reducible exact impl_IsCover.mono _ _ _ _)
      | (with_reducible exact impl_newCoverSearch.mono _ _ _ _)
      | (with_reducible exact LeO.refl _)
      | (with_reducible exact LeO.none _)
      | (with_reducible refine LeO.ite ?_ ?_)
      | (with_reducible refine LeO.bind ?_ (fun _ => ?_))
      | exact ih0 _ _ _ _ _ _ _ _
      | exact ih1 _ _ _ _ _ _ _ _ _ _ _ _
      | exact ih2 _ _ _ _ _ _ _ _
      | exact ih3 _ _ _ _ _ _ _ _ _ _ _
      | exact impl_IsCover.mono _ _ _ _
      | exact impl_newCoverSearch.mono _ _ _ _
      | exact LeO.none _
      | refine LeO.ite ?_ ?_
      | refine LeO.bind ?_ (fun _ => ?_)
theorem impl_FormulaOfCover.mono : ∀ a0 a1 a2 k, LeO (impl_FormulaOfCover.f k a0 a1 a2) (impl_FormulaOfCover.f (k + 1) a0 a1 a2) := by
  intro a0 a1 a2 k
  obtain ⟨ih0, ih1, ih2, ih3⟩ := impl_FormulaOfCover.mono_l k
  unfold impl_FormulaOfCover.f
  repeat' first
      | (with_reducible exact ih0 _ _ _ _ _ _ _ _)
      | (with_reducible exact ih1 _ _ _ _ _ _ _ _ _ _ _ _)
      | (with_reducible exact ih2 _ _ _ _ _ _ _ _)
      | (with_reducible exact ih3 _ _ _ _ _ _ _ _ _ _ _)
      | (with_reducible exact impl_IsCover.mono _ _ _ _)
      | (with_reducible exact impl_newCoverSearch.mono _ _ _ _)
      | (with_reducible exact LeO.refl _)
      | (with_reducible exact LeO.none _)
      | (with_reducible refine LeO.ite ?_ ?_)
      | (with_reducible refine LeO.bind ?_ (fun _ => ?_))
      | exact ih0 _ _ _ _ _ _ _ _
      | exact ih1 _ _ _ _ _ _ _ _ _ _ _ _
      | exact ih2 _ _ _ _ _ _ _ _
      | exact ih3 _ _ _ _ _ _ _ _ _ _ _
      | exact impl_IsCover.mono _ _ _ _
      | exact impl_newCoverSearch.mono _ _ _ _
      | exact LeO.none _
      | refine LeO.ite ?_ ?_
      | refine LeO.bind ?_ (fun _ => ?_)
set_option maxHeartbeats 8000000 in
set_option maxRecDepth 100000 in
theorem impl_FormulaOfCover.calls (k : Nat) (a0_0 : Int) (a0_1 : Int) (A0_2 : Option Addr) (c0_2 : Nat) (l0_2 : List (List Int)) (r1 : Int) (r2 : List (List Int)) (r3 : Int) (w : World) (hr0_2 : Kd.C (Kd.slice 2 (Kd.int .i64)) w A0_2 l0_2.length l0_2) (hc0_2 : l0_2.length ≤ c0_2) (h : impl_FormulaOfCover.f k a0_0 a0_1 l0_2 = some (r1, r2, r3)) :
    Calls Try.prog 7 #[.agg #[.int .i64 a0_0, .int .i64 a0_1, .slice A0_2 l0_2.length c0_2]] w fun e w' => ∃ v1_ : Value, e = .returned (.tuple #[.agg #[.int .i64 r1, v1_], .int .i64 r3]) ∧ Kd.S (Kd.slice 2 (Kd.int .i64)) 43 w' w.heap.size (fun _ => True) v1_ r2 ∧ Below w.heap.size w w' := by
  have hu30 := Try.underlying30
  have hu27 := Try.underlying27
  have HR0_2 := Aside0.mk hr0_2
  have HC0_2 := Aside0.mk hc0_2
  clear hr0_2 hc0_2
  have HB := Aside0.mk (Below.refl w.heap.size w)
  have H : ((impl_IsCover.f k a0_0 a0_1 l0_2).bind fun t192 => (if t192 = true then (if 0 ≤ a0_1 then (if (a0_1 : Int).toNat ≤ 11728124029610 then ((impl_newCoverSearch.f k a0_0 a0_1 l0_2).bind fun t196 => (impl_FormulaOfCover.l0 k (List.replicate (a0_1 : Int).toNat []) t196 t196 (t196.length : Int) 0 a0_0 a0_1 l0_2)) else (none)) else (none)) else (some (0, ([] : List (List Int)), 1)))) = some (r1, r2, r3) := h
  clear h
  obtain ⟨t192, A20, H⟩ := Option.bind_eq_some_iff.mp H
  have A2 := Aside0.mk A20
  clear A20
  by_cases c3 : t192 = true
  · subst c3
    rw [if_pos rfl] at H
    by_cases c4 : 0 ≤ a0_1
    · rw [if_pos c4] at H
      have c4b0 := eq_true c4
      have c4b1 : decide (0 ≤ a0_1) = true := decide_eq_true c4
      clear c4
      by_cases c5 : (a0_1 : Int).toNat ≤ 11728124029610
      · rw [if_pos c5] at H
        have c5b0 := eq_true c5
        have c5b1 : decide ((a0_1 : Int).toNat ≤ 11728124029610) = true := decide_eq_true c5
        clear c5
        obtain ⟨y193, hy193⟩ : ∃ y_ : List (List Int), y_ = (List.replicate (a0_1 : Int).toNat []) := ⟨_, rfl⟩
        replace H : ((impl_newCoverSearch.f k a0_0 a0_1 l0_2).bind fun t196 => (impl_FormulaOfCover.l0 k y193 t196 t196 (t196.length : Int) 0 a0_0 a0_1 l0_2)) = some (r1, r2, r3) := by first | (rw [hy193]; with_reducible exact H) | (have H2_ := (Option.bind_some _ _).symm.trans H; rw [hy193]; with_reducible exact H2_) | (have H2_ := (Option.bind_some _ _).symm.trans H; with_reducible exact H2_) | with_reducible exact H | (rw [hy193]; exact H) | exact H
        have Ny193 := Aside0.mk hy193
        clear hy193
        obtain ⟨t196, A60, H⟩ := Option.bind_eq_some_iff.mp H
        have A6 := Aside0.mk A60
        clear A60
        have H' := Aside0.mk H
        clear H
        go_enter Try.func7, Try.ntmps7
        go_wp2_with (first | ((with_reducible refine gD 1 ?_); refine BX #[.int .i64 a0_0, .int .i64 a0_1, .slice A0_2 l0_2.length c0_2] 30 ?_; intro gb190 hg w7 hbox hb; have BK190 := Aside0.mk (hbox); have GW190 := Aside0.mk ((Gle hg Hb : w.heap.size ≤ gb190)); have GE190 := Aside0.mk ((Gle hg Hb : w.heap.size ≤ gb190)); replace HB := Aside0.mk (below_step Hb hb); clear hb hbox hg) | ((with_reducible refine gD 2 ?_); refine BX #[.int .i64 0, .slice none 0 0] 27 ?_; intro gb191 hg w8 hbox hb; have BK191 := Aside0.mk (hbox); have GW191 := Aside0.mk ((Gle hg Hb : w.heap.size ≤ gb191)); have GE191 := Aside0.mk ((Gle hg Hb : w.heap.size ≤ gb191)); replace HB := Aside0.mk (below_step Hb hb); have NB190_191 := Aside0.mk ((by rw [hg]; exact Nat.ne_of_lt (blk_lt (B1 BK190)) : gb190 ≠ gb191)); have NB191_190 := Aside0.mk ((by rw [hg]; exact Nat.ne_of_gt (blk_lt (B1 BK190)) : gb191 ≠ gb190)); replace BK190 := Aside0.mk (blk_below (B1 BK190) hb); clear hb hbox hg; have hnb9 := NB190_191.out; have hnc9 := NB191_190.out; have hcz10_0 : w8.cell? ⟨gb190, 0, none⟩ = some (.int .i64 a0_0) := bc BK190; have hcz10_1 : w8.cell? ⟨gb190, 1, none⟩ = some (.int .i64 a0_1) := bc BK190; have hcz10_2 : w8.cell? ⟨gb190, 2, none⟩ = some (.slice A0_2 l0_2.length c0_2) := bc BK190; have hfz10_0 := blk_frozen BK190.out 0; have hfz10_1 := blk_frozen BK190.out 1; have hfz10_2 := blk_frozen BK190.out 2) | ((with_reducible refine gC 17 ?_); refine GL (some 13) Try.func17 #[.agg #[.int .i64 a0_0, .int .i64 a0_1, .slice A0_2 l0_2.length c0_2]] ?_; (with_reducible refine (impl_IsCover.calls k a0_0 a0_1 _ _ l0_2 true _ ?side1 ?side2 A2.out).mono ?_); (case side1 => exact Kd.C_below HR0_2.out Hb); (case side2 => exact HC0_2.out); rintro e w11 ⟨rfl, hb⟩; refine ⟨_, rfl, ?_⟩; replace BK190 := Aside0.mk (blk_below (B1 BK190) hb); replace BK191 := Aside0.mk (blk_below (B1 BK191) hb); replace HB := Aside0.mk (below_step Hb hb); (try clear hb); (try clear hb2); (try clear hk); (try clear hi); have hcz12_0 : w11.cell? ⟨gb190, 0, none⟩ = some (.int .i64 a0_0) := bc BK190; have hcz12_1 : w11.cell? ⟨gb190, 1, none⟩ = some (.int .i64 a0_1) := bc BK190; have hcz12_2 : w11.cell? ⟨gb190, 2, none⟩ = some (.slice A0_2 l0_2.length c0_2) := bc BK190; have hfz12_0 := blk_frozen BK190.out 0; have hfz12_1 := blk_frozen BK190.out 1; have hfz12_2 := blk_frozen BK190.out 2))
        replace BK190 := Aside0.mk (blk_drew BK190.out)
        replace BK191 := Aside0.mk (blk_drew BK191.out)
        replace HB := Aside0.mk (below_drew1 HB.out)
        refine start_ (n := 9) (S := fun w' => w'.cell? ⟨gb190, 1, none⟩ = some (.int .i64 a0_1) ∧ w'.cell? ⟨gb190, 2, none⟩ = some (.slice A0_2 l0_2.length c0_2)) (ds := []) #[false, false, false, false, false, false, false, false, false] (by kernel_rfl) rfl rfl ⟨bc BK190, bc BK190⟩ (fun hHeld => ?_)
        generalize w11.drew = w12 at BK190 BK191 HB hHeld ⊢
        refine PU 0 16 ?_
        refine PU 3 19 ?_
        refine TK 1 17 hHeld ?_
        refine TK 4 20 hHeld ?_
        refine PU 2 18 ?_
        refine pool_at [true, true, true, true, true, false, false, false, false] [true, true, true, true, true, true, true, true, false] [5, 6, 7] (fun i_ => if i_ = 6 then [5] else []) 1 (fun a0_ b a_ w' => ∃ (v_ : Value) (gO : Nat), Aside0 (a_ = putSel a0_ b [(5, 21, v_), (6, 22, .agg #[.int .i64 (l0_2.length : Int), v_]), (7, 4, .pointer (some ⟨gO, 0, none⟩))]) ∧ (b 5 = true → Kd.S (Kd.slice 2 (Kd.int .i64)) 43 w' w.heap.size (fun _ => True) v_ y193) ∧ (b 7 = true → w'.heap[gO]? = some (.cells #[.int .i64 0, .slice none 0 0] 27 (0, 0)) ∧ w.heap.size ≤ gO ∧ gO ≠ gb190 ∧ gO ≠ gb191) ∧ Aside0 (w'.heap[gb190]? = some (.cells #[.int .i64 a0_0, .int .i64 a0_1, .slice A0_2 l0_2.length c0_2] 30 (0, 0))) ∧ Aside0 (w'.heap[gb191]? = some (.cells #[.int .i64 0, .slice none 0 0] 27 (0, 0))) ∧ Aside0 (Below w.heap.size w w')) (by kernel_rfl) (by kernel_rfl) ?h0 (fun b a_ w' hI_ => ?hS) ?hs ?hend
        case h0 => exact ⟨undef, 0, ⟨rfl⟩, (fun h_ => by cases h_), (fun h_ => by cases h_), BK190, BK191, HB⟩
        case hS => obtain ⟨v_, gO, ⟨rfl⟩, HS_, HG_, BK190, BK191, HB⟩ := hI_; exact ⟨bc BK190, bc BK190⟩
        case hs =>
          refine pool_cons ?_ (pool_cons ?_ (pool_cons ?_ pool_nil))
          · intro b a_ w' hI_ hbi_ hneed_ hcl_
            obtain ⟨v_, gO, ha_, HS_, HG_, BK190, BK191, HB⟩ := hI_
            have he_ : a_.eval (.tmp 20) = .int .i64 a0_1 := by rw [ha_.out]; exact eval_of ((putSel_off rfl).trans rfl)
            refine ⟨_, rfl, fun K hK => ?_⟩
            refine Kd.S_make_step (Kd.slice 2 (Kd.int .i64)) w.heap.size 43 (by rfl) (N := 21) rfl 22 (.tmp 20) (.tmp 20) rfl a0_1 he_ he_ Try.underlying22 (.slice none 0 0) 24 info43 rfl (by decide) (by omega) [] (ok := fun _ => True) (okp := fun _ => True) ⟨_, rfl, Kd.R_nil _ _ _ _ _⟩ (fun _ hk => hk) trivial (oD) (Nat.le_trans (Nat.mul_le_mul_right _ (oD : a0_1.toNat ≤ 11728124029610)) (by omega)) HB.out (below_size HB.out) ?_
            have h6_ : b 6 = false := by cases h_ : b 6 with | false => rfl | true => exact absurd (hcl_ 6 (by decide) h_ 5 (by decide)) (by rw [hbi_]; decide)
            intro v1_ w1_ ho_ hb hg_ hnew_
            (first | rw [← Ny193.out] at ho_ | (simp only [Int.reduceToNat] at ho_; rw [← Ny193.out] at ho_))
            exact hK.out _ _ ⟨v1_, gO, ⟨by rw [ha_.out]; exact (putSel_upk 0 hbi_ rfl rfl rfl).trans (putSel_idle 1 (by rw [up_ne (by decide)]; exact h6_) rfl rfl)⟩, fun _ => ho_, fun h_ => ⟨blk_grown (HG_ (up_of h_ (by decide))).1 hg_ (by simp), (HG_ (up_of h_ (by decide))).2⟩, ⟨blk_grown BK190.out hg_ (by simp)⟩, ⟨blk_grown BK191.out hg_ (by simp)⟩, ⟨hb⟩⟩
          · intro b a_ w' hI_ hbi_ hneed_ hcl_
            obtain ⟨v_, gO, ha_, HS_, HG_, BK190, BK191, HB⟩ := hI_
            have b5_ := hneed_ 5 (by decide)
            obtain ⟨A5_, c5_, rfl⟩ := Kd.S_slice (HS_ b5_)
            have he18_ : a_.tmps[18]? = some (.int .i64 (l0_2.length : Int)) := by rw [ha_.out]; exact (putSel_off rfl).trans rfl
            have he21_ : a_.tmps[21]? = some (.slice A5_ y193.length c5_) := by rw [ha_.out]; exact (putSel_on (b := b) (e := (5, 21, _)) 0 rfl rfl b5_ rfl)
            refine ⟨_, rfl, fun K hK => ?_⟩
            refine value_ (w1 := w') (v := .agg #[.int .i64 (l0_2.length : Int), .slice A5_ y193.length c5_]) (by rfl) rfl (by first | (go_simp; done) | (go_simp; rfl)) ?_
            exact hK.out _ _ ⟨.slice A5_ y193.length c5_, gO, ⟨by rw [ha_.out]; exact putSel_upk 1 hbi_ rfl rfl rfl⟩, fun h_ => HS_ b5_, fun h_ => HG_ (up_of h_ (by decide)), BK190, BK191, HB⟩
          · intro b a_ w' hI_ hbi_ hneed_ hcl_
            obtain ⟨v_, gO, ha_, HS_, HG_, BK190, BK191, HB⟩ := hI_
            refine ⟨_, rfl, fun K hK => ?_⟩
            refine value_ (w1 := w'.alloc (.cells #[.int .i64 0, .slice none 0 0] 27 (0, 0))) (v := .pointer (some ⟨w'.heap.size, 0, none⟩)) (by rfl) rfl (by first | (go_simp; done) | (go_simp; rfl)) ?_
            have hb := below_alloc (Below.refl w'.heap.size w') (.cells #[.int .i64 0, .slice none 0 0] 27 (0, 0))
            exact hK.out _ _ ⟨v_, w'.heap.size, ⟨by rw [ha_.out]; exact putSel_upk 2 hbi_ rfl rfl rfl⟩, fun h_ => Kd.S_below (HS_ (up_of h_ (by decide))) hb, fun _ => ⟨blk_new _ _, below_size HB.out, Nat.ne_of_gt (blk_lt BK190.out), Nat.ne_of_gt (blk_lt BK191.out)⟩, ⟨blk_below BK190.out hb⟩, ⟨blk_below BK191.out hb⟩, ⟨below_step HB.out hb⟩⟩
        case hend =>
          intro b a_ w13 hall_ hI_
          obtain ⟨v194, gO, ⟨rfl⟩, HS_, HG_, BK190, BK191, HB⟩ := hI_
          have b5_ := hall_ 5 (by decide)
          have b6_ := hall_ 6 (by decide)
          have b7_ := hall_ 7 (by decide)
          have HO195 := Aside0.mk (HS_ b5_)
          obtain ⟨hO1_, hO2_, hO3_, hO4_⟩ := HG_ b7_
          have BK4 := Aside0.mk hO1_
          have GW4 := Aside0.mk hO2_
          have NB4_190 := Aside0.mk hO3_
          have NB4_191 := Aside0.mk hO4_
          have NB190_4 := Aside0.mk hO3_.symm
          have NB191_4 := Aside0.mk hO4_.symm
          clear HS_ HG_ hO1_ hO2_ hO3_ hO4_ hall_
          simp only [putSel, b5_, b6_, b7_, if_true, Act.put, List.setIfInBounds_toArray, List.set_cons_zero, List.set_cons_succ]
          obtain ⟨Ao9, co9, eo9⟩ := Kd.S_slice HO195.out
          subst eo9
          have hHeld : w13.cell? ⟨gb190, 1, none⟩ = some (.int .i64 a0_1) ∧ w13.cell? ⟨gb190, 2, none⟩ = some (.slice A0_2 l0_2.length c0_2) := ⟨bc BK190, bc BK190⟩
          refine one_ (i := 8) (N := none) #[true, true, true, true, true, true, true, true, true] rfl rfl (by kernel_rfl) (by decide) (fun K hK => ?_)
          have hs4_0 : w13.cell? ⟨gO, 0, none⟩ = some (.int .i64 0) := bc BK4
          have hs4_1 : w13.cell? ⟨gO, 1, none⟩ = some (.slice none 0 0) := bc BK4
          have hfs4 := blk_frozen BK4.out 0
          have hft4 := blk_frozen BK4.out 1
          refine skip_ (w1 := (w13.setCell ⟨gO, 0, none⟩ (.int .i64 (l0_2.length : Int))).setCell ⟨gO, 1, none⟩ (.slice Ao9 y193.length co9)) (by rfl) rfl (by first | (go_simp; done) | (go_simp; rfl)) ?_
          have nS_ : Aside0 (Kd.S (Kd.slice 2 (Kd.int .i64)) 43 ((w13.setCell ⟨gO, 0, none⟩ (.int .i64 (l0_2.length : Int))).setCell ⟨gO, 1, none⟩ (.slice Ao9 y193.length co9)) w.heap.size (fun _ => True) (.slice Ao9 y193.length co9) y193) := ⟨Kd.S_mono (Kd.S_far (p := ⟨gO, 1, none⟩) (Kd.S_far (p := ⟨gO, 0, none⟩) (Kd.S_types HO195.out BK4.out (by decide)) (fun _ hk => hk.2) _) (fun _ hk => hk.2) _) (fun _ hk => trivial)⟩
          replace BK190 := Aside0.mk (blk_far (p := ⟨gO, 1, none⟩) (blk_far (p := ⟨gO, 0, none⟩) BK190.out NB190_4.out (.int .i64 (l0_2.length : Int))) NB190_4.out (.slice Ao9 y193.length co9))
          replace BK191 := Aside0.mk (blk_far (p := ⟨gO, 1, none⟩) (blk_far (p := ⟨gO, 0, none⟩) BK191.out NB191_4.out (.int .i64 (l0_2.length : Int))) NB191_4.out (.slice Ao9 y193.length co9))
          replace BK4 := Aside0.mk (blk_put (blk_put BK4.out 0 (.int .i64 (l0_2.length : Int)) rfl) 1 (.slice Ao9 y193.length co9) rfl)
          replace HB := Aside0.mk (below_set (j := 1) (v := .slice Ao9 y193.length co9) (below_set (j := 0) (v := .int .i64 (l0_2.length : Int)) HB.out GW4.out) GW4.out)
          clear HO195
          have HO195 := nS_
          clear nS_
          refine hK.out _ _ ⟨bc BK190, bc BK190⟩ (fun hHeld => ?_)
          clear hK K
          generalize (w13.setCell ⟨gO, 0, none⟩ (.int .i64 (l0_2.length : Int))).setCell ⟨gO, 1, none⟩ (.slice Ao9 y193.length co9) = w14 at HO195 BK190 BK191 BK4 HB hHeld ⊢
          refine done_ (by kernel_rfl) ?_
          replace BK4 := Aside0.mk (show w14.heap[gO]? = some (.cells #[.int .i64 (l0_2.length : Int), .slice Ao9 y193.length co9] 27 (0, 0)) from BK4.out)
          obtain ⟨v194, hv194⟩ : ∃ v_ : Value, v_ = .slice Ao9 y193.length co9 := ⟨_, rfl⟩
          rw [← hv194] at HO195 BK4
          clear hv194
          have hq14_0 : w14.cell? ⟨gb190, 0, none⟩ = some (.int .i64 a0_0) := bc BK190
          have hq14_1 : w14.cell? ⟨gb190, 1, none⟩ = some (.int .i64 a0_1) := bc BK190
          have hq14_2 : w14.cell? ⟨gb190, 2, none⟩ = some (.slice A0_2 l0_2.length c0_2) := bc BK190
          go_wp2_with (first | ((with_reducible refine gC 18 ?_); refine GL (some 24) Try.func18 #[.agg #[.int .i64 a0_0, .int .i64 a0_1, .slice A0_2 l0_2.length c0_2], .nilFunc] ?_; (with_reducible refine (impl_newCoverSearch.calls k a0_0 a0_1 _ _ l0_2 t196 _ ?side1 ?side2 A6.out).mono ?_); (case side1 => exact Kd.C_below HR0_2.out Hb); (case side2 => exact HC0_2.out); rintro e w16 ⟨gS, v197, rfl, hS_, hG_, ho0, hb⟩; refine ⟨_, rfl, ?_⟩; replace HO195 := Aside0.mk (Kd.S_below (S1 HO195) hb); have HO198 := Aside0.mk (Kd.R_lower ho0 (below_size Hb)); replace BK190 := Aside0.mk (blk_below (B1 BK190) hb); replace BK191 := Aside0.mk (blk_below (B1 BK191) hb); replace HB := Aside0.mk (below_step Hb hb); replace BK4 := Aside0.mk (blk_below (B1 BK4) hb); have BKS := Aside0.mk hS_; clear hS_ hG_; (try clear hb); (try clear hb2); (try clear hk); (try clear hi); (try clear ho0); obtain ⟨Ao17, co17, eo17⟩ := Kd.R_slice HO198.out; subst eo17; have hcS_ : w16.cell? ⟨gS, 0, none⟩ = some (.slice Ao17 t196.length co17) := bc BKS; have hfS_ := blk_frozen BKS.out 0))
          clear BKS
          go_loopg [30] k (fun kq v30 w' => ∃ (x4_1 : List (List Int)) (x30_1 : Int), v30 = .int .i64 x30_1 ∧ Aside0 (impl_FormulaOfCover.l0 kq x4_1 t196 t196 (t196.length : Int) x30_1 a0_0 a0_1 l0_2 = some (r1, r2, r3)) ∧ Aside0 (kq ≤ k) ∧ Aside0 (Kd.S (Kd.slice 2 (Kd.int .i64)) 43 w' w.heap.size (fun _ => True) v194 x4_1) ∧ Aside0 (Kd.R (Kd.int .u64) 42 w' w.heap.size (fun _ => True) (.slice Ao17 t196.length co17) t196) ∧ Aside0 (Kd.R (Kd.int .u64) 42 w' w.heap.size (fun _ => True) (.slice Ao17 t196.length co17) t196) ∧ Aside0 (w'.heap[gb190]? = some (.cells #[.int .i64 a0_0, .int .i64 a0_1, (.slice A0_2 l0_2.length c0_2)] 30 (0, 0))) ∧ Aside0 (w'.heap[gb191]? = some (.cells #[.int .i64 0, (.slice none 0 0)] 27 (0, 0))) ∧ Aside0 (w'.heap[gO]? = some (.cells #[.int .i64 (l0_2.length : Int), v194] 27 (0, 0))) ∧ Aside0 (Below w.heap.size w w'))
          case atStart => exact ⟨(y193), (0), Fs, H', ⟨Nat.le_refl _⟩, ⟨S1 HO195⟩, ⟨R1 HO198⟩, ⟨R1 HO198⟩, ⟨B1 BK190⟩, ⟨B1 BK191⟩, ⟨B1 BK4⟩, ⟨Hb⟩⟩
          case round =>
            clear H'
            try clear c1
            try clear p2
            try clear c3
            try clear c4
            try clear c4b0
            try clear c4b1
            try clear c5
            try clear c5b0
            try clear c5b1
            try clear c7
            try clear c9
            try clear c17
            try clear hcz10_0
            try clear hcz10_1
            try clear hcz10_2
            try clear hcz12_0
            try clear hcz12_1
            try clear hcz12_2
            try clear hcz15_0
            try clear hcz15_1
            try clear hcz15_2
            try clear hfz10_0
            try clear hfz10_1
            try clear hfz10_2
            try clear hfz12_0
            try clear hfz12_1
            try clear hfz12_2
            try clear hfz15_0
            try clear hfz15_1
            try clear hfz15_2
            obtain ⟨x4_1, x30_1, rfl, HA, HK1, HO_4, HO_5, HO_28, BK190, BK191, BK4, HB⟩ := hrel
            cases gk with
            | zero => exact absurd HA.out (by simp [impl_FormulaOfCover.l0])
            | succ k1 =>
              have H := HA.out
              clear HA
              simp only [impl_FormulaOfCover.l0] at H
              by_cases c18 : x30_1 < (t196.length : Int)
              · rw [if_pos c18] at H
                have c18b0 : decide (x30_1 < (t196.length : Int)) = true := decide_eq_true c18
                clear c18
                by_cases c19 : 0 ≤ x30_1
                · rw [if_pos c19] at H
                  have c19b0 : decide (0 ≤ x30_1) = true := decide_eq_true c19
                  clear c19
                  by_cases c20 : x30_1 < (t196.length : Int)
                  · rw [if_pos c20] at H
                    have c20b0 : decide (x30_1 < (t196.length : Int)) = true := decide_eq_true c20
                    clear c20
                    have H' := Aside0.mk H
                    clear H
                    have p199 : 0 ≤ (x30_1 : Int) := oD
                    have q199 : x30_1 < (t196.length : Int) := oD
                    (try (obtain ⟨Aq_, cq_, eq_⟩ := Kd.R_slice HO_28.out; subst eq_))
                    obtain ⟨ad199, e199, hx199_0⟩ := Kd.at_int (Kd.R_reads' HO_28.out).2.2 x30_1 p199 q199
                    cases e199
                    replace p199 := eq_true p199
                    replace q199 := eq_true q199
                    have hnb21 := NB190_191.out
                    have hnc21 := NB191_190.out
                    have hcz22_0 : wr.cell? ⟨gb190, 0, none⟩ = some (.int .i64 a0_0) := bc BK190
                    have hcz22_1 : wr.cell? ⟨gb190, 1, none⟩ = some (.int .i64 a0_1) := bc BK190
                    have hcz22_2 : wr.cell? ⟨gb190, 2, none⟩ = some (.slice A0_2 l0_2.length c0_2) := bc BK190
                    have hfz22_0 := blk_frozen BK190.out 0
                    have hfz22_1 := blk_frozen BK190.out 1
                    have hfz22_2 := blk_frozen BK190.out 2
                    go_wp2
                    go_loopg [37] k1 (fun kq v37 w' => ∃ (x4_2 : List (List Int)) (x37_2 : Int), v37 = .int .i64 x37_2 ∧ Aside0 (impl_FormulaOfCover.l1 kq x4_2 t196 x30_1 (rd t196 x30_1) t196 (t196.length : Int) x30_1 a0_1 x37_2 a0_0 a0_1 l0_2 = some (r1, r2, r3)) ∧ Aside0 (kq ≤ k1) ∧ Aside0 (Kd.S (Kd.slice 2 (Kd.int .i64)) 43 w' w.heap.size (fun _ => True) v194 x4_2) ∧ Aside0 (Kd.R (Kd.int .u64) 42 w' w.heap.size (fun _ => True) (.slice (some ad199) t196.length co17) t196) ∧ Aside0 (Kd.R (Kd.int .u64) 42 w' w.heap.size (fun _ => True) (.slice (some ad199) t196.length co17) t196) ∧ Aside0 (w'.heap[gb190]? = some (.cells #[.int .i64 a0_0, .int .i64 a0_1, (.slice A0_2 l0_2.length c0_2)] 30 (0, 0))) ∧ Aside0 (w'.heap[gb191]? = some (.cells #[.int .i64 0, (.slice none 0 0)] 27 (0, 0))) ∧ Aside0 (w'.heap[gO]? = some (.cells #[.int .i64 (l0_2.length : Int), v194] 27 (0, 0))) ∧ Aside0 (Below w.heap.size w w'))
                    case atStart => exact ⟨(x4_1), (0), Fs, H', ⟨Nat.le_refl _⟩, ⟨S1 HO_4⟩, ⟨R1 HO_5⟩, ⟨R1 HO_28⟩, ⟨B1 BK190⟩, ⟨B1 BK191⟩, ⟨B1 BK4⟩, ⟨Hb⟩⟩
                    case round =>
                      clear H'
                      try clear c1
                      try clear p1
                      try clear q1
                      try clear hx1
                      try clear c2
                      try clear p2
                      try clear c3
                      try clear c4
                      try clear c4b0
                      try clear c4b1
                      try clear c5
                      try clear c5b0
                      try clear c5b1
                      try clear c7
                      try clear c9
                      try clear c17
                      try clear c18
                      try clear c18b0
                      try clear c19
                      try clear c19b0
                      try clear p19
                      try clear q19
                      try clear hx19
                      try clear c20
                      try clear c20b0
                      try clear c21
                      try clear hcz10_0
                      try clear hcz10_1
                      try clear hcz10_2
                      try clear hcz12_0
                      try clear hcz12_1
                      try clear hcz12_2
                      try clear hcz15_0
                      try clear hcz15_1
                      try clear hcz15_2
                      try clear hcz22_0
                      try clear hcz22_1
                      try clear hcz22_2
                      try clear hfz10_0
                      try clear hfz10_1
                      try clear hfz10_2
                      try clear hfz12_0
                      try clear hfz12_1
                      try clear hfz12_2
                      try clear hfz15_0
                      try clear hfz15_1
                      try clear hfz15_2
                      try clear hfz22_0
                      try clear hfz22_1
                      try clear hfz22_2
                      try clear hx199_0
                      try clear p199
                      try clear p2
                      try clear q199
                      obtain ⟨x4_2, x37_2, rfl, HA, HK2, HO_4, HO_5, HO_28, BK190, BK191, BK4, HB⟩ := hrel
                      cases gk with
                      | zero => exact absurd HA.out (by simp [impl_FormulaOfCover.l1])
                      | succ k2 =>
                        have H := HA.out
                        clear HA
                        simp only [impl_FormulaOfCover.l1] at H
                        by_cases c23 : x37_2 < a0_1
                        · rw [if_pos c23] at H
                          have c23b0 : decide (x37_2 < a0_1) = true := decide_eq_true c23
                          clear c23
                          obtain ⟨ji24, hji24⟩ : ∃ j_ : Int, (IntKind.u64.wrap (x37_2)) = j_ := ⟨_, rfl⟩
                          replace H : (if 0 ≤ (ji24) then (if (Go.bits .and .u64 (shr .u64 (rd t196 x30_1) (ji24)) 1) = 1 then (if 0 ≤ x37_2 then (if x37_2 < (x4_2.length : Int) then (if (rd_L1 x4_2 x37_2).length < 17592186044416 then (impl_FormulaOfCover.l1 k2 (x4_2.set (x37_2 : Int).toNat ((rd_L1 x4_2 x37_2) ++ [wrap64 (x30_1 + 1)])) t196 x30_1 (rd t196 x30_1) t196 (t196.length : Int) x30_1 a0_1 (wrap64 (x37_2 + 1)) a0_0 a0_1 l0_2) else (none)) else (none)) else (none)) else (impl_FormulaOfCover.l1 k2 x4_2 t196 x30_1 (rd t196 x30_1) t196 (t196.length : Int) x30_1 a0_1 (wrap64 (x37_2 + 1)) a0_0 a0_1 l0_2)) else (none)) = some (r1, r2, r3) := by first | (rw [hji24] at H; exact H) | (simp only [hji24] at H ⊢; exact H)
                          by_cases c25 : 0 ≤ (ji24)
                          · rw [if_pos c25] at H
                            have c25b0 := eq_true c25
                            have c25b1 : decide (0 ≤ (ji24)) = true := decide_eq_true c25
                            clear c25
                            obtain ⟨ji26, hji26⟩ : ∃ j_ : Int, (shr .u64 (rd t196 x30_1) (ji24)) = j_ := ⟨_, rfl⟩
                            replace H : (if (Go.bits .and .u64 (ji26) 1) = 1 then (if 0 ≤ x37_2 then (if x37_2 < (x4_2.length : Int) then (if (rd_L1 x4_2 x37_2).length < 17592186044416 then (impl_FormulaOfCover.l1 k2 (x4_2.set (x37_2 : Int).toNat ((rd_L1 x4_2 x37_2) ++ [wrap64 (x30_1 + 1)])) t196 x30_1 (rd t196 x30_1) t196 (t196.length : Int) x30_1 a0_1 (wrap64 (x37_2 + 1)) a0_0 a0_1 l0_2) else (none)) else (none)) else (none)) else (impl_FormulaOfCover.l1 k2 x4_2 t196 x30_1 (rd t196 x30_1) t196 (t196.length : Int) x30_1 a0_1 (wrap64 (x37_2 + 1)) a0_0 a0_1 l0_2)) = some (r1, r2, r3) := by first | (rw [hji26] at H; exact H) | (simp only [hji26] at H ⊢; exact H)
                            have hji26_ : ((rd t196 x30_1) / 2 ^ min (ji24).toNat 64) = ji26 := hji26
                            have hji26z : (ji24) ≤ 64 → ((rd t196 x30_1) / 2 ^ (ji24).toNat) = ji26 := shr_small hji26
                            by_cases c27 : (Go.bits .and .u64 (ji26) 1) = 1
                            · rw [if_pos c27] at H
                              have c27b0 : ((Go.bits .and .u64 (ji26) 1) == 1) = true := beq_iff_eq.mpr c27
                              have c27b1 : ((Go.bits .and .u64 (ji26) 1) != 1) = false := bne_eq_false_iff_eq.mpr c27
                              clear c27
                              by_cases c28 : 0 ≤ x37_2
                              · rw [if_pos c28] at H
                                have c28b0 : decide (0 ≤ x37_2) = true := decide_eq_true c28
                                clear c28
                                by_cases c29 : x37_2 < (x4_2.length : Int)
                                · rw [if_pos c29] at H
                                  have c29b0 : decide (x37_2 < (x4_2.length : Int)) = true := decide_eq_true c29
                                  clear c29
                                  by_cases c30 : (rd_L1 x4_2 x37_2).length < 17592186044416
                                  · rw [if_pos c30] at H
                                    have LMc30 := Aside0.mk c30
                                    clear c30
                                    obtain ⟨y201, hy201⟩ : ∃ y_ : List Int, y_ = ((rd_L1 x4_2 x37_2) ++ [wrap64 (x30_1 + 1)]) := ⟨_, rfl⟩
                                    replace H : (impl_FormulaOfCover.l1 k2 (x4_2.set (x37_2 : Int).toNat y201) t196 x30_1 (rd t196 x30_1) t196 (t196.length : Int) x30_1 a0_1 (wrap64 (x37_2 + 1)) a0_0 a0_1 l0_2) = some (r1, r2, r3) := by first | (rw [hy201]; with_reducible exact H) | (have H2_ := (Option.bind_some _ _).symm.trans H; rw [hy201]; with_reducible exact H2_) | (have H2_ := (Option.bind_some _ _).symm.trans H; with_reducible exact H2_) | with_reducible exact H | (rw [hy201]; exact H) | exact H
                                    have Ny201 := Aside0.mk hy201
                                    clear hy201
                                    obtain ⟨y204, hy204⟩ : ∃ y_ : List (List Int), y_ = (x4_2.set (x37_2 : Int).toNat y201) := ⟨_, rfl⟩
                                    replace H : (impl_FormulaOfCover.l1 k2 y204 t196 x30_1 (rd t196 x30_1) t196 (t196.length : Int) x30_1 a0_1 (wrap64 (x37_2 + 1)) a0_0 a0_1 l0_2) = some (r1, r2, r3) := by first | (rw [hy204]; with_reducible exact H) | (have H2_ := (Option.bind_some _ _).symm.trans H; rw [hy204]; with_reducible exact H2_) | (have H2_ := (Option.bind_some _ _).symm.trans H; with_reducible exact H2_) | with_reducible exact H | (rw [hy204]; exact H) | exact H
                                    have Ny204 := Aside0.mk hy204
                                    clear hy204
                                    have H' := Aside0.mk H
                                    clear H
                                    obtain ⟨Ao32, co32, eo32⟩ := Kd.S_slice HO_4.out
                                    subst eo32
                                    have p200 : 0 ≤ (x37_2 : Int) := oD
                                    have q200 : x37_2 < (x4_2.length : Int) := oD
                                    obtain ⟨ad200, A200_0, c200_0, e200, hx200_0, hl200_0, hi200_0⟩ := at_L1 (Kd.S_reads' HO_4.out).2.2 x37_2 p200 q200
                                    cases e200
                                    obtain ⟨ce200, hce200, hMe200, hcc200⟩ := Kd.S_get HO_4.out [] x37_2 p200 (by first | exact q200 | exact oD | (have e_ := (Kd.S_reads' HO_4.out).1; omega))
                                    obtain ⟨ve200_0, rfl, ge200_0⟩ := hMe200
                                    have hv200_0 := hcc200 0 _ rfl
                                    rw [Nat.add_zero, show ((Kd.slice 2 (Kd.int .i64))).sz = 1 from rfl, Nat.mul_one] at hv200_0
                                    replace hv200_0 := Option.some.inj (hv200_0.symm.trans hx200_0)
                                    rw [hv200_0] at ge200_0
                                    have HL200_0 := Aside0.mk (show Kd.R (Kd.int .i64) 2 _ _ _ _ (rd_L1 x4_2 x37_2) from ge200_0)
                                    clear hv200_0 ge200_0
                                    have HX200_0 := Aside0.mk hx200_0
                                    clear hcc200 hce200
                                    have HR200_0 := Aside0.mk hi200_0
                                    have HC200_0 := Aside0.mk hl200_0
                                    clear hi200_0 hl200_0
                                    replace p200 := eq_true p200
                                    replace q200 := eq_true q200
                                    obtain ⟨go33, co33, eo33, gb33, gl33, cl33, HG33⟩ := Kd.S_form HO_4.out (by have h_ : (x37_2 : Int) < ((x4_2.length : Int) : Int) := oD; have h2_ : 0 ≤ (x37_2 : Int) := (oD); omega)
                                    (first | cases eo33 | (injection eo33 with ea_ en_ ec_; (first | subst ea_ | (injection ea_ with ea_; subst ea_)); subst ec_; clear en_))
                                    have GB33 := Aside0.mk gb33
                                    have GG33 := Aside0.mk HG33
                                    clear gb33 gl33 HG33
                                    (first | simp only [add_plain] at hx200_0 | skip)
                                    obtain ⟨oki33, ce33, hcl33, hM33, hcc33, _, _, hH33⟩ := Kd.S_elem HO_4.out [] (x37_2 : Int) (oD) (by have h_ : (x37_2 : Int) < ((x4_2.length : Int) : Int) := oD; first | exact h_ | (have e_ := (Kd.S_reads' HO_4.out).1; omega) | simpa using h_)
                                    obtain ⟨ve33_0, rfl, ge33_0⟩ := hM33
                                    have hv33 := hcc33 0 _ rfl
                                    have hX33 := HX200_0.out
                                    (try simp only [add_plain] at hX33)
                                    (try simp only [Nat.add_zero] at hv33)
                                    (try rw [show ((Kd.slice 2 (Kd.int .i64))).sz = 1 from rfl, Nat.mul_one] at hv33)
                                    replace hv33 := Option.some.inj (hv33.symm.trans hX33)
                                    subst hv33
                                    clear hX33 hcc33 hcl33
                                    have UU33 := Aside0.mk (show Kd.R (Kd.int .i64) 2 _ w.heap.size oki33 (.slice A200_0 (rd_L1 x4_2 x37_2).length c200_0) (rd_L1 x4_2 x37_2) from ge33_0)
                                    have HH33 := Aside0.mk hH33
                                    have HN33 := Aside0.mk (Kd.S_reads' HO_4.out).1
                                    clear hH33 ge33_0
                                    have hX33 := HX200_0.out
                                    (try simp only [add_plain] at hX33)
                                    replace HO_5 := Aside0.mk (Kd.R_drew HO_5.out)
                                    replace HO_28 := Aside0.mk (Kd.R_drew HO_28.out)
                                    replace BK190 := Aside0.mk (blk_drew BK190.out)
                                    replace BK191 := Aside0.mk (blk_drew BK191.out)
                                    replace BK4 := Aside0.mk (blk_drew BK4.out)
                                    replace HB := Aside0.mk (below_drew1 HB.out)
                                    replace UU33 := Aside0.mk (Kd.R_drew UU33.out)
                                    replace HL200_0 := Aside0.mk (Kd.R_drew HL200_0.out)
                                    replace HH33 := Aside0.mk (Kd.H_drew HH33.out)
                                    clear HO_4
                                    go_wp2
                                    refine start_ (n := 14) (S := fun w' => w'.cell? ⟨gO, 1, none⟩ = some (.slice (some ⟨go33, 0, none⟩) x4_2.length co32) ∧ w'.cell? ⟨go33, (x37_2 : Int).toNat, none⟩ = some (.slice A200_0 (rd_L1 x4_2 x37_2).length c200_0)) (ds := [13]) #[false, false, false, false, false, false, false, false, false, false, false, false, false, false] (by kernel_rfl) rfl rfl ⟨bc BK4, hX33⟩ (fun hHeld => ?_)
                                    generalize wr.drew = w33 at HO_5 HO_28 BK190 BK191 BK4 HB UU33 HL200_0 HH33 hHeld ⊢
                                    refine PU 0 46 ?_
                                    refine PU 2 48 ?_
                                    refine PU 3 49 ?_
                                    refine PU 5 51 ?_
                                    refine PU 8 54 ?_
                                    refine PU 9 55 ?_
                                    refine TK 1 47 hHeld ?_
                                    refine TK 4 50 hHeld ?_
                                    refine PU 6 52 ?_
                                    refine TK 7 53 hHeld ?_
                                    refine ON 10 56 (fun K hK => ?_)
                                    refine value_ (w1 := ?_) (v := ?_) (by rfl) rfl ?_ ?_
                                    rotate_left 2
                                    · go_simp
                                      constructor
                                      · rfl
                                      · rfl
                                    refine hK.out _ _ ⟨bc ⟨blk_alloc BK4.out _⟩, pw_cell_below (below_alloc (Below.refl _ _) _) hHeld.2⟩ (fun hHeld => ?_)
                                    clear hK K
                                    refine NM 56 ?_
                                    refine ON 11 57 (fun K hK => ?_)
                                    refine Kd.R_append_step (Kd.int .i64) (w0 := w) w.heap.size (by rfl) (.tmp 53) (.tmp 56) 43 2 (.int .i64 0) 8 rfl Try.underlying43 info2 rfl (by decide) (by omega) (.slice A200_0 (rd_L1 x4_2 x37_2).length c200_0) (rd_L1 x4_2 x37_2) (wrap64 (x30_1 + 1)) [.int .i64 (wrap64 (x30_1 + 1))] (fun k_ => oki33 k_ ∨ ((fun _ => True)) k_ ∧ w33.heap.size ≤ k_) (fun _ => False) rfl rfl ?aP (fun _ hk => hk.elim) ?aF ?aO HB.out ?aS ?aL ?_
                                    (case aP => exact rfl)
                                    (case aF => exact (fun k_ hk => .inr ⟨trivial, hk⟩))
                                    (case aO => exact Kd.R_mono UU33.out (fun _ hk => .inl hk))
                                    (case aS => exact (below_size Hb))
                                    (case aL => have := LMc30.out; omega)
                                    intro v202 w34 ho hb hg hat
                                    rw [← Ny201.out] at ho
                                    replace HO_5 := Aside0.mk (Kd.R_over' (v := (.slice A200_0 (rd_L1 x4_2 x37_2).length c200_0)) (R1 HO_5) (Kd.R_typed HL200_0.out) (by decide) hg)
                                    replace HO_28 := Aside0.mk (Kd.R_over' (v := (.slice A200_0 (rd_L1 x4_2 x37_2).length c200_0)) (R1 HO_28) (Kd.R_typed HL200_0.out) (by decide) hg)
                                    replace BK190 := Aside0.mk (blk_grown (B1 BK190) hg (Kd.R_ne HL200_0.out BK190.out (by decide)))
                                    replace BK191 := Aside0.mk (blk_grown (B1 BK191) hg (Kd.R_ne HL200_0.out BK191.out (by decide)))
                                    replace BK4 := Aside0.mk (blk_grown (B1 BK4) hg (Kd.R_ne HL200_0.out BK4.out (by decide)))
                                    replace HB := Aside0.mk (hb)
                                    replace HH33 := Aside0.mk (Kd.H_grown (Kd.H_widen (by repeat (first | exact HH33.out | refine Kd.H_alloc ?_ _ | refine Kd.H_drewN ?_ _ | refine Kd.H_drew ?_))) hg (fun k_ e_ => .inl (UU33.out.1 k_ e_)))
                                    have HO203 := Aside0.mk (ho)
                                    clear UU33
                                    clear HL200_0
                                    clear ho hb hg hat
                                    have p31 : 0 ≤ (x37_2 : Int) := oD
                                    have q31 : (x37_2 : Int) < ((x4_2.length : Int) : Int) := oD
                                    replace p31 := eq_true p31
                                    replace q31 := eq_true q31
                                    obtain ⟨Ao37, co37, eo37⟩ := Kd.R_slice HO203.out
                                    subst eo37
                                    obtain ⟨_, _, hraw35, _, _, hcc35, _⟩ := Kd.H_raw HH33.out (oD) (by have h_ : (x37_2 : Int) < ((x4_2.length : Int) : Int) := oD; first | exact h_ | (have e_ := (HN33.out); omega) | simpa using h_)
                                    obtain ⟨_, hfr35⟩ := Kd.H_at HH33.out (oD) (by have h_ : (x37_2 : Int) < ((x4_2.length : Int) : Int) := oD; first | exact h_ | (have e_ := (HN33.out); omega) | simpa using h_)
                                    have hx35_0 := hcc35 0 _ rfl
                                    have hf35_0 := hfr35 0
                                    (try simp only [Nat.add_zero] at hx35_0 hf35_0)
                                    (try rw [show ((Kd.slice 2 (Kd.int .i64))).sz = 1 from rfl, Nat.mul_one] at hx35_0)
                                    (try rw [show ((Kd.slice 2 (Kd.int .i64))).sz = 1 from rfl, Nat.mul_one] at hf35_0)
                                    have HP35 := Kd.S_seg0 HH33.out (oD) (by have h_ : (x37_2 : Int) < ((x4_2.length : Int) : Int) := oD; first | exact h_ | (have e_ := (HN33.out); omega) | simpa using h_) (seg := [.slice Ao37 y201.length co37]) (j := 0) (show 1 ≤ 1 from by decide) (x' := y201) (Kd.M_row HO203.out) (fun _ hk => hk)
                                    (try simp only [show ((Kd.slice 2 (Kd.int .i64))).sz = 1 from rfl, Nat.mul_one, Nat.add_zero] at HP35)
                                    refine hK.out _ _ ⟨bc BK4, hx35_0⟩ (fun hHeld => ?_)
                                    clear hK K
                                    refine NM 57 ?_
                                    refine PU 12 58 ?_
                                    refine last_ (i := 13) (N := none) #[true, true, true, true, true, true, true, true, true, true, true, true, true, true] rfl rfl (by kernel_rfl) (by decide) (fun K hK => ?_)
                                    refine skip_ (w1 := w34.setCell ⟨go33, (x37_2 : Int).toNat, none⟩ (.slice Ao37 y201.length co37)) (by rfl) rfl (by first | (go_simp; done) | (go_simp; rfl)) ?_
                                    obtain ⟨w36, hw⟩ : ∃ W_, W_ = w34.setCell ⟨go33, (x37_2 : Int).toNat, none⟩ (.slice Ao37 y201.length co37) := ⟨_, rfl⟩
                                    rw [← hw]
                                    have hg : w34.grownBy w36 (some go33) := (by rw [hw]; exact HP35.2)
                                    have hp_ : Kd.S (Kd.slice 2 (Kd.int .i64)) 43 w36 w.heap.size (fun _ => True) (.slice (some ⟨go33, 0, none⟩) x4_2.length co32) y204 := (by rw [hw, Ny204.out]; exact HP35.1)
                                    clear HP35
                                    replace HO_5 := Aside0.mk (Kd.R_over' (v := (.slice (some ⟨go33, 0, none⟩) x4_2.length co32)) (R1 HO_5) (Kd.R_typed hraw35) (by decide) hg)
                                    replace HO_28 := Aside0.mk (Kd.R_over' (v := (.slice (some ⟨go33, 0, none⟩) x4_2.length co32)) (R1 HO_28) (Kd.R_typed hraw35) (by decide) hg)
                                    replace BK190 := Aside0.mk (blk_grown (B1 BK190) hg (Kd.R_ne hraw35 BK190.out (by decide)))
                                    replace BK191 := Aside0.mk (blk_grown (B1 BK191) hg (Kd.R_ne hraw35 BK191.out (by decide)))
                                    replace BK4 := Aside0.mk (blk_grown (B1 BK4) hg (Kd.R_ne hraw35 BK4.out (by decide)))
                                    replace HB := Aside0.mk ((by rw [hw]; exact below_set HB.out GB33.out : Below w.heap.size w w36))
                                    have HO_4 := Aside0.mk (hp_)
                                    clear HO203
                                    clear HH33
                                    clear hg hw hp_ hraw35
                                    refine hK.out _ _ ?_
                                    clear hK K
                                    refine done_ (by kernel_rfl) ?_
                                    go_wp2
                                    go_roundg k2
                                    case measure => have := HK1.out; have := HK2.out; omega
                                    case rel => exact ⟨(y204), (wrap64 (x37_2 + 1)), Fs, H', ⟨by have := HK1.out; have := HK2.out; omega⟩, ⟨S1 HO_4⟩, ⟨R1 HO_5⟩, ⟨R1 HO_28⟩, ⟨B1 BK190⟩, ⟨B1 BK191⟩, ⟨B1 BK4⟩, ⟨Hb⟩⟩
                                  · rw [if_neg c30] at H
                                    exact absurd H (by simp)
                                · rw [if_neg c29] at H
                                  exact absurd H (by simp)
                              · rw [if_neg c28] at H
                                exact absurd H (by simp)
                            · rw [if_neg c27] at H
                              have c27b0 : ((Go.bits .and .u64 (ji26) 1) == 1) = false := beq_eq_false_iff_ne.mpr c27
                              have c27b1 : ((Go.bits .and .u64 (ji26) 1) != 1) = true := bne_iff_ne.mpr c27
                              have H' := Aside0.mk H
                              clear H
                              go_wp2
                              go_roundg k2
                              case measure => have := HK1.out; have := HK2.out; omega
                              case rel => exact ⟨(x4_2), (wrap64 (x37_2 + 1)), Fs, H', ⟨by have := HK1.out; have := HK2.out; omega⟩, ⟨S1 HO_4⟩, ⟨R1 HO_5⟩, ⟨R1 HO_28⟩, ⟨B1 BK190⟩, ⟨B1 BK191⟩, ⟨B1 BK4⟩, ⟨Hb⟩⟩
                          · rw [if_neg c25] at H
                            exact absurd H (by simp)
                        · rw [if_neg c23] at H
                          have c23b0 : decide (x37_2 < a0_1) = false := decide_eq_false c23
                          clear c23
                          have H' := Aside0.mk H
                          clear H
                          go_wp2
                          go_roundg k2
                          case measure => have := HK1.out; have := HK2.out; omega
                          case rel => exact ⟨(x4_2), (wrap64 (x30_1 + 1)), Fs, H', ⟨by have := HK1.out; have := HK2.out; omega⟩, ⟨S1 HO_4⟩, ⟨R1 HO_5⟩, ⟨R1 HO_28⟩, ⟨B1 BK190⟩, ⟨B1 BK191⟩, ⟨B1 BK4⟩, ⟨Hb⟩⟩
                  · rw [if_neg c20] at H
                    exact absurd H (by simp)
                · rw [if_neg c19] at H
                  exact absurd H (by simp)
              · rw [if_neg c18] at H
                have c18b0 : decide (x30_1 < (t196.length : Int)) = false := decide_eq_false c18
                clear c18
                have H' := Aside0.mk H
                clear H
                go_wp2
                go_loopg [63] k1 (fun kq v63 w' => ∃ (vC : Value) (x4_2 : List (List Int)) (x63_2 : Int) (x192000_2 : Int), v63 = .int .i64 x63_2 ∧ Aside0 (impl_FormulaOfCover.l2 kq x4_2 t196 t196 (t196.length : Int) x63_2 a0_0 a0_1 l0_2 = some (r1, r2, r3)) ∧ Aside0 (kq ≤ k1) ∧ Aside0 (Kd.S (Kd.slice 2 (Kd.int .i64)) 43 w' w.heap.size (fun _ => True) vC x4_2) ∧ Aside0 (Kd.R (Kd.int .u64) 42 w' w.heap.size (fun _ => True) (.slice Ao17 t196.length co17) t196) ∧ Aside0 (Kd.R (Kd.int .u64) 42 w' w.heap.size (fun _ => True) (.slice Ao17 t196.length co17) t196) ∧ Aside0 (w'.heap[gb190]? = some (.cells #[.int .i64 a0_0, .int .i64 a0_1, (.slice A0_2 l0_2.length c0_2)] 30 (0, 0))) ∧ Aside0 (w'.heap[gb191]? = some (.cells #[.int .i64 x192000_2, (.slice none 0 0)] 27 (0, 0))) ∧ Aside0 (w'.heap[gO]? = some (.cells #[.int .i64 (l0_2.length : Int), vC] 27 (0, 0))) ∧ Aside0 (Below w.heap.size w w'))
                case atStart => exact ⟨_, (x4_1), (0), (0), Fs, H', ⟨Nat.le_refl _⟩, ⟨S1 HO_4⟩, ⟨R1 HO_5⟩, ⟨R1 HO_5⟩, ⟨B1 BK190⟩, ⟨B1 BK191⟩, ⟨B1 BK4⟩, ⟨Hb⟩⟩
                case round =>
                  clear H'
                  try clear c1
                  try clear p1
                  try clear q1
                  try clear hx1
                  try clear c2
                  try clear p2
                  try clear q2
                  try clear hx2
                  try clear c3
                  try clear p3
                  try clear q3
                  try clear hx3
                  try clear hf3
                  try clear c4
                  try clear c4b0
                  try clear c4b1
                  try clear c5
                  try clear c5b0
                  try clear c5b1
                  try clear p6
                  try clear c7
                  try clear c9
                  try clear c17
                  try clear c18
                  try clear c18b0
                  try clear c19
                  try clear c19b0
                  try clear p19
                  try clear q19
                  try clear hx19
                  try clear c20
                  try clear c20b0
                  try clear p20
                  try clear q20
                  try clear hx20
                  try clear c21
                  try clear c23
                  try clear c23b0
                  try clear c25
                  try clear c25b0
                  try clear c25b1
                  try clear c27
                  try clear c27b0
                  try clear c27b1
                  try clear c28
                  try clear c28b0
                  try clear c29
                  try clear c29b0
                  try clear c30
                  try clear p31
                  try clear q31
                  try clear c33
                  try clear c35
                  try clear hx35
                  try clear hf35
                  try clear hcz10_0
                  try clear hcz10_1
                  try clear hcz10_2
                  try clear hcz12_0
                  try clear hcz12_1
                  try clear hcz12_2
                  try clear hcz15_0
                  try clear hcz15_1
                  try clear hcz15_2
                  try clear hcz22_0
                  try clear hcz22_1
                  try clear hcz22_2
                  try clear hfz10_0
                  try clear hfz10_1
                  try clear hfz10_2
                  try clear hfz12_0
                  try clear hfz12_1
                  try clear hfz12_2
                  try clear hfz15_0
                  try clear hfz15_1
                  try clear hfz15_2
                  try clear hfz22_0
                  try clear hfz22_1
                  try clear hfz22_2
                  try clear hx199_0
                  try clear hx200_0
                  try clear hx35_0
                  try clear p1
                  try clear p19
                  try clear p199
                  try clear p2
                  try clear p200
                  try clear p31
                  try clear q1
                  try clear q19
                  try clear q199
                  try clear q200
                  try clear q31
                  obtain ⟨vC, x4_2, x63_2, x192000_2, rfl, HA, HK2, HO_4, HO_5, HO_61, BK190, BK191, BK4, HB⟩ := hrel
                  cases gk with
                  | zero => exact absurd HA.out (by simp [impl_FormulaOfCover.l2])
                  | succ k2 =>
                    have H := HA.out
                    clear HA
                    simp only [impl_FormulaOfCover.l2] at H
                    by_cases c38 : x63_2 < (t196.length : Int)
                    · rw [if_pos c38] at H
                      have c38b0 : decide (x63_2 < (t196.length : Int)) = true := decide_eq_true c38
                      clear c38
                      by_cases c39 : 0 ≤ x63_2
                      · rw [if_pos c39] at H
                        have c39b0 : decide (0 ≤ x63_2) = true := decide_eq_true c39
                        clear c39
                        by_cases c40 : x63_2 < (t196.length : Int)
                        · rw [if_pos c40] at H
                          have c40b0 : decide (x63_2 < (t196.length : Int)) = true := decide_eq_true c40
                          clear c40
                          have H' := Aside0.mk H
                          clear H
                          have p205 : 0 ≤ (x63_2 : Int) := oD
                          have q205 : x63_2 < (t196.length : Int) := oD
                          (try (obtain ⟨Aq_, cq_, eq_⟩ := Kd.R_slice HO_61.out; subst eq_))
                          obtain ⟨ad205, e205, hx205_0⟩ := Kd.at_int (Kd.R_reads' HO_61.out).2.2 x63_2 p205 q205
                          cases e205
                          replace p205 := eq_true p205
                          replace q205 := eq_true q205
                          go_wp2
                          go_loopg [11] k2 (fun kq v11 w' => ∃ (vC : Value) (x4_3 : List (List Int)) (x11_3 : Int) (x192000_3 : Int), v11 = .int .i64 x11_3 ∧ Aside0 (impl_FormulaOfCover.l3 kq x4_3 t196 x63_2 (rd t196 x63_2) x11_3 t196 (t196.length : Int) x63_2 a0_0 a0_1 l0_2 = some (r1, r2, r3)) ∧ Aside0 (kq ≤ k2) ∧ Aside0 (Kd.S (Kd.slice 2 (Kd.int .i64)) 43 w' w.heap.size (fun _ => True) vC x4_3) ∧ Aside0 (Kd.R (Kd.int .u64) 42 w' w.heap.size (fun _ => True) (.slice (some ad205) t196.length co17) t196) ∧ Aside0 (Kd.R (Kd.int .u64) 42 w' w.heap.size (fun _ => True) (.slice (some ad205) t196.length co17) t196) ∧ Aside0 (w'.heap[gb190]? = some (.cells #[.int .i64 a0_0, .int .i64 a0_1, (.slice A0_2 l0_2.length c0_2)] 30 (0, 0))) ∧ Aside0 (w'.heap[gb191]? = some (.cells #[.int .i64 x192000_3, (.slice none 0 0)] 27 (0, 0))) ∧ Aside0 (w'.heap[gO]? = some (.cells #[.int .i64 (l0_2.length : Int), vC] 27 (0, 0))) ∧ Aside0 (Below w.heap.size w w'))
                          case atStart => exact ⟨_, (x4_2), (wrap64 (x63_2 + 1)), (x192000_2), Fs, H', ⟨Nat.le_refl _⟩, ⟨S1 HO_4⟩, ⟨R1 HO_5⟩, ⟨R1 HO_61⟩, ⟨B1 BK190⟩, ⟨B1 BK191⟩, ⟨B1 BK4⟩, ⟨Hb⟩⟩
                          case round =>
                            clear H'
                            try clear c1
                            try clear p1
                            try clear q1
                            try clear hx1
                            try clear c2
                            try clear p2
                            try clear q2
                            try clear hx2
                            try clear c3
                            try clear p3
                            try clear q3
                            try clear hx3
                            try clear hf3
                            try clear c4
                            try clear c4b0
                            try clear c4b1
                            try clear c5
                            try clear c5b0
                            try clear c5b1
                            try clear p6
                            try clear c7
                            try clear c9
                            try clear c17
                            try clear c18
                            try clear c18b0
                            try clear c19
                            try clear c19b0
                            try clear p19
                            try clear q19
                            try clear hx19
                            try clear c20
                            try clear c20b0
                            try clear p20
                            try clear q20
                            try clear hx20
                            try clear c21
                            try clear c23
                            try clear c23b0
                            try clear c25
                            try clear c25b0
                            try clear c25b1
                            try clear c27
                            try clear c27b0
                            try clear c27b1
                            try clear c28
                            try clear c28b0
                            try clear c29
                            try clear c29b0
                            try clear c30
                            try clear p31
                            try clear q31
                            try clear c33
                            try clear c35
                            try clear hx35
                            try clear hf35
                            try clear c38
                            try clear c38b0
                            try clear c39
                            try clear c39b0
                            try clear c40
                            try clear c40b0
                            try clear hcz10_0
                            try clear hcz10_1
                            try clear hcz10_2
                            try clear hcz12_0
                            try clear hcz12_1
                            try clear hcz12_2
                            try clear hcz15_0
                            try clear hcz15_1
                            try clear hcz15_2
                            try clear hcz22_0
                            try clear hcz22_1
                            try clear hcz22_2
                            try clear hfz10_0
                            try clear hfz10_1
                            try clear hfz10_2
                            try clear hfz12_0
                            try clear hfz12_1
                            try clear hfz12_2
                            try clear hfz15_0
                            try clear hfz15_1
                            try clear hfz15_2
                            try clear hfz22_0
                            try clear hfz22_1
                            try clear hfz22_2
                            try clear hx199_0
                            try clear hx200_0
                            try clear hx205_0
                            try clear hx35_0
                            try clear p1
                            try clear p19
                            try clear p199
                            try clear p2
                            try clear p20
                            try clear p200
                            try clear p205
                            try clear p3
                            try clear p31
                            try clear p6
                            try clear q1
                            try clear q19
                            try clear q199
                            try clear q2
                            try clear q20
                            try clear q200
                            try clear q205
                            try clear q3
                            try clear q31
                            obtain ⟨vC, x4_3, x11_3, x192000_3, rfl, HA, HK3, HO_4, HO_5, HO_61, BK190, BK191, BK4, HB⟩ := hrel
                            cases gk with
                            | zero => exact absurd HA.out (by simp [impl_FormulaOfCover.l3])
                            | succ k3 =>
                              have H := HA.out
                              clear HA
                              simp only [impl_FormulaOfCover.l3] at H
                              by_cases c41 : x11_3 < (t196.length : Int)
                              · rw [if_pos c41] at H
                                have c41b0 : decide (x11_3 < (t196.length : Int)) = true := decide_eq_true c41
                                clear c41
                                by_cases c42 : 0 ≤ x11_3
                                · rw [if_pos c42] at H
                                  have c42b0 : decide (0 ≤ x11_3) = true := decide_eq_true c42
                                  clear c42
                                  by_cases c43 : (Go.bits .and .u64 (rd t196 x63_2) (rd t196 x11_3)) = 0
                                  · rw [if_pos c43] at H
                                    have c43b0 : ((Go.bits .and .u64 (rd t196 x63_2) (rd t196 x11_3)) == 0) = true := beq_iff_eq.mpr c43
                                    have c43b1 : ((Go.bits .and .u64 (rd t196 x63_2) (rd t196 x11_3)) != 0) = false := bne_eq_false_iff_eq.mpr c43
                                    clear c43
                                    have H' := Aside0.mk H
                                    clear H
                                    have p206 : 0 ≤ (x11_3 : Int) := oD
                                    have q206 : x11_3 < (t196.length : Int) := oD
                                    (try (obtain ⟨Aq_, cq_, eq_⟩ := Kd.R_slice HO_5.out; subst eq_))
                                    obtain ⟨ad206, e206, hx206_0⟩ := Kd.at_int (Kd.R_reads' HO_5.out).2.2 x11_3 p206 q206
                                    obtain rfl : ad205 = ad206 := (by injection e206)
                                    replace p206 := eq_true p206
                                    replace q206 := eq_true q206
                                    go_wp2
                                    go_roundg k3
                                    case measure => have := HK1.out; have := HK2.out; have := HK3.out; omega
                                    case rel => exact ⟨_, (x4_3), (wrap64 (x11_3 + 1)), (x192000_3), Fs, H', ⟨by have := HK1.out; have := HK2.out; have := HK3.out; omega⟩, ⟨S1 HO_4⟩, ⟨R1 HO_5⟩, ⟨R1 HO_61⟩, ⟨B1 BK190⟩, ⟨B1 BK191⟩, ⟨B1 BK4⟩, ⟨Hb⟩⟩
                                  · rw [if_neg c43] at H
                                    have c43b0 : ((Go.bits .and .u64 (rd t196 x63_2) (rd t196 x11_3)) == 0) = false := beq_eq_false_iff_ne.mpr c43
                                    have c43b1 : ((Go.bits .and .u64 (rd t196 x63_2) (rd t196 x11_3)) != 0) = true := bne_iff_ne.mpr c43
                                    by_cases c44 : (x4_3.length : Int) = 20000
                                    · rw [if_pos c44] at H
                                      have c44b0 : ((x4_3.length : Int) == 20000) = true := beq_iff_eq.mpr c44
                                      have c44b1 : ((x4_3.length : Int) != 20000) = false := bne_eq_false_iff_eq.mpr c44
                                      clear c44
                                      simp only [Option.some.injEq, Prod.mk.injEq] at H
                                      obtain ⟨rfl, rfl, rfl⟩ := H
                                      have p206 : 0 ≤ (x11_3 : Int) := oD
                                      have q206 : x11_3 < (t196.length : Int) := oD
                                      (try (obtain ⟨Aq_, cq_, eq_⟩ := Kd.R_slice HO_5.out; subst eq_))
                                      obtain ⟨ad206, e206, hx206_0⟩ := Kd.at_int (Kd.R_reads' HO_5.out).2.2 x11_3 p206 q206
                                      obtain rfl : ad205 = ad206 := (by injection e206)
                                      replace p206 := eq_true p206
                                      replace q206 := eq_true q206
                                      obtain ⟨Ao45, co45, eo45⟩ := Kd.S_slice HO_4.out
                                      subst eo45
                                      have hq22 : wr.cell? ⟨gO, 1, none⟩ = some (.slice Ao45 x4_3.length co45) := bc BK4
                                      have hnb46 := NB191_190.out
                                      have hnc46 := NB190_191.out
                                      have hcz47_0 : wr.cell? ⟨gb191, 0, none⟩ = some (.int .i64 x192000_3) := bc BK191
                                      have hcz47_1 : wr.cell? ⟨gb191, 1, none⟩ = some (.slice none 0 0) := bc BK191
                                      have hfz47_0 := blk_frozen BK191.out 0
                                      have hfz47_1 := blk_frozen BK191.out 1
                                      go_wp2
                                      refine bodyPost_ret (results_ct rfl _ _ gb191 27 #[.int .i64 0, .slice none 0 0] (0, 0) _ rfl (by (with_reducible repeat (first | refine blk_drewN ?_ _ | refine blk_drew ?_ | refine blk_alloc ?_ _)); refine blk_put (cs := #[.int .i64 0, .slice none 0 0]) ?_ 1 _ rfl; (with_reducible repeat (first | refine blk_drewN ?_ _ | refine blk_drew ?_ | refine blk_alloc ?_ _)); refine blk_put (cs := #[.int .i64 x192000_3, .slice none 0 0]) ?_ 0 _ rfl; (with_reducible repeat (first | refine blk_drewN ?_ _ | refine blk_drew ?_ | refine blk_alloc ?_ _)); exact BK191.out) Try.underlying27 rfl (by kernel_rfl)) rfl ?_
                                      exact ⟨_, Fin, by first | exact Kd.S_nil _ _ _ _ _ | exact Kd.N_nil _ _ _ _ _ | exact Kd.V_nil _ _ _ _ _ | exact Kd.Q_nil _ _ _ _ _ | exact Kd.R_nil _ _ _ _ _, Hb⟩
                                    · rw [if_neg c44] at H
                                      have c44b0 : ((x4_3.length : Int) == 20000) = false := beq_eq_false_iff_ne.mpr c44
                                      have c44b1 : ((x4_3.length : Int) != 20000) = true := bne_iff_ne.mpr c44
                                      obtain ⟨y207, hy207⟩ : ∃ y_ : List Int, y_ = (([wrap64 ((wrap64 (-x63_2)) - 1), wrap64 ((wrap64 (-x11_3)) - 1)] : List Int)) := ⟨_, rfl⟩
                                      replace H : (if x4_3.length < 5864062014805 then (impl_FormulaOfCover.l3 k3 (x4_3 ++ [y207]) t196 x63_2 (rd t196 x63_2) (wrap64 (x11_3 + 1)) t196 (t196.length : Int) x63_2 a0_0 a0_1 l0_2) else (none)) = some (r1, r2, r3) := by first | (rw [hy207]; with_reducible exact H) | (have H2_ := (Option.bind_some _ _).symm.trans H; rw [hy207]; with_reducible exact H2_) | (have H2_ := (Option.bind_some _ _).symm.trans H; with_reducible exact H2_) | with_reducible exact H | (rw [hy207]; exact H) | exact H
                                      have Ny207 := Aside0.mk hy207
                                      clear hy207
                                      by_cases c48 : x4_3.length < 5864062014805
                                      · rw [if_pos c48] at H
                                        have LMc48 := Aside0.mk c48
                                        clear c48
                                        obtain ⟨y210, hy210⟩ : ∃ y_ : List (List Int), y_ = (x4_3 ++ [y207]) := ⟨_, rfl⟩
                                        replace H : (impl_FormulaOfCover.l3 k3 y210 t196 x63_2 (rd t196 x63_2) (wrap64 (x11_3 + 1)) t196 (t196.length : Int) x63_2 a0_0 a0_1 l0_2) = some (r1, r2, r3) := by first | (rw [hy210]; with_reducible exact H) | (have H2_ := (Option.bind_some _ _).symm.trans H; rw [hy210]; with_reducible exact H2_) | (have H2_ := (Option.bind_some _ _).symm.trans H; with_reducible exact H2_) | with_reducible exact H | (rw [hy210]; exact H) | exact H
                                        have Ny210 := Aside0.mk hy210
                                        clear hy210
                                        have H' := Aside0.mk H
                                        clear H
                                        have p206 : 0 ≤ (x11_3 : Int) := oD
                                        have q206 : x11_3 < (t196.length : Int) := oD
                                        (try (obtain ⟨Aq_, cq_, eq_⟩ := Kd.R_slice HO_5.out; subst eq_))
                                        obtain ⟨ad206, e206, hx206_0⟩ := Kd.at_int (Kd.R_reads' HO_5.out).2.2 x11_3 p206 q206
                                        obtain rfl : ad205 = ad206 := (by injection e206)
                                        replace p206 := eq_true p206
                                        replace q206 := eq_true q206
                                        obtain ⟨Ao49, co49, eo49⟩ := Kd.S_slice HO_4.out
                                        subst eo49
                                        have hq24 : wr.cell? ⟨gO, 1, none⟩ = some (.slice Ao49 x4_3.length co49) := bc BK4
                                        go_wp2_with (first | ((with_reducible refine gD 96 ?_); refine Kd.R_lit (Kd.int .i64) _ 2 ?hg (N := 96) ?hd (xs := ([wrap64 ((wrap64 (-x63_2)) - 1), wrap64 ((wrap64 (-x11_3)) - 1)] : List Int)) (inner := [.int .i64 (wrap64 ((wrap64 (-x63_2)) - 1)), .int .i64 (wrap64 ((wrap64 (-x11_3)) - 1))]) (ok := fun _ => True) (okp := fun _ => True) ?hr ?hp (fun _ hk => hk) trivial (Below.refl _ _) (Nat.le_refl _) (by simp) ?_; (case hd => rfl); (case hg => rfl); (case hr => first | (go_simp; done) | (go_simp; rfl)); (case hp => exact (Reps.one (show Kd.M (Kd.int .i64) _ _ _ (wrap64 ((wrap64 (-x63_2)) - 1)) [.int .i64 (wrap64 ((wrap64 (-x63_2)) - 1))] from rfl) (Reps.one (show Kd.M (Kd.int .i64) _ _ _ (wrap64 ((wrap64 (-x11_3)) - 1)) [.int .i64 (wrap64 ((wrap64 (-x11_3)) - 1))] from rfl) (Reps.none _ _)))); intro v208 w50 ho51 hb hg_ hnew_; clear hg_ hnew_; (first | rw [← Ny207.out] at ho51 | (simp only [Int.reduceToNat] at ho51; rw [← Ny207.out] at ho51)); replace HO_4 := Aside0.mk (Kd.S_elder' (S1 HO_4) (Kd.R_base ho51) hb); replace HO_5 := Aside0.mk (Kd.R_below (R1 HO_5) hb); replace HO_61 := Aside0.mk (Kd.R_below (R1 HO_61) hb); have HO209 := Aside0.mk (Kd.R_lower ho51 (below_size Hb)); replace BK190 := Aside0.mk (blk_below (B1 BK190) hb); replace BK191 := Aside0.mk (blk_below (B1 BK191) hb); replace BK4 := Aside0.mk (blk_below (B1 BK4) hb); replace HB := Aside0.mk (below_step Hb hb); clear hb ho51; obtain ⟨Ao53, co53, eo53⟩ := Kd.R_slice HO209.out; subst eo53) | ((with_reducible refine gate_builtin (b := .append) (xs := #[.tmp 89, .tmp 97]) rfl ?_); at_builtin; refine Kd.S_append (Kd.slice 2 (Kd.int .i64)) (w0 := w) w.heap.size rfl (.tmp 89) (.tmp 97) 22 43 (.slice none 0 0) 24 rfl Try.underlying22 info43 rfl (by decide) (by omega) (.slice Ao49 x4_3.length co49) x4_3 y207 [.slice Ao53 y207.length co53] (fun _ => True) (fun k_ => some k_ = (.slice Ao53 y207.length co53 : Value).ownBlock) rfl rfl ?aP (fun k_ hk_ => ((Kd.R_mono (ok' := fun k_ => ((fun _ => True)) k_ ∧ some k_ ≠ (.slice Ao49 x4_3.length co49 : Value).ownBlock) (Kd.R_apart' (HO209.out) (Kd.S_typed HO_4.out) (by decide)) (fun k_ hk => ⟨trivial, hk.2⟩))).1 k_ hk_.symm) ?aF ?aO ?aB ?aS ?aL ?_; (case aP => exact Kd.M_row (Kd.R_mono (Kd.R_tight rfl (Kd.R_mono (ok' := fun k_ => ((fun _ => True)) k_ ∧ some k_ ≠ (.slice Ao49 x4_3.length co49 : Value).ownBlock) (Kd.R_apart' (HO209.out) (Kd.S_typed HO_4.out) (by decide)) (fun k_ hk => ⟨trivial, hk.2⟩))) (fun _ h_ => h_))); (case aB => exact Hb); (case aF => exact (fun _ _ => trivial)); (case aO => exact (by (with_reducible repeat (first | apply Kd.S_alloc | apply Kd.S_drewN | apply Kd.S_drew)); exact Kd.S_mono HO_4.out (fun k_ hk => ⟨trivial, fun e_ => hk.2 e_⟩))); (case aS => exact (below_size Hb)); (case aL => have := LMc48.out; omega); intro v211 w52 ho hb hg hat; rw [← Ny210.out] at ho; replace HO_5 := Aside0.mk (Kd.R_over' (R1 HO_5) (Kd.S_typed (S1 HO_4)) (by decide) hg); replace HO_61 := Aside0.mk (Kd.R_over' (R1 HO_61) (Kd.S_typed (S1 HO_4)) (by decide) hg); replace BK190 := Aside0.mk (blk_grown (B1 BK190) hg (Kd.S_ne HO_4.out BK190.out (by decide))); replace BK191 := Aside0.mk (blk_grown (B1 BK191) hg (Kd.S_ne HO_4.out BK191.out (by decide))); replace BK4 := Aside0.mk (blk_grown (B1 BK4) hg (Kd.S_ne HO_4.out BK4.out (by decide))); replace HB := Aside0.mk (hb); have HO212 := Aside0.mk (ho); clear HO_4; clear HO209; clear ho hb hg hat; obtain ⟨Ao54, co54, eo54⟩ := Kd.S_slice HO212.out; subst eo54; have hq52 : w52.cell? ⟨gO, 1, none⟩ = some (.slice Ao49 x4_3.length co49) := bc BK4; have hfq52 := blk_frozen BK4.out 1))
                                        go_roundg k3
                                        case measure => have := HK1.out; have := HK2.out; have := HK3.out; omega
                                        case rel => exact ⟨_, (y210), (wrap64 (x11_3 + 1)), (x192000_3), Fs, H', ⟨by have := HK1.out; have := HK2.out; have := HK3.out; omega⟩, ⟨Kd.S_mono (Kd.S_far (p := ⟨gO, 1, none⟩) (Kd.S_types HO212.out BK4.out (by decide)) (fun _ hk => hk.2) _) (fun _ _ => trivial)⟩, ⟨Kd.R_mono (Kd.R_far (p := ⟨gO, 1, none⟩) (Kd.R_types HO_5.out BK4.out (by decide)) (fun _ hk => hk.2) _) (fun _ _ => trivial)⟩, ⟨Kd.R_mono (Kd.R_far (p := ⟨gO, 1, none⟩) (Kd.R_types HO_61.out BK4.out (by decide)) (fun _ hk => hk.2) _) (fun _ _ => trivial)⟩, ⟨blk_far BK190.out NB190_4.out _⟩, ⟨blk_far BK191.out NB191_4.out _⟩, ⟨blk_put BK4.out 1 _ rfl⟩, ⟨below_set Hb GW4.out⟩⟩
                                      · rw [if_neg c48] at H
                                        exact absurd H (by simp)
                                · rw [if_neg c42] at H
                                  exact absurd H (by simp)
                              · rw [if_neg c41] at H
                                have c41b0 : decide (x11_3 < (t196.length : Int)) = false := decide_eq_false c41
                                clear c41
                                have H' := Aside0.mk H
                                clear H
                                go_wp2
                                go_roundg k3
                                case measure => have := HK1.out; have := HK2.out; have := HK3.out; omega
                                case rel => exact ⟨_, (x4_3), (wrap64 (x63_2 + 1)), (x192000_3), Fs, H', ⟨by have := HK1.out; have := HK2.out; have := HK3.out; omega⟩, ⟨S1 HO_4⟩, ⟨R1 HO_5⟩, ⟨R1 HO_61⟩, ⟨B1 BK190⟩, ⟨B1 BK191⟩, ⟨B1 BK4⟩, ⟨Hb⟩⟩
                        · rw [if_neg c40] at H
                          exact absurd H (by simp)
                      · rw [if_neg c39] at H
                        exact absurd H (by simp)
                    · rw [if_neg c38] at H
                      have c38b0 : decide (x63_2 < (t196.length : Int)) = false := decide_eq_false c38
                      clear c38
                      simp only [Option.some.injEq, Prod.mk.injEq] at H
                      obtain ⟨rfl, rfl, rfl⟩ := H
                      have hnb54 := NB190_191.out
                      have hnc54 := NB191_190.out
                      have hcz55_0 : wr.cell? ⟨gb190, 0, none⟩ = some (.int .i64 a0_0) := bc BK190
                      have hcz55_1 : wr.cell? ⟨gb190, 1, none⟩ = some (.int .i64 a0_1) := bc BK190
                      have hcz55_2 : wr.cell? ⟨gb190, 2, none⟩ = some (.slice A0_2 l0_2.length c0_2) := bc BK190
                      have hfz55_0 := blk_frozen BK190.out 0
                      have hfz55_1 := blk_frozen BK190.out 1
                      have hfz55_2 := blk_frozen BK190.out 2
                      obtain ⟨Ao56, co56, eo56⟩ := Kd.S_slice HO_4.out
                      subst eo56
                      have hq56_0 : wr.cell? ⟨gO, 0, none⟩ = some (.int .i64 (l0_2.length : Int)) := bc BK4
                      have hq56_1 : wr.cell? ⟨gO, 1, none⟩ = some (.slice Ao56 x4_2.length co56) := bc BK4
                      have hcz57_0 : wr.cell? ⟨gb191, 0, none⟩ = some (.int .i64 x192000_2) := bc BK191
                      have hcz57_1 : wr.cell? ⟨gb191, 1, none⟩ = some (.slice none 0 0) := bc BK191
                      have hfz57_0 := blk_frozen BK191.out 0
                      have hfz57_1 := blk_frozen BK191.out 1
                      go_wp2
                      refine bodyPost_ret (results_ct rfl _ _ gb191 27 #[.int .i64 (l0_2.length : Int), .slice Ao56 x4_2.length co56] (0, 0) _ rfl (by (with_reducible repeat (first | refine blk_drewN ?_ _ | refine blk_drew ?_ | refine blk_alloc ?_ _)); refine blk_put (cs := #[.int .i64 (l0_2.length : Int), .slice none 0 0]) ?_ 1 _ rfl; (with_reducible repeat (first | refine blk_drewN ?_ _ | refine blk_drew ?_ | refine blk_alloc ?_ _)); refine blk_put (cs := #[.int .i64 x192000_2, .slice none 0 0]) ?_ 0 _ rfl; (with_reducible repeat (first | refine blk_drewN ?_ _ | refine blk_drew ?_ | refine blk_alloc ?_ _)); exact BK191.out) Try.underlying27 rfl (by kernel_rfl)) rfl ?_
                      exact ⟨_, Fin, by (with_reducible repeat (first | apply Kd.S_alloc | apply Kd.S_drewN | apply Kd.S_drew)); exact Kd.S_mono (Kd.S_far (p := ⟨gb191, 1, none⟩) (Kd.S_far (p := ⟨gb191, 0, none⟩) (Kd.S_types HO_4.out BK191.out (by decide)) (fun _ hk => hk.2) (.int .i64 (l0_2.length : Int))) (fun _ hk => hk.2) (.slice Ao56 x4_2.length co56)) (fun _ hk => trivial), Hb⟩
      · rw [if_neg c5] at H
        exact absurd H (by simp)
    · rw [if_neg c4] at H
      exact absurd H (by simp)
  · replace c3 := Bool.eq_false_iff.mpr c3
    subst c3
    rw [if_neg (show ¬ (false = true) by decide)] at H
    simp only [Option.some.injEq, Prod.mk.injEq] at H
    obtain ⟨rfl, rfl, rfl⟩ := H
    go_enter Try.func7, Try.ntmps7
    go_wp2_with (first | ((with_reducible refine gD 1 ?_); refine BX #[.int .i64 a0_0, .int .i64 a0_1, .slice A0_2 l0_2.length c0_2] 30 ?_; intro gb190 hg w58 hbox hb; have BK190 := Aside0.mk (hbox); have GW190 := Aside0.mk ((Gle hg Hb : w.heap.size ≤ gb190)); have GE190 := Aside0.mk ((Gle hg Hb : w.heap.size ≤ gb190)); replace HB := Aside0.mk (below_step Hb hb); clear hb hbox hg) | ((with_reducible refine gD 2 ?_); refine BX #[.int .i64 0, .slice none 0 0] 27 ?_; intro gb191 hg w59 hbox hb; have BK191 := Aside0.mk (hbox); have GW191 := Aside0.mk ((Gle hg Hb : w.heap.size ≤ gb191)); have GE191 := Aside0.mk ((Gle hg Hb : w.heap.size ≤ gb191)); replace HB := Aside0.mk (below_step Hb hb); have NB190_191 := Aside0.mk ((by rw [hg]; exact Nat.ne_of_lt (blk_lt (B1 BK190)) : gb190 ≠ gb191)); have NB191_190 := Aside0.mk ((by rw [hg]; exact Nat.ne_of_gt (blk_lt (B1 BK190)) : gb191 ≠ gb190)); replace BK190 := Aside0.mk (blk_below (B1 BK190) hb); clear hb hbox hg; have hnb60 := NB190_191.out; have hnc60 := NB191_190.out; have hcz61_0 : w59.cell? ⟨gb190, 0, none⟩ = some (.int .i64 a0_0) := bc BK190; have hcz61_1 : w59.cell? ⟨gb190, 1, none⟩ = some (.int .i64 a0_1) := bc BK190; have hcz61_2 : w59.cell? ⟨gb190, 2, none⟩ = some (.slice A0_2 l0_2.length c0_2) := bc BK190; have hfz61_0 := blk_frozen BK190.out 0; have hfz61_1 := blk_frozen BK190.out 1; have hfz61_2 := blk_frozen BK190.out 2) | ((with_reducible refine gC 17 ?_); refine GL (some 13) Try.func17 #[.agg #[.int .i64 a0_0, .int .i64 a0_1, .slice A0_2 l0_2.length c0_2]] ?_; (with_reducible refine (impl_IsCover.calls k a0_0 a0_1 _ _ l0_2 false _ ?side1 ?side2 A2.out).mono ?_); (case side1 => exact Kd.C_below HR0_2.out Hb); (case side2 => exact HC0_2.out); rintro e w62 ⟨rfl, hb⟩; refine ⟨_, rfl, ?_⟩; replace BK190 := Aside0.mk (blk_below (B1 BK190) hb); replace BK191 := Aside0.mk (blk_below (B1 BK191) hb); replace HB := Aside0.mk (below_step Hb hb); (try clear hb); (try clear hb2); (try clear hk); (try clear hi); have hcz63_0 : w62.cell? ⟨gb191, 0, none⟩ = some (.int .i64 0) := bc BK191; have hcz63_1 : w62.cell? ⟨gb191, 1, none⟩ = some (.slice none 0 0) := bc BK191; have hfz63_0 := blk_frozen BK191.out 0; have hfz63_1 := blk_frozen BK191.out 1))
    refine bodyPost_ret (results_ct rfl _ _ gb191 27 #[.int .i64 0, .slice none 0 0] (0, 0) _ rfl (by (with_reducible repeat (first | refine blk_drewN ?_ _ | refine blk_drew ?_ | refine blk_alloc ?_ _)); refine blk_put (cs := #[.int .i64 0, .slice none 0 0]) ?_ 1 _ rfl; (with_reducible repeat (first | refine blk_drewN ?_ _ | refine blk_drew ?_ | refine blk_alloc ?_ _)); refine blk_put (cs := #[.int .i64 0, .slice none 0 0]) ?_ 0 _ rfl; (with_reducible repeat (first | refine blk_drewN ?_ _ | refine blk_drew ?_ | refine blk_alloc ?_ _)); exact BK191.out) Try.underlying27 rfl (by kernel_rfl)) rfl ?_
    exact ⟨_, Fin, by first | exact Kd.S_nil _ _ _ _ _ | exact Kd.N_nil _ _ _ _ _ | exact Kd.V_nil _ _ _ _ _ | exact Kd.Q_nil _ _ _ _ _ | exact Kd.R_nil _ _ _ _ _, Hb⟩

end Go.Proofs.Ytccenkhokgiejaa.XFnExactFormulaOfCover
