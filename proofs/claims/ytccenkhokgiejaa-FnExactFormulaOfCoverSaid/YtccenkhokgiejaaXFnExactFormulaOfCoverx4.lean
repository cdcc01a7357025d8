-- Written by ext.py (wip/) over the kit's print: not trusted, Lean checks it.
import Derived.Test.YtccenkhokgiejaaXFnExactFormulaOfCoverx0
namespace Go.Proofs.Ytccenkhokgiejaa.XFnExactFormulaOfCover
open Go.RowKit Go.Proofs.YtccenkhokgiejaaW.PrintWords Go.Proofs.YtccenkhokgiejaaW.PrintLast Go.Proofs.YtccenkhokgiejaaW.PrintMore
attribute [local go_sem] max2_int min2_int max_two min_two max_three min_three max_four min_four   -- for this text's walks alone
set_option linter.unusedVariables false
set_option linter.unusedSimpArgs false

/-! ### impl_newCoverSearch: function 18 (a contract of ours) -/
theorem u64_nonneg (x : Int) : 0 ≤ IntKind.u64.wrap x := by
  simp only [IntKind.wrap, IntKind.signed, IntKind.bits]
  simp
  omega
/-- The required columns of a search, as bits. -/
def coverReq (n : Int) : Int := IntKind.u64.wrap (shl .u64 1 (IntKind.u64.wrap n) - 1)
mutual
def impl_newCoverSearch.l0 : Nat → List Int → List (List Int) → Int → Int → Option (List Int)
  | 0, _, _, _, _ => none
  | k + 1, x5, x20, x21, x22 => if x22 < x21 then (if 0 ≤ x22 then (if x22 < (x20.length : Int) then (impl_newCoverSearch.l1 k x5 0 x20 x21 x22 (rd_L1 x20 x22) ((rd_L1 x20 x22).length : Int) 0) else (none)) else (none)) else (some x5)
def impl_newCoverSearch.l1 : Nat → List Int → Int → List (List Int) → Int → Int → List Int → Int → Int → Option (List Int)
  | 0, _, _, _, _, _, _, _, _ => none
  | k + 1, x5, x8, x20, x21, x22, x26, x27, x28 => if x28 < x27 then (if 0 ≤ x28 then (if x28 < (x26.length : Int) then (if 0 ≤ (IntKind.u64.wrap (rd x26 x28)) then (impl_newCoverSearch.l1 k x5 (Go.bits .or .u64 x8 (shl .u64 1 (IntKind.u64.wrap (rd x26 x28)))) x20 x21 x22 x26 x27 (wrap64 (x28 + 1))) else (none)) else (none)) else (none)) else (if x5.length < 17592186044416 then (impl_newCoverSearch.l0 k (x5 ++ [x8]) x20 x21 (wrap64 (x22 + 1))) else (none))
end
def impl_newCoverSearch.f (k : Nat) (a0_0 : Int) (a0_1 : Int) (l0_2 : List (List Int)) : Option (List Int) := impl_newCoverSearch.l0 k ([] : List Int) l0_2 (l0_2.length : Int) 0
theorem impl_newCoverSearch.mono_l : ∀ k, (∀ y0 y1 y2 y3, LeO (impl_newCoverSearch.l0 k y0 y1 y2 y3) (impl_newCoverSearch.l0 (k + 1) y0 y1 y2 y3)) ∧ (∀ y0 y1 y2 y3 y4 y5 y6 y7, LeO (impl_newCoverSearch.l1 k y0 y1 y2 y3 y4 y5 y6 y7) (impl_newCoverSearch.l1 (k + 1) y0 y1 y2 y3 y4 y5 y6 y7))
  | 0 => ⟨fun _ _ _ _ r h => by simp [impl_newCoverSearch.l0] at h, fun _ _ _ _ _ _ _ _ r h => by simp [impl_newCoverSearch.l1] at h⟩
  | k + 1 => by
    obtain ⟨ih0, ih1⟩ := impl_newCoverSearch.mono_l k
    refine ⟨?_, ?_⟩
    · intro y0 y1 y2 y3
      unfold impl_newCoverSearch.l0
      repeat' first
      | (with_reducible exact ih0 _ _ _ _)
      | (with_reducible exact ih1 _ _ _ _ _ _ _ _)
      | (with_reducible exact LeO.refl _)
      | (with_reducible exact LeO.none _)
      | (with_reducible refine LeO.ite ?_ ?_)
      | (with_reducible refine LeO.bind ?_ (fun _ => ?_))
      | exact ih0 _ _ _ _
      | exact ih1 _ _ _ _ _ _ _ _
      | exact LeO.none _
      | refine LeO.ite ?_ ?_
      | refine LeO.bind ?_ (fun _ => ?_)
    · intro y0 y1 y2 y3 y4 y5 y6 y7
      unfold impl_newCoverSearch.l1
      repeat' first
      | (with_reducible exact ih0 _ _ _ _)
      | (with_reducible exact ih1 _ _ _ _ _ _ _ _)
      | (with_reducible exact LeO.refl _)
      | (with_reducible exact LeO.none _)
      | (with_reducible refine LeO.ite ?_ ?_)
      | (with_reducible refine LeO.bind ?_ (fun _ => ?_))
      | exact ih0 _ _ _ _
      | exact ih1 _ _ _ _ _ _ _ _
      | exact LeO.none _
      | refine LeO.ite ?_ ?_
      | refine LeO.bind ?_ (fun _ => ?_)
theorem impl_newCoverSearch.mono : ∀ a0 a1 a2 k, LeO (impl_newCoverSearch.f k a0 a1 a2) (impl_newCoverSearch.f (k + 1) a0 a1 a2) := by
  intro a0 a1 a2 k
  obtain ⟨ih0, ih1⟩ := impl_newCoverSearch.mono_l k
  unfold impl_newCoverSearch.f
  repeat' first
      | (with_reducible exact ih0 _ _ _ _)
      | (with_reducible exact ih1 _ _ _ _ _ _ _ _)
      | (with_reducible exact LeO.refl _)
      | (with_reducible exact LeO.none _)
      | (with_reducible refine LeO.ite ?_ ?_)
      | (with_reducible refine LeO.bind ?_ (fun _ => ?_))
      | exact ih0 _ _ _ _
      | exact ih1 _ _ _ _ _ _ _ _
      | exact LeO.none _
      | refine LeO.ite ?_ ?_
      | refine LeO.bind ?_ (fun _ => ?_)
set_option maxHeartbeats 8000000 in
set_option maxRecDepth 100000 in
theorem impl_newCoverSearch.calls (k : Nat) (a0_0 : Int) (a0_1 : Int) (A0_2 : Option Addr) (c0_2 : Nat) (l0_2 : List (List Int)) (r : List Int) (w : World) (hr0_2 : Kd.C (Kd.slice 2 (Kd.int .i64)) w A0_2 l0_2.length l0_2) (hc0_2 : l0_2.length ≤ c0_2) (h : impl_newCoverSearch.f k a0_0 a0_1 l0_2 = some r) :
    Calls Try.prog 18 #[.agg #[.int .i64 a0_0, .int .i64 a0_1, .slice A0_2 l0_2.length c0_2], .nilFunc] w fun e w' => ∃ (gS : Nat) (v0_ : Value), e = .returned (.pointer (some ⟨gS, 0, none⟩)) ∧ w'.heap[gS]? = some (.cells #[v0_, .int .u64 (coverReq a0_1), .int .i64 0, .slice none 0 0, .nilFunc, .bool false, .bool false] 46 (0, 0)) ∧ w.heap.size ≤ gS ∧ Kd.R (Kd.int .u64) 42 w' w.heap.size (fun _ => True) v0_ r ∧ Below w.heap.size w w' := by
  have hu30 := Try.underlying30
  have hu46 := Try.underlying46
  have HR0_2 := Aside0.mk hr0_2
  have HC0_2 := Aside0.mk hc0_2
  clear hr0_2 hc0_2
  have HB := Aside0.mk (Below.refl w.heap.size w)
  have H : (impl_newCoverSearch.l0 k ([] : List Int) l0_2 (l0_2.length : Int) 0) = some r := h
  clear h
  have H' := Aside0.mk H
  clear H
  obtain ⟨jq, hjq⟩ : ∃ j_ : Int, IntKind.u64.wrap a0_1 = j_ := ⟨_, rfl⟩
  have cq : 0 ≤ jq := by rw [← hjq]; exact u64_nonneg _
  have cq0 := eq_true cq
  have cq1 : decide (0 ≤ jq) = true := decide_eq_true cq
  obtain ⟨jr, hjr⟩ : ∃ j_ : Int, shl .u64 1 jq = j_ := ⟨_, rfl⟩
  have hjr_ : (IntKind.u64.wrap (1 * 2 ^ min jq.toNat 64)) = jr := hjr
  have hjrz : jq ≤ 64 → (IntKind.u64.wrap (1 * 2 ^ jq.toNat)) = jr := shl_small hjr
  have hjru : (IntKind.u64.wrap (2 ^ min jq.toNat 64)) = jr := by have h_ := hjr_; rw [Int.one_mul] at h_; exact h_
  have hjrv : jq ≤ 64 → (IntKind.u64.wrap (2 ^ jq.toNat)) = jr := fun hle_ => by have h_ := hjrz hle_; rw [Int.one_mul] at h_; exact h_
  have hreq : coverReq a0_1 = IntKind.u64.wrap (jr - 1) := by rw [← hjr, ← hjq]; rfl
  rw [hreq]
  go_enter Try.func18, Try.ntmps18
  go_wp2_with (first | ((with_reducible refine gD 2 ?_); refine BX #[.int .i64 a0_0, .int .i64 a0_1, .slice A0_2 l0_2.length c0_2] 30 ?_; intro gb184 hg w2 hbox hb; have BK184 := Aside0.mk (hbox); have GW184 := Aside0.mk ((Gle hg Hb : w.heap.size ≤ gb184)); have GE184 := Aside0.mk ((Gle hg Hb : w.heap.size ≤ gb184)); replace HB := Aside0.mk (below_step Hb hb); clear hb hbox hg; have hcz3_0 : w2.cell? ⟨gb184, 0, none⟩ = some (.int .i64 a0_0) := bc BK184; have hcz3_1 : w2.cell? ⟨gb184, 1, none⟩ = some (.int .i64 a0_1) := bc BK184; have hcz3_2 : w2.cell? ⟨gb184, 2, none⟩ = some (.slice A0_2 l0_2.length c0_2) := bc BK184; have hfz3_0 := blk_frozen BK184.out 0; have hfz3_1 := blk_frozen BK184.out 1; have hfz3_2 := blk_frozen BK184.out 2) | ((with_reducible refine gD 18 ?_); refine BX #[.slice none 0 0, .int .u64 (IntKind.u64.wrap (jr - 1)), .int .i64 0, .slice none 0 0, .nilFunc, .bool false, .bool false] 46 ?_; intro gS hg w4 hbox hb; have BKS := Aside0.mk (hbox); have GWS := Aside0.mk ((Gle hg Hb : w.heap.size ≤ gS)); replace HB := Aside0.mk (below_step Hb hb); have NBS := Aside0.mk ((by rw [hg]; exact Nat.ne_of_lt (blk_lt (B1 BK184)) : gb184 ≠ gS)); have NSB := Aside0.mk ((by rw [hg]; exact Nat.ne_of_gt (blk_lt (B1 BK184)) : gS ≠ gb184)); replace BK184 := Aside0.mk (blk_below (B1 BK184) hb); clear hb hbox hg; have hcz4_0 : w4.cell? ⟨gb184, 0, none⟩ = some (.int .i64 a0_0) := bc BK184; have hcz4_1 : w4.cell? ⟨gb184, 1, none⟩ = some (.int .i64 a0_1) := bc BK184; have hcz4_2 : w4.cell? ⟨gb184, 2, none⟩ = some (.slice A0_2 l0_2.length c0_2) := bc BK184))
  go_loopg [22] k (fun kq v22 w' => ∃ (v5 : Value) (x5_1 : List Int) (x22_1 : Int), v22 = .int .i64 x22_1 ∧ Aside0 (impl_newCoverSearch.l0 kq x5_1 l0_2 (l0_2.length : Int) x22_1 = some r) ∧ Aside0 (kq ≤ k) ∧ Aside0 (Kd.R (Kd.int .u64) 42 w' w.heap.size (fun _ => True) v5 x5_1) ∧ Aside0 (w'.heap[gS]? = some (.cells #[v5, .int .u64 (IntKind.u64.wrap (jr - 1)), .int .i64 0, .slice none 0 0, .nilFunc, .bool false, .bool false] 46 (0, 0))) ∧ Aside0 (w'.heap[gb184]? = some (.cells #[.int .i64 a0_0, .int .i64 a0_1, (.slice A0_2 l0_2.length c0_2)] 30 (0, 0))) ∧ Aside0 (Below w.heap.size w w'))
  case atStart => exact ⟨.slice none 0 0, [], (0), Fs, H', ⟨Nat.le_refl _⟩, ⟨Kd.R_nil _ _ _ _ _⟩, ⟨B1 BKS⟩, ⟨B1 BK184⟩, ⟨Hb⟩⟩
  case round =>
    clear H'
    try clear c1
    try clear p2
    try clear hcz3_0
    try clear hcz3_1
    try clear hcz3_2
    try clear hfz3_0
    try clear hfz3_1
    try clear hfz3_2
    try clear hcz4_0
    try clear hcz4_1
    try clear hcz4_2
    clear BKS
    obtain ⟨u5, x5_1, x22_1, rfl, HA, HK1, HO_5, BKS, BK184, HB⟩ := hrel
    cases gk with
    | zero => exact absurd HA.out (by simp [impl_newCoverSearch.l0])
    | succ k1 =>
      have H := HA.out
      clear HA
      simp only [impl_newCoverSearch.l0] at H
      by_cases c4 : x22_1 < (l0_2.length : Int)
      · rw [if_pos c4] at H
        have c4b0 : decide (x22_1 < (l0_2.length : Int)) = true := decide_eq_true c4
        clear c4
        by_cases c5 : 0 ≤ x22_1
        · rw [if_pos c5] at H
          have c5b0 : decide (0 ≤ x22_1) = true := decide_eq_true c5
          clear c5
          by_cases c6 : x22_1 < (l0_2.length : Int)
          · rw [if_pos c6] at H
            have c6b0 : decide (x22_1 < (l0_2.length : Int)) = true := decide_eq_true c6
            clear c6
            have H' := Aside0.mk H
            clear H
            have p185 : 0 ≤ (x22_1 : Int) := oD
            have q185 : x22_1 < (l0_2.length : Int) := oD
            obtain ⟨ad185, A185_0, c185_0, e185, hx185_0, hl185_0, hi185_0⟩ := at_L1 HR0_2.out x22_1 p185 q185
            cases e185
            replace hx185_0 := hxb hx185_0
            have HR185_0 := Aside0.mk hi185_0
            have HC185_0 := Aside0.mk hl185_0
            clear hi185_0 hl185_0
            replace p185 := eq_true p185
            replace q185 := eq_true q185
            go_wp2
            go_loopg [8, 28] k1 (fun kq v8 v28 w' => ∃ (x8_2 : Int) (x28_2 : Int), v8 = .int .u64 x8_2 ∧ v28 = .int .i64 x28_2 ∧ Aside0 (impl_newCoverSearch.l1 kq x5_1 x8_2 l0_2 (l0_2.length : Int) x22_1 (rd_L1 l0_2 x22_1) ((rd_L1 l0_2 x22_1).length : Int) x28_2 = some r) ∧ Aside0 (kq ≤ k1) ∧ Aside0 (Kd.R (Kd.int .u64) 42 w' w.heap.size (fun _ => True) u5 x5_1) ∧ Aside0 (w'.heap[gS]? = some (.cells #[u5, .int .u64 (IntKind.u64.wrap (jr - 1)), .int .i64 0, .slice none 0 0, .nilFunc, .bool false, .bool false] 46 (0, 0))) ∧ Aside0 (w'.heap[gb184]? = some (.cells #[.int .i64 a0_0, .int .i64 a0_1, (.slice (some ad185) l0_2.length c0_2)] 30 (0, 0))) ∧ Aside0 (Below w.heap.size w w'))
            case atStart => exact ⟨(0), (0), Fs, Fs, H', ⟨Nat.le_refl _⟩, ⟨R1 HO_5⟩, ⟨B1 BKS⟩, ⟨B1 BK184⟩, ⟨Hb⟩⟩
            case round =>
              clear H'
              try clear c1
              try clear p1
              try clear q1
              try clear hx1
              try clear p2
              try clear c4
              try clear c4b0
              try clear c5
              try clear c5b0
              try clear c6
              try clear c6b0
              try clear hcz3_0
              try clear hcz3_1
              try clear hcz3_2
              try clear hfz3_0
              try clear hfz3_1
              try clear hfz3_2
              try clear hx185_0
              try clear p185
              try clear p2
              try clear q185
              clear BKS
              obtain ⟨x8_2, x28_2, rfl, rfl, HA, HK2, HO_5, BKS, BK184, HB⟩ := hrel
              cases gk with
              | zero => exact absurd HA.out (by simp [impl_newCoverSearch.l1])
              | succ k2 =>
                have H := HA.out
                clear HA
                simp only [impl_newCoverSearch.l1] at H
                by_cases c7 : x28_2 < ((rd_L1 l0_2 x22_1).length : Int)
                · rw [if_pos c7] at H
                  have c7b0 : decide (x28_2 < ((rd_L1 l0_2 x22_1).length : Int)) = true := decide_eq_true c7
                  clear c7
                  by_cases c8 : 0 ≤ x28_2
                  · rw [if_pos c8] at H
                    have c8b0 : decide (0 ≤ x28_2) = true := decide_eq_true c8
                    clear c8
                    by_cases c9 : x28_2 < ((rd_L1 l0_2 x22_1).length : Int)
                    · rw [if_pos c9] at H
                      have c9b0 : decide (x28_2 < ((rd_L1 l0_2 x22_1).length : Int)) = true := decide_eq_true c9
                      clear c9
                      obtain ⟨ji10, hji10⟩ : ∃ j_ : Int, (IntKind.u64.wrap (rd (rd_L1 l0_2 x22_1) x28_2)) = j_ := ⟨_, rfl⟩
                      replace H : (if 0 ≤ (ji10) then (impl_newCoverSearch.l1 k2 x5_1 (Go.bits .or .u64 x8_2 (shl .u64 1 (ji10))) l0_2 (l0_2.length : Int) x22_1 (rd_L1 l0_2 x22_1) ((rd_L1 l0_2 x22_1).length : Int) (wrap64 (x28_2 + 1))) else (none)) = some r := by first | (rw [hji10] at H; exact H) | (simp only [hji10] at H ⊢; exact H)
                      by_cases c11 : 0 ≤ (ji10)
                      · rw [if_pos c11] at H
                        have c11b0 := eq_true c11
                        have c11b1 : decide (0 ≤ (ji10)) = true := decide_eq_true c11
                        clear c11
                        obtain ⟨ji12, hji12⟩ : ∃ j_ : Int, (shl .u64 1 (ji10)) = j_ := ⟨_, rfl⟩
                        replace H : (impl_newCoverSearch.l1 k2 x5_1 (Go.bits .or .u64 x8_2 (ji12)) l0_2 (l0_2.length : Int) x22_1 (rd_L1 l0_2 x22_1) ((rd_L1 l0_2 x22_1).length : Int) (wrap64 (x28_2 + 1))) = some r := by first | (rw [hji12] at H; exact H) | (simp only [hji12] at H ⊢; exact H)
                        have hji12_ : (IntKind.u64.wrap (1 * 2 ^ min (ji10).toNat 64)) = ji12 := hji12
                        have hji12z : (ji10) ≤ 64 → (IntKind.u64.wrap (1 * 2 ^ (ji10).toNat)) = ji12 := shl_small hji12
                        have hji12u : (IntKind.u64.wrap (2 ^ min (ji10).toNat 64)) = ji12 := by have h_ := hji12_; rw [Int.one_mul] at h_; exact h_
                        have hji12v : (ji10) ≤ 64 → (IntKind.u64.wrap (2 ^ (ji10).toNat)) = ji12 := fun hle_ => by have h_ := hji12z hle_; rw [Int.one_mul] at h_; exact h_
                        have H' := Aside0.mk H
                        clear H
                        have p186 : 0 ≤ (x28_2 : Int) := oD
                        have q186 : x28_2 < ((rd_L1 l0_2 x22_1).length : Int) := oD
                        obtain ⟨ad186, e186, hx186_0⟩ := Kd.at_int HR185_0.out x28_2 p186 q186
                        cases e186
                        replace hx186_0 := hxb hx186_0
                        replace p186 := eq_true p186
                        replace q186 := eq_true q186
                        go_wp2
                        go_roundg k2
                        case measure => have := HK1.out; have := HK2.out; omega
                        case rel => exact ⟨(Go.bits .or .u64 x8_2 (ji12)), (wrap64 (x28_2 + 1)), (by first | rfl | (simp; done) | (simp only [← hji12] <;> (first | rfl | simp)) | (simp [*]; done)), Fs, H', ⟨by have := HK1.out; have := HK2.out; omega⟩, ⟨R1 HO_5⟩, ⟨B1 BKS⟩, ⟨B1 BK184⟩, ⟨Hb⟩⟩
                      · rw [if_neg c11] at H
                        exact absurd H (by simp)
                    · rw [if_neg c9] at H
                      exact absurd H (by simp)
                  · rw [if_neg c8] at H
                    exact absurd H (by simp)
                · rw [if_neg c7] at H
                  have c7b0 : decide (x28_2 < ((rd_L1 l0_2 x22_1).length : Int)) = false := decide_eq_false c7
                  clear c7
                  by_cases c13 : x5_1.length < 17592186044416
                  · rw [if_pos c13] at H
                    have LMc13 := Aside0.mk c13
                    clear c13
                    obtain ⟨y187, hy187⟩ : ∃ y_ : List Int, y_ = (x5_1 ++ [x8_2]) := ⟨_, rfl⟩
                    replace H : (impl_newCoverSearch.l0 k2 y187 l0_2 (l0_2.length : Int) (wrap64 (x22_1 + 1))) = some r := by first | (rw [hy187]; with_reducible exact H) | (have H2_ := (Option.bind_some _ _).symm.trans H; rw [hy187]; with_reducible exact H2_) | (have H2_ := (Option.bind_some _ _).symm.trans H; with_reducible exact H2_) | with_reducible exact H | (rw [hy187]; exact H) | exact H
                    have Ny187 := Aside0.mk hy187
                    clear hy187
                    have H' := Aside0.mk H
                    clear H
                    obtain ⟨Ao8, co8, eo8⟩ := Kd.R_slice HO_5.out
                    subst eo8
                    have hcr_0 : wr.cell? ⟨gS, 0, none⟩ = some (.slice Ao8 x5_1.length co8) := bc BKS
                    have hfr_0 := blk_frozen BKS.out 0
                    go_wp2_with (first | ((with_reducible refine gate_builtin (b := .append) (xs := #[.tmp 42, .tmp 44]) rfl ?_); at_builtin; refine Kd.R_append (Kd.int .u64) (w0 := w) w.heap.size rfl (.tmp 42) (.tmp 44) 41 42 (.int .u64 0) 8 rfl Try.underlying41 info42 rfl (by decide) (by omega) (.slice Ao8 x5_1.length co8) x5_1 x8_2 [.int .u64 x8_2] (fun _ => True) (fun _ => False) rfl rfl ?aP (fun _ hk => hk.elim) ?aF ?aO ?aB ?aS ?aL ?_; (case aP => exact rfl); (case aB => exact Hb); (case aF => exact (fun _ _ => trivial)); (case aO => exact (R1 HO_5)); (case aS => exact (below_size Hb)); (case aL => have := LMc13.out; omega); intro v188 w14 ho hb hg hat; rw [← Ny187.out] at ho; replace BK184 := Aside0.mk (blk_grown (B1 BK184) hg (Kd.R_ne HO_5.out BK184.out (by decide))); replace HB := Aside0.mk (hb); have HO189 := Aside0.mk (ho); replace BKS := Aside0.mk (blk_grown (B1 BKS) hg (Kd.R_ne HO_5.out BKS.out (by decide))); clear HO_5; clear ho hb hg hat; have hcs_0 : w14.cell? ⟨gS, 0, none⟩ = some (.slice Ao8 x5_1.length co8) := bc BKS; have hfs_0 := blk_frozen BKS.out 0; obtain ⟨Ao9, co9, eo9⟩ := Kd.R_slice HO189.out; subst eo9))
                    go_roundg k2
                    case measure => have := HK1.out; have := HK2.out; omega
                    case rel => exact ⟨_, (y187), (wrap64 (x22_1 + 1)), Fs, H', ⟨by have := HK1.out; have := HK2.out; omega⟩, ⟨Kd.R_mono (Kd.R_far (p := ⟨gS, 0, none⟩) (Kd.R_types HO189.out BKS.out (by decide)) (fun _ hk => hk.2) _) (fun _ hk => hk.1)⟩, ⟨blk_put BKS.out 0 _ rfl⟩, ⟨blk_far BK184.out NBS.out _⟩, ⟨below_set Hb GWS.out⟩⟩
                  · rw [if_neg c13] at H
                    exact absurd H (by simp)
          · rw [if_neg c6] at H
            exact absurd H (by simp)
        · rw [if_neg c5] at H
          exact absurd H (by simp)
      · rw [if_neg c4] at H
        have c4b0 : decide (x22_1 < (l0_2.length : Int)) = false := decide_eq_false c4
        clear c4
        obtain rfl := Option.some.inj H
        go_wp2
        go_ret
        first | exact ⟨gS, Fin, u5, B1 BKS, GWS.out, R1 HO_5, Hb⟩ | exact ⟨gS, Fin, u5, B1 BKS, R1 HO_5, GWS.out, Hb⟩ | exact ⟨gS, Fin, GWS.out, u5, B1 BKS, R1 HO_5, Hb⟩ | exact ⟨gS, Fin, GWS.out, Hb, u5, B1 BKS, R1 HO_5⟩

end Go.Proofs.Ytccenkhokgiejaa.XFnExactFormulaOfCover
