-- Written by ext.py (wip/) over the kit's print: not trusted, Lean checks it.
import Derived.Test.YtafghfkdkjiafaaXFnExactColourCountsx0
namespace Go.Proofs.Ytafghfkdkjiafaa.XFnExactColourCounts
open Go.RowKit Go.Proofs.YtafghfkdkjiafaaW.PrintWords Go.Proofs.YtafghfkdkjiafaaW.PrintLast Go.Proofs.YtafghfkdkjiafaaW.PrintMore
attribute [local go_sem] max2_int min2_int max_two min_two max_three min_three max_four min_four   -- for this text's walks alone
set_option linter.unusedVariables false
set_option linter.unusedSimpArgs false

/-! ### laws_toCell: function 17 -/
def laws_toCell.f (a0_0 : Int) (a0_1 : Int) : Option (Int × Int) := some (a0_0, a0_1)
set_option maxHeartbeats 8000000 in
set_option maxRecDepth 100000 in
theorem laws_toCell.calls (a0_0 : Int) (a0_1 : Int) (r1 : Int) (r2 : Int) (w : World) (h : laws_toCell.f a0_0 a0_1 = some (r1, r2)) :
    Calls Try.prog 17 #[.agg #[.int .i64 a0_0, .int .i64 a0_1]] w fun e w' => e = .returned (.agg #[.int .i64 r1, .int .i64 r2]) ∧ Below w.heap.size w w' := by
  have hu44 := Try.underlying44
  have hu42 := Try.underlying42
  have HB := Aside0.mk (Below.refl w.heap.size w)
  have H : (some (a0_0, a0_1)) = some (r1, r2) := h
  clear h
  simp only [Option.some.injEq, Prod.mk.injEq] at H
  obtain ⟨rfl, rfl⟩ := H
  go_enter Try.func17, Try.ntmps17
  go_wp2_with (first | ((with_reducible refine gD 1 ?_); refine BX #[.int .i64 a0_0, .int .i64 a0_1] 44 ?_; intro gb131 hg w2 hbox hb; have BK131 := Aside0.mk (hbox); have GW131 := Aside0.mk ((Gle hg Hb : w.heap.size ≤ gb131)); have GE131 := Aside0.mk ((Gle hg Hb : w.heap.size ≤ gb131)); replace HB := Aside0.mk (below_step Hb hb); clear hb hbox hg) | ((with_reducible refine gD 2 ?_); refine BX #[.int .i64 0, .int .i64 0] 42 ?_; intro gb132 hg w3 hbox hb; have BK132 := Aside0.mk (hbox); have GW132 := Aside0.mk ((Gle hg Hb : w.heap.size ≤ gb132)); have GE132 := Aside0.mk ((Gle hg Hb : w.heap.size ≤ gb132)); replace HB := Aside0.mk (below_step Hb hb); have NB131_132 := Aside0.mk ((by rw [hg]; exact Nat.ne_of_lt (blk_lt (B1 BK131)) : gb131 ≠ gb132)); have NB132_131 := Aside0.mk ((by rw [hg]; exact Nat.ne_of_gt (blk_lt (B1 BK131)) : gb132 ≠ gb131)); replace BK131 := Aside0.mk (blk_below (B1 BK131) hb); clear hb hbox hg) | ((with_reducible refine gD 3 ?_); refine BX #[.int .i64 0, .int .i64 0] 42 ?_; intro gb133 hg w4 hbox hb; have BK133 := Aside0.mk (hbox); have GW133 := Aside0.mk ((Gle hg Hb : w.heap.size ≤ gb133)); have GE133 := Aside0.mk ((Gle hg Hb : w.heap.size ≤ gb133)); replace HB := Aside0.mk (below_step Hb hb); have NB131_133 := Aside0.mk ((by rw [hg]; exact Nat.ne_of_lt (blk_lt (B1 BK131)) : gb131 ≠ gb133)); have NB133_131 := Aside0.mk ((by rw [hg]; exact Nat.ne_of_gt (blk_lt (B1 BK131)) : gb133 ≠ gb131)); replace BK131 := Aside0.mk (blk_below (B1 BK131) hb); have NB132_133 := Aside0.mk ((by rw [hg]; exact Nat.ne_of_lt (blk_lt (B1 BK132)) : gb132 ≠ gb133)); have NB133_132 := Aside0.mk ((by rw [hg]; exact Nat.ne_of_gt (blk_lt (B1 BK132)) : gb133 ≠ gb132)); replace BK132 := Aside0.mk (blk_below (B1 BK132) hb); clear hb hbox hg; have hnb5 := NB131_132.out; have hnc5 := NB132_131.out; have hnb6 := NB131_133.out; have hnc6 := NB133_131.out; have hcz7_0 : w4.cell? ⟨gb131, 0, none⟩ = some (.int .i64 a0_0) := bc BK131; have hcz7_1 : w4.cell? ⟨gb131, 1, none⟩ = some (.int .i64 a0_1) := bc BK131; have hfz7_0 := blk_frozen BK131.out 0; have hfz7_1 := blk_frozen BK131.out 1; have hnb8 := NB133_132.out; have hnc8 := NB132_133.out; have hcz9_0 : w4.cell? ⟨gb133, 0, none⟩ = some (.int .i64 0) := bc BK133; have hcz9_1 : w4.cell? ⟨gb133, 1, none⟩ = some (.int .i64 0) := bc BK133; have hfz9_0 := blk_frozen BK133.out 0; have hfz9_1 := blk_frozen BK133.out 1; have hcz10_0 : w4.cell? ⟨gb132, 0, none⟩ = some (.int .i64 0) := bc BK132; have hcz10_1 : w4.cell? ⟨gb132, 1, none⟩ = some (.int .i64 0) := bc BK132; have hfz10_0 := blk_frozen BK132.out 0; have hfz10_1 := blk_frozen BK132.out 1))
  refine bodyPost_ret (results_cell_row rfl _ _ gb132 42 #[.int .i64 a0_0, .int .i64 a0_1] (0, 0) _ rfl (by (with_reducible repeat (first | refine blk_drewN ?_ _ | refine blk_drew ?_ | refine blk_alloc ?_ _)); refine blk_put (cs := #[.int .i64 a0_0, .int .i64 0]) ?_ 1 _ rfl; (with_reducible repeat (first | refine blk_drewN ?_ _ | refine blk_drew ?_ | refine blk_alloc ?_ _)); refine blk_put (cs := #[.int .i64 0, .int .i64 0]) ?_ 0 _ rfl; (with_reducible repeat (first | refine blk_drewN ?_ _ | refine blk_drew ?_ | refine blk_alloc ?_ _)); refine blk_far ?_ NB132_133.out _; (with_reducible repeat (first | refine blk_drewN ?_ _ | refine blk_drew ?_ | refine blk_alloc ?_ _)); refine blk_far ?_ NB132_133.out _; (with_reducible repeat (first | refine blk_drewN ?_ _ | refine blk_drew ?_ | refine blk_alloc ?_ _)); exact BK132.out) Try.underlying42 rfl (by kernel_rfl)) rfl ?_
  exact ⟨Fin, Hb⟩

/-! ### laws_toCellS: function 6 -/
def laws_toCellS.l0 : Nat → List (S44) → List (S42) → Int → Option ((List (S42)))
  | 0, _, _, _ => none
  | k + 1, x0, x3, x4 => if x4 < (x0.length : Int) then (if 0 ≤ x4 then ((laws_toCell.f ((rd_T44 x0 x4).f0) ((rd_T44 x0 x4).f1)).bind fun bt138 => (if x4 < (x3.length : Int) then (laws_toCellS.l0 k x0 (x3.set (x4 : Int).toNat (⟨bt138.1, bt138.2⟩ : S42)) (wrap64 (x4 + 1))) else (none))) else (none)) else (some x3)
def laws_toCellS.f (k : Nat) (l0 : List (S44)) : Option ((List (S42))) := if 0 ≤ (l0.length : Int) then (if ((l0.length : Int) : Int).toNat ≤ 17592186044416 then (laws_toCellS.l0 k l0 (List.replicate ((l0.length : Int) : Int).toNat z42) 0) else (none)) else (none)
theorem laws_toCellS.mono_l : ∀ k, (∀ y0 y1 y2, LeO (laws_toCellS.l0 k y0 y1 y2) (laws_toCellS.l0 (k + 1) y0 y1 y2))
  | 0 => fun _ _ _ r h => by simp [laws_toCellS.l0] at h
  | k + 1 => by
    have ih0 := laws_toCellS.mono_l k
    · intro y0 y1 y2
      unfold laws_toCellS.l0
      repeat' first
      | (with_reducible exact ih0 _ _ _)
      | (with_reducible exact LeO.refl _)
      | (with_reducible exact LeO.none _)
      | (with_reducible refine LeO.ite ?_ ?_)
      | (with_reducible refine LeO.bind ?_ (fun _ => ?_))
      | exact ih0 _ _ _
      | exact LeO.none _
      | refine LeO.ite ?_ ?_
      | refine LeO.bind ?_ (fun _ => ?_)
theorem laws_toCellS.mono : ∀ a0 k, LeO (laws_toCellS.f k a0) (laws_toCellS.f (k + 1) a0) := by
  intro a0 k
  have ih0 := laws_toCellS.mono_l k
  unfold laws_toCellS.f
  repeat' first
      | (with_reducible exact ih0 _ _ _)
      | (with_reducible exact LeO.refl _)
      | (with_reducible exact LeO.none _)
      | (with_reducible refine LeO.ite ?_ ?_)
      | (with_reducible refine LeO.bind ?_ (fun _ => ?_))
      | exact ih0 _ _ _
      | exact LeO.none _
      | refine LeO.ite ?_ ?_
      | refine LeO.bind ?_ (fun _ => ?_)
set_option maxHeartbeats 8000000 in
set_option maxRecDepth 100000 in
theorem laws_toCellS.calls (k : Nat) (A0 : Option Addr) (c0 : Nat) (l0 : List (S44)) (r : List (S42)) (w : World) (hr0 : Kd.C k44 w A0 l0.length l0) (hc0 : l0.length ≤ c0) (h : laws_toCellS.f k l0 = some r) :
    Calls Try.prog 6 #[.slice A0 l0.length c0] w fun e w' => ∃ v0_ : Value, e = .returned (v0_) ∧ Kd.R k42 42 w' w.heap.size (fun _ => True) v0_ r ∧ Below w.heap.size w w' := by
  have hu44 := Try.underlying44
  have hu42 := Try.underlying42
  have HR0 := Aside0.mk hr0
  have HC0 := Aside0.mk hc0
  clear hr0 hc0
  have HB := Aside0.mk (Below.refl w.heap.size w)
  have H : (if 0 ≤ (l0.length : Int) then (if ((l0.length : Int) : Int).toNat ≤ 17592186044416 then (laws_toCellS.l0 k l0 (List.replicate ((l0.length : Int) : Int).toNat z42) 0) else (none)) else (none)) = some r := h
  clear h
  by_cases c2 : 0 ≤ (l0.length : Int)
  · rw [if_pos c2] at H
    have c2b0 := eq_true c2
    have c2b1 : decide (0 ≤ (l0.length : Int)) = true := decide_eq_true c2
    clear c2
    by_cases c3 : ((l0.length : Int) : Int).toNat ≤ 17592186044416
    · rw [if_pos c3] at H
      have c3b0 := eq_true c3
      have c3b1 : decide (((l0.length : Int) : Int).toNat ≤ 17592186044416) = true := decide_eq_true c3
      clear c3
      obtain ⟨y134, hy134⟩ : ∃ y_ : List (S42), y_ = (List.replicate ((l0.length : Int) : Int).toNat z42) := ⟨_, rfl⟩
      replace H : (laws_toCellS.l0 k l0 y134 0) = some r := by first | (rw [hy134]; with_reducible exact H) | (have H2_ := (Option.bind_some _ _).symm.trans H; rw [hy134]; with_reducible exact H2_) | (have H2_ := (Option.bind_some _ _).symm.trans H; with_reducible exact H2_) | with_reducible exact H | (rw [hy134]; exact H) | exact H
      have Ny134 := Aside0.mk hy134
      clear hy134
      have H' := Aside0.mk H
      clear H
      go_enter Try.func6, Try.ntmps6
      go_wp2_with (first | ((with_reducible refine gD 7 ?_); refine Kd.R_make k42 _ 42 rfl (N := 7) rfl 29 _ _ rfl (l0.length : Int) rfl rfl Try.underlying29 (.agg #[(.int .i64 0), (.int .i64 0)]) 16 info42 rfl (by decide) (by omega) z42 (ok := fun _ => True) (okp := fun _ => True) (k42_mkM _ _ _ z42 ) (fun _ hk => hk) trivial (oD) (Nat.le_trans (Nat.mul_le_mul_right _ (oD : (l0.length : Int).toNat ≤ 17592186044416)) (by omega)) (Below.refl _ _) (Nat.le_refl _) ?_; intro v135 w4 ho5 hb hg_ hnew_; clear hg_ hnew_; (first | rw [← Ny134.out] at ho5 | (simp only [Int.reduceToNat] at ho5; rw [← Ny134.out] at ho5)); have HO136 := Aside0.mk (Kd.R_lower ho5 (below_size Hb)); replace HB := Aside0.mk (below_step Hb hb); clear hb ho5))
      go_loopg [4] k (fun kq v4 w' => ∃ (x3_1 : List (S42)) (x4_1 : Int), v4 = .int .i64 x4_1 ∧ Aside0 (laws_toCellS.l0 kq l0 x3_1 x4_1 = some r) ∧ Aside0 (kq ≤ k) ∧ Aside0 (Kd.R k42 42 w' w.heap.size (fun _ => True) v135 x3_1) ∧ Aside0 (Below w.heap.size w w'))
      case atStart => exact ⟨(y134), (0), Fs, H', ⟨Nat.le_refl _⟩, ⟨by (with_reducible repeat (first | apply Kd.R_alloc | apply Kd.R_drewN | apply Kd.R_drew)); exact HO136.out⟩, ⟨Hb⟩⟩
      case round =>
        clear H'
        try clear c2
        try clear c2b0
        try clear c2b1
        try clear p2
        try clear c3
        try clear c3b0
        try clear c3b1
        obtain ⟨x3_1, x4_1, rfl, HA, HK1, HO_3, HB⟩ := hrel
        cases gk with
        | zero => exact absurd HA.out (by simp [laws_toCellS.l0])
        | succ k1 =>
          have H := HA.out
          clear HA
          simp only [laws_toCellS.l0] at H
          by_cases c6 : x4_1 < (l0.length : Int)
          · rw [if_pos c6] at H
            have c6b0 : decide (x4_1 < (l0.length : Int)) = true := decide_eq_true c6
            clear c6
            by_cases c7 : 0 ≤ x4_1
            · rw [if_pos c7] at H
              have c7b0 : decide (0 ≤ x4_1) = true := decide_eq_true c7
              clear c7
              obtain ⟨⟨t138, t139⟩, A80, H⟩ := Option.bind_eq_some_iff.mp H
              dsimp only at H
              have A8 := Aside0.mk A80
              clear A80
              by_cases c9 : x4_1 < (x3_1.length : Int)
              · rw [if_pos c9] at H
                have c9b0 : decide (x4_1 < (x3_1.length : Int)) = true := decide_eq_true c9
                clear c9
                obtain ⟨y140, hy140⟩ : ∃ y_ : List (S42), y_ = (x3_1.set (x4_1 : Int).toNat (⟨t138, t139⟩ : S42)) := ⟨_, rfl⟩
                replace H : (laws_toCellS.l0 k1 l0 y140 (wrap64 (x4_1 + 1))) = some r := by first | (rw [hy140]; with_reducible exact H) | (have H2_ := (Option.bind_some _ _).symm.trans H; rw [hy140]; with_reducible exact H2_) | (have H2_ := (Option.bind_some _ _).symm.trans H; with_reducible exact H2_) | with_reducible exact H | (rw [hy140]; exact H) | exact H
                have Ny140 := Aside0.mk hy140
                clear hy140
                have H' := Aside0.mk H
                clear H
                have p137 : 0 ≤ (x4_1 : Int) := oD
                have q137 : x4_1 < (l0.length : Int) := oD
                obtain ⟨ad137, e137, hx137_0, hx137_1⟩ := at_T44 HR0.out x4_1 p137 q137
                cases e137
                replace hx137_0 := hxb hx137_0
                replace hx137_1 := hxb hx137_1
                replace p137 := eq_true p137
                replace q137 := eq_true q137
                go_wp2_with (first | ((with_reducible refine gC 17 ?_); refine GL (some 20) Try.func17 #[.agg #[.int .i64 ((rd_T44 l0 x4_1).f0), .int .i64 ((rd_T44 l0 x4_1).f1)]] ?_; (with_reducible refine (laws_toCell.calls ((rd_T44 l0 x4_1).f0) ((rd_T44 l0 x4_1).f1) t138 t139 _ A8.out).mono ?_); rintro e w11 ⟨rfl, hb⟩; refine ⟨_, rfl, ?_⟩; replace HO_3 := Aside0.mk (Kd.R_below (R1 HO_3) hb); replace HB := Aside0.mk (below_step Hb hb); (try clear hb); (try clear hb2); (try clear hk); (try clear hi); have p10 : 0 ≤ (x4_1 : Int) := oD; have q10 : (x4_1 : Int) < ((x3_1.length : Int) : Int) := oD; obtain ⟨go10, co10, eo10, gb10, gl10, cl10, HG10⟩ := Kd.R_form HO_3.out (by omega); (first | cases eo10 | (injection eo10 with ea_ en_ ec_; (first | subst ea_ | (injection ea_ with ea_; subst ea_)); subst ec_; clear en_)); have GB10 := Aside0.mk gb10; have GG10 := Aside0.mk HG10; clear gb10 gl10 HG10; obtain ⟨ce10, hcl10, hM10, hcc10, hfr10⟩ := Kd.R_elem HO_3.out z42 (x4_1 : Int) p10 q10; obtain rfl := k42_openM hM10; have hx10_0 : w11.cell? ⟨go10, (x4_1 : Int).toNat * 2, none⟩ = some (.int .i64 ((rd_T42 x3_1 x4_1).f0)) := hcc10 0 _ rfl; have hx10_1 : w11.cell? ⟨go10, (x4_1 : Int).toNat * 2 + 1, none⟩ = some (.int .i64 ((rd_T42 x3_1 x4_1).f1)) := hcc10 1 _ rfl; have hf10_0 : w11.frozen? ⟨go10, (x4_1 : Int).toNat * 2, none⟩ = false := hfr10 0; have hf10_1 : w11.frozen? ⟨go10, (x4_1 : Int).toNat * 2 + 1, none⟩ = false := hfr10 1; clear hcl10 hcc10 hfr10; (try clear hM10); replace p10 := eq_true p10; replace q10 := eq_true q10; have HX12 := Aside0.mk (show Kd.R k42 42 w11 w.heap.size (fun _ => True) (.slice (some ⟨go10, 0, none⟩) x3_1.length co10) x3_1 from (R1 HO_3)); obtain ⟨ce12, hcl12, hM12, hcc12, hfr12⟩ := Kd.R_elem HX12.out z42 (x4_1 : Int) (oD) (by have h_ : (x4_1 : Int) < ((x3_1.length : Int) : Int) := oD; first | exact h_ | (have e_ := (Kd.R_reads' HO_3.out).1; omega) | simpa using h_); obtain rfl := k42_openM hM12; have HP12 := Kd.R_seg HX12.out (x4_1 : Int) (oD) (by have h_ : (x4_1 : Int) < ((x3_1.length : Int) : Int) := oD; first | exact h_ | (have e_ := (Kd.R_reads' HO_3.out).1; omega) | simpa using h_) (seg := [.int .i64 t138, .int .i64 t139]) (j := 0) hcl12 hcc12 (show 2 ≤ 2 from by decide) (x' := (⟨t138, t139⟩ : S42)) (k42_mkM _ _ _ (⟨t138, t139⟩ : S42) ) (fun _ hk => hk); have hx12_0 := hcc12 0 _ rfl; (try simp only [show (k42).sz = 2 from rfl, Nat.mul_one, Nat.add_zero] at hx12_0); have hf12_0 := hfr12 0; (try simp only [show (k42).sz = 2 from rfl, Nat.mul_one, Nat.add_zero] at hf12_0); have hx12_1 := hcc12 1 _ rfl; (try simp only [show (k42).sz = 2 from rfl, Nat.mul_one, Nat.add_zero] at hx12_1); have hf12_1 := hfr12 1; (try simp only [show (k42).sz = 2 from rfl, Nat.mul_one, Nat.add_zero] at hf12_1); clear hcl12 hcc12 hfr12; (try clear hM12)) | ((with_reducible refine gate_store (t := 42) (p := 21) rfl ?_); refine store_event (t := 42) (p := 21) (v := ?vo_w13) (w1 := ((w11.setCell ⟨go10, (x4_1 : Int).toNat * 2, none⟩ (.int .i64 t138)).setCell ⟨go10, (x4_1 : Int).toNat * 2 + 1, none⟩ (.int .i64 t139))) ?hg ?ho ?hn ?hr ?_; (case ho => rfl); (case hg => rfl); (case hn => rfl); (case hr => first | (go_simp; done) | (go_simp; rfl)); intro w13 hw; have hg : w11.grownBy w13 (some go10) := (by rw [hw]; exact HP12.2); have hp_ : Kd.R k42 42 w13 w.heap.size (fun _ => True) (.slice (some ⟨go10, 0, none⟩) x3_1.length co10) y140 := (by rw [hw, Ny140.out]; exact HP12.1); clear HP12; replace HO_3 := Aside0.mk (hp_); replace HB := Aside0.mk ((by rw [hw]; exact below_set (below_set (HB.out) GB10.out) GB10.out : Below w.heap.size w w13)); clear hg hw hp_))
                go_roundg k1
                case measure => have := HK1.out; omega
                case rel => exact ⟨(y140), (wrap64 (x4_1 + 1)), Fs, H', ⟨by have := HK1.out; omega⟩, ⟨by (with_reducible repeat (first | apply Kd.R_alloc | apply Kd.R_drewN | apply Kd.R_drew)); exact HO_3.out⟩, ⟨Hb⟩⟩
              · rw [if_neg c9] at H
                exact absurd H (by simp)
            · rw [if_neg c7] at H
              exact absurd H (by simp)
          · rw [if_neg c6] at H
            have c6b0 : decide (x4_1 < (l0.length : Int)) = false := decide_eq_false c6
            clear c6
            obtain rfl := Option.some.inj H
            go_wp2
            go_ret
            exact ⟨_, Fin, by (with_reducible repeat (first | apply Kd.R_alloc | apply Kd.R_drewN | apply Kd.R_drew)); exact HO_3.out, Hb⟩
    · rw [if_neg c3] at H
      exact absurd H (by simp)
  · rw [if_neg c2] at H
    exact absurd H (by simp)

/-! ### laws_toColouring: function 7 -/
def laws_toColouring.f (a0_0 : Int) (a0_1 : Int) (a0_2 : Int) : Option (Int × Int × Int) := some (a0_0, a0_1, a0_2)
set_option maxHeartbeats 8000000 in
set_option maxRecDepth 100000 in
theorem laws_toColouring.calls (a0_0 : Int) (a0_1 : Int) (a0_2 : Int) (r1 : Int) (r2 : Int) (r3 : Int) (w : World) (h : laws_toColouring.f a0_0 a0_1 a0_2 = some (r1, r2, r3)) :
    Calls Try.prog 7 #[.agg #[.int .i64 a0_0, .int .i64 a0_1, .int .i64 a0_2]] w fun e w' => e = .returned (.agg #[.int .i64 r1, .int .i64 r2, .int .i64 r3]) ∧ Below w.heap.size w w' := by
  have hu24 := Try.underlying24
  have hu31 := Try.underlying31
  have HB := Aside0.mk (Below.refl w.heap.size w)
  have H : (some (a0_0, a0_1, a0_2)) = some (r1, r2, r3) := h
  clear h
  simp only [Option.some.injEq, Prod.mk.injEq] at H
  obtain ⟨rfl, rfl, rfl⟩ := H
  go_enter Try.func7, Try.ntmps7
  go_wp2_with (first | ((with_reducible refine gD 1 ?_); refine BX #[.int .i64 a0_0, .int .i64 a0_1, .int .i64 a0_2] 24 ?_; intro gb141 hg w2 hbox hb; have BK141 := Aside0.mk (hbox); have GW141 := Aside0.mk ((Gle hg Hb : w.heap.size ≤ gb141)); have GE141 := Aside0.mk ((Gle hg Hb : w.heap.size ≤ gb141)); replace HB := Aside0.mk (below_step Hb hb); clear hb hbox hg) | ((with_reducible refine gD 2 ?_); refine BX #[.int .i64 0, .int .i64 0, .int .i64 0] 31 ?_; intro gb142 hg w3 hbox hb; have BK142 := Aside0.mk (hbox); have GW142 := Aside0.mk ((Gle hg Hb : w.heap.size ≤ gb142)); have GE142 := Aside0.mk ((Gle hg Hb : w.heap.size ≤ gb142)); replace HB := Aside0.mk (below_step Hb hb); have NB141_142 := Aside0.mk ((by rw [hg]; exact Nat.ne_of_lt (blk_lt (B1 BK141)) : gb141 ≠ gb142)); have NB142_141 := Aside0.mk ((by rw [hg]; exact Nat.ne_of_gt (blk_lt (B1 BK141)) : gb142 ≠ gb141)); replace BK141 := Aside0.mk (blk_below (B1 BK141) hb); clear hb hbox hg) | ((with_reducible refine gD 3 ?_); refine BX #[.int .i64 0, .int .i64 0, .int .i64 0] 31 ?_; intro gb143 hg w4 hbox hb; have BK143 := Aside0.mk (hbox); have GW143 := Aside0.mk ((Gle hg Hb : w.heap.size ≤ gb143)); have GE143 := Aside0.mk ((Gle hg Hb : w.heap.size ≤ gb143)); replace HB := Aside0.mk (below_step Hb hb); have NB141_143 := Aside0.mk ((by rw [hg]; exact Nat.ne_of_lt (blk_lt (B1 BK141)) : gb141 ≠ gb143)); have NB143_141 := Aside0.mk ((by rw [hg]; exact Nat.ne_of_gt (blk_lt (B1 BK141)) : gb143 ≠ gb141)); replace BK141 := Aside0.mk (blk_below (B1 BK141) hb); have NB142_143 := Aside0.mk ((by rw [hg]; exact Nat.ne_of_lt (blk_lt (B1 BK142)) : gb142 ≠ gb143)); have NB143_142 := Aside0.mk ((by rw [hg]; exact Nat.ne_of_gt (blk_lt (B1 BK142)) : gb143 ≠ gb142)); replace BK142 := Aside0.mk (blk_below (B1 BK142) hb); clear hb hbox hg; have hnb5 := NB141_142.out; have hnc5 := NB142_141.out; have hnb6 := NB141_143.out; have hnc6 := NB143_141.out; have hcz7_0 : w4.cell? ⟨gb141, 0, none⟩ = some (.int .i64 a0_0) := bc BK141; have hcz7_1 : w4.cell? ⟨gb141, 1, none⟩ = some (.int .i64 a0_1) := bc BK141; have hcz7_2 : w4.cell? ⟨gb141, 2, none⟩ = some (.int .i64 a0_2) := bc BK141; have hfz7_0 := blk_frozen BK141.out 0; have hfz7_1 := blk_frozen BK141.out 1; have hfz7_2 := blk_frozen BK141.out 2; have hnb8 := NB143_142.out; have hnc8 := NB142_143.out; have hcz9_0 : w4.cell? ⟨gb143, 0, none⟩ = some (.int .i64 0) := bc BK143; have hcz9_1 : w4.cell? ⟨gb143, 1, none⟩ = some (.int .i64 0) := bc BK143; have hcz9_2 : w4.cell? ⟨gb143, 2, none⟩ = some (.int .i64 0) := bc BK143; have hfz9_0 := blk_frozen BK143.out 0; have hfz9_1 := blk_frozen BK143.out 1; have hfz9_2 := blk_frozen BK143.out 2; have hcz10_0 : w4.cell? ⟨gb142, 0, none⟩ = some (.int .i64 0) := bc BK142; have hcz10_1 : w4.cell? ⟨gb142, 1, none⟩ = some (.int .i64 0) := bc BK142; have hcz10_2 : w4.cell? ⟨gb142, 2, none⟩ = some (.int .i64 0) := bc BK142; have hfz10_0 := blk_frozen BK142.out 0; have hfz10_1 := blk_frozen BK142.out 1; have hfz10_2 := blk_frozen BK142.out 2))
  refine bodyPost_ret (results_cell_row rfl _ _ gb142 31 #[.int .i64 a0_0, .int .i64 a0_1, .int .i64 a0_2] (0, 0) _ rfl (by (with_reducible repeat (first | refine blk_drewN ?_ _ | refine blk_drew ?_ | refine blk_alloc ?_ _)); refine blk_put (cs := #[.int .i64 a0_0, .int .i64 a0_1, .int .i64 0]) ?_ 2 _ rfl; (with_reducible repeat (first | refine blk_drewN ?_ _ | refine blk_drew ?_ | refine blk_alloc ?_ _)); refine blk_put (cs := #[.int .i64 a0_0, .int .i64 0, .int .i64 0]) ?_ 1 _ rfl; (with_reducible repeat (first | refine blk_drewN ?_ _ | refine blk_drew ?_ | refine blk_alloc ?_ _)); refine blk_put (cs := #[.int .i64 0, .int .i64 0, .int .i64 0]) ?_ 0 _ rfl; (with_reducible repeat (first | refine blk_drewN ?_ _ | refine blk_drew ?_ | refine blk_alloc ?_ _)); refine blk_far ?_ NB142_143.out _; (with_reducible repeat (first | refine blk_drewN ?_ _ | refine blk_drew ?_ | refine blk_alloc ?_ _)); refine blk_far ?_ NB142_143.out _; (with_reducible repeat (first | refine blk_drewN ?_ _ | refine blk_drew ?_ | refine blk_alloc ?_ _)); refine blk_far ?_ NB142_143.out _; (with_reducible repeat (first | refine blk_drewN ?_ _ | refine blk_drew ?_ | refine blk_alloc ?_ _)); exact BK142.out) Try.underlying31 rfl (by kernel_rfl)) rfl ?_
  exact ⟨Fin, Hb⟩

/-! ### impl_within: function 29 -/
def impl_within.f (a0 : Int) (a1 : Int) (a2 : Int) : Option (Bool) := if a0 ≥ a1 then (some (decide (a0 ≤ a2))) else (some false)
set_option maxHeartbeats 8000000 in
set_option maxRecDepth 100000 in
theorem impl_within.calls (a0 : Int) (a1 : Int) (a2 : Int) (r : Bool) (w : World) (h : impl_within.f a0 a1 a2 = some r) :
    Calls Try.prog 29 #[.int .i64 a0, .int .i64 a1, .int .i64 a2] w fun e w' => e = .returned (.bool r) ∧ Drawn0 w w' := by
  have H : (if a0 ≥ a1 then (some (decide (a0 ≤ a2))) else (some false)) = some r := h
  clear h
  by_cases c4 : a0 ≥ a1
  · rw [if_pos c4] at H
    have c4b0 : decide (a1 ≤ a0) = true := decide_eq_true c4
    clear c4
    obtain rfl := Option.some.inj H
    go_enter Try.func29, Try.ntmps29
    go_wp2
    go_ret
    exact ⟨Fs, by repeat (first | exact Drawn0.refl _ | apply Drawn0.step)⟩
  · rw [if_neg c4] at H
    have c4b0 : decide (a1 ≤ a0) = false := decide_eq_false c4
    clear c4
    obtain rfl := Option.some.inj H
    go_enter Try.func29, Try.ntmps29
    go_wp2
    go_ret
    exact ⟨Fs, by repeat (first | exact Drawn0.refl _ | apply Drawn0.step)⟩

/-! ### impl_isCoordinate: function 27 -/
def impl_isCoordinate.f (a0 : Int) : Option (Bool) := (impl_within.f a0 (-100) 100).bind fun t144 => (some t144)
set_option maxHeartbeats 8000000 in
set_option maxRecDepth 100000 in
theorem impl_isCoordinate.calls (a0 : Int) (r : Bool) (w : World) (h : impl_isCoordinate.f a0 = some r) :
    Calls Try.prog 27 #[.int .i64 a0] w fun e w' => e = .returned (.bool r) ∧ Drawn0 w w' := by
  have H : ((impl_within.f a0 (-100) 100).bind fun t144 => (some t144)) = some r := h
  clear h
  obtain ⟨t144, A20, H⟩ := Option.bind_eq_some_iff.mp H
  have A2 := Aside0.mk A20
  clear A20
  obtain rfl := Option.some.inj H
  go_enter Try.func27, Try.ntmps27
  go_wp2_with (first | ((with_reducible refine gC 29 ?_); refine GL (some 4) Try.func29 #[.int .i64 a0, .int .i64 (-100), .int .i64 100] ?_; (with_reducible refine (impl_within.calls a0 (-100) 100 t144 _ A2.out).mono ?_); rintro e w' ⟨rfl, ⟨nd, rfl⟩⟩; refine ⟨_, rfl, ?_⟩))
  go_ret
  exact ⟨Fs, by repeat (first | exact Drawn0.refl _ | apply Drawn0.step)⟩

/-! ### cmp_isNaN_int64: function 34 -/
def cmp_isNaN_int64.f (a0 : Int) : Option (Bool) := some (a0 != a0)
set_option maxHeartbeats 8000000 in
set_option maxRecDepth 100000 in
theorem cmp_isNaN_int64.calls (a0 : Int) (r : Bool) (w : World) (h : cmp_isNaN_int64.f a0 = some r) :
    Calls Try.prog 34 #[.int .i64 a0] w fun e w' => e = .returned (.bool r) ∧ Drawn0 w w' := by
  have H : (some (a0 != a0)) = some r := h
  clear h
  obtain rfl := Option.some.inj H
  go_enter Try.func34, Try.ntmps34
  go_wp2
  go_ret
  exact ⟨Fs, by repeat (first | exact Drawn0.refl _ | apply Drawn0.step)⟩

/-! ### cmp_Compare_int64: function 32 -/
def cmp_Compare_int64.f (a0 : Int) (a1 : Int) : Option (Int) := (cmp_isNaN_int64.f a0).bind fun t145 => ((cmp_isNaN_int64.f a1).bind fun t146 => (if t145 = true then (if t146 = true then (some 0) else (some (-1))) else (if t146 = true then (some 1) else (if a0 < a1 then (some (-1)) else (if a0 > a1 then (some 1) else (some 0))))))
set_option maxHeartbeats 8000000 in
set_option maxRecDepth 100000 in
theorem cmp_Compare_int64.calls (a0 : Int) (a1 : Int) (r : Int) (w : World) (h : cmp_Compare_int64.f a0 a1 = some r) :
    Calls Try.prog 32 #[.int .i64 a0, .int .i64 a1] w fun e w' => e = .returned (.int .i64 r) ∧ Drawn0 w w' := by
  have H : ((cmp_isNaN_int64.f a0).bind fun t145 => ((cmp_isNaN_int64.f a1).bind fun t146 => (if t145 = true then (if t146 = true then (some 0) else (some (-1))) else (if t146 = true then (some 1) else (if a0 < a1 then (some (-1)) else (if a0 > a1 then (some 1) else (some 0))))))) = some r := h
  clear h
  obtain ⟨t145, A30, H⟩ := Option.bind_eq_some_iff.mp H
  have A3 := Aside0.mk A30
  clear A30
  obtain ⟨t146, A40, H⟩ := Option.bind_eq_some_iff.mp H
  have A4 := Aside0.mk A40
  clear A40
  by_cases c5 : t145 = true
  · subst c5
    rw [if_pos rfl] at H
    by_cases c6 : t146 = true
    · subst c6
      rw [if_pos rfl] at H
      obtain rfl := Option.some.inj H
      go_enter Try.func32, Try.ntmps32
      go_wp2_with (first | ((with_reducible refine gC 34 ?_); refine GL (some 8) Try.func34 #[.int .i64 a0] ?_; (with_reducible refine (cmp_isNaN_int64.calls a0 true _ A3.out).mono ?_); rintro e w' ⟨rfl, ⟨nd, rfl⟩⟩; refine ⟨_, rfl, ?_⟩) | ((with_reducible refine gC 34 ?_); refine GL (some 10) Try.func34 #[.int .i64 a1] ?_; (with_reducible refine (cmp_isNaN_int64.calls a1 true _ A4.out).mono ?_); rintro e w' ⟨rfl, ⟨nd, rfl⟩⟩; refine ⟨_, rfl, ?_⟩))
      go_ret
      exact ⟨Fs, by repeat (first | exact Drawn0.refl _ | apply Drawn0.step)⟩
    · replace c6 := Bool.eq_false_iff.mpr c6
      subst c6
      rw [if_neg (show ¬ (false = true) by decide)] at H
      obtain rfl := Option.some.inj H
      go_enter Try.func32, Try.ntmps32
      go_wp2_with (first | ((with_reducible refine gC 34 ?_); refine GL (some 8) Try.func34 #[.int .i64 a0] ?_; (with_reducible refine (cmp_isNaN_int64.calls a0 true _ A3.out).mono ?_); rintro e w' ⟨rfl, ⟨nd, rfl⟩⟩; refine ⟨_, rfl, ?_⟩) | ((with_reducible refine gC 34 ?_); refine GL (some 10) Try.func34 #[.int .i64 a1] ?_; (with_reducible refine (cmp_isNaN_int64.calls a1 false _ A4.out).mono ?_); rintro e w' ⟨rfl, ⟨nd, rfl⟩⟩; refine ⟨_, rfl, ?_⟩))
      go_ret
      exact ⟨Fs, by repeat (first | exact Drawn0.refl _ | apply Drawn0.step)⟩
  · replace c5 := Bool.eq_false_iff.mpr c5
    subst c5
    rw [if_neg (show ¬ (false = true) by decide)] at H
    by_cases c7 : t146 = true
    · subst c7
      rw [if_pos rfl] at H
      obtain rfl := Option.some.inj H
      go_enter Try.func32, Try.ntmps32
      go_wp2_with (first | ((with_reducible refine gC 34 ?_); refine GL (some 8) Try.func34 #[.int .i64 a0] ?_; (with_reducible refine (cmp_isNaN_int64.calls a0 false _ A3.out).mono ?_); rintro e w' ⟨rfl, ⟨nd, rfl⟩⟩; refine ⟨_, rfl, ?_⟩) | ((with_reducible refine gC 34 ?_); refine GL (some 10) Try.func34 #[.int .i64 a1] ?_; (with_reducible refine (cmp_isNaN_int64.calls a1 true _ A4.out).mono ?_); rintro e w' ⟨rfl, ⟨nd, rfl⟩⟩; refine ⟨_, rfl, ?_⟩))
      go_ret
      exact ⟨Fs, by repeat (first | exact Drawn0.refl _ | apply Drawn0.step)⟩
    · replace c7 := Bool.eq_false_iff.mpr c7
      subst c7
      rw [if_neg (show ¬ (false = true) by decide)] at H
      by_cases c8 : a0 < a1
      · rw [if_pos c8] at H
        have c8b0 : decide (a0 < a1) = true := decide_eq_true c8
        clear c8
        obtain rfl := Option.some.inj H
        go_enter Try.func32, Try.ntmps32
        go_wp2_with (first | ((with_reducible refine gC 34 ?_); refine GL (some 8) Try.func34 #[.int .i64 a0] ?_; (with_reducible refine (cmp_isNaN_int64.calls a0 false _ A3.out).mono ?_); rintro e w' ⟨rfl, ⟨nd, rfl⟩⟩; refine ⟨_, rfl, ?_⟩) | ((with_reducible refine gC 34 ?_); refine GL (some 10) Try.func34 #[.int .i64 a1] ?_; (with_reducible refine (cmp_isNaN_int64.calls a1 false _ A4.out).mono ?_); rintro e w' ⟨rfl, ⟨nd, rfl⟩⟩; refine ⟨_, rfl, ?_⟩))
        go_ret
        exact ⟨Fs, by repeat (first | exact Drawn0.refl _ | apply Drawn0.step)⟩
      · rw [if_neg c8] at H
        have c8b0 : decide (a0 < a1) = false := decide_eq_false c8
        clear c8
        by_cases c9 : a0 > a1
        · rw [if_pos c9] at H
          have c9b0 : decide (a1 < a0) = true := decide_eq_true c9
          clear c9
          obtain rfl := Option.some.inj H
          go_enter Try.func32, Try.ntmps32
          go_wp2_with (first | ((with_reducible refine gC 34 ?_); refine GL (some 8) Try.func34 #[.int .i64 a0] ?_; (with_reducible refine (cmp_isNaN_int64.calls a0 false _ A3.out).mono ?_); rintro e w' ⟨rfl, ⟨nd, rfl⟩⟩; refine ⟨_, rfl, ?_⟩) | ((with_reducible refine gC 34 ?_); refine GL (some 10) Try.func34 #[.int .i64 a1] ?_; (with_reducible refine (cmp_isNaN_int64.calls a1 false _ A4.out).mono ?_); rintro e w' ⟨rfl, ⟨nd, rfl⟩⟩; refine ⟨_, rfl, ?_⟩))
          go_ret
          exact ⟨Fs, by repeat (first | exact Drawn0.refl _ | apply Drawn0.step)⟩
        · rw [if_neg c9] at H
          have c9b0 : decide (a1 < a0) = false := decide_eq_false c9
          clear c9
          obtain rfl := Option.some.inj H
          go_enter Try.func32, Try.ntmps32
          go_wp2_with (first | ((with_reducible refine gC 34 ?_); refine GL (some 8) Try.func34 #[.int .i64 a0] ?_; (with_reducible refine (cmp_isNaN_int64.calls a0 false _ A3.out).mono ?_); rintro e w' ⟨rfl, ⟨nd, rfl⟩⟩; refine ⟨_, rfl, ?_⟩) | ((with_reducible refine gC 34 ?_); refine GL (some 10) Try.func34 #[.int .i64 a1] ?_; (with_reducible refine (cmp_isNaN_int64.calls a1 false _ A4.out).mono ?_); rintro e w' ⟨rfl, ⟨nd, rfl⟩⟩; refine ⟨_, rfl, ?_⟩))
          go_ret
          exact ⟨Fs, by repeat (first | exact Drawn0.refl _ | apply Drawn0.step)⟩

/-! ### impl_compareCells: function 28 -/
def impl_compareCells.f (a0_0 : Int) (a0_1 : Int) (a1_0 : Int) (a1_1 : Int) : Option (Int) := (cmp_Compare_int64.f a0_1 a1_1).bind fun t149 => (if t149 = 0 then ((cmp_Compare_int64.f a0_0 a1_0).bind fun t150 => (some t150)) else (some t149))
set_option maxHeartbeats 8000000 in
set_option maxRecDepth 100000 in
theorem impl_compareCells.calls (a0_0 : Int) (a0_1 : Int) (a1_0 : Int) (a1_1 : Int) (r : Int) (w : World) (h : impl_compareCells.f a0_0 a0_1 a1_0 a1_1 = some r) :
    Calls Try.prog 28 #[.agg #[.int .i64 a0_0, .int .i64 a0_1], .agg #[.int .i64 a1_0, .int .i64 a1_1]] w fun e w' => e = .returned (.int .i64 r) ∧ Below w.heap.size w w' := by
  have hu42 := Try.underlying42
  have HB := Aside0.mk (Below.refl w.heap.size w)
  have H : ((cmp_Compare_int64.f a0_1 a1_1).bind fun t149 => (if t149 = 0 then ((cmp_Compare_int64.f a0_0 a1_0).bind fun t150 => (some t150)) else (some t149))) = some r := h
  clear h
  obtain ⟨t149, A30, H⟩ := Option.bind_eq_some_iff.mp H
  have A3 := Aside0.mk A30
  clear A30
  by_cases c4 : t149 = 0
  · rw [if_pos c4] at H
    have c4b0 : (t149 == 0) = true := beq_iff_eq.mpr c4
    have c4b1 : (t149 != 0) = false := bne_eq_false_iff_eq.mpr c4
    clear c4
    obtain ⟨t150, A50, H⟩ := Option.bind_eq_some_iff.mp H
    have A5 := Aside0.mk A50
    clear A50
    obtain rfl := Option.some.inj H
    go_enter Try.func28, Try.ntmps28
    go_wp2_with (first | ((with_reducible refine gD 2 ?_); refine BX #[.int .i64 a0_0, .int .i64 a0_1] 42 ?_; intro gb147 hg w6 hbox hb; have BK147 := Aside0.mk (hbox); have GW147 := Aside0.mk ((Gle hg Hb : w.heap.size ≤ gb147)); have GE147 := Aside0.mk ((Gle hg Hb : w.heap.size ≤ gb147)); replace HB := Aside0.mk (below_step Hb hb); clear hb hbox hg) | ((with_reducible refine gD 3 ?_); refine BX #[.int .i64 a1_0, .int .i64 a1_1] 42 ?_; intro gb148 hg w7 hbox hb; have BK148 := Aside0.mk (hbox); have GW148 := Aside0.mk ((Gle hg Hb : w.heap.size ≤ gb148)); have GE148 := Aside0.mk ((Gle hg Hb : w.heap.size ≤ gb148)); replace HB := Aside0.mk (below_step Hb hb); have NB147_148 := Aside0.mk ((by rw [hg]; exact Nat.ne_of_lt (blk_lt (B1 BK147)) : gb147 ≠ gb148)); have NB148_147 := Aside0.mk ((by rw [hg]; exact Nat.ne_of_gt (blk_lt (B1 BK147)) : gb148 ≠ gb147)); replace BK147 := Aside0.mk (blk_below (B1 BK147) hb); clear hb hbox hg; have hnb8 := NB147_148.out; have hnc8 := NB148_147.out; have hcz9_0 : w7.cell? ⟨gb147, 0, none⟩ = some (.int .i64 a0_0) := bc BK147; have hcz9_1 : w7.cell? ⟨gb147, 1, none⟩ = some (.int .i64 a0_1) := bc BK147; have hfz9_0 := blk_frozen BK147.out 0; have hfz9_1 := blk_frozen BK147.out 1; have hcz10_0 : w7.cell? ⟨gb148, 0, none⟩ = some (.int .i64 a1_0) := bc BK148; have hcz10_1 : w7.cell? ⟨gb148, 1, none⟩ = some (.int .i64 a1_1) := bc BK148; have hfz10_0 := blk_frozen BK148.out 0; have hfz10_1 := blk_frozen BK148.out 1) | ((with_reducible refine gC 32 ?_); refine GL (some 10) Try.func32 #[.int .i64 a0_1, .int .i64 a1_1] ?_; (with_reducible refine (cmp_Compare_int64.calls a0_1 a1_1 t149 _ A3.out).mono ?_); rintro e w' ⟨rfl, ⟨nd, rfl⟩⟩; refine ⟨_, rfl, ?_⟩) | ((with_reducible refine gC 32 ?_); refine GL (some 18) Try.func32 #[.int .i64 a0_0, .int .i64 a1_0] ?_; (with_reducible refine (cmp_Compare_int64.calls a0_0 a1_0 t150 _ A5.out).mono ?_); rintro e w' ⟨rfl, ⟨nd, rfl⟩⟩; refine ⟨_, rfl, ?_⟩))
    go_ret
    exact ⟨Fin, Hb⟩
  · rw [if_neg c4] at H
    have c4b0 : (t149 == 0) = false := beq_eq_false_iff_ne.mpr c4
    have c4b1 : (t149 != 0) = true := bne_iff_ne.mpr c4
    obtain rfl := Option.some.inj H
    go_enter Try.func28, Try.ntmps28
    go_wp2_with (first | ((with_reducible refine gD 2 ?_); refine BX #[.int .i64 a0_0, .int .i64 a0_1] 42 ?_; intro gb147 hg w11 hbox hb; have BK147 := Aside0.mk (hbox); have GW147 := Aside0.mk ((Gle hg Hb : w.heap.size ≤ gb147)); have GE147 := Aside0.mk ((Gle hg Hb : w.heap.size ≤ gb147)); replace HB := Aside0.mk (below_step Hb hb); clear hb hbox hg) | ((with_reducible refine gD 3 ?_); refine BX #[.int .i64 a1_0, .int .i64 a1_1] 42 ?_; intro gb148 hg w12 hbox hb; have BK148 := Aside0.mk (hbox); have GW148 := Aside0.mk ((Gle hg Hb : w.heap.size ≤ gb148)); have GE148 := Aside0.mk ((Gle hg Hb : w.heap.size ≤ gb148)); replace HB := Aside0.mk (below_step Hb hb); have NB147_148 := Aside0.mk ((by rw [hg]; exact Nat.ne_of_lt (blk_lt (B1 BK147)) : gb147 ≠ gb148)); have NB148_147 := Aside0.mk ((by rw [hg]; exact Nat.ne_of_gt (blk_lt (B1 BK147)) : gb148 ≠ gb147)); replace BK147 := Aside0.mk (blk_below (B1 BK147) hb); clear hb hbox hg; have hnb13 := NB147_148.out; have hnc13 := NB148_147.out; have hcz14_0 : w12.cell? ⟨gb147, 0, none⟩ = some (.int .i64 a0_0) := bc BK147; have hcz14_1 : w12.cell? ⟨gb147, 1, none⟩ = some (.int .i64 a0_1) := bc BK147; have hfz14_0 := blk_frozen BK147.out 0; have hfz14_1 := blk_frozen BK147.out 1; have hcz15_0 : w12.cell? ⟨gb148, 0, none⟩ = some (.int .i64 a1_0) := bc BK148; have hcz15_1 : w12.cell? ⟨gb148, 1, none⟩ = some (.int .i64 a1_1) := bc BK148; have hfz15_0 := blk_frozen BK148.out 0; have hfz15_1 := blk_frozen BK148.out 1) | ((with_reducible refine gC 32 ?_); refine GL (some 10) Try.func32 #[.int .i64 a0_1, .int .i64 a1_1] ?_; (with_reducible refine (cmp_Compare_int64.calls a0_1 a1_1 t149 _ A3.out).mono ?_); rintro e w' ⟨rfl, ⟨nd, rfl⟩⟩; refine ⟨_, rfl, ?_⟩))
    go_ret
    exact ⟨Fin, Hb⟩

/-! ### impl_IsShape: function 18 -/
def impl_IsShape.l0 : Nat → List (S42) → List (S42) → Int → Int → Option (Bool)
  | 0, _, _, _, _ => none
  | k + 1, x0, x5, x6, x7 => if x7 < x6 then (if 0 ≤ x7 then (if x7 < (x5.length : Int) then ((impl_isCoordinate.f ((rd_T42 x5 x7).f0)).bind fun t153 => (if t153 = true then ((impl_isCoordinate.f ((rd_T42 x5 x7).f1)).bind fun t154 => (if t154 = true then (if x7 > 0 then (if 0 ≤ (wrap64 (x7 - 1)) then (if (wrap64 (x7 - 1)) < (x0.length : Int) then ((impl_compareCells.f ((rd_T42 x0 (wrap64 (x7 - 1))).f0) ((rd_T42 x0 (wrap64 (x7 - 1))).f1) ((rd_T42 x5 x7).f0) ((rd_T42 x5 x7).f1)).bind fun t156 => (if t156 ≥ 0 then (some false) else (impl_IsShape.l0 k x0 x5 x6 (wrap64 (x7 + 1))))) else (none)) else (none)) else (impl_IsShape.l0 k x0 x5 x6 (wrap64 (x7 + 1)))) else (some false))) else (some false))) else (none)) else (none)) else (if (x0.length : Int) ≥ 1 then (some (decide ((x0.length : Int) ≤ 40))) else (some false))
def impl_IsShape.f (k : Nat) (l0 : List (S42)) : Option (Bool) := impl_IsShape.l0 k l0 l0 (l0.length : Int) 0
theorem impl_IsShape.mono_l : ∀ k, (∀ y0 y1 y2 y3, LeO (impl_IsShape.l0 k y0 y1 y2 y3) (impl_IsShape.l0 (k + 1) y0 y1 y2 y3))
  | 0 => fun _ _ _ _ r h => by simp [impl_IsShape.l0] at h
  | k + 1 => by
    have ih0 := impl_IsShape.mono_l k
    · intro y0 y1 y2 y3
      unfold impl_IsShape.l0
      repeat' first
      | (with_reducible exact ih0 _ _ _ _)
      | (with_reducible exact LeO.refl _)
      | (with_reducible exact LeO.none _)
      | (with_reducible refine LeO.ite ?_ ?_)
      | (with_reducible refine LeO.bind ?_ (fun _ => ?_))
      | exact ih0 _ _ _ _
      | exact LeO.none _
      | refine LeO.ite ?_ ?_
      | refine LeO.bind ?_ (fun _ => ?_)
theorem impl_IsShape.mono : ∀ a0 k, LeO (impl_IsShape.f k a0) (impl_IsShape.f (k + 1) a0) := by
  intro a0 k
  have ih0 := impl_IsShape.mono_l k
  unfold impl_IsShape.f
  repeat' first
      | (with_reducible exact ih0 _ _ _ _)
      | (with_reducible exact LeO.refl _)
      | (with_reducible exact LeO.none _)
      | (with_reducible refine LeO.ite ?_ ?_)
      | (with_reducible refine LeO.bind ?_ (fun _ => ?_))
      | exact ih0 _ _ _ _
      | exact LeO.none _
      | refine LeO.ite ?_ ?_
      | refine LeO.bind ?_ (fun _ => ?_)
def impl_IsShape.T4 : Bool × List (List Nat × List Nat) := (true, [([], []), ([0], [0]), ([1], [1]), ([2], [2]), ([3, 2], [3]), ([4], [4]), ([5, 4], [4, 5]), ([6, 4, 4], [4, 6]), ([7, 4], [4, 7]), ([4, 8], [4, 8]), ([9, 7], [9]), ([10], [10]), ([11, 10], [10, 11]), ([12, 10, 10], [10, 12]), ([13], [13]), ([13], [13]), ([15, 13], [13, 15]), ([14, 16, 13], [13, 14, 16]), ([17, 13], [13, 17]), ([13], [13]), ([18, 19, 13, 13], [13, 18, 19]), ([20, 13], [13, 20]), ([13, 21, 10], [10, 13, 21]), ([10, 22], [10, 22])])
def impl_IsShape.B4 : List Nat := [0, 1, 3, 7, 15, 31, 63, 127, 255, 511, 1023, 2047, 4095, 8191, 16383, 16383, 49151, 131071, 262143, 16383, 1048575, 2097151, 4194303, 8388607]
theorem impl_IsShape.tab4 : rtab .any (opsOf Try.f18 4) = impl_IsShape.T4 := by kernel_rfl
theorem impl_IsShape.bits4 : waitsOk impl_IsShape.T4.2 impl_IsShape.B4 = true := by kernel_rfl
set_option maxHeartbeats 8000000 in
set_option maxRecDepth 100000 in
theorem impl_IsShape.calls (k : Nat) (A0 : Option Addr) (c0 : Nat) (l0 : List (S42)) (r : Bool) (w : World) (hr0 : Kd.C k42 w A0 l0.length l0) (hc0 : l0.length ≤ c0) (h : impl_IsShape.f k l0 = some r) :
    Calls Try.prog 18 #[.slice A0 l0.length c0] w fun e w' => e = .returned (.bool r) ∧ Below w.heap.size w w' := by
  have hu42 := Try.underlying42
  have HR0 := Aside0.mk hr0
  have HC0 := Aside0.mk hc0
  clear hr0 hc0
  have HB := Aside0.mk (Below.refl w.heap.size w)
  have H : (impl_IsShape.l0 k l0 l0 (l0.length : Int) 0) = some r := h
  clear h
  have H' := Aside0.mk H
  clear H
  go_enter Try.func18, Try.ntmps18
  go_wp2
  go_loopg [7] k (fun kq v7 w' => ∃ (x7_1 : Int), v7 = .int .i64 x7_1 ∧ Aside0 (impl_IsShape.l0 kq l0 l0 (l0.length : Int) x7_1 = some r) ∧ Aside0 (kq ≤ k) ∧ Aside0 (Below w.heap.size w w'))
  case atStart => exact ⟨(0), Fs, H', ⟨Nat.le_refl _⟩, ⟨Hb⟩⟩
  case round =>
    clear H'
    try clear c1
    obtain ⟨x7_1, rfl, HA, HK1, HB⟩ := hrel
    cases gk with
    | zero => exact absurd HA.out (by simp [impl_IsShape.l0])
    | succ k1 =>
      have H := HA.out
      clear HA
      simp only [impl_IsShape.l0] at H
      by_cases c2 : x7_1 < (l0.length : Int)
      · rw [if_pos c2] at H
        have c2b0 : decide (x7_1 < (l0.length : Int)) = true := decide_eq_true c2
        clear c2
        by_cases c3 : 0 ≤ x7_1
        · rw [if_pos c3] at H
          have c3b0 : decide (0 ≤ x7_1) = true := decide_eq_true c3
          clear c3
          by_cases c4 : x7_1 < (l0.length : Int)
          · rw [if_pos c4] at H
            have c4b0 : decide (x7_1 < (l0.length : Int)) = true := decide_eq_true c4
            clear c4
            obtain ⟨t153, A50, H⟩ := Option.bind_eq_some_iff.mp H
            have A5 := Aside0.mk A50
            clear A50
            by_cases c6 : t153 = true
            · subst c6
              rw [if_pos rfl] at H
              obtain ⟨t154, A70, H⟩ := Option.bind_eq_some_iff.mp H
              have A7 := Aside0.mk A70
              clear A70
              by_cases c8 : t154 = true
              · subst c8
                rw [if_pos rfl] at H
                by_cases c9 : x7_1 > 0
                · rw [if_pos c9] at H
                  have c9b0 : decide (0 < x7_1) = true := decide_eq_true c9
                  clear c9
                  obtain ⟨ji10, hji10⟩ : ∃ j_ : Int, (wrap64 (x7_1 - 1)) = j_ := ⟨_, rfl⟩
                  replace H : (if 0 ≤ (ji10) then (if (ji10) < (l0.length : Int) then ((impl_compareCells.f ((rd_T42 l0 (ji10)).f0) ((rd_T42 l0 (ji10)).f1) ((rd_T42 l0 x7_1).f0) ((rd_T42 l0 x7_1).f1)).bind fun t156 => (if t156 ≥ 0 then (some false) else (impl_IsShape.l0 k1 l0 l0 (l0.length : Int) (wrap64 (x7_1 + 1))))) else (none)) else (none)) = some r := by first | (rw [hji10] at H; exact H) | (simp only [hji10] at H ⊢; exact H)
                  (try rw [hji10] at A5)
                  (try rw [hji10] at A7)
                  have hji10w : (IntKind.i64.wrap (x7_1 - 1)) = ji10 := (i64_w _).trans hji10
                  by_cases c11 : 0 ≤ (ji10)
                  · rw [if_pos c11] at H
                    have c11b0 : decide (0 ≤ (ji10)) = true := decide_eq_true c11
                    clear c11
                    by_cases c12 : (ji10) < (l0.length : Int)
                    · rw [if_pos c12] at H
                      have c12b0 : decide ((ji10) < (l0.length : Int)) = true := decide_eq_true c12
                      clear c12
                      obtain ⟨t156, A130, H⟩ := Option.bind_eq_some_iff.mp H
                      have A13 := Aside0.mk A130
                      clear A130
                      by_cases c14 : t156 ≥ 0
                      · rw [if_pos c14] at H
                        have c14b0 : decide (0 ≤ t156) = true := decide_eq_true c14
                        clear c14
                        obtain rfl := Option.some.inj H
                        have p151 : 0 ≤ (x7_1 : Int) := oD
                        have q151 : x7_1 < (l0.length : Int) := oD
                        obtain ⟨ad151, e151, hx151_0, hx151_1⟩ := at_T42 HR0.out x7_1 p151 q151
                        cases e151
                        replace hx151_0 := hxb hx151_0
                        replace hx151_1 := hxb hx151_1
                        replace p151 := eq_true p151
                        replace q151 := eq_true q151
                        try go_wp2_with (first | ((with_reducible refine gD 4 ?_); (try (refine gate_guard (by rfl) ?_; dsimp only)); refine BX #[.int .i64 0, .int .i64 0] 42 ?_; intro gb152 hg w15 hbox hb; have BK152 := Aside0.mk (hbox); have GW152 := Aside0.mk ((Gle hg Hb : w.heap.size ≤ gb152)); have GE152 := Aside0.mk ((Gle hg Hb : w.heap.size ≤ gb152)); replace HB := Aside0.mk (below_step Hb hb); clear hb hbox hg; have hcz16_0 : w15.cell? ⟨gb152, 0, none⟩ = some (.int .i64 0) := bc BK152; have hcz16_1 : w15.cell? ⟨gb152, 1, none⟩ = some (.int .i64 0) := bc BK152; have hfz16_0 := blk_frozen BK152.out 0; have hfz16_1 := blk_frozen BK152.out 1))
                        have n0_ : Aside0 (((w15.setCell ⟨gb152, 0, none⟩ (.int .i64 ((rd_T42 l0 x7_1).f0))).setCell ⟨gb152, 1, none⟩ (.int .i64 ((rd_T42 l0 x7_1).f1))).heap[gb152]? = some (.cells #[.int .i64 ((rd_T42 l0 x7_1).f0), .int .i64 ((rd_T42 l0 x7_1).f1)] 42 (0, 0))) := ⟨by (with_reducible repeat (first | refine blk_drewN ?_ _ | refine blk_drew ?_ | refine blk_alloc ?_ _)); refine blk_put (cs := #[.int .i64 ((rd_T42 l0 x7_1).f0), .int .i64 0]) ?_ 1 _ rfl; (with_reducible repeat (first | refine blk_drewN ?_ _ | refine blk_drew ?_ | refine blk_alloc ?_ _)); refine blk_put (cs := #[.int .i64 0, .int .i64 0]) ?_ 0 _ rfl; (with_reducible repeat (first | refine blk_drewN ?_ _ | refine blk_drew ?_ | refine blk_alloc ?_ _)); exact BK152.out⟩
                        have n1_ : Aside0 (Below w.heap.size w ((w15.setCell ⟨gb152, 0, none⟩ (.int .i64 ((rd_T42 l0 x7_1).f0))).setCell ⟨gb152, 1, none⟩ (.int .i64 ((rd_T42 l0 x7_1).f1)))) := ⟨Hb⟩
                        (try clear BK152)
                        (try clear HB)
                        generalize ((w15.setCell ⟨gb152, 0, none⟩ (.int .i64 ((rd_T42 l0 x7_1).f0))).setCell ⟨gb152, 1, none⟩ (.int .i64 ((rd_T42 l0 x7_1).f1))) = w17 at n0_ n1_ ⊢
                        have BK152 := n0_
                        have HB := n1_
                        clear n0_ n1_
                        replace BK152 := Aside0.mk (blk_drew BK152.out)
                        replace HB := Aside0.mk (below_drew1 HB.out)
                        have p155 : 0 ≤ ((ji10) : Int) := oD
                        have q155 : (ji10) < (l0.length : Int) := oD
                        obtain ⟨ad155, e155, hx155_0, hx155_1⟩ := at_T42 HR0.out (ji10) p155 q155
                        have hw155_1 := hx155_1
                        have hw155_0 := hx155_0
                        obtain rfl : ad151 = ad155 := (by injection e155)
                        replace hx155_0 := hxb hx155_0
                        replace hx155_1 := hxb hx155_1
                        replace p155 := eq_true p155
                        replace q155 := eq_true q155
                        refine start_ (n := 24) (S := fun w' => w'.cell? ⟨gb152, 0, none⟩ = some (.int .i64 ((rd_T42 l0 x7_1).f0)) ∧ w'.cell? ⟨gb152, 1, none⟩ = some (.int .i64 ((rd_T42 l0 x7_1).f1)) ∧ w'.cell? (ad151.add (((ji10)).toNat * 2)) = some (.int .i64 ((rd_T42 l0 (ji10)).f0)) ∧ w'.cell? ⟨(ad151.add (((ji10)).toNat * 2)).block, (ad151.add (((ji10)).toNat * 2)).off + 1, none⟩ = some (.int .i64 ((rd_T42 l0 (ji10)).f1))) (ds := []) #[false, false, false, false, false, false, false, false, false, false, false, false, false, false, false, false, false, false, false, false, false, false, false, false] (by kernel_rfl) rfl rfl ⟨(blk_cell BK152.out 0).trans rfl, (blk_cell BK152.out 1).trans rfl, (hxb hw155_0), (hxb hw155_1)⟩ (fun hHeld => ?_); refine with_tabW impl_IsShape.tab4 impl_IsShape.bits4 (fun HT_ HW_ => ?_)
                        generalize w17.drew = w18 at BK152 HB hx155_0 hx155_1 hHeld ⊢
                        refine PU 0 12 ?_
                        refine TK 1 13 hHeld ?_
                        refine ON 2 14 (fun K hK => ?_)
                        refine GO Try.func27 #[.int .i64 ((rd_T42 l0 x7_1).f0)] ?_
                        with_reducible refine (impl_isCoordinate.calls ((rd_T42 l0 x7_1).f0) true _ A5.out).mono ?_
                        rintro e w' ⟨rfl, ⟨nd, rfl⟩⟩
                        refine ⟨_, rfl, ?_⟩
                        refine hK.out _ _ ⟨(blk_cell BK152.out 0).trans rfl, (blk_cell BK152.out 1).trans rfl, (hxb hw155_0), (hxb hw155_1)⟩ (fun hHeld => ?_)
                        clear hK K
                        refine NM ?_
                        refine PU 3 15 ?_
                        refine PU 4 16 ?_
                        refine PU 5 17 ?_
                        refine TK 6 18 hHeld ?_
                        refine ON 7 19 (fun K hK => ?_)
                        refine GO Try.func27 #[.int .i64 ((rd_T42 l0 x7_1).f1)] ?_
                        with_reducible refine (impl_isCoordinate.calls ((rd_T42 l0 x7_1).f1) true _ A7.out).mono ?_
                        rintro e w' ⟨rfl, ⟨nd, rfl⟩⟩
                        refine ⟨_, rfl, ?_⟩
                        refine hK.out _ _ ⟨(blk_cell BK152.out 0).trans rfl, (blk_cell BK152.out 1).trans rfl, (hxb hw155_0), (hxb hw155_1)⟩ (fun hHeld => ?_)
                        clear hK K
                        refine NM ?_
                        refine PU 8 20 ?_
                        refine PU 9 21 ?_
                        refine PU 10 22 ?_
                        refine PU 11 23 ?_
                        refine PU 12 24 ?_
                        refine PU 13 25 ?_
                        refine PU 14 26 ?_
                        refine PU 15 27 ?_
                        refine PU 16 28 ?_
                        refine PU 17 29 ?_
                        refine TK 18 30 hHeld ?_
                        refine TK 19 31 hHeld ?_
                        refine ON 20 32 (fun K hK => ?_)
                        refine goes_ Try.func28 (by kernel_rfl) rfl #[.agg #[.int .i64 ((rd_T42 l0 (ji10)).f0), .int .i64 ((rd_T42 l0 (ji10)).f1)], .agg #[.int .i64 ((rd_T42 l0 x7_1).f0), .int .i64 ((rd_T42 l0 x7_1).f1)]] (by rfl) rfl rfl (by (try simp only [List.map_toArray, List.map_cons, List.map_nil]); first | done | (simp only [hji10]; rfl) | rfl | (simp only [List.length_drop, List.length_take]; rfl)) ?_
                        with_reducible refine (impl_compareCells.calls ((rd_T42 l0 (ji10)).f0) ((rd_T42 l0 (ji10)).f1) ((rd_T42 l0 x7_1).f0) ((rd_T42 l0 x7_1).f1) t156 _ A13.out).mono ?_
                        rintro e w19 ⟨rfl, hb⟩
                        refine ⟨_, rfl, ?_⟩
                        replace BK152 := Aside0.mk (blk_below (B1 BK152) hb)
                        replace HB := Aside0.mk (below_step Hb hb)
                        (try clear hb)
                        (try clear hb2)
                        (try clear hk)
                        (try clear hi)
                        refine hK.out _ _ ⟨(blk_cell BK152.out 0).trans rfl, (blk_cell BK152.out 1).trans rfl, (hxb hw155_0), (hxb hw155_1)⟩ (fun hHeld => ?_)
                        clear hK K
                        refine NM ?_
                        refine PU 21 33 ?_
                        refine PU 22 34 ?_
                        refine PU 23 35 ?_
                        refine done_ (done_of HT_.out (by kernel_rfl)) ?_
                        try go_wp2
                        go_ret
                        exact ⟨by first | rfl | (simp [errW_none, errW_some] <;> rfl) | (simp only [← hji10]; first | rfl | (simp [errW_none, errW_some] <;> rfl)) | (simp [*, errW_none, errW_some] <;> rfl), Hb⟩
                      · rw [if_neg c14] at H
                        have c14b0 : decide (0 ≤ t156) = false := decide_eq_false c14
                        clear c14
                        have H' := Aside0.mk H
                        clear H
                        have p151 : 0 ≤ (x7_1 : Int) := oD
                        have q151 : x7_1 < (l0.length : Int) := oD
                        obtain ⟨ad151, e151, hx151_0, hx151_1⟩ := at_T42 HR0.out x7_1 p151 q151
                        cases e151
                        replace hx151_0 := hxb hx151_0
                        replace hx151_1 := hxb hx151_1
                        replace p151 := eq_true p151
                        replace q151 := eq_true q151
                        try go_wp2_with (first | ((with_reducible refine gD 4 ?_); (try (refine gate_guard (by rfl) ?_; dsimp only)); refine BX #[.int .i64 0, .int .i64 0] 42 ?_; intro gb152 hg w20 hbox hb; have BK152 := Aside0.mk (hbox); have GW152 := Aside0.mk ((Gle hg Hb : w.heap.size ≤ gb152)); have GE152 := Aside0.mk ((Gle hg Hb : w.heap.size ≤ gb152)); replace HB := Aside0.mk (below_step Hb hb); clear hb hbox hg; have hcz21_0 : w20.cell? ⟨gb152, 0, none⟩ = some (.int .i64 0) := bc BK152; have hcz21_1 : w20.cell? ⟨gb152, 1, none⟩ = some (.int .i64 0) := bc BK152; have hfz21_0 := blk_frozen BK152.out 0; have hfz21_1 := blk_frozen BK152.out 1))
                        have n0_ : Aside0 (((w20.setCell ⟨gb152, 0, none⟩ (.int .i64 ((rd_T42 l0 x7_1).f0))).setCell ⟨gb152, 1, none⟩ (.int .i64 ((rd_T42 l0 x7_1).f1))).heap[gb152]? = some (.cells #[.int .i64 ((rd_T42 l0 x7_1).f0), .int .i64 ((rd_T42 l0 x7_1).f1)] 42 (0, 0))) := ⟨by (with_reducible repeat (first | refine blk_drewN ?_ _ | refine blk_drew ?_ | refine blk_alloc ?_ _)); refine blk_put (cs := #[.int .i64 ((rd_T42 l0 x7_1).f0), .int .i64 0]) ?_ 1 _ rfl; (with_reducible repeat (first | refine blk_drewN ?_ _ | refine blk_drew ?_ | refine blk_alloc ?_ _)); refine blk_put (cs := #[.int .i64 0, .int .i64 0]) ?_ 0 _ rfl; (with_reducible repeat (first | refine blk_drewN ?_ _ | refine blk_drew ?_ | refine blk_alloc ?_ _)); exact BK152.out⟩
                        have n1_ : Aside0 (Below w.heap.size w ((w20.setCell ⟨gb152, 0, none⟩ (.int .i64 ((rd_T42 l0 x7_1).f0))).setCell ⟨gb152, 1, none⟩ (.int .i64 ((rd_T42 l0 x7_1).f1)))) := ⟨Hb⟩
                        (try clear BK152)
                        (try clear HB)
                        generalize ((w20.setCell ⟨gb152, 0, none⟩ (.int .i64 ((rd_T42 l0 x7_1).f0))).setCell ⟨gb152, 1, none⟩ (.int .i64 ((rd_T42 l0 x7_1).f1))) = w22 at n0_ n1_ ⊢
                        have BK152 := n0_
                        have HB := n1_
                        clear n0_ n1_
                        replace BK152 := Aside0.mk (blk_drew BK152.out)
                        replace HB := Aside0.mk (below_drew1 HB.out)
                        have p155 : 0 ≤ ((ji10) : Int) := oD
                        have q155 : (ji10) < (l0.length : Int) := oD
                        obtain ⟨ad155, e155, hx155_0, hx155_1⟩ := at_T42 HR0.out (ji10) p155 q155
                        have hw155_1 := hx155_1
                        have hw155_0 := hx155_0
                        obtain rfl : ad151 = ad155 := (by injection e155)
                        replace hx155_0 := hxb hx155_0
                        replace hx155_1 := hxb hx155_1
                        replace p155 := eq_true p155
                        replace q155 := eq_true q155
                        refine start_ (n := 24) (S := fun w' => w'.cell? ⟨gb152, 0, none⟩ = some (.int .i64 ((rd_T42 l0 x7_1).f0)) ∧ w'.cell? ⟨gb152, 1, none⟩ = some (.int .i64 ((rd_T42 l0 x7_1).f1)) ∧ w'.cell? (ad151.add (((ji10)).toNat * 2)) = some (.int .i64 ((rd_T42 l0 (ji10)).f0)) ∧ w'.cell? ⟨(ad151.add (((ji10)).toNat * 2)).block, (ad151.add (((ji10)).toNat * 2)).off + 1, none⟩ = some (.int .i64 ((rd_T42 l0 (ji10)).f1))) (ds := []) #[false, false, false, false, false, false, false, false, false, false, false, false, false, false, false, false, false, false, false, false, false, false, false, false] (by kernel_rfl) rfl rfl ⟨(blk_cell BK152.out 0).trans rfl, (blk_cell BK152.out 1).trans rfl, (hxb hw155_0), (hxb hw155_1)⟩ (fun hHeld => ?_); refine with_tabW impl_IsShape.tab4 impl_IsShape.bits4 (fun HT_ HW_ => ?_)
                        generalize w22.drew = w23 at BK152 HB hx155_0 hx155_1 hHeld ⊢
                        refine PU 0 12 ?_
                        refine TK 1 13 hHeld ?_
                        refine ON 2 14 (fun K hK => ?_)
                        refine GO Try.func27 #[.int .i64 ((rd_T42 l0 x7_1).f0)] ?_
                        with_reducible refine (impl_isCoordinate.calls ((rd_T42 l0 x7_1).f0) true _ A5.out).mono ?_
                        rintro e w' ⟨rfl, ⟨nd, rfl⟩⟩
                        refine ⟨_, rfl, ?_⟩
                        refine hK.out _ _ ⟨(blk_cell BK152.out 0).trans rfl, (blk_cell BK152.out 1).trans rfl, (hxb hw155_0), (hxb hw155_1)⟩ (fun hHeld => ?_)
                        clear hK K
                        refine NM ?_
                        refine PU 3 15 ?_
                        refine PU 4 16 ?_
                        refine PU 5 17 ?_
                        refine TK 6 18 hHeld ?_
                        refine ON 7 19 (fun K hK => ?_)
                        refine GO Try.func27 #[.int .i64 ((rd_T42 l0 x7_1).f1)] ?_
                        with_reducible refine (impl_isCoordinate.calls ((rd_T42 l0 x7_1).f1) true _ A7.out).mono ?_
                        rintro e w' ⟨rfl, ⟨nd, rfl⟩⟩
                        refine ⟨_, rfl, ?_⟩
                        refine hK.out _ _ ⟨(blk_cell BK152.out 0).trans rfl, (blk_cell BK152.out 1).trans rfl, (hxb hw155_0), (hxb hw155_1)⟩ (fun hHeld => ?_)
                        clear hK K
                        refine NM ?_
                        refine PU 8 20 ?_
                        refine PU 9 21 ?_
                        refine PU 10 22 ?_
                        refine PU 11 23 ?_
                        refine PU 12 24 ?_
                        refine PU 13 25 ?_
                        refine PU 14 26 ?_
                        refine PU 15 27 ?_
                        refine PU 16 28 ?_
                        refine PU 17 29 ?_
                        refine TK 18 30 hHeld ?_
                        refine TK 19 31 hHeld ?_
                        refine ON 20 32 (fun K hK => ?_)
                        refine goes_ Try.func28 (by kernel_rfl) rfl #[.agg #[.int .i64 ((rd_T42 l0 (ji10)).f0), .int .i64 ((rd_T42 l0 (ji10)).f1)], .agg #[.int .i64 ((rd_T42 l0 x7_1).f0), .int .i64 ((rd_T42 l0 x7_1).f1)]] (by rfl) rfl rfl (by (try simp only [List.map_toArray, List.map_cons, List.map_nil]); first | done | (simp only [hji10]; rfl) | rfl | (simp only [List.length_drop, List.length_take]; rfl)) ?_
                        with_reducible refine (impl_compareCells.calls ((rd_T42 l0 (ji10)).f0) ((rd_T42 l0 (ji10)).f1) ((rd_T42 l0 x7_1).f0) ((rd_T42 l0 x7_1).f1) t156 _ A13.out).mono ?_
                        rintro e w24 ⟨rfl, hb⟩
                        refine ⟨_, rfl, ?_⟩
                        replace BK152 := Aside0.mk (blk_below (B1 BK152) hb)
                        replace HB := Aside0.mk (below_step Hb hb)
                        (try clear hb)
                        (try clear hb2)
                        (try clear hk)
                        (try clear hi)
                        refine hK.out _ _ ⟨(blk_cell BK152.out 0).trans rfl, (blk_cell BK152.out 1).trans rfl, (hxb hw155_0), (hxb hw155_1)⟩ (fun hHeld => ?_)
                        clear hK K
                        refine NM ?_
                        refine PU 21 33 ?_
                        refine PU 22 34 ?_
                        refine PU 23 35 ?_
                        refine done_ (done_of HT_.out (by kernel_rfl)) ?_
                        try go_wp2
                        go_roundg k1
                        case measure => have := HK1.out; omega
                        case rel => exact ⟨(wrap64 (x7_1 + 1)), Fs, H', ⟨by have := HK1.out; omega⟩, ⟨Hb⟩⟩
                    · rw [if_neg c12] at H
                      exact absurd H (by simp)
                  · rw [if_neg c11] at H
                    exact absurd H (by simp)
                · rw [if_neg c9] at H
                  have c9b0 : decide (0 < x7_1) = false := decide_eq_false c9
                  clear c9
                  have H' := Aside0.mk H
                  clear H
                  have p151 : 0 ≤ (x7_1 : Int) := oD
                  have q151 : x7_1 < (l0.length : Int) := oD
                  obtain ⟨ad151, e151, hx151_0, hx151_1⟩ := at_T42 HR0.out x7_1 p151 q151
                  cases e151
                  replace hx151_0 := hxb hx151_0
                  replace hx151_1 := hxb hx151_1
                  replace p151 := eq_true p151
                  replace q151 := eq_true q151
                  try go_wp2_with (first | ((with_reducible refine gD 4 ?_); (try (refine gate_guard (by rfl) ?_; dsimp only)); refine BX #[.int .i64 0, .int .i64 0] 42 ?_; intro gb152 hg w25 hbox hb; have BK152 := Aside0.mk (hbox); have GW152 := Aside0.mk ((Gle hg Hb : w.heap.size ≤ gb152)); have GE152 := Aside0.mk ((Gle hg Hb : w.heap.size ≤ gb152)); replace HB := Aside0.mk (below_step Hb hb); clear hb hbox hg; have hcz26_0 : w25.cell? ⟨gb152, 0, none⟩ = some (.int .i64 0) := bc BK152; have hcz26_1 : w25.cell? ⟨gb152, 1, none⟩ = some (.int .i64 0) := bc BK152; have hfz26_0 := blk_frozen BK152.out 0; have hfz26_1 := blk_frozen BK152.out 1))
                  have n0_ : Aside0 (((w25.setCell ⟨gb152, 0, none⟩ (.int .i64 ((rd_T42 l0 x7_1).f0))).setCell ⟨gb152, 1, none⟩ (.int .i64 ((rd_T42 l0 x7_1).f1))).heap[gb152]? = some (.cells #[.int .i64 ((rd_T42 l0 x7_1).f0), .int .i64 ((rd_T42 l0 x7_1).f1)] 42 (0, 0))) := ⟨by (with_reducible repeat (first | refine blk_drewN ?_ _ | refine blk_drew ?_ | refine blk_alloc ?_ _)); refine blk_put (cs := #[.int .i64 ((rd_T42 l0 x7_1).f0), .int .i64 0]) ?_ 1 _ rfl; (with_reducible repeat (first | refine blk_drewN ?_ _ | refine blk_drew ?_ | refine blk_alloc ?_ _)); refine blk_put (cs := #[.int .i64 0, .int .i64 0]) ?_ 0 _ rfl; (with_reducible repeat (first | refine blk_drewN ?_ _ | refine blk_drew ?_ | refine blk_alloc ?_ _)); exact BK152.out⟩
                  have n1_ : Aside0 (Below w.heap.size w ((w25.setCell ⟨gb152, 0, none⟩ (.int .i64 ((rd_T42 l0 x7_1).f0))).setCell ⟨gb152, 1, none⟩ (.int .i64 ((rd_T42 l0 x7_1).f1)))) := ⟨Hb⟩
                  (try clear BK152)
                  (try clear HB)
                  generalize ((w25.setCell ⟨gb152, 0, none⟩ (.int .i64 ((rd_T42 l0 x7_1).f0))).setCell ⟨gb152, 1, none⟩ (.int .i64 ((rd_T42 l0 x7_1).f1))) = w27 at n0_ n1_ ⊢
                  have BK152 := n0_
                  have HB := n1_
                  clear n0_ n1_
                  replace BK152 := Aside0.mk (blk_drew BK152.out)
                  replace HB := Aside0.mk (below_drew1 HB.out)
                  refine start_ (n := 24) (S := fun w' => w'.cell? ⟨gb152, 0, none⟩ = some (.int .i64 ((rd_T42 l0 x7_1).f0)) ∧ w'.cell? ⟨gb152, 1, none⟩ = some (.int .i64 ((rd_T42 l0 x7_1).f1))) (ds := []) #[false, false, false, false, false, false, false, false, false, false, false, false, false, false, false, false, false, false, false, false, false, false, false, false] (by kernel_rfl) rfl rfl ⟨(blk_cell BK152.out 0).trans rfl, (blk_cell BK152.out 1).trans rfl⟩ (fun hHeld => ?_); refine with_tabW impl_IsShape.tab4 impl_IsShape.bits4 (fun HT_ HW_ => ?_)
                  generalize w27.drew = w28 at BK152 HB hHeld ⊢
                  refine PU 0 12 ?_
                  refine TK 1 13 hHeld ?_
                  refine ON 2 14 (fun K hK => ?_)
                  refine GO Try.func27 #[.int .i64 ((rd_T42 l0 x7_1).f0)] ?_
                  with_reducible refine (impl_isCoordinate.calls ((rd_T42 l0 x7_1).f0) true _ A5.out).mono ?_
                  rintro e w' ⟨rfl, ⟨nd, rfl⟩⟩
                  refine ⟨_, rfl, ?_⟩
                  refine hK.out _ _ ⟨(blk_cell BK152.out 0).trans rfl, (blk_cell BK152.out 1).trans rfl⟩ (fun hHeld => ?_)
                  clear hK K
                  refine NM ?_
                  refine PU 3 15 ?_
                  refine PU 4 16 ?_
                  refine PU 5 17 ?_
                  refine TK 6 18 hHeld ?_
                  refine ON 7 19 (fun K hK => ?_)
                  refine GO Try.func27 #[.int .i64 ((rd_T42 l0 x7_1).f1)] ?_
                  with_reducible refine (impl_isCoordinate.calls ((rd_T42 l0 x7_1).f1) true _ A7.out).mono ?_
                  rintro e w' ⟨rfl, ⟨nd, rfl⟩⟩
                  refine ⟨_, rfl, ?_⟩
                  refine hK.out _ _ ⟨(blk_cell BK152.out 0).trans rfl, (blk_cell BK152.out 1).trans rfl⟩ (fun hHeld => ?_)
                  clear hK K
                  refine NM ?_
                  refine PU 8 20 ?_
                  refine PU 9 21 ?_
                  refine PU 10 22 ?_
                  refine PU 11 23 ?_
                  refine PU 12 24 ?_
                  refine PU 13 25 ?_
                  refine PV 14 26 ?_
                  refine PV 15 27 ?_
                  refine PV 16 28 ?_
                  refine PV 17 29 ?_
                  refine PV 18 30 ?_
                  refine PV 19 31 ?_
                  refine PV 20 32 ?_
                  refine PV 21 33 ?_
                  refine PU 22 34 ?_
                  refine PU 23 35 ?_
                  refine done_ (done_of HT_.out (by kernel_rfl)) ?_
                  try go_wp2
                  go_roundg k1
                  case measure => have := HK1.out; omega
                  case rel => exact ⟨(wrap64 (x7_1 + 1)), Fs, H', ⟨by have := HK1.out; omega⟩, ⟨Hb⟩⟩
              · replace c8 := Bool.eq_false_iff.mpr c8
                subst c8
                rw [if_neg (show ¬ (false = true) by decide)] at H
                obtain rfl := Option.some.inj H
                have p151 : 0 ≤ (x7_1 : Int) := oD
                have q151 : x7_1 < (l0.length : Int) := oD
                obtain ⟨ad151, e151, hx151_0, hx151_1⟩ := at_T42 HR0.out x7_1 p151 q151
                cases e151
                replace hx151_0 := hxb hx151_0
                replace hx151_1 := hxb hx151_1
                replace p151 := eq_true p151
                replace q151 := eq_true q151
                try go_wp2_with (first | ((with_reducible refine gD 4 ?_); (try (refine gate_guard (by rfl) ?_; dsimp only)); refine BX #[.int .i64 0, .int .i64 0] 42 ?_; intro gb152 hg w29 hbox hb; have BK152 := Aside0.mk (hbox); have GW152 := Aside0.mk ((Gle hg Hb : w.heap.size ≤ gb152)); have GE152 := Aside0.mk ((Gle hg Hb : w.heap.size ≤ gb152)); replace HB := Aside0.mk (below_step Hb hb); clear hb hbox hg; have hcz30_0 : w29.cell? ⟨gb152, 0, none⟩ = some (.int .i64 0) := bc BK152; have hcz30_1 : w29.cell? ⟨gb152, 1, none⟩ = some (.int .i64 0) := bc BK152; have hfz30_0 := blk_frozen BK152.out 0; have hfz30_1 := blk_frozen BK152.out 1))
                have n0_ : Aside0 (((w29.setCell ⟨gb152, 0, none⟩ (.int .i64 ((rd_T42 l0 x7_1).f0))).setCell ⟨gb152, 1, none⟩ (.int .i64 ((rd_T42 l0 x7_1).f1))).heap[gb152]? = some (.cells #[.int .i64 ((rd_T42 l0 x7_1).f0), .int .i64 ((rd_T42 l0 x7_1).f1)] 42 (0, 0))) := ⟨by (with_reducible repeat (first | refine blk_drewN ?_ _ | refine blk_drew ?_ | refine blk_alloc ?_ _)); refine blk_put (cs := #[.int .i64 ((rd_T42 l0 x7_1).f0), .int .i64 0]) ?_ 1 _ rfl; (with_reducible repeat (first | refine blk_drewN ?_ _ | refine blk_drew ?_ | refine blk_alloc ?_ _)); refine blk_put (cs := #[.int .i64 0, .int .i64 0]) ?_ 0 _ rfl; (with_reducible repeat (first | refine blk_drewN ?_ _ | refine blk_drew ?_ | refine blk_alloc ?_ _)); exact BK152.out⟩
                have n1_ : Aside0 (Below w.heap.size w ((w29.setCell ⟨gb152, 0, none⟩ (.int .i64 ((rd_T42 l0 x7_1).f0))).setCell ⟨gb152, 1, none⟩ (.int .i64 ((rd_T42 l0 x7_1).f1)))) := ⟨Hb⟩
                (try clear BK152)
                (try clear HB)
                generalize ((w29.setCell ⟨gb152, 0, none⟩ (.int .i64 ((rd_T42 l0 x7_1).f0))).setCell ⟨gb152, 1, none⟩ (.int .i64 ((rd_T42 l0 x7_1).f1))) = w31 at n0_ n1_ ⊢
                have BK152 := n0_
                have HB := n1_
                clear n0_ n1_
                replace BK152 := Aside0.mk (blk_drew BK152.out)
                replace HB := Aside0.mk (below_drew1 HB.out)
                refine start_ (n := 24) (S := fun w' => w'.cell? ⟨gb152, 0, none⟩ = some (.int .i64 ((rd_T42 l0 x7_1).f0)) ∧ w'.cell? ⟨gb152, 1, none⟩ = some (.int .i64 ((rd_T42 l0 x7_1).f1))) (ds := []) #[false, false, false, false, false, false, false, false, false, false, false, false, false, false, false, false, false, false, false, false, false, false, false, false] (by kernel_rfl) rfl rfl ⟨(blk_cell BK152.out 0).trans rfl, (blk_cell BK152.out 1).trans rfl⟩ (fun hHeld => ?_); refine with_tabW impl_IsShape.tab4 impl_IsShape.bits4 (fun HT_ HW_ => ?_)
                generalize w31.drew = w32 at BK152 HB hHeld ⊢
                refine PU 0 12 ?_
                refine TK 1 13 hHeld ?_
                refine ON 2 14 (fun K hK => ?_)
                refine GO Try.func27 #[.int .i64 ((rd_T42 l0 x7_1).f0)] ?_
                with_reducible refine (impl_isCoordinate.calls ((rd_T42 l0 x7_1).f0) true _ A5.out).mono ?_
                rintro e w' ⟨rfl, ⟨nd, rfl⟩⟩
                refine ⟨_, rfl, ?_⟩
                refine hK.out _ _ ⟨(blk_cell BK152.out 0).trans rfl, (blk_cell BK152.out 1).trans rfl⟩ (fun hHeld => ?_)
                clear hK K
                refine NM ?_
                refine PU 3 15 ?_
                refine PU 4 16 ?_
                refine PU 5 17 ?_
                refine TK 6 18 hHeld ?_
                refine ON 7 19 (fun K hK => ?_)
                refine GO Try.func27 #[.int .i64 ((rd_T42 l0 x7_1).f1)] ?_
                with_reducible refine (impl_isCoordinate.calls ((rd_T42 l0 x7_1).f1) false _ A7.out).mono ?_
                rintro e w' ⟨rfl, ⟨nd, rfl⟩⟩
                refine ⟨_, rfl, ?_⟩
                refine hK.out _ _ ⟨(blk_cell BK152.out 0).trans rfl, (blk_cell BK152.out 1).trans rfl⟩ (fun hHeld => ?_)
                clear hK K
                refine NM ?_
                refine PU 8 20 ?_
                refine PU 9 21 ?_
                refine PU 10 22 ?_
                refine PV 11 23 ?_
                refine PV 12 24 ?_
                refine PV 13 25 ?_
                refine PV 14 26 ?_
                refine PV 15 27 ?_
                refine PV 16 28 ?_
                refine PV 17 29 ?_
                refine PV 18 30 ?_
                refine PV 19 31 ?_
                refine PV 20 32 ?_
                refine PV 21 33 ?_
                refine PV 22 34 ?_
                refine PU 23 35 ?_
                refine done_ (done_of HT_.out (by kernel_rfl)) ?_
                try go_wp2
                go_ret
                exact ⟨Fin, Hb⟩
            · replace c6 := Bool.eq_false_iff.mpr c6
              subst c6
              rw [if_neg (show ¬ (false = true) by decide)] at H
              obtain rfl := Option.some.inj H
              have p151 : 0 ≤ (x7_1 : Int) := oD
              have q151 : x7_1 < (l0.length : Int) := oD
              obtain ⟨ad151, e151, hx151_0, hx151_1⟩ := at_T42 HR0.out x7_1 p151 q151
              cases e151
              replace hx151_0 := hxb hx151_0
              replace hx151_1 := hxb hx151_1
              replace p151 := eq_true p151
              replace q151 := eq_true q151
              try go_wp2_with (first | ((with_reducible refine gD 4 ?_); (try (refine gate_guard (by rfl) ?_; dsimp only)); refine BX #[.int .i64 0, .int .i64 0] 42 ?_; intro gb152 hg w33 hbox hb; have BK152 := Aside0.mk (hbox); have GW152 := Aside0.mk ((Gle hg Hb : w.heap.size ≤ gb152)); have GE152 := Aside0.mk ((Gle hg Hb : w.heap.size ≤ gb152)); replace HB := Aside0.mk (below_step Hb hb); clear hb hbox hg; have hcz34_0 : w33.cell? ⟨gb152, 0, none⟩ = some (.int .i64 0) := bc BK152; have hcz34_1 : w33.cell? ⟨gb152, 1, none⟩ = some (.int .i64 0) := bc BK152; have hfz34_0 := blk_frozen BK152.out 0; have hfz34_1 := blk_frozen BK152.out 1))
              have n0_ : Aside0 (((w33.setCell ⟨gb152, 0, none⟩ (.int .i64 ((rd_T42 l0 x7_1).f0))).setCell ⟨gb152, 1, none⟩ (.int .i64 ((rd_T42 l0 x7_1).f1))).heap[gb152]? = some (.cells #[.int .i64 ((rd_T42 l0 x7_1).f0), .int .i64 ((rd_T42 l0 x7_1).f1)] 42 (0, 0))) := ⟨by (with_reducible repeat (first | refine blk_drewN ?_ _ | refine blk_drew ?_ | refine blk_alloc ?_ _)); refine blk_put (cs := #[.int .i64 ((rd_T42 l0 x7_1).f0), .int .i64 0]) ?_ 1 _ rfl; (with_reducible repeat (first | refine blk_drewN ?_ _ | refine blk_drew ?_ | refine blk_alloc ?_ _)); refine blk_put (cs := #[.int .i64 0, .int .i64 0]) ?_ 0 _ rfl; (with_reducible repeat (first | refine blk_drewN ?_ _ | refine blk_drew ?_ | refine blk_alloc ?_ _)); exact BK152.out⟩
              have n1_ : Aside0 (Below w.heap.size w ((w33.setCell ⟨gb152, 0, none⟩ (.int .i64 ((rd_T42 l0 x7_1).f0))).setCell ⟨gb152, 1, none⟩ (.int .i64 ((rd_T42 l0 x7_1).f1)))) := ⟨Hb⟩
              (try clear BK152)
              (try clear HB)
              generalize ((w33.setCell ⟨gb152, 0, none⟩ (.int .i64 ((rd_T42 l0 x7_1).f0))).setCell ⟨gb152, 1, none⟩ (.int .i64 ((rd_T42 l0 x7_1).f1))) = w35 at n0_ n1_ ⊢
              have BK152 := n0_
              have HB := n1_
              clear n0_ n1_
              replace BK152 := Aside0.mk (blk_drew BK152.out)
              replace HB := Aside0.mk (below_drew1 HB.out)
              refine start_ (n := 24) (S := fun w' => w'.cell? ⟨gb152, 0, none⟩ = some (.int .i64 ((rd_T42 l0 x7_1).f0)) ∧ w'.cell? ⟨gb152, 1, none⟩ = some (.int .i64 ((rd_T42 l0 x7_1).f1))) (ds := []) #[false, false, false, false, false, false, false, false, false, false, false, false, false, false, false, false, false, false, false, false, false, false, false, false] (by kernel_rfl) rfl rfl ⟨(blk_cell BK152.out 0).trans rfl, (blk_cell BK152.out 1).trans rfl⟩ (fun hHeld => ?_); refine with_tabW impl_IsShape.tab4 impl_IsShape.bits4 (fun HT_ HW_ => ?_)
              generalize w35.drew = w36 at BK152 HB hHeld ⊢
              refine PU 0 12 ?_
              refine TK 1 13 hHeld ?_
              refine ON 2 14 (fun K hK => ?_)
              refine GO Try.func27 #[.int .i64 ((rd_T42 l0 x7_1).f0)] ?_
              with_reducible refine (impl_isCoordinate.calls ((rd_T42 l0 x7_1).f0) false _ A5.out).mono ?_
              rintro e w' ⟨rfl, ⟨nd, rfl⟩⟩
              refine ⟨_, rfl, ?_⟩
              refine hK.out _ _ ⟨(blk_cell BK152.out 0).trans rfl, (blk_cell BK152.out 1).trans rfl⟩ (fun hHeld => ?_)
              clear hK K
              refine NM ?_
              refine PU 3 15 ?_
              refine PU 4 16 ?_
              refine PV 5 17 ?_
              refine PV 6 18 ?_
              refine PV 7 19 ?_
              refine PV 8 20 ?_
              refine PU 9 21 ?_
              refine PU 10 22 ?_
              refine PV 11 23 ?_
              refine PV 12 24 ?_
              refine PV 13 25 ?_
              refine PV 14 26 ?_
              refine PV 15 27 ?_
              refine PV 16 28 ?_
              refine PV 17 29 ?_
              refine PV 18 30 ?_
              refine PV 19 31 ?_
              refine PV 20 32 ?_
              refine PV 21 33 ?_
              refine PV 22 34 ?_
              refine PU 23 35 ?_
              refine done_ (done_of HT_.out (by kernel_rfl)) ?_
              try go_wp2
              go_ret
              exact ⟨Fin, Hb⟩
          · rw [if_neg c4] at H
            exact absurd H (by simp)
        · rw [if_neg c3] at H
          exact absurd H (by simp)
      · rw [if_neg c2] at H
        have c2b0 : decide (x7_1 < (l0.length : Int)) = false := decide_eq_false c2
        clear c2
        by_cases c37 : (l0.length : Int) ≥ 1
        · rw [if_pos c37] at H
          have c37b0 : decide (1 ≤ (l0.length : Int)) = true := decide_eq_true c37
          have c37b1 : decide (1 ≤ l0.length) = true := decide_eq_true (by omega)
          clear c37
          obtain rfl := Option.some.inj H
          go_wp2
          go_ret
          exact ⟨Fin, Hb⟩
        · rw [if_neg c37] at H
          have c37b0 : decide (1 ≤ (l0.length : Int)) = false := decide_eq_false c37
          have c37b1 : decide (1 ≤ l0.length) = false := decide_eq_false (by omega)
          clear c37
          obtain rfl := Option.some.inj H
          go_wp2
          go_ret
          exact ⟨Fin, Hb⟩

/-! ### impl_IsColouring: function 19 -/
def impl_IsColouring.f (a0_0 : Int) (a0_1 : Int) (a0_2 : Int) : Option (Bool) := (impl_within.f a0_0 2 4).bind fun t158 => (if t158 = true then ((impl_within.f a0_1 0 (wrap64 (a0_0 - 1))).bind fun t159 => (if t159 = true then ((impl_within.f a0_2 0 (wrap64 (a0_0 - 1))).bind fun t160 => (some t160)) else (some false))) else (some false))
set_option maxHeartbeats 8000000 in
set_option maxRecDepth 100000 in
theorem impl_IsColouring.calls (a0_0 : Int) (a0_1 : Int) (a0_2 : Int) (r : Bool) (w : World) (h : impl_IsColouring.f a0_0 a0_1 a0_2 = some r) :
    Calls Try.prog 19 #[.agg #[.int .i64 a0_0, .int .i64 a0_1, .int .i64 a0_2]] w fun e w' => e = .returned (.bool r) ∧ Below w.heap.size w w' := by
  have hu31 := Try.underlying31
  have HB := Aside0.mk (Below.refl w.heap.size w)
  have H : ((impl_within.f a0_0 2 4).bind fun t158 => (if t158 = true then ((impl_within.f a0_1 0 (wrap64 (a0_0 - 1))).bind fun t159 => (if t159 = true then ((impl_within.f a0_2 0 (wrap64 (a0_0 - 1))).bind fun t160 => (some t160)) else (some false))) else (some false))) = some r := h
  clear h
  obtain ⟨t158, A20, H⟩ := Option.bind_eq_some_iff.mp H
  have A2 := Aside0.mk A20
  clear A20
  by_cases c3 : t158 = true
  · subst c3
    rw [if_pos rfl] at H
    obtain ⟨t159, A40, H⟩ := Option.bind_eq_some_iff.mp H
    have A4 := Aside0.mk A40
    clear A40
    by_cases c5 : t159 = true
    · subst c5
      rw [if_pos rfl] at H
      obtain ⟨t160, A60, H⟩ := Option.bind_eq_some_iff.mp H
      have A6 := Aside0.mk A60
      clear A60
      obtain rfl := Option.some.inj H
      go_enter Try.func19, Try.ntmps19
      go_wp2_with (first | ((with_reducible refine gD 1 ?_); refine BX #[.int .i64 a0_0, .int .i64 a0_1, .int .i64 a0_2] 31 ?_; intro gb157 hg w7 hbox hb; have BK157 := Aside0.mk (hbox); have GW157 := Aside0.mk ((Gle hg Hb : w.heap.size ≤ gb157)); have GE157 := Aside0.mk ((Gle hg Hb : w.heap.size ≤ gb157)); replace HB := Aside0.mk (below_step Hb hb); clear hb hbox hg; have hcz8_0 : w7.cell? ⟨gb157, 0, none⟩ = some (.int .i64 a0_0) := bc BK157; have hcz8_1 : w7.cell? ⟨gb157, 1, none⟩ = some (.int .i64 a0_1) := bc BK157; have hcz8_2 : w7.cell? ⟨gb157, 2, none⟩ = some (.int .i64 a0_2) := bc BK157; have hfz8_0 := blk_frozen BK157.out 0; have hfz8_1 := blk_frozen BK157.out 1; have hfz8_2 := blk_frozen BK157.out 2) | ((with_reducible refine gC 29 ?_); refine GL (some 5) Try.func29 #[.int .i64 a0_0, .int .i64 2, .int .i64 4] ?_; (with_reducible refine (impl_within.calls a0_0 2 4 true _ A2.out).mono ?_); rintro e w' ⟨rfl, ⟨nd, rfl⟩⟩; refine ⟨_, rfl, ?_⟩) | (go_at_call 29; (with_reducible refine (impl_within.calls a0_1 0 (wrap64 (a0_0 - 1)) true _ A4.out).mono ?_); rintro e w' ⟨rfl, ⟨nd, rfl⟩⟩) | (go_at_call 29; (with_reducible refine (impl_within.calls a0_2 0 (wrap64 (a0_0 - 1)) t160 _ A6.out).mono ?_); rintro e w' ⟨rfl, ⟨nd, rfl⟩⟩))
      go_ret
      exact ⟨Fin, Hb⟩
    · replace c5 := Bool.eq_false_iff.mpr c5
      subst c5
      rw [if_neg (show ¬ (false = true) by decide)] at H
      obtain rfl := Option.some.inj H
      go_enter Try.func19, Try.ntmps19
      go_wp2_with (first | ((with_reducible refine gD 1 ?_); refine BX #[.int .i64 a0_0, .int .i64 a0_1, .int .i64 a0_2] 31 ?_; intro gb157 hg w9 hbox hb; have BK157 := Aside0.mk (hbox); have GW157 := Aside0.mk ((Gle hg Hb : w.heap.size ≤ gb157)); have GE157 := Aside0.mk ((Gle hg Hb : w.heap.size ≤ gb157)); replace HB := Aside0.mk (below_step Hb hb); clear hb hbox hg; have hcz10_0 : w9.cell? ⟨gb157, 0, none⟩ = some (.int .i64 a0_0) := bc BK157; have hcz10_1 : w9.cell? ⟨gb157, 1, none⟩ = some (.int .i64 a0_1) := bc BK157; have hcz10_2 : w9.cell? ⟨gb157, 2, none⟩ = some (.int .i64 a0_2) := bc BK157; have hfz10_0 := blk_frozen BK157.out 0; have hfz10_1 := blk_frozen BK157.out 1; have hfz10_2 := blk_frozen BK157.out 2) | ((with_reducible refine gC 29 ?_); refine GL (some 5) Try.func29 #[.int .i64 a0_0, .int .i64 2, .int .i64 4] ?_; (with_reducible refine (impl_within.calls a0_0 2 4 true _ A2.out).mono ?_); rintro e w' ⟨rfl, ⟨nd, rfl⟩⟩; refine ⟨_, rfl, ?_⟩) | (go_at_call 29; (with_reducible refine (impl_within.calls a0_1 0 (wrap64 (a0_0 - 1)) false _ A4.out).mono ?_); rintro e w' ⟨rfl, ⟨nd, rfl⟩⟩))
      go_ret
      exact ⟨Fin, Hb⟩
  · replace c3 := Bool.eq_false_iff.mpr c3
    subst c3
    rw [if_neg (show ¬ (false = true) by decide)] at H
    obtain rfl := Option.some.inj H
    go_enter Try.func19, Try.ntmps19
    go_wp2_with (first | ((with_reducible refine gD 1 ?_); refine BX #[.int .i64 a0_0, .int .i64 a0_1, .int .i64 a0_2] 31 ?_; intro gb157 hg w11 hbox hb; have BK157 := Aside0.mk (hbox); have GW157 := Aside0.mk ((Gle hg Hb : w.heap.size ≤ gb157)); have GE157 := Aside0.mk ((Gle hg Hb : w.heap.size ≤ gb157)); replace HB := Aside0.mk (below_step Hb hb); clear hb hbox hg; have hcz12_0 : w11.cell? ⟨gb157, 0, none⟩ = some (.int .i64 a0_0) := bc BK157; have hcz12_1 : w11.cell? ⟨gb157, 1, none⟩ = some (.int .i64 a0_1) := bc BK157; have hcz12_2 : w11.cell? ⟨gb157, 2, none⟩ = some (.int .i64 a0_2) := bc BK157; have hfz12_0 := blk_frozen BK157.out 0; have hfz12_1 := blk_frozen BK157.out 1; have hfz12_2 := blk_frozen BK157.out 2) | ((with_reducible refine gC 29 ?_); refine GL (some 5) Try.func29 #[.int .i64 a0_0, .int .i64 2, .int .i64 4] ?_; (with_reducible refine (impl_within.calls a0_0 2 4 false _ A2.out).mono ?_); rintro e w' ⟨rfl, ⟨nd, rfl⟩⟩; refine ⟨_, rfl, ?_⟩))
    go_ret
    exact ⟨Fin, Hb⟩

end Go.Proofs.Ytafghfkdkjiafaa.XFnExactColourCounts
