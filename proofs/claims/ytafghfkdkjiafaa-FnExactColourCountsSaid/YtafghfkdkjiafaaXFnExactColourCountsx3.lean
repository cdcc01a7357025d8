-- Written by ext.py (wip/) over the kit's print: not trusted, Lean checks it.
import Derived.Test.YtafghfkdkjiafaaXFnExactColourCountsx0
import Derived.Test.YtafghfkdkjiafaaXFnExactColourCountsx2
namespace Go.Proofs.Ytafghfkdkjiafaa.XFnExactColourCounts
open Go.RowKit Go.Proofs.YtafghfkdkjiafaaW.PrintWords Go.Proofs.YtafghfkdkjiafaaW.PrintLast Go.Proofs.YtafghfkdkjiafaaW.PrintMore
attribute [local go_sem] max2_int min2_int max_two min_two max_three min_three max_four min_four   -- for this text's walks alone
set_option linter.unusedVariables false
set_option linter.unusedSimpArgs false

/-! ### impl_modOf: function 33 -/
def impl_modOf.f (a0 : Int) (a1 : Int) : Option (Int) := if a1 = 0 then (none) else (some (Int.tmod (wrap64 ((Int.tmod a0 a1) + a1)) a1))
set_option maxHeartbeats 8000000 in
set_option maxRecDepth 100000 in
theorem impl_modOf.calls (a0 : Int) (a1 : Int) (r : Int) (w : World) (h : impl_modOf.f a0 a1 = some r) :
    Calls Try.prog 33 #[.int .i64 a0, .int .i64 a1] w fun e w' => e = .returned (.int .i64 r) ∧ Drawn0 w w' := by
  have H : (if a1 = 0 then (none) else (some (Int.tmod (wrap64 ((Int.tmod a0 a1) + a1)) a1))) = some r := h
  clear h
  by_cases c3 : a1 = 0
  · rw [if_pos c3] at H
    exact absurd H (by simp)
  · rw [if_neg c3] at H
    have c3b0 : (a1 == 0) = false := beq_eq_false_iff_ne.mpr c3
    have c3b1 : (a1 != 0) = true := bne_iff_ne.mpr c3
    obtain rfl := Option.some.inj H
    go_enter Try.func33, Try.ntmps33
    go_wp2
    go_ret
    exact ⟨Fs, by repeat (first | exact Drawn0.refl _ | apply Drawn0.step)⟩

/-! ### impl_Colouring_of: function 31 -/
def impl_Colouring_of.f (a0_0 : Int) (a0_1 : Int) (a0_2 : Int) (a1_0 : Int) (a1_1 : Int) : Option (Int) := (impl_modOf.f (wrap64 ((wrap64 (a0_1 * a1_0)) + (wrap64 (a0_2 * a1_1)))) a0_0).bind fun t163 => (some t163)
set_option maxHeartbeats 8000000 in
set_option maxRecDepth 100000 in
theorem impl_Colouring_of.calls (a0_0 : Int) (a0_1 : Int) (a0_2 : Int) (a1_0 : Int) (a1_1 : Int) (r : Int) (w : World) (h : impl_Colouring_of.f a0_0 a0_1 a0_2 a1_0 a1_1 = some r) :
    Calls Try.prog 31 #[.agg #[.int .i64 a0_0, .int .i64 a0_1, .int .i64 a0_2], .agg #[.int .i64 a1_0, .int .i64 a1_1]] w fun e w' => e = .returned (.int .i64 r) ∧ Below w.heap.size w w' := by
  have hu31 := Try.underlying31
  have hu42 := Try.underlying42
  have HB := Aside0.mk (Below.refl w.heap.size w)
  have H : ((impl_modOf.f (wrap64 ((wrap64 (a0_1 * a1_0)) + (wrap64 (a0_2 * a1_1)))) a0_0).bind fun t163 => (some t163)) = some r := h
  clear h
  obtain ⟨t163, A30, H⟩ := Option.bind_eq_some_iff.mp H
  have A3 := Aside0.mk A30
  clear A30
  obtain rfl := Option.some.inj H
  go_enter Try.func31, Try.ntmps31
  go_wp2_with (first | ((with_reducible refine gD 2 ?_); refine BX #[.int .i64 a0_0, .int .i64 a0_1, .int .i64 a0_2] 31 ?_; intro gb161 hg w4 hbox hb; have BK161 := Aside0.mk (hbox); have GW161 := Aside0.mk ((Gle hg Hb : w.heap.size ≤ gb161)); have GE161 := Aside0.mk ((Gle hg Hb : w.heap.size ≤ gb161)); replace HB := Aside0.mk (below_step Hb hb); clear hb hbox hg) | ((with_reducible refine gD 3 ?_); refine BX #[.int .i64 a1_0, .int .i64 a1_1] 42 ?_; intro gb162 hg w5 hbox hb; have BK162 := Aside0.mk (hbox); have GW162 := Aside0.mk ((Gle hg Hb : w.heap.size ≤ gb162)); have GE162 := Aside0.mk ((Gle hg Hb : w.heap.size ≤ gb162)); replace HB := Aside0.mk (below_step Hb hb); have NB161_162 := Aside0.mk ((by rw [hg]; exact Nat.ne_of_lt (blk_lt (B1 BK161)) : gb161 ≠ gb162)); have NB162_161 := Aside0.mk ((by rw [hg]; exact Nat.ne_of_gt (blk_lt (B1 BK161)) : gb162 ≠ gb161)); replace BK161 := Aside0.mk (blk_below (B1 BK161) hb); clear hb hbox hg; have hnb6 := NB161_162.out; have hnc6 := NB162_161.out; have hcz7_0 : w5.cell? ⟨gb161, 0, none⟩ = some (.int .i64 a0_0) := bc BK161; have hcz7_1 : w5.cell? ⟨gb161, 1, none⟩ = some (.int .i64 a0_1) := bc BK161; have hcz7_2 : w5.cell? ⟨gb161, 2, none⟩ = some (.int .i64 a0_2) := bc BK161; have hfz7_0 := blk_frozen BK161.out 0; have hfz7_1 := blk_frozen BK161.out 1; have hfz7_2 := blk_frozen BK161.out 2; have hcz8_0 : w5.cell? ⟨gb162, 0, none⟩ = some (.int .i64 a1_0) := bc BK162; have hcz8_1 : w5.cell? ⟨gb162, 1, none⟩ = some (.int .i64 a1_1) := bc BK162; have hfz8_0 := blk_frozen BK162.out 0; have hfz8_1 := blk_frozen BK162.out 1) | ((with_reducible refine gC 33 ?_); refine GL (some 18) Try.func33 #[.int .i64 (wrap64 ((wrap64 (a0_1 * a1_0)) + (wrap64 (a0_2 * a1_1)))), .int .i64 a0_0] ?_; (with_reducible refine (impl_modOf.calls (wrap64 ((wrap64 (a0_1 * a1_0)) + (wrap64 (a0_2 * a1_1)))) a0_0 t163 _ A3.out).mono ?_); rintro e w' ⟨rfl, ⟨nd, rfl⟩⟩; refine ⟨_, rfl, ?_⟩))
  go_ret
  exact ⟨Fin, Hb⟩

/-! ### slices_Clone_int64_int64: function 30 (a contract of ours) -/
def slices_Clone_int64_int64.f (l0 : List Int) : Option (List Int) := if l0.length < 17592186044416 then some l0 else none
set_option maxHeartbeats 8000000 in
set_option maxRecDepth 100000 in
theorem slices_Clone_int64_int64.calls (A0 : Option Addr) (c0 : Nat) (l0 : List Int) (r : List Int) (w : World) (hr0 : Kd.C (Kd.int .i64) w A0 l0.length l0) (hc0 : l0.length ≤ c0) (h : slices_Clone_int64_int64.f l0 = some r) :
    Calls Try.prog 30 #[.slice A0 l0.length c0] w fun e w' => ∃ v0_ : Value, e = .returned (v0_) ∧ Kd.R (Kd.int .i64) 2 w' w.heap.size (fun _ => True) v0_ r ∧ Below w.heap.size w w' := by
  unfold slices_Clone_int64_int64.f at h
  by_cases c : l0.length < 17592186044416
  · rw [if_pos c] at h
    obtain rfl := Option.some.inj h
    clear h
    have LM := Aside0.mk c
    clear c
    cases A0 with
    | none =>
      have h0 : l0 = [] := by
        rcases Nat.eq_zero_or_pos l0.length with h0 | h0
        · exact List.length_eq_zero_iff.mp h0
        · obtain ⟨_, h1, _⟩ := hr0.2.2 h0
          cases h1
      subst h0
      clear hr0 hc0 LM
      have he : ∀ W, (binOp .eql 26 (.slice none 0 c0) (.slice none 0 0)).run Try.prog W = .ok (.bool true) W := fun W => by kernel_rfl
      go_enter Try.func30, Try.ntmps30
      go_wp2
      go_ret
      exact ⟨_, rfl, Kd.R_nil _ _ _ _ _, Below.refl _ _⟩
    | some a =>
      have HR0 := Aside0.mk hr0
      have HC0 := Aside0.mk hc0
      clear hr0 hc0
      have he : ∀ W, (binOp .eql 26 (.slice (some a) l0.length c0) (.slice none 0 0)).run Try.prog W = .ok (.bool false) W := fun W => by kernel_rfl
      have HB := Aside0.mk (Below.refl w.heap.size w)
      go_enter Try.func30, Try.ntmps30
      go_wp2_with (first | ((with_reducible refine gD 5 ?_); refine Kd.R_lit (Kd.int .i64) _ 2 ?hg (N := 5) ?hd (xs := ([] : List Int)) (inner := []) (ok := fun _ => True) (okp := fun _ => True) ?hr ?hp (fun _ hk => hk) trivial (Below.refl _ _) (Nat.le_refl _) (by simp) ?_; (case hd => rfl); (case hg => rfl); (case hr => first | (go_simp; done) | (go_simp; rfl)); (case hp => exact (Reps.none _ _)); intro v175 w3 ho4 hb hg_ hnew_; clear hg_ hnew_; have HO176 := Aside0.mk (Kd.R_lower ho4 (below_size Hb)); replace HB := Aside0.mk (below_step Hb hb); clear hb ho4) | ((with_reducible refine gate_builtin (b := .append) (xs := #[.tmp 5, .tmp 6]) rfl ?_); at_builtin; refine Kd.R_append_rows (Kd.int .i64) (w0 := w) w.heap.size rfl (.tmp 5) (.tmp 6) 26 2 (.int .i64 0) 8 rfl Try.underlying26 info2 rfl (by decide) (by omega) v175 [] l0 _ _ _ (fun _ => True) (fun _ => False) rfl rfl ?aO ?aR (fun _ _ h => h) (fun _ h => h.elim) ?aF ?aB ?aS ?aL ?_; (case aR => exact Kd.C_below HR0.out Hb); (case aB => exact Hb); (case aF => exact (fun _ _ => trivial)); (case aO => exact (R1 HO176)); (case aS => exact (below_size Hb)); (case aL => have := LM.out; simp; omega); intro v178 w5 ho hb hg hat; rw [List.nil_append] at ho; replace HB := Aside0.mk (hb); have HO179 := Aside0.mk (ho); clear HO176; clear ho hb hg hat))
      go_ret
      exact ⟨_, Fin, R1 HO179, Hb⟩
  · rw [if_neg c] at h
    exact absurd h (by simp)

/-! ### impl_ColourCounts: function 8 (a contract of ours) -/
def impl_tally.l0 : Nat → List Int → List S42 → Int → Int → Int → Int → Option (List Int)
  | 0, _, _, _, _, _, _ => none
  | k + 1, c, l, i, a, b, m => if i < (l.length : Int) then (if 0 ≤ i then (impl_Colouring_of.f m a b (rd_T42 l i).f0 (rd_T42 l i).f1).bind (fun t => if 0 ≤ t then (if t < 4 then impl_tally.l0 k (c.set t.toNat (wrap64 (rd c t + 1))) l (wrap64 (i + 1)) a b m else none) else none) else none) else some c
set_option maxHeartbeats 4000000 in
set_option maxRecDepth 100000 in
theorem impl_tally.calls (k : Nat) (m a b : Int) (A1 : Option Addr) (c1 : Nat) (l1 : List S42) (r : List Int) (w : World) (hr1 : Kd.C k42 w A1 l1.length l1) (hc1 : l1.length ≤ c1) (h : impl_tally.l0 k [0, 0, 0, 0] l1 0 a b m = some r) :
    Calls Try.prog 21 #[.agg #[.int .i64 m, .int .i64 a, .int .i64 b], .slice A1 l1.length c1] w fun e w' => ∃ x0 x1 x2 x3, r = [x0, x1, x2, x3] ∧ e = .returned (.agg #[.int .i64 x0, .int .i64 x1, .int .i64 x2, .int .i64 x3]) ∧ Below w.heap.size w w' := by
  have hu := Try.underlying42
  have HR1 := Aside0.mk hr1
  have HC1 := Aside0.mk hc1
  have H := Aside0.mk h
  clear hr1 hc1 h
  have HB := Aside0.mk (Below.refl w.heap.size w)
  go_enter Try.func21, Try.ntmps21
  go_wp2_with (first | ((with_reducible refine gD 2 ?_); refine BX #[.int .i64 m, .int .i64 a, .int .i64 b] 31 ?_; intro g2 hg w2 hbox hb; have GE2 := Aside0.mk (Gle hg Hb); replace HB := Aside0.mk (below_step Hb hb); have BK2 := Aside0.mk hbox; clear hbox hb hg) | ((with_reducible refine gD 4 ?_); refine BX #[.int .i64 0, .int .i64 0, .int .i64 0, .int .i64 0] 47 ?_; intro g4 hg w4 hbox hb; have GE4 := Aside0.mk (Gle hg Hb); have NB24 := Aside0.mk (show g2 ≠ g4 from by rw [hg]; exact Nat.ne_of_lt (blk_lt (B1 BK2))); replace HB := Aside0.mk (below_step Hb hb); replace BK2 := Aside0.mk (blk_below (B1 BK2) hb); have BK4 := Aside0.mk hbox; clear hbox hb hg) | ((with_reducible refine gD 5 ?_); refine BX #[.int .i64 0, .int .i64 0, .int .i64 0, .int .i64 0] 47 ?_; intro g5 hg w5 hbox hb; have GE5 := Aside0.mk (Gle hg Hb); have NB25 := Aside0.mk (show g2 ≠ g5 from by rw [hg]; exact Nat.ne_of_lt (blk_lt (B1 BK2))); have NB45 := Aside0.mk (show g4 ≠ g5 from by rw [hg]; exact Nat.ne_of_lt (blk_lt (B1 BK4))); replace HB := Aside0.mk (below_step Hb hb); replace BK2 := Aside0.mk (blk_below (B1 BK2) hb); replace BK4 := Aside0.mk (blk_below (B1 BK4) hb); have BK5 := Aside0.mk hbox; clear hbox hb hg; have hz0 : w5.cell? ⟨g5, 0, none⟩ = some (.int .i64 0) := bc BK5; have hz1 : w5.cell? ⟨g5, 1, none⟩ = some (.int .i64 0) := bc BK5; have hz2 : w5.cell? ⟨g5, 2, none⟩ = some (.int .i64 0) := bc BK5; have hz3 : w5.cell? ⟨g5, 3, none⟩ = some (.int .i64 0) := bc BK5; have hf0 := blk_frozen BK5.out 0; have hf1 := blk_frozen BK5.out 1; have hf2 := blk_frozen BK5.out 2; have hf3 := blk_frozen BK5.out 3))
  go_loopg [11] k (fun kq v11 wr => ∃ (i x0 x1 x2 x3 : Int), v11 = .int .i64 i ∧ Aside0 (kq ≤ k) ∧ Aside0 (impl_tally.l0 kq [x0, x1, x2, x3] l1 i a b m = some r) ∧ Aside0 (wr.heap[g5]? = some (.cells #[.int .i64 x0, .int .i64 x1, .int .i64 x2, .int .i64 x3] 47 (0, 0))) ∧ Aside0 (wr.heap[g2]? = some (.cells #[.int .i64 m, .int .i64 a, .int .i64 b] 31 (0, 0))) ∧ Aside0 (wr.heap[g4]? = some (.cells #[.int .i64 0, .int .i64 0, .int .i64 0, .int .i64 0] 47 (0, 0))) ∧ Aside0 (Below w.heap.size w wr))
  case atStart =>
    refine ⟨0, 0, 0, 0, 0, rfl, ⟨Nat.le_refl _⟩, H, ⟨blk_put (cs := #[.int .i64 0, .int .i64 0, .int .i64 0, .int .i64 0]) (blk_put (cs := #[.int .i64 0, .int .i64 0, .int .i64 0, .int .i64 0]) (blk_put (cs := #[.int .i64 0, .int .i64 0, .int .i64 0, .int .i64 0]) (blk_put BK5.out 0 _ rfl) 1 _ rfl) 2 _ rfl) 3 _ rfl⟩, ⟨blk_far (blk_far (blk_far (blk_far BK2.out NB25.out _) NB25.out _) NB25.out _) NB25.out _⟩, ⟨blk_far (blk_far (blk_far (blk_far BK4.out NB45.out _) NB45.out _) NB45.out _) NB45.out _⟩, ⟨Hb⟩⟩
  case round =>
    clear H HB BK2 BK4 BK5
    obtain ⟨i, x0, x1, x2, x3, rfl, HK, HA, BK5, BK2, BK4, HB⟩ := hrel
    cases gk with
    | zero => exact absurd HA.out (by simp [impl_tally.l0])
    | succ kq =>
      have H := HA.out
      clear HA
      simp only [impl_tally.l0] at H
      by_cases c2 : i < (l1.length : Int)
      · rw [if_pos c2] at H
        have c2b : decide (i < (l1.length : Int)) = true := decide_eq_true c2
        by_cases c3 : 0 ≤ i
        · rw [if_pos c3] at H
          obtain ⟨t, hA, H⟩ := Option.bind_eq_some_iff.mp H
          have A3 := Aside0.mk hA
          clear hA
          by_cases c4 : 0 ≤ t
          · rw [if_pos c4] at H
            by_cases c5 : t < 4
            · rw [if_pos c5] at H
              have p_ := eq_true c3
              have q_ := eq_true c2
              obtain ⟨ad, ea, hx0, hx1⟩ := at_T42 HR1.out i c3 c2
              cases ea
              have hy0 := hxb hx0
              have hy1 := hxb hx1
              have q0 : wr.cell? ⟨g2, 0, none⟩ = some (.int .i64 m) := bc BK2
              rcases (by omega : t = 0 ∨ t = 1 ∨ t = 2 ∨ t = 3) with rfl | rfl | rfl | rfl <;> (
                simp [rd] at H
                have H' := Aside0.mk H
                clear H c2 c3 c4 c5 hx0 hx1
                go_wp2_with (first | ((with_reducible refine gD 7 ?_); refine BX #[.int .i64 0, .int .i64 0] 42 ?_; intro g7 hg w7 hbox hb; have GE7 := Aside0.mk (Gle hg Hb); have NB27 := Aside0.mk (show g2 ≠ g7 from by rw [hg]; exact Nat.ne_of_lt (blk_lt (B1 BK2))); have NB47 := Aside0.mk (show g4 ≠ g7 from by rw [hg]; exact Nat.ne_of_lt (blk_lt (B1 BK4))); have NB57 := Aside0.mk (show g5 ≠ g7 from by rw [hg]; exact Nat.ne_of_lt (blk_lt (B1 BK5))); replace HB := Aside0.mk (below_step Hb hb); replace BK2 := Aside0.mk (blk_below (B1 BK2) hb); replace BK4 := Aside0.mk (blk_below (B1 BK4) hb); replace BK5 := Aside0.mk (blk_below (B1 BK5) hb); have BK7 := Aside0.mk hbox; clear hbox hb hg; have hz0 : w7.cell? ⟨g7, 0, none⟩ = some (.int .i64 0) := bc BK7; have hz1 : w7.cell? ⟨g7, 1, none⟩ = some (.int .i64 0) := bc BK7; have hf0 := blk_frozen BK7.out 0; have hf1 := blk_frozen BK7.out 1; have hm0 : w7.cell? ⟨g2, 0, none⟩ = some (.int .i64 m) := bc BK2; have hm1 : w7.cell? ⟨g2, 1, none⟩ = some (.int .i64 a) := bc BK2; have hm2 : w7.cell? ⟨g2, 2, none⟩ = some (.int .i64 b) := bc BK2; have hn1 := NB27.out; have hn2 := NB27.out.symm) | (go_at_call 31; refine (impl_Colouring_of.calls m a b _ _ _ _ A3.out).mono ?_; rintro e w8 ⟨rfl, hb⟩; replace BK2 := Aside0.mk (blk_below (blk_far (blk_far BK2.out NB27.out _) NB27.out _) hb); replace BK4 := Aside0.mk (blk_below (blk_far (blk_far BK4.out NB47.out _) NB47.out _) hb); replace BK5 := Aside0.mk (blk_below (blk_far (blk_far BK5.out NB57.out _) NB57.out _) hb); replace HB := Aside0.mk (below_step Hb hb); clear hb hz0 hz1 hf0 hf1 hm0 hm1 hm2 BK7; have hz0 : w8.cell? ⟨g5, 0, none⟩ = some (.int .i64 x0) := bc BK5; have hz1 : w8.cell? ⟨g5, 1, none⟩ = some (.int .i64 x1) := bc BK5; have hz2 : w8.cell? ⟨g5, 2, none⟩ = some (.int .i64 x2) := bc BK5; have hz3 : w8.cell? ⟨g5, 3, none⟩ = some (.int .i64 x3) := bc BK5; have hf0 := blk_frozen BK5.out 0; have hf1 := blk_frozen BK5.out 1; have hf2 := blk_frozen BK5.out 2; have hf3 := blk_frozen BK5.out 3))
                go_roundg kq
                case measure => have := HK.out; omega
                case rel => exact ⟨wrap64 (i + 1), _, _, _, _, Fs, ⟨by have := HK.out; omega⟩, H', ⟨blk_put BK5.out _ _ rfl⟩, ⟨blk_far BK2.out NB25.out _⟩, ⟨blk_far BK4.out NB45.out _⟩, ⟨Hb⟩⟩)
            · rw [if_neg c5] at H; exact absurd H (by simp)
          · rw [if_neg c4] at H; exact absurd H (by simp)
        · rw [if_neg c3] at H; exact absurd H (by simp)
      · rw [if_neg c2] at H
        have c2b : decide (i < (l1.length : Int)) = false := decide_eq_false c2
        obtain rfl := Option.some.inj H
        clear c2 H
        have hz0 : wr.cell? ⟨g5, 0, none⟩ = some (.int .i64 x0) := bc BK5
        have hz1 : wr.cell? ⟨g5, 1, none⟩ = some (.int .i64 x1) := bc BK5
        have hz2 : wr.cell? ⟨g5, 2, none⟩ = some (.int .i64 x2) := bc BK5
        have hz3 : wr.cell? ⟨g5, 3, none⟩ = some (.int .i64 x3) := bc BK5
        have hy0 : wr.cell? ⟨g4, 0, none⟩ = some (.int .i64 0) := bc BK4
        have hy1 : wr.cell? ⟨g4, 1, none⟩ = some (.int .i64 0) := bc BK4
        have hy2 : wr.cell? ⟨g4, 2, none⟩ = some (.int .i64 0) := bc BK4
        have hy3 : wr.cell? ⟨g4, 3, none⟩ = some (.int .i64 0) := bc BK4
        have hf0 := blk_frozen BK4.out 0
        have hf1 := blk_frozen BK4.out 1
        have hf2 := blk_frozen BK4.out 2
        have hf3 := blk_frozen BK4.out 3
        have hn1 := NB45.out
        have hn2 := NB45.out.symm
        go_wp2
        (try simp only [Exit.inBlock, Exit.then])
        refine bodyPost_ret (results_cell_row rfl _ _ g4 47 #[.int .i64 x0, .int .i64 x1, .int .i64 x2, .int .i64 x3] (0, 0) _ rfl (blk_put (cs := #[.int .i64 x0, .int .i64 x1, .int .i64 x2, .int .i64 0]) (blk_put (cs := #[.int .i64 x0, .int .i64 x1, .int .i64 0, .int .i64 0]) (blk_put (cs := #[.int .i64 x0, .int .i64 0, .int .i64 0, .int .i64 0]) (blk_put BK4.out 0 _ rfl) 1 _ rfl) 2 _ rfl) 3 _ rfl) Try.underlying47 rfl (by kernel_rfl)) rfl ?_
        exact ⟨x0, x1, x2, x3, rfl, rfl, Hb⟩
theorem impl_tally.mono_l : ∀ k c l i a b m, LeO (impl_tally.l0 k c l i a b m) (impl_tally.l0 (k + 1) c l i a b m)
  | 0 => fun _ _ _ _ _ _ r h => by simp [impl_tally.l0] at h
  | k + 1 => fun c l i a b m => by
    unfold impl_tally.l0
    exact LeO.ite (LeO.ite (LeO.bind (LeO.refl _) (fun _ => LeO.ite (LeO.ite (impl_tally.mono_l k _ _ _ _ _ _) (LeO.refl _)) (LeO.refl _))) (LeO.refl _)) (LeO.refl _)
theorem impl_tally.C_blk {w : World} {g t : Nat} (ys : List Int) (h : w.heap[g]? = some (.cells (nums .i64 ys).toArray t (0, 0))) (n : Nat) (hn : n ≤ ys.length) (hb : n ≤ 4) : Kd.C (Kd.int .i64) w (some ⟨g, 0, none⟩) n (ys.take n) := by
  refine ⟨by rw [List.length_take]; omega, by omega, fun _ => ⟨_, rfl, fun j p hj => ⟨[.int .i64 p], rfl, rfl, fun i u hu => ?_⟩⟩⟩
  have hi : i = 0 := by have := (List.getElem?_eq_some_iff.1 hu).1; simp at this; omega
  subst hi
  obtain rfl : Value.int .i64 p = u := by simpa using hu
  show w.cell? ((⟨g, 0, none⟩ : Addr).add (j * 1 + 0)) = _
  rw [add_at, blk_cell h]
  have h2 : ys[j]? = some p := by
    rw [List.getElem?_take] at hj
    split at hj
    · exact hj
    · cases hj
  simp [nums, h2]
set_option maxHeartbeats 4000000 in
set_option maxRecDepth 100000 in
theorem impl_tlist.calls (m a b x0 x1 x2 x3 : Int) (w : World) (hm : m = 2 ∨ m = 3 ∨ m = 4) :
    Calls Try.prog 20 #[.agg #[.int .i64 m, .int .i64 a, .int .i64 b], .agg #[.int .i64 x0, .int .i64 x1, .int .i64 x2, .int .i64 x3]] w fun e w' => ∃ v0_ : Value, e = .returned (v0_) ∧ Kd.R (Kd.int .i64) 2 w' w.heap.size (fun _ => True) v0_ ([x0, x1, x2, x3].take m.toNat) ∧ Below w.heap.size w w' := by
  have HB := Aside0.mk (Below.refl w.heap.size w)
  have hu := Try.underlying47
  rcases hm with rfl | rfl | rfl
  · go_enter Try.func20, Try.ntmps20
    go_wp2_with (first | ((with_reducible refine gD 2 ?_); refine BX #[.int .i64 2, .int .i64 a, .int .i64 b] 31 ?_; intro g2 hg w2 hbox hb; replace HB := Aside0.mk (below_step Hb hb); have BK2 := Aside0.mk hbox; clear hbox hb hg) | ((with_reducible refine gD 3 ?_); refine BX #[.int .i64 x0, .int .i64 x1, .int .i64 x2, .int .i64 x3] 47 ?_; intro g3 hg w3 hbox hb; replace HB := Aside0.mk (below_step Hb hb); replace BK2 := Aside0.mk (blk_below (B1 BK2) hb); have BK3 := Aside0.mk hbox; clear hbox hb hg; have hz0 : w3.cell? ⟨g2, 0, none⟩ = some (.int .i64 2) := bc BK2) | (go_at_call 30; refine (slices_Clone_int64_int64.calls (some ⟨g3, 0, none⟩) 4 ([x0, x1, x2, x3].take 2) ([x0, x1, x2, x3].take 2) _ ?c1 (by simp) (by simp [slices_Clone_int64_int64.f])).mono ?_; (case c1 => exact impl_tally.C_blk [x0, x1, x2, x3] BK3.out 2 (by simp) (by decide)); rintro e w4 ⟨v, rfl, ho, hb⟩; have HO := Aside0.mk (Kd.R_lower ho (below_size Hb)); replace HB := Aside0.mk (below_step Hb hb); clear ho hb))
    go_ret
    exact ⟨_, rfl, R1 HO, Hb⟩
  · go_enter Try.func20, Try.ntmps20
    go_wp2_with (first | ((with_reducible refine gD 2 ?_); refine BX #[.int .i64 3, .int .i64 a, .int .i64 b] 31 ?_; intro g2 hg w2 hbox hb; replace HB := Aside0.mk (below_step Hb hb); have BK2 := Aside0.mk hbox; clear hbox hb hg) | ((with_reducible refine gD 3 ?_); refine BX #[.int .i64 x0, .int .i64 x1, .int .i64 x2, .int .i64 x3] 47 ?_; intro g3 hg w3 hbox hb; replace HB := Aside0.mk (below_step Hb hb); replace BK2 := Aside0.mk (blk_below (B1 BK2) hb); have BK3 := Aside0.mk hbox; clear hbox hb hg; have hz0 : w3.cell? ⟨g2, 0, none⟩ = some (.int .i64 3) := bc BK2) | (go_at_call 30; refine (slices_Clone_int64_int64.calls (some ⟨g3, 0, none⟩) 4 ([x0, x1, x2, x3].take 3) ([x0, x1, x2, x3].take 3) _ ?c1 (by simp) (by simp [slices_Clone_int64_int64.f])).mono ?_; (case c1 => exact impl_tally.C_blk [x0, x1, x2, x3] BK3.out 3 (by simp) (by decide)); rintro e w4 ⟨v, rfl, ho, hb⟩; have HO := Aside0.mk (Kd.R_lower ho (below_size Hb)); replace HB := Aside0.mk (below_step Hb hb); clear ho hb))
    go_ret
    exact ⟨_, rfl, R1 HO, Hb⟩
  · go_enter Try.func20, Try.ntmps20
    go_wp2_with (first | ((with_reducible refine gD 2 ?_); refine BX #[.int .i64 4, .int .i64 a, .int .i64 b] 31 ?_; intro g2 hg w2 hbox hb; replace HB := Aside0.mk (below_step Hb hb); have BK2 := Aside0.mk hbox; clear hbox hb hg) | ((with_reducible refine gD 3 ?_); refine BX #[.int .i64 x0, .int .i64 x1, .int .i64 x2, .int .i64 x3] 47 ?_; intro g3 hg w3 hbox hb; replace HB := Aside0.mk (below_step Hb hb); replace BK2 := Aside0.mk (blk_below (B1 BK2) hb); have BK3 := Aside0.mk hbox; clear hbox hb hg; have hz0 : w3.cell? ⟨g2, 0, none⟩ = some (.int .i64 4) := bc BK2) | (go_at_call 30; refine (slices_Clone_int64_int64.calls (some ⟨g3, 0, none⟩) 4 ([x0, x1, x2, x3].take 4) ([x0, x1, x2, x3].take 4) _ ?c1 (by simp) (by simp [slices_Clone_int64_int64.f])).mono ?_; (case c1 => exact impl_tally.C_blk [x0, x1, x2, x3] BK3.out 4 (by simp) (by decide)); rintro e w4 ⟨v, rfl, ho, hb⟩; have HO := Aside0.mk (Kd.R_lower ho (below_size Hb)); replace HB := Aside0.mk (below_step Hb hb); clear ho hb))
    go_ret
    exact ⟨_, rfl, R1 HO, Hb⟩
def impl_ColourCounts.f (k : Nat) (l0 : List S42) (m a b : Int) : Option (List Int × Int) := (impl_IsShape.f k l0).bind fun t => if t = true then ((impl_IsColouring.f m a b).bind fun t2 => if t2 = true then (if m = 2 ∨ m = 3 ∨ m = 4 then (impl_tally.l0 k [0, 0, 0, 0] l0 0 a b m).bind (fun c => some (c.take m.toNat, 0)) else none) else some ([], 2)) else some ([], 1)
theorem impl_ColourCounts.mono : ∀ a0 a1 a2 a3 k, LeO (impl_ColourCounts.f k a0 a1 a2 a3) (impl_ColourCounts.f (k + 1) a0 a1 a2 a3) := fun a0 _ _ _ k =>
  LeO.bind (impl_IsShape.mono a0 k) (fun _ => LeO.ite (LeO.bind (LeO.refl _) (fun _ => LeO.ite (LeO.ite (LeO.bind (impl_tally.mono_l k _ _ _ _ _ _) (fun _ => LeO.refl _)) (LeO.refl _)) (LeO.refl _))) (LeO.refl _))
set_option maxHeartbeats 4000000 in
set_option maxRecDepth 100000 in
theorem impl_ColourCounts.calls (k : Nat) (A0 : Option Addr) (c0 : Nat) (l0 : List S42) (m a b : Int) (r1 : List Int) (r2 : Int) (w : World) (hr0 : Kd.C k42 w A0 l0.length l0) (hc0 : l0.length ≤ c0) (h : impl_ColourCounts.f k l0 m a b = some (r1, r2)) :
    Calls Try.prog 8 #[.slice A0 l0.length c0, .agg #[.int .i64 m, .int .i64 a, .int .i64 b]] w fun e w' => ∃ v0_ : Value, e = .returned (.tuple #[v0_, .int .i64 r2]) ∧ Kd.R (Kd.int .i64) 2 w' w.heap.size (fun _ => True) v0_ r1 ∧ Below w.heap.size w w' := by
  have hu := Try.underlying31
  have HR0 := Aside0.mk hr0
  have HC0 := Aside0.mk hc0
  clear hr0 hc0
  have HB := Aside0.mk (Below.refl w.heap.size w)
  unfold impl_ColourCounts.f at h
  obtain ⟨t, ht, h⟩ := Option.bind_eq_some_iff.mp h
  have A1 := Aside0.mk ht
  clear ht
  cases t with
  | false =>
    rw [if_neg (by simp)] at h
    simp only [Option.some.injEq, Prod.mk.injEq] at h
    obtain ⟨rfl, rfl⟩ := h
    go_enter Try.func8, Try.ntmps8
    go_wp2_with (first | ((with_reducible refine gD 3 ?_); refine BX #[.int .i64 m, .int .i64 a, .int .i64 b] 31 ?_; intro g3 hg w3 hbox hb; replace HB := Aside0.mk (below_step Hb hb); have BK3 := Aside0.mk hbox; clear hbox hb hg) | (go_at_call 18; refine (impl_IsShape.calls k A0 c0 l0 false _ (Kd.C_below HR0.out HB.out) HC0.out A1.out).mono ?_; rintro e w4 ⟨rfl, hb⟩; replace HB := Aside0.mk (below_step Hb hb); clear hb))
    go_ret2
    exact ⟨_, rfl, Kd.R_nil _ _ _ _ _, Hb⟩
  | true =>
    rw [if_pos rfl] at h
    obtain ⟨t2, ht, h⟩ := Option.bind_eq_some_iff.mp h
    have A2 := Aside0.mk ht
    clear ht
    cases t2 with
    | false =>
      rw [if_neg (by simp)] at h
      simp only [Option.some.injEq, Prod.mk.injEq] at h
      obtain ⟨rfl, rfl⟩ := h
      go_enter Try.func8, Try.ntmps8
      go_wp2_with (first | ((with_reducible refine gD 3 ?_); refine BX #[.int .i64 m, .int .i64 a, .int .i64 b] 31 ?_; intro g3 hg w3 hbox hb; replace HB := Aside0.mk (below_step Hb hb); have BK3 := Aside0.mk hbox; clear hbox hb hg) | (go_at_call 18; refine (impl_IsShape.calls k A0 c0 l0 true _ (Kd.C_below HR0.out HB.out) HC0.out A1.out).mono ?_; rintro e w4 ⟨rfl, hb⟩; replace HB := Aside0.mk (below_step Hb hb); replace BK3 := Aside0.mk (blk_below (B1 BK3) hb); clear hb; have hz0 : w4.cell? ⟨g3, 0, none⟩ = some (.int .i64 m) := bc BK3; have hz1 : w4.cell? ⟨g3, 1, none⟩ = some (.int .i64 a) := bc BK3; have hz2 : w4.cell? ⟨g3, 2, none⟩ = some (.int .i64 b) := bc BK3) | (go_at_call 19; refine (impl_IsColouring.calls m a b false _ A2.out).mono ?_; rintro e w5 ⟨rfl, hb⟩; replace HB := Aside0.mk (below_step Hb hb); clear hb))
      go_ret2
      exact ⟨_, rfl, Kd.R_nil _ _ _ _ _, Hb⟩
    | true =>
      rw [if_pos rfl] at h
      by_cases hm : m = 2 ∨ m = 3 ∨ m = 4
      · rw [if_pos hm] at h
        obtain ⟨c, ht, h⟩ := Option.bind_eq_some_iff.mp h
        have A3 := Aside0.mk ht
        have HM := Aside0.mk hm
        clear ht hm
        simp only [Option.some.injEq, Prod.mk.injEq] at h
        obtain ⟨rfl, rfl⟩ := h
        go_enter Try.func8, Try.ntmps8
        go_wp2_with (first | ((with_reducible refine gD 3 ?_); refine BX #[.int .i64 m, .int .i64 a, .int .i64 b] 31 ?_; intro g3 hg w3 hbox hb; replace HB := Aside0.mk (below_step Hb hb); have BK3 := Aside0.mk hbox; clear hbox hb hg) | (go_at_call 18; refine (impl_IsShape.calls k A0 c0 l0 true _ (Kd.C_below HR0.out HB.out) HC0.out A1.out).mono ?_; rintro e w4 ⟨rfl, hb⟩; replace HB := Aside0.mk (below_step Hb hb); replace BK3 := Aside0.mk (blk_below (B1 BK3) hb); clear hb; have hz0 : w4.cell? ⟨g3, 0, none⟩ = some (.int .i64 m) := bc BK3; have hz1 : w4.cell? ⟨g3, 1, none⟩ = some (.int .i64 a) := bc BK3; have hz2 : w4.cell? ⟨g3, 2, none⟩ = some (.int .i64 b) := bc BK3) | (go_at_call 19; refine (impl_IsColouring.calls m a b true _ A2.out).mono ?_; rintro e w5 ⟨rfl, hb⟩; replace HB := Aside0.mk (below_step Hb hb); replace BK3 := Aside0.mk (blk_below (B1 BK3) hb); clear hb hz0 hz1 hz2))
        replace HB := Aside0.mk (below_drew1 HB.out)
        replace BK3 := Aside0.mk (blk_drew BK3.out)
        refine start_ (n := 7) (S := fun w' => w'.cell? ⟨g3, 0, none⟩ = some (.int .i64 m) ∧ w'.cell? ⟨g3, 1, none⟩ = some (.int .i64 a) ∧ w'.cell? ⟨g3, 2, none⟩ = some (.int .i64 b)) (ds := []) #[false, false, false, false, false, false, false] (by kernel_rfl) rfl rfl ⟨bc BK3, bc BK3, bc BK3⟩ (fun hHeld => ?_)
        generalize w5.drew = w6 at BK3 HB hHeld ⊢
        refine TK 0 12 hHeld ?_
        refine TK 1 13 hHeld ?_
        refine PU 2 14 ?_
        refine ON 3 15 (fun K hK => ?_)
        refine GO Try.func21 #[.agg #[.int .i64 m, .int .i64 a, .int .i64 b], .slice A0 l0.length c0] ?_
        refine (impl_tally.calls k m a b A0 c0 l0 c _ (Kd.C_below HR0.out HB.out) HC0.out A3.out).mono ?_
        rintro e w7 ⟨x0, x1, x2, x3, rfl, rfl, hb⟩
        refine ⟨_, rfl, ?_⟩
        replace HB := Aside0.mk (below_step Hb hb)
        replace BK3 := Aside0.mk (blk_below (B1 BK3) hb)
        clear hb
        refine hK.out _ _ ⟨bc BK3, bc BK3, bc BK3⟩ (fun hHeld => ?_)
        clear hK K
        refine NM ?_
        refine ON 4 16 (fun K hK => ?_)
        refine GO Try.func20 #[.agg #[.int .i64 m, .int .i64 a, .int .i64 b], .agg #[.int .i64 x0, .int .i64 x1, .int .i64 x2, .int .i64 x3]] ?_
        refine (impl_tlist.calls m a b x0 x1 x2 x3 _ HM.out).mono ?_
        rintro e w8 ⟨v, rfl, ho, hb⟩
        refine ⟨_, rfl, ?_⟩
        have HO := Aside0.mk (Kd.R_lower ho (below_size Hb))
        replace HB := Aside0.mk (below_step Hb hb)
        replace BK3 := Aside0.mk (blk_below (B1 BK3) hb)
        clear ho hb
        refine hK.out _ _ ⟨bc BK3, bc BK3, bc BK3⟩ (fun hHeld => ?_)
        clear hK K
        refine NM ?_
        refine PU 5 4 ?_
        refine PU 6 5 ?_
        refine done_ (by kernel_rfl) ?_
        go_wp2
        go_ret2
        exact ⟨_, rfl, R1 HO, Hb⟩
      · rw [if_neg hm] at h
        cases h

/-! ### laws_eqInt64S: function 9 -/
def laws_eqInt64S.l0 : Nat → List Int → List Int → Int → Option (Bool)
  | 0, _, _, _ => none
  | k + 1, x0, x1, x5 => if x5 < (x0.length : Int) then (if 0 ≤ x5 then (if x5 < (x1.length : Int) then (if (rd x0 x5) = (rd x1 x5) then (laws_eqInt64S.l0 k x0 x1 (wrap64 (x5 + 1))) else (some false)) else (none)) else (none)) else (some true)
def laws_eqInt64S.f (k : Nat) (l0 : List Int) (l1 : List Int) : Option (Bool) := if (l0.length : Int) = (l1.length : Int) then (laws_eqInt64S.l0 k l0 l1 0) else (some false)
theorem laws_eqInt64S.mono_l : ∀ k, (∀ y0 y1 y2, LeO (laws_eqInt64S.l0 k y0 y1 y2) (laws_eqInt64S.l0 (k + 1) y0 y1 y2))
  | 0 => fun _ _ _ r h => by simp [laws_eqInt64S.l0] at h
  | k + 1 => by
    have ih0 := laws_eqInt64S.mono_l k
    · intro y0 y1 y2
      unfold laws_eqInt64S.l0
      repeat' first
      | (with_reducible exact ih0 _ _ _)
      | (with_reducible exact LeO.refl _)
      | (with_reducible exact LeO.none _)
      | (with_reducible refine LeO.ite ?_ ?_)
      | (with_reducible refine LeO.bind ?_ (fun _ => ?_))
      | exact ih0 _ _ _
      | exact LeO.none _
      | refine LeO.ite ?_ ?_
      | refine LeO.bind ?_ (fun _ => ?_)
theorem laws_eqInt64S.mono : ∀ a0 a1 k, LeO (laws_eqInt64S.f k a0 a1) (laws_eqInt64S.f (k + 1) a0 a1) := by
  intro a0 a1 k
  have ih0 := laws_eqInt64S.mono_l k
  unfold laws_eqInt64S.f
  repeat' first
      | (with_reducible exact ih0 _ _ _)
      | (with_reducible exact LeO.refl _)
      | (with_reducible exact LeO.none _)
      | (with_reducible refine LeO.ite ?_ ?_)
      | (with_reducible refine LeO.bind ?_ (fun _ => ?_))
      | exact ih0 _ _ _
      | exact LeO.none _
      | refine LeO.ite ?_ ?_
      | refine LeO.bind ?_ (fun _ => ?_)
set_option maxHeartbeats 8000000 in
set_option maxRecDepth 100000 in
theorem laws_eqInt64S.calls (k : Nat) (A0 : Option Addr) (c0 : Nat) (l0 : List Int) (A1 : Option Addr) (c1 : Nat) (l1 : List Int) (r : Bool) (w : World) (hr0 : Kd.C (Kd.int .i64) w A0 l0.length l0) (hc0 : l0.length ≤ c0) (hr1 : Kd.C (Kd.int .i64) w A1 l1.length l1) (hc1 : l1.length ≤ c1) (h : laws_eqInt64S.f k l0 l1 = some r) :
    Calls Try.prog 9 #[.slice A0 l0.length c0, .slice A1 l1.length c1] w fun e w' => e = .returned (.bool r) ∧ Drawn0 w w' := by
  have HR0 := Aside0.mk hr0
  have HC0 := Aside0.mk hc0
  clear hr0 hc0
  have HR1 := Aside0.mk hr1
  have HC1 := Aside0.mk hc1
  clear hr1 hc1
  have H : (if (l0.length : Int) = (l1.length : Int) then (laws_eqInt64S.l0 k l0 l1 0) else (some false)) = some r := h
  clear h
  by_cases c3 : (l0.length : Int) = (l1.length : Int)
  · rw [if_pos c3] at H
    have c3b0 : ((l0.length : Int) == (l1.length : Int)) = true := beq_iff_eq.mpr c3
    have c3b1 : ((l0.length : Int) != (l1.length : Int)) = false := bne_eq_false_iff_eq.mpr c3
    have c3b2 : (l0.length == l1.length) = true := by first | simpa using c3 | (simp at c3 ⊢; omega)
    clear c3
    have H' := Aside0.mk H
    clear H
    go_enter Try.func9, Try.ntmps9
    go_wp2
    repeat (go_quiet (fail); try go_wp2)
    go_loopg [5] k (fun kq v5 w' => ∃ (x5_1 : Int), v5 = .int .i64 x5_1 ∧ Aside0 (laws_eqInt64S.l0 kq l0 l1 x5_1 = some r) ∧ Aside0 (kq ≤ k) ∧ Drawn0 w w')
    case atStart => exact ⟨(0), Fs, H', ⟨Nat.le_refl _⟩, by repeat (first | exact Drawn0.refl _ | apply Drawn0.step)⟩
    case round =>
      clear H'
      try clear c1
      try clear p2
      try clear c3
      try clear c3b0
      try clear c3b1
      try clear c3b2
      obtain ⟨x5_1, rfl, HA, HK1, ⟨m1, rfl⟩⟩ := hrel
      cases gk with
      | zero => exact absurd HA.out (by simp [laws_eqInt64S.l0])
      | succ k1 =>
        have H := HA.out
        clear HA
        simp only [laws_eqInt64S.l0] at H
        by_cases c4 : x5_1 < (l0.length : Int)
        · rw [if_pos c4] at H
          have c4b0 : decide (x5_1 < (l0.length : Int)) = true := decide_eq_true c4
          clear c4
          by_cases c5 : 0 ≤ x5_1
          · rw [if_pos c5] at H
            have c5b0 : decide (0 ≤ x5_1) = true := decide_eq_true c5
            clear c5
            by_cases c6 : x5_1 < (l1.length : Int)
            · rw [if_pos c6] at H
              have c6b0 : decide (x5_1 < (l1.length : Int)) = true := decide_eq_true c6
              clear c6
              by_cases c7 : (rd l0 x5_1) = (rd l1 x5_1)
              · rw [if_pos c7] at H
                have c7b0 : ((rd l0 x5_1) == (rd l1 x5_1)) = true := beq_iff_eq.mpr c7
                have c7b1 : ((rd l0 x5_1) != (rd l1 x5_1)) = false := bne_eq_false_iff_eq.mpr c7
                clear c7
                have H' := Aside0.mk H
                clear H
                have p164 : 0 ≤ (x5_1 : Int) := oD
                have q164 : x5_1 < (l0.length : Int) := oD
                obtain ⟨ad164, e164, hx164_0⟩ := Kd.at_int HR0.out x5_1 p164 q164
                cases e164
                replace p164 := eq_true p164
                replace q164 := eq_true q164
                have p165 : 0 ≤ (x5_1 : Int) := oD
                have q165 : x5_1 < (l1.length : Int) := oD
                obtain ⟨ad165, e165, hx165_0⟩ := Kd.at_int HR1.out x5_1 p165 q165
                cases e165
                replace p165 := eq_true p165
                replace q165 := eq_true q165
                go_wp2
                repeat (go_quiet (fail); try go_wp2)
                go_roundg k1
                case measure => have := HK1.out; omega
                case rel => exact ⟨(wrap64 (x5_1 + 1)), Fs, H', ⟨by have := HK1.out; omega⟩, by repeat (first | exact Drawn0.refl _ | apply Drawn0.step)⟩
              · rw [if_neg c7] at H
                have c7b0 : ((rd l0 x5_1) == (rd l1 x5_1)) = false := beq_eq_false_iff_ne.mpr c7
                have c7b1 : ((rd l0 x5_1) != (rd l1 x5_1)) = true := bne_iff_ne.mpr c7
                obtain rfl := Option.some.inj H
                have p164 : 0 ≤ (x5_1 : Int) := oD
                have q164 : x5_1 < (l0.length : Int) := oD
                obtain ⟨ad164, e164, hx164_0⟩ := Kd.at_int HR0.out x5_1 p164 q164
                cases e164
                replace p164 := eq_true p164
                replace q164 := eq_true q164
                have p165 : 0 ≤ (x5_1 : Int) := oD
                have q165 : x5_1 < (l1.length : Int) := oD
                obtain ⟨ad165, e165, hx165_0⟩ := Kd.at_int HR1.out x5_1 p165 q165
                cases e165
                replace p165 := eq_true p165
                replace q165 := eq_true q165
                go_wp2
                repeat (go_quiet (fail); try go_wp2)
                go_ret
                exact ⟨Fs, by repeat (first | exact Drawn0.refl _ | apply Drawn0.step)⟩
            · rw [if_neg c6] at H
              exact absurd H (by simp)
          · rw [if_neg c5] at H
            exact absurd H (by simp)
        · rw [if_neg c4] at H
          have c4b0 : decide (x5_1 < (l0.length : Int)) = false := decide_eq_false c4
          clear c4
          obtain rfl := Option.some.inj H
          go_wp2
          repeat (go_quiet (fail); try go_wp2)
          go_ret
          exact ⟨Fs, by repeat (first | exact Drawn0.refl _ | apply Drawn0.step)⟩
  · rw [if_neg c3] at H
    have c3b0 : ((l0.length : Int) == (l1.length : Int)) = false := beq_eq_false_iff_ne.mpr c3
    have c3b1 : ((l0.length : Int) != (l1.length : Int)) = true := bne_iff_ne.mpr c3
    have c3b2 : (l0.length == l1.length) = false := by first | simpa using c3 | (simp at c3 ⊢; omega)
    obtain rfl := Option.some.inj H
    go_enter Try.func9, Try.ntmps9
    go_wp2
    repeat (go_quiet (fail); try go_wp2)
    go_ret
    exact ⟨Fs, by repeat (first | exact Drawn0.refl _ | apply Drawn0.step)⟩

/-! ### laws_eqCell: function 22 -/
def laws_eqCell.f (a0_0 : Int) (a0_1 : Int) (a1_0 : Int) (a1_1 : Int) : Option (Bool) := if a0_0 = a1_0 then (if a0_1 = a1_1 then (some true) else (some false)) else (some false)
set_option maxHeartbeats 8000000 in
set_option maxRecDepth 100000 in
theorem laws_eqCell.calls (a0_0 : Int) (a0_1 : Int) (a1_0 : Int) (a1_1 : Int) (r : Bool) (w : World) (h : laws_eqCell.f a0_0 a0_1 a1_0 a1_1 = some r) :
    Calls Try.prog 22 #[.agg #[.int .i64 a0_0, .int .i64 a0_1], .agg #[.int .i64 a1_0, .int .i64 a1_1]] w fun e w' => e = .returned (.bool r) ∧ Below w.heap.size w w' := by
  have hu42 := Try.underlying42
  have HB := Aside0.mk (Below.refl w.heap.size w)
  have H : (if a0_0 = a1_0 then (if a0_1 = a1_1 then (some true) else (some false)) else (some false)) = some r := h
  clear h
  by_cases c3 : a0_0 = a1_0
  · rw [if_pos c3] at H
    have c3b0 : (a0_0 == a1_0) = true := beq_iff_eq.mpr c3
    have c3b1 : (a0_0 != a1_0) = false := bne_eq_false_iff_eq.mpr c3
    clear c3
    by_cases c4 : a0_1 = a1_1
    · rw [if_pos c4] at H
      have c4b0 : (a0_1 == a1_1) = true := beq_iff_eq.mpr c4
      have c4b1 : (a0_1 != a1_1) = false := bne_eq_false_iff_eq.mpr c4
      clear c4
      obtain rfl := Option.some.inj H
      go_enter Try.func22, Try.ntmps22
      go_wp2_with (first | ((with_reducible refine gD 2 ?_); refine BX #[.int .i64 a0_0, .int .i64 a0_1] 42 ?_; intro gb166 hg w5 hbox hb; have BK166 := Aside0.mk (hbox); have GW166 := Aside0.mk ((Gle hg Hb : w.heap.size ≤ gb166)); have GE166 := Aside0.mk ((Gle hg Hb : w.heap.size ≤ gb166)); replace HB := Aside0.mk (below_step Hb hb); clear hb hbox hg) | ((with_reducible refine gD 3 ?_); refine BX #[.int .i64 a1_0, .int .i64 a1_1] 42 ?_; intro gb167 hg w6 hbox hb; have BK167 := Aside0.mk (hbox); have GW167 := Aside0.mk ((Gle hg Hb : w.heap.size ≤ gb167)); have GE167 := Aside0.mk ((Gle hg Hb : w.heap.size ≤ gb167)); replace HB := Aside0.mk (below_step Hb hb); have NB166_167 := Aside0.mk ((by rw [hg]; exact Nat.ne_of_lt (blk_lt (B1 BK166)) : gb166 ≠ gb167)); have NB167_166 := Aside0.mk ((by rw [hg]; exact Nat.ne_of_gt (blk_lt (B1 BK166)) : gb167 ≠ gb166)); replace BK166 := Aside0.mk (blk_below (B1 BK166) hb); clear hb hbox hg; have hnb7 := NB166_167.out; have hnc7 := NB167_166.out; have hcz8_0 : w6.cell? ⟨gb166, 0, none⟩ = some (.int .i64 a0_0) := bc BK166; have hcz8_1 : w6.cell? ⟨gb166, 1, none⟩ = some (.int .i64 a0_1) := bc BK166; have hfz8_0 := blk_frozen BK166.out 0; have hfz8_1 := blk_frozen BK166.out 1; have hcz9_0 : w6.cell? ⟨gb167, 0, none⟩ = some (.int .i64 a1_0) := bc BK167; have hcz9_1 : w6.cell? ⟨gb167, 1, none⟩ = some (.int .i64 a1_1) := bc BK167; have hfz9_0 := blk_frozen BK167.out 0; have hfz9_1 := blk_frozen BK167.out 1))
      go_ret
      exact ⟨Fin, Hb⟩
    · rw [if_neg c4] at H
      have c4b0 : (a0_1 == a1_1) = false := beq_eq_false_iff_ne.mpr c4
      have c4b1 : (a0_1 != a1_1) = true := bne_iff_ne.mpr c4
      obtain rfl := Option.some.inj H
      go_enter Try.func22, Try.ntmps22
      go_wp2_with (first | ((with_reducible refine gD 2 ?_); refine BX #[.int .i64 a0_0, .int .i64 a0_1] 42 ?_; intro gb166 hg w10 hbox hb; have BK166 := Aside0.mk (hbox); have GW166 := Aside0.mk ((Gle hg Hb : w.heap.size ≤ gb166)); have GE166 := Aside0.mk ((Gle hg Hb : w.heap.size ≤ gb166)); replace HB := Aside0.mk (below_step Hb hb); clear hb hbox hg) | ((with_reducible refine gD 3 ?_); refine BX #[.int .i64 a1_0, .int .i64 a1_1] 42 ?_; intro gb167 hg w11 hbox hb; have BK167 := Aside0.mk (hbox); have GW167 := Aside0.mk ((Gle hg Hb : w.heap.size ≤ gb167)); have GE167 := Aside0.mk ((Gle hg Hb : w.heap.size ≤ gb167)); replace HB := Aside0.mk (below_step Hb hb); have NB166_167 := Aside0.mk ((by rw [hg]; exact Nat.ne_of_lt (blk_lt (B1 BK166)) : gb166 ≠ gb167)); have NB167_166 := Aside0.mk ((by rw [hg]; exact Nat.ne_of_gt (blk_lt (B1 BK166)) : gb167 ≠ gb166)); replace BK166 := Aside0.mk (blk_below (B1 BK166) hb); clear hb hbox hg; have hnb12 := NB166_167.out; have hnc12 := NB167_166.out; have hcz13_0 : w11.cell? ⟨gb166, 0, none⟩ = some (.int .i64 a0_0) := bc BK166; have hcz13_1 : w11.cell? ⟨gb166, 1, none⟩ = some (.int .i64 a0_1) := bc BK166; have hfz13_0 := blk_frozen BK166.out 0; have hfz13_1 := blk_frozen BK166.out 1; have hcz14_0 : w11.cell? ⟨gb167, 0, none⟩ = some (.int .i64 a1_0) := bc BK167; have hcz14_1 : w11.cell? ⟨gb167, 1, none⟩ = some (.int .i64 a1_1) := bc BK167; have hfz14_0 := blk_frozen BK167.out 0; have hfz14_1 := blk_frozen BK167.out 1))
      go_ret
      exact ⟨Fin, Hb⟩
  · rw [if_neg c3] at H
    have c3b0 : (a0_0 == a1_0) = false := beq_eq_false_iff_ne.mpr c3
    have c3b1 : (a0_0 != a1_0) = true := bne_iff_ne.mpr c3
    obtain rfl := Option.some.inj H
    go_enter Try.func22, Try.ntmps22
    go_wp2_with (first | ((with_reducible refine gD 2 ?_); refine BX #[.int .i64 a0_0, .int .i64 a0_1] 42 ?_; intro gb166 hg w15 hbox hb; have BK166 := Aside0.mk (hbox); have GW166 := Aside0.mk ((Gle hg Hb : w.heap.size ≤ gb166)); have GE166 := Aside0.mk ((Gle hg Hb : w.heap.size ≤ gb166)); replace HB := Aside0.mk (below_step Hb hb); clear hb hbox hg) | ((with_reducible refine gD 3 ?_); refine BX #[.int .i64 a1_0, .int .i64 a1_1] 42 ?_; intro gb167 hg w16 hbox hb; have BK167 := Aside0.mk (hbox); have GW167 := Aside0.mk ((Gle hg Hb : w.heap.size ≤ gb167)); have GE167 := Aside0.mk ((Gle hg Hb : w.heap.size ≤ gb167)); replace HB := Aside0.mk (below_step Hb hb); have NB166_167 := Aside0.mk ((by rw [hg]; exact Nat.ne_of_lt (blk_lt (B1 BK166)) : gb166 ≠ gb167)); have NB167_166 := Aside0.mk ((by rw [hg]; exact Nat.ne_of_gt (blk_lt (B1 BK166)) : gb167 ≠ gb166)); replace BK166 := Aside0.mk (blk_below (B1 BK166) hb); clear hb hbox hg; have hnb17 := NB166_167.out; have hnc17 := NB167_166.out; have hcz18_0 : w16.cell? ⟨gb166, 0, none⟩ = some (.int .i64 a0_0) := bc BK166; have hcz18_1 : w16.cell? ⟨gb166, 1, none⟩ = some (.int .i64 a0_1) := bc BK166; have hfz18_0 := blk_frozen BK166.out 0; have hfz18_1 := blk_frozen BK166.out 1; have hcz19_0 : w16.cell? ⟨gb167, 0, none⟩ = some (.int .i64 a1_0) := bc BK167; have hcz19_1 : w16.cell? ⟨gb167, 1, none⟩ = some (.int .i64 a1_1) := bc BK167; have hfz19_0 := blk_frozen BK167.out 0; have hfz19_1 := blk_frozen BK167.out 1))
    go_ret
    exact ⟨Fin, Hb⟩

/-! ### laws_eqCellS: function 10 -/
def laws_eqCellS.l0 : Nat → List (S42) → List (S42) → Int → Option (Bool)
  | 0, _, _, _ => none
  | k + 1, x0, x1, x5 => if x5 < (x0.length : Int) then (if 0 ≤ x5 then (if x5 < (x1.length : Int) then ((laws_eqCell.f ((rd_T42 x0 x5).f0) ((rd_T42 x0 x5).f1) ((rd_T42 x1 x5).f0) ((rd_T42 x1 x5).f1)).bind fun t170 => (if t170 = true then (laws_eqCellS.l0 k x0 x1 (wrap64 (x5 + 1))) else (some false))) else (none)) else (none)) else (some true)
def laws_eqCellS.f (k : Nat) (l0 : List (S42)) (l1 : List (S42)) : Option (Bool) := if (l0.length : Int) = (l1.length : Int) then (laws_eqCellS.l0 k l0 l1 0) else (some false)
theorem laws_eqCellS.mono_l : ∀ k, (∀ y0 y1 y2, LeO (laws_eqCellS.l0 k y0 y1 y2) (laws_eqCellS.l0 (k + 1) y0 y1 y2))
  | 0 => fun _ _ _ r h => by simp [laws_eqCellS.l0] at h
  | k + 1 => by
    have ih0 := laws_eqCellS.mono_l k
    · intro y0 y1 y2
      unfold laws_eqCellS.l0
      repeat' first
      | (with_reducible exact ih0 _ _ _)
      | (with_reducible exact LeO.refl _)
      | (with_reducible exact LeO.none _)
      | (with_reducible refine LeO.ite ?_ ?_)
      | (with_reducible refine LeO.bind ?_ (fun _ => ?_))
      | exact ih0 _ _ _
      | exact LeO.none _
      | refine LeO.ite ?_ ?_
      | refine LeO.bind ?_ (fun _ => ?_)
theorem laws_eqCellS.mono : ∀ a0 a1 k, LeO (laws_eqCellS.f k a0 a1) (laws_eqCellS.f (k + 1) a0 a1) := by
  intro a0 a1 k
  have ih0 := laws_eqCellS.mono_l k
  unfold laws_eqCellS.f
  repeat' first
      | (with_reducible exact ih0 _ _ _)
      | (with_reducible exact LeO.refl _)
      | (with_reducible exact LeO.none _)
      | (with_reducible refine LeO.ite ?_ ?_)
      | (with_reducible refine LeO.bind ?_ (fun _ => ?_))
      | exact ih0 _ _ _
      | exact LeO.none _
      | refine LeO.ite ?_ ?_
      | refine LeO.bind ?_ (fun _ => ?_)
def laws_eqCellS.T6 : Bool × List (List Nat × List Nat) := (true, [([], []), ([], []), ([0, 1], [0, 1]), ([2], [2]), ([], []), ([], []), ([4, 5], [4, 5]), ([6], [6]), ([3, 7], [3, 7]), ([8], [8])])
def laws_eqCellS.B6 : List Nat := [0, 0, 3, 7, 0, 0, 48, 112, 255, 511]
theorem laws_eqCellS.tab6 : rtab .any (opsOf Try.f10 6) = laws_eqCellS.T6 := by kernel_rfl
theorem laws_eqCellS.bits6 : waitsOk laws_eqCellS.T6.2 laws_eqCellS.B6 = true := by kernel_rfl
set_option maxHeartbeats 8000000 in
set_option maxRecDepth 100000 in
theorem laws_eqCellS.calls (k : Nat) (A0 : Option Addr) (c0 : Nat) (l0 : List (S42)) (A1 : Option Addr) (c1 : Nat) (l1 : List (S42)) (r : Bool) (w : World) (hr0 : Kd.C k42 w A0 l0.length l0) (hc0 : l0.length ≤ c0) (hr1 : Kd.C k42 w A1 l1.length l1) (hc1 : l1.length ≤ c1) (h : laws_eqCellS.f k l0 l1 = some r) :
    Calls Try.prog 10 #[.slice A0 l0.length c0, .slice A1 l1.length c1] w fun e w' => e = .returned (.bool r) ∧ Below w.heap.size w w' := by
  have hu42 := Try.underlying42
  have HR0 := Aside0.mk hr0
  have HC0 := Aside0.mk hc0
  clear hr0 hc0
  have HR1 := Aside0.mk hr1
  have HC1 := Aside0.mk hc1
  clear hr1 hc1
  have HB := Aside0.mk (Below.refl w.heap.size w)
  have H : (if (l0.length : Int) = (l1.length : Int) then (laws_eqCellS.l0 k l0 l1 0) else (some false)) = some r := h
  clear h
  by_cases c3 : (l0.length : Int) = (l1.length : Int)
  · rw [if_pos c3] at H
    have c3b0 : ((l0.length : Int) == (l1.length : Int)) = true := beq_iff_eq.mpr c3
    have c3b1 : ((l0.length : Int) != (l1.length : Int)) = false := bne_eq_false_iff_eq.mpr c3
    have c3b2 : (l0.length == l1.length) = true := by first | simpa using c3 | (simp at c3 ⊢; omega)
    clear c3
    have H' := Aside0.mk H
    clear H
    go_enter Try.func10, Try.ntmps10
    go_wp2
    go_loopg [5] k (fun kq v5 w' => ∃ (x5_1 : Int), v5 = .int .i64 x5_1 ∧ Aside0 (laws_eqCellS.l0 kq l0 l1 x5_1 = some r) ∧ Aside0 (kq ≤ k) ∧ Aside0 (Below w.heap.size w w'))
    case atStart => exact ⟨(0), Fs, H', ⟨Nat.le_refl _⟩, ⟨Hb⟩⟩
    case round =>
      clear H'
      try clear c1
      try clear p2
      try clear c3
      try clear c3b0
      try clear c3b1
      try clear c3b2
      obtain ⟨x5_1, rfl, HA, HK1, HB⟩ := hrel
      cases gk with
      | zero => exact absurd HA.out (by simp [laws_eqCellS.l0])
      | succ k1 =>
        have H := HA.out
        clear HA
        simp only [laws_eqCellS.l0] at H
        by_cases c4 : x5_1 < (l0.length : Int)
        · rw [if_pos c4] at H
          have c4b0 : decide (x5_1 < (l0.length : Int)) = true := decide_eq_true c4
          clear c4
          by_cases c5 : 0 ≤ x5_1
          · rw [if_pos c5] at H
            have c5b0 : decide (0 ≤ x5_1) = true := decide_eq_true c5
            clear c5
            by_cases c6 : x5_1 < (l1.length : Int)
            · rw [if_pos c6] at H
              have c6b0 : decide (x5_1 < (l1.length : Int)) = true := decide_eq_true c6
              clear c6
              obtain ⟨t170, A70, H⟩ := Option.bind_eq_some_iff.mp H
              have A7 := Aside0.mk A70
              clear A70
              by_cases c8 : t170 = true
              · subst c8
                rw [if_pos rfl] at H
                have H' := Aside0.mk H
                clear H
                try go_wp2
                replace HB := Aside0.mk (below_drew1 HB.out)
                have p168 : 0 ≤ (x5_1 : Int) := oD
                have q168 : x5_1 < (l0.length : Int) := oD
                obtain ⟨ad168, e168, hx168_0, hx168_1⟩ := at_T42 HR0.out x5_1 p168 q168
                have hw168_1 := hx168_1
                have hw168_0 := hx168_0
                cases e168
                replace hx168_0 := hxb hx168_0
                replace hx168_1 := hxb hx168_1
                replace p168 := eq_true p168
                replace q168 := eq_true q168
                have p169 : 0 ≤ (x5_1 : Int) := oD
                have q169 : x5_1 < (l1.length : Int) := oD
                obtain ⟨ad169, e169, hx169_0, hx169_1⟩ := at_T42 HR1.out x5_1 p169 q169
                have hw169_1 := hx169_1
                have hw169_0 := hx169_0
                cases e169
                replace hx169_0 := hxb hx169_0
                replace hx169_1 := hxb hx169_1
                replace p169 := eq_true p169
                replace q169 := eq_true q169
                refine start_ (n := 10) (S := fun w' => w'.cell? (ad168.add ((x5_1).toNat * 2)) = some (.int .i64 ((rd_T42 l0 x5_1).f0)) ∧ w'.cell? ⟨(ad168.add ((x5_1).toNat * 2)).block, (ad168.add ((x5_1).toNat * 2)).off + 1, none⟩ = some (.int .i64 ((rd_T42 l0 x5_1).f1)) ∧ w'.cell? (ad169.add ((x5_1).toNat * 2)) = some (.int .i64 ((rd_T42 l1 x5_1).f0)) ∧ w'.cell? ⟨(ad169.add ((x5_1).toNat * 2)).block, (ad169.add ((x5_1).toNat * 2)).off + 1, none⟩ = some (.int .i64 ((rd_T42 l1 x5_1).f1))) (ds := []) #[false, false, false, false, false, false, false, false, false, false] (by kernel_rfl) rfl rfl ⟨(hxb hw168_0), (hxb hw168_1), (hxb hw169_0), (hxb hw169_1)⟩ (fun hHeld => ?_); refine with_tabW laws_eqCellS.tab6 laws_eqCellS.bits6 (fun HT_ HW_ => ?_)
                generalize wr.drew = w9 at HB hx168_0 hx168_1 hx169_0 hx169_1 hHeld ⊢
                refine PU 0 17 ?_
                refine PU 1 18 ?_
                refine PU 2 19 ?_
                refine PU 4 21 ?_
                refine PU 5 22 ?_
                refine PU 6 23 ?_
                refine TK 3 20 hHeld ?_
                refine TK 7 24 hHeld ?_
                refine ON 8 25 (fun K hK => ?_)
                refine GO Try.func22 #[.agg #[.int .i64 ((rd_T42 l0 x5_1).f0), .int .i64 ((rd_T42 l0 x5_1).f1)], .agg #[.int .i64 ((rd_T42 l1 x5_1).f0), .int .i64 ((rd_T42 l1 x5_1).f1)]] ?_
                with_reducible refine (laws_eqCell.calls ((rd_T42 l0 x5_1).f0) ((rd_T42 l0 x5_1).f1) ((rd_T42 l1 x5_1).f0) ((rd_T42 l1 x5_1).f1) true _ A7.out).mono ?_
                rintro e w10 ⟨rfl, hb⟩
                refine ⟨_, rfl, ?_⟩
                replace HB := Aside0.mk (below_step Hb hb)
                (try clear hb)
                (try clear hb2)
                (try clear hk)
                (try clear hi)
                refine hK.out _ _ ⟨(hxb hw168_0), (hxb hw168_1), (hxb hw169_0), (hxb hw169_1)⟩ (fun hHeld => ?_)
                clear hK K
                refine NM ?_
                refine PU 9 26 ?_
                refine done_ (done_of HT_.out (by kernel_rfl)) ?_
                try go_wp2
                go_roundg k1
                case measure => have := HK1.out; omega
                case rel => exact ⟨(wrap64 (x5_1 + 1)), Fs, H', ⟨by have := HK1.out; omega⟩, ⟨Hb⟩⟩
              · replace c8 := Bool.eq_false_iff.mpr c8
                subst c8
                rw [if_neg (show ¬ (false = true) by decide)] at H
                obtain rfl := Option.some.inj H
                try go_wp2
                replace HB := Aside0.mk (below_drew1 HB.out)
                have p168 : 0 ≤ (x5_1 : Int) := oD
                have q168 : x5_1 < (l0.length : Int) := oD
                obtain ⟨ad168, e168, hx168_0, hx168_1⟩ := at_T42 HR0.out x5_1 p168 q168
                have hw168_1 := hx168_1
                have hw168_0 := hx168_0
                cases e168
                replace hx168_0 := hxb hx168_0
                replace hx168_1 := hxb hx168_1
                replace p168 := eq_true p168
                replace q168 := eq_true q168
                have p169 : 0 ≤ (x5_1 : Int) := oD
                have q169 : x5_1 < (l1.length : Int) := oD
                obtain ⟨ad169, e169, hx169_0, hx169_1⟩ := at_T42 HR1.out x5_1 p169 q169
                have hw169_1 := hx169_1
                have hw169_0 := hx169_0
                cases e169
                replace hx169_0 := hxb hx169_0
                replace hx169_1 := hxb hx169_1
                replace p169 := eq_true p169
                replace q169 := eq_true q169
                refine start_ (n := 10) (S := fun w' => w'.cell? (ad168.add ((x5_1).toNat * 2)) = some (.int .i64 ((rd_T42 l0 x5_1).f0)) ∧ w'.cell? ⟨(ad168.add ((x5_1).toNat * 2)).block, (ad168.add ((x5_1).toNat * 2)).off + 1, none⟩ = some (.int .i64 ((rd_T42 l0 x5_1).f1)) ∧ w'.cell? (ad169.add ((x5_1).toNat * 2)) = some (.int .i64 ((rd_T42 l1 x5_1).f0)) ∧ w'.cell? ⟨(ad169.add ((x5_1).toNat * 2)).block, (ad169.add ((x5_1).toNat * 2)).off + 1, none⟩ = some (.int .i64 ((rd_T42 l1 x5_1).f1))) (ds := []) #[false, false, false, false, false, false, false, false, false, false] (by kernel_rfl) rfl rfl ⟨(hxb hw168_0), (hxb hw168_1), (hxb hw169_0), (hxb hw169_1)⟩ (fun hHeld => ?_); refine with_tabW laws_eqCellS.tab6 laws_eqCellS.bits6 (fun HT_ HW_ => ?_)
                generalize wr.drew = w11 at HB hx168_0 hx168_1 hx169_0 hx169_1 hHeld ⊢
                refine PU 0 17 ?_
                refine PU 1 18 ?_
                refine PU 2 19 ?_
                refine PU 4 21 ?_
                refine PU 5 22 ?_
                refine PU 6 23 ?_
                refine TK 3 20 hHeld ?_
                refine TK 7 24 hHeld ?_
                refine ON 8 25 (fun K hK => ?_)
                refine GO Try.func22 #[.agg #[.int .i64 ((rd_T42 l0 x5_1).f0), .int .i64 ((rd_T42 l0 x5_1).f1)], .agg #[.int .i64 ((rd_T42 l1 x5_1).f0), .int .i64 ((rd_T42 l1 x5_1).f1)]] ?_
                with_reducible refine (laws_eqCell.calls ((rd_T42 l0 x5_1).f0) ((rd_T42 l0 x5_1).f1) ((rd_T42 l1 x5_1).f0) ((rd_T42 l1 x5_1).f1) false _ A7.out).mono ?_
                rintro e w12 ⟨rfl, hb⟩
                refine ⟨_, rfl, ?_⟩
                replace HB := Aside0.mk (below_step Hb hb)
                (try clear hb)
                (try clear hb2)
                (try clear hk)
                (try clear hi)
                refine hK.out _ _ ⟨(hxb hw168_0), (hxb hw168_1), (hxb hw169_0), (hxb hw169_1)⟩ (fun hHeld => ?_)
                clear hK K
                refine NM ?_
                refine PU 9 26 ?_
                refine done_ (done_of HT_.out (by kernel_rfl)) ?_
                try go_wp2
                go_ret
                exact ⟨Fin, Hb⟩
            · rw [if_neg c6] at H
              exact absurd H (by simp)
          · rw [if_neg c5] at H
            exact absurd H (by simp)
        · rw [if_neg c4] at H
          have c4b0 : decide (x5_1 < (l0.length : Int)) = false := decide_eq_false c4
          clear c4
          obtain rfl := Option.some.inj H
          go_wp2
          go_ret
          exact ⟨Fin, Hb⟩
  · rw [if_neg c3] at H
    have c3b0 : ((l0.length : Int) == (l1.length : Int)) = false := beq_eq_false_iff_ne.mpr c3
    have c3b1 : ((l0.length : Int) != (l1.length : Int)) = true := bne_iff_ne.mpr c3
    have c3b2 : (l0.length == l1.length) = false := by first | simpa using c3 | (simp at c3 ⊢; omega)
    obtain rfl := Option.some.inj H
    go_enter Try.func10, Try.ntmps10
    go_wp2
    go_ret
    exact ⟨Fin, Hb⟩

/-! ### laws_markCellS: function 11 -/
def laws_markCellS.l0 : Nat → List (S42) → Int → Int → Option (Int × (List (S42)))
  | 0, _, _, _ => none
  | k + 1, x0, x1, x5 => if x5 < (x0.length : Int) then (if 0 ≤ x5 then ((some (x0.set (x5 : Int).toNat (⟨x1, (rd_T42 x0 x5).f1⟩ : S42) : List (S42))).bind fun y171 => (laws_markCellS.l0 k (y171.set (x5 : Int).toNat (⟨(rd_T42 y171 x5).f0, wrap64 (x1 + 1)⟩ : S42)) (wrap64 ((wrap64 (x1 + 1)) + 1)) (wrap64 (x5 + 1)))) else (none)) else (some (x1, x0))
def laws_markCellS.f (k : Nat) (l0 : List (S42)) (a1 : Int) : Option (Int × (List (S42))) := laws_markCellS.l0 k l0 a1 0
theorem laws_markCellS.mono_l : ∀ k, (∀ y0 y1 y2, LeO (laws_markCellS.l0 k y0 y1 y2) (laws_markCellS.l0 (k + 1) y0 y1 y2))
  | 0 => fun _ _ _ r h => by simp [laws_markCellS.l0] at h
  | k + 1 => by
    have ih0 := laws_markCellS.mono_l k
    · intro y0 y1 y2
      unfold laws_markCellS.l0
      repeat' first
      | (with_reducible exact ih0 _ _ _)
      | (with_reducible exact LeO.refl _)
      | (with_reducible exact LeO.none _)
      | (with_reducible refine LeO.ite ?_ ?_)
      | (with_reducible refine LeO.bind ?_ (fun _ => ?_))
      | exact ih0 _ _ _
      | exact LeO.none _
      | refine LeO.ite ?_ ?_
      | refine LeO.bind ?_ (fun _ => ?_)
theorem laws_markCellS.mono : ∀ a0 a1 k, LeO (laws_markCellS.f k a0 a1) (laws_markCellS.f (k + 1) a0 a1) := by
  intro a0 a1 k
  have ih0 := laws_markCellS.mono_l k
  unfold laws_markCellS.f
  repeat' first
      | (with_reducible exact ih0 _ _ _)
      | (with_reducible exact LeO.refl _)
      | (with_reducible exact LeO.none _)
      | (with_reducible refine LeO.ite ?_ ?_)
      | (with_reducible refine LeO.bind ?_ (fun _ => ?_))
      | exact ih0 _ _ _
      | exact LeO.none _
      | refine LeO.ite ?_ ?_
      | refine LeO.bind ?_ (fun _ => ?_)
set_option maxHeartbeats 8000000 in
set_option maxRecDepth 100000 in
theorem laws_markCellS.calls (k : Nat) (P0_ : Nat → Prop) (u9000_ : Value) (l0 : List (S42)) (a1 : Int) (r1 : Int) (r2 : List (S42)) (w0 w : World) (hB : Below w0.heap.size w0 w) (ho0 : Kd.R k42 42 w w0.heap.size P0_ u9000_ l0) (h : laws_markCellS.f k l0 a1 = some (r1, r2)) :
    Calls Try.prog 11 #[u9000_, .int .i64 a1] w fun e w' => e = .returned (.int .i64 r1) ∧ Kd.R k42 42 w' w0.heap.size (fun k_ => (P0_ k_ ∨ w.heap.size ≤ k_)) u9000_ r2 ∧ Below w0.heap.size w0 w' ∧ Kept w w' (fun k_ => P0_ k_) := by
  have HO0 := Aside0.mk (show Kd.R k42 42 w w0.heap.size (fun k_ => (P0_ k_ ∨ w.heap.size ≤ k_)) u9000_ l0 from Kd.R_mono ho0 (fun k_ hk => (.inl hk)))
  have HK := Aside0.mk (Kept.refl w (fun k_ => P0_ k_))
  have HW0 := Aside0.mk hB.size
  have HB := Aside0.mk hB
  clear hB
  have H : (laws_markCellS.l0 k l0 a1 0) = some (r1, r2) := h
  clear h
  have H' := Aside0.mk H
  clear H
  go_enter Try.func11, Try.ntmps11
  go_wp2
  go_loopg [1, 5] k (fun kq v1 v5 w' => ∃ (x0_1 : List (S42)) (x1_1 : Int) (x5_1 : Int), v1 = .int .i64 x1_1 ∧ v5 = .int .i64 x5_1 ∧ Aside0 (laws_markCellS.l0 kq x0_1 x1_1 x5_1 = some (r1, r2)) ∧ Aside0 (kq ≤ k) ∧ Aside0 (Kd.R k42 42 w' w0.heap.size (fun k_ => (P0_ k_ ∨ w.heap.size ≤ k_)) u9000_ x0_1) ∧ Aside0 (Kept w w' (fun k_ => P0_ k_)) ∧ Aside0 (Below w0.heap.size w0 w'))
  case atStart => exact ⟨(l0), (a1), (0), Fs, Fs, H', ⟨Nat.le_refl _⟩, ⟨by (with_reducible repeat (first | apply Kd.R_alloc | apply Kd.R_drewN | apply Kd.R_drew)); exact HO0.out⟩, ⟨by repeat (first | (with_reducible first | exact HK.out | apply Kept.alloc | apply Kept.drewN | apply Kept.drew) | exact HK.out)⟩, ⟨Hb⟩⟩
  case round =>
    clear H'
    try clear c1
    try clear p2
    obtain ⟨x0_1, x1_1, x5_1, rfl, rfl, HA, HK1, HO_0, HK, HB⟩ := hrel
    cases gk with
    | zero => exact absurd HA.out (by simp [laws_markCellS.l0])
    | succ k1 =>
      have H := HA.out
      clear HA
      simp only [laws_markCellS.l0] at H
      by_cases c3 : x5_1 < (x0_1.length : Int)
      · rw [if_pos c3] at H
        have c3b0 : decide (x5_1 < (x0_1.length : Int)) = true := decide_eq_true c3
        clear c3
        by_cases c4 : 0 ≤ x5_1
        · rw [if_pos c4] at H
          have c4b0 : decide (0 ≤ x5_1) = true := decide_eq_true c4
          clear c4
          obtain ⟨y171, hy171⟩ : ∃ y_ : List (S42), y_ = (x0_1.set (x5_1 : Int).toNat (⟨x1_1, (rd_T42 x0_1 x5_1).f1⟩ : S42)) := ⟨_, rfl⟩
          replace H : (laws_markCellS.l0 k1 (y171.set (x5_1 : Int).toNat (⟨(rd_T42 y171 x5_1).f0, wrap64 (x1_1 + 1)⟩ : S42)) (wrap64 ((wrap64 (x1_1 + 1)) + 1)) (wrap64 (x5_1 + 1))) = some (r1, r2) := by first | (rw [hy171]; with_reducible exact H) | (have H2_ := (Option.bind_some _ _).symm.trans H; rw [hy171]; with_reducible exact H2_) | (have H2_ := (Option.bind_some _ _).symm.trans H; with_reducible exact H2_) | with_reducible exact H | (rw [hy171]; exact H) | exact H
          have Ny171 := Aside0.mk hy171
          clear hy171
          obtain ⟨y172, hy172⟩ : ∃ y_ : List (S42), y_ = (y171.set (x5_1 : Int).toNat (⟨(rd_T42 y171 x5_1).f0, wrap64 (x1_1 + 1)⟩ : S42)) := ⟨_, rfl⟩
          replace H : (laws_markCellS.l0 k1 y172 (wrap64 ((wrap64 (x1_1 + 1)) + 1)) (wrap64 (x5_1 + 1))) = some (r1, r2) := by first | (rw [hy172]; with_reducible exact H) | (have H2_ := (Option.bind_some _ _).symm.trans H; rw [hy172]; with_reducible exact H2_) | (have H2_ := (Option.bind_some _ _).symm.trans H; with_reducible exact H2_) | with_reducible exact H | (rw [hy172]; exact H) | exact H
          have Ny172 := Aside0.mk hy172
          clear hy172
          have H' := Aside0.mk H
          clear H
          obtain ⟨Ao7, co7, eo7⟩ := Kd.R_slice HO_0.out
          subst eo7
          have p5 : 0 ≤ (x5_1 : Int) := oD
          have q5 : (x5_1 : Int) < ((x0_1.length : Int) : Int) := oD
          obtain ⟨go5, co5, eo5, gb5, gl5, cl5, HG5⟩ := Kd.R_form HO_0.out (by omega)
          (first | cases eo5 | (injection eo5 with ea_ en_ ec_; (first | subst ea_ | (injection ea_ with ea_; subst ea_)); subst ec_; clear en_))
          have GB5 := Aside0.mk gb5
          have GG5 := Aside0.mk HG5
          clear gb5 gl5 HG5
          have HMgo5 := Aside0.mk (show (P0_ go5 ∨ w.heap.size ≤ go5) from (HO_0.out.1 _ rfl))
          obtain ⟨ce5, hcl5, hM5, hcc5, hfr5⟩ := Kd.R_elem HO_0.out z42 (x5_1 : Int) p5 q5
          obtain rfl := k42_openM hM5
          have hx5_0 : wr.cell? ⟨go5, (x5_1 : Int).toNat * 2, none⟩ = some (.int .i64 ((rd_T42 x0_1 x5_1).f0)) := hcc5 0 _ rfl
          have hx5_1 : wr.cell? ⟨go5, (x5_1 : Int).toNat * 2 + 1, none⟩ = some (.int .i64 ((rd_T42 x0_1 x5_1).f1)) := hcc5 1 _ rfl
          have hf5_0 : wr.frozen? ⟨go5, (x5_1 : Int).toNat * 2, none⟩ = false := hfr5 0
          have hf5_1 : wr.frozen? ⟨go5, (x5_1 : Int).toNat * 2 + 1, none⟩ = false := hfr5 1
          clear hcl5 hcc5 hfr5; (try clear hM5)
          replace p5 := eq_true p5
          replace q5 := eq_true q5
          have HX8 := Aside0.mk (show Kd.R k42 42 wr w0.heap.size (fun k_ => (P0_ k_ ∨ w.heap.size ≤ k_)) (.slice (some ⟨go5, 0, none⟩) x0_1.length co7) x0_1 from (R1 HO_0))
          obtain ⟨ce8, hcl8, hM8, hcc8, hfr8⟩ := Kd.R_elem HX8.out z42 (x5_1 : Int) (oD) (by have h_ : (x5_1 : Int) < ((x0_1.length : Int) : Int) := oD; first | exact h_ | (have e_ := (Kd.R_reads' HO_0.out).1; omega) | simpa using h_)
          obtain rfl := k42_openM hM8
          have HP8 := Kd.R_seg HX8.out (x5_1 : Int) (oD) (by have h_ : (x5_1 : Int) < ((x0_1.length : Int) : Int) := oD; first | exact h_ | (have e_ := (Kd.R_reads' HO_0.out).1; omega) | simpa using h_) (seg := [.int .i64 x1_1]) (j := 0) hcl8 hcc8 (show 1 ≤ 2 from by decide) (x' := (⟨x1_1, (rd_T42 x0_1 x5_1).f1⟩ : S42)) (k42_mkM _ _ _ (⟨x1_1, (rd_T42 x0_1 x5_1).f1⟩ : S42) ) (fun _ hk => hk)
          have hx8_0 := hcc8 0 _ rfl
          (try simp only [show (k42).sz = 2 from rfl, Nat.mul_one, Nat.add_zero] at hx8_0)
          have hf8_0 := hfr8 0
          (try simp only [show (k42).sz = 2 from rfl, Nat.mul_one, Nat.add_zero] at hf8_0)
          clear hcl8 hcc8 hfr8; (try clear hM8)
          go_wp2_with (first | ((with_reducible refine gate_store (t := 2) (p := 16) rfl ?_); refine store_event (t := 2) (p := 16) (v := ?vo_w9) (w1 := (wr.setCell ⟨go5, (x5_1 : Int).toNat * 2, none⟩ (.int .i64 x1_1))) ?hg ?ho ?hn ?hr ?_; (case ho => rfl); (case hg => rfl); (case hn => rfl); (case hr => first | (go_simp; done) | (go_simp; rfl)); intro w9 hw; have hg : wr.grownBy w9 (some go5) := (by rw [hw]; exact HP8.2); have hp_ : Kd.R k42 42 w9 w0.heap.size (fun k_ => (P0_ k_ ∨ w.heap.size ≤ k_)) (.slice (some ⟨go5, 0, none⟩) x0_1.length co7) y171 := (by rw [hw, Ny171.out]; exact HP8.1); clear HP8; replace HB := Aside0.mk ((by rw [hw]; exact below_set (HB.out) GB5.out : Below w0.heap.size w0 w9)); replace HK := Aside0.mk (Kept.of_grown (S := (fun k_ => P0_ k_)) hg (by repeat (first | (with_reducible first | exact HK.out | apply Kept.alloc | apply Kept.drewN | apply Kept.drew) | exact HK.out)) (fun k_ e_ => (HO_0.out.1 k_ e_))); replace HO_0 := Aside0.mk (hp_); clear hg hw hp_; have p6 : 0 ≤ (x5_1 : Int) := oD; have q6 : (x5_1 : Int) < ((x0_1.length : Int) : Int) := oD; obtain ⟨ce6, hcl6, hM6, hcc6, hfr6⟩ := Kd.R_elem HO_0.out z42 (x5_1 : Int) p6 q6; obtain rfl := k42_openM hM6; have hx6_0 : w9.cell? ⟨go5, (x5_1 : Int).toNat * 2, none⟩ = some (.int .i64 ((rd_T42 y171 x5_1).f0)) := hcc6 0 _ rfl; have hx6_1 : w9.cell? ⟨go5, (x5_1 : Int).toNat * 2 + 1, none⟩ = some (.int .i64 ((rd_T42 y171 x5_1).f1)) := hcc6 1 _ rfl; have hf6_0 : w9.frozen? ⟨go5, (x5_1 : Int).toNat * 2, none⟩ = false := hfr6 0; have hf6_1 : w9.frozen? ⟨go5, (x5_1 : Int).toNat * 2 + 1, none⟩ = false := hfr6 1; clear hcl6 hcc6 hfr6; (try clear hM6); replace p6 := eq_true p6; replace q6 := eq_true q6; have HX10 := Aside0.mk (show Kd.R k42 42 w9 w0.heap.size (fun k_ => (P0_ k_ ∨ w.heap.size ≤ k_)) (.slice (some ⟨go5, 0, none⟩) x0_1.length co7) y171 from (R1 HO_0)); obtain ⟨ce10, hcl10, hM10, hcc10, hfr10⟩ := Kd.R_elem HX10.out z42 (x5_1 : Int) (oD) (by have h_ : (x5_1 : Int) < ((x0_1.length : Int) : Int) := oD; first | exact h_ | (have e_ := (Kd.R_reads' HO_0.out).1; omega) | simpa using h_); obtain rfl := k42_openM hM10; have HP10 := Kd.R_seg HX10.out (x5_1 : Int) (oD) (by have h_ : (x5_1 : Int) < ((x0_1.length : Int) : Int) := oD; first | exact h_ | (have e_ := (Kd.R_reads' HO_0.out).1; omega) | simpa using h_) (seg := [.int .i64 (wrap64 (x1_1 + 1))]) (j := 1) hcl10 hcc10 (show 2 ≤ 2 from by decide) (x' := (⟨(rd_T42 y171 x5_1).f0, wrap64 (x1_1 + 1)⟩ : S42)) (k42_mkM _ _ _ (⟨(rd_T42 y171 x5_1).f0, wrap64 (x1_1 + 1)⟩ : S42) ) (fun _ hk => hk); have hx10_1 := hcc10 1 _ rfl; (try simp only [show (k42).sz = 2 from rfl, Nat.mul_one, Nat.add_zero] at hx10_1); have hf10_1 := hfr10 1; (try simp only [show (k42).sz = 2 from rfl, Nat.mul_one, Nat.add_zero] at hf10_1); clear hcl10 hcc10 hfr10; (try clear hM10)) | ((with_reducible refine gate_store (t := 2) (p := 23) rfl ?_); refine store_event (t := 2) (p := 23) (v := ?vo_w11) (w1 := (w9.setCell ⟨go5, (x5_1 : Int).toNat * 2 + 1, none⟩ (.int .i64 (wrap64 (x1_1 + 1))))) ?hg ?ho ?hn ?hr ?_; (case ho => rfl); (case hg => rfl); (case hn => rfl); (case hr => first | (go_simp; done) | (go_simp; rfl)); intro w11 hw; have hg : w9.grownBy w11 (some go5) := (by rw [hw]; exact HP10.2); have hp_ : Kd.R k42 42 w11 w0.heap.size (fun k_ => (P0_ k_ ∨ w.heap.size ≤ k_)) (.slice (some ⟨go5, 0, none⟩) x0_1.length co7) y172 := (by rw [hw, Ny172.out]; exact HP10.1); clear HP10; replace HB := Aside0.mk ((by rw [hw]; exact below_set (HB.out) GB5.out : Below w0.heap.size w0 w11)); replace HK := Aside0.mk (Kept.of_grown (S := (fun k_ => P0_ k_)) hg (by repeat (first | (with_reducible first | exact HK.out | apply Kept.alloc | apply Kept.drewN | apply Kept.drew) | exact HK.out)) (fun k_ e_ => (HO_0.out.1 k_ e_))); replace HO_0 := Aside0.mk (hp_); clear hg hw hp_))
          go_roundg k1
          case measure => have := HK1.out; omega
          case rel => exact ⟨(y172), (wrap64 ((wrap64 (x1_1 + 1)) + 1)), (wrap64 (x5_1 + 1)), Fs, Fs, H', ⟨by have := HK1.out; omega⟩, ⟨by (with_reducible repeat (first | apply Kd.R_alloc | apply Kd.R_drewN | apply Kd.R_drew)); exact HO_0.out⟩, ⟨by repeat (first | (with_reducible first | exact HK.out | apply Kept.alloc | apply Kept.drewN | apply Kept.drew) | exact HK.out)⟩, ⟨Hb⟩⟩
        · rw [if_neg c4] at H
          exact absurd H (by simp)
      · rw [if_neg c3] at H
        have c3b0 : decide (x5_1 < (x0_1.length : Int)) = false := decide_eq_false c3
        clear c3
        simp only [Option.some.injEq, Prod.mk.injEq] at H
        obtain ⟨rfl, rfl⟩ := H
        obtain ⟨Ao12, co12, eo12⟩ := Kd.R_slice HO_0.out
        subst eo12
        go_wp2
        go_ret
        exact ⟨Fin, by (with_reducible repeat (first | apply Kd.R_alloc | apply Kd.R_drewN | apply Kd.R_drew)); exact HO_0.out, Hb, by repeat (first | (with_reducible first | exact HK.out | apply Kept.alloc | apply Kept.drewN | apply Kept.drew) | exact HK.out)⟩

end Go.Proofs.Ytafghfkdkjiafaa.XFnExactColourCounts
