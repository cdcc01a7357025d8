-- Written by ext.py (wip/) over the kit's print: not trusted, Lean checks it.
import Derived.Test.YtafghfkdkjiafaaXFnExactColourCountsx0
import Derived.Test.YtafghfkdkjiafaaXFnExactColourCountsx1
import Derived.Test.YtafghfkdkjiafaaXFnExactColourCountsx2
import Derived.Test.YtafghfkdkjiafaaXFnExactColourCountsx3
namespace Go.Proofs.Ytafghfkdkjiafaa.XFnExactColourCounts
open Go.RowKit Go.Proofs.YtafghfkdkjiafaaW.PrintWords Go.Proofs.YtafghfkdkjiafaaW.PrintLast Go.Proofs.YtafghfkdkjiafaaW.PrintMore
attribute [local go_sem] max2_int min2_int max_two min_two max_three min_three max_four min_four   -- for this text's walks alone
set_option linter.unusedVariables false
set_option linter.unusedSimpArgs false

/-! ### laws_markInt64S: function 12 -/
def laws_markInt64S.l0 : Nat → List Int → Int → Int → Option (Int × List Int)
  | 0, _, _, _ => none
  | k + 1, x0, x1, x5 => if x5 < (x0.length : Int) then (if 0 ≤ x5 then (laws_markInt64S.l0 k (x0.set (x5 : Int).toNat x1) (wrap64 (x1 + 1)) (wrap64 (x5 + 1))) else (none)) else (some (x1, x0))
def laws_markInt64S.f (k : Nat) (l0 : List Int) (a1 : Int) : Option (Int × List Int) := laws_markInt64S.l0 k l0 a1 0
theorem laws_markInt64S.mono_l : ∀ k, (∀ y0 y1 y2, LeO (laws_markInt64S.l0 k y0 y1 y2) (laws_markInt64S.l0 (k + 1) y0 y1 y2))
  | 0 => fun _ _ _ r h => by simp [laws_markInt64S.l0] at h
  | k + 1 => by
    have ih0 := laws_markInt64S.mono_l k
    · intro y0 y1 y2
      unfold laws_markInt64S.l0
      repeat' first
      | (with_reducible exact ih0 _ _ _)
      | (with_reducible exact LeO.refl _)
      | (with_reducible exact LeO.none _)
      | (with_reducible refine LeO.ite ?_ ?_)
      | (with_reducible refine LeO.bind ?_ (fun _ => ?_))
      | exact ih0 _ _ _
      | exact LeO.none _
      | refine LeO.ite ?_ ?_
      | refine LeO.bind ?_ (fun _ => ?_)
theorem laws_markInt64S.mono : ∀ a0 a1 k, LeO (laws_markInt64S.f k a0 a1) (laws_markInt64S.f (k + 1) a0 a1) := by
  intro a0 a1 k
  have ih0 := laws_markInt64S.mono_l k
  unfold laws_markInt64S.f
  repeat' first
      | (with_reducible exact ih0 _ _ _)
      | (with_reducible exact LeO.refl _)
      | (with_reducible exact LeO.none _)
      | (with_reducible refine LeO.ite ?_ ?_)
      | (with_reducible refine LeO.bind ?_ (fun _ => ?_))
      | exact ih0 _ _ _
      | exact LeO.none _
      | refine LeO.ite ?_ ?_
      | refine LeO.bind ?_ (fun _ => ?_)
set_option maxHeartbeats 8000000 in
set_option maxRecDepth 100000 in
theorem laws_markInt64S.calls (k : Nat) (P0_ : Nat → Prop) (u9000_ : Value) (l0 : List Int) (a1 : Int) (r1 : Int) (r2 : List Int) (w0 w : World) (hB : Below w0.heap.size w0 w) (ho0 : Kd.R (Kd.int .i64) 2 w w0.heap.size P0_ u9000_ l0) (h : laws_markInt64S.f k l0 a1 = some (r1, r2)) :
    Calls Try.prog 12 #[u9000_, .int .i64 a1] w fun e w' => e = .returned (.int .i64 r1) ∧ Kd.R (Kd.int .i64) 2 w' w0.heap.size (fun k_ => (P0_ k_ ∨ w.heap.size ≤ k_)) u9000_ r2 ∧ Below w0.heap.size w0 w' ∧ Kept w w' (fun k_ => P0_ k_) := by
  have HO0 := Aside0.mk (show Kd.R (Kd.int .i64) 2 w w0.heap.size (fun k_ => (P0_ k_ ∨ w.heap.size ≤ k_)) u9000_ l0 from Kd.R_mono ho0 (fun k_ hk => (.inl hk)))
  have HK := Aside0.mk (Kept.refl w (fun k_ => P0_ k_))
  have HW0 := Aside0.mk hB.size
  have HB := Aside0.mk hB
  clear hB
  have H : (laws_markInt64S.l0 k l0 a1 0) = some (r1, r2) := h
  clear h
  have H' := Aside0.mk H
  clear H
  go_enter Try.func12, Try.ntmps12
  go_wp2
  go_loopg [1, 5] k (fun kq v1 v5 w' => ∃ (x0_1 : List Int) (x1_1 : Int) (x5_1 : Int), v1 = .int .i64 x1_1 ∧ v5 = .int .i64 x5_1 ∧ Aside0 (laws_markInt64S.l0 kq x0_1 x1_1 x5_1 = some (r1, r2)) ∧ Aside0 (kq ≤ k) ∧ Aside0 (Kd.R (Kd.int .i64) 2 w' w0.heap.size (fun k_ => (P0_ k_ ∨ w.heap.size ≤ k_)) u9000_ x0_1) ∧ Aside0 (Kept w w' (fun k_ => P0_ k_)) ∧ Aside0 (Below w0.heap.size w0 w'))
  case atStart => exact ⟨(l0), (a1), (0), Fs, Fs, H', ⟨Nat.le_refl _⟩, ⟨by (with_reducible repeat (first | apply Kd.R_alloc | apply Kd.R_drewN | apply Kd.R_drew)); exact HO0.out⟩, ⟨by repeat (first | (with_reducible first | exact HK.out | apply Kept.alloc | apply Kept.drewN | apply Kept.drew) | exact HK.out)⟩, ⟨Hb⟩⟩
  case round =>
    clear H'
    try clear c1
    try clear p2
    obtain ⟨x0_1, x1_1, x5_1, rfl, rfl, HA, HK1, HO_0, HK, HB⟩ := hrel
    cases gk with
    | zero => exact absurd HA.out (by simp [laws_markInt64S.l0])
    | succ k1 =>
      have H := HA.out
      clear HA
      simp only [laws_markInt64S.l0] at H
      by_cases c3 : x5_1 < (x0_1.length : Int)
      · rw [if_pos c3] at H
        have c3b0 : decide (x5_1 < (x0_1.length : Int)) = true := decide_eq_true c3
        clear c3
        by_cases c4 : 0 ≤ x5_1
        · rw [if_pos c4] at H
          have c4b0 : decide (0 ≤ x5_1) = true := decide_eq_true c4
          clear c4
          obtain ⟨y173, hy173⟩ : ∃ y_ : List Int, y_ = (x0_1.set (x5_1 : Int).toNat x1_1) := ⟨_, rfl⟩
          replace H : (laws_markInt64S.l0 k1 y173 (wrap64 (x1_1 + 1)) (wrap64 (x5_1 + 1))) = some (r1, r2) := by first | (rw [hy173]; with_reducible exact H) | (have H2_ := (Option.bind_some _ _).symm.trans H; rw [hy173]; with_reducible exact H2_) | (have H2_ := (Option.bind_some _ _).symm.trans H; with_reducible exact H2_) | with_reducible exact H | (rw [hy173]; exact H) | exact H
          have Ny173 := Aside0.mk hy173
          clear hy173
          have H' := Aside0.mk H
          clear H
          obtain ⟨Ao6, co6, eo6⟩ := Kd.R_slice HO_0.out
          subst eo6
          have p5 : 0 ≤ (x5_1 : Int) := oD
          have q5 : (x5_1 : Int) < ((x0_1.length : Int) : Int) := oD
          obtain ⟨go5, co5, eo5, gb5, gl5, cl5, HG5⟩ := Kd.R_form HO_0.out (by omega)
          (first | cases eo5 | (injection eo5 with ea_ en_ ec_; (first | subst ea_ | (injection ea_ with ea_; subst ea_)); subst ec_; clear en_))
          have GB5 := Aside0.mk gb5
          have GG5 := Aside0.mk HG5
          clear gb5 gl5 HG5
          have HMgo5 := Aside0.mk (show (P0_ go5 ∨ w.heap.size ≤ go5) from (HO_0.out.1 _ rfl))
          obtain ⟨hx5_0, hf5_0⟩ := Kd.R_celln 0 HO_0.out (x5_1 : Int) p5 q5
          replace p5 := eq_true p5
          replace q5 := eq_true q5
          have HP7 := Kd.R_putg HO_0.out (x5_1 : Int) x1_1
          go_wp2_with (first | ((with_reducible refine gate_store (t := 2) (p := 15) rfl ?_); refine store_event (t := 2) (p := 15) (v := ?vo_w8) (w1 := (wr.setCell ⟨go5, (x5_1 : Int).toNat, none⟩ (.int .i64 x1_1))) ?hg ?ho ?hn ?hr ?_; (case ho => rfl); (case hg => rfl); (case hn => rfl); (case hr => first | (go_simp; done) | (go_simp; rfl)); intro w8 hw; have hg : wr.grownBy w8 (some go5) := (by rw [hw]; exact HP7.2); have hp_ : Kd.R (Kd.int .i64) 2 w8 w0.heap.size (fun k_ => (P0_ k_ ∨ w.heap.size ≤ k_)) (.slice (some ⟨go5, 0, none⟩) x0_1.length co6) y173 := (by rw [hw, Ny173.out]; exact HP7.1); clear HP7; replace HB := Aside0.mk ((by rw [hw]; exact below_set (HB.out) GB5.out : Below w0.heap.size w0 w8)); replace HK := Aside0.mk (Kept.of_grown (S := (fun k_ => P0_ k_)) hg (by repeat (first | (with_reducible first | exact HK.out | apply Kept.alloc | apply Kept.drewN | apply Kept.drew) | exact HK.out)) (fun k_ e_ => (HO_0.out.1 k_ e_))); replace HO_0 := Aside0.mk (hp_); clear hg hw hp_))
          go_roundg k1
          case measure => have := HK1.out; omega
          case rel => exact ⟨(y173), (wrap64 (x1_1 + 1)), (wrap64 (x5_1 + 1)), Fs, Fs, H', ⟨by have := HK1.out; omega⟩, ⟨by (with_reducible repeat (first | apply Kd.R_alloc | apply Kd.R_drewN | apply Kd.R_drew)); exact HO_0.out⟩, ⟨by repeat (first | (with_reducible first | exact HK.out | apply Kept.alloc | apply Kept.drewN | apply Kept.drew) | exact HK.out)⟩, ⟨Hb⟩⟩
        · rw [if_neg c4] at H
          exact absurd H (by simp)
      · rw [if_neg c3] at H
        have c3b0 : decide (x5_1 < (x0_1.length : Int)) = false := decide_eq_false c3
        clear c3
        simp only [Option.some.injEq, Prod.mk.injEq] at H
        obtain ⟨rfl, rfl⟩ := H
        obtain ⟨Ao9, co9, eo9⟩ := Kd.R_slice HO_0.out
        subst eo9
        go_wp2
        go_ret
        exact ⟨Fin, by (with_reducible repeat (first | apply Kd.R_alloc | apply Kd.R_drewN | apply Kd.R_drew)); exact HO_0.out, Hb, by repeat (first | (with_reducible first | exact HK.out | apply Kept.alloc | apply Kept.drewN | apply Kept.drew) | exact HK.out)⟩

/-! ### laws_heldInt64S: function 13 -/
def laws_heldInt64S.l0 : Nat → List Int → Int → Int → Option (Int)
  | 0, _, _, _ => none
  | k + 1, x0, x1, x5 => if x5 < (x0.length : Int) then (if 0 ≤ x5 then (if (rd x0 x5) = x1 then (laws_heldInt64S.l0 k x0 (wrap64 (x1 + 1)) (wrap64 (x5 + 1))) else (some (-1))) else (none)) else (some x1)
def laws_heldInt64S.f (k : Nat) (l0 : List Int) (a1 : Int) : Option (Int) := laws_heldInt64S.l0 k l0 a1 0
theorem laws_heldInt64S.mono_l : ∀ k, (∀ y0 y1 y2, LeO (laws_heldInt64S.l0 k y0 y1 y2) (laws_heldInt64S.l0 (k + 1) y0 y1 y2))
  | 0 => fun _ _ _ r h => by simp [laws_heldInt64S.l0] at h
  | k + 1 => by
    have ih0 := laws_heldInt64S.mono_l k
    · intro y0 y1 y2
      unfold laws_heldInt64S.l0
      repeat' first
      | (with_reducible exact ih0 _ _ _)
      | (with_reducible exact LeO.refl _)
      | (with_reducible exact LeO.none _)
      | (with_reducible refine LeO.ite ?_ ?_)
      | (with_reducible refine LeO.bind ?_ (fun _ => ?_))
      | exact ih0 _ _ _
      | exact LeO.none _
      | refine LeO.ite ?_ ?_
      | refine LeO.bind ?_ (fun _ => ?_)
theorem laws_heldInt64S.mono : ∀ a0 a1 k, LeO (laws_heldInt64S.f k a0 a1) (laws_heldInt64S.f (k + 1) a0 a1) := by
  intro a0 a1 k
  have ih0 := laws_heldInt64S.mono_l k
  unfold laws_heldInt64S.f
  repeat' first
      | (with_reducible exact ih0 _ _ _)
      | (with_reducible exact LeO.refl _)
      | (with_reducible exact LeO.none _)
      | (with_reducible refine LeO.ite ?_ ?_)
      | (with_reducible refine LeO.bind ?_ (fun _ => ?_))
      | exact ih0 _ _ _
      | exact LeO.none _
      | refine LeO.ite ?_ ?_
      | refine LeO.bind ?_ (fun _ => ?_)
set_option maxHeartbeats 8000000 in
set_option maxRecDepth 100000 in
theorem laws_heldInt64S.calls (k : Nat) (A0 : Option Addr) (c0 : Nat) (l0 : List Int) (a1 : Int) (r : Int) (w : World) (hr0 : Kd.C (Kd.int .i64) w A0 l0.length l0) (hc0 : l0.length ≤ c0) (h : laws_heldInt64S.f k l0 a1 = some r) :
    Calls Try.prog 13 #[.slice A0 l0.length c0, .int .i64 a1] w fun e w' => e = .returned (.int .i64 r) ∧ Drawn0 w w' := by
  have HR0 := Aside0.mk hr0
  have HC0 := Aside0.mk hc0
  clear hr0 hc0
  have H : (laws_heldInt64S.l0 k l0 a1 0) = some r := h
  clear h
  have H' := Aside0.mk H
  clear H
  go_enter Try.func13, Try.ntmps13
  go_wp2
  go_loopg [1, 5] k (fun kq v1 v5 w' => ∃ (x1_1 : Int) (x5_1 : Int), v1 = .int .i64 x1_1 ∧ v5 = .int .i64 x5_1 ∧ Aside0 (laws_heldInt64S.l0 kq l0 x1_1 x5_1 = some r) ∧ Aside0 (kq ≤ k) ∧ Drawn0 w w')
  case atStart => exact ⟨(a1), (0), Fs, Fs, H', ⟨Nat.le_refl _⟩, by repeat (first | exact Drawn0.refl _ | apply Drawn0.step)⟩
  case round =>
    clear H'
    try clear c1
    try clear p2
    obtain ⟨x1_1, x5_1, rfl, rfl, HA, HK1, ⟨m1, rfl⟩⟩ := hrel
    cases gk with
    | zero => exact absurd HA.out (by simp [laws_heldInt64S.l0])
    | succ k1 =>
      have H := HA.out
      clear HA
      simp only [laws_heldInt64S.l0] at H
      by_cases c3 : x5_1 < (l0.length : Int)
      · rw [if_pos c3] at H
        have c3b0 : decide (x5_1 < (l0.length : Int)) = true := decide_eq_true c3
        clear c3
        by_cases c4 : 0 ≤ x5_1
        · rw [if_pos c4] at H
          have c4b0 : decide (0 ≤ x5_1) = true := decide_eq_true c4
          clear c4
          by_cases c5 : (rd l0 x5_1) = x1_1
          · rw [if_pos c5] at H
            have c5b0 : ((rd l0 x5_1) == x1_1) = true := beq_iff_eq.mpr c5
            have c5b1 : ((rd l0 x5_1) != x1_1) = false := bne_eq_false_iff_eq.mpr c5
            clear c5
            have H' := Aside0.mk H
            clear H
            have p174 : 0 ≤ (x5_1 : Int) := oD
            have q174 : x5_1 < (l0.length : Int) := oD
            obtain ⟨ad174, e174, hx174_0⟩ := Kd.at_int HR0.out x5_1 p174 q174
            cases e174
            replace p174 := eq_true p174
            replace q174 := eq_true q174
            go_wp2
            go_roundg k1
            case measure => have := HK1.out; omega
            case rel => exact ⟨(wrap64 (x1_1 + 1)), (wrap64 (x5_1 + 1)), Fs, Fs, H', ⟨by have := HK1.out; omega⟩, by repeat (first | exact Drawn0.refl _ | apply Drawn0.step)⟩
          · rw [if_neg c5] at H
            have c5b0 : ((rd l0 x5_1) == x1_1) = false := beq_eq_false_iff_ne.mpr c5
            have c5b1 : ((rd l0 x5_1) != x1_1) = true := bne_iff_ne.mpr c5
            obtain rfl := Option.some.inj H
            have p174 : 0 ≤ (x5_1 : Int) := oD
            have q174 : x5_1 < (l0.length : Int) := oD
            obtain ⟨ad174, e174, hx174_0⟩ := Kd.at_int HR0.out x5_1 p174 q174
            cases e174
            replace p174 := eq_true p174
            replace q174 := eq_true q174
            go_wp2
            go_ret
            exact ⟨Fs, by repeat (first | exact Drawn0.refl _ | apply Drawn0.step)⟩
        · rw [if_neg c4] at H
          exact absurd H (by simp)
      · rw [if_neg c3] at H
        have c3b0 : decide (x5_1 < (l0.length : Int)) = false := decide_eq_false c3
        clear c3
        obtain rfl := Option.some.inj H
        go_wp2
        go_ret
        exact ⟨Fs, by repeat (first | exact Drawn0.refl _ | apply Drawn0.step)⟩

/-! ### laws_FnExactColourCounts: function 3 -/
def laws_FnExactColourCounts.f (k : Nat) (l0 : List (S44)) (a1_0 : Int) (a1_1 : Int) (a1_2 : Int) : Option (Bool) := (laws_szCellS.f l0 1048576).bind fun t176 => (if t176 < 0 then (some true) else ((laws_toCellS.f k l0).bind fun t177 => ((laws_toColouring.f a1_0 a1_1 a1_2).bind fun bt180 => ((spec_ColourCounts.f k t177 bt180.1 bt180.2.1 bt180.2.2).bind fun bt183 => ((laws_toCellS.f k l0).bind fun t187 => ((laws_toColouring.f a1_0 a1_1 a1_2).bind fun bt190 => ((impl_ColourCounts.f k t187 bt190.1 bt190.2.1 bt190.2.2).bind fun bt193 => ((laws_eqInt64S.f k bt193.1 bt183.1).bind fun t197 => (if t197 = true then (if bt193.2 = bt183.2 then ((laws_toCellS.f k l0).bind fun t198 => ((laws_eqCellS.f k t187 t198).bind fun t201 => (if t201 = true then ((laws_markCellS.f k t187 1).bind fun bt202 => (if bt202.1 < 0 then (some false) else ((laws_eqInt64S.f k bt193.1 bt183.1).bind fun t204 => (if t204 = true then ((laws_markInt64S.f k bt193.1 1).bind fun bt205 => ((laws_heldInt64S.f k bt205.2 1).bind fun t207 => (if t207 < 0 then (some false) else (if t207 = bt205.1 then ((laws_toCellS.f k l0).bind fun t208 => ((laws_toColouring.f a1_0 a1_1 a1_2).bind fun bt211 => ((impl_ColourCounts.f k t208 bt211.1 bt211.2.1 bt211.2.2).bind fun bt214 => ((laws_eqInt64S.f k bt214.1 bt183.1).bind fun t218 => (if t218 = true then (if bt214.2 = bt183.2 then ((laws_heldInt64S.f k bt205.2 1).bind fun t219 => (if t219 < 0 then (some false) else (if t219 = bt205.1 then (some true) else (some false)))) else (some false)) else (some false)))))) else (some false))))) else (some false))))) else (some false)))) else (some false)) else (some false))))))))))
theorem laws_FnExactColourCounts.mono : ∀ a0 a1 a2 a3 k, LeO (laws_FnExactColourCounts.f k a0 a1 a2 a3) (laws_FnExactColourCounts.f (k + 1) a0 a1 a2 a3) := by
  intro a0 a1 a2 a3 k
  unfold laws_FnExactColourCounts.f
  repeat' first
      | (with_reducible exact impl_ColourCounts.mono _ _ _ _ _)
      | (with_reducible exact laws_eqCellS.mono _ _ _)
      | (with_reducible exact laws_eqInt64S.mono _ _ _)
      | (with_reducible exact laws_heldInt64S.mono _ _ _)
      | (with_reducible exact laws_markCellS.mono _ _ _)
      | (with_reducible exact laws_markInt64S.mono _ _ _)
      | (with_reducible exact laws_toCellS.mono _ _)
      | (with_reducible exact spec_ColourCounts.mono _ _ _ _ _)
      | (with_reducible exact LeO.refl _)
      | (with_reducible exact LeO.none _)
      | (with_reducible refine LeO.ite ?_ ?_)
      | (with_reducible refine LeO.bind ?_ (fun _ => ?_))
      | exact impl_ColourCounts.mono _ _ _ _ _
      | exact laws_eqCellS.mono _ _ _
      | exact laws_eqInt64S.mono _ _ _
      | exact laws_heldInt64S.mono _ _ _
      | exact laws_markCellS.mono _ _ _
      | exact laws_markInt64S.mono _ _ _
      | exact laws_toCellS.mono _ _
      | exact spec_ColourCounts.mono _ _ _ _ _
      | exact LeO.none _
      | refine LeO.ite ?_ ?_
      | refine LeO.bind ?_ (fun _ => ?_)
def laws_FnExactColourCounts.T5 : Bool × List (List Nat × List Nat) := (true, [([], []), ([0], [0]), ([], []), ([2, 1], [2]), ([1, 3, 3], [1, 3]), ([4], [4]), ([5], [5]), ([5], [5]), ([6, 4, 0, 1, 2, 3, 4, 5, 6], [6]), ([7, 8, 0, 1, 2, 3, 4, 5, 6, 7, 8], [7])])
def laws_FnExactColourCounts.B5 : List Nat := [0, 1, 0, 7, 15, 31, 63, 63, 127, 511]
theorem laws_FnExactColourCounts.tab5 : rtab .any (opsOf Try.f3 5) = laws_FnExactColourCounts.T5 := by kernel_rfl
theorem laws_FnExactColourCounts.bits5 : waitsOk laws_FnExactColourCounts.T5.2 laws_FnExactColourCounts.B5 = true := by kernel_rfl
def laws_FnExactColourCounts.T24 : Bool × List (List Nat × List Nat) := (true, [([], []), ([0], [0]), ([], []), ([2, 1], [2]), ([1, 3, 3], [1, 3]), ([4], [4]), ([5], [5]), ([5], [5]), ([6, 4, 0, 1, 2, 3, 4, 5, 6], [6]), ([7, 8, 0, 1, 2, 3, 4, 5, 6, 7, 8], [7])])
def laws_FnExactColourCounts.B24 : List Nat := [0, 1, 0, 7, 15, 31, 63, 63, 127, 511]
theorem laws_FnExactColourCounts.tab24 : rtab .any (opsOf Try.f3 24) = laws_FnExactColourCounts.T24 := by kernel_rfl
theorem laws_FnExactColourCounts.bits24 : waitsOk laws_FnExactColourCounts.T24.2 laws_FnExactColourCounts.B24 = true := by kernel_rfl
set_option maxHeartbeats 8000000 in
set_option maxRecDepth 100000 in
theorem laws_FnExactColourCounts.calls (k : Nat) (A0 : Option Addr) (c0 : Nat) (l0 : List (S44)) (a1_0 : Int) (a1_1 : Int) (a1_2 : Int) (r : Bool) (w : World) (hrt : r = true) (hr0 : Kd.C k44 w A0 l0.length l0) (hc0 : l0.length ≤ c0) (h : laws_FnExactColourCounts.f k l0 a1_0 a1_1 a1_2 = some r) :
    Calls Try.prog 3 #[.slice A0 l0.length c0, .agg #[.int .i64 a1_0, .int .i64 a1_1, .int .i64 a1_2]] w fun e w' => e = .returned (.bool r) ∧ Below w.heap.size w w' := by
  have hu24 := Try.underlying24
  have HR0 := Aside0.mk hr0
  have HC0 := Aside0.mk hc0
  clear hr0 hc0
  have HG := Aside0.mk (Sat.start w)
  have H : ((laws_szCellS.f l0 1048576).bind fun t176 => (if t176 < 0 then (some true) else ((laws_toCellS.f k l0).bind fun t177 => ((laws_toColouring.f a1_0 a1_1 a1_2).bind fun bt180 => ((spec_ColourCounts.f k t177 bt180.1 bt180.2.1 bt180.2.2).bind fun bt183 => ((laws_toCellS.f k l0).bind fun t187 => ((laws_toColouring.f a1_0 a1_1 a1_2).bind fun bt190 => ((impl_ColourCounts.f k t187 bt190.1 bt190.2.1 bt190.2.2).bind fun bt193 => ((laws_eqInt64S.f k bt193.1 bt183.1).bind fun t197 => (if t197 = true then (if bt193.2 = bt183.2 then ((laws_toCellS.f k l0).bind fun t198 => ((laws_eqCellS.f k t187 t198).bind fun t201 => (if t201 = true then ((laws_markCellS.f k t187 1).bind fun bt202 => (if bt202.1 < 0 then (some false) else ((laws_eqInt64S.f k bt193.1 bt183.1).bind fun t204 => (if t204 = true then ((laws_markInt64S.f k bt193.1 1).bind fun bt205 => ((laws_heldInt64S.f k bt205.2 1).bind fun t207 => (if t207 < 0 then (some false) else (if t207 = bt205.1 then ((laws_toCellS.f k l0).bind fun t208 => ((laws_toColouring.f a1_0 a1_1 a1_2).bind fun bt211 => ((impl_ColourCounts.f k t208 bt211.1 bt211.2.1 bt211.2.2).bind fun bt214 => ((laws_eqInt64S.f k bt214.1 bt183.1).bind fun t218 => (if t218 = true then (if bt214.2 = bt183.2 then ((laws_heldInt64S.f k bt205.2 1).bind fun t219 => (if t219 < 0 then (some false) else (if t219 = bt205.1 then (some true) else (some false)))) else (some false)) else (some false)))))) else (some false))))) else (some false))))) else (some false)))) else (some false)) else (some false))))))))))) = some r := h
  clear h
  obtain ⟨t176, A30, H⟩ := Option.bind_eq_some_iff.mp H
  have A3 := Aside0.mk A30
  clear A30
  by_cases c4 : t176 < 0
  · rw [if_pos c4] at H
    have c4b0 : decide (t176 < 0) = true := decide_eq_true c4
    clear c4
    obtain rfl := Option.some.inj H
    go_enter Try.func3, Try.ntmps3
    go_wp2_with (first | ((with_reducible refine gD 3 ?_); refine BX #[.int .i64 a1_0, .int .i64 a1_1, .int .i64 a1_2] 24 ?_; intro gb175 hg w5 hbox hb; replace HG := Sat.box HG hg hbox hb; clear hb hbox hg) | ((with_reducible refine gC 4 ?_); refine GL (some 18) Try.func4 #[.slice A0 l0.length c0, .int .i64 1048576] ?_; (with_reducible refine (laws_szCellS.calls _ _ l0 1048576 t176 _ ?side1 ?side2 A3.out).mono ?_); (case side1 => exact Ck (Kd.C_below HR0.out HG.out.1)); (case side2 => exact HC0.out); rintro e w' ⟨rfl, ⟨nd, rfl⟩⟩; refine ⟨_, rfl, ?_⟩))
    go_ret
    exact ⟨Fin, Bw HG⟩
  · rw [if_neg c4] at H
    have c4b0 : decide (t176 < 0) = false := decide_eq_false c4
    clear c4
    obtain ⟨t177, A60, H⟩ := Option.bind_eq_some_iff.mp H
    have A6 := Aside0.mk A60
    clear A60
    obtain ⟨⟨t180, t181, t182⟩, A70, H⟩ := Option.bind_eq_some_iff.mp H
    dsimp only at H
    have A7 := Aside0.mk A70
    clear A70
    obtain ⟨⟨t183, t186⟩, A80, H⟩ := Option.bind_eq_some_iff.mp H
    dsimp only at H
    have A8 := Aside0.mk A80
    clear A80
    obtain ⟨t187, A90, H⟩ := Option.bind_eq_some_iff.mp H
    have A9 := Aside0.mk A90
    clear A90
    obtain ⟨⟨t190, t191, t192⟩, A100, H⟩ := Option.bind_eq_some_iff.mp H
    dsimp only at H
    have A10 := Aside0.mk A100
    clear A100
    obtain ⟨⟨t193, t196⟩, A110, H⟩ := Option.bind_eq_some_iff.mp H
    dsimp only at H
    have A11 := Aside0.mk A110
    clear A110
    obtain ⟨t197, A120, H⟩ := Option.bind_eq_some_iff.mp H
    have A12 := Aside0.mk A120
    clear A120
    by_cases c13 : t197 = true
    · subst c13
      rw [if_pos rfl] at H
      by_cases c14 : t196 = t186
      · rw [if_pos c14] at H
        have c14b0 : (t196 == t186) = true := beq_iff_eq.mpr c14
        have c14b1 : (t196 != t186) = false := bne_eq_false_iff_eq.mpr c14
        clear c14
        obtain ⟨t198, A150, H⟩ := Option.bind_eq_some_iff.mp H
        have A15 := Aside0.mk A150
        clear A150
        obtain ⟨t201, A160, H⟩ := Option.bind_eq_some_iff.mp H
        have A16 := Aside0.mk A160
        clear A160
        by_cases c17 : t201 = true
        · subst c17
          rw [if_pos rfl] at H
          obtain ⟨⟨t202, t203⟩, A180, H⟩ := Option.bind_eq_some_iff.mp H
          dsimp only at H
          have A18 := Aside0.mk A180
          clear A180
          by_cases c19 : t202 < 0
          · rw [if_pos c19] at H
            have c19b0 : decide (t202 < 0) = true := decide_eq_true c19
            clear c19
            exact absurd (H.trans (congrArg some hrt)) (by simp)
          · rw [if_neg c19] at H
            have c19b0 : decide (t202 < 0) = false := decide_eq_false c19
            clear c19
            obtain ⟨t204, A200, H⟩ := Option.bind_eq_some_iff.mp H
            have A20 := Aside0.mk A200
            clear A200
            by_cases c21 : t204 = true
            · subst c21
              rw [if_pos rfl] at H
              obtain ⟨⟨t205, t206⟩, A220, H⟩ := Option.bind_eq_some_iff.mp H
              dsimp only at H
              have A22 := Aside0.mk A220
              clear A220
              obtain ⟨t207, A230, H⟩ := Option.bind_eq_some_iff.mp H
              have A23 := Aside0.mk A230
              clear A230
              by_cases c24 : t207 < 0
              · rw [if_pos c24] at H
                have c24b0 : decide (t207 < 0) = true := decide_eq_true c24
                clear c24
                exact absurd (H.trans (congrArg some hrt)) (by simp)
              · rw [if_neg c24] at H
                have c24b0 : decide (t207 < 0) = false := decide_eq_false c24
                clear c24
                by_cases c25 : t207 = t205
                · rw [if_pos c25] at H
                  have c25b0 : (t207 == t205) = true := beq_iff_eq.mpr c25
                  have c25b1 : (t207 != t205) = false := bne_eq_false_iff_eq.mpr c25
                  clear c25
                  obtain ⟨t208, A260, H⟩ := Option.bind_eq_some_iff.mp H
                  have A26 := Aside0.mk A260
                  clear A260
                  obtain ⟨⟨t211, t212, t213⟩, A270, H⟩ := Option.bind_eq_some_iff.mp H
                  dsimp only at H
                  have A27 := Aside0.mk A270
                  clear A270
                  obtain ⟨⟨t214, t217⟩, A280, H⟩ := Option.bind_eq_some_iff.mp H
                  dsimp only at H
                  have A28 := Aside0.mk A280
                  clear A280
                  obtain ⟨t218, A290, H⟩ := Option.bind_eq_some_iff.mp H
                  have A29 := Aside0.mk A290
                  clear A290
                  by_cases c30 : t218 = true
                  · subst c30
                    rw [if_pos rfl] at H
                    by_cases c31 : t217 = t186
                    · rw [if_pos c31] at H
                      have c31b0 : (t217 == t186) = true := beq_iff_eq.mpr c31
                      have c31b1 : (t217 != t186) = false := bne_eq_false_iff_eq.mpr c31
                      clear c31
                      obtain ⟨t219, A320, H⟩ := Option.bind_eq_some_iff.mp H
                      have A32 := Aside0.mk A320
                      clear A320
                      by_cases c33 : t219 < 0
                      · rw [if_pos c33] at H
                        have c33b0 : decide (t219 < 0) = true := decide_eq_true c33
                        clear c33
                        exact absurd (H.trans (congrArg some hrt)) (by simp)
                      · rw [if_neg c33] at H
                        have c33b0 : decide (t219 < 0) = false := decide_eq_false c33
                        clear c33
                        by_cases c34 : t219 = t205
                        · rw [if_pos c34] at H
                          have c34b0 : (t219 == t205) = true := beq_iff_eq.mpr c34
                          have c34b1 : (t219 != t205) = false := bne_eq_false_iff_eq.mpr c34
                          clear c34
                          obtain rfl := Option.some.inj H
                          go_enter Try.func3, Try.ntmps3
                          try go_wp2_with (((with_reducible refine gD 3 ?_); refine BX #[.int .i64 a1_0, .int .i64 a1_1, .int .i64 a1_2] 24 ?_; intro gb175 hg w35 hbox hb; replace HG := Sat.box HG hg hbox hb; clear hb hbox hg); go_wp2_with (((with_reducible refine gC 4 ?_); refine GL (some 18) Try.func4 #[.slice A0 l0.length c0, .int .i64 1048576] ?_; (with_reducible refine (laws_szCellS.calls _ _ l0 1048576 t176 _ ?side1 ?side2 A3.out).mono ?_); (case side1 => exact Ck (Kd.C_below HR0.out HG.out.1)); (case side2 => exact HC0.out); rintro e w' ⟨rfl, ⟨nd, rfl⟩⟩; refine ⟨_, rfl, ?_⟩)))
                          (try (rw [drewN_self w35]; generalize hq_ : World.drewN w35 _ = w35; replace HG := Sat.drn hq_ HG; clear hq_))
                          replace HG := Sat.drew HG
                          refine start_ (n := 10) (S := fun w' => w'.cell? ⟨gb175, 0, none⟩ = some (.int .i64 a1_0) ∧ w'.cell? ⟨gb175, 1, none⟩ = some (.int .i64 a1_1) ∧ w'.cell? ⟨gb175, 2, none⟩ = some (.int .i64 a1_2)) (ds := []) #[false, false, false, false, false, false, false, false, false, false] (by kernel_rfl) rfl rfl ⟨(blk_cell (Sat.B HG 0 rfl) 0).trans rfl, (blk_cell (Sat.B HG 0 rfl) 1).trans rfl, (blk_cell (Sat.B HG 0 rfl) 2).trans rfl⟩ (fun hHeld => ?_); refine with_tabW laws_FnExactColourCounts.tab5 laws_FnExactColourCounts.bits5 (fun HT_ HW_ => ?_)
                          generalize w35.drew = w36 at HG hHeld ⊢
                          refine PU 0 22 ?_
                          refine TK 2 24 hHeld ?_
                          refine ON 1 23 (fun K hK => ?_)
                          refine GO Try.func6 #[.slice A0 l0.length c0] ?_
                          with_reducible refine (laws_toCellS.calls k _ _ l0 t177 _ ?side1 ?side2 A6.out).mono ?_
                          (case side1 => exact Ck (Kd.C_below HR0.out HG.out.1))
                          (case side2 => exact HC0.out)
                          rintro e w37 ⟨v178, rfl, ho0, hb⟩
                          refine ⟨_, rfl, ?_⟩
                          replace HG := Sat.mkR HG hb ho0
                          (try clear hb)
                          (try clear hb2)
                          (try clear hk)
                          (try clear hi)
                          (try clear ho0)
                          refine hK.out _ _ ⟨(blk_cell (Sat.B HG 1 rfl) 0).trans rfl, (blk_cell (Sat.B HG 1 rfl) 1).trans rfl, (blk_cell (Sat.B HG 1 rfl) 2).trans rfl⟩ (fun hHeld => ?_)
                          clear hK K
                          refine NM ?_
                          refine ON 3 25 (fun K hK => ?_)
                          refine GO Try.func7 #[.agg #[.int .i64 a1_0, .int .i64 a1_1, .int .i64 a1_2]] ?_
                          with_reducible refine (laws_toColouring.calls a1_0 a1_1 a1_2 t180 t181 t182 _ A7.out).mono ?_
                          rintro e w38 ⟨rfl, hb⟩
                          refine ⟨_, rfl, ?_⟩
                          replace HG := Sat.rd HG hb
                          (try clear hb)
                          (try clear hb2)
                          (try clear hk)
                          (try clear hi)
                          obtain ⟨Ao39, co39, eo39⟩ := Kd.R_slice (Sat.R HG 0 rfl)
                          (first | subst eo39 | (injection eo39 with f1_ f2_ f3_; have f4_ := f1_.symm; have f5_ := f3_.symm; clear f1_ f2_ f3_; subst f4_; subst f5_))
                          refine hK.out _ _ ⟨(blk_cell (Sat.B HG 1 rfl) 0).trans rfl, (blk_cell (Sat.B HG 1 rfl) 1).trans rfl, (blk_cell (Sat.B HG 1 rfl) 2).trans rfl⟩ (fun hHeld => ?_)
                          clear hK K
                          refine NM ?_
                          refine ON 4 26 (fun K hK => ?_)
                          refine GO Try.func5 #[.slice Ao39 t177.length co39, .agg #[.int .i64 t180, .int .i64 t181, .int .i64 t182]] ?_
                          with_reducible refine (spec_ColourCounts.calls k _ _ t177 t180 t181 t182 t183 t186 _ ?side1 ?side2 A8.out).mono ?_
                          (case side1 => exact Ck (Kd.R_reads' (Sat.R HG 0 rfl)).2.2)
                          (case side2 => exact (Kd.R_reads' (Sat.R HG 0 rfl)).2.1)
                          rintro e w40 ⟨v184, rfl, ho0, hb⟩
                          refine ⟨_, rfl, ?_⟩
                          replace HG := Sat.mkR HG hb ho0
                          (try clear hb)
                          (try clear hb2)
                          (try clear hk)
                          (try clear hi)
                          (try clear ho0)
                          refine hK.out _ _ ⟨(blk_cell (Sat.B HG 2 rfl) 0).trans rfl, (blk_cell (Sat.B HG 2 rfl) 1).trans rfl, (blk_cell (Sat.B HG 2 rfl) 2).trans rfl⟩ (fun hHeld => ?_)
                          clear hK K
                          refine NM ?_
                          refine PU 5 21 ?_
                          refine PU 6 27 ?_
                          refine PU 7 28 ?_
                          refine PU 8 6 ?_
                          refine PU 9 7 ?_
                          refine done_ (done_of HT_.out (by kernel_rfl)) ?_
                          try go_wp2_with (((with_reducible refine gC 6 ?_); refine GL (some 30) Try.func6 #[.slice A0 l0.length c0] ?_; (with_reducible refine (laws_toCellS.calls k _ _ l0 t187 _ ?side1 ?side2 A9.out).mono ?_); (case side1 => exact Ck (Kd.C_below HR0.out HG.out.1)); (case side2 => exact HC0.out); rintro e w41 ⟨v188, rfl, ho0, hb⟩; refine ⟨_, rfl, ?_⟩; replace HG := Sat.mkR HG hb ho0; (try clear hb); (try clear hb2); (try clear hk); (try clear hi); (try clear ho0); have hcz42_0 : w41.cell? ⟨gb175, 0, none⟩ = some (.int .i64 a1_0) := (blk_cell (Sat.B HG 3 rfl) 0).trans rfl; have hcz42_1 : w41.cell? ⟨gb175, 1, none⟩ = some (.int .i64 a1_1) := (blk_cell (Sat.B HG 3 rfl) 1).trans rfl; have hcz42_2 : w41.cell? ⟨gb175, 2, none⟩ = some (.int .i64 a1_2) := (blk_cell (Sat.B HG 3 rfl) 2).trans rfl; have hfz42_0 := blk_frozen (Sat.B HG 3 rfl) 0; have hfz42_1 := blk_frozen (Sat.B HG 3 rfl) 1; have hfz42_2 := blk_frozen (Sat.B HG 3 rfl) 2); go_wp2_with (((with_reducible refine gC 7 ?_); refine GL (some 34) Try.func7 #[.agg #[.int .i64 a1_0, .int .i64 a1_1, .int .i64 a1_2]] ?_; (with_reducible refine (laws_toColouring.calls a1_0 a1_1 a1_2 t190 t191 t192 _ A10.out).mono ?_); rintro e w43 ⟨rfl, hb⟩; refine ⟨_, rfl, ?_⟩; replace HG := Sat.rd HG hb; (try clear hb); (try clear hb2); (try clear hk); (try clear hi); obtain ⟨Ao44, co44, eo44⟩ := Kd.R_slice (Sat.R HG 0 rfl); subst eo44); go_wp2_with (((with_reducible refine gC 8 ?_); refine GL (some 35) Try.func8 #[.slice Ao44 t187.length co44, .agg #[.int .i64 t190, .int .i64 t191, .int .i64 t192]] ?_; (with_reducible refine (impl_ColourCounts.calls k _ _ t187 t190 t191 t192 t193 t196 _ ?side1 ?side2 A11.out).mono ?_); (case side1 => exact Ck (Kd.R_reads' (Sat.R HG 0 rfl)).2.2); (case side2 => exact (Kd.R_reads' (Sat.R HG 0 rfl)).2.1); rintro e w45 ⟨v194, rfl, ho0, hb⟩; refine ⟨_, rfl, ?_⟩; replace HG := Sat.mkR HG hb ho0; (try clear hb); (try clear hb2); (try clear hk); (try clear hi); (try clear ho0); obtain ⟨Ao46, co46, eo46⟩ := Kd.R_slice (Sat.R HG 0 rfl); subst eo46; obtain ⟨Ao47, co47, eo47⟩ := Kd.R_slice (Sat.R HG 2 rfl); subst eo47); go_wp2_with (((with_reducible refine gC 9 ?_); refine GL (some 40) Try.func9 #[.slice Ao46 t193.length co46, .slice Ao47 t183.length co47] ?_; (with_reducible refine (laws_eqInt64S.calls k _ _ t193 _ _ t183 true _ ?side1 ?side2 ?side3 ?side4 A12.out).mono ?_); (case side1 => exact Ck (Kd.R_reads' (Sat.R HG 0 rfl)).2.2); (case side2 => exact (Kd.R_reads' (Sat.R HG 0 rfl)).2.1); (case side3 => exact Ck (Kd.R_reads' (Sat.R HG 2 rfl)).2.2); (case side4 => exact (Kd.R_reads' (Sat.R HG 2 rfl)).2.1); rintro e w' ⟨rfl, ⟨nd, rfl⟩⟩; refine ⟨_, rfl, ?_⟩); go_wp2_with (((with_reducible refine gC 6 ?_); refine GL (some 49) Try.func6 #[.slice A0 l0.length c0] ?_; (with_reducible refine (laws_toCellS.calls k _ _ l0 t198 _ ?side1 ?side2 A15.out).mono ?_); (case side1 => exact Ck (Kd.C_below HR0.out (Bw HG))); (case side2 => exact HC0.out); rintro e w48 ⟨v199, rfl, ho0, hb⟩; refine ⟨_, rfl, ?_⟩; replace HG := Sat.mkR HG hb ho0; (try clear hb); (try clear hb2); (try clear hk); (try clear hi); (try clear ho0); obtain ⟨Ao49, co49, eo49⟩ := Kd.R_slice (Sat.R HG 0 rfl); subst eo49); go_wp2_with (((with_reducible refine gC 10 ?_); refine GL (some 50) Try.func10 #[.slice Ao44 t187.length co44, .slice Ao49 t198.length co49] ?_; (with_reducible refine (laws_eqCellS.calls k _ _ t187 _ _ t198 true _ ?side1 ?side2 ?side3 ?side4 A16.out).mono ?_); (case side1 => exact Ck (Kd.R_reads' (Sat.R HG 2 rfl)).2.2); (case side2 => exact (Kd.R_reads' (Sat.R HG 2 rfl)).2.1); (case side3 => exact Ck (Kd.R_reads' (Sat.R HG 0 rfl)).2.2); (case side4 => exact (Kd.R_reads' (Sat.R HG 0 rfl)).2.1); rintro e w50 ⟨rfl, hb⟩; refine ⟨_, rfl, ?_⟩; replace HG := Sat.rd HG hb; (try clear hb); (try clear hb2); (try clear hk); (try clear hi)); go_wp2_with (((with_reducible refine gC 11 ?_); refine GL (some 54) Try.func11 #[.slice Ao44 t187.length co44, .int .i64 1] ?_; obtain ⟨ok_, ho_, hG_⟩ := Sat.atR HG 2 rfl; (with_reducible refine (laws_markCellS.calls k ok_ (.slice Ao44 t187.length co44) t187 1 t202 t203 w _ ?side1 ?side2 A18.out).mono ?_); (case side1 => exact Bw HG); (case side2 => exact R1 ⟨ho_⟩); rintro e w51 ⟨rfl, hy0, hb, hkp⟩; refine ⟨_, rfl, ?_⟩; replace HG := Sat.nf (hG_ _ _ _ (by with_reducible repeat (first | exact Qt.rf _ | apply Qt.al | apply Qt.dn | apply Qt.d1)) hb hkp hy0); clear ho_ hG_; (try clear hb); (try clear hkp); (try clear hy0)); go_wp2_with ((go_at_call 9; (with_reducible refine (laws_eqInt64S.calls k _ _ t193 _ _ t183 true _ ?side1 ?side2 ?side3 ?side4 A20.out).mono ?_); (case side1 => exact Ck (Kd.R_reads' (Sat.R HG 1 rfl)).2.2); (case side2 => exact (Kd.R_reads' (Sat.R HG 1 rfl)).2.1); (case side3 => exact Ck (Kd.R_reads' (Sat.R HG 3 rfl)).2.2); (case side4 => exact (Kd.R_reads' (Sat.R HG 3 rfl)).2.1); rintro e w' ⟨rfl, ⟨nd, rfl⟩⟩); go_wp2_with (((with_reducible refine gC 12 ?_); refine GL (some 70) Try.func12 #[.slice Ao46 t193.length co46, .int .i64 1] ?_; obtain ⟨ok_, ho_, hG_⟩ := Sat.atR HG 1 rfl; (with_reducible refine (laws_markInt64S.calls k ok_ (.slice Ao46 t193.length co46) t193 1 t205 t206 w _ ?side1 ?side2 A22.out).mono ?_); (case side1 => exact Bw HG); (case side2 => exact R1 ⟨ho_⟩); rintro e w52 ⟨rfl, hy0, hb, hkp⟩; refine ⟨_, rfl, ?_⟩; replace HG := Sat.nf (hG_ _ _ _ (by with_reducible repeat (first | exact Qt.rf _ | apply Qt.al | apply Qt.dn | apply Qt.d1)) hb hkp hy0); clear ho_ hG_; (try clear hb); (try clear hkp); (try clear hy0)); go_wp2_with (((with_reducible refine gC 13 ?_); refine goesL_ (some 73) rfl rfl Try.func13 (by kernel_rfl) rfl #[.slice Ao46 t206.length co46, .int .i64 1] rfl (by (try simp only [List.map_toArray, List.map_cons, List.map_nil]); first | done | (rw [show t206.length = t193.length from (Kd.R_reads' (Sat.R HG 1 rfl)).1.symm] <;> rfl) | rfl | (simp only [List.length_drop, List.length_take]; rfl)) ?_; (with_reducible refine (laws_heldInt64S.calls k _ _ t206 1 t207 _ ?side1 ?side2 A23.out).mono ?_); (case side1 => exact Ck (Kd.R_reads' (Sat.R HG 1 rfl)).2.2); (case side2 => rw [show t206.length = t193.length from (Kd.R_reads' (Sat.R HG 1 rfl)).1.symm]; exact (Kd.R_reads' (Sat.R HG 1 rfl)).2.1); rintro e w' ⟨rfl, ⟨nd, rfl⟩⟩; refine ⟨_, rfl, ?_⟩)))))))))))
                          (try (rw [drewN_self w52]; generalize hq_ : World.drewN w52 _ = w52; replace HG := Sat.drn hq_ HG; clear hq_))
                          replace HG := Sat.drew HG
                          refine start_ (n := 10) (S := fun w' => w'.cell? ⟨gb175, 0, none⟩ = some (.int .i64 a1_0) ∧ w'.cell? ⟨gb175, 1, none⟩ = some (.int .i64 a1_1) ∧ w'.cell? ⟨gb175, 2, none⟩ = some (.int .i64 a1_2)) (ds := []) #[false, false, false, false, false, false, false, false, false, false] (by kernel_rfl) rfl rfl ⟨(blk_cell (Sat.B HG 5 rfl) 0).trans rfl, (blk_cell (Sat.B HG 5 rfl) 1).trans rfl, (blk_cell (Sat.B HG 5 rfl) 2).trans rfl⟩ (fun hHeld => ?_); refine with_tabW laws_FnExactColourCounts.tab24 laws_FnExactColourCounts.bits24 (fun HT_ HW_ => ?_)
                          generalize w52.drew = w53 at HG hHeld ⊢
                          refine PU 0 80 ?_
                          refine TK 2 82 hHeld ?_
                          refine ON 1 81 (fun K hK => ?_)
                          refine GO Try.func6 #[.slice A0 l0.length c0] ?_
                          with_reducible refine (laws_toCellS.calls k _ _ l0 t208 _ ?side1 ?side2 A26.out).mono ?_
                          (case side1 => exact Ck (Kd.C_below HR0.out HG.out.1))
                          (case side2 => exact HC0.out)
                          rintro e w54 ⟨v209, rfl, ho0, hb⟩
                          refine ⟨_, rfl, ?_⟩
                          replace HG := Sat.mkR HG hb ho0
                          (try clear hb)
                          (try clear hb2)
                          (try clear hk)
                          (try clear hi)
                          (try clear ho0)
                          refine hK.out _ _ ⟨(blk_cell (Sat.B HG 6 rfl) 0).trans rfl, (blk_cell (Sat.B HG 6 rfl) 1).trans rfl, (blk_cell (Sat.B HG 6 rfl) 2).trans rfl⟩ (fun hHeld => ?_)
                          clear hK K
                          refine NM ?_
                          refine ON 3 83 (fun K hK => ?_)
                          refine GO Try.func7 #[.agg #[.int .i64 a1_0, .int .i64 a1_1, .int .i64 a1_2]] ?_
                          with_reducible refine (laws_toColouring.calls a1_0 a1_1 a1_2 t211 t212 t213 _ A27.out).mono ?_
                          rintro e w55 ⟨rfl, hb⟩
                          refine ⟨_, rfl, ?_⟩
                          replace HG := Sat.rd HG hb
                          (try clear hb)
                          (try clear hb2)
                          (try clear hk)
                          (try clear hi)
                          obtain ⟨Ao56, co56, eo56⟩ := Kd.R_slice (Sat.R HG 0 rfl)
                          (first | subst eo56 | (injection eo56 with f1_ f2_ f3_; have f4_ := f1_.symm; have f5_ := f3_.symm; clear f1_ f2_ f3_; subst f4_; subst f5_))
                          refine hK.out _ _ ⟨(blk_cell (Sat.B HG 6 rfl) 0).trans rfl, (blk_cell (Sat.B HG 6 rfl) 1).trans rfl, (blk_cell (Sat.B HG 6 rfl) 2).trans rfl⟩ (fun hHeld => ?_)
                          clear hK K
                          refine NM ?_
                          refine ON 4 84 (fun K hK => ?_)
                          refine GO Try.func8 #[.slice Ao56 t208.length co56, .agg #[.int .i64 t211, .int .i64 t212, .int .i64 t213]] ?_
                          with_reducible refine (impl_ColourCounts.calls k _ _ t208 t211 t212 t213 t214 t217 _ ?side1 ?side2 A28.out).mono ?_
                          (case side1 => exact Ck (Kd.R_reads' (Sat.R HG 0 rfl)).2.2)
                          (case side2 => exact (Kd.R_reads' (Sat.R HG 0 rfl)).2.1)
                          rintro e w57 ⟨v215, rfl, ho0, hb⟩
                          refine ⟨_, rfl, ?_⟩
                          replace HG := Sat.mkR HG hb ho0
                          (try clear hb)
                          (try clear hb2)
                          (try clear hk)
                          (try clear hi)
                          (try clear ho0)
                          refine hK.out _ _ ⟨(blk_cell (Sat.B HG 7 rfl) 0).trans rfl, (blk_cell (Sat.B HG 7 rfl) 1).trans rfl, (blk_cell (Sat.B HG 7 rfl) 2).trans rfl⟩ (fun hHeld => ?_)
                          clear hK K
                          refine NM ?_
                          refine PU 5 79 ?_
                          refine PU 6 85 ?_
                          refine PU 7 86 ?_
                          refine PU 8 14 ?_
                          refine PU 9 15 ?_
                          refine done_ (done_of HT_.out (by kernel_rfl)) ?_
                          obtain ⟨Ao58, co58, eo58⟩ := Kd.R_slice (Sat.R HG 0 rfl)
                          subst eo58
                          try go_wp2_with (((with_reducible refine gC 9 ?_); refine GL (some 89) Try.func9 #[.slice Ao58 t214.length co58, .slice Ao47 t183.length co47] ?_; (with_reducible refine (laws_eqInt64S.calls k _ _ t214 _ _ t183 true _ ?side1 ?side2 ?side3 ?side4 A29.out).mono ?_); (case side1 => exact Ck (Kd.R_reads' (Sat.R HG 0 rfl)).2.2); (case side2 => exact (Kd.R_reads' (Sat.R HG 0 rfl)).2.1); (case side3 => exact Ck (Kd.R_reads' (Sat.R HG 5 rfl)).2.2); (case side4 => exact (Kd.R_reads' (Sat.R HG 5 rfl)).2.1); rintro e w' ⟨rfl, ⟨nd, rfl⟩⟩; refine ⟨_, rfl, ?_⟩); go_wp2_with (((with_reducible refine gC 13 ?_); refine goesL_ (some 98) rfl rfl Try.func13 (by kernel_rfl) rfl #[.slice Ao46 t206.length co46, .int .i64 1] rfl (by (try simp only [List.map_toArray, List.map_cons, List.map_nil]); first | done | (rw [show t206.length = t193.length from (Kd.R_reads' (Sat.R HG 3 rfl)).1.symm] <;> rfl) | rfl | (simp only [List.length_drop, List.length_take]; rfl)) ?_; (with_reducible refine (laws_heldInt64S.calls k _ _ t206 1 t219 _ ?side1 ?side2 A32.out).mono ?_); (case side1 => exact Ck (Kd.R_reads' (Sat.R HG 3 rfl)).2.2); (case side2 => rw [show t206.length = t193.length from (Kd.R_reads' (Sat.R HG 3 rfl)).1.symm]; exact (Kd.R_reads' (Sat.R HG 3 rfl)).2.1); rintro e w' ⟨rfl, ⟨nd, rfl⟩⟩; refine ⟨_, rfl, ?_⟩)))
                          go_ret
                          exact ⟨Fin, Bw HG⟩
                        · rw [if_neg c34] at H
                          have c34b0 : (t219 == t205) = false := beq_eq_false_iff_ne.mpr c34
                          have c34b1 : (t219 != t205) = true := bne_iff_ne.mpr c34
                          exact absurd (H.trans (congrArg some hrt)) (by simp)
                    · rw [if_neg c31] at H
                      have c31b0 : (t217 == t186) = false := beq_eq_false_iff_ne.mpr c31
                      have c31b1 : (t217 != t186) = true := bne_iff_ne.mpr c31
                      exact absurd (H.trans (congrArg some hrt)) (by simp)
                  · replace c30 := Bool.eq_false_iff.mpr c30
                    subst c30
                    rw [if_neg (show ¬ (false = true) by decide)] at H
                    exact absurd (H.trans (congrArg some hrt)) (by simp)
                · rw [if_neg c25] at H
                  have c25b0 : (t207 == t205) = false := beq_eq_false_iff_ne.mpr c25
                  have c25b1 : (t207 != t205) = true := bne_iff_ne.mpr c25
                  exact absurd (H.trans (congrArg some hrt)) (by simp)
            · replace c21 := Bool.eq_false_iff.mpr c21
              subst c21
              rw [if_neg (show ¬ (false = true) by decide)] at H
              exact absurd (H.trans (congrArg some hrt)) (by simp)
        · replace c17 := Bool.eq_false_iff.mpr c17
          subst c17
          rw [if_neg (show ¬ (false = true) by decide)] at H
          exact absurd (H.trans (congrArg some hrt)) (by simp)
      · rw [if_neg c14] at H
        have c14b0 : (t196 == t186) = false := beq_eq_false_iff_ne.mpr c14
        have c14b1 : (t196 != t186) = true := bne_iff_ne.mpr c14
        exact absurd (H.trans (congrArg some hrt)) (by simp)
    · replace c13 := Bool.eq_false_iff.mpr c13
      subst c13
      rw [if_neg (show ¬ (false = true) by decide)] at H
      exact absurd (H.trans (congrArg some hrt)) (by simp)

end Go.Proofs.Ytafghfkdkjiafaa.XFnExactColourCounts
