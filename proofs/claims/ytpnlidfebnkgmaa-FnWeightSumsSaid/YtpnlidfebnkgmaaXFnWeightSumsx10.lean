-- Written by ext.py (wip/) over the kit's print: not trusted, Lean checks it.
import Derived.Test.YtpnlidfebnkgmaaXFnWeightSumsx0
import Derived.Test.YtpnlidfebnkgmaaXFnWeightSumsx2
import Derived.Test.YtpnlidfebnkgmaaXFnWeightSumsx3
import Derived.Test.YtpnlidfebnkgmaaXFnWeightSumsx9
namespace Go.Proofs.Ytpnlidfebnkgmaa.XFnWeightSums
open Go.RowKit Go.Proofs.YtpnlidfebnkgmaaW.PrintWords Go.Proofs.YtpnlidfebnkgmaaW.PrintLast Go.Proofs.YtpnlidfebnkgmaaW.PrintMore
attribute [local go_sem] max2_int min2_int max_two min_two max_three min_three max_four min_four   -- for this text's walks alone
set_option linter.unusedVariables false
set_option linter.unusedSimpArgs false

/-! ### spec_IsShape: function 60 -/
def spec_IsShape.l0 : Nat → List (S68) → Int → Option (Bool)
  | 0, _, _ => none
  | k + 1, x0, x3 => if x3 < (x0.length : Int) then (if 0 ≤ x3 then ((spec_l02Cell.f ((rd_T68 x0 x3).f0) ((rd_T68 x0 x3).f1)).bind fun t486 => (if t486 = true then (if x3 > 0 then (if 0 ≤ (wrap64 (x3 - 1)) then (if (wrap64 (x3 - 1)) < (x0.length : Int) then ((spec_l02Less.f ((rd_T68 x0 (wrap64 (x3 - 1))).f0) ((rd_T68 x0 (wrap64 (x3 - 1))).f1) ((rd_T68 x0 x3).f0) ((rd_T68 x0 x3).f1)).bind fun t489 => (if t489 = true then (spec_IsShape.l0 k x0 (wrap64 (x3 + 1))) else (some false))) else (none)) else (none)) else (spec_IsShape.l0 k x0 (wrap64 (x3 + 1)))) else (some false))) else (none)) else ((spec_l01In.f (x0.length : Int) 1 40).bind fun t484 => (some t484))
def spec_IsShape.f (k : Nat) (l0 : List (S68)) : Option (Bool) := spec_IsShape.l0 k l0 0
theorem spec_IsShape.mono_l : ∀ k, (∀ y0 y1, LeO (spec_IsShape.l0 k y0 y1) (spec_IsShape.l0 (k + 1) y0 y1))
  | 0 => fun _ _ r h => by simp [spec_IsShape.l0] at h
  | k + 1 => by
    have ih0 := spec_IsShape.mono_l k
    · intro y0 y1
      unfold spec_IsShape.l0
      repeat' first
      | (with_reducible exact ih0 _ _)
      | (with_reducible exact LeO.refl _)
      | (with_reducible exact LeO.none _)
      | (with_reducible refine LeO.ite ?_ ?_)
      | (with_reducible refine LeO.bind ?_ (fun _ => ?_))
      | exact ih0 _ _
      | exact LeO.none _
      | refine LeO.ite ?_ ?_
      | refine LeO.bind ?_ (fun _ => ?_)
theorem spec_IsShape.mono : ∀ a0 k, LeO (spec_IsShape.f k a0) (spec_IsShape.f (k + 1) a0) := by
  intro a0 k
  have ih0 := spec_IsShape.mono_l k
  unfold spec_IsShape.f
  repeat' first
      | (with_reducible exact ih0 _ _)
      | (with_reducible exact LeO.refl _)
      | (with_reducible exact LeO.none _)
      | (with_reducible refine LeO.ite ?_ ?_)
      | (with_reducible refine LeO.bind ?_ (fun _ => ?_))
      | exact ih0 _ _
      | exact LeO.none _
      | refine LeO.ite ?_ ?_
      | refine LeO.bind ?_ (fun _ => ?_)
def spec_IsShape.T4 : Bool × List (List Nat × List Nat) := (true, [([], []), ([], []), ([0, 1], [0, 1]), ([2], [2]), ([3], [3]), ([4], [4]), ([5, 4], [5]), ([6], [6]), ([7, 6], [6, 7]), ([8, 6, 6], [6, 8]), ([9], [9]), ([9], [9]), ([11, 9], [9, 11]), ([10, 12, 9], [9, 10, 12]), ([13, 9], [9, 13]), ([9], [9]), ([9], [9]), ([15, 16, 9], [9, 15, 16]), ([17, 9], [9, 17]), ([14, 18, 9, 9], [9, 14, 18]), ([19, 9], [9, 19]), ([9, 20, 6], [6, 9, 20]), ([6, 21], [6, 21])])
def spec_IsShape.B4 : List Nat := [0, 0, 3, 7, 15, 31, 63, 127, 255, 511, 1023, 1023, 3071, 8191, 16383, 1023, 1023, 99327, 230399, 524287, 1048575, 2097151, 4194303]
theorem spec_IsShape.tab4 : rtab .any (opsOf Try.f60 4) = spec_IsShape.T4 := by kernel_rfl
theorem spec_IsShape.bits4 : waitsOk spec_IsShape.T4.2 spec_IsShape.B4 = true := by kernel_rfl
set_option maxHeartbeats 8000000 in
set_option maxRecDepth 100000 in
theorem spec_IsShape.calls (k : Nat) (A0 : Option Addr) (c0 : Nat) (l0 : List (S68)) (r : Bool) (w : World) (hr0 : Kd.C k68 w A0 l0.length l0) (hc0 : l0.length ≤ c0) (h : spec_IsShape.f k l0 = some r) :
    Calls Try.prog 60 #[.slice A0 l0.length c0] w fun e w' => e = .returned (.bool r) ∧ Below w.heap.size w w' := by
  have hu68 := Try.underlying68
  have HR0 := Aside0.mk hr0
  have HC0 := Aside0.mk hc0
  clear hr0 hc0
  have HB := Aside0.mk (Below.refl w.heap.size w)
  have H : (spec_IsShape.l0 k l0 0) = some r := h
  clear h
  have H' := Aside0.mk H
  clear H
  go_enter Try.func60, Try.ntmps60
  go_wp2
  go_loopg [3] k (fun kq v3 w' => ∃ (x3_1 : Int), v3 = .int .i64 x3_1 ∧ Aside0 (spec_IsShape.l0 kq l0 x3_1 = some r) ∧ Aside0 (kq ≤ k) ∧ Aside0 (Below w.heap.size w w'))
  case atStart => exact ⟨(0), Fs, H', ⟨Nat.le_refl _⟩, ⟨Hb⟩⟩
  case round =>
    clear H'
    obtain ⟨x3_1, rfl, HA, HK1, HB⟩ := hrel
    cases gk with
    | zero => exact absurd HA.out (by simp [spec_IsShape.l0])
    | succ k1 =>
      have H := HA.out
      clear HA
      simp only [spec_IsShape.l0] at H
      by_cases c2 : x3_1 < (l0.length : Int)
      · rw [if_pos c2] at H
        have c2b0 : decide (x3_1 < (l0.length : Int)) = true := decide_eq_true c2
        clear c2
        by_cases c3 : 0 ≤ x3_1
        · rw [if_pos c3] at H
          have c3b0 : decide (0 ≤ x3_1) = true := decide_eq_true c3
          clear c3
          obtain ⟨t486, A40, H⟩ := Option.bind_eq_some_iff.mp H
          have A4 := Aside0.mk A40
          clear A40
          by_cases c5 : t486 = true
          · subst c5
            rw [if_pos rfl] at H
            by_cases c6 : x3_1 > 0
            · rw [if_pos c6] at H
              have c6b0 : decide (0 < x3_1) = true := decide_eq_true c6
              clear c6
              obtain ⟨ji7, hji7⟩ : ∃ j_ : Int, (wrap64 (x3_1 - 1)) = j_ := ⟨_, rfl⟩
              replace H : (if 0 ≤ (ji7) then (if (ji7) < (l0.length : Int) then ((spec_l02Less.f ((rd_T68 l0 (ji7)).f0) ((rd_T68 l0 (ji7)).f1) ((rd_T68 l0 x3_1).f0) ((rd_T68 l0 x3_1).f1)).bind fun t489 => (if t489 = true then (spec_IsShape.l0 k1 l0 (wrap64 (x3_1 + 1))) else (some false))) else (none)) else (none)) = some r := by first | (rw [hji7] at H; exact H) | (simp only [hji7] at H ⊢; exact H)
              (try rw [hji7] at A4)
              have hji7w : (IntKind.i64.wrap (x3_1 - 1)) = ji7 := (i64_w _).trans hji7
              by_cases c8 : 0 ≤ (ji7)
              · rw [if_pos c8] at H
                have c8b0 : decide (0 ≤ (ji7)) = true := decide_eq_true c8
                clear c8
                by_cases c9 : (ji7) < (l0.length : Int)
                · rw [if_pos c9] at H
                  have c9b0 : decide ((ji7) < (l0.length : Int)) = true := decide_eq_true c9
                  clear c9
                  obtain ⟨t489, A100, H⟩ := Option.bind_eq_some_iff.mp H
                  have A10 := Aside0.mk A100
                  clear A100
                  by_cases c11 : t489 = true
                  · subst c11
                    rw [if_pos rfl] at H
                    have H' := Aside0.mk H
                    clear H
                    try go_wp2
                    replace HB := Aside0.mk (below_drew1 HB.out)
                    have p485 : 0 ≤ (x3_1 : Int) := oD
                    have q485 : x3_1 < (l0.length : Int) := oD
                    obtain ⟨ad485, e485, hx485_0, hx485_1⟩ := at_T68 HR0.out x3_1 p485 q485
                    have hw485_1 := hx485_1
                    have hw485_0 := hx485_0
                    cases e485
                    replace hx485_0 := hxb hx485_0
                    replace hx485_1 := hxb hx485_1
                    replace p485 := eq_true p485
                    replace q485 := eq_true q485
                    have p487 : 0 ≤ ((ji7) : Int) := oD
                    have q487 : (ji7) < (l0.length : Int) := oD
                    obtain ⟨ad487, e487, hx487_0, hx487_1⟩ := at_T68 HR0.out (ji7) p487 q487
                    have hw487_1 := hx487_1
                    have hw487_0 := hx487_0
                    obtain rfl : ad485 = ad487 := (by injection e487)
                    replace hx487_0 := hxb hx487_0
                    replace hx487_1 := hxb hx487_1
                    replace p487 := eq_true p487
                    replace q487 := eq_true q487
                    have p488 : 0 ≤ (x3_1 : Int) := oD
                    have q488 : x3_1 < (l0.length : Int) := oD
                    obtain ⟨ad488, e488, hx488_0, hx488_1⟩ := at_T68 HR0.out x3_1 p488 q488
                    have hw488_1 := hx488_1
                    have hw488_0 := hx488_0
                    obtain rfl : ad485 = ad488 := (by injection e488)
                    replace hx488_0 := hxb hx488_0
                    replace hx488_1 := hxb hx488_1
                    replace p488 := eq_true p488
                    replace q488 := eq_true q488
                    refine start_ (n := 23) (S := fun w' => w'.cell? (ad485.add ((x3_1).toNat * 2)) = some (.int .i64 ((rd_T68 l0 x3_1).f0)) ∧ w'.cell? ⟨(ad485.add ((x3_1).toNat * 2)).block, (ad485.add ((x3_1).toNat * 2)).off + 1, none⟩ = some (.int .i64 ((rd_T68 l0 x3_1).f1)) ∧ w'.cell? (ad485.add (((ji7)).toNat * 2)) = some (.int .i64 ((rd_T68 l0 (ji7)).f0)) ∧ w'.cell? ⟨(ad485.add (((ji7)).toNat * 2)).block, (ad485.add (((ji7)).toNat * 2)).off + 1, none⟩ = some (.int .i64 ((rd_T68 l0 (ji7)).f1)) ∧ w'.cell? (ad485.add ((x3_1).toNat * 2)) = some (.int .i64 ((rd_T68 l0 x3_1).f0)) ∧ w'.cell? ⟨(ad485.add ((x3_1).toNat * 2)).block, (ad485.add ((x3_1).toNat * 2)).off + 1, none⟩ = some (.int .i64 ((rd_T68 l0 x3_1).f1))) (ds := []) #[false, false, false, false, false, false, false, false, false, false, false, false, false, false, false, false, false, false, false, false, false, false, false] (by kernel_rfl) rfl rfl ⟨(hxb hw485_0), (hxb hw485_1), (hxb hw487_0), (hxb hw487_1), (hxb hw488_0), (hxb hw488_1)⟩ (fun hHeld => ?_); refine with_tabW spec_IsShape.tab4 spec_IsShape.bits4 (fun HT_ HW_ => ?_)
                    generalize wr.drew = w12 at HB hx485_0 hx485_1 hx487_0 hx487_1 hx488_0 hx488_1 hHeld ⊢
                    refine PU 0 10 ?_
                    refine PU 1 11 ?_
                    refine PU 2 12 ?_
                    refine TK 3 13 hHeld ?_
                    refine ON 4 14 (fun K hK => ?_)
                    refine GO Try.func77 #[.agg #[.int .i64 ((rd_T68 l0 x3_1).f0), .int .i64 ((rd_T68 l0 x3_1).f1)]] ?_
                    with_reducible refine (spec_l02Cell.calls ((rd_T68 l0 x3_1).f0) ((rd_T68 l0 x3_1).f1) true _ A4.out).mono ?_
                    rintro e w13 ⟨rfl, hb⟩
                    refine ⟨_, rfl, ?_⟩
                    replace HB := Aside0.mk (below_step Hb hb)
                    (try clear hb)
                    (try clear hb2)
                    (try clear hk)
                    (try clear hi)
                    refine hK.out _ _ ⟨(hxb hw485_0), (hxb hw485_1), (hxb hw487_0), (hxb hw487_1), (hxb hw488_0), (hxb hw488_1)⟩ (fun hHeld => ?_)
                    clear hK K
                    refine NM 14 ?_
                    refine PU 5 15 ?_
                    refine PU 6 16 ?_
                    refine PU 7 17 ?_
                    refine PU 8 18 ?_
                    refine PU 9 19 ?_
                    refine PU 10 20 ?_
                    refine PU 11 21 ?_
                    refine PU 12 22 ?_
                    refine PU 13 23 ?_
                    refine PU 15 25 ?_
                    refine PU 16 26 ?_
                    refine PU 17 27 ?_
                    refine TK 14 24 hHeld ?_
                    refine TK 18 28 hHeld ?_
                    refine ON 19 29 (fun K hK => ?_)
                    refine goes_ Try.func78 (by kernel_rfl) rfl #[.agg #[.int .i64 ((rd_T68 l0 (ji7)).f0), .int .i64 ((rd_T68 l0 (ji7)).f1)], .agg #[.int .i64 ((rd_T68 l0 x3_1).f0), .int .i64 ((rd_T68 l0 x3_1).f1)]] (by rfl) rfl rfl (by (try simp only [List.map_toArray, List.map_cons, List.map_nil]); first | done | (simp only [hji7]; rfl) | rfl | (simp only [List.length_drop, List.length_take]; rfl)) ?_
                    with_reducible refine (spec_l02Less.calls ((rd_T68 l0 (ji7)).f0) ((rd_T68 l0 (ji7)).f1) ((rd_T68 l0 x3_1).f0) ((rd_T68 l0 x3_1).f1) true _ A10.out).mono ?_
                    rintro e w14 ⟨rfl, hb⟩
                    refine ⟨_, rfl, ?_⟩
                    replace HB := Aside0.mk (below_step Hb hb)
                    (try clear hb)
                    (try clear hb2)
                    (try clear hk)
                    (try clear hi)
                    refine hK.out _ _ ⟨(hxb hw485_0), (hxb hw485_1), (hxb hw487_0), (hxb hw487_1), (hxb hw488_0), (hxb hw488_1)⟩ (fun hHeld => ?_)
                    clear hK K
                    refine NM 29 ?_
                    refine PU 20 30 ?_
                    refine PU 21 31 ?_
                    refine PU 22 32 ?_
                    refine done_ (done_of HT_.out (by kernel_rfl)) ?_
                    try go_wp2
                    go_roundg k1
                    case measure => have := HK1.out; omega
                    case rel => exact ⟨(wrap64 (x3_1 + 1)), Fs, H', ⟨by have := HK1.out; omega⟩, ⟨Hb⟩⟩
                  · replace c11 := Bool.eq_false_iff.mpr c11
                    subst c11
                    rw [if_neg (show ¬ (false = true) by decide)] at H
                    obtain rfl := Option.some.inj H
                    try go_wp2
                    replace HB := Aside0.mk (below_drew1 HB.out)
                    have p485 : 0 ≤ (x3_1 : Int) := oD
                    have q485 : x3_1 < (l0.length : Int) := oD
                    obtain ⟨ad485, e485, hx485_0, hx485_1⟩ := at_T68 HR0.out x3_1 p485 q485
                    have hw485_1 := hx485_1
                    have hw485_0 := hx485_0
                    cases e485
                    replace hx485_0 := hxb hx485_0
                    replace hx485_1 := hxb hx485_1
                    replace p485 := eq_true p485
                    replace q485 := eq_true q485
                    have p487 : 0 ≤ ((ji7) : Int) := oD
                    have q487 : (ji7) < (l0.length : Int) := oD
                    obtain ⟨ad487, e487, hx487_0, hx487_1⟩ := at_T68 HR0.out (ji7) p487 q487
                    have hw487_1 := hx487_1
                    have hw487_0 := hx487_0
                    obtain rfl : ad485 = ad487 := (by injection e487)
                    replace hx487_0 := hxb hx487_0
                    replace hx487_1 := hxb hx487_1
                    replace p487 := eq_true p487
                    replace q487 := eq_true q487
                    have p488 : 0 ≤ (x3_1 : Int) := oD
                    have q488 : x3_1 < (l0.length : Int) := oD
                    obtain ⟨ad488, e488, hx488_0, hx488_1⟩ := at_T68 HR0.out x3_1 p488 q488
                    have hw488_1 := hx488_1
                    have hw488_0 := hx488_0
                    obtain rfl : ad485 = ad488 := (by injection e488)
                    replace hx488_0 := hxb hx488_0
                    replace hx488_1 := hxb hx488_1
                    replace p488 := eq_true p488
                    replace q488 := eq_true q488
                    refine start_ (n := 23) (S := fun w' => w'.cell? (ad485.add ((x3_1).toNat * 2)) = some (.int .i64 ((rd_T68 l0 x3_1).f0)) ∧ w'.cell? ⟨(ad485.add ((x3_1).toNat * 2)).block, (ad485.add ((x3_1).toNat * 2)).off + 1, none⟩ = some (.int .i64 ((rd_T68 l0 x3_1).f1)) ∧ w'.cell? (ad485.add (((ji7)).toNat * 2)) = some (.int .i64 ((rd_T68 l0 (ji7)).f0)) ∧ w'.cell? ⟨(ad485.add (((ji7)).toNat * 2)).block, (ad485.add (((ji7)).toNat * 2)).off + 1, none⟩ = some (.int .i64 ((rd_T68 l0 (ji7)).f1)) ∧ w'.cell? (ad485.add ((x3_1).toNat * 2)) = some (.int .i64 ((rd_T68 l0 x3_1).f0)) ∧ w'.cell? ⟨(ad485.add ((x3_1).toNat * 2)).block, (ad485.add ((x3_1).toNat * 2)).off + 1, none⟩ = some (.int .i64 ((rd_T68 l0 x3_1).f1))) (ds := []) #[false, false, false, false, false, false, false, false, false, false, false, false, false, false, false, false, false, false, false, false, false, false, false] (by kernel_rfl) rfl rfl ⟨(hxb hw485_0), (hxb hw485_1), (hxb hw487_0), (hxb hw487_1), (hxb hw488_0), (hxb hw488_1)⟩ (fun hHeld => ?_); refine with_tabW spec_IsShape.tab4 spec_IsShape.bits4 (fun HT_ HW_ => ?_)
                    generalize wr.drew = w15 at HB hx485_0 hx485_1 hx487_0 hx487_1 hx488_0 hx488_1 hHeld ⊢
                    refine PU 0 10 ?_
                    refine PU 1 11 ?_
                    refine PU 2 12 ?_
                    refine TK 3 13 hHeld ?_
                    refine ON 4 14 (fun K hK => ?_)
                    refine GO Try.func77 #[.agg #[.int .i64 ((rd_T68 l0 x3_1).f0), .int .i64 ((rd_T68 l0 x3_1).f1)]] ?_
                    with_reducible refine (spec_l02Cell.calls ((rd_T68 l0 x3_1).f0) ((rd_T68 l0 x3_1).f1) true _ A4.out).mono ?_
                    rintro e w16 ⟨rfl, hb⟩
                    refine ⟨_, rfl, ?_⟩
                    replace HB := Aside0.mk (below_step Hb hb)
                    (try clear hb)
                    (try clear hb2)
                    (try clear hk)
                    (try clear hi)
                    refine hK.out _ _ ⟨(hxb hw485_0), (hxb hw485_1), (hxb hw487_0), (hxb hw487_1), (hxb hw488_0), (hxb hw488_1)⟩ (fun hHeld => ?_)
                    clear hK K
                    refine NM 14 ?_
                    refine PU 5 15 ?_
                    refine PU 6 16 ?_
                    refine PU 7 17 ?_
                    refine PU 8 18 ?_
                    refine PU 9 19 ?_
                    refine PU 10 20 ?_
                    refine PU 11 21 ?_
                    refine PU 12 22 ?_
                    refine PU 13 23 ?_
                    refine PU 15 25 ?_
                    refine PU 16 26 ?_
                    refine PU 17 27 ?_
                    refine TK 14 24 hHeld ?_
                    refine TK 18 28 hHeld ?_
                    refine ON 19 29 (fun K hK => ?_)
                    refine goes_ Try.func78 (by kernel_rfl) rfl #[.agg #[.int .i64 ((rd_T68 l0 (ji7)).f0), .int .i64 ((rd_T68 l0 (ji7)).f1)], .agg #[.int .i64 ((rd_T68 l0 x3_1).f0), .int .i64 ((rd_T68 l0 x3_1).f1)]] (by rfl) rfl rfl (by (try simp only [List.map_toArray, List.map_cons, List.map_nil]); first | done | (simp only [hji7]; rfl) | rfl | (simp only [List.length_drop, List.length_take]; rfl)) ?_
                    with_reducible refine (spec_l02Less.calls ((rd_T68 l0 (ji7)).f0) ((rd_T68 l0 (ji7)).f1) ((rd_T68 l0 x3_1).f0) ((rd_T68 l0 x3_1).f1) false _ A10.out).mono ?_
                    rintro e w17 ⟨rfl, hb⟩
                    refine ⟨_, rfl, ?_⟩
                    replace HB := Aside0.mk (below_step Hb hb)
                    (try clear hb)
                    (try clear hb2)
                    (try clear hk)
                    (try clear hi)
                    refine hK.out _ _ ⟨(hxb hw485_0), (hxb hw485_1), (hxb hw487_0), (hxb hw487_1), (hxb hw488_0), (hxb hw488_1)⟩ (fun hHeld => ?_)
                    clear hK K
                    refine NM 29 ?_
                    refine PU 20 30 ?_
                    refine PU 21 31 ?_
                    refine PU 22 32 ?_
                    refine done_ (done_of HT_.out (by kernel_rfl)) ?_
                    try go_wp2
                    go_ret
                    exact ⟨by first | rfl | (simp [errW_none, errW_some] <;> rfl) | (simp only [← hji7]; first | rfl | (simp [errW_none, errW_some] <;> rfl)) | (simp [*, errW_none, errW_some] <;> rfl), Hb⟩
                · rw [if_neg c9] at H
                  exact absurd H (by simp)
              · rw [if_neg c8] at H
                exact absurd H (by simp)
            · rw [if_neg c6] at H
              have c6b0 : decide (0 < x3_1) = false := decide_eq_false c6
              clear c6
              have H' := Aside0.mk H
              clear H
              try go_wp2
              replace HB := Aside0.mk (below_drew1 HB.out)
              have p485 : 0 ≤ (x3_1 : Int) := oD
              have q485 : x3_1 < (l0.length : Int) := oD
              obtain ⟨ad485, e485, hx485_0, hx485_1⟩ := at_T68 HR0.out x3_1 p485 q485
              have hw485_1 := hx485_1
              have hw485_0 := hx485_0
              cases e485
              replace hx485_0 := hxb hx485_0
              replace hx485_1 := hxb hx485_1
              replace p485 := eq_true p485
              replace q485 := eq_true q485
              refine start_ (n := 23) (S := fun w' => w'.cell? (ad485.add ((x3_1).toNat * 2)) = some (.int .i64 ((rd_T68 l0 x3_1).f0)) ∧ w'.cell? ⟨(ad485.add ((x3_1).toNat * 2)).block, (ad485.add ((x3_1).toNat * 2)).off + 1, none⟩ = some (.int .i64 ((rd_T68 l0 x3_1).f1))) (ds := []) #[false, false, false, false, false, false, false, false, false, false, false, false, false, false, false, false, false, false, false, false, false, false, false] (by kernel_rfl) rfl rfl ⟨(hxb hw485_0), (hxb hw485_1)⟩ (fun hHeld => ?_); refine with_tabW spec_IsShape.tab4 spec_IsShape.bits4 (fun HT_ HW_ => ?_)
              generalize wr.drew = w18 at HB hx485_0 hx485_1 hHeld ⊢
              refine PU 0 10 ?_
              refine PU 1 11 ?_
              refine PU 2 12 ?_
              refine TK 3 13 hHeld ?_
              refine ON 4 14 (fun K hK => ?_)
              refine GO Try.func77 #[.agg #[.int .i64 ((rd_T68 l0 x3_1).f0), .int .i64 ((rd_T68 l0 x3_1).f1)]] ?_
              with_reducible refine (spec_l02Cell.calls ((rd_T68 l0 x3_1).f0) ((rd_T68 l0 x3_1).f1) true _ A4.out).mono ?_
              rintro e w19 ⟨rfl, hb⟩
              refine ⟨_, rfl, ?_⟩
              replace HB := Aside0.mk (below_step Hb hb)
              (try clear hb)
              (try clear hb2)
              (try clear hk)
              (try clear hi)
              refine hK.out _ _ ⟨(hxb hw485_0), (hxb hw485_1)⟩ (fun hHeld => ?_)
              clear hK K
              refine NM 14 ?_
              refine PU 5 15 ?_
              refine PU 6 16 ?_
              refine PU 7 17 ?_
              refine PU 8 18 ?_
              refine PU 9 19 ?_
              refine PV 10 20 ?_
              refine PV 11 21 ?_
              refine PV 12 22 ?_
              refine PV 13 23 ?_
              refine PV 14 24 ?_
              refine PV 15 25 ?_
              refine PV 16 26 ?_
              refine PV 17 27 ?_
              refine PV 18 28 ?_
              refine PV 19 29 ?_
              refine PV 20 30 ?_
              refine PU 21 31 ?_
              refine PU 22 32 ?_
              refine done_ (done_of HT_.out (by kernel_rfl)) ?_
              try go_wp2
              go_roundg k1
              case measure => have := HK1.out; omega
              case rel => exact ⟨(wrap64 (x3_1 + 1)), Fs, H', ⟨by have := HK1.out; omega⟩, ⟨Hb⟩⟩
          · replace c5 := Bool.eq_false_iff.mpr c5
            subst c5
            rw [if_neg (show ¬ (false = true) by decide)] at H
            obtain rfl := Option.some.inj H
            try go_wp2
            replace HB := Aside0.mk (below_drew1 HB.out)
            have p485 : 0 ≤ (x3_1 : Int) := oD
            have q485 : x3_1 < (l0.length : Int) := oD
            obtain ⟨ad485, e485, hx485_0, hx485_1⟩ := at_T68 HR0.out x3_1 p485 q485
            have hw485_1 := hx485_1
            have hw485_0 := hx485_0
            cases e485
            replace hx485_0 := hxb hx485_0
            replace hx485_1 := hxb hx485_1
            replace p485 := eq_true p485
            replace q485 := eq_true q485
            refine start_ (n := 23) (S := fun w' => w'.cell? (ad485.add ((x3_1).toNat * 2)) = some (.int .i64 ((rd_T68 l0 x3_1).f0)) ∧ w'.cell? ⟨(ad485.add ((x3_1).toNat * 2)).block, (ad485.add ((x3_1).toNat * 2)).off + 1, none⟩ = some (.int .i64 ((rd_T68 l0 x3_1).f1))) (ds := []) #[false, false, false, false, false, false, false, false, false, false, false, false, false, false, false, false, false, false, false, false, false, false, false] (by kernel_rfl) rfl rfl ⟨(hxb hw485_0), (hxb hw485_1)⟩ (fun hHeld => ?_); refine with_tabW spec_IsShape.tab4 spec_IsShape.bits4 (fun HT_ HW_ => ?_)
            generalize wr.drew = w20 at HB hx485_0 hx485_1 hHeld ⊢
            refine PU 0 10 ?_
            refine PU 1 11 ?_
            refine PU 2 12 ?_
            refine TK 3 13 hHeld ?_
            refine ON 4 14 (fun K hK => ?_)
            refine GO Try.func77 #[.agg #[.int .i64 ((rd_T68 l0 x3_1).f0), .int .i64 ((rd_T68 l0 x3_1).f1)]] ?_
            with_reducible refine (spec_l02Cell.calls ((rd_T68 l0 x3_1).f0) ((rd_T68 l0 x3_1).f1) false _ A4.out).mono ?_
            rintro e w21 ⟨rfl, hb⟩
            refine ⟨_, rfl, ?_⟩
            replace HB := Aside0.mk (below_step Hb hb)
            (try clear hb)
            (try clear hb2)
            (try clear hk)
            (try clear hi)
            refine hK.out _ _ ⟨(hxb hw485_0), (hxb hw485_1)⟩ (fun hHeld => ?_)
            clear hK K
            refine NM 14 ?_
            refine PU 5 15 ?_
            refine PU 6 16 ?_
            refine PV 7 17 ?_
            refine PV 8 18 ?_
            refine PV 9 19 ?_
            refine PV 10 20 ?_
            refine PV 11 21 ?_
            refine PV 12 22 ?_
            refine PV 13 23 ?_
            refine PV 14 24 ?_
            refine PV 15 25 ?_
            refine PV 16 26 ?_
            refine PV 17 27 ?_
            refine PV 18 28 ?_
            refine PV 19 29 ?_
            refine PV 20 30 ?_
            refine PV 21 31 ?_
            refine PU 22 32 ?_
            refine done_ (done_of HT_.out (by kernel_rfl)) ?_
            try go_wp2
            go_ret
            exact ⟨Fin, Hb⟩
        · rw [if_neg c3] at H
          exact absurd H (by simp)
      · rw [if_neg c2] at H
        have c2b0 : decide (x3_1 < (l0.length : Int)) = false := decide_eq_false c2
        clear c2
        obtain ⟨t484, A220, H⟩ := Option.bind_eq_some_iff.mp H
        have A22 := Aside0.mk A220
        clear A220
        obtain rfl := Option.some.inj H
        go_wp2_with (first | ((with_reducible refine gC 63 ?_); refine GL (some 35) Try.func63 #[.int .i64 (l0.length : Int), .int .i64 1, .int .i64 40] ?_; (with_reducible refine (spec_l01In.calls (l0.length : Int) 1 40 t484 _ A22.out).mono ?_); rintro e w' ⟨rfl, ⟨nd, rfl⟩⟩; refine ⟨_, rfl, ?_⟩))
        go_ret
        exact ⟨Fin, Hb⟩

/-! ### spec_l04Size: function 61 -/
def spec_l04Size.l0 : Nat → List (S68) → Int → Int → Int → Int → Int → Option (Int × Int)
  | 0, _, _, _, _, _, _ => none
  | k + 1, x0, x4, x5, x6, x7, x8 => if x8 < (x0.length : Int) then (if 0 ≤ x8 then (spec_l04Size.l0 k x0 x4 x5 (mx x6 (wrap64 ((wrap64 (((rd_T68 x0 x8).f0) - x4)) + 1))) (mx x7 (wrap64 ((wrap64 (((rd_T68 x0 x8).f1) - x5)) + 1))) (wrap64 (x8 + 1))) else (none)) else (some (x6, x7))
def spec_l04Size.f (k : Nat) (l0 : List (S68)) : Option (Int × Int) := (spec_l02Least.f k l0).bind fun bt490 => (spec_l04Size.l0 k l0 bt490.1 bt490.2 0 0 0)
theorem spec_l04Size.mono_l : ∀ k, (∀ y0 y1 y2 y3 y4 y5, LeO (spec_l04Size.l0 k y0 y1 y2 y3 y4 y5) (spec_l04Size.l0 (k + 1) y0 y1 y2 y3 y4 y5))
  | 0 => fun _ _ _ _ _ _ r h => by simp [spec_l04Size.l0] at h
  | k + 1 => by
    have ih0 := spec_l04Size.mono_l k
    · intro y0 y1 y2 y3 y4 y5
      unfold spec_l04Size.l0
      repeat' first
      | (with_reducible exact ih0 _ _ _ _ _ _)
      | (with_reducible exact spec_l02Least.mono _ _)
      | (with_reducible exact LeO.refl _)
      | (with_reducible exact LeO.none _)
      | (with_reducible refine LeO.ite ?_ ?_)
      | (with_reducible refine LeO.bind ?_ (fun _ => ?_))
      | exact ih0 _ _ _ _ _ _
      | exact spec_l02Least.mono _ _
      | exact LeO.none _
      | refine LeO.ite ?_ ?_
      | refine LeO.bind ?_ (fun _ => ?_)
theorem spec_l04Size.mono : ∀ a0 k, LeO (spec_l04Size.f k a0) (spec_l04Size.f (k + 1) a0) := by
  intro a0 k
  have ih0 := spec_l04Size.mono_l k
  unfold spec_l04Size.f
  repeat' first
      | (with_reducible exact ih0 _ _ _ _ _ _)
      | (with_reducible exact spec_l02Least.mono _ _)
      | (with_reducible exact LeO.refl _)
      | (with_reducible exact LeO.none _)
      | (with_reducible refine LeO.ite ?_ ?_)
      | (with_reducible refine LeO.bind ?_ (fun _ => ?_))
      | exact ih0 _ _ _ _ _ _
      | exact spec_l02Least.mono _ _
      | exact LeO.none _
      | refine LeO.ite ?_ ?_
      | refine LeO.bind ?_ (fun _ => ?_)
set_option maxHeartbeats 8000000 in
set_option maxRecDepth 100000 in
theorem spec_l04Size.calls (k : Nat) (A0 : Option Addr) (c0 : Nat) (l0 : List (S68)) (r1 : Int) (r2 : Int) (w : World) (hr0 : Kd.C k68 w A0 l0.length l0) (hc0 : l0.length ≤ c0) (h : spec_l04Size.f k l0 = some (r1, r2)) :
    Calls Try.prog 61 #[.slice A0 l0.length c0] w fun e w' => e = .returned (.tuple #[.int .i64 r1, .int .i64 r2]) ∧ Below w.heap.size w w' := by
  have HR0 := Aside0.mk hr0
  have HC0 := Aside0.mk hc0
  clear hr0 hc0
  have HB := Aside0.mk (Below.refl w.heap.size w)
  have H : ((spec_l02Least.f k l0).bind fun bt490 => (spec_l04Size.l0 k l0 bt490.1 bt490.2 0 0 0)) = some (r1, r2) := h
  clear h
  obtain ⟨⟨t490, t491⟩, A20, H⟩ := Option.bind_eq_some_iff.mp H
  dsimp only at H
  have A2 := Aside0.mk A20
  clear A20
  have H' := Aside0.mk H
  clear H
  go_enter Try.func61, Try.ntmps61
  go_wp2_with (first | ((with_reducible refine gC 62 ?_); refine GL (some 11) Try.func62 #[.slice A0 l0.length c0] ?_; (with_reducible refine (spec_l02Least.calls k _ _ l0 t490 t491 _ ?side1 ?side2 A2.out).mono ?_); (case side1 => exact Ck HR0.out); (case side2 => exact HC0.out); rintro e w3 ⟨rfl, hb⟩; refine ⟨_, rfl, ?_⟩; replace HB := Aside0.mk (below_step Hb hb); (try clear hb); (try clear hb2); (try clear hk); (try clear hi)))
  go_loopg [6, 7, 8] k (fun kq v6 v7 v8 w' => ∃ (x6_1 : Int) (x7_1 : Int) (x8_1 : Int), v6 = .int .i64 x6_1 ∧ v7 = .int .i64 x7_1 ∧ v8 = .int .i64 x8_1 ∧ Aside0 (spec_l04Size.l0 kq l0 t490 t491 x6_1 x7_1 x8_1 = some (r1, r2)) ∧ Aside0 (kq ≤ k) ∧ Aside0 (Below w.heap.size w w'))
  case atStart => exact ⟨(0), (0), (0), Fs, Fs, Fs, H', ⟨Nat.le_refl _⟩, ⟨Hb⟩⟩
  case round =>
    clear H'
    try clear p2
    obtain ⟨x6_1, x7_1, x8_1, rfl, rfl, rfl, HA, HK1, HB⟩ := hrel
    cases gk with
    | zero => exact absurd HA.out (by simp [spec_l04Size.l0])
    | succ k1 =>
      have H := HA.out
      clear HA
      simp only [spec_l04Size.l0] at H
      by_cases c4 : x8_1 < (l0.length : Int)
      · rw [if_pos c4] at H
        have c4b0 : decide (x8_1 < (l0.length : Int)) = true := decide_eq_true c4
        clear c4
        by_cases c5 : 0 ≤ x8_1
        · rw [if_pos c5] at H
          have c5b0 : decide (0 ≤ x8_1) = true := decide_eq_true c5
          clear c5
          obtain ⟨ji6, hji6⟩ : ∃ j_ : Int, (mx x6_1 (wrap64 ((wrap64 (((rd_T68 l0 x8_1).f0) - t490)) + 1))) = j_ := ⟨_, rfl⟩
          replace H : (spec_l04Size.l0 k1 l0 t490 t491 ji6 (mx x7_1 (wrap64 ((wrap64 (((rd_T68 l0 x8_1).f1) - t491)) + 1))) (wrap64 (x8_1 + 1))) = some (r1, r2) := by first | (rw [hji6] at H; exact H) | (simp only [hji6] at H ⊢; exact H)
          have hji6_ : (if x6_1 < (wrap64 ((wrap64 (((rd_T68 l0 x8_1).f0) - t490)) + 1)) then (wrap64 ((wrap64 (((rd_T68 l0 x8_1).f0) - t490)) + 1)) else x6_1) = ji6 := hji6
          obtain ⟨ji7, hji7⟩ : ∃ j_ : Int, (mx x7_1 (wrap64 ((wrap64 (((rd_T68 l0 x8_1).f1) - t491)) + 1))) = j_ := ⟨_, rfl⟩
          replace H : (spec_l04Size.l0 k1 l0 t490 t491 ji6 ji7 (wrap64 (x8_1 + 1))) = some (r1, r2) := by first | (rw [hji7] at H; exact H) | (simp only [hji7] at H ⊢; exact H)
          have hji7_ : (if x7_1 < (wrap64 ((wrap64 (((rd_T68 l0 x8_1).f1) - t491)) + 1)) then (wrap64 ((wrap64 (((rd_T68 l0 x8_1).f1) - t491)) + 1)) else x7_1) = ji7 := hji7
          have H' := Aside0.mk H
          clear H
          have p492 : 0 ≤ (x8_1 : Int) := oD
          have q492 : x8_1 < (l0.length : Int) := oD
          obtain ⟨ad492, e492, hx492_0, hx492_1⟩ := at_T68 HR0.out x8_1 p492 q492
          cases e492
          replace hx492_0 := hxb hx492_0
          replace hx492_1 := hxb hx492_1
          replace p492 := eq_true p492
          replace q492 := eq_true q492
          have p493 : 0 ≤ (x8_1 : Int) := oD
          have q493 : x8_1 < (l0.length : Int) := oD
          obtain ⟨ad493, e493, hx493_0, hx493_1⟩ := at_T68 HR0.out x8_1 p493 q493
          obtain rfl : ad492 = ad493 := (by injection e493)
          replace hx493_0 := hxb hx493_0
          replace hx493_1 := hxb hx493_1
          replace p493 := eq_true p493
          replace q493 := eq_true q493
          go_wp2
          go_roundg k1
          case measure => have := HK1.out; omega
          case rel => exact ⟨(ji6), (ji7), (wrap64 (x8_1 + 1)), (by first | rfl | (simp; done) | (simp only [← hji6] <;> (first | rfl | simp)) | (simp [*]; done)), (by first | rfl | (simp; done) | (simp only [← hji7] <;> (first | rfl | simp)) | (simp [*]; done)), Fs, H', ⟨by have := HK1.out; omega⟩, ⟨Hb⟩⟩
        · rw [if_neg c5] at H
          exact absurd H (by simp)
      · rw [if_neg c4] at H
        have c4b0 : decide (x8_1 < (l0.length : Int)) = false := decide_eq_false c4
        clear c4
        simp only [Option.some.injEq, Prod.mk.injEq] at H
        obtain ⟨rfl, rfl⟩ := H
        go_wp2
        go_ret2
        exact ⟨Fin, Hb⟩

/-! ### spec_IsRegion: function 28 -/
def spec_IsRegion.f (k : Nat) (l0 : List (S68)) : Option (Bool) := (spec_IsShape.f k l0).bind fun t494 => (if t494 = true then ((spec_l04Size.f k l0).bind fun bt495 => ((spec_l02Least.f k l0).bind fun bt497 => (if bt497.1 = 0 then (if bt497.2 = 0 then (if bt495.1 ≤ 20 then (some (decide (bt495.2 ≤ 20))) else (some false)) else (some false)) else (some false)))) else (some false))
theorem spec_IsRegion.mono : ∀ a0 k, LeO (spec_IsRegion.f k a0) (spec_IsRegion.f (k + 1) a0) := by
  intro a0 k
  unfold spec_IsRegion.f
  repeat' first
      | (with_reducible exact spec_IsShape.mono _ _)
      | (with_reducible exact spec_l02Least.mono _ _)
      | (with_reducible exact spec_l04Size.mono _ _)
      | (with_reducible exact LeO.refl _)
      | (with_reducible exact LeO.none _)
      | (with_reducible refine LeO.ite ?_ ?_)
      | (with_reducible refine LeO.bind ?_ (fun _ => ?_))
      | exact spec_IsShape.mono _ _
      | exact spec_l02Least.mono _ _
      | exact spec_l04Size.mono _ _
      | exact LeO.none _
      | refine LeO.ite ?_ ?_
      | refine LeO.bind ?_ (fun _ => ?_)
set_option maxHeartbeats 8000000 in
set_option maxRecDepth 100000 in
theorem spec_IsRegion.calls (k : Nat) (A0 : Option Addr) (c0 : Nat) (l0 : List (S68)) (r : Bool) (w : World) (hr0 : Kd.C k68 w A0 l0.length l0) (hc0 : l0.length ≤ c0) (h : spec_IsRegion.f k l0 = some r) :
    Calls Try.prog 28 #[.slice A0 l0.length c0] w fun e w' => e = .returned (.bool r) ∧ Below w.heap.size w w' := by
  have HR0 := Aside0.mk hr0
  have HC0 := Aside0.mk hc0
  clear hr0 hc0
  have HB := Aside0.mk (Below.refl w.heap.size w)
  have H : ((spec_IsShape.f k l0).bind fun t494 => (if t494 = true then ((spec_l04Size.f k l0).bind fun bt495 => ((spec_l02Least.f k l0).bind fun bt497 => (if bt497.1 = 0 then (if bt497.2 = 0 then (if bt495.1 ≤ 20 then (some (decide (bt495.2 ≤ 20))) else (some false)) else (some false)) else (some false)))) else (some false))) = some r := h
  clear h
  obtain ⟨t494, A20, H⟩ := Option.bind_eq_some_iff.mp H
  have A2 := Aside0.mk A20
  clear A20
  by_cases c3 : t494 = true
  · subst c3
    rw [if_pos rfl] at H
    obtain ⟨⟨t495, t496⟩, A40, H⟩ := Option.bind_eq_some_iff.mp H
    dsimp only at H
    have A4 := Aside0.mk A40
    clear A40
    obtain ⟨⟨t497, t498⟩, A50, H⟩ := Option.bind_eq_some_iff.mp H
    dsimp only at H
    have A5 := Aside0.mk A50
    clear A50
    by_cases c6 : t497 = 0
    · rw [if_pos c6] at H
      have c6b0 : (t497 == 0) = true := beq_iff_eq.mpr c6
      have c6b1 : (t497 != 0) = false := bne_eq_false_iff_eq.mpr c6
      clear c6
      by_cases c7 : t498 = 0
      · rw [if_pos c7] at H
        have c7b0 : (t498 == 0) = true := beq_iff_eq.mpr c7
        have c7b1 : (t498 != 0) = false := bne_eq_false_iff_eq.mpr c7
        clear c7
        by_cases c8 : t495 ≤ 20
        · rw [if_pos c8] at H
          have c8b0 : decide (t495 ≤ 20) = true := decide_eq_true c8
          clear c8
          obtain rfl := Option.some.inj H
          go_enter Try.func28, Try.ntmps28
          go_wp2_with (first | ((with_reducible refine gC 60 ?_); refine GL (some 8) Try.func60 #[.slice A0 l0.length c0] ?_; (with_reducible refine (spec_IsShape.calls k _ _ l0 true _ ?side1 ?side2 A2.out).mono ?_); (case side1 => exact Ck HR0.out); (case side2 => exact HC0.out); rintro e w9 ⟨rfl, hb⟩; refine ⟨_, rfl, ?_⟩; replace HB := Aside0.mk (below_step Hb hb); (try clear hb); (try clear hb2); (try clear hk); (try clear hi)) | ((with_reducible refine gC 61 ?_); refine GL (some 12) Try.func61 #[.slice A0 l0.length c0] ?_; (with_reducible refine (spec_l04Size.calls k _ _ l0 t495 t496 _ ?side1 ?side2 A4.out).mono ?_); (case side1 => exact Kd.C_below HR0.out Hb); (case side2 => exact HC0.out); rintro e w10 ⟨rfl, hb⟩; refine ⟨_, rfl, ?_⟩; replace HB := Aside0.mk (below_step Hb hb); (try clear hb); (try clear hb2); (try clear hk); (try clear hi)) | ((with_reducible refine gC 62 ?_); refine GL (some 17) Try.func62 #[.slice A0 l0.length c0] ?_; (with_reducible refine (spec_l02Least.calls k _ _ l0 t497 t498 _ ?side1 ?side2 A5.out).mono ?_); (case side1 => exact Kd.C_below HR0.out Hb); (case side2 => exact HC0.out); rintro e w11 ⟨rfl, hb⟩; refine ⟨_, rfl, ?_⟩; replace HB := Aside0.mk (below_step Hb hb); (try clear hb); (try clear hb2); (try clear hk); (try clear hi)))
          go_ret
          exact ⟨Fin, Hb⟩
        · rw [if_neg c8] at H
          have c8b0 : decide (t495 ≤ 20) = false := decide_eq_false c8
          clear c8
          obtain rfl := Option.some.inj H
          go_enter Try.func28, Try.ntmps28
          go_wp2_with (first | ((with_reducible refine gC 60 ?_); refine GL (some 8) Try.func60 #[.slice A0 l0.length c0] ?_; (with_reducible refine (spec_IsShape.calls k _ _ l0 true _ ?side1 ?side2 A2.out).mono ?_); (case side1 => exact Ck HR0.out); (case side2 => exact HC0.out); rintro e w12 ⟨rfl, hb⟩; refine ⟨_, rfl, ?_⟩; replace HB := Aside0.mk (below_step Hb hb); (try clear hb); (try clear hb2); (try clear hk); (try clear hi)) | ((with_reducible refine gC 61 ?_); refine GL (some 12) Try.func61 #[.slice A0 l0.length c0] ?_; (with_reducible refine (spec_l04Size.calls k _ _ l0 t495 t496 _ ?side1 ?side2 A4.out).mono ?_); (case side1 => exact Kd.C_below HR0.out Hb); (case side2 => exact HC0.out); rintro e w13 ⟨rfl, hb⟩; refine ⟨_, rfl, ?_⟩; replace HB := Aside0.mk (below_step Hb hb); (try clear hb); (try clear hb2); (try clear hk); (try clear hi)) | ((with_reducible refine gC 62 ?_); refine GL (some 17) Try.func62 #[.slice A0 l0.length c0] ?_; (with_reducible refine (spec_l02Least.calls k _ _ l0 t497 t498 _ ?side1 ?side2 A5.out).mono ?_); (case side1 => exact Kd.C_below HR0.out Hb); (case side2 => exact HC0.out); rintro e w14 ⟨rfl, hb⟩; refine ⟨_, rfl, ?_⟩; replace HB := Aside0.mk (below_step Hb hb); (try clear hb); (try clear hb2); (try clear hk); (try clear hi)))
          go_ret
          exact ⟨Fin, Hb⟩
      · rw [if_neg c7] at H
        have c7b0 : (t498 == 0) = false := beq_eq_false_iff_ne.mpr c7
        have c7b1 : (t498 != 0) = true := bne_iff_ne.mpr c7
        obtain rfl := Option.some.inj H
        go_enter Try.func28, Try.ntmps28
        go_wp2_with (first | ((with_reducible refine gC 60 ?_); refine GL (some 8) Try.func60 #[.slice A0 l0.length c0] ?_; (with_reducible refine (spec_IsShape.calls k _ _ l0 true _ ?side1 ?side2 A2.out).mono ?_); (case side1 => exact Ck HR0.out); (case side2 => exact HC0.out); rintro e w15 ⟨rfl, hb⟩; refine ⟨_, rfl, ?_⟩; replace HB := Aside0.mk (below_step Hb hb); (try clear hb); (try clear hb2); (try clear hk); (try clear hi)) | ((with_reducible refine gC 61 ?_); refine GL (some 12) Try.func61 #[.slice A0 l0.length c0] ?_; (with_reducible refine (spec_l04Size.calls k _ _ l0 t495 t496 _ ?side1 ?side2 A4.out).mono ?_); (case side1 => exact Kd.C_below HR0.out Hb); (case side2 => exact HC0.out); rintro e w16 ⟨rfl, hb⟩; refine ⟨_, rfl, ?_⟩; replace HB := Aside0.mk (below_step Hb hb); (try clear hb); (try clear hb2); (try clear hk); (try clear hi)) | ((with_reducible refine gC 62 ?_); refine GL (some 17) Try.func62 #[.slice A0 l0.length c0] ?_; (with_reducible refine (spec_l02Least.calls k _ _ l0 t497 t498 _ ?side1 ?side2 A5.out).mono ?_); (case side1 => exact Kd.C_below HR0.out Hb); (case side2 => exact HC0.out); rintro e w17 ⟨rfl, hb⟩; refine ⟨_, rfl, ?_⟩; replace HB := Aside0.mk (below_step Hb hb); (try clear hb); (try clear hb2); (try clear hk); (try clear hi)))
        go_ret
        exact ⟨Fin, Hb⟩
    · rw [if_neg c6] at H
      have c6b0 : (t497 == 0) = false := beq_eq_false_iff_ne.mpr c6
      have c6b1 : (t497 != 0) = true := bne_iff_ne.mpr c6
      obtain rfl := Option.some.inj H
      go_enter Try.func28, Try.ntmps28
      go_wp2_with (first | ((with_reducible refine gC 60 ?_); refine GL (some 8) Try.func60 #[.slice A0 l0.length c0] ?_; (with_reducible refine (spec_IsShape.calls k _ _ l0 true _ ?side1 ?side2 A2.out).mono ?_); (case side1 => exact Ck HR0.out); (case side2 => exact HC0.out); rintro e w18 ⟨rfl, hb⟩; refine ⟨_, rfl, ?_⟩; replace HB := Aside0.mk (below_step Hb hb); (try clear hb); (try clear hb2); (try clear hk); (try clear hi)) | ((with_reducible refine gC 61 ?_); refine GL (some 12) Try.func61 #[.slice A0 l0.length c0] ?_; (with_reducible refine (spec_l04Size.calls k _ _ l0 t495 t496 _ ?side1 ?side2 A4.out).mono ?_); (case side1 => exact Kd.C_below HR0.out Hb); (case side2 => exact HC0.out); rintro e w19 ⟨rfl, hb⟩; refine ⟨_, rfl, ?_⟩; replace HB := Aside0.mk (below_step Hb hb); (try clear hb); (try clear hb2); (try clear hk); (try clear hi)) | ((with_reducible refine gC 62 ?_); refine GL (some 17) Try.func62 #[.slice A0 l0.length c0] ?_; (with_reducible refine (spec_l02Least.calls k _ _ l0 t497 t498 _ ?side1 ?side2 A5.out).mono ?_); (case side1 => exact Kd.C_below HR0.out Hb); (case side2 => exact HC0.out); rintro e w20 ⟨rfl, hb⟩; refine ⟨_, rfl, ?_⟩; replace HB := Aside0.mk (below_step Hb hb); (try clear hb); (try clear hb2); (try clear hk); (try clear hi)))
      go_ret
      exact ⟨Fin, Hb⟩
  · replace c3 := Bool.eq_false_iff.mpr c3
    subst c3
    rw [if_neg (show ¬ (false = true) by decide)] at H
    obtain rfl := Option.some.inj H
    go_enter Try.func28, Try.ntmps28
    go_wp2_with (first | ((with_reducible refine gC 60 ?_); refine GL (some 8) Try.func60 #[.slice A0 l0.length c0] ?_; (with_reducible refine (spec_IsShape.calls k _ _ l0 false _ ?side1 ?side2 A2.out).mono ?_); (case side1 => exact Ck HR0.out); (case side2 => exact HC0.out); rintro e w21 ⟨rfl, hb⟩; refine ⟨_, rfl, ?_⟩; replace HB := Aside0.mk (below_step Hb hb); (try clear hb); (try clear hb2); (try clear hk); (try clear hi)))
    go_ret
    exact ⟨Fin, Hb⟩

/-! ### spec_l19Is: function 29 -/
mutual
def spec_l19Is.j0 : Nat → Bool → Int → List Int → Option (Bool)
  | 0, _, _, _ => none
  | k + 1, x17, x500000, x500001 => if x17 = true then (some false) else (spec_l19Is.l0 k 0 x500000 x500001)
def spec_l19Is.l0 : Nat → Int → Int → List Int → Option (Bool)
  | 0, _, _, _ => none
  | k + 1, x5, x500000, x500001 => if x5 < (x500001.length : Int) then (if 0 ≤ x5 then ((spec_l01In.f (rd x500001 x5) 0 (wrap64 (x500000 - 1))).bind fun t502 => (if t502 = true then (spec_l19Is.l0 k (wrap64 (x5 + 1)) x500000 x500001) else (some false))) else (none)) else (some true)
end
def spec_l19Is.f (k : Nat) (l0 : List (S68)) (a1_0 : Int) (l1_1 : List Int) : Option (Bool) := (spec_l01In.f a1_0 2 6).bind fun t500 => (if t500 = true then (spec_l19Is.j0 k ((l1_1.length : Int) != (l0.length : Int)) a1_0 l1_1) else (spec_l19Is.j0 k true a1_0 l1_1))
theorem spec_l19Is.mono_l : ∀ k, (∀ y0 y1 y2, LeO (spec_l19Is.j0 k y0 y1 y2) (spec_l19Is.j0 (k + 1) y0 y1 y2)) ∧ (∀ y0 y1 y2, LeO (spec_l19Is.l0 k y0 y1 y2) (spec_l19Is.l0 (k + 1) y0 y1 y2))
  | 0 => ⟨fun _ _ _ r h => by simp [spec_l19Is.j0] at h, fun _ _ _ r h => by simp [spec_l19Is.l0] at h⟩
  | k + 1 => by
    obtain ⟨ih0, ih1⟩ := spec_l19Is.mono_l k
    refine ⟨?_, ?_⟩
    · intro y0 y1 y2
      unfold spec_l19Is.j0
      repeat' first
      | (with_reducible exact ih0 _ _ _)
      | (with_reducible exact ih1 _ _ _)
      | (with_reducible exact LeO.refl _)
      | (with_reducible exact LeO.none _)
      | (with_reducible refine LeO.ite ?_ ?_)
      | (with_reducible refine LeO.bind ?_ (fun _ => ?_))
      | exact ih0 _ _ _
      | exact ih1 _ _ _
      | exact LeO.none _
      | refine LeO.ite ?_ ?_
      | refine LeO.bind ?_ (fun _ => ?_)
    · intro y0 y1 y2
      unfold spec_l19Is.l0
      repeat' first
      | (with_reducible exact ih0 _ _ _)
      | (with_reducible exact ih1 _ _ _)
      | (with_reducible exact LeO.refl _)
      | (with_reducible exact LeO.none _)
      | (with_reducible refine LeO.ite ?_ ?_)
      | (with_reducible refine LeO.bind ?_ (fun _ => ?_))
      | exact ih0 _ _ _
      | exact ih1 _ _ _
      | exact LeO.none _
      | refine LeO.ite ?_ ?_
      | refine LeO.bind ?_ (fun _ => ?_)
theorem spec_l19Is.mono : ∀ a0 a1 a2 k, LeO (spec_l19Is.f k a0 a1 a2) (spec_l19Is.f (k + 1) a0 a1 a2) := by
  intro a0 a1 a2 k
  obtain ⟨ih0, ih1⟩ := spec_l19Is.mono_l k
  unfold spec_l19Is.f
  repeat' first
      | (with_reducible exact ih0 _ _ _)
      | (with_reducible exact ih1 _ _ _)
      | (with_reducible exact LeO.refl _)
      | (with_reducible exact LeO.none _)
      | (with_reducible refine LeO.ite ?_ ?_)
      | (with_reducible refine LeO.bind ?_ (fun _ => ?_))
      | exact ih0 _ _ _
      | exact ih1 _ _ _
      | exact LeO.none _
      | refine LeO.ite ?_ ?_
      | refine LeO.bind ?_ (fun _ => ?_)
set_option maxHeartbeats 8000000 in
set_option maxRecDepth 100000 in
theorem spec_l19Is.calls (k : Nat) (A0 : Option Addr) (c0 : Nat) (l0 : List (S68)) (a1_0 : Int) (A1_1 : Option Addr) (c1_1 : Nat) (l1_1 : List Int) (r : Bool) (w : World) (hr0 : Kd.C k68 w A0 l0.length l0) (hc0 : l0.length ≤ c0) (hr1_1 : Kd.C (Kd.int .i64) w A1_1 l1_1.length l1_1) (hc1_1 : l1_1.length ≤ c1_1) (h : spec_l19Is.f k l0 a1_0 l1_1 = some r) :
    Calls Try.prog 29 #[.slice A0 l0.length c0, .agg #[.int .i64 a1_0, .slice A1_1 l1_1.length c1_1]] w fun e w' => e = .returned (.bool r) ∧ Below w.heap.size w w' := by
  have hu27 := Try.underlying27
  have HR0 := Aside0.mk hr0
  have HC0 := Aside0.mk hc0
  clear hr0 hc0
  have HR1_1 := Aside0.mk hr1_1
  have HC1_1 := Aside0.mk hc1_1
  clear hr1_1 hc1_1
  have HB := Aside0.mk (Below.refl w.heap.size w)
  have H : ((spec_l01In.f a1_0 2 6).bind fun t500 => (if t500 = true then (spec_l19Is.j0 k ((l1_1.length : Int) != (l0.length : Int)) a1_0 l1_1) else (spec_l19Is.j0 k true a1_0 l1_1))) = some r := h
  clear h
  have HC3 := Aside0.mk H
  clear H
  go_enter Try.func29, Try.ntmps29
  go_upto_region 1 with (first | ((with_reducible refine gD 3 ?_); (try (refine gate_guard (by rfl) ?_; dsimp only)); refine BX #[.int .i64 a1_0, .slice A1_1 l1_1.length c1_1] 27 ?_; intro gb499 hg w4 hbox hb; have BK499 := Aside0.mk (hbox); have GW499 := Aside0.mk ((Gle hg Hb : w.heap.size ≤ gb499)); have GE499 := Aside0.mk ((Gle hg Hb : w.heap.size ≤ gb499)); replace HB := Aside0.mk (below_step Hb hb); clear hb hbox hg))
  repeat (go_quiet (first | ((with_reducible refine gD 3 ?_); (try (refine gate_guard (by rfl) ?_; dsimp only)); refine BX #[.int .i64 a1_0, .slice A1_1 l1_1.length c1_1] 27 ?_; intro gb499 hg w4 hbox hb; have BK499 := Aside0.mk (hbox); have GW499 := Aside0.mk ((Gle hg Hb : w.heap.size ≤ gb499)); have GE499 := Aside0.mk ((Gle hg Hb : w.heap.size ≤ gb499)); replace HB := Aside0.mk (below_step Hb hb); clear hb hbox hg)); go_upto_region 1 with (first | ((with_reducible refine gD 3 ?_); (try (refine gate_guard (by rfl) ?_; dsimp only)); refine BX #[.int .i64 a1_0, .slice A1_1 l1_1.length c1_1] 27 ?_; intro gb499 hg w4 hbox hb; have BK499 := Aside0.mk (hbox); have GW499 := Aside0.mk ((Gle hg Hb : w.heap.size ≤ gb499)); have GE499 := Aside0.mk ((Gle hg Hb : w.heap.size ≤ gb499)); replace HB := Aside0.mk (below_step Hb hb); clear hb hbox hg)))
  (try simp only [Act.put, List.setIfInBounds_toArray, List.set_cons_zero, List.set_cons_succ])
  go_cut [17] (fun v17 wc => ∃ (kq : Nat) (x17_2 : Bool), v17 = .bool x17_2 ∧ Aside0 (spec_l19Is.j0 kq x17_2 a1_0 l1_1 = some r) ∧ Aside0 (kq ≤ k) ∧ Aside0 (wc.heap[gb499]? = some (.cells #[.int .i64 a1_0, (.slice A1_1 l1_1.length c1_1)] 27 (0, 0))) ∧ Aside0 (Below w.heap.size w wc))
  case first =>
    have H := HC3.out
    clear HC3
    obtain ⟨t500, A50, H⟩ := Option.bind_eq_some_iff.mp H
    have A5 := Aside0.mk A50
    clear A50
    by_cases c6 : t500 = true
    · subst c6
      rw [if_pos rfl] at H
      have H' := Aside0.mk H
      clear H
      have hcz7_0 : w4.cell? ⟨gb499, 0, none⟩ = some (.int .i64 a1_0) := bc BK499
      have hcz7_1 : w4.cell? ⟨gb499, 1, none⟩ = some (.slice A1_1 l1_1.length c1_1) := bc BK499
      have hfz7_0 := blk_frozen BK499.out 0
      have hfz7_1 := blk_frozen BK499.out 1
      go_wp2_with (first | (go_at_call 63; (with_reducible refine (spec_l01In.calls a1_0 2 6 true _ A5.out).mono ?_); rintro e w' ⟨rfl, ⟨nd, rfl⟩⟩; (try first | exact ⟨rfl, _, World.drewN_drewN _ _ _⟩ | exact ⟨rfl, _, Eq.trans (World.drewN_drewN _ _ _) (congrArg (World.drewN _) (Nat.add_assoc _ _ _))⟩)))
      repeat (go_quiet (first | (go_at_call 63; (with_reducible refine (spec_l01In.calls a1_0 2 6 true _ A5.out).mono ?_); rintro e w' ⟨rfl, ⟨nd, rfl⟩⟩; (try first | exact ⟨rfl, _, World.drewN_drewN _ _ _⟩ | exact ⟨rfl, _, Eq.trans (World.drewN_drewN _ _ _) (congrArg (World.drewN _) (Nat.add_assoc _ _ _))⟩))); try go_wp2_with (first | (go_at_call 63; (with_reducible refine (spec_l01In.calls a1_0 2 6 true _ A5.out).mono ?_); rintro e w' ⟨rfl, ⟨nd, rfl⟩⟩; (try first | exact ⟨rfl, _, World.drewN_drewN _ _ _⟩ | exact ⟨rfl, _, Eq.trans (World.drewN_drewN _ _ _) (congrArg (World.drewN _) (Nat.add_assoc _ _ _))⟩))))
      go_meet
      case rel => exact ⟨_, (((l1_1.length : Int) != (l0.length : Int))), Fs, H', ⟨by first | omega | exact Nat.le_refl _⟩, ⟨B1 BK499⟩, ⟨Hb⟩⟩
    · replace c6 := Bool.eq_false_iff.mpr c6
      subst c6
      rw [if_neg (show ¬ (false = true) by decide)] at H
      have H' := Aside0.mk H
      clear H
      have hcz8_0 : w4.cell? ⟨gb499, 0, none⟩ = some (.int .i64 a1_0) := bc BK499
      have hcz8_1 : w4.cell? ⟨gb499, 1, none⟩ = some (.slice A1_1 l1_1.length c1_1) := bc BK499
      have hfz8_0 := blk_frozen BK499.out 0
      have hfz8_1 := blk_frozen BK499.out 1
      go_wp2_with (first | (go_at_call 63; (with_reducible refine (spec_l01In.calls a1_0 2 6 false _ A5.out).mono ?_); rintro e w' ⟨rfl, ⟨nd, rfl⟩⟩; (try first | exact ⟨rfl, _, World.drewN_drewN _ _ _⟩ | exact ⟨rfl, _, Eq.trans (World.drewN_drewN _ _ _) (congrArg (World.drewN _) (Nat.add_assoc _ _ _))⟩)))
      repeat (go_quiet (first | (go_at_call 63; (with_reducible refine (spec_l01In.calls a1_0 2 6 false _ A5.out).mono ?_); rintro e w' ⟨rfl, ⟨nd, rfl⟩⟩; (try first | exact ⟨rfl, _, World.drewN_drewN _ _ _⟩ | exact ⟨rfl, _, Eq.trans (World.drewN_drewN _ _ _) (congrArg (World.drewN _) (Nat.add_assoc _ _ _))⟩))); try go_wp2_with (first | (go_at_call 63; (with_reducible refine (spec_l01In.calls a1_0 2 6 false _ A5.out).mono ?_); rintro e w' ⟨rfl, ⟨nd, rfl⟩⟩; (try first | exact ⟨rfl, _, World.drewN_drewN _ _ _⟩ | exact ⟨rfl, _, Eq.trans (World.drewN_drewN _ _ _) (congrArg (World.drewN _) (Nat.add_assoc _ _ _))⟩))))
      go_meet
      case rel => exact ⟨_, (true), Fs, H', ⟨by first | omega | exact Nat.le_refl _⟩, ⟨B1 BK499⟩, ⟨Hb⟩⟩
  case rest =>
    clear HC3
    try clear c1
    try clear c2
    try clear p2
    try clear c6
    try clear hcz7_0
    try clear hcz7_1
    try clear hcz8_0
    try clear hcz8_1
    try clear hfz7_0
    try clear hfz7_1
    try clear hfz8_0
    try clear hfz8_1
    obtain ⟨kq, x17_2, rfl, HA, HJ2, BK499, HB⟩ := hcut
    cases kq with
    | zero => exact absurd HA.out (by simp [spec_l19Is.j0])
    | succ kj2 =>
      have H := HA.out
      clear HA
      simp only [spec_l19Is.j0] at H
      by_cases c9 : x17_2 = true
      · subst c9
        rw [if_pos rfl] at H
        obtain rfl := Option.some.inj H
        go_wp2
        repeat (go_quiet (fail); try go_wp2)
        go_ret
        exact ⟨Fin, Hb⟩
      · replace c9 := Bool.eq_false_iff.mpr c9
        subst c9
        rw [if_neg (show ¬ (false = true) by decide)] at H
        have H' := Aside0.mk H
        clear H
        go_wp2
        repeat (go_quiet (fail); try go_wp2)
        go_loopg [5] kj2 (fun kq v5 w' => ∃ (x5_2 : Int), v5 = .int .i64 x5_2 ∧ Aside0 (spec_l19Is.l0 kq x5_2 a1_0 l1_1 = some r) ∧ Aside0 (kq ≤ kj2) ∧ Aside0 (w'.heap[gb499]? = some (.cells #[.int .i64 a1_0, (.slice A1_1 l1_1.length c1_1)] 27 (0, 0))) ∧ Aside0 (Below w.heap.size w w'))
        case atStart => exact ⟨(0), Fs, H', ⟨Nat.le_refl _⟩, ⟨B1 BK499⟩, ⟨Hb⟩⟩
        case round =>
          clear H'
          try clear c1
          try clear c2
          try clear p2
          try clear c6
          try clear c9
          try clear hcz7_0
          try clear hcz7_1
          try clear hcz8_0
          try clear hcz8_1
          try clear hfz7_0
          try clear hfz7_1
          try clear hfz8_0
          try clear hfz8_1
          try clear p2
          obtain ⟨x5_2, rfl, HA, HK2, BK499, HB⟩ := hrel
          cases gk with
          | zero => exact absurd HA.out (by simp [spec_l19Is.l0])
          | succ k2 =>
            have H := HA.out
            clear HA
            simp only [spec_l19Is.l0] at H
            by_cases c10 : x5_2 < (l1_1.length : Int)
            · rw [if_pos c10] at H
              have c10b0 : decide (x5_2 < (l1_1.length : Int)) = true := decide_eq_true c10
              clear c10
              by_cases c11 : 0 ≤ x5_2
              · rw [if_pos c11] at H
                have c11b0 : decide (0 ≤ x5_2) = true := decide_eq_true c11
                clear c11
                obtain ⟨t502, A120, H⟩ := Option.bind_eq_some_iff.mp H
                have A12 := Aside0.mk A120
                clear A120
                by_cases c13 : t502 = true
                · subst c13
                  rw [if_pos rfl] at H
                  have H' := Aside0.mk H
                  clear H
                  have hcz14_0 : wr.cell? ⟨gb499, 0, none⟩ = some (.int .i64 a1_0) := bc BK499
                  have hcz14_1 : wr.cell? ⟨gb499, 1, none⟩ = some (.slice A1_1 l1_1.length c1_1) := bc BK499
                  have hfz14_0 := blk_frozen BK499.out 0
                  have hfz14_1 := blk_frozen BK499.out 1
                  have p501 : 0 ≤ (x5_2 : Int) := oD
                  have q501 : x5_2 < (l1_1.length : Int) := oD
                  obtain ⟨ad501, e501, hx501_0⟩ := Kd.at_int HR1_1.out x5_2 p501 q501
                  cases e501
                  replace hx501_0 := hxb hx501_0
                  replace p501 := eq_true p501
                  replace q501 := eq_true q501
                  go_wp2_with (first | (go_at_call 63; (with_reducible refine (spec_l01In.calls (rd l1_1 x5_2) 0 (wrap64 (a1_0 - 1)) true _ A12.out).mono ?_); rintro e w' ⟨rfl, ⟨nd, rfl⟩⟩; (try first | exact ⟨rfl, _, World.drewN_drewN _ _ _⟩ | exact ⟨rfl, _, Eq.trans (World.drewN_drewN _ _ _) (congrArg (World.drewN _) (Nat.add_assoc _ _ _))⟩)))
                  repeat (go_quiet (first | (go_at_call 63; (with_reducible refine (spec_l01In.calls (rd l1_1 x5_2) 0 (wrap64 (a1_0 - 1)) true _ A12.out).mono ?_); rintro e w' ⟨rfl, ⟨nd, rfl⟩⟩; (try first | exact ⟨rfl, _, World.drewN_drewN _ _ _⟩ | exact ⟨rfl, _, Eq.trans (World.drewN_drewN _ _ _) (congrArg (World.drewN _) (Nat.add_assoc _ _ _))⟩))); try go_wp2_with (first | (go_at_call 63; (with_reducible refine (spec_l01In.calls (rd l1_1 x5_2) 0 (wrap64 (a1_0 - 1)) true _ A12.out).mono ?_); rintro e w' ⟨rfl, ⟨nd, rfl⟩⟩; (try first | exact ⟨rfl, _, World.drewN_drewN _ _ _⟩ | exact ⟨rfl, _, Eq.trans (World.drewN_drewN _ _ _) (congrArg (World.drewN _) (Nat.add_assoc _ _ _))⟩))))
                  go_roundg k2
                  case measure => have := HJ2.out; have := HK2.out; omega
                  case rel => exact ⟨(wrap64 (x5_2 + 1)), Fs, H', ⟨by have := HJ2.out; have := HK2.out; omega⟩, ⟨B1 BK499⟩, ⟨Hb⟩⟩
                · replace c13 := Bool.eq_false_iff.mpr c13
                  subst c13
                  rw [if_neg (show ¬ (false = true) by decide)] at H
                  obtain rfl := Option.some.inj H
                  have hcz15_0 : wr.cell? ⟨gb499, 0, none⟩ = some (.int .i64 a1_0) := bc BK499
                  have hcz15_1 : wr.cell? ⟨gb499, 1, none⟩ = some (.slice A1_1 l1_1.length c1_1) := bc BK499
                  have hfz15_0 := blk_frozen BK499.out 0
                  have hfz15_1 := blk_frozen BK499.out 1
                  have p501 : 0 ≤ (x5_2 : Int) := oD
                  have q501 : x5_2 < (l1_1.length : Int) := oD
                  obtain ⟨ad501, e501, hx501_0⟩ := Kd.at_int HR1_1.out x5_2 p501 q501
                  cases e501
                  replace hx501_0 := hxb hx501_0
                  replace p501 := eq_true p501
                  replace q501 := eq_true q501
                  go_wp2_with (first | (go_at_call 63; (with_reducible refine (spec_l01In.calls (rd l1_1 x5_2) 0 (wrap64 (a1_0 - 1)) false _ A12.out).mono ?_); rintro e w' ⟨rfl, ⟨nd, rfl⟩⟩; (try first | exact ⟨rfl, _, World.drewN_drewN _ _ _⟩ | exact ⟨rfl, _, Eq.trans (World.drewN_drewN _ _ _) (congrArg (World.drewN _) (Nat.add_assoc _ _ _))⟩)))
                  repeat (go_quiet (first | (go_at_call 63; (with_reducible refine (spec_l01In.calls (rd l1_1 x5_2) 0 (wrap64 (a1_0 - 1)) false _ A12.out).mono ?_); rintro e w' ⟨rfl, ⟨nd, rfl⟩⟩; (try first | exact ⟨rfl, _, World.drewN_drewN _ _ _⟩ | exact ⟨rfl, _, Eq.trans (World.drewN_drewN _ _ _) (congrArg (World.drewN _) (Nat.add_assoc _ _ _))⟩))); try go_wp2_with (first | (go_at_call 63; (with_reducible refine (spec_l01In.calls (rd l1_1 x5_2) 0 (wrap64 (a1_0 - 1)) false _ A12.out).mono ?_); rintro e w' ⟨rfl, ⟨nd, rfl⟩⟩; (try first | exact ⟨rfl, _, World.drewN_drewN _ _ _⟩ | exact ⟨rfl, _, Eq.trans (World.drewN_drewN _ _ _) (congrArg (World.drewN _) (Nat.add_assoc _ _ _))⟩))))
                  go_ret
                  exact ⟨Fin, Hb⟩
              · rw [if_neg c11] at H
                exact absurd H (by simp)
            · rw [if_neg c10] at H
              have c10b0 : decide (x5_2 < (l1_1.length : Int)) = false := decide_eq_false c10
              clear c10
              obtain rfl := Option.some.inj H
              have hcz16_0 : wr.cell? ⟨gb499, 0, none⟩ = some (.int .i64 a1_0) := bc BK499
              have hcz16_1 : wr.cell? ⟨gb499, 1, none⟩ = some (.slice A1_1 l1_1.length c1_1) := bc BK499
              have hfz16_0 := blk_frozen BK499.out 0
              have hfz16_1 := blk_frozen BK499.out 1
              go_wp2
              repeat (go_quiet (fail); try go_wp2)
              go_ret
              exact ⟨Fin, Hb⟩

end Go.Proofs.Ytpnlidfebnkgmaa.XFnWeightSums
