-- Written by ext.py (wip/) over the kit's print: not trusted, Lean checks it.
import Derived.Test.YtkmlgfihoaneeaaXFnExactAddWeightingsx0
import Derived.Test.YtkmlgfihoaneeaaXFnExactAddWeightingsx4
import Derived.Test.YtkmlgfihoaneeaaXFnExactAddWeightingsx5
namespace Go.Proofs.Ytkmlgfihoaneeaa.XFnExactAddWeightings
open Go.RowKit Go.Proofs.YtkmlgfihoaneeaaW.PrintWords Go.Proofs.YtkmlgfihoaneeaaW.PrintLast Go.Proofs.YtkmlgfihoaneeaaW.PrintMore
attribute [local go_sem] max2_int min2_int max_two min_two max_three min_three max_four min_four   -- for this text's walks alone
set_option linter.unusedVariables false
set_option linter.unusedSimpArgs false

/-! ### slices_IndexFunc_int64_int64: function 161 (a contract of ours) -/
theorem idxf_I.calls (g : Nat) (lb : Array Value) (eg : ∀ args w, (callFunc g args).run Try.prog w = .ok (.enter g args) w) (p : Int → Option Bool) (A0 : Option Addr) (c0 : Nat) (l0 : List Int) (v : Int) (w : World)
    (hr : Kd.C (Kd.int .i64) w A0 l0.length l0) (hc : l0.length ≤ c0)
    (hp : ∀ (W : World) (x : Int) (b : Bool), Below w.heap.size w W → p x = some b → Calls Try.prog g (#[.int .i64 x] ++ lb) W fun e w' => e = .returned (.bool b) ∧ Below w.heap.size w w')
    (h : U.idxM p l0 0 = some v) :
    Calls Try.prog 161 #[.slice A0 l0.length c0, .func (.func g) #[] lb] w fun e w' => e = .returned (.int .i64 v) ∧ Below w.heap.size w w' := by
  have hn := hr.2.1
  have HR := Aside0.mk hr
  have HP := Aside0.mk hp
  have H := Aside0.mk h
  clear hr hp h
  go_enter Try.func161, Try.ntmps161
  go_wp2
  go_loopg [5, 8] l0.length (fun gg _ s8 wr => ∃ i : Nat, s8 = .int .i64 i ∧ Aside0 (i ≤ l0.length) ∧ Aside0 (l0.length - i ≤ gg) ∧ Aside0 (U.idxM p (l0.drop i) i = some v) ∧ Aside0 (Below w.heap.size w wr))
  case atStart => exact ⟨0, rfl, ⟨Nat.zero_le _⟩, ⟨by omega⟩, H, ⟨Below.refl _ _⟩⟩
  case round =>
    obtain ⟨i, rfl, HI, HG, HA, HB⟩ := hrel
    clear H
    by_cases hlt : i < l0.length
    · have c1 : decide ((i : Int) < (l0.length : Int)) = true := decide_eq_true (by omega)
      obtain ⟨ad, e1, hx⟩ := Kd.at_int (Kd.C_below HR.out HB.out) (i : Int) (by omega) (by omega)
      cases e1
      simp only [rd, Int.toNat_natCast] at hx
      obtain ⟨b, hb, ht, hf⟩ := U.idxM_step hlt HA.out (0 : Int)
      generalize l0.getD i (0 : Int) = y at hx hb
      have hcall := HP.out wr _ b HB.out hb
      clear hb HA HR HP
      cases b with
      | true =>
        have hv := ht rfl
        subst hv
        clear ht hf
        go_wp2_with (go_at_fn g; refine hcall.mono ?_; rintro e w' ⟨rfl, hb'⟩)
        go_ret
        exact ⟨rfl, hb'⟩
      | false =>
        have HA := Aside0.mk (hf rfl)
        clear ht hf
        go_wp2_with (go_at_fn g; refine hcall.mono ?_; rintro e w' ⟨rfl, hb'⟩)
        go_roundg (l0.length - (i + 1))
        case measure => have := HG.out; omega
        case rel => exact ⟨i + 1, by go_num, ⟨by omega⟩, ⟨by omega⟩, HA, ⟨hb'⟩⟩
    · have c1 : decide ((i : Int) < (l0.length : Int)) = false := decide_eq_false (by omega)
      have hv := U.idxM_end (by omega) HA.out
      subst hv
      go_wp2
      go_ret
      exact ⟨rfl, HB.out⟩

/-! ### slices_ContainsFunc_int64_int64: function 130 (a contract of ours) -/
theorem anyf_I.calls (g : Nat) (lb : Array Value) (eg : ∀ args w, (callFunc g args).run Try.prog w = .ok (.enter g args) w) (p : Int → Option Bool) (A0 : Option Addr) (c0 : Nat) (l0 : List Int) (r : Bool) (w : World)
    (hr : Kd.C (Kd.int .i64) w A0 l0.length l0) (hc : l0.length ≤ c0)
    (hp : ∀ (W : World) (x : Int) (b : Bool), Below w.heap.size w W → p x = some b → Calls Try.prog g (#[.int .i64 x] ++ lb) W fun e w' => e = .returned (.bool b) ∧ Below w.heap.size w w')
    (h : U.anyM p l0 = some r) :
    Calls Try.prog 130 #[.slice A0 l0.length c0, .func (.func g) #[] lb] w fun e w' => e = .returned (.bool r) ∧ Below w.heap.size w w' := by
  obtain ⟨v, hv, hd⟩ := U.idxM_of_anyM p l0 0 r (Int.le_refl 0) h
  have HC := Aside0.mk (idxf_I.calls g lb eg p A0 c0 l0 v w hr hc hp hv)
  subst hd
  clear hr hp h hv
  go_enter Try.func130, Try.ntmps130
  go_wp2_with (go_at_call 161; refine HC.out.mono ?_; rintro e w' ⟨rfl, hb'⟩)
  go_ret
  exact ⟨rfl, hb'⟩

/-! ### impl_isWeighting: function 81 (a contract of ours) -/
def impl_isWeighting_1.f (x m : Int) : Option Bool := (impl_within.f x 0 (wrap64 (m - 1))).bind fun b => some (!b)
def impl_isWeighting.f (l : (List (S103))) (m : Int) (ws : List Int) : Option Bool := (impl_isModulus.f m).bind fun b => if b = true then (if (ws.length : Int) = (l.length : Int) then (U.anyM (fun x => impl_isWeighting_1.f x m) ws).bind fun b => some (!b) else some false) else some false
theorem impl_isWeighting_1.calls (x m : Int) (v1 : Value) (B : Nat) (r : Bool) (w : World) (hb : w.heap[B]? = some (.cells #[.int .i64 m, v1] 46 (0, 0))) (h : impl_isWeighting_1.f x m = some r) :
    Calls Try.prog 131 #[.int .i64 x, .pointer (some ⟨B, 0, none⟩)] w fun e w' => e = .returned (.bool r) ∧ Drawn0 w w' := by
  have hu := Try.underlying46
  have hz : w.cell? ⟨B, 0, none⟩ = some (.int .i64 m) := (blk_cell hb 0).trans rfl
  obtain ⟨b, hb2, h⟩ := Option.bind_eq_some_iff.mp h
  obtain rfl := Option.some.inj h
  have HB := Aside0.mk hb2
  clear h hb hb2
  go_enter Try.func131, Try.ntmps131
  go_wp2_with (go_at_call 132; (with_reducible refine (impl_within.calls x 0 (wrap64 (m - 1)) b _ HB.out).mono ?_); rintro e w' ⟨rfl, ⟨nd, rfl⟩⟩)
  go_ret
  exact ⟨by first | rfl | simp [*], ⟨⟨_, rfl⟩⟩⟩
set_option maxRecDepth 100000 in
theorem impl_isWeighting.calls (A0 : Option Addr) (c0 : Nat) (l0 : (List (S103))) (m : Int) (A1 : Option Addr) (c1 : Nat) (l1 : List Int) (r : Bool) (w : World) (hr0 : Kd.C k103 w A0 l0.length l0) (hc0 : l0.length ≤ c0) (hr1 : Kd.C (Kd.int .i64) w A1 l1.length l1) (hc1 : l1.length ≤ c1) (h : impl_isWeighting.f l0 m l1 = some r) :
    Calls Try.prog 81 #[.slice A0 l0.length c0, .agg #[.int .i64 m, .slice A1 l1.length c1]] w fun e w' => e = .returned (.bool r) ∧ Below w.heap.size w w' := by
  have hu := Try.underlying46
  have HR := Aside0.mk hr1
  clear hr1 hr0
  unfold impl_isWeighting.f at h
  obtain ⟨b, hb, h⟩ := Option.bind_eq_some_iff.mp h
  have HB := Aside0.mk hb
  clear hb
  cases b with
  | false =>
    rw [if_neg (by simp)] at h
    obtain rfl := Option.some.inj h
    clear h
    go_enter Try.func81, Try.ntmps81
    go_wp2_with (go_at_call 129; (with_reducible refine (impl_isModulus.calls m false _ HB.out).mono ?_); rintro e w' ⟨rfl, ⟨nd, rfl⟩⟩)
    go_ret
    exact ⟨rfl, by repeat (first | exact Below.refl _ _ | apply below_alloc | apply pw_below_drewN | apply below_drew)⟩
  | true =>
    rw [if_pos rfl] at h
    by_cases c : (l1.length : Int) = (l0.length : Int)
    · rw [if_pos c] at h
      obtain ⟨t, ht, h⟩ := Option.bind_eq_some_iff.mp h
      obtain rfl := Option.some.inj h
      have cb : ((l1.length : Int) == (l0.length : Int)) = true := beq_iff_eq.mpr c
      have cb' : (l1.length == l0.length) = true := beq_iff_eq.mpr (by omega)
      have HT := Aside0.mk ht
      clear h c ht
      go_enter Try.func81, Try.ntmps81
      go_wp2_with (first
        | (go_at_call 129; (with_reducible refine (impl_isModulus.calls m true _ HB.out).mono ?_); rintro e w' ⟨rfl, ⟨nd, rfl⟩⟩)
        | (go_at_call 130; refine (anyf_I.calls 131 _ (enters_of Try.func131 (by kernel_rfl) rfl) (fun x => impl_isWeighting_1.f x m) _ _ l1 t _ ?c1 hc1 ?c2 HT.out).mono ?_; (case c1 => repeat (first | exact HR.out | (with_reducible refine Kd.C_alloc ?_ _) | (with_reducible refine Kd.C_drewN ?_ _) | (with_reducible refine Kd.C_drew ?_))); (case c2 => exact fun W x b hW hpx => (impl_isWeighting_1.calls x m _ _ b W (blk_below (by (with_reducible repeat (first | refine blk_drewN ?_ _ | refine blk_drew ?_)); exact blk_new _ _) hW) hpx).mono fun e w' hq => ⟨hq.1, below_then hW hW.size hq.2.below⟩); rintro e w' ⟨rfl, hb'⟩))
      go_ret
      exact ⟨by first | rfl | simp [*], below_step (by repeat (first | exact Below.refl _ _ | apply below_alloc | apply pw_below_drewN | apply below_drew)) hb'⟩
    · rw [if_neg c] at h
      obtain rfl := Option.some.inj h
      have cb : ((l1.length : Int) == (l0.length : Int)) = false := beq_eq_false_iff_ne.mpr c
      have cb' : (l1.length == l0.length) = false := beq_eq_false_iff_ne.mpr (by omega)
      clear h c
      go_enter Try.func81, Try.ntmps81
      go_wp2_with (go_at_call 129; (with_reducible refine (impl_isModulus.calls m true _ HB.out).mono ?_); rintro e w' ⟨rfl, ⟨nd, rfl⟩⟩)
      go_ret
      exact ⟨rfl, by repeat (first | exact Below.refl _ _ | apply below_alloc | apply pw_below_drewN | apply below_drew)⟩

/-! ### impl_AddWeightings: function 40 -/
mutual
def impl_AddWeightings.j0 : Nat → Bool → Int → List Int → Int → List Int → Option (Int × List Int × Int)
  | 0, _, _, _, _, _ => none
  | k + 1, x31, x207000, x207001, x208000, x208001 => if x31 = true then (some (0, ([] : List Int), 2)) else (impl_AddWeightings.l0 k x207001 (x207001.length : Int) 0 x207000 x207001 x208000 x208001 x207000 ([] : List Int))
def impl_AddWeightings.l0 : Nat → List Int → Int → Int → Int → List Int → Int → List Int → Int → List Int → Option (Int × List Int × Int)
  | 0, _, _, _, _, _, _, _, _, _ => none
  | k + 1, x37, x38, x39, x207000, x207001, x208000, x208001, x213000, x213001 => if x39 < x38 then (if 0 ≤ x39 then (if x39 < (x37.length : Int) then (if x39 < (x208001.length : Int) then (if x207000 = 0 then (none) else (if x213001.length < 17592186044416 then (impl_AddWeightings.l0 k x37 x38 (wrap64 (x39 + 1)) x207000 x207001 x208000 x208001 x213000 (x213001 ++ [Int.tmod (wrap64 ((rd x37 x39) + (rd x208001 x39))) x207000])) else (none))) else (none)) else (none)) else (none)) else (some (x213000, x213001, 0))
end
def impl_AddWeightings.f (k : Nat) (l0 : List (S103)) (a1_0 : Int) (l1_1 : List Int) (a2_0 : Int) (l2_1 : List Int) : Option (Int × List Int × Int) := (impl_IsRegion.f k l0).bind fun t209 => (if t209 = true then ((impl_isWeighting.f l0 a1_0 l1_1).bind fun t210 => (if t210 = true then ((impl_isWeighting.f l0 a2_0 l2_1).bind fun t211 => (if t211 = true then (impl_AddWeightings.j0 k (a1_0 != a2_0) a1_0 l1_1 a2_0 l2_1) else (impl_AddWeightings.j0 k true a1_0 l1_1 a2_0 l2_1))) else (impl_AddWeightings.j0 k true a1_0 l1_1 a2_0 l2_1))) else (some (0, ([] : List Int), 1)))
theorem impl_AddWeightings.mono_l : ∀ k, (∀ y0 y1 y2 y3 y4, LeO (impl_AddWeightings.j0 k y0 y1 y2 y3 y4) (impl_AddWeightings.j0 (k + 1) y0 y1 y2 y3 y4)) ∧ (∀ y0 y1 y2 y3 y4 y5 y6 y7 y8, LeO (impl_AddWeightings.l0 k y0 y1 y2 y3 y4 y5 y6 y7 y8) (impl_AddWeightings.l0 (k + 1) y0 y1 y2 y3 y4 y5 y6 y7 y8))
  | 0 => ⟨fun _ _ _ _ _ r h => by simp [impl_AddWeightings.j0] at h, fun _ _ _ _ _ _ _ _ _ r h => by simp [impl_AddWeightings.l0] at h⟩
  | k + 1 => by
    obtain ⟨ih0, ih1⟩ := impl_AddWeightings.mono_l k
    refine ⟨?_, ?_⟩
    · intro y0 y1 y2 y3 y4
      unfold impl_AddWeightings.j0
      repeat' first
      | (with_reducible exact ih0 _ _ _ _ _)
      | (with_reducible exact ih1 _ _ _ _ _ _ _ _ _)
      | (with_reducible exact impl_IsRegion.mono _ _)
      | (with_reducible exact LeO.refl _)
      | (with_reducible exact LeO.none _)
      | (with_reducible refine LeO.ite ?_ ?_)
      | (with_reducible refine LeO.bind ?_ (fun _ => ?_))
      | exact ih0 _ _ _ _ _
      | exact ih1 _ _ _ _ _ _ _ _ _
      | exact impl_IsRegion.mono _ _
      | exact LeO.none _
      | refine LeO.ite ?_ ?_
      | refine LeO.bind ?_ (fun _ => ?_)
    · intro y0 y1 y2 y3 y4 y5 y6 y7 y8
      unfold impl_AddWeightings.l0
      repeat' first
      | (with_reducible exact ih0 _ _ _ _ _)
      | (with_reducible exact ih1 _ _ _ _ _ _ _ _ _)
      | (with_reducible exact impl_IsRegion.mono _ _)
      | (with_reducible exact LeO.refl _)
      | (with_reducible exact LeO.none _)
      | (with_reducible refine LeO.ite ?_ ?_)
      | (with_reducible refine LeO.bind ?_ (fun _ => ?_))
      | exact ih0 _ _ _ _ _
      | exact ih1 _ _ _ _ _ _ _ _ _
      | exact impl_IsRegion.mono _ _
      | exact LeO.none _
      | refine LeO.ite ?_ ?_
      | refine LeO.bind ?_ (fun _ => ?_)
theorem impl_AddWeightings.mono : ∀ a0 a1 a2 a3 a4 k, LeO (impl_AddWeightings.f k a0 a1 a2 a3 a4) (impl_AddWeightings.f (k + 1) a0 a1 a2 a3 a4) := by
  intro a0 a1 a2 a3 a4 k
  obtain ⟨ih0, ih1⟩ := impl_AddWeightings.mono_l k
  unfold impl_AddWeightings.f
  repeat' first
      | (with_reducible exact ih0 _ _ _ _ _)
      | (with_reducible exact ih1 _ _ _ _ _ _ _ _ _)
      | (with_reducible exact impl_IsRegion.mono _ _)
      | (with_reducible exact LeO.refl _)
      | (with_reducible exact LeO.none _)
      | (with_reducible refine LeO.ite ?_ ?_)
      | (with_reducible refine LeO.bind ?_ (fun _ => ?_))
      | exact ih0 _ _ _ _ _
      | exact ih1 _ _ _ _ _ _ _ _ _
      | exact impl_IsRegion.mono _ _
      | exact LeO.none _
      | refine LeO.ite ?_ ?_
      | refine LeO.bind ?_ (fun _ => ?_)
def impl_AddWeightings.T9 : Bool × List (List Nat × List Nat) := (true, [([], []), ([0], [0]), ([], []), ([], []), ([3], [3]), ([], []), ([4, 5], [4, 5]), ([6], [6]), ([2, 7], [2, 7]), ([], []), ([9], [9]), ([8, 10], [8, 10]), ([11], [11]), ([1, 12], [1, 12]), ([0, 1, 2, 3, 4, 5, 6, 7, 8, 9, 10, 11, 12, 13], []), ([14, 13, 13, 0, 1, 2, 3, 4, 5, 6, 7, 8, 9, 10, 11, 12, 13], [13, 14])])
def impl_AddWeightings.B9 : List Nat := [0, 1, 0, 0, 8, 0, 56, 120, 252, 0, 512, 2044, 4092, 8191, 16383, 32767]
theorem impl_AddWeightings.tab9 : rtab .any (opsOf Try.f40 9) = impl_AddWeightings.T9 := by kernel_rfl
theorem impl_AddWeightings.bits9 : waitsOk impl_AddWeightings.T9.2 impl_AddWeightings.B9 = true := by kernel_rfl
set_option maxHeartbeats 8000000 in
set_option maxRecDepth 100000 in
theorem impl_AddWeightings.calls (k : Nat) (A0 : Option Addr) (c0 : Nat) (l0 : List (S103)) (a1_0 : Int) (A1_1 : Option Addr) (c1_1 : Nat) (l1_1 : List Int) (a2_0 : Int) (A2_1 : Option Addr) (c2_1 : Nat) (l2_1 : List Int) (r1 : Int) (r2 : List Int) (r3 : Int) (w : World) (hr0 : Kd.C k103 w A0 l0.length l0) (hc0 : l0.length ≤ c0) (hr1_1 : Kd.C (Kd.int .i64) w A1_1 l1_1.length l1_1) (hc1_1 : l1_1.length ≤ c1_1) (hr2_1 : Kd.C (Kd.int .i64) w A2_1 l2_1.length l2_1) (hc2_1 : l2_1.length ≤ c2_1) (h : impl_AddWeightings.f k l0 a1_0 l1_1 a2_0 l2_1 = some (r1, r2, r3)) :
    Calls Try.prog 40 #[.slice A0 l0.length c0, .agg #[.int .i64 a1_0, .slice A1_1 l1_1.length c1_1], .agg #[.int .i64 a2_0, .slice A2_1 l2_1.length c2_1]] w fun e w' => ∃ v1_ : Value, e = .returned (.tuple #[.agg #[.int .i64 r1, v1_], .int .i64 r3]) ∧ Kd.R (Kd.int .i64) 2 w' w.heap.size (fun _ => True) v1_ r2 ∧ Below w.heap.size w w' := by
  have hu46 := Try.underlying46
  have HR0 := Aside0.mk hr0
  have HC0 := Aside0.mk hc0
  clear hr0 hc0
  have HR1_1 := Aside0.mk hr1_1
  have HC1_1 := Aside0.mk hc1_1
  clear hr1_1 hc1_1
  have HR2_1 := Aside0.mk hr2_1
  have HC2_1 := Aside0.mk hc2_1
  clear hr2_1 hc2_1
  have HB := Aside0.mk (Below.refl w.heap.size w)
  have H : ((impl_IsRegion.f k l0).bind fun t209 => (if t209 = true then ((impl_isWeighting.f l0 a1_0 l1_1).bind fun t210 => (if t210 = true then ((impl_isWeighting.f l0 a2_0 l2_1).bind fun t211 => (if t211 = true then (impl_AddWeightings.j0 k (a1_0 != a2_0) a1_0 l1_1 a2_0 l2_1) else (impl_AddWeightings.j0 k true a1_0 l1_1 a2_0 l2_1))) else (impl_AddWeightings.j0 k true a1_0 l1_1 a2_0 l2_1))) else (some (0, ([] : List Int), 1)))) = some (r1, r2, r3) := h
  clear h
  obtain ⟨t209, A40, H⟩ := Option.bind_eq_some_iff.mp H
  have A4 := Aside0.mk A40
  clear A40
  by_cases c5 : t209 = true
  · subst c5
    rw [if_pos rfl] at H
    have HC6 := Aside0.mk H
    clear H
    go_enter Try.func40, Try.ntmps40
    go_upto_region 3 with (first | ((with_reducible refine gD 4 ?_); refine BX #[.int .i64 a1_0, .slice A1_1 l1_1.length c1_1] 46 ?_; intro gb206 hg w7 hbox hb; have BK206 := Aside0.mk (hbox); have GW206 := Aside0.mk ((Gle hg Hb : w.heap.size ≤ gb206)); have GE206 := Aside0.mk ((Gle hg Hb : w.heap.size ≤ gb206)); replace HB := Aside0.mk (below_step Hb hb); clear hb hbox hg) | ((with_reducible refine gD 5 ?_); refine BX #[.int .i64 a2_0, .slice A2_1 l2_1.length c2_1] 46 ?_; intro gb207 hg w8 hbox hb; have BK207 := Aside0.mk (hbox); have GW207 := Aside0.mk ((Gle hg Hb : w.heap.size ≤ gb207)); have GE207 := Aside0.mk ((Gle hg Hb : w.heap.size ≤ gb207)); replace HB := Aside0.mk (below_step Hb hb); have NB206_207 := Aside0.mk ((by rw [hg]; exact Nat.ne_of_lt (blk_lt (B1 BK206)) : gb206 ≠ gb207)); have NB207_206 := Aside0.mk ((by rw [hg]; exact Nat.ne_of_gt (blk_lt (B1 BK206)) : gb207 ≠ gb206)); replace BK206 := Aside0.mk (blk_below (B1 BK206) hb); clear hb hbox hg) | ((with_reducible refine gD 6 ?_); refine BX #[.int .i64 0, .slice none 0 0] 46 ?_; intro gb208 hg w9 hbox hb; have BK208 := Aside0.mk (hbox); have GW208 := Aside0.mk ((Gle hg Hb : w.heap.size ≤ gb208)); have GE208 := Aside0.mk ((Gle hg Hb : w.heap.size ≤ gb208)); replace HB := Aside0.mk (below_step Hb hb); have NB206_208 := Aside0.mk ((by rw [hg]; exact Nat.ne_of_lt (blk_lt (B1 BK206)) : gb206 ≠ gb208)); have NB208_206 := Aside0.mk ((by rw [hg]; exact Nat.ne_of_gt (blk_lt (B1 BK206)) : gb208 ≠ gb206)); replace BK206 := Aside0.mk (blk_below (B1 BK206) hb); have NB207_208 := Aside0.mk ((by rw [hg]; exact Nat.ne_of_lt (blk_lt (B1 BK207)) : gb207 ≠ gb208)); have NB208_207 := Aside0.mk ((by rw [hg]; exact Nat.ne_of_gt (blk_lt (B1 BK207)) : gb208 ≠ gb207)); replace BK207 := Aside0.mk (blk_below (B1 BK207) hb); clear hb hbox hg) | ((with_reducible refine gC 80 ?_); refine GL (some 12) Try.func80 #[.slice A0 l0.length c0] ?_; (with_reducible refine (impl_IsRegion.calls k _ _ l0 true _ ?side1 ?side2 A4.out).mono ?_); (case side1 => exact Kd.C_below HR0.out Hb); (case side2 => exact HC0.out); rintro e w10 ⟨rfl, hb⟩; refine ⟨_, rfl, ?_⟩; replace BK206 := Aside0.mk (blk_below (B1 BK206) hb); replace BK207 := Aside0.mk (blk_below (B1 BK207) hb); replace BK208 := Aside0.mk (blk_below (B1 BK208) hb); replace HB := Aside0.mk (below_step Hb hb); (try clear hb); (try clear hb2); (try clear hk); (try clear hi)))
    (try simp only [Act.put, List.setIfInBounds_toArray, List.set_cons_zero, List.set_cons_succ])
    go_cut [31] (fun v31 wc => ∃ (kq : Nat) (x31_5 : Bool), v31 = .bool x31_5 ∧ Aside0 (impl_AddWeightings.j0 kq x31_5 a1_0 l1_1 a2_0 l2_1 = some (r1, r2, r3)) ∧ Aside0 (kq ≤ k) ∧ Aside0 (wc.heap[gb206]? = some (.cells #[.int .i64 a1_0, (.slice A1_1 l1_1.length c1_1)] 46 (0, 0))) ∧ Aside0 (wc.heap[gb207]? = some (.cells #[.int .i64 a2_0, (.slice A2_1 l2_1.length c2_1)] 46 (0, 0))) ∧ Aside0 (wc.heap[gb208]? = some (.cells #[.int .i64 0, (.slice none 0 0)] 46 (0, 0))) ∧ Aside0 (Below w.heap.size w wc))
    case first =>
      have H := HC6.out
      clear HC6
      obtain ⟨t210, A110, H⟩ := Option.bind_eq_some_iff.mp H
      have A11 := Aside0.mk A110
      clear A110
      by_cases c12 : t210 = true
      · subst c12
        rw [if_pos rfl] at H
        obtain ⟨t211, A130, H⟩ := Option.bind_eq_some_iff.mp H
        have A13 := Aside0.mk A130
        clear A130
        by_cases c14 : t211 = true
        · subst c14
          rw [if_pos rfl] at H
          have H' := Aside0.mk H
          clear H
          have hnb15 := NB206_207.out
          have hnc15 := NB207_206.out
          have hnb16 := NB206_208.out
          have hnc16 := NB208_206.out
          have hcz17_0 : w10.cell? ⟨gb206, 0, none⟩ = some (.int .i64 a1_0) := bc BK206
          have hcz17_1 : w10.cell? ⟨gb206, 1, none⟩ = some (.slice A1_1 l1_1.length c1_1) := bc BK206
          have hfz17_0 := blk_frozen BK206.out 0
          have hfz17_1 := blk_frozen BK206.out 1
          go_wp2_with (first | ((with_reducible refine gC 81 ?_); refine GL (some 17) Try.func81 #[.slice A0 l0.length c0, .agg #[.int .i64 a1_0, .slice A1_1 l1_1.length c1_1]] ?_; (with_reducible refine (impl_isWeighting.calls _ _ l0 a1_0 _ _ l1_1 true _ ?side1 ?side2 ?side3 ?side4 A11.out).mono ?_); (case side1 => exact Kd.C_below HR0.out Hb); (case side2 => exact HC0.out); (case side3 => exact Kd.C_below HR1_1.out Hb); (case side4 => exact HC1_1.out); rintro e w18 ⟨rfl, hb⟩; refine ⟨_, rfl, ?_⟩; replace BK206 := Aside0.mk (blk_below (B1 BK206) hb); replace BK207 := Aside0.mk (blk_below (B1 BK207) hb); replace BK208 := Aside0.mk (blk_below (B1 BK208) hb); replace HB := Aside0.mk (below_step Hb hb); (try clear hb); (try clear hb2); (try clear hk); (try clear hi); have hnb19 := NB207_208.out; have hnc19 := NB208_207.out; have hcz20_0 : w18.cell? ⟨gb207, 0, none⟩ = some (.int .i64 a2_0) := bc BK207; have hcz20_1 : w18.cell? ⟨gb207, 1, none⟩ = some (.slice A2_1 l2_1.length c2_1) := bc BK207; have hfz20_0 := blk_frozen BK207.out 0; have hfz20_1 := blk_frozen BK207.out 1) | (go_at_call 81; (with_reducible refine (impl_isWeighting.calls _ _ l0 a2_0 _ _ l2_1 true _ ?side1 ?side2 ?side3 ?side4 A13.out).mono ?_); (case side1 => exact Kd.C_below HR0.out Hb); (case side2 => exact HC0.out); (case side3 => exact Kd.C_below HR2_1.out Hb); (case side4 => exact HC2_1.out); rintro e w21 ⟨rfl, hb⟩; replace BK206 := Aside0.mk (blk_below (B1 BK206) hb); replace BK207 := Aside0.mk (blk_below (B1 BK207) hb); replace BK208 := Aside0.mk (blk_below (B1 BK208) hb); replace HB := Aside0.mk (below_step Hb hb); (try clear hb); (try clear hb2); (try clear hk); (try clear hi); have hcz22_0 : w21.cell? ⟨gb206, 0, none⟩ = some (.int .i64 a1_0) := bc BK206; have hcz22_1 : w21.cell? ⟨gb206, 1, none⟩ = some (.slice A1_1 l1_1.length c1_1) := bc BK206; have hfz22_0 := blk_frozen BK206.out 0; have hfz22_1 := blk_frozen BK206.out 1; have hcz23_0 : w21.cell? ⟨gb207, 0, none⟩ = some (.int .i64 a2_0) := bc BK207; have hcz23_1 : w21.cell? ⟨gb207, 1, none⟩ = some (.slice A2_1 l2_1.length c2_1) := bc BK207; have hfz23_0 := blk_frozen BK207.out 0; have hfz23_1 := blk_frozen BK207.out 1))
          go_meet
          case rel => exact ⟨_, ((a1_0 != a2_0)), Fs, H', ⟨by first | omega | exact Nat.le_refl _⟩, ⟨B1 BK206⟩, ⟨B1 BK207⟩, ⟨B1 BK208⟩, ⟨Hb⟩⟩
        · replace c14 := Bool.eq_false_iff.mpr c14
          subst c14
          rw [if_neg (show ¬ (false = true) by decide)] at H
          have H' := Aside0.mk H
          clear H
          have hnb24 := NB206_207.out
          have hnc24 := NB207_206.out
          have hnb25 := NB206_208.out
          have hnc25 := NB208_206.out
          have hcz26_0 : w10.cell? ⟨gb206, 0, none⟩ = some (.int .i64 a1_0) := bc BK206
          have hcz26_1 : w10.cell? ⟨gb206, 1, none⟩ = some (.slice A1_1 l1_1.length c1_1) := bc BK206
          have hfz26_0 := blk_frozen BK206.out 0
          have hfz26_1 := blk_frozen BK206.out 1
          go_wp2_with (first | ((with_reducible refine gC 81 ?_); refine GL (some 17) Try.func81 #[.slice A0 l0.length c0, .agg #[.int .i64 a1_0, .slice A1_1 l1_1.length c1_1]] ?_; (with_reducible refine (impl_isWeighting.calls _ _ l0 a1_0 _ _ l1_1 true _ ?side1 ?side2 ?side3 ?side4 A11.out).mono ?_); (case side1 => exact Kd.C_below HR0.out Hb); (case side2 => exact HC0.out); (case side3 => exact Kd.C_below HR1_1.out Hb); (case side4 => exact HC1_1.out); rintro e w27 ⟨rfl, hb⟩; refine ⟨_, rfl, ?_⟩; replace BK206 := Aside0.mk (blk_below (B1 BK206) hb); replace BK207 := Aside0.mk (blk_below (B1 BK207) hb); replace BK208 := Aside0.mk (blk_below (B1 BK208) hb); replace HB := Aside0.mk (below_step Hb hb); (try clear hb); (try clear hb2); (try clear hk); (try clear hi); have hnb28 := NB207_208.out; have hnc28 := NB208_207.out; have hcz29_0 : w27.cell? ⟨gb207, 0, none⟩ = some (.int .i64 a2_0) := bc BK207; have hcz29_1 : w27.cell? ⟨gb207, 1, none⟩ = some (.slice A2_1 l2_1.length c2_1) := bc BK207; have hfz29_0 := blk_frozen BK207.out 0; have hfz29_1 := blk_frozen BK207.out 1) | (go_at_call 81; (with_reducible refine (impl_isWeighting.calls _ _ l0 a2_0 _ _ l2_1 false _ ?side1 ?side2 ?side3 ?side4 A13.out).mono ?_); (case side1 => exact Kd.C_below HR0.out Hb); (case side2 => exact HC0.out); (case side3 => exact Kd.C_below HR2_1.out Hb); (case side4 => exact HC2_1.out); rintro e w30 ⟨rfl, hb⟩; replace BK206 := Aside0.mk (blk_below (B1 BK206) hb); replace BK207 := Aside0.mk (blk_below (B1 BK207) hb); replace BK208 := Aside0.mk (blk_below (B1 BK208) hb); replace HB := Aside0.mk (below_step Hb hb); (try clear hb); (try clear hb2); (try clear hk); (try clear hi)))
          go_meet
          case rel => exact ⟨_, (true), Fs, H', ⟨by first | omega | exact Nat.le_refl _⟩, ⟨B1 BK206⟩, ⟨B1 BK207⟩, ⟨B1 BK208⟩, ⟨Hb⟩⟩
      · replace c12 := Bool.eq_false_iff.mpr c12
        subst c12
        rw [if_neg (show ¬ (false = true) by decide)] at H
        have H' := Aside0.mk H
        clear H
        have hnb31 := NB206_207.out
        have hnc31 := NB207_206.out
        have hnb32 := NB206_208.out
        have hnc32 := NB208_206.out
        have hcz33_0 : w10.cell? ⟨gb206, 0, none⟩ = some (.int .i64 a1_0) := bc BK206
        have hcz33_1 : w10.cell? ⟨gb206, 1, none⟩ = some (.slice A1_1 l1_1.length c1_1) := bc BK206
        have hfz33_0 := blk_frozen BK206.out 0
        have hfz33_1 := blk_frozen BK206.out 1
        go_wp2_with (first | ((with_reducible refine gC 81 ?_); refine GL (some 17) Try.func81 #[.slice A0 l0.length c0, .agg #[.int .i64 a1_0, .slice A1_1 l1_1.length c1_1]] ?_; (with_reducible refine (impl_isWeighting.calls _ _ l0 a1_0 _ _ l1_1 false _ ?side1 ?side2 ?side3 ?side4 A11.out).mono ?_); (case side1 => exact Kd.C_below HR0.out Hb); (case side2 => exact HC0.out); (case side3 => exact Kd.C_below HR1_1.out Hb); (case side4 => exact HC1_1.out); rintro e w34 ⟨rfl, hb⟩; refine ⟨_, rfl, ?_⟩; replace BK206 := Aside0.mk (blk_below (B1 BK206) hb); replace BK207 := Aside0.mk (blk_below (B1 BK207) hb); replace BK208 := Aside0.mk (blk_below (B1 BK208) hb); replace HB := Aside0.mk (below_step Hb hb); (try clear hb); (try clear hb2); (try clear hk); (try clear hi)))
        go_meet
        case rel => exact ⟨_, (true), Fs, H', ⟨by first | omega | exact Nat.le_refl _⟩, ⟨B1 BK206⟩, ⟨B1 BK207⟩, ⟨B1 BK208⟩, ⟨Hb⟩⟩
    case rest =>
      clear HC6
      try clear c1
      try clear c2
      try clear p2
      try clear c3
      try clear c4
      try clear c5
      try clear c8
      try clear c12
      try clear c14
      try clear c15
      try clear c16
      try clear c19
      try clear c24
      try clear c25
      try clear c28
      try clear c31
      try clear c32
      try clear hcz17_0
      try clear hcz17_1
      try clear hcz20_0
      try clear hcz20_1
      try clear hcz22_0
      try clear hcz22_1
      try clear hcz23_0
      try clear hcz23_1
      try clear hcz26_0
      try clear hcz26_1
      try clear hcz29_0
      try clear hcz29_1
      try clear hcz33_0
      try clear hcz33_1
      try clear hfz17_0
      try clear hfz17_1
      try clear hfz20_0
      try clear hfz20_1
      try clear hfz22_0
      try clear hfz22_1
      try clear hfz23_0
      try clear hfz23_1
      try clear hfz26_0
      try clear hfz26_1
      try clear hfz29_0
      try clear hfz29_1
      try clear hfz33_0
      try clear hfz33_1
      obtain ⟨kq, x31_5, rfl, HA, HJ5, BK206, BK207, BK208, HB⟩ := hcut
      cases kq with
      | zero => exact absurd HA.out (by simp [impl_AddWeightings.j0])
      | succ kj5 =>
        have H := HA.out
        clear HA
        simp only [impl_AddWeightings.j0] at H
        by_cases c35 : x31_5 = true
        · subst c35
          rw [if_pos rfl] at H
          simp only [Option.some.injEq, Prod.mk.injEq] at H
          obtain ⟨rfl, rfl, rfl⟩ := H
          have hnb36 := NB208_206.out
          have hnc36 := NB206_208.out
          have hnb37 := NB208_207.out
          have hnc37 := NB207_208.out
          have hcz38_0 : wc.cell? ⟨gb208, 0, none⟩ = some (.int .i64 0) := bc BK208
          have hcz38_1 : wc.cell? ⟨gb208, 1, none⟩ = some (.slice none 0 0) := bc BK208
          have hfz38_0 := blk_frozen BK208.out 0
          have hfz38_1 := blk_frozen BK208.out 1
          go_wp2
          refine bodyPost_ret (results_ct rfl _ _ gb208 46 #[.int .i64 0, .slice none 0 0] (0, 0) _ rfl (by (with_reducible repeat (first | refine blk_drewN ?_ _ | refine blk_drew ?_ | refine blk_alloc ?_ _)); refine blk_put (cs := #[.int .i64 0, .slice none 0 0]) ?_ 1 _ rfl; (with_reducible repeat (first | refine blk_drewN ?_ _ | refine blk_drew ?_ | refine blk_alloc ?_ _)); refine blk_put (cs := #[.int .i64 0, .slice none 0 0]) ?_ 0 _ rfl; (with_reducible repeat (first | refine blk_drewN ?_ _ | refine blk_drew ?_ | refine blk_alloc ?_ _)); exact BK208.out) Try.underlying46 rfl (by kernel_rfl)) rfl ?_
          exact ⟨_, Fin, by first | exact Kd.R_nil _ _ _ _ _ | exact Kd.N_nil _ _ _ _ _ | exact Kd.V_nil _ _ _ _ _ | exact Kd.Q_nil _ _ _ _ _ | exact Kd.S_nil _ _ _ _ _, Hb⟩
        · replace c35 := Bool.eq_false_iff.mpr c35
          subst c35
          rw [if_neg (show ¬ (false = true) by decide)] at H
          have H' := Aside0.mk H
          clear H
          have hnb39 := NB206_207.out
          have hnc39 := NB207_206.out
          have hnb40 := NB206_208.out
          have hnc40 := NB208_206.out
          have hcz41_0 : wc.cell? ⟨gb206, 0, none⟩ = some (.int .i64 a1_0) := bc BK206
          have hcz41_1 : wc.cell? ⟨gb206, 1, none⟩ = some (.slice A1_1 l1_1.length c1_1) := bc BK206
          have hfz41_0 := blk_frozen BK206.out 0
          have hfz41_1 := blk_frozen BK206.out 1
          go_wp2_with (first | ((with_reducible refine gD 8 ?_); refine BX #[.int .i64 0, .slice none 0 0] 46 ?_; intro gb212 hg w42 hbox hb; have BK212 := Aside0.mk (hbox); have GW212 := Aside0.mk ((Gle hg Hb : w.heap.size ≤ gb212)); have GE212 := Aside0.mk ((Gle hg Hb : w.heap.size ≤ gb212)); replace HB := Aside0.mk (below_step Hb hb); have NB206_212 := Aside0.mk ((by rw [hg]; exact Nat.ne_of_lt (blk_lt (B1 BK206)) : gb206 ≠ gb212)); have NB212_206 := Aside0.mk ((by rw [hg]; exact Nat.ne_of_gt (blk_lt (B1 BK206)) : gb212 ≠ gb206)); replace BK206 := Aside0.mk (blk_below (B1 BK206) hb); have NB207_212 := Aside0.mk ((by rw [hg]; exact Nat.ne_of_lt (blk_lt (B1 BK207)) : gb207 ≠ gb212)); have NB212_207 := Aside0.mk ((by rw [hg]; exact Nat.ne_of_gt (blk_lt (B1 BK207)) : gb212 ≠ gb207)); replace BK207 := Aside0.mk (blk_below (B1 BK207) hb); have NB208_212 := Aside0.mk ((by rw [hg]; exact Nat.ne_of_lt (blk_lt (B1 BK208)) : gb208 ≠ gb212)); have NB212_208 := Aside0.mk ((by rw [hg]; exact Nat.ne_of_gt (blk_lt (B1 BK208)) : gb212 ≠ gb208)); replace BK208 := Aside0.mk (blk_below (B1 BK208) hb); clear hb hbox hg; have hnb43 := NB212_206.out; have hnc43 := NB206_212.out; have hnb44 := NB212_207.out; have hnc44 := NB207_212.out; have hnb45 := NB212_208.out; have hnc45 := NB208_212.out; have hcz46_0 : w42.cell? ⟨gb212, 0, none⟩ = some (.int .i64 0) := bc BK212; have hcz46_1 : w42.cell? ⟨gb212, 1, none⟩ = some (.slice none 0 0) := bc BK212; have hfz46_0 := blk_frozen BK212.out 0; have hfz46_1 := blk_frozen BK212.out 1; have hcz47_0 : w42.cell? ⟨gb206, 0, none⟩ = some (.int .i64 a1_0) := bc BK206; have hcz47_1 : w42.cell? ⟨gb206, 1, none⟩ = some (.slice A1_1 l1_1.length c1_1) := bc BK206; have hfz47_0 := blk_frozen BK206.out 0; have hfz47_1 := blk_frozen BK206.out 1))
          go_loopg [39] kj5 (fun kq v39 w' => ∃ (x39_2 : Int) (x213001_2 : List Int) (u213001 : Value), v39 = .int .i64 x39_2 ∧ Aside0 (impl_AddWeightings.l0 kq l1_1 (l1_1.length : Int) x39_2 a1_0 l1_1 a2_0 l2_1 a1_0 x213001_2 = some (r1, r2, r3)) ∧ Aside0 (kq ≤ kj5) ∧ Aside0 (Kd.R (Kd.int .i64) 2 w' w.heap.size (fun _ => True) u213001 x213001_2) ∧ Aside0 (w'.heap[gb206]? = some (.cells #[.int .i64 a1_0, (.slice A1_1 l1_1.length c1_1)] 46 (0, 0))) ∧ Aside0 (w'.heap[gb207]? = some (.cells #[.int .i64 a2_0, (.slice A2_1 l2_1.length c2_1)] 46 (0, 0))) ∧ Aside0 (w'.heap[gb208]? = some (.cells #[.int .i64 0, (.slice none 0 0)] 46 (0, 0))) ∧ Aside0 (w'.heap[gb212]? = some (.cells #[.int .i64 a1_0, u213001] 46 (0, 0))) ∧ Aside0 (Below w.heap.size w w'))
          case atStart => exact ⟨(0), (([] : List Int)), (.slice none 0 0), Fs, H', ⟨Nat.le_refl _⟩, ⟨by first | exact Kd.R_nil _ _ _ _ _ | exact Kd.N_nil _ _ _ _ _ | exact Kd.V_nil _ _ _ _ _ | exact Kd.Q_nil _ _ _ _ _ | exact Kd.S_nil _ _ _ _ _⟩, ⟨by (with_reducible repeat (first | refine blk_drewN ?_ _ | refine blk_drew ?_ | refine blk_alloc ?_ _)); refine blk_far ?_ NB206_212.out _; (with_reducible repeat (first | refine blk_drewN ?_ _ | refine blk_drew ?_ | refine blk_alloc ?_ _)); refine blk_far ?_ NB206_212.out _; (with_reducible repeat (first | refine blk_drewN ?_ _ | refine blk_drew ?_ | refine blk_alloc ?_ _)); exact BK206.out⟩, ⟨by (with_reducible repeat (first | refine blk_drewN ?_ _ | refine blk_drew ?_ | refine blk_alloc ?_ _)); refine blk_far ?_ NB207_212.out _; (with_reducible repeat (first | refine blk_drewN ?_ _ | refine blk_drew ?_ | refine blk_alloc ?_ _)); refine blk_far ?_ NB207_212.out _; (with_reducible repeat (first | refine blk_drewN ?_ _ | refine blk_drew ?_ | refine blk_alloc ?_ _)); exact BK207.out⟩, ⟨by (with_reducible repeat (first | refine blk_drewN ?_ _ | refine blk_drew ?_ | refine blk_alloc ?_ _)); refine blk_far ?_ NB208_212.out _; (with_reducible repeat (first | refine blk_drewN ?_ _ | refine blk_drew ?_ | refine blk_alloc ?_ _)); refine blk_far ?_ NB208_212.out _; (with_reducible repeat (first | refine blk_drewN ?_ _ | refine blk_drew ?_ | refine blk_alloc ?_ _)); exact BK208.out⟩, ⟨by (with_reducible repeat (first | refine blk_drewN ?_ _ | refine blk_drew ?_ | refine blk_alloc ?_ _)); refine blk_put (cs := #[.int .i64 a1_0, .slice none 0 0]) ?_ 1 _ rfl; (with_reducible repeat (first | refine blk_drewN ?_ _ | refine blk_drew ?_ | refine blk_alloc ?_ _)); refine blk_put (cs := #[.int .i64 0, .slice none 0 0]) ?_ 0 _ rfl; (with_reducible repeat (first | refine blk_drewN ?_ _ | refine blk_drew ?_ | refine blk_alloc ?_ _)); exact BK212.out⟩, ⟨Hb⟩⟩
          case round =>
            clear H'
            try clear c1
            try clear c2
            try clear p2
            try clear c3
            try clear c4
            try clear c5
            try clear c8
            try clear c12
            try clear c14
            try clear c15
            try clear c16
            try clear c19
            try clear c24
            try clear c25
            try clear c28
            try clear c31
            try clear c32
            try clear c35
            try clear c36
            try clear c37
            try clear c39
            try clear c40
            try clear c43
            try clear c44
            try clear c45
            try clear hcz17_0
            try clear hcz17_1
            try clear hcz20_0
            try clear hcz20_1
            try clear hcz22_0
            try clear hcz22_1
            try clear hcz23_0
            try clear hcz23_1
            try clear hcz26_0
            try clear hcz26_1
            try clear hcz29_0
            try clear hcz29_1
            try clear hcz33_0
            try clear hcz33_1
            try clear hcz38_0
            try clear hcz38_1
            try clear hcz41_0
            try clear hcz41_1
            try clear hcz46_0
            try clear hcz46_1
            try clear hcz47_0
            try clear hcz47_1
            try clear hfz17_0
            try clear hfz17_1
            try clear hfz20_0
            try clear hfz20_1
            try clear hfz22_0
            try clear hfz22_1
            try clear hfz23_0
            try clear hfz23_1
            try clear hfz26_0
            try clear hfz26_1
            try clear hfz29_0
            try clear hfz29_1
            try clear hfz33_0
            try clear hfz33_1
            try clear hfz38_0
            try clear hfz38_1
            try clear hfz41_0
            try clear hfz41_1
            try clear hfz46_0
            try clear hfz46_1
            try clear hfz47_0
            try clear hfz47_1
            try clear p2
            obtain ⟨x39_2, x213001_2, u213001, rfl, HA, HK2, HO_213001, BK206, BK207, BK208, BK212, HB⟩ := hrel
            cases gk with
            | zero => exact absurd HA.out (by simp [impl_AddWeightings.l0])
            | succ k2 =>
              have H := HA.out
              clear HA
              simp only [impl_AddWeightings.l0] at H
              by_cases c48 : x39_2 < (l1_1.length : Int)
              · rw [if_pos c48] at H
                have c48b0 : decide (x39_2 < (l1_1.length : Int)) = true := decide_eq_true c48
                clear c48
                by_cases c49 : 0 ≤ x39_2
                · rw [if_pos c49] at H
                  have c49b0 : decide (0 ≤ x39_2) = true := decide_eq_true c49
                  clear c49
                  by_cases c50 : x39_2 < (l1_1.length : Int)
                  · rw [if_pos c50] at H
                    have c50b0 : decide (x39_2 < (l1_1.length : Int)) = true := decide_eq_true c50
                    clear c50
                    by_cases c51 : x39_2 < (l2_1.length : Int)
                    · rw [if_pos c51] at H
                      have c51b0 : decide (x39_2 < (l2_1.length : Int)) = true := decide_eq_true c51
                      clear c51
                      by_cases c52 : a1_0 = 0
                      · rw [if_pos c52] at H
                        exact absurd H (by simp)
                      · rw [if_neg c52] at H
                        have c52b0 : (a1_0 == 0) = false := beq_eq_false_iff_ne.mpr c52
                        have c52b1 : (a1_0 != 0) = true := bne_iff_ne.mpr c52
                        by_cases c53 : x213001_2.length < 17592186044416
                        · rw [if_pos c53] at H
                          have LMc53 := Aside0.mk c53
                          clear c53
                          obtain ⟨y215, hy215⟩ : ∃ y_ : List Int, y_ = (x213001_2 ++ [Int.tmod (wrap64 ((rd l1_1 x39_2) + (rd l2_1 x39_2))) a1_0]) := ⟨_, rfl⟩
                          replace H : (impl_AddWeightings.l0 k2 l1_1 (l1_1.length : Int) (wrap64 (x39_2 + 1)) a1_0 l1_1 a2_0 l2_1 a1_0 y215) = some (r1, r2, r3) := by first | (rw [hy215]; with_reducible exact H) | (have H2_ := (Option.bind_some _ _).symm.trans H; rw [hy215]; with_reducible exact H2_) | (have H2_ := (Option.bind_some _ _).symm.trans H; with_reducible exact H2_) | with_reducible exact H | (rw [hy215]; exact H) | exact H
                          have Ny215 := Aside0.mk hy215
                          clear hy215
                          have H' := Aside0.mk H
                          clear H
                          have p213 : 0 ≤ (x39_2 : Int) := oD
                          have q213 : x39_2 < (l1_1.length : Int) := oD
                          obtain ⟨ad213, e213, hx213_0⟩ := Kd.at_int HR1_1.out x39_2 p213 q213
                          cases e213
                          replace hx213_0 := hxb hx213_0
                          replace p213 := eq_true p213
                          replace q213 := eq_true q213
                          try go_wp2
                          replace HO_213001 := Aside0.mk (Kd.R_drew HO_213001.out)
                          replace BK206 := Aside0.mk (blk_drew BK206.out)
                          replace BK207 := Aside0.mk (blk_drew BK207.out)
                          replace BK208 := Aside0.mk (blk_drew BK208.out)
                          replace BK212 := Aside0.mk (blk_drew BK212.out)
                          replace HB := Aside0.mk (below_drew1 HB.out)
                          have p214 : 0 ≤ (x39_2 : Int) := oD
                          have q214 : x39_2 < (l2_1.length : Int) := oD
                          obtain ⟨ad214, e214, hx214_0⟩ := Kd.at_int HR2_1.out x39_2 p214 q214
                          have hw214_0 := hx214_0
                          cases e214
                          replace hx214_0 := hxb hx214_0
                          replace p214 := eq_true p214
                          replace q214 := eq_true q214
                          refine start_ (n := 16) (S := fun w' => w'.cell? ⟨gb212, 0, none⟩ = some (.int .i64 a1_0) ∧ w'.cell? ⟨gb212, 1, none⟩ = some (u213001) ∧ w'.cell? ⟨gb207, 0, none⟩ = some (.int .i64 a2_0) ∧ w'.cell? ⟨gb207, 1, none⟩ = some (.slice (some ad214) l2_1.length c2_1) ∧ w'.cell? ⟨gb206, 0, none⟩ = some (.int .i64 a1_0) ∧ w'.cell? ⟨gb206, 1, none⟩ = some (.slice (some ad213) l1_1.length c1_1) ∧ w'.cell? (ad214.add (x39_2).toNat) = some (.int .i64 (rd l2_1 x39_2))) (ds := [15]) #[false, false, false, false, false, false, false, false, false, false, false, false, false, false, false, false] (by kernel_rfl) rfl rfl ⟨(blk_cell BK212.out 0).trans rfl, (blk_cell BK212.out 1).trans rfl, (blk_cell BK207.out 0).trans rfl, (blk_cell BK207.out 1).trans rfl, (blk_cell BK206.out 0).trans rfl, (blk_cell BK206.out 1).trans rfl, (hxb hw214_0)⟩ (fun hHeld => ?_); refine with_tabW impl_AddWeightings.tab9 impl_AddWeightings.bits9 (fun HT_ HW_ => ?_)
                          generalize wr.drew = w54 at HO_213001 BK206 BK207 BK208 BK212 HB hx214_0 hHeld ⊢
                          refine PU 0 44 ?_
                          refine PU 2 46 ?_
                          refine PU 3 47 ?_
                          refine PU 5 49 ?_
                          refine PU 9 53 ?_
                          refine TK 1 45 hHeld ?_
                          refine TK 4 48 hHeld ?_
                          refine PU 6 50 ?_
                          refine TK 7 51 hHeld ?_
                          refine PU 8 52 ?_
                          refine TK 10 54 hHeld ?_
                          refine PU 11 55 ?_
                          refine ON 12 56 (fun K hK => ?_)
                          refine value_ (w1 := ?_) (v := ?_) (by rfl) rfl ?_ ?_
                          rotate_left 2
                          · go_simp
                            constructor
                            · rfl
                            · rfl
                          refine hK.out _ _ ⟨(blk_cell (blk_alloc BK212.out _) 0).trans rfl, (blk_cell (blk_alloc BK212.out _) 1).trans rfl, (blk_cell (blk_alloc BK207.out _) 0).trans rfl, (blk_cell (blk_alloc BK207.out _) 1).trans rfl, (blk_cell (blk_alloc BK206.out _) 0).trans rfl, (blk_cell (blk_alloc BK206.out _) 1).trans rfl, (World.cell?_alloc_lt _ _ _ (World.block_lt_of_cell? _ _ ((hxb hw214_0)))).trans ((hxb hw214_0))⟩ (fun hHeld => ?_)
                          clear hK K
                          refine NM ?_
                          refine ON 13 57 (fun K hK => ?_)
                          refine Kd.R_append_step (Kd.int .i64) (w0 := w) w.heap.size (by rfl) (.tmp 45) (.tmp 56) 25 2 (.int .i64 0) 8 rfl Try.underlying25 info2 rfl (by decide) (by omega) u213001 x213001_2 (Int.tmod (wrap64 ((rd l1_1 x39_2) + (rd l2_1 x39_2))) a1_0) [.int .i64 (Int.tmod (wrap64 ((rd l1_1 x39_2) + (rd l2_1 x39_2))) a1_0)] (fun _ => True) (fun _ => False) rfl rfl ?aP (fun _ hk => hk.elim) ?aF ?aO ?aB ?aS ?aL ?_
                          (case aP => exact rfl)
                          (case aB => exact Hb)
                          (case aF => exact (fun _ _ => trivial))
                          (case aO => exact (R1 HO_213001))
                          (case aS => exact (below_size Hb))
                          (case aL => have := LMc53.out; omega)
                          intro v216 w55 ho hb hg hat
                          rw [← Ny215.out] at ho
                          replace BK206 := Aside0.mk (blk_grown (B1 BK206) hg (Kd.R_ne HO_213001.out BK206.out (by decide)))
                          replace BK207 := Aside0.mk (blk_grown (B1 BK207) hg (Kd.R_ne HO_213001.out BK207.out (by decide)))
                          replace BK208 := Aside0.mk (blk_grown (B1 BK208) hg (Kd.R_ne HO_213001.out BK208.out (by decide)))
                          replace BK212 := Aside0.mk (blk_grown (B1 BK212) hg (Kd.R_ne HO_213001.out BK212.out (by decide)))
                          replace HB := Aside0.mk (hb)
                          have HO217 := Aside0.mk (ho)
                          clear HO_213001
                          clear ho hb hg hat
                          obtain ⟨Ao56, co56, eo56⟩ := Kd.R_slice HO217.out
                          (first | subst eo56 | (injection eo56 with f1_ f2_ f3_; have f4_ := f1_.symm; have f5_ := f3_.symm; clear f1_ f2_ f3_; subst f4_; subst f5_))
                          refine hK.out _ _ ⟨(blk_cell BK212.out 0).trans rfl, (blk_cell BK212.out 1).trans rfl, (blk_cell BK207.out 0).trans rfl, (blk_cell BK207.out 1).trans rfl, (blk_cell BK206.out 0).trans rfl, (blk_cell BK206.out 1).trans rfl, (hxb hw214_0)⟩ (fun hHeld => ?_)
                          clear hK K
                          refine NM ?_
                          refine PU 14 58 ?_
                          refine last_ (i := 15) (N := none) #[true, true, true, true, true, true, true, true, true, true, true, true, true, true, true, true] rfl rfl (one_of HT_.out (by kernel_rfl)) (by decide) (fun K hK => ?_)
                          have hs57 : w55.cell? ⟨gb212, 1, none⟩ = some (u213001) := (blk_cell BK212.out 1).trans rfl
                          have hfs57 := blk_frozen BK212.out 1
                          have hns57_0 := NB206_212.out
                          have hns57_1 := NB207_212.out
                          have hns57_2 := NB208_212.out
                          have hms57_0 := NB212_206.out
                          have hms57_1 := NB212_207.out
                          have hms57_2 := NB212_208.out
                          refine skip_ (w1 := ?_) (by rfl) rfl ?_ ?_
                          rotate_left
                          · go_simp
                            rfl
                          refine hK.out _ _ ?_
                          clear hK K
                          refine done_ (done_of HT_.out (by kernel_rfl)) ?_
                          try go_wp2
                          go_roundg k2
                          case measure => have := HJ5.out; have := HK2.out; omega
                          case rel => exact ⟨(wrap64 (x39_2 + 1)), (y215), (.slice Ao56 y215.length co56), Fs, H', ⟨by have := HJ5.out; have := HK2.out; omega⟩, ⟨by (with_reducible repeat (first | apply Kd.R_alloc | apply Kd.R_drewN | apply Kd.R_drew)); exact Kd.R_mono (Kd.R_far (p := ⟨gb212, 1, none⟩) (Kd.R_types HO217.out BK212.out (by decide)) (fun _ hk => hk.2) (.slice Ao56 y215.length co56)) (fun _ hk => trivial)⟩, ⟨by (with_reducible repeat (first | refine blk_drewN ?_ _ | refine blk_drew ?_ | refine blk_alloc ?_ _)); refine blk_far ?_ NB206_212.out _; (with_reducible repeat (first | refine blk_drewN ?_ _ | refine blk_drew ?_ | refine blk_alloc ?_ _)); exact BK206.out⟩, ⟨by (with_reducible repeat (first | refine blk_drewN ?_ _ | refine blk_drew ?_ | refine blk_alloc ?_ _)); refine blk_far ?_ NB207_212.out _; (with_reducible repeat (first | refine blk_drewN ?_ _ | refine blk_drew ?_ | refine blk_alloc ?_ _)); exact BK207.out⟩, ⟨by (with_reducible repeat (first | refine blk_drewN ?_ _ | refine blk_drew ?_ | refine blk_alloc ?_ _)); refine blk_far ?_ NB208_212.out _; (with_reducible repeat (first | refine blk_drewN ?_ _ | refine blk_drew ?_ | refine blk_alloc ?_ _)); exact BK208.out⟩, ⟨by (with_reducible repeat (first | refine blk_drewN ?_ _ | refine blk_drew ?_ | refine blk_alloc ?_ _)); refine blk_put (cs := #[.int .i64 a1_0, u213001]) ?_ 1 _ rfl; (with_reducible repeat (first | refine blk_drewN ?_ _ | refine blk_drew ?_ | refine blk_alloc ?_ _)); exact BK212.out⟩, ⟨Hb⟩⟩
                        · rw [if_neg c53] at H
                          exact absurd H (by simp)
                    · rw [if_neg c51] at H
                      exact absurd H (by simp)
                  · rw [if_neg c50] at H
                    exact absurd H (by simp)
                · rw [if_neg c49] at H
                  exact absurd H (by simp)
              · rw [if_neg c48] at H
                have c48b0 : decide (x39_2 < (l1_1.length : Int)) = false := decide_eq_false c48
                clear c48
                simp only [Option.some.injEq, Prod.mk.injEq] at H
                obtain ⟨rfl, rfl, rfl⟩ := H
                have hnb58 := NB212_206.out
                have hnc58 := NB206_212.out
                have hnb59 := NB212_207.out
                have hnc59 := NB207_212.out
                have hnb60 := NB212_208.out
                have hnc60 := NB208_212.out
                have hcz61_0 : wr.cell? ⟨gb212, 0, none⟩ = some (.int .i64 a1_0) := bc BK212
                have hcz61_1 : wr.cell? ⟨gb212, 1, none⟩ = some (u213001) := bc BK212
                have hfz61_0 := blk_frozen BK212.out 0
                have hfz61_1 := blk_frozen BK212.out 1
                have hnb62 := NB208_206.out
                have hnc62 := NB206_208.out
                have hnb63 := NB208_207.out
                have hnc63 := NB207_208.out
                have hcz64_0 : wr.cell? ⟨gb208, 0, none⟩ = some (.int .i64 0) := bc BK208
                have hcz64_1 : wr.cell? ⟨gb208, 1, none⟩ = some (.slice none 0 0) := bc BK208
                have hfz64_0 := blk_frozen BK208.out 0
                have hfz64_1 := blk_frozen BK208.out 1
                obtain ⟨Ao65, co65, eo65⟩ := Kd.R_slice HO_213001.out
                subst eo65
                go_wp2
                refine bodyPost_ret (results_ct rfl _ _ gb208 46 #[.int .i64 a1_0, .slice Ao65 x213001_2.length co65] (0, 0) _ rfl (by (with_reducible repeat (first | refine blk_drewN ?_ _ | refine blk_drew ?_ | refine blk_alloc ?_ _)); refine blk_put (cs := #[.int .i64 a1_0, .slice none 0 0]) ?_ 1 _ rfl; (with_reducible repeat (first | refine blk_drewN ?_ _ | refine blk_drew ?_ | refine blk_alloc ?_ _)); refine blk_put (cs := #[.int .i64 0, .slice none 0 0]) ?_ 0 _ rfl; (with_reducible repeat (first | refine blk_drewN ?_ _ | refine blk_drew ?_ | refine blk_alloc ?_ _)); exact BK208.out) Try.underlying46 rfl (by kernel_rfl)) rfl ?_
                exact ⟨_, Fin, by (with_reducible repeat (first | apply Kd.R_alloc | apply Kd.R_drewN | apply Kd.R_drew)); exact Kd.R_mono (Kd.R_far (p := ⟨gb208, 1, none⟩) (Kd.R_far (p := ⟨gb208, 0, none⟩) (Kd.R_types HO_213001.out BK208.out (by decide)) (fun _ hk => hk.2) (.int .i64 a1_0)) (fun _ hk => hk.2) (.slice Ao65 x213001_2.length co65)) (fun _ hk => trivial), Hb⟩
  · replace c5 := Bool.eq_false_iff.mpr c5
    subst c5
    rw [if_neg (show ¬ (false = true) by decide)] at H
    simp only [Option.some.injEq, Prod.mk.injEq] at H
    obtain ⟨rfl, rfl, rfl⟩ := H
    go_enter Try.func40, Try.ntmps40
    go_wp2_with (first | ((with_reducible refine gD 4 ?_); refine BX #[.int .i64 a1_0, .slice A1_1 l1_1.length c1_1] 46 ?_; intro gb206 hg w66 hbox hb; have BK206 := Aside0.mk (hbox); have GW206 := Aside0.mk ((Gle hg Hb : w.heap.size ≤ gb206)); have GE206 := Aside0.mk ((Gle hg Hb : w.heap.size ≤ gb206)); replace HB := Aside0.mk (below_step Hb hb); clear hb hbox hg) | ((with_reducible refine gD 5 ?_); refine BX #[.int .i64 a2_0, .slice A2_1 l2_1.length c2_1] 46 ?_; intro gb207 hg w67 hbox hb; have BK207 := Aside0.mk (hbox); have GW207 := Aside0.mk ((Gle hg Hb : w.heap.size ≤ gb207)); have GE207 := Aside0.mk ((Gle hg Hb : w.heap.size ≤ gb207)); replace HB := Aside0.mk (below_step Hb hb); have NB206_207 := Aside0.mk ((by rw [hg]; exact Nat.ne_of_lt (blk_lt (B1 BK206)) : gb206 ≠ gb207)); have NB207_206 := Aside0.mk ((by rw [hg]; exact Nat.ne_of_gt (blk_lt (B1 BK206)) : gb207 ≠ gb206)); replace BK206 := Aside0.mk (blk_below (B1 BK206) hb); clear hb hbox hg) | ((with_reducible refine gD 6 ?_); refine BX #[.int .i64 0, .slice none 0 0] 46 ?_; intro gb208 hg w68 hbox hb; have BK208 := Aside0.mk (hbox); have GW208 := Aside0.mk ((Gle hg Hb : w.heap.size ≤ gb208)); have GE208 := Aside0.mk ((Gle hg Hb : w.heap.size ≤ gb208)); replace HB := Aside0.mk (below_step Hb hb); have NB206_208 := Aside0.mk ((by rw [hg]; exact Nat.ne_of_lt (blk_lt (B1 BK206)) : gb206 ≠ gb208)); have NB208_206 := Aside0.mk ((by rw [hg]; exact Nat.ne_of_gt (blk_lt (B1 BK206)) : gb208 ≠ gb206)); replace BK206 := Aside0.mk (blk_below (B1 BK206) hb); have NB207_208 := Aside0.mk ((by rw [hg]; exact Nat.ne_of_lt (blk_lt (B1 BK207)) : gb207 ≠ gb208)); have NB208_207 := Aside0.mk ((by rw [hg]; exact Nat.ne_of_gt (blk_lt (B1 BK207)) : gb208 ≠ gb207)); replace BK207 := Aside0.mk (blk_below (B1 BK207) hb); clear hb hbox hg) | ((with_reducible refine gC 80 ?_); refine GL (some 12) Try.func80 #[.slice A0 l0.length c0] ?_; (with_reducible refine (impl_IsRegion.calls k _ _ l0 false _ ?side1 ?side2 A4.out).mono ?_); (case side1 => exact Kd.C_below HR0.out Hb); (case side2 => exact HC0.out); rintro e w69 ⟨rfl, hb⟩; refine ⟨_, rfl, ?_⟩; replace BK206 := Aside0.mk (blk_below (B1 BK206) hb); replace BK207 := Aside0.mk (blk_below (B1 BK207) hb); replace BK208 := Aside0.mk (blk_below (B1 BK208) hb); replace HB := Aside0.mk (below_step Hb hb); (try clear hb); (try clear hb2); (try clear hk); (try clear hi); have hnb70 := NB208_206.out; have hnc70 := NB206_208.out; have hnb71 := NB208_207.out; have hnc71 := NB207_208.out; have hcz72_0 : w69.cell? ⟨gb208, 0, none⟩ = some (.int .i64 0) := bc BK208; have hcz72_1 : w69.cell? ⟨gb208, 1, none⟩ = some (.slice none 0 0) := bc BK208; have hfz72_0 := blk_frozen BK208.out 0; have hfz72_1 := blk_frozen BK208.out 1))
    refine bodyPost_ret (results_ct rfl _ _ gb208 46 #[.int .i64 0, .slice none 0 0] (0, 0) _ rfl (by (with_reducible repeat (first | refine blk_drewN ?_ _ | refine blk_drew ?_ | refine blk_alloc ?_ _)); refine blk_put (cs := #[.int .i64 0, .slice none 0 0]) ?_ 1 _ rfl; (with_reducible repeat (first | refine blk_drewN ?_ _ | refine blk_drew ?_ | refine blk_alloc ?_ _)); refine blk_put (cs := #[.int .i64 0, .slice none 0 0]) ?_ 0 _ rfl; (with_reducible repeat (first | refine blk_drewN ?_ _ | refine blk_drew ?_ | refine blk_alloc ?_ _)); exact BK208.out) Try.underlying46 rfl (by kernel_rfl)) rfl ?_
    exact ⟨_, Fin, by first | exact Kd.R_nil _ _ _ _ _ | exact Kd.N_nil _ _ _ _ _ | exact Kd.V_nil _ _ _ _ _ | exact Kd.Q_nil _ _ _ _ _ | exact Kd.S_nil _ _ _ _ _, Hb⟩

/-! ### laws_markCellS: function 41 -/
def laws_markCellS.l0 : Nat → List (S103) → Int → Int → Option (Int × (List (S103)))
  | 0, _, _, _ => none
  | k + 1, x0, x1, x5 => if x5 < (x0.length : Int) then (if 0 ≤ x5 then ((some (x0.set (x5 : Int).toNat (⟨x1, (rd_T103 x0 x5).f1⟩ : S103) : List (S103))).bind fun y218 => (laws_markCellS.l0 k (y218.set (x5 : Int).toNat (⟨(rd_T103 y218 x5).f0, wrap64 (x1 + 1)⟩ : S103)) (wrap64 ((wrap64 (x1 + 1)) + 1)) (wrap64 (x5 + 1)))) else (none)) else (some (x1, x0))
def laws_markCellS.f (k : Nat) (l0 : List (S103)) (a1 : Int) : Option (Int × (List (S103))) := laws_markCellS.l0 k l0 a1 0
theorem laws_markCellS.mono_l : ∀ k, (∀ y0 y1 y2, LeO (laws_markCellS.l0 k y0 y1 y2) (laws_markCellS.l0 (k + 1) y0 y1 y2))
  | 0 => fun _ _ _ r h => by simp [laws_markCellS.l0] at h
  | k + 1 => by
    have ih0 := laws_markCellS.mono_l k
    · intro y0 y1 y2
      unfold laws_markCellS.l0
      repeat' first
      | (with_reducible exact ih0 _ _ _)
      | (with_reducible exact LeO.refl _)
      | (with_reducible exact LeO.none _)
      | (with_reducible refine LeO.ite ?_ ?_)
      | (with_reducible refine LeO.bind ?_ (fun _ => ?_))
      | exact ih0 _ _ _
      | exact LeO.none _
      | refine LeO.ite ?_ ?_
      | refine LeO.bind ?_ (fun _ => ?_)
theorem laws_markCellS.mono : ∀ a0 a1 k, LeO (laws_markCellS.f k a0 a1) (laws_markCellS.f (k + 1) a0 a1) := by
  intro a0 a1 k
  have ih0 := laws_markCellS.mono_l k
  unfold laws_markCellS.f
  repeat' first
      | (with_reducible exact ih0 _ _ _)
      | (with_reducible exact LeO.refl _)
      | (with_reducible exact LeO.none _)
      | (with_reducible refine LeO.ite ?_ ?_)
      | (with_reducible refine LeO.bind ?_ (fun _ => ?_))
      | exact ih0 _ _ _
      | exact LeO.none _
      | refine LeO.ite ?_ ?_
      | refine LeO.bind ?_ (fun _ => ?_)
set_option maxHeartbeats 8000000 in
set_option maxRecDepth 100000 in
theorem laws_markCellS.calls (k : Nat) (P0_ : Nat → Prop) (u9000_ : Value) (l0 : List (S103)) (a1 : Int) (r1 : Int) (r2 : List (S103)) (w0 w : World) (hB : Below w0.heap.size w0 w) (ho0 : Kd.R k103 103 w w0.heap.size P0_ u9000_ l0) (h : laws_markCellS.f k l0 a1 = some (r1, r2)) :
    Calls Try.prog 41 #[u9000_, .int .i64 a1] w fun e w' => e = .returned (.int .i64 r1) ∧ Kd.R k103 103 w' w0.heap.size (fun k_ => (P0_ k_ ∨ w.heap.size ≤ k_)) u9000_ r2 ∧ Below w0.heap.size w0 w' ∧ Kept w w' (fun k_ => P0_ k_) := by
  have HO0 := Aside0.mk (show Kd.R k103 103 w w0.heap.size (fun k_ => (P0_ k_ ∨ w.heap.size ≤ k_)) u9000_ l0 from Kd.R_mono ho0 (fun k_ hk => (.inl hk)))
  have HK := Aside0.mk (Kept.refl w (fun k_ => P0_ k_))
  have HW0 := Aside0.mk hB.size
  have HB := Aside0.mk hB
  clear hB
  have H : (laws_markCellS.l0 k l0 a1 0) = some (r1, r2) := h
  clear h
  have H' := Aside0.mk H
  clear H
  go_enter Try.func41, Try.ntmps41
  go_wp2
  go_loopg [1, 5] k (fun kq v1 v5 w' => ∃ (x0_1 : List (S103)) (x1_1 : Int) (x5_1 : Int), v1 = .int .i64 x1_1 ∧ v5 = .int .i64 x5_1 ∧ Aside0 (laws_markCellS.l0 kq x0_1 x1_1 x5_1 = some (r1, r2)) ∧ Aside0 (kq ≤ k) ∧ Aside0 (Kd.R k103 103 w' w0.heap.size (fun k_ => (P0_ k_ ∨ w.heap.size ≤ k_)) u9000_ x0_1) ∧ Aside0 (Kept w w' (fun k_ => P0_ k_)) ∧ Aside0 (Below w0.heap.size w0 w'))
  case atStart => exact ⟨(l0), (a1), (0), Fs, Fs, H', ⟨Nat.le_refl _⟩, ⟨by (with_reducible repeat (first | apply Kd.R_alloc | apply Kd.R_drewN | apply Kd.R_drew)); exact HO0.out⟩, ⟨by repeat (first | (with_reducible first | exact HK.out | apply Kept.alloc | apply Kept.drewN | apply Kept.drew) | exact HK.out)⟩, ⟨Hb⟩⟩
  case round =>
    clear H'
    try clear p2
    obtain ⟨x0_1, x1_1, x5_1, rfl, rfl, HA, HK1, HO_0, HK, HB⟩ := hrel
    cases gk with
    | zero => exact absurd HA.out (by simp [laws_markCellS.l0])
    | succ k1 =>
      have H := HA.out
      clear HA
      simp only [laws_markCellS.l0] at H
      by_cases c3 : x5_1 < (x0_1.length : Int)
      · rw [if_pos c3] at H
        have c3b0 : decide (x5_1 < (x0_1.length : Int)) = true := decide_eq_true c3
        clear c3
        by_cases c4 : 0 ≤ x5_1
        · rw [if_pos c4] at H
          have c4b0 : decide (0 ≤ x5_1) = true := decide_eq_true c4
          clear c4
          obtain ⟨y218, hy218⟩ : ∃ y_ : List (S103), y_ = (x0_1.set (x5_1 : Int).toNat (⟨x1_1, (rd_T103 x0_1 x5_1).f1⟩ : S103)) := ⟨_, rfl⟩
          replace H : (laws_markCellS.l0 k1 (y218.set (x5_1 : Int).toNat (⟨(rd_T103 y218 x5_1).f0, wrap64 (x1_1 + 1)⟩ : S103)) (wrap64 ((wrap64 (x1_1 + 1)) + 1)) (wrap64 (x5_1 + 1))) = some (r1, r2) := by first | (rw [hy218]; with_reducible exact H) | (have H2_ := (Option.bind_some _ _).symm.trans H; rw [hy218]; with_reducible exact H2_) | (have H2_ := (Option.bind_some _ _).symm.trans H; with_reducible exact H2_) | with_reducible exact H | (rw [hy218]; exact H) | exact H
          have Ny218 := Aside0.mk hy218
          clear hy218
          obtain ⟨y219, hy219⟩ : ∃ y_ : List (S103), y_ = (y218.set (x5_1 : Int).toNat (⟨(rd_T103 y218 x5_1).f0, wrap64 (x1_1 + 1)⟩ : S103)) := ⟨_, rfl⟩
          replace H : (laws_markCellS.l0 k1 y219 (wrap64 ((wrap64 (x1_1 + 1)) + 1)) (wrap64 (x5_1 + 1))) = some (r1, r2) := by first | (rw [hy219]; with_reducible exact H) | (have H2_ := (Option.bind_some _ _).symm.trans H; rw [hy219]; with_reducible exact H2_) | (have H2_ := (Option.bind_some _ _).symm.trans H; with_reducible exact H2_) | with_reducible exact H | (rw [hy219]; exact H) | exact H
          have Ny219 := Aside0.mk hy219
          clear hy219
          have H' := Aside0.mk H
          clear H
          obtain ⟨Ao7, co7, eo7⟩ := Kd.R_slice HO_0.out
          subst eo7
          have p5 : 0 ≤ (x5_1 : Int) := oD
          have q5 : (x5_1 : Int) < ((x0_1.length : Int) : Int) := oD
          obtain ⟨go5, co5, eo5, gb5, gl5, cl5, HG5⟩ := Kd.R_form HO_0.out (by omega)
          (first | cases eo5 | (injection eo5 with ea_ en_ ec_; (first | subst ea_ | (injection ea_ with ea_; subst ea_)); subst ec_; clear en_))
          have GB5 := Aside0.mk gb5
          have GG5 := Aside0.mk HG5
          clear gb5 gl5 HG5
          have HMgo5 := Aside0.mk (show (P0_ go5 ∨ w.heap.size ≤ go5) from (HO_0.out.1 _ rfl))
          obtain ⟨ce5, hcl5, hM5, hcc5, hfr5⟩ := Kd.R_elem HO_0.out z103 (x5_1 : Int) p5 q5
          obtain rfl := k103_openM hM5
          have hx5_0 : wr.cell? ⟨go5, (x5_1 : Int).toNat * 2, none⟩ = some (.int .i64 ((rd_T103 x0_1 x5_1).f0)) := hcc5 0 _ rfl
          have hx5_1 : wr.cell? ⟨go5, (x5_1 : Int).toNat * 2 + 1, none⟩ = some (.int .i64 ((rd_T103 x0_1 x5_1).f1)) := hcc5 1 _ rfl
          have hf5_0 : wr.frozen? ⟨go5, (x5_1 : Int).toNat * 2, none⟩ = false := hfr5 0
          have hf5_1 : wr.frozen? ⟨go5, (x5_1 : Int).toNat * 2 + 1, none⟩ = false := hfr5 1
          clear hcl5 hcc5 hfr5; (try clear hM5)
          replace p5 := eq_true p5
          replace q5 := eq_true q5
          have HX8 := Aside0.mk (show Kd.R k103 103 wr w0.heap.size (fun k_ => (P0_ k_ ∨ w.heap.size ≤ k_)) (.slice (some ⟨go5, 0, none⟩) x0_1.length co7) x0_1 from (R1 HO_0))
          obtain ⟨ce8, hcl8, hM8, hcc8, hfr8⟩ := Kd.R_elem HX8.out z103 (x5_1 : Int) (oD) (by have h_ : (x5_1 : Int) < ((x0_1.length : Int) : Int) := oD; first | exact h_ | (have e_ := (Kd.R_reads' HO_0.out).1; omega) | simpa using h_)
          obtain rfl := k103_openM hM8
          have HP8 := Kd.R_seg HX8.out (x5_1 : Int) (oD) (by have h_ : (x5_1 : Int) < ((x0_1.length : Int) : Int) := oD; first | exact h_ | (have e_ := (Kd.R_reads' HO_0.out).1; omega) | simpa using h_) (seg := [.int .i64 x1_1]) (j := 0) hcl8 hcc8 (show 1 ≤ 2 from by decide) (x' := (⟨x1_1, (rd_T103 x0_1 x5_1).f1⟩ : S103)) (k103_mkM _ _ _ (⟨x1_1, (rd_T103 x0_1 x5_1).f1⟩ : S103) ) (fun _ hk => hk)
          have hx8_0 := hcc8 0 _ rfl
          (try simp only [show (k103).sz = 2 from rfl, Nat.mul_one, Nat.add_zero] at hx8_0)
          have hf8_0 := hfr8 0
          (try simp only [show (k103).sz = 2 from rfl, Nat.mul_one, Nat.add_zero] at hf8_0)
          clear hcl8 hcc8 hfr8; (try clear hM8)
          go_wp2_with (first | ((with_reducible refine gate_store (t := 2) (p := 16) rfl ?_); refine store_event (t := 2) (p := 16) (v := ?vo_w9) (w1 := (wr.setCell ⟨go5, (x5_1 : Int).toNat * 2, none⟩ (.int .i64 x1_1))) ?hg ?ho ?hn ?hr ?_; (case ho => rfl); (case hg => rfl); (case hn => rfl); (case hr => first | (go_simp; done) | (go_simp; rfl)); intro w9 hw; have hg : wr.grownBy w9 (some go5) := (by rw [hw]; exact HP8.2); have hp_ : Kd.R k103 103 w9 w0.heap.size (fun k_ => (P0_ k_ ∨ w.heap.size ≤ k_)) (.slice (some ⟨go5, 0, none⟩) x0_1.length co7) y218 := (by rw [hw, Ny218.out]; exact HP8.1); clear HP8; replace HB := Aside0.mk ((by rw [hw]; exact below_set (HB.out) GB5.out : Below w0.heap.size w0 w9)); replace HK := Aside0.mk (Kept.of_grown (S := (fun k_ => P0_ k_)) hg (by repeat (first | (with_reducible first | exact HK.out | apply Kept.alloc | apply Kept.drewN | apply Kept.drew) | exact HK.out)) (fun k_ e_ => (HO_0.out.1 k_ e_))); replace HO_0 := Aside0.mk (hp_); clear hg hw hp_; have p6 : 0 ≤ (x5_1 : Int) := oD; have q6 : (x5_1 : Int) < ((x0_1.length : Int) : Int) := oD; obtain ⟨ce6, hcl6, hM6, hcc6, hfr6⟩ := Kd.R_elem HO_0.out z103 (x5_1 : Int) p6 q6; obtain rfl := k103_openM hM6; have hx6_0 : w9.cell? ⟨go5, (x5_1 : Int).toNat * 2, none⟩ = some (.int .i64 ((rd_T103 y218 x5_1).f0)) := hcc6 0 _ rfl; have hx6_1 : w9.cell? ⟨go5, (x5_1 : Int).toNat * 2 + 1, none⟩ = some (.int .i64 ((rd_T103 y218 x5_1).f1)) := hcc6 1 _ rfl; have hf6_0 : w9.frozen? ⟨go5, (x5_1 : Int).toNat * 2, none⟩ = false := hfr6 0; have hf6_1 : w9.frozen? ⟨go5, (x5_1 : Int).toNat * 2 + 1, none⟩ = false := hfr6 1; clear hcl6 hcc6 hfr6; (try clear hM6); replace p6 := eq_true p6; replace q6 := eq_true q6; have HX10 := Aside0.mk (show Kd.R k103 103 w9 w0.heap.size (fun k_ => (P0_ k_ ∨ w.heap.size ≤ k_)) (.slice (some ⟨go5, 0, none⟩) x0_1.length co7) y218 from (R1 HO_0)); obtain ⟨ce10, hcl10, hM10, hcc10, hfr10⟩ := Kd.R_elem HX10.out z103 (x5_1 : Int) (oD) (by have h_ : (x5_1 : Int) < ((x0_1.length : Int) : Int) := oD; first | exact h_ | (have e_ := (Kd.R_reads' HO_0.out).1; omega) | simpa using h_); obtain rfl := k103_openM hM10; have HP10 := Kd.R_seg HX10.out (x5_1 : Int) (oD) (by have h_ : (x5_1 : Int) < ((x0_1.length : Int) : Int) := oD; first | exact h_ | (have e_ := (Kd.R_reads' HO_0.out).1; omega) | simpa using h_) (seg := [.int .i64 (wrap64 (x1_1 + 1))]) (j := 1) hcl10 hcc10 (show 2 ≤ 2 from by decide) (x' := (⟨(rd_T103 y218 x5_1).f0, wrap64 (x1_1 + 1)⟩ : S103)) (k103_mkM _ _ _ (⟨(rd_T103 y218 x5_1).f0, wrap64 (x1_1 + 1)⟩ : S103) ) (fun _ hk => hk); have hx10_1 := hcc10 1 _ rfl; (try simp only [show (k103).sz = 2 from rfl, Nat.mul_one, Nat.add_zero] at hx10_1); have hf10_1 := hfr10 1; (try simp only [show (k103).sz = 2 from rfl, Nat.mul_one, Nat.add_zero] at hf10_1); clear hcl10 hcc10 hfr10; (try clear hM10)) | ((with_reducible refine gate_store (t := 2) (p := 23) rfl ?_); refine store_event (t := 2) (p := 23) (v := ?vo_w11) (w1 := (w9.setCell ⟨go5, (x5_1 : Int).toNat * 2 + 1, none⟩ (.int .i64 (wrap64 (x1_1 + 1))))) ?hg ?ho ?hn ?hr ?_; (case ho => rfl); (case hg => rfl); (case hn => rfl); (case hr => first | (go_simp; done) | (go_simp; rfl)); intro w11 hw; have hg : w9.grownBy w11 (some go5) := (by rw [hw]; exact HP10.2); have hp_ : Kd.R k103 103 w11 w0.heap.size (fun k_ => (P0_ k_ ∨ w.heap.size ≤ k_)) (.slice (some ⟨go5, 0, none⟩) x0_1.length co7) y219 := (by rw [hw, Ny219.out]; exact HP10.1); clear HP10; replace HB := Aside0.mk ((by rw [hw]; exact below_set (HB.out) GB5.out : Below w0.heap.size w0 w11)); replace HK := Aside0.mk (Kept.of_grown (S := (fun k_ => P0_ k_)) hg (by repeat (first | (with_reducible first | exact HK.out | apply Kept.alloc | apply Kept.drewN | apply Kept.drew) | exact HK.out)) (fun k_ e_ => (HO_0.out.1 k_ e_))); replace HO_0 := Aside0.mk (hp_); clear hg hw hp_))
          go_roundg k1
          case measure => have := HK1.out; omega
          case rel => exact ⟨(y219), (wrap64 ((wrap64 (x1_1 + 1)) + 1)), (wrap64 (x5_1 + 1)), Fs, Fs, H', ⟨by have := HK1.out; omega⟩, ⟨by (with_reducible repeat (first | apply Kd.R_alloc | apply Kd.R_drewN | apply Kd.R_drew)); exact HO_0.out⟩, ⟨by repeat (first | (with_reducible first | exact HK.out | apply Kept.alloc | apply Kept.drewN | apply Kept.drew) | exact HK.out)⟩, ⟨Hb⟩⟩
        · rw [if_neg c4] at H
          exact absurd H (by simp)
      · rw [if_neg c3] at H
        have c3b0 : decide (x5_1 < (x0_1.length : Int)) = false := decide_eq_false c3
        clear c3
        simp only [Option.some.injEq, Prod.mk.injEq] at H
        obtain ⟨rfl, rfl⟩ := H
        obtain ⟨Ao12, co12, eo12⟩ := Kd.R_slice HO_0.out
        subst eo12
        go_wp2
        go_ret
        exact ⟨Fin, by (with_reducible repeat (first | apply Kd.R_alloc | apply Kd.R_drewN | apply Kd.R_drew)); exact HO_0.out, Hb, by repeat (first | (with_reducible first | exact HK.out | apply Kept.alloc | apply Kept.drewN | apply Kept.drew) | exact HK.out)⟩

/-! ### laws_markInt64S: function 20 -/
def laws_markInt64S.l0 : Nat → List Int → Int → Int → Option (Int × List Int)
  | 0, _, _, _ => none
  | k + 1, x0, x1, x5 => if x5 < (x0.length : Int) then (if 0 ≤ x5 then (laws_markInt64S.l0 k (x0.set (x5 : Int).toNat x1) (wrap64 (x1 + 1)) (wrap64 (x5 + 1))) else (none)) else (some (x1, x0))
def laws_markInt64S.f (k : Nat) (l0 : List Int) (a1 : Int) : Option (Int × List Int) := laws_markInt64S.l0 k l0 a1 0
theorem laws_markInt64S.mono_l : ∀ k, (∀ y0 y1 y2, LeO (laws_markInt64S.l0 k y0 y1 y2) (laws_markInt64S.l0 (k + 1) y0 y1 y2))
  | 0 => fun _ _ _ r h => by simp [laws_markInt64S.l0] at h
  | k + 1 => by
    have ih0 := laws_markInt64S.mono_l k
    · intro y0 y1 y2
      unfold laws_markInt64S.l0
      repeat' first
      | (with_reducible exact ih0 _ _ _)
      | (with_reducible exact LeO.refl _)
      | (with_reducible exact LeO.none _)
      | (with_reducible refine LeO.ite ?_ ?_)
      | (with_reducible refine LeO.bind ?_ (fun _ => ?_))
      | exact ih0 _ _ _
      | exact LeO.none _
      | refine LeO.ite ?_ ?_
      | refine LeO.bind ?_ (fun _ => ?_)
theorem laws_markInt64S.mono : ∀ a0 a1 k, LeO (laws_markInt64S.f k a0 a1) (laws_markInt64S.f (k + 1) a0 a1) := by
  intro a0 a1 k
  have ih0 := laws_markInt64S.mono_l k
  unfold laws_markInt64S.f
  repeat' first
      | (with_reducible exact ih0 _ _ _)
      | (with_reducible exact LeO.refl _)
      | (with_reducible exact LeO.none _)
      | (with_reducible refine LeO.ite ?_ ?_)
      | (with_reducible refine LeO.bind ?_ (fun _ => ?_))
      | exact ih0 _ _ _
      | exact LeO.none _
      | refine LeO.ite ?_ ?_
      | refine LeO.bind ?_ (fun _ => ?_)
set_option maxHeartbeats 8000000 in
set_option maxRecDepth 100000 in
theorem laws_markInt64S.calls (k : Nat) (P0_ : Nat → Prop) (u9000_ : Value) (l0 : List Int) (a1 : Int) (r1 : Int) (r2 : List Int) (w0 w : World) (hB : Below w0.heap.size w0 w) (ho0 : Kd.R (Kd.int .i64) 2 w w0.heap.size P0_ u9000_ l0) (h : laws_markInt64S.f k l0 a1 = some (r1, r2)) :
    Calls Try.prog 20 #[u9000_, .int .i64 a1] w fun e w' => e = .returned (.int .i64 r1) ∧ Kd.R (Kd.int .i64) 2 w' w0.heap.size (fun k_ => (P0_ k_ ∨ w.heap.size ≤ k_)) u9000_ r2 ∧ Below w0.heap.size w0 w' ∧ Kept w w' (fun k_ => P0_ k_) := by
  have HO0 := Aside0.mk (show Kd.R (Kd.int .i64) 2 w w0.heap.size (fun k_ => (P0_ k_ ∨ w.heap.size ≤ k_)) u9000_ l0 from Kd.R_mono ho0 (fun k_ hk => (.inl hk)))
  have HK := Aside0.mk (Kept.refl w (fun k_ => P0_ k_))
  have HW0 := Aside0.mk hB.size
  have HB := Aside0.mk hB
  clear hB
  have H : (laws_markInt64S.l0 k l0 a1 0) = some (r1, r2) := h
  clear h
  have H' := Aside0.mk H
  clear H
  go_enter Try.func20, Try.ntmps20
  go_wp2
  go_loopg [1, 5] k (fun kq v1 v5 w' => ∃ (x0_1 : List Int) (x1_1 : Int) (x5_1 : Int), v1 = .int .i64 x1_1 ∧ v5 = .int .i64 x5_1 ∧ Aside0 (laws_markInt64S.l0 kq x0_1 x1_1 x5_1 = some (r1, r2)) ∧ Aside0 (kq ≤ k) ∧ Aside0 (Kd.R (Kd.int .i64) 2 w' w0.heap.size (fun k_ => (P0_ k_ ∨ w.heap.size ≤ k_)) u9000_ x0_1) ∧ Aside0 (Kept w w' (fun k_ => P0_ k_)) ∧ Aside0 (Below w0.heap.size w0 w'))
  case atStart => exact ⟨(l0), (a1), (0), Fs, Fs, H', ⟨Nat.le_refl _⟩, ⟨by (with_reducible repeat (first | apply Kd.R_alloc | apply Kd.R_drewN | apply Kd.R_drew)); exact HO0.out⟩, ⟨by repeat (first | (with_reducible first | exact HK.out | apply Kept.alloc | apply Kept.drewN | apply Kept.drew) | exact HK.out)⟩, ⟨Hb⟩⟩
  case round =>
    clear H'
    try clear c2
    try clear p2
    obtain ⟨x0_1, x1_1, x5_1, rfl, rfl, HA, HK1, HO_0, HK, HB⟩ := hrel
    cases gk with
    | zero => exact absurd HA.out (by simp [laws_markInt64S.l0])
    | succ k1 =>
      have H := HA.out
      clear HA
      simp only [laws_markInt64S.l0] at H
      by_cases c3 : x5_1 < (x0_1.length : Int)
      · rw [if_pos c3] at H
        have c3b0 : decide (x5_1 < (x0_1.length : Int)) = true := decide_eq_true c3
        clear c3
        by_cases c4 : 0 ≤ x5_1
        · rw [if_pos c4] at H
          have c4b0 : decide (0 ≤ x5_1) = true := decide_eq_true c4
          clear c4
          obtain ⟨y220, hy220⟩ : ∃ y_ : List Int, y_ = (x0_1.set (x5_1 : Int).toNat x1_1) := ⟨_, rfl⟩
          replace H : (laws_markInt64S.l0 k1 y220 (wrap64 (x1_1 + 1)) (wrap64 (x5_1 + 1))) = some (r1, r2) := by first | (rw [hy220]; with_reducible exact H) | (have H2_ := (Option.bind_some _ _).symm.trans H; rw [hy220]; with_reducible exact H2_) | (have H2_ := (Option.bind_some _ _).symm.trans H; with_reducible exact H2_) | with_reducible exact H | (rw [hy220]; exact H) | exact H
          have Ny220 := Aside0.mk hy220
          clear hy220
          have H' := Aside0.mk H
          clear H
          obtain ⟨Ao6, co6, eo6⟩ := Kd.R_slice HO_0.out
          subst eo6
          have p5 : 0 ≤ (x5_1 : Int) := oD
          have q5 : (x5_1 : Int) < ((x0_1.length : Int) : Int) := oD
          obtain ⟨go5, co5, eo5, gb5, gl5, cl5, HG5⟩ := Kd.R_form HO_0.out (by omega)
          (first | cases eo5 | (injection eo5 with ea_ en_ ec_; (first | subst ea_ | (injection ea_ with ea_; subst ea_)); subst ec_; clear en_))
          have GB5 := Aside0.mk gb5
          have GG5 := Aside0.mk HG5
          clear gb5 gl5 HG5
          have HMgo5 := Aside0.mk (show (P0_ go5 ∨ w.heap.size ≤ go5) from (HO_0.out.1 _ rfl))
          obtain ⟨hx5_0, hf5_0⟩ := Kd.R_celln 0 HO_0.out (x5_1 : Int) p5 q5
          replace p5 := eq_true p5
          replace q5 := eq_true q5
          have HP7 := Kd.R_putg HO_0.out (x5_1 : Int) x1_1
          go_wp2_with (first | ((with_reducible refine gate_store (t := 2) (p := 15) rfl ?_); refine store_event (t := 2) (p := 15) (v := ?vo_w8) (w1 := (wr.setCell ⟨go5, (x5_1 : Int).toNat, none⟩ (.int .i64 x1_1))) ?hg ?ho ?hn ?hr ?_; (case ho => rfl); (case hg => rfl); (case hn => rfl); (case hr => first | (go_simp; done) | (go_simp; rfl)); intro w8 hw; have hg : wr.grownBy w8 (some go5) := (by rw [hw]; exact HP7.2); have hp_ : Kd.R (Kd.int .i64) 2 w8 w0.heap.size (fun k_ => (P0_ k_ ∨ w.heap.size ≤ k_)) (.slice (some ⟨go5, 0, none⟩) x0_1.length co6) y220 := (by rw [hw, Ny220.out]; exact HP7.1); clear HP7; replace HB := Aside0.mk ((by rw [hw]; exact below_set (HB.out) GB5.out : Below w0.heap.size w0 w8)); replace HK := Aside0.mk (Kept.of_grown (S := (fun k_ => P0_ k_)) hg (by repeat (first | (with_reducible first | exact HK.out | apply Kept.alloc | apply Kept.drewN | apply Kept.drew) | exact HK.out)) (fun k_ e_ => (HO_0.out.1 k_ e_))); replace HO_0 := Aside0.mk (hp_); clear hg hw hp_))
          go_roundg k1
          case measure => have := HK1.out; omega
          case rel => exact ⟨(y220), (wrap64 (x1_1 + 1)), (wrap64 (x5_1 + 1)), Fs, Fs, H', ⟨by have := HK1.out; omega⟩, ⟨by (with_reducible repeat (first | apply Kd.R_alloc | apply Kd.R_drewN | apply Kd.R_drew)); exact HO_0.out⟩, ⟨by repeat (first | (with_reducible first | exact HK.out | apply Kept.alloc | apply Kept.drewN | apply Kept.drew) | exact HK.out)⟩, ⟨Hb⟩⟩
        · rw [if_neg c4] at H
          exact absurd H (by simp)
      · rw [if_neg c3] at H
        have c3b0 : decide (x5_1 < (x0_1.length : Int)) = false := decide_eq_false c3
        clear c3
        simp only [Option.some.injEq, Prod.mk.injEq] at H
        obtain ⟨rfl, rfl⟩ := H
        obtain ⟨Ao9, co9, eo9⟩ := Kd.R_slice HO_0.out
        subst eo9
        go_wp2
        go_ret
        exact ⟨Fin, by (with_reducible repeat (first | apply Kd.R_alloc | apply Kd.R_drewN | apply Kd.R_drew)); exact HO_0.out, Hb, by repeat (first | (with_reducible first | exact HK.out | apply Kept.alloc | apply Kept.drewN | apply Kept.drew) | exact HK.out)⟩

/-! ### laws_markWeighting: function 42 -/
def laws_markWeighting.f (k : Nat) (a0_0 : Int) (l0_1 : List Int) (a1 : Int) : Option (Int × List Int) := (laws_markInt64S.f k l0_1 a1).bind fun bt222 => (some (bt222.1, bt222.2))
theorem laws_markWeighting.mono : ∀ a0 a1 a2 k, LeO (laws_markWeighting.f k a0 a1 a2) (laws_markWeighting.f (k + 1) a0 a1 a2) := by
  intro a0 a1 a2 k
  unfold laws_markWeighting.f
  repeat' first
      | (with_reducible exact laws_markInt64S.mono _ _ _)
      | (with_reducible exact LeO.refl _)
      | (with_reducible exact LeO.none _)
      | (with_reducible refine LeO.ite ?_ ?_)
      | (with_reducible refine LeO.bind ?_ (fun _ => ?_))
      | exact laws_markInt64S.mono _ _ _
      | exact LeO.none _
      | refine LeO.ite ?_ ?_
      | refine LeO.bind ?_ (fun _ => ?_)
set_option maxHeartbeats 8000000 in
set_option maxRecDepth 100000 in
theorem laws_markWeighting.calls (k : Nat) (a0_0 : Int) (P0_1_ : Nat → Prop) (u9000_ : Value) (l0_1 : List Int) (a1 : Int) (r1 : Int) (r2 : List Int) (w0 w : World) (hB : Below w0.heap.size w0 w) (ho0_1 : Kd.R (Kd.int .i64) 2 w w0.heap.size P0_1_ u9000_ l0_1) (h : laws_markWeighting.f k a0_0 l0_1 a1 = some (r1, r2)) :
    Calls Try.prog 42 #[.agg #[.int .i64 a0_0, u9000_], .int .i64 a1] w fun e w' => e = .returned (.int .i64 r1) ∧ Kd.R (Kd.int .i64) 2 w' w0.heap.size (fun k_ => (P0_1_ k_ ∨ w.heap.size ≤ k_)) u9000_ r2 ∧ Below w0.heap.size w0 w' ∧ Kept w w' (fun k_ => P0_1_ k_) := by
  have hu46 := Try.underlying46
  have HO0_1 := Aside0.mk (show Kd.R (Kd.int .i64) 2 w w0.heap.size (fun k_ => (P0_1_ k_ ∨ w.heap.size ≤ k_)) u9000_ l0_1 from Kd.R_mono ho0_1 (fun k_ hk => (.inl hk)))
  have HK := Aside0.mk (Kept.refl w (fun k_ => P0_1_ k_))
  have HW0 := Aside0.mk hB.size
  have HB := Aside0.mk hB
  clear hB
  have H : ((laws_markInt64S.f k l0_1 a1).bind fun bt222 => (some (bt222.1, bt222.2))) = some (r1, r2) := h
  clear h
  obtain ⟨⟨t222, t223⟩, A30, H⟩ := Option.bind_eq_some_iff.mp H
  dsimp only at H
  have A3 := Aside0.mk A30
  clear A30
  simp only [Option.some.injEq, Prod.mk.injEq] at H
  obtain ⟨rfl, rfl⟩ := H
  obtain ⟨Ao4, co4, eo4⟩ := Kd.R_slice HO0_1.out
  subst eo4
  go_enter Try.func42, Try.ntmps42
  go_wp2_with (first | ((with_reducible refine gD 2 ?_); refine BX #[.int .i64 a0_0, .slice Ao4 l0_1.length co4] 46 ?_; intro gb221 hg w5 hbox hb; replace HO0_1 := Aside0.mk (Kd.R_below (R1 HO0_1) hb); have BK221 := Aside0.mk (hbox); have GW221 := Aside0.mk ((by rw [hg]; exact (by first | exact HK.out.1 | exact (show Kept w _ (fun k_ => P0_1_ k_) from by repeat (first | (with_reducible first | exact HK.out | apply Kept.alloc | apply Kept.drewN | apply Kept.drew) | exact HK.out)).1) : w.heap.size ≤ gb221)); replace HK := Aside0.mk (Kept.below (S := (fun k_ => P0_1_ k_)) (by repeat (first | (with_reducible first | exact HK.out | apply Kept.alloc | apply Kept.drewN | apply Kept.drew) | exact HK.out)) hb); have GE221 := Aside0.mk ((Gle hg Hb : w0.heap.size ≤ gb221)); replace HB := Aside0.mk (below_step Hb hb); clear hb hbox hg; have hcz6_0 : w5.cell? ⟨gb221, 0, none⟩ = some (.int .i64 a0_0) := bc BK221; have hcz6_1 : w5.cell? ⟨gb221, 1, none⟩ = some (.slice Ao4 l0_1.length co4) := bc BK221; have hfz6_0 := blk_frozen BK221.out 0; have hfz6_1 := blk_frozen BK221.out 1) | ((with_reducible refine gC 20 ?_); refine GL (some 8) Try.func20 #[.slice Ao4 l0_1.length co4, .int .i64 a1] ?_; (with_reducible refine (laws_markInt64S.calls k (fun k_ => some k_ = (.slice Ao4 l0_1.length co4 : Value).ownBlock) (.slice Ao4 l0_1.length co4) l0_1 a1 t222 t223 w0 _ ?side1 ?side2 A3.out).mono ?_); (case side1 => repeat (first | (with_reducible first | exact HB.out | apply below_alloc | apply pw_below_drewN | apply below_drew1 | refine below_set ?_ GE221.out) | exact HB.out)); (case side2 => exact Kd.R_tight rfl HO0_1.out); rintro e w7 ⟨rfl, hy0, hb, hkp⟩; refine ⟨_, rfl, ?_⟩; replace BK221 := Aside0.mk (blk_kept (B1 BK221) hkp (fun hs_ => (fun e_ => (Kd.R_ne HO0_1.out BK221.out (by decide)) e_) hs_)); replace HK := Aside0.mk (Kept.then_ (S := (fun k_ => P0_1_ k_)) (by repeat (first | (with_reducible first | exact HK.out | apply Kept.alloc | apply Kept.drewN | apply Kept.drew | refine Kept.setCell ?_ (.inr GW221.out) _) | exact HK.out)) hkp (fun k_ hs_ => (fun e_ => (HO0_1.out.1 k_ e_.symm)) hs_)); replace HO0_1 := Aside0.mk (Kd.R_reok rfl hy0 (fun k_ e_ => HO0_1.out.1 k_ e_)); replace HB := Aside0.mk (hb); (try clear hb); (try clear hkp); (try clear hy0)))
  go_ret
  exact ⟨Fin, by (with_reducible repeat (first | apply Kd.R_alloc | apply Kd.R_drewN | apply Kd.R_drew)); exact HO0_1.out, Hb, by repeat (first | (with_reducible first | exact HK.out | apply Kept.alloc | apply Kept.drewN | apply Kept.drew | refine Kept.setCell ?_ (.inr GW221.out) _) | exact HK.out)⟩

end Go.Proofs.Ytkmlgfihoaneeaa.XFnExactAddWeightings
