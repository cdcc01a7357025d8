-- Written by ext.py (wip/) over the kit's print: not trusted, Lean checks it.
import Derived.Test.YtkmlgfihoaneeaaRows
import Derived.Test.YtkmlgfihoaneeaaXPFnExactAddWeightings
import Derived.Test.YtkmlgfihoaneeaaOpen
import Derived.WalkKit
import Derived.ProofKit
import Derived.OpenShut
import Derived.ShutString
import Derived.ChangeOld
import Derived.Below
import Derived.SizedLaws
namespace Go.Proofs.Ytkmlgfihoaneeaa.fnExactAddWeightings
open Go.ChangeShapes Go.WideShapes Go.ChangeAt
open Go.ChangeMaps (open_string shut_string)
open Go.RowKit Go.Proofs.Ytkmlgfihoaneeaa.XFnExactAddWeightings Go.Proofs.YtkmlgfihoaneeaaW.PrintWords Go.Proofs.YtkmlgfihoaneeaaW.PrintLast Go.Proofs.YtkmlgfihoaneeaaW.PrintMore
open Go.Proofs.Ytkmlgfihoaneeaa.Open
set_option linter.unusedVariables false
set_option linter.unusedSimpArgs false
theorem own : ownKnob Try.prog.godebug = none := by kernel_rfl
theorem laidOut : laidOutB Try.prog = true := by kernel_rfl
set_option maxRecDepth 100000 in
theorem lifted (Pu : laws_FnExactAddWeightings.Pure) (os : Os) (started : os.Started) (H : Type) (enc : TypeId × Value → H) :
    ReturnsInHanded {} Try.checked os 7 .any (Rows.fnExactAddWeightingsSpec.pre6 enc Try.prog Try.f7 Rows.fnExactAddWeightingsRow.domain false) (Rows.fnExactAddWeightingsSpec.post enc Try.prog Try.f7 false true false false) := by
  refine returnsInHanded_of_change_sized (C := Try.checked) own started (by kernel_rfl) Try.func7
    (ChangeSpec.witness6 (enc := enc) (C := Try.checked) false ⟨#[], #[.slice none 0 0, .agg #[.int .i64 0, .slice none 0 0], .agg #[.int .i64 0, .slice none 0 0]], []⟩ 8 (by kernel_rfl) (by kernel_rfl) (by kernel_rfl) (by kernel_rfl)) ?_
  intro W base args ds gs before hval0 hW _ _ _
  have hval : ∀ (j : Nat) t v, Try.f7.params[j]? = some t → args[j]? = some v → Value.okWide Try.prog W .any base t v := hval0
  have hW' := hW
  obtain ⟨p, q, hA0, hV, rfl, hfz, hnd⟩ := hW
  have hA : DataW.TrodAll enc Try.prog W 0 (fun _ => true) true Try.f7.params.toList args.toList ds p := hA0
  rw [Try.params7] at hA hval
  obtain ⟨v0, vs0, d0, ds0, p0, q0, hargs, rfl, rfl, h0, r0⟩ := trodAll_cons hA
  obtain ⟨v1, vs1, d1, ds1, p1, q1, rfl, rfl, rfl, h1, r1⟩ := trodAll_cons r0
  obtain ⟨v2, vs2, d2, ds2, p2, q2, rfl, rfl, rfl, h2, r2⟩ := trodAll_cons r1
  obtain ⟨rfl, rfl, rfl⟩ := trodAll_nil r2
  obtain rfl : args = #[v0, v1, v2] := by cases args; simp_all
  obtain ⟨rfl, rfl⟩ := trodVars_none hV
  obtain ⟨b0, len0, cap0, rfl⟩ := okWide_slice Try.underlying37 (hval 0 37 v0 rfl rfl)
  have k0 := h0
  have lt0 : ∀ x ∈ p0, x.block < W.heap.size := by obtain ⟨m, hm⟩ := k0; exact DataW.trod_lt m _ _ _ hm
  obtain ⟨fu0, hf0⟩ := h0
  obtain ⟨l0, ⟨A0, c0, hcs0, hc0, hr0⟩, wf0⟩ := (op_slice (K := k105) Try.underlying37 (by kernel_rfl) (op_iso (fun x : S105 => (x.f0, x.f1)) (fun a_ => (⟨a_.1, a_.2⟩ : S105)) (fun _ => rfl) (op_fields2 Try.underlying105 (by kernel_rfl) rfl rfl (by kernel_rfl) (by kernel_rfl) (op_int Try.underlying2) (op_int Try.underlying2)))) _ _ _ hf0
  simp only [Value.cells, List.cons.injEq, Value.slice.injEq, and_true] at hcs0
  obtain ⟨rfl, rfl, rfl⟩ := hcs0
  obtain ⟨cs1, rfl, _⟩ := okWide_struct Try.underlying39 (hval 1 39 v1 rfl rfl)
  have k1 := h1
  have lt1 : ∀ x ∈ p1, x.block < W.heap.size := by obtain ⟨m, hm⟩ := k1; exact DataW.trod_lt m _ _ _ hm
  obtain ⟨fu1, hf1⟩ := h1
  obtain ⟨⟨a1_0, l1_1⟩, ⟨_, _, hcs1, rfl, ⟨A1_1, c1_1, rfl, hc1_1, hr1_1⟩⟩, wf1_0, wf1_1⟩ := (op_fields2 Try.underlying39 (by kernel_rfl) rfl rfl (by kernel_rfl) (by kernel_rfl) (op_int Try.underlying2) (op_slice (K := (Kd.int .i64)) Try.underlying25 (by kernel_rfl) (op_int Try.underlying2))) _ _ _ hf1
  obtain rfl : cs1 = #[.int .i64 a1_0, .slice A1_1 l1_1.length c1_1] := by apply Array.toList_inj.mp; simpa [Value.cells] using hcs1
  obtain ⟨cs2, rfl, _⟩ := okWide_struct Try.underlying39 (hval 2 39 v2 rfl rfl)
  have k2 := h2
  have lt2 : ∀ x ∈ p2, x.block < W.heap.size := by obtain ⟨m, hm⟩ := k2; exact DataW.trod_lt m _ _ _ hm
  obtain ⟨fu2, hf2⟩ := h2
  obtain ⟨⟨a2_0, l2_1⟩, ⟨_, _, hcs2, rfl, ⟨A2_1, c2_1, rfl, hc2_1, hr2_1⟩⟩, wf2_0, wf2_1⟩ := (op_fields2 Try.underlying39 (by kernel_rfl) rfl rfl (by kernel_rfl) (by kernel_rfl) (op_int Try.underlying2) (op_slice (K := (Kd.int .i64)) Try.underlying25 (by kernel_rfl) (op_int Try.underlying2))) _ _ _ hf2
  obtain rfl : cs2 = #[.int .i64 a2_0, .slice A2_1 l2_1.length c2_1] := by apply Array.toList_inj.mp; simpa [Value.cells] using hcs2
  clear hA0 hval0
  obtain ⟨k, hk⟩ := Pu l0 a1_0 l1_1 a2_0 l2_1 wf0 wf1_0 wf1_1 wf2_0 wf2_1
  refine (laws_FnExactAddWeightings.calls k b0 cap0 l0 a1_0 A1_1 c1_1 l1_1 a2_0 A2_1 c2_1 l2_1 true W rfl hr0 hc0 hr1_1 hc1_1 hr2_1 hc2_1 hk).mono fun e W' ⟨he, bel0⟩ => ?_
  have bel : Below W.heap.size W W' := bel0
  subst he
  exact ⟨_, rfl, _, _, _, [], _, [], hW', trodAll_mk1 (shut_bool Try.underlying4 _), (trodAll_cons_mk (Below.trod laidOut (by kernel_rfl) (of_decide_eq_true (by kernel_rfl)) k0 bel lt0) (trodAll_cons_mk (Below.trod laidOut (by kernel_rfl) (of_decide_eq_true (by kernel_rfl)) k1 bel lt1) (trodAll_cons_mk (Below.trod laidOut (by kernel_rfl) (of_decide_eq_true (by kernel_rfl)) k2 bel lt2) trodAll_mk0))), rfl, bel.frame _, fun h => by cases h⟩
theorem over (Pu : laws_FnExactAddWeightings.Pure) : Rows.fnExactAddWeightingsRow.holds Try.pinned (OpenSpec.ofChange Rows.fnExactAddWeightingsSpec) :=
  OpenClaim.holds_of_wide 7 Try.f7 rfl rfl rfl rfl rfl rfl rfl ⟨rfl, rfl, rfl, rfl, rfl⟩ rfl rfl rfl rfl rfl (by kernel_rfl) Try.func7 (by kernel_rfl)
    (of_decide_eq_true (by kernel_rfl)) (by unfold Func.isWrapper; first | (rw [if_pos (by decide +kernel)]; kernel_rfl) | (rw [if_neg (by decide +kernel)]; exact ⟨rfl, rfl⟩))
    (fun os started H enc _ => lifted Pu os started H enc)
/-- The row, out of what is left. -/
theorem of_pure (Pu : laws_FnExactAddWeightings.Pure) : Rows.FnExactAddWeightingsSaid := over Pu
end Go.Proofs.Ytkmlgfihoaneeaa.fnExactAddWeightings
