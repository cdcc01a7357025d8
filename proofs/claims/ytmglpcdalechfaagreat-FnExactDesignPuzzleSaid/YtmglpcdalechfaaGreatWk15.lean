/- The row of FnExactDesignPuzzle, out of what is left: two plain functions agree. No condition. -/
import Derived.Test.YtmglpcdalechfaaGreatBO
import Derived.Test.YtmglpcdalechfaaGreatWk14
import Derived.Test.YtmglpcdalechfaaGreatBigOpen
import Derived.Test.YtmglpcdalechfaaGreatRows
import Derived.WalkKit
import Derived.ProofKit
import Derived.OpenShut
import Derived.ShutString
import Derived.ChangeOld
import Derived.Below
import Derived.SizedLaws
set_option linter.unusedVariables false
set_option linter.unusedSimpArgs false
section
namespace Go.Proofs.YtmglpcdalechfaaGreat.fnExactDesignPuzzle
open Go Go.Big Go.ChangeShapes Go.WideShapes Go.ChangeAt Go.RowKit Go.Proofs
set_option maxHeartbeats 2000000
def Pure : Prop := ∀ (r : List (Int × Int)) (n : Int) (set : List Int), (∀ x ∈ r, wf64 x.1 ∧ wf64 x.2) → wf64 n → (∀ y ∈ set, wf64 y) → r.length < 1000000000 → set.length < 1000000000 → dpM (regionM r) r n set = dpM (regionS r) r n set ∧ ((dpM (regionM r) r n set).1.1.length < 1000000000) ∧ ((dpM (regionM r) r n set).1.2.length < 1000000000) ∧ (∀ p ∈ (dpM (regionM r) r n set).1.2, p.cs.length < 1000000000) ∧ (cntQ (dpM (regionM r) r n set).1.2 < 100000000000)
theorem own : ownKnob Tryz.prog.godebug = none := by kernel_rfl
theorem laidOut : laidOutB Tryz.prog = true := by kernel_rfl
section
variable {H : Type} {enc : TypeId × Value → H} {w : World} {base : Nat} {spare : Nat → Bool} {held : Bool}
theorem op_cell : Opens enc Tryz.prog w base spare held 151 (fun x : Int × Int => [.i .i64 x.1, .i .i64 x.2]) (fun x => wf64 x.1 ∧ wf64 x.2) :=
  op_fields2 Tryz.underlying151 (by kernel_rfl) rfl (by kernel_rfl) (op_int Tryz.underlying2) (op_int Tryz.underlying2)
theorem op_cells : Opens enc Tryz.prog w base spare held 22 (fun x : List (Int × Int) => [.sl (cells x)]) (fun l => l.length ≤ maxLen ∧ ∀ x ∈ l, wf64 x.1 ∧ wf64 x.2) :=
  op_slice Tryz.underlying22 (of_decide_eq_true (by kernel_rfl)) op_cell
theorem op_piece : Opens enc Tryz.prog w base spare held 61 pieceR (fun p => (p.cs.length ≤ maxLen ∧ ∀ x ∈ p.cs, wf64 x.1 ∧ wf64 x.2) ∧ wf64 p.k ∧ True) :=
  op_iso (fun p : PieceM => (p.cs, p.k, p.b)) (fun a => ⟨a.1, a.2.1, a.2.2⟩) (fun _ => rfl) (op_fields3 Tryz.underlying61 (by kernel_rfl) rfl (by kernel_rfl) (by kernel_rfl) op_cells (op_int Tryz.underlying2) (op_bool Tryz.underlying4))
theorem op_pieces : Opens enc Tryz.prog w base spare held 23 (fun x : List PieceM => [.sl (pieces x)]) (fun l => l.length ≤ maxLen ∧ ∀ p ∈ l, (p.cs.length ≤ maxLen ∧ ∀ x ∈ p.cs, wf64 x.1 ∧ wf64 x.2) ∧ wf64 p.k ∧ True) :=
  op_slice Tryz.underlying23 (of_decide_eq_true (by kernel_rfl)) op_piece
theorem op_puzzle : Opens enc Tryz.prog w base spare held 25 (fun x : List (Int × Int) × List PieceM => [.sl (cells x.1), .sl (pieces x.2)]) (fun x => (x.1.length ≤ maxLen ∧ ∀ y ∈ x.1, wf64 y.1 ∧ wf64 y.2) ∧ (x.2.length ≤ maxLen ∧ ∀ p ∈ x.2, (p.cs.length ≤ maxLen ∧ ∀ y ∈ p.cs, wf64 y.1 ∧ wf64 y.2) ∧ wf64 p.k ∧ True)) :=
  op_fields2 Tryz.underlying25 (by kernel_rfl) rfl (by kernel_rfl) op_cells op_pieces
theorem op_ints : Opens enc Tryz.prog w base spare held 42 (fun x : List Int => [.sl (ints x)]) (fun l => l.length ≤ maxLen ∧ ∀ x ∈ l, wf64 x) :=
  op_slice Tryz.underlying42 (of_decide_eq_true (by kernel_rfl)) (op_int Tryz.underlying2)
theorem op_placement : Opens enc Tryz.prog w base spare held 132 (fun x : Int × List Int => [.i .i64 x.1, .sl (ints x.2)]) (fun x => wf64 x.1 ∧ (x.2.length ≤ maxLen ∧ ∀ y ∈ x.2, wf64 y)) :=
  op_fields2 Tryz.underlying132 (by kernel_rfl) rfl (by kernel_rfl) (op_int Tryz.underlying2) op_ints
theorem op_places : Opens enc Tryz.prog w base spare held 77 (fun x : List (Int × List Int) => [.sl (places x)]) (fun l => l.length ≤ maxLen ∧ ∀ x ∈ l, wf64 x.1 ∧ (x.2.length ≤ maxLen ∧ ∀ y ∈ x.2, wf64 y)) :=
  op_slice Tryz.underlying77 (of_decide_eq_true (by kernel_rfl)) op_placement
end
set_option maxRecDepth 100000 in
theorem lifted {G : Gv} (hGv : GvOk Tryz.prog G) (hA : AllK G) (Pu : Pure) (os : Os) (started : os.Started) (H : Type) (enc : TypeId × Value → H) :
    ReturnsInHanded {} Tryz.checked os 9 .any (Rows.fnExactDesignPuzzleSpec.pre6 enc Tryz.prog Tryz.f9 Rows.fnExactDesignPuzzleRow.domain false) (Rows.fnExactDesignPuzzleSpec.post enc Tryz.prog Tryz.f9 false true false false) := by
  refine returnsInHanded_of_change_sized (C := Tryz.checked) own started (by kernel_rfl) Tryz.func9
    (ChangeSpec.witness6 (enc := enc) (C := Tryz.checked) false ⟨#[], #[.slice none 0 0, .int .i64 0, .slice none 0 0], []⟩ 8 (by kernel_rfl) (by kernel_rfl) (by kernel_rfl) (by kernel_rfl)) ?_
  intro W base args ds gs before hval0 hW _ _ _
  have hval : ∀ (j : Nat) t v, Tryz.f9.params[j]? = some t → args[j]? = some v → Value.okWide Tryz.prog W .any base t v := hval0
  have hW' := hW
  obtain ⟨p, q, hA0, hV, rfl, hfz, hnd⟩ := hW
  have hAr : DataW.TrodAll enc Tryz.prog W 0 (fun _ => true) true Tryz.f9.params.toList args.toList ds p := hA0
  rw [Tryz.params9] at hAr hval
  obtain ⟨v0, vs0, d0, ds0, p0, q0, hargs, rfl, rfl, h0, r0⟩ := trodAll_cons hAr
  obtain ⟨v1, vs1, d1, ds1, p1, q1, rfl, rfl, rfl, h1, r1⟩ := trodAll_cons r0
  obtain ⟨v2, vs2, d2, ds2, p2, q2, rfl, rfl, rfl, h2, r2⟩ := trodAll_cons r1
  obtain ⟨rfl, rfl, rfl⟩ := trodAll_nil r2
  obtain rfl : args = #[v0, v1, v2] := by cases args; simp_all
  obtain ⟨rfl, rfl⟩ := trodVars_none hV
  obtain ⟨b0, len0, cap0, rfl⟩ := okWide_slice Tryz.underlying22 (hval 0 22 v0 rfl rfl)
  obtain ⟨n1, rfl⟩ := okWide_int Tryz.underlying2 (hval 1 2 v1 rfl rfl)
  obtain ⟨b2, len2, cap2, rfl⟩ := okWide_slice Tryz.underlying42 (hval 2 42 v2 rfl rfl)
  have k0 := h0
  have lt0 : ∀ x ∈ p0, x.block < W.heap.size := by obtain ⟨m, hm⟩ := k0; exact DataW.trod_lt m _ _ _ hm
  obtain ⟨fu0, hf0⟩ := h0
  have k1 := h1
  have lt1 : ∀ x ∈ p1, x.block < W.heap.size := by obtain ⟨m, hm⟩ := k1; exact DataW.trod_lt m _ _ _ hm
  obtain ⟨fu1, hf1⟩ := h1
  have k2 := h2
  have lt2 : ∀ x ∈ p2, x.block < W.heap.size := by obtain ⟨m, hm⟩ := k2; exact DataW.trod_lt m _ _ _ hm
  obtain ⟨fu2, hf2⟩ := h2
  obtain ⟨r, ha0, wr1, wr2⟩ := op_cells _ _ _ hf0
  have wr3 : r.length ≤ maxLen := wr1
  obtain ⟨n, ha1, w_n⟩ := op_int Tryz.underlying2 _ _ _ hf1
  obtain ⟨set, ha2, wsetA, wsetB⟩ := op_ints _ _ _ hf2
  have wsetC : set.length ≤ maxLen := wsetA
  clear hA0 hval0
  have hm : maxLen = 9223372036854775807 := rfl
  have hlaw := law_fn G hA r n set (by omega) (by omega) (Pu r n set wr2 w_n wsetB)
  refine (calls_of hGv hlaw W [.slice b0 len0 cap0, .int .i64 n1, .slice b2 len2 cap2] ⟨?_, ?_, ?_, trivial⟩).mono fun e W' ⟨he, bel⟩ => ?_
  · exact avP_ok (p := .sl (cells r)) (by simpa [Value.cells] using ha0.1)
  · exact avP_ok (p := .i .i64 n) (by simpa [Value.cells] using ha1.1)
  · exact avP_ok (p := .sl (ints set)) (by simpa [Value.cells] using ha2.1)
  subst he
  exact ⟨_, rfl, _, _, _, [], _, [], hW', trodAll_mk1 (shut_bool Tryz.underlying4 _), (trodAll_cons_mk (Below.trod laidOut (by kernel_rfl) (of_decide_eq_true (by kernel_rfl)) k0 bel lt0) (trodAll_cons_mk (Below.trod laidOut (by kernel_rfl) (of_decide_eq_true (by kernel_rfl)) k1 bel lt1) (trodAll_cons_mk (Below.trod laidOut (by kernel_rfl) (of_decide_eq_true (by kernel_rfl)) k2 bel lt2) trodAll_mk0))), rfl, bel.frame _, fun h => by cases h⟩
theorem j0 : (Rows.fnExactDesignPuzzleRow.inPlace == Tryz.prog.inPlace 9) = true := by kernel_rfl
theorem j1 : (Rows.fnExactDesignPuzzleRow.unfollowed == Tryz.prog.unfollowed 9) = true := by kernel_rfl
theorem j2 : (Rows.fnExactDesignPuzzleRow.recurses == Tryz.prog.recurses 9) = true := by kernel_rfl
theorem j3 : (Rows.fnExactDesignPuzzleRow.named == Tryz.prog.varsNamed 9) = true := by kernel_rfl
theorem closedF : joinedFacts Tryz.prog 9 Tryz.f9 Rows.fnExactDesignPuzzleSpec Rows.fnExactDesignPuzzleRow = true := by
  unfold joinedFacts
  rw [j0, j1, j2, j3]
  kernel_rfl
theorem over {G : Gv} (hGv : GvOk Tryz.prog G) (hA : AllK G) (Pu : Pure) : Rows.fnExactDesignPuzzleRow.holds Tryz.pinned (OpenSpec.ofChange Rows.fnExactDesignPuzzleSpec) :=
  OpenClaim.holds_of_wide 9 Tryz.f9 rfl rfl rfl rfl rfl rfl rfl ⟨rfl, rfl, rfl, rfl, rfl⟩ rfl rfl rfl rfl rfl (by kernel_rfl) Tryz.func9 closedF
    (of_decide_eq_true (by kernel_rfl)) (by unfold Func.isWrapper; first | (rw [if_pos (by decide +kernel)]; kernel_rfl) | (rw [if_neg (by decide +kernel)]; exact ⟨rfl, rfl⟩))
    (fun os started H enc _ => lifted hGv hA Pu os started H enc)
/-- The row, out of what is left. -/
theorem of_pure {G : Gv} (hGv : GvOk Tryz.prog G) (hA : AllK G) (Pu : Pure) : Rows.FnExactDesignPuzzleSaid := over hGv hA Pu
end Go.Proofs.YtmglpcdalechfaaGreat.fnExactDesignPuzzle
end
