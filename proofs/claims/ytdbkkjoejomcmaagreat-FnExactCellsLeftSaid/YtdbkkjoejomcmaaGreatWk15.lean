/- Walks: The row of FnExactCellsLeft, out of what is left: two plain functions agree. No condition. | Plain law: what the one program computes of a puzzle and a placement is what the other does. No condition. | Plain law: the copies that are left, both programs. No condition. | Plain law: the cells that are left, both programs. No condition. | The sorts' contracts hold. No condition. -/
import Derived.Test.YtdbkkjoejomcmaaGreatBO
import Derived.Test.YtdbkkjoejomcmaaGreatWk14
import Derived.Test.YtdbkkjoejomcmaaGreatBigOpen
import Derived.Test.YtdbkkjoejomcmaaGreatRows
import Derived.WalkKit
import Derived.ProofKit
import Derived.OpenShut
import Derived.ShutString
import Derived.ChangeOld
import Derived.Below
import Derived.SizedLaws
import Derived.Test.YtdbkkjoejomcmaaGreatWk8
import Derived.Test.YtdbkkjoejomcmaaGreatWk11
import Derived.Test.YtdbkkjoejomcmaaGreatWk12
import Derived.Test.YtdbkkjoejomcmaaGreatWk4
import Derived.Test.YtdbkkjoejomcmaaGreatWk5
import Derived.Test.YtdbkkjoejomcmaaGreatShelf
set_option linter.unusedVariables false
set_option linter.unusedSimpArgs false
section
namespace Go.Proofs.YtdbkkjoejomcmaaGreat.fnExactCellsLeft
open Go Go.Big Go.ChangeShapes Go.WideShapes Go.ChangeAt Go.RowKit Go.Proofs
set_option maxHeartbeats 2000000
def Pure : Prop := ∀ (r : List (Int × Int)) (l : List PieceM) (s : List (Int × List Int)), (∀ x ∈ r, wf64 x.1 ∧ wf64 x.2) → (∀ p ∈ l, (∀ x ∈ p.cs, wf64 x.1 ∧ wf64 x.2) ∧ wf64 p.k) → (∀ x ∈ s, wf64 x.1 ∧ ∀ y ∈ x.2, wf64 y) →
  r.length < 1000000000 → l.length < 1000000000 → s.length < 1000000000 → (∀ p ∈ l, p.cs.length < 1000000000) → (∀ x ∈ s, x.2.length < 1000000000) → cleftI r l s = cleftS r l s ∧ (cleftI r l s).1.length < 1000000000
theorem own : ownKnob Tryz.prog.godebug = none := by kernel_rfl
theorem laidOut : laidOutB Tryz.prog = true := by kernel_rfl
section
variable {H : Type} {enc : TypeId × Value → H} {w : World} {base : Nat} {spare : Nat → Bool} {held : Bool}
theorem op_cell : Opens enc Tryz.prog w base spare held 119 (fun x : Int × Int => [.i .i64 x.1, .i .i64 x.2]) (fun x => wf64 x.1 ∧ wf64 x.2) :=
  op_fields2 Tryz.underlying119 (by kernel_rfl) rfl (by kernel_rfl) (op_int Tryz.underlying2) (op_int Tryz.underlying2)
theorem op_cells : Opens enc Tryz.prog w base spare held 22 (fun x : List (Int × Int) => [.sl (cells x)]) (fun l => l.length ≤ maxLen ∧ ∀ x ∈ l, wf64 x.1 ∧ wf64 x.2) :=
  op_slice Tryz.underlying22 (of_decide_eq_true (by kernel_rfl)) op_cell
theorem op_piece : Opens enc Tryz.prog w base spare held 114 pieceR (fun p => (p.cs.length ≤ maxLen ∧ ∀ x ∈ p.cs, wf64 x.1 ∧ wf64 x.2) ∧ wf64 p.k ∧ True) :=
  op_iso (fun p : PieceM => (p.cs, p.k, p.b)) (fun a => ⟨a.1, a.2.1, a.2.2⟩) (fun _ => rfl) (op_fields3 Tryz.underlying114 (by kernel_rfl) rfl (by kernel_rfl) (by kernel_rfl) op_cells (op_int Tryz.underlying2) (op_bool Tryz.underlying4))
theorem op_pieces : Opens enc Tryz.prog w base spare held 23 (fun x : List PieceM => [.sl (pieces x)]) (fun l => l.length ≤ maxLen ∧ ∀ p ∈ l, (p.cs.length ≤ maxLen ∧ ∀ x ∈ p.cs, wf64 x.1 ∧ wf64 x.2) ∧ wf64 p.k ∧ True) :=
  op_slice Tryz.underlying23 (of_decide_eq_true (by kernel_rfl)) op_piece
theorem op_puzzle : Opens enc Tryz.prog w base spare held 25 (fun x : List (Int × Int) × List PieceM => [.sl (cells x.1), .sl (pieces x.2)]) (fun x => (x.1.length ≤ maxLen ∧ ∀ y ∈ x.1, wf64 y.1 ∧ wf64 y.2) ∧ (x.2.length ≤ maxLen ∧ ∀ p ∈ x.2, (p.cs.length ≤ maxLen ∧ ∀ y ∈ p.cs, wf64 y.1 ∧ wf64 y.2) ∧ wf64 p.k ∧ True)) :=
  op_fields2 Tryz.underlying25 (by kernel_rfl) rfl (by kernel_rfl) op_cells op_pieces
theorem op_ints : Opens enc Tryz.prog w base spare held 29 (fun x : List Int => [.sl (ints x)]) (fun l => l.length ≤ maxLen ∧ ∀ x ∈ l, wf64 x) :=
  op_slice Tryz.underlying29 (of_decide_eq_true (by kernel_rfl)) (op_int Tryz.underlying2)
theorem op_placement : Opens enc Tryz.prog w base spare held 53 (fun x : Int × List Int => [.i .i64 x.1, .sl (ints x.2)]) (fun x => wf64 x.1 ∧ (x.2.length ≤ maxLen ∧ ∀ y ∈ x.2, wf64 y)) :=
  op_fields2 Tryz.underlying53 (by kernel_rfl) rfl (by kernel_rfl) (op_int Tryz.underlying2) op_ints
theorem op_places : Opens enc Tryz.prog w base spare held 26 (fun x : List (Int × List Int) => [.sl (places x)]) (fun l => l.length ≤ maxLen ∧ ∀ x ∈ l, wf64 x.1 ∧ (x.2.length ≤ maxLen ∧ ∀ y ∈ x.2, wf64 y)) :=
  op_slice Tryz.underlying26 (of_decide_eq_true (by kernel_rfl)) op_placement
end
set_option maxRecDepth 100000 in
theorem lifted {G : Gv} (hGv : GvOk Tryz.prog G) (hG : ∀ f args H n r H' n', sortsG f args H n r H' n' → G f args H n r H' n') (hG1 : ∀ f args H n r H' n', sortsG1 f args H n r H' n' → G f args H n r H' n') (Pu : Pure) (os : Os) (started : os.Started) (H : Type) (enc : TypeId × Value → H) :
    ReturnsInHanded {} Tryz.checked os 4 .any (Rows.fnExactCellsLeftSpec.pre6 enc Tryz.prog Tryz.f4 Rows.fnExactCellsLeftRow.domain false) (Rows.fnExactCellsLeftSpec.post enc Tryz.prog Tryz.f4 false true false false) := by
  refine returnsInHanded_of_change_sized (C := Tryz.checked) own started (by kernel_rfl) Tryz.func4
    (ChangeSpec.witness6 (enc := enc) (C := Tryz.checked) false ⟨#[], #[.agg #[.slice none 0 0, .slice none 0 0], .slice none 0 0], []⟩ 8 (by kernel_rfl) (by kernel_rfl) (by kernel_rfl) (by kernel_rfl)) ?_
  intro W base args ds gs before hval0 hW _ _ _
  have hval : ∀ (j : Nat) t v, Tryz.f4.params[j]? = some t → args[j]? = some v → Value.okWide Tryz.prog W .any base t v := hval0
  have hW' := hW
  obtain ⟨p, q, hA0, hV, rfl, hfz, hnd⟩ := hW
  have hA : DataW.TrodAll enc Tryz.prog W 0 (fun _ => true) true Tryz.f4.params.toList args.toList ds p := hA0
  rw [Tryz.params4] at hA hval
  obtain ⟨v0, vs0, d0, ds0, p0, q0, hargs, rfl, rfl, h0, r0⟩ := trodAll_cons hA
  obtain ⟨v1, vs1, d1, ds1, p1, q1, rfl, rfl, rfl, h1, r1⟩ := trodAll_cons r0
  obtain ⟨rfl, rfl, rfl⟩ := trodAll_nil r1
  obtain rfl : args = #[v0, v1] := by cases args; simp_all
  obtain ⟨rfl, rfl⟩ := trodVars_none hV
  obtain ⟨cs0, rfl, _⟩ := okWide_struct Tryz.underlying25 (hval 0 25 v0 rfl rfl)
  obtain ⟨b1, len1, cap1, rfl⟩ := okWide_slice Tryz.underlying26 (hval 1 26 v1 rfl rfl)
  have k0 := h0
  have k1 := h1
  have lt0 : ∀ x ∈ p0, x.block < W.heap.size := by obtain ⟨m, hm⟩ := k0; exact DataW.trod_lt m _ _ _ hm
  have lt1 : ∀ x ∈ p1, x.block < W.heap.size := by obtain ⟨m, hm⟩ := k1; exact DataW.trod_lt m _ _ _ hm
  obtain ⟨fu0, hf0⟩ := h0
  obtain ⟨fu1, hf1⟩ := h1
  obtain ⟨⟨r, l⟩, ha0, ⟨wr1, wr2⟩, wl1, wl2⟩ := op_puzzle _ _ _ hf0
  obtain ⟨s, ha1, ws1, ws2⟩ := op_places _ _ _ hf1
  clear hA0 hval0
  have hm : maxLen = 9223372036854775807 := rfl
  have wr3 : r.length ≤ maxLen := wr1
  have wl3 : l.length ≤ maxLen := wl1
  have ws3 : s.length ≤ maxLen := ws1
  have hlaw := law_fn G hG hG1 r l s (by omega) (by omega) (by omega) (fun p hp => by have := (wl2 p hp).1.1; omega) (fun x hx => by have := (ws2 x hx).2.1; omega)
    (Pu r l s wr2 (fun p hp => ⟨(wl2 p hp).1.2, (wl2 p hp).2.1⟩) (fun x hx => ⟨(ws2 x hx).1, (ws2 x hx).2.2⟩))
  refine (calls_of hGv hlaw W [.agg cs0, .slice b1 len1 cap1] ⟨?_, ?_, trivial⟩).mono fun e W' ⟨he, bel⟩ => ?_
  · simp only [vrep]
    exact ⟨cs0, rfl, avsP_ok (ps := [.sl (cells r), .sl (pieces l)]) (by simpa [Value.cells] using ha0)⟩
  · exact avP_ok (p := .sl (places s)) (by simpa [Value.cells] using ha1.1)
  subst he
  exact ⟨_, rfl, _, _, _, [], _, [], hW', trodAll_mk1 (shut_bool Tryz.underlying4 _), (trodAll_cons_mk (Below.trod laidOut (by kernel_rfl) (of_decide_eq_true (by kernel_rfl)) k0 bel lt0) (trodAll_cons_mk (Below.trod laidOut (by kernel_rfl) (of_decide_eq_true (by kernel_rfl)) k1 bel lt1) trodAll_mk0)), rfl, bel.frame _, fun h => by cases h⟩
theorem j0 : (Rows.fnExactCellsLeftRow.inPlace == Tryz.prog.inPlace 4) = true := by kernel_rfl
theorem j1 : (Rows.fnExactCellsLeftRow.unfollowed == Tryz.prog.unfollowed 4) = true := by kernel_rfl
theorem j2 : (Rows.fnExactCellsLeftRow.recurses == Tryz.prog.recurses 4) = true := by kernel_rfl
theorem j3 : (Rows.fnExactCellsLeftRow.named == Tryz.prog.varsNamed 4) = true := by kernel_rfl
theorem closedF : joinedFacts Tryz.prog 4 Tryz.f4 Rows.fnExactCellsLeftSpec Rows.fnExactCellsLeftRow = true := by
  unfold joinedFacts
  rw [j0, j1, j2, j3]
  kernel_rfl
theorem over {G : Gv} (hGv : GvOk Tryz.prog G) (hG : ∀ f args H n r H' n', sortsG f args H n r H' n' → G f args H n r H' n') (hG1 : ∀ f args H n r H' n', sortsG1 f args H n r H' n' → G f args H n r H' n') (Pu : Pure) : Rows.fnExactCellsLeftRow.holds Tryz.pinned (OpenSpec.ofChange Rows.fnExactCellsLeftSpec) :=
  OpenClaim.holds_of_wide 4 Tryz.f4 rfl rfl rfl rfl rfl rfl rfl ⟨rfl, rfl, rfl, rfl, rfl⟩ rfl rfl rfl rfl rfl (by kernel_rfl) Tryz.func4 closedF
    (of_decide_eq_true (by kernel_rfl)) (by unfold Func.isWrapper; first | (rw [if_pos (by decide +kernel)]; kernel_rfl) | (rw [if_neg (by decide +kernel)]; exact ⟨rfl, rfl⟩))
    (fun os started H enc _ => lifted hGv hG hG1 Pu os started H enc)
/-- The row, out of what is left. -/
theorem of_pure {G : Gv} (hGv : GvOk Tryz.prog G) (hG : ∀ f args H n r H' n', sortsG f args H n r H' n' → G f args H n r H' n') (hG1 : ∀ f args H n r H' n', sortsG1 f args H n r H' n' → G f args H n r H' n') (Pu : Pure) : Rows.FnExactCellsLeftSaid := over hGv hG hG1 Pu
end Go.Proofs.YtdbkkjoejomcmaaGreat.fnExactCellsLeft
end
section
open Go Go.Big
namespace Go.Proofs
set_option maxHeartbeats 2000000
theorem maxI_le {a b c : Int} : maxI a b ≤ c ↔ a ≤ c ∧ b ≤ c := by unfold maxI; split <;> omega
theorem fold_max1 (f : Int × Int → Int × Int) (b : Int) : ∀ (l : List (Int × Int)) (s : Int × Int), (l.foldl (fun s p => (maxI s.1 (f p).1, maxI s.2 (f p).2)) s).1 ≤ b ↔ s.1 ≤ b ∧ ∀ p ∈ l, (f p).1 ≤ b
  | [], s => by simp
  | p :: l, s => by rw [List.foldl_cons, fold_max1 f b l, maxI_le]; simp [and_assoc]
theorem fold_max2 (f : Int × Int → Int × Int) (b : Int) : ∀ (l : List (Int × Int)) (s : Int × Int), (l.foldl (fun s p => (maxI s.1 (f p).1, maxI s.2 (f p).2)) s).2 ≤ b ↔ s.2 ≤ b ∧ ∀ p ∈ l, (f p).2 ≤ b
  | [], s => by simp
  | p :: l, s => by rw [List.foldl_cons, fold_max2 f b l, maxI_le]; simp [and_assoc]
theorem wrap_small {n : Int} (h : inC n = true) : IntKind.i64.wrap (IntKind.i64.wrap (n - 0) + 1) = n + 1 := by
  simp only [inC, Bool.and_eq_true, decide_eq_true_eq] at h
  have h1 : IntKind.i64.wrap (n - 0) = n := by simp [IntKind.wrap, IntKind.bits, IntKind.signed]; omega
  rw [h1]
  simp [IntKind.wrap, IntKind.bits, IntKind.signed]; omega
theorem regionM_S (l : List (Int × Int)) : regionM l = regionS l := by
  unfold regionM regionS
  by_cases hs : shapeM l = true
  · obtain ⟨_, hc, hp, _⟩ := shapeM_spec hs
    rw [hs]
    generalize hq : minF l l.length = q
    obtain ⟨a, b⟩ := q
    by_cases h0 : a = 0 ∧ b = 0
    · obtain ⟨rfl, rfl⟩ := h0
      have hmem : l.getD 0 (0, 0) ∈ l := by
        cases l with
        | nil => simp at hp
        | cons x l => simp
      have e1 : (maxF l l.length).1 < 20 ↔ (sizeM l).1 ≤ 20 := by
        have m1 := fold_max1 (fun p => p) 19 l (l.getD 0 (0, 0))
        have m2 := fold_max1 (fun p => (IntKind.i64.wrap (IntKind.i64.wrap (p.1 - 0) + 1), IntKind.i64.wrap (IntKind.i64.wrap (p.2 - 0) + 1))) 20 l (0, 0)
        unfold sizeM sizeF maxF
        rw [hq, List.take_length]
        simp only at m1 m2 ⊢
        rw [m2, show ∀ x : Int, x < 20 ↔ x ≤ 19 by omega, m1]
        constructor
        · rintro ⟨_, h⟩
          refine ⟨by omega, fun p hp => ?_⟩
          rw [wrap_small (hc p hp).1]
          have := h p hp
          omega
        · rintro ⟨_, h⟩
          have h' : ∀ p ∈ l, p.1 ≤ 19 := fun p hp => by
            have := h p hp
            rw [wrap_small (hc p hp).1] at this
            omega
          exact ⟨h' _ hmem, h'⟩
      have e2 : (maxF l l.length).2 < 20 ↔ (sizeM l).2 ≤ 20 := by
        have m1 := fold_max2 (fun p => p) 19 l (l.getD 0 (0, 0))
        have m2 := fold_max2 (fun p => (IntKind.i64.wrap (IntKind.i64.wrap (p.1 - 0) + 1), IntKind.i64.wrap (IntKind.i64.wrap (p.2 - 0) + 1))) 20 l (0, 0)
        unfold sizeM sizeF maxF
        rw [hq, List.take_length]
        simp only at m1 m2 ⊢
        rw [m2, show ∀ x : Int, x < 20 ↔ x ≤ 19 by omega, m1]
        constructor
        · rintro ⟨_, h⟩
          refine ⟨by omega, fun p hp => ?_⟩
          rw [wrap_small (hc p hp).2]
          have := h p hp
          omega
        · rintro ⟨_, h⟩
          have h' : ∀ p ∈ l, p.2 ≤ 19 := fun p hp => by
            have := h p hp
            rw [wrap_small (hc p hp).2] at this
            omega
          exact ⟨h' _ hmem, h'⟩
      simp [e1, e2]
    · have : ((a, b) == ((0, 0) : Int × Int)) = false := by
        rw [beq_eq_false_iff_ne]; intro e; exact h0 (by simpa using e)
      have h2 : (a == 0 && b == 0) = false := by
        rw [Bool.eq_false_iff]; intro e; exact h0 (by simpa using e)
      rw [this]
      simp only [h2, Bool.false_and, Bool.and_false]
  · rw [Bool.eq_false_iff.mpr hs]; simp
theorem set_nn {out : List Int} {k : Nat} {v : Int} (hv : 0 ≤ v) (j : Nat) (h : 0 ≤ out.getD j 0) : 0 ≤ (out.set k v).getD j 0 := by
  simp only [List.getD_eq_getElem?_getD, List.getElem?_set] at h ⊢
  split
  · split <;> simp [hv]
  · exact h
theorem lookP_nn {l : List (Int × Int)} {i : Int} (hi : 0 ≤ i) {s : List Int × List Int} {c : Int × Int} (j : Nat) (h : 0 ≤ s.1.getD j 0) : 0 ≤ (lookP l i s c).1.getD j 0 := by
  unfold lookP
  split
  · exact set_nn hi j h
  · exact h
theorem lookF_nn {l : List (Int × Int)} {i : Int} (hi : 0 ≤ i) (j : Nat) : ∀ {cs : List (Int × Int)} {s : List Int × List Int}, 0 ≤ s.1.getD j 0 → 0 ≤ (cs.foldl (lookP l i) s).1.getD j 0
  | [], _, h => h
  | c :: cs, s, h => lookF_nn hi j (cs := cs) (lookP_nn hi j h)
theorem runP_nn {l : List (Int × Int)} {i : Int} (hi : 0 ≤ i) (j : Nat) : ∀ {f : Nat} {out rest : List Int}, 0 ≤ out.getD j 0 → 0 ≤ (runP l i f out rest).getD j 0
  | 0, _, _, h => by simpa [runP] using h
  | f + 1, out, [], h => by simpa [runP] using h
  | f + 1, out, c :: rest, h => by
    rw [runP]
    exact runP_nn hi j (lookF_nn hi j h)
theorem startP_nn {l : List (Int × Int)} {out : List Int} {i : Nat} (j : Nat) (h : 0 ≤ out.getD j 0 ∨ j = i) : 0 ≤ (startP l out i).getD j 0 := by
  unfold startP
  split
  · rename_i hc
    rcases h with h | rfl
    · exact h
    · exact hc
  · refine runP_nn (by omega) j ?_
    rcases h with h | rfl
    · exact set_nn (by omega) j h
    · simp only [List.getD_eq_getElem?_getD, List.getElem?_set]
      simp only [if_true]
      split <;> simp
theorem partsM_nn (l : List (Int × Int)) : ∀ (i j : Nat), j < i → 0 ≤ (partsM l i).getD j 0
  | 0, j, h => by omega
  | i + 1, j, h => by
    rw [partsM_succ]
    by_cases hj : j < i
    · exact startP_nn j (Or.inl (partsM_nn l i j hj))
    · exact startP_nn j (Or.inr (by omega))
theorem fold_maxI (b : Int) : ∀ (l : List Int) (s : Int), l.foldl maxI s ≤ b ↔ s ≤ b ∧ ∀ p ∈ l, p ≤ b
  | [], s => by simp
  | p :: l, s => by rw [List.foldl_cons, fold_maxI b l, maxI_le]; simp [and_assoc]
theorem conn_eq {l : List (Int × Int)} (h : 1 ≤ l.length) : connM l = connS l := by
  unfold connM connS maxLF zerosM
  have hlen := partsM_len l (Nat.le_refl l.length)
  have hnn := partsM_nn l l.length
  generalize partsM l l.length = o at hlen hnn ⊢
  have hall : ∀ p ∈ o, 0 ≤ p := fun p hp => by
    obtain ⟨j, hj, rfl⟩ := List.mem_iff_getElem.mp hp
    have := hnn j (by omega)
    simpa [List.getD_eq_getElem?_getD, hj] using this
  rw [← hlen, List.take_length]
  have h0 : o.getD 0 0 ∈ o := by
    cases o with
    | nil => simp at hlen; omega
    | cons x o => simp
  have m1 := fold_maxI 0 o (o.getD 0 0)
  have m2 := fold_maxI (-1) o (o.getD 0 0)
  have h1 := hall _ h0
  rw [Bool.eq_iff_iff]
  simp only [beq_iff_eq, List.all_eq_true, List.mem_range]
  constructor
  · intro e j hj
    have hx := (m1.mp (by omega)).2 (o.getD j 0) (by simp [List.getD_eq_getElem?_getD, hj])
    have := hnn j (by omega)
    omega
  · intro e
    have : o.foldl maxI (o.getD 0 0) ≤ 0 := m1.mpr ⟨by have := e 0 (by omega); omega, fun p hp => by
      obtain ⟨j, hj, rfl⟩ := List.mem_iff_getElem.mp hp
      have := e j hj
      simp [List.getD_eq_getElem?_getD, hj] at this
      omega⟩
    have h3 : ¬ o.foldl maxI (o.getD 0 0) ≤ -1 := fun hx => by have := (m2.mp hx).1; omega
    omega
theorem piece_eq (p : PieceM) : pieceM p = pieceS p := by
  unfold pieceM pieceS
  rw [← regionM_S]
  by_cases h : regionM p.cs = true
  · have hs := regionM_shape h
    rw [h, hs, conn_eq (shapeM_spec hs).2.2.1]
    simp
  · rw [Bool.eq_false_iff.mpr h]; simp
/-- Two strictly sorted lists of the same shapes are one. -/
theorem sorted_ext : ∀ {l k : List Shape}, l.Pairwise (fun a b => cmpM a b < 0) → k.Pairwise (fun a b => cmpM a b < 0) → (∀ x, x ∈ l ↔ x ∈ k) → l = k
  | [], [], _, _, _ => rfl
  | [], y :: k, _, _, h => absurd ((h y).mpr (by simp)) (by simp)
  | x :: l, [], _, _, h => absurd ((h x).mp (by simp)) (by simp)
  | x :: l, y :: k, hl, hk, h => by
    rw [List.pairwise_cons] at hl hk
    have hxy : x = y := by
      rcases List.mem_cons.mp ((h x).mp (by simp)) with e | e
      · exact e
      · rcases List.mem_cons.mp ((h y).mpr (by simp)) with e' | e'
        · exact e'.symm
        · exact absurd (cmpM_trans (hl.1 y e') (hk.1 x e)) (cmpM_irrefl x)
    subst hxy
    rw [sorted_ext hl.2 hk.2 fun z => ?_]
    constructor
    · intro hz
      rcases List.mem_cons.mp ((h z).mp (List.mem_cons_of_mem _ hz)) with e | e
      · subst e; exact absurd (hl.1 _ hz) (cmpM_irrefl _)
      · exact e
    · intro hz
      rcases List.mem_cons.mp ((h z).mpr (List.mem_cons_of_mem _ hz)) with e | e
      · subst e; exact absurd (hk.1 _ hz) (cmpM_irrefl _)
      · exact e
theorem insS_iff {c x : Shape} : ∀ {ls : List Shape}, x ∈ insS c ls ↔ x = c ∨ x ∈ ls
  | [] => by simp [insS]
  | y :: ls => by
    unfold insS
    split
    · simp
    · rw [List.mem_cons, insS_iff, List.mem_cons]
      constructor
      · rintro (h | h | h)
        · exact Or.inr (Or.inl h)
        · exact Or.inl h
        · exact Or.inr (Or.inr h)
      · rintro (h | h | h)
        · exact Or.inr (Or.inl h)
        · exact Or.inl h
        · exact Or.inr (Or.inr h)
theorem insS_sorted {c : Shape} : ∀ {ls : List Shape}, c ∉ ls → ls.Pairwise (fun a b => cmpM a b < 0) → (insS c ls).Pairwise (fun a b => cmpM a b < 0)
  | [], _, _ => by simp [insS]
  | y :: ls, hc, h => by
    rw [List.pairwise_cons] at h
    unfold insS
    split
    · rename_i hlt
      rw [List.pairwise_cons]
      refine ⟨fun z hz => ?_, List.pairwise_cons.mpr h⟩
      rcases List.mem_cons.mp hz with rfl | hz
      · exact hlt
      · exact cmpM_trans hlt (h.1 z hz)
    · rename_i hnlt
      rw [List.pairwise_cons]
      refine ⟨fun z hz => ?_, insS_sorted (fun hx => hc (List.mem_cons_of_mem _ hx)) h.2⟩
      rcases insS_iff.mp hz with rfl | hz
      · rcases cmpM_trich z y with e | e | e
        · exact absurd e hnlt
        · subst e; exact absurd List.mem_cons_self hc
        · exact e
      · exact h.1 z hz
theorem any_same {c : Shape} {ls : List Shape} : (List.range ls.length).any (sameAt c ls) = true ↔ c ∈ ls := by
  rw [List.any_eq_true]
  constructor
  · rintro ⟨i, hi, he⟩
    rw [List.mem_range] at hi
    simp only [sameAt, beq_iff_eq] at he
    have := cmpM_zero.mp he
    rw [this]
    simp [List.getD_eq_getElem?_getD, hi]
  · intro h
    obtain ⟨j, hj, e⟩ := List.mem_iff_getElem.mp h
    refine ⟨j, List.mem_range.mpr hj, ?_⟩
    simp only [sameAt, beq_iff_eq]
    rw [cmpM_zero]
    simp [List.getD_eq_getElem?_getD, hj, e]
theorem addS_iff {c x : Shape} {ls : List Shape} : x ∈ addS c ls ↔ x = c ∨ x ∈ ls := by
  unfold addS
  split
  · rename_i h
    have := any_same.mp h
    constructor
    · exact Or.inr
    · rintro (rfl | h)
      · exact this
      · exact h
  · exact insS_iff
theorem addS_sorted {c : Shape} {ls : List Shape} (h : ls.Pairwise (fun a b => cmpM a b < 0)) : (addS c ls).Pairwise (fun a b => cmpM a b < 0) := by
  unfold addS
  split
  · exact h
  · rename_i hn
    exact insS_sorted (fun hc => hn (any_same.mpr hc)) h
theorem formsF_iff (l : Shape) (x : Shape) : ∀ t, x ∈ formsF l t ↔ ∃ i, i < t ∧ x = formM l i
  | 0 => by simp [formsF]
  | t + 1 => by
    rw [formsF_succ, addS_iff, formsF_iff l x t]
    constructor
    · rintro (h | ⟨i, hi, h⟩)
      · exact ⟨t, by omega, h⟩
      · exact ⟨i, by omega, h⟩
    · rintro ⟨i, hi, h⟩
      by_cases e : i = t
      · subst e; exact Or.inl h
      · exact Or.inr ⟨i, by omega, h⟩
theorem formsF_sorted (l : Shape) : ∀ t, (formsF l t).Pairwise (fun a b => cmpM a b < 0)
  | 0 => by simp [formsF]
  | t + 1 => by rw [formsF_succ]; exact addS_sorted (formsF_sorted l t)
theorem cptA_iff {x z : Shape} : ∀ {l : List Shape}, (z = x ∨ z ∈ cptA x l) ↔ (z = x ∨ z ∈ l)
  | [] => by simp [cptA]
  | y :: l => by
    unfold cptA
    split
    · rename_i h
      subst h
      rw [cptA_iff (l := l)]
      simp
    · rw [List.mem_cons, cptA_iff (l := l), List.mem_cons]
theorem cptA_sorted {x : Shape} : ∀ {l : List Shape}, (x :: l).Pairwise (fun a b => ¬ cmpM b a < 0) → (x :: cptA x l).Pairwise (fun a b => cmpM a b < 0)
  | [], _ => by simp [cptA]
  | y :: l, h => by
    rw [List.pairwise_cons] at h
    unfold cptA
    split
    · rename_i e
      subst e
      exact cptA_sorted h.2
    · rename_i ne
      have h1 := cptA_sorted h.2
      have hxy : cmpM x y < 0 := by
        rcases cmpM_trich x y with e | e | e
        · exact e
        · exact absurd e.symm ne
        · exact absurd e (h.1 y (by simp))
      rw [List.pairwise_cons]
      refine ⟨fun z hz => ?_, h1⟩
      rcases List.mem_cons.mp hz with rfl | hz
      · exact hxy
      · exact cmpM_trans hxy ((List.pairwise_cons.mp h1).1 z hz)
theorem compactS_iff {z : Shape} {l : List Shape} : z ∈ compactS l ↔ z ∈ l := by
  cases l with
  | nil => simp [compactS]
  | cons x l => rw [compactS, List.mem_cons, List.mem_cons, cptA_iff]
theorem compactS_sorted {l : List Shape} (h : l.Pairwise (fun a b => ¬ cmpM b a < 0)) : (compactS l).Pairwise (fun a b => cmpM a b < 0) := by
  cases l with
  | nil => simp [compactS]
  | cons x l => exact cptA_sorted h
theorem forms_eq (p : PieceM) : formsI p = formsP p := by
  unfold formsI formsP tidyM
  refine sorted_ext (compactS_sorted (orderS_sorted _)) (formsF_sorted _ _) fun x => ?_
  rw [compactS_iff, (orderS_perm _).mem_iff, formsF_iff]
  simp only [formsL, List.mem_map, List.mem_range]
  exact ⟨fun ⟨i, h1, h2⟩ => ⟨i, h1, h2.symm⟩, fun ⟨i, h1, h2⟩ => ⟨i, h1, h2.symm⟩⟩
theorem cmp_dec (a b : Shape) : (cmpM a b == 0) = decide (a = b) := by
  rw [Bool.eq_iff_iff]; simp [cmpM_zero]
theorem alike_eq (p q : PieceM) : alikeS p q = (decide (p.cs.length = q.cs.length) && alikeI p q) := by
  unfold alikeS alikeI
  rw [forms_eq, forms_eq]
  simp only [cmp_dec]
  by_cases h : p.cs.length = q.cs.length
  · simp [h]
  · simp only [h, decide_false, Bool.false_and, List.any_eq_false]
    intro a ha
    rw [List.any_eq_true]
    rintro ⟨b, hb, e⟩
    have e' := of_decide_eq_true e
    subst e'
    exact h (((formsP_ok p).2 a ha).symm.trans ((formsP_ok q).2 a hb))
theorem puzzle_eq (r : List (Int × Int)) (l : List PieceM) : puzzleI r l = puzzleS r l := by
  unfold puzzleI puzzleS
  have hr : regionM r = regionS r := regionM_S r
  have hp : ∀ i, (pieceM (l.getD i ⟨[], 0, false⟩) && apartI l i (l.getD i ⟨[], 0, false⟩)) = (pieceS (l.getD i ⟨[], 0, false⟩) && apartS l i (l.getD i ⟨[], 0, false⟩)) := fun i => by
    simp only [piece_eq, apartI, apartS, alike_eq]
  rw [hr]
  congr 1
  · congr 1
    rw [Bool.eq_iff_iff]
    simp
    omega
  · congr 1
    funext i
    exact hp i
theorem place_eq (r : List (Int × Int)) (l : List PieceM) (k : Int) (s : List Int) : placeI r l k s = placeS r l k s := by
  unfold placeI placeS fitI fitS
  rw [forms_eq]
  simp only [cmp_dec]
end Go.Proofs
end
section
open Go Go.Big
namespace Go.Proofs
set_option maxHeartbeats 2000000
theorem code_eq (r : List (Int × Int)) (l : List PieceM) (s : List (Int × List Int)) : codeI r l s = codeM r l s := by
  unfold codeI codeM fitsI fitsS
  rw [puzzle_eq, show (fun x : Int × List Int => placeI r l x.1 x.2) = fun x => placeS r l x.1 x.2 from funext fun x => place_eq r l x.1 x.2]
theorem copies_eq (r : List (Int × Int)) (l : List PieceM) (s : List (Int × List Int)) (hl : l.length < 1000000000) : copiesI r l s = copiesS r l s ∧ (copiesI r l s).1.length < 1000000000 := by
  unfold copiesI copiesS
  rw [code_eq]
  refine ⟨rfl, ?_⟩
  split
  · show (leftM l s).length < _
    unfold leftM
    rw [dec_len]; simpa [copiesM] using hl
  · show ([] : List Int).length < _
    simp
end Go.Proofs
end
section
open Go Go.Big
namespace Go.Proofs
set_option maxHeartbeats 2000000
theorem cleft_eq (r : List (Int × Int)) (l : List PieceM) (s : List (Int × List Int)) (hr : r.length < 1000000000) : cleftI r l s = cleftS r l s ∧ (cleftI r l s).1.length < 1000000000 := by
  unfold cleftI cleftS
  rw [code_eq]
  refine ⟨rfl, ?_⟩
  split
  · show (cellsF s r.length).length < _
    have := cellsF_len s r.length
    omega
  · show ([] : List Int).length < _
    simp
end Go.Proofs
end
section
open Go Go.Big
namespace Go.Proofs
set_option maxHeartbeats 2000000
theorem noG_ok : GvOk Tryz.prog noG := fun _ _ _ _ _ _ _ h => h.elim
def bothG : Gv := fun f args H n r H' n' => sortsG f args H n r H' n' ∨ sortsG1 f args H n r H' n'
theorem bothG_ok : GvOk Tryz.prog bothG := by
  rintro f args H n r H' n' (h | h)
  · exact sortK_ok Tryz.sortCell (by decide) Tryz.isAgg117 Tryz.sizeOf117 noG_ok _ _ _ _ _ _ _ h
  · exact sort1_ok Tryz.sortShape noG_ok _ _ _ _ _ _ _ h
end Go.Proofs
end
