/- Walks: Plain law: the weighting that is found, both programs. No condition. | The sorts' contracts hold. No condition. | The sorts' contracts hold, that of numbers too. No condition. | The sorts' contracts hold, and are known to hold. No condition. -/
import Derived.Test.YtmglpcdalechfaaGreatBO
import Derived.Test.YtmglpcdalechfaaGreatWk13
import Derived.Test.YtmglpcdalechfaaGreatWk8
import Derived.Test.YtmglpcdalechfaaGreatShelf
import Derived.Test.YtmglpcdalechfaaGreatWk10
import Derived.Test.YtmglpcdalechfaaGreatShelfI
import Derived.Test.YtmglpcdalechfaaGreatWk11
set_option linter.unusedVariables false
set_option linter.unusedSimpArgs false
section
open Go Go.Big
namespace Go.Proofs
set_option maxHeartbeats 2000000
theorem fw_eq (r : Shape) (l : List PieceM) (hr : r.length < 1000000000) : fwM (fitsI r l) r l = fwM (fitsS r l) r l ∧ (fwM (fitsI r l) r l).1.2.length < 1000000000 := by
  rw [fits_eq]
  refine ⟨rfl, ?_⟩
  unfold fwM
  split
  · unfold resW
    split
    · show (planeM r _ _ _ _).length < _
      unfold planeM
      rw [List.length_map]; exact hr
    · simp
  · simp
end Go.Proofs
end
section
open Go Go.Big
namespace Go.Proofs
set_option maxHeartbeats 2000000
theorem noG_ok : GvOk Tryz.prog noG := fun _ _ _ _ _ _ _ h => h.elim
def allG : Gv := fun f args H n r H' n' => sortsG f args H n r H' n' ∨ sortsG1 f args H n r H' n' ∨ sortsG2 f args H n r H' n' ∨ sortsN2 f args H n r H' n'
theorem allG_all : AllG allG := ⟨fun _ _ _ _ _ _ _ h => .inl h, fun _ _ _ _ _ _ _ h => .inr (.inl h), fun _ _ _ _ _ _ _ h => .inr (.inr (.inl h)), fun _ _ _ _ _ _ _ h => .inr (.inr (.inr h))⟩
theorem allG_ok : GvOk Tryz.prog allG := by
  rintro f args H n r H' n' (h | h | h | h)
  · exact sortK_ok Tryz.sortCell (by decide) Tryz.isAgg142 Tryz.sizeOf142 noG_ok _ _ _ _ _ _ _ h
  · exact sort1_ok Tryz.sortShape noG_ok _ _ _ _ _ _ _ h
  · exact sortO_ok Tryz.sortPlace (by decide) Tryz.isAgg110 Tryz.sizeOf110 noG_ok _ _ _ _ _ _ _ h
  · exact sortN_ok Tryz.sortPlace _ _ _ _ _ _ _ h
end Go.Proofs
end
section
open Go Go.Big
namespace Go.Proofs
set_option maxHeartbeats 2000000
def allH : Gv := fun f args H n r H' n' => allG f args H n r H' n' ∨ sortsI4 f args H n r H' n'
theorem allH_all : AllH allH where
  c1 := fun _ _ _ _ _ _ _ h => .inl (allG_all.c1 _ _ _ _ _ _ _ h)
  c2 := fun _ _ _ _ _ _ _ h => .inl (allG_all.c2 _ _ _ _ _ _ _ h)
  c3 := fun _ _ _ _ _ _ _ h => .inl (allG_all.c3 _ _ _ _ _ _ _ h)
  c4 := fun _ _ _ _ _ _ _ h => .inl (allG_all.c4 _ _ _ _ _ _ _ h)
  c5 := fun _ _ _ _ _ _ _ h => .inr h
theorem allH_ok : GvOk Tryz.prog allH := by
  rintro f args H n r H' n' (h | h)
  · exact allG_ok _ _ _ _ _ _ _ h
  · exact sortI_ok Tryz.sortInts _ _ _ _ _ _ _ h
end Go.Proofs
end
section
open Go Go.Big
namespace Go.Proofs
set_option maxHeartbeats 2000000
theorem allK_all : AllK allH where
  toAllH := allH_all
  ok := allH_ok
end Go.Proofs
end
