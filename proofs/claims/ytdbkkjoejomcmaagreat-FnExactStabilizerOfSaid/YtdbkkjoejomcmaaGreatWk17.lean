/- Walks: Plain law: the stabilizer of a solution, both programs. No condition. | The sorts' contracts hold. No condition. | The sorts' contracts hold, that of numbers too. No condition. | The sorts' contracts hold, and are known to hold. No condition. -/
import Derived.Test.YtdbkkjoejomcmaaGreatBO
import Derived.Test.YtdbkkjoejomcmaaGreatWk14
import Derived.Test.YtdbkkjoejomcmaaGreatWk9
import Derived.Test.YtdbkkjoejomcmaaGreatShelf
import Derived.Test.YtdbkkjoejomcmaaGreatWk11
import Derived.Test.YtdbkkjoejomcmaaGreatShelfI
import Derived.Test.YtdbkkjoejomcmaaGreatWk12
set_option linter.unusedVariables false
set_option linter.unusedSimpArgs false
section
open Go Go.Big
namespace Go.Proofs
set_option maxHeartbeats 2000000
theorem stab_eq (r : Shape) (l : List PieceM) (s : List (Int × List Int)) (hs : s.length < 1000000000) : stabI r l s = stabS r l s ∧ (stabI r l s).1.length < 1000000000 := by
  have e : stabI r l s = stabS r l s := by
    unfold stabI stabS
    rw [cod_eq r l s hs]
    by_cases c : codS r l s = 0
    · rw [if_pos c, if_pos c, symsP_eq (puzzle_parts (fits_puzzle (solved_facts (cod_zero c)).1)).1]
      congr 1
      refine List.filter_congr fun x _ => ?_
      rw [l16T_eq]
      simp [bne]
    · rw [if_neg c, if_neg c]
  rw [e]
  refine ⟨rfl, ?_⟩
  unfold stabS
  by_cases c : codS r l s = 0
  · rw [if_pos c]
    have h1 := List.length_filter_le (fun x => cmpQ (l16T (nsM r x) s) s == 0) (symsS r l)
    have h2 := symsS_len r l
    show ((symsS r l).filter fun x => cmpQ (l16T (nsM r x) s) s == 0).length < _
    omega
  · rw [if_neg c]; simp
end Go.Proofs
end
section
open Go Go.Big
namespace Go.Proofs
set_option maxHeartbeats 2000000
theorem noG_ok : GvOk Tryz.prog noG := fun _ _ _ _ _ _ _ h => h.elim
def allG : Gv := fun f args H n r H' n' => sortsG f args H n r H' n' ∨ sortsG1 f args H n r H' n' ∨ sortsG2 f args H n r H' n' ∨ sortsN2 f args H n r H' n'
theorem allG_all : AllG allG := ⟨fun _ _ _ _ _ _ _ h => .inl h, fun _ _ _ _ _ _ _ h => .inr (.inl h), fun _ _ _ _ _ _ _ h => .inr (.inr (.inl h)), fun _ _ _ _ _ _ _ h => .inr (.inr (.inr h))⟩
theorem allG_ok : GvOk Tryz.prog allG := by
  rintro f args H n r H' n' (h | h | h | h)
  · exact sortK_ok Tryz.sortCell (by decide) Tryz.isAgg117 Tryz.sizeOf117 noG_ok _ _ _ _ _ _ _ h
  · exact sort1_ok Tryz.sortShape noG_ok _ _ _ _ _ _ _ h
  · exact sortO_ok Tryz.sortPlace (by decide) Tryz.isAgg55 Tryz.sizeOf55 noG_ok _ _ _ _ _ _ _ h
  · exact sortN_ok Tryz.sortPlace _ _ _ _ _ _ _ h
end Go.Proofs
end
section
open Go Go.Big
namespace Go.Proofs
set_option maxHeartbeats 2000000
def allH : Gv := fun f args H n r H' n' => allG f args H n r H' n' ∨ sortsI4 f args H n r H' n'
theorem allH_all : AllH allH where
  c1 := fun _ _ _ _ _ _ _ h => .inl (allG_all.c1 _ _ _ _ _ _ _ h)
  c2 := fun _ _ _ _ _ _ _ h => .inl (allG_all.c2 _ _ _ _ _ _ _ h)
  c3 := fun _ _ _ _ _ _ _ h => .inl (allG_all.c3 _ _ _ _ _ _ _ h)
  c4 := fun _ _ _ _ _ _ _ h => .inl (allG_all.c4 _ _ _ _ _ _ _ h)
  c5 := fun _ _ _ _ _ _ _ h => .inr h
theorem allH_ok : GvOk Tryz.prog allH := by
  rintro f args H n r H' n' (h | h)
  · exact allG_ok _ _ _ _ _ _ _ h
  · exact sortI_ok Tryz.sortInts _ _ _ _ _ _ _ h
end Go.Proofs
end
section
open Go Go.Big
namespace Go.Proofs
set_option maxHeartbeats 2000000
theorem allK_all : AllK allH where
  toAllH := allH_all
  ok := allH_ok
end Go.Proofs
end
