/- Walks: Plain law: a solution turned, both programs. No condition. | The sorts' contracts hold. No condition. | The sorts' contracts hold, that of numbers too. No condition. | The sorts' contracts hold, and are known to hold. No condition. -/
import Derived.Test.YtdbkkjoejomcmaaGreatBO
import Derived.Test.YtdbkkjoejomcmaaGreatWk14
import Derived.Test.YtdbkkjoejomcmaaGreatWk9
import Derived.Test.YtdbkkjoejomcmaaGreatShelf
import Derived.Test.YtdbkkjoejomcmaaGreatWk11
import Derived.Test.YtdbkkjoejomcmaaGreatShelfI
import Derived.Test.YtdbkkjoejomcmaaGreatWk12
set_option linter.unusedVariables false
set_option linter.unusedSimpArgs false
section
open Go Go.Big
namespace Go.Proofs
set_option maxHeartbeats 2000000
theorem tsol_eq (r : Shape) (l : List PieceM) (s : List (Int × List Int)) (k : Int) (hs : s.length < 1000000000) : tsolI r l s k = tsolS r l s k ∧ (tsolI r l s k).1.length < 1000000000 ∧ (∀ x ∈ (tsolI r l s k).1, x.2.length < 1000000000) ∧ cntP (tsolI r l s k).1 < 100000000000 := by
  have e : tsolI r l s k = tsolS r l s k := by
    unfold tsolI tsolS
    rw [cod_eq r l s hs]
    by_cases c : codS r l s = 0
    · rw [if_pos c, if_pos c, symsP_eq (puzzle_parts (fits_puzzle (solved_facts (cod_zero c)).1)).1, l16T_eq]
    · rw [if_neg c, if_neg c]
  rw [e]
  refine ⟨rfl, ?_⟩
  unfold tsolS
  by_cases c : codS r l s = 0
  · rw [if_pos c]
    by_cases c2 : hasM (symsS r l) k = true
    · rw [if_pos c2]
      obtain ⟨h1, h2⟩ := solved_len (cod_zero c)
      refine small_placesS (n := 40) (by omega) (by show (l16T _ _).length ≤ _; rw [l16T_len]; exact h1) (fun x hx => ?_)
      have := l16T_cells (B := 41) (fun y hy => by have := h2 y hy; omega) x hx
      omega
    · rw [if_neg c2]
      exact small_placesS (n := 0) (by omega) (by simp) (by simp)
  · rw [if_neg c]
    exact small_placesS (n := 0) (by omega) (by simp) (by simp)
end Go.Proofs
end
section
open Go Go.Big
namespace Go.Proofs
set_option maxHeartbeats 2000000
theorem noG_ok : GvOk Tryz.prog noG := fun _ _ _ _ _ _ _ h => h.elim
def allG : Gv := fun f args H n r H' n' => sortsG f args H n r H' n' ∨ sortsG1 f args H n r H' n' ∨ sortsG2 f args H n r H' n' ∨ sortsN2 f args H n r H' n'
theorem allG_all : AllG allG := ⟨fun _ _ _ _ _ _ _ h => .inl h, fun _ _ _ _ _ _ _ h => .inr (.inl h), fun _ _ _ _ _ _ _ h => .inr (.inr (.inl h)), fun _ _ _ _ _ _ _ h => .inr (.inr (.inr h))⟩
theorem allG_ok : GvOk Tryz.prog allG := by
  rintro f args H n r H' n' (h | h | h | h)
  · exact sortK_ok Tryz.sortCell (by decide) Tryz.isAgg117 Tryz.sizeOf117 noG_ok _ _ _ _ _ _ _ h
  · exact sort1_ok Tryz.sortShape noG_ok _ _ _ _ _ _ _ h
  · exact sortO_ok Tryz.sortPlace (by decide) Tryz.isAgg55 Tryz.sizeOf55 noG_ok _ _ _ _ _ _ _ h
  · exact sortN_ok Tryz.sortPlace _ _ _ _ _ _ _ h
end Go.Proofs
end
section
open Go Go.Big
namespace Go.Proofs
set_option maxHeartbeats 2000000
def allH : Gv := fun f args H n r H' n' => allG f args H n r H' n' ∨ sortsI4 f args H n r H' n'
theorem allH_all : AllH allH where
  c1 := fun _ _ _ _ _ _ _ h => .inl (allG_all.c1 _ _ _ _ _ _ _ h)
  c2 := fun _ _ _ _ _ _ _ h => .inl (allG_all.c2 _ _ _ _ _ _ _ h)
  c3 := fun _ _ _ _ _ _ _ h => .inl (allG_all.c3 _ _ _ _ _ _ _ h)
  c4 := fun _ _ _ _ _ _ _ h => .inl (allG_all.c4 _ _ _ _ _ _ _ h)
  c5 := fun _ _ _ _ _ _ _ h => .inr h
theorem allH_ok : GvOk Tryz.prog allH := by
  rintro f args H n r H' n' (h | h)
  · exact allG_ok _ _ _ _ _ _ _ h
  · exact sortI_ok Tryz.sortInts _ _ _ _ _ _ _ h
end Go.Proofs
end
section
open Go Go.Big
namespace Go.Proofs
set_option maxHeartbeats 2000000
theorem allK_all : AllK allH where
  toAllH := allH_all
  ok := allH_ok
end Go.Proofs
end
