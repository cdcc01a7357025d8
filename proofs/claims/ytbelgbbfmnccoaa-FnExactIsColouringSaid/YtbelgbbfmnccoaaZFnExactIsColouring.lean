/- The law FnExactIsColouring returns true at every colouring and leaves its argument as it was. Conditions: none. -/
import Derived.Test.YtbelgbbfmnccoaaXRFnExactIsColouring
namespace Go.Proofs.Ytbelgbbfmnccoaa.XFnExactIsColouring
open Go.RowKit Go.Proofs.YtbelgbbfmnccoaaW.PrintWords Go.Proofs.YtbelgbbfmnccoaaW.PrintLast Go.Proofs.YtbelgbbfmnccoaaW.PrintMore Go.Proofs.Ytbelgbbfmnccoaa.U
set_option linter.unusedVariables false
set_option linter.unusedSimpArgs false

theorem in_some (a b c : Int) : spec_l01In.f a b c = some (decide (b ≤ a ∧ a ≤ c)) := by
  unfold spec_l01In.f; by_cases h : b ≤ a
  · rw [if_pos h]; simp [h]
  · rw [if_neg h]; simp [h]
theorem same (a b c : Int) : impl_IsColouring.f a b c = spec_IsColouring.f a b c := rfl
theorem said (a b c : Int) : ∃ r, spec_IsColouring.f a b c = some r := by
  unfold spec_IsColouring.f; simp only [in_some, Option.bind_some]; split <;> (try split) <;> exact ⟨_, rfl⟩
theorem pure : laws_FnExactIsColouring.Pure := by
  intro a b c _ _ _
  obtain ⟨r, hr⟩ := said a b c
  refine ⟨0, ?_⟩
  simp only [laws_FnExactIsColouring.f, laws_toColouring.f, Option.bind_some, same, hr]
  simp

end Go.Proofs.Ytbelgbbfmnccoaa.XFnExactIsColouring
namespace Go.Proofs.Ytbelgbbfmnccoaa
/-- The law FnExactIsColouring returns true at every colouring and leaves its argument as it was. Conditions: none. -/
theorem fnExactIsColouring_holds : Rows.FnExactIsColouringSaid := fnExactIsColouring.of_pure XFnExactIsColouring.pure
#print axioms fnExactIsColouring_holds
end Go.Proofs.Ytbelgbbfmnccoaa
