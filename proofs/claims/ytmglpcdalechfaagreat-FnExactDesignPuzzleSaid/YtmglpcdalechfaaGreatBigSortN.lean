/- The library's sort over an array without elements: nothing turns. No condition but what the rows below ask. -/
import Derived.Test.YtmglpcdalechfaaGreatBigSortO
import Derived.Shelf.SlSortCmp.NoneTotal
set_option linter.unusedVariables false
set_option linter.unusedSimpArgs false
namespace Go.Big
open Go.Sort Go.Shelf Go.RowKit Go.Proofs
variable {P : Program}
def SortN (sf : FuncId) : Gv := fun f args H n r H' n' =>
  f = sf ∧ r = .tup [] ∧ n' = n ∧ H' = H ∧ ∃ g o e ty k t, args = [.own o e, .fn g []] ∧ H o = some (.arr e ty k [] t)
theorem own_none {M : Mem} {base o e k t : Nat} {ty : TypeId} (hok : Ok M base) (hx : M.H o = some (.arr e ty k [] t)) : ∃ p cap, M.hv o = .slice p 0 cap := by
  obtain ⟨p0, p1, cs, ho, haO⟩ := hok.ob o _ hx
  rcases ho.2 with ⟨e1, _⟩ | ⟨b, off, cap, cur, f1, _⟩
  · exact ⟨none, 0, e1⟩
  · exact ⟨_, _, f1⟩
theorem sortN_ok {ρ : Ren} (L : SlLaysF0.n6 P ρ) : GvOk P (SortN (ρ.f 6)) := by
  rintro f args H n r H' n' ⟨rfl, rfl, rfl, rfl, g, o, e, ty, k, t, rfl, hx⟩
  intro M base vs hok hH hf hvs
  subst hH
  obtain ⟨v1, vs1, rfl, ⟨x, hx1, gx⟩, hvs1⟩ := all2_cons_inv hvs
  obtain ⟨v2, vs2, rfl, _, hvs2⟩ := all2_cons_inv hvs1
  rw [hx] at hx1; cases hx1
  obtain rfl : vs2 = [] := by
    cases vs2 with
    | nil => rfl
    | cons => exact hvs2.elim
  obtain rfl : v1 = M.hv o := gx.2 rfl
  obtain ⟨p, cap, hv⟩ := own_none hok hx
  rw [hv]
  refine Calls.mono (AnyF.slices_SortFunc_none L p cap v2 M.w) ?_
  rintro e' w' ⟨rfl, rfl⟩
  exact ⟨_, M, rfl, rfl, Aft.refl hok hf, ⟨#[], rfl, rfl⟩⟩
end Go.Big
