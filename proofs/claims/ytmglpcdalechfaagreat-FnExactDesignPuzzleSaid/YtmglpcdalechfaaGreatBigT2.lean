/- A word more: an array of one's own is frozen; what is dead is forgotten. No condition. -/
import Derived.Test.YtmglpcdalechfaaGreatBigT
set_option linter.unusedVariables false
set_option linter.unusedSimpArgs false
namespace Go.Big
section
variable {P : Program} {G : Gv} {N : Nat} {ds : List (Option Tmp)} {l : List Oper} {E : Env} {H : Heap} {n : Nat} {K : Env → Heap → Nat → Prop}
theorem WR.frz (o e s : Nat) {ty : TypeId} {sz : Nat} {rows : List (List PV)} {t : Nat} (hx : H o = some (.arr e ty sz rows t)) (hs : s = 0 ∨ s = 1 ∧ newB t rows) (ht : t ≠ 2) (h : ∀ (E2 : Env) (H2 : Heap), (∀ k, E2 k = frzV o e s rows (E k)) → (∀ k, H2 k = frzH H o e s rows k) → WR P G N ds l E2 H2 n K) : WR P G N ds l E H n K := by
  have h2 := h _ _ (fun _ => rfl) (fun _ => rfl)
  unfold WR at *
  intro os i h1 h3
  have h4 := h2 os i h1 h3
  unfold WO at *
  obtain ⟨E', H', n', h5, h6⟩ := h4
  exact ⟨E', H', n', .frz o e ty sz rows t s hx hs ht h5, h6⟩
end
end Go.Big
