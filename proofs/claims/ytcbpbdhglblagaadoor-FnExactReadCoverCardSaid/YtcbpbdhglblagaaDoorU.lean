/- Words of our own beside the print's: lists asked by a function that may fail. -/
import Derived.Test.YtcbpbdhglblagaaDoorWWords
import Derived.Shelf.Abstract
namespace Go.Proofs.YtcbpbdhglblagaaDoor.U
open Go.Proofs.YtcbpbdhglblagaaDoorW.PrintWords
set_option linter.unusedVariables false

/-- Is there an element of which p holds: in order, as Go asks. -/
def anyM {α : Type} (p : α → Option Bool) : List α → Option Bool
  | [] => some false
  | x :: xs => (p x).bind fun b => if b = true then some true else anyM p xs
def idxM {α : Type} (p : α → Option Bool) : List α → Int → Option Int
  | [], _ => some (-1)
  | x :: xs, i => (p x).bind fun b => if b = true then some i else idxM p xs (i + 1)
theorem anyM_mono {α : Type} {p q : α → Option Bool} (h : ∀ x, LeO (p x) (q x)) : ∀ l, LeO (anyM p l) (anyM q l)
  | [] => LeO.refl _
  | x :: xs => LeO.bind (h x) (fun b => by
      by_cases hb : b = true
      · simp only [hb, if_true]; exact LeO.refl _
      · simp only [if_neg hb]; exact anyM_mono h xs)
theorem idxM_of_anyM {α : Type} (p : α → Option Bool) : ∀ (l : List α) (i : Int) (r : Bool), 0 ≤ i → anyM p l = some r → ∃ v, idxM p l i = some v ∧ decide (0 ≤ v) = r
  | [], i, r, _, h => by
    simp only [anyM, Option.some.injEq] at h
    subst h
    exact ⟨-1, rfl, rfl⟩
  | x :: xs, i, r, hi, h => by
    simp only [anyM] at h
    obtain ⟨b, hb, h⟩ := Option.bind_eq_some_iff.mp h
    simp only [idxM, hb, Option.bind_some]
    cases b with
    | true => simp only [if_true, Option.some.injEq] at h ⊢; subst h; exact ⟨i, rfl, decide_eq_true hi⟩
    | false => simp only [Bool.false_eq_true, if_false] at h ⊢; exact idxM_of_anyM p xs (i + 1) r (by omega) h
theorem idxM_step {α : Type} {p : α → Option Bool} {l : List α} {i : Nat} {v : Int} (hi : i < l.length) (h : idxM p (l.drop i) i = some v) (d : α) :
    ∃ b, p (l.getD i d) = some b ∧ (b = true → v = i) ∧ (b = false → idxM p (l.drop (i + 1)) ((i + 1 : Nat) : Int) = some v) := by
  rw [List.drop_eq_getElem_cons hi] at h
  simp only [idxM] at h
  obtain ⟨b, hb, h⟩ := Option.bind_eq_some_iff.mp h
  refine ⟨b, by rw [List.getD_eq_getElem?_getD, List.getElem?_eq_getElem hi]; exact hb, fun e => ?_, fun e => ?_⟩
  · rw [if_pos e] at h; exact (Option.some.inj h).symm
  · rw [if_neg (by simp [e])] at h; simpa using h
theorem idxM_end {α : Type} {p : α → Option Bool} {l : List α} {i : Nat} {v : Int} (hi : l.length ≤ i) (h : idxM p (l.drop i) i = some v) : v = -1 := by
  rw [List.drop_eq_nil_of_le hi] at h
  simpa [idxM] using h.symm
theorem getD_mem {α : Type} {l : List α} {i : Nat} (d : α) (hi : i < l.length) : l.getD i d ∈ l := by
  rw [List.getD_eq_getElem?_getD, List.getElem?_eq_getElem hi]; exact List.getElem_mem hi
end Go.Proofs.YtcbpbdhglblagaaDoor.U
