/- How a law's arguments are opened: from the row's reading of memory as data to what the printed contracts ask of their arguments. -/
import Derived.Test.YtpnlidfebnkgmaaWWords
import Derived.Deep.Slices
import Derived.ChangeArms
import Derived.WideShapes
namespace Go.Proofs.Ytpnlidfebnkgmaa.Open
open Go.Proofs.YtpnlidfebnkgmaaW.PrintWords Go.Deep Go.WideShapes Go.ChangeShapes
set_option linter.unusedVariables false

section
variable {H : Type} {enc : TypeId × Value → H} {P : Program} {w : World} {base : Nat} {spare : Nat → Bool} {held : Bool}

/-- What lies at a type t reads as a value of the kind K, of which We is known. -/
def Opens {α : Type} (enc : TypeId × Value → H) (P : Program) (w : World) (base : Nat) (spare : Nat → Bool) (held : Bool) (t : TypeId) (K : Kd α) (We : α → Prop) : Prop :=
  ∀ n cs x, DataW.trod enc P w base spare held n t cs = some x → ∃ a : α, K.K w a cs ∧ We a

theorem op_int {t : TypeId} {k : IntKind} (ht : P.underlying t = some (.int k)) : Opens enc P w base spare held t (Kd.int k) (fun x => (Lit.int k x).wf = true) := fun n cs x h => by
  obtain ⟨a, rfl, _, hw⟩ := DataW.trod_int ht h
  exact ⟨a, rfl, hw⟩
theorem op_slice {α : Type} {t e : TypeId} {K : Kd α} {We : α → Prop} (ht : P.underlying t = some (.slice e)) (hsz : P.cellsOf e = K.sz) (ho : Opens enc P w base spare held e K We) :
    Opens enc P w base spare held t (Kd.slice e K) (fun l => l.length ≤ maxLen ∧ ∀ a ∈ l, We a) := fun n cs x h => by
  rcases open_slice ht h with ⟨rfl, _⟩ | ⟨a, len, cap, m, n', D, Pl, rfl, hb, hl, hm, hmm, _, hx⟩
  · exact ⟨[], ⟨none, 0, rfl, Nat.le_refl _, Kd.C_nil K w⟩, Nat.zero_le _, fun a ha => absurd ha List.not_mem_nil⟩
  · have hlm : len ≤ m := by rw [hmm]; split <;> omega
    have each : ∀ i, i < len → ∃ z : α × List Value, w.cells? base (a.add (i * P.cellsOf e)) (P.cellsOf e) = some z.2 ∧ K.K w z.1 z.2 ∧ We z.1 := fun i hi => by
      obtain ⟨cs', h1, h2⟩ := hx i (by omega)
      obtain ⟨v, hv, hw⟩ := ho _ _ _ h2
      exact ⟨(v, cs'), h1, hv, hw⟩
    by_cases h0 : len = 0
    · subst h0
      exact ⟨[], ⟨some a, cap, rfl, hl, ⟨rfl, by simp, fun h => absurd h (Nat.lt_irrefl 0)⟩⟩, Nat.zero_le _, fun a ha => absurd ha List.not_mem_nil⟩
    · obtain ⟨z0, _⟩ := each 0 (by omega)
      obtain ⟨y, hy⟩ : ∃ y : Nat → α × List Value, ∀ i, i < len → w.cells? base (a.add (i * P.cellsOf e)) (P.cellsOf e) = some (y i).2 ∧ K.K w (y i).1 (y i).2 ∧ We (y i).1 :=
        ⟨fun i => if hi : i < len then (each i hi).choose else z0, fun i hi => by simp only [dif_pos hi]; exact (each i hi).choose_spec⟩
      have hlen : ((List.range len).map fun i => (y i).1).length = len := by simp
      have hm' : len ≤ 9223372036854775807 := by unfold maxLen at hm; omega
      refine ⟨(List.range len).map fun i => (y i).1, ⟨some a, cap, by rw [hlen], by rw [hlen]; exact hl, ?_⟩, by rw [hlen]; unfold maxLen; exact hm', fun v hv => ?_⟩
      · rw [hlen]
        refine ⟨hlen, hm', fun _ => ⟨a, rfl, fun j p hp => ?_⟩⟩
        have hj : j < len := by have := (List.getElem?_eq_some_iff.1 hp).1; rwa [hlen] at this
        obtain ⟨h1, h2, _⟩ := hy j hj
        have hp' : p = (y j).1 := by
          rw [List.getElem?_map, List.getElem?_range hj] at hp
          simpa using hp.symm
        subst hp'
        refine ⟨(y j).2, K.K_len h2, h2, fun i u hu => ?_⟩
        obtain ⟨_, hl2, hc⟩ := World.cells?_some h1
        have hi : i < P.cellsOf e := by have := (List.getElem?_eq_some_iff.1 hu).1; omega
        have := hc i hi
        rw [hu] at this
        rw [← hsz, ← Addr.add_add]
        exact this
      · obtain ⟨i, hi, rfl⟩ := List.mem_map.1 hv
        exact (hy i (List.mem_range.1 hi)).2.2

end
end Go.Proofs.Ytpnlidfebnkgmaa.Open
