/- Walks: Plain law: the puzzle that is designed, both programs. No condition. | The sorts' contracts hold. No condition. | The sorts' contracts hold, that of numbers too. No condition. | The sorts' contracts hold, and are known to hold. No condition. -/
import Derived.Test.YtmglpcdalechfaaGreatBO
import Derived.Test.YtmglpcdalechfaaGreatWk14
import Derived.Test.YtmglpcdalechfaaGreatWk8
import Derived.Test.YtmglpcdalechfaaGreatShelf
import Derived.Test.YtmglpcdalechfaaGreatWk13
import Derived.Test.YtmglpcdalechfaaGreatShelfI
set_option linter.unusedVariables false
set_option linter.unusedSimpArgs false
section
open Go Go.Big
namespace Go.Proofs
set_option maxHeartbeats 2000000
theorem cntQ_le {m : Int} (hm : 0 ≤ m) : ∀ (l : List PieceM), (∀ p ∈ l, (p.cs.length : Int) ≤ m) → cntQ l ≤ (2 * m + 2) * l.length
  | [], _ => by simp [cntQ]
  | p :: l, h => by
    have h1 := cntQ_le hm l (fun q hq => h q (List.mem_cons_of_mem _ hq))
    have h2 := h p List.mem_cons_self
    simp only [cntQ, List.length_cons]
    have e : (2 * m + 2) * ((l.length + 1 : Nat) : Int) = (2 * m + 2) * l.length + (2 * m + 2) := by push_cast; rw [Int.mul_add, Int.mul_one]
    rw [e]; omega
theorem dp_eq (r : Shape) (n : Int) (set : List Int) (hr : r.length < 1000000000) : dpM (regionM r) r n set = dpM (regionS r) r n set ∧ (dpM (regionM r) r n set).1.1.length < 1000000000 ∧ (dpM (regionM r) r n set).1.2.length < 1000000000 ∧ (∀ p ∈ (dpM (regionM r) r n set).1.2, p.cs.length < 1000000000) ∧ cntQ (dpM (regionM r) r n set).1.2 < 100000000000 := by
  refine ⟨by rw [regionM_S], ?_⟩
  have h0 : (([], []) : Shape × List PieceM).1.length < 1000000000 ∧ (([], []) : Shape × List PieceM).2.length < 1000000000 ∧ (∀ p ∈ (([], []) : Shape × List PieceM).2, p.cs.length < 1000000000) ∧ cntQ (([], []) : Shape × List PieceM).2 < 100000000000 := by simp [cntQ]
  unfold dpM
  split
  · split
    · rename_i c1
      split
      · rename_i c2
        obtain ⟨n1, n5⟩ : 1 ≤ n ∧ n ≤ 5 := by simpa using c1
        have hl2 := (ownS_facts (n := n.toNat) (by omega) (by omega)).2
        have hs : (set.length : Int) ≤ 12 := by
          simp only [Bool.and_eq_true, decide_eq_true_eq] at c2
          exact c2.1.2
        have hp : ∀ p ∈ pcsM (ownS (n.toNat - 1)) set, p.cs.length < 1000 := fun p hp => by
          obtain ⟨i, hi, rfl⟩ := List.mem_map.mp hp
          show ((ownS (n.toNat - 1)).getD i.toNat []).length < 1000
          rw [List.getD_eq_getElem?_getD]
          cases e : (ownS (n.toNat - 1))[i.toNat]? with
          | none => simp
          | some s => exact (hl2 s (List.mem_of_getElem? e)).2
        have hpl : (pcsM (ownS (n.toNat - 1)) set).length = set.length := by simp [pcsM]
        have hq := cntQ_le (m := 1000) (by decide) (pcsM (ownS (n.toNat - 1)) set) (fun p h => by have := hp p h; omega)
        rw [hpl] at hq
        refine ⟨hr, by show (pcsM _ set).length < _; omega, fun p h => by have := hp p h; omega, ?_⟩
        show cntQ (pcsM _ set) < _
        omega
      · exact h0
    · exact h0
  · exact h0
end Go.Proofs
end
section
open Go Go.Big
namespace Go.Proofs
set_option maxHeartbeats 2000000
theorem noG_ok : GvOk Tryz.prog noG := fun _ _ _ _ _ _ _ h => h.elim
def allG : Gv := fun f args H n r H' n' => sortsG f args H n r H' n' ∨ sortsG1 f args H n r H' n' ∨ sortsG2 f args H n r H' n' ∨ sortsN2 f args H n r H' n'
theorem allG_all : AllG allG := ⟨fun _ _ _ _ _ _ _ h => .inl h, fun _ _ _ _ _ _ _ h => .inr (.inl h), fun _ _ _ _ _ _ _ h => .inr (.inr (.inl h)), fun _ _ _ _ _ _ _ h => .inr (.inr (.inr h))⟩
theorem allG_ok : GvOk Tryz.prog allG := by
  rintro f args H n r H' n' (h | h | h | h)
  · exact sortK_ok Tryz.sortCell (by decide) Tryz.isAgg142 Tryz.sizeOf142 noG_ok _ _ _ _ _ _ _ h
  · exact sort1_ok Tryz.sortShape noG_ok _ _ _ _ _ _ _ h
  · exact sortO_ok Tryz.sortPlace (by decide) Tryz.isAgg110 Tryz.sizeOf110 noG_ok _ _ _ _ _ _ _ h
  · exact sortN_ok Tryz.sortPlace _ _ _ _ _ _ _ h
end Go.Proofs
end
section
open Go Go.Big
namespace Go.Proofs
set_option maxHeartbeats 2000000
def allH : Gv := fun f args H n r H' n' => allG f args H n r H' n' ∨ sortsI4 f args H n r H' n'
theorem allH_all : AllH allH where
  c1 := fun _ _ _ _ _ _ _ h => .inl (allG_all.c1 _ _ _ _ _ _ _ h)
  c2 := fun _ _ _ _ _ _ _ h => .inl (allG_all.c2 _ _ _ _ _ _ _ h)
  c3 := fun _ _ _ _ _ _ _ h => .inl (allG_all.c3 _ _ _ _ _ _ _ h)
  c4 := fun _ _ _ _ _ _ _ h => .inl (allG_all.c4 _ _ _ _ _ _ _ h)
  c5 := fun _ _ _ _ _ _ _ h => .inr h
theorem allH_ok : GvOk Tryz.prog allH := by
  rintro f args H n r H' n' (h | h)
  · exact allG_ok _ _ _ _ _ _ _ h
  · exact sortI_ok Tryz.sortInts _ _ _ _ _ _ _ h
end Go.Proofs
end
section
open Go Go.Big
namespace Go.Proofs
set_option maxHeartbeats 2000000
theorem allK_all : AllK allH where
  toAllH := allH_all
  ok := allH_ok
end Go.Proofs
end
