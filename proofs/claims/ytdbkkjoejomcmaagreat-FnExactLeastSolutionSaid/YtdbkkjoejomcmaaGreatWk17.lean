/- Walks: Plain law: the least solution, both programs. No condition. | The sorts' contracts hold. No condition. | The sorts' contracts hold, that of numbers too. No condition. | The sorts' contracts hold, and are known to hold. No condition. -/
import Derived.Test.YtdbkkjoejomcmaaGreatBO
import Derived.Test.YtdbkkjoejomcmaaGreatWk15
import Derived.Test.YtdbkkjoejomcmaaGreatWk9
import Derived.Test.YtdbkkjoejomcmaaGreatShelf
import Derived.Test.YtdbkkjoejomcmaaGreatWk11
import Derived.Test.YtdbkkjoejomcmaaGreatShelfI
import Derived.Test.YtdbkkjoejomcmaaGreatWk12
set_option linter.unusedVariables false
set_option linter.unusedSimpArgs false
section
open Go Go.Big
namespace Go.Proofs
set_option maxHeartbeats 2000000
theorem cmpQ_self : ∀ s : List (Int × List Int), cmpQ s s = 0
  | [] => rfl
  | x :: s => by
    have : cmpP x x = 0 := by simp [cmpP, cmpN_self]
    rw [cmpQ, if_pos this]; exact cmpQ_self s
theorem asc_sorted {P : Int × List Int → Bool} {s : List (Int × List Int)} (h : ascM P s = true) : s.Pairwise fun a b => cmpP a b < 0 := by
  have hstep : ∀ i (hi : i + 1 < s.length), cmpP s[i] s[i + 1] < 0 := fun i hi => by
    have := List.all_eq_true.mp h (i + 1) (List.mem_range.mpr hi)
    unfold ascAt at this
    rw [Bool.and_eq_true] at this
    have h2 := this.2
    simp only [Nat.add_sub_cancel, List.getD_eq_getElem?_getD, List.getElem?_eq_getElem hi, List.getElem?_eq_getElem (show i < s.length by omega), Option.getD_some, Bool.not_eq_true', Bool.and_eq_false_iff, decide_eq_false_iff_not] at h2
    rcases h2 with h2 | h2 <;> omega
  have hall : ∀ d i (hi : i + d + 1 < s.length), cmpP (s[i]'(by omega)) s[i + d + 1] < 0 := by
    intro d
    induction d with
    | zero => intro i hi; exact hstep i hi
    | succ d ih => intro i hi; exact cmpP_trans (ih i (by omega)) (hstep (i + d + 1) hi)
  rw [List.pairwise_iff_getElem]
  intro i j hi hj hij
  have := hall (j - i - 1) i (by omega)
  simpa only [show i + (j - i - 1) + 1 = j by omega] using this
theorem turn_zero {r : Shape} {l : List PieceM} {s : List (Int × List Int)} (h : solvedS r l s = true) : l16T (nsM r 0) s = s := by
  obtain ⟨h1, h2, _⟩ := solved_facts h
  have hreg := (puzzle_parts (fits_puzzle h1)).1
  have hb := boxed_of hreg
  have hA : ascM (fun x => placeS r l x.1 x.2) s = true := by
    unfold solvedS at h
    simp only [Bool.and_eq_true] at h
    exact h.1.1.2
  have hT : turnL r 0 = r := by
    unfold turnL
    conv => rhs; rw [← List.map_id r]
    exact List.map_congr_left fun p _ => rfl
  obtain ⟨n0, hn0⟩ := setM_yes (r := r) (cs := r) (fun x hx => hx)
  have hns : nsM r 0 = n0 := by
    unfold nsM numsM
    rw [show (0 : Int).toNat = 0 from rfl, hT, region_norm hreg, hn0]; rfl
  obtain ⟨_, hp, hl, hr⟩ := setM_some hn0
  have hid : ∀ i : Int, 0 ≤ i → i < r.length → n0.getD i.toNat 0 = i := fun i h0 hi => by
    have hin : i.toNat < n0.length := by omega
    have hir : i.toNat < r.length := by omega
    have hk := hr (n0[i.toNat]'hin) (List.getElem_mem _)
    have e : (pickM r n0)[i.toNat]? = r[i.toNat]? := by rw [hp]
    unfold pickM at e
    rw [List.getElem?_map, List.getElem?_eq_getElem hin, List.getElem?_eq_getElem hir, Option.map_some, Option.some.injEq, List.getD_eq_getElem?_getD, List.getElem?_eq_getElem (show (n0[i.toNat]'hin).toNat < r.length by omega), Option.getD_some] at e
    have := (List.getElem_inj (h₀ := by omega) (h₁ := hir) hb.nodup).mp e
    rw [List.getD_eq_getElem?_getD, List.getElem?_eq_getElem hin, Option.getD_some]
    omega
  rw [hns, l16T_eq]
  have hm : s.map (turnPl n0) = s := by
    conv => rhs; rw [← List.map_id s]
    refine List.map_congr_left fun x hx => ?_
    have hX : turnX n0 x.2 = x.2 := by
      unfold turnX
      conv => rhs; rw [← List.map_id x.2]
      exact List.map_congr_left fun i hi => hid i ((h2 x hx).2 i hi).1 ((h2 x hx).2 i hi).2
    have hi : x.2.Pairwise (· < ·) := by
      have := asc_mem hA hx
      unfold placeS at this
      simp only [Bool.and_eq_true, decide_eq_true_eq] at this
      exact inc_lt this.1.2
    have hs : sortedB x.2 = x.2 := List.Perm.eq_of_pairwise (fun a b _ _ h1 h2 => by omega) (sortedB_props x.2).2 (hi.imp fun h => by omega) (sortedB_props x.2).1
    unfold turnPl
    rw [hX, hs]; rfl
  rw [hm]
  exact orderP_unique (orderP_sorted s) ((asc_sorted hA).imp fun {a b} hab hba => cmpP_irrefl a (cmpP_trans hab hba)) (orderP_perm s)
theorem syms_head {r : Shape} {l : List PieceM} (h : regionS r = true) : ∃ Y, symsS r l = 0 :: Y := by
  have hq : symQS r 0 = true := by
    unfold symQS numsM
    have : turnL r 0 = r := by
      unfold turnL
      conv => rhs; rw [← List.map_id r]
      exact List.map_congr_left fun p _ => rfl
    rw [this, region_norm h]
    obtain ⟨s, hs⟩ := setM_yes (r := r) (cs := r) (fun x hx => hx)
    rw [hs]; rfl
  unfold symsS symT
  rw [List.range_succ_eq_map, List.filter_cons_of_pos hq, List.map_cons, List.filter_cons_of_pos (by simp)]
  exact ⟨_, rfl⟩
theorem leastQ_inv {F : Int → List (Int × List Int)} {P : List (Int × List Int) → Prop} (hF : ∀ k, P (F k)) : ∀ (Y : List Int) (b : List (Int × List Int)), P b → P (leastQ F b Y)
  | [], _, h => h
  | x :: Y, b, h => leastQ_inv hF Y (stepQ F b x) (by unfold stepQ; split; exact hF x; exact h)
theorem lsol_eq (r : Shape) (l : List PieceM) (s : List (Int × List Int)) (hs : s.length < 1000000000) : lsolI r l s = lsolS r l s ∧ (lsolI r l s).1.length < 1000000000 ∧ (∀ x ∈ (lsolI r l s).1, x.2.length < 1000000000) ∧ cntP (lsolI r l s).1 < 100000000000 := by
  have e : lsolI r l s = lsolS r l s := by
    unfold lsolI lsolS
    rw [cod_eq r l s hs]
    by_cases c : codS r l s = 0
    · have hsol := cod_zero c
      have hreg := (puzzle_parts (fits_puzzle (solved_facts hsol).1)).1
      rw [if_pos c, if_pos c, symsP_eq hreg]
      congr 1
      rw [show (fun k => orderP (s.map (turnPl (nsM r k)))) = fun k => l16T (nsM r k) s from funext fun k => (l16T_eq _ _).symm]
      have h0 := turn_zero hsol
      obtain ⟨Y, hY⟩ := syms_head (l := l) hreg
      rw [hY]
      unfold leastQ
      rw [List.map_cons, List.foldl_cons, minQ, h0, List.foldl_map]
      have : stepQ (fun k => l16T (nsM r k) s) s 0 = s := by
        unfold stepQ; simp only [h0]; split <;> rfl
      rw [this]; rfl
    · rw [if_neg c, if_neg c]
  rw [e]
  refine ⟨rfl, ?_⟩
  unfold lsolS
  by_cases c : codS r l s = 0
  · rw [if_pos c]
    obtain ⟨h1, h2⟩ := solved_len (cod_zero c)
    obtain ⟨k1, k2⟩ := leastQ_inv (F := fun k => l16T (nsM r k) s) (P := fun b => b.length ≤ 40 ∧ ∀ x ∈ b, x.2.length ≤ 40) (fun k => ⟨by show (l16T _ _).length ≤ _; rw [l16T_len]; exact h1, fun x hx => by
      have := l16T_cells (B := 41) (fun y hy => by have := h2 y hy; omega) x hx
      omega⟩) (symsS r l) s ⟨h1, h2⟩
    exact small_placesS (n := 40) (by omega) k1 k2
  · rw [if_neg c]
    exact small_placesS (n := 0) (by omega) (by simp) (by simp)
end Go.Proofs
end
section
open Go Go.Big
namespace Go.Proofs
set_option maxHeartbeats 2000000
theorem noG_ok : GvOk Tryz.prog noG := fun _ _ _ _ _ _ _ h => h.elim
def allG : Gv := fun f args H n r H' n' => sortsG f args H n r H' n' ∨ sortsG1 f args H n r H' n' ∨ sortsG2 f args H n r H' n' ∨ sortsN2 f args H n r H' n'
theorem allG_all : AllG allG := ⟨fun _ _ _ _ _ _ _ h => .inl h, fun _ _ _ _ _ _ _ h => .inr (.inl h), fun _ _ _ _ _ _ _ h => .inr (.inr (.inl h)), fun _ _ _ _ _ _ _ h => .inr (.inr (.inr h))⟩
theorem allG_ok : GvOk Tryz.prog allG := by
  rintro f args H n r H' n' (h | h | h | h)
  · exact sortK_ok Tryz.sortCell (by decide) Tryz.isAgg117 Tryz.sizeOf117 noG_ok _ _ _ _ _ _ _ h
  · exact sort1_ok Tryz.sortShape noG_ok _ _ _ _ _ _ _ h
  · exact sortO_ok Tryz.sortPlace (by decide) Tryz.isAgg55 Tryz.sizeOf55 noG_ok _ _ _ _ _ _ _ h
  · exact sortN_ok Tryz.sortPlace _ _ _ _ _ _ _ h
end Go.Proofs
end
section
open Go Go.Big
namespace Go.Proofs
set_option maxHeartbeats 2000000
def allH : Gv := fun f args H n r H' n' => allG f args H n r H' n' ∨ sortsI4 f args H n r H' n'
theorem allH_all : AllH allH where
  c1 := fun _ _ _ _ _ _ _ h => .inl (allG_all.c1 _ _ _ _ _ _ _ h)
  c2 := fun _ _ _ _ _ _ _ h => .inl (allG_all.c2 _ _ _ _ _ _ _ h)
  c3 := fun _ _ _ _ _ _ _ h => .inl (allG_all.c3 _ _ _ _ _ _ _ h)
  c4 := fun _ _ _ _ _ _ _ h => .inl (allG_all.c4 _ _ _ _ _ _ _ h)
  c5 := fun _ _ _ _ _ _ _ h => .inr h
theorem allH_ok : GvOk Tryz.prog allH := by
  rintro f args H n r H' n' (h | h)
  · exact allG_ok _ _ _ _ _ _ _ h
  · exact sortI_ok Tryz.sortInts _ _ _ _ _ _ _ h
end Go.Proofs
end
section
open Go Go.Big
namespace Go.Proofs
set_option maxHeartbeats 2000000
theorem allK_all : AllK allH where
  toAllH := allH_all
  ok := allH_ok
end Go.Proofs
end
