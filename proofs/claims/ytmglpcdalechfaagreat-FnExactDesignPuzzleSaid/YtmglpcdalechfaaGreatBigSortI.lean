/- The library's sort of whole numbers. No condition but what the rows below ask. -/
import Derived.Test.YtmglpcdalechfaaGreatBigSortN
import Derived.Test.YtmglpcdalechfaaGreatBigSort1
import Derived.Shelf.SortG.Plain
import Derived.Shelf.SortG.SortNone
set_option linter.unusedVariables false
set_option linter.unusedSimpArgs false
namespace Go.Big
open Go.Sort Go.Shelf Go.RowKit Go.Proofs
variable {P : Program}
def rowsI (l : List Int) : List (List PV) := l.map fun x => [.i .i64 x]
def sortI (l : List Int) : List Int := l.mergeSort fun x y => decide (x ≤ y)
def SortI (sf : FuncId) : Gv := fun f args H n r H' n' =>
  f = sf ∧ r = .tup [] ∧ n' = n ∧ ∃ o e ty l t, args = [.own o e] ∧ H o = some (.arr e ty 1 (rowsI l) t) ∧ H' = H.upd o (.arr e ty 1 (rowsI (sortI l)) t) ∧ l.length < 4611686018427387904
theorem upd_idem {H : Heap} {o : Nat} {x : Ob} (h : H o = some x) : H.upd o x = H := by
  funext k
  by_cases c : k = o
  · subst c; rw [Heap.upd_same, h]
  · rw [Heap.upd_ne _ _ c]
theorem rowsI_cells {M : Mem} {t : Nat} : ∀ {l : List Int} {cs : List Value}, all2 (repO M t) (rowsI l).flatten cs → cs = l.map (Value.int .i64)
  | [], [], _ => rfl
  | [], _ :: _, h => h.elim
  | _ :: _, [], h => h.elim
  | x :: l, v :: cs, h => by
    have h1 : v = Value.int .i64 x := h.1.1
    rw [h1, rowsI_cells (l := l) h.2]; rfl
theorem rowsI_rep {M : Mem} {t : Nat} : ∀ {l : List Int}, all2 (repO M t) (rowsI l).flatten (l.map (Value.int .i64))
  | [] => trivial
  | x :: l => ⟨repO_of (rfl : Value.int .i64 x = Value.int .i64 x), rowsI_rep⟩
theorem sortI_ok {ρ : Ren} (L : SlLaysN.n53 P ρ) : GvOk P (SortI (ρ.f 53)) := by
  rintro f args H n r H' n' ⟨rfl, rfl, rfl, o, e, ty, l, t, rfl, hx, rfl, hlen⟩
  intro M base vs hok hH hf hvs
  subst hH
  obtain ⟨v1, vs1, rfl, ⟨x, hx1, gx⟩, hvs1⟩ := all2_cons_inv hvs
  rw [hx] at hx1; cases hx1
  obtain rfl : vs1 = [] := by
    cases vs1 with
    | nil => rfl
    | cons => exact hvs1.elim
  obtain rfl : v1 = M.hv o := gx.2 rfl
  by_cases hne : l = []
  · subst hne
    obtain ⟨p, cap, hv⟩ := own_none hok hx
    rw [hv]
    refine Calls.mono (AnyG.slices_Sort_int_none L p cap M.w) ?_
    rintro e' w' ⟨rfl, rfl⟩
    rw [show sortI [] = [] by simp [sortI], upd_idem hx]
    exact ⟨_, M, rfl, rfl, Aft.refl hok hf, ⟨#[], rfl, rfl⟩⟩
  obtain ⟨p0, p1, cs, ho, ha⟩ := hok.ob o _ hx
  have hl : (rowsI l).length = l.length := by simp [rowsI]
  rcases ho.2 with ⟨_, e2⟩ | ⟨b, off, cap, cur, f1, f2, f3, f4, f5, f6, f7⟩
  · rw [hl] at e2; exact absurd (List.length_eq_zero_iff.mp e2) hne
  rw [hl] at f1 f4 f7
  have hblt : b < M.w.heap.size := (Array.getElem?_eq_some_iff.mp f3).1
  have hcs := rowsI_cells ha
  have hH : Holds (Value.int .i64) M.w b off l.toArray := by
    intro j hj
    have hj2 : j < l.length := by simpa using hj
    refine ⟨ho.cells (f1.trans rfl) j _ ?_, ?_⟩
    · rw [hcs, List.getElem?_map, List.getElem?_eq_getElem hj2]
      rw [getElem!_pos l.toArray j hj]
      simp
    · simp [World.frozen?, f3]
  rw [f1]
  refine Calls.mono (AnyG.slices_Sort_int L b off cap l M.w hH hblt hlen) ?_
  rintro e' w' ⟨rfl, nd, os, rfl⟩
  have hp1 : (sortI l).toArray.size = l.length := by simp [sortI]
  have hl2 : (rowsI (sortI l)).length = l.length := by simp [rowsI, sortI]
  let w' := sortWorld (Value.int .i64) M.w b off nd (sortI l).toArray os
  let M' : Mem := { w := w', fz := M.fz, hv := M.hv, H := M.H.upd o (.arr e ty 1 (rowsI (sortI l)) t) }
  have hsame := sortWorld_same1 (enc := Value.int .i64) (m := nd) (off := off) (dk := (sortI l).toArray) (os := os) f3
  obtain ⟨hm1, hm2⟩ := putCells_mid1 (enc := Value.int .i64) (off := off) (F := (sortI l).toArray) (c := cur) (by rw [hp1, f6]; omega)
  obtain ⟨hst, hok'⟩ := touch (M' := M') (o := o) hok (.arr e ty 1 (rowsI (sortI l)) t) rfl (fun _ _ => rfl) rfl sortWorld_size1
    (fun j hj hk2 => sortWorld_other1 (fun e => hk2 _ hx rfl (by rw [f1, e]; rfl)) hj)
    (fun x hx' => by rw [hx] at hx'; cases hx'; exact .inr ⟨rfl, rfl, rfl, by rw [hl2, hl]⟩) (fun _ j hj => .inr ⟨_, hx, rfl, hj⟩)
    (fun hst => ⟨p0, fun r hr => by obtain ⟨z, _, rfl⟩ := List.mem_map.mp hr; rfl, (sortI l).map (Value.int .i64), ⟨by rw [List.length_map, hl2]; simp [sortI], .inr ⟨b, off, cap, putCells (Value.int .i64) off (sortI l).toArray cur, by show M.hv o = _; rw [f1, hl2], f2, hsame, by rw [hl2]; exact f4, f5, by rw [hm2]; exact f6, by
        rw [hl2, Nat.mul_one, ← hp1, hm1]⟩⟩, rowsI_rep⟩)
  refine ⟨_, M', rfl, rfl, ⟨rfl, hst, hok', ⟨rfl, rfl, rfl, sortWorld_size1, fun j hj => sortWorld_other1 (by omega) (by have := hok.low; omega), Nat.le_add_right _ _⟩, fun j hj => ?_⟩, ⟨#[], rfl, rfl⟩⟩
  have : j ≠ o := fun e => by rw [e] at hj; rw [hf o hj] at hx; simp at hx
  show (M.H.upd o _) j = none
  rw [Heap.upd_ne _ _ this]; exact hf j hj
end Go.Big
