/- The library's sort over arrays of one's own whose elements are one cell. No condition but what the rows below ask. -/
import Derived.Test.YtmglpcdalechfaaGreatBigSort
import Derived.Shelf.SlSortCmp.Whole1
set_option linter.unusedVariables false
set_option linter.unusedSimpArgs false
namespace Go.Big
open Go.Sort Go.Shelf Go.RowKit Go.Proofs
variable {P : Program}
theorem putCells_mid1 {α : Type} [Inhabited α] {enc : α → Value} {off : Nat} {F : Array α} {c : Array Value} (h : off + F.size ≤ c.size) : ((putCells enc off F c).toList.drop off).take F.size = F.toList.map enc ∧ (putCells enc off F c).size = c.size := by
  refine ⟨?_, by simp [putCells]⟩
  apply List.ext_getElem?
  intro i
  rw [List.getElem?_take]
  by_cases q : i < F.size
  · rw [if_pos q, List.getElem?_drop, Array.getElem?_toList, List.getElem?_map, Array.getElem?_toList]
    simp only [putCells, Array.getElem?_mapIdx]
    rw [Array.getElem?_eq_getElem (by omega), Array.getElem?_eq_getElem q]
    simp only [Option.map_some]
    rw [if_pos (by omega), show off + i - off = i by omega, getElem!_pos F i q]
  · rw [if_neg q, List.getElem?_map, Array.getElem?_toList, Array.getElem?_eq_none (by omega)]; rfl
theorem sortWorld_other1 {α : Type} [Inhabited α] {enc : α → Value} {m b off j : Nat} {w : World} {dk : Array α} {os : Array Obj} (h : j ≠ b) (hj : j < w.heap.size) : (sortWorld enc w b off m dk os).heap[j]? = w.heap[j]? := by
  simp only [sortWorld, grow, putRow, mapBlock, Sort.ahead]
  rw [Array.getElem?_append_left (by simpa using hj), Array.getElem?_modify, if_neg (fun e => h e.symm)]
theorem sortWorld_same1 {α : Type} [Inhabited α] {enc : α → Value} {m b off : Nat} {w : World} {dk : Array α} {os : Array Obj} {cur : Array Value} {ty : TypeId} (h : w.heap[b]? = some (.cells cur ty (0, 0))) : (sortWorld enc w b off m dk os).heap[b]? = some (.cells (putCells enc off dk cur) ty (0, 0)) := by
  have hb : b < w.heap.size := (Array.getElem?_eq_some_iff.mp h).1
  simp only [sortWorld, grow, putRow, mapBlock, Sort.ahead]
  rw [Array.getElem?_append_left (by simpa using hb), Array.getElem?_modify, if_pos rfl, h]; rfl
theorem sortWorld_size1 {α : Type} [Inhabited α] {enc : α → Value} {m b off : Nat} {w : World} {dk : Array α} {os : Array Obj} : w.heap.size ≤ (sortWorld enc w b off m dk os).heap.size := by
  simp only [sortWorld, grow, putRow, mapBlock, Sort.ahead]; simp
/-- What is asked of the comparison on the rows at hand. -/
structure CmpOk1 (P : Program) (G0 : Gv) (g : FuncId) (good : List PV → Prop) (cf : List PV → List PV → Int) : Prop where
  gives : ∀ a b, good [a] → good [b] → Gives P G0 g [avOf 0 a, avOf 0 b] (.i .i64 (cf [a] [b]))
  irrefl : ∀ a, good a → ¬ cf a a < 0
  trans : ∀ a b c, good a → good b → good c → cf a b < 0 → cf b c < 0 → cf a c < 0
  ntrans : ∀ a b c, good a → good b → good c → ¬ cf a b < 0 → ¬ cf b c < 0 → ¬ cf a c < 0
/-- A sort of elements of one cell: the one sorted permutation. -/
def SortG1 (P : Program) (G0 : Gv) (sf : FuncId) : Gv := fun f args H n r H' n' =>
  f = sf ∧ r = .tup [] ∧ n' = n ∧ ∃ g o e ty rows t rows' good cf, args = [.own o e, .fn g []] ∧ H o = some (.arr e ty 1 rows t) ∧ H' = H.upd o (.arr e ty 1 rows' t) ∧ rows ≠ [] ∧ rows.length < 4611686018427387904 ∧ t ≠ 2 ∧
    (∀ r ∈ rows, good r) ∧ CmpOk1 P G0 g good cf ∧ (∀ args w, (callFunc g args).run P w = .ok (.enter g args) w) ∧ ∀ rows2 : List (List PV), rows2.Perm rows → rows2.Pairwise (fun a b => ¬ cf b a < 0) → rows2 = rows'
theorem flat_one {α : Type} {f : α → List Value} {g : α → Value} (h : ∀ x, f x = [g x]) : ∀ l : List α, l.map g = (l.map f).flatten
  | [] => rfl
  | x :: l => by rw [List.map_cons, List.map_cons, List.flatten_cons, ← flat_one h l, h x]; rfl
theorem sort1_ok {ρ : Ren} (L : SlLaysF.n6 P ρ) {G0 : Gv} (hG0 : GvOk P G0) : GvOk P (SortG1 P G0 (ρ.f 6)) := by
  rintro f args H n r H' n' ⟨rfl, rfl, rfl, g, o, e, ty, rows, t, rows', good, cf, rfl, hx, rfl, hne, hlen, ht2, hgood, hc, eg, huniq⟩
  intro M base vs hok hH hf hvs
  subst hH
  obtain ⟨v1, vs1, rfl, ⟨x, hx1, gx⟩, hvs1⟩ := all2_cons_inv hvs
  obtain ⟨v2, vs2, rfl, ⟨ca, rfl, hca⟩, hvs2⟩ := all2_cons_inv hvs1
  rw [hx] at hx1; cases hx1
  obtain rfl : vs2 = [] := by
    cases vs2 with
    | nil => rfl
    | cons => exact hvs2.elim
  have hca0 : ca = #[] := Array.toList_inj.mp (by simpa [vreps] using hca)
  subst hca0
  obtain rfl : v1 = M.hv o := gx.2 rfl
  obtain ⟨p0, p1, cs, ho, haO⟩ := hok.ob o _ hx
  have ha := all2_rep ht2 haO
  rcases ho.2 with ⟨_, e2⟩ | ⟨b, off, cap, cur, f1, f2, f3, f4, f5, f6, f7⟩
  · exact absurd (List.length_eq_zero_iff.mp e2) hne
  have hblt : b < M.w.heap.size := (Array.getElem?_eq_some_iff.mp f3).1
  obtain ⟨d0, hd1, hd2, hd3⟩ := chunk (α := Nat) (R := fun _ _ => True) p1 ha
  have hd4 : ∀ q ∈ d0, good q.1 := fun q hq => hgood _ (by rw [← hd1]; exact List.mem_map_of_mem hq)
  obtain ⟨dl, hdl⟩ := lift (p := fun q : List PV × List Value => (q.1.length = 1 ∧ q.2.length = 1 ∧ all2 (rep M.w (M.fz t)) q.1 q.2) ∧ good q.1) (l := d0) (fun q hq => ⟨hd3 q hq, hd4 q hq⟩)
  have hdne : dl ≠ [] := fun h => hne (by rw [← hd1, ← hdl, h]; rfl)
  have hrows : dl.map (fun x => x.1.1) = rows := by rw [← hd1, ← hdl, List.map_map]; rfl
  have hcells : (dl.map (fun x => x.1.2)).flatten = cs := by rw [← hd2, ← hdl, List.map_map]; rfl
  have hdlen : dl.length = rows.length := by rw [← hrows, List.length_map]
  obtain ⟨x0, _⟩ := List.exists_mem_of_ne_nil _ hdne
  haveI : Inhabited (El M.w (M.fz t) 1 good) := ⟨x0⟩
  let enc : El M.w (M.fz t) 1 good → Value := fun x => x.1.2.headD undef
  have hk : ∀ x : El M.w (M.fz t) 1 good, x.1.2 = [enc x] := fun x => by
    obtain ⟨v, h⟩ := List.length_eq_one_iff.mp x.2.1.2.1
    simp only [enc, h]; rfl
  have hk1 : ∀ x : El M.w (M.fz t) 1 good, ∃ p, x.1.1 = [p] := fun x => by
    exact List.length_eq_one_iff.mp x.2.1.1
  have h1 : OneCell enc := fun x => rep_one x.2.1.2.2 _ (by rw [hk]; exact List.mem_cons_self)
  let cfe : El M.w (M.fz t) 1 good → El M.w (M.fz t) 1 good → Int := fun x y => cf x.1.1 y.1.1
  have hO : SWO (ltOf cfe) := ⟨fun x => by simp only [ltOf, decide_eq_false_iff_not]; exact hc.irrefl _ x.2.2,
    fun x y z h1 h2 => by simp only [ltOf, decide_eq_true_eq] at *; exact hc.trans _ _ _ x.2.2 y.2.2 z.2.2 h1 h2,
    fun x y z h1 h2 => by simp only [ltOf, decide_eq_false_iff_not] at *; exact hc.ntrans _ _ _ x.2.2 y.2.2 z.2.2 h1 h2⟩
  have hfz : ∀ j, M.fz t j → j ≠ b ∧ j < M.w.heap.size := fun j hj => ⟨fun e => hok.apart o _ j t hx rfl (by rw [f1, e]; rfl) hj, hok.lt t j hj⟩
  have hcmp : CmpLays1 P g #[] enc cfe b off dl.toArray.size M.w := by
    intro m os dk _ x y
    let W := sortWorld enc M.w b off m dk os
    let M0 : Mem := { M with w := W }
    have hrepW : ∀ (z : El M.w (M.fz t) 1 good) (p : PV), z.1.1 = [p] → vrep (Mc M0) (avOf 0 p) (enc z) := fun z p hp => by
      have h := z.2.1.2.2
      rw [hp, hk z] at h
      exact vrep_avOf (M := Mc M0) (rep_mono (fun j hj => ⟨sortWorld_other1 (hfz j hj).1 (hfz j hj).2, rfl, Nat.lt_of_lt_of_le (hfz j hj).2 sortWorld_size1⟩) p _ h.1)
    obtain ⟨px, hpx⟩ := hk1 x
    obtain ⟨py, hpy⟩ := hk1 y
    obtain ⟨r, Hc, nc, hbig, hback⟩ := hc.gives px py (by rw [← hpx]; exact x.2.2) (by rw [← hpy]; exact y.2.2)
    have hcall := says hG0 hbig (Mc M0) W.heap.size [enc x, enc y] (Mc_ok M0) rfl (fun _ _ => rfl) ⟨hrepW x px hpx, hrepW y py hpy, trivial⟩
    refine Calls.mono hcall ?_
    rintro e w' ⟨v, Mx, rfl, rfl, haft, hv⟩
    have hv2 : vrep (Mb M0 Mx) (.i .i64 (cf [px] [py])) v := backA_ok (M := M0) haft.ok r hv (by rw [haft.H]; exact hback)
    obtain rfl : v = .int .i64 (cf [px] [py]) := hv2
    exact ⟨by simp only [cfe, hpx, hpy], below_grow haft.below⟩
  have hcl : dl.map enc = cs := by
    rw [← hcells]
    exact flat_one hk dl
  have hH : Holds enc M.w b off dl.toArray := by
    intro j hj
    have hj2 : j < dl.length := by simpa using hj
    refine ⟨ho.cells f1 j _ ?_, ?_⟩
    · rw [← hcl, List.getElem?_map, List.getElem?_eq_getElem hj2]
      rw [getElem!_pos dl.toArray j hj]
      simp
    · simp [World.frozen?, f3]
  have hcon := Any.slices_SortFunc L enc h1 cfe hO g #[] b off cap dl.toArray M.w eg hcmp hH hblt (by simp; omega)
  have hsz : dl.toArray.size = rows.length := by simp [hdlen]
  rw [hsz] at hcon
  rw [f1]
  refine Calls.mono hcon ?_
  rintro e' w' ⟨rfl, d', nd, os, hp, hs, rfl⟩
  have hp1 : d'.size = rows.length := by rw [hp.1, hsz]
  have hperm : d'.toList.Perm dl := by
    have := hp.2.2
    rw [Array.extract_eq_self_of_le (by omega), Array.extract_eq_self_of_le (by omega)] at this
    simpa using this
  have hrows2 : d'.toList.map (fun x => x.1.1) = rows' := by
    refine huniq _ (by rw [← hrows]; exact hperm.map _) ?_
    rw [List.pairwise_map, List.pairwise_iff_getElem]
    intro i j hi hj hij
    have := hs i j (Nat.zero_le _) hij (by have h2 : d'.toList.length = d'.size := Array.length_toList; omega)
    rw [getElem!_pos d' j (by simpa using hj), getElem!_pos d' i (by simpa using hi)] at this
    simpa [ltOf] using this
  have hlen2 : rows'.length = rows.length := by rw [← hrows2, List.length_map, Array.length_toList, hp1]
  have hsame := sortWorld_same1 (enc := enc) (m := nd) (off := off) (dk := d') (os := os) f3
  have hm := putCells_mid1 (enc := enc) (off := off) (F := d') (c := cur) (by rw [hp1, f6]; omega)
  obtain ⟨hm1, hm2⟩ := hm
  let w' := sortWorld enc M.w b off nd d' os
  let M' : Mem := { w := w', fz := M.fz, hv := M.hv, H := M.H.upd o (.arr e ty 1 rows' t) }
  have hkk : ∀ q ∈ rows', q.length = 1 := fun q hq => by
    rw [← hrows2] at hq
    obtain ⟨z, _, rfl⟩ := List.mem_map.mp hq
    exact z.2.1.1
  have hall : ∀ {l : List (El M.w (M.fz t) 1 good)}, all2 (rep M.w (M.fz t)) (l.map (fun x => x.1.1)).flatten (l.map enc) := by
    intro l
    induction l with
    | nil => trivial
    | cons z l ih =>
      rw [List.map_cons, List.map_cons, List.flatten_cons]
      have := z.2.1.2.2
      rw [hk z] at this
      exact all2_append (ys := [enc z]) this ih
  obtain ⟨hst, hok'⟩ := touch (M' := M') (o := o) hok (.arr e ty 1 rows' t) rfl (fun _ _ => rfl) rfl sortWorld_size1
    (fun j hj hk2 => sortWorld_other1 (fun e => hk2 _ hx rfl (by rw [f1, e]; rfl)) hj)
    (fun x hx' => by rw [hx] at hx'; cases hx'; exact .inr ⟨rfl, rfl, rfl, hlen2⟩) (fun _ j hj => .inr ⟨_, hx, rfl, hj⟩)
    (fun hst => ⟨p0, hkk, d'.toList.map enc, ⟨by rw [List.length_map, Array.length_toList, hp1, hlen2]; exact (Nat.mul_one _).symm, .inr ⟨b, off, cap, putCells enc off d' cur, by show M.hv o = _; rw [f1, hlen2], f2, hsame, by rw [hlen2]; exact f4, f5, by rw [hm2]; exact f6, by
        rw [hlen2, Nat.mul_one, ← hp1, hm1]⟩⟩, by
      rw [← hrows2]
      exact all2_mono (fun p v _ h => repO_step hst h) (all2_repO hok hall)⟩)
  refine ⟨_, M', rfl, rfl, ⟨rfl, hst, hok', ⟨rfl, rfl, rfl, sortWorld_size1, fun j hj => sortWorld_other1 (by omega) (by have := hok.low; omega), Nat.le_add_right _ _⟩, fun j hj => ?_⟩, ⟨#[], rfl, rfl⟩⟩
  have : j ≠ o := fun e => by rw [e] at hj; rw [hf o hj] at hx; simp at hx
  show (M.H.upd o _) j = none
  rw [Heap.upd_ne _ _ this]; exact hf j hj
end Go.Big
