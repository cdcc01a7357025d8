/- The library's sort over arrays of one's own: a permutation, sorted. No condition but what the rows below ask. -/
import Derived.Test.YtmglpcdalechfaaGreatBigT
import Derived.Shelf.SlSortCmp.WholeK
set_option linter.unusedVariables false
set_option linter.unusedSimpArgs false
namespace Go.Big
open Go.Sort Go.Shelf Go.RowKit Go.Proofs
variable {P : Program}

/-- Behind a call by value: blocks and draws have come, nothing else. -/
theorem below_grow {W w' : World} (h : Big.Below W.heap.size W w') : ∃ q os', w' = grow (W.drewN q) os' := by
  refine ⟨w'.drawn - W.drawn, w'.heap.extract W.heap.size w'.heap.size, ?_⟩
  have hd := h.drawn
  have hh : w'.heap = W.heap ++ w'.heap.extract W.heap.size w'.heap.size := by
    apply Array.ext_getElem?
    intro i
    by_cases c : i < W.heap.size
    · rw [Array.getElem?_append_left c, h.block i c]
    · rw [Array.getElem?_append_right (by omega), Array.getElem?_extract]
      by_cases c2 : i - W.heap.size < min w'.heap.size w'.heap.size - W.heap.size
      · rw [if_pos c2]; congr 1; omega
      · rw [if_neg c2, Array.getElem?_eq_none (by omega)]
  obtain ⟨hp, tp, dr, os, out⟩ := w'
  simp only [grow, World.drewN]
  simp only at hh hd
  have h1 := h.tape; have h2 := h.os; have h3 := h.output
  simp only at h1 h2 h3
  subst h1; subst h2; subst h3
  rw [← hh]
  congr 1
  omega
theorem flat_get {α : Type} {k : Nat} (hk : 0 < k) : ∀ {ls : List (List α)}, (∀ r ∈ ls, r.length = k) → ∀ i, ls.flatten[i]? = (ls[i / k]?).bind (·[i % k]?)
  | [], _, i => by simp
  | r :: ls, h, i => by
    have hr := h r List.mem_cons_self
    rw [List.flatten_cons]
    by_cases c : i < k
    · rw [List.getElem?_append_left (by omega), Nat.div_eq_of_lt c, Nat.mod_eq_of_lt c]; rfl
    · rw [List.getElem?_append_right (by omega), flat_get hk (fun x hx => h x (List.mem_cons_of_mem _ hx)) (i - r.length), hr]
      obtain ⟨j, rfl⟩ : ∃ j, i = j + k := ⟨i - k, by omega⟩
      rw [Nat.add_sub_cancel, Nat.add_div_right _ hk, Nat.add_mod_right]
      rfl
theorem flatK_list {α : Type} [Inhabited α] {enc : α → List Value} {k : Nat} (hk0 : 0 < k) (hk : ∀ x, (enc x).length = k) (d : Array α) : (flatK enc k d).toList = (d.toList.map enc).flatten := by
  have hm : ∀ r ∈ d.toList.map enc, r.length = k := fun r hr => by
    obtain ⟨x, _, rfl⟩ := List.mem_map.mp hr; exact hk x
  apply List.ext_getElem?
  intro i
  rw [flat_get hk0 hm, List.getElem?_map, Array.getElem?_toList, Array.getElem?_toList]
  have hs := size_flatK enc k d
  by_cases c : i < d.size * k
  · have h1 := get_flatK enc k d i c
    have hd : i / k < d.size := (Nat.div_lt_iff_lt_mul hk0).mpr c
    rw [getElem!_pos (flatK enc k d) i (by rw [hs]; exact c), getElem!_pos d (i / k) hd] at h1
    rw [Array.getElem?_eq_getElem (by rw [hs]; exact c), h1, Array.getElem?_eq_getElem hd]
    simp only [Option.map_some, Option.bind_some]
    have hm2 : i % k < (enc d[i / k]).length := by rw [hk]; exact Nat.mod_lt _ hk0
    rw [List.getElem?_eq_getElem hm2, getElem!_pos (enc d[i / k]) (i % k) hm2]
  · have hd : ¬ i / k < d.size := fun h => c ((Nat.div_lt_iff_lt_mul hk0).mp h)
    rw [Array.getElem?_eq_none (by rw [hs]; omega), Array.getElem?_eq_none (by omega)]; rfl
theorem putCells_mid {off : Nat} {F c : Array Value} (h : off + F.size ≤ c.size) : ((putCells id off F c).toList.drop off).take F.size = F.toList ∧ (putCells id off F c).size = c.size := by
  refine ⟨?_, by simp [putCells]⟩
  apply List.ext_getElem?
  intro i
  rw [List.getElem?_take]
  by_cases q : i < F.size
  · rw [if_pos q, List.getElem?_drop, Array.getElem?_toList, Array.getElem?_toList]
    simp only [putCells, Array.getElem?_mapIdx]
    rw [Array.getElem?_eq_getElem (by omega), Array.getElem?_eq_getElem q]
    simp only [Option.map_some]
    rw [if_pos (by omega), show off + i - off = i by omega, getElem!_pos F i q]
    rfl
  · rw [if_neg q, Array.getElem?_toList, Array.getElem?_eq_none (by omega)]
theorem chunk {α : Type} {R : List PV → List Value → Prop} {k : Nat} : ∀ {rows : List (List PV)} {cs : List Value} {S : PV → Value → Prop}, (∀ r ∈ rows, r.length = k) → all2 S rows.flatten cs → ∃ d : List (List PV × List Value), d.map (·.1) = rows ∧ (d.map (·.2)).flatten = cs ∧ ∀ q ∈ d, q.1.length = k ∧ q.2.length = k ∧ all2 S q.1 q.2
  | [], cs, S, _, h => by
    cases cs with
    | nil => exact ⟨[], rfl, rfl, by simp⟩
    | cons => exact h.elim
  | r :: rows, cs, S, hk, h => by
    have hr := hk r List.mem_cons_self
    rw [List.flatten_cons] at h
    have h1 := all2_take k h
    have h2 := all2_drop k h
    rw [← hr, List.take_left] at h1
    rw [← hr, List.drop_left] at h2
    obtain ⟨d, g1, g2, g3⟩ := chunk (α := α) (R := R) (fun x hx => hk x (List.mem_cons_of_mem _ hx)) h2
    refine ⟨(r, cs.take r.length) :: d, by simp [g1], by simp [g2], fun q hq => ?_⟩
    rcases List.mem_cons.mp hq with rfl | hq
    · exact ⟨hr, by simp only; rw [← all2_len h1]; exact hr, h1⟩
    · exact g3 q hq
theorem lift {α : Type} {p : α → Prop} : ∀ {l : List α}, (∀ x ∈ l, p x) → ∃ m : List { x // p x }, m.map (·.1) = l
  | [], _ => ⟨[], rfl⟩
  | x :: l, h => by
    obtain ⟨m, hm⟩ := lift (fun y hy => h y (List.mem_cons_of_mem _ hy))
    exact ⟨⟨x, h x List.mem_cons_self⟩ :: m, by simp [hm]⟩
theorem rep_one {w : World} {G : Nat → Prop} : ∀ {ps : List PV} {us : List Value}, all2 (rep w G) ps us → ∀ u ∈ us, u.oneCell' = true
  | [], [], _, u, hu => by simp at hu
  | [], _ :: _, h, _, _ => h.elim
  | _ :: _, [], h, _, _ => h.elim
  | p :: ps, v :: us, h, u, hu => by
    rcases List.mem_cons.mp hu with rfl | hu
    · have := h.1
      cases p
      · obtain rfl : u = _ := this; rfl
      · obtain rfl : u = _ := this; rfl
      · obtain rfl : u = _ := this; rfl
      · obtain ⟨_, _, rfl, _⟩ := this; rfl
      · exact this.elim
    · exact rep_one h.2 u hu
/-- What is asked of the comparison on the rows at hand. -/
structure CmpOk (P : Program) (G0 : Gv) (g : FuncId) (good : List PV → Prop) (cf : List PV → List PV → Int) : Prop where
  gives : ∀ a b, good a → good b → Gives P G0 g [.ag (a.map (avOf 0)), .ag (b.map (avOf 0))] (.i .i64 (cf a b))
  irrefl : ∀ a, good a → ¬ cf a a < 0
  trans : ∀ a b c, good a → good b → good c → cf a b < 0 → cf b c < 0 → cf a c < 0
  ntrans : ∀ a b c, good a → good b → good c → ¬ cf a b < 0 → ¬ cf b c < 0 → ¬ cf a c < 0
/-- A sort of rows of k cells: the one sorted permutation. -/
def SortG (P : Program) (G0 : Gv) (sf : FuncId) (k : Nat) : Gv := fun f args H n r H' n' =>
  f = sf ∧ r = .tup [] ∧ n' = n ∧ ∃ g o e ty rows t rows' good cf, args = [.own o e, .fn g []] ∧ H o = some (.arr e ty k rows t) ∧ H' = H.upd o (.arr e ty k rows' t) ∧ rows ≠ [] ∧ rows.length < 4611686018427387904 ∧ t ≠ 2 ∧
    (∀ r ∈ rows, good r) ∧ CmpOk P G0 g good cf ∧ (∀ args w, (callFunc g args).run P w = .ok (.enter g args) w) ∧ ∀ rows2 : List (List PV), rows2.Perm rows → rows2.Pairwise (fun a b => ¬ cf b a < 0) → rows2 = rows'
theorem vrep_ag {M : Mem} {t : Nat} : ∀ {ps : List PV} {vs : List Value}, all2 (rep M.w (M.fz t)) ps vs → vreps M (ps.map (avOf t)) vs
  | [], [], _ => rfl
  | [], _ :: _, h => h.elim
  | _ :: _, [], h => h.elim
  | p :: ps, v :: vs, h => ⟨v, vs, rfl, vrep_avOf h.1, vrep_ag h.2⟩
/-- An element of a row: what it is without memory, and its cells. -/
abbrev El (w : World) (G : Nat → Prop) (k : Nat) (good : List PV → Prop) : Type := { q : List PV × List Value // (q.1.length = k ∧ q.2.length = k ∧ all2 (rep w G) q.1 q.2) ∧ good q.1 }
theorem sortWorld_other {α : Type} [Inhabited α] {enc : α → List Value} {k m b off j : Nat} {w : World} {dk : Array α} {os : Array Obj} (h : j ≠ b) (hj : j < w.heap.size) : (sortWorldK enc k w b off m dk os).heap[j]? = w.heap[j]? := by
  simp only [sortWorldK, grow, putRowK, putRow, mapBlock, Sort.ahead]
  rw [Array.getElem?_append_left (by simpa using hj), Array.getElem?_modify, if_neg (fun e => h e.symm)]
theorem sortWorld_same {α : Type} [Inhabited α] {enc : α → List Value} {k m b off : Nat} {w : World} {dk : Array α} {os : Array Obj} {cur : Array Value} {ty : TypeId} (h : w.heap[b]? = some (.cells cur ty (0, 0))) : (sortWorldK enc k w b off m dk os).heap[b]? = some (.cells (putCells id off (flatK enc k dk) cur) ty (0, 0)) := by
  have hb : b < w.heap.size := (Array.getElem?_eq_some_iff.mp h).1
  simp only [sortWorldK, grow, putRowK, putRow, mapBlock, Sort.ahead]
  rw [Array.getElem?_append_left (by simpa using hb), Array.getElem?_modify, if_pos rfl, h]; rfl
theorem sortWorld_size {α : Type} [Inhabited α] {enc : α → List Value} {k m b off : Nat} {w : World} {dk : Array α} {os : Array Obj} : w.heap.size ≤ (sortWorldK enc k w b off m dk os).heap.size := by
  simp only [sortWorldK, grow, putRowK, putRow, mapBlock, Sort.ahead]; simp
theorem sortK_ok {ρ : Ren} (L : SlLaysF0.n6 P ρ) {k : Nat} (hk0 : 0 < k) (aE : ∀ w, (isAgg (ρ.t 24)).run P w = .ok true w) (zE : ∀ w, (Go.sizeOf (ρ.t 24)).run P w = .ok k w) {G0 : Gv} (hG0 : GvOk P G0) : GvOk P (SortG P G0 (ρ.f 6) k) := by
  rintro f args H n r H' n' ⟨rfl, rfl, rfl, g, o, e, ty, rows, t, rows', good, cf, rfl, hx, rfl, hne, hlen, ht2, hgood, hc, eg, huniq⟩
  intro M base vs hok hH hf hvs
  subst hH
  obtain ⟨v1, vs1, rfl, ⟨x, hx1, gx⟩, hvs1⟩ := all2_cons_inv hvs
  obtain ⟨v2, vs2, rfl, ⟨ca, rfl, hca⟩, hvs2⟩ := all2_cons_inv hvs1
  rw [hx] at hx1; cases hx1
  obtain rfl : vs2 = [] := by
    cases vs2 with
    | nil => rfl
    | cons => exact hvs2.elim
  have hca0 : ca = #[] := Array.toList_inj.mp (by simpa [vreps] using hca)
  subst hca0
  obtain rfl : v1 = M.hv o := gx.2 rfl
  obtain ⟨p0, p1, cs, ho, haO⟩ := hok.ob o _ hx
  have ha := all2_rep ht2 haO
  rcases ho.2 with ⟨_, e2⟩ | ⟨b, off, cap, cur, f1, f2, f3, f4, f5, f6, f7⟩
  · exact absurd (List.length_eq_zero_iff.mp e2) hne
  have hblt : b < M.w.heap.size := (Array.getElem?_eq_some_iff.mp f3).1
  obtain ⟨d0, hd1, hd2, hd3⟩ := chunk (α := Nat) (R := fun _ _ => True) p1 ha
  have hd4 : ∀ q ∈ d0, good q.1 := fun q hq => hgood _ (by rw [← hd1]; exact List.mem_map_of_mem hq)
  obtain ⟨dl, hdl⟩ := lift (p := fun q : List PV × List Value => (q.1.length = k ∧ q.2.length = k ∧ all2 (rep M.w (M.fz t)) q.1 q.2) ∧ good q.1) (l := d0) (fun q hq => ⟨hd3 q hq, hd4 q hq⟩)
  have hdne : dl ≠ [] := fun h => hne (by rw [← hd1, ← hdl, h]; rfl)
  have hrows : dl.map (fun x => x.1.1) = rows := by rw [← hd1, ← hdl, List.map_map]; rfl
  have hcells : (dl.map (fun x => x.1.2)).flatten = cs := by rw [← hd2, ← hdl, List.map_map]; rfl
  have hdlen : dl.length = rows.length := by rw [← hrows, List.length_map]
  obtain ⟨x0, _⟩ := List.exists_mem_of_ne_nil _ hdne
  haveI : Inhabited (El M.w (M.fz t) k good) := ⟨x0⟩
  let enc : El M.w (M.fz t) k good → List Value := fun x => x.1.2
  have hk : ∀ x, (enc x).length = k := fun x => x.2.1.2.1
  have h1 : ∀ x, ∀ v ∈ enc x, v.oneCell' = true := fun x => rep_one x.2.1.2.2
  let cfe : El M.w (M.fz t) k good → El M.w (M.fz t) k good → Int := fun x y => cf x.1.1 y.1.1
  have hO : SWO (ltOf cfe) := ⟨fun x => by simp only [ltOf, decide_eq_false_iff_not]; exact hc.irrefl _ x.2.2,
    fun x y z h1 h2 => by simp only [ltOf, decide_eq_true_eq] at *; exact hc.trans _ _ _ x.2.2 y.2.2 z.2.2 h1 h2,
    fun x y z h1 h2 => by simp only [ltOf, decide_eq_false_iff_not] at *; exact hc.ntrans _ _ _ x.2.2 y.2.2 z.2.2 h1 h2⟩
  have hfz : ∀ j, M.fz t j → j ≠ b ∧ j < M.w.heap.size := fun j hj => ⟨fun e => hok.apart o _ j t hx rfl (by rw [f1, e]; rfl) hj, hok.lt t j hj⟩
  have hcmp : CmpLays P g #[] enc k cfe b off dl.toArray.size M.w := by
    intro m os dk _ x y
    let W := sortWorldK enc k M.w b off m dk os
    let M0 : Mem := { M with w := W }
    have hrepW : ∀ z : El M.w (M.fz t) k good, vrep (Mc M0) (.ag (z.1.1.map (avOf 0))) (.agg (enc z).toArray) := fun z =>
      ⟨(enc z).toArray, rfl, vrep_ag (M := Mc M0) (all2_mono (fun p v _ h => rep_mono (fun j hj => ⟨sortWorld_other (hfz j hj).1 (hfz j hj).2, rfl, Nat.lt_of_lt_of_le (hfz j hj).2 sortWorld_size⟩) p v h) z.2.1.2.2)⟩
    obtain ⟨r, Hc, nc, hbig, hback⟩ := hc.gives _ _ x.2.2 y.2.2
    have hcall := says hG0 hbig (Mc M0) W.heap.size [.agg (enc x).toArray, .agg (enc y).toArray] (Mc_ok M0) rfl (fun _ _ => rfl) ⟨hrepW x, hrepW y, trivial⟩
    refine Calls.mono hcall ?_
    rintro e w' ⟨v, Mx, rfl, rfl, haft, hv⟩
    have hv2 : vrep (Mb M0 Mx) (.i .i64 (cf x.1.1 y.1.1)) v := backA_ok (M := M0) haft.ok r hv (by rw [haft.H]; exact hback)
    obtain rfl : v = .int .i64 (cf x.1.1 y.1.1) := hv2
    exact ⟨rfl, below_grow haft.below⟩
  have hFl : (flatK enc k dl.toArray).toList = cs := by rw [flatK_list hk0 hk]; exact hcells
  have hH : HoldsK enc k M.w b off dl.toArray := by
    intro j hj
    have hjc : j < cs.length := by rw [← hFl, Array.length_toList]; exact hj
    have hget : (flatK enc k dl.toArray)[j]! = cs[j] := by
      rw [getElem!_pos _ j hj, ← Array.getElem_toList]
      simp only [hFl]
    refine ⟨?_, ?_⟩
    · rw [hget]; exact ho.cells f1 j _ (List.getElem?_eq_getElem hjc)
    · simp [World.frozen?, f3]
  have hcon := AnyQ.slices_SortFunc L k aE zE enc hk h1 cfe hO g #[] b off cap dl.toArray M.w eg hcmp hH hblt (by simp; omega)
  have hsz : dl.toArray.size = rows.length := by simp [hdlen]
  rw [hsz] at hcon
  rw [f1]
  refine Calls.mono hcon ?_
  rintro e' w' ⟨rfl, d', nd, os, hp, hs, rfl⟩
  have hp1 : d'.size = rows.length := by rw [hp.1, hsz]
  have hperm : d'.toList.Perm dl := by
    have := hp.2.2
    rw [Array.extract_eq_self_of_le (by omega), Array.extract_eq_self_of_le (by omega)] at this
    simpa using this
  have hrows2 : d'.toList.map (fun x => x.1.1) = rows' := by
    refine huniq _ (by rw [← hrows]; exact hperm.map _) ?_
    rw [List.pairwise_map, List.pairwise_iff_getElem]
    intro i j hi hj hij
    have := hs i j (Nat.zero_le _) hij (by have h2 : d'.toList.length = d'.size := Array.length_toList; omega)
    rw [getElem!_pos d' j (by simpa using hj), getElem!_pos d' i (by simpa using hi)] at this
    simpa [ltOf] using this
  have hlen2 : rows'.length = rows.length := by rw [← hrows2, List.length_map, Array.length_toList, hp1]
  have hsame := sortWorld_same (enc := enc) (k := k) (m := nd) (off := off) (dk := d') (os := os) f3
  have hFs : (flatK enc k d').size = rows.length * k := by rw [size_flatK, hp1]
  have hcapk : rows.length * k ≤ cap * k := Nat.mul_le_mul_right _ f4
  obtain ⟨hm1, hm2⟩ := putCells_mid (off := off) (F := flatK enc k d') (c := cur) (by rw [hFs, f6]; omega)
  let w' := sortWorldK enc k M.w b off nd d' os
  let M' : Mem := { w := w', fz := M.fz, hv := M.hv, H := M.H.upd o (.arr e ty k rows' t) }
  have hkk : ∀ q ∈ rows', q.length = k := fun q hq => by
    rw [← hrows2] at hq
    obtain ⟨z, _, rfl⟩ := List.mem_map.mp hq
    exact z.2.1.1
  have hall : ∀ {l : List (El M.w (M.fz t) k good)}, all2 (rep M.w (M.fz t)) (l.map (fun x => x.1.1)).flatten (l.map enc).flatten := by
    intro l
    induction l with
    | nil => trivial
    | cons z l ih => rw [List.map_cons, List.map_cons, List.flatten_cons, List.flatten_cons]; exact all2_append z.2.1.2.2 ih
  obtain ⟨hst, hok'⟩ := touch (M' := M') (o := o) hok (.arr e ty k rows' t) rfl (fun _ _ => rfl) rfl sortWorld_size
    (fun j hj hk2 => sortWorld_other (fun e => hk2 _ hx rfl (by rw [f1, e]; rfl)) hj)
    (fun x hx' => by rw [hx] at hx'; cases hx'; exact .inr ⟨rfl, rfl, rfl, hlen2⟩) (fun _ j hj => .inr ⟨_, hx, rfl, hj⟩)
    (fun hst => ⟨p0, hkk, (d'.toList.map enc).flatten, ⟨by rw [← flatK_list hk0 hk, Array.length_toList, hFs, hlen2], .inr ⟨b, off, cap, putCells id off (flatK enc k d') cur, by show M.hv o = _; rw [f1, hlen2], f2, hsame, by rw [hlen2]; exact f4, f5, by rw [hm2]; exact f6, by
        rw [hlen2, ← hFs, hm1, flatK_list hk0 hk]⟩⟩, by
      rw [← hrows2]
      exact all2_mono (fun p v _ h => repO_step hst h) (all2_repO hok hall)⟩)
  refine ⟨_, M', rfl, rfl, ⟨rfl, hst, hok', ⟨rfl, rfl, rfl, sortWorld_size, fun j hj => sortWorld_other (by omega) (by have := hok.low; omega), Nat.le_add_right _ _⟩, fun j hj => ?_⟩, ⟨#[], rfl, rfl⟩⟩
  have : j ≠ o := fun e => by rw [e] at hj; rw [hf o hj] at hx; simp at hx
  show (M.H.upd o _) j = none
  rw [Heap.upd_ne _ _ this]; exact hf j hj
end Go.Big
