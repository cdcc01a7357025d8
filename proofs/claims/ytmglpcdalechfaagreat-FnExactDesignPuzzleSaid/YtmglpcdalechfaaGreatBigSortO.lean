/- The library's sort over arrays whose elements own slices: the one sorted permutation. No condition but what the rows below ask. -/
import Derived.Test.YtmglpcdalechfaaGreatBigSort
set_option linter.unusedVariables false
set_option linter.unusedSimpArgs false
namespace Go.Big
open Go.Sort Go.Shelf Go.RowKit Go.Proofs
variable {P : Program}
/-- The heap without one object. -/
def offH (H : Heap) (o e : Nat) : Heap := H.upd o (.fro (e + 1) [] 0)
/-- A row without memory. -/
def drow (H : Heap) (r : List PV) : List PV := r.map fun p => (derP H p).getD p
/-- The sort of an array of rows of k cells, some of which own slices. -/
def SortO (P : Program) (G0 : Gv) (sf : FuncId) (k : Nat) : Gv := fun f args H n r H' n' =>
  f = sf ∧ r = .tup [] ∧ n' = n ∧ ∃ g o e ty rows t rows' good cf, args = [.own o e, .fn g []] ∧ H o = some (.arr e ty k rows t) ∧ H' = H.upd o (.arr e ty k rows' t) ∧ rows ≠ [] ∧ rows.length < 4611686018427387904 ∧
    (∀ r ∈ rows, (∀ p ∈ r, ∃ q, derP (offH H o e) p = some q) ∧ good (drow (offH H o e) r)) ∧ CmpOk P G0 g good cf ∧ (∀ args w, (callFunc g args).run P w = .ok (.enter g args) w) ∧ ∀ rows2 : List (List PV), rows2.Perm rows → rows2.Pairwise (fun a b => ¬ cf (drow (offH H o e) b) (drow (offH H o e) a) < 0) → rows2 = rows'
theorem drop_ok {M : Mem} {base o e sz t : Nat} {ty : TypeId} {rows : List (List PV)} (hok : Ok M base) (hx : M.H o = some (.arr e ty sz rows t)) {w' : World} (hw : ∀ j, j < M.w.heap.size → blk? (M.hv o) ≠ some j → w'.heap[j]? = M.w.heap[j]?) (hs : M.w.heap.size ≤ w'.heap.size) :
    Step M { w := w', fz := M.fz, hv := M.hv, H := offH M.H o e } ∧ Ok { w := w', fz := M.fz, hv := M.hv, H := offH M.H o e } base := by
  have hfz : ∀ t' j, M.fz t' j → w'.heap[j]? = M.w.heap[j]? := fun t' j hj => hw j (hok.lt t' j hj) (fun h => hok.apart o _ j t' hx rfl h hj)
  have hst : Step M { w := w', fz := M.fz, hv := M.hv, H := offH M.H o e } := by
    refine ⟨fun t' j hj => ⟨hfz t' j hj, hj⟩, fun o' x h => ?_⟩
    by_cases c : o' = o
    · subst c
      rw [hx] at h; cases h
      exact ⟨_, Heap.upd_same _ _ _, Nat.lt_succ_self e⟩
    · exact ⟨x, by show M.H.upd o _ o' = _; rw [Heap.upd_ne _ _ c]; exact h, Goes.refl x rfl⟩
  have back : ∀ {o' : Nat} {y : Ob}, offH M.H o e o' = some y → y.mut = true → o' ≠ o ∧ M.H o' = some y := by
    intro o' y hy hm
    by_cases c : o' = o
    · subst c
      rw [offH, Heap.upd_same] at hy; cases hy; simp [Ob.mut] at hm
    · rw [offH, Heap.upd_ne _ _ c] at hy; exact ⟨c, hy⟩
  refine ⟨hst, ⟨Nat.le_trans hok.low hs, fun t' j hj => Nat.lt_of_lt_of_le (hok.lt t' j hj) hs, hok.fresh, hok.up0, hok.up1, ?_, ?_, ?_⟩⟩
  · intro o' y hy
    by_cases hm : y.mut = true
    · obtain ⟨c, h1⟩ := back hy hm
      exact (hok.ob o' y h1).step hst rfl (fun j hj => hw j ((hok.ob o' y h1).blk hm j hj).2 (fun h => hok.diff o' o y _ j h1 hx hm rfl c hj h))
    · cases y <;> first | (exact absurd rfl hm) | trivial
  · intro o' y j t' hy hm hb
    exact hok.apart o' y j t' (back hy hm).2 hm hb
  · intro o1 o2 y1 y2 j hy1 hy2 hm1 hm2 hne hb1
    exact hok.diff o1 o2 y1 y2 j (back hy1 hm1).2 (back hy2 hm2).2 hm1 hm2 hne hb1
/-- An element: what it is, and its cells. -/
abbrev ElO (M : Mem) (t k : Nat) (ok : List PV → Prop) : Type := { q : List PV × List Value // (q.1.length = k ∧ q.2.length = k ∧ all2 (repO M t) q.1 q.2) ∧ ok q.1 }
theorem vrep_drow {M : Mem} {base t : Nat} (hok : Ok M base) : ∀ {ps : List PV} {vs : List Value}, all2 (repO M t) ps vs → (∀ p ∈ ps, ∃ q, derP M.H p = some q) → vreps (Mc M) ((drow M.H ps).map (avOf 0)) vs
  | [], [], _, _ => rfl
  | [], _ :: _, h, _ => h.elim
  | _ :: _, [], h, _ => h.elim
  | p :: ps, v :: vs, h, hd => by
    obtain ⟨q, hq⟩ := hd p List.mem_cons_self
    refine ⟨v, vs, rfl, ?_, vrep_drow hok h.2 (fun x hx => hd x (List.mem_cons_of_mem _ hx))⟩
    show vrep (Mc M) (avOf 0 ((derP M.H p).getD p)) v
    rw [hq]
    exact vrep_avOf (derP_ok hok h.1 hq)
theorem sortO_ok {ρ : Ren} (L : SlLaysF0.n6 P ρ) {k : Nat} (hk0 : 0 < k) (aE : ∀ w, (isAgg (ρ.t 24)).run P w = .ok true w) (zE : ∀ w, (Go.sizeOf (ρ.t 24)).run P w = .ok k w) {G0 : Gv} (hG0 : GvOk P G0) : GvOk P (SortO P G0 (ρ.f 6) k) := by
  rintro f args H n r H' n' ⟨rfl, rfl, rfl, g, o, e, ty, rows, t, rows', good, cf, rfl, hx, rfl, hne, hlen, hgood, hc, eg, huniq⟩
  intro M base vs hok hH hf hvs
  subst hH
  obtain ⟨v1, vs1, rfl, ⟨x, hx1, gx⟩, hvs1⟩ := all2_cons_inv hvs
  obtain ⟨v2, vs2, rfl, ⟨ca, rfl, hca⟩, hvs2⟩ := all2_cons_inv hvs1
  rw [hx] at hx1; cases hx1
  obtain rfl : vs2 = [] := by
    cases vs2 with
    | nil => rfl
    | cons => exact hvs2.elim
  have hca0 : ca = #[] := Array.toList_inj.mp (by simpa [vreps] using hca)
  subst hca0
  obtain rfl : v1 = M.hv o := gx.2 rfl
  obtain ⟨p0, p1, cs, ho, haO⟩ := hok.ob o _ hx
  have ha := haO
  let OK : List PV → Prop := fun r => (∀ p ∈ r, ∃ q, derP (offH M.H o e) p = some q) ∧ good (drow (offH M.H o e) r)
  rcases ho.2 with ⟨_, e2⟩ | ⟨b, off, cap, cur, f1, f2, f3, f4, f5, f6, f7⟩
  · exact absurd (List.length_eq_zero_iff.mp e2) hne
  have hblt : b < M.w.heap.size := (Array.getElem?_eq_some_iff.mp f3).1
  obtain ⟨d0, hd1, hd2, hd3⟩ := chunk (α := Nat) (R := fun _ _ => True) p1 ha
  have hd4 : ∀ q ∈ d0, OK q.1 := fun q hq => hgood _ (by rw [← hd1]; exact List.mem_map_of_mem hq)
  obtain ⟨dl, hdl⟩ := lift (p := fun q : List PV × List Value => (q.1.length = k ∧ q.2.length = k ∧ all2 (repO M t) q.1 q.2) ∧ OK q.1) (l := d0) (fun q hq => ⟨hd3 q hq, hd4 q hq⟩)
  have hdne : dl ≠ [] := fun h => hne (by rw [← hd1, ← hdl, h]; rfl)
  have hrows : dl.map (fun x => x.1.1) = rows := by rw [← hd1, ← hdl, List.map_map]; rfl
  have hcells : (dl.map (fun x => x.1.2)).flatten = cs := by rw [← hd2, ← hdl, List.map_map]; rfl
  have hdlen : dl.length = rows.length := by rw [← hrows, List.length_map]
  obtain ⟨x0, _⟩ := List.exists_mem_of_ne_nil _ hdne
  haveI : Inhabited (ElO M t k OK) := ⟨x0⟩
  let enc : ElO M t k OK → List Value := fun x => x.1.2
  have hk : ∀ x, (enc x).length = k := fun x => x.2.1.2.1
  have h1 : ∀ x, ∀ v ∈ enc x, v.oneCell' = true := fun x => all2_one x.2.1.2.2
  let cfe : ElO M t k OK → ElO M t k OK → Int := fun x y => cf (drow (offH M.H o e) x.1.1) (drow (offH M.H o e) y.1.1)
  have hO : SWO (ltOf cfe) := ⟨fun x => by simp only [ltOf, decide_eq_false_iff_not]; exact hc.irrefl _ x.2.2.2,
    fun x y z h1 h2 => by simp only [ltOf, decide_eq_true_eq] at *; exact hc.trans _ _ _ x.2.2.2 y.2.2.2 z.2.2.2 h1 h2,
    fun x y z h1 h2 => by simp only [ltOf, decide_eq_false_iff_not] at *; exact hc.ntrans _ _ _ x.2.2.2 y.2.2.2 z.2.2.2 h1 h2⟩
  have hfz : ∀ j, M.fz t j → j ≠ b ∧ j < M.w.heap.size := fun j hj => ⟨fun e => hok.apart o _ j t hx rfl (by rw [f1, e]; rfl) hj, hok.lt t j hj⟩
  have hcmp : CmpLays P g #[] enc k cfe b off dl.toArray.size M.w := by
    intro m os dk _ x y
    let W := sortWorldK enc k M.w b off m dk os
    let M0 : Mem := { w := W, fz := M.fz, hv := M.hv, H := offH M.H o e }
    obtain ⟨hst0, hok0⟩ := drop_ok (w' := W) hok hx (fun j hj hne => sortWorld_other (fun h => hne (by rw [f1, h]; rfl)) hj) sortWorld_size
    have hrepW : ∀ z : ElO M t k OK, vrep (Mc M0) (.ag ((drow (offH M.H o e) z.1.1).map (avOf 0))) (.agg (enc z).toArray) := fun z =>
      ⟨(enc z).toArray, rfl, vrep_drow (M := M0) hok0 (all2_mono (fun p v _ h => repO_step hst0 h) z.2.1.2.2) z.2.2.1⟩
    obtain ⟨r, Hc, nc, hbig, hback⟩ := hc.gives _ _ x.2.2.2 y.2.2.2
    have hcall := says hG0 hbig (Mc M0) W.heap.size [.agg (enc x).toArray, .agg (enc y).toArray] (Mc_ok M0) rfl (fun _ _ => rfl) ⟨hrepW x, hrepW y, trivial⟩
    refine Calls.mono hcall ?_
    rintro e w' ⟨v, Mx, rfl, rfl, haft, hv⟩
    have hv2 : vrep (Mb M0 Mx) (.i .i64 (cfe x y)) v := backA_ok (M := M0) haft.ok r hv (by rw [haft.H]; exact hback)
    obtain rfl : v = .int .i64 (cfe x y) := hv2
    exact ⟨rfl, below_grow haft.below⟩
  have hFl : (flatK enc k dl.toArray).toList = cs := by rw [flatK_list hk0 hk]; exact hcells
  have hH : HoldsK enc k M.w b off dl.toArray := by
    intro j hj
    have hjc : j < cs.length := by rw [← hFl, Array.length_toList]; exact hj
    have hget : (flatK enc k dl.toArray)[j]! = cs[j] := by
      rw [getElem!_pos _ j hj, ← Array.getElem_toList]
      simp only [hFl]
    refine ⟨?_, ?_⟩
    · rw [hget]; exact ho.cells f1 j _ (List.getElem?_eq_getElem hjc)
    · simp [World.frozen?, f3]
  have hcon := AnyQ.slices_SortFunc L k aE zE enc hk h1 cfe hO g #[] b off cap dl.toArray M.w eg hcmp hH hblt (by simp; omega)
  have hsz : dl.toArray.size = rows.length := by simp [hdlen]
  rw [hsz] at hcon
  rw [f1]
  refine Calls.mono hcon ?_
  rintro e' w' ⟨rfl, d', nd, os, hp, hs, rfl⟩
  have hp1 : d'.size = rows.length := by rw [hp.1, hsz]
  have hperm : d'.toList.Perm dl := by
    have := hp.2.2
    rw [Array.extract_eq_self_of_le (by omega), Array.extract_eq_self_of_le (by omega)] at this
    simpa using this
  have hrows2 : d'.toList.map (fun x => x.1.1) = rows' := by
    refine huniq _ (by rw [← hrows]; exact hperm.map _) ?_
    rw [List.pairwise_map, List.pairwise_iff_getElem]
    intro i j hi hj hij
    have := hs i j (Nat.zero_le _) hij (by have h2 : d'.toList.length = d'.size := Array.length_toList; omega)
    rw [getElem!_pos d' j (by simpa using hj), getElem!_pos d' i (by simpa using hi)] at this
    simpa [ltOf] using this
  have hlen2 : rows'.length = rows.length := by rw [← hrows2, List.length_map, Array.length_toList, hp1]
  have hsame := sortWorld_same (enc := enc) (k := k) (m := nd) (off := off) (dk := d') (os := os) f3
  have hFs : (flatK enc k d').size = rows.length * k := by rw [size_flatK, hp1]
  have hcapk : rows.length * k ≤ cap * k := Nat.mul_le_mul_right _ f4
  obtain ⟨hm1, hm2⟩ := putCells_mid (off := off) (F := flatK enc k d') (c := cur) (by rw [hFs, f6]; omega)
  let w' := sortWorldK enc k M.w b off nd d' os
  let M' : Mem := { w := w', fz := M.fz, hv := M.hv, H := M.H.upd o (.arr e ty k rows' t) }
  have hkk : ∀ q ∈ rows', q.length = k := fun q hq => by
    rw [← hrows2] at hq
    obtain ⟨z, _, rfl⟩ := List.mem_map.mp hq
    exact z.2.1.1
  have hall : ∀ {l : List (ElO M t k OK)}, all2 (repO M t) (l.map (fun x => x.1.1)).flatten (l.map enc).flatten := by
    intro l
    induction l with
    | nil => trivial
    | cons z l ih => rw [List.map_cons, List.map_cons, List.flatten_cons, List.flatten_cons]; exact all2_append z.2.1.2.2 ih
  obtain ⟨hst, hok'⟩ := touch (M' := M') (o := o) hok (.arr e ty k rows' t) rfl (fun _ _ => rfl) rfl sortWorld_size
    (fun j hj hk2 => sortWorld_other (fun e => hk2 _ hx rfl (by rw [f1, e]; rfl)) hj)
    (fun x hx' => by rw [hx] at hx'; cases hx'; exact .inr ⟨rfl, rfl, rfl, hlen2⟩) (fun _ j hj => .inr ⟨_, hx, rfl, hj⟩)
    (fun hst => ⟨p0, hkk, (d'.toList.map enc).flatten, ⟨by rw [← flatK_list hk0 hk, Array.length_toList, hFs, hlen2], .inr ⟨b, off, cap, putCells id off (flatK enc k d') cur, by show M.hv o = _; rw [f1, hlen2], f2, hsame, by rw [hlen2]; exact f4, f5, by rw [hm2]; exact f6, by
        rw [hlen2, ← hFs, hm1, flatK_list hk0 hk]⟩⟩, by
      rw [← hrows2]
      exact all2_mono (fun p v _ h => repO_step hst h) hall⟩)
  refine ⟨_, M', rfl, rfl, ⟨rfl, hst, hok', ⟨rfl, rfl, rfl, sortWorld_size, fun j hj => sortWorld_other (by omega) (by have := hok.low; omega), Nat.le_add_right _ _⟩, fun j hj => ?_⟩, ⟨#[], rfl, rfl⟩⟩
  have : j ≠ o := fun e => by rw [e] at hj; rw [hf o hj] at hx; simp at hx
  show (M.H.upd o _) j = none
  rw [Heap.upd_ne _ _ this]; exact hf j hj
end Go.Big
