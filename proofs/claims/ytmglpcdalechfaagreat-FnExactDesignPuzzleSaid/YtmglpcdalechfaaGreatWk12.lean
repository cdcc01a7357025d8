/- Walks: All placements of a piece: the one program; what it makes is the caller's. No condition. | Puzzles of designs: both programs. Condition: the given contracts hold. | Neighbours that are equal are taken out: the array stays one's own; and the program's forms so. No condition. -/
import Derived.Test.YtmglpcdalechfaaGreatBO
import Derived.Test.YtmglpcdalechfaaGreatWk8
import Derived.Test.YtmglpcdalechfaaGreatWk7
import Derived.Test.YtmglpcdalechfaaGreatWk4
import Derived.Test.YtmglpcdalechfaaGreatWk6
import Derived.Test.YtmglpcdalechfaaGreatBC
import Derived.Test.YtmglpcdalechfaaGreatWk11
import Derived.Test.YtmglpcdalechfaaGreatBigT2
import Derived.Test.YtmglpcdalechfaaGreatWk3
import Derived.Test.YtmglpcdalechfaaGreatBigL
import Derived.Test.YtmglpcdalechfaaGreatBigSort1
set_option linter.unusedVariables false
set_option linter.unusedSimpArgs false
section
open Go Go.Big
namespace Go.Proofs
set_option maxHeartbeats 2000000
theorem rowA_take {r : Shape} {k : Int} {f : Shape} {j : Nat} {c : Int × Int} (h : r[j]? = some c) : (r.take (j + 1)).filterMap (fun c => gM r k f (offA f c).1 (offA f c).2) = (r.take j).filterMap (fun c => gM r k f (offA f c).1 (offA f c).2) ++ (match gM r k f (offA f c).1 (offA f c).2 with | some t => [t] | none => []) := by
  obtain ⟨hj, rfl⟩ := List.getElem?_eq_some_iff.mp h
  rw [List.take_succ_eq_append_getElem hj, List.filterMap_append]
  congr 1
  cases q : gM r k f (offA f r[j]).1 (offA f r[j]).2 with
  | none => rw [List.filterMap_cons_none (f := fun c => gM r k f (offA f c).1 (offA f c).2) q]; rfl
  | some t => rw [List.filterMap_cons_some (f := fun c => gM r k f (offA f c).1 (offA f c).2) q]; rfl
theorem tag_app {t t2 : Nat} {rows row : List (List PV)} (h : tagOk t rows) (hr : t2 = 2 ∨ noObs row) : tagOk (joinT t t2) (rows ++ row) := by
  rcases h with h | h
  · exact .inl ((join_2 t t2).1 h)
  · rcases hr with hr | hr
    · exact .inl ((join_2 t t2).2 hr)
    · refine .inr fun r hm p hp => ?_
      rcases List.mem_append.mp hm with hm | hm
      · exact h r hm p hp
      · exact hr r hm p hp
theorem take_flatMap {α β : Type} {f : α → List β} {l : List α} {i : Nat} {x : α} (h : l[i]? = some x) : (l.take (i + 1)).flatMap f = (l.take i).flatMap f ++ f x := by
  obtain ⟨hi, rfl⟩ := List.getElem?_eq_some_iff.mp h
  rw [List.take_succ_eq_append_getElem hi, List.flatMap_append]; simp
theorem bq1 {a x j : Nat} (h : a ≤ x + j) : a + 1 ≤ x + (j + 1) := by omega
theorem bq1' {a x j : Nat} (h : a ≤ x + j) : a ≤ x + (j + 1) := by omega
theorem bq2 {a i n : Nat} (h : a ≤ i * 1000 + n) (hn : n ≤ 1000) : a ≤ (i + 1) * 1000 := by rw [Nat.add_mul]; omega
theorem bq3 {a i j : Nat} (h : a ≤ i * 1000 + j) (hi : i < 1000) (hn : j ≤ 1000) : a < 1002000 := by have := Nat.mul_le_mul_right 1000 (Nat.le_of_lt hi); omega
theorem bq4 {a i : Nat} (h : a ≤ i * 1000) (hi : i ≤ 8) : a < 1000000000 := by omega
theorem listA_cells {r : Shape} {i : Int} {fs : List Shape} {n : Nat} (h : ∀ f ∈ fs, f.length = n) : ∀ x ∈ listA r i fs, x.2.length = n := by
  intro x hx
  unfold listA rowA at hx
  obtain ⟨f, hf, hx⟩ := List.mem_flatMap.mp hx
  obtain ⟨c, hc, hx⟩ := List.mem_filterMap.mp hx
  rw [(setM_some (gM_some hx).2).2.2.1, movedM_len]
  exact h f hf
theorem placementsOf_o (G : Gv) (hA : AllG G) (r : Shape) (l : List PieceM) (k : Nat) (p : PieceM) (hp : l[k]? = some p) (hp0 : 0 < p.cs.length) (hpl : p.cs.length < 1000000) (hrs : r.Pairwise fun a b => lessC a.1 a.2 b.1 b.2 = true) (hr : r.length ≤ 1000) (hl : l.length < 1000000000) (hdup : (listA r k (formsI p)).Nodup) :
    GivesO Tryz.prog G 88 [.ag [.sl 0 (cells r), .sl 0 (pieces l)], .i .i64 k] (.sl 1 (places (orderP (listA r k (formsI p))))) := by
  refine .of (.body Tryz.func88 rfl (by simp [Tryz.ntmps88]) ?_)
  rw [Tryz.ntmps88, Tryz.results88]
  have hrow := pieces_at hp
  obtain ⟨hf1, hf2⟩ := formsI_ok p
  have hk : k < l.length := (List.getElem?_eq_some_iff.mp hp).1
  have hlenf := shapesR_len (formsI p)
  have hlenr := cells_len r
  replace hp := Hid.mk hp
  have hcel : ∀ x ∈ listA r k (formsI p), x.2.length < 1000000000 := fun x hx => by rw [listA_cells (n := p.cs.length) hf2 x hx]; omega
  replace hcel := Hid.mk hcel
  replace hdup := Hid.mk hdup
  replace hA := Hid.mk hA
  replace hrs := Hid.mk hrs
  refine AL ?_
  refine CV (formsOf_fn G hA.out.c1 hA.out.c2 p hp0 (by omega)) ?_
  have hfl : ∀ f ∈ formsI p, 0 < f.length ∧ f.length < 1000000 := fun f hf => by rw [hf2 f hf]; exact ⟨hp0, hpl⟩
  generalize formsI p = fs at hf1 hf2 hlenf hfl hcel hdup
  replace hfl := Hid.mk hfl
  replace hf2 := Hid.mk hf2
  clear hrow
  refine AL ?_
  refine .loop (.inv (fun d E H n' => ∃ (i e t' : Nat) (rows : List (List PV)) (S : List Nat), i + d = fs.length ∧ 2 < n' ∧ E 1 = .i .i64 k ∧ E 2 = .ptr 0 0 0 0 ∧ E 5 = .own 2 e ∧ E 18 = .sl 1 (shapesR fs) ∧ E 19 = .i .i64 fs.length ∧ E 20 = .i .i64 i ∧ H 0 = some (.box 35 [.sl 0 (cells r), .sl 0 (pieces l)]) ∧ H 2 = some (.arr e 110 2 rows t') ∧
      tagOk t' rows ∧ fitR 2 rows ∧ ownRs H rows (places ((fs.take i).flatMap (rowA r k))) S ∧ S.Nodup ∧ (∀ o ∈ S, 2 < o ∧ o < n') ∧ rows.length ≤ i * 1000 ∧ (rows = [] → t' ≠ 2)) fs.length ?_ ?_)
  · exact ⟨0, 0, 1, [], [], by omega, by omega, by simp [setF_if, argE], by simp [setF_if, argE], by simp [setF_if, argE], by simp [setF_if, argE], by simp [setF_if, argE, hlenf], by simp [setF_if, argE], by simp [upd_if], by simp [upd_if], .inr (fun r hr => by simp at hr), fun r hr => by simp at hr, ⟨rfl, rfl⟩, by simp, by simp, by simp, fun _ => by decide⟩
  rintro d E H n' ⟨i, e, t', rows, S, hi, hn, h1, h2, h5, h18, h19, h20, hH0, hH2, htag, hfit, hown, hnd, hlt, hlen, hnil⟩
  by_cases c : (i : Int) < fs.length
  · have hw_i : IntKind.i64.wrap ((i : Int) + 1) = (i : Int) + 1 := wr64 (by omega) (by omega)
    have hfi : i < fs.length := by omega
    have hfm := take_flatMap (f := rowA r k) (List.getElem?_eq_getElem hfi)
    have hrf := shapesR_at (ls := fs) (i := i) hfi
    rw [show fs.getD i [] = fs[i]'hfi by rw [List.getD_eq_getElem?_getD, List.getElem?_eq_getElem hfi]; rfl] at hrf
    obtain ⟨hff0, hff⟩ := hfl.out _ (List.getElem_mem hfi)
    generalize fs[i]'hfi = f at hfm hrf hff hff0
    replace hfm := Hid.mk hfm
    replace htag := Hid.mk htag
    replace hfit := Hid.mk hfit
    replace hown := Hid.mk hown
    replace hnd := Hid.mk hnd
    replace hlt := Hid.mk hlt
    replace hlen := Hid.mk hlen
    replace hnil := Hid.mk hnil
    refine AL ?_
    refine .loop (.inv (fun d2 E H n' => ∃ (j e t' : Nat) (rows : List (List PV)) (S : List Nat), j + d2 = r.length ∧ 2 < n' ∧ E 1 = .i .i64 k ∧ E 2 = .ptr 0 0 0 0 ∧ E 5 = .own 2 e ∧ E 18 = .sl 1 (shapesR fs) ∧ E 19 = .i .i64 fs.length ∧ E 20 = .i .i64 i ∧ E 7 = .sl 1 (cells f) ∧ E 25 = .sl 0 (cells r) ∧ E 26 = .i .i64 r.length ∧ E 27 = .i .i64 j ∧ H 0 = some (.box 35 [.sl 0 (cells r), .sl 0 (pieces l)]) ∧ H 2 = some (.arr e 110 2 rows t') ∧
        tagOk t' rows ∧ fitR 2 rows ∧ ownRs H rows (places ((fs.take i).flatMap (rowA r k) ++ (r.take j).filterMap (fun c => gM r k f (offA f c).1 (offA f c).2))) S ∧ S.Nodup ∧ (∀ o ∈ S, 2 < o ∧ o < n') ∧ rows.length ≤ i * 1000 + j ∧ (rows = [] → t' ≠ 2)) r.length ?_ ?_)
    · exact ⟨0, e, t', rows, S, by omega, by omega, by simp [setF_if, *], by simp [setF_if, *], by simp [setF_if, *], by simp [setF_if, *], by simp [setF_if, *], by simp [setF_if, *], by simp [setF_if, *], by simp [setF_if, *], by simp [setF_if, *], by simp [setF_if, *], by first | exact hH0 | simp [*], by first | exact hH2 | simp [*], htag.out, hfit.out, by simpa using hown.out, hnd.out, fun o ho => ⟨(hlt.out o ho).1, by have := (hlt.out o ho).2; omega⟩, Nat.le_trans hlen.out (Nat.le_add_right _ _), hnil.out⟩
    clear h1 h2 h5 h18 h19 h20 hH0 hH2 hn
    rintro d2 E H n' ⟨j, e, t', rows, S, hj, hn, h1, h2, h5, h18, h19, h20, h7, h25, h26, h27, hH0, hH2, htag, hfit, hown, hnd, hlt, hlen, hnil⟩
    replace htag := Hid.mk htag
    replace hfit := Hid.mk hfit
    replace hown := Hid.mk hown
    replace hnd := Hid.mk hnd
    replace hlt := Hid.mk hlt
    replace hlen := Hid.mk hlen
    replace hnil := Hid.mk hnil
    by_cases cj : (j : Int) < r.length
    · have hw_j : IntKind.i64.wrap ((j : Int) + 1) = (j : Int) + 1 := wr64 (by omega) (by omega)
      have hro := cells_at (l := r) (i := j) (by omega)
      have hjr : j < r.length := by omega
      have hrt := rowA_take (r := r) (k := k) (f := f) (List.getElem?_eq_getElem hjr)
      rw [show r.getD j (0, 0) = r[j]'hjr by rw [List.getD_eq_getElem?_getD, List.getElem?_eq_getElem hjr]; rfl] at hro
      generalize r[j]'hjr = c at hro hrt
      obtain ⟨cx, cy⟩ := c
      have hset := cellsToSet_o G r (movedM f (offA f (cx, cy)).1 (offA f (cx, cy)).2) hrs.out (by omega) (by rw [movedM_len]; omega)
      have hrf0 := cells_at (l := f) (i := 0) hff0
      have hg : gM r k f (offA f (cx, cy)).1 (offA f (cx, cy)).2 = (setM r (movedM f (offA f (cx, cy)).1 (offA f (cx, cy)).2)).map fun s => ((k : Int), s) := rfl
      rw [hg] at hrt
      generalize setM r (movedM f (offA f (cx, cy)).1 (offA f (cx, cy)).2) = sm at hset hrt
      clear hg
      have hmv := moved_fn G f (offA f (cx, cy)).1 (offA f (cx, cy)).2 (by omega)
      simp only [offA] at hset hmv
      generalize f.getD 0 (0, 0) = c0 at hset hmv hrf0
      obtain ⟨fx, fy⟩ := c0
      simp only at hset hmv hrf0
      replace hrt := Hid.mk hrt
      replace hset := Hid.mk hset
      replace hmv := Hid.mk hmv
      refine AX ?_
      refine DMF [154] [] 0 ?_
      refine AX ?_
      refine CM hmv.out ?_
      refine AX ?_
      refine CWM hset.out ?_
      intro z H1 S1 m hz hn1 hS hf hm
      have f0 := hf 0 (by omega)
      have f2 := hf 2 (by omega)
      simp only [upd_if, show ¬ (0 = n' + 3) by omega, show ¬ (2 = n' + 3) by omega, if_false, hH0, hH2] at f0 f2
      have hS3 : ∀ o ∈ S1, 2 < o ∧ o < m := fun o h => by have := hS o h; omega
      have hS4 : ∀ o ∈ S, 2 < o ∧ o < m := fun o h => by have := hlt.out o h; omega
      have hSd : ∀ o ∈ S, o ∉ S1 := fun o h1 h2 => by have := hlt.out o h1; have := hS o h2; omega
      have hf1 : ∀ o ∈ S, H1 o = H o := fun o h => by
        have h1 := (hlt.out o h).2
        rw [hf o (by omega)]; simp [upd_if, show ¬ o = n' + 3 by omega]
      clear hset hmv
      replace hS3 := Hid.mk hS3
      replace hS4 := Hid.mk hS4
      replace hSd := Hid.mk hSd
      replace hf1 := Hid.mk hf1
      replace hf := Hid.mk hf
      replace hS := Hid.mk hS
      replace hn1 := Hid.mk hn1
      have hm2 : 2 < m := by omega
      cases sm with
      | none =>
        simp only [setA] at hz
        obtain ⟨za, zb, s1, s2, rfl, rfl, hza, hzb⟩ := ownX_tup2 hz
        obtain ⟨rfl, rfl⟩ := ownX_b hzb
        clear hz hza hzb hH0 hH2
        have hrt2 := hrt.out
        simp only [Option.map_none, List.append_nil] at hrt2
        clear hrt
        replace hrt2 := Hid.mk hrt2
        refine AX ?_
        exact ⟨r.length - (j + 1), by omega, j + 1, e, t', rows, S, by omega, by omega, by simp [setF_if, *], by simp [setF_if, *], by simp [setF_if, *], by simp [setF_if, *], by simp [setF_if, *], by simp [setF_if, *], by simp [setF_if, *], by simp [setF_if, *], by simp [setF_if, *], by simp [setF_if, *], f0, f2, htag.out, hfit.out, by rw [hrt2.out]; exact ownRs_congr hf1.out hown.out, hnd.out, fun o ho => ⟨(hS4.out o ho).1, by have := (hS4.out o ho).2; omega⟩, bq1' hlen.out, hnil.out⟩
      | some s =>
        simp only [setA] at hz
        obtain ⟨za, zb, s1, s2, rfl, rfl, hza, hzb⟩ := ownX_tup2 hz
        obtain ⟨rfl, rfl⟩ := ownX_b hzb
        have hrt2 := hrt.out
        simp only [Option.map_some] at hrt2
        rw [List.append_nil] at hS3 hSd hS hn1
        have hq := ownX_leaf hza (ints_scal _)
        have hcs := ownX_cases hza
        have hlen1 := bq3 hlen.out (by omega) (by omega)
        have hb : (rows.length + 1) * 32 ≤ 140737488355328 := by omega
        clear hrt hz hza hzb hH0 hH2
        replace hrt2 := Hid.mk hrt2
        replace hq := Hid.mk hq
        have fin : ∀ (q : PV) (t2 : Nat) (H2 : Heap), ownP H1 q (.sl (ints s)) s1 → (noOb q = true ∨ t2 = 2) → (∀ o, 2 < o → o < m → H2 o = H1 o) → tagOk (joinT t' t2) (rows ++ [[.i .i64 k, q]]) ∧ ownRs H2 (rows ++ [[.i .i64 k, q]]) (places ((fs.take i).flatMap (rowA r k) ++ (r.take (j + 1)).filterMap (fun c => gM r k f (offA f c).1 (offA f c).2))) (S ++ s1) := by
          intro q t2 H2 h1 h2 h3
          refine ⟨tag_store htag.out (h2.symm.imp id fun h2 r hr p hp => ?_), ?_⟩
          · obtain rfl := List.mem_singleton.mp hr
            simp only [List.mem_cons, List.not_mem_nil, or_false] at hp
            rcases hp with rfl | rfl <;> first | rfl | exact h2
          · rw [hrt2.out, ← List.append_assoc, places_app]
            refine ownRs_append (ownRs_congr (H := H) (fun o ho => ?_) hown.out) (ownRs_one (ownPs_congr (H := H1) (fun o ho => ?_) ?_))
            · rw [h3 o (hS4.out o ho).1 (hS4.out o ho).2]; exact hf1.out o ho
            · exact h3 o (hS3.out o ho).1 (hS3.out o ho).2
            · rw [← List.nil_append s1]; exact ownPs_cons (ownP_scal_mk rfl) (by rw [← List.append_nil s1]; exact ownPs_cons h1 (ownPs_scal_mk (by simp)))
        replace fin := Hid.mk fin
        rcases hcs with ⟨o, eo, ty, sz, ro, t, rfl, hHo, ho⟩ | rfl | ⟨t, rfl⟩
        · have ho3 := hS3.out o ho
          have n3 : ¬ o = 2 := by omega
          clear ho
          obtain ⟨q, tg, e1, e2, hq1, hq2⟩ := hq.out
          cases e1
          clear hq2 e2
          replace hq1 := Hid.mk hq1
          refine AX ?_
          refine ⟨r.length - (j + 1), by omega, j + 1, e + 1, joinT t' (2), rows ++ [[PV.i .i64 k, PV.ob o eo]], S ++ s1, by omega, by omega, by simp [setF_if, *], by simp [setF_if, *], by simp [setF_if, *], by simp [setF_if, *], by simp [setF_if, *], by simp [setF_if, *], by simp [setF_if, *], by simp [setF_if, *], by simp [setF_if, *], by simp [setF_if, *], by simp [upd_if, *], by simp [upd_if, joinT, *], (fin.out _ _ H1 hq1.out (.inr rfl) (fun _ _ _ => rfl)).1, ?_, (fin.out _ (2) _ hq1.out (.inr rfl) (fun x h1 h2 => by simp [upd_if, show ¬ x = 2 by omega, show ¬ x = m + 10 by omega])).2, ?_, ?_, by rw [List.length_append]; exact bq1 hlen.out, fun h => by simp at h⟩
          · intro r hr
            rcases List.mem_append.mp hr with hr | hr
            · exact hfit.out r hr
            · rw [List.mem_singleton.mp hr]; rfl
          · exact List.nodup_append.mpr ⟨hnd.out, hn1.out, fun x hx y hy e => hSd.out x hx (e ▸ hy)⟩
          · intro x hx
            rcases List.mem_append.mp hx with hx | hx
            · exact ⟨(hS4.out x hx).1, by have := (hS4.out x hx).2; omega⟩
            · exact ⟨(hS3.out x hx).1, by have := (hS3.out x hx).2; omega⟩
        · skip
          obtain ⟨q, tg, e1, e2, hq1, hq2⟩ := hq.out
          cases e1
          clear hq2 e2
          replace hq1 := Hid.mk hq1
          refine AX ?_
          refine ⟨r.length - (j + 1), by omega, j + 1, e + 1, joinT t' (1), rows ++ [[PV.i .i64 k, PV.sl []]], S ++ s1, by omega, by omega, by simp [setF_if, *], by simp [setF_if, *], by simp [setF_if, *], by simp [setF_if, *], by simp [setF_if, *], by simp [setF_if, *], by simp [setF_if, *], by simp [setF_if, *], by simp [setF_if, *], by simp [setF_if, *], by simp [upd_if, *], by simp [upd_if, joinT, *], (fin.out _ _ H1 hq1.out (.inl rfl) (fun _ _ _ => rfl)).1, ?_, (fin.out _ (1) _ hq1.out (.inl rfl) (fun x h1 h2 => by simp [upd_if, show ¬ x = 2 by omega, show ¬ x = m + 10 by omega])).2, ?_, ?_, by rw [List.length_append]; exact bq1 hlen.out, fun h => by simp at h⟩
          · intro r hr
            rcases List.mem_append.mp hr with hr | hr
            · exact hfit.out r hr
            · rw [List.mem_singleton.mp hr]; rfl
          · exact List.nodup_append.mpr ⟨hnd.out, hn1.out, fun x hx y hy e => hSd.out x hx (e ▸ hy)⟩
          · intro x hx
            rcases List.mem_append.mp hx with hx | hx
            · exact ⟨(hS4.out x hx).1, by have := (hS4.out x hx).2; omega⟩
            · exact ⟨(hS3.out x hx).1, by have := (hS3.out x hx).2; omega⟩
        · skip
          obtain ⟨q, tg, e1, e2, hq1, hq2⟩ := hq.out
          cases e1
          clear hq2 e2
          replace hq1 := Hid.mk hq1
          refine AX ?_
          refine ⟨r.length - (j + 1), by omega, j + 1, e + 1, joinT t' (joinT 1 (joinT t 1)), rows ++ [[PV.i .i64 k, PV.sl []]], S ++ s1, by omega, by omega, by simp [setF_if, *], by simp [setF_if, *], by simp [setF_if, *], by simp [setF_if, *], by simp [setF_if, *], by simp [setF_if, *], by simp [setF_if, *], by simp [setF_if, *], by simp [setF_if, *], by simp [setF_if, *], by simp [upd_if, *], by simp [upd_if, joinT, *] <;> (by_cases g1 : t = 1 <;> by_cases g2 : t = 2 <;> by_cases g0 : t = 0 <;> simp [*] <;> omega), (fin.out _ _ H1 hq1.out (.inl rfl) (fun _ _ _ => rfl)).1, ?_, (fin.out _ (joinT 1 (joinT t 1)) _ hq1.out (.inl rfl) (fun x h1 h2 => by simp [upd_if, show ¬ x = 2 by omega, show ¬ x = m + 10 by omega])).2, ?_, ?_, by rw [List.length_append]; exact bq1 hlen.out, fun h => by simp at h⟩
          · intro r hr
            rcases List.mem_append.mp hr with hr | hr
            · exact hfit.out r hr
            · rw [List.mem_singleton.mp hr]; rfl
          · exact List.nodup_append.mpr ⟨hnd.out, hn1.out, fun x hx y hy e => hSd.out x hx (e ▸ hy)⟩
          · intro x hx
            rcases List.mem_append.mp hx with hx | hx
            · exact ⟨(hS4.out x hx).1, by have := (hS4.out x hx).2; omega⟩
            · exact ⟨(hS3.out x hx).1, by have := (hS3.out x hx).2; omega⟩
    · have ej : j = r.length := by omega
      have hown2 := hown.out
      rw [ej, List.take_length] at hown2
      have e2 : (fs.take (i + 1)).flatMap (rowA r k) = (fs.take i).flatMap (rowA r k) ++ r.filterMap (fun c => gM r k f (offA f c).1 (offA f c).2) := hfm.out
      rw [← e2] at hown2
      clear e2
      replace hown2 := Hid.mk hown2
      refine AL ?_
      exact ⟨fs.length - (i + 1), by omega, i + 1, e, t', rows, S, by omega, by omega, by simp [setF_if, *], by simp [setF_if, *], by simp [setF_if, *], by simp [setF_if, *], by simp [setF_if, *], by simp [setF_if, *], hH0, hH2, htag.out, hfit.out, hown2.out, hnd.out, fun o ho => ⟨(hlt.out o ho).1, by have := (hlt.out o ho).2; omega⟩, bq2 hlen.out (by omega), hnil.out⟩
  · have ei : i = fs.length := by omega
    rw [ei, List.take_length] at hown
    have hb9 : rows.length < 1000000000 := bq4 hlen (ei ▸ hf1)
    have h2S : 2 ∉ S := fun h => by have := (hlt 2 h).1; omega
    by_cases hne : rows = []
    · subst hne
      obtain ⟨e1, rfl⟩ := hown
      have hL0 : listA r k fs = [] := List.map_eq_nil_iff.mp e1
      rw [hL0]
      clear hcel hdup e1
      refine AL ?_
      refine CI ?_
      refine WC_given (hA.out.c4 _ _ _ _ (.tup []) H _ ⟨rfl, rfl, rfl, rfl, _, 2, e, _, 2, t', rfl, hH2⟩) ?_
      refine AL ?_
      exact ⟨[2], ownX_sl (tagOk_own hH2 ⟨by simp [orderP, places], rfl⟩ htag (by simp) hfit hnil), by simp⟩
    · obtain ⟨rows', S', hcall, g1, g2, g3, g4, g5⟩ := sortPl (L := listA r k fs) hA.out.c3 hH2 hown h2S hne hb9 hcel.out hdup.out htag hfit
      have h2S' : 2 ∉ S' := fun h => h2S (g2.mem_iff.mp h)
      have hndS := g2.nodup_iff.mpr hnd
      replace htag := Hid.mk htag
      replace hfit := Hid.mk hfit
      replace hown := Hid.mk hown
      replace hnd := Hid.mk hnd
      replace hlt := Hid.mk hlt
      replace hnil := Hid.mk hnil
      replace g1 := Hid.mk g1
      replace g2 := Hid.mk g2
      replace g4 := Hid.mk g4
      replace g5 := Hid.mk g5
      replace hcall := Hid.mk hcall
      replace hndS := Hid.mk hndS
      refine AL ?_
      refine CI ?_
      refine WC_given (hcall.out _) ?_
      refine AL ?_
      exact ⟨2 :: S', ownX_sl (tagOk_own (by simp [upd_if]; rfl) (ownRs_congr (fun o ho => by rw [upd_if, if_neg (by rintro rfl; exact h2S' ho)]) g1.out) g4.out (ownRs_ns g1.out (places_ns _)) g5.out (fun h => absurd h g3)), List.nodup_cons.mpr ⟨h2S', hndS.out⟩⟩
end Go.Proofs
end
section
open Go Go.Big
namespace Go.Proofs
set_option maxHeartbeats 2000000
def pcM (S : List Shape) (i : Int) : PieceM := ⟨S.getD i.toNat [], 1, true⟩
def pcsM (S : List Shape) (set : List Int) : List PieceM := set.map (pcM S)
theorem pieces_app1 (a : List PieceM) (p : PieceM) : pieces a ++ [pieceR p] = pieces (a ++ [p]) := by simp [pieces]
theorem pieces_fit (l : List PieceM) : fitR 3 (pieces l) := fun r hr => by obtain ⟨y, _, rfl⟩ := List.mem_map.mp hr; rfl
theorem l17Puzzle_fn (G : Gv) (r : Shape) (S : List Shape) (set : List Int) (hr : r.length < 1000000000) (hset : set.length < 1000) (hin : ∀ i ∈ set, 0 ≤ i ∧ i < S.length) (hS : ∀ s ∈ S, s.length < 1000) :
    Gives Tryz.prog G 116 [.sl 0 (cells r), .sl 0 (shapesR S), .sl 0 (ints set)] (.ag [.sl 1 (cells r), .sl 1 (pieces (pcsM S set))]) := by
  refine .of (.body Tryz.func116 rfl (by simp [Tryz.ntmps116]) ?_)
  rw [Tryz.ntmps116, Tryz.results116]
  have hsl := ints_len set
  have hrl := cells_len r
  have hSl := shapesR_len S
  replace hin := Hid.mk hin
  replace hS := Hid.mk hS
  refine AL ?_
  refine .loop (.inv (fun d E H n' => ∃ i e : Nat, i + d = set.length ∧ 1 < n' ∧ E 0 = .sl 0 (cells r) ∧ E 1 = .sl 0 (shapesR S) ∧ E 2 = .sl 0 (ints set) ∧ E 6 = .ptr 0 0 0 0 ∧ E 7 = .own 1 e ∧ E 8 = .i .i64 i ∧ H 0 = some (.box 35 [.nil, .nil]) ∧ H 1 = some (.arr e 68 3 (pieces (pcsM S (set.take i))) 1)) set.length ?_ ?_)
  · exact ⟨0, 0, by omega, by omega, by simp [setF_if, argE], by simp [setF_if, argE], by simp [setF_if, argE], by simp [setF_if, argE], by simp [setF_if, argE], by simp [setF_if, argE], by simp [upd_if], by simp [upd_if, pieces, pcsM]⟩
  rintro d E H n' ⟨i, e, hi, hn, h0, h1, h2, h6, h7, h8, hH0, hH1⟩
  by_cases c : (i : Int) < set.length
  · have hw_i : IntKind.i64.wrap ((i : Int) + 1) = (i : Int) + 1 := wr64 (by omega) (by omega)
    obtain ⟨x, hx⟩ : ∃ x, set[i]? = some x := ⟨_, List.getElem?_eq_getElem (by omega)⟩
    have hxr := ints_row hx
    obtain ⟨x0, x1⟩ := hin.out x (List.mem_of_getElem? hx)
    obtain ⟨s, hs⟩ : ∃ s, S[x.toNat]? = some s := ⟨_, List.getElem?_eq_getElem (by omega)⟩
    have hsr := shapesR_row hs
    have hs9 := hS.out s (List.mem_of_getElem? hs)
    have hcl := cells_len s
    have hpc : pcM S x = ⟨s, 1, true⟩ := by unfold pcM; rw [List.getD_eq_getElem?_getD, hs]; rfl
    have htk : pieces (pcsM S (set.take i)) ++ [[.sl (cells s), .i .i64 1, .b true]] = pieces (pcsM S (set.take (i + 1))) := by
      unfold pcsM
      rw [take_map _ hx, hpc, ← pieces_app1]
    have hpl : (pieces (pcsM S (set.take i))).length = i := by rw [pieces_len]; unfold pcsM; rw [List.length_map, List.length_take]; omega
    have hb : (i + 1) * 40 ≤ 140737488355328 := by omega
    have hb2 : (0 + s.length) * 16 ≤ 140737488355328 := by omega
    have hb3 : s.length * 16 ≤ 140737488355328 := by omega
    have hfit : (∀ (r : List PV), r ∈ cells s → r.length = 2) = True := by
      simp only [eq_iff_iff, iff_true]
      exact cells_fit s
    have hq0 : ∀ j, (0 = n' + j) = False := fun j => by simp; omega
    have hq1 : ∀ j, (1 = n' + j) = False := fun j => by simp; omega
    have hxx : x.toNat < S.length := by omega
    have hsc := cells_scal s
    generalize pieces (pcsM S (set.take i)) = R at hH1 htk hpl
    clear hpc
    replace hx := Hid.mk hx
    replace hs := Hid.mk hs
    replace hsc := Hid.mk hsc
    repeat first | refine W.seq ?_ | refine W.region ?_
    iterate 4 refine OP ?_
    refine WR.nil ?_
    refine TH ?_
    repeat first | refine W.seq ?_ | refine W.region ?_
    refine IFT ?_
    refine W.skip ?_
    refine TH ?_
    repeat first | refine W.seq ?_ | refine W.block ?_ | refine W.region ?_
    iterate 10 refine OP ?_
    refine WR.frz (n' + 5) 1 1 (ty := 142) (sz := 2) (rows := cells s) (t := 0) (by simp [upd_if, joinT]) (.inr ⟨rfl, .inr hsc.out⟩) (by decide) ?_
    intro E2 H2 hE2 hH2
    have f0 := hE2 0
    have f1 := hE2 1
    have f2 := hE2 2
    have f6 := hE2 6
    have f7 := hE2 7
    have f8 := hE2 8
    have f16 := hE2 16
    have f25 := hE2 25
    have g0 := hH2 0
    have g1 := hH2 1
    simp [setF_if, frzV, h0, h1, h2, h6, h7, h8, hq1] at f0 f1 f2 f6 f7 f8 f16 f25
    simp [frzH, upd_if, hH0, hH1, hq0, hq1, frzO, frzV] at g0 g1
    clear hE2 hH2 h0 h1 h2 h6 h7 h8 hH0 hH1
    refine AL ?_
    exact ⟨set.length - (i + 1), by omega, i + 1, e + 1, by omega, by omega, by simp [setF_if, *], by simp [setF_if, *], by simp [setF_if, *], by simp [setF_if, *], by simp [setF_if, *], by simp [setF_if, *], by simp [upd_if, *], by simp [upd_if, joinT, *]⟩
  · have ei : i = set.length := by omega
    rw [ei, List.take_length] at hH1
    have hb2 : (0 + r.length) * 16 ≤ 140737488355328 := by omega
    have hb3 : r.length * 16 ≤ 140737488355328 := by omega
    have hfit : (∀ (x : List PV), x ∈ cells r → x.length = 2) = True := by
      simp only [eq_iff_iff, iff_true]
      exact cells_fit r
    have hnb : newB 1 (pieces (pcsM S set)) := .inl (by decide)
    have hnb2 : newB 0 (cells r) := .inr (cells_scal r)
    generalize pieces (pcsM S set) = F at hH1 hnb ⊢
    have hq0 : ∀ j, (0 = n' + j) = False := fun j => by simp; omega
    have hq1 : ∀ j, (1 = n' + j) = False := fun j => by simp; omega
    refine AL ?_
    simp [retA, backA, backsA, newSl, upd_if, hH1, hnb, hnb2, hq0, hq1, joinT]
theorem clone_o (G : Gv) (l : Shape) (h1 : 0 < l.length) (hl : l.length < 1000000000) : GivesO Tryz.prog G 190 [.sl 0 (cells l)] (.sl 1 (cells l)) := by
  unfold GivesO
  refine (clone_fn G l _ _ h1 hl).mono ?_
  rintro r H n ⟨o, e, rfl, _, hH⟩
  exact ⟨[o], ownX_sl (ownA_mk hH (cells_scal _) (by decide) (cells_fit _)), by simp⟩
/-- Pieces that own their cells, put together one by one. -/
theorem pieceRow_own {H : Heap} {o e : Nat} {s : Shape} (h : H o = some (.arr e 142 2 (cells s) 0)) : ownPs H [.ob o e, .i .i64 1, .b true] (pieceR ⟨s, 1, true⟩) [o] := by
  rw [← List.append_nil [o]]
  exact ownPs_cons (ownP_mk h (cells_scal _) (by decide) (cells_fit _)) (ownPs_scal_mk (fun p hp => by simp at hp; rcases hp with rfl | rfl <;> rfl))
theorem designPuzzle_o (G : Gv) (hok : GvOk Tryz.prog G) (r : Shape) (S : List Shape) (set : List Int) (hr1 : 0 < r.length) (hr : r.length < 1000000000) (hset0 : 0 < set.length) (hset : set.length < 1000) (hin : ∀ i ∈ set, 0 ≤ i ∧ i < S.length) (hS : ∀ s ∈ S, 0 < s.length ∧ s.length < 1000) :
    GivesO Tryz.prog G 122 [.sl 0 (cells r), .sl 0 (shapesR S), .sl 0 (ints set)] (.ag [.sl 1 (cells r), .sl 1 (pieces (pcsM S set))]) := by
  refine .of (.body Tryz.func122 rfl (by simp [Tryz.ntmps122]) ?_)
  rw [Tryz.ntmps122, Tryz.results122]
  have hsl := ints_len set
  have hrl := cells_len r
  have hSl := shapesR_len S
  replace hin := Hid.mk hin
  replace hS := Hid.mk hS
  replace hok := Hid.mk hok
  refine AL ?_
  refine CWO (clone_o G r hr1 hr) ?_
  intro z H1 S1 m hz hn1 hS1 hf1 hm1
  obtain ⟨oR, eR, yR, zR, wR, gR, rfl, hHR, hRS⟩ : ∃ o e ty sz rows t, z = .own o e ∧ H1 o = some (.arr e ty sz rows t) ∧ o ∈ S1 := by
    rcases ownX_cases hz with h | rfl | ⟨t, rfl⟩
    · exact h
    · have h := ownX_gives hz
      simp only [giveA, Option.some.injEq, AV.sl.injEq, true_and] at h
      rw [← h] at hrl; simp at hrl; omega
    · have h := ownX_gives hz
      simp only [giveA, Option.some.injEq, AV.sl.injEq, true_and] at h
      rw [← h] at hrl; simp at hrl; omega
  obtain ⟨hb1, hb2⟩ := hS1 oR hRS
  have hq0 : H1 0 = some (.box 35 [.nil, .nil]) := by rw [hf1 0 (by omega)]; simp [upd_if]
  have hlt : ∀ o ∈ S1, 0 < o ∧ o < m := fun o ho => by have := hS1 o ho; omega
  clear hf1 hS1
  have r1 : ∀ j, (0 = m + j) = False := fun j => by simp; omega
  have r2 : ∀ j, (oR = m + j) = False := fun j => by simp; omega
  have r3 : (0 = m) = False := by simp; omega
  have r4 : (oR = m) = False := by simp; omega
  replace hz := Hid.mk hz
  replace hlt := Hid.mk hlt
  replace hn1 := Hid.mk hn1
  clear hRS
  have hm0 : 0 < m := by omega
  refine AL ?_
  refine .loop (.inv (fun d E H n' => ∃ (i : Nat) (za : AV), i + d = set.length ∧ m + 1 < n' ∧ E 1 = .sl 0 (shapesR S) ∧ E 6 = .ptr 0 0 0 0 ∧ E 7 = .ptr (m + 1) 0 0 0 ∧ E 13 = .sl 0 (ints set) ∧ E 14 = .i .i64 set.length ∧ E 15 = .i .i64 i ∧ H 0 = some (.box 35 [.nil, .nil]) ∧ H (m + 1) = some (.box 35 [.own oR eR, za]) ∧ (∀ o ∈ S1, H o = H1 o) ∧ (i = 0 ∧ za = .nil ∨ ∃ (oP e : Nat) (rows : List (List PV)) (Sx : List Nat), za = .own oP e ∧ m + 1 < oP ∧ oP < n' ∧ H oP = some (.arr e 68 3 rows 2) ∧ ownRs H rows (pieces (pcsM S (set.take i))) Sx ∧ Sx.Nodup ∧ (∀ o ∈ Sx, o ≠ oP ∧ m + 1 < o ∧ o < n') ∧ rows.length = i ∧ fitR 3 rows ∧ 0 < i)) set.length ?_ ?_)
  · exact ⟨0, .nil, by omega, by omega, by simp [setF_if, argE], by simp [setF_if, argE], by simp [setF_if, argE], by simp [setF_if, argE], by simp [setF_if, argE, hsl], by simp [setF_if, argE], by simp [upd_if, hq0, r1, r3], by simp [upd_if], fun o ho => by have := hlt.out o ho; simp only [upd_if]; rw [if_neg (by omega), if_neg (by omega)], .inl ⟨rfl, rfl⟩⟩
  clear hq0
  rintro d E H n' ⟨i, za, hi, hn, h1, h6, h7, h13, h14, h15, hH0, hHB, hHS, hza⟩
  replace hHS := Hid.mk hHS
  by_cases c : (i : Int) < set.length
  · have hw_i : IntKind.i64.wrap ((i : Int) + 1) = (i : Int) + 1 := wr64 (by omega) (by omega)
    obtain ⟨x, hx⟩ : ∃ x, set[i]? = some x := ⟨_, List.getElem?_eq_getElem (by omega)⟩
    have hxr := ints_row hx
    obtain ⟨x0, x1⟩ := hin.out x (List.mem_of_getElem? hx)
    obtain ⟨s, hs⟩ : ∃ s, S[x.toNat]? = some s := ⟨_, List.getElem?_eq_getElem (by omega)⟩
    have hsr := shapesR_row hs
    obtain ⟨hs1, hs9⟩ := hS.out s (List.mem_of_getElem? hs)
    have hclo := fun (H : Heap) n => clone_fn G s H n hs1 (by omega)
    have hpc : pcM S x = ⟨s, 1, true⟩ := by unfold pcM; rw [List.getD_eq_getElem?_getD, hs]; rfl
    have htk : pieces (pcsM S (set.take i)) ++ [pieceR ⟨s, 1, true⟩] = pieces (pcsM S (set.take (i + 1))) := by
      unfold pcsM
      rw [take_map _ hx, hpc, ← pieces_app1]
    have hxx : x.toNat < S.length := by omega
    have hsc := cells_scal s
    clear hpc
    replace hx := Hid.mk hx
    replace hs := Hid.mk hs
    replace hsc := Hid.mk hsc
    replace hclo := Hid.mk hclo
    have q0 : ∀ j, (0 = n' + j) = False := fun j => by simp; omega
    have qB : ∀ j, (m + 1 = n' + j) = False := fun j => by simp; omega
    have qB' : ∀ j, (n' + j = m + 1) = False := fun j => by simp; omega
    have qm : ∀ j, (m = n' + j) = False := fun j => by simp; omega
    have q0B : (0 = m + 1) = False := by simp
    rcases hza with ⟨rfl, rfl⟩ | ⟨oP, e, rows, Sx, rfl, p1, p2, hHP, hown, hnd2, hlt2, hrl2, hfit, hi0⟩
    · have hnd : [m + 1, n' + 10, n' + 12, n' + 13].Nodup := by simp <;> omega
      have htk0 : pieces (pcsM S (set.take 1)) = [pieceR ⟨s, 1, true⟩] := by rw [← htk]; rfl
      clear htk
      refine AX ?_
      refine FD [m + 1, n' + 10, n' + 12, n' + 13] [(25, 1), (27, 2), (28, 3), (999999, 0)] [(19, [0]), (20, [0]), (26, [1]), (27, [1]), (28, [2]), (29, [0]), (999999, [3])] hnd ?_
      refine FQ ?_ (hs := by
        intro Hx hx
        have f0 : Hx (m + 1) = _ := hx.at hnd 0 rfl (by decide)
        simp only [setF_if, upd_if, neAdd, neLt, ltAdd, addNe, ltNe, Nat.left_eq_add, Nat.add_eq_left, Nat.reduceEqDiff, Nat.add_assoc, Nat.reduceAdd, reduceIte, *] at f0
        exact EV)
      refine FQ ?_ (hs := by
        intro Hx hx
        have f0 : Hx (m + 1) = _ := hx.at hnd 0 rfl (by decide)
        simp only [setF_if, upd_if, neAdd, neLt, ltAdd, addNe, ltNe, Nat.left_eq_add, Nat.add_eq_left, Nat.reduceEqDiff, Nat.add_assoc, Nat.reduceAdd, reduceIte, *] at f0
        exact EV)
      repeat first | refine FF ?_ | refine FS ?_
      refine FQ ?_ (hs := by
        intro Hx hx
        exact EV)
      refine FQ ?_ (hs := by
        intro Hx hx
        exact EV)
      refine FCO 1 hok.out ?_
      refine (hclo.out _ _).mono ?_
      rintro y Hc nc ⟨oo, ee, rfl, _, hHc⟩
      refine ⟨oo, ee, 2, 0, 142, _, rfl, hHc, .inr hsc.out, by decide, ?_⟩
      clear hHc
      refine FQ ?_ (hs := by
        intro Hx hx
        have f0 : Hx (n' + 10) = _ := hx.at hnd 1 rfl (by decide)
        simp only [setF_if, upd_if, neAdd, neLt, ltAdd, addNe, ltNe, Nat.left_eq_add, Nat.add_eq_left, Nat.reduceEqDiff, Nat.add_assoc, Nat.reduceAdd, reduceIte, *] at f0
        exact EV)
      refine FM 2 (n' + 12) ?_ (hs := by
        intro Hx hx
        have f0 : Hx (n' + 10) = _ := hx.at hnd 1 rfl (by decide)
        simp only [setF_if, upd_if, neAdd, neLt, ltAdd, addNe, ltNe, Nat.left_eq_add, Nat.add_eq_left, Nat.reduceEqDiff, Nat.add_assoc, Nat.reduceAdd, reduceIte, *] at f0
        exact EVM)
      refine FM 3 (n' + 13) ?_ (hs := by
        intro Hx hx
        have f0 : Hx (n' + 12) = _ := hx.at hnd 2 rfl (by decide)
        simp only [setF_if, upd_if, neAdd, neLt, ltAdd, addNe, ltNe, Nat.left_eq_add, Nat.add_eq_left, Nat.reduceEqDiff, Nat.add_assoc, Nat.reduceAdd, reduceIte, *] at f0
        exact EVM)
      refine FQ ?_ (hs := by
        intro Hx hx
        have f0 : Hx (m + 1) = _ := hx.at hnd 0 rfl (by decide)
        simp only [setF_if, upd_if, neAdd, neLt, ltAdd, addNe, ltNe, Nat.left_eq_add, Nat.add_eq_left, Nat.reduceEqDiff, Nat.add_assoc, Nat.reduceAdd, reduceIte, *] at f0
        exact EV)
      refine FMN 0 (m + 1) ?_ (hs := by
        intro Hx hx
        have f0 : Hx (m + 1) = _ := hx.at hnd 0 rfl (by decide)
        simp only [setF_if, upd_if, neAdd, neLt, ltAdd, addNe, ltNe, Nat.left_eq_add, Nat.add_eq_left, Nat.reduceEqDiff, Nat.add_assoc, Nat.reduceAdd, reduceIte, *] at f0
        have f1 : Hx (n' + 13) = _ := hx.at hnd 3 rfl (by decide)
        simp only [setF_if, upd_if, neAdd, neLt, ltAdd, addNe, ltNe, Nat.left_eq_add, Nat.add_eq_left, Nat.reduceEqDiff, Nat.add_assoc, Nat.reduceAdd, reduceIte, *] at f1
        exact EVM)
      refine WF.nil ?_
      clear hnd
      refine AX ?_
      exact ⟨set.length - (0 + 1), by omega, 0 + 1, .own (n' + 13) 0, by omega, by omega, by simp [setF_if, *], by simp [setF_if, *], by simp [setF_if, *], by simp [setF_if, *], by simp [setF_if, *], by simp [setF_if, *], by simp [upd_if, *], by simp [upd_if, *], fun o ho => by
        have h1 := hlt.out o ho
        simp only [upd_if]
        repeat rw [if_neg (by omega)]
        exact hHS.out o ho, .inr ⟨n' + 13, 0, [[.ob (n' + 10) ee, .i .i64 1, .b true]], [n' + 10], rfl, by omega, by omega, by simp [upd_if, *], by rw [htk0]; exact ownRs_one (pieceRow_own (by simp [upd_if, *])), by simp, fun o ho => by simp at ho; omega, rfl, fun r hr => by simp at hr; rw [hr]; rfl, by omega⟩⟩
    · have qP : ∀ j, (oP = n' + j) = False := fun j => by simp; omega
      have qP' : ∀ j, (n' + j = oP) = False := fun j => by simp; omega
      have qP1 : (oP = m + 1) = False := by simp; omega
      have qP2 : (m + 1 = oP) = False := by simp; omega
      have qP0 : (0 = oP) = False := by simp; omega
      have hb : (rows.length + 1) * 40 ≤ 140737488355328 := by omega
      have hnd : [m + 1, n' + 10, n' + 12, oP].Nodup := by simp <;> omega
      replace hown := Hid.mk hown
      replace hnd2 := Hid.mk hnd2
      replace hlt2 := Hid.mk hlt2
      replace hrl2 := Hid.mk hrl2
      replace hfit := Hid.mk hfit
      replace htk := Hid.mk htk
      refine AX ?_
      refine FD [m + 1, n' + 10, n' + 12, oP] [(25, 1), (27, 2), (28, 3), (999999, 0)] [(19, [0]), (20, [0]), (26, [1]), (27, [1]), (28, [2]), (29, [0]), (999999, [3])] hnd ?_
      refine FQ ?_ (hs := by
        intro Hx hx
        have f0 : Hx (m + 1) = _ := hx.at hnd 0 rfl (by decide)
        simp only [setF_if, upd_if, neAdd, neLt, ltAdd, addNe, ltNe, Nat.left_eq_add, Nat.add_eq_left, Nat.reduceEqDiff, Nat.add_assoc, Nat.reduceAdd, reduceIte, *] at f0
        exact EV)
      refine FQ ?_ (hs := by
        intro Hx hx
        have f0 : Hx (m + 1) = _ := hx.at hnd 0 rfl (by decide)
        simp only [setF_if, upd_if, neAdd, neLt, ltAdd, addNe, ltNe, Nat.left_eq_add, Nat.add_eq_left, Nat.reduceEqDiff, Nat.add_assoc, Nat.reduceAdd, reduceIte, *] at f0
        exact EV)
      repeat first | refine FF ?_ | refine FS ?_
      refine FQ ?_ (hs := by
        intro Hx hx
        exact EV)
      refine FQ ?_ (hs := by
        intro Hx hx
        exact EV)
      refine FCO 1 hok.out ?_
      refine (hclo.out _ _).mono ?_
      rintro y Hc nc ⟨oo, ee, rfl, _, hHc⟩
      refine ⟨oo, ee, 2, 0, 142, _, rfl, hHc, .inr hsc.out, by decide, ?_⟩
      clear hHc
      refine FQ ?_ (hs := by
        intro Hx hx
        have f0 : Hx (n' + 10) = _ := hx.at hnd 1 rfl (by decide)
        simp only [setF_if, upd_if, neAdd, neLt, ltAdd, addNe, ltNe, Nat.left_eq_add, Nat.add_eq_left, Nat.reduceEqDiff, Nat.add_assoc, Nat.reduceAdd, reduceIte, *] at f0
        exact EV)
      refine FM 2 (n' + 12) ?_ (hs := by
        intro Hx hx
        have f0 : Hx (n' + 10) = _ := hx.at hnd 1 rfl (by decide)
        simp only [setF_if, upd_if, neAdd, neLt, ltAdd, addNe, ltNe, Nat.left_eq_add, Nat.add_eq_left, Nat.reduceEqDiff, Nat.add_assoc, Nat.reduceAdd, reduceIte, *] at f0
        exact EVM)
      refine FM 3 (oP) ?_ (hs := by
        intro Hx hx
        have f0 : Hx (n' + 12) = _ := hx.at hnd 2 rfl (by decide)
        simp only [setF_if, upd_if, neAdd, neLt, ltAdd, addNe, ltNe, Nat.left_eq_add, Nat.add_eq_left, Nat.reduceEqDiff, Nat.add_assoc, Nat.reduceAdd, reduceIte, *] at f0
        have f1 : Hx (oP) = _ := hx.at hnd 3 rfl (by decide)
        simp only [setF_if, upd_if, neAdd, neLt, ltAdd, addNe, ltNe, Nat.left_eq_add, Nat.add_eq_left, Nat.reduceEqDiff, Nat.add_assoc, Nat.reduceAdd, reduceIte, *] at f1
        exact EVM)
      refine FQ ?_ (hs := by
        intro Hx hx
        have f0 : Hx (m + 1) = _ := hx.at hnd 0 rfl (by decide)
        simp only [setF_if, upd_if, neAdd, neLt, ltAdd, addNe, ltNe, Nat.left_eq_add, Nat.add_eq_left, Nat.reduceEqDiff, Nat.add_assoc, Nat.reduceAdd, reduceIte, *] at f0
        exact EV)
      refine FMN 0 (m + 1) ?_ (hs := by
        intro Hx hx
        have f0 : Hx (m + 1) = _ := hx.at hnd 0 rfl (by decide)
        simp only [setF_if, upd_if, neAdd, neLt, ltAdd, addNe, ltNe, Nat.left_eq_add, Nat.add_eq_left, Nat.reduceEqDiff, Nat.add_assoc, Nat.reduceAdd, reduceIte, *] at f0
        have f1 : Hx (oP) = _ := hx.at hnd 3 rfl (by decide)
        simp only [setF_if, upd_if, neAdd, neLt, ltAdd, addNe, ltNe, Nat.left_eq_add, Nat.add_eq_left, Nat.reduceEqDiff, Nat.add_assoc, Nat.reduceAdd, reduceIte, *] at f1
        exact EVM)
      refine WF.nil ?_
      clear hnd
      refine AX ?_
      refine ⟨set.length - (i + 1), by omega, i + 1, .own oP (e + 1), by omega, by omega, by simp [setF_if, *], by simp [setF_if, *], by simp [setF_if, *], by simp [setF_if, *], by simp [setF_if, *], by simp [setF_if, *], by simp [upd_if, *], by simp [upd_if, *], fun o ho => by
        have h1 := hlt.out o ho
        simp only [upd_if]
        repeat rw [if_neg (by omega)]
        exact hHS.out o ho, .inr ⟨oP, e + 1, rows ++ [[.ob (n' + 10) ee, .i .i64 1, .b true]], Sx ++ [n' + 10], rfl, by omega, by omega, by simp [upd_if, joinT, *], ?_, ?_, ?_, by rw [List.length_append, hrl2.out]; rfl, ?_, by omega⟩⟩
      · rw [← htk.out]
        have hpp : ∀ a b : List PieceM, pieces (a ++ b) = pieces a ++ pieces b := fun a b => by simp [pieces]
        refine ownRs_append (ownRs_congr (H := H) (fun o ho => ?_) hown.out) (ownRs_one (pieceRow_own (by simp [upd_if, *])))
        have h2 := hlt2.out o ho
        simp only [upd_if]
        repeat rw [if_neg (by omega)]
      · exact List.nodup_append.mpr ⟨hnd2.out, by simp, fun a ha b hb e => by
          have h2 := hlt2.out a ha
          simp at hb; omega⟩
      · intro o ho
        rcases List.mem_append.mp ho with ho | ho
        · have h2 := hlt2.out o ho
          exact ⟨h2.1, h2.2.1, by omega⟩
        · simp at ho; omega
      · intro r hr
        rcases List.mem_append.mp hr with hr | hr
        · exact hfit.out r hr
        · simp at hr; rw [hr]; rfl
  · have ei : i = set.length := by omega
    rcases hza with ⟨e0, _⟩ | ⟨oP, e, rows, Sx, rfl, p1, p2, hHP, hown, hnd2, hlt2, hrl2, hfit, hi0⟩
    · omega
    rw [ei, List.take_length] at hown
    have qP0 : (oP = 0) = False := by simp; omega
    have hnz : (0 : Nat) ∉ S1 := fun h => by have := hlt.out 0 h; omega
    have hRx : H oR = some (.arr eR yR zR wR gR) := by
      rcases ownX_cases hz.out with ⟨_, _, _, _, _, _, e1, _, h2⟩ | e1 | ⟨_, e1⟩
      · cases e1; rw [hHS.out _ h2]; exact hHR
      · cases e1
      · cases e1
    have hR0 : (oR = 0) = False := by simp; omega
    replace hown := Hid.mk hown
    replace hnd2 := Hid.mk hnd2
    replace hlt2 := Hid.mk hlt2
    replace hrl2 := Hid.mk hrl2
    replace hfit := Hid.mk hfit
    replace ei := Hid.mk ei
    refine AL ?_
    refine ⟨S1 ++ (oP :: Sx), ownX_mk2 (ownX_congr (fun o ho => ?_) hz.out) (ownX_sl (.inl ⟨oP, e, 68, 3, rows, 2, Sx, rfl, ?_, rfl, ownRs_congr (fun o ho => ?_) hown.out, .inl rfl, fun hs => ?_, hfit.out⟩)), ?_⟩
    · have h1 := hlt.out o ho
      simp only [upd_if]
      rw [if_neg (by omega)]
      exact hHS.out o ho
    · simp [upd_if, *]
    · have h2 := hlt2.out o ho
      simp only [upd_if]
      rw [if_neg (by omega)]
    · exfalso
      have hl := ownRs_len hown.out
      rw [hrl2.out, ei.out] at hl
      cases rows with
      | nil => have := hrl2.out; simp at this; omega
      | cons r0 rs =>
        obtain ⟨q, qs, s1, s2, e1, _, h3, _⟩ := hown.out
        obtain ⟨p, hp, h4⟩ := ownPs_ns h3 (pieces_ns _ q (by rw [e1]; exact List.mem_cons_self))
        have := hs r0 List.mem_cons_self p hp
        rw [h4] at this; simp at this
    · rw [List.nodup_append]
      refine ⟨hn1.out, List.nodup_cons.mpr ⟨fun h => (hlt2.out oP h).1 rfl, hnd2.out⟩, fun a ha b hb e => ?_⟩
      have h1 := hlt.out a ha
      rcases List.mem_cons.mp hb with rfl | hb
      · omega
      · have := hlt2.out b hb; omega
end Go.Proofs
end
section
open Go Go.Big
namespace Go.Proofs
set_option maxHeartbeats 2000000
theorem compactFunc_own (G : Gv) (ls : List Shape) (H0 : Heap) (n0 o e : Nat) (ho : o < n0) (hH0 : H0 o = some (.arr e 32 1 (shapesR ls) 1)) (h1 : 0 < ls.length) (hls : ls.length < 1000000) (hl : ∀ l ∈ ls, l.length < 1000000000) :
    WC Tryz.prog G 261 [.own o e, .fn 262 []] H0 n0 (fun r H' n' => n0 ≤ n' ∧ (∀ k, k < n0 → k ≠ o → H' k = H0 k) ∧ ∃ e', r = .own o e' ∧ H' o = some (.arr e' 32 1 (shapesR (compactS ls)) 1)) := by
  refine (.body Tryz.func261 rfl (by simp [Tryz.ntmps261]) ?_)
  rw [Tryz.ntmps261, Tryz.results261]
  have hlen := shapesR_len ls
  replace hl := Hid.mk hl
  by_cases c2 : (ls.length : Int) < 2
  · refine AL ?_
    have : compactS ls = ls := by
      match ls, c2 with
      | [], _ => rfl
      | [x], _ => rfl
      | _ :: _ :: _, h => simp at h; omega
    exact ⟨by omega, fun k _ _ => by simp, e, by simp [retA, setF_if, argE], by rw [this]; exact hH0⟩
  · refine AL ?_
    refine .loop (.inv (fun d E H n' => ∃ k : Nat, k + d = ls.length ∧ 1 ≤ k ∧ n0 ≤ n' ∧ (∀ k, k < n0 → k ≠ o → H k = H0 k) ∧ E 0 = .own o e ∧ E 1 = .fn 262 [] ∧ E 5 = .i .i64 k ∧ H o = some (.arr e 32 1 (shapesR ls) 1) ∧ (∀ j, 1 ≤ j → j < k → ls.getD j [] ≠ ls.getD (j - 1) [])) (ls.length - 1) ?_ ?_)
    · exact ⟨1, by omega, by omega, by omega, fun k _ _ => rfl, by simp [setF_if, argE], by simp [setF_if, argE], by simp [setF_if, argE], hH0, fun j h1 h2 => by omega⟩
    clear hH0 c2
    rintro d E H n' ⟨k, hk, hk1, hnn, hfr, h0, h1, h5, hH, hall⟩
    have hon : o < n' := by omega
    replace hfr := Hid.mk hfr
    replace hall := Hid.mk hall
    by_cases c : (k : Int) < ls.length
    · have hw_k : IntKind.i64.wrap ((k : Int) + 1) = (k : Int) + 1 := wr64 (by omega) (by omega)
      have cN : k < ls.length := by omega
      have hr := shapesR_at (ls := ls) (i := k) cN
      have hr2 : (shapesR ls)[((k : Int) - 1).toNat]? = some [.sl (cells (ls.getD (k - 1) []))] := by rw [show ((k : Int) - 1).toNat = k - 1 by omega]; exact shapesR_at (by omega)
      have hw1 : IntKind.i64.wrap ((k : Int) - 1) = (k : Int) - 1 := wr64 (by omega) (by omega)
      have h01 : 0 ≤ (k : Int) - 1 := by omega
      have hlt2 : ((k : Int) - 1).toNat < ls.length := by omega
      have hmem : ∀ i, i < ls.length → (ls.getD i []).length < 1000000000 := fun i hi => hl.out _ (by rw [List.getD_eq_getElem?_getD, List.getElem?_eq_getElem hi]; exact List.getElem_mem _)
      have hx := hmem k cN
      have hy := hmem (k - 1) (by omega)
      have hpre := compact_prefix (ls := ls) (k := k) hk1 (by omega) hall.out
      rw [dropS_at cN, cptA] at hpre
      have hnx : ls.getD k [] ≠ ls.getD (k - 1) [] → ∀ j, 1 ≤ j → j < k + 1 → ls.getD j [] ≠ ls.getD (j - 1) [] := fun h j h1 h2 => by
        by_cases q : j = k
        · rw [q]; exact h
        · exact hall.out j h1 (by omega)
      replace hnx := Hid.mk hnx
      replace hpre := Hid.mk hpre
      replace hmem := Hid.mk hmem
      generalize hxe : ls.getD k [] = x at hr hx hpre hnx
      generalize ls.getD (k - 1) [] = y at hr2 hy hpre hnx
      replace hxe := Hid.mk hxe
      refine AL ?_
      refine CQ (equalShapes_fn G x y hx hy) ?_
      by_cases ceq : x = y
      · have hd : decide (x = y) = true := by simp [ceq]
        have hpre2 := hpre.out
        rw [if_pos ceq] at hpre2
        replace hpre2 := Hid.mk hpre2
        replace ceq := Hid.mk ceq
        clear hpre hnx hr hr2
        have hkn : (k ≤ ls.length) = True := by simp; omega
        refine AL ?_
        refine .loop (.inv (fun d2 E H n' => ∃ (j kk : Nat) (R : List Shape), k + j + d2 = ls.length ∧ 1 ≤ j ∧ kk ≤ k + j - 1 ∧ R.length = ls.length ∧ R.drop (k + j - 1) = ls.drop (k + j - 1) ∧ R.take kk ++ cptA (ls.getD (k + j - 1) []) (ls.drop (k + j)) = compactS ls ∧ 1 ≤ kk ∧ n0 ≤ n' ∧ (∀ k, k < n0 → k ≠ o → H k = H0 k) ∧ E 0 = .own o e ∧ E 1 = .fn 262 [] ∧ E 5 = .i .i64 kk ∧ E 6 = .vw o e k (ls.length - k) ∧ E 7 = .i .i64 j ∧ H o = some (.arr e 32 1 (shapesR R) 1)) (ls.length - k - 1) ?_ ?_)
        · exact ⟨1, k, ls, by omega, by omega, by omega, rfl, rfl, by rw [show k + 1 - 1 = k by omega, hxe.out]; exact hpre2.out.symm, by omega, by omega, hfr.out, by simp [setF_if, *], by simp [setF_if, *], by simp [setF_if, *], by simp [setF_if, *], by simp [setF_if, *], by simp [*]⟩
        clear hH h0 h1 h5 hon hfr hnn hpre2 hxe hw_k hw1 h01 hlt2 hx hy hall
        rintro d2 E H n' ⟨j, kk, R, hj, hj1, hkk, hRl, hRd, hRt, hk1', hnn, hfr, h0, h1, h5, h6, h7, hH⟩
        have hon : o < n' := by omega
        replace hfr := Hid.mk hfr
        have hRlen := shapesR_len R
        have htl : ((shapesR R).drop k |>.take (ls.length - k)).length = ls.length - k := by rw [List.length_take, List.length_drop, hRlen, hRl]; omega
        by_cases cj : (j : Int) < ((ls.length - k : Nat) : Int)
        · have hw_j : IntKind.i64.wrap ((j : Int) + 1) = (j : Int) + 1 := wr64 (by omega) (by omega)
          have hRx : R.getD (k + j) [] = ls.getD (k + j) [] := by
            have := congrArg (fun z : List Shape => z[1]?) hRd
            simp only [List.getElem?_drop] at this
            rw [show k + j - 1 + 1 = k + j by omega] at this
            simp only [List.getD_eq_getElem?_getD, this]
          have hRy : R.getD (k + j - 1) [] = ls.getD (k + j - 1) [] := by
            have := congrArg (fun z : List Shape => z[0]?) hRd
            simp only [List.getElem?_drop, Nat.add_zero] at this
            simp only [List.getD_eq_getElem?_getD, this]
          have hr := shapesR_at (ls := R) (i := k + j) (by omega)
          have hr2 : (shapesR R)[k + ((j : Int) - 1).toNat]? = some [.sl (cells (R.getD (k + j - 1) []))] := by rw [show k + ((j : Int) - 1).toNat = k + j - 1 by omega]; exact shapesR_at (by omega)
          have hr3 := shapesR_at (ls := R) (i := kk) (by omega)
          rw [hRx] at hr
          rw [hRy] at hr2
          have hw1 : IntKind.i64.wrap ((j : Int) - 1) = (j : Int) - 1 := wr64 (by omega) (by omega)
          have hwk : IntKind.i64.wrap ((kk : Int) + 1) = (kk : Int) + 1 := wr64 (by omega) (by omega)
          have h01 : 0 ≤ (j : Int) - 1 := by omega
          have hlt2 : ((j : Int) - 1).toNat < ls.length - k := by omega
          have hlt3 : j < ls.length - k := by omega
          have hlt4 : kk < ls.length := by omega
          have hx := hmem.out (k + j) (by omega)
          have hy := hmem.out (k + j - 1) (by omega)
          rw [dropS_at (l := ls) (i := k + j) (by omega), cptA] at hRt
          have hRd2 : R.drop (k + j) = ls.drop (k + j) := by
            have := congrArg (fun z : List Shape => z.drop 1) hRd
            simp only [List.drop_drop] at this
            rw [show k + j - 1 + 1 = k + j by omega] at this
            exact this
          have hset : ∀ z, (shapesR R).set kk [PV.sl (cells z)] = shapesR (R.set kk z) := fun z => (shapesR_set R kk z).symm
          replace hRt := Hid.mk hRt
          replace hRd := Hid.mk hRd2
          clear hRx hRy hRd2
          generalize hxe : ls.getD (k + j) [] = x at hr hx hRt
          generalize ls.getD (k + j - 1) [] = y at hr2 hy hRt
          replace hxe := Hid.mk hxe
          refine AL ?_
          refine CQ (equalShapes_fn G x y hx hy) ?_
          by_cases ceq : x = y
          · have hd : decide (x = y) = true := by simp [ceq]
            have hRt2 := hRt.out
            rw [if_pos ceq] at hRt2
            replace ceq := Hid.mk ceq
            replace hRt2 := Hid.mk hRt2
            have bt : (!true) = false := rfl
            refine AL ?_
            refine ⟨d2 - 1, by omega, j + 1, kk, R, by omega, by omega, by omega, hRl, by rw [show k + (j + 1) - 1 = k + j by omega]; exact hRd.out, by rw [show k + (j + 1) - 1 = k + j by omega, hxe.out]; exact hRt2.out, by omega, by omega, hfr.out, by simp [setF_if, *], by simp [setF_if, *], by simp [setF_if, *], by simp [setF_if, *], by simp [setF_if, *], by simp [*]⟩
          · have hd : decide (x = y) = false := by simp [ceq]
            have hRt2 := hRt.out
            rw [if_neg ceq] at hRt2
            replace ceq := Hid.mk ceq
            replace hRt2 := Hid.mk hRt2
            have bt : (!false) = true := rfl
            refine AL ?_
            refine ⟨d2 - 1, by omega, j + 1, kk + 1, R.set kk x, by omega, by omega, by omega, by rw [List.length_set]; exact hRl, ?_, ?_, by omega, by omega, fun k hk hko => by rw [upd_if, if_neg hko]; exact hfr.out k hk hko, by simp [setF_if, *], by simp [setF_if, *], by simp [setF_if, *], by simp [setF_if, *], by simp [setF_if, *], by simp [upd_if, *]⟩
            · rw [show k + (j + 1) - 1 = k + j by omega, List.drop_set_of_lt (by omega)]; exact hRd.out
            · rw [show k + (j + 1) - 1 = k + j by omega, hxe.out, List.take_succ_eq_append_getElem (by rw [List.length_set]; omega), List.take_set_of_le (Nat.le_refl _), List.getElem_set_self]
              have := hRt2.out
              simpa [Nat.add_assoc] using this
        · have ej : k + j = ls.length := by omega
          have hRt2 : R.take kk = compactS ls := by
            rw [ej, List.drop_length, cptA, List.append_nil] at hRt
            exact hRt
          replace hRt2 := Hid.mk hRt2
          clear hRt hRd hmem
          have hkl : (kk ≤ ls.length) = True := by simp; omega
          have hsum : (kk + (ls.length - kk) = ls.length) = True := by simp; omega
          have hfin : (((List.take kk (shapesR R) ++ List.replicate (ls.length - kk) [PV.sl []]).drop 0).take kk) = shapesR (compactS ls) := by
            rw [List.drop_zero, List.take_append_of_le_length (by rw [List.length_take, hRlen]; omega), List.take_take, Nat.min_self, ← shapesR_take, hRt2.out]
          replace hfin := Hid.mk hfin
          refine AX ?_
          have hcl : (List.take kk (shapesR R) ++ List.replicate (ls.length - kk) [PV.sl []]).length = ls.length := by simp; omega
          refine OP ?_
          refine OP ?_
          refine WR.trim 4 (o := o) (e := e) (lo := 0) (m := kk) (ty := 32) (sz := 1) (rows := List.take kk (shapesR R) ++ List.replicate (ls.length - kk) [PV.sl []]) (t := 1) (by simp [setF_if]) (by simp [upd_if]) (by omega) ?_
          refine AL ?_
          refine ⟨by omega, fun k hk hko => by rw [upd_if, if_neg hko, upd_if, if_neg hko]; exact hfr.out k hk hko, e + 1, by simp [retA, setF_if], ?_⟩
          rw [upd_if, if_pos rfl, hfin.out]
      · have hd : decide (x = y) = false := by simp [ceq]
        replace hnx := Hid.mk (hnx.out ceq)
        clear ceq
        refine AL ?_
        refine ⟨ls.length - (k + 1), by omega, k + 1, by omega, ?_⟩
        exact ⟨by omega, by omega, hfr.out, by simp [setF_if, *], by simp [setF_if, *], by simp [setF_if, *], by simp [*], hnx.out⟩
    · have e' : k = ls.length := by omega
      have hpre := compact_prefix (ls := ls) (k := k) hk1 (by omega) hall.out
      subst e'
      rw [List.drop_length, cptA, List.append_nil, List.take_length] at hpre
      refine AL ?_
      exact ⟨by omega, hfr.out, e, by simp [retA, setF_if, h0], by rw [hpre]; exact hH⟩
theorem tidyShapes_own (G : Gv) (hG : ∀ f args H n r H' n', sortsG1 f args H n r H' n' → G f args H n r H' n') (ls : List Shape) (H0 : Heap) (n0 o e : Nat) (ho : o < n0) (hH : H0 o = some (.arr e 32 1 (shapesR ls) 1)) (h1 : 0 < ls.length) (hls : ls.length < 1000000) (hl : ∀ l ∈ ls, l.length < 1000000000) :
    WC Tryz.prog G 205 [.own o e] H0 n0 (fun r H' n' => n0 ≤ n' ∧ (∀ k, k < n0 → k ≠ o → H' k = H0 k) ∧ ∃ e', r = .own o e' ∧ H' o = some (.arr e' 32 1 (shapesR (tidyM ls)) 1)) := by
  refine (.body Tryz.func205 rfl (by simp [Tryz.ntmps205]) ?_)
  rw [Tryz.ntmps205, Tryz.results205]
  replace hG := Hid.mk hG
  replace hl := Hid.mk hl
  refine AL ?_
  refine CI ?_
  refine WC_given (hG.out _ _ _ _ (.tup []) (H0.upd o (.arr e 32 1 (shapesR (orderS ls)) 1)) _ ⟨rfl, rfl, rfl, 235, o, e, 32, shapesR ls, 1, shapesR (orderS ls), goodS, cfS, rfl, hH, rfl, fun h0 => ?_, ?_, by decide, ?_, cmpShapes_ok, enters_cmpShapes, fun rows2 => shapes_unique⟩) ?_
  · have := shapesR_len ls; rw [h0] at this; simp at this; omega
  · rw [shapesR_len]; omega
  · intro r hr
    obtain ⟨p, hp, rfl⟩ := List.mem_map.mp hr
    exact ⟨p, rfl, hl.out p hp⟩
  refine AL ?_
  refine CI ?_
  have hp := orderS_perm ls
  refine (compactFunc_own G (orderS ls) _ _ o e (by omega) (Heap.upd_same _ _ _) (by rw [hp.length_eq]; exact h1) (by rw [hp.length_eq]; exact hls) (fun l hl' => hl.out l (hp.mem_iff.mp hl'))).mono ?_
  clear hp
  rintro r H2 n2 ⟨q1, q2, e', rfl, q3⟩
  replace q2 := Hid.mk q2
  refine AL ?_
  exact ⟨by omega, fun k hk hko => by rw [q2.out k (by omega) hko, Heap.upd_ne _ _ hko], e', by simp [retA, setF_if], q3⟩
theorem forms_own (G : Gv) (hG : ∀ f args H n r H' n', sortsG f args H n r H' n' → G f args H n r H' n') (l : Shape) (t : Nat) (H0 : Heap) (n0 : Nat) (h1 : 0 < l.length) (hl : l.length < 1000000000) (ht : t < 1000000) :
    WC Tryz.prog G 189 [.sl 0 (cells l), .i .i64 t] H0 n0 (fun r H' n' => n0 ≤ n' ∧ (∀ k, k < n0 → H' k = H0 k) ∧ ∃ o e, n0 ≤ o ∧ o < n' ∧ r = .own o e ∧ H' o = some (.arr e 32 1 (shapesR (formsL l t)) 1)) := by
  refine (.body Tryz.func189 rfl (by simp [Tryz.ntmps189]) ?_)
  rw [Tryz.ntmps189, Tryz.results189]
  replace hG := Hid.mk hG
  obtain ⟨m, hm⟩ : ∃ m, m = n0 + 1 := ⟨_, rfl⟩
  refine AL ?_
  refine .loop (.inv (fun d E H n' => ∃ (i : Nat), i + d = t ∧ m < n' ∧ (∀ k, k < n0 → H k = H0 k) ∧ E 0 = .sl 0 (cells l) ∧ E 8 = .i .i64 t ∧ E 9 = .i .i64 i ∧ ∃ e, E 5 = .own m e ∧ H m = some (.arr e 32 1 (shapesR (formsL l i)) 1)) t ?_ ?_)
  · subst hm
    exact ⟨0, by omega, by omega, fun k hk => by rw [upd_if, if_neg (by omega)], by simp [setF_if, argE], by simp [setF_if, argE], by simp [setF_if, argE], 0, by simp [setF_if, argE], by simp [upd_if, formsL, shapesR]⟩
  rintro d E H n' ⟨i, hi, hmn, hfr, h0, h8, h9, e, h5, hH⟩
  replace hfr := Hid.mk hfr
  replace hm := Hid.mk hm
  by_cases c : (i : Int) < t
  · have hw_i : IntKind.i64.wrap ((i : Int) + 1) = (i : Int) + 1 := wr64 (by omega) (by omega)
    have hrl : (shapesR (formsL l i)).length = i := by simp [shapesR, formsL]
    have hb : (i + 1) * 24 ≤ 140737488355328 := by omega
    have htk : shapesR (formsL l i) ++ [[.sl (cells (formM l i))]] = shapesR (formsL l (i + 1)) := by simp [shapesR, formsL, List.range_succ]
    refine AL ?_
    refine CV (form_fn G hG.out l i h1 hl) ?_
    refine AL ?_
    have hm' := hm.out
    refine ⟨t - (i + 1), by omega, i + 1, by omega, by omega, fun k hk => ?_, by simp [setF_if, *], by simp [setF_if, *], by simp [setF_if, *], e + 1, by simp [setF_if, *], ?_⟩
    · simp only [upd_if]
      rw [if_neg (by omega)]
      rw [if_neg (by omega)]
      exact hfr.out k hk
    simp only [upd_if, neAdd hmn, reduceIte, htk]
  · have e' : i = t := by omega
    subst e'
    refine AL ?_
    have hm' := hm.out
    exact ⟨by omega, hfr.out, m, e, by omega, by omega, by simp [retA, setF_if, *], hH⟩
end Go.Proofs
end
