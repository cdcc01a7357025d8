/- Walks: All placements of a piece: the one program; what it makes is the caller's. No condition. | All placements of a piece: both programs' functions. No condition. | A placement turned: both programs. No condition. | More words. No condition. | More words: shared calls as makers in drawn regions. No condition. | A word more: an owned result in a drawn region. No condition. | Weights: the reference's functions. No condition. | Lists out of which elements are taken in place. No condition. -/
import Derived.Test.YtmglpcdalechfaaGreatBO
import Derived.Test.YtmglpcdalechfaaGreatWk8
import Derived.Test.YtmglpcdalechfaaGreatWk3
import Derived.Test.YtmglpcdalechfaaGreatWk6
import Derived.Test.YtmglpcdalechfaaGreatWk2
import Derived.Test.YtmglpcdalechfaaGreatBC
import Derived.Test.YtmglpcdalechfaaGreatWk9
import Derived.Test.YtmglpcdalechfaaGreatBigL
import Derived.Test.YtmglpcdalechfaaGreatWk1
set_option linter.unusedVariables false
set_option linter.unusedSimpArgs false
section
open Go Go.Big
namespace Go.Proofs
set_option maxHeartbeats 2000000
theorem rowA_take {r : Shape} {k : Int} {f : Shape} {j : Nat} {c : Int × Int} (h : r[j]? = some c) : (r.take (j + 1)).filterMap (fun c => gM r k f (offA f c).1 (offA f c).2) = (r.take j).filterMap (fun c => gM r k f (offA f c).1 (offA f c).2) ++ (match gM r k f (offA f c).1 (offA f c).2 with | some t => [t] | none => []) := by
  obtain ⟨hj, rfl⟩ := List.getElem?_eq_some_iff.mp h
  rw [List.take_succ_eq_append_getElem hj, List.filterMap_append]
  congr 1
  cases q : gM r k f (offA f r[j]).1 (offA f r[j]).2 with
  | none => rw [List.filterMap_cons_none (f := fun c => gM r k f (offA f c).1 (offA f c).2) q]; rfl
  | some t => rw [List.filterMap_cons_some (f := fun c => gM r k f (offA f c).1 (offA f c).2) q]; rfl
theorem tag_app {t t2 : Nat} {rows row : List (List PV)} (h : tagOk t rows) (hr : t2 = 2 ∨ noObs row) : tagOk (joinT t t2) (rows ++ row) := by
  rcases h with h | h
  · exact .inl ((join_2 t t2).1 h)
  · rcases hr with hr | hr
    · exact .inl ((join_2 t t2).2 hr)
    · refine .inr fun r hm p hp => ?_
      rcases List.mem_append.mp hm with hm | hm
      · exact h r hm p hp
      · exact hr r hm p hp
theorem take_flatMap {α β : Type} {f : α → List β} {l : List α} {i : Nat} {x : α} (h : l[i]? = some x) : (l.take (i + 1)).flatMap f = (l.take i).flatMap f ++ f x := by
  obtain ⟨hi, rfl⟩ := List.getElem?_eq_some_iff.mp h
  rw [List.take_succ_eq_append_getElem hi, List.flatMap_append]; simp
theorem bq1 {a x j : Nat} (h : a ≤ x + j) : a + 1 ≤ x + (j + 1) := by omega
theorem bq1' {a x j : Nat} (h : a ≤ x + j) : a ≤ x + (j + 1) := by omega
theorem bq2 {a i n : Nat} (h : a ≤ i * 1000 + n) (hn : n ≤ 1000) : a ≤ (i + 1) * 1000 := by rw [Nat.add_mul]; omega
theorem bq3 {a i j : Nat} (h : a ≤ i * 1000 + j) (hi : i < 1000) (hn : j ≤ 1000) : a < 1002000 := by have := Nat.mul_le_mul_right 1000 (Nat.le_of_lt hi); omega
theorem bq4 {a i : Nat} (h : a ≤ i * 1000) (hi : i ≤ 8) : a < 1000000000 := by omega
theorem listA_cells {r : Shape} {i : Int} {fs : List Shape} {n : Nat} (h : ∀ f ∈ fs, f.length = n) : ∀ x ∈ listA r i fs, x.2.length = n := by
  intro x hx
  unfold listA rowA at hx
  obtain ⟨f, hf, hx⟩ := List.mem_flatMap.mp hx
  obtain ⟨c, hc, hx⟩ := List.mem_filterMap.mp hx
  rw [(setM_some (gM_some hx).2).2.2.1, movedM_len]
  exact h f hf
theorem placementsOf_o (G : Gv) (hA : AllG G) (r : Shape) (l : List PieceM) (k : Nat) (p : PieceM) (hp : l[k]? = some p) (hp0 : 0 < p.cs.length) (hpl : p.cs.length < 1000000) (hrs : r.Pairwise fun a b => lessC a.1 a.2 b.1 b.2 = true) (hr : r.length ≤ 1000) (hl : l.length < 1000000000) (hdup : (listA r k (formsI p)).Nodup) :
    GivesO Tryz.prog G 88 [.ag [.sl 0 (cells r), .sl 0 (pieces l)], .i .i64 k] (.sl 1 (places (orderP (listA r k (formsI p))))) := by
  refine .of (.body Tryz.func88 rfl (by simp [Tryz.ntmps88]) ?_)
  rw [Tryz.ntmps88, Tryz.results88]
  have hrow := pieces_at hp
  obtain ⟨hf1, hf2⟩ := formsI_ok p
  have hk : k < l.length := (List.getElem?_eq_some_iff.mp hp).1
  have hlenf := shapesR_len (formsI p)
  have hlenr := cells_len r
  replace hp := Hid.mk hp
  have hcel : ∀ x ∈ listA r k (formsI p), x.2.length < 1000000000 := fun x hx => by rw [listA_cells (n := p.cs.length) hf2 x hx]; omega
  replace hcel := Hid.mk hcel
  replace hdup := Hid.mk hdup
  replace hA := Hid.mk hA
  replace hrs := Hid.mk hrs
  refine AL ?_
  refine CV (formsOf_fn G hA.out.c1 hA.out.c2 p hp0 (by omega)) ?_
  have hfl : ∀ f ∈ formsI p, 0 < f.length ∧ f.length < 1000000 := fun f hf => by rw [hf2 f hf]; exact ⟨hp0, hpl⟩
  generalize formsI p = fs at hf1 hf2 hlenf hfl hcel hdup
  replace hfl := Hid.mk hfl
  replace hf2 := Hid.mk hf2
  clear hrow
  refine AL ?_
  refine .loop (.inv (fun d E H n' => ∃ (i e t' : Nat) (rows : List (List PV)) (S : List Nat), i + d = fs.length ∧ 2 < n' ∧ E 1 = .i .i64 k ∧ E 2 = .ptr 0 0 0 0 ∧ E 5 = .own 2 e ∧ E 18 = .sl 1 (shapesR fs) ∧ E 19 = .i .i64 fs.length ∧ E 20 = .i .i64 i ∧ H 0 = some (.box 35 [.sl 0 (cells r), .sl 0 (pieces l)]) ∧ H 2 = some (.arr e 110 2 rows t') ∧
      tagOk t' rows ∧ fitR 2 rows ∧ ownRs H rows (places ((fs.take i).flatMap (rowA r k))) S ∧ S.Nodup ∧ (∀ o ∈ S, 2 < o ∧ o < n') ∧ rows.length ≤ i * 1000 ∧ (rows = [] → t' ≠ 2)) fs.length ?_ ?_)
  · exact ⟨0, 0, 1, [], [], by omega, by omega, by simp [setF_if, argE], by simp [setF_if, argE], by simp [setF_if, argE], by simp [setF_if, argE], by simp [setF_if, argE, hlenf], by simp [setF_if, argE], by simp [upd_if], by simp [upd_if], .inr (fun r hr => by simp at hr), fun r hr => by simp at hr, ⟨rfl, rfl⟩, by simp, by simp, by simp, fun _ => by decide⟩
  rintro d E H n' ⟨i, e, t', rows, S, hi, hn, h1, h2, h5, h18, h19, h20, hH0, hH2, htag, hfit, hown, hnd, hlt, hlen, hnil⟩
  by_cases c : (i : Int) < fs.length
  · have hw_i : IntKind.i64.wrap ((i : Int) + 1) = (i : Int) + 1 := wr64 (by omega) (by omega)
    have hfi : i < fs.length := by omega
    have hfm := take_flatMap (f := rowA r k) (List.getElem?_eq_getElem hfi)
    have hrf := shapesR_at (ls := fs) (i := i) hfi
    rw [show fs.getD i [] = fs[i]'hfi by rw [List.getD_eq_getElem?_getD, List.getElem?_eq_getElem hfi]; rfl] at hrf
    obtain ⟨hff0, hff⟩ := hfl.out _ (List.getElem_mem hfi)
    generalize fs[i]'hfi = f at hfm hrf hff hff0
    replace hfm := Hid.mk hfm
    replace htag := Hid.mk htag
    replace hfit := Hid.mk hfit
    replace hown := Hid.mk hown
    replace hnd := Hid.mk hnd
    replace hlt := Hid.mk hlt
    replace hlen := Hid.mk hlen
    replace hnil := Hid.mk hnil
    refine AL ?_
    refine .loop (.inv (fun d2 E H n' => ∃ (j e t' : Nat) (rows : List (List PV)) (S : List Nat), j + d2 = r.length ∧ 2 < n' ∧ E 1 = .i .i64 k ∧ E 2 = .ptr 0 0 0 0 ∧ E 5 = .own 2 e ∧ E 18 = .sl 1 (shapesR fs) ∧ E 19 = .i .i64 fs.length ∧ E 20 = .i .i64 i ∧ E 7 = .sl 1 (cells f) ∧ E 25 = .sl 0 (cells r) ∧ E 26 = .i .i64 r.length ∧ E 27 = .i .i64 j ∧ H 0 = some (.box 35 [.sl 0 (cells r), .sl 0 (pieces l)]) ∧ H 2 = some (.arr e 110 2 rows t') ∧
        tagOk t' rows ∧ fitR 2 rows ∧ ownRs H rows (places ((fs.take i).flatMap (rowA r k) ++ (r.take j).filterMap (fun c => gM r k f (offA f c).1 (offA f c).2))) S ∧ S.Nodup ∧ (∀ o ∈ S, 2 < o ∧ o < n') ∧ rows.length ≤ i * 1000 + j ∧ (rows = [] → t' ≠ 2)) r.length ?_ ?_)
    · exact ⟨0, e, t', rows, S, by omega, by omega, by simp [setF_if, *], by simp [setF_if, *], by simp [setF_if, *], by simp [setF_if, *], by simp [setF_if, *], by simp [setF_if, *], by simp [setF_if, *], by simp [setF_if, *], by simp [setF_if, *], by simp [setF_if, *], by first | exact hH0 | simp [*], by first | exact hH2 | simp [*], htag.out, hfit.out, by simpa using hown.out, hnd.out, fun o ho => ⟨(hlt.out o ho).1, by have := (hlt.out o ho).2; omega⟩, Nat.le_trans hlen.out (Nat.le_add_right _ _), hnil.out⟩
    clear h1 h2 h5 h18 h19 h20 hH0 hH2 hn
    rintro d2 E H n' ⟨j, e, t', rows, S, hj, hn, h1, h2, h5, h18, h19, h20, h7, h25, h26, h27, hH0, hH2, htag, hfit, hown, hnd, hlt, hlen, hnil⟩
    replace htag := Hid.mk htag
    replace hfit := Hid.mk hfit
    replace hown := Hid.mk hown
    replace hnd := Hid.mk hnd
    replace hlt := Hid.mk hlt
    replace hlen := Hid.mk hlen
    replace hnil := Hid.mk hnil
    by_cases cj : (j : Int) < r.length
    · have hw_j : IntKind.i64.wrap ((j : Int) + 1) = (j : Int) + 1 := wr64 (by omega) (by omega)
      have hro := cells_at (l := r) (i := j) (by omega)
      have hjr : j < r.length := by omega
      have hrt := rowA_take (r := r) (k := k) (f := f) (List.getElem?_eq_getElem hjr)
      rw [show r.getD j (0, 0) = r[j]'hjr by rw [List.getD_eq_getElem?_getD, List.getElem?_eq_getElem hjr]; rfl] at hro
      generalize r[j]'hjr = c at hro hrt
      obtain ⟨cx, cy⟩ := c
      have hset := cellsToSet_o G r (movedM f (offA f (cx, cy)).1 (offA f (cx, cy)).2) hrs.out (by omega) (by rw [movedM_len]; omega)
      have hrf0 := cells_at (l := f) (i := 0) hff0
      have hg : gM r k f (offA f (cx, cy)).1 (offA f (cx, cy)).2 = (setM r (movedM f (offA f (cx, cy)).1 (offA f (cx, cy)).2)).map fun s => ((k : Int), s) := rfl
      rw [hg] at hrt
      generalize setM r (movedM f (offA f (cx, cy)).1 (offA f (cx, cy)).2) = sm at hset hrt
      clear hg
      have hmv := moved_fn G f (offA f (cx, cy)).1 (offA f (cx, cy)).2 (by omega)
      simp only [offA] at hset hmv
      generalize f.getD 0 (0, 0) = c0 at hset hmv hrf0
      obtain ⟨fx, fy⟩ := c0
      simp only at hset hmv hrf0
      replace hrt := Hid.mk hrt
      replace hset := Hid.mk hset
      replace hmv := Hid.mk hmv
      refine AX ?_
      refine DMF [154] [] 0 ?_
      refine AX ?_
      refine CM hmv.out ?_
      refine AX ?_
      refine CWM hset.out ?_
      intro z H1 S1 m hz hn1 hS hf hm
      have f0 := hf 0 (by omega)
      have f2 := hf 2 (by omega)
      simp only [upd_if, show ¬ (0 = n' + 3) by omega, show ¬ (2 = n' + 3) by omega, if_false, hH0, hH2] at f0 f2
      have hS3 : ∀ o ∈ S1, 2 < o ∧ o < m := fun o h => by have := hS o h; omega
      have hS4 : ∀ o ∈ S, 2 < o ∧ o < m := fun o h => by have := hlt.out o h; omega
      have hSd : ∀ o ∈ S, o ∉ S1 := fun o h1 h2 => by have := hlt.out o h1; have := hS o h2; omega
      have hf1 : ∀ o ∈ S, H1 o = H o := fun o h => by
        have h1 := (hlt.out o h).2
        rw [hf o (by omega)]; simp [upd_if, show ¬ o = n' + 3 by omega]
      clear hset hmv
      replace hS3 := Hid.mk hS3
      replace hS4 := Hid.mk hS4
      replace hSd := Hid.mk hSd
      replace hf1 := Hid.mk hf1
      replace hf := Hid.mk hf
      replace hS := Hid.mk hS
      replace hn1 := Hid.mk hn1
      have hm2 : 2 < m := by omega
      cases sm with
      | none =>
        simp only [setA] at hz
        obtain ⟨za, zb, s1, s2, rfl, rfl, hza, hzb⟩ := ownX_tup2 hz
        obtain ⟨rfl, rfl⟩ := ownX_b hzb
        clear hz hza hzb hH0 hH2
        have hrt2 := hrt.out
        simp only [Option.map_none, List.append_nil] at hrt2
        clear hrt
        replace hrt2 := Hid.mk hrt2
        refine AX ?_
        exact ⟨r.length - (j + 1), by omega, j + 1, e, t', rows, S, by omega, by omega, by simp [setF_if, *], by simp [setF_if, *], by simp [setF_if, *], by simp [setF_if, *], by simp [setF_if, *], by simp [setF_if, *], by simp [setF_if, *], by simp [setF_if, *], by simp [setF_if, *], by simp [setF_if, *], f0, f2, htag.out, hfit.out, by rw [hrt2.out]; exact ownRs_congr hf1.out hown.out, hnd.out, fun o ho => ⟨(hS4.out o ho).1, by have := (hS4.out o ho).2; omega⟩, bq1' hlen.out, hnil.out⟩
      | some s =>
        simp only [setA] at hz
        obtain ⟨za, zb, s1, s2, rfl, rfl, hza, hzb⟩ := ownX_tup2 hz
        obtain ⟨rfl, rfl⟩ := ownX_b hzb
        have hrt2 := hrt.out
        simp only [Option.map_some] at hrt2
        rw [List.append_nil] at hS3 hSd hS hn1
        have hq := ownX_leaf hza (ints_scal _)
        have hcs := ownX_cases hza
        have hlen1 := bq3 hlen.out (by omega) (by omega)
        have hb : (rows.length + 1) * 32 ≤ 140737488355328 := by omega
        clear hrt hz hza hzb hH0 hH2
        replace hrt2 := Hid.mk hrt2
        replace hq := Hid.mk hq
        have fin : ∀ (q : PV) (t2 : Nat) (H2 : Heap), ownP H1 q (.sl (ints s)) s1 → (noOb q = true ∨ t2 = 2) → (∀ o, 2 < o → o < m → H2 o = H1 o) → tagOk (joinT t' t2) (rows ++ [[.i .i64 k, q]]) ∧ ownRs H2 (rows ++ [[.i .i64 k, q]]) (places ((fs.take i).flatMap (rowA r k) ++ (r.take (j + 1)).filterMap (fun c => gM r k f (offA f c).1 (offA f c).2))) (S ++ s1) := by
          intro q t2 H2 h1 h2 h3
          refine ⟨tag_store htag.out (h2.symm.imp id fun h2 r hr p hp => ?_), ?_⟩
          · obtain rfl := List.mem_singleton.mp hr
            simp only [List.mem_cons, List.not_mem_nil, or_false] at hp
            rcases hp with rfl | rfl <;> first | rfl | exact h2
          · rw [hrt2.out, ← List.append_assoc, places_app]
            refine ownRs_append (ownRs_congr (H := H) (fun o ho => ?_) hown.out) (ownRs_one (ownPs_congr (H := H1) (fun o ho => ?_) ?_))
            · rw [h3 o (hS4.out o ho).1 (hS4.out o ho).2]; exact hf1.out o ho
            · exact h3 o (hS3.out o ho).1 (hS3.out o ho).2
            · rw [← List.nil_append s1]; exact ownPs_cons (ownP_scal_mk rfl) (by rw [← List.append_nil s1]; exact ownPs_cons h1 (ownPs_scal_mk (by simp)))
        replace fin := Hid.mk fin
        rcases hcs with ⟨o, eo, ty, sz, ro, t, rfl, hHo, ho⟩ | rfl | ⟨t, rfl⟩
        · have ho3 := hS3.out o ho
          have n3 : ¬ o = 2 := by omega
          clear ho
          obtain ⟨q, tg, e1, e2, hq1, hq2⟩ := hq.out
          cases e1
          clear hq2 e2
          replace hq1 := Hid.mk hq1
          refine AX ?_
          refine ⟨r.length - (j + 1), by omega, j + 1, e + 1, joinT t' (2), rows ++ [[PV.i .i64 k, PV.ob o eo]], S ++ s1, by omega, by omega, by simp [setF_if, *], by simp [setF_if, *], by simp [setF_if, *], by simp [setF_if, *], by simp [setF_if, *], by simp [setF_if, *], by simp [setF_if, *], by simp [setF_if, *], by simp [setF_if, *], by simp [setF_if, *], by simp [upd_if, *], by simp [upd_if, joinT, *], (fin.out _ _ H1 hq1.out (.inr rfl) (fun _ _ _ => rfl)).1, ?_, (fin.out _ (2) _ hq1.out (.inr rfl) (fun x h1 h2 => by simp [upd_if, show ¬ x = 2 by omega, show ¬ x = m + 10 by omega])).2, ?_, ?_, by rw [List.length_append]; exact bq1 hlen.out, fun h => by simp at h⟩
          · intro r hr
            rcases List.mem_append.mp hr with hr | hr
            · exact hfit.out r hr
            · rw [List.mem_singleton.mp hr]; rfl
          · exact List.nodup_append.mpr ⟨hnd.out, hn1.out, fun x hx y hy e => hSd.out x hx (e ▸ hy)⟩
          · intro x hx
            rcases List.mem_append.mp hx with hx | hx
            · exact ⟨(hS4.out x hx).1, by have := (hS4.out x hx).2; omega⟩
            · exact ⟨(hS3.out x hx).1, by have := (hS3.out x hx).2; omega⟩
        · skip
          obtain ⟨q, tg, e1, e2, hq1, hq2⟩ := hq.out
          cases e1
          clear hq2 e2
          replace hq1 := Hid.mk hq1
          refine AX ?_
          refine ⟨r.length - (j + 1), by omega, j + 1, e + 1, joinT t' (1), rows ++ [[PV.i .i64 k, PV.sl []]], S ++ s1, by omega, by omega, by simp [setF_if, *], by simp [setF_if, *], by simp [setF_if, *], by simp [setF_if, *], by simp [setF_if, *], by simp [setF_if, *], by simp [setF_if, *], by simp [setF_if, *], by simp [setF_if, *], by simp [setF_if, *], by simp [upd_if, *], by simp [upd_if, joinT, *], (fin.out _ _ H1 hq1.out (.inl rfl) (fun _ _ _ => rfl)).1, ?_, (fin.out _ (1) _ hq1.out (.inl rfl) (fun x h1 h2 => by simp [upd_if, show ¬ x = 2 by omega, show ¬ x = m + 10 by omega])).2, ?_, ?_, by rw [List.length_append]; exact bq1 hlen.out, fun h => by simp at h⟩
          · intro r hr
            rcases List.mem_append.mp hr with hr | hr
            · exact hfit.out r hr
            · rw [List.mem_singleton.mp hr]; rfl
          · exact List.nodup_append.mpr ⟨hnd.out, hn1.out, fun x hx y hy e => hSd.out x hx (e ▸ hy)⟩
          · intro x hx
            rcases List.mem_append.mp hx with hx | hx
            · exact ⟨(hS4.out x hx).1, by have := (hS4.out x hx).2; omega⟩
            · exact ⟨(hS3.out x hx).1, by have := (hS3.out x hx).2; omega⟩
        · skip
          obtain ⟨q, tg, e1, e2, hq1, hq2⟩ := hq.out
          cases e1
          clear hq2 e2
          replace hq1 := Hid.mk hq1
          refine AX ?_
          refine ⟨r.length - (j + 1), by omega, j + 1, e + 1, joinT t' (joinT 1 (joinT t 1)), rows ++ [[PV.i .i64 k, PV.sl []]], S ++ s1, by omega, by omega, by simp [setF_if, *], by simp [setF_if, *], by simp [setF_if, *], by simp [setF_if, *], by simp [setF_if, *], by simp [setF_if, *], by simp [setF_if, *], by simp [setF_if, *], by simp [setF_if, *], by simp [setF_if, *], by simp [upd_if, *], by simp [upd_if, joinT, *] <;> (by_cases g1 : t = 1 <;> by_cases g2 : t = 2 <;> by_cases g0 : t = 0 <;> simp [*] <;> omega), (fin.out _ _ H1 hq1.out (.inl rfl) (fun _ _ _ => rfl)).1, ?_, (fin.out _ (joinT 1 (joinT t 1)) _ hq1.out (.inl rfl) (fun x h1 h2 => by simp [upd_if, show ¬ x = 2 by omega, show ¬ x = m + 10 by omega])).2, ?_, ?_, by rw [List.length_append]; exact bq1 hlen.out, fun h => by simp at h⟩
          · intro r hr
            rcases List.mem_append.mp hr with hr | hr
            · exact hfit.out r hr
            · rw [List.mem_singleton.mp hr]; rfl
          · exact List.nodup_append.mpr ⟨hnd.out, hn1.out, fun x hx y hy e => hSd.out x hx (e ▸ hy)⟩
          · intro x hx
            rcases List.mem_append.mp hx with hx | hx
            · exact ⟨(hS4.out x hx).1, by have := (hS4.out x hx).2; omega⟩
            · exact ⟨(hS3.out x hx).1, by have := (hS3.out x hx).2; omega⟩
    · have ej : j = r.length := by omega
      have hown2 := hown.out
      rw [ej, List.take_length] at hown2
      have e2 : (fs.take (i + 1)).flatMap (rowA r k) = (fs.take i).flatMap (rowA r k) ++ r.filterMap (fun c => gM r k f (offA f c).1 (offA f c).2) := hfm.out
      rw [← e2] at hown2
      clear e2
      replace hown2 := Hid.mk hown2
      refine AL ?_
      exact ⟨fs.length - (i + 1), by omega, i + 1, e, t', rows, S, by omega, by omega, by simp [setF_if, *], by simp [setF_if, *], by simp [setF_if, *], by simp [setF_if, *], by simp [setF_if, *], by simp [setF_if, *], hH0, hH2, htag.out, hfit.out, hown2.out, hnd.out, fun o ho => ⟨(hlt.out o ho).1, by have := (hlt.out o ho).2; omega⟩, bq2 hlen.out (by omega), hnil.out⟩
  · have ei : i = fs.length := by omega
    rw [ei, List.take_length] at hown
    have hb9 : rows.length < 1000000000 := bq4 hlen (ei ▸ hf1)
    have h2S : 2 ∉ S := fun h => by have := (hlt 2 h).1; omega
    by_cases hne : rows = []
    · subst hne
      obtain ⟨e1, rfl⟩ := hown
      have hL0 : listA r k fs = [] := List.map_eq_nil_iff.mp e1
      rw [hL0]
      clear hcel hdup e1
      refine AL ?_
      refine CI ?_
      refine WC_given (hA.out.c4 _ _ _ _ (.tup []) H _ ⟨rfl, rfl, rfl, rfl, _, 2, e, _, 2, t', rfl, hH2⟩) ?_
      refine AL ?_
      exact ⟨[2], ownX_sl (tagOk_own hH2 ⟨by simp [orderP, places], rfl⟩ htag (by simp) hfit hnil), by simp⟩
    · obtain ⟨rows', S', hcall, g1, g2, g3, g4, g5⟩ := sortPl (L := listA r k fs) hA.out.c3 hH2 hown h2S hne hb9 hcel.out hdup.out htag hfit
      have h2S' : 2 ∉ S' := fun h => h2S (g2.mem_iff.mp h)
      have hndS := g2.nodup_iff.mpr hnd
      replace htag := Hid.mk htag
      replace hfit := Hid.mk hfit
      replace hown := Hid.mk hown
      replace hnd := Hid.mk hnd
      replace hlt := Hid.mk hlt
      replace hnil := Hid.mk hnil
      replace g1 := Hid.mk g1
      replace g2 := Hid.mk g2
      replace g4 := Hid.mk g4
      replace g5 := Hid.mk g5
      replace hcall := Hid.mk hcall
      replace hndS := Hid.mk hndS
      refine AL ?_
      refine CI ?_
      refine WC_given (hcall.out _) ?_
      refine AL ?_
      exact ⟨2 :: S', ownX_sl (tagOk_own (by simp [upd_if]; rfl) (ownRs_congr (fun o ho => by rw [upd_if, if_neg (by rintro rfl; exact h2S' ho)]) g1.out) g4.out (ownRs_ns g1.out (places_ns _)) g5.out (fun h => absurd h g3)), List.nodup_cons.mpr ⟨h2S', hndS.out⟩⟩
end Go.Proofs
end
section
open Go Go.Big
namespace Go.Proofs
set_option maxHeartbeats 2000000
/-- What is known of a puzzle that both programs take. -/
theorem puzzle_facts {r : Shape} {l : List PieceM} (h : puzzleS r l = true) : (r.Pairwise fun a b => lessC a.1 a.2 b.1 b.2 = true) ∧ 1 ≤ r.length ∧ r.length ≤ 40 ∧ 1 ≤ l.length ∧ l.length ≤ 12 ∧ ((sizeM r).1 ≤ 20 ∧ (sizeM r).2 ≤ 20) ∧ ∀ p ∈ l, 0 < p.cs.length ∧ p.cs.length ≤ 40 := by
  obtain ⟨h1, h2, h3⟩ := puzzle_parts h
  obtain ⟨g1, g2, g3⟩ := puzzleS_ok h
  have hs : shapeM r = true := by unfold regionS at h1; simp only [Bool.and_eq_true] at h1; exact h1.1
  obtain ⟨k1, _, k2, k3⟩ := shapeM_spec hs
  have hb := boxed_of h1
  refine ⟨k1, k2, k3, g2, h2, hb.wide20, fun p hp => ⟨g3 p hp, ?_⟩⟩
  have := h3 p hp
  unfold pieceS regionS at this
  simp only [Bool.and_eq_true] at this
  exact (shapeM_spec this.1.1.1).2.2.2
def inM (k : Int) (n : Nat) : Bool := decide (k ≥ 0) && decide (k ≤ (n : Int) - 1)
def pofS (r : Shape) (l : List PieceM) (k : Int) : List (Int × List Int) × Int := if puzzleS r l then (if inM k l.length then (listB r k (formsP (l.getD k.toNat pc0)), 0) else ([], 2)) else ([], 1)
def pofI (r : Shape) (l : List PieceM) (k : Int) : List (Int × List Int) × Int := if puzzleI r l then (if inM k l.length then (orderP (listA r k (formsI (l.getD k.toNat pc0))), 0) else ([], 2)) else ([], 1)
theorem places_nil : places [] = [] := rfl
theorem ownX_kt {z : AV} {a : AV} {H : Heap} {S : List Nat} {k : IntKind} {n : Int} (h : ownX H z a S) : ownX H (.tup [z, .i k n]) (.tup [a, .i k n]) S := by
  have := ownX_mkT h (ownX_mki (H := H) (k := k) (n := n))
  rwa [List.append_nil] at this
end Go.Proofs
end
section
open Go Go.Big
namespace Go.Proofs
set_option maxHeartbeats 2000000
def sortsI4 : Gv := SortI 151
/-- All sorts that are given, that of numbers too. -/
structure AllH (G : Gv) : Prop extends AllG G where
  c5 : ∀ f args H n r H' n', sortsI4 f args H n r H' n' → G f args H n r H' n'
def turnX (ns s : List Int) : List Int := s.map fun i => ns.getD i.toNat 0
theorem turnX_len (ns s : List Int) : (turnX ns s).length = s.length := by simp [turnX]
theorem turnX_take {ns s : List Int} {i : Nat} {x : Int} (h : s[i]? = some x) : turnX ns (s.take (i + 1)) = turnX ns (s.take i) ++ [ns.getD x.toNat 0] := by
  unfold turnX; rw [take_map _ h]
theorem ints_app1 (a : List Int) (x : Int) : ints a ++ [[.i .i64 x]] = ints (a ++ [x]) := by simp [ints]
end Go.Proofs
end
section
open Go Go.Big
namespace Go.Proofs
set_option maxHeartbeats 2000000
theorem FCP {ob : List Nat} {wr : List (Nat × Nat)} {rd : List (Nat × List Nat)} {N : Nat} {ds : List (Option Tmp)} {l : List Oper} {E : Env} {H : Heap} {n m : Nat} {K : Env → Heap → Nat → Prop} {o : Oper} {c : Call} {f : FuncId} {args args' : List AV} {y : AV} {d : Nat} {G : Gv}
    (hF : Gives Tryz.prog G f args' y)
    (h : WF Tryz.prog G ob wr rd N ds l (setF E d y) H m K)
    (hop : o.op = .call c := by rfl) (hdst : o.dst = some d := by rfl) (hw : wantR ds E o.guard = some true := by exact vB)
    (hc : calleeA E c = some (f, args) := by exact vD)
    (hg : ∀ Hx : Heap, Agrees ob (fpL wr rd o) Hx H → givesA Hx args = some args' := by (intro Hx hx; exact vE))
    (hwr : wrL wr o = none := by rfl)
    (hf : (Tryz.prog.funcs[f]?).any (fun fn => fn.body.isSome && (fn.name != "runtime.NumGoroutine")) = true := by kernel_rfl)
    (hn : n + 1 = m := by exact vG)
    (hd : d < N := by decide) : WF Tryz.prog G ob wr rd N ds (o :: l) E H n K :=
  FC hF hg h hop hdst hw hc hwr hf hn hd
end Go.Proofs
end
section
open Go Go.Big
namespace Go.Proofs
set_option maxHeartbeats 2000000
theorem fn_of {f : FuncId} (hf : (Tryz.prog.funcs[f]?).any (fun fn => fn.body.isSome && (fn.name != "runtime.NumGoroutine")) = true) : ∃ fn, Tryz.prog.funcs[f]? = some fn ∧ fn.body.isSome = true ∧ (fn.name == "runtime.NumGoroutine") = false := by
  cases q : Tryz.prog.funcs[f]? with
  | none => rw [q] at hf; exact absurd hf (by simp)
  | some fn =>
    rw [q] at hf
    simp only [Option.any_some, Bool.and_eq_true, bne_iff_ne, ne_eq] at hf
    exact ⟨fn, rfl, hf.1, by simpa using hf.2⟩
theorem CSM {fs st : List Nat} {n0 : Nat} {N : Nat} {ds : List (Option Tmp)} {l : List Oper} {E : Env} {H : Heap} {n : Nat} {K : Env → Heap → Nat → Prop} {o : Oper} {c : Call} {f : FuncId} {args : List AV} {d : Nat} {G : Gv}
    (hG : GvOk Tryz.prog G)
    (hF : WC Tryz.prog G f args H n (fun y H1 n1 => (∀ k, k < n0 → cutH n1 H1 k = H k) ∧ WM Tryz.prog G fs st n0 N ds l (setF E d y) (cutH n1 H1) n1 K))
    (hop : o.op = .call c := by rfl) (hmk : mkF fs (.call c) = true := by rfl) (hdst : o.dst = some d := by rfl) (hw : wantR ds E o.guard = some true := by exact vB)
    (hc : calleeA E c = some (f, args) := by exact vD)
    (hf : (Tryz.prog.funcs[f]?).any (fun fn => fn.body.isSome && (fn.name != "runtime.NumGoroutine")) = true := by kernel_rfl)
    (hd : d < N := by decide) : WM Tryz.prog G fs st n0 N ds (o :: l) E H n K := by
  unfold WC at hF
  obtain ⟨y, H1, n1, hb, hlow, h⟩ := hF
  exact WM.sem hw (by rw [hdst]; simpa [dstOk] using hd) (fun hfree => ⟨fun k hk => cutH_ge hk, fun i => OneM_call hG hop hmk hc (fn_of hf) hfree hb hlow⟩) (by rw [hdst]; exact h)
theorem CSF {fs st : List Nat} {n0 : Nat} {N : Nat} {ds : List (Option Tmp)} {l : List Oper} {E : Env} {H : Heap} {n : Nat} {K : Env → Heap → Nat → Prop} {o : Oper} {c : Call} {f : FuncId} {args : List AV} {d : Nat} {G : Gv}
    (hG : GvOk Tryz.prog G)
    (hF : WC Tryz.prog G f args H n (fun y H1 n1 => ∃ x e sz t ty rows, y = .own x e ∧ H1 x = some (.arr e ty sz rows t) ∧ newB t rows ∧ t ≠ 2 ∧ (∀ k, k < n0 → cutH n1 (frzH H1 x e 1 rows) k = H k) ∧ WM Tryz.prog G fs st n0 N ds l (setF E d (.sl 1 rows)) (cutH n1 (frzH H1 x e 1 rows)) n1 K))
    (hop : o.op = .call c := by rfl) (hmk : mkF fs (.call c) = true := by rfl) (hdst : o.dst = some d := by rfl) (hw : wantR ds E o.guard = some true := by exact vB)
    (hc : calleeA E c = some (f, args) := by exact vD)
    (hf : (Tryz.prog.funcs[f]?).any (fun fn => fn.body.isSome && (fn.name != "runtime.NumGoroutine")) = true := by kernel_rfl)
    (hd : d < N := by decide) : WM Tryz.prog G fs st n0 N ds (o :: l) E H n K := by
  unfold WC at hF
  obtain ⟨y, H1, n1, hb, x, e, sz, t, ty, rows, rfl, hx, hnb, ht2, hlow, h⟩ := hF
  exact WM.sem hw (by rw [hdst]; simpa [dstOk] using hd) (fun hfree => ⟨fun k hk => cutH_ge hk, fun i => OneM_frz hG hop hmk hc (fn_of hf) hfree hb hx hnb ht2 hlow⟩) (by rw [hdst]; exact h)
theorem OSQ {fs st : List Nat} {n0 : Nat} {N : Nat} {ds : List (Option Tmp)} {l : List Oper} {E : Env} {H : Heap} {n m : Nat} {K : Env → Heap → Nat → Prop} {o : Oper} {op : Op} {d : Nat} {y : AV} {G : Gv}
    (h : WM Tryz.prog G fs st n0 N ds l (setF E d y) H m K)
    (hop : o.op = op := by rfl) (hdst : o.dst = some d := by rfl) (hw : wantR ds E o.guard = some true := by exact vB)
    (hs : ∀ Hx : Heap, (∀ k, k < n0 → Hx k = H k) → ∃ H1, stepOp Tryz.prog Hx 0 (Go.Big.look E) op = some (y, H1))
    (hn : n + 1 = m := by exact vG)
    (hk : quietOp op = true := by rfl) (hst : stD st o = true := by rfl) (hmk : mkF fs o.op = false := by rfl)
    (hd : d < N := by decide) : WM Tryz.prog G fs st n0 N ds (o :: l) E H n K := OST hs h hop hdst hw hn hk hst hmk hd
end Go.Proofs
end
section
open Go Go.Big
namespace Go.Proofs
set_option maxHeartbeats 2000000
theorem FCO {ob : List Nat} {wr : List (Nat × Nat)} {rd : List (Nat × List Nat)} {N : Nat} {ds : List (Option Tmp)} {l : List Oper} {E : Env} {H : Heap} {n : Nat} {K : Env → Heap → Nat → Prop} {o : Oper} {c : Call} {f : FuncId} {args args' : List AV} {d : Nat} {G : Gv} (a : Nat)
    (hG : GvOk Tryz.prog G)
    (hF : WC Tryz.prog G f args' (fun _ => none) 0 (fun y Hc _ => ∃ oo e sz t ty rows, y = .own oo e ∧ Hc oo = some (.arr e ty sz rows t) ∧ newB t rows ∧ t ≠ 2 ∧ WF Tryz.prog G ob wr rd N ds l (setF E d (.own n e)) (H.upd n (.arr e ty sz rows t)) (n + 1) K))
    (hop : o.op = .call c := by rfl) (hdst : o.dst = some d := by rfl) (hw : wantR ds E o.guard = some true := by exact vB)
    (hc : calleeA E c = some (f, args) := by exact vD)
    (hg : ∀ Hx : Heap, Agrees ob (fpL wr rd o) Hx H → givesA Hx args = some args' := by (intro Hx hx; exact vE))
    (hwr : wrL wr o = some a := by rfl) (hX : ob[a]? = some n := by rfl) (hnd : ob.Nodup := by assumption)
    (hf : (Tryz.prog.funcs[f]?).any (fun fn => fn.body.isSome && (fn.name != "runtime.NumGoroutine")) = true := by kernel_rfl)
    (hd : d < N := by decide) : WF Tryz.prog G ob wr rd N ds (o :: l) E H n K := by
  unfold WC at hF
  obtain ⟨y, Hc, nc, hb, oo, e, sz, t, ty, rows, rfl, hx, hnb, ht2, h⟩ := hF
  exact WF.sem (m := n + 1) hw (by rw [hdst]; simpa [dstOk] using hd) (fun hfree => ⟨fun k hk => by rw [Heap.upd_ne _ _ (by omega)]; exact hfree k (by omega), OneL_own hG hop hwr hX (hfree n (Nat.le_refl _)) hnd hc hg (fn_of hf) hb hx hnb ht2⟩) (by rw [hdst]; exact h)
end Go.Proofs
end
section
open Go Go.Big
namespace Go.Proofs
set_option maxHeartbeats 2000000
theorem take_allW {α : Type} {p : α → Bool} {l : List α} {i : Nat} {x : α} (h : l[i]? = some x) : (l.take (i + 1)).all p = ((l.take i).all p && p x) := by
  obtain ⟨hi, rfl⟩ := List.getElem?_eq_some_iff.mp h
  rw [List.take_succ_eq_append_getElem hi, List.all_append]; simp
theorem l01Mod_fn (G : Gv) (a m : Int) (h2 : 2 ≤ m) (h6 : m ≤ 6) : Gives Tryz.prog G 158 [.i .i64 a, .i .i64 m] (.i .i64 (modV a m)) := by
  refine .of (.body Tryz.func158 rfl (by simp [Tryz.ntmps158]) ?_)
  rw [Tryz.ntmps158, Tryz.results158]
  have hm : ¬ (m = 0) := by omega
  refine AL ?_
  simp [retA, backA, modV]
def okM (m x : Int) : Bool := decide (x ≥ 0) && decide (x ≤ m - 1)
theorem weightB_eq {n : Nat} {m : Int} {w : List Int} {a b c : Bool} (h1 : (decide (m ≥ 2) && decide (m ≤ 6)) = a) (h2 : decide (w.length = n) = b) (h3 : w.all (okM m) = c) : weightB n m w = (a && b && c) := by
  unfold weightB
  rw [h1, h2]
  show (a && b && w.all (okM m)) = _
  rw [h3]
theorem l19Is_fn (G : Gv) (r : List (Int × Int)) (m : Int) (w : List Int) (hr : r.length < 1000000000) (hwl : w.length < 1000000000) : Gives Tryz.prog G 143 [.sl 0 (cells r), .ag [.i .i64 m, .sl 0 (ints w)]] (.b (weightB r.length m w)) := by
  refine .of (.body Tryz.func143 rfl (by simp [Tryz.ntmps143]) ?_)
  rw [Tryz.ntmps143, Tryz.results143]
  have hl1 := cells_len r
  have hl2 := ints_len w
  refine AL ?_
  refine CV (l01In_fn G _ _ _) ?_
  cases c : (decide (m ≥ 2) && decide (m ≤ 6)) with
  | true =>
    obtain ⟨c1, c2⟩ : 2 ≤ m ∧ m ≤ 6 := by simpa using c
    have hw1 : IntKind.i64.wrap (m - 1) = m - 1 := wr64 (by omega) (by omega)
    cases cl : decide (w.length = r.length) with
    | true =>
      have hne : ((w.length : Int) != r.length) = false := by simp at cl; simp [cl]
      have hres : weightB r.length m w = w.all (okM m) := by rw [weightB_eq c cl rfl]; simp
      rw [hres]
      clear hres c cl
      refine AL ?_
      refine .loop (.inv (fun d E H n' => ∃ i : Nat, i + d = w.length ∧ 0 < n' ∧ E 3 = .ptr 0 0 0 0 ∧ E 5 = .i .i64 i ∧ H 0 = some (.box 48 [.i .i64 m, .sl 0 (ints w)]) ∧ (w.take i).all (okM m) = true) w.length ?_ ?_)
      · exact ⟨0, by omega, by omega, by simp [setF_if, argE], by simp [setF_if, argE], by simp [upd_if], by simp⟩
      rintro d E H n' ⟨i, hi, hn, e3, e5, hH, hall⟩
      replace hall := Hid.mk hall
      by_cases ci : (i : Int) < w.length
      · have hw_i : IntKind.i64.wrap ((i : Int) + 1) = (i : Int) + 1 := wr64 (by omega) (by omega)
        obtain ⟨x, hx⟩ : ∃ x, w[i]? = some x := ⟨_, List.getElem?_eq_getElem (by omega)⟩
        have hxr := ints_row hx
        have hst := take_allW (p := okM m) hx
        rw [hall.out] at hst
        replace hx := Hid.mk hx
        replace hst := Hid.mk hst
        refine AL ?_
        refine CQ (l01In_fn G _ _ _) ?_
        cases cq : (decide (x ≥ 0) && decide (x ≤ m - 1)) with
        | true =>
          replace cq := Hid.mk cq
          refine AL ?_
          exact ⟨w.length - (i + 1), by omega, i + 1, by omega, by omega, by simp [setF_if, *], by simp [setF_if, *], hH, by rw [hst.out]; exact cq.out⟩
        | false =>
          have hf : w.all (okM m) = false := by
            rw [List.all_eq_false]
            exact ⟨x, List.mem_of_getElem? hx.out, by show ¬ (decide (x ≥ 0) && decide (x ≤ m - 1)) = true; rw [cq]; decide⟩
          replace cq := Hid.mk cq
          refine AL ?_
          simp [retA, backA, hf]
      · have ei : i = w.length := by omega
        have hall2 := hall.out
        rw [ei, List.take_length] at hall2
        refine AL ?_
        simp [retA, backA, hall2]
    | false =>
      have hne : ((w.length : Int) != r.length) = true := by simp at cl; simp; omega
      have hres : weightB r.length m w = false := by rw [weightB_eq c cl rfl]; simp
      rw [hres]
      clear hres c cl
      refine AL ?_
      simp [retA, backA]
  | false =>
    have hres : weightB r.length m w = false := by rw [weightB_eq c rfl rfl]; simp
    rw [hres]
    clear hres c
    refine AL ?_
    simp [retA, backA]
theorem weiM_nn {m : Int} {w cells : List Int} (h2 : 2 ≤ m) : 0 ≤ weiM m w cells ∧ weiM m w cells < m := ⟨Int.emod_nonneg _ (by omega), Int.emod_lt_of_pos _ (by omega)⟩
theorem weiM_step {m : Int} {w cells : List Int} {j : Nat} {x : Int} (h2 : 2 ≤ m) (hx : cells[j]? = some x) (hv : 0 ≤ w.getD x.toNat 0) : (weiM m w (cells.take j) + w.getD x.toNat 0).tmod m = weiM m w (cells.take (j + 1)) := by
  have := (weiM_nn (w := w) (cells := cells.take j) h2).1
  rw [Int.tmod_eq_emod_of_nonneg (by omega)]
  unfold weiM
  rw [sumW_take hx, Int.emod_add_emod]
theorem l19Weight_fn (G : Gv) (n : Nat) (m : Int) (w s : List Int) (ok : OkW n m w) (hn : n < 1000000) (hs : s.length < 1000000) (hc : ∀ c ∈ s, 0 ≤ c ∧ c < n) : Gives Tryz.prog G 145 [.ag [.i .i64 m, .sl 0 (ints w)], .sl 0 (ints s)] (.i .i64 (weiM m w s)) := by
  refine .of (.body Tryz.func145 rfl (by simp [Tryz.ntmps145]) ?_)
  rw [Tryz.ntmps145, Tryz.results145]
  have hl1 := ints_len s
  have hl2 := ints_len w
  have m2 := ok.m2
  have m6 := ok.m6
  have hwn := ok.len
  have hm0 : ¬ (m = 0) := by omega
  replace ok := Hid.mk ok
  replace hc := Hid.mk hc
  refine AL ?_
  refine .loop (.inv (fun d E H n' => ∃ i : Nat, i + d = s.length ∧ 0 < n' ∧ E 1 = .sl 0 (ints s) ∧ E 2 = .ptr 0 0 0 0 ∧ E 5 = .i .i64 (weiM m w (s.take i)) ∧ E 6 = .i .i64 i ∧ H 0 = some (.box 48 [.i .i64 m, .sl 0 (ints w)])) s.length ?_ ?_)
  · exact ⟨0, by omega, by omega, by simp [setF_if, argE], by simp [setF_if, argE], by simp [setF_if, argE, weiM, sumW], by simp [setF_if, argE], by simp [upd_if]⟩
  rintro d E H n' ⟨i, hi, hnn, e1, e2, e5, e6, hH⟩
  by_cases ci : (i : Int) < s.length
  · have hw_i : IntKind.i64.wrap ((i : Int) + 1) = (i : Int) + 1 := wr64 (by omega) (by omega)
    obtain ⟨x, hx⟩ : ∃ x, s[i]? = some x := ⟨_, List.getElem?_eq_getElem (by omega)⟩
    have hxr := ints_row hx
    obtain ⟨x0, x1⟩ := hc.out x (List.mem_of_getElem? hx)
    have hwr := ints_at (l := w) (i := x.toNat) (by omega)
    have hv : 0 ≤ w.getD x.toNat 0 ∧ w.getD x.toNat 0 ≤ 5 := ok.out.five _ (by
      rw [List.getD_eq_getElem?_getD, List.getElem?_eq_getElem (show x.toNat < w.length by omega)]; exact List.getElem_mem _)
    have hst := weiM_step (w := w) m2 hx hv.1
    obtain ⟨b1, b2⟩ := weiM_nn (w := w) (cells := s.take i) m2
    generalize w.getD x.toNat 0 = v at hwr hv hst
    generalize weiM m w (s.take i) = a at e5 hst b1 b2
    have hw1 : IntKind.i64.wrap (a + v) = a + v := wr64 (by omega) (by omega)
    have hxl : x.toNat < w.length := by omega
    replace hx := Hid.mk hx
    clear hv b1 b2
    refine AL ?_
    exact ⟨s.length - (i + 1), by omega, i + 1, by omega, by omega, by simp [setF_if, *], by simp [setF_if, *], by simp [setF_if, *], by simp [setF_if, *], hH⟩
  · have ei : i = s.length := by omega
    rw [ei, List.take_length] at e5
    refine AL ?_
    simp [retA, backA]
/-- What is asked of a list of placements. -/
structure OkL (n : Nat) (L : List (Int × List Int)) : Prop where
  n9 : n < 1000000
  len : L.length < 1000000
  cells : ∀ x ∈ L, x.2.length < 1000000 ∧ ∀ c ∈ x.2, 0 ≤ c ∧ c < n
def wMap (m : Int) (w : List Int) (L : List (Int × List Int)) : List Int := L.map fun x => weiM m w x.2
theorem l19Piece_fn (G : Gv) (r : Shape) (l : List PieceM) (k : Int) (m : Int) (w : List Int) (L : List (Int × List Int)) (ok : OkW r.length m w) (hL : OkL r.length L) (hof : Gives Tryz.prog G 144 [.ag [.sl 0 (cells r), .sl 0 (pieces l)], .i .i64 k] (.sl 1 (places L))) :
    Gives Tryz.prog G 84 [.ag [.sl 0 (cells r), .sl 0 (pieces l)], .ag [.i .i64 m, .sl 0 (ints w)], .i .i64 k] (.sl 1 (ints (pieceW m w L))) := by
  refine .of (.body Tryz.func84 rfl (by simp [Tryz.ntmps84]) ?_)
  rw [Tryz.ntmps84, Tryz.results84]
  have hlen := places_len L
  have hLl := hL.len
  have hdl : ∀ i, (distinctL (wMap m w (L.take i))).length ≤ i := fun i => by
    have h1 := distinct_len (wMap m w (L.take i)) []
    have h2 : (wMap m w (L.take i)).length ≤ i := by unfold wMap; rw [List.length_map, List.length_take]; omega
    have h3 : (distinctL (wMap m w (L.take i))).length ≤ 0 + (wMap m w (L.take i)).length := h1
    omega
  replace hdl := Hid.mk hdl
  replace hL := Hid.mk hL
  replace ok := Hid.mk ok
  replace hof := Hid.mk hof
  refine AL ?_
  refine CV hof.out ?_
  refine AL ?_
  refine .loop (.inv (fun d E H n' => ∃ i e : Nat, i + d = L.length ∧ 7 < n' ∧ E 4 = .ptr 1 0 0 0 ∧ E 7 = .sl 1 (places L) ∧ E 8 = .own 7 e ∧ E 9 = .i .i64 i ∧ H 1 = some (.box 48 [.i .i64 m, .sl 0 (ints w)]) ∧ H 7 = some (.arr e 2 1 (ints (distinctL (wMap m w (L.take i)))) 1)) L.length ?_ ?_)
  · exact ⟨0, 0, by omega, by omega, by simp [setF_if, argE], by simp [setF_if, argE], by simp [setF_if, argE], by simp [setF_if, argE], by simp [upd_if], by simp [upd_if, distinctL, wMap, ints]⟩
  rintro d E H n' ⟨i, e, hi, hnn, e4, e7, e8, e9, hH1, hH7⟩
  by_cases ci : (i : Int) < L.length
  · have hw_i : IntKind.i64.wrap ((i : Int) + 1) = (i : Int) + 1 := wr64 (by omega) (by omega)
    obtain ⟨x, hx⟩ : ∃ x, L[i]? = some x := ⟨_, List.getElem?_eq_getElem (by omega)⟩
    have hxr := places_at hx
    obtain ⟨x0, x1⟩ := hL.out.cells x (List.mem_of_getElem? hx)
    have hwt := l19Weight_fn G r.length m w x.2 ok.out hL.out.n9 x0 x1
    have hst : distinctL (wMap m w (L.take (i + 1))) = addI (distinctL (wMap m w (L.take i))) (weiM m w x.2) := by
      unfold distinctL wMap
      rw [take_map _ hx, List.foldl_append]; rfl
    have hd := hdl.out i
    generalize weiM m w x.2 = v at hwt hst
    generalize distinctL (wMap m w (L.take i)) = D at hH7 hst hd
    have hDl := ints_len D
    have hhas := l01Has_fn G D v (by omega)
    unfold addI at hst
    generalize hasM D v = bb at hst hhas
    replace hx := Hid.mk hx
    replace hwt := Hid.mk hwt
    replace hst := Hid.mk hst
    replace hhas := Hid.mk hhas
    clear x0 x1
    refine AL ?_
    refine CQ hwt.out ?_
    refine AL ?_
    refine CV hhas.out ?_
    cases bb with
    | true =>
      have hst2 := hst.out
      rw [if_pos rfl] at hst2
      replace hst2 := Hid.mk hst2
      refine AL ?_
      exact ⟨L.length - (i + 1), by omega, i + 1, e, by omega, by omega, by simp [setF_if, *], by simp [setF_if, *], by simp [setF_if, *], by simp [setF_if, *], hH1, by rw [hst2.out]; exact hH7⟩
    | false =>
      have hst2 := hst.out
      rw [if_neg (by decide)] at hst2
      have htk := ints_app1 D v
      rw [← hst2] at htk
      have hb : (D.length + 1) * 8 ≤ 140737488355328 := by omega
      replace hst2 := Hid.mk hst2
      refine AL ?_
      exact ⟨L.length - (i + 1), by omega, i + 1, e + 1, by omega, by omega, by simp [setF_if, *], by simp [setF_if, *], by simp [setF_if, *], by simp [setF_if, *], by simp [upd_if, *], by simp [upd_if, joinT, *]⟩
  · have ei : i = L.length := by omega
    rw [ei, List.take_length] at hH7
    have hd := hdl.out L.length
    rw [List.take_length] at hd
    have hso := l12Sorted_fn G (distinctL (wMap m w L)) (by omega)
    replace hso := Hid.mk hso
    refine AL ?_
    refine CV hso.out ?_
    refine AL ?_
    simp [retA, backA, newSl, pieceW, wMap]
theorem headD_zero {D : List Int} (h : D.length = 0) : D.getD 0 0 = 0 := by
  cases D with
  | nil => rfl
  | cons x l => simp at h
/-- What is asked of the pieces' weights. -/
structure OkD (l : List PieceM) (Ds : List (List Int)) : Prop where
  len : Ds.length = l.length
  l9 : l.length < 1000
  five : ∀ D ∈ Ds, ∀ x ∈ D, 0 ≤ x ∧ x ≤ 5
  lens : ∀ D ∈ Ds, D.length < 1000000
  ks : ∀ p ∈ l, 0 ≤ p.k ∧ p.k ≤ 8
theorem OkD.k8 {l : List PieceM} {Ds : List (List Int)} (h : OkD l Ds) : ∀ k ∈ l.map (·.k), 0 ≤ k ∧ k ≤ 8 := fun k hk => by
  obtain ⟨p, hp, rfl⟩ := List.mem_map.mp hk
  exact h.ks p hp
theorem sumC_step {l : List PieceM} {Ds : List (List Int)} {i : Nat} {p : PieceM} {D : List Int} (h1 : l[i]? = some p) (h2 : Ds[i]? = some D) : sumC (l.map (·.k)) Ds (i + 1) = sumC (l.map (·.k)) Ds i + p.k * D.getD 0 0 := by
  simp only [sumC]
  rw [List.getD_eq_getElem?_getD, List.getD_eq_getElem?_getD (l := Ds), List.getElem?_map, h1, h2]
  rfl
theorem l19Refutes_fn (G : Gv) (r : Shape) (l : List PieceM) (m : Int) (w : List Int) (Ds : List (List Int)) (ok : OkW r.length m w) (hr : r.length < 1000) (hok : OkD l Ds) (hP : ∀ (i : Nat) (D : List Int), Ds[i]? = some D → Gives Tryz.prog G 84 [.ag [.sl 0 (cells r), .sl 0 (pieces l)], .ag [.i .i64 m, .sl 0 (ints w)], .i .i64 i] (.sl 1 (ints D))) :
    Gives Tryz.prog G 89 [.ag [.sl 0 (cells r), .sl 0 (pieces l)], .ag [.i .i64 m, .sl 0 (ints w)]] (.b (refM m w (l.map (·.k)) Ds)) := by
  refine .of (.body Tryz.func89 rfl (by simp [Tryz.ntmps89]) ?_)
  rw [Tryz.ntmps89, Tryz.results89]
  have hl1 := ints_len w
  have hl2 := pieces_len l
  have m2 := ok.m2
  have m6 := ok.m6
  have hw9 : w.length < 1000 := by have := ok.len; omega
  have hl9 := hok.l9
  have hdl := Hid.mk hok.len
  have h5 := sum_bd ok.five
  have h5t := fun i => sum_bd (take_all5 ok.five i)
  have hcb := sumC_bd hok.k8 hok.five
  replace ok := Hid.mk ok
  replace hok := Hid.mk hok
  replace hP := Hid.mk hP
  replace h5t := Hid.mk h5t
  replace hcb := Hid.mk hcb
  refine AL ?_
  refine .loop (.inv (fun d E H n' => ∃ i : Nat, i + d = w.length ∧ 2 < n' ∧ E 2 = .ptr 0 0 0 0 ∧ E 3 = .ptr 1 0 0 0 ∧ E 5 = .b false ∧ E 6 = .i .i64 (w.take i).sum ∧ E 7 = .i .i64 i ∧ H 0 = some (.box 35 [.sl 0 (cells r), .sl 0 (pieces l)]) ∧ H 1 = some (.box 48 [.i .i64 m, .sl 0 (ints w)])) w.length ?_ ?_)
  · exact ⟨0, by omega, by omega, by simp [setF_if, argE], by simp [setF_if, argE], by simp [setF_if, argE], by simp [setF_if, argE], by simp [setF_if, argE], by simp [upd_if], by simp [upd_if]⟩
  rintro d E H n' ⟨i, hi, hnn, e2, e3, e5, e6, e7, hH0, hH1⟩
  by_cases ci : (i : Int) < w.length
  · have hw_i : IntKind.i64.wrap ((i : Int) + 1) = (i : Int) + 1 := wr64 (by omega) (by omega)
    obtain ⟨x, hx⟩ : ∃ x, w[i]? = some x := ⟨_, List.getElem?_eq_getElem (by omega)⟩
    have hxr := ints_row hx
    have hst := sum_take hx
    have hb := h5t.out i
    have hx5 := ok.out.five x (List.mem_of_getElem? hx)
    rw [List.length_take] at hb
    generalize (w.take i).sum = a at e6 hst hb
    have hw1 : IntKind.i64.wrap (a + x) = a + x := wr64 (by omega) (by omega)
    replace hx := Hid.mk hx
    replace hst := Hid.mk hst
    clear hb hx5 h5
    refine AL ?_
    exact ⟨w.length - (i + 1), by omega, i + 1, by omega, by omega, by simp [setF_if, *], by simp [setF_if, *], by simp [setF_if, *], by simp [setF_if, hst.out, *], by simp [setF_if, *], hH0, hH1⟩
  have ei : i = w.length := by omega
  rw [ei, List.take_length] at e6
  refine AL ?_
  clear ei ci hi
  refine .loop (.inv (fun d E H n' => ∃ j : Nat, j + d = l.length ∧ 2 < n' ∧ E 2 = .ptr 0 0 0 0 ∧ E 3 = .ptr 1 0 0 0 ∧ E 5 = .b ((Ds.take j).any nilD) ∧ E 6 = .i .i64 (w.sum - sumC (l.map (·.k)) Ds j) ∧ E 8 = .i .i64 j ∧ H 0 = some (.box 35 [.sl 0 (cells r), .sl 0 (pieces l)]) ∧ H 1 = some (.box 48 [.i .i64 m, .sl 0 (ints w)]) ∧ (Ds.take j).any bigD = false) l.length ?_ ?_)
  · exact ⟨0, by omega, by omega, by simp [setF_if, *], by simp [setF_if, *], by simp [setF_if, *], by simp [setF_if, sumC, *], by simp [setF_if, *], hH0, hH1, by simp⟩
  clear e2 e3 e5 e6 e7 hH0 hH1 hnn
  rintro d E H n' ⟨j, hj, hnn, e2, e3, e5, e6, e8, hH0, hH1, hbig⟩
  replace hbig := Hid.mk hbig
  by_cases cj : (j : Int) < l.length
  · have hw_j : IntKind.i64.wrap ((j : Int) + 1) = (j : Int) + 1 := wr64 (by omega) (by omega)
    obtain ⟨p, hp⟩ : ∃ p, l[j]? = some p := ⟨_, List.getElem?_eq_getElem (by omega)⟩
    obtain ⟨D, hD⟩ : ∃ D, Ds[j]? = some D := ⟨_, List.getElem?_eq_getElem (by rw [hdl.out]; omega)⟩
    have hpr := pieces_at hp
    have hPD := hP.out j D hD
    have hDl := ints_len D
    have hD9 := hok.out.lens D (List.mem_of_getElem? hD)
    have hD5 := hok.out.five D (List.mem_of_getElem? hD)
    have hk8 := hok.out.ks p (List.mem_of_getElem? hp)
    have hsc := sumC_step hp hD
    have hn1 := take_anyG (p := nilD) hD
    have hg1 := take_anyG (p := bigD) hD
    rw [hbig.out, Bool.false_or] at hg1
    have hcj := hcb.out j
    generalize sumC (l.map (·.k)) Ds j = a at e6 hsc hcj
    generalize (Ds.take j).any nilD = nn at e5 hn1
    replace hp := Hid.mk hp
    replace hPD := Hid.mk hPD
    replace hD5 := Hid.mk hD5
    replace hsc := Hid.mk hsc
    replace hn1 := Hid.mk hn1
    replace hg1 := Hid.mk hg1
    by_cases cb : (D.length : Int) > 1
    · have hf : refM m w (l.map (·.k)) Ds = false := by
        unfold refM
        rw [any_atG hD (by unfold bigD; simpa using cb)]; rfl
      replace hD := Hid.mk hD
      refine AL ?_
      refine CV hPD.out ?_
      refine AL ?_
      simp [retA, backA, hf]
    · have hbf : bigD D = false := by unfold bigD; simpa using cb
      replace hD := Hid.mk hD
      replace hbf := Hid.mk hbf
      by_cases cz : D.length = 0
      · have hnt : nilD D = true := by unfold nilD; simp [cz]
        have hz := headD_zero cz
        have hz1 : ((D.length : Int) == 0) = true := by simp [cz]
        have e6z : w.sum - sumC (l.map (·.k)) Ds (j + 1) = w.sum - a := by rw [hsc.out, hz]; omega
        replace e6z := Hid.mk e6z
        replace hnt := Hid.mk hnt
        replace hz := Hid.mk hz
        replace cz := Hid.mk cz
        refine AL ?_
        refine CV hPD.out ?_
        refine AL ?_
        exact ⟨l.length - (j + 1), by omega, j + 1, by omega, by omega, by simp [setF_if, *], by simp [setF_if, *], by simp [setF_if, hn1.out, hnt.out], by rw [e6z.out]; simp [setF_if, *], by simp [setF_if, *], hH0, hH1, by rw [hg1.out, hbf.out]⟩
      · have hnf : nilD D = false := by unfold nilD; simp [cz]
        have hz1 : ((D.length : Int) == 0) = false := by simp [cz]
        have hD0 := ints_at (l := D) (i := 0) (by omega)
        have hv := hD5.out (D.getD 0 0) (by rw [List.getD_eq_getElem?_getD, List.getElem?_eq_getElem (show 0 < D.length by omega)]; exact List.getElem_mem _)
        have hD1 : 0 < D.length := by omega
        have hsc2 := hsc.out
        generalize D.getD 0 0 = v at hD0 hv hsc2
        have hm1 : 0 ≤ p.k * v := Int.mul_nonneg hk8.1 hv.1
        have hm2 : p.k * v ≤ 8 * 5 := Int.mul_le_mul hk8.2 hv.2 hv.1 (by omega)
        have hw1 : IntKind.i64.wrap (p.k * v) = p.k * v := wr64 (by omega) (by omega)
        have hw2 : IntKind.i64.wrap (w.sum - a - p.k * v) = w.sum - a - p.k * v := wr64s (by omega) (by omega)
        have hs3 : w.sum - a - p.k * v = w.sum - sumC (l.map (·.k)) Ds (j + 1) := by rw [hsc2]; omega
        replace hs3 := Hid.mk hs3
        replace hsc2 := Hid.mk hsc2
        replace hnf := Hid.mk hnf
        clear hv hm1 hm2 hk8 hcj
        refine AL ?_
        refine CV hPD.out ?_
        refine AL ?_
        exact ⟨l.length - (j + 1), by omega, j + 1, by omega, by omega, by simp [setF_if, *], by simp [setF_if, *], by simp [setF_if, hn1.out, hnf.out, *], by rw [← hs3.out]; simp [setF_if, *], by simp [setF_if, *], hH0, hH1, by rw [hg1.out, hbf.out]⟩
  · have ej : j = l.length := by omega
    have hbig2 := hbig.out
    rw [ej, ← hdl.out, List.take_length] at hbig2 e5
    rw [ej, ← hdl.out] at e6
    have hres : refM m w (l.map (·.k)) Ds = (Ds.any nilD || modV (w.sum - sumC (l.map (·.k)) Ds Ds.length) m != 0) := by
      unfold refM; rw [hbig2]; rfl
    rw [hres]
    generalize w.sum - sumC (l.map (·.k)) Ds Ds.length = a at e6
    have hmd := l01Mod_fn G a m m2 m6
    replace hmd := Hid.mk hmd
    clear hres
    generalize Ds.any nilD = bz at e5 ⊢
    cases bz with
    | true =>
      refine AL ?_
      simp [retA, backA]
    | false =>
      refine AL ?_
      refine CV hmd.out ?_
      refine AL ?_
      simp [retA, backA]
theorem l19Plane_fn (G : Gv) (r : Shape) (m a b c : Int) (hr : r.length < 1000) (m2 : 2 ≤ m) (m6 : m ≤ 6) :
    Gives Tryz.prog G 92 [.sl 0 (cells r), .i .i64 m, .i .i64 a, .i .i64 b, .i .i64 c] (.ag [.i .i64 m, .sl 1 (ints (planeM r m a b c))]) := by
  refine .of (.body Tryz.func92 rfl (by simp [Tryz.ntmps92]) ?_)
  rw [Tryz.ntmps92, Tryz.results92]
  have hl1 := cells_len r
  have hmod : ∀ x, Gives Tryz.prog G 158 [.i .i64 x, .i .i64 m] (.i .i64 (modV x m)) := fun x => l01Mod_fn G x m m2 m6
  replace hmod := Hid.mk hmod
  refine AL ?_
  refine .loop (.inv (fun d E H n' => ∃ i e : Nat, i + d = r.length ∧ 1 < n' ∧ E 0 = .sl 0 (cells r) ∧ E 1 = .i .i64 m ∧ E 2 = .i .i64 a ∧ E 3 = .i .i64 b ∧ E 4 = .i .i64 c ∧ E 10 = .ptr 0 0 0 0 ∧ E 11 = .own 1 e ∧ E 12 = .i .i64 i ∧ H 0 = some (.box 48 [.i .i64 0, .nil]) ∧ H 1 = some (.arr e 2 1 (ints (planeM (r.take i) m a b c)) 1)) r.length ?_ ?_)
  · exact ⟨0, 0, by omega, by omega, by simp [setF_if, argE], by simp [setF_if, argE], by simp [setF_if, argE], by simp [setF_if, argE], by simp [setF_if, argE], by simp [setF_if, argE], by simp [setF_if, argE], by simp [setF_if, argE], by simp [upd_if], by simp [upd_if, planeM, ints]⟩
  rintro d E H n' ⟨i, e, hi, hnn, e0, e1, e2, e3, e4, e10, e11, e12, hH0, hH1⟩
  by_cases ci : (i : Int) < r.length
  · have hw_i : IntKind.i64.wrap ((i : Int) + 1) = (i : Int) + 1 := wr64 (by omega) (by omega)
    obtain ⟨x, hx⟩ : ∃ x, r[i]? = some x := ⟨_, List.getElem?_eq_getElem (by omega)⟩
    have hxr : (cells r)[i]? = some [.i .i64 x.1, .i .i64 x.2] := by simp [cells, hx]
    have htk := ints_app1 (planeM (r.take i) m a b c) (planeV m a b c x)
    rw [show planeM (r.take i) m a b c ++ [planeV m a b c x] = planeM (r.take (i + 1)) m a b c from (take_map _ hx).symm] at htk
    have hrl : (ints (planeM (r.take i) m a b c)).length = i := by rw [ints_len]; unfold planeM; rw [List.length_map, List.length_take]; omega
    have hb : (i + 1) * 8 ≤ 140737488355328 := by omega
    unfold planeV at htk
    obtain ⟨xx, xy⟩ := x
    simp only at htk hxr
    replace hx := Hid.mk hx
    have hq2 : ∀ j, (1 = n' + j) = False := fun j => by simp; omega
    refine AX ?_
    refine DMF [] [24, 25, 26, 31, 32, 33] 0 ?_
    refine AX ?_
    refine OSQ ?_ (hs := by
      intro Hx hx
      exact EV)
    refine OSQ ?_ (hs := by
      intro Hx hx
      exact EV)
    refine OSQ ?_ (hs := by
      intro Hx hx
      exact EV)
    refine AX ?_
    refine OSQ ?_ (hs := by
      intro Hx hx
      exact EV)
    refine OSQ ?_ (hs := by
      intro Hx hx
      exact EV)
    refine OSQ ?_ (hs := by
      intro Hx hx
      exact EV)
    refine AX ?_
    refine CM (hmod.out _) ?_
    refine AX ?_
    exact ⟨r.length - (i + 1), by omega, i + 1, e + 1, by omega, by omega, by simp [setF_if, *], by simp [setF_if, *], by simp [setF_if, *], by simp [setF_if, *], by simp [setF_if, *], by simp [setF_if, *], by simp [setF_if, *], by simp [setF_if, *], by simp [upd_if, *], by simp [upd_if, joinT, *]⟩
  · have ei : i = r.length := by omega
    rw [ei, List.take_length] at hH1
    refine AL ?_
    simp [retA, backA, backsA, newSl, newB, upd_if, hH1]
end Go.Proofs
end
section
open Go Go.Big
namespace Go.Proofs
set_option maxHeartbeats 2000000
theorem setL_drop {α : Type} {C l : List α} {i j : Nat} {x : α} (h : C.drop j = l.drop j) (hij : i < j) : (C.set i x).drop (j + 1) = l.drop (j + 1) := by
  rw [List.drop_set_of_lt (by omega), ← List.drop_drop (i := 1) (l := C), h, List.drop_drop]
theorem setL_take {α : Type} {C : List α} {i : Nat} {x : α} (h : i < C.length) : (C.set i x).take (i + 1) = C.take i ++ [x] := by
  rw [List.take_succ_eq_append_getElem (by simpa using h), List.take_set_of_le (Nat.le_refl _)]; simp
theorem filter_take {α : Type} {q : α → Bool} {l : List α} {j : Nat} {x : α} (h : l[j]? = some x) : (l.take (j + 1)).filter q = (l.take j).filter q ++ (if q x then [x] else []) := by
  obtain ⟨hj, rfl⟩ := List.getElem?_eq_some_iff.mp h
  rw [List.take_succ_eq_append_getElem hj, List.filter_append]
  congr 1
  by_cases c : q l[j] = true <;> simp [c]
theorem find_filter {α : Type} {p : α → Bool} {l : List α} {z : α} {i : Nat} (h : (List.range l.length).find? (fun i => p (l.getD i z)) = some i) : i < l.length ∧ l.take i = (l.take (i + 1)).filter fun x => !p x := by
  rw [List.find?_range_eq_some] at h
  obtain ⟨h1, h2, h3⟩ := h
  have hi : i < l.length := by simpa using h2
  refine ⟨hi, ?_⟩
  have e1 : (l.take i).filter (fun x => !p x) = l.take i := by
    rw [List.filter_eq_self]
    intro x hx
    obtain ⟨j, hj, rfl⟩ := List.mem_iff_getElem.mp hx
    have hji : j < i := by rw [List.length_take] at hj; omega
    have := h3 j hji
    simpa [List.getD_eq_getElem?_getD, show j < l.length by omega] using this
  rw [filter_take (x := l[i]) (List.getElem?_eq_getElem hi), e1, if_neg, List.append_nil]
  simpa [List.getD_eq_getElem?_getD, hi] using h1
theorem find_filter_no {α : Type} {p : α → Bool} {l : List α} {z : α} (h : (List.range l.length).find? (fun i => p (l.getD i z)) = none) : (l.filter fun x => !p x) = l := by
  rw [List.find?_range_eq_none] at h
  rw [List.filter_eq_self]
  intro x hx
  obtain ⟨j, hj, rfl⟩ := List.mem_iff_getElem.mp hx
  have := h j hj
  simpa [List.getD_eq_getElem?_getD, hj] using this
end Go.Proofs
end
