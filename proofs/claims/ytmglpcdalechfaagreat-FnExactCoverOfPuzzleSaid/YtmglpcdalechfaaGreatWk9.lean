/- Walks: All placements of a piece: the one program; what it makes is the caller's. No condition. | A placement put into a list in order: the other program. No condition. | All placements of a piece: the other program. No condition. | All placements of a piece: both programs' functions. No condition. -/
import Derived.Test.YtmglpcdalechfaaGreatBO
import Derived.Test.YtmglpcdalechfaaGreatWk7
import Derived.Test.YtmglpcdalechfaaGreatWk6
import Derived.Test.YtmglpcdalechfaaGreatWk8
import Derived.Test.YtmglpcdalechfaaGreatBC
import Derived.Test.YtmglpcdalechfaaGreatWk1
set_option linter.unusedVariables false
set_option linter.unusedSimpArgs false
section
open Go Go.Big
namespace Go.Proofs
set_option maxHeartbeats 2000000
theorem rowA_take {r : Shape} {k : Int} {f : Shape} {j : Nat} {c : Int × Int} (h : r[j]? = some c) : (r.take (j + 1)).filterMap (fun c => gM r k f (offA f c).1 (offA f c).2) = (r.take j).filterMap (fun c => gM r k f (offA f c).1 (offA f c).2) ++ (match gM r k f (offA f c).1 (offA f c).2 with | some t => [t] | none => []) := by
  obtain ⟨hj, rfl⟩ := List.getElem?_eq_some_iff.mp h
  rw [List.take_succ_eq_append_getElem hj, List.filterMap_append]
  congr 1
  cases q : gM r k f (offA f r[j]).1 (offA f r[j]).2 with
  | none => rw [List.filterMap_cons_none (f := fun c => gM r k f (offA f c).1 (offA f c).2) q]; rfl
  | some t => rw [List.filterMap_cons_some (f := fun c => gM r k f (offA f c).1 (offA f c).2) q]; rfl
theorem tag_app {t t2 : Nat} {rows row : List (List PV)} (h : tagOk t rows) (hr : t2 = 2 ∨ noObs row) : tagOk (joinT t t2) (rows ++ row) := by
  rcases h with h | h
  · exact .inl ((join_2 t t2).1 h)
  · rcases hr with hr | hr
    · exact .inl ((join_2 t t2).2 hr)
    · refine .inr fun r hm p hp => ?_
      rcases List.mem_append.mp hm with hm | hm
      · exact h r hm p hp
      · exact hr r hm p hp
theorem take_flatMap {α β : Type} {f : α → List β} {l : List α} {i : Nat} {x : α} (h : l[i]? = some x) : (l.take (i + 1)).flatMap f = (l.take i).flatMap f ++ f x := by
  obtain ⟨hi, rfl⟩ := List.getElem?_eq_some_iff.mp h
  rw [List.take_succ_eq_append_getElem hi, List.flatMap_append]; simp
theorem bq1 {a x j : Nat} (h : a ≤ x + j) : a + 1 ≤ x + (j + 1) := by omega
theorem bq1' {a x j : Nat} (h : a ≤ x + j) : a ≤ x + (j + 1) := by omega
theorem bq2 {a i n : Nat} (h : a ≤ i * 1000 + n) (hn : n ≤ 1000) : a ≤ (i + 1) * 1000 := by rw [Nat.add_mul]; omega
theorem bq3 {a i j : Nat} (h : a ≤ i * 1000 + j) (hi : i < 1000) (hn : j ≤ 1000) : a < 1002000 := by have := Nat.mul_le_mul_right 1000 (Nat.le_of_lt hi); omega
theorem bq4 {a i : Nat} (h : a ≤ i * 1000) (hi : i ≤ 8) : a < 1000000000 := by omega
theorem listA_cells {r : Shape} {i : Int} {fs : List Shape} {n : Nat} (h : ∀ f ∈ fs, f.length = n) : ∀ x ∈ listA r i fs, x.2.length = n := by
  intro x hx
  unfold listA rowA at hx
  obtain ⟨f, hf, hx⟩ := List.mem_flatMap.mp hx
  obtain ⟨c, hc, hx⟩ := List.mem_filterMap.mp hx
  rw [(setM_some (gM_some hx).2).2.2.1, movedM_len]
  exact h f hf
theorem placementsOf_o (G : Gv) (hA : AllG G) (r : Shape) (l : List PieceM) (k : Nat) (p : PieceM) (hp : l[k]? = some p) (hp0 : 0 < p.cs.length) (hpl : p.cs.length < 1000000) (hrs : r.Pairwise fun a b => lessC a.1 a.2 b.1 b.2 = true) (hr : r.length ≤ 1000) (hl : l.length < 1000000000) (hdup : (listA r k (formsI p)).Nodup) :
    GivesO Tryz.prog G 88 [.ag [.sl 0 (cells r), .sl 0 (pieces l)], .i .i64 k] (.sl 1 (places (orderP (listA r k (formsI p))))) := by
  refine .of (.body Tryz.func88 rfl (by simp [Tryz.ntmps88]) ?_)
  rw [Tryz.ntmps88, Tryz.results88]
  have hrow := pieces_at hp
  obtain ⟨hf1, hf2⟩ := formsI_ok p
  have hk : k < l.length := (List.getElem?_eq_some_iff.mp hp).1
  have hlenf := shapesR_len (formsI p)
  have hlenr := cells_len r
  replace hp := Hid.mk hp
  have hcel : ∀ x ∈ listA r k (formsI p), x.2.length < 1000000000 := fun x hx => by rw [listA_cells (n := p.cs.length) hf2 x hx]; omega
  replace hcel := Hid.mk hcel
  replace hdup := Hid.mk hdup
  replace hA := Hid.mk hA
  replace hrs := Hid.mk hrs
  refine AL ?_
  refine CV (formsOf_fn G hA.out.c1 hA.out.c2 p hp0 (by omega)) ?_
  have hfl : ∀ f ∈ formsI p, 0 < f.length ∧ f.length < 1000000 := fun f hf => by rw [hf2 f hf]; exact ⟨hp0, hpl⟩
  generalize formsI p = fs at hf1 hf2 hlenf hfl hcel hdup
  replace hfl := Hid.mk hfl
  replace hf2 := Hid.mk hf2
  clear hrow
  refine AL ?_
  refine .loop (.inv (fun d E H n' => ∃ (i e t' : Nat) (rows : List (List PV)) (S : List Nat), i + d = fs.length ∧ 2 < n' ∧ E 1 = .i .i64 k ∧ E 2 = .ptr 0 0 0 0 ∧ E 5 = .own 2 e ∧ E 18 = .sl 1 (shapesR fs) ∧ E 19 = .i .i64 fs.length ∧ E 20 = .i .i64 i ∧ H 0 = some (.box 35 [.sl 0 (cells r), .sl 0 (pieces l)]) ∧ H 2 = some (.arr e 110 2 rows t') ∧
      tagOk t' rows ∧ fitR 2 rows ∧ ownRs H rows (places ((fs.take i).flatMap (rowA r k))) S ∧ S.Nodup ∧ (∀ o ∈ S, 2 < o ∧ o < n') ∧ rows.length ≤ i * 1000 ∧ (rows = [] → t' ≠ 2)) fs.length ?_ ?_)
  · exact ⟨0, 0, 1, [], [], by omega, by omega, by simp [setF_if, argE], by simp [setF_if, argE], by simp [setF_if, argE], by simp [setF_if, argE], by simp [setF_if, argE, hlenf], by simp [setF_if, argE], by simp [upd_if], by simp [upd_if], .inr (fun r hr => by simp at hr), fun r hr => by simp at hr, ⟨rfl, rfl⟩, by simp, by simp, by simp, fun _ => by decide⟩
  rintro d E H n' ⟨i, e, t', rows, S, hi, hn, h1, h2, h5, h18, h19, h20, hH0, hH2, htag, hfit, hown, hnd, hlt, hlen, hnil⟩
  by_cases c : (i : Int) < fs.length
  · have hw_i : IntKind.i64.wrap ((i : Int) + 1) = (i : Int) + 1 := wr64 (by omega) (by omega)
    have hfi : i < fs.length := by omega
    have hfm := take_flatMap (f := rowA r k) (List.getElem?_eq_getElem hfi)
    have hrf := shapesR_at (ls := fs) (i := i) hfi
    rw [show fs.getD i [] = fs[i]'hfi by rw [List.getD_eq_getElem?_getD, List.getElem?_eq_getElem hfi]; rfl] at hrf
    obtain ⟨hff0, hff⟩ := hfl.out _ (List.getElem_mem hfi)
    generalize fs[i]'hfi = f at hfm hrf hff hff0
    replace hfm := Hid.mk hfm
    replace htag := Hid.mk htag
    replace hfit := Hid.mk hfit
    replace hown := Hid.mk hown
    replace hnd := Hid.mk hnd
    replace hlt := Hid.mk hlt
    replace hlen := Hid.mk hlen
    replace hnil := Hid.mk hnil
    refine AL ?_
    refine .loop (.inv (fun d2 E H n' => ∃ (j e t' : Nat) (rows : List (List PV)) (S : List Nat), j + d2 = r.length ∧ 2 < n' ∧ E 1 = .i .i64 k ∧ E 2 = .ptr 0 0 0 0 ∧ E 5 = .own 2 e ∧ E 18 = .sl 1 (shapesR fs) ∧ E 19 = .i .i64 fs.length ∧ E 20 = .i .i64 i ∧ E 7 = .sl 1 (cells f) ∧ E 25 = .sl 0 (cells r) ∧ E 26 = .i .i64 r.length ∧ E 27 = .i .i64 j ∧ H 0 = some (.box 35 [.sl 0 (cells r), .sl 0 (pieces l)]) ∧ H 2 = some (.arr e 110 2 rows t') ∧
        tagOk t' rows ∧ fitR 2 rows ∧ ownRs H rows (places ((fs.take i).flatMap (rowA r k) ++ (r.take j).filterMap (fun c => gM r k f (offA f c).1 (offA f c).2))) S ∧ S.Nodup ∧ (∀ o ∈ S, 2 < o ∧ o < n') ∧ rows.length ≤ i * 1000 + j ∧ (rows = [] → t' ≠ 2)) r.length ?_ ?_)
    · exact ⟨0, e, t', rows, S, by omega, by omega, by simp [setF_if, *], by simp [setF_if, *], by simp [setF_if, *], by simp [setF_if, *], by simp [setF_if, *], by simp [setF_if, *], by simp [setF_if, *], by simp [setF_if, *], by simp [setF_if, *], by simp [setF_if, *], by first | exact hH0 | simp [*], by first | exact hH2 | simp [*], htag.out, hfit.out, by simpa using hown.out, hnd.out, fun o ho => ⟨(hlt.out o ho).1, by have := (hlt.out o ho).2; omega⟩, Nat.le_trans hlen.out (Nat.le_add_right _ _), hnil.out⟩
    clear h1 h2 h5 h18 h19 h20 hH0 hH2 hn
    rintro d2 E H n' ⟨j, e, t', rows, S, hj, hn, h1, h2, h5, h18, h19, h20, h7, h25, h26, h27, hH0, hH2, htag, hfit, hown, hnd, hlt, hlen, hnil⟩
    replace htag := Hid.mk htag
    replace hfit := Hid.mk hfit
    replace hown := Hid.mk hown
    replace hnd := Hid.mk hnd
    replace hlt := Hid.mk hlt
    replace hlen := Hid.mk hlen
    replace hnil := Hid.mk hnil
    by_cases cj : (j : Int) < r.length
    · have hw_j : IntKind.i64.wrap ((j : Int) + 1) = (j : Int) + 1 := wr64 (by omega) (by omega)
      have hro := cells_at (l := r) (i := j) (by omega)
      have hjr : j < r.length := by omega
      have hrt := rowA_take (r := r) (k := k) (f := f) (List.getElem?_eq_getElem hjr)
      rw [show r.getD j (0, 0) = r[j]'hjr by rw [List.getD_eq_getElem?_getD, List.getElem?_eq_getElem hjr]; rfl] at hro
      generalize r[j]'hjr = c at hro hrt
      obtain ⟨cx, cy⟩ := c
      have hset := cellsToSet_o G r (movedM f (offA f (cx, cy)).1 (offA f (cx, cy)).2) hrs.out (by omega) (by rw [movedM_len]; omega)
      have hrf0 := cells_at (l := f) (i := 0) hff0
      have hg : gM r k f (offA f (cx, cy)).1 (offA f (cx, cy)).2 = (setM r (movedM f (offA f (cx, cy)).1 (offA f (cx, cy)).2)).map fun s => ((k : Int), s) := rfl
      rw [hg] at hrt
      generalize setM r (movedM f (offA f (cx, cy)).1 (offA f (cx, cy)).2) = sm at hset hrt
      clear hg
      have hmv := moved_fn G f (offA f (cx, cy)).1 (offA f (cx, cy)).2 (by omega)
      simp only [offA] at hset hmv
      generalize f.getD 0 (0, 0) = c0 at hset hmv hrf0
      obtain ⟨fx, fy⟩ := c0
      simp only at hset hmv hrf0
      replace hrt := Hid.mk hrt
      replace hset := Hid.mk hset
      replace hmv := Hid.mk hmv
      refine AX ?_
      refine DMF [154] [] 0 ?_
      refine AX ?_
      refine CM hmv.out ?_
      refine AX ?_
      refine CWM hset.out ?_
      intro z H1 S1 m hz hn1 hS hf hm
      have f0 := hf 0 (by omega)
      have f2 := hf 2 (by omega)
      simp only [upd_if, show ¬ (0 = n' + 3) by omega, show ¬ (2 = n' + 3) by omega, if_false, hH0, hH2] at f0 f2
      have hS3 : ∀ o ∈ S1, 2 < o ∧ o < m := fun o h => by have := hS o h; omega
      have hS4 : ∀ o ∈ S, 2 < o ∧ o < m := fun o h => by have := hlt.out o h; omega
      have hSd : ∀ o ∈ S, o ∉ S1 := fun o h1 h2 => by have := hlt.out o h1; have := hS o h2; omega
      have hf1 : ∀ o ∈ S, H1 o = H o := fun o h => by
        have h1 := (hlt.out o h).2
        rw [hf o (by omega)]; simp [upd_if, show ¬ o = n' + 3 by omega]
      clear hset hmv
      replace hS3 := Hid.mk hS3
      replace hS4 := Hid.mk hS4
      replace hSd := Hid.mk hSd
      replace hf1 := Hid.mk hf1
      replace hf := Hid.mk hf
      replace hS := Hid.mk hS
      replace hn1 := Hid.mk hn1
      have hm2 : 2 < m := by omega
      cases sm with
      | none =>
        simp only [setA] at hz
        obtain ⟨za, zb, s1, s2, rfl, rfl, hza, hzb⟩ := ownX_tup2 hz
        obtain ⟨rfl, rfl⟩ := ownX_b hzb
        clear hz hza hzb hH0 hH2
        have hrt2 := hrt.out
        simp only [Option.map_none, List.append_nil] at hrt2
        clear hrt
        replace hrt2 := Hid.mk hrt2
        refine AX ?_
        exact ⟨r.length - (j + 1), by omega, j + 1, e, t', rows, S, by omega, by omega, by simp [setF_if, *], by simp [setF_if, *], by simp [setF_if, *], by simp [setF_if, *], by simp [setF_if, *], by simp [setF_if, *], by simp [setF_if, *], by simp [setF_if, *], by simp [setF_if, *], by simp [setF_if, *], f0, f2, htag.out, hfit.out, by rw [hrt2.out]; exact ownRs_congr hf1.out hown.out, hnd.out, fun o ho => ⟨(hS4.out o ho).1, by have := (hS4.out o ho).2; omega⟩, bq1' hlen.out, hnil.out⟩
      | some s =>
        simp only [setA] at hz
        obtain ⟨za, zb, s1, s2, rfl, rfl, hza, hzb⟩ := ownX_tup2 hz
        obtain ⟨rfl, rfl⟩ := ownX_b hzb
        have hrt2 := hrt.out
        simp only [Option.map_some] at hrt2
        rw [List.append_nil] at hS3 hSd hS hn1
        have hq := ownX_leaf hza (ints_scal _)
        have hcs := ownX_cases hza
        have hlen1 := bq3 hlen.out (by omega) (by omega)
        have hb : (rows.length + 1) * 32 ≤ 140737488355328 := by omega
        clear hrt hz hza hzb hH0 hH2
        replace hrt2 := Hid.mk hrt2
        replace hq := Hid.mk hq
        have fin : ∀ (q : PV) (t2 : Nat) (H2 : Heap), ownP H1 q (.sl (ints s)) s1 → (noOb q = true ∨ t2 = 2) → (∀ o, 2 < o → o < m → H2 o = H1 o) → tagOk (joinT t' t2) (rows ++ [[.i .i64 k, q]]) ∧ ownRs H2 (rows ++ [[.i .i64 k, q]]) (places ((fs.take i).flatMap (rowA r k) ++ (r.take (j + 1)).filterMap (fun c => gM r k f (offA f c).1 (offA f c).2))) (S ++ s1) := by
          intro q t2 H2 h1 h2 h3
          refine ⟨tag_store htag.out (h2.symm.imp id fun h2 r hr p hp => ?_), ?_⟩
          · obtain rfl := List.mem_singleton.mp hr
            simp only [List.mem_cons, List.not_mem_nil, or_false] at hp
            rcases hp with rfl | rfl <;> first | rfl | exact h2
          · rw [hrt2.out, ← List.append_assoc, places_app]
            refine ownRs_append (ownRs_congr (H := H) (fun o ho => ?_) hown.out) (ownRs_one (ownPs_congr (H := H1) (fun o ho => ?_) ?_))
            · rw [h3 o (hS4.out o ho).1 (hS4.out o ho).2]; exact hf1.out o ho
            · exact h3 o (hS3.out o ho).1 (hS3.out o ho).2
            · rw [← List.nil_append s1]; exact ownPs_cons (ownP_scal_mk rfl) (by rw [← List.append_nil s1]; exact ownPs_cons h1 (ownPs_scal_mk (by simp)))
        replace fin := Hid.mk fin
        rcases hcs with ⟨o, eo, ty, sz, ro, t, rfl, hHo, ho⟩ | rfl | ⟨t, rfl⟩
        · have ho3 := hS3.out o ho
          have n3 : ¬ o = 2 := by omega
          clear ho
          obtain ⟨q, tg, e1, e2, hq1, hq2⟩ := hq.out
          cases e1
          clear hq2 e2
          replace hq1 := Hid.mk hq1
          refine AX ?_
          refine ⟨r.length - (j + 1), by omega, j + 1, e + 1, joinT t' (2), rows ++ [[PV.i .i64 k, PV.ob o eo]], S ++ s1, by omega, by omega, by simp [setF_if, *], by simp [setF_if, *], by simp [setF_if, *], by simp [setF_if, *], by simp [setF_if, *], by simp [setF_if, *], by simp [setF_if, *], by simp [setF_if, *], by simp [setF_if, *], by simp [setF_if, *], by simp [upd_if, *], by simp [upd_if, joinT, *], (fin.out _ _ H1 hq1.out (.inr rfl) (fun _ _ _ => rfl)).1, ?_, (fin.out _ (2) _ hq1.out (.inr rfl) (fun x h1 h2 => by simp [upd_if, show ¬ x = 2 by omega, show ¬ x = m + 10 by omega])).2, ?_, ?_, by rw [List.length_append]; exact bq1 hlen.out, fun h => by simp at h⟩
          · intro r hr
            rcases List.mem_append.mp hr with hr | hr
            · exact hfit.out r hr
            · rw [List.mem_singleton.mp hr]; rfl
          · exact List.nodup_append.mpr ⟨hnd.out, hn1.out, fun x hx y hy e => hSd.out x hx (e ▸ hy)⟩
          · intro x hx
            rcases List.mem_append.mp hx with hx | hx
            · exact ⟨(hS4.out x hx).1, by have := (hS4.out x hx).2; omega⟩
            · exact ⟨(hS3.out x hx).1, by have := (hS3.out x hx).2; omega⟩
        · skip
          obtain ⟨q, tg, e1, e2, hq1, hq2⟩ := hq.out
          cases e1
          clear hq2 e2
          replace hq1 := Hid.mk hq1
          refine AX ?_
          refine ⟨r.length - (j + 1), by omega, j + 1, e + 1, joinT t' (1), rows ++ [[PV.i .i64 k, PV.sl []]], S ++ s1, by omega, by omega, by simp [setF_if, *], by simp [setF_if, *], by simp [setF_if, *], by simp [setF_if, *], by simp [setF_if, *], by simp [setF_if, *], by simp [setF_if, *], by simp [setF_if, *], by simp [setF_if, *], by simp [setF_if, *], by simp [upd_if, *], by simp [upd_if, joinT, *], (fin.out _ _ H1 hq1.out (.inl rfl) (fun _ _ _ => rfl)).1, ?_, (fin.out _ (1) _ hq1.out (.inl rfl) (fun x h1 h2 => by simp [upd_if, show ¬ x = 2 by omega, show ¬ x = m + 10 by omega])).2, ?_, ?_, by rw [List.length_append]; exact bq1 hlen.out, fun h => by simp at h⟩
          · intro r hr
            rcases List.mem_append.mp hr with hr | hr
            · exact hfit.out r hr
            · rw [List.mem_singleton.mp hr]; rfl
          · exact List.nodup_append.mpr ⟨hnd.out, hn1.out, fun x hx y hy e => hSd.out x hx (e ▸ hy)⟩
          · intro x hx
            rcases List.mem_append.mp hx with hx | hx
            · exact ⟨(hS4.out x hx).1, by have := (hS4.out x hx).2; omega⟩
            · exact ⟨(hS3.out x hx).1, by have := (hS3.out x hx).2; omega⟩
        · skip
          obtain ⟨q, tg, e1, e2, hq1, hq2⟩ := hq.out
          cases e1
          clear hq2 e2
          replace hq1 := Hid.mk hq1
          refine AX ?_
          refine ⟨r.length - (j + 1), by omega, j + 1, e + 1, joinT t' (joinT 1 (joinT t 1)), rows ++ [[PV.i .i64 k, PV.sl []]], S ++ s1, by omega, by omega, by simp [setF_if, *], by simp [setF_if, *], by simp [setF_if, *], by simp [setF_if, *], by simp [setF_if, *], by simp [setF_if, *], by simp [setF_if, *], by simp [setF_if, *], by simp [setF_if, *], by simp [setF_if, *], by simp [upd_if, *], by simp [upd_if, joinT, *] <;> (by_cases g1 : t = 1 <;> by_cases g2 : t = 2 <;> by_cases g0 : t = 0 <;> simp [*] <;> omega), (fin.out _ _ H1 hq1.out (.inl rfl) (fun _ _ _ => rfl)).1, ?_, (fin.out _ (joinT 1 (joinT t 1)) _ hq1.out (.inl rfl) (fun x h1 h2 => by simp [upd_if, show ¬ x = 2 by omega, show ¬ x = m + 10 by omega])).2, ?_, ?_, by rw [List.length_append]; exact bq1 hlen.out, fun h => by simp at h⟩
          · intro r hr
            rcases List.mem_append.mp hr with hr | hr
            · exact hfit.out r hr
            · rw [List.mem_singleton.mp hr]; rfl
          · exact List.nodup_append.mpr ⟨hnd.out, hn1.out, fun x hx y hy e => hSd.out x hx (e ▸ hy)⟩
          · intro x hx
            rcases List.mem_append.mp hx with hx | hx
            · exact ⟨(hS4.out x hx).1, by have := (hS4.out x hx).2; omega⟩
            · exact ⟨(hS3.out x hx).1, by have := (hS3.out x hx).2; omega⟩
    · have ej : j = r.length := by omega
      have hown2 := hown.out
      rw [ej, List.take_length] at hown2
      have e2 : (fs.take (i + 1)).flatMap (rowA r k) = (fs.take i).flatMap (rowA r k) ++ r.filterMap (fun c => gM r k f (offA f c).1 (offA f c).2) := hfm.out
      rw [← e2] at hown2
      clear e2
      replace hown2 := Hid.mk hown2
      refine AL ?_
      exact ⟨fs.length - (i + 1), by omega, i + 1, e, t', rows, S, by omega, by omega, by simp [setF_if, *], by simp [setF_if, *], by simp [setF_if, *], by simp [setF_if, *], by simp [setF_if, *], by simp [setF_if, *], hH0, hH2, htag.out, hfit.out, hown2.out, hnd.out, fun o ho => ⟨(hlt.out o ho).1, by have := (hlt.out o ho).2; omega⟩, bq2 hlen.out (by omega), hnil.out⟩
  · have ei : i = fs.length := by omega
    rw [ei, List.take_length] at hown
    have hb9 : rows.length < 1000000000 := bq4 hlen (ei ▸ hf1)
    have h2S : 2 ∉ S := fun h => by have := (hlt 2 h).1; omega
    by_cases hne : rows = []
    · subst hne
      obtain ⟨e1, rfl⟩ := hown
      have hL0 : listA r k fs = [] := List.map_eq_nil_iff.mp e1
      rw [hL0]
      clear hcel hdup e1
      refine AL ?_
      refine CI ?_
      refine WC_given (hA.out.c4 _ _ _ _ (.tup []) H _ ⟨rfl, rfl, rfl, rfl, _, 2, e, _, 2, t', rfl, hH2⟩) ?_
      refine AL ?_
      exact ⟨[2], ownX_sl (tagOk_own hH2 ⟨by simp [orderP, places], rfl⟩ htag (by simp) hfit hnil), by simp⟩
    · obtain ⟨rows', S', hcall, g1, g2, g3, g4, g5⟩ := sortPl (L := listA r k fs) hA.out.c3 hH2 hown h2S hne hb9 hcel.out hdup.out htag hfit
      have h2S' : 2 ∉ S' := fun h => h2S (g2.mem_iff.mp h)
      have hndS := g2.nodup_iff.mpr hnd
      replace htag := Hid.mk htag
      replace hfit := Hid.mk hfit
      replace hown := Hid.mk hown
      replace hnd := Hid.mk hnd
      replace hlt := Hid.mk hlt
      replace hnil := Hid.mk hnil
      replace g1 := Hid.mk g1
      replace g2 := Hid.mk g2
      replace g4 := Hid.mk g4
      replace g5 := Hid.mk g5
      replace hcall := Hid.mk hcall
      replace hndS := Hid.mk hndS
      refine AL ?_
      refine CI ?_
      refine WC_given (hcall.out _) ?_
      refine AL ?_
      exact ⟨2 :: S', ownX_sl (tagOk_own (by simp [upd_if]; rfl) (ownRs_congr (fun o ho => by rw [upd_if, if_neg (by rintro rfl; exact h2S' ho)]) g1.out) g4.out (ownRs_ns g1.out (places_ns _)) g5.out (fun h => absurd h g3)), List.nodup_cons.mpr ⟨h2S', hndS.out⟩⟩
end Go.Proofs
end
section
open Go Go.Big
namespace Go.Proofs
set_option maxHeartbeats 2000000
theorem insP_at {x : Int × List Int} : ∀ {l : List (Int × List Int)} {i : Nat}, i ≤ l.length → (∀ k (h : k < l.length), k < i → cmpP l[k] x < 0) → (∀ h : i < l.length, ¬ cmpP l[i] x < 0) → insP x l = l.take i ++ x :: l.drop i
  | [], i, hi, _, _ => by
    obtain rfl : i = 0 := by simpa using hi
    rfl
  | y :: l, 0, _, _, h => by
    have := h (by simp)
    simp only [List.getElem_cons_zero] at this
    unfold insP
    rw [if_neg this]; rfl
  | y :: l, i + 1, hi, h1, h2 => by
    have h0 := h1 0 (by simp) (by omega)
    simp only [List.getElem_cons_zero] at h0
    unfold insP
    rw [if_pos h0, insP_at (i := i) (by simpa using hi) (fun k hk hki => by have := h1 (k + 1) (by simpa using hk) (by omega); simpa using this) (fun h => by have := h2 (by simpa using h); simpa using this)]
    simp
theorem l12Insert_wc (G : Gv) (l : List (Int × List Int)) (x : Int × List Int) (o e : Nat) (H : Heap) (n : Nat) (ho : o < n) (hH : H o = some (.arr e 110 2 (places l) 1)) (hl : l.length < 1000000000) (hlc : ∀ y ∈ l, y.2.length < 1000000000) (hx : x.2.length < 1000000000) :
    WC Tryz.prog G 202 [.own o e, placA 1 x] H n (fun r H' n' => n ≤ n' ∧ ∃ o' e', r = .own o' e' ∧ o' < n' ∧ H' o' = some (.arr e' 110 2 (places (insP x l)) 1) ∧ ∀ k, k < n → H' k = H k) := by
  refine (.body Tryz.func202 rfl (by simp [Tryz.ntmps202]) ?_)
  rw [Tryz.ntmps202, Tryz.results202]
  have hlen := places_len l
  have hno : ¬ (o = n) := by omega
  replace hlc := Hid.mk hlc
  refine AL ?_
  refine .loop (.inv (fun d E H' n' => ∃ i : Nat, i + d = l.length ∧ n < n' ∧ E 0 = .own o e ∧ E 3 = .ptr n 0 0 0 ∧ E 5 = .i .i64 i ∧ H' = H.upd n (.box 110 [.i .i64 x.1, .sl 1 (ints x.2)]) ∧ (∀ k (h : k < l.length), k < i → cmpP l[k] x < 0)) l.length ?_ ?_)
  · exact ⟨0, by omega, by omega, by simp [setF_if, argE], by simp [setF_if, argE], by simp [setF_if, argE], rfl, fun k _ hk => by omega⟩
  rintro d E H' n' ⟨i, hi, hn, h0, h3, h5, rfl, hlo⟩
  replace hlo := Hid.mk hlo
  by_cases c : (i : Int) < l.length
  · have hw_i : IntKind.i64.wrap ((i : Int) + 1) = (i : Int) + 1 := wr64 (by omega) (by omega)
    have hil : i < l.length := by omega
    have hrow : (places l)[i]? = some (placR (l[i]'hil)) := places_at (List.getElem?_eq_getElem hil)
    have hyl := hlc.out _ (List.getElem_mem hil)
    have hnext : cmpP (l[i]'hil) x < 0 → ∀ k (h : k < l.length), k < i + 1 → cmpP l[k] x < 0 := fun h k hk hki => by
      by_cases q : k = i
      · subst q; exact h
      · exact hlo.out k hk (by omega)
    obtain ⟨y, hy⟩ : ∃ y, l[i]'hil = y := ⟨_, rfl⟩
    rw [hy] at hrow hyl hnext
    replace hy := Hid.mk hy
    replace hnext := Hid.mk hnext
    obtain ⟨yk, ys⟩ := y
    obtain ⟨xk, xs⟩ := x
    simp only at hyl
    by_cases cy : cmpP (yk, ys) (xk, xs) < 0
    · refine AL ?_
      refine CQ (specComparePl_fn G (yk, ys) (xk, xs) hyl hx) ?_
      refine AL ?_
      exact ⟨l.length - (i + 1), by omega, i + 1, by omega, by omega, by simp [setF_if, *], by simp [setF_if, *], by simp [setF_if, *], by first | rfl | trivial, hnext.out cy⟩
    · have heq := insP_at (x := (xk, xs)) (l := l) (i := i) (by omega) hlo.out (fun h => by rw [hy.out]; exact cy)
      replace heq := Hid.mk heq
      refine AL ?_
      refine CQ (specComparePl_fn G (yk, ys) (xk, xs) hyl hx) ?_
      refine AX ?_
      have hle : i ≤ l.length := by omega
      have hzi : 0 ≤ i := by omega
      have hs0 : i - 0 = i := rfl
      have hdr : (places l).drop 0 = places l := rfl
      have htk : (places l).take i = places (l.take i) := by simp [places, List.map_take]
      have htd : ((places l).drop i).take (l.length - i) = places (l.drop i) := by unfold places; rw [← List.map_drop, List.take_of_length_le (by simp)]
      have hl1 : (places (l.take i)).length = i := by rw [places_len, List.length_take]; omega
      have hl2 : (places (l.drop i)).length = l.length - i := by rw [places_len, List.length_drop]
      have hb1 : i * 32 ≤ 140737488355328 := by omega
      have hb2 : (i + 1) * 32 ≤ 140737488355328 := by omega
      have hb3 : (i + 1 + (l.length - i)) * 32 ≤ 140737488355328 := by omega
      have hfit1 : decide (∀ r ∈ places (l.take i), r.length = 2) = true := decide_eq_true fun r hr => by obtain ⟨y, _, rfl⟩ := List.mem_map.mp hr; rfl
      have hfit2 : decide (∀ r ∈ places (l.drop i), r.length = 2) = true := decide_eq_true fun r hr => by obtain ⟨y, _, rfl⟩ := List.mem_map.mp hr; rfl
      have hl3 : (places (l.take i) ++ [[PV.i .i64 xk, PV.sl (ints xs)]]).length = i + 1 := by simp [hl1]
      have hno' : ¬ (o = n') := by omega
      have hnn' : ¬ (n = n') := by omega
      have hno6 : ¬ (o = n' + 6) := by omega
      have hnn6 : ¬ (n = n' + 6) := by omega
      have h06 : ¬ (n' = n' + 6) := by omega
      have h60 : ¬ (n' + 6 = n') := by omega
      have hnd : [n', n' + 6].Nodup := by simp
      refine FD [n', n' + 6] [(21, 0), (25, 0), (27, 1), (28, 0), (32, 0)] [(28, [1])] hnd ?_
      repeat first | refine FF ?_ | refine FS ?_
      refine FM 0 (n') ?_ (hs := by
        intro Hx hx
        exact EVM)
      repeat first | refine FF ?_ | refine FS ?_
      refine FQ ?_ (hs := by
        intro Hx hx
        have f0 : Hx (o) = _ := hx.off (by simp only [List.mem_cons, List.not_mem_nil, or_false, not_or]; omega)
        simp only [setF_if, upd_if, neAdd, neLt, ltAdd, addNe, ltNe, Nat.left_eq_add, Nat.add_eq_left, Nat.reduceEqDiff, Nat.add_assoc, Nat.reduceAdd, reduceIte, *] at f0
        exact EV)
      refine FM 0 (n') ?_ (hs := by
        intro Hx hx
        have f0 : Hx (n') = _ := hx.at hnd 0 rfl (by decide)
        simp only [setF_if, upd_if, neAdd, neLt, ltAdd, addNe, ltNe, Nat.left_eq_add, Nat.add_eq_left, Nat.reduceEqDiff, Nat.add_assoc, Nat.reduceAdd, reduceIte, *] at f0
        have f1 : Hx (o) = _ := hx.off (by simp only [List.mem_cons, List.not_mem_nil, or_false, not_or]; omega)
        simp only [setF_if, upd_if, neAdd, neLt, ltAdd, addNe, ltNe, Nat.left_eq_add, Nat.add_eq_left, Nat.reduceEqDiff, Nat.add_assoc, Nat.reduceAdd, reduceIte, *] at f1
        exact EVM)
      refine FQ ?_ (hs := by
        intro Hx hx
        have f0 : Hx (n) = _ := hx.off (by simp only [List.mem_cons, List.not_mem_nil, or_false, not_or]; omega)
        simp only [setF_if, upd_if, neAdd, neLt, ltAdd, addNe, ltNe, Nat.left_eq_add, Nat.add_eq_left, Nat.reduceEqDiff, Nat.add_assoc, Nat.reduceAdd, reduceIte, *] at f0
        exact EV)
      refine FM 1 (n' + 6) ?_ (hs := by
        intro Hx hx
        exact EVM)
      refine FM 0 (n') ?_ (hs := by
        intro Hx hx
        have f0 : Hx (n') = _ := hx.at hnd 0 rfl (by decide)
        simp only [setF_if, upd_if, neAdd, neLt, ltAdd, addNe, ltNe, Nat.left_eq_add, Nat.add_eq_left, Nat.reduceEqDiff, Nat.add_assoc, Nat.reduceAdd, reduceIte, *] at f0
        have f1 : Hx (n' + 6) = _ := hx.at hnd 1 rfl (by decide)
        simp only [setF_if, upd_if, neAdd, neLt, ltAdd, addNe, ltNe, Nat.left_eq_add, Nat.add_eq_left, Nat.reduceEqDiff, Nat.add_assoc, Nat.reduceAdd, reduceIte, *] at f1
        exact EVM)
      repeat first | refine FF ?_ | refine FS ?_
      refine FQ ?_ (hs := by
        intro Hx hx
        have f0 : Hx (o) = _ := hx.off (by simp only [List.mem_cons, List.not_mem_nil, or_false, not_or]; omega)
        simp only [setF_if, upd_if, neAdd, neLt, ltAdd, addNe, ltNe, Nat.left_eq_add, Nat.add_eq_left, Nat.reduceEqDiff, Nat.add_assoc, Nat.reduceAdd, reduceIte, *] at f0
        exact EV)
      refine FM 0 (n') ?_ (hs := by
        intro Hx hx
        have f0 : Hx (n') = _ := hx.at hnd 0 rfl (by decide)
        simp only [setF_if, upd_if, neAdd, neLt, ltAdd, addNe, ltNe, Nat.left_eq_add, Nat.add_eq_left, Nat.reduceEqDiff, Nat.add_assoc, Nat.reduceAdd, reduceIte, *] at f0
        have f1 : Hx (o) = _ := hx.off (by simp only [List.mem_cons, List.not_mem_nil, or_false, not_or]; omega)
        simp only [setF_if, upd_if, neAdd, neLt, ltAdd, addNe, ltNe, Nat.left_eq_add, Nat.add_eq_left, Nat.reduceEqDiff, Nat.add_assoc, Nat.reduceAdd, reduceIte, *] at f1
        exact EVM)
      repeat first | refine FF ?_ | refine FS ?_
      refine WF.nil ?_
      refine AL ?_
      refine ⟨by omega, n', 3, by simp [retA], by omega, ?_, fun k hk => ?_⟩
      · rw [heq.out]
        simp [upd_if, places]
      · simp [upd_if, show ¬ k = n' by omega, show ¬ k = n' + 6 by omega, show ¬ k = n by omega]
  · have heq := insP_at (x := x) (l := l) (i := i) (by omega) hlo.out (fun h => by omega)
    replace heq := Hid.mk heq
    obtain ⟨xk, xs⟩ := x
    refine AX ?_
    refine DR ?_
    refine AX ?_
    have hle : i ≤ l.length := by omega
    have hzi : 0 ≤ i := by omega
    have hs0 : i - 0 = i := rfl
    have hdr : (places l).drop 0 = places l := rfl
    have htk : (places l).take i = places (l.take i) := by simp [places, List.map_take]
    have htd : ((places l).drop i).take (l.length - i) = places (l.drop i) := by unfold places; rw [← List.map_drop, List.take_of_length_le (by simp)]
    have hl1 : (places (l.take i)).length = i := by rw [places_len, List.length_take]; omega
    have hl2 : (places (l.drop i)).length = l.length - i := by rw [places_len, List.length_drop]
    have hb1 : i * 32 ≤ 140737488355328 := by omega
    have hb2 : (i + 1) * 32 ≤ 140737488355328 := by omega
    have hb3 : (i + 1 + (l.length - i)) * 32 ≤ 140737488355328 := by omega
    have hfit1 : decide (∀ r ∈ places (l.take i), r.length = 2) = true := decide_eq_true fun r hr => by obtain ⟨y, _, rfl⟩ := List.mem_map.mp hr; rfl
    have hfit2 : decide (∀ r ∈ places (l.drop i), r.length = 2) = true := decide_eq_true fun r hr => by obtain ⟨y, _, rfl⟩ := List.mem_map.mp hr; rfl
    have hl3 : (places (l.take i) ++ [[PV.i .i64 xk, PV.sl (ints xs)]]).length = i + 1 := by simp [hl1]
    have hno' : ¬ (o = n') := by omega
    have hnn' : ¬ (n = n') := by omega
    have hno6 : ¬ (o = n' + 6) := by omega
    have hnn6 : ¬ (n = n' + 6) := by omega
    have h06 : ¬ (n' = n' + 6) := by omega
    have h60 : ¬ (n' + 6 = n') := by omega
    have hnd : [n', n' + 6].Nodup := by simp
    refine FD [n', n' + 6] [(21, 0), (25, 0), (27, 1), (28, 0), (32, 0)] [(28, [1])] hnd ?_
    repeat first | refine FF ?_ | refine FS ?_
    refine FM 0 (n') ?_ (hs := by
      intro Hx hx
      exact EVM)
    repeat first | refine FF ?_ | refine FS ?_
    refine FQ ?_ (hs := by
      intro Hx hx
      have f0 : Hx (o) = _ := hx.off (by simp only [List.mem_cons, List.not_mem_nil, or_false, not_or]; omega)
      simp only [setF_if, upd_if, neAdd, neLt, ltAdd, addNe, ltNe, Nat.left_eq_add, Nat.add_eq_left, Nat.reduceEqDiff, Nat.add_assoc, Nat.reduceAdd, reduceIte, *] at f0
      exact EV)
    refine FM 0 (n') ?_ (hs := by
      intro Hx hx
      have f0 : Hx (n') = _ := hx.at hnd 0 rfl (by decide)
      simp only [setF_if, upd_if, neAdd, neLt, ltAdd, addNe, ltNe, Nat.left_eq_add, Nat.add_eq_left, Nat.reduceEqDiff, Nat.add_assoc, Nat.reduceAdd, reduceIte, *] at f0
      have f1 : Hx (o) = _ := hx.off (by simp only [List.mem_cons, List.not_mem_nil, or_false, not_or]; omega)
      simp only [setF_if, upd_if, neAdd, neLt, ltAdd, addNe, ltNe, Nat.left_eq_add, Nat.add_eq_left, Nat.reduceEqDiff, Nat.add_assoc, Nat.reduceAdd, reduceIte, *] at f1
      exact EVM)
    refine FQ ?_ (hs := by
      intro Hx hx
      have f0 : Hx (n) = _ := hx.off (by simp only [List.mem_cons, List.not_mem_nil, or_false, not_or]; omega)
      simp only [setF_if, upd_if, neAdd, neLt, ltAdd, addNe, ltNe, Nat.left_eq_add, Nat.add_eq_left, Nat.reduceEqDiff, Nat.add_assoc, Nat.reduceAdd, reduceIte, *] at f0
      exact EV)
    refine FM 1 (n' + 6) ?_ (hs := by
      intro Hx hx
      exact EVM)
    refine FM 0 (n') ?_ (hs := by
      intro Hx hx
      have f0 : Hx (n') = _ := hx.at hnd 0 rfl (by decide)
      simp only [setF_if, upd_if, neAdd, neLt, ltAdd, addNe, ltNe, Nat.left_eq_add, Nat.add_eq_left, Nat.reduceEqDiff, Nat.add_assoc, Nat.reduceAdd, reduceIte, *] at f0
      have f1 : Hx (n' + 6) = _ := hx.at hnd 1 rfl (by decide)
      simp only [setF_if, upd_if, neAdd, neLt, ltAdd, addNe, ltNe, Nat.left_eq_add, Nat.add_eq_left, Nat.reduceEqDiff, Nat.add_assoc, Nat.reduceAdd, reduceIte, *] at f1
      exact EVM)
    repeat first | refine FF ?_ | refine FS ?_
    refine FQ ?_ (hs := by
      intro Hx hx
      have f0 : Hx (o) = _ := hx.off (by simp only [List.mem_cons, List.not_mem_nil, or_false, not_or]; omega)
      simp only [setF_if, upd_if, neAdd, neLt, ltAdd, addNe, ltNe, Nat.left_eq_add, Nat.add_eq_left, Nat.reduceEqDiff, Nat.add_assoc, Nat.reduceAdd, reduceIte, *] at f0
      exact EV)
    refine FM 0 (n') ?_ (hs := by
      intro Hx hx
      have f0 : Hx (n') = _ := hx.at hnd 0 rfl (by decide)
      simp only [setF_if, upd_if, neAdd, neLt, ltAdd, addNe, ltNe, Nat.left_eq_add, Nat.add_eq_left, Nat.reduceEqDiff, Nat.add_assoc, Nat.reduceAdd, reduceIte, *] at f0
      have f1 : Hx (o) = _ := hx.off (by simp only [List.mem_cons, List.not_mem_nil, or_false, not_or]; omega)
      simp only [setF_if, upd_if, neAdd, neLt, ltAdd, addNe, ltNe, Nat.left_eq_add, Nat.add_eq_left, Nat.reduceEqDiff, Nat.add_assoc, Nat.reduceAdd, reduceIte, *] at f1
      exact EVM)
    repeat first | refine FF ?_ | refine FS ?_
    refine WF.nil ?_
    refine AL ?_
    refine ⟨by omega, n', 3, by simp [retA], by omega, ?_, fun k hk => ?_⟩
    · rw [heq.out]
      simp [upd_if, places]
    · simp [upd_if, show ¬ k = n' by omega, show ¬ k = n' + 6 by omega, show ¬ k = n by omega]
end Go.Proofs
end
section
open Go Go.Big
namespace Go.Proofs
set_option maxHeartbeats 2000000
theorem insP_mem {x y : Int × List Int} : ∀ {l : List (Int × List Int)}, y ∈ insP x l → y = x ∨ y ∈ l
  | [], h => by simpa [insP] using h
  | z :: l, h => by
    unfold insP at h
    split at h
    · rcases List.mem_cons.mp h with rfl | h
      · exact .inr List.mem_cons_self
      · exact (insP_mem h).imp id (List.mem_cons_of_mem _)
    · rcases List.mem_cons.mp h with rfl | h
      · exact .inl rfl
      · exact .inr h
theorem insP_length (x : Int × List Int) : ∀ (l : List (Int × List Int)), (insP x l).length = l.length + 1
  | [] => rfl
  | y :: l => by
    unfold insP
    split
    · simp [insP_length x l]
    · simp
theorem bnd0 {a i : Nat} (h : a ≤ i * 1000000) : a ≤ i * 1000000 + 0 * 1000 := by rw [Nat.zero_mul, Nat.add_zero]; exact h
theorem bnd0' {a i y : Nat} (h : a ≤ i * 1000000 + y * 1000) : a ≤ i * 1000000 + y * 1000 + 0 := by rw [Nat.add_zero]; exact h
theorem bnd1 {a i y x : Nat} (h : a ≤ i * 1000000 + y * 1000 + x) : a ≤ i * 1000000 + y * 1000 + (x + 1) := by omega
theorem bnd1' {a i y x : Nat} (h : a ≤ i * 1000000 + y * 1000 + x) : a + 1 ≤ i * 1000000 + y * 1000 + (x + 1) := by omega
theorem bnd2 {a i y w : Nat} (h : a ≤ i * 1000000 + y * 1000 + w) (hw : w ≤ 1000) : a ≤ i * 1000000 + (y + 1) * 1000 := by
  refine Nat.le_trans h ?_
  rw [Nat.add_mul, Nat.one_mul, Nat.add_assoc]
  exact Nat.add_le_add_left (Nat.add_le_add_left hw _) _
theorem bnd3 {a i w : Nat} (h : a ≤ i * 1000000 + w * 1000) (hw : w ≤ 1000) : a ≤ (i + 1) * 1000000 := by omega
theorem range_foldl {β : Type} (f : β → Nat → β) (z : β) (n : Nat) : (List.range (n + 1)).foldl f z = f ((List.range n).foldl f z) n := by
  rw [List.range_succ, List.foldl_append]; rfl
theorem l12Of_fn (G : Gv) (r : Shape) (l : List PieceM) (k : Nat) (p : PieceM) (hp : l[k]? = some p) (hp0 : 0 < p.cs.length) (hpl : p.cs.length < 1000000) (hr1 : 1 ≤ r.length) (hr : r.length < 1000000000) (hl : l.length < 1000000000) (hw : (sizeM r).1 ≤ 1000 ∧ (sizeM r).2 ≤ 1000) :
    Gives Tryz.prog G 144 [.ag [.sl 0 (cells r), .sl 0 (pieces l)], .i .i64 k] (.sl 1 (places (listB r k (formsP p)))) := by
  refine .of (.body Tryz.func144 rfl (by simp [Tryz.ntmps144]) ?_)
  rw [Tryz.ntmps144, Tryz.results144]
  have hrow := pieces_at hp
  obtain ⟨hf1, hf2⟩ := formsP_ok p
  have hk : k < l.length := (List.getElem?_eq_some_iff.mp hp).1
  have hlenf := shapesR_len (formsP p)
  replace hp := Hid.mk hp
  refine AL ?_
  refine CV (l11Forms_fn G p hp0 (by omega)) ?_
  refine AL ?_
  refine CV (l04Size_fn G r (by omega) hr) ?_
  unfold listB
  have hfl : ∀ f ∈ formsP p, f.length < 1000000 := fun f hf => by rw [hf2 f hf]; exact hpl
  generalize formsP p = fs at hf1 hf2 hlenf hfl
  obtain ⟨hw1, hw2⟩ := hw
  generalize (sizeM r).1 = wide at hw1
  generalize (sizeM r).2 = high at hw2
  generalize hwN : wide.toNat = wN
  generalize hhN : high.toNat = hN
  have hwN9 : wN ≤ 1000 := by omega
  have hhN9 : hN ≤ 1000 := by omega
  replace hfl := Hid.mk hfl
  replace hf2 := Hid.mk hf2
  clear hrow
  refine AL ?_
  refine .loop (.inv (fun d E H n' => ∃ (i : Nat) (out : List (Int × List Int)) (o e : Nat), i + d = fs.length ∧ 0 < n' ∧ o < n' ∧ E 1 = .i .i64 k ∧ E 2 = .ptr 0 0 0 0 ∧ E 5 = .own o e ∧ E 6 = .sl 1 (shapesR fs) ∧ E 7 = .i .i64 wide ∧ E 8 = .i .i64 high ∧ E 9 = .i .i64 i ∧ H 0 = some (.box 35 [.sl 0 (cells r), .sl 0 (pieces l)]) ∧ H o = some (.arr e 110 2 (places out) 1) ∧
      out = (fs.take i).foldl (formB r k wN hN) [] ∧ out.length ≤ i * 1000000 ∧ ∀ z ∈ out, z.2.length < 1000000) fs.length ?_ ?_)
  · exact ⟨0, [], 2, 0, by omega, by omega, by omega, by simp [setF_if, argE], by simp [setF_if, argE], by simp [setF_if, argE], by simp [setF_if, argE], by simp [setF_if, argE], by simp [setF_if, argE], by simp [setF_if, argE], by simp [upd_if], by simp [upd_if, places], rfl, by simp, by simp⟩
  rintro d E H n' ⟨i, out, o, e, hi, hn, hon, h1, h2, h5, h6, h7, h8, h9, hH0, hHo, hout, hlen, hmem⟩
  by_cases c : (i : Int) < fs.length
  · have hw_i : IntKind.i64.wrap ((i : Int) + 1) = (i : Int) + 1 := wr64 (by omega) (by omega)
    have hfi : i < fs.length := by omega
    have hfs := foldl_take (f := formB r k wN hN) (z := []) (List.getElem?_eq_getElem hfi)
    rw [← hout] at hfs
    have hrf := shapesR_at (ls := fs) (i := i) hfi
    rw [show fs.getD i [] = fs[i]'hfi by rw [List.getD_eq_getElem?_getD, List.getElem?_eq_getElem hfi]; rfl] at hrf
    have hff := hfl.out _ (List.getElem_mem hfi)
    generalize fs[i]'hfi = f at hfs hrf hff
    replace hfs := Hid.mk hfs
    replace hmem := Hid.mk hmem
    replace hlen := Hid.mk hlen
    replace hout := Hid.mk hout
    refine AL ?_
    refine .loop (.inv (fun d2 E H n' => ∃ (y : Nat) (out2 : List (Int × List Int)) (o e : Nat), y + d2 = hN ∧ 0 < n' ∧ o < n' ∧ E 1 = .i .i64 k ∧ E 2 = .ptr 0 0 0 0 ∧ E 5 = .own o e ∧ E 6 = .sl 1 (shapesR fs) ∧ E 7 = .i .i64 wide ∧ E 8 = .i .i64 high ∧ E 9 = .i .i64 i ∧ E 10 = .i .i64 y ∧ H 0 = some (.box 35 [.sl 0 (cells r), .sl 0 (pieces l)]) ∧ H o = some (.arr e 110 2 (places out2) 1) ∧
        out2 = (List.range y).foldl (rowB r k f wN) out ∧ out2.length ≤ i * 1000000 + y * 1000 ∧ ∀ z ∈ out2, z.2.length < 1000000) hN ?_ ?_)
    · exact ⟨0, out, o, e, by omega, by omega, by omega, by simp [setF_if, *], by simp [setF_if, *], by simp [setF_if, *], by simp [setF_if, *], by simp [setF_if, *], by simp [setF_if, *], by simp [setF_if, *], by simp [setF_if, *], by first | exact hH0 | simp [*], by first | exact hHo | simp [*], rfl, bnd0 hlen.out, hmem.out⟩
    clear h1 h2 h5 h6 h7 h8 h9 hH0 hHo hn hon
    rintro d2 E H n' ⟨y, out2, o, e, hy, hn, hon, h1, h2, h5, h6, h7, h8, h9, h10, hH0, hHo, hout2, hlen2, hmem2⟩
    by_cases cy : (y : Int) < high
    · have hw_y : IntKind.i64.wrap ((y : Int) + 1) = (y : Int) + 1 := wr64 (by omega) (by omega)
      have hyN : y < hN := by omega
      have hrs := range_foldl (rowB r k f wN) out y
      rw [← hout2] at hrs
      replace hrs := Hid.mk hrs
      replace hmem2 := Hid.mk hmem2
      replace hlen2 := Hid.mk hlen2
      replace hout2 := Hid.mk hout2
      refine AL ?_
      refine .loop (.inv (fun d3 E H n' => ∃ (x : Nat) (out3 : List (Int × List Int)) (o e : Nat), x + d3 = wN ∧ 0 < n' ∧ o < n' ∧ E 1 = .i .i64 k ∧ E 2 = .ptr 0 0 0 0 ∧ E 5 = .own o e ∧ E 6 = .sl 1 (shapesR fs) ∧ E 7 = .i .i64 wide ∧ E 8 = .i .i64 high ∧ E 9 = .i .i64 i ∧ E 10 = .i .i64 y ∧ E 11 = .i .i64 x ∧ H 0 = some (.box 35 [.sl 0 (cells r), .sl 0 (pieces l)]) ∧ H o = some (.arr e 110 2 (places out3) 1) ∧
          out3 = (List.range x).foldl (stepB r k f y) out2 ∧ out3.length ≤ i * 1000000 + y * 1000 + x ∧ ∀ z ∈ out3, z.2.length < 1000000) wN ?_ ?_)
      · exact ⟨0, out2, o, e, by omega, by omega, by omega, by simp [setF_if, *], by simp [setF_if, *], by simp [setF_if, *], by simp [setF_if, *], by simp [setF_if, *], by simp [setF_if, *], by simp [setF_if, *], by simp [setF_if, *], by simp [setF_if, *], by first | exact hH0 | simp [*], by first | exact hHo | simp [*], rfl, bnd0' hlen2.out, hmem2.out⟩
      clear h1 h2 h5 h6 h7 h8 h9 h10 hH0 hHo hn hon
      rintro d3 E H n' ⟨x, out3, o, e, hx, hn, hon, h1, h2, h5, h6, h7, h8, h9, h10, h11, hH0, hHo, hout3, hlen3, hmem3⟩
      by_cases cx : (x : Int) < wide
      · have hw_x : IntKind.i64.wrap ((x : Int) + 1) = (x : Int) + 1 := wr64 (by omega) (by omega)
        have hxN : x < wN := by omega
        have hss := range_foldl (stepB r k f y) out2 x
        rw [← hout3] at hss
        have hset := l10Set_fn G r (movedM f x y) hr (by rw [movedM_len]; omega)
        have hsl : ∀ s, setM r (movedM f x y) = some s → s.length < 1000000 := fun s hs => by rw [setM_len hs, movedM_len]; exact hff
        have hst : stepB r k f y out3 x = match setM r (movedM f x y) with | some s => insP ((k : Int), s) out3 | none => out3 := by
          unfold stepB gM
          cases setM r (movedM f x y) <;> rfl
        rw [hst] at hss
        have hl9 : out3.length < 1000000000 := by omega
        replace hmem3 := Hid.mk hmem3
        replace hlen3 := Hid.mk hlen3
        replace hout3 := Hid.mk hout3
        clear hst
        cases hsm : setM r (movedM f x y) with
        | none =>
          rw [hsm] at hset hss
          simp only [setA] at hset hss
          replace hset := Hid.mk hset
          replace hss := Hid.mk hss
          clear hsm hsl
          refine AL ?_
          refine CQ (l02Move_fn G f x y (by omega)) ?_
          refine AL ?_
          refine CQ hset.out ?_
          refine AL ?_
          exact ⟨wN - (x + 1), by omega, x + 1, out3, o, e, by omega, by omega, by omega, by simp [setF_if, *], by simp [setF_if, *], by simp [setF_if, *], by simp [setF_if, *], by simp [setF_if, *], by simp [setF_if, *], by simp [setF_if, *], by simp [setF_if, *], by simp [setF_if, *], by first | exact hH02 | exact hH0 | simp [*], by first | exact hHo2 | exact hHo | simp [*], hss.out.symm, bnd1 hlen3.out, hmem3.out⟩
        | some s =>
          have hsl2 := hsl s hsm
          rw [hsm] at hset hss
          simp only [setA] at hset hss
          replace hset := Hid.mk hset
          replace hss := Hid.mk hss
          clear hsm hsl
          refine AL ?_
          refine CQ (l02Move_fn G f x y (by omega)) ?_
          refine AL ?_
          refine CQ hset.out ?_
          refine AL ?_
          refine CI ?_
          refine (l12Insert_wc G out3 ((k : Int), s) o e H _ (by omega) hHo hl9 (fun z hz => by have := hmem3.out z hz; omega) (by simp only; omega)).mono ?_
          rintro _ H2 n2 ⟨hn2, o2, e2, rfl, ho2, hHo2, hfr⟩
          have hH02 := (hfr 0 (by omega)).trans hH0
          clear hfr hHo hH0
          refine AL ?_
          exact ⟨wN - (x + 1), by omega, x + 1, insP ((k : Int), s) out3, o2, e2, by omega, by omega, by omega, by simp [setF_if, *], by simp [setF_if, *], by simp [setF_if, *], by simp [setF_if, *], by simp [setF_if, *], by simp [setF_if, *], by simp [setF_if, *], by simp [setF_if, *], by simp [setF_if, *], by first | exact hH02 | exact hH0 | simp [*], by first | exact hHo2 | exact hHo | simp [*], hss.out.symm, by rw [insP_length]; exact bnd1' hlen3.out, fun z hz => by
            rcases insP_mem hz with rfl | hz
            · exact hsl2
            · exact hmem3.out z hz⟩
      · have ex : x = wN := by omega
        rw [ex] at hout3 hlen3
        have hro : rowB r k f wN out2 y = out3 := hout3.symm
        have hrs' := hrs.out
        rw [hro] at hrs'
        replace hrs' := Hid.mk hrs'
        replace hlen3 := Hid.mk hlen3
        replace hmem3 := Hid.mk hmem3
        clear hro hout3 hx ex
        refine AL ?_
        exact ⟨hN - (y + 1), by omega, y + 1, out3, o, e, by omega, by omega, by omega, by simp [setF_if, *], by simp [setF_if, *], by simp [setF_if, *], by simp [setF_if, *], by simp [setF_if, *], by simp [setF_if, *], by simp [setF_if, *], by simp [setF_if, *], by first | exact hH0 | simp [*], by first | exact hHo | simp [*], hrs'.out.symm, bnd2 hlen3.out hwN9, hmem3.out⟩
    · have ey : y = hN := by omega
      rw [ey] at hout2 hlen2
      have hfo : formB r k wN hN out f = out2 := hout2.symm
      have hfs' := hfs.out
      rw [hfo] at hfs'
      replace hfs' := Hid.mk hfs'
      replace hlen2 := Hid.mk hlen2
      replace hmem2 := Hid.mk hmem2
      clear hfo hout2 hy ey
      refine AL ?_
      exact ⟨fs.length - (i + 1), by omega, i + 1, out2, o, e, by omega, by omega, by omega, by simp [setF_if, *], by simp [setF_if, *], by simp [setF_if, *], by simp [setF_if, *], by simp [setF_if, *], by simp [setF_if, *], by simp [setF_if, *], by first | exact hH0 | simp [*], by first | exact hHo | simp [*], hfs'.out.symm, bnd3 hlen2.out hhN9, hmem2.out⟩
  · have ei : i = fs.length := by omega
    rw [ei, List.take_length] at hout
    subst hout
    refine AL ?_
    simp [retA, backA, newSl, newB, setF_if, h5, hHo]
end Go.Proofs
end
section
open Go Go.Big
namespace Go.Proofs
set_option maxHeartbeats 2000000
/-- What is known of a puzzle that both programs take. -/
theorem puzzle_facts {r : Shape} {l : List PieceM} (h : puzzleS r l = true) : (r.Pairwise fun a b => lessC a.1 a.2 b.1 b.2 = true) ∧ 1 ≤ r.length ∧ r.length ≤ 40 ∧ 1 ≤ l.length ∧ l.length ≤ 12 ∧ ((sizeM r).1 ≤ 20 ∧ (sizeM r).2 ≤ 20) ∧ ∀ p ∈ l, 0 < p.cs.length ∧ p.cs.length ≤ 40 := by
  obtain ⟨h1, h2, h3⟩ := puzzle_parts h
  obtain ⟨g1, g2, g3⟩ := puzzleS_ok h
  have hs : shapeM r = true := by unfold regionS at h1; simp only [Bool.and_eq_true] at h1; exact h1.1
  obtain ⟨k1, _, k2, k3⟩ := shapeM_spec hs
  have hb := boxed_of h1
  refine ⟨k1, k2, k3, g2, h2, hb.wide20, fun p hp => ⟨g3 p hp, ?_⟩⟩
  have := h3 p hp
  unfold pieceS regionS at this
  simp only [Bool.and_eq_true] at this
  exact (shapeM_spec this.1.1.1).2.2.2
def inM (k : Int) (n : Nat) : Bool := decide (k ≥ 0) && decide (k ≤ (n : Int) - 1)
def pofS (r : Shape) (l : List PieceM) (k : Int) : List (Int × List Int) × Int := if puzzleS r l then (if inM k l.length then (listB r k (formsP (l.getD k.toNat pc0)), 0) else ([], 2)) else ([], 1)
def pofI (r : Shape) (l : List PieceM) (k : Int) : List (Int × List Int) × Int := if puzzleI r l then (if inM k l.length then (orderP (listA r k (formsI (l.getD k.toNat pc0))), 0) else ([], 2)) else ([], 1)
theorem places_nil : places [] = [] := rfl
theorem ownX_kt {z : AV} {a : AV} {H : Heap} {S : List Nat} {k : IntKind} {n : Int} (h : ownX H z a S) : ownX H (.tup [z, .i k n]) (.tup [a, .i k n]) S := by
  have := ownX_mkT h (ownX_mki (H := H) (k := k) (n := n))
  rwa [List.append_nil] at this
end Go.Proofs
end
