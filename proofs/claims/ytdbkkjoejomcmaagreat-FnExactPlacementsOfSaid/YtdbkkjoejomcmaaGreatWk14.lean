/- Walks: All placements of a piece: the one program; what it makes is the caller's. No condition. | A placement put into a list in order: the other program. No condition. -/
import Derived.Test.YtdbkkjoejomcmaaGreatBO
import Derived.Test.YtdbkkjoejomcmaaGreatWk10
import Derived.Test.YtdbkkjoejomcmaaGreatWk11
import Derived.Test.YtdbkkjoejomcmaaGreatWk7
import Derived.Test.YtdbkkjoejomcmaaGreatWk12
import Derived.Test.YtdbkkjoejomcmaaGreatWk13
import Derived.Test.YtdbkkjoejomcmaaGreatBC
import Derived.Test.YtdbkkjoejomcmaaGreatWk9
import Derived.Test.YtdbkkjoejomcmaaGreatWk8
set_option linter.unusedVariables false
set_option linter.unusedSimpArgs false
section
open Go Go.Big
namespace Go.Proofs
set_option maxHeartbeats 2000000
theorem rowA_take {r : Shape} {k : Int} {f : Shape} {j : Nat} {c : Int × Int} (h : r[j]? = some c) : (r.take (j + 1)).filterMap (fun c => gM r k f (offA f c).1 (offA f c).2) = (r.take j).filterMap (fun c => gM r k f (offA f c).1 (offA f c).2) ++ (match gM r k f (offA f c).1 (offA f c).2 with | some t => [t] | none => []) := by
  obtain ⟨hj, rfl⟩ := List.getElem?_eq_some_iff.mp h
  rw [List.take_succ_eq_append_getElem hj, List.filterMap_append]
  congr 1
  cases q : gM r k f (offA f r[j]).1 (offA f r[j]).2 with
  | none => rw [List.filterMap_cons_none (f := fun c => gM r k f (offA f c).1 (offA f c).2) q]; rfl
  | some t => rw [List.filterMap_cons_some (f := fun c => gM r k f (offA f c).1 (offA f c).2) q]; rfl
theorem tag_app {t t2 : Nat} {rows row : List (List PV)} (h : tagOk t rows) (hr : t2 = 2 ∨ noObs row) : tagOk (joinT t t2) (rows ++ row) := by
  rcases h with h | h
  · exact .inl ((join_2 t t2).1 h)
  · rcases hr with hr | hr
    · exact .inl ((join_2 t t2).2 hr)
    · refine .inr fun r hm p hp => ?_
      rcases List.mem_append.mp hm with hm | hm
      · exact h r hm p hp
      · exact hr r hm p hp
theorem take_flatMap {α β : Type} {f : α → List β} {l : List α} {i : Nat} {x : α} (h : l[i]? = some x) : (l.take (i + 1)).flatMap f = (l.take i).flatMap f ++ f x := by
  obtain ⟨hi, rfl⟩ := List.getElem?_eq_some_iff.mp h
  rw [List.take_succ_eq_append_getElem hi, List.flatMap_append]; simp
theorem bq1 {a x j : Nat} (h : a ≤ x + j) : a + 1 ≤ x + (j + 1) := by omega
theorem bq1' {a x j : Nat} (h : a ≤ x + j) : a ≤ x + (j + 1) := by omega
theorem bq2 {a i n : Nat} (h : a ≤ i * 1000 + n) (hn : n ≤ 1000) : a ≤ (i + 1) * 1000 := by rw [Nat.add_mul]; omega
theorem bq3 {a i j : Nat} (h : a ≤ i * 1000 + j) (hi : i < 1000) (hn : j ≤ 1000) : a < 1002000 := by have := Nat.mul_le_mul_right 1000 (Nat.le_of_lt hi); omega
theorem bq4 {a i : Nat} (h : a ≤ i * 1000) (hi : i ≤ 8) : a < 1000000000 := by omega
theorem listA_cells {r : Shape} {i : Int} {fs : List Shape} {n : Nat} (h : ∀ f ∈ fs, f.length = n) : ∀ x ∈ listA r i fs, x.2.length = n := by
  intro x hx
  unfold listA rowA at hx
  obtain ⟨f, hf, hx⟩ := List.mem_flatMap.mp hx
  obtain ⟨c, hc, hx⟩ := List.mem_filterMap.mp hx
  rw [(setM_some (gM_some hx).2).2.2.1, movedM_len]
  exact h f hf
theorem placementsOf_o (G : Gv) (hA : AllG G) (r : Shape) (l : List PieceM) (k : Nat) (p : PieceM) (hp : l[k]? = some p) (hp0 : 0 < p.cs.length) (hpl : p.cs.length < 1000000) (hrs : r.Pairwise fun a b => lessC a.1 a.2 b.1 b.2 = true) (hr : r.length ≤ 1000) (hl : l.length < 1000000000) (hdup : (listA r k (formsI p)).Nodup) :
    GivesO Tryz.prog G 79 [.ag [.sl 0 (cells r), .sl 0 (pieces l)], .i .i64 k] (.sl 1 (places (orderP (listA r k (formsI p))))) := by
  refine .of (.body Tryz.func79 rfl (by simp [Tryz.ntmps79]) ?_)
  rw [Tryz.ntmps79, Tryz.results79]
  have hrow := pieces_at hp
  obtain ⟨hf1, hf2⟩ := formsI_ok p
  have hk : k < l.length := (List.getElem?_eq_some_iff.mp hp).1
  have hlenf := shapesR_len (formsI p)
  have hlenr := cells_len r
  replace hp := Hid.mk hp
  have hcel : ∀ x ∈ listA r k (formsI p), x.2.length < 1000000000 := fun x hx => by rw [listA_cells (n := p.cs.length) hf2 x hx]; omega
  replace hcel := Hid.mk hcel
  replace hdup := Hid.mk hdup
  replace hA := Hid.mk hA
  replace hrs := Hid.mk hrs
  repeat first | refine OP ?_ | refine SK ?_ | refine OPN ?_ | refine OM ?_ | refine SM ?_ | refine OMN ?_ | refine WM.nil ?_ | refine OQ ?_ | refine SQ ?_ | refine TH ?_ | refine WR.nil ?_ | refine WQ.nil ?_ | refine W.seq ?_ | refine W.region ?_ | refine DR ?_ | refine IFT ?_ | refine IFF ?_ | refine W.skip ?_ | refine W.block ?_ | refine W.exit ?_ | refine W.ret ?_ | (simp only [tN, tR, tE, rN, rR, rE, xN, xR, xE, reduceIte]) | refine DN ?_
  refine CV (formsOf_fn G hA.out.c1 hA.out.c2 p hp0 (by omega)) ?_
  have hfl : ∀ f ∈ formsI p, 0 < f.length ∧ f.length < 1000000 := fun f hf => by rw [hf2 f hf]; exact ⟨hp0, hpl⟩
  generalize formsI p = fs at hf1 hf2 hlenf hfl hcel hdup
  replace hfl := Hid.mk hfl
  replace hf2 := Hid.mk hf2
  clear hrow
  repeat first | refine OP ?_ | refine SK ?_ | refine OPN ?_ | refine OM ?_ | refine SM ?_ | refine OMN ?_ | refine WM.nil ?_ | refine OQ ?_ | refine SQ ?_ | refine TH ?_ | refine WR.nil ?_ | refine WQ.nil ?_ | refine W.seq ?_ | refine W.region ?_ | refine DR ?_ | refine IFT ?_ | refine IFF ?_ | refine W.skip ?_ | refine W.block ?_ | refine W.exit ?_ | refine W.ret ?_ | (simp only [tN, tR, tE, rN, rR, rE, xN, xR, xE, reduceIte]) | refine DN ?_
  refine .loop (.inv (fun d E H n' => ∃ (i e t' : Nat) (rows : List (List PV)) (S : List Nat), i + d = fs.length ∧ 2 < n' ∧ E 1 = .i .i64 k ∧ E 2 = .ptr 0 0 0 0 ∧ E 5 = .own 2 e ∧ E 18 = .sl 1 (shapesR fs) ∧ E 19 = .i .i64 fs.length ∧ E 20 = .i .i64 i ∧ H 0 = some (.box 35 [.sl 0 (cells r), .sl 0 (pieces l)]) ∧ H 2 = some (.arr e 55 2 rows t') ∧
      tagOk t' rows ∧ fitR 2 rows ∧ ownRs H rows (places ((fs.take i).flatMap (rowA r k))) S ∧ S.Nodup ∧ (∀ o ∈ S, 2 < o ∧ o < n') ∧ rows.length ≤ i * 1000 ∧ (rows = [] → t' ≠ 2)) fs.length ?_ ?_)
  · exact ⟨0, 0, 1, [], [], by omega, by omega, by simp [setF_if, argE], by simp [setF_if, argE], by simp [setF_if, argE], by simp [setF_if, argE], by simp [setF_if, argE, hlenf], by simp [setF_if, argE], by simp [upd_if], by simp [upd_if], .inr (fun r hr => by simp at hr), fun r hr => by simp at hr, ⟨rfl, rfl⟩, by simp, by simp, by simp, fun _ => by decide⟩
  rintro d E H n' ⟨i, e, t', rows, S, hi, hn, h1, h2, h5, h18, h19, h20, hH0, hH2, htag, hfit, hown, hnd, hlt, hlen, hnil⟩
  by_cases c : (i : Int) < fs.length
  · have hw_i : IntKind.i64.wrap ((i : Int) + 1) = (i : Int) + 1 := wr64 (by omega) (by omega)
    have hfi : i < fs.length := by omega
    have hfm := take_flatMap (f := rowA r k) (List.getElem?_eq_getElem hfi)
    have hrf := shapesR_at (ls := fs) (i := i) hfi
    rw [show fs.getD i [] = fs[i]'hfi by rw [List.getD_eq_getElem?_getD, List.getElem?_eq_getElem hfi]; rfl] at hrf
    obtain ⟨hff0, hff⟩ := hfl.out _ (List.getElem_mem hfi)
    generalize fs[i]'hfi = f at hfm hrf hff hff0
    replace hfm := Hid.mk hfm
    replace htag := Hid.mk htag
    replace hfit := Hid.mk hfit
    replace hown := Hid.mk hown
    replace hnd := Hid.mk hnd
    replace hlt := Hid.mk hlt
    replace hlen := Hid.mk hlen
    replace hnil := Hid.mk hnil
    repeat first | refine OP ?_ | refine SK ?_ | refine OPN ?_ | refine OM ?_ | refine SM ?_ | refine OMN ?_ | refine WM.nil ?_ | refine OQ ?_ | refine SQ ?_ | refine TH ?_ | refine WR.nil ?_ | refine WQ.nil ?_ | refine W.seq ?_ | refine W.region ?_ | refine DR ?_ | refine IFT ?_ | refine IFF ?_ | refine W.skip ?_ | refine W.block ?_ | refine W.exit ?_ | refine W.ret ?_ | (simp only [tN, tR, tE, rN, rR, rE, xN, xR, xE, reduceIte]) | refine DN ?_
    refine .loop (.inv (fun d2 E H n' => ∃ (j e t' : Nat) (rows : List (List PV)) (S : List Nat), j + d2 = r.length ∧ 2 < n' ∧ E 1 = .i .i64 k ∧ E 2 = .ptr 0 0 0 0 ∧ E 5 = .own 2 e ∧ E 18 = .sl 1 (shapesR fs) ∧ E 19 = .i .i64 fs.length ∧ E 20 = .i .i64 i ∧ E 7 = .sl 1 (cells f) ∧ E 25 = .sl 0 (cells r) ∧ E 26 = .i .i64 r.length ∧ E 27 = .i .i64 j ∧ H 0 = some (.box 35 [.sl 0 (cells r), .sl 0 (pieces l)]) ∧ H 2 = some (.arr e 55 2 rows t') ∧
        tagOk t' rows ∧ fitR 2 rows ∧ ownRs H rows (places ((fs.take i).flatMap (rowA r k) ++ (r.take j).filterMap (fun c => gM r k f (offA f c).1 (offA f c).2))) S ∧ S.Nodup ∧ (∀ o ∈ S, 2 < o ∧ o < n') ∧ rows.length ≤ i * 1000 + j ∧ (rows = [] → t' ≠ 2)) r.length ?_ ?_)
    · exact ⟨0, e, t', rows, S, by omega, by omega, by simp [setF_if, *], by simp [setF_if, *], by simp [setF_if, *], by simp [setF_if, *], by simp [setF_if, *], by simp [setF_if, *], by simp [setF_if, *], by simp [setF_if, *], by simp [setF_if, *], by simp [setF_if, *], by first | exact hH0 | simp [*], by first | exact hH2 | simp [*], htag.out, hfit.out, by simpa using hown.out, hnd.out, fun o ho => ⟨(hlt.out o ho).1, by have := (hlt.out o ho).2; omega⟩, Nat.le_trans hlen.out (Nat.le_add_right _ _), hnil.out⟩
    clear h1 h2 h5 h18 h19 h20 hH0 hH2 hn
    rintro d2 E H n' ⟨j, e, t', rows, S, hj, hn, h1, h2, h5, h18, h19, h20, h7, h25, h26, h27, hH0, hH2, htag, hfit, hown, hnd, hlt, hlen, hnil⟩
    replace htag := Hid.mk htag
    replace hfit := Hid.mk hfit
    replace hown := Hid.mk hown
    replace hnd := Hid.mk hnd
    replace hlt := Hid.mk hlt
    replace hlen := Hid.mk hlen
    replace hnil := Hid.mk hnil
    by_cases cj : (j : Int) < r.length
    · have hw_j : IntKind.i64.wrap ((j : Int) + 1) = (j : Int) + 1 := wr64 (by omega) (by omega)
      have hro := cells_at (l := r) (i := j) (by omega)
      have hjr : j < r.length := by omega
      have hrt := rowA_take (r := r) (k := k) (f := f) (List.getElem?_eq_getElem hjr)
      rw [show r.getD j (0, 0) = r[j]'hjr by rw [List.getD_eq_getElem?_getD, List.getElem?_eq_getElem hjr]; rfl] at hro
      generalize r[j]'hjr = c at hro hrt
      obtain ⟨cx, cy⟩ := c
      have hset := cellsToSet_o G r (movedM f (offA f (cx, cy)).1 (offA f (cx, cy)).2) hrs.out (by omega) (by rw [movedM_len]; omega)
      have hrf0 := cells_at (l := f) (i := 0) hff0
      have hg : gM r k f (offA f (cx, cy)).1 (offA f (cx, cy)).2 = (setM r (movedM f (offA f (cx, cy)).1 (offA f (cx, cy)).2)).map fun s => ((k : Int), s) := rfl
      rw [hg] at hrt
      generalize setM r (movedM f (offA f (cx, cy)).1 (offA f (cx, cy)).2) = sm at hset hrt
      clear hg
      have hmv := moved_fn G f (offA f (cx, cy)).1 (offA f (cx, cy)).2 (by omega)
      simp only [offA] at hset hmv
      generalize f.getD 0 (0, 0) = c0 at hset hmv hrf0
      obtain ⟨fx, fy⟩ := c0
      simp only at hset hmv hrf0
      replace hrt := Hid.mk hrt
      replace hset := Hid.mk hset
      replace hmv := Hid.mk hmv
      repeat first | refine OP ?_ | refine SK ?_ | refine OPN ?_ | refine OM ?_ | refine SM ?_ | refine OMN ?_ | refine WM.nil ?_ | refine OQ ?_ | refine SQ ?_ | refine TH ?_ | refine WR.nil ?_ | refine WQ.nil ?_ | refine W.seq ?_ | refine W.region ?_ | refine IFT ?_ | refine IFF ?_ | refine W.skip ?_ | refine W.block ?_ | refine W.exit ?_ | refine W.ret ?_ | (simp only [tN, tR, tE, rN, rR, rE, xN, xR, xE, reduceIte]) | refine DN ?_
      refine DMF [136] [] 0 ?_
      repeat first | refine OP ?_ | refine SK ?_ | refine OPN ?_ | refine OM ?_ | refine SM ?_ | refine OMN ?_ | refine WM.nil ?_ | refine OQ ?_ | refine SQ ?_ | refine TH ?_ | refine WR.nil ?_ | refine WQ.nil ?_ | refine W.seq ?_ | refine W.region ?_ | refine IFT ?_ | refine IFF ?_ | refine W.skip ?_ | refine W.block ?_ | refine W.exit ?_ | refine W.ret ?_ | (simp only [tN, tR, tE, rN, rR, rE, xN, xR, xE, reduceIte]) | refine DN ?_
      refine CM hmv.out ?_
      repeat first | refine OP ?_ | refine SK ?_ | refine OPN ?_ | refine OM ?_ | refine SM ?_ | refine OMN ?_ | refine WM.nil ?_ | refine OQ ?_ | refine SQ ?_ | refine TH ?_ | refine WR.nil ?_ | refine WQ.nil ?_ | refine W.seq ?_ | refine W.region ?_ | refine IFT ?_ | refine IFF ?_ | refine W.skip ?_ | refine W.block ?_ | refine W.exit ?_ | refine W.ret ?_ | (simp only [tN, tR, tE, rN, rR, rE, xN, xR, xE, reduceIte]) | refine DN ?_
      refine CWM hset.out ?_
      intro z H1 S1 m hz hn1 hS hf hm
      have f0 := hf 0 (by omega)
      have f2 := hf 2 (by omega)
      simp only [upd_if, show ¬ (0 = n' + 3) by omega, show ¬ (2 = n' + 3) by omega, if_false, hH0, hH2] at f0 f2
      have hS3 : ∀ o ∈ S1, 2 < o ∧ o < m := fun o h => by have := hS o h; omega
      have hS4 : ∀ o ∈ S, 2 < o ∧ o < m := fun o h => by have := hlt.out o h; omega
      have hSd : ∀ o ∈ S, o ∉ S1 := fun o h1 h2 => by have := hlt.out o h1; have := hS o h2; omega
      have hf1 : ∀ o ∈ S, H1 o = H o := fun o h => by
        have h1 := (hlt.out o h).2
        rw [hf o (by omega)]; simp [upd_if, show ¬ o = n' + 3 by omega]
      clear hset hmv
      replace hS3 := Hid.mk hS3
      replace hS4 := Hid.mk hS4
      replace hSd := Hid.mk hSd
      replace hf1 := Hid.mk hf1
      replace hf := Hid.mk hf
      replace hS := Hid.mk hS
      replace hn1 := Hid.mk hn1
      have hm2 : 2 < m := by omega
      cases sm with
      | none =>
        simp only [setA] at hz
        obtain ⟨za, zb, s1, s2, rfl, rfl, hza, hzb⟩ := ownX_tup2 hz
        obtain ⟨rfl, rfl⟩ := ownX_b hzb
        clear hz hza hzb hH0 hH2
        have hrt2 := hrt.out
        simp only [Option.map_none, List.append_nil] at hrt2
        clear hrt
        replace hrt2 := Hid.mk hrt2
        repeat first | refine OP ?_ | refine SK ?_ | refine OPN ?_ | refine OM ?_ | refine SM ?_ | refine OMN ?_ | refine WM.nil ?_ | refine OQ ?_ | refine SQ ?_ | refine TH ?_ | refine WR.nil ?_ | refine WQ.nil ?_ | refine W.seq ?_ | refine W.region ?_ | refine IFT ?_ | refine IFF ?_ | refine W.skip ?_ | refine W.block ?_ | refine W.exit ?_ | refine W.ret ?_ | (simp only [tN, tR, tE, rN, rR, rE, xN, xR, xE, reduceIte]) | refine DN ?_
        exact ⟨r.length - (j + 1), by omega, j + 1, e, t', rows, S, by omega, by omega, by simp [setF_if, *], by simp [setF_if, *], by simp [setF_if, *], by simp [setF_if, *], by simp [setF_if, *], by simp [setF_if, *], by simp [setF_if, *], by simp [setF_if, *], by simp [setF_if, *], by simp [setF_if, *], f0, f2, htag.out, hfit.out, by rw [hrt2.out]; exact ownRs_congr hf1.out hown.out, hnd.out, fun o ho => ⟨(hS4.out o ho).1, by have := (hS4.out o ho).2; omega⟩, bq1' hlen.out, hnil.out⟩
      | some s =>
        simp only [setA] at hz
        obtain ⟨za, zb, s1, s2, rfl, rfl, hza, hzb⟩ := ownX_tup2 hz
        obtain ⟨rfl, rfl⟩ := ownX_b hzb
        have hrt2 := hrt.out
        simp only [Option.map_some] at hrt2
        rw [List.append_nil] at hS3 hSd hS hn1
        have hq := ownX_leaf hza (ints_scal _)
        have hcs := ownX_cases hza
        have hlen1 := bq3 hlen.out (by omega) (by omega)
        have hb : (rows.length + 1) * 32 ≤ 140737488355328 := by omega
        clear hrt hz hza hzb hH0 hH2
        replace hrt2 := Hid.mk hrt2
        replace hq := Hid.mk hq
        have fin : ∀ (q : PV) (t2 : Nat) (H2 : Heap), ownP H1 q (.sl (ints s)) s1 → (noOb q = true ∨ t2 = 2) → (∀ o, 2 < o → o < m → H2 o = H1 o) → tagOk (joinT t' t2) (rows ++ [[.i .i64 k, q]]) ∧ ownRs H2 (rows ++ [[.i .i64 k, q]]) (places ((fs.take i).flatMap (rowA r k) ++ (r.take (j + 1)).filterMap (fun c => gM r k f (offA f c).1 (offA f c).2))) (S ++ s1) := by
          intro q t2 H2 h1 h2 h3
          refine ⟨tag_store htag.out (h2.symm.imp id fun h2 r hr p hp => ?_), ?_⟩
          · obtain rfl := List.mem_singleton.mp hr
            simp only [List.mem_cons, List.not_mem_nil, or_false] at hp
            rcases hp with rfl | rfl <;> first | rfl | exact h2
          · rw [hrt2.out, ← List.append_assoc, places_app]
            refine ownRs_append (ownRs_congr (H := H) (fun o ho => ?_) hown.out) (ownRs_one (ownPs_congr (H := H1) (fun o ho => ?_) ?_))
            · rw [h3 o (hS4.out o ho).1 (hS4.out o ho).2]; exact hf1.out o ho
            · exact h3 o (hS3.out o ho).1 (hS3.out o ho).2
            · rw [← List.nil_append s1]; exact ownPs_cons (ownP_scal_mk rfl) (by rw [← List.append_nil s1]; exact ownPs_cons h1 (ownPs_scal_mk (by simp)))
        replace fin := Hid.mk fin
        rcases hcs with ⟨o, eo, ty, sz, ro, t, rfl, hHo, ho⟩ | rfl | ⟨t, rfl⟩
        · have ho3 := hS3.out o ho
          have n3 : ¬ o = 2 := by omega
          clear ho
          obtain ⟨q, tg, e1, e2, hq1, hq2⟩ := hq.out
          cases e1
          clear hq2 e2
          replace hq1 := Hid.mk hq1
          repeat first | refine OP ?_ | refine SK ?_ | refine OPN ?_ | refine OM ?_ | refine SM ?_ | refine OMN ?_ | refine WM.nil ?_ | refine OQ ?_ | refine SQ ?_ | refine TH ?_ | refine WR.nil ?_ | refine WQ.nil ?_ | refine W.seq ?_ | refine W.region ?_ | refine IFT ?_ | refine IFF ?_ | refine W.skip ?_ | refine W.block ?_ | refine W.exit ?_ | refine W.ret ?_ | (simp only [tN, tR, tE, rN, rR, rE, xN, xR, xE, reduceIte]) | refine DN ?_
          refine ⟨r.length - (j + 1), by omega, j + 1, e + 1, joinT t' (2), rows ++ [[PV.i .i64 k, PV.ob o eo]], S ++ s1, by omega, by omega, by simp [setF_if, *], by simp [setF_if, *], by simp [setF_if, *], by simp [setF_if, *], by simp [setF_if, *], by simp [setF_if, *], by simp [setF_if, *], by simp [setF_if, *], by simp [setF_if, *], by simp [setF_if, *], by simp [upd_if, *], by simp [upd_if, joinT, *], (fin.out _ _ H1 hq1.out (.inr rfl) (fun _ _ _ => rfl)).1, ?_, (fin.out _ (2) _ hq1.out (.inr rfl) (fun x h1 h2 => by simp [upd_if, show ¬ x = 2 by omega, show ¬ x = m + 10 by omega])).2, ?_, ?_, by rw [List.length_append]; exact bq1 hlen.out, fun h => by simp at h⟩
          · intro r hr
            rcases List.mem_append.mp hr with hr | hr
            · exact hfit.out r hr
            · rw [List.mem_singleton.mp hr]; rfl
          · exact List.nodup_append.mpr ⟨hnd.out, hn1.out, fun x hx y hy e => hSd.out x hx (e ▸ hy)⟩
          · intro x hx
            rcases List.mem_append.mp hx with hx | hx
            · exact ⟨(hS4.out x hx).1, by have := (hS4.out x hx).2; omega⟩
            · exact ⟨(hS3.out x hx).1, by have := (hS3.out x hx).2; omega⟩
        · skip
          obtain ⟨q, tg, e1, e2, hq1, hq2⟩ := hq.out
          cases e1
          clear hq2 e2
          replace hq1 := Hid.mk hq1
          repeat first | refine OP ?_ | refine SK ?_ | refine OPN ?_ | refine OM ?_ | refine SM ?_ | refine OMN ?_ | refine WM.nil ?_ | refine OQ ?_ | refine SQ ?_ | refine TH ?_ | refine WR.nil ?_ | refine WQ.nil ?_ | refine W.seq ?_ | refine W.region ?_ | refine IFT ?_ | refine IFF ?_ | refine W.skip ?_ | refine W.block ?_ | refine W.exit ?_ | refine W.ret ?_ | (simp only [tN, tR, tE, rN, rR, rE, xN, xR, xE, reduceIte]) | refine DN ?_
          refine ⟨r.length - (j + 1), by omega, j + 1, e + 1, joinT t' (1), rows ++ [[PV.i .i64 k, PV.sl []]], S ++ s1, by omega, by omega, by simp [setF_if, *], by simp [setF_if, *], by simp [setF_if, *], by simp [setF_if, *], by simp [setF_if, *], by simp [setF_if, *], by simp [setF_if, *], by simp [setF_if, *], by simp [setF_if, *], by simp [setF_if, *], by simp [upd_if, *], by simp [upd_if, joinT, *], (fin.out _ _ H1 hq1.out (.inl rfl) (fun _ _ _ => rfl)).1, ?_, (fin.out _ (1) _ hq1.out (.inl rfl) (fun x h1 h2 => by simp [upd_if, show ¬ x = 2 by omega, show ¬ x = m + 10 by omega])).2, ?_, ?_, by rw [List.length_append]; exact bq1 hlen.out, fun h => by simp at h⟩
          · intro r hr
            rcases List.mem_append.mp hr with hr | hr
            · exact hfit.out r hr
            · rw [List.mem_singleton.mp hr]; rfl
          · exact List.nodup_append.mpr ⟨hnd.out, hn1.out, fun x hx y hy e => hSd.out x hx (e ▸ hy)⟩
          · intro x hx
            rcases List.mem_append.mp hx with hx | hx
            · exact ⟨(hS4.out x hx).1, by have := (hS4.out x hx).2; omega⟩
            · exact ⟨(hS3.out x hx).1, by have := (hS3.out x hx).2; omega⟩
        · skip
          obtain ⟨q, tg, e1, e2, hq1, hq2⟩ := hq.out
          cases e1
          clear hq2 e2
          replace hq1 := Hid.mk hq1
          repeat first | refine OP ?_ | refine SK ?_ | refine OPN ?_ | refine OM ?_ | refine SM ?_ | refine OMN ?_ | refine WM.nil ?_ | refine OQ ?_ | refine SQ ?_ | refine TH ?_ | refine WR.nil ?_ | refine WQ.nil ?_ | refine W.seq ?_ | refine W.region ?_ | refine IFT ?_ | refine IFF ?_ | refine W.skip ?_ | refine W.block ?_ | refine W.exit ?_ | refine W.ret ?_ | (simp only [tN, tR, tE, rN, rR, rE, xN, xR, xE, reduceIte]) | refine DN ?_
          refine ⟨r.length - (j + 1), by omega, j + 1, e + 1, joinT t' (joinT 1 (joinT t 1)), rows ++ [[PV.i .i64 k, PV.sl []]], S ++ s1, by omega, by omega, by simp [setF_if, *], by simp [setF_if, *], by simp [setF_if, *], by simp [setF_if, *], by simp [setF_if, *], by simp [setF_if, *], by simp [setF_if, *], by simp [setF_if, *], by simp [setF_if, *], by simp [setF_if, *], by simp [upd_if, *], by simp [upd_if, joinT, *] <;> (by_cases g1 : t = 1 <;> by_cases g2 : t = 2 <;> by_cases g0 : t = 0 <;> simp [*] <;> omega), (fin.out _ _ H1 hq1.out (.inl rfl) (fun _ _ _ => rfl)).1, ?_, (fin.out _ (joinT 1 (joinT t 1)) _ hq1.out (.inl rfl) (fun x h1 h2 => by simp [upd_if, show ¬ x = 2 by omega, show ¬ x = m + 10 by omega])).2, ?_, ?_, by rw [List.length_append]; exact bq1 hlen.out, fun h => by simp at h⟩
          · intro r hr
            rcases List.mem_append.mp hr with hr | hr
            · exact hfit.out r hr
            · rw [List.mem_singleton.mp hr]; rfl
          · exact List.nodup_append.mpr ⟨hnd.out, hn1.out, fun x hx y hy e => hSd.out x hx (e ▸ hy)⟩
          · intro x hx
            rcases List.mem_append.mp hx with hx | hx
            · exact ⟨(hS4.out x hx).1, by have := (hS4.out x hx).2; omega⟩
            · exact ⟨(hS3.out x hx).1, by have := (hS3.out x hx).2; omega⟩
    · have ej : j = r.length := by omega
      have hown2 := hown.out
      rw [ej, List.take_length] at hown2
      have e2 : (fs.take (i + 1)).flatMap (rowA r k) = (fs.take i).flatMap (rowA r k) ++ r.filterMap (fun c => gM r k f (offA f c).1 (offA f c).2) := hfm.out
      rw [← e2] at hown2
      clear e2
      replace hown2 := Hid.mk hown2
      repeat first | refine OP ?_ | refine SK ?_ | refine OPN ?_ | refine OM ?_ | refine SM ?_ | refine OMN ?_ | refine WM.nil ?_ | refine OQ ?_ | refine SQ ?_ | refine TH ?_ | refine WR.nil ?_ | refine WQ.nil ?_ | refine W.seq ?_ | refine W.region ?_ | refine DR ?_ | refine IFT ?_ | refine IFF ?_ | refine W.skip ?_ | refine W.block ?_ | refine W.exit ?_ | refine W.ret ?_ | (simp only [tN, tR, tE, rN, rR, rE, xN, xR, xE, reduceIte]) | refine DN ?_
      exact ⟨fs.length - (i + 1), by omega, i + 1, e, t', rows, S, by omega, by omega, by simp [setF_if, *], by simp [setF_if, *], by simp [setF_if, *], by simp [setF_if, *], by simp [setF_if, *], by simp [setF_if, *], hH0, hH2, htag.out, hfit.out, hown2.out, hnd.out, fun o ho => ⟨(hlt.out o ho).1, by have := (hlt.out o ho).2; omega⟩, bq2 hlen.out (by omega), hnil.out⟩
  · have ei : i = fs.length := by omega
    rw [ei, List.take_length] at hown
    have hb9 : rows.length < 1000000000 := bq4 hlen (ei ▸ hf1)
    have h2S : 2 ∉ S := fun h => by have := (hlt 2 h).1; omega
    by_cases hne : rows = []
    · subst hne
      obtain ⟨e1, rfl⟩ := hown
      have hL0 : listA r k fs = [] := List.map_eq_nil_iff.mp e1
      rw [hL0]
      clear hcel hdup e1
      repeat first | refine OP ?_ | refine SK ?_ | refine OPN ?_ | refine OM ?_ | refine SM ?_ | refine OMN ?_ | refine WM.nil ?_ | refine OQ ?_ | refine SQ ?_ | refine TH ?_ | refine WR.nil ?_ | refine WQ.nil ?_ | refine W.seq ?_ | refine W.region ?_ | refine DR ?_ | refine IFT ?_ | refine IFF ?_ | refine W.skip ?_ | refine W.block ?_ | refine W.exit ?_ | refine W.ret ?_ | (simp only [tN, tR, tE, rN, rR, rE, xN, xR, xE, reduceIte]) | refine DN ?_
      refine CI ?_
      refine WC_given (hA.out.c4 _ _ _ _ (.tup []) H _ ⟨rfl, rfl, rfl, rfl, _, 2, e, _, 2, t', rfl, hH2⟩) ?_
      repeat first | refine OP ?_ | refine SK ?_ | refine OPN ?_ | refine OM ?_ | refine SM ?_ | refine OMN ?_ | refine WM.nil ?_ | refine OQ ?_ | refine SQ ?_ | refine TH ?_ | refine WR.nil ?_ | refine WQ.nil ?_ | refine W.seq ?_ | refine W.region ?_ | refine DR ?_ | refine IFT ?_ | refine IFF ?_ | refine W.skip ?_ | refine W.block ?_ | refine W.exit ?_ | refine W.ret ?_ | (simp only [tN, tR, tE, rN, rR, rE, xN, xR, xE, reduceIte]) | refine DN ?_
      exact ⟨[2], ownX_sl (tagOk_own hH2 ⟨by simp [orderP, places], rfl⟩ htag (by simp) hfit hnil), by simp⟩
    · obtain ⟨rows', S', hcall, g1, g2, g3, g4, g5⟩ := sortPl (L := listA r k fs) hA.out.c3 hH2 hown h2S hne hb9 hcel.out hdup.out htag hfit
      have h2S' : 2 ∉ S' := fun h => h2S (g2.mem_iff.mp h)
      have hndS := g2.nodup_iff.mpr hnd
      replace htag := Hid.mk htag
      replace hfit := Hid.mk hfit
      replace hown := Hid.mk hown
      replace hnd := Hid.mk hnd
      replace hlt := Hid.mk hlt
      replace hnil := Hid.mk hnil
      replace g1 := Hid.mk g1
      replace g2 := Hid.mk g2
      replace g4 := Hid.mk g4
      replace g5 := Hid.mk g5
      replace hcall := Hid.mk hcall
      replace hndS := Hid.mk hndS
      repeat first | refine OP ?_ | refine SK ?_ | refine OPN ?_ | refine OM ?_ | refine SM ?_ | refine OMN ?_ | refine WM.nil ?_ | refine OQ ?_ | refine SQ ?_ | refine TH ?_ | refine WR.nil ?_ | refine WQ.nil ?_ | refine W.seq ?_ | refine W.region ?_ | refine DR ?_ | refine IFT ?_ | refine IFF ?_ | refine W.skip ?_ | refine W.block ?_ | refine W.exit ?_ | refine W.ret ?_ | (simp only [tN, tR, tE, rN, rR, rE, xN, xR, xE, reduceIte]) | refine DN ?_
      refine CI ?_
      refine WC_given (hcall.out _) ?_
      repeat first | refine OP ?_ | refine SK ?_ | refine OPN ?_ | refine OM ?_ | refine SM ?_ | refine OMN ?_ | refine WM.nil ?_ | refine OQ ?_ | refine SQ ?_ | refine TH ?_ | refine WR.nil ?_ | refine WQ.nil ?_ | refine W.seq ?_ | refine W.region ?_ | refine DR ?_ | refine IFT ?_ | refine IFF ?_ | refine W.skip ?_ | refine W.block ?_ | refine W.exit ?_ | refine W.ret ?_ | (simp only [tN, tR, tE, rN, rR, rE, xN, xR, xE, reduceIte]) | refine DN ?_
      exact ⟨2 :: S', ownX_sl (tagOk_own (by simp [upd_if]; rfl) (ownRs_congr (fun o ho => by rw [upd_if, if_neg (by rintro rfl; exact h2S' ho)]) g1.out) g4.out (ownRs_ns g1.out (places_ns _)) g5.out (fun h => absurd h g3)), List.nodup_cons.mpr ⟨h2S', hndS.out⟩⟩
end Go.Proofs
end
section
open Go Go.Big
namespace Go.Proofs
set_option maxHeartbeats 2000000
theorem insP_at {x : Int × List Int} : ∀ {l : List (Int × List Int)} {i : Nat}, i ≤ l.length → (∀ k (h : k < l.length), k < i → cmpP l[k] x < 0) → (∀ h : i < l.length, ¬ cmpP l[i] x < 0) → insP x l = l.take i ++ x :: l.drop i
  | [], i, hi, _, _ => by
    obtain rfl : i = 0 := by simpa using hi
    rfl
  | y :: l, 0, _, _, h => by
    have := h (by simp)
    simp only [List.getElem_cons_zero] at this
    unfold insP
    rw [if_neg this]; rfl
  | y :: l, i + 1, hi, h1, h2 => by
    have h0 := h1 0 (by simp) (by omega)
    simp only [List.getElem_cons_zero] at h0
    unfold insP
    rw [if_pos h0, insP_at (i := i) (by simpa using hi) (fun k hk hki => by have := h1 (k + 1) (by simpa using hk) (by omega); simpa using this) (fun h => by have := h2 (by simpa using h); simpa using this)]
    simp
theorem l12Insert_wc (G : Gv) (l : List (Int × List Int)) (x : Int × List Int) (o e : Nat) (H : Heap) (n : Nat) (ho : o < n) (hH : H o = some (.arr e 55 2 (places l) 1)) (hl : l.length < 1000000000) (hlc : ∀ y ∈ l, y.2.length < 1000000000) (hx : x.2.length < 1000000000) :
    WC Tryz.prog G 131 [.own o e, placA 1 x] H n (fun r H' n' => n ≤ n' ∧ ∃ o' e', r = .own o' e' ∧ o' < n' ∧ H' o' = some (.arr e' 55 2 (places (insP x l)) 1) ∧ ∀ k, k < n → H' k = H k) := by
  refine (.body Tryz.func131 rfl (by simp [Tryz.ntmps131]) ?_)
  rw [Tryz.ntmps131, Tryz.results131]
  have hlen := places_len l
  have hno : ¬ (o = n) := by omega
  replace hlc := Hid.mk hlc
  repeat first | refine OP ?_ | refine SK ?_ | refine OPN ?_ | refine OM ?_ | refine SM ?_ | refine OMN ?_ | refine WM.nil ?_ | refine OQ ?_ | refine SQ ?_ | refine TH ?_ | refine WR.nil ?_ | refine WQ.nil ?_ | refine W.seq ?_ | refine W.region ?_ | refine DR ?_ | refine IFT ?_ | refine IFF ?_ | refine W.skip ?_ | refine W.block ?_ | refine W.exit ?_ | refine W.ret ?_ | (simp only [tN, tR, tE, rN, rR, rE, xN, xR, xE, reduceIte]) | refine DN ?_
  refine .loop (.inv (fun d E H' n' => ∃ i : Nat, i + d = l.length ∧ n < n' ∧ E 0 = .own o e ∧ E 3 = .ptr n 0 0 0 ∧ E 5 = .i .i64 i ∧ H' = H.upd n (.box 55 [.i .i64 x.1, .sl 1 (ints x.2)]) ∧ (∀ k (h : k < l.length), k < i → cmpP l[k] x < 0)) l.length ?_ ?_)
  · exact ⟨0, by omega, by omega, by simp [setF_if, argE], by simp [setF_if, argE], by simp [setF_if, argE], rfl, fun k _ hk => by omega⟩
  rintro d E H' n' ⟨i, hi, hn, h0, h3, h5, rfl, hlo⟩
  replace hlo := Hid.mk hlo
  by_cases c : (i : Int) < l.length
  · have hw_i : IntKind.i64.wrap ((i : Int) + 1) = (i : Int) + 1 := wr64 (by omega) (by omega)
    have hil : i < l.length := by omega
    have hrow : (places l)[i]? = some (placR (l[i]'hil)) := places_at (List.getElem?_eq_getElem hil)
    have hyl := hlc.out _ (List.getElem_mem hil)
    have hnext : cmpP (l[i]'hil) x < 0 → ∀ k (h : k < l.length), k < i + 1 → cmpP l[k] x < 0 := fun h k hk hki => by
      by_cases q : k = i
      · subst q; exact h
      · exact hlo.out k hk (by omega)
    obtain ⟨y, hy⟩ : ∃ y, l[i]'hil = y := ⟨_, rfl⟩
    rw [hy] at hrow hyl hnext
    replace hy := Hid.mk hy
    replace hnext := Hid.mk hnext
    obtain ⟨yk, ys⟩ := y
    obtain ⟨xk, xs⟩ := x
    simp only at hyl
    by_cases cy : cmpP (yk, ys) (xk, xs) < 0
    · repeat first | refine OP ?_ | refine SK ?_ | refine OPN ?_ | refine OM ?_ | refine SM ?_ | refine OMN ?_ | refine WM.nil ?_ | refine OQ ?_ | refine SQ ?_ | refine TH ?_ | refine WR.nil ?_ | refine WQ.nil ?_ | refine W.seq ?_ | refine W.region ?_ | refine DR ?_ | refine IFT ?_ | refine IFF ?_ | refine W.skip ?_ | refine W.block ?_ | refine W.exit ?_ | refine W.ret ?_ | (simp only [tN, tR, tE, rN, rR, rE, xN, xR, xE, reduceIte]) | refine DN ?_
      refine CQ (specComparePl_fn G (yk, ys) (xk, xs) hyl hx) ?_
      repeat first | refine OP ?_ | refine SK ?_ | refine OPN ?_ | refine OM ?_ | refine SM ?_ | refine OMN ?_ | refine WM.nil ?_ | refine OQ ?_ | refine SQ ?_ | refine TH ?_ | refine WR.nil ?_ | refine WQ.nil ?_ | refine W.seq ?_ | refine W.region ?_ | refine DR ?_ | refine IFT ?_ | refine IFF ?_ | refine W.skip ?_ | refine W.block ?_ | refine W.exit ?_ | refine W.ret ?_ | (simp only [tN, tR, tE, rN, rR, rE, xN, xR, xE, reduceIte]) | refine DN ?_
      exact ⟨l.length - (i + 1), by omega, i + 1, by omega, by omega, by simp [setF_if, *], by simp [setF_if, *], by simp [setF_if, *], by first | rfl | trivial, hnext.out cy⟩
    · have heq := insP_at (x := (xk, xs)) (l := l) (i := i) (by omega) hlo.out (fun h => by rw [hy.out]; exact cy)
      replace heq := Hid.mk heq
      repeat first | refine OP ?_ | refine SK ?_ | refine OPN ?_ | refine OM ?_ | refine SM ?_ | refine OMN ?_ | refine WM.nil ?_ | refine OQ ?_ | refine SQ ?_ | refine TH ?_ | refine WR.nil ?_ | refine WQ.nil ?_ | refine W.seq ?_ | refine W.region ?_ | refine DR ?_ | refine IFT ?_ | refine IFF ?_ | refine W.skip ?_ | refine W.block ?_ | refine W.exit ?_ | refine W.ret ?_ | (simp only [tN, tR, tE, rN, rR, rE, xN, xR, xE, reduceIte]) | refine DN ?_
      refine CQ (specComparePl_fn G (yk, ys) (xk, xs) hyl hx) ?_
      repeat first | refine OP ?_ | refine SK ?_ | refine OPN ?_ | refine OM ?_ | refine SM ?_ | refine OMN ?_ | refine WM.nil ?_ | refine OQ ?_ | refine SQ ?_ | refine TH ?_ | refine WR.nil ?_ | refine WQ.nil ?_ | refine W.seq ?_ | refine W.region ?_ | refine IFT ?_ | refine IFF ?_ | refine W.skip ?_ | refine W.block ?_ | refine W.exit ?_ | refine W.ret ?_ | (simp only [tN, tR, tE, rN, rR, rE, xN, xR, xE, reduceIte]) | refine DN ?_
      have hle : i ≤ l.length := by omega
      have hzi : 0 ≤ i := by omega
      have hs0 : i - 0 = i := rfl
      have hdr : (places l).drop 0 = places l := rfl
      have htk : (places l).take i = places (l.take i) := by simp [places, List.map_take]
      have htd : ((places l).drop i).take (l.length - i) = places (l.drop i) := by unfold places; rw [← List.map_drop, List.take_of_length_le (by simp)]
      have hl1 : (places (l.take i)).length = i := by rw [places_len, List.length_take]; omega
      have hl2 : (places (l.drop i)).length = l.length - i := by rw [places_len, List.length_drop]
      have hb1 : i * 32 ≤ 140737488355328 := by omega
      have hb2 : (i + 1) * 32 ≤ 140737488355328 := by omega
      have hb3 : (i + 1 + (l.length - i)) * 32 ≤ 140737488355328 := by omega
      have hfit1 : decide (∀ r ∈ places (l.take i), r.length = 2) = true := decide_eq_true fun r hr => by obtain ⟨y, _, rfl⟩ := List.mem_map.mp hr; rfl
      have hfit2 : decide (∀ r ∈ places (l.drop i), r.length = 2) = true := decide_eq_true fun r hr => by obtain ⟨y, _, rfl⟩ := List.mem_map.mp hr; rfl
      have hl3 : (places (l.take i) ++ [[PV.i .i64 xk, PV.sl (ints xs)]]).length = i + 1 := by simp [hl1]
      have hno' : ¬ (o = n') := by omega
      have hnn' : ¬ (n = n') := by omega
      have hno6 : ¬ (o = n' + 6) := by omega
      have hnn6 : ¬ (n = n' + 6) := by omega
      have h06 : ¬ (n' = n' + 6) := by omega
      have h60 : ¬ (n' + 6 = n') := by omega
      have hnd : [n', n' + 6].Nodup := by simp
      refine FD [n', n' + 6] [(21, 0), (25, 0), (27, 1), (28, 0), (32, 0)] [(28, [1])] hnd ?_
      repeat first | refine FF ?_ | refine FS ?_
      refine FM 0 (n') ?_ (hs := by
        intro Hx hx
        exact EVM)
      repeat first | refine FF ?_ | refine FS ?_
      refine FQ ?_ (hs := by
        intro Hx hx
        have f0 : Hx (o) = _ := hx.off (by simp only [List.mem_cons, List.not_mem_nil, or_false, not_or]; omega)
        simp only [setF_if, upd_if, neAdd, neLt, ltAdd, addNe, ltNe, Nat.left_eq_add, Nat.add_eq_left, Nat.reduceEqDiff, Nat.add_assoc, Nat.reduceAdd, reduceIte, *] at f0
        exact EV)
      refine FM 0 (n') ?_ (hs := by
        intro Hx hx
        have f0 : Hx (n') = _ := hx.at hnd 0 rfl (by decide)
        simp only [setF_if, upd_if, neAdd, neLt, ltAdd, addNe, ltNe, Nat.left_eq_add, Nat.add_eq_left, Nat.reduceEqDiff, Nat.add_assoc, Nat.reduceAdd, reduceIte, *] at f0
        have f1 : Hx (o) = _ := hx.off (by simp only [List.mem_cons, List.not_mem_nil, or_false, not_or]; omega)
        simp only [setF_if, upd_if, neAdd, neLt, ltAdd, addNe, ltNe, Nat.left_eq_add, Nat.add_eq_left, Nat.reduceEqDiff, Nat.add_assoc, Nat.reduceAdd, reduceIte, *] at f1
        exact EVM)
      refine FQ ?_ (hs := by
        intro Hx hx
        have f0 : Hx (n) = _ := hx.off (by simp only [List.mem_cons, List.not_mem_nil, or_false, not_or]; omega)
        simp only [setF_if, upd_if, neAdd, neLt, ltAdd, addNe, ltNe, Nat.left_eq_add, Nat.add_eq_left, Nat.reduceEqDiff, Nat.add_assoc, Nat.reduceAdd, reduceIte, *] at f0
        exact EV)
      refine FM 1 (n' + 6) ?_ (hs := by
        intro Hx hx
        exact EVM)
      refine FM 0 (n') ?_ (hs := by
        intro Hx hx
        have f0 : Hx (n') = _ := hx.at hnd 0 rfl (by decide)
        simp only [setF_if, upd_if, neAdd, neLt, ltAdd, addNe, ltNe, Nat.left_eq_add, Nat.add_eq_left, Nat.reduceEqDiff, Nat.add_assoc, Nat.reduceAdd, reduceIte, *] at f0
        have f1 : Hx (n' + 6) = _ := hx.at hnd 1 rfl (by decide)
        simp only [setF_if, upd_if, neAdd, neLt, ltAdd, addNe, ltNe, Nat.left_eq_add, Nat.add_eq_left, Nat.reduceEqDiff, Nat.add_assoc, Nat.reduceAdd, reduceIte, *] at f1
        exact EVM)
      repeat first | refine FF ?_ | refine FS ?_
      refine FQ ?_ (hs := by
        intro Hx hx
        have f0 : Hx (o) = _ := hx.off (by simp only [List.mem_cons, List.not_mem_nil, or_false, not_or]; omega)
        simp only [setF_if, upd_if, neAdd, neLt, ltAdd, addNe, ltNe, Nat.left_eq_add, Nat.add_eq_left, Nat.reduceEqDiff, Nat.add_assoc, Nat.reduceAdd, reduceIte, *] at f0
        exact EV)
      refine FM 0 (n') ?_ (hs := by
        intro Hx hx
        have f0 : Hx (n') = _ := hx.at hnd 0 rfl (by decide)
        simp only [setF_if, upd_if, neAdd, neLt, ltAdd, addNe, ltNe, Nat.left_eq_add, Nat.add_eq_left, Nat.reduceEqDiff, Nat.add_assoc, Nat.reduceAdd, reduceIte, *] at f0
        have f1 : Hx (o) = _ := hx.off (by simp only [List.mem_cons, List.not_mem_nil, or_false, not_or]; omega)
        simp only [setF_if, upd_if, neAdd, neLt, ltAdd, addNe, ltNe, Nat.left_eq_add, Nat.add_eq_left, Nat.reduceEqDiff, Nat.add_assoc, Nat.reduceAdd, reduceIte, *] at f1
        exact EVM)
      repeat first | refine FF ?_ | refine FS ?_
      refine WF.nil ?_
      repeat first | refine OP ?_ | refine SK ?_ | refine OPN ?_ | refine OM ?_ | refine SM ?_ | refine OMN ?_ | refine WM.nil ?_ | refine OQ ?_ | refine SQ ?_ | refine TH ?_ | refine WR.nil ?_ | refine WQ.nil ?_ | refine W.seq ?_ | refine W.region ?_ | refine DR ?_ | refine IFT ?_ | refine IFF ?_ | refine W.skip ?_ | refine W.block ?_ | refine W.exit ?_ | refine W.ret ?_ | (simp only [tN, tR, tE, rN, rR, rE, xN, xR, xE, reduceIte]) | refine DN ?_
      refine ⟨by omega, n', 3, by simp [retA], by omega, ?_, fun k hk => ?_⟩
      · rw [heq.out]
        simp [upd_if, places]
      · simp [upd_if, show ¬ k = n' by omega, show ¬ k = n' + 6 by omega, show ¬ k = n by omega]
  · have heq := insP_at (x := x) (l := l) (i := i) (by omega) hlo.out (fun h => by omega)
    replace heq := Hid.mk heq
    obtain ⟨xk, xs⟩ := x
    repeat first | refine OP ?_ | refine SK ?_ | refine OPN ?_ | refine OM ?_ | refine SM ?_ | refine OMN ?_ | refine WM.nil ?_ | refine OQ ?_ | refine SQ ?_ | refine TH ?_ | refine WR.nil ?_ | refine WQ.nil ?_ | refine W.seq ?_ | refine W.region ?_ | refine IFT ?_ | refine IFF ?_ | refine W.skip ?_ | refine W.block ?_ | refine W.exit ?_ | refine W.ret ?_ | (simp only [tN, tR, tE, rN, rR, rE, xN, xR, xE, reduceIte]) | refine DN ?_
    refine DR ?_
    repeat first | refine OP ?_ | refine SK ?_ | refine OPN ?_ | refine OM ?_ | refine SM ?_ | refine OMN ?_ | refine WM.nil ?_ | refine OQ ?_ | refine SQ ?_ | refine TH ?_ | refine WR.nil ?_ | refine WQ.nil ?_ | refine W.seq ?_ | refine W.region ?_ | refine IFT ?_ | refine IFF ?_ | refine W.skip ?_ | refine W.block ?_ | refine W.exit ?_ | refine W.ret ?_ | (simp only [tN, tR, tE, rN, rR, rE, xN, xR, xE, reduceIte]) | refine DN ?_
    have hle : i ≤ l.length := by omega
    have hzi : 0 ≤ i := by omega
    have hs0 : i - 0 = i := rfl
    have hdr : (places l).drop 0 = places l := rfl
    have htk : (places l).take i = places (l.take i) := by simp [places, List.map_take]
    have htd : ((places l).drop i).take (l.length - i) = places (l.drop i) := by unfold places; rw [← List.map_drop, List.take_of_length_le (by simp)]
    have hl1 : (places (l.take i)).length = i := by rw [places_len, List.length_take]; omega
    have hl2 : (places (l.drop i)).length = l.length - i := by rw [places_len, List.length_drop]
    have hb1 : i * 32 ≤ 140737488355328 := by omega
    have hb2 : (i + 1) * 32 ≤ 140737488355328 := by omega
    have hb3 : (i + 1 + (l.length - i)) * 32 ≤ 140737488355328 := by omega
    have hfit1 : decide (∀ r ∈ places (l.take i), r.length = 2) = true := decide_eq_true fun r hr => by obtain ⟨y, _, rfl⟩ := List.mem_map.mp hr; rfl
    have hfit2 : decide (∀ r ∈ places (l.drop i), r.length = 2) = true := decide_eq_true fun r hr => by obtain ⟨y, _, rfl⟩ := List.mem_map.mp hr; rfl
    have hl3 : (places (l.take i) ++ [[PV.i .i64 xk, PV.sl (ints xs)]]).length = i + 1 := by simp [hl1]
    have hno' : ¬ (o = n') := by omega
    have hnn' : ¬ (n = n') := by omega
    have hno6 : ¬ (o = n' + 6) := by omega
    have hnn6 : ¬ (n = n' + 6) := by omega
    have h06 : ¬ (n' = n' + 6) := by omega
    have h60 : ¬ (n' + 6 = n') := by omega
    have hnd : [n', n' + 6].Nodup := by simp
    refine FD [n', n' + 6] [(21, 0), (25, 0), (27, 1), (28, 0), (32, 0)] [(28, [1])] hnd ?_
    repeat first | refine FF ?_ | refine FS ?_
    refine FM 0 (n') ?_ (hs := by
      intro Hx hx
      exact EVM)
    repeat first | refine FF ?_ | refine FS ?_
    refine FQ ?_ (hs := by
      intro Hx hx
      have f0 : Hx (o) = _ := hx.off (by simp only [List.mem_cons, List.not_mem_nil, or_false, not_or]; omega)
      simp only [setF_if, upd_if, neAdd, neLt, ltAdd, addNe, ltNe, Nat.left_eq_add, Nat.add_eq_left, Nat.reduceEqDiff, Nat.add_assoc, Nat.reduceAdd, reduceIte, *] at f0
      exact EV)
    refine FM 0 (n') ?_ (hs := by
      intro Hx hx
      have f0 : Hx (n') = _ := hx.at hnd 0 rfl (by decide)
      simp only [setF_if, upd_if, neAdd, neLt, ltAdd, addNe, ltNe, Nat.left_eq_add, Nat.add_eq_left, Nat.reduceEqDiff, Nat.add_assoc, Nat.reduceAdd, reduceIte, *] at f0
      have f1 : Hx (o) = _ := hx.off (by simp only [List.mem_cons, List.not_mem_nil, or_false, not_or]; omega)
      simp only [setF_if, upd_if, neAdd, neLt, ltAdd, addNe, ltNe, Nat.left_eq_add, Nat.add_eq_left, Nat.reduceEqDiff, Nat.add_assoc, Nat.reduceAdd, reduceIte, *] at f1
      exact EVM)
    refine FQ ?_ (hs := by
      intro Hx hx
      have f0 : Hx (n) = _ := hx.off (by simp only [List.mem_cons, List.not_mem_nil, or_false, not_or]; omega)
      simp only [setF_if, upd_if, neAdd, neLt, ltAdd, addNe, ltNe, Nat.left_eq_add, Nat.add_eq_left, Nat.reduceEqDiff, Nat.add_assoc, Nat.reduceAdd, reduceIte, *] at f0
      exact EV)
    refine FM 1 (n' + 6) ?_ (hs := by
      intro Hx hx
      exact EVM)
    refine FM 0 (n') ?_ (hs := by
      intro Hx hx
      have f0 : Hx (n') = _ := hx.at hnd 0 rfl (by decide)
      simp only [setF_if, upd_if, neAdd, neLt, ltAdd, addNe, ltNe, Nat.left_eq_add, Nat.add_eq_left, Nat.reduceEqDiff, Nat.add_assoc, Nat.reduceAdd, reduceIte, *] at f0
      have f1 : Hx (n' + 6) = _ := hx.at hnd 1 rfl (by decide)
      simp only [setF_if, upd_if, neAdd, neLt, ltAdd, addNe, ltNe, Nat.left_eq_add, Nat.add_eq_left, Nat.reduceEqDiff, Nat.add_assoc, Nat.reduceAdd, reduceIte, *] at f1
      exact EVM)
    repeat first | refine FF ?_ | refine FS ?_
    refine FQ ?_ (hs := by
      intro Hx hx
      have f0 : Hx (o) = _ := hx.off (by simp only [List.mem_cons, List.not_mem_nil, or_false, not_or]; omega)
      simp only [setF_if, upd_if, neAdd, neLt, ltAdd, addNe, ltNe, Nat.left_eq_add, Nat.add_eq_left, Nat.reduceEqDiff, Nat.add_assoc, Nat.reduceAdd, reduceIte, *] at f0
      exact EV)
    refine FM 0 (n') ?_ (hs := by
      intro Hx hx
      have f0 : Hx (n') = _ := hx.at hnd 0 rfl (by decide)
      simp only [setF_if, upd_if, neAdd, neLt, ltAdd, addNe, ltNe, Nat.left_eq_add, Nat.add_eq_left, Nat.reduceEqDiff, Nat.add_assoc, Nat.reduceAdd, reduceIte, *] at f0
      have f1 : Hx (o) = _ := hx.off (by simp only [List.mem_cons, List.not_mem_nil, or_false, not_or]; omega)
      simp only [setF_if, upd_if, neAdd, neLt, ltAdd, addNe, ltNe, Nat.left_eq_add, Nat.add_eq_left, Nat.reduceEqDiff, Nat.add_assoc, Nat.reduceAdd, reduceIte, *] at f1
      exact EVM)
    repeat first | refine FF ?_ | refine FS ?_
    refine WF.nil ?_
    repeat first | refine OP ?_ | refine SK ?_ | refine OPN ?_ | refine OM ?_ | refine SM ?_ | refine OMN ?_ | refine WM.nil ?_ | refine OQ ?_ | refine SQ ?_ | refine TH ?_ | refine WR.nil ?_ | refine WQ.nil ?_ | refine W.seq ?_ | refine W.region ?_ | refine DR ?_ | refine IFT ?_ | refine IFF ?_ | refine W.skip ?_ | refine W.block ?_ | refine W.exit ?_ | refine W.ret ?_ | (simp only [tN, tR, tE, rN, rR, rE, xN, xR, xE, reduceIte]) | refine DN ?_
    refine ⟨by omega, n', 3, by simp [retA], by omega, ?_, fun k hk => ?_⟩
    · rw [heq.out]
      simp [upd_if, places]
    · simp [upd_if, show ¬ k = n' by omega, show ¬ k = n' + 6 by omega, show ¬ k = n by omega]
end Go.Proofs
end
