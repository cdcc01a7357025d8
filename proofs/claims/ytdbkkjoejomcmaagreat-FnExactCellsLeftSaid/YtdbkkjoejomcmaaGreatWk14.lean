/- Walks: Placements and puzzles turned into ones that the caller owns. No condition. | Numbers written into puzzles and placements; held in them. No condition. | The statement's law: it answers true if the two agree. No condition. -/
import Derived.Test.YtdbkkjoejomcmaaGreatBO
import Derived.Test.YtdbkkjoejomcmaaGreatWk13
import Derived.Test.YtdbkkjoejomcmaaGreatWk12
import Derived.Test.YtdbkkjoejomcmaaGreatBC
set_option linter.unusedVariables false
set_option linter.unusedSimpArgs false
section
open Go Go.Big
namespace Go.Proofs
set_option maxHeartbeats 2000000
theorem toPlacementS_o (G : Gv) (l : List (Int × List Int)) (hl : l.length < 1000000000) (hc : ∀ p ∈ l, p.2.length < 1000000000) : GivesO Tryz.prog G 19 [.sl 0 (places l)] (.sl 1 (places l)) := by
  refine .of (.body Tryz.func19 rfl (by simp [Tryz.ntmps19]) ?_)
  rw [Tryz.ntmps19, Tryz.results19]
  have hlen := places_len l
  have b1 : ((32 : Nat) : Int) * l.length ≤ 281474976710656 := by simp; omega
  have b2 : (l.length : Int) ≤ 9223372036854775807 := by omega
  have b3 : (0 : Int) ≤ l.length := by omega
  replace hc := Hid.mk hc
  repeat first | refine OP ?_ | refine SK ?_ | refine OPN ?_ | refine TH ?_ | refine WR.nil ?_ | refine W.seq ?_ | refine W.region ?_ | refine DR ?_
  refine .block (.loop (.inv (fun d E H n' => ∃ (i t' : Nat) (r1 : List (List PV)) (S1 : List Nat), i + d = l.length ∧ E 0 = .sl 0 (places l) ∧ E 3 = .own 3 0 ∧ E 4 = .i .i64 i ∧ H 3 = some (.arr 0 55 2 (r1 ++ List.replicate d [PV.i .i64 0, PV.sl []]) t') ∧ 3 < n' ∧ r1.length = i ∧ tagOk t' r1 ∧ fitR 2 r1 ∧ (l = [] → t' ≠ 2) ∧ ownRs H r1 (places (l.take i)) S1 ∧ S1.Nodup ∧ ∀ o ∈ S1, 3 < o ∧ o < n') l.length ?_ ?_))
  · refine ⟨0, 1, [], [], by omega, by simp [setF_if, argE], by simp [setF_if, argE], by simp [setF_if, argE], by simp [upd_if, hlen], by omega, rfl, .inr (fun r hr => by simp at hr), fun r hr => by simp at hr, fun _ => by decide, ⟨rfl, rfl⟩, by simp, by simp⟩
  clear b1 b2 b3
  rintro d E H n' ⟨i, t', r1, S1, hi, h0, h3, h4, hH, hn3, hr1, htag, hfit, hnil, hown, hnd, hlt⟩
  replace hr1 := Hid.mk hr1
  replace htag := Hid.mk htag
  replace hfit := Hid.mk hfit
  replace hnil := Hid.mk hnil
  replace hown := Hid.mk hown
  replace hnd := Hid.mk hnd
  replace hlt := Hid.mk hlt
  by_cases c : (i : Int) < l.length
  · have hw_i : IntKind.i64.wrap ((i : Int) + 1) = (i : Int) + 1 := wr64 (by omega) (by omega)
    obtain ⟨p, hp⟩ : ∃ p, l[i]? = some p := ⟨_, List.getElem?_eq_getElem (by omega)⟩
    have hpl := hc.out p (List.mem_of_getElem? hp)
    have hr : (places l)[i]? = some (placR p) := by simp [places, hp]
    obtain ⟨d, rfl⟩ : ∃ d', d = d' + 1 := ⟨d - 1, by omega⟩
    rw [List.replicate_succ] at hH
    have hro : (r1 ++ [PV.i .i64 0, PV.sl []] :: List.replicate d [PV.i .i64 0, PV.sl []])[i]? = some [PV.i .i64 0, PV.sl []] := at_mid _ _ _ hr1.out
    have hset : ∀ x, (r1 ++ [PV.i .i64 0, PV.sl []] :: List.replicate d [PV.i .i64 0, PV.sl []]).set i x = r1 ++ x :: List.replicate d [PV.i .i64 0, PV.sl []] := fun x => set_mid _ _ _ _ hr1.out
    have hrl : i < (r1 ++ [PV.i .i64 0, PV.sl []] :: List.replicate d [PV.i .i64 0, PV.sl []]).length := (List.getElem?_eq_some_iff.mp hro).1
    generalize r1 ++ [PV.i .i64 0, PV.sl []] :: List.replicate d [PV.i .i64 0, PV.sl []] = R at hH hro hset hrl
    have htk := take_map placR hp
    replace htk := Hid.mk htk
    replace hp := Hid.mk hp
    replace hpl := Hid.mk hpl
    skip
    repeat first | refine OP ?_ | refine SK ?_ | refine OPN ?_ | refine OM ?_ | refine SM ?_ | refine OMN ?_ | refine WM.nil ?_ | refine OQ ?_ | refine SQ ?_ | refine TH ?_ | refine WR.nil ?_ | refine WQ.nil ?_ | refine W.seq ?_ | refine W.region ?_ | refine DR ?_ | refine IFT ?_ | refine IFF ?_ | refine W.skip ?_ | refine W.block ?_ | refine W.exit ?_ | refine W.ret ?_ | (simp only [tN, tR, tE, rN, rR, rE, xN, xR, xE, reduceIte]) | refine DN ?_
    refine CWO (toPlacement_o G p.1 p.2 hpl.out) ?_
    intro z H1 S m hz hn hS hf hm
    have hH1 := hf 3 (by omega)
    rw [hH] at hH1
    obtain ⟨zk, z, s2, S, rfl, rfl, h2, hz2⟩ := ownX_ag2 hz
    obtain ⟨rfl, rfl⟩ := ownX_i h2
    clear h2 hz
    simp only [List.nil_append] at hn hS
    have hq := ownX_leaf hz2 (ints_scal _)
    have hSd : ∀ o ∈ S1, o ∉ S := fun o h1 h2 => by have := hlt.out o h1; have := hS o h2; omega
    have hS3 : ∀ o ∈ S, 3 < o ∧ o < m := fun o h => by have := hS o h; omega
    have hS4 : ∀ o ∈ S1, 3 < o ∧ o < m := fun o h => by have := hlt.out o h; omega
    have hf1 : ∀ o ∈ S1, H1 o = H o := fun o h => hf o (by have := hlt.out o h; omega)
    have hcs := ownX_cases hz2
    clear hz2
    replace hq := Hid.mk hq
    replace hSd := Hid.mk hSd
    replace hS3 := Hid.mk hS3
    replace hS4 := Hid.mk hS4
    replace hf1 := Hid.mk hf1
    replace hf := Hid.mk hf
    replace hS := Hid.mk hS
    replace hn := Hid.mk hn
    clear hH
    have fin : ∀ (q : PV) (t2 : Nat) (H2 : Heap), ownP H1 q (.sl (ints p.2)) S → (noOb q = true ∨ t2 = 2) → (∀ o, o ≠ 3 → H2 o = H1 o) → tagOk (joinT t' t2) (r1 ++ [[.i .i64 p.1, q]]) ∧ ownRs H2 (r1 ++ [[.i .i64 p.1, q]]) (places (l.take (i + 1))) (S1 ++ S) := by
      intro q t2 H2 h1 h2 h3
      refine ⟨tag_store htag.out (h2.symm.imp id fun h2 r hr p hp => ?_), ?_⟩
      · obtain rfl := List.mem_singleton.mp hr
        simp only [List.mem_cons, List.not_mem_nil, or_false] at hp
        rcases hp with rfl | rfl <;> first | rfl | exact h2
      · have e : places (l.take (i + 1)) = places (l.take i) ++ [placR p] := htk.out
        rw [e]
        refine ownRs_append (ownRs_congr (H := H) (fun o ho => ?_) hown.out) (ownRs_one (ownPs_congr (H := H1) (fun o ho => ?_) ?_))
        · rw [h3 o (by have := hlt.out o ho; omega)]; exact hf1.out o ho
        · exact h3 o (by have := hS3.out o ho; omega)
        · exact ownPs_cons (s := []) (ownP_scal_mk rfl) (by rw [← List.append_nil S]; exact ownPs_cons h1 ⟨rfl, rfl⟩)
    replace fin := Hid.mk fin
    replace htk := Hid.mk htk
    rcases hcs with ⟨o, e, ty, sz, rows, t, rfl, hHo, ho⟩ | rfl | ⟨t, rfl⟩
    · have ho3 := hS3.out o ho
      have n3 : ¬ o = 3 := by omega
      clear ho
      obtain ⟨q, tg, e1, e2, hq1, hq2⟩ := hq.out
      cases e1
      clear hq2 e2
      replace hq1 := Hid.mk hq1
      replace hset := Hid.mk hset
      repeat first | refine OP ?_ | refine SK ?_ | refine OPN ?_ | refine OM ?_ | refine SM ?_ | refine OMN ?_ | refine WM.nil ?_ | refine OQ ?_ | refine SQ ?_ | refine TH ?_ | refine WR.nil ?_ | refine WQ.nil ?_ | refine W.seq ?_ | refine W.region ?_ | refine DR ?_ | refine IFT ?_ | refine IFF ?_ | refine W.skip ?_ | refine W.block ?_ | refine W.exit ?_ | refine W.ret ?_ | (simp only [tN, tR, tE, rN, rR, rE, xN, xR, xE, reduceIte]) | refine DN ?_
      refine ⟨d, by omega, i + 1, joinT t' (2), r1 ++ [[PV.i .i64 p.1, PV.ob o e]], S1 ++ S, by omega, by simp [setF_if, *], by simp [setF_if, *], by simp [setF_if, *], ?_, by omega, by simp [hr1.out], (fin.out _ _ H1 hq1.out (.inr rfl) (fun _ _ => rfl)).1, ?_, fun e => by rw [e] at hi; simp at hi, (fin.out _ (2) _ hq1.out (.inr rfl) (fun k hk => by rw [upd_if, if_neg hk])).2, ?_, ?_⟩
      · simp [upd_if, joinT, hset.out]
      · intro r hr
        rcases List.mem_append.mp hr with hr | hr
        · exact hfit.out r hr
        · rw [List.mem_singleton.mp hr]; rfl
      · exact List.nodup_append.mpr ⟨hnd.out, hn.out, fun x hx y hy e => hSd.out x hx (e ▸ hy)⟩
      · intro x hx
        rcases List.mem_append.mp hx with hx | hx
        · exact ⟨(hS4.out x hx).1, by have := (hS4.out x hx).2; omega⟩
        · exact ⟨(hS3.out x hx).1, by have := (hS3.out x hx).2; omega⟩
    · skip
      obtain ⟨q, tg, e1, e2, hq1, hq2⟩ := hq.out
      cases e1
      clear hq2 e2
      replace hq1 := Hid.mk hq1
      replace hset := Hid.mk hset
      repeat first | refine OP ?_ | refine SK ?_ | refine OPN ?_ | refine OM ?_ | refine SM ?_ | refine OMN ?_ | refine WM.nil ?_ | refine OQ ?_ | refine SQ ?_ | refine TH ?_ | refine WR.nil ?_ | refine WQ.nil ?_ | refine W.seq ?_ | refine W.region ?_ | refine DR ?_ | refine IFT ?_ | refine IFF ?_ | refine W.skip ?_ | refine W.block ?_ | refine W.exit ?_ | refine W.ret ?_ | (simp only [tN, tR, tE, rN, rR, rE, xN, xR, xE, reduceIte]) | refine DN ?_
      refine ⟨d, by omega, i + 1, joinT t' (1), r1 ++ [[PV.i .i64 p.1, PV.sl []]], S1 ++ S, by omega, by simp [setF_if, *], by simp [setF_if, *], by simp [setF_if, *], ?_, by omega, by simp [hr1.out], (fin.out _ _ H1 hq1.out (.inl rfl) (fun _ _ => rfl)).1, ?_, fun e => by rw [e] at hi; simp at hi, (fin.out _ (1) _ hq1.out (.inl rfl) (fun k hk => by rw [upd_if, if_neg hk])).2, ?_, ?_⟩
      · simp [upd_if, joinT, hset.out]
      · intro r hr
        rcases List.mem_append.mp hr with hr | hr
        · exact hfit.out r hr
        · rw [List.mem_singleton.mp hr]; rfl
      · exact List.nodup_append.mpr ⟨hnd.out, hn.out, fun x hx y hy e => hSd.out x hx (e ▸ hy)⟩
      · intro x hx
        rcases List.mem_append.mp hx with hx | hx
        · exact ⟨(hS4.out x hx).1, by have := (hS4.out x hx).2; omega⟩
        · exact ⟨(hS3.out x hx).1, by have := (hS3.out x hx).2; omega⟩
    · skip
      obtain ⟨q, tg, e1, e2, hq1, hq2⟩ := hq.out
      cases e1
      clear hq2 e2
      replace hq1 := Hid.mk hq1
      replace hset := Hid.mk hset
      repeat first | refine OP ?_ | refine SK ?_ | refine OPN ?_ | refine OM ?_ | refine SM ?_ | refine OMN ?_ | refine WM.nil ?_ | refine OQ ?_ | refine SQ ?_ | refine TH ?_ | refine WR.nil ?_ | refine WQ.nil ?_ | refine W.seq ?_ | refine W.region ?_ | refine DR ?_ | refine IFT ?_ | refine IFF ?_ | refine W.skip ?_ | refine W.block ?_ | refine W.exit ?_ | refine W.ret ?_ | (simp only [tN, tR, tE, rN, rR, rE, xN, xR, xE, reduceIte]) | refine DN ?_
      refine ⟨d, by omega, i + 1, joinT t' (joinT 1 (joinT t 1)), r1 ++ [[PV.i .i64 p.1, PV.sl []]], S1 ++ S, by omega, by simp [setF_if, *], by simp [setF_if, *], by simp [setF_if, *], ?_, by omega, by simp [hr1.out], (fin.out _ _ H1 hq1.out (.inl rfl) (fun _ _ => rfl)).1, ?_, fun e => by rw [e] at hi; simp at hi, (fin.out _ (joinT 1 (joinT t 1)) _ hq1.out (.inl rfl) (fun k hk => by rw [upd_if, if_neg hk])).2, ?_, ?_⟩
      · simp [upd_if, joinT, hset.out]
      · intro r hr
        rcases List.mem_append.mp hr with hr | hr
        · exact hfit.out r hr
        · rw [List.mem_singleton.mp hr]; rfl
      · exact List.nodup_append.mpr ⟨hnd.out, hn.out, fun x hx y hy e => hSd.out x hx (e ▸ hy)⟩
      · intro x hx
        rcases List.mem_append.mp hx with hx | hx
        · exact ⟨(hS4.out x hx).1, by have := (hS4.out x hx).2; omega⟩
        · exact ⟨(hS3.out x hx).1, by have := (hS3.out x hx).2; omega⟩
  · repeat first | refine OP ?_ | refine SK ?_ | refine OPN ?_ | refine OM ?_ | refine SM ?_ | refine OMN ?_ | refine WM.nil ?_ | refine OQ ?_ | refine SQ ?_ | refine TH ?_ | refine WR.nil ?_ | refine WQ.nil ?_ | refine W.seq ?_ | refine W.region ?_ | refine DR ?_ | refine IFT ?_ | refine IFF ?_ | refine W.skip ?_ | refine W.block ?_ | refine W.exit ?_ | refine W.ret ?_ | (simp only [tN, tR, tE, rN, rR, rE, xN, xR, xE, reduceIte]) | refine DN ?_
    have ei : i = l.length := by omega
    have hd : d = 0 := by omega
    subst hd
    rw [List.replicate_zero, List.append_nil] at hH
    have ho := hown.out
    rw [ei, List.take_length] at ho
    refine ⟨3 :: S1, ownX_sl (tagOk_own hH ho htag.out (ownRs_ns ho (places_ns _)) hfit.out fun e => hnil.out ?_), List.nodup_cons.mpr ⟨fun h => by have := hlt.out 3 h; omega, hnd.out⟩⟩
    refine List.length_eq_zero_iff.mp ?_
    have := hr1.out
    rw [e] at this; simp at this; omega
theorem toPuzzle_o (G : Gv) (l : List (Int × Int)) (ps : List PieceM) (hl : l.length < 1000000000) (hp : ps.length < 1000000000) (hc : ∀ p ∈ ps, p.cs.length < 1000000000) :
    GivesO Tryz.prog G 18 [.ag [.sl 0 (cells l), .sl 0 (pieces ps)]] (.ag [.sl 1 (cells l), .sl 1 (pieces ps)]) := by
  refine .of (.body Tryz.func18 rfl (by simp [Tryz.ntmps18]) ?_)
  rw [Tryz.ntmps18, Tryz.results18]
  replace hc := Hid.mk hc
  repeat first | refine OP ?_ | refine SK ?_ | refine OPN ?_ | refine OM ?_ | refine SM ?_ | refine OMN ?_ | refine WM.nil ?_ | refine OQ ?_ | refine SQ ?_ | refine TH ?_ | refine WR.nil ?_ | refine WQ.nil ?_ | refine W.seq ?_ | refine W.region ?_ | refine DR ?_ | refine IFT ?_ | refine IFF ?_ | refine W.skip ?_ | refine W.block ?_ | refine W.exit ?_ | refine W.ret ?_ | (simp only [tN, tR, tE, rN, rR, rE, xN, xR, xE, reduceIte]) | refine DN ?_
  refine CWO (toCellS_o G _ hl) ?_
  intro z H1 S m hz hn hS hf hm
  have f1 := hf 1 (by omega)
  have f2 := hf 2 (by omega)
  have f0 := hf 0 (by omega)
  simp [upd_if] at f0 f1 f2
  have hS1 : ∀ o ∈ S, 5 ≤ o ∧ o < m := hS
  clear hS hf
  replace hn := Hid.mk hn
  replace hS1 := Hid.mk hS1
  have hz' := Hid.mk hz
  rcases ownX_cases hz with ⟨o, e, ty, sz, rows, t, rfl, hH, ho⟩ | rfl | ⟨t, rfl⟩
  · clear hz
    have ho5 := (hS1.out o ho).1
    have n1 : ¬ o = 1 := by omega
    have n2 : ¬ o = 2 := by omega
    repeat first | refine OP ?_ | refine SK ?_ | refine OPN ?_ | refine OM ?_ | refine SM ?_ | refine OMN ?_ | refine WM.nil ?_ | refine OQ ?_ | refine SQ ?_ | refine TH ?_ | refine WR.nil ?_ | refine WQ.nil ?_ | refine W.seq ?_ | refine W.region ?_ | refine DR ?_ | refine IFT ?_ | refine IFF ?_ | refine W.skip ?_ | refine W.block ?_ | refine W.exit ?_ | refine W.ret ?_ | (simp only [tN, tR, tE, rN, rR, rE, xN, xR, xE, reduceIte]) | refine DN ?_
    refine CWO (toPieceS_o G _ hp hc.out) ?_
    intro z2 H2 S2 m2 hz2 hn2 hS2 hf2 hm2
    have g1 := hf2 1 (by omega)
    have g2 := hf2 2 (by omega)
    have g0 := hf2 0 (by omega)
    simp [upd_if, f0, f1, f2] at g0 g1 g2
    have hzz := ownX_congr (fun k hk => (hf2 k (by have := (hS1.out k hk).2; omega)).trans (by have := (hS1.out k hk).1; simp [upd_if, show ¬ k = 2 by omega])) hz'.out
    have hHo := hf2 o (by have := (hS1.out o ho).2; omega)
    simp [upd_if, n2, hH] at hHo
    clear ho
    have hSS : ∀ k ∈ S2, m ≤ k := fun k hk => by have := (hS2 k hk).1; omega
    have hS21 : ∀ k ∈ S2, 5 ≤ k := fun k hk => by have := hSS k hk; omega
    clear hf2 hS2 f0 f1 f2
    replace hn2 := Hid.mk hn2
    replace hzz := Hid.mk hzz
    replace hSS := Hid.mk hSS
    replace hS21 := Hid.mk hS21
    have hz2' := Hid.mk hz2
    rcases ownX_cases hz2 with ⟨o2, e2, ty2, sz2, rows2, t2, rfl, hH2, ho2⟩ | rfl | ⟨t2, rfl⟩
    · clear hz2
      have k5 := hS21.out o2 ho2
      have k1 : ¬ o2 = 1 := by omega
      have k2 : ¬ o2 = 2 := by omega
      clear ho2
      repeat first | refine OP ?_ | refine SK ?_ | refine OPN ?_ | refine OM ?_ | refine SM ?_ | refine OMN ?_ | refine WM.nil ?_ | refine OQ ?_ | refine SQ ?_ | refine TH ?_ | refine WR.nil ?_ | refine WQ.nil ?_ | refine W.seq ?_ | refine W.region ?_ | refine DR ?_ | refine IFT ?_ | refine IFF ?_ | refine W.skip ?_ | refine W.block ?_ | refine W.exit ?_ | refine W.ret ?_ | (simp only [tN, tR, tE, rN, rR, rE, xN, xR, xE, reduceIte]) | refine DN ?_
      refine ⟨S ++ S2, ownX_mk2 (ownX_congr (fun k hk => by have := (hS1.out k hk).1; simp [upd_if, show ¬ k = 1 by omega, show ¬ k = 2 by omega]) hzz.out) (ownX_congr (fun k hk => by have := hS21.out k hk; simp [upd_if, show ¬ k = 1 by omega, show ¬ k = 2 by omega]) hz2'.out), List.nodup_append.mpr ⟨hn.out, hn2.out, fun a ha b hb e => ?_⟩⟩
      have := (hS1.out a ha).2
      have := hSS.out b hb
      omega
    · clear hz2
      repeat first | refine OP ?_ | refine SK ?_ | refine OPN ?_ | refine OM ?_ | refine SM ?_ | refine OMN ?_ | refine WM.nil ?_ | refine OQ ?_ | refine SQ ?_ | refine TH ?_ | refine WR.nil ?_ | refine WQ.nil ?_ | refine W.seq ?_ | refine W.region ?_ | refine DR ?_ | refine IFT ?_ | refine IFF ?_ | refine W.skip ?_ | refine W.block ?_ | refine W.exit ?_ | refine W.ret ?_ | (simp only [tN, tR, tE, rN, rR, rE, xN, xR, xE, reduceIte]) | refine DN ?_
      refine ⟨S ++ S2, ownX_mk2 (ownX_congr (fun k hk => by have := (hS1.out k hk).1; simp [upd_if, show ¬ k = 1 by omega, show ¬ k = 2 by omega]) hzz.out) (ownX_congr (fun k hk => by have := hS21.out k hk; simp [upd_if, show ¬ k = 1 by omega, show ¬ k = 2 by omega]) hz2'.out), List.nodup_append.mpr ⟨hn.out, hn2.out, fun a ha b hb e => ?_⟩⟩
      have := (hS1.out a ha).2
      have := hSS.out b hb
      omega
    · clear hz2
      repeat first | refine OP ?_ | refine SK ?_ | refine OPN ?_ | refine OM ?_ | refine SM ?_ | refine OMN ?_ | refine WM.nil ?_ | refine OQ ?_ | refine SQ ?_ | refine TH ?_ | refine WR.nil ?_ | refine WQ.nil ?_ | refine W.seq ?_ | refine W.region ?_ | refine DR ?_ | refine IFT ?_ | refine IFF ?_ | refine W.skip ?_ | refine W.block ?_ | refine W.exit ?_ | refine W.ret ?_ | (simp only [tN, tR, tE, rN, rR, rE, xN, xR, xE, reduceIte]) | refine DN ?_
      refine ⟨S ++ S2, ownX_mk2 (ownX_congr (fun k hk => by have := (hS1.out k hk).1; simp [upd_if, show ¬ k = 1 by omega, show ¬ k = 2 by omega]) hzz.out) (ownX_congr (fun k hk => by have := hS21.out k hk; simp [upd_if, show ¬ k = 1 by omega, show ¬ k = 2 by omega]) hz2'.out), List.nodup_append.mpr ⟨hn.out, hn2.out, fun a ha b hb e => ?_⟩⟩
      have := (hS1.out a ha).2
      have := hSS.out b hb
      omega
  · clear hz
    repeat first | refine OP ?_ | refine SK ?_ | refine OPN ?_ | refine OM ?_ | refine SM ?_ | refine OMN ?_ | refine WM.nil ?_ | refine OQ ?_ | refine SQ ?_ | refine TH ?_ | refine WR.nil ?_ | refine WQ.nil ?_ | refine W.seq ?_ | refine W.region ?_ | refine DR ?_ | refine IFT ?_ | refine IFF ?_ | refine W.skip ?_ | refine W.block ?_ | refine W.exit ?_ | refine W.ret ?_ | (simp only [tN, tR, tE, rN, rR, rE, xN, xR, xE, reduceIte]) | refine DN ?_
    refine CWO (toPieceS_o G _ hp hc.out) ?_
    intro z2 H2 S2 m2 hz2 hn2 hS2 hf2 hm2
    have g1 := hf2 1 (by omega)
    have g2 := hf2 2 (by omega)
    have g0 := hf2 0 (by omega)
    simp [upd_if, f0, f1, f2] at g0 g1 g2
    have hzz := ownX_congr (fun k hk => (hf2 k (by have := (hS1.out k hk).2; omega)).trans (by have := (hS1.out k hk).1; simp [upd_if, show ¬ k = 2 by omega])) hz'.out
    have hSS : ∀ k ∈ S2, m ≤ k := fun k hk => by have := (hS2 k hk).1; omega
    have hS21 : ∀ k ∈ S2, 5 ≤ k := fun k hk => by have := hSS k hk; omega
    clear hf2 hS2 f0 f1 f2
    replace hn2 := Hid.mk hn2
    replace hzz := Hid.mk hzz
    replace hSS := Hid.mk hSS
    replace hS21 := Hid.mk hS21
    have hz2' := Hid.mk hz2
    rcases ownX_cases hz2 with ⟨o2, e2, ty2, sz2, rows2, t2, rfl, hH2, ho2⟩ | rfl | ⟨t2, rfl⟩
    · clear hz2
      have k5 := hS21.out o2 ho2
      have k1 : ¬ o2 = 1 := by omega
      have k2 : ¬ o2 = 2 := by omega
      clear ho2
      repeat first | refine OP ?_ | refine SK ?_ | refine OPN ?_ | refine OM ?_ | refine SM ?_ | refine OMN ?_ | refine WM.nil ?_ | refine OQ ?_ | refine SQ ?_ | refine TH ?_ | refine WR.nil ?_ | refine WQ.nil ?_ | refine W.seq ?_ | refine W.region ?_ | refine DR ?_ | refine IFT ?_ | refine IFF ?_ | refine W.skip ?_ | refine W.block ?_ | refine W.exit ?_ | refine W.ret ?_ | (simp only [tN, tR, tE, rN, rR, rE, xN, xR, xE, reduceIte]) | refine DN ?_
      refine ⟨S ++ S2, ownX_mk2 (ownX_congr (fun k hk => by have := (hS1.out k hk).1; simp [upd_if, show ¬ k = 1 by omega, show ¬ k = 2 by omega]) hzz.out) (ownX_congr (fun k hk => by have := hS21.out k hk; simp [upd_if, show ¬ k = 1 by omega, show ¬ k = 2 by omega]) hz2'.out), List.nodup_append.mpr ⟨hn.out, hn2.out, fun a ha b hb e => ?_⟩⟩
      have := (hS1.out a ha).2
      have := hSS.out b hb
      omega
    · clear hz2
      repeat first | refine OP ?_ | refine SK ?_ | refine OPN ?_ | refine OM ?_ | refine SM ?_ | refine OMN ?_ | refine WM.nil ?_ | refine OQ ?_ | refine SQ ?_ | refine TH ?_ | refine WR.nil ?_ | refine WQ.nil ?_ | refine W.seq ?_ | refine W.region ?_ | refine DR ?_ | refine IFT ?_ | refine IFF ?_ | refine W.skip ?_ | refine W.block ?_ | refine W.exit ?_ | refine W.ret ?_ | (simp only [tN, tR, tE, rN, rR, rE, xN, xR, xE, reduceIte]) | refine DN ?_
      refine ⟨S ++ S2, ownX_mk2 (ownX_congr (fun k hk => by have := (hS1.out k hk).1; simp [upd_if, show ¬ k = 1 by omega, show ¬ k = 2 by omega]) hzz.out) (ownX_congr (fun k hk => by have := hS21.out k hk; simp [upd_if, show ¬ k = 1 by omega, show ¬ k = 2 by omega]) hz2'.out), List.nodup_append.mpr ⟨hn.out, hn2.out, fun a ha b hb e => ?_⟩⟩
      have := (hS1.out a ha).2
      have := hSS.out b hb
      omega
    · clear hz2
      repeat first | refine OP ?_ | refine SK ?_ | refine OPN ?_ | refine OM ?_ | refine SM ?_ | refine OMN ?_ | refine WM.nil ?_ | refine OQ ?_ | refine SQ ?_ | refine TH ?_ | refine WR.nil ?_ | refine WQ.nil ?_ | refine W.seq ?_ | refine W.region ?_ | refine DR ?_ | refine IFT ?_ | refine IFF ?_ | refine W.skip ?_ | refine W.block ?_ | refine W.exit ?_ | refine W.ret ?_ | (simp only [tN, tR, tE, rN, rR, rE, xN, xR, xE, reduceIte]) | refine DN ?_
      refine ⟨S ++ S2, ownX_mk2 (ownX_congr (fun k hk => by have := (hS1.out k hk).1; simp [upd_if, show ¬ k = 1 by omega, show ¬ k = 2 by omega]) hzz.out) (ownX_congr (fun k hk => by have := hS21.out k hk; simp [upd_if, show ¬ k = 1 by omega, show ¬ k = 2 by omega]) hz2'.out), List.nodup_append.mpr ⟨hn.out, hn2.out, fun a ha b hb e => ?_⟩⟩
      have := (hS1.out a ha).2
      have := hSS.out b hb
      omega
  · clear hz
    repeat first | refine OP ?_ | refine SK ?_ | refine OPN ?_ | refine OM ?_ | refine SM ?_ | refine OMN ?_ | refine WM.nil ?_ | refine OQ ?_ | refine SQ ?_ | refine TH ?_ | refine WR.nil ?_ | refine WQ.nil ?_ | refine W.seq ?_ | refine W.region ?_ | refine DR ?_ | refine IFT ?_ | refine IFF ?_ | refine W.skip ?_ | refine W.block ?_ | refine W.exit ?_ | refine W.ret ?_ | (simp only [tN, tR, tE, rN, rR, rE, xN, xR, xE, reduceIte]) | refine DN ?_
    refine CWO (toPieceS_o G _ hp hc.out) ?_
    intro z2 H2 S2 m2 hz2 hn2 hS2 hf2 hm2
    have g1 := hf2 1 (by omega)
    have g2 := hf2 2 (by omega)
    have g0 := hf2 0 (by omega)
    simp [upd_if, f0, f1, f2] at g0 g1 g2
    have hzz := ownX_congr (fun k hk => (hf2 k (by have := (hS1.out k hk).2; omega)).trans (by have := (hS1.out k hk).1; simp [upd_if, show ¬ k = 2 by omega])) hz'.out
    have hSS : ∀ k ∈ S2, m ≤ k := fun k hk => by have := (hS2 k hk).1; omega
    have hS21 : ∀ k ∈ S2, 5 ≤ k := fun k hk => by have := hSS k hk; omega
    clear hf2 hS2 f0 f1 f2
    replace hn2 := Hid.mk hn2
    replace hzz := Hid.mk hzz
    replace hSS := Hid.mk hSS
    replace hS21 := Hid.mk hS21
    have hz2' := Hid.mk hz2
    rcases ownX_cases hz2 with ⟨o2, e2, ty2, sz2, rows2, t2, rfl, hH2, ho2⟩ | rfl | ⟨t2, rfl⟩
    · clear hz2
      have k5 := hS21.out o2 ho2
      have k1 : ¬ o2 = 1 := by omega
      have k2 : ¬ o2 = 2 := by omega
      clear ho2
      repeat first | refine OP ?_ | refine SK ?_ | refine OPN ?_ | refine OM ?_ | refine SM ?_ | refine OMN ?_ | refine WM.nil ?_ | refine OQ ?_ | refine SQ ?_ | refine TH ?_ | refine WR.nil ?_ | refine WQ.nil ?_ | refine W.seq ?_ | refine W.region ?_ | refine DR ?_ | refine IFT ?_ | refine IFF ?_ | refine W.skip ?_ | refine W.block ?_ | refine W.exit ?_ | refine W.ret ?_ | (simp only [tN, tR, tE, rN, rR, rE, xN, xR, xE, reduceIte]) | refine DN ?_
      refine ⟨S ++ S2, ownX_mk2 (ownX_congr (fun k hk => by have := (hS1.out k hk).1; simp [upd_if, show ¬ k = 1 by omega, show ¬ k = 2 by omega]) hzz.out) (ownX_congr (fun k hk => by have := hS21.out k hk; simp [upd_if, show ¬ k = 1 by omega, show ¬ k = 2 by omega]) hz2'.out), List.nodup_append.mpr ⟨hn.out, hn2.out, fun a ha b hb e => ?_⟩⟩
      have := (hS1.out a ha).2
      have := hSS.out b hb
      omega
    · clear hz2
      repeat first | refine OP ?_ | refine SK ?_ | refine OPN ?_ | refine OM ?_ | refine SM ?_ | refine OMN ?_ | refine WM.nil ?_ | refine OQ ?_ | refine SQ ?_ | refine TH ?_ | refine WR.nil ?_ | refine WQ.nil ?_ | refine W.seq ?_ | refine W.region ?_ | refine DR ?_ | refine IFT ?_ | refine IFF ?_ | refine W.skip ?_ | refine W.block ?_ | refine W.exit ?_ | refine W.ret ?_ | (simp only [tN, tR, tE, rN, rR, rE, xN, xR, xE, reduceIte]) | refine DN ?_
      refine ⟨S ++ S2, ownX_mk2 (ownX_congr (fun k hk => by have := (hS1.out k hk).1; simp [upd_if, show ¬ k = 1 by omega, show ¬ k = 2 by omega]) hzz.out) (ownX_congr (fun k hk => by have := hS21.out k hk; simp [upd_if, show ¬ k = 1 by omega, show ¬ k = 2 by omega]) hz2'.out), List.nodup_append.mpr ⟨hn.out, hn2.out, fun a ha b hb e => ?_⟩⟩
      have := (hS1.out a ha).2
      have := hSS.out b hb
      omega
    · clear hz2
      repeat first | refine OP ?_ | refine SK ?_ | refine OPN ?_ | refine OM ?_ | refine SM ?_ | refine OMN ?_ | refine WM.nil ?_ | refine OQ ?_ | refine SQ ?_ | refine TH ?_ | refine WR.nil ?_ | refine WQ.nil ?_ | refine W.seq ?_ | refine W.region ?_ | refine DR ?_ | refine IFT ?_ | refine IFF ?_ | refine W.skip ?_ | refine W.block ?_ | refine W.exit ?_ | refine W.ret ?_ | (simp only [tN, tR, tE, rN, rR, rE, xN, xR, xE, reduceIte]) | refine DN ?_
      refine ⟨S ++ S2, ownX_mk2 (ownX_congr (fun k hk => by have := (hS1.out k hk).1; simp [upd_if, show ¬ k = 1 by omega, show ¬ k = 2 by omega]) hzz.out) (ownX_congr (fun k hk => by have := hS21.out k hk; simp [upd_if, show ¬ k = 1 by omega, show ¬ k = 2 by omega]) hz2'.out), List.nodup_append.mpr ⟨hn.out, hn2.out, fun a ha b hb e => ?_⟩⟩
      have := (hS1.out a ha).2
      have := hSS.out b hb
      omega
end Go.Proofs
end
section
open Go Go.Big
namespace Go.Proofs
set_option maxHeartbeats 2000000
theorem markPuzzle_m (G : Gv) (r : List (Int × Int)) (l : List PieceM) (k : Int) (hr : r.length < 1000000000) (hl : l.length < 1000000000) (hc : ∀ p ∈ l, p.cs.length < 1000000000) (hk0 : 0 ≤ k) (hk : k + 2 * r.length + cntQ l < 1000000000000) :
    Marks Tryz.prog G 24 (.ag [.sl 1 (cells r), .sl 1 (pieces l)]) (.ag [.sl 1 (cells (runC k r.length)), .sl 1 (pieces (mkQ (k + 2 * r.length) l))]) k (k + 2 * r.length + cntQ l) := by
  intro x H0 n0 S hx hn hS
  have hcn := cntQ_nn l
  obtain ⟨za, zb, s1, s2, rfl, rfl, hxa, hxb⟩ := ownX_ag2 hx
  clear hx
  rw [List.nodup_append] at hn
  obtain ⟨hn1, hn2, hn3⟩ := hn
  have hS1 : ∀ o ∈ s1, o < n0 := fun o ho => hS o (by simp [ho])
  have hS2 : ∀ o ∈ s2, o < n0 := fun o ho => hS o (by simp [ho])
  have pa := (ownX_plain hxa).1
  have pb := (ownX_plain hxb).1
  replace hxa := Hid.mk hxa
  replace hxb := Hid.mk hxb
  replace hn1 := Hid.mk hn1
  replace hn2 := Hid.mk hn2
  replace hn3 := Hid.mk hn3
  replace hS1 := Hid.mk hS1
  replace hS2 := Hid.mk hS2
  replace hc := Hid.mk hc
  clear hS
  refine (.body Tryz.func24 rfl (by simp [Tryz.ntmps24]) ?_)
  rw [Tryz.ntmps24, Tryz.results24]
  refine W.seq ?_
  refine W.region ?_
  refine OP (y := .ptr n0 0 0 0) (H1 := H0.upd n0 (.box 35 [za, zb])) (op := .box 35 (.tmp 0)) ?_ (hs := by rw [st_box]; simp [flatA, pa, pb, argE])
  repeat first | refine OP ?_ | refine SK ?_ | refine OPN ?_ | refine OM ?_ | refine SM ?_ | refine OMN ?_ | refine WM.nil ?_ | refine OQ ?_ | refine SQ ?_ | refine TH ?_ | refine WR.nil ?_ | refine WQ.nil ?_ | refine W.seq ?_ | refine W.region ?_ | refine DR ?_ | refine IFT ?_ | refine IFF ?_ | refine W.skip ?_ | refine W.block ?_ | refine W.exit ?_ | refine W.ret ?_ | (simp only [tN, tR, tE, rN, rR, rE, xN, xR, xE, reduceIte]) | refine DN ?_
  refine CI ?_
  refine WC.mono (markCellS_m G r k hr hk0 (by omega) _ _ _ s1 (ownX_congr (fun o ho => by rw [upd_if, if_neg (by have := hS1.out o ho; omega)]) hxa.out) hn1.out (fun o ho => by have := hS1.out o ho; omega)) ?_
  rintro _ H1 m ⟨rfl, hm, hz1, hf1⟩
  have hb := hf1 n0 (by omega) (fun h => by have := hS1.out _ h; omega)
  rw [upd_if, if_pos rfl] at hb
  have hxb1 := ownX_congr (H' := H1) (fun o ho => by rw [hf1 o (by have := hS2.out o ho; omega) (fun h => hn3.out o h o ho rfl), upd_if, if_neg (by have := hS2.out o ho; omega)]) hxb.out
  replace hxb1 := Hid.mk hxb1
  replace hz1 := Hid.mk hz1
  replace hf1 := Hid.mk hf1
  clear pa pb
  repeat first | refine OP ?_ | refine SK ?_ | refine OPN ?_ | refine OM ?_ | refine SM ?_ | refine OMN ?_ | refine WM.nil ?_ | refine OQ ?_ | refine SQ ?_ | refine TH ?_ | refine WR.nil ?_ | refine WQ.nil ?_ | refine W.seq ?_ | refine W.region ?_ | refine DR ?_ | refine IFT ?_ | refine IFF ?_ | refine W.skip ?_ | refine W.block ?_ | refine W.exit ?_ | refine W.ret ?_ | (simp only [tN, tR, tE, rN, rR, rE, xN, xR, xE, reduceIte]) | refine DN ?_
  refine CI ?_
  refine WC.mono (markPieceS_m G l (k + 2 * r.length) hl hc.out (by omega) (by omega) _ _ _ s2 hxb1.out hn2.out (fun o ho => by have := hS2.out o ho; omega)) ?_
  rintro _ H2 m2 ⟨rfl, hm2, hz2, hf2⟩
  have hb2 := hf2 n0 (by omega) (fun h => by have := hS2.out _ h; omega)
  replace hz2 := Hid.mk hz2
  replace hf2 := Hid.mk hf2
  repeat first | refine OP ?_ | refine SK ?_ | refine OPN ?_ | refine OM ?_ | refine SM ?_ | refine OMN ?_ | refine WM.nil ?_ | refine OQ ?_ | refine SQ ?_ | refine TH ?_ | refine WR.nil ?_ | refine WQ.nil ?_ | refine W.seq ?_ | refine W.region ?_ | refine DR ?_ | refine IFT ?_ | refine IFF ?_ | refine W.skip ?_ | refine W.block ?_ | refine W.exit ?_ | refine W.ret ?_ | (simp only [tN, tR, tE, rN, rR, rE, xN, xR, xE, reduceIte]) | refine DN ?_
  refine ⟨rfl, by omega, ownX_mk2 (ownX_congr (fun o ho => hf2.out o (by have := hS1.out o ho; omega) (fun h => hn3.out o ho o h rfl)) hz1.out) hz2.out, fun o ho hno => ?_⟩
  rw [hf2.out o (by omega) (fun h => hno (by simp [h])), hf1.out o (by omega) (fun h => hno (by simp [h])), upd_if, if_neg (by omega)]
theorem markPlacement_m (G : Gv) (j : Int) (l : List Int) (k : Int) (hl : l.length < 1000000000) (hk0 : 0 ≤ k) (hk : k < 1000000000000) :
    Marks Tryz.prog G 44 (.ag [.i .i64 j, .sl 1 (ints l)]) (.ag [.i .i64 j, .sl 1 (ints (runI k l.length))]) k (k + l.length) := by
  intro x H0 n0 S hx hn hS
  obtain ⟨zi, za, s2, s1, rfl, rfl, hxi, hxa⟩ := ownX_ag2 hx
  obtain ⟨rfl, rfl⟩ := ownX_i hxi
  clear hx hxi
  rw [List.nil_append] at hn hS ⊢
  have pa := (ownX_plain hxa).1
  have pi : plainA H0 (.i .i64 j) = true := rfl
  replace hxa := Hid.mk hxa
  replace hn := Hid.mk hn
  replace hS := Hid.mk hS
  refine (.body Tryz.func44 rfl (by simp [Tryz.ntmps44]) ?_)
  rw [Tryz.ntmps44, Tryz.results44]
  refine W.seq ?_
  refine W.region ?_
  refine OP (y := .ptr n0 0 0 0) (H1 := H0.upd n0 (.box 55 [.i .i64 j, za])) (op := .box 55 (.tmp 0)) ?_ (hs := by rw [st_box]; simp [flatA, pa, pi, argE])
  clear pa pi
  repeat first | refine OP ?_ | refine SK ?_ | refine OPN ?_ | refine OM ?_ | refine SM ?_ | refine OMN ?_ | refine WM.nil ?_ | refine OQ ?_ | refine SQ ?_ | refine TH ?_ | refine WR.nil ?_ | refine WQ.nil ?_ | refine W.seq ?_ | refine W.region ?_ | refine DR ?_ | refine IFT ?_ | refine IFF ?_ | refine W.skip ?_ | refine W.block ?_ | refine W.exit ?_ | refine W.ret ?_ | (simp only [tN, tR, tE, rN, rR, rE, xN, xR, xE, reduceIte]) | refine DN ?_
  refine CI ?_
  refine WC.mono (markInt64S_m G l k hl hk0 hk _ _ _ s1 (ownX_congr (fun o ho => by rw [upd_if, if_neg (by have := hS.out o ho; omega)]) hxa.out) hn.out (fun o ho => by have := hS.out o ho; omega)) ?_
  rintro _ H1 m ⟨rfl, hm, hz1, hf1⟩
  replace hz1 := Hid.mk hz1
  replace hf1 := Hid.mk hf1
  repeat first | refine OP ?_ | refine SK ?_ | refine OPN ?_ | refine OM ?_ | refine SM ?_ | refine OMN ?_ | refine WM.nil ?_ | refine OQ ?_ | refine SQ ?_ | refine TH ?_ | refine WR.nil ?_ | refine WQ.nil ?_ | refine W.seq ?_ | refine W.region ?_ | refine DR ?_ | refine IFT ?_ | refine IFF ?_ | refine W.skip ?_ | refine W.block ?_ | refine W.exit ?_ | refine W.ret ?_ | (simp only [tN, tR, tE, rN, rR, rE, xN, xR, xE, reduceIte]) | refine DN ?_
  refine ⟨rfl, by omega, ownX_mk2 (s1 := []) ownX_mki hz1.out, fun o ho hno => ?_⟩
  rw [hf1.out o (by omega) hno, upd_if, if_neg (by omega)]
end Go.Proofs
end
section
open Go Go.Big
namespace Go.Proofs
set_option maxHeartbeats 2000000
theorem szP_cnt : ∀ {l : List PieceM} {left : Int}, ¬ szP l left < 0 → cntQ l ≤ 2 * left + 2 * l.length
  | [], left, h => by simp only [szP] at h; simp only [cntQ, List.length_nil]; omega
  | p :: l, left, h => by
    unfold szP at h
    split at h
    · simp at h
    · rename_i c
      have := szP_cnt h
      unfold szN at c this
      split at c
      · simp at c
      · rename_i c2
        rw [if_neg c2] at this
        simp only [cntQ, List.length_cons]; omega
theorem szPz_cnt {r : List (Int × Int)} {l : List PieceM} {left : Int} (h : ¬ szPz r l left < 0) : cntQ l ≤ 2 * left + 2 * left := by
  unfold szPz at h
  split at h
  · simp at h
  · rename_i c
    unfold szPS at h
    split at h
    · simp at h
    · rename_i c2
      have := szP_cnt h
      have := szN_le c
      omega
theorem szPL_cnt : ∀ {l : List (Int × List Int)} {left : Int}, ¬ szPL l left < 0 → cntP l ≤ left + l.length
  | [], left, h => by simp only [szPL] at h; simp only [cntP, List.length_nil]; omega
  | p :: l, left, h => by
    unfold szPL at h
    split at h
    · simp at h
    · rename_i c
      have := szPL_cnt h
      unfold szN at c this
      split at c
      · simp at c
      · rename_i c2
        rw [if_neg c2] at this
        simp only [cntP, List.length_cons]; omega
theorem szPLS_cnt {l : List (Int × List Int)} {left : Int} (h : ¬ szPLS l left < 0) : cntP l ≤ left + left := by
  unfold szPLS at h
  split at h
  · simp at h
  · have := szPL_cnt h
    omega
theorem law_fn (G : Gv) (hG : ∀ f args H n r H' n', sortsG f args H n r H' n' → G f args H n r H' n') (hG1 : ∀ f args H n r H' n', sortsG1 f args H n r H' n' → G f args H n r H' n') (r : List (Int × Int)) (l : List PieceM) (s : List (Int × List Int))
    (hr : r.length ≤ 9223372036854775807) (hl : l.length ≤ 9223372036854775807) (hs : s.length ≤ 9223372036854775807) (hc : ∀ p ∈ l, p.cs.length ≤ 9223372036854775807) (hsc : ∀ x ∈ s, x.2.length ≤ 9223372036854775807)
    (hpure : r.length < 1000000000 → l.length < 1000000000 → s.length < 1000000000 → (∀ p ∈ l, p.cs.length < 1000000000) → (∀ x ∈ s, x.2.length < 1000000000) → cleftI r l s = cleftS r l s ∧ (cleftI r l s).1.length < 1000000000) :
    Gives Tryz.prog G 4 [.ag [.sl 0 (cells r), .sl 0 (pieces l)], .sl 0 (places s)] (.b true) := by
  refine .of (.body Tryz.func4 rfl (by simp [Tryz.ntmps4]) ?_)
  rw [Tryz.ntmps4, Tryz.results4]
  replace hG := Hid.mk hG
  replace hG1 := Hid.mk hG1
  replace hc := Hid.mk hc
  replace hsc := Hid.mk hsc
  replace hpure := Hid.mk hpure
  repeat first | refine OP ?_ | refine SK ?_ | refine OPN ?_ | refine OM ?_ | refine SM ?_ | refine OMN ?_ | refine WM.nil ?_ | refine OQ ?_ | refine SQ ?_ | refine TH ?_ | refine WR.nil ?_ | refine WQ.nil ?_ | refine W.seq ?_ | refine W.region ?_ | refine DR ?_ | refine IFT ?_ | refine IFF ?_ | refine W.skip ?_ | refine W.block ?_ | refine W.exit ?_ | refine W.ret ?_ | (simp only [tN, tR, tE, rN, rR, rE, xN, xR, xE, reduceIte]) | refine DN ?_
  refine CV (szPuzzle_fn G r l 1048576 hr hl hc.out (by omega) (by omega)) ?_
  by_cases c1 : szPz r l 1048576 < 0
  · repeat first | refine OP ?_ | refine SK ?_ | refine OPN ?_ | refine OM ?_ | refine SM ?_ | refine OMN ?_ | refine WM.nil ?_ | refine OQ ?_ | refine SQ ?_ | refine TH ?_ | refine WR.nil ?_ | refine WQ.nil ?_ | refine W.seq ?_ | refine W.region ?_ | refine DR ?_ | refine IFT ?_ | refine IFF ?_ | refine W.skip ?_ | refine W.block ?_ | refine W.exit ?_ | refine W.ret ?_ | (simp only [tN, tR, tE, rN, rR, rE, xN, xR, xE, reduceIte]) | refine DN ?_
    simp [retA, backA]
  obtain ⟨g1, g2, g3, g4, g5⟩ := szPz_le (Int.le_refl _) c1
  replace g3 := Hid.mk g3
  repeat first | refine OP ?_ | refine SK ?_ | refine OPN ?_ | refine OM ?_ | refine SM ?_ | refine OMN ?_ | refine WM.nil ?_ | refine OQ ?_ | refine SQ ?_ | refine TH ?_ | refine WR.nil ?_ | refine WQ.nil ?_ | refine W.seq ?_ | refine W.region ?_ | refine DR ?_ | refine IFT ?_ | refine IFF ?_ | refine W.skip ?_ | refine W.block ?_ | refine W.exit ?_ | refine W.ret ?_ | (simp only [tN, tR, tE, rN, rR, rE, xN, xR, xE, reduceIte]) | refine DN ?_
  refine CV (szPlacementS_fn G s _ hs hsc.out g4 g5) ?_
  by_cases c2 : szPLS s (szPz r l 1048576) < 0
  · repeat first | refine OP ?_ | refine SK ?_ | refine OPN ?_ | refine OM ?_ | refine SM ?_ | refine OMN ?_ | refine WM.nil ?_ | refine OQ ?_ | refine SQ ?_ | refine TH ?_ | refine WR.nil ?_ | refine WQ.nil ?_ | refine W.seq ?_ | refine W.region ?_ | refine DR ?_ | refine IFT ?_ | refine IFF ?_ | refine W.skip ?_ | refine W.block ?_ | refine W.exit ?_ | refine W.ret ?_ | (simp only [tN, tR, tE, rN, rR, rE, xN, xR, xE, reduceIte]) | refine DN ?_
    simp [retA, backA]
  obtain ⟨g6, g7⟩ := szPLS_le g5 c2
  have hr9 : r.length < 1000000000 := by omega
  have hl9 : l.length < 1000000000 := by omega
  have hs9 : s.length < 1000000000 := by omega
  have hc9 : ∀ p ∈ l, p.cs.length < 1000000000 := fun p hp => by have := g3.out p hp; omega
  have hsc9 : ∀ x ∈ s, x.2.length < 1000000000 := fun p hp => by have := g7 p hp; omega
  have hkq : cntQ l < 100000000000 := by have := szPz_cnt c1; omega
  have hkp : cntP s < 100000000000 := by have := szPLS_cnt c2; omega
  have hkq0 := cntQ_nn l
  have hkp0 := cntP_nn s
  obtain ⟨hp, hwl⟩ := hpure.out hr9 hl9 hs9 hc9 hsc9
  have hspec := specCellsLeft_fn G r l s hr9 hl9 hs9 hsc9 hc9
  have himpl := implCellsLeft_o G hG.out hG1.out r l s hr9 hl9 hs9 hsc9 hc9
  rw [← hp] at hspec
  generalize cleftI r l s = w at hspec himpl hwl
  obtain ⟨w, wc⟩ := w
  simp only at hspec himpl hwl
  have hbb : (wc != wc) = false := by simp
  replace hspec := Hid.mk hspec
  replace himpl := Hid.mk himpl
  replace hc9 := Hid.mk hc9
  replace hsc9 := Hid.mk hsc9
  clear g1 g2 g4 g5 g6 g7 hp
  repeat first | refine OP ?_ | refine SK ?_ | refine OPN ?_ | refine OM ?_ | refine SM ?_ | refine OMN ?_ | refine WM.nil ?_ | refine OQ ?_ | refine SQ ?_ | refine TH ?_ | refine WR.nil ?_ | refine WQ.nil ?_ | refine W.seq ?_ | refine W.region ?_ | refine DR ?_ | refine IFT ?_ | refine IFF ?_ | refine W.skip ?_ | refine W.block ?_ | refine W.exit ?_ | refine W.ret ?_ | (simp only [tN, tR, tE, rN, rR, rE, xN, xR, xE, reduceIte]) | refine DN ?_
  refine CV (toPuzzle_fn G r l hr9 hl9 hc9.out) ?_
  repeat first | refine OP ?_ | refine SK ?_ | refine OPN ?_ | refine OM ?_ | refine SM ?_ | refine OMN ?_ | refine WM.nil ?_ | refine OQ ?_ | refine SQ ?_ | refine TH ?_ | refine WR.nil ?_ | refine WQ.nil ?_ | refine W.seq ?_ | refine W.region ?_ | refine DR ?_ | refine IFT ?_ | refine IFF ?_ | refine W.skip ?_ | refine W.block ?_ | refine W.exit ?_ | refine W.ret ?_ | (simp only [tN, tR, tE, rN, rR, rE, xN, xR, xE, reduceIte]) | refine DN ?_
  refine CV (toPlacementS_fn G s hs9 hsc9.out) ?_
  repeat first | refine OP ?_ | refine SK ?_ | refine OPN ?_ | refine OM ?_ | refine SM ?_ | refine OMN ?_ | refine WM.nil ?_ | refine OQ ?_ | refine SQ ?_ | refine TH ?_ | refine WR.nil ?_ | refine WQ.nil ?_ | refine W.seq ?_ | refine W.region ?_ | refine DR ?_ | refine IFT ?_ | refine IFF ?_ | refine W.skip ?_ | refine W.block ?_ | refine W.exit ?_ | refine W.ret ?_ | (simp only [tN, tR, tE, rN, rR, rE, xN, xR, xE, reduceIte]) | refine DN ?_
  refine CV hspec.out ?_
  repeat first | refine OP ?_ | refine SK ?_ | refine OPN ?_ | refine OM ?_ | refine SM ?_ | refine OMN ?_ | refine WM.nil ?_ | refine OQ ?_ | refine SQ ?_ | refine TH ?_ | refine WR.nil ?_ | refine WQ.nil ?_ | refine W.seq ?_ | refine W.region ?_ | refine DR ?_ | refine IFT ?_ | refine IFF ?_ | refine W.skip ?_ | refine W.block ?_ | refine W.exit ?_ | refine W.ret ?_ | (simp only [tN, tR, tE, rN, rR, rE, xN, xR, xE, reduceIte]) | refine DN ?_
  refine CWO (toPuzzle_o G r l hr9 hl9 hc9.out) ?_
  intro z H1 S m hz hn hS hf hm
  have B0 := hf 0 (by omega)
  simp [upd_if] at B0
  obtain ⟨za, zb, sa, sb, rfl, rfl, ha, hb⟩ := ownX_ag2 hz
  refine OP ?_
  have hm0 : ∀ o ∈ sa ++ sb, o ≠ m := fun o ho => by have := hS o ho; omega
  have ha' := ownX_congr (H' := H1.upd m (.box 35 [.nil, .nil])) (fun o ho => by rw [upd_if, if_neg (hm0 o (by simp [ho]))]) ha
  have hb' := ownX_congr (H' := H1.upd m (.box 35 [.nil, .nil])) (fun o ho => by rw [upd_if, if_neg (hm0 o (by simp [ho]))]) hb
  have pa := (ownX_plain ha').1
  have pb := (ownX_plain hb').1
  refine OPN (op := .store 35 (.tmp 8) (.tmp 36)) (H1 := (H1.upd m (.box 35 [.nil, .nil])).upd m (.box 35 [za, zb])) (y := .un) ?_ (hs := by
    rw [st_store]
    simp only [look_tmp, setF_if, Nat.reduceEqDiff, reduceIte, flatA, List.all_cons, List.all_nil, pa, pb, Bool.and_self, BT.all, storeA, upd_if, putA, List.length_cons, List.length_nil, Nat.reduceAdd, Nat.reduceLeDiff, List.set_cons_zero, List.set_cons_succ, Option.map_some])
  refine WR.nil ?_
  refine TH ?_
  refine W.cutn ?_
  intro EX HX NX hEX hHX hNX
  have e1 := hEX 1
  have e2 := hEX 2
  have e6 := hEX 6
  have e7 := hEX 7
  have e8 := hEX 8
  simp only [setF_if, argE, Nat.reduceEqDiff, reduceIte, List.getElem?_cons_zero, List.getElem?_cons_succ, Option.getD_some] at e1 e2 e6 e7 e8
  have hN : m < NX := by omega
  have HB0 : HX 0 = some (.box 25 [.sl 0 (cells r), .sl 0 (pieces l)]) := by rw [hHX, upd_if, if_neg (by omega), upd_if, if_neg (by omega)]; exact B0
  have HBm : HX m = some (.box 35 [za, zb]) := by rw [hHX, upd_if, if_pos rfl]
  have hxa := ownX_congr (H' := HX) (fun o ho => by have := hm0 o (by simp [ho]); rw [hHX, upd_if, if_neg this, upd_if, if_neg this]) ha
  have hxb := ownX_congr (H' := HX) (fun o ho => by have := hm0 o (by simp [ho]); rw [hHX, upd_if, if_neg this, upd_if, if_neg this]) hb
  have hsa : ∀ o ∈ sa, o < m := fun o ho => (hS o (by simp [ho])).2
  have hsb : ∀ o ∈ sb, o < m := fun o ho => (hS o (by simp [ho])).2
  rw [List.nodup_append] at hn
  obtain ⟨hna, hnb, hnab⟩ := hn
  clear hEX hHX hNX pa pb ha hb ha' hb' hm0 hf B0 hz
  replace hxa := Hid.mk hxa
  replace hxb := Hid.mk hxb
  replace hsa := Hid.mk hsa
  replace hsb := Hid.mk hsb
  replace hna := Hid.mk hna
  replace hnb := Hid.mk hnb
  replace hnab := Hid.mk hnab
  replace hS := Hid.mk hS
  have hm0 : 0 < m := by omega
  repeat first | refine OP ?_ | refine SK ?_ | refine OPN ?_ | refine OM ?_ | refine SM ?_ | refine OMN ?_ | refine WM.nil ?_ | refine OQ ?_ | refine SQ ?_ | refine TH ?_ | refine WR.nil ?_ | refine WQ.nil ?_ | refine W.seq ?_ | refine W.region ?_ | refine DR ?_ | refine IFT ?_ | refine IFF ?_ | refine W.skip ?_ | refine W.block ?_ | refine W.exit ?_ | refine W.ret ?_ | (simp only [tN, tR, tE, rN, rR, rE, xN, xR, xE, reduceIte]) | refine DN ?_
  refine CWO (toPlacementS_o G s hs9 hsc9.out) ?_
  intro z1 H2 S1 m2 hz1 hn1 hS1 hf1 hm1
  have HC0 := (hf1 0 (by omega)).trans HB0
  have HCm := (hf1 m (by omega)).trans HBm
  have hya := ownX_congr (fun o ho => hf1 o (by have := hsa.out o ho; omega)) hxa.out
  have hyb := ownX_congr (fun o ho => hf1 o (by have := hsb.out o ho; omega)) hxb.out
  have hs1 : ∀ o ∈ S1, m < o ∧ o < m2 := fun o ho => by have := hS1 o ho; omega
  have ga := ownX_gives hya
  have gb := ownX_gives hyb
  have g1 := ownX_gives hz1
  clear hf1 hxa hxb HB0 HBm hS1
  replace hya := Hid.mk hya
  replace hyb := Hid.mk hyb
  replace hz1 := Hid.mk hz1
  replace hn1 := Hid.mk hn1
  replace hs1 := Hid.mk hs1
  repeat first | refine OP ?_ | refine SK ?_ | refine OPN ?_ | refine OM ?_ | refine SM ?_ | refine OMN ?_ | refine WM.nil ?_ | refine OQ ?_ | refine SQ ?_ | refine TH ?_ | refine WR.nil ?_ | refine WQ.nil ?_ | refine W.seq ?_ | refine W.region ?_ | refine DR ?_ | refine IFT ?_ | refine IFF ?_ | refine W.skip ?_ | refine W.block ?_ | refine W.exit ?_ | refine W.ret ?_ | (simp only [tN, tR, tE, rN, rR, rE, xN, xR, xE, reduceIte]) | refine DN ?_
  refine CWO himpl.out ?_
  intro zg H3 S3 m3 hzg hn3 hS3 hf3 hm3
  obtain ⟨zw, zc, S3, s4, rfl, rfl, hw, hc4⟩ := ownX_tup2 hzg
  obtain ⟨rfl, rfl⟩ := ownX_i hc4
  simp only [List.append_nil] at hn3 hS3
  have HD0 := (hf3 0 (by omega)).trans HC0
  have HDm := (hf3 m (by omega)).trans HCm
  have hya3 := ownX_congr (fun o ho => hf3 o (by have := hsa.out o ho; omega)) hya.out
  have hyb3 := ownX_congr (fun o ho => hf3 o (by have := hsb.out o ho; omega)) hyb.out
  have hz13 := ownX_congr (fun o ho => hf3 o (by have := (hs1.out o ho).2; omega)) hz1.out
  have hs3 : ∀ o ∈ S3, m2 ≤ o ∧ o < m3 := fun o ho => by have := hS3 o ho; omega
  clear ga gb g1
  have ga := ownX_gives hya3
  have gb := ownX_gives hyb3
  have g1 := ownX_gives hz13
  have gw := ownX_gives hw
  clear hf3 hya hyb hz1 HC0 HCm hS3 hzg hc4
  replace hya3 := Hid.mk hya3
  replace hyb3 := Hid.mk hyb3
  replace hz13 := Hid.mk hz13
  replace hw := Hid.mk hw
  replace hn3 := Hid.mk hn3
  replace hs3 := Hid.mk hs3
  repeat first | refine OP ?_ | refine SK ?_ | refine OPN ?_ | refine OM ?_ | refine SM ?_ | refine OMN ?_ | refine WM.nil ?_ | refine OQ ?_ | refine SQ ?_ | refine TH ?_ | refine WR.nil ?_ | refine WQ.nil ?_ | refine W.seq ?_ | refine W.region ?_ | refine DR ?_ | refine IFT ?_ | refine IFF ?_ | refine W.skip ?_ | refine W.block ?_ | refine W.exit ?_ | refine W.ret ?_ | (simp only [tN, tR, tE, rN, rR, rE, xN, xR, xE, reduceIte]) | refine DN ?_
  refine CV (eqInt64S_fn G w hwl) ?_
  repeat first | refine OP ?_ | refine SK ?_ | refine OPN ?_ | refine OM ?_ | refine SM ?_ | refine OMN ?_ | refine WM.nil ?_ | refine OQ ?_ | refine SQ ?_ | refine TH ?_ | refine WR.nil ?_ | refine WQ.nil ?_ | refine W.seq ?_ | refine W.region ?_ | refine DR ?_ | refine IFT ?_ | refine IFF ?_ | refine W.skip ?_ | refine W.block ?_ | refine W.exit ?_ | refine W.ret ?_ | (simp only [tN, tR, tE, rN, rR, rE, xN, xR, xE, reduceIte]) | refine DN ?_
  refine CQ (toPuzzle_fn G r l hr9 hl9 hc9.out) ?_
  repeat first | refine OP ?_ | refine SK ?_ | refine OPN ?_ | refine OM ?_ | refine SM ?_ | refine OMN ?_ | refine WM.nil ?_ | refine OQ ?_ | refine SQ ?_ | refine TH ?_ | refine WR.nil ?_ | refine WQ.nil ?_ | refine W.seq ?_ | refine W.region ?_ | refine DR ?_ | refine IFT ?_ | refine IFF ?_ | refine W.skip ?_ | refine W.block ?_ | refine W.exit ?_ | refine W.ret ?_ | (simp only [tN, tR, tE, rN, rR, rE, xN, xR, xE, reduceIte]) | refine DN ?_
  refine CQ (eqPuzzle_fn G r l hr9 hl9 hc9.out) ?_
  repeat first | refine OP ?_ | refine SK ?_ | refine OPN ?_ | refine OM ?_ | refine SM ?_ | refine OMN ?_ | refine WM.nil ?_ | refine OQ ?_ | refine SQ ?_ | refine TH ?_ | refine WR.nil ?_ | refine WQ.nil ?_ | refine W.seq ?_ | refine W.region ?_ | refine DR ?_ | refine IFT ?_ | refine IFF ?_ | refine W.skip ?_ | refine W.block ?_ | refine W.exit ?_ | refine W.ret ?_ | (simp only [tN, tR, tE, rN, rR, rE, xN, xR, xE, reduceIte]) | refine DN ?_
  refine CV (toPlacementS_fn G s hs9 hsc9.out) ?_
  repeat first | refine OP ?_ | refine SK ?_ | refine OPN ?_ | refine OM ?_ | refine SM ?_ | refine OMN ?_ | refine WM.nil ?_ | refine OQ ?_ | refine SQ ?_ | refine TH ?_ | refine WR.nil ?_ | refine WQ.nil ?_ | refine W.seq ?_ | refine W.region ?_ | refine DR ?_ | refine IFT ?_ | refine IFF ?_ | refine W.skip ?_ | refine W.block ?_ | refine W.exit ?_ | refine W.ret ?_ | (simp only [tN, tR, tE, rN, rR, rE, xN, xR, xE, reduceIte]) | refine DN ?_
  refine CV (eqPlacementS_fn G s hs9 hsc9.out) ?_
  repeat first | refine OP ?_ | refine SK ?_ | refine OPN ?_ | refine OM ?_ | refine SM ?_ | refine OMN ?_ | refine WM.nil ?_ | refine OQ ?_ | refine SQ ?_ | refine TH ?_ | refine WR.nil ?_ | refine WQ.nil ?_ | refine W.seq ?_ | refine W.region ?_ | refine DR ?_ | refine IFT ?_ | refine IFF ?_ | refine W.skip ?_ | refine W.block ?_ | refine W.exit ?_ | refine W.ret ?_ | (simp only [tN, tR, tE, rN, rR, rE, xN, xR, xE, reduceIte]) | refine DN ?_
  refine CI ?_
  refine WC.mono (markPuzzle_m G r l 1 hr9 hl9 hc9.out (by omega) (by omega) _ H3 _ (sa ++ sb) (ownX_mk2 hya3.out hyb3.out) (List.nodup_append.mpr ⟨hna.out, hnb.out, hnab.out⟩) (fun o ho => by rcases List.mem_append.mp ho with h | h; have := hsa.out o h; omega; have := hsb.out o h; omega)) ?_
  rintro _ H4 m4 ⟨rfl, hm4, _, hf4⟩
  have HE0 := (hf4 0 (by omega) (fun h => by have := (hS.out 0 h).1; omega)).trans HD0
  have hz14 := ownX_congr (fun o ho => hf4 o (by have := (hs1.out o ho).2; omega) (fun h => by have := (hs1.out o ho).1; rcases List.mem_append.mp h with h | h; have := hsa.out o h; omega; have := hsb.out o h; omega)) hz13.out
  have hw4 := ownX_congr (fun o ho => hf4 o (by have := (hs3.out o ho).2; omega) (fun h => by have := (hs3.out o ho).1; rcases List.mem_append.mp h with h | h; have := hsa.out o h; omega; have := hsb.out o h; omega)) hw.out
  clear hf4 ga gb g1 gw hw hz13 hya3 hyb3 HD0 HDm
  replace hz14 := Hid.mk hz14
  replace hw4 := Hid.mk hw4
  repeat first | refine OP ?_ | refine SK ?_ | refine OPN ?_ | refine OM ?_ | refine SM ?_ | refine OMN ?_ | refine WM.nil ?_ | refine OQ ?_ | refine SQ ?_ | refine TH ?_ | refine WR.nil ?_ | refine WQ.nil ?_ | refine W.seq ?_ | refine W.region ?_ | refine DR ?_ | refine IFT ?_ | refine IFF ?_ | refine W.skip ?_ | refine W.block ?_ | refine W.exit ?_ | refine W.ret ?_ | (simp only [tN, tR, tE, rN, rR, rE, xN, xR, xE, reduceIte]) | refine DN ?_
  refine CI ?_
  refine WC.mono (markPlacementS_m G s (1 + 2 * r.length + cntQ l) hs9 hsc9.out (by omega) (by omega) _ H4 _ S1 hz14.out hn1.out (fun o ho => by have := (hs1.out o ho).2; omega)) ?_
  rintro _ H5 m5 ⟨rfl, hm5, _, hf5⟩
  have HF0 := (hf5 0 (by omega) (fun h => by have := (hs1.out 0 h).1; omega)).trans HE0
  have hw5 := ownX_congr (fun o ho => hf5 o (by have := (hs3.out o ho).2; omega) (fun h => by have := (hs3.out o ho).1; have := (hs1.out o h).2; omega)) hw4.out
  have gw := ownX_gives hw5
  have hkn : ¬ (1 + 2 * (r.length : Int) + cntQ l + cntP s < 0) := by omega
  clear hf5 hw4 hz14 HE0
  replace hw5 := Hid.mk hw5
  repeat first | refine OP ?_ | refine SK ?_ | refine OPN ?_ | refine OM ?_ | refine SM ?_ | refine OMN ?_ | refine WM.nil ?_ | refine OQ ?_ | refine SQ ?_ | refine TH ?_ | refine WR.nil ?_ | refine WQ.nil ?_ | refine W.seq ?_ | refine W.region ?_ | refine DR ?_ | refine IFT ?_ | refine IFF ?_ | refine W.skip ?_ | refine W.block ?_ | refine W.exit ?_ | refine W.ret ?_ | (simp only [tN, tR, tE, rN, rR, rE, xN, xR, xE, reduceIte]) | refine DN ?_
  refine CV (eqInt64S_fn G w hwl) ?_
  repeat first | refine OP ?_ | refine SK ?_ | refine OPN ?_ | refine OM ?_ | refine SM ?_ | refine OMN ?_ | refine WM.nil ?_ | refine OQ ?_ | refine SQ ?_ | refine TH ?_ | refine WR.nil ?_ | refine WQ.nil ?_ | refine W.seq ?_ | refine W.region ?_ | refine DR ?_ | refine IFT ?_ | refine IFF ?_ | refine W.skip ?_ | refine W.block ?_ | refine W.exit ?_ | refine W.ret ?_ | (simp only [tN, tR, tE, rN, rR, rE, xN, xR, xE, reduceIte]) | refine DN ?_
  refine CI ?_
  refine WC.mono (markInt64S_m G w 1 hwl (by omega) (by omega) _ H5 _ S3 hw5.out hn3.out (fun o ho => by have := (hs3.out o ho).2; omega)) ?_
  rintro _ H6 m6 ⟨rfl, hm6, hw6, hf6⟩
  have HG0 := (hf6 0 (by omega) (fun h => by have := (hs3.out 0 h).1; omega)).trans HF0
  clear gw hkn
  have gw := ownX_gives hw6
  have hkn : ¬ (1 + (w.length : Int) < 0) := by omega
  have hkk : (1 + (w.length : Int) != 1 + (w.length : Int)) = false := by simp
  clear hf6 hw5 HF0 hw6
  repeat first | refine OP ?_ | refine SK ?_ | refine OPN ?_ | refine OM ?_ | refine SM ?_ | refine OMN ?_ | refine WM.nil ?_ | refine OQ ?_ | refine SQ ?_ | refine TH ?_ | refine WR.nil ?_ | refine WQ.nil ?_ | refine W.seq ?_ | refine W.region ?_ | refine DR ?_ | refine IFT ?_ | refine IFF ?_ | refine W.skip ?_ | refine W.block ?_ | refine W.exit ?_ | refine W.ret ?_ | (simp only [tN, tR, tE, rN, rR, rE, xN, xR, xE, reduceIte]) | refine DN ?_
  refine CV (heldInt64S_fn G 1 w.length hwl (by omega) (by omega)) ?_
  repeat first | refine OP ?_ | refine SK ?_ | refine OPN ?_ | refine OM ?_ | refine SM ?_ | refine OMN ?_ | refine WM.nil ?_ | refine OQ ?_ | refine SQ ?_ | refine TH ?_ | refine WR.nil ?_ | refine WQ.nil ?_ | refine W.seq ?_ | refine W.region ?_ | refine DR ?_ | refine IFT ?_ | refine IFF ?_ | refine W.skip ?_ | refine W.block ?_ | refine W.exit ?_ | refine W.ret ?_ | (simp only [tN, tR, tE, rN, rR, rE, xN, xR, xE, reduceIte]) | refine DN ?_
  refine CV (toPuzzle_fn G r l hr9 hl9 hc9.out) ?_
  repeat first | refine OP ?_ | refine SK ?_ | refine OPN ?_ | refine OM ?_ | refine SM ?_ | refine OMN ?_ | refine WM.nil ?_ | refine OQ ?_ | refine SQ ?_ | refine TH ?_ | refine WR.nil ?_ | refine WQ.nil ?_ | refine W.seq ?_ | refine W.region ?_ | refine DR ?_ | refine IFT ?_ | refine IFF ?_ | refine W.skip ?_ | refine W.block ?_ | refine W.exit ?_ | refine W.ret ?_ | (simp only [tN, tR, tE, rN, rR, rE, xN, xR, xE, reduceIte]) | refine DN ?_
  refine CV (toPlacementS_fn G s hs9 hsc9.out) ?_
  repeat first | refine OP ?_ | refine SK ?_ | refine OPN ?_ | refine OM ?_ | refine SM ?_ | refine OMN ?_ | refine WM.nil ?_ | refine OQ ?_ | refine SQ ?_ | refine TH ?_ | refine WR.nil ?_ | refine WQ.nil ?_ | refine W.seq ?_ | refine W.region ?_ | refine DR ?_ | refine IFT ?_ | refine IFF ?_ | refine W.skip ?_ | refine W.block ?_ | refine W.exit ?_ | refine W.ret ?_ | (simp only [tN, tR, tE, rN, rR, rE, xN, xR, xE, reduceIte]) | refine DN ?_
  refine CV himpl.out.gives ?_
  repeat first | refine OP ?_ | refine SK ?_ | refine OPN ?_ | refine OM ?_ | refine SM ?_ | refine OMN ?_ | refine WM.nil ?_ | refine OQ ?_ | refine SQ ?_ | refine TH ?_ | refine WR.nil ?_ | refine WQ.nil ?_ | refine W.seq ?_ | refine W.region ?_ | refine DR ?_ | refine IFT ?_ | refine IFF ?_ | refine W.skip ?_ | refine W.block ?_ | refine W.exit ?_ | refine W.ret ?_ | (simp only [tN, tR, tE, rN, rR, rE, xN, xR, xE, reduceIte]) | refine DN ?_
  refine CV (eqInt64S_fn G w hwl) ?_
  repeat first | refine OP ?_ | refine SK ?_ | refine OPN ?_ | refine OM ?_ | refine SM ?_ | refine OMN ?_ | refine WM.nil ?_ | refine OQ ?_ | refine SQ ?_ | refine TH ?_ | refine WR.nil ?_ | refine WQ.nil ?_ | refine W.seq ?_ | refine W.region ?_ | refine DR ?_ | refine IFT ?_ | refine IFF ?_ | refine W.skip ?_ | refine W.block ?_ | refine W.exit ?_ | refine W.ret ?_ | (simp only [tN, tR, tE, rN, rR, rE, xN, xR, xE, reduceIte]) | refine DN ?_
  refine CV (heldInt64S_fn G 1 w.length hwl (by omega) (by omega)) ?_
  repeat first | refine OP ?_ | refine SK ?_ | refine OPN ?_ | refine OM ?_ | refine SM ?_ | refine OMN ?_ | refine WM.nil ?_ | refine OQ ?_ | refine SQ ?_ | refine TH ?_ | refine WR.nil ?_ | refine WQ.nil ?_ | refine W.seq ?_ | refine W.region ?_ | refine DR ?_ | refine IFT ?_ | refine IFF ?_ | refine W.skip ?_ | refine W.block ?_ | refine W.exit ?_ | refine W.ret ?_ | (simp only [tN, tR, tE, rN, rR, rE, xN, xR, xE, reduceIte]) | refine DN ?_
  simp [retA, backA]
end Go.Proofs
end
