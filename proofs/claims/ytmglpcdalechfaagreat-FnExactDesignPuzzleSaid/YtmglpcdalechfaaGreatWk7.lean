/- Walks: Puzzles and placements turned into ones that the caller owns. No condition. | Placements and puzzles turned into ones that the caller owns. No condition. | Plain law: what the one program computes of a puzzle and a placement is what the other does. No condition. -/
import Derived.Test.YtmglpcdalechfaaGreatBO
import Derived.Test.YtmglpcdalechfaaGreatWk6
import Derived.Test.YtmglpcdalechfaaGreatWk5
set_option linter.unusedVariables false
set_option linter.unusedSimpArgs false
section
open Go Go.Big
namespace Go.Proofs
set_option maxHeartbeats 2000000
theorem ownX_leaf {H : Heap} {z : AV} {rows : List (List PV)} {s : List Nat} (h : ownX H z (.sl 1 rows) s) (hs : scalRows rows) : ∃ q tg, pvOf z = some q ∧ tagOf z = tg ∧ ownP H q (.sl rows) s ∧ (noOb q = true ∨ tg = 2) := by
  rcases ownA_flat (ownX_un h) hs with ⟨o, e, ty, sz, t, rfl, h1, rfl, h2, h3⟩ | ⟨rfl | ⟨t, rfl⟩, rfl, rfl⟩
  · exact ⟨.ob o e, 2, rfl, rfl, ownP_mk h1 hs h2 h3, .inr rfl⟩
  · exact ⟨.sl [], 1, rfl, rfl, ⟨rfl, rfl, rfl⟩, .inl rfl⟩
  · exact ⟨.sl [], t, rfl, rfl, ⟨rfl, rfl, rfl⟩, .inl rfl⟩
theorem toPiece_o (G : Gv) (p : PieceM) (hl : p.cs.length < 1000000000) : GivesO Tryz.prog G 39 [pieceA 0 p] (pieceA 1 p) := by
  refine .of (.body Tryz.func39 rfl (by simp [Tryz.ntmps39]) ?_)
  rw [Tryz.ntmps39, Tryz.results39]
  refine AL ?_
  refine CWO (toCellS_o G _ hl) ?_
  intro z H1 S m hz hn hS hf hm
  have f1 := hf 1 (by omega)
  have f2 := hf 2 (by omega)
  have f0 := hf 0 (by omega)
  simp [upd_if] at f0 f1 f2
  have hS1 : ∀ o ∈ S, 5 ≤ o := fun o ho => (hS o ho).1
  replace hS := Hid.mk hS
  replace hf := Hid.mk hf
  replace hn := Hid.mk hn
  replace hS1 := Hid.mk hS1
  have hz' := Hid.mk hz
  rcases ownX_cases hz with ⟨o, e, ty, sz, rows, t, rfl, hH, ho⟩ | rfl | ⟨t, rfl⟩
  · clear hz
    have ho5 := hS1.out o ho
    have n1 : ¬ o = 1 := by omega
    have n2 : ¬ o = 2 := by omega
    clear ho
    refine AL ?_
    refine ⟨S, ?_, hn.out⟩
    rw [← List.append_nil S]
    exact ownX_mk3 (s2 := []) (s3 := []) (ownX_congr (fun o ho => by have := hS1.out o ho; simp [upd_if, show ¬ o = 1 by omega, show ¬ o = 2 by omega]) hz'.out) ownX_mki ownX_mkb
  · clear hz
    refine AL ?_
    refine ⟨S, ?_, hn.out⟩
    rw [← List.append_nil S]
    exact ownX_mk3 (s2 := []) (s3 := []) (ownX_congr (fun o ho => by have := hS1.out o ho; simp [upd_if, show ¬ o = 1 by omega, show ¬ o = 2 by omega]) hz'.out) ownX_mki ownX_mkb
  · clear hz
    refine AL ?_
    refine ⟨S, ?_, hn.out⟩
    rw [← List.append_nil S]
    exact ownX_mk3 (s2 := []) (s3 := []) (ownX_congr (fun o ho => by have := hS1.out o ho; simp [upd_if, show ¬ o = 1 by omega, show ¬ o = 2 by omega]) hz'.out) ownX_mki ownX_mkb
theorem toPlacement_o (G : Gv) (k : Int) (l : List Int) (hl : l.length < 1000000000) : GivesO Tryz.prog G 106 [.ag [.i .i64 k, .sl 0 (ints l)]] (.ag [.i .i64 k, .sl 1 (ints l)]) := by
  refine .of (.body Tryz.func106 rfl (by simp [Tryz.ntmps106]) ?_)
  rw [Tryz.ntmps106, Tryz.results106]
  refine AL ?_
  refine CWO (toInt64S_o G _ hl) ?_
  intro z H1 S m hz hn hS hf hm
  have f1 := hf 1 (by omega)
  have f2 := hf 2 (by omega)
  have f0 := hf 0 (by omega)
  simp [upd_if] at f0 f1 f2
  have hS1 : ∀ o ∈ S, 5 ≤ o := fun o ho => Nat.le_trans (by omega) (hS o ho).1
  replace hS := Hid.mk hS
  replace hf := Hid.mk hf
  replace hn := Hid.mk hn
  replace hS1 := Hid.mk hS1
  have hz' := Hid.mk hz
  rcases ownX_cases hz with ⟨o, e, ty, sz, rows, t, rfl, hH, ho⟩ | rfl | ⟨t, rfl⟩
  · clear hz
    have ho5 := hS1.out o ho
    have n1 : ¬ o = 1 := by omega
    have n2 : ¬ o = 2 := by omega
    clear ho
    refine AL ?_
    exact ⟨S, ownX_mk2 (s1 := []) ownX_mki (ownX_congr (fun o ho => by have := hS1.out o ho; simp [upd_if, show ¬ o = 1 by omega, show ¬ o = 2 by omega]) hz'.out), hn.out⟩
  · clear hz
    refine AL ?_
    exact ⟨S, ownX_mk2 (s1 := []) ownX_mki (ownX_congr (fun o ho => by have := hS1.out o ho; simp [upd_if, show ¬ o = 1 by omega, show ¬ o = 2 by omega]) hz'.out), hn.out⟩
  · clear hz
    refine AL ?_
    exact ⟨S, ownX_mk2 (s1 := []) ownX_mki (ownX_congr (fun o ho => by have := hS1.out o ho; simp [upd_if, show ¬ o = 1 by omega, show ¬ o = 2 by omega]) hz'.out), hn.out⟩
theorem tag_store {t t2 : Nat} {rows : List (List PV)} {row : List PV} (h : tagOk t rows) (hr : t2 = 2 ∨ noObs [row]) : tagOk (joinT t t2) (rows ++ [row]) := by
  rcases h with h | h
  · exact .inl ((join_2 t t2).1 h)
  · rcases hr with hr | hr
    · exact .inl ((join_2 t t2).2 hr)
    · refine .inr fun r hm p hp => ?_
      rcases List.mem_append.mp hm with hm | hm
      · exact h r hm p hp
      · exact hr r hm p hp
theorem take_map {α β : Type} (f : α → β) {l : List α} {i : Nat} {x : α} (h : l[i]? = some x) : (l.take (i + 1)).map f = (l.take i).map f ++ [f x] := by
  obtain ⟨hi, rfl⟩ := List.getElem?_eq_some_iff.mp h
  rw [List.take_succ_eq_append_getElem hi, List.map_append]; rfl
theorem toPieceS_o (G : Gv) (l : List PieceM) (hl : l.length < 1000000000) (hc : ∀ p ∈ l, p.cs.length < 1000000000) : GivesO Tryz.prog G 73 [.sl 0 (pieces l)] (.sl 1 (pieces l)) := by
  refine .of (.body Tryz.func73 rfl (by simp [Tryz.ntmps73]) ?_)
  rw [Tryz.ntmps73, Tryz.results73]
  have hlen := pieces_len l
  have b1 : ((40 : Nat) : Int) * l.length ≤ 281474976710656 := by simp; omega
  have b2 : (l.length : Int) ≤ 9223372036854775807 := by omega
  have b3 : (0 : Int) ≤ l.length := by omega
  replace hc := Hid.mk hc
  refine AG ?_
  refine .block (.loop (.inv (fun d E H n' => ∃ (i t' : Nat) (r1 : List (List PV)) (S1 : List Nat), i + d = l.length ∧ E 0 = .sl 0 (pieces l) ∧ E 3 = .own 3 0 ∧ E 4 = .i .i64 i ∧ H 3 = some (.arr 0 68 3 (r1 ++ List.replicate d [PV.sl [], PV.i .i64 0, PV.b false]) t') ∧ 3 < n' ∧ r1.length = i ∧ tagOk t' r1 ∧ fitR 3 r1 ∧ (l = [] → t' ≠ 2) ∧ ownRs H r1 (pieces (l.take i)) S1 ∧ S1.Nodup ∧ ∀ o ∈ S1, 3 < o ∧ o < n') l.length ?_ ?_))
  · refine ⟨0, 1, [], [], by omega, by simp [setF_if, argE], by simp [setF_if, argE], by simp [setF_if, argE], by simp [upd_if, hlen], by omega, rfl, .inr (fun r hr => by simp at hr), fun r hr => by simp at hr, fun _ => by decide, ⟨rfl, rfl⟩, by simp, by simp⟩
  clear b1 b2 b3
  rintro d E H n' ⟨i, t', r1, S1, hi, h0, h3, h4, hH, hn3, hr1, htag, hfit, hnil, hown, hnd, hlt⟩
  replace hr1 := Hid.mk hr1
  replace htag := Hid.mk htag
  replace hfit := Hid.mk hfit
  replace hnil := Hid.mk hnil
  replace hown := Hid.mk hown
  replace hnd := Hid.mk hnd
  replace hlt := Hid.mk hlt
  by_cases c : (i : Int) < l.length
  · have hw_i : IntKind.i64.wrap ((i : Int) + 1) = (i : Int) + 1 := wr64 (by omega) (by omega)
    obtain ⟨p, hp⟩ : ∃ p, l[i]? = some p := ⟨_, List.getElem?_eq_getElem (by omega)⟩
    have hpl := hc.out p (List.mem_of_getElem? hp)
    have hr : (pieces l)[i]? = some (pieceR p) := by simp [pieces, hp]
    obtain ⟨d, rfl⟩ : ∃ d', d = d' + 1 := ⟨d - 1, by omega⟩
    rw [List.replicate_succ] at hH
    have hro : (r1 ++ [PV.sl [], PV.i .i64 0, PV.b false] :: List.replicate d [PV.sl [], PV.i .i64 0, PV.b false])[i]? = some [PV.sl [], PV.i .i64 0, PV.b false] := at_mid _ _ _ hr1.out
    have hset : ∀ x, (r1 ++ [PV.sl [], PV.i .i64 0, PV.b false] :: List.replicate d [PV.sl [], PV.i .i64 0, PV.b false]).set i x = r1 ++ x :: List.replicate d [PV.sl [], PV.i .i64 0, PV.b false] := fun x => set_mid _ _ _ _ hr1.out
    have hrl : i < (r1 ++ [PV.sl [], PV.i .i64 0, PV.b false] :: List.replicate d [PV.sl [], PV.i .i64 0, PV.b false]).length := (List.getElem?_eq_some_iff.mp hro).1
    generalize r1 ++ [PV.sl [], PV.i .i64 0, PV.b false] :: List.replicate d [PV.sl [], PV.i .i64 0, PV.b false] = R at hH hro hset hrl
    have htk := take_map pieceR hp
    replace htk := Hid.mk htk
    replace hp := Hid.mk hp
    replace hpl := Hid.mk hpl
    skip
    refine AL ?_
    refine CWO (toPiece_o G p hpl.out) ?_
    intro z H1 S m hz hn hS hf hm
    have hH1 := hf 3 (by omega)
    rw [hH] at hH1
    obtain ⟨z, zk, zb, S, s2, s3, rfl, rfl, hz2, h2, h3'⟩ := ownX_ag3 hz
    obtain ⟨rfl, rfl⟩ := ownX_i h2
    obtain ⟨rfl, rfl⟩ := ownX_b h3'
    clear h2 h3' hz
    simp only [List.append_nil] at hn hS
    have hq := ownX_leaf hz2 (cells_scal _)
    have hSd : ∀ o ∈ S1, o ∉ S := fun o h1 h2 => by have := hlt.out o h1; have := hS o h2; omega
    have hS3 : ∀ o ∈ S, 3 < o ∧ o < m := fun o h => by have := hS o h; omega
    have hS4 : ∀ o ∈ S1, 3 < o ∧ o < m := fun o h => by have := hlt.out o h; omega
    have hf1 : ∀ o ∈ S1, H1 o = H o := fun o h => hf o (by have := hlt.out o h; omega)
    have hcs := ownX_cases hz2
    clear hz2
    replace hq := Hid.mk hq
    replace hSd := Hid.mk hSd
    replace hS3 := Hid.mk hS3
    replace hS4 := Hid.mk hS4
    replace hf1 := Hid.mk hf1
    replace hf := Hid.mk hf
    replace hS := Hid.mk hS
    replace hn := Hid.mk hn
    clear hH
    have fin : ∀ (q : PV) (t2 : Nat) (H2 : Heap), ownP H1 q (.sl (cells p.cs)) S → (noOb q = true ∨ t2 = 2) → (∀ o, o ≠ 3 → H2 o = H1 o) → tagOk (joinT t' t2) (r1 ++ [[q, .i .i64 p.k, .b p.b]]) ∧ ownRs H2 (r1 ++ [[q, .i .i64 p.k, .b p.b]]) (pieces (l.take (i + 1))) (S1 ++ S) := by
      intro q t2 H2 h1 h2 h3
      refine ⟨tag_store htag.out (h2.symm.imp id fun h2 r hr p hp => ?_), ?_⟩
      · obtain rfl := List.mem_singleton.mp hr
        simp only [List.mem_cons, List.not_mem_nil, or_false] at hp
        rcases hp with rfl | rfl | rfl <;> first | rfl | exact h2
      · have e : pieces (l.take (i + 1)) = pieces (l.take i) ++ [pieceR p] := htk.out
        rw [e]
        refine ownRs_append (ownRs_congr (H := H) (fun o ho => ?_) hown.out) (ownRs_one (ownPs_congr (H := H1) (fun o ho => ?_) ?_))
        · rw [h3 o (by have := hlt.out o ho; omega)]; exact hf1.out o ho
        · exact h3 o (by have := hS3.out o ho; omega)
        · rw [← List.append_nil S]; exact ownPs_cons h1 (ownPs_scal_mk (by simp [scalB]))
    replace fin := Hid.mk fin
    replace htk := Hid.mk htk
    rcases hcs with ⟨o, e, ty, sz, rows, t, rfl, hHo, ho⟩ | rfl | ⟨t, rfl⟩
    · have ho3 := hS3.out o ho
      have n3 : ¬ o = 3 := by omega
      clear ho
      obtain ⟨q, tg, e1, e2, hq1, hq2⟩ := hq.out
      cases e1
      clear hq2 e2
      replace hq1 := Hid.mk hq1
      replace hset := Hid.mk hset
      refine AL ?_
      refine ⟨d, by omega, i + 1, joinT t' (2), r1 ++ [[PV.ob o e, PV.i .i64 p.k, PV.b p.b]], S1 ++ S, by omega, by simp [setF_if, *], by simp [setF_if, *], by simp [setF_if, *], ?_, by omega, by simp [hr1.out], (fin.out _ _ H1 hq1.out (.inr rfl) (fun _ _ => rfl)).1, ?_, fun e => by rw [e] at hi; simp at hi, (fin.out _ (2) _ hq1.out (.inr rfl) (fun k hk => by rw [upd_if, if_neg hk])).2, ?_, ?_⟩
      · simp [upd_if, joinT, hset.out]
      · intro r hr
        rcases List.mem_append.mp hr with hr | hr
        · exact hfit.out r hr
        · rw [List.mem_singleton.mp hr]; rfl
      · exact List.nodup_append.mpr ⟨hnd.out, hn.out, fun x hx y hy e => hSd.out x hx (e ▸ hy)⟩
      · intro x hx
        rcases List.mem_append.mp hx with hx | hx
        · exact ⟨(hS4.out x hx).1, by have := (hS4.out x hx).2; omega⟩
        · exact ⟨(hS3.out x hx).1, by have := (hS3.out x hx).2; omega⟩
    · skip
      obtain ⟨q, tg, e1, e2, hq1, hq2⟩ := hq.out
      cases e1
      clear hq2 e2
      replace hq1 := Hid.mk hq1
      replace hset := Hid.mk hset
      refine AL ?_
      refine ⟨d, by omega, i + 1, joinT t' (1), r1 ++ [[PV.sl [], PV.i .i64 p.k, PV.b p.b]], S1 ++ S, by omega, by simp [setF_if, *], by simp [setF_if, *], by simp [setF_if, *], ?_, by omega, by simp [hr1.out], (fin.out _ _ H1 hq1.out (.inl rfl) (fun _ _ => rfl)).1, ?_, fun e => by rw [e] at hi; simp at hi, (fin.out _ (1) _ hq1.out (.inl rfl) (fun k hk => by rw [upd_if, if_neg hk])).2, ?_, ?_⟩
      · simp [upd_if, joinT, hset.out]
      · intro r hr
        rcases List.mem_append.mp hr with hr | hr
        · exact hfit.out r hr
        · rw [List.mem_singleton.mp hr]; rfl
      · exact List.nodup_append.mpr ⟨hnd.out, hn.out, fun x hx y hy e => hSd.out x hx (e ▸ hy)⟩
      · intro x hx
        rcases List.mem_append.mp hx with hx | hx
        · exact ⟨(hS4.out x hx).1, by have := (hS4.out x hx).2; omega⟩
        · exact ⟨(hS3.out x hx).1, by have := (hS3.out x hx).2; omega⟩
    · skip
      obtain ⟨q, tg, e1, e2, hq1, hq2⟩ := hq.out
      cases e1
      clear hq2 e2
      replace hq1 := Hid.mk hq1
      replace hset := Hid.mk hset
      refine AL ?_
      refine ⟨d, by omega, i + 1, joinT t' (joinT t 1), r1 ++ [[PV.sl [], PV.i .i64 p.k, PV.b p.b]], S1 ++ S, by omega, by simp [setF_if, *], by simp [setF_if, *], by simp [setF_if, *], ?_, by omega, by simp [hr1.out], (fin.out _ _ H1 hq1.out (.inl rfl) (fun _ _ => rfl)).1, ?_, fun e => by rw [e] at hi; simp at hi, (fin.out _ (joinT t 1) _ hq1.out (.inl rfl) (fun k hk => by rw [upd_if, if_neg hk])).2, ?_, ?_⟩
      · simp [upd_if, joinT, hset.out]
      · intro r hr
        rcases List.mem_append.mp hr with hr | hr
        · exact hfit.out r hr
        · rw [List.mem_singleton.mp hr]; rfl
      · exact List.nodup_append.mpr ⟨hnd.out, hn.out, fun x hx y hy e => hSd.out x hx (e ▸ hy)⟩
      · intro x hx
        rcases List.mem_append.mp hx with hx | hx
        · exact ⟨(hS4.out x hx).1, by have := (hS4.out x hx).2; omega⟩
        · exact ⟨(hS3.out x hx).1, by have := (hS3.out x hx).2; omega⟩
  · refine AL ?_
    have ei : i = l.length := by omega
    have hd : d = 0 := by omega
    subst hd
    rw [List.replicate_zero, List.append_nil] at hH
    have ho := hown.out
    rw [ei, List.take_length] at ho
    refine ⟨3 :: S1, ownX_sl (tagOk_own hH ho htag.out (ownRs_ns ho (pieces_ns _)) hfit.out fun e => hnil.out ?_), List.nodup_cons.mpr ⟨fun h => by have := hlt.out 3 h; omega, hnd.out⟩⟩
    refine List.length_eq_zero_iff.mp ?_
    have := hr1.out
    rw [e] at this; simp at this; omega
end Go.Proofs
end
section
open Go Go.Big
namespace Go.Proofs
set_option maxHeartbeats 2000000
theorem toPlacementS_o (G : Gv) (l : List (Int × List Int)) (hl : l.length < 1000000000) (hc : ∀ p ∈ l, p.2.length < 1000000000) : GivesO Tryz.prog G 49 [.sl 0 (places l)] (.sl 1 (places l)) := by
  refine .of (.body Tryz.func49 rfl (by simp [Tryz.ntmps49]) ?_)
  rw [Tryz.ntmps49, Tryz.results49]
  have hlen := places_len l
  have b1 : ((32 : Nat) : Int) * l.length ≤ 281474976710656 := by simp; omega
  have b2 : (l.length : Int) ≤ 9223372036854775807 := by omega
  have b3 : (0 : Int) ≤ l.length := by omega
  replace hc := Hid.mk hc
  refine AG ?_
  refine .block (.loop (.inv (fun d E H n' => ∃ (i t' : Nat) (r1 : List (List PV)) (S1 : List Nat), i + d = l.length ∧ E 0 = .sl 0 (places l) ∧ E 3 = .own 3 0 ∧ E 4 = .i .i64 i ∧ H 3 = some (.arr 0 110 2 (r1 ++ List.replicate d [PV.i .i64 0, PV.sl []]) t') ∧ 3 < n' ∧ r1.length = i ∧ tagOk t' r1 ∧ fitR 2 r1 ∧ (l = [] → t' ≠ 2) ∧ ownRs H r1 (places (l.take i)) S1 ∧ S1.Nodup ∧ ∀ o ∈ S1, 3 < o ∧ o < n') l.length ?_ ?_))
  · refine ⟨0, 1, [], [], by omega, by simp [setF_if, argE], by simp [setF_if, argE], by simp [setF_if, argE], by simp [upd_if, hlen], by omega, rfl, .inr (fun r hr => by simp at hr), fun r hr => by simp at hr, fun _ => by decide, ⟨rfl, rfl⟩, by simp, by simp⟩
  clear b1 b2 b3
  rintro d E H n' ⟨i, t', r1, S1, hi, h0, h3, h4, hH, hn3, hr1, htag, hfit, hnil, hown, hnd, hlt⟩
  replace hr1 := Hid.mk hr1
  replace htag := Hid.mk htag
  replace hfit := Hid.mk hfit
  replace hnil := Hid.mk hnil
  replace hown := Hid.mk hown
  replace hnd := Hid.mk hnd
  replace hlt := Hid.mk hlt
  by_cases c : (i : Int) < l.length
  · have hw_i : IntKind.i64.wrap ((i : Int) + 1) = (i : Int) + 1 := wr64 (by omega) (by omega)
    obtain ⟨p, hp⟩ : ∃ p, l[i]? = some p := ⟨_, List.getElem?_eq_getElem (by omega)⟩
    have hpl := hc.out p (List.mem_of_getElem? hp)
    have hr : (places l)[i]? = some (placR p) := by simp [places, hp]
    obtain ⟨d, rfl⟩ : ∃ d', d = d' + 1 := ⟨d - 1, by omega⟩
    rw [List.replicate_succ] at hH
    have hro : (r1 ++ [PV.i .i64 0, PV.sl []] :: List.replicate d [PV.i .i64 0, PV.sl []])[i]? = some [PV.i .i64 0, PV.sl []] := at_mid _ _ _ hr1.out
    have hset : ∀ x, (r1 ++ [PV.i .i64 0, PV.sl []] :: List.replicate d [PV.i .i64 0, PV.sl []]).set i x = r1 ++ x :: List.replicate d [PV.i .i64 0, PV.sl []] := fun x => set_mid _ _ _ _ hr1.out
    have hrl : i < (r1 ++ [PV.i .i64 0, PV.sl []] :: List.replicate d [PV.i .i64 0, PV.sl []]).length := (List.getElem?_eq_some_iff.mp hro).1
    generalize r1 ++ [PV.i .i64 0, PV.sl []] :: List.replicate d [PV.i .i64 0, PV.sl []] = R at hH hro hset hrl
    have htk := take_map placR hp
    replace htk := Hid.mk htk
    replace hp := Hid.mk hp
    replace hpl := Hid.mk hpl
    skip
    refine AL ?_
    refine CWO (toPlacement_o G p.1 p.2 hpl.out) ?_
    intro z H1 S m hz hn hS hf hm
    have hH1 := hf 3 (by omega)
    rw [hH] at hH1
    obtain ⟨zk, z, s2, S, rfl, rfl, h2, hz2⟩ := ownX_ag2 hz
    obtain ⟨rfl, rfl⟩ := ownX_i h2
    clear h2 hz
    simp only [List.nil_append] at hn hS
    have hq := ownX_leaf hz2 (ints_scal _)
    have hSd : ∀ o ∈ S1, o ∉ S := fun o h1 h2 => by have := hlt.out o h1; have := hS o h2; omega
    have hS3 : ∀ o ∈ S, 3 < o ∧ o < m := fun o h => by have := hS o h; omega
    have hS4 : ∀ o ∈ S1, 3 < o ∧ o < m := fun o h => by have := hlt.out o h; omega
    have hf1 : ∀ o ∈ S1, H1 o = H o := fun o h => hf o (by have := hlt.out o h; omega)
    have hcs := ownX_cases hz2
    clear hz2
    replace hq := Hid.mk hq
    replace hSd := Hid.mk hSd
    replace hS3 := Hid.mk hS3
    replace hS4 := Hid.mk hS4
    replace hf1 := Hid.mk hf1
    replace hf := Hid.mk hf
    replace hS := Hid.mk hS
    replace hn := Hid.mk hn
    clear hH
    have fin : ∀ (q : PV) (t2 : Nat) (H2 : Heap), ownP H1 q (.sl (ints p.2)) S → (noOb q = true ∨ t2 = 2) → (∀ o, o ≠ 3 → H2 o = H1 o) → tagOk (joinT t' t2) (r1 ++ [[.i .i64 p.1, q]]) ∧ ownRs H2 (r1 ++ [[.i .i64 p.1, q]]) (places (l.take (i + 1))) (S1 ++ S) := by
      intro q t2 H2 h1 h2 h3
      refine ⟨tag_store htag.out (h2.symm.imp id fun h2 r hr p hp => ?_), ?_⟩
      · obtain rfl := List.mem_singleton.mp hr
        simp only [List.mem_cons, List.not_mem_nil, or_false] at hp
        rcases hp with rfl | rfl <;> first | rfl | exact h2
      · have e : places (l.take (i + 1)) = places (l.take i) ++ [placR p] := htk.out
        rw [e]
        refine ownRs_append (ownRs_congr (H := H) (fun o ho => ?_) hown.out) (ownRs_one (ownPs_congr (H := H1) (fun o ho => ?_) ?_))
        · rw [h3 o (by have := hlt.out o ho; omega)]; exact hf1.out o ho
        · exact h3 o (by have := hS3.out o ho; omega)
        · exact ownPs_cons (s := []) (ownP_scal_mk rfl) (by rw [← List.append_nil S]; exact ownPs_cons h1 ⟨rfl, rfl⟩)
    replace fin := Hid.mk fin
    replace htk := Hid.mk htk
    rcases hcs with ⟨o, e, ty, sz, rows, t, rfl, hHo, ho⟩ | rfl | ⟨t, rfl⟩
    · have ho3 := hS3.out o ho
      have n3 : ¬ o = 3 := by omega
      clear ho
      obtain ⟨q, tg, e1, e2, hq1, hq2⟩ := hq.out
      cases e1
      clear hq2 e2
      replace hq1 := Hid.mk hq1
      replace hset := Hid.mk hset
      refine AL ?_
      refine ⟨d, by omega, i + 1, joinT t' (2), r1 ++ [[PV.i .i64 p.1, PV.ob o e]], S1 ++ S, by omega, by simp [setF_if, *], by simp [setF_if, *], by simp [setF_if, *], ?_, by omega, by simp [hr1.out], (fin.out _ _ H1 hq1.out (.inr rfl) (fun _ _ => rfl)).1, ?_, fun e => by rw [e] at hi; simp at hi, (fin.out _ (2) _ hq1.out (.inr rfl) (fun k hk => by rw [upd_if, if_neg hk])).2, ?_, ?_⟩
      · simp [upd_if, joinT, hset.out]
      · intro r hr
        rcases List.mem_append.mp hr with hr | hr
        · exact hfit.out r hr
        · rw [List.mem_singleton.mp hr]; rfl
      · exact List.nodup_append.mpr ⟨hnd.out, hn.out, fun x hx y hy e => hSd.out x hx (e ▸ hy)⟩
      · intro x hx
        rcases List.mem_append.mp hx with hx | hx
        · exact ⟨(hS4.out x hx).1, by have := (hS4.out x hx).2; omega⟩
        · exact ⟨(hS3.out x hx).1, by have := (hS3.out x hx).2; omega⟩
    · skip
      obtain ⟨q, tg, e1, e2, hq1, hq2⟩ := hq.out
      cases e1
      clear hq2 e2
      replace hq1 := Hid.mk hq1
      replace hset := Hid.mk hset
      refine AL ?_
      refine ⟨d, by omega, i + 1, joinT t' (1), r1 ++ [[PV.i .i64 p.1, PV.sl []]], S1 ++ S, by omega, by simp [setF_if, *], by simp [setF_if, *], by simp [setF_if, *], ?_, by omega, by simp [hr1.out], (fin.out _ _ H1 hq1.out (.inl rfl) (fun _ _ => rfl)).1, ?_, fun e => by rw [e] at hi; simp at hi, (fin.out _ (1) _ hq1.out (.inl rfl) (fun k hk => by rw [upd_if, if_neg hk])).2, ?_, ?_⟩
      · simp [upd_if, joinT, hset.out]
      · intro r hr
        rcases List.mem_append.mp hr with hr | hr
        · exact hfit.out r hr
        · rw [List.mem_singleton.mp hr]; rfl
      · exact List.nodup_append.mpr ⟨hnd.out, hn.out, fun x hx y hy e => hSd.out x hx (e ▸ hy)⟩
      · intro x hx
        rcases List.mem_append.mp hx with hx | hx
        · exact ⟨(hS4.out x hx).1, by have := (hS4.out x hx).2; omega⟩
        · exact ⟨(hS3.out x hx).1, by have := (hS3.out x hx).2; omega⟩
    · skip
      obtain ⟨q, tg, e1, e2, hq1, hq2⟩ := hq.out
      cases e1
      clear hq2 e2
      replace hq1 := Hid.mk hq1
      replace hset := Hid.mk hset
      refine AL ?_
      refine ⟨d, by omega, i + 1, joinT t' (joinT 1 (joinT t 1)), r1 ++ [[PV.i .i64 p.1, PV.sl []]], S1 ++ S, by omega, by simp [setF_if, *], by simp [setF_if, *], by simp [setF_if, *], ?_, by omega, by simp [hr1.out], (fin.out _ _ H1 hq1.out (.inl rfl) (fun _ _ => rfl)).1, ?_, fun e => by rw [e] at hi; simp at hi, (fin.out _ (joinT 1 (joinT t 1)) _ hq1.out (.inl rfl) (fun k hk => by rw [upd_if, if_neg hk])).2, ?_, ?_⟩
      · simp [upd_if, joinT, hset.out]
      · intro r hr
        rcases List.mem_append.mp hr with hr | hr
        · exact hfit.out r hr
        · rw [List.mem_singleton.mp hr]; rfl
      · exact List.nodup_append.mpr ⟨hnd.out, hn.out, fun x hx y hy e => hSd.out x hx (e ▸ hy)⟩
      · intro x hx
        rcases List.mem_append.mp hx with hx | hx
        · exact ⟨(hS4.out x hx).1, by have := (hS4.out x hx).2; omega⟩
        · exact ⟨(hS3.out x hx).1, by have := (hS3.out x hx).2; omega⟩
  · refine AL ?_
    have ei : i = l.length := by omega
    have hd : d = 0 := by omega
    subst hd
    rw [List.replicate_zero, List.append_nil] at hH
    have ho := hown.out
    rw [ei, List.take_length] at ho
    refine ⟨3 :: S1, ownX_sl (tagOk_own hH ho htag.out (ownRs_ns ho (places_ns _)) hfit.out fun e => hnil.out ?_), List.nodup_cons.mpr ⟨fun h => by have := hlt.out 3 h; omega, hnd.out⟩⟩
    refine List.length_eq_zero_iff.mp ?_
    have := hr1.out
    rw [e] at this; simp at this; omega
theorem toPuzzle_o (G : Gv) (l : List (Int × Int)) (ps : List PieceM) (hl : l.length < 1000000000) (hp : ps.length < 1000000000) (hc : ∀ p ∈ ps, p.cs.length < 1000000000) :
    GivesO Tryz.prog G 16 [.ag [.sl 0 (cells l), .sl 0 (pieces ps)]] (.ag [.sl 1 (cells l), .sl 1 (pieces ps)]) := by
  refine .of (.body Tryz.func16 rfl (by simp [Tryz.ntmps16]) ?_)
  rw [Tryz.ntmps16, Tryz.results16]
  replace hc := Hid.mk hc
  refine AL ?_
  refine CWO (toCellS_o G _ hl) ?_
  intro z H1 S m hz hn hS hf hm
  have f1 := hf 1 (by omega)
  have f2 := hf 2 (by omega)
  have f0 := hf 0 (by omega)
  simp [upd_if] at f0 f1 f2
  have hS1 : ∀ o ∈ S, 5 ≤ o ∧ o < m := hS
  clear hS hf
  replace hn := Hid.mk hn
  replace hS1 := Hid.mk hS1
  have hz' := Hid.mk hz
  rcases ownX_cases hz with ⟨o, e, ty, sz, rows, t, rfl, hH, ho⟩ | rfl | ⟨t, rfl⟩
  · clear hz
    have ho5 := (hS1.out o ho).1
    have n1 : ¬ o = 1 := by omega
    have n2 : ¬ o = 2 := by omega
    refine AL ?_
    refine CWO (toPieceS_o G _ hp hc.out) ?_
    intro z2 H2 S2 m2 hz2 hn2 hS2 hf2 hm2
    have g1 := hf2 1 (by omega)
    have g2 := hf2 2 (by omega)
    have g0 := hf2 0 (by omega)
    simp [upd_if, f0, f1, f2] at g0 g1 g2
    have hzz := ownX_congr (fun k hk => (hf2 k (by have := (hS1.out k hk).2; omega)).trans (by have := (hS1.out k hk).1; simp [upd_if, show ¬ k = 2 by omega])) hz'.out
    have hHo := hf2 o (by have := (hS1.out o ho).2; omega)
    simp [upd_if, n2, hH] at hHo
    clear ho
    have hSS : ∀ k ∈ S2, m ≤ k := fun k hk => by have := (hS2 k hk).1; omega
    have hS21 : ∀ k ∈ S2, 5 ≤ k := fun k hk => by have := hSS k hk; omega
    clear hf2 hS2 f0 f1 f2
    replace hn2 := Hid.mk hn2
    replace hzz := Hid.mk hzz
    replace hSS := Hid.mk hSS
    replace hS21 := Hid.mk hS21
    have hz2' := Hid.mk hz2
    rcases ownX_cases hz2 with ⟨o2, e2, ty2, sz2, rows2, t2, rfl, hH2, ho2⟩ | rfl | ⟨t2, rfl⟩
    · clear hz2
      have k5 := hS21.out o2 ho2
      have k1 : ¬ o2 = 1 := by omega
      have k2 : ¬ o2 = 2 := by omega
      clear ho2
      refine AL ?_
      refine ⟨S ++ S2, ownX_mk2 (ownX_congr (fun k hk => by have := (hS1.out k hk).1; simp [upd_if, show ¬ k = 1 by omega, show ¬ k = 2 by omega]) hzz.out) (ownX_congr (fun k hk => by have := hS21.out k hk; simp [upd_if, show ¬ k = 1 by omega, show ¬ k = 2 by omega]) hz2'.out), List.nodup_append.mpr ⟨hn.out, hn2.out, fun a ha b hb e => ?_⟩⟩
      have := (hS1.out a ha).2
      have := hSS.out b hb
      omega
    · clear hz2
      refine AL ?_
      refine ⟨S ++ S2, ownX_mk2 (ownX_congr (fun k hk => by have := (hS1.out k hk).1; simp [upd_if, show ¬ k = 1 by omega, show ¬ k = 2 by omega]) hzz.out) (ownX_congr (fun k hk => by have := hS21.out k hk; simp [upd_if, show ¬ k = 1 by omega, show ¬ k = 2 by omega]) hz2'.out), List.nodup_append.mpr ⟨hn.out, hn2.out, fun a ha b hb e => ?_⟩⟩
      have := (hS1.out a ha).2
      have := hSS.out b hb
      omega
    · clear hz2
      refine AL ?_
      refine ⟨S ++ S2, ownX_mk2 (ownX_congr (fun k hk => by have := (hS1.out k hk).1; simp [upd_if, show ¬ k = 1 by omega, show ¬ k = 2 by omega]) hzz.out) (ownX_congr (fun k hk => by have := hS21.out k hk; simp [upd_if, show ¬ k = 1 by omega, show ¬ k = 2 by omega]) hz2'.out), List.nodup_append.mpr ⟨hn.out, hn2.out, fun a ha b hb e => ?_⟩⟩
      have := (hS1.out a ha).2
      have := hSS.out b hb
      omega
  · clear hz
    refine AL ?_
    refine CWO (toPieceS_o G _ hp hc.out) ?_
    intro z2 H2 S2 m2 hz2 hn2 hS2 hf2 hm2
    have g1 := hf2 1 (by omega)
    have g2 := hf2 2 (by omega)
    have g0 := hf2 0 (by omega)
    simp [upd_if, f0, f1, f2] at g0 g1 g2
    have hzz := ownX_congr (fun k hk => (hf2 k (by have := (hS1.out k hk).2; omega)).trans (by have := (hS1.out k hk).1; simp [upd_if, show ¬ k = 2 by omega])) hz'.out
    have hSS : ∀ k ∈ S2, m ≤ k := fun k hk => by have := (hS2 k hk).1; omega
    have hS21 : ∀ k ∈ S2, 5 ≤ k := fun k hk => by have := hSS k hk; omega
    clear hf2 hS2 f0 f1 f2
    replace hn2 := Hid.mk hn2
    replace hzz := Hid.mk hzz
    replace hSS := Hid.mk hSS
    replace hS21 := Hid.mk hS21
    have hz2' := Hid.mk hz2
    rcases ownX_cases hz2 with ⟨o2, e2, ty2, sz2, rows2, t2, rfl, hH2, ho2⟩ | rfl | ⟨t2, rfl⟩
    · clear hz2
      have k5 := hS21.out o2 ho2
      have k1 : ¬ o2 = 1 := by omega
      have k2 : ¬ o2 = 2 := by omega
      clear ho2
      refine AL ?_
      refine ⟨S ++ S2, ownX_mk2 (ownX_congr (fun k hk => by have := (hS1.out k hk).1; simp [upd_if, show ¬ k = 1 by omega, show ¬ k = 2 by omega]) hzz.out) (ownX_congr (fun k hk => by have := hS21.out k hk; simp [upd_if, show ¬ k = 1 by omega, show ¬ k = 2 by omega]) hz2'.out), List.nodup_append.mpr ⟨hn.out, hn2.out, fun a ha b hb e => ?_⟩⟩
      have := (hS1.out a ha).2
      have := hSS.out b hb
      omega
    · clear hz2
      refine AL ?_
      refine ⟨S ++ S2, ownX_mk2 (ownX_congr (fun k hk => by have := (hS1.out k hk).1; simp [upd_if, show ¬ k = 1 by omega, show ¬ k = 2 by omega]) hzz.out) (ownX_congr (fun k hk => by have := hS21.out k hk; simp [upd_if, show ¬ k = 1 by omega, show ¬ k = 2 by omega]) hz2'.out), List.nodup_append.mpr ⟨hn.out, hn2.out, fun a ha b hb e => ?_⟩⟩
      have := (hS1.out a ha).2
      have := hSS.out b hb
      omega
    · clear hz2
      refine AL ?_
      refine ⟨S ++ S2, ownX_mk2 (ownX_congr (fun k hk => by have := (hS1.out k hk).1; simp [upd_if, show ¬ k = 1 by omega, show ¬ k = 2 by omega]) hzz.out) (ownX_congr (fun k hk => by have := hS21.out k hk; simp [upd_if, show ¬ k = 1 by omega, show ¬ k = 2 by omega]) hz2'.out), List.nodup_append.mpr ⟨hn.out, hn2.out, fun a ha b hb e => ?_⟩⟩
      have := (hS1.out a ha).2
      have := hSS.out b hb
      omega
  · clear hz
    refine AL ?_
    refine CWO (toPieceS_o G _ hp hc.out) ?_
    intro z2 H2 S2 m2 hz2 hn2 hS2 hf2 hm2
    have g1 := hf2 1 (by omega)
    have g2 := hf2 2 (by omega)
    have g0 := hf2 0 (by omega)
    simp [upd_if, f0, f1, f2] at g0 g1 g2
    have hzz := ownX_congr (fun k hk => (hf2 k (by have := (hS1.out k hk).2; omega)).trans (by have := (hS1.out k hk).1; simp [upd_if, show ¬ k = 2 by omega])) hz'.out
    have hSS : ∀ k ∈ S2, m ≤ k := fun k hk => by have := (hS2 k hk).1; omega
    have hS21 : ∀ k ∈ S2, 5 ≤ k := fun k hk => by have := hSS k hk; omega
    clear hf2 hS2 f0 f1 f2
    replace hn2 := Hid.mk hn2
    replace hzz := Hid.mk hzz
    replace hSS := Hid.mk hSS
    replace hS21 := Hid.mk hS21
    have hz2' := Hid.mk hz2
    rcases ownX_cases hz2 with ⟨o2, e2, ty2, sz2, rows2, t2, rfl, hH2, ho2⟩ | rfl | ⟨t2, rfl⟩
    · clear hz2
      have k5 := hS21.out o2 ho2
      have k1 : ¬ o2 = 1 := by omega
      have k2 : ¬ o2 = 2 := by omega
      clear ho2
      refine AL ?_
      refine ⟨S ++ S2, ownX_mk2 (ownX_congr (fun k hk => by have := (hS1.out k hk).1; simp [upd_if, show ¬ k = 1 by omega, show ¬ k = 2 by omega]) hzz.out) (ownX_congr (fun k hk => by have := hS21.out k hk; simp [upd_if, show ¬ k = 1 by omega, show ¬ k = 2 by omega]) hz2'.out), List.nodup_append.mpr ⟨hn.out, hn2.out, fun a ha b hb e => ?_⟩⟩
      have := (hS1.out a ha).2
      have := hSS.out b hb
      omega
    · clear hz2
      refine AL ?_
      refine ⟨S ++ S2, ownX_mk2 (ownX_congr (fun k hk => by have := (hS1.out k hk).1; simp [upd_if, show ¬ k = 1 by omega, show ¬ k = 2 by omega]) hzz.out) (ownX_congr (fun k hk => by have := hS21.out k hk; simp [upd_if, show ¬ k = 1 by omega, show ¬ k = 2 by omega]) hz2'.out), List.nodup_append.mpr ⟨hn.out, hn2.out, fun a ha b hb e => ?_⟩⟩
      have := (hS1.out a ha).2
      have := hSS.out b hb
      omega
    · clear hz2
      refine AL ?_
      refine ⟨S ++ S2, ownX_mk2 (ownX_congr (fun k hk => by have := (hS1.out k hk).1; simp [upd_if, show ¬ k = 1 by omega, show ¬ k = 2 by omega]) hzz.out) (ownX_congr (fun k hk => by have := hS21.out k hk; simp [upd_if, show ¬ k = 1 by omega, show ¬ k = 2 by omega]) hz2'.out), List.nodup_append.mpr ⟨hn.out, hn2.out, fun a ha b hb e => ?_⟩⟩
      have := (hS1.out a ha).2
      have := hSS.out b hb
      omega
end Go.Proofs
end
section
open Go Go.Big
namespace Go.Proofs
set_option maxHeartbeats 2000000
theorem maxI_le {a b c : Int} : maxI a b ≤ c ↔ a ≤ c ∧ b ≤ c := by unfold maxI; split <;> omega
theorem fold_max1 (f : Int × Int → Int × Int) (b : Int) : ∀ (l : List (Int × Int)) (s : Int × Int), (l.foldl (fun s p => (maxI s.1 (f p).1, maxI s.2 (f p).2)) s).1 ≤ b ↔ s.1 ≤ b ∧ ∀ p ∈ l, (f p).1 ≤ b
  | [], s => by simp
  | p :: l, s => by rw [List.foldl_cons, fold_max1 f b l, maxI_le]; simp [and_assoc]
theorem fold_max2 (f : Int × Int → Int × Int) (b : Int) : ∀ (l : List (Int × Int)) (s : Int × Int), (l.foldl (fun s p => (maxI s.1 (f p).1, maxI s.2 (f p).2)) s).2 ≤ b ↔ s.2 ≤ b ∧ ∀ p ∈ l, (f p).2 ≤ b
  | [], s => by simp
  | p :: l, s => by rw [List.foldl_cons, fold_max2 f b l, maxI_le]; simp [and_assoc]
theorem wrap_small {n : Int} (h : inC n = true) : IntKind.i64.wrap (IntKind.i64.wrap (n - 0) + 1) = n + 1 := by
  simp only [inC, Bool.and_eq_true, decide_eq_true_eq] at h
  have h1 : IntKind.i64.wrap (n - 0) = n := by simp [IntKind.wrap, IntKind.bits, IntKind.signed]; omega
  rw [h1]
  simp [IntKind.wrap, IntKind.bits, IntKind.signed]; omega
theorem regionM_S (l : List (Int × Int)) : regionM l = regionS l := by
  unfold regionM regionS
  by_cases hs : shapeM l = true
  · obtain ⟨_, hc, hp, _⟩ := shapeM_spec hs
    rw [hs]
    generalize hq : minF l l.length = q
    obtain ⟨a, b⟩ := q
    by_cases h0 : a = 0 ∧ b = 0
    · obtain ⟨rfl, rfl⟩ := h0
      have hmem : l.getD 0 (0, 0) ∈ l := by
        cases l with
        | nil => simp at hp
        | cons x l => simp
      have e1 : (maxF l l.length).1 < 20 ↔ (sizeM l).1 ≤ 20 := by
        have m1 := fold_max1 (fun p => p) 19 l (l.getD 0 (0, 0))
        have m2 := fold_max1 (fun p => (IntKind.i64.wrap (IntKind.i64.wrap (p.1 - 0) + 1), IntKind.i64.wrap (IntKind.i64.wrap (p.2 - 0) + 1))) 20 l (0, 0)
        unfold sizeM sizeF maxF
        rw [hq, List.take_length]
        simp only at m1 m2 ⊢
        rw [m2, show ∀ x : Int, x < 20 ↔ x ≤ 19 by omega, m1]
        constructor
        · rintro ⟨_, h⟩
          refine ⟨by omega, fun p hp => ?_⟩
          rw [wrap_small (hc p hp).1]
          have := h p hp
          omega
        · rintro ⟨_, h⟩
          have h' : ∀ p ∈ l, p.1 ≤ 19 := fun p hp => by
            have := h p hp
            rw [wrap_small (hc p hp).1] at this
            omega
          exact ⟨h' _ hmem, h'⟩
      have e2 : (maxF l l.length).2 < 20 ↔ (sizeM l).2 ≤ 20 := by
        have m1 := fold_max2 (fun p => p) 19 l (l.getD 0 (0, 0))
        have m2 := fold_max2 (fun p => (IntKind.i64.wrap (IntKind.i64.wrap (p.1 - 0) + 1), IntKind.i64.wrap (IntKind.i64.wrap (p.2 - 0) + 1))) 20 l (0, 0)
        unfold sizeM sizeF maxF
        rw [hq, List.take_length]
        simp only at m1 m2 ⊢
        rw [m2, show ∀ x : Int, x < 20 ↔ x ≤ 19 by omega, m1]
        constructor
        · rintro ⟨_, h⟩
          refine ⟨by omega, fun p hp => ?_⟩
          rw [wrap_small (hc p hp).2]
          have := h p hp
          omega
        · rintro ⟨_, h⟩
          have h' : ∀ p ∈ l, p.2 ≤ 19 := fun p hp => by
            have := h p hp
            rw [wrap_small (hc p hp).2] at this
            omega
          exact ⟨h' _ hmem, h'⟩
      simp [e1, e2]
    · have : ((a, b) == ((0, 0) : Int × Int)) = false := by
        rw [beq_eq_false_iff_ne]; intro e; exact h0 (by simpa using e)
      have h2 : (a == 0 && b == 0) = false := by
        rw [Bool.eq_false_iff]; intro e; exact h0 (by simpa using e)
      rw [this]
      simp only [h2, Bool.false_and, Bool.and_false]
  · rw [Bool.eq_false_iff.mpr hs]; simp
theorem set_nn {out : List Int} {k : Nat} {v : Int} (hv : 0 ≤ v) (j : Nat) (h : 0 ≤ out.getD j 0) : 0 ≤ (out.set k v).getD j 0 := by
  simp only [List.getD_eq_getElem?_getD, List.getElem?_set] at h ⊢
  split
  · split <;> simp [hv]
  · exact h
theorem lookP_nn {l : List (Int × Int)} {i : Int} (hi : 0 ≤ i) {s : List Int × List Int} {c : Int × Int} (j : Nat) (h : 0 ≤ s.1.getD j 0) : 0 ≤ (lookP l i s c).1.getD j 0 := by
  unfold lookP
  split
  · exact set_nn hi j h
  · exact h
theorem lookF_nn {l : List (Int × Int)} {i : Int} (hi : 0 ≤ i) (j : Nat) : ∀ {cs : List (Int × Int)} {s : List Int × List Int}, 0 ≤ s.1.getD j 0 → 0 ≤ (cs.foldl (lookP l i) s).1.getD j 0
  | [], _, h => h
  | c :: cs, s, h => lookF_nn hi j (cs := cs) (lookP_nn hi j h)
theorem runP_nn {l : List (Int × Int)} {i : Int} (hi : 0 ≤ i) (j : Nat) : ∀ {f : Nat} {out rest : List Int}, 0 ≤ out.getD j 0 → 0 ≤ (runP l i f out rest).getD j 0
  | 0, _, _, h => by simpa [runP] using h
  | f + 1, out, [], h => by simpa [runP] using h
  | f + 1, out, c :: rest, h => by
    rw [runP]
    exact runP_nn hi j (lookF_nn hi j h)
theorem startP_nn {l : List (Int × Int)} {out : List Int} {i : Nat} (j : Nat) (h : 0 ≤ out.getD j 0 ∨ j = i) : 0 ≤ (startP l out i).getD j 0 := by
  unfold startP
  split
  · rename_i hc
    rcases h with h | rfl
    · exact h
    · exact hc
  · refine runP_nn (by omega) j ?_
    rcases h with h | rfl
    · exact set_nn (by omega) j h
    · simp only [List.getD_eq_getElem?_getD, List.getElem?_set]
      simp only [if_true]
      split <;> simp
theorem partsM_nn (l : List (Int × Int)) : ∀ (i j : Nat), j < i → 0 ≤ (partsM l i).getD j 0
  | 0, j, h => by omega
  | i + 1, j, h => by
    rw [partsM_succ]
    by_cases hj : j < i
    · exact startP_nn j (Or.inl (partsM_nn l i j hj))
    · exact startP_nn j (Or.inr (by omega))
theorem fold_maxI (b : Int) : ∀ (l : List Int) (s : Int), l.foldl maxI s ≤ b ↔ s ≤ b ∧ ∀ p ∈ l, p ≤ b
  | [], s => by simp
  | p :: l, s => by rw [List.foldl_cons, fold_maxI b l, maxI_le]; simp [and_assoc]
theorem conn_eq {l : List (Int × Int)} (h : 1 ≤ l.length) : connM l = connS l := by
  unfold connM connS maxLF zerosM
  have hlen := partsM_len l (Nat.le_refl l.length)
  have hnn := partsM_nn l l.length
  generalize partsM l l.length = o at hlen hnn ⊢
  have hall : ∀ p ∈ o, 0 ≤ p := fun p hp => by
    obtain ⟨j, hj, rfl⟩ := List.mem_iff_getElem.mp hp
    have := hnn j (by omega)
    simpa [List.getD_eq_getElem?_getD, hj] using this
  rw [← hlen, List.take_length]
  have h0 : o.getD 0 0 ∈ o := by
    cases o with
    | nil => simp at hlen; omega
    | cons x o => simp
  have m1 := fold_maxI 0 o (o.getD 0 0)
  have m2 := fold_maxI (-1) o (o.getD 0 0)
  have h1 := hall _ h0
  rw [Bool.eq_iff_iff]
  simp only [beq_iff_eq, List.all_eq_true, List.mem_range]
  constructor
  · intro e j hj
    have hx := (m1.mp (by omega)).2 (o.getD j 0) (by simp [List.getD_eq_getElem?_getD, hj])
    have := hnn j (by omega)
    omega
  · intro e
    have : o.foldl maxI (o.getD 0 0) ≤ 0 := m1.mpr ⟨by have := e 0 (by omega); omega, fun p hp => by
      obtain ⟨j, hj, rfl⟩ := List.mem_iff_getElem.mp hp
      have := e j hj
      simp [List.getD_eq_getElem?_getD, hj] at this
      omega⟩
    have h3 : ¬ o.foldl maxI (o.getD 0 0) ≤ -1 := fun hx => by have := (m2.mp hx).1; omega
    omega
theorem piece_eq (p : PieceM) : pieceM p = pieceS p := by
  unfold pieceM pieceS
  rw [← regionM_S]
  by_cases h : regionM p.cs = true
  · have hs := regionM_shape h
    rw [h, hs, conn_eq (shapeM_spec hs).2.2.1]
    simp
  · rw [Bool.eq_false_iff.mpr h]; simp
/-- Two strictly sorted lists of the same shapes are one. -/
theorem sorted_ext : ∀ {l k : List Shape}, l.Pairwise (fun a b => cmpM a b < 0) → k.Pairwise (fun a b => cmpM a b < 0) → (∀ x, x ∈ l ↔ x ∈ k) → l = k
  | [], [], _, _, _ => rfl
  | [], y :: k, _, _, h => absurd ((h y).mpr (by simp)) (by simp)
  | x :: l, [], _, _, h => absurd ((h x).mp (by simp)) (by simp)
  | x :: l, y :: k, hl, hk, h => by
    rw [List.pairwise_cons] at hl hk
    have hxy : x = y := by
      rcases List.mem_cons.mp ((h x).mp (by simp)) with e | e
      · exact e
      · rcases List.mem_cons.mp ((h y).mpr (by simp)) with e' | e'
        · exact e'.symm
        · exact absurd (cmpM_trans (hl.1 y e') (hk.1 x e)) (cmpM_irrefl x)
    subst hxy
    rw [sorted_ext hl.2 hk.2 fun z => ?_]
    constructor
    · intro hz
      rcases List.mem_cons.mp ((h z).mp (List.mem_cons_of_mem _ hz)) with e | e
      · subst e; exact absurd (hl.1 _ hz) (cmpM_irrefl _)
      · exact e
    · intro hz
      rcases List.mem_cons.mp ((h z).mpr (List.mem_cons_of_mem _ hz)) with e | e
      · subst e; exact absurd (hk.1 _ hz) (cmpM_irrefl _)
      · exact e
theorem insS_iff {c x : Shape} : ∀ {ls : List Shape}, x ∈ insS c ls ↔ x = c ∨ x ∈ ls
  | [] => by simp [insS]
  | y :: ls => by
    unfold insS
    split
    · simp
    · rw [List.mem_cons, insS_iff, List.mem_cons]
      constructor
      · rintro (h | h | h)
        · exact Or.inr (Or.inl h)
        · exact Or.inl h
        · exact Or.inr (Or.inr h)
      · rintro (h | h | h)
        · exact Or.inr (Or.inl h)
        · exact Or.inl h
        · exact Or.inr (Or.inr h)
theorem insS_sorted {c : Shape} : ∀ {ls : List Shape}, c ∉ ls → ls.Pairwise (fun a b => cmpM a b < 0) → (insS c ls).Pairwise (fun a b => cmpM a b < 0)
  | [], _, _ => by simp [insS]
  | y :: ls, hc, h => by
    rw [List.pairwise_cons] at h
    unfold insS
    split
    · rename_i hlt
      rw [List.pairwise_cons]
      refine ⟨fun z hz => ?_, List.pairwise_cons.mpr h⟩
      rcases List.mem_cons.mp hz with rfl | hz
      · exact hlt
      · exact cmpM_trans hlt (h.1 z hz)
    · rename_i hnlt
      rw [List.pairwise_cons]
      refine ⟨fun z hz => ?_, insS_sorted (fun hx => hc (List.mem_cons_of_mem _ hx)) h.2⟩
      rcases insS_iff.mp hz with rfl | hz
      · rcases cmpM_trich z y with e | e | e
        · exact absurd e hnlt
        · subst e; exact absurd List.mem_cons_self hc
        · exact e
      · exact h.1 z hz
theorem any_same {c : Shape} {ls : List Shape} : (List.range ls.length).any (sameAt c ls) = true ↔ c ∈ ls := by
  rw [List.any_eq_true]
  constructor
  · rintro ⟨i, hi, he⟩
    rw [List.mem_range] at hi
    simp only [sameAt, beq_iff_eq] at he
    have := cmpM_zero.mp he
    rw [this]
    simp [List.getD_eq_getElem?_getD, hi]
  · intro h
    obtain ⟨j, hj, e⟩ := List.mem_iff_getElem.mp h
    refine ⟨j, List.mem_range.mpr hj, ?_⟩
    simp only [sameAt, beq_iff_eq]
    rw [cmpM_zero]
    simp [List.getD_eq_getElem?_getD, hj, e]
theorem addS_iff {c x : Shape} {ls : List Shape} : x ∈ addS c ls ↔ x = c ∨ x ∈ ls := by
  unfold addS
  split
  · rename_i h
    have := any_same.mp h
    constructor
    · exact Or.inr
    · rintro (rfl | h)
      · exact this
      · exact h
  · exact insS_iff
theorem addS_sorted {c : Shape} {ls : List Shape} (h : ls.Pairwise (fun a b => cmpM a b < 0)) : (addS c ls).Pairwise (fun a b => cmpM a b < 0) := by
  unfold addS
  split
  · exact h
  · rename_i hn
    exact insS_sorted (fun hc => hn (any_same.mpr hc)) h
theorem formsF_iff (l : Shape) (x : Shape) : ∀ t, x ∈ formsF l t ↔ ∃ i, i < t ∧ x = formM l i
  | 0 => by simp [formsF]
  | t + 1 => by
    rw [formsF_succ, addS_iff, formsF_iff l x t]
    constructor
    · rintro (h | ⟨i, hi, h⟩)
      · exact ⟨t, by omega, h⟩
      · exact ⟨i, by omega, h⟩
    · rintro ⟨i, hi, h⟩
      by_cases e : i = t
      · subst e; exact Or.inl h
      · exact Or.inr ⟨i, by omega, h⟩
theorem formsF_sorted (l : Shape) : ∀ t, (formsF l t).Pairwise (fun a b => cmpM a b < 0)
  | 0 => by simp [formsF]
  | t + 1 => by rw [formsF_succ]; exact addS_sorted (formsF_sorted l t)
theorem cptA_iff {x z : Shape} : ∀ {l : List Shape}, (z = x ∨ z ∈ cptA x l) ↔ (z = x ∨ z ∈ l)
  | [] => by simp [cptA]
  | y :: l => by
    unfold cptA
    split
    · rename_i h
      subst h
      rw [cptA_iff (l := l)]
      simp
    · rw [List.mem_cons, cptA_iff (l := l), List.mem_cons]
theorem cptA_sorted {x : Shape} : ∀ {l : List Shape}, (x :: l).Pairwise (fun a b => ¬ cmpM b a < 0) → (x :: cptA x l).Pairwise (fun a b => cmpM a b < 0)
  | [], _ => by simp [cptA]
  | y :: l, h => by
    rw [List.pairwise_cons] at h
    unfold cptA
    split
    · rename_i e
      subst e
      exact cptA_sorted h.2
    · rename_i ne
      have h1 := cptA_sorted h.2
      have hxy : cmpM x y < 0 := by
        rcases cmpM_trich x y with e | e | e
        · exact e
        · exact absurd e.symm ne
        · exact absurd e (h.1 y (by simp))
      rw [List.pairwise_cons]
      refine ⟨fun z hz => ?_, h1⟩
      rcases List.mem_cons.mp hz with rfl | hz
      · exact hxy
      · exact cmpM_trans hxy ((List.pairwise_cons.mp h1).1 z hz)
theorem compactS_iff {z : Shape} {l : List Shape} : z ∈ compactS l ↔ z ∈ l := by
  cases l with
  | nil => simp [compactS]
  | cons x l => rw [compactS, List.mem_cons, List.mem_cons, cptA_iff]
theorem compactS_sorted {l : List Shape} (h : l.Pairwise (fun a b => ¬ cmpM b a < 0)) : (compactS l).Pairwise (fun a b => cmpM a b < 0) := by
  cases l with
  | nil => simp [compactS]
  | cons x l => exact cptA_sorted h
theorem forms_eq (p : PieceM) : formsI p = formsP p := by
  unfold formsI formsP tidyM
  refine sorted_ext (compactS_sorted (orderS_sorted _)) (formsF_sorted _ _) fun x => ?_
  rw [compactS_iff, (orderS_perm _).mem_iff, formsF_iff]
  simp only [formsL, List.mem_map, List.mem_range]
  exact ⟨fun ⟨i, h1, h2⟩ => ⟨i, h1, h2.symm⟩, fun ⟨i, h1, h2⟩ => ⟨i, h1, h2.symm⟩⟩
theorem cmp_dec (a b : Shape) : (cmpM a b == 0) = decide (a = b) := by
  rw [Bool.eq_iff_iff]; simp [cmpM_zero]
theorem alike_eq (p q : PieceM) : alikeS p q = (decide (p.cs.length = q.cs.length) && alikeI p q) := by
  unfold alikeS alikeI
  rw [forms_eq, forms_eq]
  simp only [cmp_dec]
  by_cases h : p.cs.length = q.cs.length
  · simp [h]
  · simp only [h, decide_false, Bool.false_and, List.any_eq_false]
    intro a ha
    rw [List.any_eq_true]
    rintro ⟨b, hb, e⟩
    have e' := of_decide_eq_true e
    subst e'
    exact h (((formsP_ok p).2 a ha).symm.trans ((formsP_ok q).2 a hb))
theorem puzzle_eq (r : List (Int × Int)) (l : List PieceM) : puzzleI r l = puzzleS r l := by
  unfold puzzleI puzzleS
  have hr : regionM r = regionS r := regionM_S r
  have hp : ∀ i, (pieceM (l.getD i ⟨[], 0, false⟩) && apartI l i (l.getD i ⟨[], 0, false⟩)) = (pieceS (l.getD i ⟨[], 0, false⟩) && apartS l i (l.getD i ⟨[], 0, false⟩)) := fun i => by
    simp only [piece_eq, apartI, apartS, alike_eq]
  rw [hr]
  congr 1
  · congr 1
    rw [Bool.eq_iff_iff]
    simp
    omega
  · congr 1
    funext i
    exact hp i
theorem place_eq (r : List (Int × Int)) (l : List PieceM) (k : Int) (s : List Int) : placeI r l k s = placeS r l k s := by
  unfold placeI placeS fitI fitS
  rw [forms_eq]
  simp only [cmp_dec]
end Go.Proofs
end
