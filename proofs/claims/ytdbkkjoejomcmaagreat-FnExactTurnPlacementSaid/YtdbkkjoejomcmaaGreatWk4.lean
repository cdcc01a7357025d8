/- Walks: Puzzles and placements turned into ones that the caller owns. No condition. | Corners and sizes of cells. No condition. | The reference's moves, normal forms, turns. No condition. | Turns. No condition. | Shapes compared. No condition. | Cells in order. No condition. | Shapes equal; cells sorted by the reference. No condition. | The reference's forms. No condition. -/
import Derived.Test.YtdbkkjoejomcmaaGreatBO
import Derived.Test.YtdbkkjoejomcmaaGreatWk3
import Derived.Test.YtdbkkjoejomcmaaGreatWk2
set_option linter.unusedVariables false
set_option linter.unusedSimpArgs false
section
open Go Go.Big
namespace Go.Proofs
set_option maxHeartbeats 2000000
theorem ownX_leaf {H : Heap} {z : AV} {rows : List (List PV)} {s : List Nat} (h : ownX H z (.sl 1 rows) s) (hs : scalRows rows) : ∃ q tg, pvOf z = some q ∧ tagOf z = tg ∧ ownP H q (.sl rows) s ∧ (noOb q = true ∨ tg = 2) := by
  rcases ownA_flat (ownX_un h) hs with ⟨o, e, ty, sz, t, rfl, h1, rfl, h2, h3⟩ | ⟨rfl | ⟨t, rfl⟩, rfl, rfl⟩
  · exact ⟨.ob o e, 2, rfl, rfl, ownP_mk h1 hs h2 h3, .inr rfl⟩
  · exact ⟨.sl [], 1, rfl, rfl, ⟨rfl, rfl, rfl⟩, .inl rfl⟩
  · exact ⟨.sl [], t, rfl, rfl, ⟨rfl, rfl, rfl⟩, .inl rfl⟩
theorem toPiece_o (G : Gv) (p : PieceM) (hl : p.cs.length < 1000000000) : GivesO Tryz.prog G 118 [pieceA 0 p] (pieceA 1 p) := by
  refine .of (.body Tryz.func118 rfl (by simp [Tryz.ntmps118]) ?_)
  rw [Tryz.ntmps118, Tryz.results118]
  refine AL ?_
  refine CWO (toCellS_o G _ hl) ?_
  intro z H1 S m hz hn hS hf hm
  have f1 := hf 1 (by omega)
  have f2 := hf 2 (by omega)
  have f0 := hf 0 (by omega)
  simp [upd_if] at f0 f1 f2
  have hS1 : ∀ o ∈ S, 5 ≤ o := fun o ho => (hS o ho).1
  replace hS := Hid.mk hS
  replace hf := Hid.mk hf
  replace hn := Hid.mk hn
  replace hS1 := Hid.mk hS1
  have hz' := Hid.mk hz
  rcases ownX_cases hz with ⟨o, e, ty, sz, rows, t, rfl, hH, ho⟩ | rfl | ⟨t, rfl⟩
  · clear hz
    have ho5 := hS1.out o ho
    have n1 : ¬ o = 1 := by omega
    have n2 : ¬ o = 2 := by omega
    clear ho
    refine AL ?_
    refine ⟨S, ?_, hn.out⟩
    rw [← List.append_nil S]
    exact ownX_mk3 (s2 := []) (s3 := []) (ownX_congr (fun o ho => by have := hS1.out o ho; simp [upd_if, show ¬ o = 1 by omega, show ¬ o = 2 by omega]) hz'.out) ownX_mki ownX_mkb
  · clear hz
    refine AL ?_
    refine ⟨S, ?_, hn.out⟩
    rw [← List.append_nil S]
    exact ownX_mk3 (s2 := []) (s3 := []) (ownX_congr (fun o ho => by have := hS1.out o ho; simp [upd_if, show ¬ o = 1 by omega, show ¬ o = 2 by omega]) hz'.out) ownX_mki ownX_mkb
  · clear hz
    refine AL ?_
    refine ⟨S, ?_, hn.out⟩
    rw [← List.append_nil S]
    exact ownX_mk3 (s2 := []) (s3 := []) (ownX_congr (fun o ho => by have := hS1.out o ho; simp [upd_if, show ¬ o = 1 by omega, show ¬ o = 2 by omega]) hz'.out) ownX_mki ownX_mkb
theorem toPlacement_o (G : Gv) (k : Int) (l : List Int) (hl : l.length < 1000000000) : GivesO Tryz.prog G 41 [.ag [.i .i64 k, .sl 0 (ints l)]] (.ag [.i .i64 k, .sl 1 (ints l)]) := by
  refine .of (.body Tryz.func41 rfl (by simp [Tryz.ntmps41]) ?_)
  rw [Tryz.ntmps41, Tryz.results41]
  refine AL ?_
  refine CWO (toInt64S_o G _ hl) ?_
  intro z H1 S m hz hn hS hf hm
  have f1 := hf 1 (by omega)
  have f2 := hf 2 (by omega)
  have f0 := hf 0 (by omega)
  simp [upd_if] at f0 f1 f2
  have hS1 : ∀ o ∈ S, 5 ≤ o := fun o ho => Nat.le_trans (by omega) (hS o ho).1
  replace hS := Hid.mk hS
  replace hf := Hid.mk hf
  replace hn := Hid.mk hn
  replace hS1 := Hid.mk hS1
  have hz' := Hid.mk hz
  rcases ownX_cases hz with ⟨o, e, ty, sz, rows, t, rfl, hH, ho⟩ | rfl | ⟨t, rfl⟩
  · clear hz
    have ho5 := hS1.out o ho
    have n1 : ¬ o = 1 := by omega
    have n2 : ¬ o = 2 := by omega
    clear ho
    refine AL ?_
    exact ⟨S, ownX_mk2 (s1 := []) ownX_mki (ownX_congr (fun o ho => by have := hS1.out o ho; simp [upd_if, show ¬ o = 1 by omega, show ¬ o = 2 by omega]) hz'.out), hn.out⟩
  · clear hz
    refine AL ?_
    exact ⟨S, ownX_mk2 (s1 := []) ownX_mki (ownX_congr (fun o ho => by have := hS1.out o ho; simp [upd_if, show ¬ o = 1 by omega, show ¬ o = 2 by omega]) hz'.out), hn.out⟩
  · clear hz
    refine AL ?_
    exact ⟨S, ownX_mk2 (s1 := []) ownX_mki (ownX_congr (fun o ho => by have := hS1.out o ho; simp [upd_if, show ¬ o = 1 by omega, show ¬ o = 2 by omega]) hz'.out), hn.out⟩
theorem tag_store {t t2 : Nat} {rows : List (List PV)} {row : List PV} (h : tagOk t rows) (hr : t2 = 2 ∨ noObs [row]) : tagOk (joinT t t2) (rows ++ [row]) := by
  rcases h with h | h
  · exact .inl ((join_2 t t2).1 h)
  · rcases hr with hr | hr
    · exact .inl ((join_2 t t2).2 hr)
    · refine .inr fun r hm p hp => ?_
      rcases List.mem_append.mp hm with hm | hm
      · exact h r hm p hp
      · exact hr r hm p hp
theorem take_map {α β : Type} (f : α → β) {l : List α} {i : Nat} {x : α} (h : l[i]? = some x) : (l.take (i + 1)).map f = (l.take i).map f ++ [f x] := by
  obtain ⟨hi, rfl⟩ := List.getElem?_eq_some_iff.mp h
  rw [List.take_succ_eq_append_getElem hi, List.map_append]; rfl
theorem toPieceS_o (G : Gv) (l : List PieceM) (hl : l.length < 1000000000) (hc : ∀ p ∈ l, p.cs.length < 1000000000) : GivesO Tryz.prog G 64 [.sl 0 (pieces l)] (.sl 1 (pieces l)) := by
  refine .of (.body Tryz.func64 rfl (by simp [Tryz.ntmps64]) ?_)
  rw [Tryz.ntmps64, Tryz.results64]
  have hlen := pieces_len l
  have b1 : ((40 : Nat) : Int) * l.length ≤ 281474976710656 := by simp; omega
  have b2 : (l.length : Int) ≤ 9223372036854775807 := by omega
  have b3 : (0 : Int) ≤ l.length := by omega
  replace hc := Hid.mk hc
  refine AG ?_
  refine .block (.loop (.inv (fun d E H n' => ∃ (i t' : Nat) (r1 : List (List PV)) (S1 : List Nat), i + d = l.length ∧ E 0 = .sl 0 (pieces l) ∧ E 3 = .own 3 0 ∧ E 4 = .i .i64 i ∧ H 3 = some (.arr 0 79 3 (r1 ++ List.replicate d [PV.sl [], PV.i .i64 0, PV.b false]) t') ∧ 3 < n' ∧ r1.length = i ∧ tagOk t' r1 ∧ fitR 3 r1 ∧ (l = [] → t' ≠ 2) ∧ ownRs H r1 (pieces (l.take i)) S1 ∧ S1.Nodup ∧ ∀ o ∈ S1, 3 < o ∧ o < n') l.length ?_ ?_))
  · refine ⟨0, 1, [], [], by omega, by simp [setF_if, argE], by simp [setF_if, argE], by simp [setF_if, argE], by simp [upd_if, hlen], by omega, rfl, .inr (fun r hr => by simp at hr), fun r hr => by simp at hr, fun _ => by decide, ⟨rfl, rfl⟩, by simp, by simp⟩
  clear b1 b2 b3
  rintro d E H n' ⟨i, t', r1, S1, hi, h0, h3, h4, hH, hn3, hr1, htag, hfit, hnil, hown, hnd, hlt⟩
  replace hr1 := Hid.mk hr1
  replace htag := Hid.mk htag
  replace hfit := Hid.mk hfit
  replace hnil := Hid.mk hnil
  replace hown := Hid.mk hown
  replace hnd := Hid.mk hnd
  replace hlt := Hid.mk hlt
  by_cases c : (i : Int) < l.length
  · have hw_i : IntKind.i64.wrap ((i : Int) + 1) = (i : Int) + 1 := wr64 (by omega) (by omega)
    obtain ⟨p, hp⟩ : ∃ p, l[i]? = some p := ⟨_, List.getElem?_eq_getElem (by omega)⟩
    have hpl := hc.out p (List.mem_of_getElem? hp)
    have hr : (pieces l)[i]? = some (pieceR p) := by simp [pieces, hp]
    obtain ⟨d, rfl⟩ : ∃ d', d = d' + 1 := ⟨d - 1, by omega⟩
    rw [List.replicate_succ] at hH
    have hro : (r1 ++ [PV.sl [], PV.i .i64 0, PV.b false] :: List.replicate d [PV.sl [], PV.i .i64 0, PV.b false])[i]? = some [PV.sl [], PV.i .i64 0, PV.b false] := at_mid _ _ _ hr1.out
    have hset : ∀ x, (r1 ++ [PV.sl [], PV.i .i64 0, PV.b false] :: List.replicate d [PV.sl [], PV.i .i64 0, PV.b false]).set i x = r1 ++ x :: List.replicate d [PV.sl [], PV.i .i64 0, PV.b false] := fun x => set_mid _ _ _ _ hr1.out
    have hrl : i < (r1 ++ [PV.sl [], PV.i .i64 0, PV.b false] :: List.replicate d [PV.sl [], PV.i .i64 0, PV.b false]).length := (List.getElem?_eq_some_iff.mp hro).1
    generalize r1 ++ [PV.sl [], PV.i .i64 0, PV.b false] :: List.replicate d [PV.sl [], PV.i .i64 0, PV.b false] = R at hH hro hset hrl
    have htk := take_map pieceR hp
    replace htk := Hid.mk htk
    replace hp := Hid.mk hp
    replace hpl := Hid.mk hpl
    skip
    refine AL ?_
    refine CWO (toPiece_o G p hpl.out) ?_
    intro z H1 S m hz hn hS hf hm
    have hH1 := hf 3 (by omega)
    rw [hH] at hH1
    obtain ⟨z, zk, zb, S, s2, s3, rfl, rfl, hz2, h2, h3'⟩ := ownX_ag3 hz
    obtain ⟨rfl, rfl⟩ := ownX_i h2
    obtain ⟨rfl, rfl⟩ := ownX_b h3'
    clear h2 h3' hz
    simp only [List.append_nil] at hn hS
    have hq := ownX_leaf hz2 (cells_scal _)
    have hSd : ∀ o ∈ S1, o ∉ S := fun o h1 h2 => by have := hlt.out o h1; have := hS o h2; omega
    have hS3 : ∀ o ∈ S, 3 < o ∧ o < m := fun o h => by have := hS o h; omega
    have hS4 : ∀ o ∈ S1, 3 < o ∧ o < m := fun o h => by have := hlt.out o h; omega
    have hf1 : ∀ o ∈ S1, H1 o = H o := fun o h => hf o (by have := hlt.out o h; omega)
    have hcs := ownX_cases hz2
    clear hz2
    replace hq := Hid.mk hq
    replace hSd := Hid.mk hSd
    replace hS3 := Hid.mk hS3
    replace hS4 := Hid.mk hS4
    replace hf1 := Hid.mk hf1
    replace hf := Hid.mk hf
    replace hS := Hid.mk hS
    replace hn := Hid.mk hn
    clear hH
    have fin : ∀ (q : PV) (t2 : Nat) (H2 : Heap), ownP H1 q (.sl (cells p.cs)) S → (noOb q = true ∨ t2 = 2) → (∀ o, o ≠ 3 → H2 o = H1 o) → tagOk (joinT t' t2) (r1 ++ [[q, .i .i64 p.k, .b p.b]]) ∧ ownRs H2 (r1 ++ [[q, .i .i64 p.k, .b p.b]]) (pieces (l.take (i + 1))) (S1 ++ S) := by
      intro q t2 H2 h1 h2 h3
      refine ⟨tag_store htag.out (h2.symm.imp id fun h2 r hr p hp => ?_), ?_⟩
      · obtain rfl := List.mem_singleton.mp hr
        simp only [List.mem_cons, List.not_mem_nil, or_false] at hp
        rcases hp with rfl | rfl | rfl <;> first | rfl | exact h2
      · have e : pieces (l.take (i + 1)) = pieces (l.take i) ++ [pieceR p] := htk.out
        rw [e]
        refine ownRs_append (ownRs_congr (H := H) (fun o ho => ?_) hown.out) (ownRs_one (ownPs_congr (H := H1) (fun o ho => ?_) ?_))
        · rw [h3 o (by have := hlt.out o ho; omega)]; exact hf1.out o ho
        · exact h3 o (by have := hS3.out o ho; omega)
        · rw [← List.append_nil S]; exact ownPs_cons h1 (ownPs_scal_mk (by simp [scalB]))
    replace fin := Hid.mk fin
    replace htk := Hid.mk htk
    rcases hcs with ⟨o, e, ty, sz, rows, t, rfl, hHo, ho⟩ | rfl | ⟨t, rfl⟩
    · have ho3 := hS3.out o ho
      have n3 : ¬ o = 3 := by omega
      clear ho
      obtain ⟨q, tg, e1, e2, hq1, hq2⟩ := hq.out
      cases e1
      clear hq2 e2
      replace hq1 := Hid.mk hq1
      replace hset := Hid.mk hset
      refine AL ?_
      refine ⟨d, by omega, i + 1, joinT t' (2), r1 ++ [[PV.ob o e, PV.i .i64 p.k, PV.b p.b]], S1 ++ S, by omega, by simp [setF_if, *], by simp [setF_if, *], by simp [setF_if, *], ?_, by omega, by simp [hr1.out], (fin.out _ _ H1 hq1.out (.inr rfl) (fun _ _ => rfl)).1, ?_, fun e => by rw [e] at hi; simp at hi, (fin.out _ (2) _ hq1.out (.inr rfl) (fun k hk => by rw [upd_if, if_neg hk])).2, ?_, ?_⟩
      · simp [upd_if, joinT, hset.out]
      · intro r hr
        rcases List.mem_append.mp hr with hr | hr
        · exact hfit.out r hr
        · rw [List.mem_singleton.mp hr]; rfl
      · exact List.nodup_append.mpr ⟨hnd.out, hn.out, fun x hx y hy e => hSd.out x hx (e ▸ hy)⟩
      · intro x hx
        rcases List.mem_append.mp hx with hx | hx
        · exact ⟨(hS4.out x hx).1, by have := (hS4.out x hx).2; omega⟩
        · exact ⟨(hS3.out x hx).1, by have := (hS3.out x hx).2; omega⟩
    · skip
      obtain ⟨q, tg, e1, e2, hq1, hq2⟩ := hq.out
      cases e1
      clear hq2 e2
      replace hq1 := Hid.mk hq1
      replace hset := Hid.mk hset
      refine AL ?_
      refine ⟨d, by omega, i + 1, joinT t' (1), r1 ++ [[PV.sl [], PV.i .i64 p.k, PV.b p.b]], S1 ++ S, by omega, by simp [setF_if, *], by simp [setF_if, *], by simp [setF_if, *], ?_, by omega, by simp [hr1.out], (fin.out _ _ H1 hq1.out (.inl rfl) (fun _ _ => rfl)).1, ?_, fun e => by rw [e] at hi; simp at hi, (fin.out _ (1) _ hq1.out (.inl rfl) (fun k hk => by rw [upd_if, if_neg hk])).2, ?_, ?_⟩
      · simp [upd_if, joinT, hset.out]
      · intro r hr
        rcases List.mem_append.mp hr with hr | hr
        · exact hfit.out r hr
        · rw [List.mem_singleton.mp hr]; rfl
      · exact List.nodup_append.mpr ⟨hnd.out, hn.out, fun x hx y hy e => hSd.out x hx (e ▸ hy)⟩
      · intro x hx
        rcases List.mem_append.mp hx with hx | hx
        · exact ⟨(hS4.out x hx).1, by have := (hS4.out x hx).2; omega⟩
        · exact ⟨(hS3.out x hx).1, by have := (hS3.out x hx).2; omega⟩
    · skip
      obtain ⟨q, tg, e1, e2, hq1, hq2⟩ := hq.out
      cases e1
      clear hq2 e2
      replace hq1 := Hid.mk hq1
      replace hset := Hid.mk hset
      refine AL ?_
      refine ⟨d, by omega, i + 1, joinT t' (joinT t 1), r1 ++ [[PV.sl [], PV.i .i64 p.k, PV.b p.b]], S1 ++ S, by omega, by simp [setF_if, *], by simp [setF_if, *], by simp [setF_if, *], ?_, by omega, by simp [hr1.out], (fin.out _ _ H1 hq1.out (.inl rfl) (fun _ _ => rfl)).1, ?_, fun e => by rw [e] at hi; simp at hi, (fin.out _ (joinT t 1) _ hq1.out (.inl rfl) (fun k hk => by rw [upd_if, if_neg hk])).2, ?_, ?_⟩
      · simp [upd_if, joinT, hset.out]
      · intro r hr
        rcases List.mem_append.mp hr with hr | hr
        · exact hfit.out r hr
        · rw [List.mem_singleton.mp hr]; rfl
      · exact List.nodup_append.mpr ⟨hnd.out, hn.out, fun x hx y hy e => hSd.out x hx (e ▸ hy)⟩
      · intro x hx
        rcases List.mem_append.mp hx with hx | hx
        · exact ⟨(hS4.out x hx).1, by have := (hS4.out x hx).2; omega⟩
        · exact ⟨(hS3.out x hx).1, by have := (hS3.out x hx).2; omega⟩
  · refine AL ?_
    have ei : i = l.length := by omega
    have hd : d = 0 := by omega
    subst hd
    rw [List.replicate_zero, List.append_nil] at hH
    have ho := hown.out
    rw [ei, List.take_length] at ho
    refine ⟨3 :: S1, ownX_sl (tagOk_own hH ho htag.out (ownRs_ns ho (pieces_ns _)) hfit.out fun e => hnil.out ?_), List.nodup_cons.mpr ⟨fun h => by have := hlt.out 3 h; omega, hnd.out⟩⟩
    refine List.length_eq_zero_iff.mp ?_
    have := hr1.out
    rw [e] at this; simp at this; omega
end Go.Proofs
end
section
open Go Go.Big
namespace Go.Proofs
set_option maxHeartbeats 2000000

theorem corner_fn (G : Gv) (l : List (Int × Int)) (h1 : 0 < l.length) (hl : l.length < 1000000000) : Gives Tryz.prog G 177 [.sl 0 (cells l)] (cellA (minF l l.length).1 (minF l l.length).2) := by
  refine .of (.body Tryz.func177 rfl (by simp [Tryz.ntmps177]) ?_)
  rw [Tryz.ntmps177, Tryz.results177]
  have hlen := cells_len l
  have hr0 := cells_at (l := l) (i := 0) h1
  have z : ((0 : Int).toNat) = 0 := rfl
  refine AL ?_
  refine .loop (.inv (fun d E H n' => ∃ i : Nat, i + d = l.length ∧ 4 < n' ∧ E 2 = .ptr 0 0 0 0 ∧ E 3 = .ptr 4 0 0 0 ∧ E 9 = .sl 0 (cells l) ∧ E 10 = .i .i64 l.length ∧ E 11 = .i .i64 i ∧ H 0 = some (.box 117 [.i .i64 0, .i .i64 0]) ∧ H 4 = some (.box 117 [.i .i64 (minF l i).1, .i .i64 (minF l i).2])) l.length ?_ ?_)
  · simp [setF_if, argE, upd_if, minF]
  rintro d E H n' ⟨i, hi, hn4, h2, h3, h9, h10, h11, hH0, hH4⟩
  have hn0 : 0 < n' := by omega
  by_cases c : (i : Int) < l.length
  · have hr := cells_at (l := l) (i := i) (by omega)
    have hw_i : IntKind.i64.wrap ((i : Int) + 1) = (i : Int) + 1 := wr64 (by omega) (by omega)
    have hs := minF_succ (l := l) (i := i) (by omega)
    refine AL ?_
    refine ⟨l.length - (i + 1), by omega, i + 1, by omega, ?_⟩
    simp [setF_if, upd_if, *, minI]
  · have e : i = l.length := by omega
    subst e
    refine AL ?_
    simp [retA, backA, backsA]
def maxI (a b : Int) : Int := if a < b then b else a
def maxF (l : List (Int × Int)) (i : Nat) : Int × Int := (l.take i).foldl (fun q p => (maxI q.1 p.1, maxI q.2 p.2)) (l.getD 0 (0, 0))
theorem maxF_succ {l : List (Int × Int)} {i : Nat} (h : i < l.length) : maxF l (i + 1) = (maxI (maxF l i).1 (l.getD i (0, 0)).1, maxI (maxF l i).2 (l.getD i (0, 0)).2) := by
  unfold maxF
  rw [List.take_succ_eq_append_getElem h, List.foldl_append]
  simp only [List.foldl_cons, List.foldl_nil, List.getD_eq_getElem?_getD, List.getElem?_eq_getElem h, Option.getD_some]
theorem reach_fn (G : Gv) (l : List (Int × Int)) (h1 : 0 < l.length) (hl : l.length < 1000000000) : Gives Tryz.prog G 178 [.sl 0 (cells l)] (cellA (maxF l l.length).1 (maxF l l.length).2) := by
  refine .of (.body Tryz.func178 rfl (by simp [Tryz.ntmps178]) ?_)
  rw [Tryz.ntmps178, Tryz.results178]
  have hlen := cells_len l
  have hr0 := cells_at (l := l) (i := 0) h1
  have z : ((0 : Int).toNat) = 0 := rfl
  refine AL ?_
  refine .loop (.inv (fun d E H n' => ∃ i : Nat, i + d = l.length ∧ 4 < n' ∧ E 2 = .ptr 0 0 0 0 ∧ E 3 = .ptr 4 0 0 0 ∧ E 9 = .sl 0 (cells l) ∧ E 10 = .i .i64 l.length ∧ E 11 = .i .i64 i ∧ H 0 = some (.box 117 [.i .i64 0, .i .i64 0]) ∧ H 4 = some (.box 117 [.i .i64 (maxF l i).1, .i .i64 (maxF l i).2])) l.length ?_ ?_)
  · simp [setF_if, argE, upd_if, maxF]
  rintro d E H n' ⟨i, hi, hn4, h2, h3, h9, h10, h11, hH0, hH4⟩
  have hn0 : 0 < n' := by omega
  by_cases c : (i : Int) < l.length
  · have hr := cells_at (l := l) (i := i) (by omega)
    have hw_i : IntKind.i64.wrap ((i : Int) + 1) = (i : Int) + 1 := wr64 (by omega) (by omega)
    have hs := maxF_succ (l := l) (i := i) (by omega)
    refine AL ?_
    refine ⟨l.length - (i + 1), by omega, i + 1, by omega, ?_⟩
    simp [setF_if, upd_if, *, maxI]
  · have e : i = l.length := by omega
    subst e
    refine AL ?_
    simp [retA, backA, backsA]
/-- The width and the height, as the reference takes them. -/
def sizeF (l : List (Int × Int)) (q : Int × Int) (i : Nat) : Int × Int := (l.take i).foldl (fun s p => (maxI s.1 (IntKind.i64.wrap (IntKind.i64.wrap (p.1 - q.1) + 1)), maxI s.2 (IntKind.i64.wrap (IntKind.i64.wrap (p.2 - q.2) + 1)))) (0, 0)
theorem sizeF_succ {l : List (Int × Int)} {q : Int × Int} {i : Nat} (h : i < l.length) : sizeF l q (i + 1) = (maxI (sizeF l q i).1 (IntKind.i64.wrap (IntKind.i64.wrap ((l.getD i (0, 0)).1 - q.1) + 1)), maxI (sizeF l q i).2 (IntKind.i64.wrap (IntKind.i64.wrap ((l.getD i (0, 0)).2 - q.2) + 1))) := by
  unfold sizeF
  rw [List.take_succ_eq_append_getElem h, List.foldl_append]
  simp only [List.foldl_cons, List.foldl_nil, List.getD_eq_getElem?_getD, List.getElem?_eq_getElem h, Option.getD_some]
def sizeM (l : List (Int × Int)) : Int × Int := sizeF l (minF l l.length) l.length
theorem l04Size_fn (G : Gv) (l : List (Int × Int)) (h1 : 0 < l.length) (hl : l.length < 1000000000) : Gives Tryz.prog G 128 [.sl 0 (cells l)] (.tup [.i .i64 (sizeM l).1, .i .i64 (sizeM l).2]) := by
  refine .of (.body Tryz.func128 rfl (by simp [Tryz.ntmps128]) ?_)
  rw [Tryz.ntmps128, Tryz.results128]
  have hlen := cells_len l
  unfold sizeM
  refine AL ?_
  refine CV (l02Least_fn G _ h1 hl) ?_
  refine AL ?_
  refine .loop (.inv (fun d E H n' => ∃ i : Nat, i + d = l.length ∧ E 0 = .sl 0 (cells l) ∧ E 4 = .i .i64 (minF l l.length).1 ∧ E 5 = .i .i64 (minF l l.length).2 ∧ E 6 = .i .i64 (sizeF l (minF l l.length) i).1 ∧ E 7 = .i .i64 (sizeF l (minF l l.length) i).2 ∧ E 8 = .i .i64 i) l.length ?_ ?_)
  · simp [setF_if, argE, upd_if, sizeF]
  rintro d E H n' ⟨i, hi, h0, h4, h5, h6, h7, h8⟩
  by_cases c : (i : Int) < l.length
  · have hr := cells_at (l := l) (i := i) (by omega)
    have hw_i : IntKind.i64.wrap ((i : Int) + 1) = (i : Int) + 1 := wr64 (by omega) (by omega)
    have hs := sizeF_succ (l := l) (q := minF l l.length) (i := i) (by omega)
    generalize minF l l.length = q at *
    refine AL ?_
    refine ⟨l.length - (i + 1), by omega, i + 1, by omega, ?_⟩
    simp [setF_if, upd_if, *, maxI]
  · have e : i = l.length := by omega
    subst e
    refine AL ?_
    simp [retA, backA, backsA]
def regionM (l : List (Int × Int)) : Bool := shapeM l && (minF l l.length == (0, 0)) && (decide ((maxF l l.length).1 < 20) && decide ((maxF l l.length).2 < 20))
def regionS (l : List (Int × Int)) : Bool := shapeM l && ((minF l l.length).1 == 0 && (minF l l.length).2 == 0 && decide ((sizeM l).1 ≤ 20) && decide ((sizeM l).2 ≤ 20))
theorem shapeM_pos {l : List (Int × Int)} (h : shapeM l = true) : 0 < l.length := by
  unfold shapeM at h; simp only [Bool.and_eq_true, decide_eq_true_eq] at h; omega
theorem implIsRegion_fn (G : Gv) (l : List (Int × Int)) (hl : l.length < 1000000000) : Gives Tryz.prog G 132 [.sl 0 (cells l)] (.b (regionM l)) := by
  refine .of (.body Tryz.func132 rfl (by simp [Tryz.ntmps132]) ?_)
  rw [Tryz.ntmps132, Tryz.results132]
  refine AL ?_
  refine CV (implIsShape_fn G _ hl) ?_
  by_cases c : shapeM l = true
  · refine AL ?_
    refine CV (corner_fn G _ (shapeM_pos c) hl) ?_
    by_cases c1 : ((minF l l.length).1 == 0 && (minF l l.length).2 == 0) = true
    · refine AL ?_
      refine CV (reach_fn G _ (shapeM_pos c) hl) ?_
      have e : minF l l.length = (0, 0) := by simp only [Bool.and_eq_true, beq_iff_eq] at c1; exact Prod.ext c1.1 c1.2
      by_cases c2 : (maxF l l.length).1 < 20
      · refine AL ?_
        simp [retA, backA, regionM, c, e, c2]
      · refine AL ?_
        simp [retA, backA, regionM, c, e, c2]
    · refine AL ?_
      have e : ¬ minF l l.length = (0, 0) := fun e => c1 (by rw [e]; rfl)
      simp [retA, backA, regionM, c, e]
  · refine AL ?_
    simp [retA, backA, regionM, c]
theorem specIsRegion_fn (G : Gv) (l : List (Int × Int)) (hl : l.length < 1000000000) : Gives Tryz.prog G 124 [.sl 0 (cells l)] (.b (regionS l)) := by
  refine .of (.body Tryz.func124 rfl (by simp [Tryz.ntmps124]) ?_)
  rw [Tryz.ntmps124, Tryz.results124]
  refine AL ?_
  refine CV (specIsShape_fn G _ hl) ?_
  by_cases c : shapeM l = true
  · refine AL ?_
    refine CV (l04Size_fn G _ (shapeM_pos c) hl) ?_
    refine AL ?_
    refine CV (l02Least_fn G _ (shapeM_pos c) hl) ?_
    by_cases c1 : ((minF l l.length).1 == 0) = true <;> by_cases c2 : ((minF l l.length).2 == 0) = true <;> by_cases c3 : (sizeM l).1 ≤ 20
    all_goals
      refine AL ?_
      simp [retA, backA, regionS, c, *]
  · refine AL ?_
    simp [retA, backA, regionS, c]
end Go.Proofs
end
section
open Go Go.Big
namespace Go.Proofs
set_option maxHeartbeats 2000000
theorem moved_take {l : List (Int × Int)} {i : Nat} (a b : Int) (h : i < l.length) : cells (movedM (l.take i) a b) ++ [[.i .i64 (IntKind.i64.wrap ((l.getD i (0, 0)).1 + a)), .i .i64 (IntKind.i64.wrap ((l.getD i (0, 0)).2 + b))]] = cells (movedM (l.take (i + 1)) a b) := by
  rw [List.take_succ_eq_append_getElem h]; simp only [cells, movedM, List.map_append, List.map_cons, List.map_nil, List.getD_eq_getElem?_getD, List.getElem?_eq_getElem h, Option.getD_some]
theorem l02Move_fn (G : Gv) (l : List (Int × Int)) (a b : Int) (hl : l.length < 1000000000) : Gives Tryz.prog G 130 [.sl 0 (cells l), .i .i64 a, .i .i64 b] (.sl 1 (cells (movedM l a b))) := by
  refine .of (.body Tryz.func130 rfl (by simp [Tryz.ntmps130]) ?_)
  rw [Tryz.ntmps130, Tryz.results130]
  have hlen := cells_len l
  refine AL ?_
  refine .loop (.inv (fun d E H n' => ∃ i : Nat, i + d = l.length ∧ 1 < n' ∧ E 0 = .sl 0 (cells l) ∧ E 1 = .i .i64 a ∧ E 2 = .i .i64 b ∧ E 8 = .i .i64 i ∧ ∃ e, E 7 = .own 1 e ∧ H 1 = some (.arr e 117 2 (cells (movedM (l.take i) a b)) 1)) l.length ?_ ?_)
  · simp [setF_if, argE, upd_if, movedM, cells]
  rintro d E H n' ⟨i, hi, hn1, h0, h1, h2, h8, e, h7, hH⟩
  by_cases c : (i : Int) < l.length
  · have hr := cells_at (l := l) (i := i) (by omega)
    have hw_i : IntKind.i64.wrap ((i : Int) + 1) = (i : Int) + 1 := wr64 (by omega) (by omega)
    have hrl : (cells (movedM (l.take i) a b)).length = i := by simp [cells, movedM]; omega
    have hb : (i + 1) * 16 ≤ 140737488355328 := by omega
    have htk := moved_take (l := l) (i := i) a b (by omega)
    generalize l.getD i (0, 0) = p at hr htk
    refine AM ?_
    refine ⟨l.length - (i + 1), by omega, i + 1, by omega, ?_⟩
    simp [setF_if, upd_if, *]
  · have e' : i = l.length := by omega
    subst e'
    refine AL ?_
    simp [retA, backA, newSl, newB, hH, List.take_length]
def normM (l : List (Int × Int)) : List (Int × Int) := movedM l (IntKind.i64.wrap (0 - (minF l l.length).1)) (IntKind.i64.wrap (0 - (minF l l.length).2))
theorem movedM_len (l : List (Int × Int)) (a b : Int) : (movedM l a b).length = l.length := by simp [movedM]
theorem l02Normal_fn (G : Gv) (l : List (Int × Int)) (h1 : 0 < l.length) (hl : l.length < 1000000000) : Gives Tryz.prog G 189 [.sl 0 (cells l)] (.sl 1 (cells (normM l))) := by
  refine .of (.body Tryz.func189 rfl (by simp [Tryz.ntmps189]) ?_)
  rw [Tryz.ntmps189, Tryz.results189]
  refine AL ?_
  refine CV (l02Least_fn G _ h1 hl) ?_
  refine AL ?_
  refine CV (l02Move_fn G _ _ _ hl) ?_
  refine AL ?_
  simp [retA, backA, newSl, newB, normM]
theorem normal_fn (G : Gv) (l : List (Int × Int)) (h1 : 0 < l.length) (hl : l.length < 1000000000) : Gives Tryz.prog G 146 [.sl 0 (cells l)] (.sl 1 (cells (normM l))) := by
  refine .of (.body Tryz.func146 rfl (by simp [Tryz.ntmps146]) ?_)
  rw [Tryz.ntmps146, Tryz.results146]
  refine AL ?_
  refine CV (corner_fn G _ h1 hl) ?_
  refine AL ?_
  refine CV (moved_fn G _ _ _ hl) ?_
  refine AL ?_
  simp [retA, backA, newSl, newB, normM]
end Go.Proofs
end
section
open Go Go.Big
namespace Go.Proofs
set_option maxHeartbeats 2000000
def stepT (p : Int × Int) : Int × Int := (IntKind.i64.wrap (0 - p.2), p.1)
def iterT (p : Int × Int) : Nat → Int × Int
  | 0 => p
  | n + 1 => stepT (iterT p n)
def flipT (p : Int × Int) (t : Nat) : Int × Int := if 4 ≤ t then (IntKind.i64.wrap (0 - p.1), p.2) else p
def turnM (p : Int × Int) (t : Nat) : Int × Int := iterT (flipT p t) (t % 4)
theorem rem4 {t : Nat} : (t : Int).tmod 4 = ((t % 4 : Nat) : Int) := by
  rw [Int.tmod_eq_emod_of_nonneg (by omega)]; omega
theorem turnCell_fn (G : Gv) (x y : Int) (t : Nat) : Gives Tryz.prog G 193 [cellA x y, .i .i64 t] (cellA (turnM (x, y) t).1 (turnM (x, y) t).2) := by
  refine .of (.body Tryz.func193 rfl (by simp [Tryz.ntmps193]) ?_)
  rw [Tryz.ntmps193, Tryz.results193]
  have h4 := rem4 (t := t)
  unfold turnM
  obtain ⟨m, hm⟩ : ∃ m, t % 4 = m := ⟨_, rfl⟩
  have hm4 : m < 4 := by omega
  have hmw : IntKind.i64.wrap (m : Int) = m := wr64 (by omega) (by omega)
  rw [hm] at h4 ⊢
  obtain ⟨q, hf⟩ : ∃ q, flipT (x, y) t = q := ⟨_, rfl⟩
  rw [hf]
  by_cases c4 : (t : Int) ≥ 4
  all_goals
    unfold flipT at hf
    first | rw [if_pos (by omega)] at hf | rw [if_neg (by omega)] at hf
    have hq1 := congrArg Prod.fst hf
    have hq2 := congrArg Prod.snd hf
    simp only at hq1 hq2
    clear hf
    refine AL ?_
    refine .loop (.inv (fun d E H n' => ∃ i : Nat, i + d = m ∧ 1 < n' ∧ E 2 = .ptr 0 0 0 0 ∧ E 4 = .ptr 1 0 0 0 ∧ E 12 = .i .i64 (m : Int) ∧ E 13 = .i .i64 i ∧ H 1 = some (.box 117 [.i .i64 0, .i .i64 0]) ∧ H 0 = some (.box 117 [.i .i64 (iterT q i).1, .i .i64 (iterT q i).2])) m ?_ ?_)
    · simp [setF_if, argE, upd_if, iterT, h4, *]
    rintro d E H n' ⟨i, hi, hn1, h2, h4', h12, h13, hH1, hH0⟩
    have hn0 : 0 < n' := by omega
    have hs : iterT q (i + 1) = stepT (iterT q i) := rfl
    have hs1 : (stepT (iterT q i)).1 = IntKind.i64.wrap (0 - (iterT q i).2) := rfl
    have hs2 : (stepT (iterT q i)).2 = (iterT q i).1 := rfl
    by_cases c : (i : Int) < (m : Int)
    · have hw_i : IntKind.i64.wrap ((i : Int) + 1) = (i : Int) + 1 := wr64 (by omega) (by omega)
      refine AL ?_
      refine ⟨m - (i + 1), by omega, i + 1, by omega, ?_⟩
      simp [setF_if, upd_if, *]
    · have e' : i = m := by omega
      subst e'
      refine AL ?_
      simp [retA, backA, backsA]
theorem l03Turn_fn (G : Gv) (x y : Int) (t : Nat) : Gives Tryz.prog G 191 [cellA x y, .i .i64 t] (cellA (turnM (x, y) t).1 (turnM (x, y) t).2) := by
  refine .of (.body Tryz.func191 rfl (by simp [Tryz.ntmps191]) ?_)
  rw [Tryz.ntmps191, Tryz.results191]
  have h4 := rem4 (t := t)
  unfold turnM
  obtain ⟨m, hm⟩ : ∃ m, t % 4 = m := ⟨_, rfl⟩
  have hm4 : m < 4 := by omega
  have hmw : IntKind.i64.wrap (m : Int) = m := wr64 (by omega) (by omega)
  rw [hm] at h4 ⊢
  obtain ⟨q, hf⟩ : ∃ q, flipT (x, y) t = q := ⟨_, rfl⟩
  rw [hf]
  by_cases c4 : (t : Int) ≥ 4
  all_goals
    unfold flipT at hf
    first | rw [if_pos (by omega)] at hf | rw [if_neg (by omega)] at hf
    have hq1 := congrArg Prod.fst hf
    have hq2 := congrArg Prod.snd hf
    simp only at hq1 hq2
    clear hf
    refine AL ?_
    refine .loop (.inv (fun d E H n' => ∃ i : Nat, i + d = m ∧ 1 < n' ∧ E 2 = .ptr 0 0 0 0 ∧ E 4 = .ptr 1 0 0 0 ∧ E 5 = .i .i64 (d : Int) ∧ H 1 = some (.box 117 [.i .i64 0, .i .i64 0]) ∧ H 0 = some (.box 117 [.i .i64 (iterT q i).1, .i .i64 (iterT q i).2])) m ?_ ?_)
    · simp [setF_if, argE, upd_if, iterT, h4, *]
    rintro d E H n' ⟨i, hi, hn1, h2, h4', h5, hH1, hH0⟩
    have hn0 : 0 < n' := by omega
    have hs : iterT q (i + 1) = stepT (iterT q i) := rfl
    have hs1 : (stepT (iterT q i)).1 = IntKind.i64.wrap (0 - (iterT q i).2) := rfl
    have hs2 : (stepT (iterT q i)).2 = (iterT q i).1 := rfl
    by_cases c : (d : Int) > 0
    · have hw : IntKind.i64.wrap ((d : Int) - 1) = ((d - 1 : Nat) : Int) := by rw [wr64 (by omega) (by omega)]; omega
      refine AL ?_
      refine ⟨d - 1, by omega, i + 1, by omega, ?_⟩
      simp [setF_if, upd_if, *]
    · have e' : i = m := by omega
      subst e'
      refine AL ?_
      simp [retA, backA, backsA]
end Go.Proofs
end
section
open Go Go.Big
namespace Go.Proofs
set_option maxHeartbeats 2000000
theorem drop_at {l : List (Int × Int)} {i : Nat} (h : i < l.length) : l.drop i = l.getD i (0, 0) :: l.drop (i + 1) := by
  rw [List.drop_eq_getElem_cons h]; simp [List.getD_eq_getElem?_getD, h]
/-- The first place where two lists differ decides. -/
def cmpL : List (Int × Int) → List (Int × Int) → Int
  | [], _ => 0
  | _ :: _, [] => 0
  | p :: l, q :: k => if lessC p.1 p.2 q.1 q.2 then -1 else if lessC q.1 q.2 p.1 p.2 then 1 else cmpL l k
def cmpM (l k : List (Int × Int)) : Int := if l.length = k.length then cmpL l k else if l.length < k.length then -1 else 1
theorem cmpL_same {l k : List (Int × Int)} {i : Nat} (hi : i < l.length) (hk : i < k.length) (h1 : lessC (l.getD i (0, 0)).1 (l.getD i (0, 0)).2 (k.getD i (0, 0)).1 (k.getD i (0, 0)).2 = false) (h2 : lessC (k.getD i (0, 0)).1 (k.getD i (0, 0)).2 (l.getD i (0, 0)).1 (l.getD i (0, 0)).2 = false) : cmpL (l.drop i) (k.drop i) = cmpL (l.drop (i + 1)) (k.drop (i + 1)) := by
  rw [drop_at hi, drop_at hk, cmpL, h1, h2]; simp
theorem specCompareShapes_fn (G : Gv) (l k : List (Int × Int)) (hl : l.length < 1000000000) (hk : k.length < 1000000000) : Gives Tryz.prog G 174 [.sl 0 (cells l), .sl 0 (cells k)] (.i .i64 (cmpM l k)) := by
  refine .of (.body Tryz.func174 rfl (by simp [Tryz.ntmps174]) ?_)
  rw [Tryz.ntmps174, Tryz.results174]
  have hlen := cells_len l
  have hlen2 := cells_len k
  by_cases ce : l.length = k.length
  · have hne : ((l.length : Int) != (l.length : Int)) = false := by simp
    replace ce := ce.symm
    refine AL ?_
    refine .loop (.inv (fun d E H n' => ∃ i : Nat, i + d = l.length ∧ E 0 = .sl 0 (cells l) ∧ E 1 = .sl 0 (cells k) ∧ E 5 = .i .i64 i ∧ cmpL (l.drop i) (k.drop i) = cmpL l k) l.length ?_ ?_)
    · simp [setF_if, argE]
    rintro d E H n' ⟨i, hi, h0, h1, h5, hc⟩
    by_cases c : (i : Int) < l.length
    · have hr := cells_at (l := l) (i := i) (by omega)
      have hr2 := cells_at (l := k) (i := i) (by omega)
      have hw_i : IntKind.i64.wrap ((i : Int) + 1) = (i : Int) + 1 := wr64 (by omega) (by omega)
      have hs := cmpL_same (l := l) (k := k) (i := i) (by omega) (by omega)
      have hd1 := drop_at (l := l) (i := i) (by omega)
      have hd2 := drop_at (l := k) (i := i) (by omega)
      rw [hd1, hd2] at hc
      rw [hd1, hd2] at hs
      generalize l.getD i (0, 0) = p at hr hs hc
      generalize k.getD i (0, 0) = q at hr2 hs hc
      clear hd1 hd2
      refine AL ?_
      refine CQ (l02Less_fn G _ _ _ _) ?_
      by_cases c1 : lessC p.1 p.2 q.1 q.2 = true
      · refine AL ?_
        have : cmpM l k = -1 := by unfold cmpM; rw [if_pos ce.symm, ← hc, cmpL, if_pos c1]
        simp [retA, backA, this]
      · refine AL ?_
        refine CQ (l02Less_fn G _ _ _ _) ?_
        by_cases c2 : lessC q.1 q.2 p.1 p.2 = true
        · refine AL ?_
          have : cmpM l k = 1 := by unfold cmpM; rw [if_pos ce.symm, ← hc, cmpL, if_neg c1, if_pos c2]
          simp [retA, backA, this]
        · refine AL ?_
          simp only [Bool.not_eq_true] at c1 c2
          have hs := hs c1 c2
          refine ⟨l.length - (i + 1), by omega, i + 1, by omega, ?_⟩
          simp [setF_if, *]
          rw [← hs, hc]
    · have e : i = l.length := by omega
      subst e
      refine AL ?_
      have : cmpM l k = 0 := by unfold cmpM; rw [if_pos ce.symm, ← hc, List.drop_length, cmpL]
      simp [retA, backA, this]
  · have hne : ((l.length : Int) != (k.length : Int)) = true := by simp; omega
    by_cases c : (l.length : Int) < k.length
    · refine AL ?_
      have : cmpM l k = -1 := by unfold cmpM; rw [if_neg ce, if_pos (by omega)]
      simp [retA, backA, this]
    · refine AL ?_
      have : cmpM l k = 1 := by unfold cmpM; rw [if_neg ce, if_neg (by omega)]
      simp [retA, backA, this]
theorem cmpC_cases (a b c d : Int) : cmpC a b c d = if lessC a b c d then -1 else if lessC c d a b then 1 else 0 := by
  unfold cmpC lessC cmpI
  by_cases h1 : b < d <;> by_cases h2 : d < b <;> by_cases h3 : a < c <;> by_cases h4 : c < a <;> simp [h1, h2, h3, h4] <;> omega
theorem compareFunc_fn (G : Gv) (l k : List (Int × Int)) (hl : l.length < 1000000000) (ce : k.length = l.length) : Gives Tryz.prog G 233 [.sl 0 (cells l), .sl 0 (cells k), .fn 184 []] (.i .i64 (cmpL l k)) := by
  refine .of (.body Tryz.func233 rfl (by simp [Tryz.ntmps233]) ?_)
  rw [Tryz.ntmps233, Tryz.results233]
  have hlen := cells_len l
  have hlen2 := cells_len k
  refine AL ?_
  refine .loop (.inv (fun d E H n' => ∃ i : Nat, i + d = l.length ∧ E 0 = .sl 0 (cells l) ∧ E 1 = .sl 0 (cells k) ∧ E 2 = .fn 184 [] ∧ E 11 = .sl 0 (cells l) ∧ E 12 = .i .i64 l.length ∧ E 13 = .i .i64 i ∧ cmpL (l.drop i) (k.drop i) = cmpL l k) l.length ?_ ?_)
  · simp [setF_if, argE]
  rintro d E H n' ⟨i, hi, h0, h1, h2, h11, h12, h13, hc⟩
  by_cases c : (i : Int) < l.length
  · have hr := cells_at (l := l) (i := i) (by omega)
    have hr2 := cells_at (l := k) (i := i) (by omega)
    have hw_i : IntKind.i64.wrap ((i : Int) + 1) = (i : Int) + 1 := wr64 (by omega) (by omega)
    have hg : ((i : Int) ≥ l.length) = False := by simp; omega
    have hs := cmpL_same (l := l) (k := k) (i := i) (by omega) (by omega)
    have hd1 := drop_at (l := l) (i := i) (by omega)
    have hd2 := drop_at (l := k) (i := i) (by omega)
    rw [hd1, hd2] at hc
    rw [hd1, hd2] at hs
    generalize l.getD i (0, 0) = p at hr hs hc
    generalize k.getD i (0, 0) = q at hr2 hs hc
    clear hd1 hd2
    have hcc := cmpC_cases p.1 p.2 q.1 q.2
    refine AL ?_
    refine CV (compareCells_fn G _ _ _ _) ?_
    by_cases c1 : lessC p.1 p.2 q.1 q.2 = true
    · rw [if_pos c1] at hcc
      have hb : ((-1 : Int) != 0) = true := rfl
      refine AL ?_
      have : cmpL l k = -1 := by rw [← hc, cmpL, if_pos c1]
      simp [retA, backA, this]
    · rw [if_neg c1] at hcc
      by_cases c2 : lessC q.1 q.2 p.1 p.2 = true
      · rw [if_pos c2] at hcc
        have hb : ((1 : Int) != 0) = true := rfl
        refine AL ?_
        have : cmpL l k = 1 := by rw [← hc, cmpL, if_neg c1, if_pos c2]
        simp [retA, backA, this]
      · rw [if_neg c2] at hcc
        have hb : ((0 : Int) != 0) = false := rfl
        refine AL ?_
        simp only [Bool.not_eq_true] at c1 c2
        have hs := hs c1 c2
        refine ⟨l.length - (i + 1), by omega, i + 1, by omega, ?_⟩
        simp [setF_if, *]
        rw [← hs, hc]
  · have e : i = l.length := by omega
    subst e
    have hg : ((l.length : Int) < l.length) = False := by simp
    refine AL ?_
    have : cmpL l k = 0 := by rw [← hc, List.drop_length, cmpL]
    simp [retA, backA, this]
theorem compareShapes_fn (G : Gv) (l k : List (Int × Int)) (hl : l.length < 1000000000) (hk : k.length < 1000000000) : Gives Tryz.prog G 198 [.sl 0 (cells l), .sl 0 (cells k)] (.i .i64 (cmpM l k)) := by
  refine .of (.body Tryz.func198 rfl (by simp [Tryz.ntmps198]) ?_)
  rw [Tryz.ntmps198, Tryz.results198]
  have hlen := cells_len l
  have hlen2 := cells_len k
  by_cases ce : l.length = k.length
  · have hne : ((l.length : Int) != (l.length : Int)) = false := by simp
    replace ce := ce.symm
    refine AL ?_
    refine CV (compareFunc_fn G l k hl ce) ?_
    refine AL ?_
    have : cmpM l k = cmpL l k := by unfold cmpM; rw [if_pos ce.symm]
    simp [retA, backA, this]
  · have hne : ((l.length : Int) != (k.length : Int)) = true := by simp; omega
    by_cases c : (l.length : Int) < k.length
    · refine AL ?_
      have : cmpM l k = -1 := by unfold cmpM; rw [if_neg ce, if_pos (by omega)]
      simp [retA, backA, this]
    · refine AL ?_
      have : cmpM l k = 1 := by unfold cmpM; rw [if_neg ce, if_neg (by omega)]
      simp [retA, backA, this]
end Go.Proofs
end
section
open Go Go.Big
namespace Go.Proofs
set_option maxHeartbeats 2000000
def insM (c : Int × Int) : List (Int × Int) → List (Int × Int)
  | [] => [c]
  | p :: l => if lessC c.1 c.2 p.1 p.2 then c :: p :: l else p :: insM c l
theorem insM_len (c : Int × Int) : ∀ l, (insM c l).length = l.length + 1
  | [] => rfl
  | p :: l => by unfold insM; split <;> simp [insM_len c l]
theorem cells_app (l k : List (Int × Int)) : cells l ++ cells k = cells (l ++ k) := by simp [cells]
theorem cells_one (p : Int × Int) : ([[.i .i64 p.1, .i .i64 p.2]] : List (List PV)) = cells [p] := rfl
theorem cells_two (a b : Int) : ([[.i .i64 a, .i .i64 b]] : List (List PV)) = cells [(a, b)] := rfl
theorem l02Insert_fn (G : Gv) (l : List (Int × Int)) (x y : Int) (hl : l.length < 1000000000) : Gives Tryz.prog G 245 [.sl 0 (cells l), cellA x y] (.sl 1 (cells (insM (x, y) l))) := by
  refine .of (.body Tryz.func245 rfl (by simp [Tryz.ntmps245]) ?_)
  rw [Tryz.ntmps245, Tryz.results245]
  have hlen := cells_len l
  refine AL ?_
  refine .loop (.inv (fun d E H n' => ∃ i : Nat, i + d = l.length ∧ 2 < n' ∧ E 0 = .sl 0 (cells l) ∧ E 3 = .ptr 0 0 0 0 ∧ E 7 = .i .i64 i ∧ H 0 = some (.box 117 [.i .i64 x, .i .i64 y]) ∧ ∃ e out done, E 6 = .b done ∧ E 5 = .own 2 e ∧ H 2 = some (.arr e 117 2 (cells out) 1) ∧ out.length ≤ i + done.toNat ∧ (if done then out ++ l.drop i else out ++ insM (x, y) (l.drop i)) = insM (x, y) l) l.length ?_ ?_)
  · exact ⟨0, by omega, by omega, by simp [setF_if, argE, upd_if], by simp [setF_if, argE, upd_if], by simp [setF_if, argE, upd_if], by simp [setF_if, argE, upd_if], 0, [], false, by simp [setF_if, argE, upd_if], by simp [setF_if, argE, upd_if], by simp [setF_if, argE, upd_if, cells], by simp, by simp⟩
  rintro d E H n' ⟨i, hi, hn2, h0, h3, h7, hH0, e, out, done, h6, h5, hH2, hol, heq⟩
  have hn0 : 0 < n' := by omega
  have hor := cells_len out
  by_cases c : (i : Int) < l.length
  · have hr := cells_at (l := l) (i := i) (by omega)
    have hw_i : IntKind.i64.wrap ((i : Int) + 1) = (i : Int) + 1 := wr64 (by omega) (by omega)
    have hd := drop_at (l := l) (i := i) (by omega)
    rw [hd] at heq
    generalize l.getD i (0, 0) = p at hr heq
    have hol' : out.length ≤ i + 1 := by cases done <;> simp at hol <;> omega
    have hb : ∀ k, k ≤ i + 4 → k * 16 ≤ 140737488355328 := fun k hk => by omega
    have hb1 : (out.length + 1) * 16 ≤ 140737488355328 := by omega
    have hb2 : (out.length + 1 + 1) * 16 ≤ 140737488355328 := by omega
    have hx : (cells out ++ [[PV.i .i64 x, PV.i .i64 y]]).length = out.length + 1 := by simp [cells]
    cases done with
    | true =>
      have bt : (!true) = false := rfl
      refine AL ?_
      refine ⟨l.length - (i + 1), by omega, i + 1, by omega, ?_⟩
      simp only [if_true] at heq
      exact ⟨by omega, by simp [setF_if, upd_if, *], by simp [setF_if, upd_if, *], by simp [setF_if, upd_if, *], by simp [setF_if, upd_if, *], e + 1, out ++ [p], true, by simp [setF_if, upd_if, *], by simp [setF_if, upd_if, *], by simp [setF_if, upd_if, cells, *], by simp at hol ⊢; omega, by simp; exact heq⟩
    | false =>
      have bt : (!false) = true := rfl
      simp only [Bool.false_eq_true, if_false] at heq
      refine AL ?_
      refine CQ (l02Less_fn G _ _ _ _) ?_
      by_cases cl : lessC x y p.1 p.2 = true
      · refine AL ?_
        refine ⟨l.length - (i + 1), by omega, i + 1, by omega, ?_⟩
        rw [insM, if_pos cl] at heq
        exact ⟨by omega, by simp [setF_if, upd_if, *], by simp [setF_if, upd_if, *], by simp [setF_if, upd_if, *], by simp [setF_if, upd_if, *], e + 1 + 1, out ++ [(x, y), p], true, by simp [setF_if, upd_if, *], by simp [setF_if, upd_if, *], by simp [setF_if, upd_if, cells, *], by
          simp at hol ⊢
          omega, by simpa using heq⟩
      · refine AL ?_
        refine ⟨l.length - (i + 1), by omega, i + 1, by omega, ?_⟩
        rw [insM, if_neg cl] at heq
        exact ⟨by omega, by simp [setF_if, upd_if, *], by simp [setF_if, upd_if, *], by simp [setF_if, upd_if, *], by simp [setF_if, upd_if, *], e + 1, out ++ [p], false, by simp [setF_if, upd_if, *], by simp [setF_if, upd_if, *], by simp [setF_if, upd_if, cells, *], by simp at hol ⊢; omega, by simpa using heq⟩
  · have e' : i = l.length := by omega
    subst e'
    rw [List.drop_length] at heq
    have hol' : out.length ≤ l.length + 1 := by cases done <;> simp at hol <;> omega
    have hb1 : (out.length + 1) * 16 ≤ 140737488355328 := by omega
    cases done with
    | true =>
      have bt : (!true) = false := rfl
      simp only [if_true, List.append_nil] at heq
      refine AL ?_
      simp [retA, backA, newSl, newB, hH2, heq]
    | false =>
      have bt : (!false) = true := rfl
      simp only [Bool.false_eq_true, if_false, insM] at heq
      refine AL ?_
      simp [retA, backA, newSl, newB, upd_if, ← heq, cells]
end Go.Proofs
end
section
open Go Go.Big
namespace Go.Proofs
set_option maxHeartbeats 2000000
theorem equal_fn (G : Gv) (l k : List (Int × Int)) (hl : l.length < 1000000000) (hk : k.length < 1000000000) : Gives Tryz.prog G 150 [.sl 0 (cells l), .sl 0 (cells k)] (.b (decide (l = k))) := by
  refine .of (.body Tryz.func150 rfl (by simp [Tryz.ntmps150]) ?_)
  rw [Tryz.ntmps150, Tryz.results150]
  have hlen := cells_len l
  have hlen2 := cells_len k
  by_cases ce : k.length = l.length
  · have hne : ((l.length : Int) != (l.length : Int)) = false := by simp
    refine AL ?_
    refine .loop (.inv (fun d E H n' => ∃ i : Nat, i + d = l.length ∧ E 0 = .sl 0 (cells l) ∧ E 1 = .sl 0 (cells k) ∧ E 12 = .i .i64 l.length ∧ E 13 = .i .i64 i ∧ (∀ j, j < i → l.getD j (0, 0) = k.getD j (0, 0))) l.length ?_ ?_)
    · simp [setF_if, argE]
    rintro d E H n' ⟨i, hi, h0, h1, h12, h13, hall⟩
    by_cases c : (i : Int) < l.length
    · have hr := cells_at (l := l) (i := i) (by omega)
      have hr2 := cells_at (l := k) (i := i) (by omega)
      have hw_i : IntKind.i64.wrap ((i : Int) + 1) = (i : Int) + 1 := wr64 (by omega) (by omega)
      have hno : l.getD i (0, 0) ≠ k.getD i (0, 0) → decide (l = k) = false := fun h => by
        simp only [decide_eq_false_iff_not]; intro e; exact h (by rw [e])
      have more : l.getD i (0, 0) = k.getD i (0, 0) → ∀ j, j < i + 1 → l.getD j (0, 0) = k.getD j (0, 0) := fun h j hj => by
        by_cases e : j = i
        · rw [e]; exact h
        · exact hall j (by omega)
      generalize l.getD i (0, 0) = p at hr hno more
      generalize k.getD i (0, 0) = q at hr2 hno more
      by_cases c1 : (p.1 == q.1 && p.2 == q.2) = true
      · refine AL ?_
        refine ⟨l.length - (i + 1), by omega, i + 1, by omega, ?_⟩
        simp [setF_if, *]
        simp only [Bool.and_eq_true, beq_iff_eq] at c1
        exact more (Prod.ext c1.1 c1.2)
      · refine AL ?_
        have := hno (fun e => c1 (by rw [e]; simp))
        simp [retA, backA, this]
    · refine AL ?_
      have : decide (l = k) = true := by
        simp only [decide_eq_true_eq]
        apply List.ext_getElem?
        intro j
        by_cases hj : j < l.length
        · have := hall j (by omega)
          simp only [List.getD_eq_getElem?_getD, List.getElem?_eq_getElem hj, List.getElem?_eq_getElem (show j < k.length by omega), Option.getD_some] at this
          rw [List.getElem?_eq_getElem hj, List.getElem?_eq_getElem (show j < k.length by omega), this]
        · rw [List.getElem?_eq_none (by omega), List.getElem?_eq_none (by omega)]
      simp [retA, backA, this]
  · have hne : ((l.length : Int) != (k.length : Int)) = true := by simp; omega
    refine AL ?_
    have : decide (l = k) = false := by simp only [decide_eq_false_iff_not]; intro e; exact ce (by rw [e])
    simp [retA, backA, this]
theorem equalShapes_fn (G : Gv) (l k : List (Int × Int)) (hl : l.length < 1000000000) (hk : k.length < 1000000000) : Gives Tryz.prog G 200 [.sl 0 (cells l), .sl 0 (cells k)] (.b (decide (l = k))) := by
  refine .of (.body Tryz.func200 rfl (by simp [Tryz.ntmps200]) ?_)
  rw [Tryz.ntmps200, Tryz.results200]
  refine AL ?_
  refine CV (equal_fn G l k hl hk) ?_
  refine AL ?_
  simp [retA, backA]
def sortM (l : List (Int × Int)) : List (Int × Int) := l.foldl (fun a c => insM c a) []
theorem sortM_take {l : List (Int × Int)} {i : Nat} (h : i < l.length) : sortM (l.take (i + 1)) = insM (l.getD i (0, 0)) (sortM (l.take i)) := by
  unfold sortM
  rw [List.take_succ_eq_append_getElem h, List.foldl_append]
  simp only [List.foldl_cons, List.foldl_nil, List.getD_eq_getElem?_getD, List.getElem?_eq_getElem h, Option.getD_some]
theorem foldl_ins_len : ∀ (l a : List (Int × Int)), (l.foldl (fun a c => insM c a) a).length = a.length + l.length
  | [], a => by simp
  | c :: l, a => by rw [List.foldl_cons, foldl_ins_len l, insM_len, List.length_cons]; omega
theorem sortM_len (l : List (Int × Int)) : (sortM l).length = l.length := by unfold sortM; rw [foldl_ins_len]; simp
theorem l02Sort_fn (G : Gv) (l : List (Int × Int)) (h1 : 0 < l.length) (hl : l.length < 1000000000) : Gives Tryz.prog G 231 [.sl 0 (cells l)] (.sl 1 (cells (sortM l))) := by
  refine .of (.body Tryz.func231 rfl (by simp [Tryz.ntmps231]) ?_)
  rw [Tryz.ntmps231, Tryz.results231]
  have hlen := cells_len l
  refine AL ?_
  refine .loop (.inv (fun d E H n' => ∃ i : Nat, i + d = l.length ∧ E 0 = .sl 0 (cells l) ∧ E 4 = .i .i64 i ∧ (E 3 = .own 1 0 ∧ H 1 = some (.arr 0 117 2 (cells (sortM (l.take i))) 1) ∧ i = 0 ∨ E 3 = .sl 1 (cells (sortM (l.take i))))) l.length ?_ ?_)
  · simp [setF_if, argE, upd_if, sortM, cells]
  rintro d E H n' ⟨i, hi, h0, h4, h3⟩
  by_cases c : (i : Int) < l.length
  · have hr := cells_at (l := l) (i := i) (by omega)
    have hw_i : IntKind.i64.wrap ((i : Int) + 1) = (i : Int) + 1 := wr64 (by omega) (by omega)
    have hsl : (sortM (l.take i)).length < 1000000000 := by rw [sortM_len, List.length_take]; omega
    have hs := sortM_take (l := l) (i := i) (by omega)
    generalize sortM (l.take i) = a at h3 hsl hs
    rcases h3 with ⟨h3, hH, hi0⟩ | h3
    · clear hi0
      refine AL ?_
      refine CV (l02Insert_fn G _ _ _ hsl) ?_
      refine AL ?_
      refine ⟨l.length - (i + 1), by omega, i + 1, by omega, ?_⟩
      simp [setF_if, *]
    · refine AL ?_
      refine CV (l02Insert_fn G _ _ _ hsl) ?_
      refine AL ?_
      refine ⟨l.length - (i + 1), by omega, i + 1, by omega, ?_⟩
      simp [setF_if, *]
  · have e' : i = l.length := by omega
    subst e'
    rcases h3 with ⟨h3, hH, hi0⟩ | h3
    · omega
    · refine AL ?_
      simp [retA, backA, newSl, newB, List.take_length]
end Go.Proofs
end
section
open Go Go.Big
namespace Go.Proofs
set_option maxHeartbeats 2000000
def turnL (l : List (Int × Int)) (t : Nat) : List (Int × Int) := l.map fun p => turnM p t
def formM (l : List (Int × Int)) (t : Nat) : List (Int × Int) := normM (sortM (turnL l t))
theorem turnL_len (l : List (Int × Int)) (t : Nat) : (turnL l t).length = l.length := by simp [turnL]
theorem normM_len (l : List (Int × Int)) : (normM l).length = l.length := by simp [normM, movedM]
theorem formM_len (l : List (Int × Int)) (t : Nat) : (formM l t).length = l.length := by unfold formM; rw [normM_len, sortM_len, turnL_len]
theorem turn_take {l : List (Int × Int)} {i : Nat} (t : Nat) (h : i < l.length) : cells (turnL (l.take i) t) ++ [[.i .i64 (turnM (l.getD i (0, 0)) t).1, .i .i64 (turnM (l.getD i (0, 0)) t).2]] = cells (turnL (l.take (i + 1)) t) := by
  rw [List.take_succ_eq_append_getElem h]; simp only [cells, turnL, List.map_append, List.map_cons, List.map_nil, List.getD_eq_getElem?_getD, List.getElem?_eq_getElem h, Option.getD_some]
theorem l03Form_fn (G : Gv) (l : List (Int × Int)) (t : Nat) (h1 : 0 < l.length) (hl : l.length < 1000000000) : Gives Tryz.prog G 196 [.sl 0 (cells l), .i .i64 t] (.sl 1 (cells (formM l t))) := by
  refine .of (.body Tryz.func196 rfl (by simp [Tryz.ntmps196]) ?_)
  rw [Tryz.ntmps196, Tryz.results196]
  have hlen := cells_len l
  refine AL ?_
  refine .loop (.inv (fun d E H n' => ∃ i : Nat, i + d = l.length ∧ 1 < n' ∧ E 0 = .sl 0 (cells l) ∧ E 1 = .i .i64 t ∧ E 6 = .i .i64 i ∧ ∃ e, E 5 = .own 1 e ∧ H 1 = some (.arr e 117 2 (cells (turnL (l.take i) t)) 1)) l.length ?_ ?_)
  · simp [setF_if, argE, upd_if, turnL, cells]
  rintro d E H n' ⟨i, hi, hn1, h0, h1', h6, e, h5, hH⟩
  by_cases c : (i : Int) < l.length
  · have hr := cells_at (l := l) (i := i) (by omega)
    have hw_i : IntKind.i64.wrap ((i : Int) + 1) = (i : Int) + 1 := wr64 (by omega) (by omega)
    have hrl : (cells (turnL (l.take i) t)).length = i := by simp [cells, turnL]; omega
    have hb : (i + 1) * 16 ≤ 140737488355328 := by omega
    have htk := turn_take (l := l) (i := i) t (by omega)
    generalize l.getD i (0, 0) = p at hr htk
    refine AL ?_
    refine CV (l03Turn_fn G _ _ _) ?_
    refine AL ?_
    refine ⟨l.length - (i + 1), by omega, i + 1, by omega, ?_⟩
    simp [setF_if, upd_if, *]
  · have e' : i = l.length := by omega
    subst e'
    rw [List.take_length] at hH
    have k1 : 0 < (turnL l t).length := by rw [turnL_len]; exact h1
    have k2 : (turnL l t).length < 1000000000 := by rw [turnL_len]; exact hl
    refine AL ?_
    refine CV (l02Sort_fn G _ k1 k2) ?_
    refine AL ?_
    refine CV (l02Normal_fn G _ (by rw [sortM_len]; exact k1) (by rw [sortM_len]; exact k2)) ?_
    refine AL ?_
    simp [retA, backA, newSl, newB, formM]
def shapesR (ls : List (List (Int × Int))) : List (List PV) := ls.map fun l => [.sl (cells l)]
theorem shapesR_len (ls : List (List (Int × Int))) : (shapesR ls).length = ls.length := by simp [shapesR]
theorem shapesR_at {ls : List (List (Int × Int))} {i : Nat} (h : i < ls.length) : (shapesR ls)[i]? = some [.sl (cells (ls.getD i []))] := by
  simp [shapesR, h, List.getD_eq_getElem?_getD]
theorem dropS_at {l : List (List (Int × Int))} {i : Nat} (h : i < l.length) : l.drop i = l.getD i [] :: l.drop (i + 1) := by
  rw [List.drop_eq_getElem_cons h]; simp [List.getD_eq_getElem?_getD, h]
def insS (c : List (Int × Int)) : List (List (Int × Int)) → List (List (Int × Int))
  | [] => [c]
  | x :: l => if cmpM c x < 0 then c :: x :: l else x :: insS c l
theorem insS_len (c : List (Int × Int)) : ∀ l, (insS c l).length = l.length + 1
  | [] => rfl
  | p :: l => by unfold insS; split <;> simp [insS_len c l]
def sameAt (c : List (Int × Int)) (ls : List (List (Int × Int))) (i : Nat) : Bool := cmpM c (ls.getD i []) == 0
def addS (c : List (Int × Int)) (ls : List (List (Int × Int))) : List (List (Int × Int)) := if (List.range ls.length).any (sameAt c ls) then ls else insS c ls
theorem any_yes {p : Nat → Bool} {n i : Nat} (hi : i < n) (h : p i = true) : (List.range n).any p = true := by
  rw [List.any_eq_true]; exact ⟨i, List.mem_range.mpr hi, h⟩
theorem any_no {p : Nat → Bool} {n : Nat} (h : ∀ j, j < n → p j = false) : (List.range n).any p = false := by
  rw [List.any_eq_false]; intro x hx; simp [h x (List.mem_range.mp hx)]
end Go.Proofs
end
