/- Walks: Numbers written into placements and puzzles. No condition. | Puzzles and placements turned into ones that the caller owns. No condition. | Placements and puzzles turned into ones that the caller owns. No condition. | Cells as keys of a map. No condition. -/
import Derived.Test.YtdbkkjoejomcmaaGreatBO
import Derived.Test.YtdbkkjoejomcmaaGreatWk5
import Derived.Test.YtdbkkjoejomcmaaGreatWk1
import Derived.DeepKeys5
set_option linter.unusedVariables false
set_option linter.unusedSimpArgs false
section
open Go Go.Big
namespace Go.Proofs
set_option maxHeartbeats 2000000
/-- What is marked in placements. -/
def mkP : Int → List (Int × List Int) → List (Int × List Int)
  | _, [] => []
  | k, p :: l => (k, runI (k + 1) p.2.length) :: mkP (k + 1 + p.2.length) l
def cntP : List (Int × List Int) → Int
  | [] => 0
  | p :: l => 1 + p.2.length + cntP l
theorem cntP_nn : ∀ l, 0 ≤ cntP l
  | [] => Int.le_refl _
  | p :: l => by have := cntP_nn l; simp only [cntP]; omega
theorem places_app (a b : List (Int × List Int)) : places (a ++ b) = places a ++ places b := by simp [places]
theorem places_ns (l : List (Int × List Int)) : ∀ r ∈ places l, ∃ p ∈ r, scalB p = false := fun r hr => by
  obtain ⟨p, _, rfl⟩ := List.mem_map.mp hr
  exact ⟨_, List.mem_cons_of_mem _ List.mem_cons_self, rfl⟩
theorem noObs_join2 {t : Nat} {r1 r2 : List (List PV)} {a : List PV} {b a0 : PV} (h : tagOk t (r1 ++ a :: r2)) (ha : a = [a0, b]) (c1 : PV) (hc1 : noOb c1 = true) : tagOk t (r1 ++ [c1, b] :: r2) := by
  rcases h with h | h1
  · exact .inl h
  · refine .inr fun r hr p hp => ?_
    rcases List.mem_append.mp hr with hr | hr
    · exact h1 r (List.mem_append.mpr (.inl hr)) p hp
    · rcases List.mem_cons.mp hr with rfl | hr
      · simp only [List.mem_cons, List.not_mem_nil, or_false] at hp
        rcases hp with rfl | rfl
        · exact hc1
        · exact h1 a (by simp) _ (by rw [ha]; simp)
      · exact h1 r (List.mem_append.mpr (.inr (List.mem_cons_of_mem _ hr))) p hp
theorem markPlacementS_m (G : Gv) (l : List (Int × List Int)) (k : Int) (hl : l.length < 1000000000) (hc : ∀ p ∈ l, p.2.length < 1000000000) (hk0 : 0 ≤ k) (hk : k + cntP l < 1000000000000) :
    Marks Tryz.prog G 25 (.sl 1 (places l)) (.sl 1 (places (mkP k l))) k (k + cntP l) := by
  intro x H0 n0 S hx hn hS
  rcases ownX_un hx with ⟨o, e, ty, sz, rows0, t0, S', rfl, hH0, rfl, hR0, ht0, ht0', hf0⟩ | ⟨hx', hq, rfl⟩
  · have hlen := places_len l
    have hr0l := ownRs_len hR0
    have htag0 : tagOk t0 rows0 := ht0
    have hnil0 : rows0 = [] → t0 ≠ 2 := fun e => ht0' (by rw [e]; intro r hr; simp at hr)
    have hon : o < n0 := hS o List.mem_cons_self
    have hSn : ∀ x ∈ S', x < n0 := fun x hx => hS x (List.mem_cons_of_mem _ hx)
    clear hx ht0 ht0' hS
    replace hn := Hid.mk hn
    replace hSn := Hid.mk hSn
    replace hc := Hid.mk hc
    replace hnil0 := Hid.mk hnil0
    refine (.body Tryz.func25 rfl (by simp [Tryz.ntmps25]) ?_)
    rw [Tryz.ntmps25, Tryz.results25]
    refine AL ?_
    refine .loop (.inv (fun d E H n' => ∃ (i t' : Nat) (r1 r2 : List (List PV)) (S1 S2 : List Nat) (D : List (Int × List Int)) (k' : Int), i + d = l.length ∧ E 0 = .own o e ∧ E 1 = .i .i64 k' ∧ E 5 = .i .i64 i ∧ H o = some (.arr e ty sz (r1 ++ r2) t') ∧ n0 ≤ n' ∧ (r1.length = i ∧ D.length = i ∧ (r1 ++ r2).length = l.length ∧ (l = [] → t' ≠ 2)) ∧ tagOk t' (r1 ++ r2) ∧ fitR sz (r1 ++ r2) ∧
        (S' = S1 ++ S2 ∧ ownRs H r1 (places D) S1 ∧ ownRs H r2 (places (l.drop i)) S2) ∧ (D ++ mkP k' (l.drop i) = mkP k l ∧ k' + cntP (l.drop i) = k + cntP l ∧ 0 ≤ k') ∧ ∀ o', o' < n0 → o' ∉ o :: S' → H o' = H0 o') l.length ?_ ?_)
    · refine ⟨0, t0, [], rows0, [], S', [], k, by omega, by simp [setF_if, argE], by simp [setF_if, argE], by simp [setF_if, argE], by simpa using hH0, by omega, ⟨rfl, rfl, by simp [hr0l, hlen], fun e => hnil0.out ?_⟩, by simpa using htag0, by simpa using hf0, ⟨rfl, ⟨rfl, rfl⟩, by simpa using hR0⟩, ⟨rfl, rfl, hk0⟩, fun _ _ _ => rfl⟩
      subst e; exact List.length_eq_zero_iff.mp (by rw [hr0l]; rfl)
    clear hH0 hR0 htag0 hf0
    rintro d E H n' ⟨i, t', r1, r2, S1, S2, D, k', hi, h0, h1, h5, hH, hn', ⟨hr1, hD, hrl, hnil⟩, htag, hfit, hown, hnum, hfr⟩
    replace hfr := Hid.mk hfr
    replace htag := Hid.mk htag
    replace hfit := Hid.mk hfit
    replace hown := Hid.mk hown
    replace hnum := Hid.mk hnum
    replace hnil := Hid.mk hnil
    replace hr1 := Hid.mk hr1
    replace hD := Hid.mk hD
    by_cases c : (i : Int) < l.length
    · have hw_i : IntKind.i64.wrap ((i : Int) + 1) = (i : Int) + 1 := wr64 (by omega) (by omega)
      obtain ⟨p, hp⟩ : ∃ p, l[i]? = some p := ⟨_, List.getElem?_eq_getElem (by omega)⟩
      have hpl := hc.out p (List.mem_of_getElem? hp)
      obtain ⟨hS', hr1o, hr2o⟩ := hown.out
      obtain ⟨hN1, hN2, hN3⟩ := hnum.out
      rw [drop_cons hp] at hr2o hN1 hN2
      obtain ⟨row, r2, s, S2, rfl, rfl, hrow, hr2n⟩ := ownRs_consI hr2o
      clear hr2o
      obtain ⟨p1, ps, s1, s', rfl, rfl, hp1, hps⟩ := ownPs_consI hrow
      obtain ⟨q0, ps, s, s', rfl, rfl, hq0, hps1⟩ := ownPs_consI hps
      obtain ⟨rfl, rfl⟩ := ownPs_nilI hps1
      obtain ⟨rfl, rfl⟩ := ownP_isI hp1
      clear hp1 hps hps1 hrow
      simp only [List.nil_append, List.append_nil] at hS'
      have hcnt := cntP_nn (l.drop (i + 1))
      simp only [mkP, cntP] at hN1 hN2
      have hsz : sz = 2 := by have := hfit.out [.i .i64 p.1, q0] (by simp); simpa using this.symm
      subst hsz
      have hro : (r1 ++ [.i .i64 p.1, q0] :: r2)[i]? = some [.i .i64 p.1, q0] := at_mid _ _ _ hr1.out
      have cN : i < l.length := by omega
      have hw1 : IntKind.i64.wrap (k' + 1) = k' + 1 := wr64 (by omega) (by omega)
      have hz := fun tg => ownP_load hq0 tg
      obtain ⟨row', hrow'⟩ : ∃ row' : List PV, row' = [.i .i64 k', q0] := ⟨_, rfl⟩
      have hset : (r1 ++ [.i .i64 p.1, q0] :: r2).set i [.i .i64 k', q0] = r1 ++ row' :: r2 := by rw [set_mid _ _ _ _ hr1.out, hrow']
      have hro2 : (r1 ++ row' :: r2)[i]? = some [.i .i64 k', q0] := by rw [hrow']; exact at_mid _ _ _ hr1.out
      have hrl2 : (r1 ++ row' :: r2).length = l.length := by rw [← hset, List.length_set]; exact hrl
      have htag2 : tagOk (joinT t' 1) (r1 ++ row' :: r2) := by rw [hrow']; exact tag_join <| noObs_join2 htag.out rfl _ rfl
      have hfit2 : fitR 2 (r1 ++ row' :: r2) := fun r hr => by
        rcases List.mem_append.mp hr with hr | hr
        · exact hfit.out r (List.mem_append.mpr (.inl hr))
        · rcases List.mem_cons.mp hr with rfl | hr
          · rw [hrow']; rfl
          · exact hfit.out r (List.mem_append.mpr (.inr (List.mem_cons_of_mem _ hr)))
      have hnd : (o :: (S1 ++ (s ++ S2))).Nodup := by rw [← hS']; exact hn.out
      have hlt : ∀ x ∈ S1 ++ (s ++ S2), x < n0 := by rw [← hS']; exact hSn.out
      have hos : o ∉ s := fun h => by rw [List.nodup_cons] at hnd; exact hnd.1 (by simp [h])
      have hsn : s.Nodup := by
        rw [List.nodup_cons, List.nodup_append, List.nodup_append] at hnd; exact hnd.2.2.1.1
      generalize r1 ++ [.i .i64 p.1, q0] :: r2 = R at hH hro hset hrl
      obtain ⟨R1, hR1⟩ : ∃ R1, R1 = r1 ++ row' :: r2 := ⟨_, rfl⟩
      rw [← hR1] at hset hro2 hrl2
      replace hR1 := Hid.mk hR1
      replace htag2 := Hid.mk htag2
      replace hfit2 := Hid.mk hfit2
      replace hnd := Hid.mk hnd
      replace hlt := Hid.mk hlt
      replace hos := Hid.mk hos
      replace hsn := Hid.mk hsn
      replace hq0 := Hid.mk hq0
      replace hr1o := Hid.mk hr1o
      replace hr2n := Hid.mk hr2n
      replace hS' := Hid.mk hS'
      replace hrow' := Hid.mk hrow'
      replace hp := Hid.mk hp
      replace hz := Hid.mk hz
      replace hN1 := Hid.mk hN1
      obtain ⟨T, hT⟩ : ∃ T, T = joinT t' 1 := ⟨_, rfl⟩
      replace hT := Hid.mk hT
      rcases ownP_forms hq0.out with ⟨o2, e2, rfl⟩ | rfl
      all_goals
        refine AL ?_
        refine CI ?_
        refine WC.mono (markInt64S_m G p.2 (k' + 1) hpl (by omega) (by omega) _ _ _ s ?_ hsn.out (fun x hx => by have := hlt.out x (by simp [hx]); omega)) ?_
        · refine ownX_congr (H := H) (fun x hx => ?_) ?_
          · rw [upd_if, if_neg (show ¬ x = o from fun e => hos.out (e ▸ hx))]
          · first
              | exact hz.out 0
              | exact hz.out _
        rintro _ H1 m ⟨rfl, hm, hz1, hf1⟩
        have hH1 := hf1 o (by omega) hos.out
        rw [upd_if, if_pos rfl] at hH1
        replace hf1 := Hid.mk hf1
        replace hz1 := Hid.mk hz1
        clear hH
        refine AL ?_
        have hp' : ownPs H1 row' (placR (k', runI (k' + 1) p.2.length)) s := by
          rw [hrow'.out]
          first
            | exact ownPs_cons (s := []) (ownP_scal_mk rfl) (by rw [← List.append_nil s]; exact ownPs_cons (ownP_back (tg := 0) hq0.out hz1.out (ints_scal _)) ⟨rfl, rfl⟩)
            | exact ownPs_cons (s := []) (ownP_scal_mk rfl) (by rw [← List.append_nil s]; exact ownPs_cons (ownP_back hq0.out hz1.out (ints_scal _)) ⟨rfl, rfl⟩)
        have hlt2 : ∀ x ∈ S1 ++ (s ++ S2), x < n' := fun x hx => Nat.lt_of_lt_of_le (hlt.out x hx) hn'
        have hfr2 : ∀ x, x < n' → x ≠ o → x ∉ s → H1 x = H x := fun x hx ho hs => by rw [hf1.out x (by omega) hs, upd_if, if_neg ho]
        refine ⟨l.length - (i + 1), by omega, i + 1, T, r1 ++ [row'], r2, S1 ++ s, S2, D ++ [(k', runI (k' + 1) p.2.length)], k' + 1 + p.2.length, by omega, by simp [setF_if, *], by simp [setF_if, *], by simp [setF_if, *], ?_, by omega, ⟨by simp [hr1.out], by simp [hD.out], ?_, fun e => by rw [e] at cN; simp at cN⟩, ?_, ?_, ⟨?_, ?_, ?_⟩, ⟨?_, by omega, by omega⟩, ?_⟩
        · rw [hH1, hT.out, hR1.out]; simp [joinT]
        · rw [hR1.out] at hrl2; simpa using hrl2
        · rw [hT.out]; simpa using htag2.out
        · simpa using hfit2.out
        · rw [hS'.out]; simp
        · rw [places_app]
          exact (mark_step hnd.out hlt2 hr1o.out hr2n.out hp' hfr2 (fun _ _ => rfl)).1
        · exact (mark_step hnd.out hlt2 hr1o.out hr2n.out hp' hfr2 (fun _ _ => rfl)).2
        · simpa using hN1.out
        · intro o' h1 h2
          have h3 : o' ≠ o := fun e => h2 (by rw [e]; exact List.mem_cons_self)
          rw [hf1.out o' (by omega) (fun h => h2 (List.mem_cons_of_mem _ (by rw [hS'.out]; simp [h]))), upd_if, if_neg h3]
          exact hfr.out o' h1 h2
    · refine AL ?_
      have ei : i = l.length := by omega
      obtain ⟨hS', hr1o, hr2o⟩ := hown.out
      obtain ⟨hN1, hN2, hN3⟩ := hnum.out
      rw [ei, List.drop_length] at hr2o hN1 hN2
      obtain ⟨rfl, rfl⟩ := ownRs_nilI hr2o
      simp only [mkP, cntP, List.append_nil] at hN1 hN2 hS' hH
      subst hS' hN1
      have ht := htag.out
      have hf := hfit.out
      rw [List.append_nil] at ht hf
      refine ⟨by simp [retA, setF_if, h1]; omega, by omega, ownX_sl (tagOk_own hH hr1o ht (ownRs_ns hr1o (places_ns _)) hf ?_), fun o' h1 h2 => hfr.out o' h1 h2⟩
      intro e
      refine hnil.out (List.length_eq_zero_iff.mp ?_)
      have := hr1.out
      rw [e] at this; simp at this; omega
  · obtain rfl : l = [] := by
      cases l with
      | nil => rfl
      | cons x l => simp [places] at hq
    clear hx
    rcases hx' with rfl | ⟨t, rfl⟩
    all_goals
      refine (.body Tryz.func25 rfl (by simp [Tryz.ntmps25]) ?_)
      rw [Tryz.ntmps25, Tryz.results25]
      refine AL ?_
      refine .loop (.inv (fun d E H n' => E 0 = (_ : AV) ∧ E 1 = .i .i64 k ∧ E 5 = .i .i64 0 ∧ n0 ≤ n' ∧ ∀ o, H o = H0 o) 0 ⟨by simp [setF_if, argE]; rfl, by simp [setF_if, argE], by simp [setF_if, argE], by omega, fun _ => rfl⟩ ?_)
      rintro d E H n' ⟨h0, h1, h5, hn', hfr⟩
      replace hfr := Hid.mk hfr
      have c : ¬ ((0 : Int) < ((0 : Nat) : Int)) := by omega
      refine AL ?_
      exact ⟨by simp [retA, setF_if, h1, cntP], by omega, ownX_sl (.inr ⟨by first | exact .inl rfl | exact .inr ⟨_, rfl⟩, rfl, rfl⟩), fun o' _ _ => hfr.out o'⟩
end Go.Proofs
end
section
open Go Go.Big
namespace Go.Proofs
set_option maxHeartbeats 2000000
theorem ownX_leaf {H : Heap} {z : AV} {rows : List (List PV)} {s : List Nat} (h : ownX H z (.sl 1 rows) s) (hs : scalRows rows) : ∃ q tg, pvOf z = some q ∧ tagOf z = tg ∧ ownP H q (.sl rows) s ∧ (noOb q = true ∨ tg = 2) := by
  rcases ownA_flat (ownX_un h) hs with ⟨o, e, ty, sz, t, rfl, h1, rfl, h2, h3⟩ | ⟨rfl | ⟨t, rfl⟩, rfl, rfl⟩
  · exact ⟨.ob o e, 2, rfl, rfl, ownP_mk h1 hs h2 h3, .inr rfl⟩
  · exact ⟨.sl [], 1, rfl, rfl, ⟨rfl, rfl, rfl⟩, .inl rfl⟩
  · exact ⟨.sl [], t, rfl, rfl, ⟨rfl, rfl, rfl⟩, .inl rfl⟩
theorem toPiece_o (G : Gv) (p : PieceM) (hl : p.cs.length < 1000000000) : GivesO Tryz.prog G 118 [pieceA 0 p] (pieceA 1 p) := by
  refine .of (.body Tryz.func118 rfl (by simp [Tryz.ntmps118]) ?_)
  rw [Tryz.ntmps118, Tryz.results118]
  refine AL ?_
  refine CWO (toCellS_o G _ hl) ?_
  intro z H1 S m hz hn hS hf hm
  have f1 := hf 1 (by omega)
  have f2 := hf 2 (by omega)
  have f0 := hf 0 (by omega)
  simp [upd_if] at f0 f1 f2
  have hS1 : ∀ o ∈ S, 5 ≤ o := fun o ho => (hS o ho).1
  replace hS := Hid.mk hS
  replace hf := Hid.mk hf
  replace hn := Hid.mk hn
  replace hS1 := Hid.mk hS1
  have hz' := Hid.mk hz
  rcases ownX_cases hz with ⟨o, e, ty, sz, rows, t, rfl, hH, ho⟩ | rfl | ⟨t, rfl⟩
  · clear hz
    have ho5 := hS1.out o ho
    have n1 : ¬ o = 1 := by omega
    have n2 : ¬ o = 2 := by omega
    clear ho
    refine AL ?_
    refine ⟨S, ?_, hn.out⟩
    rw [← List.append_nil S]
    exact ownX_mk3 (s2 := []) (s3 := []) (ownX_congr (fun o ho => by have := hS1.out o ho; simp [upd_if, show ¬ o = 1 by omega, show ¬ o = 2 by omega]) hz'.out) ownX_mki ownX_mkb
  · clear hz
    refine AL ?_
    refine ⟨S, ?_, hn.out⟩
    rw [← List.append_nil S]
    exact ownX_mk3 (s2 := []) (s3 := []) (ownX_congr (fun o ho => by have := hS1.out o ho; simp [upd_if, show ¬ o = 1 by omega, show ¬ o = 2 by omega]) hz'.out) ownX_mki ownX_mkb
  · clear hz
    refine AL ?_
    refine ⟨S, ?_, hn.out⟩
    rw [← List.append_nil S]
    exact ownX_mk3 (s2 := []) (s3 := []) (ownX_congr (fun o ho => by have := hS1.out o ho; simp [upd_if, show ¬ o = 1 by omega, show ¬ o = 2 by omega]) hz'.out) ownX_mki ownX_mkb
theorem toPlacement_o (G : Gv) (k : Int) (l : List Int) (hl : l.length < 1000000000) : GivesO Tryz.prog G 41 [.ag [.i .i64 k, .sl 0 (ints l)]] (.ag [.i .i64 k, .sl 1 (ints l)]) := by
  refine .of (.body Tryz.func41 rfl (by simp [Tryz.ntmps41]) ?_)
  rw [Tryz.ntmps41, Tryz.results41]
  refine AL ?_
  refine CWO (toInt64S_o G _ hl) ?_
  intro z H1 S m hz hn hS hf hm
  have f1 := hf 1 (by omega)
  have f2 := hf 2 (by omega)
  have f0 := hf 0 (by omega)
  simp [upd_if] at f0 f1 f2
  have hS1 : ∀ o ∈ S, 5 ≤ o := fun o ho => Nat.le_trans (by omega) (hS o ho).1
  replace hS := Hid.mk hS
  replace hf := Hid.mk hf
  replace hn := Hid.mk hn
  replace hS1 := Hid.mk hS1
  have hz' := Hid.mk hz
  rcases ownX_cases hz with ⟨o, e, ty, sz, rows, t, rfl, hH, ho⟩ | rfl | ⟨t, rfl⟩
  · clear hz
    have ho5 := hS1.out o ho
    have n1 : ¬ o = 1 := by omega
    have n2 : ¬ o = 2 := by omega
    clear ho
    refine AL ?_
    exact ⟨S, ownX_mk2 (s1 := []) ownX_mki (ownX_congr (fun o ho => by have := hS1.out o ho; simp [upd_if, show ¬ o = 1 by omega, show ¬ o = 2 by omega]) hz'.out), hn.out⟩
  · clear hz
    refine AL ?_
    exact ⟨S, ownX_mk2 (s1 := []) ownX_mki (ownX_congr (fun o ho => by have := hS1.out o ho; simp [upd_if, show ¬ o = 1 by omega, show ¬ o = 2 by omega]) hz'.out), hn.out⟩
  · clear hz
    refine AL ?_
    exact ⟨S, ownX_mk2 (s1 := []) ownX_mki (ownX_congr (fun o ho => by have := hS1.out o ho; simp [upd_if, show ¬ o = 1 by omega, show ¬ o = 2 by omega]) hz'.out), hn.out⟩
theorem tag_store {t t2 : Nat} {rows : List (List PV)} {row : List PV} (h : tagOk t rows) (hr : t2 = 2 ∨ noObs [row]) : tagOk (joinT t t2) (rows ++ [row]) := by
  rcases h with h | h
  · exact .inl ((join_2 t t2).1 h)
  · rcases hr with hr | hr
    · exact .inl ((join_2 t t2).2 hr)
    · refine .inr fun r hm p hp => ?_
      rcases List.mem_append.mp hm with hm | hm
      · exact h r hm p hp
      · exact hr r hm p hp
theorem take_map {α β : Type} (f : α → β) {l : List α} {i : Nat} {x : α} (h : l[i]? = some x) : (l.take (i + 1)).map f = (l.take i).map f ++ [f x] := by
  obtain ⟨hi, rfl⟩ := List.getElem?_eq_some_iff.mp h
  rw [List.take_succ_eq_append_getElem hi, List.map_append]; rfl
theorem toPieceS_o (G : Gv) (l : List PieceM) (hl : l.length < 1000000000) (hc : ∀ p ∈ l, p.cs.length < 1000000000) : GivesO Tryz.prog G 64 [.sl 0 (pieces l)] (.sl 1 (pieces l)) := by
  refine .of (.body Tryz.func64 rfl (by simp [Tryz.ntmps64]) ?_)
  rw [Tryz.ntmps64, Tryz.results64]
  have hlen := pieces_len l
  have b1 : ((40 : Nat) : Int) * l.length ≤ 281474976710656 := by simp; omega
  have b2 : (l.length : Int) ≤ 9223372036854775807 := by omega
  have b3 : (0 : Int) ≤ l.length := by omega
  replace hc := Hid.mk hc
  refine AG ?_
  refine .block (.loop (.inv (fun d E H n' => ∃ (i t' : Nat) (r1 : List (List PV)) (S1 : List Nat), i + d = l.length ∧ E 0 = .sl 0 (pieces l) ∧ E 3 = .own 3 0 ∧ E 4 = .i .i64 i ∧ H 3 = some (.arr 0 79 3 (r1 ++ List.replicate d [PV.sl [], PV.i .i64 0, PV.b false]) t') ∧ 3 < n' ∧ r1.length = i ∧ tagOk t' r1 ∧ fitR 3 r1 ∧ (l = [] → t' ≠ 2) ∧ ownRs H r1 (pieces (l.take i)) S1 ∧ S1.Nodup ∧ ∀ o ∈ S1, 3 < o ∧ o < n') l.length ?_ ?_))
  · refine ⟨0, 1, [], [], by omega, by simp [setF_if, argE], by simp [setF_if, argE], by simp [setF_if, argE], by simp [upd_if, hlen], by omega, rfl, .inr (fun r hr => by simp at hr), fun r hr => by simp at hr, fun _ => by decide, ⟨rfl, rfl⟩, by simp, by simp⟩
  clear b1 b2 b3
  rintro d E H n' ⟨i, t', r1, S1, hi, h0, h3, h4, hH, hn3, hr1, htag, hfit, hnil, hown, hnd, hlt⟩
  replace hr1 := Hid.mk hr1
  replace htag := Hid.mk htag
  replace hfit := Hid.mk hfit
  replace hnil := Hid.mk hnil
  replace hown := Hid.mk hown
  replace hnd := Hid.mk hnd
  replace hlt := Hid.mk hlt
  by_cases c : (i : Int) < l.length
  · have hw_i : IntKind.i64.wrap ((i : Int) + 1) = (i : Int) + 1 := wr64 (by omega) (by omega)
    obtain ⟨p, hp⟩ : ∃ p, l[i]? = some p := ⟨_, List.getElem?_eq_getElem (by omega)⟩
    have hpl := hc.out p (List.mem_of_getElem? hp)
    have hr : (pieces l)[i]? = some (pieceR p) := by simp [pieces, hp]
    obtain ⟨d, rfl⟩ : ∃ d', d = d' + 1 := ⟨d - 1, by omega⟩
    rw [List.replicate_succ] at hH
    have hro : (r1 ++ [PV.sl [], PV.i .i64 0, PV.b false] :: List.replicate d [PV.sl [], PV.i .i64 0, PV.b false])[i]? = some [PV.sl [], PV.i .i64 0, PV.b false] := at_mid _ _ _ hr1.out
    have hset : ∀ x, (r1 ++ [PV.sl [], PV.i .i64 0, PV.b false] :: List.replicate d [PV.sl [], PV.i .i64 0, PV.b false]).set i x = r1 ++ x :: List.replicate d [PV.sl [], PV.i .i64 0, PV.b false] := fun x => set_mid _ _ _ _ hr1.out
    have hrl : i < (r1 ++ [PV.sl [], PV.i .i64 0, PV.b false] :: List.replicate d [PV.sl [], PV.i .i64 0, PV.b false]).length := (List.getElem?_eq_some_iff.mp hro).1
    generalize r1 ++ [PV.sl [], PV.i .i64 0, PV.b false] :: List.replicate d [PV.sl [], PV.i .i64 0, PV.b false] = R at hH hro hset hrl
    have htk := take_map pieceR hp
    replace htk := Hid.mk htk
    replace hp := Hid.mk hp
    replace hpl := Hid.mk hpl
    skip
    refine AL ?_
    refine CWO (toPiece_o G p hpl.out) ?_
    intro z H1 S m hz hn hS hf hm
    have hH1 := hf 3 (by omega)
    rw [hH] at hH1
    obtain ⟨z, zk, zb, S, s2, s3, rfl, rfl, hz2, h2, h3'⟩ := ownX_ag3 hz
    obtain ⟨rfl, rfl⟩ := ownX_i h2
    obtain ⟨rfl, rfl⟩ := ownX_b h3'
    clear h2 h3' hz
    simp only [List.append_nil] at hn hS
    have hq := ownX_leaf hz2 (cells_scal _)
    have hSd : ∀ o ∈ S1, o ∉ S := fun o h1 h2 => by have := hlt.out o h1; have := hS o h2; omega
    have hS3 : ∀ o ∈ S, 3 < o ∧ o < m := fun o h => by have := hS o h; omega
    have hS4 : ∀ o ∈ S1, 3 < o ∧ o < m := fun o h => by have := hlt.out o h; omega
    have hf1 : ∀ o ∈ S1, H1 o = H o := fun o h => hf o (by have := hlt.out o h; omega)
    have hcs := ownX_cases hz2
    clear hz2
    replace hq := Hid.mk hq
    replace hSd := Hid.mk hSd
    replace hS3 := Hid.mk hS3
    replace hS4 := Hid.mk hS4
    replace hf1 := Hid.mk hf1
    replace hf := Hid.mk hf
    replace hS := Hid.mk hS
    replace hn := Hid.mk hn
    clear hH
    have fin : ∀ (q : PV) (t2 : Nat) (H2 : Heap), ownP H1 q (.sl (cells p.cs)) S → (noOb q = true ∨ t2 = 2) → (∀ o, o ≠ 3 → H2 o = H1 o) → tagOk (joinT t' t2) (r1 ++ [[q, .i .i64 p.k, .b p.b]]) ∧ ownRs H2 (r1 ++ [[q, .i .i64 p.k, .b p.b]]) (pieces (l.take (i + 1))) (S1 ++ S) := by
      intro q t2 H2 h1 h2 h3
      refine ⟨tag_store htag.out (h2.symm.imp id fun h2 r hr p hp => ?_), ?_⟩
      · obtain rfl := List.mem_singleton.mp hr
        simp only [List.mem_cons, List.not_mem_nil, or_false] at hp
        rcases hp with rfl | rfl | rfl <;> first | rfl | exact h2
      · have e : pieces (l.take (i + 1)) = pieces (l.take i) ++ [pieceR p] := htk.out
        rw [e]
        refine ownRs_append (ownRs_congr (H := H) (fun o ho => ?_) hown.out) (ownRs_one (ownPs_congr (H := H1) (fun o ho => ?_) ?_))
        · rw [h3 o (by have := hlt.out o ho; omega)]; exact hf1.out o ho
        · exact h3 o (by have := hS3.out o ho; omega)
        · rw [← List.append_nil S]; exact ownPs_cons h1 (ownPs_scal_mk (by simp [scalB]))
    replace fin := Hid.mk fin
    replace htk := Hid.mk htk
    rcases hcs with ⟨o, e, ty, sz, rows, t, rfl, hHo, ho⟩ | rfl | ⟨t, rfl⟩
    · have ho3 := hS3.out o ho
      have n3 : ¬ o = 3 := by omega
      clear ho
      obtain ⟨q, tg, e1, e2, hq1, hq2⟩ := hq.out
      cases e1
      clear hq2 e2
      replace hq1 := Hid.mk hq1
      replace hset := Hid.mk hset
      refine AL ?_
      refine ⟨d, by omega, i + 1, joinT t' (2), r1 ++ [[PV.ob o e, PV.i .i64 p.k, PV.b p.b]], S1 ++ S, by omega, by simp [setF_if, *], by simp [setF_if, *], by simp [setF_if, *], ?_, by omega, by simp [hr1.out], (fin.out _ _ H1 hq1.out (.inr rfl) (fun _ _ => rfl)).1, ?_, fun e => by rw [e] at hi; simp at hi, (fin.out _ (2) _ hq1.out (.inr rfl) (fun k hk => by rw [upd_if, if_neg hk])).2, ?_, ?_⟩
      · simp [upd_if, joinT, hset.out]
      · intro r hr
        rcases List.mem_append.mp hr with hr | hr
        · exact hfit.out r hr
        · rw [List.mem_singleton.mp hr]; rfl
      · exact List.nodup_append.mpr ⟨hnd.out, hn.out, fun x hx y hy e => hSd.out x hx (e ▸ hy)⟩
      · intro x hx
        rcases List.mem_append.mp hx with hx | hx
        · exact ⟨(hS4.out x hx).1, by have := (hS4.out x hx).2; omega⟩
        · exact ⟨(hS3.out x hx).1, by have := (hS3.out x hx).2; omega⟩
    · skip
      obtain ⟨q, tg, e1, e2, hq1, hq2⟩ := hq.out
      cases e1
      clear hq2 e2
      replace hq1 := Hid.mk hq1
      replace hset := Hid.mk hset
      refine AL ?_
      refine ⟨d, by omega, i + 1, joinT t' (1), r1 ++ [[PV.sl [], PV.i .i64 p.k, PV.b p.b]], S1 ++ S, by omega, by simp [setF_if, *], by simp [setF_if, *], by simp [setF_if, *], ?_, by omega, by simp [hr1.out], (fin.out _ _ H1 hq1.out (.inl rfl) (fun _ _ => rfl)).1, ?_, fun e => by rw [e] at hi; simp at hi, (fin.out _ (1) _ hq1.out (.inl rfl) (fun k hk => by rw [upd_if, if_neg hk])).2, ?_, ?_⟩
      · simp [upd_if, joinT, hset.out]
      · intro r hr
        rcases List.mem_append.mp hr with hr | hr
        · exact hfit.out r hr
        · rw [List.mem_singleton.mp hr]; rfl
      · exact List.nodup_append.mpr ⟨hnd.out, hn.out, fun x hx y hy e => hSd.out x hx (e ▸ hy)⟩
      · intro x hx
        rcases List.mem_append.mp hx with hx | hx
        · exact ⟨(hS4.out x hx).1, by have := (hS4.out x hx).2; omega⟩
        · exact ⟨(hS3.out x hx).1, by have := (hS3.out x hx).2; omega⟩
    · skip
      obtain ⟨q, tg, e1, e2, hq1, hq2⟩ := hq.out
      cases e1
      clear hq2 e2
      replace hq1 := Hid.mk hq1
      replace hset := Hid.mk hset
      refine AL ?_
      refine ⟨d, by omega, i + 1, joinT t' (joinT t 1), r1 ++ [[PV.sl [], PV.i .i64 p.k, PV.b p.b]], S1 ++ S, by omega, by simp [setF_if, *], by simp [setF_if, *], by simp [setF_if, *], ?_, by omega, by simp [hr1.out], (fin.out _ _ H1 hq1.out (.inl rfl) (fun _ _ => rfl)).1, ?_, fun e => by rw [e] at hi; simp at hi, (fin.out _ (joinT t 1) _ hq1.out (.inl rfl) (fun k hk => by rw [upd_if, if_neg hk])).2, ?_, ?_⟩
      · simp [upd_if, joinT, hset.out]
      · intro r hr
        rcases List.mem_append.mp hr with hr | hr
        · exact hfit.out r hr
        · rw [List.mem_singleton.mp hr]; rfl
      · exact List.nodup_append.mpr ⟨hnd.out, hn.out, fun x hx y hy e => hSd.out x hx (e ▸ hy)⟩
      · intro x hx
        rcases List.mem_append.mp hx with hx | hx
        · exact ⟨(hS4.out x hx).1, by have := (hS4.out x hx).2; omega⟩
        · exact ⟨(hS3.out x hx).1, by have := (hS3.out x hx).2; omega⟩
  · refine AL ?_
    have ei : i = l.length := by omega
    have hd : d = 0 := by omega
    subst hd
    rw [List.replicate_zero, List.append_nil] at hH
    have ho := hown.out
    rw [ei, List.take_length] at ho
    refine ⟨3 :: S1, ownX_sl (tagOk_own hH ho htag.out (ownRs_ns ho (pieces_ns _)) hfit.out fun e => hnil.out ?_), List.nodup_cons.mpr ⟨fun h => by have := hlt.out 3 h; omega, hnd.out⟩⟩
    refine List.length_eq_zero_iff.mp ?_
    have := hr1.out
    rw [e] at this; simp at this; omega
end Go.Proofs
end
section
open Go Go.Big
namespace Go.Proofs
set_option maxHeartbeats 2000000
theorem toPlacementS_o (G : Gv) (l : List (Int × List Int)) (hl : l.length < 1000000000) (hc : ∀ p ∈ l, p.2.length < 1000000000) : GivesO Tryz.prog G 19 [.sl 0 (places l)] (.sl 1 (places l)) := by
  refine .of (.body Tryz.func19 rfl (by simp [Tryz.ntmps19]) ?_)
  rw [Tryz.ntmps19, Tryz.results19]
  have hlen := places_len l
  have b1 : ((32 : Nat) : Int) * l.length ≤ 281474976710656 := by simp; omega
  have b2 : (l.length : Int) ≤ 9223372036854775807 := by omega
  have b3 : (0 : Int) ≤ l.length := by omega
  replace hc := Hid.mk hc
  refine AG ?_
  refine .block (.loop (.inv (fun d E H n' => ∃ (i t' : Nat) (r1 : List (List PV)) (S1 : List Nat), i + d = l.length ∧ E 0 = .sl 0 (places l) ∧ E 3 = .own 3 0 ∧ E 4 = .i .i64 i ∧ H 3 = some (.arr 0 55 2 (r1 ++ List.replicate d [PV.i .i64 0, PV.sl []]) t') ∧ 3 < n' ∧ r1.length = i ∧ tagOk t' r1 ∧ fitR 2 r1 ∧ (l = [] → t' ≠ 2) ∧ ownRs H r1 (places (l.take i)) S1 ∧ S1.Nodup ∧ ∀ o ∈ S1, 3 < o ∧ o < n') l.length ?_ ?_))
  · refine ⟨0, 1, [], [], by omega, by simp [setF_if, argE], by simp [setF_if, argE], by simp [setF_if, argE], by simp [upd_if, hlen], by omega, rfl, .inr (fun r hr => by simp at hr), fun r hr => by simp at hr, fun _ => by decide, ⟨rfl, rfl⟩, by simp, by simp⟩
  clear b1 b2 b3
  rintro d E H n' ⟨i, t', r1, S1, hi, h0, h3, h4, hH, hn3, hr1, htag, hfit, hnil, hown, hnd, hlt⟩
  replace hr1 := Hid.mk hr1
  replace htag := Hid.mk htag
  replace hfit := Hid.mk hfit
  replace hnil := Hid.mk hnil
  replace hown := Hid.mk hown
  replace hnd := Hid.mk hnd
  replace hlt := Hid.mk hlt
  by_cases c : (i : Int) < l.length
  · have hw_i : IntKind.i64.wrap ((i : Int) + 1) = (i : Int) + 1 := wr64 (by omega) (by omega)
    obtain ⟨p, hp⟩ : ∃ p, l[i]? = some p := ⟨_, List.getElem?_eq_getElem (by omega)⟩
    have hpl := hc.out p (List.mem_of_getElem? hp)
    have hr : (places l)[i]? = some (placR p) := by simp [places, hp]
    obtain ⟨d, rfl⟩ : ∃ d', d = d' + 1 := ⟨d - 1, by omega⟩
    rw [List.replicate_succ] at hH
    have hro : (r1 ++ [PV.i .i64 0, PV.sl []] :: List.replicate d [PV.i .i64 0, PV.sl []])[i]? = some [PV.i .i64 0, PV.sl []] := at_mid _ _ _ hr1.out
    have hset : ∀ x, (r1 ++ [PV.i .i64 0, PV.sl []] :: List.replicate d [PV.i .i64 0, PV.sl []]).set i x = r1 ++ x :: List.replicate d [PV.i .i64 0, PV.sl []] := fun x => set_mid _ _ _ _ hr1.out
    have hrl : i < (r1 ++ [PV.i .i64 0, PV.sl []] :: List.replicate d [PV.i .i64 0, PV.sl []]).length := (List.getElem?_eq_some_iff.mp hro).1
    generalize r1 ++ [PV.i .i64 0, PV.sl []] :: List.replicate d [PV.i .i64 0, PV.sl []] = R at hH hro hset hrl
    have htk := take_map placR hp
    replace htk := Hid.mk htk
    replace hp := Hid.mk hp
    replace hpl := Hid.mk hpl
    skip
    refine AL ?_
    refine CWO (toPlacement_o G p.1 p.2 hpl.out) ?_
    intro z H1 S m hz hn hS hf hm
    have hH1 := hf 3 (by omega)
    rw [hH] at hH1
    obtain ⟨zk, z, s2, S, rfl, rfl, h2, hz2⟩ := ownX_ag2 hz
    obtain ⟨rfl, rfl⟩ := ownX_i h2
    clear h2 hz
    simp only [List.nil_append] at hn hS
    have hq := ownX_leaf hz2 (ints_scal _)
    have hSd : ∀ o ∈ S1, o ∉ S := fun o h1 h2 => by have := hlt.out o h1; have := hS o h2; omega
    have hS3 : ∀ o ∈ S, 3 < o ∧ o < m := fun o h => by have := hS o h; omega
    have hS4 : ∀ o ∈ S1, 3 < o ∧ o < m := fun o h => by have := hlt.out o h; omega
    have hf1 : ∀ o ∈ S1, H1 o = H o := fun o h => hf o (by have := hlt.out o h; omega)
    have hcs := ownX_cases hz2
    clear hz2
    replace hq := Hid.mk hq
    replace hSd := Hid.mk hSd
    replace hS3 := Hid.mk hS3
    replace hS4 := Hid.mk hS4
    replace hf1 := Hid.mk hf1
    replace hf := Hid.mk hf
    replace hS := Hid.mk hS
    replace hn := Hid.mk hn
    clear hH
    have fin : ∀ (q : PV) (t2 : Nat) (H2 : Heap), ownP H1 q (.sl (ints p.2)) S → (noOb q = true ∨ t2 = 2) → (∀ o, o ≠ 3 → H2 o = H1 o) → tagOk (joinT t' t2) (r1 ++ [[.i .i64 p.1, q]]) ∧ ownRs H2 (r1 ++ [[.i .i64 p.1, q]]) (places (l.take (i + 1))) (S1 ++ S) := by
      intro q t2 H2 h1 h2 h3
      refine ⟨tag_store htag.out (h2.symm.imp id fun h2 r hr p hp => ?_), ?_⟩
      · obtain rfl := List.mem_singleton.mp hr
        simp only [List.mem_cons, List.not_mem_nil, or_false] at hp
        rcases hp with rfl | rfl <;> first | rfl | exact h2
      · have e : places (l.take (i + 1)) = places (l.take i) ++ [placR p] := htk.out
        rw [e]
        refine ownRs_append (ownRs_congr (H := H) (fun o ho => ?_) hown.out) (ownRs_one (ownPs_congr (H := H1) (fun o ho => ?_) ?_))
        · rw [h3 o (by have := hlt.out o ho; omega)]; exact hf1.out o ho
        · exact h3 o (by have := hS3.out o ho; omega)
        · exact ownPs_cons (s := []) (ownP_scal_mk rfl) (by rw [← List.append_nil S]; exact ownPs_cons h1 ⟨rfl, rfl⟩)
    replace fin := Hid.mk fin
    replace htk := Hid.mk htk
    rcases hcs with ⟨o, e, ty, sz, rows, t, rfl, hHo, ho⟩ | rfl | ⟨t, rfl⟩
    · have ho3 := hS3.out o ho
      have n3 : ¬ o = 3 := by omega
      clear ho
      obtain ⟨q, tg, e1, e2, hq1, hq2⟩ := hq.out
      cases e1
      clear hq2 e2
      replace hq1 := Hid.mk hq1
      replace hset := Hid.mk hset
      refine AL ?_
      refine ⟨d, by omega, i + 1, joinT t' (2), r1 ++ [[PV.i .i64 p.1, PV.ob o e]], S1 ++ S, by omega, by simp [setF_if, *], by simp [setF_if, *], by simp [setF_if, *], ?_, by omega, by simp [hr1.out], (fin.out _ _ H1 hq1.out (.inr rfl) (fun _ _ => rfl)).1, ?_, fun e => by rw [e] at hi; simp at hi, (fin.out _ (2) _ hq1.out (.inr rfl) (fun k hk => by rw [upd_if, if_neg hk])).2, ?_, ?_⟩
      · simp [upd_if, joinT, hset.out]
      · intro r hr
        rcases List.mem_append.mp hr with hr | hr
        · exact hfit.out r hr
        · rw [List.mem_singleton.mp hr]; rfl
      · exact List.nodup_append.mpr ⟨hnd.out, hn.out, fun x hx y hy e => hSd.out x hx (e ▸ hy)⟩
      · intro x hx
        rcases List.mem_append.mp hx with hx | hx
        · exact ⟨(hS4.out x hx).1, by have := (hS4.out x hx).2; omega⟩
        · exact ⟨(hS3.out x hx).1, by have := (hS3.out x hx).2; omega⟩
    · skip
      obtain ⟨q, tg, e1, e2, hq1, hq2⟩ := hq.out
      cases e1
      clear hq2 e2
      replace hq1 := Hid.mk hq1
      replace hset := Hid.mk hset
      refine AL ?_
      refine ⟨d, by omega, i + 1, joinT t' (1), r1 ++ [[PV.i .i64 p.1, PV.sl []]], S1 ++ S, by omega, by simp [setF_if, *], by simp [setF_if, *], by simp [setF_if, *], ?_, by omega, by simp [hr1.out], (fin.out _ _ H1 hq1.out (.inl rfl) (fun _ _ => rfl)).1, ?_, fun e => by rw [e] at hi; simp at hi, (fin.out _ (1) _ hq1.out (.inl rfl) (fun k hk => by rw [upd_if, if_neg hk])).2, ?_, ?_⟩
      · simp [upd_if, joinT, hset.out]
      · intro r hr
        rcases List.mem_append.mp hr with hr | hr
        · exact hfit.out r hr
        · rw [List.mem_singleton.mp hr]; rfl
      · exact List.nodup_append.mpr ⟨hnd.out, hn.out, fun x hx y hy e => hSd.out x hx (e ▸ hy)⟩
      · intro x hx
        rcases List.mem_append.mp hx with hx | hx
        · exact ⟨(hS4.out x hx).1, by have := (hS4.out x hx).2; omega⟩
        · exact ⟨(hS3.out x hx).1, by have := (hS3.out x hx).2; omega⟩
    · skip
      obtain ⟨q, tg, e1, e2, hq1, hq2⟩ := hq.out
      cases e1
      clear hq2 e2
      replace hq1 := Hid.mk hq1
      replace hset := Hid.mk hset
      refine AL ?_
      refine ⟨d, by omega, i + 1, joinT t' (joinT 1 (joinT t 1)), r1 ++ [[PV.i .i64 p.1, PV.sl []]], S1 ++ S, by omega, by simp [setF_if, *], by simp [setF_if, *], by simp [setF_if, *], ?_, by omega, by simp [hr1.out], (fin.out _ _ H1 hq1.out (.inl rfl) (fun _ _ => rfl)).1, ?_, fun e => by rw [e] at hi; simp at hi, (fin.out _ (joinT 1 (joinT t 1)) _ hq1.out (.inl rfl) (fun k hk => by rw [upd_if, if_neg hk])).2, ?_, ?_⟩
      · simp [upd_if, joinT, hset.out]
      · intro r hr
        rcases List.mem_append.mp hr with hr | hr
        · exact hfit.out r hr
        · rw [List.mem_singleton.mp hr]; rfl
      · exact List.nodup_append.mpr ⟨hnd.out, hn.out, fun x hx y hy e => hSd.out x hx (e ▸ hy)⟩
      · intro x hx
        rcases List.mem_append.mp hx with hx | hx
        · exact ⟨(hS4.out x hx).1, by have := (hS4.out x hx).2; omega⟩
        · exact ⟨(hS3.out x hx).1, by have := (hS3.out x hx).2; omega⟩
  · refine AL ?_
    have ei : i = l.length := by omega
    have hd : d = 0 := by omega
    subst hd
    rw [List.replicate_zero, List.append_nil] at hH
    have ho := hown.out
    rw [ei, List.take_length] at ho
    refine ⟨3 :: S1, ownX_sl (tagOk_own hH ho htag.out (ownRs_ns ho (places_ns _)) hfit.out fun e => hnil.out ?_), List.nodup_cons.mpr ⟨fun h => by have := hlt.out 3 h; omega, hnd.out⟩⟩
    refine List.length_eq_zero_iff.mp ?_
    have := hr1.out
    rw [e] at this; simp at this; omega
theorem toPuzzle_o (G : Gv) (l : List (Int × Int)) (ps : List PieceM) (hl : l.length < 1000000000) (hp : ps.length < 1000000000) (hc : ∀ p ∈ ps, p.cs.length < 1000000000) :
    GivesO Tryz.prog G 18 [.ag [.sl 0 (cells l), .sl 0 (pieces ps)]] (.ag [.sl 1 (cells l), .sl 1 (pieces ps)]) := by
  refine .of (.body Tryz.func18 rfl (by simp [Tryz.ntmps18]) ?_)
  rw [Tryz.ntmps18, Tryz.results18]
  replace hc := Hid.mk hc
  refine AL ?_
  refine CWO (toCellS_o G _ hl) ?_
  intro z H1 S m hz hn hS hf hm
  have f1 := hf 1 (by omega)
  have f2 := hf 2 (by omega)
  have f0 := hf 0 (by omega)
  simp [upd_if] at f0 f1 f2
  have hS1 : ∀ o ∈ S, 5 ≤ o ∧ o < m := hS
  clear hS hf
  replace hn := Hid.mk hn
  replace hS1 := Hid.mk hS1
  have hz' := Hid.mk hz
  rcases ownX_cases hz with ⟨o, e, ty, sz, rows, t, rfl, hH, ho⟩ | rfl | ⟨t, rfl⟩
  · clear hz
    have ho5 := (hS1.out o ho).1
    have n1 : ¬ o = 1 := by omega
    have n2 : ¬ o = 2 := by omega
    refine AL ?_
    refine CWO (toPieceS_o G _ hp hc.out) ?_
    intro z2 H2 S2 m2 hz2 hn2 hS2 hf2 hm2
    have g1 := hf2 1 (by omega)
    have g2 := hf2 2 (by omega)
    have g0 := hf2 0 (by omega)
    simp [upd_if, f0, f1, f2] at g0 g1 g2
    have hzz := ownX_congr (fun k hk => (hf2 k (by have := (hS1.out k hk).2; omega)).trans (by have := (hS1.out k hk).1; simp [upd_if, show ¬ k = 2 by omega])) hz'.out
    have hHo := hf2 o (by have := (hS1.out o ho).2; omega)
    simp [upd_if, n2, hH] at hHo
    clear ho
    have hSS : ∀ k ∈ S2, m ≤ k := fun k hk => by have := (hS2 k hk).1; omega
    have hS21 : ∀ k ∈ S2, 5 ≤ k := fun k hk => by have := hSS k hk; omega
    clear hf2 hS2 f0 f1 f2
    replace hn2 := Hid.mk hn2
    replace hzz := Hid.mk hzz
    replace hSS := Hid.mk hSS
    replace hS21 := Hid.mk hS21
    have hz2' := Hid.mk hz2
    rcases ownX_cases hz2 with ⟨o2, e2, ty2, sz2, rows2, t2, rfl, hH2, ho2⟩ | rfl | ⟨t2, rfl⟩
    · clear hz2
      have k5 := hS21.out o2 ho2
      have k1 : ¬ o2 = 1 := by omega
      have k2 : ¬ o2 = 2 := by omega
      clear ho2
      refine AL ?_
      refine ⟨S ++ S2, ownX_mk2 (ownX_congr (fun k hk => by have := (hS1.out k hk).1; simp [upd_if, show ¬ k = 1 by omega, show ¬ k = 2 by omega]) hzz.out) (ownX_congr (fun k hk => by have := hS21.out k hk; simp [upd_if, show ¬ k = 1 by omega, show ¬ k = 2 by omega]) hz2'.out), List.nodup_append.mpr ⟨hn.out, hn2.out, fun a ha b hb e => ?_⟩⟩
      have := (hS1.out a ha).2
      have := hSS.out b hb
      omega
    · clear hz2
      refine AL ?_
      refine ⟨S ++ S2, ownX_mk2 (ownX_congr (fun k hk => by have := (hS1.out k hk).1; simp [upd_if, show ¬ k = 1 by omega, show ¬ k = 2 by omega]) hzz.out) (ownX_congr (fun k hk => by have := hS21.out k hk; simp [upd_if, show ¬ k = 1 by omega, show ¬ k = 2 by omega]) hz2'.out), List.nodup_append.mpr ⟨hn.out, hn2.out, fun a ha b hb e => ?_⟩⟩
      have := (hS1.out a ha).2
      have := hSS.out b hb
      omega
    · clear hz2
      refine AL ?_
      refine ⟨S ++ S2, ownX_mk2 (ownX_congr (fun k hk => by have := (hS1.out k hk).1; simp [upd_if, show ¬ k = 1 by omega, show ¬ k = 2 by omega]) hzz.out) (ownX_congr (fun k hk => by have := hS21.out k hk; simp [upd_if, show ¬ k = 1 by omega, show ¬ k = 2 by omega]) hz2'.out), List.nodup_append.mpr ⟨hn.out, hn2.out, fun a ha b hb e => ?_⟩⟩
      have := (hS1.out a ha).2
      have := hSS.out b hb
      omega
  · clear hz
    refine AL ?_
    refine CWO (toPieceS_o G _ hp hc.out) ?_
    intro z2 H2 S2 m2 hz2 hn2 hS2 hf2 hm2
    have g1 := hf2 1 (by omega)
    have g2 := hf2 2 (by omega)
    have g0 := hf2 0 (by omega)
    simp [upd_if, f0, f1, f2] at g0 g1 g2
    have hzz := ownX_congr (fun k hk => (hf2 k (by have := (hS1.out k hk).2; omega)).trans (by have := (hS1.out k hk).1; simp [upd_if, show ¬ k = 2 by omega])) hz'.out
    have hSS : ∀ k ∈ S2, m ≤ k := fun k hk => by have := (hS2 k hk).1; omega
    have hS21 : ∀ k ∈ S2, 5 ≤ k := fun k hk => by have := hSS k hk; omega
    clear hf2 hS2 f0 f1 f2
    replace hn2 := Hid.mk hn2
    replace hzz := Hid.mk hzz
    replace hSS := Hid.mk hSS
    replace hS21 := Hid.mk hS21
    have hz2' := Hid.mk hz2
    rcases ownX_cases hz2 with ⟨o2, e2, ty2, sz2, rows2, t2, rfl, hH2, ho2⟩ | rfl | ⟨t2, rfl⟩
    · clear hz2
      have k5 := hS21.out o2 ho2
      have k1 : ¬ o2 = 1 := by omega
      have k2 : ¬ o2 = 2 := by omega
      clear ho2
      refine AL ?_
      refine ⟨S ++ S2, ownX_mk2 (ownX_congr (fun k hk => by have := (hS1.out k hk).1; simp [upd_if, show ¬ k = 1 by omega, show ¬ k = 2 by omega]) hzz.out) (ownX_congr (fun k hk => by have := hS21.out k hk; simp [upd_if, show ¬ k = 1 by omega, show ¬ k = 2 by omega]) hz2'.out), List.nodup_append.mpr ⟨hn.out, hn2.out, fun a ha b hb e => ?_⟩⟩
      have := (hS1.out a ha).2
      have := hSS.out b hb
      omega
    · clear hz2
      refine AL ?_
      refine ⟨S ++ S2, ownX_mk2 (ownX_congr (fun k hk => by have := (hS1.out k hk).1; simp [upd_if, show ¬ k = 1 by omega, show ¬ k = 2 by omega]) hzz.out) (ownX_congr (fun k hk => by have := hS21.out k hk; simp [upd_if, show ¬ k = 1 by omega, show ¬ k = 2 by omega]) hz2'.out), List.nodup_append.mpr ⟨hn.out, hn2.out, fun a ha b hb e => ?_⟩⟩
      have := (hS1.out a ha).2
      have := hSS.out b hb
      omega
    · clear hz2
      refine AL ?_
      refine ⟨S ++ S2, ownX_mk2 (ownX_congr (fun k hk => by have := (hS1.out k hk).1; simp [upd_if, show ¬ k = 1 by omega, show ¬ k = 2 by omega]) hzz.out) (ownX_congr (fun k hk => by have := hS21.out k hk; simp [upd_if, show ¬ k = 1 by omega, show ¬ k = 2 by omega]) hz2'.out), List.nodup_append.mpr ⟨hn.out, hn2.out, fun a ha b hb e => ?_⟩⟩
      have := (hS1.out a ha).2
      have := hSS.out b hb
      omega
  · clear hz
    refine AL ?_
    refine CWO (toPieceS_o G _ hp hc.out) ?_
    intro z2 H2 S2 m2 hz2 hn2 hS2 hf2 hm2
    have g1 := hf2 1 (by omega)
    have g2 := hf2 2 (by omega)
    have g0 := hf2 0 (by omega)
    simp [upd_if, f0, f1, f2] at g0 g1 g2
    have hzz := ownX_congr (fun k hk => (hf2 k (by have := (hS1.out k hk).2; omega)).trans (by have := (hS1.out k hk).1; simp [upd_if, show ¬ k = 2 by omega])) hz'.out
    have hSS : ∀ k ∈ S2, m ≤ k := fun k hk => by have := (hS2 k hk).1; omega
    have hS21 : ∀ k ∈ S2, 5 ≤ k := fun k hk => by have := hSS k hk; omega
    clear hf2 hS2 f0 f1 f2
    replace hn2 := Hid.mk hn2
    replace hzz := Hid.mk hzz
    replace hSS := Hid.mk hSS
    replace hS21 := Hid.mk hS21
    have hz2' := Hid.mk hz2
    rcases ownX_cases hz2 with ⟨o2, e2, ty2, sz2, rows2, t2, rfl, hH2, ho2⟩ | rfl | ⟨t2, rfl⟩
    · clear hz2
      have k5 := hS21.out o2 ho2
      have k1 : ¬ o2 = 1 := by omega
      have k2 : ¬ o2 = 2 := by omega
      clear ho2
      refine AL ?_
      refine ⟨S ++ S2, ownX_mk2 (ownX_congr (fun k hk => by have := (hS1.out k hk).1; simp [upd_if, show ¬ k = 1 by omega, show ¬ k = 2 by omega]) hzz.out) (ownX_congr (fun k hk => by have := hS21.out k hk; simp [upd_if, show ¬ k = 1 by omega, show ¬ k = 2 by omega]) hz2'.out), List.nodup_append.mpr ⟨hn.out, hn2.out, fun a ha b hb e => ?_⟩⟩
      have := (hS1.out a ha).2
      have := hSS.out b hb
      omega
    · clear hz2
      refine AL ?_
      refine ⟨S ++ S2, ownX_mk2 (ownX_congr (fun k hk => by have := (hS1.out k hk).1; simp [upd_if, show ¬ k = 1 by omega, show ¬ k = 2 by omega]) hzz.out) (ownX_congr (fun k hk => by have := hS21.out k hk; simp [upd_if, show ¬ k = 1 by omega, show ¬ k = 2 by omega]) hz2'.out), List.nodup_append.mpr ⟨hn.out, hn2.out, fun a ha b hb e => ?_⟩⟩
      have := (hS1.out a ha).2
      have := hSS.out b hb
      omega
    · clear hz2
      refine AL ?_
      refine ⟨S ++ S2, ownX_mk2 (ownX_congr (fun k hk => by have := (hS1.out k hk).1; simp [upd_if, show ¬ k = 1 by omega, show ¬ k = 2 by omega]) hzz.out) (ownX_congr (fun k hk => by have := hS21.out k hk; simp [upd_if, show ¬ k = 1 by omega, show ¬ k = 2 by omega]) hz2'.out), List.nodup_append.mpr ⟨hn.out, hn2.out, fun a ha b hb e => ?_⟩⟩
      have := (hS1.out a ha).2
      have := hSS.out b hb
      omega
end Go.Proofs
end
section
open Go Go.Big
namespace Go.Proofs
set_option maxHeartbeats 2000000
theorem cellKeyLaw : WideMaps.KeyLaw Tryz.prog 117 := deep_law_gate (by kernel_rfl) (by rw [show Tryz.prog.types.size = 249 by kernel_rfl]; omega) (by rw [show Tryz.prog.types.size = 249 by kernel_rfl]; decide) (by kernel_rfl) (by kernel_rfl)
theorem cellDepth : Tryz.prog.types.size + 1 = 249 + 1 := by kernel_rfl
theorem cellKey (a b : Int) (ha : wf64 a) (hb : wf64 b) : ∃ l, keyOf Tryz.prog 117 (.agg #[.int .i64 a, .int .i64 b]) = some l := by
  unfold keyOf
  rw [Tryz.underlying117]
  simp only [show (Tryz.prog.keyType 117 && Value.formed Tryz.prog 117 (.agg #[.int .i64 a, .int .i64 b])) = true by kernel_rfl, if_true, cellDepth]
  have h1 : ∀ c, wf64 c → Tryz.prog.keyLits 249 2 [.int .i64 c] = some [.int .i64 c] := fun c hc => by
    simp only [Program.keyLits, Tryz.underlying2]
    rw [if_pos ⟨trivial, hc⟩]
  have h2 : Tryz.prog.keyLits (249 + 1) 117 (Value.agg #[.int .i64 a, .int .i64 b]).cells.toList = some [.int .i64 a, .int .i64 b] := by
    rw [Program.keyLits.eq_def]
    simp only [Tryz.underlying117]
    rw [if_pos ⟨by kernel_rfl, by kernel_rfl⟩]
    simp only [Value.cells, List.mapM_cons, List.mapM_nil, List.drop_zero, List.drop_succ_cons, show Tryz.prog.cellsOf 2 = 1 by kernel_rfl, List.take_succ_cons, List.take_zero]
    simp [h1 a ha, h1 b hb]
  rw [h2]
  exact ⟨_, rfl⟩
theorem cellMap : CellMap Tryz.prog 199 := ⟨117, 3, _, Tryz.underlying199, cellKeyLaw, cellKey, Go.Proofs.BT.i3, by kernel_rfl⟩
end Go.Proofs
end
