/- Walks: All placements of a puzzle: both programs. No condition. | AllPlacements: both programs' functions. No condition. | Numbers written into puzzles and placements; held in them. No condition. | Placements whose numbers are still those that were written. No condition. | The statement's law: it answers true if the two agree. No condition. | The row of FnExactAllPlacements, out of what is left: two plain functions agree. No condition. | Plain law: all placements of a piece, both programs. No condition. | Plain law: all placements of a puzzle, both programs. No condition. | The sorts' contracts hold. No condition. -/
import Derived.Test.YtdbkkjoejomcmaaGreatBO
import Derived.Test.YtdbkkjoejomcmaaGreatWk9
import Derived.Test.YtdbkkjoejomcmaaGreatWk7
import Derived.Test.YtdbkkjoejomcmaaGreatBC
import Derived.Test.YtdbkkjoejomcmaaGreatBigOpen
import Derived.Test.YtdbkkjoejomcmaaGreatRows
import Derived.WalkKit
import Derived.ProofKit
import Derived.OpenShut
import Derived.ShutString
import Derived.ChangeOld
import Derived.Below
import Derived.SizedLaws
import Derived.Test.YtdbkkjoejomcmaaGreatWk8
import Derived.Test.YtdbkkjoejomcmaaGreatShelf
set_option linter.unusedVariables false
set_option linter.unusedSimpArgs false
section
open Go Go.Big
namespace Go.Proofs
set_option maxHeartbeats 2000000
def allB (r : Shape) (l : List PieceM) (i : Nat) : List (Int × List Int) := (List.range i).flatMap fun k : Nat => listB r k (formsP (l.getD k pc0))
theorem allB_succ (r : Shape) (l : List PieceM) (i : Nat) : allB r l (i + 1) = allB r l i ++ listB r i (formsP (l.getD i pc0)) := by simp [allB, List.range_succ]
theorem flatMap_len {α β : Type} {f : α → List β} {n : Nat} : ∀ {l : List α}, (∀ x ∈ l, (f x).length ≤ n) → (l.flatMap f).length ≤ l.length * n
  | [], _ => by simp
  | x :: l, h => by
    have h1 := h x List.mem_cons_self
    have h2 := flatMap_len (l := l) (fun y hy => h y (List.mem_cons_of_mem _ hy))
    rw [List.flatMap_cons, List.length_append, List.length_cons, Nat.add_mul, Nat.one_mul]; omega
theorem listA_len (r : Shape) (i : Int) (fs : List Shape) : (listA r i fs).length ≤ fs.length * r.length := flatMap_len fun f _ => List.length_filterMap_le _ _
theorem getD_mem {l : List PieceM} {i : Nat} (hi : i < l.length) : l.getD i pc0 ∈ l := by
  rw [List.getD_eq_getElem?_getD, List.getElem?_eq_getElem hi]; exact List.getElem_mem hi
theorem listB_len {r : Shape} {l : List PieceM} (h : puzzleS r l = true) {p : PieceM} (hp : p ∈ l) (i : Int) : (listB r i (formsP p)).length ≤ 320 := by
  rw [← places_eq h hp i, (orderP_perm _).length_eq]
  have h1 := listA_len r i (formsI p)
  have h2 := (formsI_ok p).1
  have h3 := (puzzle_facts h).2.2.1
  have := Nat.mul_le_mul h2 h3
  omega
theorem allB_len {r : Shape} {l : List PieceM} (h : puzzleS r l = true) {i : Nat} (hi : i ≤ l.length) : (allB r l i).length ≤ i * 320 := by
  have := flatMap_len (l := List.range i) (f := fun k : Nat => listB r k (formsP (l.getD k pc0))) (n := 320) (fun k hk => listB_len h (getD_mem (by have := List.mem_range.mp hk; omega)) _)
  rwa [List.length_range] at this
theorem listB_mem {r : Shape} {l : List PieceM} (h : puzzleS r l = true) {p : PieceM} (hp : p ∈ l) {i : Int} {x : Int × List Int} (hx : x ∈ listB r i (formsP p)) : x.1 = i ∧ x.2.length = p.cs.length ∧ (∀ c ∈ x.2, 0 ≤ c ∧ c < r.length) := by
  rw [← places_eq h hp i] at hx
  have hx := (orderP_perm _).mem_iff.mp hx
  have hc := listA_cells (r := r) (i := i) (fs := formsI p) (n := p.cs.length) (formsI_ok p).2 x hx
  unfold listA rowA at hx
  obtain ⟨f, hf, hx⟩ := List.mem_flatMap.mp hx
  obtain ⟨c, _, hx⟩ := List.mem_filterMap.mp hx
  obtain ⟨e1, e2⟩ := gM_some hx
  exact ⟨e1, hc, (setM_some e2).2.2.2⟩
theorem allB_mem {r : Shape} {l : List PieceM} (h : puzzleS r l = true) {i : Nat} (hi : i ≤ l.length) {x : Int × List Int} (hx : x ∈ allB r l i) : (0 ≤ x.1 ∧ x.1 < i) ∧ 0 < x.2.length ∧ x.2.length ≤ 40 ∧ ∀ c ∈ x.2, 0 ≤ c ∧ c < r.length := by
  obtain ⟨k, hk, hx⟩ := List.mem_flatMap.mp hx
  have hk := List.mem_range.mp hk
  have hm := getD_mem (l := l) (i := k) (by omega)
  obtain ⟨e1, e2, e3⟩ := listB_mem h hm hx
  obtain ⟨g1, g2⟩ := (puzzle_facts h).2.2.2.2.2.2 _ hm
  exact ⟨by omega, by omega, by omega, e3⟩
theorem ownPs_len {H : Heap} : ∀ {ps qs : List PV} {S : List Nat}, ownPs H ps qs S → ps.length = qs.length
  | [], _, _, ⟨rfl, _⟩ => rfl
  | p :: ps, _, _, ⟨q, qs', s, s', rfl, _, _, h2⟩ => by simp [ownPs_len h2]
theorem ownRs_row {H : Heap} : ∀ {rows q : List (List PV)} {S : List Nat}, ownRs H rows q S → ∀ r ∈ rows, ∃ q2 ∈ q, ∃ s, ownPs H r q2 s
  | [], _, _, _ => by simp
  | r :: rs, _, _, ⟨a, b, s, s', rfl, _, h1, h2⟩ => fun x hx => by
    rcases List.mem_cons.mp hx with rfl | hx
    · exact ⟨a, List.mem_cons_self, s, h1⟩
    · obtain ⟨q2, g1, g2⟩ := ownRs_row h2 x hx
      exact ⟨q2, List.mem_cons_of_mem _ g1, g2⟩
theorem places_fit (l : List (Int × List Int)) : decide (∀ r ∈ places l, r.length = 2) = true := decide_eq_true fun r hr => by obtain ⟨y, _, rfl⟩ := List.mem_map.mp hr; rfl
theorem l12All_fn (G : Gv) (r : Shape) (l : List PieceM) (c : puzzleS r l = true) :
    Gives Tryz.prog G 80 [.ag [.sl 0 (cells r), .sl 0 (pieces l)]] (.sl 1 (places (allB r l l.length))) := by
  refine .of (.body Tryz.func80 rfl (by simp [Tryz.ntmps80]) ?_)
  rw [Tryz.ntmps80, Tryz.results80]
  have hlen := pieces_len l
  obtain ⟨g1, g2, g3, g4, g5, ⟨g6, g7⟩, g8⟩ := puzzle_facts c
  replace g1 := Hid.mk g1
  replace g8 := Hid.mk g8
  refine AL ?_
  refine .loop (.inv (fun d E H n' => ∃ i : Nat, i + d = l.length ∧ 2 < n' ∧ E 1 = .ptr 0 0 0 0 ∧ E 4 = .i .i64 i ∧ H 0 = some (.box 35 [.sl 0 (cells r), .sl 0 (pieces l)]) ∧ ∃ e, E 3 = .own 2 e ∧ H 2 = some (.arr e 55 2 (places (allB r l i)) 1)) l.length ?_ ?_)
  · exact ⟨0, by omega, by omega, by simp [setF_if, argE], by simp [setF_if, argE], by simp [upd_if], 0, by simp [setF_if, argE], by simp [upd_if, allB, places]⟩
  rintro d E H n' ⟨i, hi, hn, h1, h4, hH0, e, h3, hH2⟩
  by_cases ci : (i : Int) < l.length
  · have hw_i : IntKind.i64.wrap ((i : Int) + 1) = (i : Int) + 1 := wr64 (by omega) (by omega)
    have hil : i < l.length := by omega
    obtain ⟨p, hp⟩ : ∃ p, l[i]? = some p := ⟨_, List.getElem?_eq_getElem hil⟩
    have hpm := List.mem_of_getElem? hp
    have hpd : l.getD i pc0 = p := by rw [List.getD_eq_getElem?_getD, hp]; rfl
    have hf := l12Of_fn G r l i p hp (g8.out p hpm).1 (by have := (g8.out p hpm).2; omega) g2 (by omega) (by omega) (by omega)
    have hs := allB_succ r l i
    rw [hpd] at hs
    have htk : places (allB r l i) ++ places (listB r i (formsP p)) = places (allB r l (i + 1)) := by rw [hs, places_app]
    have hl1 := places_len (allB r l i)
    have hl2 := places_len (listB r i (formsP p))
    have hb1 := allB_len c (i := i) (by omega)
    have hb2 := listB_len c hpm i
    have hft := places_fit (listB r i (formsP p))
    generalize places (allB r l i) = R1 at hH2 htk hl1
    generalize places (listB r i (formsP p)) = R2 at hf htk hl2 hft
    have hb : (R1.length + R2.length) * 32 ≤ 140737488355328 := by omega
    clear hl1 hl2 hb1 hb2 hs
    replace hf := Hid.mk hf
    replace hp := Hid.mk hp
    replace hpm := Hid.mk hpm
    replace hpd := Hid.mk hpd
    refine AL ?_
    refine CV hf.out ?_
    refine AL ?_
    exact ⟨l.length - (i + 1), by omega, i + 1, by omega, by omega, by simp [setF_if, *], by simp [setF_if, *], by simp [upd_if, *], e + 1, by simp [setF_if, *], by simp [upd_if, joinT, *]⟩
  · have ei : i = l.length := by omega
    rw [ei] at hH2
    have hnb : newB 1 (places (allB r l l.length)) := .inl (by decide)
    refine AL ?_
    simp [retA, backA, newSl, *]
theorem allPlacements_o (G : Gv) (hA : AllG G) (r : Shape) (l : List PieceM) (c : puzzleS r l = true) :
    GivesO Tryz.prog G 81 [.ag [.sl 0 (cells r), .sl 0 (pieces l)]] (.sl 1 (places (allB r l l.length))) := by
  refine .of (.body Tryz.func81 rfl (by simp [Tryz.ntmps81]) ?_)
  rw [Tryz.ntmps81, Tryz.results81]
  have hlen := pieces_len l
  obtain ⟨g1, g2, g3, g4, g5, g6, g8⟩ := puzzle_facts c
  replace g1 := Hid.mk g1
  replace g6 := Hid.mk g6
  replace g8 := Hid.mk g8
  replace hA := Hid.mk hA
  refine AL ?_
  refine .loop (.inv (fun d E H n' => ∃ (i e t' : Nat) (rows : List (List PV)) (S : List Nat), i + d = l.length ∧ 2 < n' ∧ E 1 = .ptr 0 0 0 0 ∧ E 3 = .own 2 e ∧ E 8 = .i .i64 l.length ∧ E 9 = .i .i64 i ∧ H 0 = some (.box 35 [.sl 0 (cells r), .sl 0 (pieces l)]) ∧ H 2 = some (.arr e 55 2 rows t') ∧
      tagOk t' rows ∧ fitR 2 rows ∧ ownRs H rows (places (allB r l i)) S ∧ S.Nodup ∧ (∀ o ∈ S, 2 < o ∧ o < n') ∧ (rows = [] → t' ≠ 2)) l.length ?_ ?_)
  · exact ⟨0, 0, 1, [], [], by omega, by omega, by simp [setF_if, argE], by simp [setF_if, argE], by simp [setF_if, argE, hlen], by simp [setF_if, argE], by simp [upd_if], by simp [upd_if], .inr (fun r hr => by simp at hr), fun r hr => by simp at hr, ⟨rfl, rfl⟩, by simp, by simp, fun _ => by decide⟩
  rintro d E H n' ⟨i, e, t', rows, S, hi, hn, h1, h3, h8, h9, hH0, hH2, htag, hfit, hown, hnd, hlt, hnil⟩
  have hrl := ownRs_len hown
  rw [places_len] at hrl
  replace htag := Hid.mk htag
  replace hfit := Hid.mk hfit
  replace hown := Hid.mk hown
  replace hnd := Hid.mk hnd
  replace hlt := Hid.mk hlt
  replace hnil := Hid.mk hnil
  by_cases ci : (i : Int) < l.length
  · have hw_i : IntKind.i64.wrap ((i : Int) + 1) = (i : Int) + 1 := wr64 (by omega) (by omega)
    have hil : i < l.length := by omega
    obtain ⟨p, hp⟩ : ∃ p, l[i]? = some p := ⟨_, List.getElem?_eq_getElem hil⟩
    have hpm := List.mem_of_getElem? hp
    have hpd : l.getD i pc0 = p := by rw [List.getD_eq_getElem?_getD, hp]; rfl
    have hf := placementsOf_o G hA.out r l i p hp (g8.out p hpm).1 (by have := (g8.out p hpm).2; omega) g1.out (by omega) (by omega) (listA_nodup' c hpm _)
    rw [places_eq c hpm i] at hf
    have hs := allB_succ r l i
    rw [hpd] at hs
    have hb1 := allB_len c (i := i) (by omega)
    have hb2 := listB_len c hpm i
    have hra : rows.length ≤ 3840 := by omega
    generalize listB r i (formsP p) = L2 at hf hs hb2
    clear hrl hb1
    replace hf := Hid.mk hf
    replace hp := Hid.mk hp
    replace hpm := Hid.mk hpm
    replace hpd := Hid.mk hpd
    replace hs := Hid.mk hs
    refine AL ?_
    refine CWO1 hf.out ?_
    intro z H1 S1 m hz hn1 hS hf1 hm hz1
    have f0 := (hf1 0 (by omega)).trans hH0
    have f2 := (hf1 2 (by omega)).trans hH2
    have hS3 : ∀ o ∈ S1, 2 < o ∧ o < m := fun o h => by have := hS o h; omega
    have hSd : ∀ o ∈ S, o ∉ S1 := fun o h1 h2 => by have := hlt.out o h1; have := hS o h2; omega
    have hown1 := ownRs_congr (fun o ho => hf1 o (by have := hlt.out o ho; omega)) hown.out
    have hlt1 : ∀ o ∈ S, 2 < o ∧ o < m := fun o h => by have := hlt.out o h; omega
    have hm2 : 2 < m := by omega
    have hnd1 := hnd.out
    clear hf hf1 hown hlt hS hH0 hH2
    replace hSd := Hid.mk hSd
    replace hown1 := Hid.mk hown1
    replace hlt1 := Hid.mk hlt1
    replace hnd1 := Hid.mk hnd1
    replace hn1 := Hid.mk hn1
    have hm0 : ¬ (0 = m) := by omega
    replace hz1 := Hid.mk hz1
    rcases ownX_un hz with ⟨o, eo, ty, sz, rows2, t2, S', rfl, hHo, rfl, hR2, ht2, ht2', hf2⟩ | ⟨hz2, hq, rfl⟩
    · have ho3 := hS3 o List.mem_cons_self
      have hS4 : ∀ o ∈ S', 2 < o ∧ o < m := fun o h => hS3 o (List.mem_cons_of_mem _ h)
      have n3 : ¬ o = 2 := by omega
      have hr2l := ownRs_len hR2
      rw [places_len] at hr2l
      have hb : (rows.length + rows2.length) * 32 ≤ 140737488355328 := by omega
      have hfit2 : (sz == 2) = true ∨ rows2 = [] := by
        by_cases q : rows2 = []
        · exact .inr q
        · obtain ⟨r0, hr0⟩ := List.exists_mem_of_ne_nil _ q
          have h5 := hf2 r0 hr0
          have h6 : r0.length = 2 := by
            obtain ⟨q2, hq2, s, e1⟩ := ownRs_row hR2 r0 hr0
            obtain ⟨y, _, rfl⟩ := List.mem_map.mp hq2
            rw [ownPs_len e1]; rfl
          exact .inl (by rw [← h5, h6]; rfl)
      have hfit3 : fitR 2 (rows ++ rows2) := fun r hr => by
        rcases List.mem_append.mp hr with hr | hr
        · exact hfit.out r hr
        · rcases hfit2 with q | q
          · rw [hf2 r hr]; simpa using q
          · rw [q] at hr; simp at hr
      clear hz hS3 hr2l hf2
      replace hR2 := Hid.mk hR2
      replace ht2 := Hid.mk ht2
      replace ht2' := Hid.mk ht2'
      replace hS4 := Hid.mk hS4
      replace hfit3 := Hid.mk hfit3
      have hn1' := List.nodup_cons.mp hn1.out
      replace hn1' := Hid.mk hn1'
      refine AL ?_
      refine ⟨l.length - (i + 1), by omega, i + 1, e + 1, joinT t' t2, rows ++ rows2, S ++ S', by omega, by omega, by simp [setF_if, *], by simp [setF_if, *], by simp [setF_if, *], by simp [setF_if, *], by simp [upd_if, *], by simp [upd_if, joinT, *], tag_app htag.out ht2.out, hfit3.out, ?_, ?_, ?_, fun h => ?_⟩
      · rw [hs.out, places_app]
        exact ownRs_append (ownRs_congr (fun x hx => by have := hlt1.out x hx; rw [upd_if, if_neg (by omega)]) hown1.out) (ownRs_congr (fun x hx => by have := hS4.out x hx; rw [upd_if, if_neg (by omega)]) hR2.out)
      · exact List.nodup_append.mpr ⟨hnd1.out, hn1'.out.2, fun x hx y hy e => hSd.out x hx (e ▸ List.mem_cons_of_mem _ hy)⟩
      · intro x hx
        rcases List.mem_append.mp hx with hx | hx
        · exact ⟨(hlt1.out x hx).1, by have := (hlt1.out x hx).2; omega⟩
        · exact ⟨(hS4.out x hx).1, by have := (hS4.out x hx).2; omega⟩
      · obtain ⟨e1, e2⟩ := List.append_eq_nil_iff.mp h
        subst e1 e2
        exact joinT_ne (hnil.out rfl) (ht2'.out (fun r hr => by simp at hr))
    · have hL : L2 = [] := List.map_eq_nil_iff.mp hq
      subst hL
      have hs2 : allB r l (i + 1) = allB r l i := by rw [hs.out, List.append_nil]
      have hb : rows.length * 32 ≤ 140737488355328 := by omega
      clear hz hS3 hq
      replace hs2 := Hid.mk hs2
      rcases hz2 with rfl | ⟨t2, rfl⟩
      · refine AL ?_
        exact ⟨l.length - (i + 1), by omega, i + 1, e + 1, joinT t' 1, rows, S, by omega, by omega, by simp [setF_if, *], by simp [setF_if, *], by simp [setF_if, *], by simp [setF_if, *], by simp [upd_if, *], by simp [upd_if, joinT, *], tag_join htag.out, hfit.out, by rw [hs2.out]; exact ownRs_congr (fun x hx => by have := hlt1.out x hx; rw [upd_if, if_neg (by omega)]) hown1.out, hnd1.out, fun x hx => ⟨(hlt1.out x hx).1, by have := (hlt1.out x hx).2; omega⟩, fun h => joinT_ne (hnil.out h) (by decide)⟩
      · obtain rfl := hz1.out _ _ rfl
        clear hz1
        refine AL ?_
        exact ⟨l.length - (i + 1), by omega, i + 1, e + 1, joinT t' 1, rows, S, by omega, by omega, by simp [setF_if, *], by simp [setF_if, *], by simp [setF_if, *], by simp [setF_if, *], by simp [upd_if, *], by simp [upd_if, joinT, *], tag_join htag.out, hfit.out, by rw [hs2.out]; exact ownRs_congr (fun x hx => by have := hlt1.out x hx; rw [upd_if, if_neg (by omega)]) hown1.out, hnd1.out, fun x hx => ⟨(hlt1.out x hx).1, by have := (hlt1.out x hx).2; omega⟩, fun h => joinT_ne (hnil.out h) (by decide)⟩
  · have ei : i = l.length := by omega
    rw [ei] at hown
    refine AL ?_
    exact ⟨2 :: S, ownX_sl (tagOk_own hH2 hown.out htag.out (ownRs_ns hown.out (places_ns _)) hfit.out hnil.out), List.nodup_cons.mpr ⟨fun h => by have := (hlt.out 2 h).1; omega, hnd.out⟩⟩
end Go.Proofs
end
section
open Go Go.Big
namespace Go.Proofs
set_option maxHeartbeats 2000000
def pallS (r : Shape) (l : List PieceM) : List (Int × List Int) × Int := if puzzleS r l then (allB r l l.length, 0) else ([], 1)
def pallI (r : Shape) (l : List PieceM) : List (Int × List Int) × Int := if puzzleI r l then (allB r l l.length, 0) else ([], 1)
theorem specAllPlacements_fn (G : Gv) (r : Shape) (l : List PieceM) (hr : r.length < 1000000000) (hl : l.length < 1000000000) (hpl : ∀ p ∈ l, p.cs.length < 1000000000) :
    Gives Tryz.prog G 33 [.ag [.sl 0 (cells r), .sl 0 (pieces l)]] (.tup [.sl 1 (places (pallS r l).1), .i .i64 (pallS r l).2]) := by
  refine .of (.body Tryz.func33 rfl (by simp [Tryz.ntmps33]) ?_)
  rw [Tryz.ntmps33, Tryz.results33]
  replace hpl := Hid.mk hpl
  refine AL ?_
  refine CV (specIsPuzzle_fn G r l hr hl hpl.out) ?_
  by_cases c : puzzleS r l = true
  · have hf := l12All_fn G r l c
    have hres : pallS r l = (allB r l l.length, 0) := by unfold pallS; rw [if_pos c]
    rw [hres]
    clear hres
    replace hf := Hid.mk hf
    refine AL ?_
    refine CV hf.out ?_
    refine AL ?_
    simp [retA, backA, backsA, newSl]
  · have hres : pallS r l = ([], 1) := by unfold pallS; rw [if_neg c]
    rw [hres]
    clear hres
    refine AL ?_
    simp [retA, backA, backsA, places_nil]
theorem implAllPlacements_o (G : Gv) (hA : AllG G) (r : Shape) (l : List PieceM) (hr : r.length < 1000000000) (hl : l.length < 1000000000) (hpl : ∀ p ∈ l, p.cs.length < 1000000000) :
    GivesO Tryz.prog G 34 [.ag [.sl 0 (cells r), .sl 0 (pieces l)]] (.tup [.sl 1 (places (pallI r l).1), .i .i64 (pallI r l).2]) := by
  refine .of (.body Tryz.func34 rfl (by simp [Tryz.ntmps34]) ?_)
  rw [Tryz.ntmps34, Tryz.results34]
  replace hpl := Hid.mk hpl
  replace hA := Hid.mk hA
  refine AL ?_
  refine CV (implIsPuzzle_fn G hA.out.c1 hA.out.c2 r l hr hl hpl.out) ?_
  by_cases cI : puzzleI r l = true
  · have c : puzzleS r l = true := by rw [← puzzle_eq]; exact cI
    have hf := allPlacements_o G hA.out r l c
    have hres : pallI r l = (allB r l l.length, 0) := by unfold pallI; rw [if_pos cI]
    rw [hres]
    clear hres
    replace hf := Hid.mk hf
    refine AL ?_
    refine CWO hf.out ?_
    intro z H1 S m hz hn hS hf hm
    replace hz := Hid.mk hz
    refine AL ?_
    exact ⟨S, ownX_kt hz.out, hn⟩
  · have hres : pallI r l = ([], 1) := by unfold pallI; rw [if_neg cI]
    rw [hres]
    clear hres
    refine AL ?_
    exact ⟨[], ownX_mkT (s1 := []) (ownX_sl ownA_nil) ownX_mki, by simp⟩
end Go.Proofs
end
section
open Go Go.Big
namespace Go.Proofs
set_option maxHeartbeats 2000000
theorem markPuzzle_m (G : Gv) (r : List (Int × Int)) (l : List PieceM) (k : Int) (hr : r.length < 1000000000) (hl : l.length < 1000000000) (hc : ∀ p ∈ l, p.cs.length < 1000000000) (hk0 : 0 ≤ k) (hk : k + 2 * r.length + cntQ l < 1000000000000) :
    Marks Tryz.prog G 24 (.ag [.sl 1 (cells r), .sl 1 (pieces l)]) (.ag [.sl 1 (cells (runC k r.length)), .sl 1 (pieces (mkQ (k + 2 * r.length) l))]) k (k + 2 * r.length + cntQ l) := by
  intro x H0 n0 S hx hn hS
  have hcn := cntQ_nn l
  obtain ⟨za, zb, s1, s2, rfl, rfl, hxa, hxb⟩ := ownX_ag2 hx
  clear hx
  rw [List.nodup_append] at hn
  obtain ⟨hn1, hn2, hn3⟩ := hn
  have hS1 : ∀ o ∈ s1, o < n0 := fun o ho => hS o (by simp [ho])
  have hS2 : ∀ o ∈ s2, o < n0 := fun o ho => hS o (by simp [ho])
  have pa := (ownX_plain hxa).1
  have pb := (ownX_plain hxb).1
  replace hxa := Hid.mk hxa
  replace hxb := Hid.mk hxb
  replace hn1 := Hid.mk hn1
  replace hn2 := Hid.mk hn2
  replace hn3 := Hid.mk hn3
  replace hS1 := Hid.mk hS1
  replace hS2 := Hid.mk hS2
  replace hc := Hid.mk hc
  clear hS
  refine (.body Tryz.func24 rfl (by simp [Tryz.ntmps24]) ?_)
  rw [Tryz.ntmps24, Tryz.results24]
  refine W.seq ?_
  refine W.region ?_
  refine OP (y := .ptr n0 0 0 0) (H1 := H0.upd n0 (.box 35 [za, zb])) (op := .box 35 (.tmp 0)) ?_ (hs := by rw [st_box]; simp [flatA, pa, pb, argE])
  refine AL ?_
  refine CI ?_
  refine WC.mono (markCellS_m G r k hr hk0 (by omega) _ _ _ s1 (ownX_congr (fun o ho => by rw [upd_if, if_neg (by have := hS1.out o ho; omega)]) hxa.out) hn1.out (fun o ho => by have := hS1.out o ho; omega)) ?_
  rintro _ H1 m ⟨rfl, hm, hz1, hf1⟩
  have hb := hf1 n0 (by omega) (fun h => by have := hS1.out _ h; omega)
  rw [upd_if, if_pos rfl] at hb
  have hxb1 := ownX_congr (H' := H1) (fun o ho => by rw [hf1 o (by have := hS2.out o ho; omega) (fun h => hn3.out o h o ho rfl), upd_if, if_neg (by have := hS2.out o ho; omega)]) hxb.out
  replace hxb1 := Hid.mk hxb1
  replace hz1 := Hid.mk hz1
  replace hf1 := Hid.mk hf1
  clear pa pb
  refine AL ?_
  refine CI ?_
  refine WC.mono (markPieceS_m G l (k + 2 * r.length) hl hc.out (by omega) (by omega) _ _ _ s2 hxb1.out hn2.out (fun o ho => by have := hS2.out o ho; omega)) ?_
  rintro _ H2 m2 ⟨rfl, hm2, hz2, hf2⟩
  have hb2 := hf2 n0 (by omega) (fun h => by have := hS2.out _ h; omega)
  replace hz2 := Hid.mk hz2
  replace hf2 := Hid.mk hf2
  refine AL ?_
  refine ⟨rfl, by omega, ownX_mk2 (ownX_congr (fun o ho => hf2.out o (by have := hS1.out o ho; omega) (fun h => hn3.out o ho o h rfl)) hz1.out) hz2.out, fun o ho hno => ?_⟩
  rw [hf2.out o (by omega) (fun h => hno (by simp [h])), hf1.out o (by omega) (fun h => hno (by simp [h])), upd_if, if_neg (by omega)]
theorem markPlacement_m (G : Gv) (j : Int) (l : List Int) (k : Int) (hl : l.length < 1000000000) (hk0 : 0 ≤ k) (hk : k < 1000000000000) :
    Marks Tryz.prog G 44 (.ag [.i .i64 j, .sl 1 (ints l)]) (.ag [.i .i64 j, .sl 1 (ints (runI k l.length))]) k (k + l.length) := by
  intro x H0 n0 S hx hn hS
  obtain ⟨zi, za, s2, s1, rfl, rfl, hxi, hxa⟩ := ownX_ag2 hx
  obtain ⟨rfl, rfl⟩ := ownX_i hxi
  clear hx hxi
  rw [List.nil_append] at hn hS ⊢
  have pa := (ownX_plain hxa).1
  have pi : plainA H0 (.i .i64 j) = true := rfl
  replace hxa := Hid.mk hxa
  replace hn := Hid.mk hn
  replace hS := Hid.mk hS
  refine (.body Tryz.func44 rfl (by simp [Tryz.ntmps44]) ?_)
  rw [Tryz.ntmps44, Tryz.results44]
  refine W.seq ?_
  refine W.region ?_
  refine OP (y := .ptr n0 0 0 0) (H1 := H0.upd n0 (.box 55 [.i .i64 j, za])) (op := .box 55 (.tmp 0)) ?_ (hs := by rw [st_box]; simp [flatA, pa, pi, argE])
  clear pa pi
  refine AL ?_
  refine CI ?_
  refine WC.mono (markInt64S_m G l k hl hk0 hk _ _ _ s1 (ownX_congr (fun o ho => by rw [upd_if, if_neg (by have := hS.out o ho; omega)]) hxa.out) hn.out (fun o ho => by have := hS.out o ho; omega)) ?_
  rintro _ H1 m ⟨rfl, hm, hz1, hf1⟩
  replace hz1 := Hid.mk hz1
  replace hf1 := Hid.mk hf1
  refine AL ?_
  refine ⟨rfl, by omega, ownX_mk2 (s1 := []) ownX_mki hz1.out, fun o ho hno => ?_⟩
  rw [hf1.out o (by omega) hno, upd_if, if_neg (by omega)]
end Go.Proofs
end
section
open Go Go.Big
namespace Go.Proofs
set_option maxHeartbeats 2000000
theorem mkP_length : ∀ (k : Int) (l : List (Int × List Int)), (mkP k l).length = l.length
  | _, [] => rfl
  | k, p :: l => by simp only [mkP, List.length_cons, mkP_length]
theorem heldPlacementS_fn (G : Gv) (l : List (Int × List Int)) (k : Int) (hl : l.length < 1000000000) (hc : ∀ p ∈ l, p.2.length < 1000000000) (hk0 : 0 ≤ k) (hk : k + cntP l < 1000000000000) :
    Gives Tryz.prog G 32 [.sl 0 (places (mkP k l)), .i .i64 k] (.i .i64 (k + cntP l)) := by
  refine .of (.body Tryz.func32 rfl (by simp [Tryz.ntmps32]) ?_)
  rw [Tryz.ntmps32, Tryz.results32]
  have hlen : (places (mkP k l)).length = l.length := by rw [places_len, mkP_length]
  replace hc := Hid.mk hc
  generalize hM : mkP k l = M at hlen
  replace hM := Hid.mk hM
  refine AL ?_
  refine .loop (.inv (fun d E H n' => ∃ (i : Nat) (k' : Int), i + d = l.length ∧ E 0 = .sl 0 (places M) ∧ E 1 = .i .i64 k' ∧ E 5 = .i .i64 i ∧ M.drop i = mkP k' (l.drop i) ∧ k' + cntP (l.drop i) = k + cntP l ∧ 0 ≤ k') l.length ?_ ?_)
  · exact ⟨0, k, by omega, by simp [setF_if, argE], by simp [setF_if, argE], by simp [setF_if, argE], by simp [hM.out], by simp, hk0⟩
  rintro d E H n' ⟨i, k', hi, h0, h1, h5, hd, hn, hk'⟩
  replace hn := Hid.mk hn
  replace hd := Hid.mk hd
  by_cases c : (i : Int) < l.length
  · have hw_i : IntKind.i64.wrap ((i : Int) + 1) = (i : Int) + 1 := wr64 (by omega) (by omega)
    obtain ⟨p, hp⟩ : ∃ p, l[i]? = some p := ⟨_, List.getElem?_eq_getElem (by omega)⟩
    have hpl := hc.out p (List.mem_of_getElem? hp)
    have hld := drop_cons hp
    have hd2 := hd.out
    have hn2 := hn.out
    rw [hld] at hd2 hn2
    simp only [mkP, cntP] at hd2 hn2
    have hnn := cntP_nn (l.drop (i + 1))
    have hro : (places M)[i]? = some (placR (k', runI (k' + 1) p.2.length)) := places_at (by
      have : (M.drop i)[0]? = some (k', runI (k' + 1) p.2.length) := by rw [hd2]; rfl
      rwa [List.getElem?_drop, Nat.add_zero] at this)
    have hd3 : M.drop (i + 1) = mkP (k' + 1 + p.2.length) (l.drop (i + 1)) := by
      rw [← List.drop_drop (i := 1), hd2]; rfl
    have hw1 : IntKind.i64.wrap (k' + 1) = k' + 1 := wr64 (by omega) (by omega)
    have hbne : (k' != k') = false := by simp
    have hneg : ¬ (k' + 1 + (p.2.length : Int) < 0) := by omega
    replace hd2 := Hid.mk hd2
    replace hd3 := Hid.mk hd3
    replace hld := Hid.mk hld
    replace hp := Hid.mk hp
    replace hn2 := Hid.mk hn2
    replace hnn := Hid.mk hnn
    refine AL ?_
    refine CV (heldInt64S_fn G (k' + 1) p.2.length hpl (by omega) (by have := hn2.out; have := hnn.out; omega)) ?_
    refine AL ?_
    exact ⟨l.length - (i + 1), by omega, i + 1, k' + 1 + p.2.length, by omega, by simp [setF_if, *], by simp [setF_if, *], by simp [setF_if, *], hd3.out, by have := hn2.out; omega, by omega⟩
  · have ei : i = l.length := by omega
    have hn2 := hn.out
    rw [ei, List.drop_length] at hn2
    simp only [cntP] at hn2
    refine AL ?_
    simp [retA, backA, setF_if, h1]; omega
theorem heldPlacement_fn (G : Gv) (j : Int) (k : Int) (m : Nat) (hl : m < 1000000000) (hk0 : 0 ≤ k) (hk : k < 1000000000000) :
    Gives Tryz.prog G 45 [.ag [.i .i64 j, .sl 0 (ints (runI k m))], .i .i64 k] (.i .i64 (k + m)) := by
  refine .of (.body Tryz.func45 rfl (by simp [Tryz.ntmps45]) ?_)
  rw [Tryz.ntmps45, Tryz.results45]
  have hneg : ¬ (k + (m : Int) < 0) := by omega
  refine AL ?_
  refine CV (heldInt64S_fn G k m hl hk0 hk) ?_
  refine AL ?_
  simp [retA, backA]
end Go.Proofs
end
section
open Go Go.Big
namespace Go.Proofs
set_option maxHeartbeats 2000000
theorem szP_cnt : ∀ {l : List PieceM} {left : Int}, ¬ szP l left < 0 → cntQ l ≤ 2 * left + 2 * l.length
  | [], left, h => by simp only [szP] at h; simp only [cntQ, List.length_nil]; omega
  | p :: l, left, h => by
    unfold szP at h
    split at h
    · simp at h
    · rename_i c
      have := szP_cnt h
      unfold szN at c this
      split at c
      · simp at c
      · rename_i c2
        rw [if_neg c2] at this
        simp only [cntQ, List.length_cons]; omega
theorem szPz_cnt {r : List (Int × Int)} {l : List PieceM} {left : Int} (h : ¬ szPz r l left < 0) : cntQ l ≤ 2 * left + 2 * left := by
  unfold szPz at h
  split at h
  · simp at h
  · rename_i c
    unfold szPS at h
    split at h
    · simp at h
    · rename_i c2
      have := szP_cnt h
      have := szN_le c
      omega
theorem szPL_cnt : ∀ {l : List (Int × List Int)} {left : Int}, ¬ szPL l left < 0 → cntP l ≤ left + l.length
  | [], left, h => by simp only [szPL] at h; simp only [cntP, List.length_nil]; omega
  | p :: l, left, h => by
    unfold szPL at h
    split at h
    · simp at h
    · rename_i c
      have := szPL_cnt h
      unfold szN at c this
      split at c
      · simp at c
      · rename_i c2
        rw [if_neg c2] at this
        simp only [cntP, List.length_cons]; omega
theorem szPLS_cnt {l : List (Int × List Int)} {left : Int} (h : ¬ szPLS l left < 0) : cntP l ≤ left + left := by
  unfold szPLS at h
  split at h
  · simp at h
  · have := szPL_cnt h
    omega
theorem law_fn (G : Gv) (hA : AllG G) (r : List (Int × Int)) (l : List PieceM)
    (hr : r.length ≤ 9223372036854775807) (hl : l.length ≤ 9223372036854775807) (hc : ∀ p ∈ l, p.cs.length ≤ 9223372036854775807)
    (hpure : r.length < 1000000000 → l.length < 1000000000 → (∀ p ∈ l, p.cs.length < 1000000000) → pallI r l = pallS r l ∧ ((pallI r l).1.length < 1000000000) ∧ (∀ x ∈ (pallI r l).1, x.2.length < 1000000000) ∧ (cntP (pallI r l).1 < 100000000000)) :
    Gives Tryz.prog G 6 [.ag [.sl 0 (cells r), .sl 0 (pieces l)]] (.b true) := by
  refine .of (.body Tryz.func6 rfl (by simp [Tryz.ntmps6]) ?_)
  rw [Tryz.ntmps6, Tryz.results6]
  replace hA := Hid.mk hA
  replace hc := Hid.mk hc
  replace hpure := Hid.mk hpure
  refine AX ?_
  refine CV (szPuzzle_fn G r l 1048576 hr hl hc.out (by omega) (by omega)) ?_
  by_cases c1 : szPz r l 1048576 < 0
  · refine AX ?_
    simp [retA, backA]
  obtain ⟨ga1, gb1, gc1, gd1, ge1⟩ := szPz_le (left := 1048576) (by omega) c1
  replace gc1 := Hid.mk gc1
  have hr9 : r.length < 1000000000 := by omega
  have hl9 : l.length < 1000000000 := by omega
  have hc9 : ∀ p ∈ l, p.cs.length < 1000000000 := fun p hp => by have := gc1.out p hp; omega
  have hkq : cntQ l < 100000000000 := by have := szPz_cnt c1; omega
  have hkq0 := cntQ_nn l
  obtain ⟨hp, hwl, hwc, hwk⟩ := hpure.out hr9 hl9 hc9
  replace hc9 := Hid.mk hc9
  have hspec := specAllPlacements_fn G r l hr9 hl9 hc9.out
  have himpl := implAllPlacements_o G hA.out r l hr9 hl9 hc9.out
  rw [← hp] at hspec
  clear hp
  generalize pallI r l = W at hspec himpl hwl hwc hwk
  obtain ⟨w, wc⟩ := W
  simp only at hspec himpl hwl hwc hwk
  have hbb : (wc != wc) = false := by simp
  have hwk0 := cntP_nn w
  replace hwc := Hid.mk hwc
  replace hspec := Hid.mk hspec
  replace himpl := Hid.mk himpl
  clear gc1
  refine AX ?_
  refine CV (toPuzzle_fn G r l hr9 hl9 hc9.out) ?_
  refine AX ?_
  refine CV hspec.out ?_
  refine AX ?_
  refine CWO (toPuzzle_o G r l hr9 hl9 hc9.out) ?_
  intro z1 Hh1 S1 m1 hz1 hn1 hS1 hf1 hm1
  have B0 := hf1 0 (by omega)
  simp [upd_if] at B0
  obtain ⟨za1, zb1, sa1, sb1, rfl, rfl, Xa1, Xb1⟩ := ownX_ag2 hz1
  have Ra1 := fun o (ho : o ∈ sa1) => hS1 o (by simp [ho])
  have Rb1 := fun o (ho : o ∈ sb1) => hS1 o (by simp [ho])
  clear hz1 hS1 hf1
  replace Xa1 := Hid.mk Xa1
  replace Ra1 := Hid.mk Ra1
  replace Xb1 := Hid.mk Xb1
  replace Rb1 := Hid.mk Rb1
  replace hn1 := Hid.mk hn1
  refine AX ?_
  have pl_za1 := (ownX_plain (ownX_congr (H' := Hh1.upd (m1) (.box 35 [.nil, .nil])) (fun o ho => by rw [upd_if, if_neg (by have := Ra1.out o ho; omega)]) Xa1.out)).1
  have pl_zb1 := (ownX_plain (ownX_congr (H' := Hh1.upd (m1) (.box 35 [.nil, .nil])) (fun o ho => by rw [upd_if, if_neg (by have := Rb1.out o ho; omega)]) Xb1.out)).1
  refine OPN (op := .store 35 (.tmp 6) (.tmp 26)) (H1 := (Hh1.upd (m1) (.box 35 [.nil, .nil])).upd (m1) (.box 35 [za1, zb1])) (y := .un) ?_ (hs := by
    rw [st_store]
    simp only [look_tmp, setF_if, Nat.reduceEqDiff, reduceIte, flatA, List.all_cons, List.all_nil, pl_za1, pl_zb1, Bool.and_self, BT.all, storeA, upd_if, putA, List.length_cons, List.length_nil, Nat.reduceAdd, Nat.reduceLeDiff, List.set_cons_zero, List.set_cons_succ, Option.map_some])
  repeat first | refine OP ?_ | refine SK ?_ | refine OPN ?_ | refine WR.nil ?_
  refine TH ?_
  refine W.cutn ?_
  intro EX1 HX1 NX1 hEX hHX hNX
  have e1_1 := hEX 1
  have e4_1 := hEX 4
  have e5_1 := hEX 5
  have e6_1 := hEX 6
  simp only [setF_if, argE, Nat.reduceEqDiff, reduceIte, List.getElem?_cons_zero, List.getElem?_cons_succ, Option.getD_some] at e1_1 e4_1 e5_1 e6_1
  have hN1 : m1 < NX1 := by omega
  have B0' := (show HX1 (0) = Hh1 (0) by rw [hHX, upd_if, if_neg (by omega), upd_if, if_neg (by omega)]).trans B0
  have bx1 : HX1 (m1) = some (.box 35 [za1, zb1]) := by rw [hHX, upd_if, if_pos rfl]
  have Xa1' := ownX_congr (H' := HX1) (fun o ho => by have := Ra1.out o ho; rw [hHX, upd_if, if_neg (by omega), upd_if, if_neg (by omega)]) Xa1.out
  clear Xa1
  replace Xa1' := Hid.mk Xa1'
  have Xb1' := ownX_congr (H' := HX1) (fun o ho => by have := Rb1.out o ho; rw [hHX, upd_if, if_neg (by omega), upd_if, if_neg (by omega)]) Xb1.out
  clear Xb1
  replace Xb1' := Hid.mk Xb1'
  clear hEX hHX hNX pl_za1 pl_zb1 B0
  have ga1 := ownX_gives Xa1'.out
  have gb1 := ownX_gives Xb1'.out
  refine AX ?_
  refine CWO himpl.out ?_
  intro z2 Hh2 S2 m2 hz2 hn2 hS2 hf2 hm2
  try clear ga1
  try clear gb1
  have B0'' := (hf2 0 (by omega)).trans B0'
  clear B0'
  have bx1' := (hf2 m1 (by omega)).trans bx1
  clear bx1
  have Xa1'' := ownX_congr (fun o ho => hf2 o (by have := Ra1.out o ho; omega)) Xa1'.out
  clear Xa1'
  replace Xa1'' := Hid.mk Xa1''
  have Xb1'' := ownX_congr (fun o ho => hf2 o (by have := Rb1.out o ho; omega)) Xb1'.out
  clear Xb1'
  replace Xb1'' := Hid.mk Xb1''
  obtain ⟨zw2, zc2, Sw2, Sc2, rfl, rfl, hw2, hc2⟩ := ownX_tup2 hz2
  obtain ⟨rfl, rfl⟩ := ownX_i hc2
  simp only [List.append_nil] at hn2 hS2
  clear hc2 hz2
  have R2 := hS2
  clear hS2 hf2
  replace hw2 := Hid.mk hw2
  replace R2 := Hid.mk R2
  replace hn2 := Hid.mk hn2
  have ga1 := ownX_gives Xa1''.out
  have gb1 := ownX_gives Xb1''.out
  have g2 := ownX_gives hw2.out
  refine AX ?_
  refine CV (eqPlacementS_fn G w hwl hwc.out) ?_
  refine AX ?_
  refine DR ?_
  refine AX ?_
  refine CQ (toPuzzle_fn G r l hr9 hl9 hc9.out) ?_
  refine AX ?_
  refine CQ (eqPuzzle_fn G r l hr9 hl9 hc9.out) ?_
  refine AX ?_
  refine CI ?_
  refine WC.mono (markPuzzle_m G r l 1 hr9 hl9 hc9.out (by omega) (by omega) _ _ _ (sa1 ++ sb1) (ownX_mk2 Xa1''.out Xb1''.out) (by simpa using hn1.out) (fun o ho => by simp only [List.nil_append, List.mem_append] at ho; rcases ho with ho | ho; have := Ra1.out o ho; omega; have := Rb1.out o ho; omega)) ?_
  rintro _ Hh3 m3 ⟨rfl, hm3, hw3, hf3⟩
  try clear ga1
  try clear gb1
  try clear g2
  have B0''' := (hf3 0 (by omega) (fun h => by simp only [List.nil_append, List.mem_append] at h; rcases h with h | h; have := Ra1.out _ h; omega; have := Rb1.out _ h; omega)).trans B0''
  clear B0''
  have bx1'' := (hf3 m1 (by omega) (fun h => by simp only [List.nil_append, List.mem_append] at h; rcases h with h | h; have := Ra1.out _ h; omega; have := Rb1.out _ h; omega)).trans bx1'
  clear bx1'
  have hw2' := ownX_congr (fun o ho => hf3 o (by have := R2.out o ho; omega) (fun h => by have := R2.out o ho; simp only [List.nil_append, List.mem_append] at h; rcases h with h | h; have := Ra1.out _ h; omega; have := Rb1.out _ h; omega)) hw2.out
  clear hw2
  replace hw2' := Hid.mk hw2'
  clear hf3 hw3
  have hkn : ¬ (1 + 2 * r.length + cntQ l < 0) := by omega
  have g2 := ownX_gives hw2'.out
  refine AX ?_
  refine CV (eqPlacementS_fn G w hwl hwc.out) ?_
  refine AX ?_
  refine CI ?_
  refine WC.mono (markPlacementS_m G w 1 hwl hwc.out (by omega) (by omega) _ _ _ Sw2 hw2'.out hn2.out (fun o ho => by have := R2.out o ho; omega)) ?_
  rintro _ Hh4 m4 ⟨rfl, hm4, hw4, hf4⟩
  try clear g2
  have B0'''' := (hf4 0 (by omega) (fun h => by have := R2.out _ h; omega)).trans B0'''
  clear B0'''
  have bx1''' := (hf4 m1 (by omega) (fun h => by have := R2.out _ h; omega)).trans bx1''
  clear bx1''
  clear hf4
  try clear hkn
  have hkn : ¬ (1 + cntP w < 0) := by omega
  have hkk : (1 + cntP w != 1 + cntP w) = false := by simp
  have g2 := ownX_gives hw4
  clear hw4
  refine AX ?_
  refine CV (heldPlacementS_fn G w 1 hwl hwc.out (by omega) (by omega)) ?_
  refine AX ?_
  refine CV (toPuzzle_fn G r l hr9 hl9 hc9.out) ?_
  refine AX ?_
  refine CV himpl.out.gives ?_
  refine AX ?_
  refine CV (eqPlacementS_fn G w hwl hwc.out) ?_
  refine AX ?_
  refine CV (heldPlacementS_fn G w 1 hwl hwc.out (by omega) (by omega)) ?_
  refine AX ?_
  simp [retA, backA]
end Go.Proofs
end
section
namespace Go.Proofs.YtdbkkjoejomcmaaGreat.fnExactAllPlacements
open Go Go.Big Go.ChangeShapes Go.WideShapes Go.ChangeAt Go.RowKit Go.Proofs
set_option maxHeartbeats 2000000
def Pure : Prop := ∀ (r : List (Int × Int)) (l : List PieceM), (∀ x ∈ r, wf64 x.1 ∧ wf64 x.2) → (∀ p ∈ l, (∀ x ∈ p.cs, wf64 x.1 ∧ wf64 x.2) ∧ wf64 p.k) → r.length < 1000000000 → l.length < 1000000000 → (∀ p ∈ l, p.cs.length < 1000000000) → pallI r l = pallS r l ∧ ((pallI r l).1.length < 1000000000) ∧ (∀ x ∈ (pallI r l).1, x.2.length < 1000000000) ∧ (cntP (pallI r l).1 < 100000000000)
theorem own : ownKnob Tryz.prog.godebug = none := by kernel_rfl
theorem laidOut : laidOutB Tryz.prog = true := by kernel_rfl
section
variable {H : Type} {enc : TypeId × Value → H} {w : World} {base : Nat} {spare : Nat → Bool} {held : Bool}
theorem op_cell : Opens enc Tryz.prog w base spare held 119 (fun x : Int × Int => [.i .i64 x.1, .i .i64 x.2]) (fun x => wf64 x.1 ∧ wf64 x.2) :=
  op_fields2 Tryz.underlying119 (by kernel_rfl) rfl (by kernel_rfl) (op_int Tryz.underlying2) (op_int Tryz.underlying2)
theorem op_cells : Opens enc Tryz.prog w base spare held 22 (fun x : List (Int × Int) => [.sl (cells x)]) (fun l => l.length ≤ maxLen ∧ ∀ x ∈ l, wf64 x.1 ∧ wf64 x.2) :=
  op_slice Tryz.underlying22 (of_decide_eq_true (by kernel_rfl)) op_cell
theorem op_piece : Opens enc Tryz.prog w base spare held 114 pieceR (fun p => (p.cs.length ≤ maxLen ∧ ∀ x ∈ p.cs, wf64 x.1 ∧ wf64 x.2) ∧ wf64 p.k ∧ True) :=
  op_iso (fun p : PieceM => (p.cs, p.k, p.b)) (fun a => ⟨a.1, a.2.1, a.2.2⟩) (fun _ => rfl) (op_fields3 Tryz.underlying114 (by kernel_rfl) rfl (by kernel_rfl) (by kernel_rfl) op_cells (op_int Tryz.underlying2) (op_bool Tryz.underlying4))
theorem op_pieces : Opens enc Tryz.prog w base spare held 23 (fun x : List PieceM => [.sl (pieces x)]) (fun l => l.length ≤ maxLen ∧ ∀ p ∈ l, (p.cs.length ≤ maxLen ∧ ∀ x ∈ p.cs, wf64 x.1 ∧ wf64 x.2) ∧ wf64 p.k ∧ True) :=
  op_slice Tryz.underlying23 (of_decide_eq_true (by kernel_rfl)) op_piece
theorem op_puzzle : Opens enc Tryz.prog w base spare held 25 (fun x : List (Int × Int) × List PieceM => [.sl (cells x.1), .sl (pieces x.2)]) (fun x => (x.1.length ≤ maxLen ∧ ∀ y ∈ x.1, wf64 y.1 ∧ wf64 y.2) ∧ (x.2.length ≤ maxLen ∧ ∀ p ∈ x.2, (p.cs.length ≤ maxLen ∧ ∀ y ∈ p.cs, wf64 y.1 ∧ wf64 y.2) ∧ wf64 p.k ∧ True)) :=
  op_fields2 Tryz.underlying25 (by kernel_rfl) rfl (by kernel_rfl) op_cells op_pieces
theorem op_ints : Opens enc Tryz.prog w base spare held 29 (fun x : List Int => [.sl (ints x)]) (fun l => l.length ≤ maxLen ∧ ∀ x ∈ l, wf64 x) :=
  op_slice Tryz.underlying29 (of_decide_eq_true (by kernel_rfl)) (op_int Tryz.underlying2)
theorem op_placement : Opens enc Tryz.prog w base spare held 53 (fun x : Int × List Int => [.i .i64 x.1, .sl (ints x.2)]) (fun x => wf64 x.1 ∧ (x.2.length ≤ maxLen ∧ ∀ y ∈ x.2, wf64 y)) :=
  op_fields2 Tryz.underlying53 (by kernel_rfl) rfl (by kernel_rfl) (op_int Tryz.underlying2) op_ints
theorem op_places : Opens enc Tryz.prog w base spare held 26 (fun x : List (Int × List Int) => [.sl (places x)]) (fun l => l.length ≤ maxLen ∧ ∀ x ∈ l, wf64 x.1 ∧ (x.2.length ≤ maxLen ∧ ∀ y ∈ x.2, wf64 y)) :=
  op_slice Tryz.underlying26 (of_decide_eq_true (by kernel_rfl)) op_placement
end
set_option maxRecDepth 100000 in
theorem lifted {G : Gv} (hGv : GvOk Tryz.prog G) (hA : AllG G) (Pu : Pure) (os : Os) (started : os.Started) (H : Type) (enc : TypeId × Value → H) :
    ReturnsInHanded {} Tryz.checked os 6 .any (Rows.fnExactAllPlacementsSpec.pre6 enc Tryz.prog Tryz.f6 Rows.fnExactAllPlacementsRow.domain false) (Rows.fnExactAllPlacementsSpec.post enc Tryz.prog Tryz.f6 false true false false) := by
  refine returnsInHanded_of_change_sized (C := Tryz.checked) own started (by kernel_rfl) Tryz.func6
    (ChangeSpec.witness6 (enc := enc) (C := Tryz.checked) false ⟨#[], #[.agg #[.slice none 0 0, .slice none 0 0]], []⟩ 8 (by kernel_rfl) (by kernel_rfl) (by kernel_rfl) (by kernel_rfl)) ?_
  intro W base args ds gs before hval0 hW _ _ _
  have hval : ∀ (j : Nat) t v, Tryz.f6.params[j]? = some t → args[j]? = some v → Value.okWide Tryz.prog W .any base t v := hval0
  have hW' := hW
  obtain ⟨p, q, hA0, hV, rfl, hfz, hnd⟩ := hW
  have hAr : DataW.TrodAll enc Tryz.prog W 0 (fun _ => true) true Tryz.f6.params.toList args.toList ds p := hA0
  rw [Tryz.params6] at hAr hval
  obtain ⟨v0, vs0, d0, ds0, p0, q0, hargs, rfl, rfl, h0, r0⟩ := trodAll_cons hAr
  obtain ⟨rfl, rfl, rfl⟩ := trodAll_nil r0
  obtain rfl : args = #[v0] := by cases args; simp_all
  obtain ⟨rfl, rfl⟩ := trodVars_none hV
  obtain ⟨cs0, rfl, _⟩ := okWide_struct Tryz.underlying25 (hval 0 25 v0 rfl rfl)
  have k0 := h0
  have lt0 : ∀ x ∈ p0, x.block < W.heap.size := by obtain ⟨m, hm⟩ := k0; exact DataW.trod_lt m _ _ _ hm
  obtain ⟨fu0, hf0⟩ := h0
  obtain ⟨⟨r, l⟩, ha0, ⟨wr1, wr2⟩, wl1, wl2⟩ := op_puzzle _ _ _ hf0
  have wr3 : r.length ≤ maxLen := wr1
  have wl3 : l.length ≤ maxLen := wl1
  clear hA0 hval0
  have hm : maxLen = 9223372036854775807 := rfl
  have hlaw := law_fn G hA r l (by omega) (by omega) (fun p hp => by have := (wl2 p hp).1.1; omega) (Pu r l wr2 (fun p hp => ⟨(wl2 p hp).1.2, (wl2 p hp).2.1⟩))
  refine (calls_of hGv hlaw W [.agg cs0] ⟨?_, trivial⟩).mono fun e W' ⟨he, bel⟩ => ?_
  · simp only [vrep]
    exact ⟨cs0, rfl, avsP_ok (ps := [.sl (cells r), .sl (pieces l)]) (by simpa [Value.cells] using ha0)⟩
  subst he
  exact ⟨_, rfl, _, _, _, [], _, [], hW', trodAll_mk1 (shut_bool Tryz.underlying4 _), (trodAll_cons_mk (Below.trod laidOut (by kernel_rfl) (of_decide_eq_true (by kernel_rfl)) k0 bel lt0) trodAll_mk0), rfl, bel.frame _, fun h => by cases h⟩
theorem j0 : (Rows.fnExactAllPlacementsRow.inPlace == Tryz.prog.inPlace 6) = true := by kernel_rfl
theorem j1 : (Rows.fnExactAllPlacementsRow.unfollowed == Tryz.prog.unfollowed 6) = true := by kernel_rfl
theorem j2 : (Rows.fnExactAllPlacementsRow.recurses == Tryz.prog.recurses 6) = true := by kernel_rfl
theorem j3 : (Rows.fnExactAllPlacementsRow.named == Tryz.prog.varsNamed 6) = true := by kernel_rfl
theorem closedF : joinedFacts Tryz.prog 6 Tryz.f6 Rows.fnExactAllPlacementsSpec Rows.fnExactAllPlacementsRow = true := by
  unfold joinedFacts
  rw [j0, j1, j2, j3]
  kernel_rfl
theorem over {G : Gv} (hGv : GvOk Tryz.prog G) (hA : AllG G) (Pu : Pure) : Rows.fnExactAllPlacementsRow.holds Tryz.pinned (OpenSpec.ofChange Rows.fnExactAllPlacementsSpec) :=
  OpenClaim.holds_of_wide 6 Tryz.f6 rfl rfl rfl rfl rfl rfl rfl ⟨rfl, rfl, rfl, rfl, rfl⟩ rfl rfl rfl rfl rfl (by kernel_rfl) Tryz.func6 closedF
    (of_decide_eq_true (by kernel_rfl)) (by unfold Func.isWrapper; first | (rw [if_pos (by decide +kernel)]; kernel_rfl) | (rw [if_neg (by decide +kernel)]; exact ⟨rfl, rfl⟩))
    (fun os started H enc _ => lifted hGv hA Pu os started H enc)
/-- The row, out of what is left. -/
theorem of_pure {G : Gv} (hGv : GvOk Tryz.prog G) (hA : AllG G) (Pu : Pure) : Rows.FnExactAllPlacementsSaid := over hGv hA Pu
end Go.Proofs.YtdbkkjoejomcmaaGreat.fnExactAllPlacements
end
section
open Go Go.Big
namespace Go.Proofs
set_option maxHeartbeats 2000000
theorem cntP_le {n : Nat} : ∀ {l : List (Int × List Int)}, (∀ x ∈ l, x.2.length ≤ n) → cntP l ≤ (l.length * (1 + n) : Nat)
  | [], _ => by simp [cntP]
  | x :: l, h => by
    have h1 := h x List.mem_cons_self
    have h2 := cntP_le (l := l) (fun y hy => h y (List.mem_cons_of_mem _ hy))
    have h3 : ((x :: l).length * (1 + n) : Nat) = l.length * (1 + n) + (1 + n) := by rw [List.length_cons, Nat.add_mul, Nat.one_mul]
    rw [h3]
    simp only [cntP]
    omega
theorem small_places {w : List (Int × List Int)} {n : Nat} (hn : n ≤ 100000) (h1 : w.length ≤ n) (h2 : ∀ x ∈ w, x.2.length ≤ 40) : w.length < 1000000000 ∧ (∀ x ∈ w, x.2.length < 1000000000) ∧ cntP w < 100000000000 := by
  refine ⟨by omega, fun x hx => by have := h2 x hx; omega, ?_⟩
  have := cntP_le h2
  omega
theorem inM_lt {k : Int} {n : Nat} (h : inM k n = true) : 0 ≤ k ∧ k.toNat < n := by
  unfold inM at h
  simp only [Bool.and_eq_true, decide_eq_true_eq] at h
  omega
theorem pof_eq (r : Shape) (l : List PieceM) (k : Int) : pofI r l k = pofS r l k ∧ (pofI r l k).1.length < 1000000000 ∧ (∀ x ∈ (pofI r l k).1, x.2.length < 1000000000) ∧ cntP (pofI r l k).1 < 100000000000 := by
  have e : pofI r l k = pofS r l k := by
    unfold pofI pofS
    rw [puzzle_eq]
    by_cases h : puzzleS r l = true
    · by_cases c : inM k l.length = true
      · rw [if_pos h, if_pos h, if_pos c, if_pos c, places_eq h (getD_mem (inM_lt c).2) k]
      · rw [if_pos h, if_pos h, if_neg c, if_neg c]
    · rw [if_neg h, if_neg h]
  rw [e]
  refine ⟨rfl, ?_⟩
  unfold pofS
  by_cases h : puzzleS r l = true
  · by_cases c : inM k l.length = true
    · rw [if_pos h, if_pos c]
      have hm := getD_mem (inM_lt c).2
      exact small_places (n := 320) (by omega) (listB_len h hm k) (fun x hx => by rw [(listB_mem h hm hx).2.1]; exact ((puzzle_facts h).2.2.2.2.2.2 _ hm).2)
    · rw [if_pos h, if_neg c]
      exact small_places (n := 0) (by omega) (by simp) (by simp)
  · rw [if_neg h]
    exact small_places (n := 0) (by omega) (by simp) (by simp)
end Go.Proofs
end
section
open Go Go.Big
namespace Go.Proofs
set_option maxHeartbeats 2000000
theorem pall_eq (r : Shape) (l : List PieceM) : pallI r l = pallS r l ∧ (pallI r l).1.length < 1000000000 ∧ (∀ x ∈ (pallI r l).1, x.2.length < 1000000000) ∧ cntP (pallI r l).1 < 100000000000 := by
  have e : pallI r l = pallS r l := by unfold pallI pallS; rw [puzzle_eq]
  rw [e]
  refine ⟨rfl, ?_⟩
  unfold pallS
  by_cases h : puzzleS r l = true
  · rw [if_pos h]
    have := allB_len h (Nat.le_refl l.length)
    have := (puzzle_facts h).2.2.2.2.1
    exact small_places (n := 3840) (by omega) (by simp only; omega) (fun x hx => (allB_mem h (Nat.le_refl _) hx).2.2.1)
  · rw [if_neg h]
    exact small_places (n := 0) (by omega) (by simp) (by simp)
end Go.Proofs
end
section
open Go Go.Big
namespace Go.Proofs
set_option maxHeartbeats 2000000
theorem noG_ok : GvOk Tryz.prog noG := fun _ _ _ _ _ _ _ h => h.elim
def allG : Gv := fun f args H n r H' n' => sortsG f args H n r H' n' ∨ sortsG1 f args H n r H' n' ∨ sortsG2 f args H n r H' n' ∨ sortsN2 f args H n r H' n'
theorem allG_all : AllG allG := ⟨fun _ _ _ _ _ _ _ h => .inl h, fun _ _ _ _ _ _ _ h => .inr (.inl h), fun _ _ _ _ _ _ _ h => .inr (.inr (.inl h)), fun _ _ _ _ _ _ _ h => .inr (.inr (.inr h))⟩
theorem allG_ok : GvOk Tryz.prog allG := by
  rintro f args H n r H' n' (h | h | h | h)
  · exact sortK_ok Tryz.sortCell (by decide) Tryz.isAgg117 Tryz.sizeOf117 noG_ok _ _ _ _ _ _ _ h
  · exact sort1_ok Tryz.sortShape noG_ok _ _ _ _ _ _ _ h
  · exact sortO_ok Tryz.sortPlace (by decide) Tryz.isAgg55 Tryz.sizeOf55 noG_ok _ _ _ _ _ _ _ h
  · exact sortN_ok Tryz.sortPlace _ _ _ _ _ _ _ h
end Go.Proofs
end
