/- Walks: All placements of a puzzle: both programs. No condition. | AllPlacements: both programs' functions. No condition. | The cover of a puzzle: the model's list of rows. Condition: the given contracts hold. | Which element of a list has a property: the library's search. No condition. | Which element of a list has a property: the library's search, with a function that captures nothing. No condition. | The area of all pieces; whether a puzzle fits. No condition. -/
import Derived.Test.YtmglpcdalechfaaGreatBO
import Derived.Test.YtmglpcdalechfaaGreatWk9
import Derived.Test.YtmglpcdalechfaaGreatWk1
import Derived.Test.YtmglpcdalechfaaGreatWk3
import Derived.Test.YtmglpcdalechfaaGreatWk2
import Derived.Test.YtmglpcdalechfaaGreatBC
import Derived.Test.YtmglpcdalechfaaGreatWk6
set_option linter.unusedVariables false
set_option linter.unusedSimpArgs false
section
open Go Go.Big
namespace Go.Proofs
set_option maxHeartbeats 2000000
def allB (r : Shape) (l : List PieceM) (i : Nat) : List (Int × List Int) := (List.range i).flatMap fun k : Nat => listB r k (formsP (l.getD k pc0))
theorem allB_succ (r : Shape) (l : List PieceM) (i : Nat) : allB r l (i + 1) = allB r l i ++ listB r i (formsP (l.getD i pc0)) := by simp [allB, List.range_succ]
theorem flatMap_len {α β : Type} {f : α → List β} {n : Nat} : ∀ {l : List α}, (∀ x ∈ l, (f x).length ≤ n) → (l.flatMap f).length ≤ l.length * n
  | [], _ => by simp
  | x :: l, h => by
    have h1 := h x List.mem_cons_self
    have h2 := flatMap_len (l := l) (fun y hy => h y (List.mem_cons_of_mem _ hy))
    rw [List.flatMap_cons, List.length_append, List.length_cons, Nat.add_mul, Nat.one_mul]; omega
theorem listA_len (r : Shape) (i : Int) (fs : List Shape) : (listA r i fs).length ≤ fs.length * r.length := flatMap_len fun f _ => List.length_filterMap_le _ _
theorem getD_mem {l : List PieceM} {i : Nat} (hi : i < l.length) : l.getD i pc0 ∈ l := by
  rw [List.getD_eq_getElem?_getD, List.getElem?_eq_getElem hi]; exact List.getElem_mem hi
theorem listB_len {r : Shape} {l : List PieceM} (h : puzzleS r l = true) {p : PieceM} (hp : p ∈ l) (i : Int) : (listB r i (formsP p)).length ≤ 320 := by
  rw [← places_eq h hp i, (orderP_perm _).length_eq]
  have h1 := listA_len r i (formsI p)
  have h2 := (formsI_ok p).1
  have h3 := (puzzle_facts h).2.2.1
  have := Nat.mul_le_mul h2 h3
  omega
theorem allB_len {r : Shape} {l : List PieceM} (h : puzzleS r l = true) {i : Nat} (hi : i ≤ l.length) : (allB r l i).length ≤ i * 320 := by
  have := flatMap_len (l := List.range i) (f := fun k : Nat => listB r k (formsP (l.getD k pc0))) (n := 320) (fun k hk => listB_len h (getD_mem (by have := List.mem_range.mp hk; omega)) _)
  rwa [List.length_range] at this
theorem listB_mem {r : Shape} {l : List PieceM} (h : puzzleS r l = true) {p : PieceM} (hp : p ∈ l) {i : Int} {x : Int × List Int} (hx : x ∈ listB r i (formsP p)) : x.1 = i ∧ x.2.length = p.cs.length ∧ (∀ c ∈ x.2, 0 ≤ c ∧ c < r.length) := by
  rw [← places_eq h hp i] at hx
  have hx := (orderP_perm _).mem_iff.mp hx
  have hc := listA_cells (r := r) (i := i) (fs := formsI p) (n := p.cs.length) (formsI_ok p).2 x hx
  unfold listA rowA at hx
  obtain ⟨f, hf, hx⟩ := List.mem_flatMap.mp hx
  obtain ⟨c, _, hx⟩ := List.mem_filterMap.mp hx
  obtain ⟨e1, e2⟩ := gM_some hx
  exact ⟨e1, hc, (setM_some e2).2.2.2⟩
theorem allB_mem {r : Shape} {l : List PieceM} (h : puzzleS r l = true) {i : Nat} (hi : i ≤ l.length) {x : Int × List Int} (hx : x ∈ allB r l i) : (0 ≤ x.1 ∧ x.1 < i) ∧ 0 < x.2.length ∧ x.2.length ≤ 40 ∧ ∀ c ∈ x.2, 0 ≤ c ∧ c < r.length := by
  obtain ⟨k, hk, hx⟩ := List.mem_flatMap.mp hx
  have hk := List.mem_range.mp hk
  have hm := getD_mem (l := l) (i := k) (by omega)
  obtain ⟨e1, e2, e3⟩ := listB_mem h hm hx
  obtain ⟨g1, g2⟩ := (puzzle_facts h).2.2.2.2.2.2 _ hm
  exact ⟨by omega, by omega, by omega, e3⟩
theorem ownPs_len {H : Heap} : ∀ {ps qs : List PV} {S : List Nat}, ownPs H ps qs S → ps.length = qs.length
  | [], _, _, ⟨rfl, _⟩ => rfl
  | p :: ps, _, _, ⟨q, qs', s, s', rfl, _, _, h2⟩ => by simp [ownPs_len h2]
theorem ownRs_row {H : Heap} : ∀ {rows q : List (List PV)} {S : List Nat}, ownRs H rows q S → ∀ r ∈ rows, ∃ q2 ∈ q, ∃ s, ownPs H r q2 s
  | [], _, _, _ => by simp
  | r :: rs, _, _, ⟨a, b, s, s', rfl, _, h1, h2⟩ => fun x hx => by
    rcases List.mem_cons.mp hx with rfl | hx
    · exact ⟨a, List.mem_cons_self, s, h1⟩
    · obtain ⟨q2, g1, g2⟩ := ownRs_row h2 x hx
      exact ⟨q2, List.mem_cons_of_mem _ g1, g2⟩
theorem places_fit (l : List (Int × List Int)) : decide (∀ r ∈ places l, r.length = 2) = true := decide_eq_true fun r hr => by obtain ⟨y, _, rfl⟩ := List.mem_map.mp hr; rfl
theorem l12All_fn (G : Gv) (r : Shape) (l : List PieceM) (c : puzzleS r l = true) :
    Gives Tryz.prog G 138 [.ag [.sl 0 (cells r), .sl 0 (pieces l)]] (.sl 1 (places (allB r l l.length))) := by
  refine .of (.body Tryz.func138 rfl (by simp [Tryz.ntmps138]) ?_)
  rw [Tryz.ntmps138, Tryz.results138]
  have hlen := pieces_len l
  obtain ⟨g1, g2, g3, g4, g5, ⟨g6, g7⟩, g8⟩ := puzzle_facts c
  replace g1 := Hid.mk g1
  replace g8 := Hid.mk g8
  refine AL ?_
  refine .loop (.inv (fun d E H n' => ∃ i : Nat, i + d = l.length ∧ 2 < n' ∧ E 1 = .ptr 0 0 0 0 ∧ E 4 = .i .i64 i ∧ H 0 = some (.box 35 [.sl 0 (cells r), .sl 0 (pieces l)]) ∧ ∃ e, E 3 = .own 2 e ∧ H 2 = some (.arr e 110 2 (places (allB r l i)) 1)) l.length ?_ ?_)
  · exact ⟨0, by omega, by omega, by simp [setF_if, argE], by simp [setF_if, argE], by simp [upd_if], 0, by simp [setF_if, argE], by simp [upd_if, allB, places]⟩
  rintro d E H n' ⟨i, hi, hn, h1, h4, hH0, e, h3, hH2⟩
  by_cases ci : (i : Int) < l.length
  · have hw_i : IntKind.i64.wrap ((i : Int) + 1) = (i : Int) + 1 := wr64 (by omega) (by omega)
    have hil : i < l.length := by omega
    obtain ⟨p, hp⟩ : ∃ p, l[i]? = some p := ⟨_, List.getElem?_eq_getElem hil⟩
    have hpm := List.mem_of_getElem? hp
    have hpd : l.getD i pc0 = p := by rw [List.getD_eq_getElem?_getD, hp]; rfl
    have hf := l12Of_fn G r l i p hp (g8.out p hpm).1 (by have := (g8.out p hpm).2; omega) g2 (by omega) (by omega) (by omega)
    have hs := allB_succ r l i
    rw [hpd] at hs
    have htk : places (allB r l i) ++ places (listB r i (formsP p)) = places (allB r l (i + 1)) := by rw [hs, places_app]
    have hl1 := places_len (allB r l i)
    have hl2 := places_len (listB r i (formsP p))
    have hb1 := allB_len c (i := i) (by omega)
    have hb2 := listB_len c hpm i
    have hft := places_fit (listB r i (formsP p))
    generalize places (allB r l i) = R1 at hH2 htk hl1
    generalize places (listB r i (formsP p)) = R2 at hf htk hl2 hft
    have hb : (R1.length + R2.length) * 32 ≤ 140737488355328 := by omega
    clear hl1 hl2 hb1 hb2 hs
    replace hf := Hid.mk hf
    replace hp := Hid.mk hp
    replace hpm := Hid.mk hpm
    replace hpd := Hid.mk hpd
    refine AL ?_
    refine CV hf.out ?_
    refine AL ?_
    exact ⟨l.length - (i + 1), by omega, i + 1, by omega, by omega, by simp [setF_if, *], by simp [setF_if, *], by simp [upd_if, *], e + 1, by simp [setF_if, *], by simp [upd_if, joinT, *]⟩
  · have ei : i = l.length := by omega
    rw [ei] at hH2
    have hnb : newB 1 (places (allB r l l.length)) := .inl (by decide)
    refine AL ?_
    simp [retA, backA, newSl, *]
theorem allPlacements_o (G : Gv) (hA : AllG G) (r : Shape) (l : List PieceM) (c : puzzleS r l = true) :
    GivesO Tryz.prog G 77 [.ag [.sl 0 (cells r), .sl 0 (pieces l)]] (.sl 1 (places (allB r l l.length))) := by
  refine .of (.body Tryz.func77 rfl (by simp [Tryz.ntmps77]) ?_)
  rw [Tryz.ntmps77, Tryz.results77]
  have hlen := pieces_len l
  obtain ⟨g1, g2, g3, g4, g5, g6, g8⟩ := puzzle_facts c
  replace g1 := Hid.mk g1
  replace g6 := Hid.mk g6
  replace g8 := Hid.mk g8
  replace hA := Hid.mk hA
  refine AL ?_
  refine .loop (.inv (fun d E H n' => ∃ (i e t' : Nat) (rows : List (List PV)) (S : List Nat), i + d = l.length ∧ 2 < n' ∧ E 1 = .ptr 0 0 0 0 ∧ E 3 = .own 2 e ∧ E 8 = .i .i64 l.length ∧ E 9 = .i .i64 i ∧ H 0 = some (.box 35 [.sl 0 (cells r), .sl 0 (pieces l)]) ∧ H 2 = some (.arr e 110 2 rows t') ∧
      tagOk t' rows ∧ fitR 2 rows ∧ ownRs H rows (places (allB r l i)) S ∧ S.Nodup ∧ (∀ o ∈ S, 2 < o ∧ o < n') ∧ (rows = [] → t' ≠ 2)) l.length ?_ ?_)
  · exact ⟨0, 0, 1, [], [], by omega, by omega, by simp [setF_if, argE], by simp [setF_if, argE], by simp [setF_if, argE, hlen], by simp [setF_if, argE], by simp [upd_if], by simp [upd_if], .inr (fun r hr => by simp at hr), fun r hr => by simp at hr, ⟨rfl, rfl⟩, by simp, by simp, fun _ => by decide⟩
  rintro d E H n' ⟨i, e, t', rows, S, hi, hn, h1, h3, h8, h9, hH0, hH2, htag, hfit, hown, hnd, hlt, hnil⟩
  have hrl := ownRs_len hown
  rw [places_len] at hrl
  replace htag := Hid.mk htag
  replace hfit := Hid.mk hfit
  replace hown := Hid.mk hown
  replace hnd := Hid.mk hnd
  replace hlt := Hid.mk hlt
  replace hnil := Hid.mk hnil
  by_cases ci : (i : Int) < l.length
  · have hw_i : IntKind.i64.wrap ((i : Int) + 1) = (i : Int) + 1 := wr64 (by omega) (by omega)
    have hil : i < l.length := by omega
    obtain ⟨p, hp⟩ : ∃ p, l[i]? = some p := ⟨_, List.getElem?_eq_getElem hil⟩
    have hpm := List.mem_of_getElem? hp
    have hpd : l.getD i pc0 = p := by rw [List.getD_eq_getElem?_getD, hp]; rfl
    have hf := placementsOf_o G hA.out r l i p hp (g8.out p hpm).1 (by have := (g8.out p hpm).2; omega) g1.out (by omega) (by omega) (listA_nodup' c hpm _)
    rw [places_eq c hpm i] at hf
    have hs := allB_succ r l i
    rw [hpd] at hs
    have hb1 := allB_len c (i := i) (by omega)
    have hb2 := listB_len c hpm i
    have hra : rows.length ≤ 3840 := by omega
    generalize listB r i (formsP p) = L2 at hf hs hb2
    clear hrl hb1
    replace hf := Hid.mk hf
    replace hp := Hid.mk hp
    replace hpm := Hid.mk hpm
    replace hpd := Hid.mk hpd
    replace hs := Hid.mk hs
    refine AL ?_
    refine CWO1 hf.out ?_
    intro z H1 S1 m hz hn1 hS hf1 hm hz1
    have f0 := (hf1 0 (by omega)).trans hH0
    have f2 := (hf1 2 (by omega)).trans hH2
    have hS3 : ∀ o ∈ S1, 2 < o ∧ o < m := fun o h => by have := hS o h; omega
    have hSd : ∀ o ∈ S, o ∉ S1 := fun o h1 h2 => by have := hlt.out o h1; have := hS o h2; omega
    have hown1 := ownRs_congr (fun o ho => hf1 o (by have := hlt.out o ho; omega)) hown.out
    have hlt1 : ∀ o ∈ S, 2 < o ∧ o < m := fun o h => by have := hlt.out o h; omega
    have hm2 : 2 < m := by omega
    have hnd1 := hnd.out
    clear hf hf1 hown hlt hS hH0 hH2
    replace hSd := Hid.mk hSd
    replace hown1 := Hid.mk hown1
    replace hlt1 := Hid.mk hlt1
    replace hnd1 := Hid.mk hnd1
    replace hn1 := Hid.mk hn1
    have hm0 : ¬ (0 = m) := by omega
    replace hz1 := Hid.mk hz1
    rcases ownX_un hz with ⟨o, eo, ty, sz, rows2, t2, S', rfl, hHo, rfl, hR2, ht2, ht2', hf2⟩ | ⟨hz2, hq, rfl⟩
    · have ho3 := hS3 o List.mem_cons_self
      have hS4 : ∀ o ∈ S', 2 < o ∧ o < m := fun o h => hS3 o (List.mem_cons_of_mem _ h)
      have n3 : ¬ o = 2 := by omega
      have hr2l := ownRs_len hR2
      rw [places_len] at hr2l
      have hb : (rows.length + rows2.length) * 32 ≤ 140737488355328 := by omega
      have hfit2 : (sz == 2) = true ∨ rows2 = [] := by
        by_cases q : rows2 = []
        · exact .inr q
        · obtain ⟨r0, hr0⟩ := List.exists_mem_of_ne_nil _ q
          have h5 := hf2 r0 hr0
          have h6 : r0.length = 2 := by
            obtain ⟨q2, hq2, s, e1⟩ := ownRs_row hR2 r0 hr0
            obtain ⟨y, _, rfl⟩ := List.mem_map.mp hq2
            rw [ownPs_len e1]; rfl
          exact .inl (by rw [← h5, h6]; rfl)
      have hfit3 : fitR 2 (rows ++ rows2) := fun r hr => by
        rcases List.mem_append.mp hr with hr | hr
        · exact hfit.out r hr
        · rcases hfit2 with q | q
          · rw [hf2 r hr]; simpa using q
          · rw [q] at hr; simp at hr
      clear hz hS3 hr2l hf2
      replace hR2 := Hid.mk hR2
      replace ht2 := Hid.mk ht2
      replace ht2' := Hid.mk ht2'
      replace hS4 := Hid.mk hS4
      replace hfit3 := Hid.mk hfit3
      have hn1' := List.nodup_cons.mp hn1.out
      replace hn1' := Hid.mk hn1'
      refine AL ?_
      refine ⟨l.length - (i + 1), by omega, i + 1, e + 1, joinT t' t2, rows ++ rows2, S ++ S', by omega, by omega, by simp [setF_if, *], by simp [setF_if, *], by simp [setF_if, *], by simp [setF_if, *], by simp [upd_if, *], by simp [upd_if, joinT, *], tag_app htag.out ht2.out, hfit3.out, ?_, ?_, ?_, fun h => ?_⟩
      · rw [hs.out, places_app]
        exact ownRs_append (ownRs_congr (fun x hx => by have := hlt1.out x hx; rw [upd_if, if_neg (by omega)]) hown1.out) (ownRs_congr (fun x hx => by have := hS4.out x hx; rw [upd_if, if_neg (by omega)]) hR2.out)
      · exact List.nodup_append.mpr ⟨hnd1.out, hn1'.out.2, fun x hx y hy e => hSd.out x hx (e ▸ List.mem_cons_of_mem _ hy)⟩
      · intro x hx
        rcases List.mem_append.mp hx with hx | hx
        · exact ⟨(hlt1.out x hx).1, by have := (hlt1.out x hx).2; omega⟩
        · exact ⟨(hS4.out x hx).1, by have := (hS4.out x hx).2; omega⟩
      · obtain ⟨e1, e2⟩ := List.append_eq_nil_iff.mp h
        subst e1 e2
        exact joinT_ne (hnil.out rfl) (ht2'.out (fun r hr => by simp at hr))
    · have hL : L2 = [] := List.map_eq_nil_iff.mp hq
      subst hL
      have hs2 : allB r l (i + 1) = allB r l i := by rw [hs.out, List.append_nil]
      have hb : rows.length * 32 ≤ 140737488355328 := by omega
      clear hz hS3 hq
      replace hs2 := Hid.mk hs2
      rcases hz2 with rfl | ⟨t2, rfl⟩
      · refine AL ?_
        exact ⟨l.length - (i + 1), by omega, i + 1, e + 1, joinT t' 1, rows, S, by omega, by omega, by simp [setF_if, *], by simp [setF_if, *], by simp [setF_if, *], by simp [setF_if, *], by simp [upd_if, *], by simp [upd_if, joinT, *], tag_join htag.out, hfit.out, by rw [hs2.out]; exact ownRs_congr (fun x hx => by have := hlt1.out x hx; rw [upd_if, if_neg (by omega)]) hown1.out, hnd1.out, fun x hx => ⟨(hlt1.out x hx).1, by have := (hlt1.out x hx).2; omega⟩, fun h => joinT_ne (hnil.out h) (by decide)⟩
      · obtain rfl := hz1.out _ _ rfl
        clear hz1
        refine AL ?_
        exact ⟨l.length - (i + 1), by omega, i + 1, e + 1, joinT t' 1, rows, S, by omega, by omega, by simp [setF_if, *], by simp [setF_if, *], by simp [setF_if, *], by simp [setF_if, *], by simp [upd_if, *], by simp [upd_if, joinT, *], tag_join htag.out, hfit.out, by rw [hs2.out]; exact ownRs_congr (fun x hx => by have := hlt1.out x hx; rw [upd_if, if_neg (by omega)]) hown1.out, hnd1.out, fun x hx => ⟨(hlt1.out x hx).1, by have := (hlt1.out x hx).2; omega⟩, fun h => joinT_ne (hnil.out h) (by decide)⟩
  · have ei : i = l.length := by omega
    rw [ei] at hown
    refine AL ?_
    exact ⟨2 :: S, ownX_sl (tagOk_own hH2 hown.out htag.out (ownRs_ns hown.out (places_ns _)) hfit.out hnil.out), List.nodup_cons.mpr ⟨fun h => by have := (hlt.out 2 h).1; omega, hnd.out⟩⟩
end Go.Proofs
end
section
open Go Go.Big
namespace Go.Proofs
set_option maxHeartbeats 2000000
def pallS (r : Shape) (l : List PieceM) : List (Int × List Int) × Int := if puzzleS r l then (allB r l l.length, 0) else ([], 1)
def pallI (r : Shape) (l : List PieceM) : List (Int × List Int) × Int := if puzzleI r l then (allB r l l.length, 0) else ([], 1)
end Go.Proofs
end
section
open Go Go.Big
namespace Go.Proofs
set_option maxHeartbeats 2000000
def rowM (c : Int) (x : Int × List Int) : List Int := x.2 ++ [IntKind.i64.wrap (c + x.1)]
theorem rows1 {xs : List Int} : (∀ (r : List PV), r ∈ ints xs → r.length = 1) = True := by
  simp only [eq_iff_iff, iff_true]
  intro r hr
  obtain ⟨y, _, rfl⟩ := List.mem_map.mp hr
  rfl
theorem l01Own_own (G : Gv) (xs : List Int) (hx : xs.length < 1000000000) : WC Tryz.prog G 139 [.sl 0 (ints xs)] (fun _ => none) 0 (fun r H' n' => ∃ oo e, r = .own oo e ∧ H' oo = some (.arr e 2 1 (ints xs) 0)) := by
  refine (.body Tryz.func139 rfl (by simp [Tryz.ntmps139]) ?_)
  rw [Tryz.ntmps139, Tryz.results139]
  have hlen := ints_len xs
  have hb2 : xs.length * 8 ≤ 140737488355328 := by omega
  have hb3 : (0 + xs.length) * 8 ≤ 140737488355328 := by omega
  have hrs := rows1 (xs := xs)
  refine AL ?_
  exact ⟨1, 1, by simp [retA, setF_if], by simp [upd_if]⟩
theorem l13Of_o (G : Gv) (hk : GvOk Tryz.prog G) (r : Shape) (l : List PieceM) (c : puzzleS r l = true) :
    GivesO Tryz.prog G 71 [.ag [.sl 0 (cells r), .sl 0 (pieces l)]] (.ag [.i .i64 (r.length + l.length), .i .i64 (r.length + l.length), .sl 1 (listsR ((allB r l l.length).map (rowM r.length)))]) := by
  refine .of (.body Tryz.func71 rfl (by simp [Tryz.ntmps71]) ?_)
  rw [Tryz.ntmps71, Tryz.results71]
  have hlen := cells_len r
  have hlen2 := pieces_len l
  obtain ⟨g1, g2, g3, g4, g5, g6, g8⟩ := puzzle_facts c
  have hall := l12All_fn G r l c
  have hmem : ∀ x ∈ allB r l l.length, 0 < x.2.length ∧ x.2.length ≤ 40 := fun x hx => ⟨(allB_mem c (Nat.le_refl _) hx).2.1, (allB_mem c (Nat.le_refl _) hx).2.2.1⟩
  have hLl := allB_len c (Nat.le_refl l.length)
  have hLb : (allB r l l.length).length ≤ 3840 := by omega
  have hwl : IntKind.i64.wrap ((r.length : Int) + l.length) = r.length + l.length := wr64 (by omega) (by omega)
  generalize allB r l l.length = L at hall hmem hLl hLb
  have hLn := places_len L
  clear g1 g6 g8 hLl c
  replace hall := Hid.mk hall
  replace hmem := Hid.mk hmem
  replace hk := Hid.mk hk
  refine AL ?_
  refine CV hall.out ?_
  refine AL ?_
  refine .loop (.inv (fun d E H n' => ∃ (i e t' : Nat) (rows : List (List PV)) (S : List Nat), i + d = L.length ∧ 6 < n' ∧ E 1 = .ptr 0 0 0 0 ∧ E 2 = .ptr 1 0 0 0 ∧ E 3 = .i .i64 r.length ∧ E 4 = .own 6 e ∧ E 5 = .sl 1 (places L) ∧ E 6 = .i .i64 i ∧ H 0 = some (.box 35 [.sl 0 (cells r), .sl 0 (pieces l)]) ∧ H 1 = some (.box 29 [.i .i64 0, .i .i64 0, .nil]) ∧ H 6 = some (.arr e 42 1 rows t') ∧
      tagOk t' rows ∧ fitR 1 rows ∧ ownRs H rows (listsR ((L.take i).map (rowM r.length))) S ∧ S.Nodup ∧ (∀ o ∈ S, 6 < o ∧ o < n') ∧ (rows = [] → t' ≠ 2)) L.length ?_ ?_)
  · exact ⟨0, 0, 1, [], [], by omega, by omega, by simp [setF_if, argE], by simp [setF_if, argE], by simp [setF_if, argE], by simp [setF_if, argE], by simp [setF_if, argE], by simp [setF_if, argE], by simp [upd_if], by simp [upd_if], by simp [upd_if], .inr (fun r hr => by simp at hr), fun r hr => by simp at hr, ⟨rfl, rfl⟩, by simp, by simp, fun _ => by decide⟩
  rintro d E H n' ⟨i, e, t', rows, S, hi, hn, e1, e2, e3, e4, e5, e6, hH0, hH1, hH6, htag, hfit, hown, hnd0, hlt, hnil⟩
  have hrl : rows.length = i := by
    rw [ownRs_len hown, listsR_len, List.length_map, List.length_take]; omega
  by_cases ci : (i : Int) < L.length
  · have hw_i : IntKind.i64.wrap ((i : Int) + 1) = (i : Int) + 1 := wr64 (by omega) (by omega)
    obtain ⟨x, hx⟩ : ∃ x, L[i]? = some x := ⟨_, List.getElem?_eq_getElem (by omega)⟩
    have hro := places_at hx
    obtain ⟨m1, m2⟩ := hmem.out x (List.mem_of_getElem? hx)
    have htk : listsR ((L.take (i + 1)).map (rowM r.length)) = listsR ((L.take i).map (rowM r.length)) ++ [[.sl (ints (rowM r.length x))]] := by
      rw [take_map _ hx, listsR_app]
    have hf := l01Own_own G x.2 (by omega)
    have hb : (i + 1) * 24 ≤ 140737488355328 := by omega
    have hxl := ints_len x.2
    have hb2 : (x.2.length + 1) * 8 ≤ 140737488355328 := by omega
    have hap : ints x.2 ++ [[PV.i .i64 (IntKind.i64.wrap (r.length + x.1))]] = ints (rowM r.length x) := by simp [ints, rowM]
    have hrs := rows1 (xs := x.2)
    obtain ⟨xk, xs⟩ := x
    simp only at hf hxl hb2 hap hrs m1 m2
    generalize rowM (↑(List.length r)) (xk, xs) = T at htk hap
    replace hx := Hid.mk hx
    replace htk := Hid.mk htk
    replace hf := Hid.mk hf
    replace htag := Hid.mk htag
    replace hfit := Hid.mk hfit
    replace hown := Hid.mk hown
    replace hnd0 := Hid.mk hnd0
    replace hlt := Hid.mk hlt
    replace hnil := Hid.mk hnil
    have hnd : [n' + 10, n' + 18, n' + 20, 6].Nodup := by simp
    refine AX ?_
    refine FD [n' + 10, n' + 18, n' + 20, 6] [(26, 0), (34, 1), (35, 0), (36, 2), (37, 3)] [(35, [1]), (36, [0]), (37, [2])] hnd ?_
    repeat first | refine FF ?_ | refine FS ?_
    refine FQ ?_ (hs := by
      intro Hx hx
      exact EV)
    refine FQ ?_ (hs := by
      intro Hx hx
      exact EV)
    refine FQ ?_ (hs := by
      intro Hx hx
      exact EV)
    refine FCO 0 hk.out ?_
    refine hf.out.mono ?_
    rintro _ Hc nc ⟨oo, eo, rfl, hHc⟩
    refine ⟨oo, eo, 1, 0, _, ints xs, rfl, hHc, .inr (ints_scal _), by decide, ?_⟩
    clear hHc
    repeat first | refine FF ?_ | refine FS ?_
    refine FQ ?_ (hs := by
      intro Hx hx
      exact EV)
    refine FQ ?_ (hs := by
      intro Hx hx
      exact EV)
    refine FQ ?_ (hs := by
      intro Hx hx
      exact EV)
    repeat first | refine FF ?_ | refine FS ?_
    refine FM 1 (n' + 18) ?_ (hs := by
      intro Hx hx
      exact EVM)
    refine FM 0 (n' + 10) ?_ (hs := by
      intro Hx hx
      have f0 : Hx (n' + 10) = _ := hx.at hnd 0 rfl (by decide)
      simp only [setF_if, upd_if, neAdd, neLt, ltAdd, addNe, ltNe, Nat.left_eq_add, Nat.add_eq_left, Nat.reduceEqDiff, Nat.add_assoc, Nat.reduceAdd, reduceIte, *] at f0
      have f1 : Hx (n' + 18) = _ := hx.at hnd 1 rfl (by decide)
      simp only [setF_if, upd_if, neAdd, neLt, ltAdd, addNe, ltNe, Nat.left_eq_add, Nat.add_eq_left, Nat.reduceEqDiff, Nat.add_assoc, Nat.reduceAdd, reduceIte, *] at f1
      exact EVM)
    refine FM 2 (n' + 20) ?_ (hs := by
      intro Hx hx
      have f0 : Hx (n' + 10) = _ := hx.at hnd 0 rfl (by decide)
      simp only [setF_if, upd_if, neAdd, neLt, ltAdd, addNe, ltNe, Nat.left_eq_add, Nat.add_eq_left, Nat.reduceEqDiff, Nat.add_assoc, Nat.reduceAdd, reduceIte, *] at f0
      exact EVM)
    refine FM 3 (6) ?_ (hs := by
      intro Hx hx
      have f0 : Hx (6) = _ := hx.at hnd 3 rfl (by decide)
      simp only [setF_if, upd_if, neAdd, neLt, ltAdd, addNe, ltNe, Nat.left_eq_add, Nat.add_eq_left, Nat.reduceEqDiff, Nat.add_assoc, Nat.reduceAdd, reduceIte, *] at f0
      have f1 : Hx (n' + 20) = _ := hx.at hnd 2 rfl (by decide)
      simp only [setF_if, upd_if, neAdd, neLt, ltAdd, addNe, ltNe, Nat.left_eq_add, Nat.add_eq_left, Nat.reduceEqDiff, Nat.add_assoc, Nat.reduceAdd, reduceIte, *] at f1
      exact EVM)
    repeat first | refine FF ?_ | refine FS ?_
    refine WF.nil ?_
    refine AL ?_
    refine ⟨L.length - (i + 1), by omega, i + 1, e + 1, joinT t' 2, rows ++ [[PV.ob (n' + 10) (eo + 1)]], S ++ [n' + 10], by omega, by omega, by simp [setF_if, *], by simp [setF_if, *], by simp [setF_if, *], by simp [setF_if, *], by simp [setF_if, *], by simp [setF_if, *], by simp [upd_if, *], by simp [upd_if, *], by simp [upd_if, joinT, *], tag_app htag.out (.inl rfl), ?_, ?_, ?_, ?_, fun h => by simp at h⟩
    · intro r hr
      rcases List.mem_append.mp hr with hr | hr
      · exact hfit.out r hr
      · rw [List.mem_singleton.mp hr]; rfl
    · rw [htk.out]
      refine ownRs_append (ownRs_congr (H := H) (fun o ho => ?_) hown.out) (ownRs_one ?_)
      · have := hlt.out o ho
        simp [upd_if, show ¬ o = n' + 10 by omega, show ¬ o = n' + 18 by omega, show ¬ o = n' + 20 by omega, show ¬ o = 6 by omega]
      · rw [← List.append_nil [n' + 10]]
        exact ownPs_cons (ownP_mk (ty := 2) (sz := 1) (t := 0) (by simp [upd_if, show ¬ (n' + 10 = 6) by omega]) (ints_scal _) (by decide) (ints_fit _)) (ownPs_scal_mk (by simp))
    · exact List.nodup_append.mpr ⟨hnd0.out, by simp, fun x hx y hy e => by
        have := hlt.out x hx
        rw [List.mem_singleton.mp hy] at e; omega⟩
    · intro x hx
      rcases List.mem_append.mp hx with hx | hx
      · have := hlt.out x hx; omega
      · rw [List.mem_singleton.mp hx]; omega
  · have ei : i = L.length := by omega
    rw [ei, List.take_length] at hown
    have h6S : 6 ∉ S := fun h => by have := (hlt 6 h).1; omega
    clear hrl hLb hmem
    replace htag := Hid.mk htag
    replace hfit := Hid.mk hfit
    replace hown := Hid.mk hown
    replace hnd0 := Hid.mk hnd0
    replace hlt := Hid.mk hlt
    replace hnil := Hid.mk hnil
    refine AL ?_
    have hH6' : (H.upd 1 (.box 29 [.i .i64 (r.length + l.length), .i .i64 (r.length + l.length), .own 6 e])) 6 = some (.arr e 42 1 rows t') := by simp [upd_if, hH6]
    refine ⟨6 :: S, ownX_mk3 (s1 := []) (s2 := []) ownX_mki ownX_mki (ownX_sl (tagOk_own hH6' (ownRs_congr (H := H) (fun o ho => by rw [upd_if, if_neg (by have := (hlt.out o ho).1; omega)]) hown.out) htag.out (ownRs_ns hown.out (listsR_ns _)) hfit.out hnil.out)), List.nodup_cons.mpr ⟨h6S, hnd0.out⟩⟩
end Go.Proofs
end
section
open Go Go.Big
namespace Go.Proofs
set_option maxHeartbeats 2000000
/-- A function value that asks one question of an element, and leaves old objects as they are. -/
def AsksPc (G : Gv) (f : FuncId) (caps : List AV) (H0 : Heap) (n0 tg : Nat) (p : PieceM → Bool) (ls : List PieceM) : Prop :=
  ∀ x ∈ ls, ∀ (H : Heap) (n : Nat), n0 ≤ n → (∀ k, k < n0 → H k = H0 k) → WC Tryz.prog G f ((pieceA tg x) :: caps) H n (fun r H' n' => r = .b (p x) ∧ n ≤ n' ∧ ∀ k, k < n0 → H' k = H0 k)
def findPc (p : PieceM → Bool) (ls : List PieceM) : Int := match (List.range ls.length).find? (fun i => p (ls.getD i ⟨[], 0, false⟩)) with
  | some i => i
  | none => -1
theorem indexFuncPc_fn (G : Gv) (f : FuncId) (caps : List AV) (H0 : Heap) (n0 tg : Nat) (p : PieceM → Bool) (ls : List PieceM) (hp : AsksPc G f caps H0 n0 tg p ls) (hff : (Tryz.prog.funcs[f]?).any (fun fn => fn.body.isSome && (fn.name != "runtime.NumGoroutine")) = true) (hls : ls.length < 1000000000)
    (H : Heap) (n : Nat) (hn : n0 ≤ n) (hH : ∀ k, k < n0 → H k = H0 k) :
    WC Tryz.prog G 142 [.sl tg (pieces ls), .fn f caps] H n (fun r H' n' => r = .i .i64 (findPc p ls) ∧ n ≤ n' ∧ ∀ k, k < n0 → H' k = H0 k) := by
  refine (.body Tryz.func142 rfl (by simp [Tryz.ntmps142]) ?_)
  rw [Tryz.ntmps142, Tryz.results142]
  have hlen := pieces_len ls
  replace hH := Hid.mk hH
  replace hp := Hid.mk hp
  refine AL ?_
  refine .loop (.inv (fun d E H n' => ∃ i : Nat, i + d = ls.length ∧ n ≤ n' ∧ E 0 = .sl tg (pieces ls) ∧ E 1 = .fn f caps ∧ E 7 = .i .i64 ls.length ∧ E 8 = .i .i64 i ∧ (∀ k, k < n0 → H k = H0 k) ∧ (∀ j, j < i → p (ls.getD j ⟨[], 0, false⟩) = false)) ls.length ?_ ?_)
  · exact ⟨0, by omega, by omega, by simp [setF_if, argE], by simp [setF_if, argE], by simp [setF_if, argE, hlen], by simp [setF_if, argE], hH.out, fun j hj => by omega⟩
  clear hH
  rintro d E H n' ⟨i, hi, hnn, h0, h1, h7, h8, hH, hall⟩
  replace hH := Hid.mk hH
  replace hall := Hid.mk hall
  by_cases c : (i : Int) < ls.length
  · have hw_i : IntKind.i64.wrap ((i : Int) + 1) = (i : Int) + 1 := wr64 (by omega) (by omega)
    have hr : (pieces ls)[i]? = some (pieceR (ls.getD i ⟨[], 0, false⟩)) := by simp [pieces, List.getD_eq_getElem?_getD, show i < ls.length by omega]
    have hmem : ls.getD i ⟨[], 0, false⟩ ∈ ls := by rw [List.getD_eq_getElem?_getD, List.getElem?_eq_getElem (by omega)]; exact List.getElem_mem _
    have hyes : p (ls.getD i ⟨[], 0, false⟩) = true → findPc p ls = i := fun h => by
      unfold findPc; rw [find_yes (p := fun i => p (ls.getD i ⟨[], 0, false⟩)) (i := i) (by omega) h (fun j hj => hall.out j hj)]
    have hmore : p (ls.getD i ⟨[], 0, false⟩) = false → ∀ j, j < i + 1 → p (ls.getD j ⟨[], 0, false⟩) = false := fun h j hj => by
      by_cases q : j = i
      · rw [q]; exact h
      · exact hall.out j (by omega)
    replace hyes := Hid.mk hyes
    replace hmore := Hid.mk hmore
    replace hmem := Hid.mk hmem
    generalize ls.getD i ⟨[], 0, false⟩ = x at hr hmem hyes hmore
    refine AL ?_
    refine CI (hf := hff) ?_
    refine (hp.out x hmem.out _ _ (by omega) hH.out).mono ?_
    rintro r H2 n2 ⟨rfl, hn2, hH2⟩
    replace hH2 := Hid.mk hH2
    cases cq : p x with
    | true =>
      refine AL ?_
      exact ⟨by simp [retA, setF_if, hyes.out cq], by omega, hH2.out⟩
    | false =>
      refine AL ?_
      exact ⟨ls.length - (i + 1), by omega, i + 1, by omega, by omega, by simp [setF_if, *], by simp [setF_if, *], by simp [setF_if, *], by simp [setF_if, *], hH2.out, hmore.out cq⟩
  · refine AL ?_
    have : findPc p ls = -1 := by
      unfold findPc; rw [find_no (p := fun i => p (ls.getD i ⟨[], 0, false⟩)) (fun j hj => hall.out j (by omega))]
    exact ⟨by simp [retA, setF_if, this], by omega, hH.out⟩
theorem findPc_any (p : PieceM → Bool) (ls : List PieceM) : decide (findPc p ls ≥ 0) = ls.any p := by
  unfold findPc
  cases h : (List.range ls.length).find? (fun i => p (ls.getD i ⟨[], 0, false⟩)) with
  | none =>
    rw [List.find?_range_eq_none] at h
    have : ls.any p = false := by
      rw [List.any_eq_false]
      intro x hx
      obtain ⟨i, hi, e⟩ := List.mem_iff_getElem.mp hx
      have := h i hi
      rw [← e]
      simpa [List.getD_eq_getElem?_getD, hi] using this
    rw [this]; rfl
  | some i =>
    have h1 := List.find?_some h
    have h2 := List.mem_range.mp (List.mem_of_find?_eq_some h)
    simp only [decide_eq_true_eq] at *
    have h3 : ls.any p = true := List.any_eq_true.mpr ⟨ls[i], List.getElem_mem _, by simpa [List.getD_eq_getElem?_getD, h2] using h1⟩
    rw [h3]; simp
theorem containsFuncPc_fn (G : Gv) (f : FuncId) (caps : List AV) (H0 : Heap) (n0 tg : Nat) (p : PieceM → Bool) (ls : List PieceM) (hp : AsksPc G f caps H0 n0 tg p ls) (hff : (Tryz.prog.funcs[f]?).any (fun fn => fn.body.isSome && (fn.name != "runtime.NumGoroutine")) = true) (hls : ls.length < 1000000000)
    (H : Heap) (n : Nat) (hn : n0 ≤ n) (hH : ∀ k, k < n0 → H k = H0 k) :
    WC Tryz.prog G 75 [.sl tg (pieces ls), .fn f caps] H n (fun r H' n' => r = .b (ls.any p) ∧ n ≤ n' ∧ ∀ k, k < n0 → H' k = H0 k) := by
  refine (.body Tryz.func75 rfl (by simp [Tryz.ntmps75]) ?_)
  rw [Tryz.ntmps75, Tryz.results75]
  replace hH := Hid.mk hH
  replace hp := Hid.mk hp
  refine AL ?_
  refine CI ?_
  refine (indexFuncPc_fn G f caps H0 n0 tg p ls hp.out hff hls _ _ (by omega) hH.out).mono ?_
  rintro r H2 n2 ⟨rfl, hn2, hH2⟩
  replace hH2 := Hid.mk hH2
  have ha := findPc_any p ls
  refine AL ?_
  exact ⟨by simp [retA, setF_if, ha], by omega, hH2.out⟩
end Go.Proofs
end
section
open Go Go.Big
namespace Go.Proofs
set_option maxHeartbeats 2000000
theorem indexFuncPv_fn (G : Gv) (f : FuncId) (p : PieceM → Bool) (ls : List PieceM) (hp : ∀ x ∈ ls, Gives Tryz.prog G f [pieceA 0 x] (.b (p x))) (hff : (Tryz.prog.funcs[f]?).any (fun fn => fn.body.isSome && (fn.name != "runtime.NumGoroutine")) = true) (hls : ls.length < 1000000000) :
    Gives Tryz.prog G 142 [.sl 0 (pieces ls), .fn f []] (.i .i64 (findPc p ls)) := by
  refine .of (.body Tryz.func142 rfl (by simp [Tryz.ntmps142]) ?_)
  rw [Tryz.ntmps142, Tryz.results142]
  have hlen := pieces_len ls
  replace hp := Hid.mk hp
  refine AL ?_
  refine .loop (.inv (fun d E H n' => ∃ i : Nat, i + d = ls.length ∧ E 0 = .sl 0 (pieces ls) ∧ E 1 = .fn f [] ∧ E 7 = .i .i64 ls.length ∧ E 8 = .i .i64 i ∧ (∀ j, j < i → p (ls.getD j ⟨[], 0, false⟩) = false)) ls.length ?_ ?_)
  · exact ⟨0, by omega, by simp [setF_if, argE], by simp [setF_if, argE], by simp [setF_if, argE, hlen], by simp [setF_if, argE], fun j hj => by omega⟩
  rintro d E H n' ⟨i, hi, h0, h1, h7, h8, hall⟩
  replace hall := Hid.mk hall
  by_cases c : (i : Int) < ls.length
  · have hw_i : IntKind.i64.wrap ((i : Int) + 1) = (i : Int) + 1 := wr64 (by omega) (by omega)
    have hr : (pieces ls)[i]? = some (pieceR (ls.getD i ⟨[], 0, false⟩)) := by simp [pieces, List.getD_eq_getElem?_getD, show i < ls.length by omega]
    have hmem : ls.getD i ⟨[], 0, false⟩ ∈ ls := by rw [List.getD_eq_getElem?_getD, List.getElem?_eq_getElem (by omega)]; exact List.getElem_mem _
    have hyes : p (ls.getD i ⟨[], 0, false⟩) = true → findPc p ls = i := fun h => by
      unfold findPc; rw [find_yes (p := fun i => p (ls.getD i ⟨[], 0, false⟩)) (i := i) (by omega) h (fun j hj => hall.out j hj)]
    have hmore : p (ls.getD i ⟨[], 0, false⟩) = false → ∀ j, j < i + 1 → p (ls.getD j ⟨[], 0, false⟩) = false := fun h j hj => by
      by_cases q : j = i
      · rw [q]; exact h
      · exact hall.out j (by omega)
    replace hyes := Hid.mk hyes
    replace hmore := Hid.mk hmore
    replace hmem := Hid.mk hmem
    generalize ls.getD i ⟨[], 0, false⟩ = x at hr hmem hyes hmore
    refine AL ?_
    refine CV (hf := hff) (hp.out x hmem.out) ?_
    cases cq : p x with
    | true =>
      refine AL ?_
      simp [retA, backA, setF_if, hyes.out cq]
    | false =>
      refine AL ?_
      exact ⟨ls.length - (i + 1), by omega, i + 1, by omega, by simp [setF_if, *], by simp [setF_if, *], by simp [setF_if, *], by simp [setF_if, *], hmore.out cq⟩
  · refine AL ?_
    have : findPc p ls = -1 := by
      unfold findPc; rw [find_no (p := fun i => p (ls.getD i ⟨[], 0, false⟩)) (fun j hj => hall.out j (by omega))]
    simp [retA, backA, setF_if, this]
theorem containsFuncPv_fn (G : Gv) (f : FuncId) (p : PieceM → Bool) (ls : List PieceM) (hp : ∀ x ∈ ls, Gives Tryz.prog G f [pieceA 0 x] (.b (p x))) (hff : (Tryz.prog.funcs[f]?).any (fun fn => fn.body.isSome && (fn.name != "runtime.NumGoroutine")) = true) (hls : ls.length < 1000000000) :
    Gives Tryz.prog G 75 [.sl 0 (pieces ls), .fn f []] (.b (ls.any p)) := by
  refine .of (.body Tryz.func75 rfl (by simp [Tryz.ntmps75]) ?_)
  rw [Tryz.ntmps75, Tryz.results75]
  replace hp := Hid.mk hp
  refine AL ?_
  refine CV (indexFuncPv_fn G f p ls hp.out hff hls) ?_
  have ha := findPc_any p ls
  refine AL ?_
  simp [retA, backA, setF_if, ha]
end Go.Proofs
end
section
open Go Go.Big
namespace Go.Proofs
set_option maxHeartbeats 2000000
def areaF (l : List PieceM) : Int := l.foldl (fun n p => IntKind.i64.wrap (n + IntKind.i64.wrap (p.k * p.cs.length))) 0
theorem areaF_take {l : List PieceM} {i : Nat} {p : PieceM} (h : l[i]? = some p) : areaF (l.take (i + 1)) = IntKind.i64.wrap (areaF (l.take i) + IntKind.i64.wrap (p.k * p.cs.length)) := by
  obtain ⟨hi, rfl⟩ := List.getElem?_eq_some_iff.mp h
  unfold areaF
  rw [List.take_succ_eq_append_getElem hi, List.foldl_append]; rfl
theorem pieceArea_fn (G : Gv) (r : List (Int × Int)) (l : List PieceM) (hl : l.length < 1000000000) : Gives Tryz.prog G 141 [.ag [.sl 0 (cells r), .sl 0 (pieces l)]] (.i .i64 (areaF l)) := by
  refine .of (.body Tryz.func141 rfl (by simp [Tryz.ntmps141]) ?_)
  rw [Tryz.ntmps141, Tryz.results141]
  have hlen := pieces_len l
  refine AL ?_
  refine .loop (.inv (fun d E H n' => ∃ i : Nat, i + d = l.length ∧ E 3 = .i .i64 (areaF (l.take i)) ∧ E 7 = .sl 0 (pieces l) ∧ E 8 = .i .i64 l.length ∧ E 9 = .i .i64 i) l.length ?_ ?_)
  · exact ⟨0, by omega, by simp [setF_if, argE, areaF], by simp [setF_if, argE], by simp [setF_if, argE, hlen], by simp [setF_if, argE]⟩
  rintro d E H n' ⟨i, hi, h3, h7, h8, h9⟩
  by_cases c : (i : Int) < l.length
  · have hw_i : IntKind.i64.wrap ((i : Int) + 1) = (i : Int) + 1 := wr64 (by omega) (by omega)
    obtain ⟨p, hp⟩ : ∃ p, l[i]? = some p := ⟨_, List.getElem?_eq_getElem (by omega)⟩
    have hr := pieces_at hp
    have ha := areaF_take hp
    have hcl := cells_len p.cs
    replace ha := Hid.mk ha
    replace hp := Hid.mk hp
    refine AL ?_
    exact ⟨l.length - (i + 1), by omega, i + 1, by omega, by simp [setF_if, *, ha.out], by simp [setF_if, *], by simp [setF_if, *], by simp [setF_if, *]⟩
  · have e : i = l.length := by omega
    rw [e, List.take_length] at h3
    refine AL ?_
    simp [retA, backA, *]
theorem l11Area_fn (G : Gv) (r : List (Int × Int)) (l : List PieceM) (hl : l.length < 1000000000) : Gives Tryz.prog G 137 [.ag [.sl 0 (cells r), .sl 0 (pieces l)]] (.i .i64 (areaF l)) := by
  refine .of (.body Tryz.func137 rfl (by simp [Tryz.ntmps137]) ?_)
  rw [Tryz.ntmps137, Tryz.results137]
  have hlen := pieces_len l
  refine AL ?_
  refine .loop (.inv (fun d E H n' => ∃ i : Nat, i + d = l.length ∧ 0 < n' ∧ E 1 = .ptr 0 0 0 0 ∧ E 3 = .i .i64 (areaF (l.take i)) ∧ E 4 = .i .i64 i ∧ H 0 = some (.box 35 [.sl 0 (cells r), .sl 0 (pieces l)])) l.length ?_ ?_)
  · exact ⟨0, by omega, by omega, by simp [setF_if, argE], by simp [setF_if, argE, areaF], by simp [setF_if, argE], by simp [upd_if]⟩
  rintro d E H n' ⟨i, hi, hn, h1, h3, h4, hH⟩
  by_cases c : (i : Int) < l.length
  · have hw_i : IntKind.i64.wrap ((i : Int) + 1) = (i : Int) + 1 := wr64 (by omega) (by omega)
    obtain ⟨p, hp⟩ : ∃ p, l[i]? = some p := ⟨_, List.getElem?_eq_getElem (by omega)⟩
    have hr := pieces_at hp
    have ha := areaF_take hp
    have hcl := cells_len p.cs
    replace ha := Hid.mk ha
    replace hp := Hid.mk hp
    refine AL ?_
    exact ⟨l.length - (i + 1), by omega, i + 1, by omega, by omega, by simp [setF_if, *], by simp [setF_if, *, ha.out], by simp [setF_if, *], by simp [upd_if, *]⟩
  · have e : i = l.length := by omega
    rw [e, List.take_length] at h3
    refine AL ?_
    simp [retA, backA, *]
def fitsI (r : List (Int × Int)) (l : List PieceM) : Bool := puzzleI r l && areaF l == r.length
def fitsS (r : List (Int × Int)) (l : List PieceM) : Bool := puzzleS r l && areaF l == r.length
theorem implDoesFit_fn (G : Gv) (hG : ∀ f args H n r H' n', sortsG f args H n r H' n' → G f args H n r H' n') (hG1 : ∀ f args H n r H' n', sortsG1 f args H n r H' n' → G f args H n r H' n') (r : List (Int × Int)) (l : List PieceM) (hr : r.length < 1000000000) (hl : l.length < 1000000000) (hc : ∀ p ∈ l, p.cs.length < 1000000000) : Gives Tryz.prog G 74 [.ag [.sl 0 (cells r), .sl 0 (pieces l)]] (.b (fitsI r l)) := by
  refine .of (.body Tryz.func74 rfl (by simp [Tryz.ntmps74]) ?_)
  rw [Tryz.ntmps74, Tryz.results74]
  have hlen := cells_len r
  replace hG := Hid.mk hG
  replace hG1 := Hid.mk hG1
  replace hc := Hid.mk hc
  refine AL ?_
  refine CQ (implIsPuzzle_fn G hG.out hG1.out r l hr hl hc.out) ?_
  by_cases c : puzzleI r l = true
  · refine AL ?_
    refine CQ (pieceArea_fn G r l hl) ?_
    refine AL ?_
    simp [retA, backA, fitsI, *]
  · refine AL ?_
    simp [retA, backA, fitsI, *]
theorem specDoesFit_fn (G : Gv) (r : List (Int × Int)) (l : List PieceM) (hr : r.length < 1000000000) (hl : l.length < 1000000000) (hc : ∀ p ∈ l, p.cs.length < 1000000000) : Gives Tryz.prog G 70 [.ag [.sl 0 (cells r), .sl 0 (pieces l)]] (.b (fitsS r l)) := by
  refine .of (.body Tryz.func70 rfl (by simp [Tryz.ntmps70]) ?_)
  rw [Tryz.ntmps70, Tryz.results70]
  have hlen := cells_len r
  replace hc := Hid.mk hc
  refine AL ?_
  refine CQ (specIsPuzzle_fn G r l hr hl hc.out) ?_
  by_cases c : puzzleS r l = true
  · refine AL ?_
    refine CQ (l11Area_fn G r l hl) ?_
    refine AL ?_
    simp [retA, backA, fitsS, *]
  · refine AL ?_
    simp [retA, backA, fitsS, *]
end Go.Proofs
end
