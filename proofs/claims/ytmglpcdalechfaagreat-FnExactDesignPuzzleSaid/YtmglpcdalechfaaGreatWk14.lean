/- Walks: The symmetries of a puzzle: both programs. Condition: the given contracts hold. | DesignPuzzle: both programs. Condition: the given contracts hold. | Placements whose numbers are still those that were written. No condition. | Puzzles whose numbers are still those that were written. No condition. | Numbers written into puzzles and placements; held in them. No condition. | The statement's law: it answers true if the two agree. No condition. -/
import Derived.Test.YtmglpcdalechfaaGreatBO
import Derived.Test.YtmglpcdalechfaaGreatWk13
import Derived.Test.YtmglpcdalechfaaGreatWk5
import Derived.Test.YtmglpcdalechfaaGreatBC
import Derived.Test.YtmglpcdalechfaaGreatWk12
import Derived.Test.YtmglpcdalechfaaGreatWk7
import Derived.Test.YtmglpcdalechfaaGreatWk6
import Derived.Test.YtmglpcdalechfaaGreatWk4
set_option linter.unusedVariables false
set_option linter.unusedSimpArgs false
section
open Go Go.Big
namespace Go.Proofs
set_option maxHeartbeats 2000000
structure AllK (G : Gv) : Prop extends AllH G where
  ok : GvOk Tryz.prog G
def symT (q : Nat → Bool) (n : Nat) : List Int := ((List.range n).filter q).map fun (t : Nat) => (t : Int)
theorem symT_succ (q : Nat → Bool) (n : Nat) : symT q (n + 1) = symT q n ++ (if q n then [(n : Int)] else []) := by
  unfold symT
  rw [List.range_succ, List.filter_append, List.map_append]
  cases h : q n <;> simp [h]
theorem symT_len (q : Nat → Bool) (n : Nat) : (symT q n).length ≤ n := by
  unfold symT
  rw [List.length_map]
  have := List.length_filter_le q (List.range n)
  rwa [List.length_range] at this
theorem symT_mem {q : Nat → Bool} {n : Nat} {x : Int} (h : x ∈ symT q n) : ∃ t : Nat, x = t ∧ t < n ∧ q t = true := by
  unfold symT at h
  obtain ⟨t, h1, rfl⟩ := List.mem_map.mp h
  rw [List.mem_filter, List.mem_range] at h1
  exact ⟨t, rfl, h1.1, h1.2⟩
def symQI (r : Shape) (t : Nat) : Bool := decide (formM r t = normM r)
def symQS (r : Shape) (t : Nat) : Bool := (numsM r t).isSome
def symsI (r : Shape) (l : List PieceM) : List Int := (symT (symQI r) 8).filter fun x => !(decide (x ≥ 4) && !(!l.any handP))
def handS (p : PieceM) : Bool := decide ((formsP p).length = (formsF p.cs 8).length)
def symsS (r : Shape) (l : List PieceM) : List Int := (symT (symQS r) 8).filter fun x => decide (x < 4) || l.all handS
def psymS (r : Shape) (l : List PieceM) : List Int × Int := if fitsS r l then (symsS r l, 0) else ([], 1)
def psymI (r : Shape) (l : List PieceM) : List Int × Int := if fitsI r l then (symsI r l, 0) else ([], 1)
theorem fits_eq (r : Shape) (l : List PieceM) : fitsI r l = fitsS r l := by unfold fitsI fitsS; rw [puzzle_eq]
theorem fits_puzzle {r : Shape} {l : List PieceM} (h : fitsS r l = true) : puzzleS r l = true := by
  unfold fitsS at h; rw [Bool.and_eq_true] at h; exact h.1
theorem fits_facts {r : Shape} {l : List PieceM} (h : fitsS r l = true) : 0 < r.length ∧ ∀ p ∈ l, 0 < p.cs.length ∧ p.cs.length < 1000000000 := by
  obtain ⟨g1, g2, g3, g4, g5, g6, g8⟩ := puzzle_facts (fits_puzzle h)
  exact ⟨g2, fun p hp => ⟨(g8 p hp).1, by have := (g8 p hp).2; omega⟩⟩
theorem all_take {q : PieceM → Bool} {l : List PieceM} {i : Nat} {p : PieceM} (h : l[i]? = some p) : (l.take (i + 1)).all q = ((l.take i).all q && q p) := by
  rw [List.take_add_one, h, List.all_append]; simp
end Go.Proofs
end
section
open Go Go.Big
namespace Go.Proofs
set_option maxHeartbeats 2000000
def dpM (f : Bool) (r : Shape) (n : Int) (set : List Int) : (Shape × List PieceM) × Int := if f then (if decide (n ≥ 1) && decide (n ≤ 5) then (if (decide ((set.length : Int) ≥ 1) && decide ((set.length : Int) ≤ 12)) && inc set (IntKind.i64.wrap (((ownS (n.toNat - 1)).length : Int) - 1)) then ((r, pcsM (ownS (n.toNat - 1)) set), 0) else (([], []), 2)) else (([], []), 2)) else (([], []), 1)
theorem l17Size_fn (G : Gv) (n : Int) : Gives Tryz.prog G 112 [.i .i64 n] (.b (decide (n ≥ 1) && decide (n ≤ 5))) := by
  refine .of (.body Tryz.func112 rfl (by simp [Tryz.ntmps112]) ?_)
  rw [Tryz.ntmps112, Tryz.results112]
  refine AL ?_
  refine CV (l01In_fn G _ _ _) ?_
  refine AL ?_
  simp [retA, backA]
theorem isDesignOrder_fn (G : Gv) (n : Int) : Gives Tryz.prog G 119 [.i .i64 n] (.b (decide (n ≥ 1) && decide (n ≤ 5))) := by
  refine .of (.body Tryz.func119 rfl (by simp [Tryz.ntmps119]) ?_)
  rw [Tryz.ntmps119, Tryz.results119]
  refine AL ?_
  refine CV (within_fn G _ _ _) ?_
  refine AL ?_
  simp [retA, backA]
theorem ownS_facts {n : Nat} (h1 : 1 ≤ n) (h5 : n ≤ 5) : (ownS (n - 1)).length ≤ 6144 ∧ ∀ s ∈ ownS (n - 1), 0 < s.length ∧ s.length < 1000 := by
  have h := fixS_ok (n - 1) (by omega)
  have hl := (fixS_len (n - 1) (by omega)).1
  have hf := List.length_filter_le ownB (fixS (n - 1))
  refine ⟨by unfold ownS; omega, fun s hs => ?_⟩
  have := (h.poly s (List.mem_filter.mp hs).1).len
  omega
theorem specDesignPuzzle_fn (G : Gv) (r : Shape) (n : Int) (set : List Int) (hr : r.length < 1000000000) (hset : set.length < 1000000000) :
    Gives Tryz.prog G 53 [.sl 0 (cells r), .i .i64 n, .sl 0 (ints set)] (.tup [.ag [.sl 1 (cells (dpM (regionS r) r n set).1.1), .sl 1 (pieces (dpM (regionS r) r n set).1.2)], .i .i64 (dpM (regionS r) r n set).2]) := by
  refine .of (.body Tryz.func53 rfl (by simp [Tryz.ntmps53]) ?_)
  rw [Tryz.ntmps53, Tryz.results53]
  have hsl := ints_len set
  have hrg := specIsRegion_fn G r hr
  replace hrg := Hid.mk hrg
  cases cf : regionS r with
  | false =>
    rw [cf] at hrg
    have hres : dpM false r n set = (([], []), 1) := rfl
    rw [hres]
    clear hres cf
    refine AL ?_
    refine CV hrg.out ?_
    refine AL ?_
    simp [retA, backA, backsA, upd_if, cells, pieces]
  | true =>
    rw [cf] at hrg
    cases cs : (decide (n ≥ 1) && decide (n ≤ 5)) with
    | false =>
      have hsz := l17Size_fn G n
      rw [cs] at hsz
      have hres : dpM true r n set = (([], []), 2) := by unfold dpM; rw [if_pos rfl, cs]; rfl
      rw [hres]
      replace hsz := Hid.mk hsz
      clear hres cf cs
      refine AL ?_
      refine CV hrg.out ?_
      refine AL ?_
      refine CV hsz.out ?_
      refine AL ?_
      simp [retA, backA, backsA, upd_if, cells, pieces]
    | true =>
      have hsz := l17Size_fn G n
      rw [cs] at hsz
      obtain ⟨n1, n5⟩ : 1 ≤ n ∧ n ≤ 5 := by simpa using cs
      have hnn : ((n.toNat : Nat) : Int) = n := Int.toNat_of_nonneg (by omega)
      have hfx := l05Fixed_fn G n.toNat (by omega) (by omega)
      rw [hnn] at hfx
      have hlx := (fixS_len (n.toNat - 1) (by omega)).1
      have hox := fixS_ok (n.toNat - 1) (by omega)
      obtain ⟨hl1, hl2⟩ := ownS_facts (n := n.toNat) (by omega) (by omega)
      have how := fun H n2 => l05Own_wc G (fixS (n.toNat - 1)) H n2 (by omega) (fun s hs => by have := (hox.poly s hs).len; omega)
      replace how : ∀ H n2, WC Tryz.prog G 113 [.sl 1 (shapesR (fixS (n.toNat - 1))), .i .i64 8] H n2 (fun r H' n' => n2 ≤ n' ∧ (∀ k, k < n2 → H' k = H k) ∧ ∃ o e, r = .own o e ∧ n2 ≤ o ∧ o < n' ∧ H' o = some (.arr e 32 1 (shapesR (ownS (n.toNat - 1))) 1)) := how
      have hri := l01Rises_fn G set ((ownS (n.toNat - 1)).length : Int) (by omega)
      have hres : dpM true r n set = (if (decide ((set.length : Int) ≥ 1) && decide ((set.length : Int) ≤ 12)) && inc set (IntKind.i64.wrap (((ownS (n.toNat - 1)).length : Int) - 1)) then ((r, pcsM (ownS (n.toNat - 1)) set), 0) else (([], []), 2)) := by unfold dpM; rw [if_pos rfl, if_pos cs]
      rw [hres]
      have hpz : (decide ((set.length : Int) ≥ 1) && decide ((set.length : Int) ≤ 12)) = true → inc set (IntKind.i64.wrap (((ownS (n.toNat - 1)).length : Int) - 1)) = true → Gives Tryz.prog G 116 [.sl 0 (cells r), .sl 0 (shapesR (ownS (n.toNat - 1))), .sl 0 (ints set)] (.ag [.sl 1 (cells r), .sl 1 (pieces (pcsM (ownS (n.toNat - 1)) set))]) := fun c1 c2 => by
        have hw : IntKind.i64.wrap (((ownS (n.toNat - 1)).length : Int) - 1) = ((ownS (n.toNat - 1)).length : Int) - 1 := wr64s (by omega) (by omega)
        rw [hw] at c2
        obtain ⟨d1, d2⟩ : 1 ≤ (set.length : Int) ∧ (set.length : Int) ≤ 12 := by simpa using c1
        exact l17Puzzle_fn G r _ set hr (by omega) (fun i hi => by have := inc_mem c2 i hi; omega) (fun s hs => (hl2 s hs).2)
      clear hres cf cs hlx hox hl2
      generalize fixS (n.toNat - 1) = FX at hfx how
      generalize ownS (n.toNat - 1) = S at how hri hpz hl1 ⊢
      have hSl := shapesR_len S
      generalize IntKind.i64.wrap ((S.length : Int) - 1) = mm at hri hpz ⊢
      replace hsz := Hid.mk hsz
      replace hfx := Hid.mk hfx
      replace how := Hid.mk how
      replace hri := Hid.mk hri
      replace hpz := Hid.mk hpz
      refine AL ?_
      refine CV hrg.out ?_
      refine AL ?_
      refine CV hsz.out ?_
      refine AL ?_
      refine CV hfx.out ?_
      refine AL ?_
      refine CI ?_
      refine (how.out _ _).mono ?_
      rintro z H2 n2 ⟨hn2, hfr, o, e, rfl, ho1, ho2, hHo⟩
      have q0 : H2 0 = some (.box 35 [.nil, .nil]) := by rw [hfr 0 (by omega)]; simp [upd_if]
      have qo : (o = 0) = False := by simp; omega
      clear hfr
      refine AL ?_
      refine CV (l01In_fn G _ _ _) ?_
      cases c1 : (decide ((set.length : Int) ≥ 1) && decide ((set.length : Int) ≤ 12)) with
      | false =>
        refine AL ?_
        simp [retA, backA, backsA, upd_if, cells, pieces]
      | true =>
        rw [c1] at hpz
        refine AL ?_
        refine CV hri.out ?_
        cases c2 : inc set mm with
        | false =>
          refine AL ?_
          simp [retA, backA, backsA, upd_if, cells, pieces]
        | true =>
          have hpz2 := hpz.out rfl c2
          replace hpz2 := Hid.mk hpz2
          clear c1 c2
          refine AL ?_
          refine CV hpz2.out ?_
          refine AL ?_
          simp [retA, backA, backsA, newSl, upd_if]
theorem implDesignPuzzle_o (G : Gv) (hA : AllG G) (hok : GvOk Tryz.prog G) (r : Shape) (n : Int) (set : List Int) (hr : r.length < 1000000000) (hset : set.length < 1000000000) :
    GivesO Tryz.prog G 56 [.sl 0 (cells r), .i .i64 n, .sl 0 (ints set)] (.tup [.ag [.sl 1 (cells (dpM (regionM r) r n set).1.1), .sl 1 (pieces (dpM (regionM r) r n set).1.2)], .i .i64 (dpM (regionM r) r n set).2]) := by
  refine .of (.body Tryz.func56 rfl (by simp [Tryz.ntmps56]) ?_)
  rw [Tryz.ntmps56, Tryz.results56]
  have hsl := ints_len set
  have hrg := implIsRegion_fn G r hr
  replace hrg := Hid.mk hrg
  cases cf : regionM r with
  | false =>
    rw [cf] at hrg
    have hres : dpM false r n set = (([], []), 1) := rfl
    rw [hres]
    clear hres cf
    refine AL ?_
    refine CV hrg.out ?_
    refine AL ?_
    exact ⟨[], ownX_mkT (s1 := []) (s2 := []) (ownX_mk2 (s1 := []) (s2 := []) (ownX_sl ownA_nil) (ownX_sl ownA_nil)) ownX_mki, by simp⟩
  | true =>
    rw [cf] at hrg
    have hrp := (shapeM_spec (regionM_shape cf)).2.2.1
    cases cs : (decide (n ≥ 1) && decide (n ≤ 5)) with
    | false =>
      have hsz := isDesignOrder_fn G n
      rw [cs] at hsz
      have hres : dpM true r n set = (([], []), 2) := by unfold dpM; rw [if_pos rfl, cs]; rfl
      rw [hres]
      replace hsz := Hid.mk hsz
      clear hres cf cs
      refine AL ?_
      refine CV hrg.out ?_
      refine AL ?_
      refine CV hsz.out ?_
      refine AL ?_
      exact ⟨[], ownX_mkT (s1 := []) (s2 := []) (ownX_mk2 (s1 := []) (s2 := []) (ownX_sl ownA_nil) (ownX_sl ownA_nil)) ownX_mki, by simp⟩
    | true =>
      have hsz := isDesignOrder_fn G n
      rw [cs] at hsz
      obtain ⟨n1, n5⟩ : 1 ≤ n ∧ n ≤ 5 := by simpa using cs
      have hnn : ((n.toNat : Nat) : Int) = n := Int.toNat_of_nonneg (by omega)
      have how := ownForms_fn G hA hok n.toNat (by omega) (by omega)
      rw [hnn] at how
      obtain ⟨hl1, hl2⟩ := ownS_facts (n := n.toNat) (by omega) (by omega)
      have hri := isIncreasing_fn G set ((ownS (n.toNat - 1)).length : Int) (by omega)
      have hres : dpM true r n set = (if (decide ((set.length : Int) ≥ 1) && decide ((set.length : Int) ≤ 12)) && inc set (IntKind.i64.wrap (((ownS (n.toNat - 1)).length : Int) - 1)) then ((r, pcsM (ownS (n.toNat - 1)) set), 0) else (([], []), 2)) := by unfold dpM; rw [if_pos rfl, if_pos cs]
      rw [hres]
      have hpz : (decide ((set.length : Int) ≥ 1) && decide ((set.length : Int) ≤ 12)) = true → inc set (IntKind.i64.wrap (((ownS (n.toNat - 1)).length : Int) - 1)) = true → GivesO Tryz.prog G 122 [.sl 0 (cells r), .sl 0 (shapesR (ownS (n.toNat - 1))), .sl 0 (ints set)] (.ag [.sl 1 (cells r), .sl 1 (pieces (pcsM (ownS (n.toNat - 1)) set))]) := fun c1 c2 => by
        have hw : IntKind.i64.wrap (((ownS (n.toNat - 1)).length : Int) - 1) = ((ownS (n.toNat - 1)).length : Int) - 1 := wr64s (by omega) (by omega)
        rw [hw] at c2
        obtain ⟨d1, d2⟩ : 1 ≤ (set.length : Int) ∧ (set.length : Int) ≤ 12 := by simpa using c1
        exact designPuzzle_o G hok r _ set (by omega) hr (by omega) (by omega) (fun i hi => by have := inc_mem c2 i hi; omega) hl2
      clear hres cf cs hl2
      generalize ownS (n.toNat - 1) = S at how hri hpz hl1 ⊢
      have hSl := shapesR_len S
      generalize IntKind.i64.wrap ((S.length : Int) - 1) = mm at hri hpz ⊢
      replace hsz := Hid.mk hsz
      replace how := Hid.mk how
      replace hri := Hid.mk hri
      replace hpz := Hid.mk hpz
      by_cases c1 : (set.length : Int) < 1
      · have hd : (decide ((set.length : Int) ≥ 1) && decide ((set.length : Int) ≤ 12)) = false := by
          have : ¬ ((set.length : Int) ≥ 1) := by omega
          simp [this]
        rw [hd, Bool.false_and, if_neg (by decide)]
        clear hd
        refine AL ?_
        refine CV hrg.out ?_
        refine AL ?_
        refine CV hsz.out ?_
        refine AL ?_
        refine CV how.out ?_
        refine AL ?_
        exact ⟨[], ownX_mkT (s1 := []) (s2 := []) (ownX_mk2 (s1 := []) (s2 := []) (ownX_sl ownA_nil) (ownX_sl ownA_nil)) ownX_mki, by simp⟩
      · by_cases c3 : (set.length : Int) > 12
        · have hd : (decide ((set.length : Int) ≥ 1) && decide ((set.length : Int) ≤ 12)) = false := by
            have : ¬ ((set.length : Int) ≤ 12) := by omega
            simp [this]
          rw [hd, Bool.false_and, if_neg (by decide)]
          clear hd
          refine AL ?_
          refine CV hrg.out ?_
          refine AL ?_
          refine CV hsz.out ?_
          refine AL ?_
          refine CV how.out ?_
          refine AL ?_
          exact ⟨[], ownX_mkT (s1 := []) (s2 := []) (ownX_mk2 (s1 := []) (s2 := []) (ownX_sl ownA_nil) (ownX_sl ownA_nil)) ownX_mki, by simp⟩
        · have hd : (decide ((set.length : Int) ≥ 1) && decide ((set.length : Int) ≤ 12)) = true := by
            have h1 : (set.length : Int) ≥ 1 := by omega
            have h2 : (set.length : Int) ≤ 12 := by omega
            simp [h1, h2]
          rw [hd, Bool.true_and]
          rw [hd] at hpz
          clear hd
          cases c2 : inc set mm with
          | false =>
            rw [c2] at hri
            rw [if_neg (by decide)]
            clear c2
            refine AL ?_
            refine CV hrg.out ?_
            refine AL ?_
            refine CV hsz.out ?_
            refine AL ?_
            refine CV how.out ?_
            refine AL ?_
            refine CV hri.out ?_
            refine AL ?_
            exact ⟨[], ownX_mkT (s1 := []) (s2 := []) (ownX_mk2 (s1 := []) (s2 := []) (ownX_sl ownA_nil) (ownX_sl ownA_nil)) ownX_mki, by simp⟩
          | true =>
            rw [c2] at hri
            have hpz2 := hpz.out rfl c2
            rw [if_pos rfl]
            replace hpz2 := Hid.mk hpz2
            clear c2
            refine AL ?_
            refine CV hrg.out ?_
            refine AL ?_
            refine CV hsz.out ?_
            refine AL ?_
            refine CV how.out ?_
            refine AL ?_
            refine CV hri.out ?_
            refine AL ?_
            refine CWO hpz2.out ?_
            intro z H1 Sx m hz hn1 hSx hf hm
            obtain ⟨za, zb, s1, s2, rfl, rfl, hza, hzb⟩ := ownX_ag2 hz
            have q0 : H1 0 = some (.box 35 [.nil, .nil]) := by rw [hf 0 (by omega)]; simp [upd_if]
            have hne : ∀ o ∈ s1 ++ s2, o ≠ 0 := fun o ho => by have := hSx o ho; omega
            have pa := (ownX_plain hza).1
            have pb := (ownX_plain hzb).1
            clear hf hSx
            replace hz := Hid.mk hz
            replace hn1 := Hid.mk hn1
            replace hne := Hid.mk hne
            clear hza hzb
            refine OPN (op := .store 35 (.tmp 6) (.tmp 38)) (H1 := H1.upd 0 (.box 35 [za, zb])) (y := .un) ?_ (hs := by
              rw [st_store]
              simp only [look_tmp, setF_if, Nat.reduceEqDiff, reduceIte, flatA, List.all_cons, List.all_nil, pa, pb, Bool.and_self, BT.all, storeA, q0, putA, List.length_cons, List.length_nil, Nat.reduceAdd, Nat.reduceLeDiff, List.set_cons_zero, List.set_cons_succ, Option.map_some])
            refine AL ?_
            exact ⟨s1 ++ s2, ownX_kt (ownX_congr (fun o ho => by simp only [upd_if]; rw [if_neg (hne.out o ho)]) hz.out), hn1.out⟩
end Go.Proofs
end
section
open Go Go.Big
namespace Go.Proofs
set_option maxHeartbeats 2000000
theorem mkP_length : ∀ (k : Int) (l : List (Int × List Int)), (mkP k l).length = l.length
  | _, [] => rfl
  | k, p :: l => by simp only [mkP, List.length_cons, mkP_length]
end Go.Proofs
end
section
open Go Go.Big
namespace Go.Proofs
set_option maxHeartbeats 2000000
theorem runC_at {k : Int} {n i : Nat} (h : i < n) : (runC k n)[i]? = some (k + 2 * (i : Int), k + 2 * (i : Int) + 1) := by simp [runC, h]
theorem heldCellS_fn (G : Gv) (k : Int) (m : Nat) (hl : m < 1000000000) (hk0 : 0 ≤ k) (hk : k < 1000000000000) : Gives Tryz.prog G 124 [.sl 0 (cells (runC k m)), .i .i64 k] (.i .i64 (k + 2 * m)) := by
  refine .of (.body Tryz.func124 rfl (by simp [Tryz.ntmps124]) ?_)
  rw [Tryz.ntmps124, Tryz.results124]
  have hlen : (cells (runC k m)).length = m := by rw [cells_len, runC_len]
  refine AL ?_
  refine .loop (.inv (fun d E H n' => ∃ i : Nat, i + d = m ∧ E 0 = .sl 0 (cells (runC k m)) ∧ E 1 = .i .i64 (k + 2 * (i : Int)) ∧ E 5 = .i .i64 i) m ?_ ?_)
  · exact ⟨0, by omega, by simp [setF_if, argE], by simp [setF_if, argE], by simp [setF_if, argE]⟩
  rintro d E H n' ⟨i, hi, h0, h1, h5⟩
  by_cases c : (i : Int) < m
  · have hw_i : IntKind.i64.wrap ((i : Int) + 1) = (i : Int) + 1 := wr64 (by omega) (by omega)
    have hw1 : IntKind.i64.wrap (k + 2 * (i : Int) + 1) = k + 2 * (i : Int) + 1 := wr64 (by omega) (by omega)
    have hw2 : IntKind.i64.wrap (k + 2 * (i : Int) + 1 + 1) = k + 2 * ((i + 1 : Nat) : Int) := by rw [wr64 (by omega) (by omega)]; omega
    have hr : (cells (runC k m))[i]? = some [.i .i64 (k + 2 * (i : Int)), .i .i64 (k + 2 * (i : Int) + 1)] := by
      have := runC_at (k := k) (n := m) (i := i) (by omega)
      simp [cells, this]
    have hn1 : (k + 2 * (i : Int) != k + 2 * (i : Int)) = false := by simp
    have hn2 : (k + 2 * (i : Int) + 1 != k + 2 * (i : Int) + 1) = false := by simp
    generalize cells (runC k m) = C at h0 hr hlen
    refine AL ?_
    exact ⟨m - (i + 1), by omega, i + 1, by omega, by simp [setF_if, *], by simp [setF_if, *], by simp [setF_if, *]⟩
  · have ei : i = m := by omega
    rw [ei] at h1
    refine AL ?_
    simp [retA, backA, setF_if, h1]
theorem mkQ_drop_len : ∀ (k : Int) (l : List PieceM), (mkQ k l).length = l.length := mkQ_len
theorem heldPieceS_fn (G : Gv) (l : List PieceM) (k : Int) (hl : l.length < 1000000000) (hc : ∀ p ∈ l, p.cs.length < 1000000000) (hk0 : 0 ≤ k) (hk : k + cntQ l < 1000000000000) :
    Gives Tryz.prog G 125 [.sl 0 (pieces (mkQ k l)), .i .i64 k] (.i .i64 (k + cntQ l)) := by
  refine .of (.body Tryz.func125 rfl (by simp [Tryz.ntmps125]) ?_)
  rw [Tryz.ntmps125, Tryz.results125]
  have hlen : (pieces (mkQ k l)).length = l.length := by rw [pieces_len, mkQ_len]
  replace hc := Hid.mk hc
  generalize hM : mkQ k l = M at hlen
  replace hM := Hid.mk hM
  refine AL ?_
  refine .loop (.inv (fun d E H n' => ∃ (i : Nat) (k' : Int), i + d = l.length ∧ E 0 = .sl 0 (pieces M) ∧ E 1 = .i .i64 k' ∧ E 5 = .i .i64 i ∧ M.drop i = mkQ k' (l.drop i) ∧ k' + cntQ (l.drop i) = k + cntQ l ∧ 0 ≤ k') l.length ?_ ?_)
  · exact ⟨0, k, by omega, by simp [setF_if, argE], by simp [setF_if, argE], by simp [setF_if, argE], by simp [hM.out], by simp, hk0⟩
  rintro d E H n' ⟨i, k', hi, h0, h1, h5, hd, hn, hk'⟩
  replace hn := Hid.mk hn
  replace hd := Hid.mk hd
  by_cases c : (i : Int) < l.length
  · have hw_i : IntKind.i64.wrap ((i : Int) + 1) = (i : Int) + 1 := wr64 (by omega) (by omega)
    obtain ⟨p, hp⟩ : ∃ p, l[i]? = some p := ⟨_, List.getElem?_eq_getElem (by omega)⟩
    have hpl := hc.out p (List.mem_of_getElem? hp)
    have hld := drop_cons hp
    have hd2 := hd.out
    have hn2 := hn.out
    rw [hld] at hd2 hn2
    simp only [mkQ, cntQ] at hd2 hn2
    have hnn := cntQ_nn (l.drop (i + 1))
    have hro : (pieces M)[i]? = some [.sl (cells (runC k' p.cs.length)), .i .i64 (k' + 2 * p.cs.length), .b ((k' + 2 * p.cs.length + 1).tmod 3 == 0)] := by
      have h3 : M[i]? = some ⟨runC k' p.cs.length, k' + 2 * p.cs.length, (k' + 2 * p.cs.length + 1).tmod 3 == 0⟩ := by
        have : (M.drop i)[0]? = some ⟨runC k' p.cs.length, k' + 2 * p.cs.length, (k' + 2 * p.cs.length + 1).tmod 3 == 0⟩ := by rw [hd2]; rfl
        rwa [List.getElem?_drop, Nat.add_zero] at this
      exact pieces_at h3
    have hd3 : M.drop (i + 1) = mkQ (k' + 2 * p.cs.length + 2) (l.drop (i + 1)) := by
      rw [← List.drop_drop (i := 1), hd2]; rfl
    have hhc := heldCellS_fn G k' p.cs.length hpl hk' (by omega)
    have hneg : ¬ (k' + 2 * (p.cs.length : Int) < 0) := by omega
    have hw1 : IntKind.i64.wrap (k' + 2 * (p.cs.length : Int) + 1) = k' + 2 * (p.cs.length : Int) + 1 := wr64 (by omega) (by omega)
    have hw2 : IntKind.i64.wrap (k' + 2 * (p.cs.length : Int) + 1 + 1) = k' + 2 * (p.cs.length : Int) + 2 := by rw [wr64 (by omega) (by omega)]; omega
    have hb1 : (k' + 2 * (p.cs.length : Int) != k' + 2 * (p.cs.length : Int)) = false := by simp
    have hb3 : ∀ b : Bool, (b != b) = false := fun b => by simp
    have hne0 : ¬ ((3 : Int) = 0) := by decide
    generalize hbz : ((k' + 2 * (p.cs.length : Int) + 1).tmod 3 == 0) = bz at hro
    replace hd2 := Hid.mk hd2
    replace hd3 := Hid.mk hd3
    replace hld := Hid.mk hld
    replace hp := Hid.mk hp
    replace hn2 := Hid.mk hn2
    replace hnn := Hid.mk hnn
    replace hhc := Hid.mk hhc
    refine AL ?_
    refine CV hhc.out ?_
    refine AL ?_
    exact ⟨l.length - (i + 1), by omega, i + 1, k' + 2 * p.cs.length + 2, by omega, by simp [setF_if, *], by simp [setF_if, *], by simp [setF_if, *], hd3.out, by have := hn2.out; omega, by omega⟩
  · have ei : i = l.length := by omega
    have hn2 := hn.out
    rw [ei, List.drop_length] at hn2
    simp only [cntQ] at hn2
    refine AL ?_
    simp [retA, backA, setF_if, h1]; omega
theorem heldPuzzle_fn (G : Gv) (n : Nat) (l : List PieceM) (k : Int) (hn : n < 1000000000) (hl : l.length < 1000000000) (hc : ∀ p ∈ l, p.cs.length < 1000000000) (hk0 : 0 ≤ k) (hk : k + 2 * n + cntQ l < 1000000000000) :
    Gives Tryz.prog G 59 [.ag [.sl 0 (cells (runC k n)), .sl 0 (pieces (mkQ (k + 2 * n) l))], .i .i64 k] (.i .i64 (k + 2 * n + cntQ l)) := by
  refine .of (.body Tryz.func59 rfl (by simp [Tryz.ntmps59]) ?_)
  rw [Tryz.ntmps59, Tryz.results59]
  have hnn := cntQ_nn l
  have h1 := heldCellS_fn G k n hn hk0 (by omega)
  have h2 := heldPieceS_fn G l (k + 2 * n) hl hc (by omega) hk
  have hg1 : ¬ (k + 2 * (n : Int) < 0) := by omega
  have hg2 : ¬ (k + 2 * (n : Int) + cntQ l < 0) := by omega
  replace h1 := Hid.mk h1
  replace h2 := Hid.mk h2
  clear hc
  refine AL ?_
  refine CV h1.out ?_
  refine AL ?_
  refine CV h2.out ?_
  refine AL ?_
  simp [retA, backA]
end Go.Proofs
end
section
open Go Go.Big
namespace Go.Proofs
set_option maxHeartbeats 2000000
theorem markPuzzle_m (G : Gv) (r : List (Int × Int)) (l : List PieceM) (k : Int) (hr : r.length < 1000000000) (hl : l.length < 1000000000) (hc : ∀ p ∈ l, p.cs.length < 1000000000) (hk0 : 0 ≤ k) (hk : k + 2 * r.length + cntQ l < 1000000000000) :
    Marks Tryz.prog G 20 (.ag [.sl 1 (cells r), .sl 1 (pieces l)]) (.ag [.sl 1 (cells (runC k r.length)), .sl 1 (pieces (mkQ (k + 2 * r.length) l))]) k (k + 2 * r.length + cntQ l) := by
  intro x H0 n0 S hx hn hS
  have hcn := cntQ_nn l
  obtain ⟨za, zb, s1, s2, rfl, rfl, hxa, hxb⟩ := ownX_ag2 hx
  clear hx
  rw [List.nodup_append] at hn
  obtain ⟨hn1, hn2, hn3⟩ := hn
  have hS1 : ∀ o ∈ s1, o < n0 := fun o ho => hS o (by simp [ho])
  have hS2 : ∀ o ∈ s2, o < n0 := fun o ho => hS o (by simp [ho])
  have pa := (ownX_plain hxa).1
  have pb := (ownX_plain hxb).1
  replace hxa := Hid.mk hxa
  replace hxb := Hid.mk hxb
  replace hn1 := Hid.mk hn1
  replace hn2 := Hid.mk hn2
  replace hn3 := Hid.mk hn3
  replace hS1 := Hid.mk hS1
  replace hS2 := Hid.mk hS2
  replace hc := Hid.mk hc
  clear hS
  refine (.body Tryz.func20 rfl (by simp [Tryz.ntmps20]) ?_)
  rw [Tryz.ntmps20, Tryz.results20]
  refine W.seq ?_
  refine W.region ?_
  refine OP (y := .ptr n0 0 0 0) (H1 := H0.upd n0 (.box 35 [za, zb])) (op := .box 35 (.tmp 0)) ?_ (hs := by rw [st_box]; simp [flatA, pa, pb, argE])
  refine AL ?_
  refine CI ?_
  refine WC.mono (markCellS_m G r k hr hk0 (by omega) _ _ _ s1 (ownX_congr (fun o ho => by rw [upd_if, if_neg (by have := hS1.out o ho; omega)]) hxa.out) hn1.out (fun o ho => by have := hS1.out o ho; omega)) ?_
  rintro _ H1 m ⟨rfl, hm, hz1, hf1⟩
  have hb := hf1 n0 (by omega) (fun h => by have := hS1.out _ h; omega)
  rw [upd_if, if_pos rfl] at hb
  have hxb1 := ownX_congr (H' := H1) (fun o ho => by rw [hf1 o (by have := hS2.out o ho; omega) (fun h => hn3.out o h o ho rfl), upd_if, if_neg (by have := hS2.out o ho; omega)]) hxb.out
  replace hxb1 := Hid.mk hxb1
  replace hz1 := Hid.mk hz1
  replace hf1 := Hid.mk hf1
  clear pa pb
  refine AL ?_
  refine CI ?_
  refine WC.mono (markPieceS_m G l (k + 2 * r.length) hl hc.out (by omega) (by omega) _ _ _ s2 hxb1.out hn2.out (fun o ho => by have := hS2.out o ho; omega)) ?_
  rintro _ H2 m2 ⟨rfl, hm2, hz2, hf2⟩
  have hb2 := hf2 n0 (by omega) (fun h => by have := hS2.out _ h; omega)
  replace hz2 := Hid.mk hz2
  replace hf2 := Hid.mk hf2
  refine AL ?_
  refine ⟨rfl, by omega, ownX_mk2 (ownX_congr (fun o ho => hf2.out o (by have := hS1.out o ho; omega) (fun h => hn3.out o ho o h rfl)) hz1.out) hz2.out, fun o ho hno => ?_⟩
  rw [hf2.out o (by omega) (fun h => hno (by simp [h])), hf1.out o (by omega) (fun h => hno (by simp [h])), upd_if, if_neg (by omega)]
end Go.Proofs
end
section
open Go Go.Big
namespace Go.Proofs
set_option maxHeartbeats 2000000
theorem giveOf_last {H : Heap} {a za b : AV} {q : List (List PV)} {S : List Nat} (h : ownX H (.ag [a, za]) (.ag [b, .sl 1 q]) S) : giveA H za = some (.sl 0 q) := by
  obtain ⟨zi, z, s1, s2, e, _, _, h2⟩ := ownX_ag2 h
  cases e
  exact ownX_gives h2
theorem giveOf_both {H : Heap} {za zb : AV} {q p : List (List PV)} {S : List Nat} (h : ownX H (.ag [za, zb]) (.ag [.sl 1 q, .sl 1 p]) S) : giveA H za = some (.sl 0 q) ∧ giveA H zb = some (.sl 0 p) := by
  obtain ⟨y, z, s1, s2, e, _, h1, h2⟩ := ownX_ag2 h
  cases e
  exact ⟨ownX_gives h1, ownX_gives h2⟩
theorem szP_cnt : ∀ {l : List PieceM} {left : Int}, ¬ szP l left < 0 → cntQ l ≤ 2 * left + 2 * l.length
  | [], left, h => by simp only [szP] at h; simp only [cntQ, List.length_nil]; omega
  | p :: l, left, h => by
    unfold szP at h
    split at h
    · simp at h
    · rename_i c
      have := szP_cnt h
      unfold szN at c this
      split at c
      · simp at c
      · rename_i c2
        rw [if_neg c2] at this
        simp only [cntQ, List.length_cons]; omega
theorem szPz_cnt {r : List (Int × Int)} {l : List PieceM} {left : Int} (h : ¬ szPz r l left < 0) : cntQ l ≤ 2 * left + 2 * left := by
  unfold szPz at h
  split at h
  · simp at h
  · rename_i c
    unfold szPS at h
    split at h
    · simp at h
    · rename_i c2
      have := szP_cnt h
      have := szN_le c
      omega
theorem szPL_cnt : ∀ {l : List (Int × List Int)} {left : Int}, ¬ szPL l left < 0 → cntP l ≤ left + l.length
  | [], left, h => by simp only [szPL] at h; simp only [cntP, List.length_nil]; omega
  | p :: l, left, h => by
    unfold szPL at h
    split at h
    · simp at h
    · rename_i c
      have := szPL_cnt h
      unfold szN at c this
      split at c
      · simp at c
      · rename_i c2
        rw [if_neg c2] at this
        simp only [cntP, List.length_cons]; omega
theorem szPLS_cnt {l : List (Int × List Int)} {left : Int} (h : ¬ szPLS l left < 0) : cntP l ≤ left + left := by
  unfold szPLS at h
  split at h
  · simp at h
  · have := szPL_cnt h
    omega
theorem law_fn (G : Gv) (hA : AllK G) (r : List (Int × Int)) (n : Int) (set : List Int)
    (hr : r.length ≤ 9223372036854775807) (hset : set.length ≤ 9223372036854775807)
    (hpure : r.length < 1000000000 → set.length < 1000000000 → dpM (regionM r) r n set = dpM (regionS r) r n set ∧ ((dpM (regionM r) r n set).1.1.length < 1000000000) ∧ ((dpM (regionM r) r n set).1.2.length < 1000000000) ∧ (∀ p ∈ (dpM (regionM r) r n set).1.2, p.cs.length < 1000000000) ∧ (cntQ (dpM (regionM r) r n set).1.2 < 100000000000)) :
    Gives Tryz.prog G 9 [.sl 0 (cells r), .i .i64 n, .sl 0 (ints set)] (.b true) := by
  refine .of (.body Tryz.func9 rfl (by simp [Tryz.ntmps9]) ?_)
  rw [Tryz.ntmps9, Tryz.results9]
  replace hA := Hid.mk hA
  replace hpure := Hid.mk hpure
  have hslset := ints_len set
  refine AX ?_
  by_cases cg0 : (set.length : Int) > 1048576
  · refine AX ?_
    simp [retA, backA]
  refine AX ?_
  refine CV (szCellS_fn G r (1048576) hr (by omega) (by omega)) ?_
  by_cases c1 : szN r.length (1048576) < 0
  · refine AX ?_
    simp [retA, backA]
  obtain ⟨ga1, gd1, ge1⟩ := szN_le (left := 1048576) c1
  have hr9 : r.length < 1000000000 := by omega
  have hset9 : set.length < 1000000000 := by omega
  obtain ⟨hp, hwr, hwl, hwc, hwk⟩ := hpure.out hr9 hset9
  have hspec := specDesignPuzzle_fn G r n set hr9 hset9
  have himpl := implDesignPuzzle_o G hA.out.toAllH.toAllG hA.out.ok r n set hr9 hset9
  rw [← hp] at hspec
  clear hp
  generalize dpM (regionM r) r n set = W at hspec himpl hwr hwl hwc hwk
  obtain ⟨⟨wr, w⟩, wc⟩ := W
  simp only at hspec himpl hwr hwl hwc hwk
  have hbb : (wc != wc) = false := by simp
  have hwk0 := cntQ_nn w
  replace hwc := Hid.mk hwc
  replace hspec := Hid.mk hspec
  replace himpl := Hid.mk himpl
  refine AX ?_
  refine CV (toCellS_fn G r hr9) ?_
  refine AX ?_
  refine CV (toInt64S_fn G set hset9) ?_
  refine AX ?_
  refine CV hspec.out ?_
  refine AX ?_
  refine CWO (toCellS_o G r hr9) ?_
  intro z1 Hh1 S1 m1 hz1 hn1 hS1 hf1 hm1
  have B20 := hf1 20 (by omega)
  simp [upd_if] at B20
  have R1 := hS1
  clear hS1 hf1
  have gl1 := ownX_gives hz1
  clear gl1
  replace hz1 := Hid.mk hz1
  replace R1 := Hid.mk R1
  replace hn1 := Hid.mk hn1
  refine AX ?_
  refine CWO (toInt64S_o G set hset9) ?_
  intro z2 Hh2 S2 m2 hz2 hn2 hS2 hf2 hm2
  have B20' := (hf2 (20) (by omega)).trans B20
  clear B20
  have hz1' := ownX_congr (fun o ho => hf2 o (by have := R1.out o ho; omega)) hz1.out
  clear hz1
  replace hz1' := Hid.mk hz1'
  have R2 := hS2
  clear hS2 hf2
  have gl2 := ownX_gives hz2
  clear gl2
  replace hz2 := Hid.mk hz2
  replace R2 := Hid.mk R2
  replace hn2 := Hid.mk hn2
  have g1 := ownX_gives hz1'.out
  have g2 := ownX_gives hz2.out
  refine AX ?_
  refine CWO himpl.out ?_
  intro z3 Hh3 S3 m3 hz3 hn3 hS3 hf3 hm3
  try clear g1
  try clear g2
  have B20'' := (hf3 (20) (by omega)).trans B20'
  clear B20'
  have hz1'' := ownX_congr (fun o ho => hf3 o (by have := R1.out o ho; omega)) hz1'.out
  clear hz1'
  replace hz1'' := Hid.mk hz1''
  have hz2' := ownX_congr (fun o ho => hf3 o (by have := R2.out o ho; omega)) hz2.out
  clear hz2
  replace hz2' := Hid.mk hz2'
  obtain ⟨zw3, zc3, Sw3, Sc3, rfl, rfl, hw3, hc3⟩ := ownX_tup2 hz3
  obtain ⟨rfl, rfl⟩ := ownX_i hc3
  simp only [List.append_nil] at hn3 hS3
  clear hc3 hz3
  obtain ⟨za3, zb3, sa3, sb3, rfl, rfl, Xa3, Xb3⟩ := ownX_ag2 hw3
  have Ra3 := fun o (ho : o ∈ sa3) => hS3 o (by simp [ho])
  have Rb3 := fun o (ho : o ∈ sb3) => hS3 o (by simp [ho])
  clear hw3 hS3 hf3
  replace Xa3 := Hid.mk Xa3
  replace Ra3 := Hid.mk Ra3
  replace Xb3 := Hid.mk Xb3
  replace Rb3 := Hid.mk Rb3
  replace hn3 := Hid.mk hn3
  refine AX ?_
  have pl_za3 := (ownX_plain (ownX_congr (H' := Hh3.upd (m3 + 3) (.box 35 [.nil, .nil])) (fun o ho => by rw [upd_if, if_neg (by have := Ra3.out o ho; omega)]) Xa3.out)).1
  have pl_zb3 := (ownX_plain (ownX_congr (H' := Hh3.upd (m3 + 3) (.box 35 [.nil, .nil])) (fun o ho => by rw [upd_if, if_neg (by have := Rb3.out o ho; omega)]) Xb3.out)).1
  refine OPN (op := .store 35 (.tmp 12) (.tmp 45)) (H1 := (Hh3.upd (m3 + 3) (.box 35 [.nil, .nil])).upd (m3 + 3) (.box 35 [za3, zb3])) (y := .un) ?_ (hs := by
    rw [st_store]
    simp only [look_tmp, setF_if, Nat.reduceEqDiff, reduceIte, flatA, List.all_cons, List.all_nil, pl_za3, pl_zb3, Bool.and_self, BT.all, storeA, upd_if, putA, List.length_cons, List.length_nil, Nat.reduceAdd, Nat.reduceLeDiff, List.set_cons_zero, List.set_cons_succ, Option.map_some])
  repeat first | refine OP ?_ | refine SK ?_ | refine OPN ?_ | refine WR.nil ?_
  refine TH ?_
  refine W.cutn ?_
  intro EX1 HX1 NX1 hEX hHX hNX
  have e0_1 := hEX 0
  have e1_1 := hEX 1
  have e2_1 := hEX 2
  have e8_1 := hEX 8
  have e9_1 := hEX 9
  have e10_1 := hEX 10
  have e11_1 := hEX 11
  have e12_1 := hEX 12
  have e13_1 := hEX 13
  simp only [setF_if, argE, Nat.reduceEqDiff, reduceIte, List.getElem?_cons_zero, List.getElem?_cons_succ, Option.getD_some] at e0_1 e1_1 e2_1 e8_1 e9_1 e10_1 e11_1 e12_1 e13_1
  have hN1 : m3 + 3 < NX1 := by omega
  have B20''' := (show HX1 (20) = Hh3 (20) by rw [hHX, upd_if, if_neg (by omega), upd_if, if_neg (by omega)]).trans B20''
  have bx1 : HX1 (m3 + 3) = some (.box 35 [za3, zb3]) := by rw [hHX, upd_if, if_pos rfl]
  have hz1''' := ownX_congr (H' := HX1) (fun o ho => by have := R1.out o ho; rw [hHX, upd_if, if_neg (by omega), upd_if, if_neg (by omega)]) hz1''.out
  clear hz1''
  replace hz1''' := Hid.mk hz1'''
  have hz2'' := ownX_congr (H' := HX1) (fun o ho => by have := R2.out o ho; rw [hHX, upd_if, if_neg (by omega), upd_if, if_neg (by omega)]) hz2'.out
  clear hz2'
  replace hz2'' := Hid.mk hz2''
  have Xa3' := ownX_congr (H' := HX1) (fun o ho => by have := Ra3.out o ho; rw [hHX, upd_if, if_neg (by omega), upd_if, if_neg (by omega)]) Xa3.out
  clear Xa3
  replace Xa3' := Hid.mk Xa3'
  have Xb3' := ownX_congr (H' := HX1) (fun o ho => by have := Rb3.out o ho; rw [hHX, upd_if, if_neg (by omega), upd_if, if_neg (by omega)]) Xb3.out
  clear Xb3
  replace Xb3' := Hid.mk Xb3'
  clear hEX hHX hNX pl_za3 pl_zb3 B20''
  have g1 := ownX_gives hz1'''.out
  have g2 := ownX_gives hz2''.out
  have ga3 := ownX_gives Xa3'.out
  have gb3 := ownX_gives Xb3'.out
  refine AX ?_
  refine CV (eqPuzzle_fn G wr w hwr hwl hwc.out) ?_
  refine AX ?_
  refine CV (toCellS_fn G r hr9) ?_
  refine AX ?_
  refine CV (eqCellS_fn G r hr9) ?_
  refine AX ?_
  refine CV (toInt64S_fn G set hset9) ?_
  refine AX ?_
  refine CV (eqInt64S_fn G set hset9) ?_
  refine AX ?_
  refine CI ?_
  refine WC.mono (markCellS_m G r (1) hr9 (by omega) (by omega) _ _ _ S1 hz1'''.out hn1.out (fun o ho => by have := R1.out o ho; omega)) ?_
  rintro _ Hh4 m4 ⟨rfl, hm4, hw4, hf4⟩
  try clear g1
  try clear g2
  try clear ga3
  try clear gb3
  have B20'''' := (hf4 (20) (by omega) (fun h => by have := R1.out _ h; omega)).trans B20'''
  clear B20'''
  have bx1' := (hf4 (m3 + 3) (by omega) (fun h => by have := R1.out _ h; omega)).trans bx1
  clear bx1
  have hz2''' := ownX_congr (fun o ho => hf4 o (by have := R2.out o ho; omega) (fun h => by have := R2.out o ho; have := R1.out _ h; omega)) hz2''.out
  clear hz2''
  replace hz2''' := Hid.mk hz2'''
  have Xa3'' := ownX_congr (fun o ho => hf4 o (by have := Ra3.out o ho; omega) (fun h => by have := Ra3.out o ho; have := R1.out _ h; omega)) Xa3'.out
  clear Xa3'
  replace Xa3'' := Hid.mk Xa3''
  have Xb3'' := ownX_congr (fun o ho => hf4 o (by have := Rb3.out o ho; omega) (fun h => by have := Rb3.out o ho; have := R1.out _ h; omega)) Xb3'.out
  clear Xb3'
  replace Xb3'' := Hid.mk Xb3''
  clear hf4 hw4
  refine AX ?_
  refine CI ?_
  refine WC.mono (markInt64S_m G set (1 + 2 * r.length) hset9 (by omega) (by omega) _ _ _ S2 hz2'''.out hn2.out (fun o ho => by have := R2.out o ho; omega)) ?_
  rintro _ Hh5 m5 ⟨rfl, hm5, hw5, hf5⟩
  try clear g2
  try clear ga3
  try clear gb3
  have B20''''' := (hf5 (20) (by omega) (fun h => by have := R2.out _ h; omega)).trans B20''''
  clear B20''''
  have bx1'' := (hf5 (m3 + 3) (by omega) (fun h => by have := R2.out _ h; omega)).trans bx1'
  clear bx1'
  have Xa3''' := ownX_congr (fun o ho => hf5 o (by have := Ra3.out o ho; omega) (fun h => by have := Ra3.out o ho; have := R2.out _ h; omega)) Xa3''.out
  clear Xa3''
  replace Xa3''' := Hid.mk Xa3'''
  have Xb3''' := ownX_congr (fun o ho => hf5 o (by have := Rb3.out o ho; omega) (fun h => by have := Rb3.out o ho; have := R2.out _ h; omega)) Xb3''.out
  clear Xb3''
  replace Xb3''' := Hid.mk Xb3'''
  clear hf5 hw5
  have hkn : ¬ (1 + 2 * r.length + set.length < 0) := by omega
  have ga3 := ownX_gives Xa3'''.out
  have gb3 := ownX_gives Xb3'''.out
  refine AX ?_
  refine CV (eqPuzzle_fn G wr w hwr hwl hwc.out) ?_
  refine AX ?_
  refine CI ?_
  refine WC.mono (markPuzzle_m G wr w 1 hwr hwl hwc.out (by omega) (by omega) _ _ _ (sa3 ++ sb3) (ownX_mk2 Xa3'''.out Xb3'''.out) (by simpa using hn3.out) (fun o ho => by simp only [List.nil_append, List.mem_append] at ho; rcases ho with ho | ho; have := Ra3.out o ho; omega; have := Rb3.out o ho; omega)) ?_
  rintro _ Hh6 m6 ⟨rfl, hm6, hw6, hf6⟩
  try clear ga3
  try clear gb3
  have B20'''''' := (hf6 (20) (by omega) (fun h => by simp only [List.nil_append, List.mem_append] at h; rcases h with h | h; have := Ra3.out _ h; omega; have := Rb3.out _ h; omega)).trans B20'''''
  clear B20'''''
  have bx1''' := (hf6 (m3 + 3) (by omega) (fun h => by simp only [List.nil_append, List.mem_append] at h; rcases h with h | h; have := Ra3.out _ h; omega; have := Rb3.out _ h; omega)).trans bx1''
  clear bx1''
  clear hf6
  try clear hkn
  have hkn : ¬ (1 + 2 * wr.length + cntQ w < 0) := by omega
  have hkk : (1 + 2 * wr.length + cntQ w != 1 + 2 * wr.length + cntQ w) = false := by simp
  obtain ⟨ga3, gb3⟩ := giveOf_both hw6
  replace hw6 := Hid.mk hw6
  refine AX ?_
  refine CV (heldPuzzle_fn G wr.length w 1 hwr hwl hwc.out (by omega) (by omega)) ?_
  refine AX ?_
  refine CV (toCellS_fn G r hr9) ?_
  refine AX ?_
  refine CV (toInt64S_fn G set hset9) ?_
  have hlt0 : 20 < m6 := by omega
  have hlt1 : m3 + 3 < m6 := by omega
  have hltb1 : m3 < m6 := by omega
  refine AX ?_
  refine CV himpl.out.gives ?_
  repeat first | refine OP ?_ | refine OPN ?_ | refine WR.nil ?_
  refine TH ?_
  refine W.cutn ?_
  intro EX2 HX2 NX2 hEX hHX hNX
  have e8_2 := hEX 8
  have e9_2 := hEX 9
  have e12_2 := hEX 12
  have e15_2 := hEX 15
  have e17_2 := hEX 17
  have e18_2 := hEX 18
  simp only [setF_if, argE, Nat.reduceEqDiff, reduceIte, List.getElem?_cons_zero, List.getElem?_cons_succ, Option.getD_some, e0_1, e1_1, e2_1, e8_1, e9_1, e10_1, e11_1, e12_1, e13_1] at e8_2 e9_2 e12_2 e15_2 e17_2 e18_2
  have hN2 : m6 + 20 < NX2 := by omega
  have B20''''''' := (show HX2 (20) = Hh6 (20) by rw [hHX, upd_if, if_neg (by omega), upd_if, if_neg (by omega)]).trans B20''''''
  have bx1'''' := (show HX2 (m3 + 3) = Hh6 (m3 + 3) by rw [hHX, upd_if, if_neg (by omega), upd_if, if_neg (by omega)]).trans bx1'''
  have bxL : HX2 (m6 + 20) = some (.box 35 [.sl 1 (cells wr), .sl 1 (pieces w)]) := by rw [hHX, upd_if, if_pos rfl]
  clear ga3 gb3
  have hcg : ∀ o, o ∈ sa3 ++ sb3 → HX2 o = Hh6 o := fun o ho => by
    have hq : o < m6 := by
      rcases List.mem_append.mp ho with ho | ho
      · have := Ra3.out o ho; omega
      · have := Rb3.out o ho; omega
    rw [hHX, upd_if, if_neg (by omega), upd_if, if_neg (by omega)]
  obtain ⟨ga3, gb3⟩ := giveOf_both (ownX_congr (H' := HX2) hcg hw6.out)
  clear hcg
  clear hEX hHX hNX B20'''''' bx1''' e0_1 e1_1 e2_1 e8_1 e9_1 e10_1 e11_1 e12_1 e13_1
  refine AX ?_
  refine CV (eqPuzzle_fn G wr w hwr hwl hwc.out) ?_
  refine AX ?_
  refine CV (heldPuzzle_fn G wr.length w 1 hwr hwl hwc.out (by omega) (by omega)) ?_
  refine AX ?_
  simp [retA, backA]
end Go.Proofs
end
