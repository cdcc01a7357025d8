/- Walks: What is a solution. No condition. | What is a solution: both programs. No condition. | Plain law: the two programs agree on what is a solution. No condition. | Whether a number is in a list: the library's search. No condition. | A solution turned: both programs. Condition: the given contracts hold. -/
import Derived.Test.YtdbkkjoejomcmaaGreatBO
import Derived.Test.YtdbkkjoejomcmaaGreatWk12
import Derived.Test.YtdbkkjoejomcmaaGreatWk8
import Derived.Test.YtdbkkjoejomcmaaGreatWk4
import Derived.Test.YtdbkkjoejomcmaaGreatWk1
import Derived.Test.YtdbkkjoejomcmaaGreatWk11
import Derived.Test.YtdbkkjoejomcmaaGreatBC
set_option linter.unusedVariables false
set_option linter.unusedSimpArgs false
section
open Go Go.Big
namespace Go.Proofs
set_option maxHeartbeats 2000000
def bools (l : List Bool) : List (List PV) := l.map fun x => [.b x]
theorem bools_len (l : List Bool) : (bools l).length = l.length := by simp [bools]
theorem bools_at {l : List Bool} {i : Nat} (h : i < l.length) : (bools l)[i]? = some [.b (l.getD i false)] := by simp [bools, h, List.getD_eq_getElem?_getD]
theorem bools_set (l : List Bool) (k : Nat) (v : Bool) : bools (l.set k v) = (bools l).set k [.b v] := by simp [bools, List.map_set]
def covC : List Bool → List Int → Option (List Bool)
  | cov, [] => some cov
  | cov, c :: cs => if cov.getD c.toNat false then none else covC (cov.set c.toNat true) cs
def covL : List Bool → List (Int × List Int) → Option (List Bool)
  | cov, [] => some cov
  | cov, x :: l => (covC cov x.2).bind fun c => covL c l
def incM (out : List Int) (x : Int × List Int) : List Int := out.set x.1.toNat (IntKind.i64.wrap (out.getD x.1.toNat 0 + 1))
theorem inc_len : ∀ (s : List (Int × List Int)) (o : List Int), (s.foldl incM o).length = o.length
  | [], _ => rfl
  | x :: s, o => by rw [List.foldl_cons, inc_len s]; simp [incM]
def countM (l : List PieceM) (s : List (Int × List Int)) : List Int := s.foldl incM (List.replicate l.length 0)
def sumI (l : List PieceM) (s : List (Int × List Int)) (i : Nat) : Bool := (countM l s).getD i 0 == (l.getD i pc0).k
def solvedI (r : List (Int × Int)) (l : List PieceM) (s : List (Int × List Int)) : Bool :=
  ascM (fun x => placeI r l x.1 x.2) s && (covL (List.replicate r.length false) s).isSome && (List.range l.length).all (sumI l s)
theorem asc_mem {P : Int × List Int → Bool} {s : List (Int × List Int)} (h : ascM P s = true) {x : Int × List Int} (hx : x ∈ s) : P x = true := by
  obtain ⟨i, hi, rfl⟩ := List.mem_iff_getElem.mp hx
  have := List.all_eq_true.mp h i (List.mem_range.mpr hi)
  unfold ascAt at this
  rw [Bool.and_eq_true] at this
  simpa [List.getD_eq_getElem?_getD, hi] using this.1
theorem place_ok {r : List (Int × Int)} {l : List PieceM} {k : Int} {s : List Int} (h : placeI r l k s = true) : (0 ≤ k ∧ k < l.length) ∧ ∀ c ∈ s, 0 ≤ c ∧ c < r.length := by
  unfold placeI at h
  simp only [Bool.and_eq_true, decide_eq_true_eq] at h
  obtain ⟨⟨⟨⟨h1, h2⟩, _⟩, h3⟩, _⟩ := h
  exact ⟨⟨h1, by omega⟩, fun c hc => by have := inc_mem h3 c hc; omega⟩
theorem isSolved_fn (G : Gv) (hG : ∀ f args H n r H' n', sortsG f args H n r H' n' → G f args H n r H' n') (hG1 : ∀ f args H n r H' n', sortsG1 f args H n r H' n' → G f args H n r H' n') (r : List (Int × Int)) (l : List PieceM) (s : List (Int × List Int)) (hr1 : 1 ≤ r.length) (hr : r.length < 1000000000) (hl1 : 1 ≤ l.length) (hl : l.length < 1000000000) (hs : s.length < 1000000000) (hsc : ∀ x ∈ s, x.2.length < 1000000000) (hp0 : ∀ p ∈ l, 0 < p.cs.length) (hpl : ∀ p ∈ l, p.cs.length < 1000000000) :
    Gives Tryz.prog G 167 [.ag [.sl 0 (cells r), .sl 0 (pieces l)], .sl 0 (places s)] (.b (solvedI r l s)) := by
  refine .of (.body Tryz.func167 rfl (by simp [Tryz.ntmps167]) ?_)
  rw [Tryz.ntmps167, Tryz.results167]
  replace hG := Hid.mk hG
  replace hG1 := Hid.mk hG1
  replace hsc := Hid.mk hsc
  replace hp0 := Hid.mk hp0
  replace hpl := Hid.mk hpl
  have hlens := places_len s
  have hlenr := cells_len r
  have hlenl := pieces_len l
  have b1 : ((8 : Nat) : Int) * l.length ≤ 281474976710656 := by simp; omega
  have b2 : (l.length : Int) ≤ 9223372036854775807 := by omega
  have b3 : (0 : Int) ≤ l.length := by omega
  have d1 : ((1 : Nat) : Int) * r.length ≤ 281474976710656 := by simp; omega
  have d2 : (r.length : Int) ≤ 9223372036854775807 := by omega
  have d3 : (0 : Int) ≤ r.length := by omega
  refine AL ?_
  refine CV (isAscending_fn G hG.out hG1.out r l s hr1 hr hl1 hl hs hsc.out hp0.out hpl.out) ?_
  by_cases ca : ascM (fun x => placeI r l x.1 x.2) s = true
  · have hin : ∀ x ∈ s, (0 ≤ x.1 ∧ x.1 < l.length) ∧ ∀ c ∈ x.2, 0 ≤ c ∧ c < r.length := fun x hx => place_ok (asc_mem ca hx)
    replace hin := Hid.mk hin
    unfold solvedI
    rw [ca]
    replace ca := Hid.mk ca
    generalize hcov0 : covL (List.replicate r.length false) s = fin
    replace hcov0 := Hid.mk hcov0
    refine AL ?_
    refine .loop (.inv (fun d E H n' => ∃ i : Nat, i + d = s.length ∧ 14 < n' ∧ E 2 = .ptr 0 0 0 0 ∧ E 5 = .own 9 0 ∧ E 6 = .own 14 0 ∧ E 25 = .sl 0 (places s) ∧ E 26 = .i .i64 s.length ∧ E 27 = .i .i64 i ∧ H 0 = some (.box 35 [.sl 0 (cells r), .sl 0 (pieces l)]) ∧ H 9 = some (.arr 0 2 1 (ints ((s.take i).foldl incM (List.replicate l.length 0))) 1) ∧ ∃ cov, H 14 = some (.arr 0 4 1 (bools cov) 1) ∧ cov.length = r.length ∧ covL cov (s.drop i) = fin) s.length ?_ ?_)
    · exact ⟨0, by omega, by omega, by simp [setF_if, argE], by simp [setF_if, argE], by simp [setF_if, argE], by simp [setF_if, argE], by simp [setF_if, argE, hlens], by simp [setF_if, argE], by simp [upd_if], by simp [upd_if, ints], List.replicate r.length false, by simp [upd_if, bools, hlenr], by simp, by simpa using hcov0.out⟩
    · clear b1 b2 b3 d1 d2 d3
      rintro d E H n' ⟨i, hi, hn, h2, h5, h6, h25, h26, h27, hH0, hH9, cov, hH14, hcl, hcv⟩
      have hn9 : 9 < n' := by omega
      have hn0 : 0 < n' := by omega
      have hn11 : ¬ (n' = 11) := by omega
      by_cases c : (i : Int) < s.length
      · have hw_i : IntKind.i64.wrap ((i : Int) + 1) = (i : Int) + 1 := wr64 (by omega) (by omega)
        obtain ⟨x, hx⟩ : ∃ x, s[i]? = some x := ⟨_, List.getElem?_eq_getElem (by omega)⟩
        have hr' := places_at hx
        obtain ⟨⟨k1, k2⟩, kc⟩ := hin.out x (List.mem_of_getElem? hx)
        have hxl := hsc.out x (List.mem_of_getElem? hx)
        replace kc := Hid.mk kc
        have hol : ((s.take i).foldl incM (List.replicate l.length 0)).length = l.length := by rw [inc_len]; simp
        have hft := foldl_take (f := incM) (z := List.replicate l.length (0 : Int)) hx
        have hro := ints_at (l := (s.take i).foldl incM (List.replicate l.length 0)) (i := x.1.toNat) (by omega)
        have hro2 : x.1.toNat < (ints ((s.take i).foldl incM (List.replicate l.length 0))).length := by rw [ints_len]; omega
        have hset := ints_set ((s.take i).foldl incM (List.replicate l.length 0)) x.1.toNat (IntKind.i64.wrap (((s.take i).foldl incM (List.replicate l.length 0)).getD x.1.toNat 0 + 1))
        rw [show ((s.take i).foldl incM (List.replicate l.length 0)).set x.1.toNat (IntKind.i64.wrap (((s.take i).foldl incM (List.replicate l.length 0)).getD x.1.toNat 0 + 1)) = (s.take (i + 1)).foldl incM (List.replicate l.length 0) by rw [hft]; rfl] at hset
        replace hset := hset.symm
        generalize ((s.take i).foldl incM (List.replicate l.length 0)).getD x.1.toNat 0 = v at hro hset
        generalize ints ((s.take i).foldl incM (List.replicate l.length 0)) = R at hH9 hro hro2 hset
        rw [drop_cons hx, covL] at hcv
        replace hcv := Hid.mk hcv
        replace hx := Hid.mk hx
        replace hft := Hid.mk hft
        clear hol
        obtain ⟨xk, xs⟩ := x
        simp only at k1 k2 kc hxl hro hro2 hset hcv
        have hlenx := ints_len xs
        refine AL ?_
        refine .loop (.inv (fun d2 E H n' => ∃ j : Nat, j + d2 = xs.length ∧ 14 < n' ∧ E 2 = .ptr 0 0 0 0 ∧ E 5 = .own 9 0 ∧ E 6 = .own 14 0 ∧ E 25 = .sl 0 (places s) ∧ E 26 = .i .i64 s.length ∧ E 27 = .i .i64 i ∧ E 39 = .sl 0 (ints xs) ∧ E 40 = .i .i64 xs.length ∧ E 41 = .i .i64 j ∧ H 0 = some (.box 35 [.sl 0 (cells r), .sl 0 (pieces l)]) ∧ H 9 = some (.arr 0 2 1 (ints ((s.take (i + 1)).foldl incM (List.replicate l.length 0))) 1) ∧ ∃ cov, H 14 = some (.arr 0 4 1 (bools cov) 1) ∧ cov.length = r.length ∧ (covC cov (xs.drop j)).bind (fun c => covL c (s.drop (i + 1))) = fin) xs.length ?_ ?_)
        · exact ⟨0, by omega, by omega, by simp [setF_if, *], by simp [setF_if, *], by simp [setF_if, *], by simp [setF_if, *], by simp [setF_if, *], by simp [setF_if, *], by simp [setF_if, *], by simp [setF_if, *], by simp [setF_if, *], by simp [upd_if, *], by simp [upd_if, *], cov, by simp [upd_if, *], hcl, by simpa using hcv.out⟩
        clear h2 h5 h6 h25 h26 h27 hH0 hH9 hH14 hcl hcv hro hro2 hset hn hn9 hn0 hn11
        clear cov
        rintro d2 E H n' ⟨j, hj, hn, h2, h5, h6, h25, h26, h27, h39, h40, h41, hH0, hH9, cov, hH14, hcl, hcv⟩
        by_cases cj : (j : Int) < xs.length
        · have hw_j : IntKind.i64.wrap ((j : Int) + 1) = (j : Int) + 1 := wr64 (by omega) (by omega)
          obtain ⟨y, hy⟩ : ∃ y, xs[j]? = some y := ⟨_, List.getElem?_eq_getElem (by omega)⟩
          have hrj := ints_row hy
          obtain ⟨y1, y2⟩ := kc.out y (List.mem_of_getElem? hy)
          rw [drop_cons hy, covC] at hcv
          have hb := bools_at (l := cov) (i := y.toNat) (by omega)
          have hb2 : y.toNat < (bools cov).length := by rw [bools_len]; omega
          have hbs := (bools_set cov y.toNat true).symm
          have hsl : (cov.set y.toNat true).length = r.length := by simpa using hcl
          replace hsl := Hid.mk hsl
          replace hcv := Hid.mk hcv
          replace hy := Hid.mk hy
          replace hcl := Hid.mk hcl
          by_cases cc : cov.getD y.toNat false = true
          · have hf : fin = none := by have := hcv.out; rw [if_pos cc] at this; exact this.symm
            rw [cc] at hb
            replace hf := Hid.mk hf
            refine AL ?_
            simp [retA, backA, hf.out]
          · have hcv' := hcv.out
            rw [if_neg cc] at hcv'
            replace hcv' := Hid.mk hcv'
            rw [Bool.eq_false_iff.mpr cc] at hb
            generalize cov.set y.toNat true = cov2 at hbs hsl hcv'
            refine AL ?_
            exact ⟨xs.length - (j + 1), by omega, j + 1, by omega, by omega, by simp [setF_if, *], by simp [setF_if, *], by simp [setF_if, *], by simp [setF_if, *], by simp [setF_if, *], by simp [setF_if, *], by simp [setF_if, *], by simp [setF_if, *], by simp [setF_if, *], by simp [upd_if, *], by simp [upd_if, *], cov2, by simp [upd_if, *], hsl.out, hcv'.out⟩
        · have ej : j = xs.length := by omega
          rw [ej, List.drop_length, covC, Option.bind_some] at hcv
          replace hcv := Hid.mk hcv
          replace hcl := Hid.mk hcl
          clear hj ej
          refine AL ?_
          exact ⟨s.length - (i + 1), by omega, i + 1, by omega, by omega, by simp [setF_if, *], by simp [setF_if, *], by simp [setF_if, *], by simp [setF_if, *], by simp [setF_if, *], by simp [setF_if, *], by simp [upd_if, *], by simp [upd_if, *], cov, by simp [upd_if, *], hcl.out, hcv.out⟩
      · have ei : i = s.length := by omega
        rw [ei, List.drop_length, covL] at hcv
        rw [ei, List.take_length] at hH9
        subst hcv
        have hol : (s.foldl incM (List.replicate l.length 0)).length = l.length := by rw [inc_len]; simp
        clear hH14 hcl ei hi
        refine AL ?_
        refine .loop (.inv (fun d E H n' => ∃ i : Nat, i + d = l.length ∧ 14 < n' ∧ E 5 = .own 9 0 ∧ E 55 = .sl 0 (pieces l) ∧ E 56 = .i .i64 l.length ∧ E 57 = .i .i64 i ∧ H 9 = some (.arr 0 2 1 (ints (s.foldl incM (List.replicate l.length 0))) 1) ∧ (∀ j, j < i → sumI l s j = true)) l.length ?_ ?_)
        · exact ⟨0, by omega, by omega, by simp [setF_if, *], by simp [setF_if, *], by simp [setF_if, *], by simp [setF_if, *], by simp [upd_if, *], fun j hj => by omega⟩
        clear h2 h5 h6 h25 h26 h27 hH0 hH9 hn c hn9 hn0 hn11
        rintro d E H n' ⟨i, hi, hn, h5, h55, h56, h57, hH9, hall⟩
        have hn9 : 9 < n' := by omega
        have hn5 : ¬ (n' = 5) := by omega
        replace hall := Hid.mk hall
        by_cases c : (i : Int) < l.length
        · have hw_i : IntKind.i64.wrap ((i : Int) + 1) = (i : Int) + 1 := wr64 (by omega) (by omega)
          obtain ⟨p, hp⟩ : ∃ p, l[i]? = some p := ⟨_, List.getElem?_eq_getElem (by omega)⟩
          have hrp : (pieces l)[i]? = some (pieceR p) := by simp [pieces, hp]
          have hpd : l.getD i pc0 = p := by rw [List.getD_eq_getElem?_getD, hp]; rfl
          have hro := ints_at (l := s.foldl incM (List.replicate l.length 0)) (i := i) (by omega)
          have hro2 : i < (ints (s.foldl incM (List.replicate l.length 0))).length := by rw [ints_len]; omega
          have hat : sumI l s i = ((s.foldl incM (List.replicate l.length 0)).getD i 0 == p.k) := by unfold sumI countM; rw [hpd]
          have hno : sumI l s i = false → (List.range l.length).all (sumI l s) = false := fun h => all_no (by omega) h
          have more : sumI l s i = true → ∀ j, j < i + 1 → sumI l s j = true := fun h j hj => by
            by_cases e : j = i
            · rw [e]; exact h
            · exact hall.out j (by omega)
          replace hno := Hid.mk hno
          replace more := Hid.mk more
          replace hp := Hid.mk hp
          clear hpd
          generalize (s.foldl incM (List.replicate l.length 0)).getD i 0 = v at hro hat
          replace hat := Hid.mk hat
          by_cases cv : (v != p.k) = true
          · refine AL ?_
            have := hno.out (by rw [hat.out]; simpa using cv)
            simp [retA, backA, this]
          · refine AL ?_
            exact ⟨l.length - (i + 1), by omega, i + 1, by omega, by omega, by simp [setF_if, *], by simp [setF_if, *], by simp [setF_if, *], by simp [setF_if, *], by simp [upd_if, *], more.out (by rw [hat.out]; simpa using cv)⟩
        · have hyes : (List.range l.length).all (sumI l s) = true := all_yes (fun j hj => hall.out j (by omega))
          refine AL ?_
          simp [retA, backA, hyes]
  · refine AL ?_
    simp [retA, backA, solvedI, ca]
end Go.Proofs
end
section
open Go Go.Big
namespace Go.Proofs
set_option maxHeartbeats 2000000
theorem fitsS_ok {r : List (Int × Int)} {l : List PieceM} (h : fitsS r l = true) : 1 ≤ r.length ∧ 1 ≤ l.length ∧ ∀ p ∈ l, 0 < p.cs.length := by
  unfold fitsS at h
  rw [Bool.and_eq_true] at h
  exact puzzleS_ok h.1
theorem fitsI_ok {r : List (Int × Int)} {l : List PieceM} (h : fitsI r l = true) : 1 ≤ r.length ∧ 1 ≤ l.length ∧ ∀ p ∈ l, 0 < p.cs.length := by
  unfold fitsI at h
  rw [Bool.and_eq_true] at h
  exact puzzleI_ok h.1
def isSolvedI (r : List (Int × Int)) (l : List PieceM) (s : List (Int × List Int)) : Bool := fitsI r l && solvedI r l s
def codeM (r : List (Int × Int)) (l : List PieceM) (s : List (Int × List Int)) : Int := if fitsS r l then (if ascM (fun x => placeS r l x.1 x.2) s then 0 else 2) else 1
theorem l15Code_fn (G : Gv) (r : List (Int × Int)) (l : List PieceM) (s : List (Int × List Int)) (hr : r.length < 1000000000) (hl : l.length < 1000000000) (hs : s.length < 1000000000) (hsc : ∀ x ∈ s, x.2.length < 1000000000) (hpl : ∀ p ∈ l, p.cs.length < 1000000000) :
    Gives Tryz.prog G 61 [.ag [.sl 0 (cells r), .sl 0 (pieces l)], .sl 0 (places s)] (.i .i64 (codeM r l s)) := by
  refine .of (.body Tryz.func61 rfl (by simp [Tryz.ntmps61]) ?_)
  rw [Tryz.ntmps61, Tryz.results61]
  replace hsc := Hid.mk hsc
  replace hpl := Hid.mk hpl
  refine AL ?_
  refine CV (specDoesFit_fn G r l hr hl hpl.out) ?_
  by_cases c : fitsS r l = true
  · obtain ⟨g1, g2, g3⟩ := fitsS_ok c
    replace g3 := Hid.mk g3
    refine AL ?_
    refine CV (l15List_fn G r l s g1 hr g2 hl hs hsc.out g3.out hpl.out) ?_
    by_cases ca : ascM (fun x => placeS r l x.1 x.2) s = true
    · refine AL ?_
      simp [retA, backA, codeM, c, ca]
    · refine AL ?_
      simp [retA, backA, codeM, c, ca]
  · refine AL ?_
    simp [retA, backA, codeM, c]
def clearAt (s : List (Int × List Int)) (i : Nat) : Bool := clearM (s.take i) (s.getD i pz).2
def zeroAt (o : List Int) (i : Nat) : Bool := o.getD i 0 == 0
def solvedS (r : List (Int × Int)) (l : List PieceM) (s : List (Int × List Int)) : Bool :=
  fitsS r l && ascM (fun x => placeS r l x.1 x.2) s && (List.range s.length).all (clearAt s) && (List.range (leftM l s).length).all (zeroAt (leftM l s))
theorem placeS_ok {r : List (Int × Int)} {l : List PieceM} {k : Int} {s : List Int} (h : placeS r l k s = true) : (0 ≤ k ∧ k < l.length) ∧ ∀ c ∈ s, 0 ≤ c ∧ c < r.length := by
  unfold placeS at h
  simp only [Bool.and_eq_true, decide_eq_true_eq] at h
  obtain ⟨⟨⟨⟨h1, h2⟩, _⟩, h3⟩, _⟩ := h
  exact ⟨⟨h1, by omega⟩, fun c hc => by have := inc_mem h3 c hc; omega⟩
theorem specIsSolved_fn (G : Gv) (r : List (Int × Int)) (l : List PieceM) (s : List (Int × List Int)) (hr : r.length < 1000000000) (hl : l.length < 1000000000) (hs : s.length < 1000000000) (hsc : ∀ x ∈ s, x.2.length < 1000000000) (hpl : ∀ p ∈ l, p.cs.length < 1000000000) :
    Gives Tryz.prog G 165 [.ag [.sl 0 (cells r), .sl 0 (pieces l)], .sl 0 (places s)] (.b (solvedS r l s)) := by
  refine .of (.body Tryz.func165 rfl (by simp [Tryz.ntmps165]) ?_)
  rw [Tryz.ntmps165, Tryz.results165]
  replace hsc := Hid.mk hsc
  replace hpl := Hid.mk hpl
  have hlens := places_len s
  refine AL ?_
  refine CV (l15Code_fn G r l s hr hl hs hsc.out hpl.out) ?_
  by_cases c1 : fitsS r l = true
  · by_cases c2 : ascM (fun x => placeS r l x.1 x.2) s = true
    · have hcode : codeM r l s = 0 := by simp [codeM, c1, c2]
      have hk : ∀ x ∈ s, 0 ≤ x.1 ∧ x.1 < l.length := fun x hx => (placeS_ok (asc_mem c2 hx)).1
      have hsv : solvedS r l s = ((List.range s.length).all (clearAt s) && (List.range (leftM l s).length).all (zeroAt (leftM l s))) := by simp [solvedS, c1, c2]
      rw [hsv]
      replace hk := Hid.mk hk
      replace c2 := Hid.mk c2
      replace c1 := Hid.mk c1
      clear hsv
      refine AL ?_
      refine .loop (.inv (fun d E H n' => ∃ i : Nat, i + d = s.length ∧ 0 < n' ∧ E 1 = .sl 0 (places s) ∧ E 2 = .ptr 0 0 0 0 ∧ E 5 = .i .i64 i ∧ H 0 = some (.box 35 [.sl 0 (cells r), .sl 0 (pieces l)]) ∧ (∀ j, j < i → clearAt s j = true)) s.length ?_ ?_)
      · exact ⟨0, by omega, by omega, by simp [setF_if, argE], by simp [setF_if, argE], by simp [setF_if, argE], by simp [upd_if], fun j hj => by omega⟩
      clear hcode
      rintro d E H n' ⟨i, hi, hn, h1, h2, h5, hH, hall⟩
      replace hall := Hid.mk hall
      by_cases c : (i : Int) < s.length
      · have hw_i : IntKind.i64.wrap ((i : Int) + 1) = (i : Int) + 1 := wr64 (by omega) (by omega)
        have cN : i < s.length := by omega
        have hrow := places_getD cN
        have hat : clearAt s i = clearM (s.take i) (s.getD i pz).2 := rfl
        have hno : clearAt s i = false → (List.range s.length).all (clearAt s) = false := fun h => all_no (by omega) h
        have more : clearAt s i = true → ∀ j, j < i + 1 → clearAt s j = true := fun h j hj => by
          by_cases e : j = i
          · rw [e]; exact h
          · exact hall.out j (by omega)
        have hxl := hsc.out _ (getD_mem cN)
        have htk : (places s).take i = places (s.take i) := by simp [places, List.map_take]
        have hle : i ≤ s.length := by omega
        have h0i : (0 : Int) ≤ i := by omega
        have hti : (i : Int).toNat = i := by omega
        have hzi : 0 ≤ i := by omega
        have hdr : (places s).drop 0 = places s := rfl
        have hs0 : i - 0 = i := rfl
        have hfit : decide (∀ r ∈ places s, r.length = 2) = true := decide_eq_true fun r hr => by obtain ⟨y, _, rfl⟩ := List.mem_map.mp hr; rfl
        have hcl := l15Clear_fn G (s.take i) (s.getD i pz) (by rw [List.length_take]; omega) (fun p hp => hsc.out p (List.mem_of_mem_take hp)) hxl
        replace hno := Hid.mk hno
        replace more := Hid.mk more
        generalize s.getD i pz = x at hrow hat hcl
        obtain ⟨xk, xs⟩ := x
        replace hat := Hid.mk hat
        replace hcl := Hid.mk hcl
        refine AL ?_
        refine CQ hcl.out ?_
        by_cases cc : clearM (s.take i) xs = true
        · refine AL ?_
          exact ⟨s.length - (i + 1), by omega, i + 1, by omega, by omega, by simp [setF_if, *], by simp [setF_if, *], by simp [setF_if, *], by simp [upd_if, *], more.out (by rw [hat.out]; exact cc)⟩
        · refine AL ?_
          have := hno.out (by rw [hat.out]; simpa using cc)
          simp [retA, backA, this]
      · have hyes : (List.range s.length).all (clearAt s) = true := all_yes (fun j hj => hall.out j (by omega))
        rw [hyes]
        clear hi
        refine AL ?_
        refine CV (l15Left_fn G r l s hl hs hk.out) ?_
        have holn := ints_len (leftM l s)
        have hobl : (leftM l s).length < 1000000000 := by unfold leftM; rw [dec_len]; simpa [copiesM] using hl
        generalize leftM l s = o at holn hobl
        refine AL ?_
        refine .loop (.inv (fun d E H n' => ∃ i : Nat, i + d = o.length ∧ E 6 = .sl 1 (ints o) ∧ E 7 = .i .i64 i ∧ (∀ j, j < i → zeroAt o j = true)) o.length ?_ ?_)
        · exact ⟨0, by omega, by simp [setF_if, *], by simp [setF_if, *], fun j hj => by omega⟩
        clear h1 h2 h5 hH hn c
        rintro d E H n' ⟨i, hi, h6, h7, hall⟩
        replace hall := Hid.mk hall
        by_cases c : (i : Int) < o.length
        · have hw_i : IntKind.i64.wrap ((i : Int) + 1) = (i : Int) + 1 := wr64 (by omega) (by omega)
          have hro := ints_at (l := o) (i := i) (by omega)
          have hat : zeroAt o i = (o.getD i 0 == 0) := rfl
          have hno : zeroAt o i = false → (List.range o.length).all (zeroAt o) = false := fun h => all_no (by omega) h
          have more : zeroAt o i = true → ∀ j, j < i + 1 → zeroAt o j = true := fun h j hj => by
            by_cases e : j = i
            · rw [e]; exact h
            · exact hall.out j (by omega)
          replace hno := Hid.mk hno
          replace more := Hid.mk more
          generalize o.getD i 0 = v at hro hat
          replace hat := Hid.mk hat
          by_cases cv : (v != 0) = true
          · refine AL ?_
            have := hno.out (by rw [hat.out]; simpa using cv)
            simp [retA, backA, this]
          · refine AL ?_
            exact ⟨o.length - (i + 1), by omega, i + 1, by omega, by simp [setF_if, *], by simp [setF_if, *], more.out (by rw [hat.out]; simpa using cv)⟩
        · have hyes2 : (List.range o.length).all (zeroAt o) = true := all_yes (fun j hj => hall.out j (by omega))
          refine AL ?_
          simp [retA, backA, hyes2]
    · have hcode : codeM r l s = 2 := by simp [codeM, c1, c2]
      refine AL ?_
      simp [retA, backA, solvedS, c2]
  · have hcode : codeM r l s = 1 := by simp [codeM, c1]
    refine AL ?_
    simp [retA, backA, solvedS, c1]
end Go.Proofs
end
section
open Go Go.Big
namespace Go.Proofs
set_option maxHeartbeats 2000000
theorem inc_lt {s : List Int} {m : Int} (h : inc s m = true) : s.Pairwise (· < ·) := by
  rw [List.pairwise_iff_getElem]
  have step : ∀ i (hi : i < s.length), 0 < i → s.getD (i - 1) 0 < s.getD i 0 := fun i hi h0 => by
    have := List.all_eq_true.mp h i (List.mem_range.mpr hi)
    unfold incAt at this
    have h0' : ((i : Int) > 0) := by omega
    simp only [h0', decide_true, Bool.true_and, Bool.and_eq_true, Bool.not_eq_true', decide_eq_false_iff_not] at this
    omega
  have key : ∀ d i, i + d + 1 < s.length → s.getD i 0 < s.getD (i + d + 1) 0 := by
    intro d
    induction d with
    | zero => intro i hi; exact step (i + 1) hi (by omega)
    | succ d ih =>
      intro i hi
      have h1 := ih i (by omega)
      have h2 := step (i + (d + 1) + 1) hi (by omega)
      rw [show i + (d + 1) + 1 - 1 = i + d + 1 by omega] at h2
      omega
  intro i j hi hj hij
  have := key (j - i - 1) i (by omega)
  rw [show i + (j - i - 1) + 1 = j by omega] at this
  simpa [List.getD_eq_getElem?_getD, hi, hj] using this
/-- What is covered already: a cell is covered, or one of those that are laid. -/
def hit (cov : List Bool) (c : Int) : Bool := cov.getD c.toNat false
theorem hit_set {cov : List Bool} {c y : Int} (hc : 0 ≤ c) (hy : 0 ≤ y) (hy2 : y.toNat < cov.length) : hit (cov.set y.toNat true) c = (c == y || hit cov c) := by
  unfold hit
  by_cases e : c = y
  · subst e
    simp [List.getD_eq_getElem?_getD, hy2]
  · have : ¬ y.toNat = c.toNat := by omega
    have e' : (c == y) = false := by simpa using e
    rw [e', Bool.false_or]
    simp [List.getD_eq_getElem?_getD, List.getElem?_set, this]
theorem covC_spec : ∀ {cs : List Int} {cov : List Bool}, (∀ c ∈ cs, 0 ≤ c ∧ c.toNat < cov.length) → cs.Pairwise (· < ·) →
    (cs.any (hit cov) = true ∧ covC cov cs = none) ∨ (cs.any (hit cov) = false ∧ ∃ cov', covC cov cs = some cov' ∧ cov'.length = cov.length ∧ ∀ c, 0 ≤ c → hit cov' c = (hasM cs c || hit cov c))
  | [], cov, _, _ => .inr ⟨rfl, cov, rfl, rfl, fun c _ => by simp [hasM]⟩
  | y :: cs, cov, hin, hp => by
    rw [List.pairwise_cons] at hp
    obtain ⟨y0, y1⟩ := hin y (by simp)
    unfold covC
    by_cases e : hit cov y = true
    · exact .inl ⟨by simp [e], if_pos e⟩
    · have hset := fun c (hc : 0 ≤ c) => hit_set (cov := cov) hc y0 y1
      have e' : (cov.getD y.toNat false) = false := by simpa [hit] using e
      rw [e']
      simp only [Bool.false_eq_true, if_false]
      have hany : cs.any (hit (cov.set y.toNat true)) = cs.any (hit cov) := by
        rw [Bool.eq_iff_iff, List.any_eq_true, List.any_eq_true]
        constructor
        · rintro ⟨c, hc, h⟩
          rw [hset c (hin c (List.mem_cons_of_mem _ hc)).1] at h
          have : c ≠ y := fun q => by have := hp.1 c hc; omega
          exact ⟨c, hc, by simpa [this] using h⟩
        · rintro ⟨c, hc, h⟩
          exact ⟨c, hc, by rw [hset c (hin c (List.mem_cons_of_mem _ hc)).1, h, Bool.or_true]⟩
      rcases covC_spec (cs := cs) (cov := cov.set y.toNat true) (fun c hc => ⟨(hin c (List.mem_cons_of_mem _ hc)).1, by rw [List.length_set]; exact (hin c (List.mem_cons_of_mem _ hc)).2⟩) hp.2 with ⟨h1, h2⟩ | ⟨h1, cov', h2, h3, h4⟩
      · exact .inl ⟨by rw [hany] at h1; simp [h1], h2⟩
      · refine .inr ⟨by rw [hany] at h1; simp [h1, e], cov', h2, by rw [h3, List.length_set], fun c hc => ?_⟩
        rw [h4 c hc, hset c hc]
        simp only [hasM, List.any_cons]
        rw [show (y == c) = (c == y) by rw [Bool.eq_iff_iff, beq_iff_eq, beq_iff_eq]; exact ⟨Eq.symm, Eq.symm⟩]
        cases (c == y) <;> cases (cs.any fun x => x == c) <;> simp
theorem over_iff {a b : List Int} : overM a b = true ↔ ∃ c, c ∈ a ∧ c ∈ b := by
  simp only [overM, hasM, List.any_eq_true, beq_iff_eq]
  exact ⟨fun ⟨c, h1, x, h2, e⟩ => ⟨c, h1, e ▸ h2⟩, fun ⟨c, h1, h2⟩ => ⟨c, h1, c, h2, rfl⟩⟩
theorem over_comm (a b : List Int) : overM a b = overM b a := by
  rw [Bool.eq_iff_iff, over_iff, over_iff]
  exact ⟨fun ⟨c, h1, h2⟩ => ⟨c, h2, h1⟩, fun ⟨c, h1, h2⟩ => ⟨c, h2, h1⟩⟩
def apartP (x y : Int × List Int) : Prop := overM x.2 y.2 = false
theorem clear_iff (s : List (Int × List Int)) : (List.range s.length).all (clearAt s) = true ↔ s.Pairwise apartP := by
  rw [List.pairwise_iff_getElem, List.all_eq_true]
  constructor
  · intro h i j hi hj hij
    have := h j (List.mem_range.mpr hj)
    unfold clearAt clearM at this
    rw [List.all_eq_true] at this
    have h2 := this s[i] (by rw [List.mem_take_iff_getElem]; exact ⟨i, by omega, rfl⟩)
    simpa [apartP, List.getD_eq_getElem?_getD, hj] using h2
  · intro h j hj
    rw [List.mem_range] at hj
    unfold clearAt clearM
    rw [List.all_eq_true]
    intro y hy
    rw [List.mem_take_iff_getElem] at hy
    obtain ⟨i, hi, rfl⟩ := hy
    have := h i j (by omega) hj (by omega)
    simpa [apartP, List.getD_eq_getElem?_getD, hj] using this
theorem covL_spec {n : Nat} : ∀ {s : List (Int × List Int)} {cov : List Bool}, cov.length = n → (∀ x ∈ s, (∀ c ∈ x.2, 0 ≤ c ∧ c < n) ∧ x.2.Pairwise (· < ·)) →
    ((covL cov s).isSome = true ↔ (∀ x ∈ s, x.2.any (hit cov) = false) ∧ s.Pairwise apartP)
  | [], cov, _, _ => by simp [covL]
  | x :: s, cov, hl, h => by
    obtain ⟨h1, h2⟩ := h x (by simp)
    unfold covL
    rcases covC_spec (cs := x.2) (cov := cov) (fun c hc => ⟨(h1 c hc).1, by have := (h1 c hc).2; have := (h1 c hc).1; omega⟩) h2 with ⟨e1, e2⟩ | ⟨e1, cov', e2, e3, e4⟩
    · rw [e2]
      constructor
      · intro q; simp at q
      · rintro ⟨a, _⟩
        have := a x (by simp)
        rw [e1] at this; simp at this
    · rw [e2, Option.bind_some, covL_spec (n := n) (s := s) (cov := cov') (by omega) (fun y hy => h y (List.mem_cons_of_mem _ hy)), List.pairwise_cons]
      have key : ∀ y ∈ s, (y.2.any (hit cov') = false ↔ y.2.any (hit cov) = false ∧ apartP x y) := by
        intro y hy
        unfold apartP
        rw [over_comm, overM, ← Bool.not_eq_true, ← Bool.not_eq_true, ← Bool.not_eq_true, List.any_eq_true, List.any_eq_true, List.any_eq_true]
        constructor
        · intro hh
          refine ⟨fun ⟨c, hc, q⟩ => hh ⟨c, hc, ?_⟩, fun ⟨c, hc, q⟩ => hh ⟨c, hc, ?_⟩⟩
          · rw [e4 c ((h y (List.mem_cons_of_mem _ hy)).1 c hc).1, q, Bool.or_true]
          · rw [e4 c ((h y (List.mem_cons_of_mem _ hy)).1 c hc).1, q, Bool.true_or]
        · rintro ⟨a1, a2⟩ ⟨c, hc, q⟩
          rw [e4 c ((h y (List.mem_cons_of_mem _ hy)).1 c hc).1, Bool.or_eq_true] at q
          rcases q with q | q
          · exact a2 ⟨c, hc, q⟩
          · exact a1 ⟨c, hc, q⟩
      constructor
      · rintro ⟨a, b⟩
        exact ⟨fun y hy => by
          rcases List.mem_cons.mp hy with rfl | hy
          · exact e1
          · exact ((key y hy).mp (a y hy)).1, fun y hy => ((key y hy).mp (a y hy)).2, b⟩
      · rintro ⟨a, b, c⟩
        exact ⟨fun y hy => (key y hy).mpr ⟨a y (List.mem_cons_of_mem _ hy), b y hy⟩, c⟩
def cntM (s : List (Int × List Int)) (i : Nat) : Nat := s.countP fun x => x.1.toNat == i
theorem wrap_in {v : Int} (h1 : -9000000000 ≤ v) (h2 : v ≤ 9000000000) : IntKind.i64.wrap v = v := by
  simp [IntKind.wrap, IntKind.bits, IntKind.signed]; omega
theorem getD_set_int {o : List Int} {k i : Nat} {v : Int} (hk : k < o.length) : (o.set k v).getD i 0 = if k = i then v else o.getD i 0 := by
  simp only [List.getD_eq_getElem?_getD, List.getElem?_set]
  split
  · first | rfl | (rw [if_pos hk]; rfl) | simp [hk]
  · rfl
theorem incF : ∀ {s : List (Int × List Int)} {o : List Int}, (∀ j, -1000000000 ≤ o.getD j 0 ∧ o.getD j 0 + s.length ≤ 3000000000) → (∀ x ∈ s, x.1.toNat < o.length) → ∀ i, (s.foldl incM o).getD i 0 = o.getD i 0 + cntM s i
  | [], o, _, _, i => by simp [cntM]
  | x :: s, o, hb, hx, i => by
    have h0 := hx x (by simp)
    have hbx := hb x.1.toNat
    simp only [List.length_cons] at hb hbx
    rw [List.foldl_cons]
    unfold incM
    rw [wrap_in (by omega) (by omega)]
    have hset := fun j => getD_set_int (o := o) (k := x.1.toNat) (i := j) (v := o.getD x.1.toNat 0 + 1) h0
    have := incF (s := s) (o := o.set x.1.toNat (o.getD x.1.toNat 0 + 1)) (fun j => by
      rw [hset j]; have := hb j; split <;> omega) (fun y hy => by rw [List.length_set]; exact hx y (List.mem_cons_of_mem _ hy)) i
    unfold incM at this
    rw [this, hset i]
    unfold cntM
    rw [List.countP_cons]
    by_cases e : x.1.toNat = i
    · subst e; simp; omega
    · simp [e]
theorem decF : ∀ {s : List (Int × List Int)} {o : List Int}, (∀ j, -3000000000 ≤ o.getD j 0 - s.length ∧ o.getD j 0 ≤ 3000000000) → (∀ x ∈ s, x.1.toNat < o.length) → ∀ i, (s.foldl decM o).getD i 0 = o.getD i 0 - cntM s i
  | [], o, _, _, i => by simp [cntM]
  | x :: s, o, hb, hx, i => by
    have h0 := hx x (by simp)
    have hbx := hb x.1.toNat
    simp only [List.length_cons] at hb hbx
    rw [List.foldl_cons]
    unfold decM
    rw [wrap_in (by omega) (by omega)]
    have hset := fun j => getD_set_int (o := o) (k := x.1.toNat) (i := j) (v := o.getD x.1.toNat 0 - 1) h0
    have := decF (s := s) (o := o.set x.1.toNat (o.getD x.1.toNat 0 - 1)) (fun j => by
      rw [hset j]; have := hb j; split <;> omega) (fun y hy => by rw [List.length_set]; exact hx y (List.mem_cons_of_mem _ hy)) i
    unfold decM at this
    rw [this, hset i]
    unfold cntM
    rw [List.countP_cons]
    by_cases e : x.1.toNat = i
    · subst e; simp; omega
    · simp [e]
theorem copies_at {l : List PieceM} {i : Nat} (h : i < l.length) : (copiesM l).getD i 0 = (l.getD i pc0).k := by
  simp [copiesM, List.getD_eq_getElem?_getD, h]
theorem puzzle_k {r : List (Int × Int)} {l : List PieceM} (h : puzzleS r l = true) : ∀ p ∈ l, 1 ≤ p.k ∧ p.k ≤ 8 := by
  intro p hp
  obtain ⟨i, hi, rfl⟩ := List.mem_iff_getElem.mp hp
  unfold puzzleS at h
  rw [Bool.and_eq_true] at h
  have := List.all_eq_true.mp h.2 i (List.mem_range.mpr hi)
  rw [Bool.and_eq_true, List.getD_eq_getElem?_getD, List.getElem?_eq_getElem hi] at this
  have h2 := this.1
  unfold pieceS at h2
  simp only [Option.getD_some, Bool.and_eq_true, decide_eq_true_eq] at h2
  omega
theorem solved_eq (r : List (Int × Int)) (l : List PieceM) (s : List (Int × List Int)) (hs : s.length < 1000000000) : isSolvedI r l s = solvedS r l s := by
  unfold isSolvedI solvedS solvedI fitsI fitsS
  rw [puzzle_eq, show (fun x : Int × List Int => placeI r l x.1 x.2) = fun x => placeS r l x.1 x.2 from funext fun x => place_eq r l x.1 x.2]
  by_cases c1 : puzzleS r l = true
  · by_cases c2 : ascM (fun x => placeS r l x.1 x.2) s = true
    · have hk := puzzle_k c1
      have hin : ∀ x ∈ s, (0 ≤ x.1 ∧ x.1 < l.length) ∧ (∀ c ∈ x.2, 0 ≤ c ∧ c < (r.length : Int)) := fun x hx => placeS_ok (asc_mem c2 hx)
      have hinc : ∀ x ∈ s, x.2.Pairwise (· < ·) := fun x hx => by
        have := asc_mem c2 hx
        unfold placeS at this
        simp only [Bool.and_eq_true] at this
        exact inc_lt this.1.2
      have e1 : (covL (List.replicate r.length false) s).isSome = (List.range s.length).all (clearAt s) := by
        rw [Bool.eq_iff_iff, clear_iff, covL_spec (n := r.length) (by simp) (fun x hx => ⟨(hin x hx).2, hinc x hx⟩)]
        refine ⟨fun h => h.2, fun h => ⟨fun x _ => ?_, h⟩⟩
        rw [List.any_eq_false]
        intro c _
        simp only [hit, List.getD_eq_getElem?_getD, List.getElem?_replicate]
        split <;> simp
      have hcl : (copiesM l).length = l.length := by simp [copiesM]
      have e2 : (List.range l.length).all (sumI l s) = (List.range (leftM l s).length).all (zeroAt (leftM l s)) := by
        have hll : (leftM l s).length = l.length := by unfold leftM; rw [dec_len, hcl]
        rw [hll, Bool.eq_iff_iff, List.all_eq_true, List.all_eq_true]
        have each : ∀ i, i < l.length → (sumI l s i = true ↔ zeroAt (leftM l s) i = true) := fun i hi => by
          unfold sumI zeroAt countM leftM
          rw [incF (fun j => by
              have : (List.replicate l.length (0 : Int)).getD j 0 = 0 := by
                simp only [List.getD_eq_getElem?_getD, List.getElem?_replicate]; split <;> simp
              rw [this]; omega) (fun x hx => by have := (hin x hx).1; simp; omega) i,
            decF (fun j => by
              have : 0 ≤ (copiesM l).getD j 0 ∧ (copiesM l).getD j 0 ≤ 8 := by
                by_cases hj : j < l.length
                · rw [copies_at hj]
                  have := hk (l.getD j pc0) (by simp [List.getD_eq_getElem?_getD, hj])
                  omega
                · simp [copiesM, List.getD_eq_getElem?_getD, hj]
              omega) (fun x hx => by have := (hin x hx).1; rw [hcl]; omega) i, copies_at hi]
          have : (List.replicate l.length (0 : Int)).getD i 0 = 0 := by simp [List.getD_eq_getElem?_getD, hi]
          rw [this, beq_iff_eq, beq_iff_eq]
          omega
        exact ⟨fun h i hi => (each i (List.mem_range.mp hi)).mp (h i hi), fun h i hi => (each i (List.mem_range.mp hi)).mpr (h i hi)⟩
      rw [c1, c2, e1, e2]
      simp [Bool.and_assoc]
    · simp [Bool.eq_false_iff.mpr c2]
  · simp [Bool.eq_false_iff.mpr c1]
end Go.Proofs
end
section
open Go Go.Big
namespace Go.Proofs
set_option maxHeartbeats 2000000
def findN (l : List Int) (v : Int) : Int := match (List.range l.length).find? (fun i => v == l.getD i 0) with
  | some i => i
  | none => -1
theorem slicesIndex_fn (G : Gv) (l : List Int) (v : Int) (hl : l.length < 1000000000) : Gives Tryz.prog G 123 [.sl 0 (ints l), .i .i64 v] (.i .i64 (findN l v)) := by
  refine .of (.body Tryz.func123 rfl (by simp [Tryz.ntmps123]) ?_)
  rw [Tryz.ntmps123, Tryz.results123]
  have hlen := ints_len l
  refine AL ?_
  refine .loop (.inv (fun d E H n' => ∃ i : Nat, i + d = l.length ∧ E 0 = .sl 0 (ints l) ∧ E 1 = .i .i64 v ∧ E 7 = .i .i64 l.length ∧ E 8 = .i .i64 i ∧ (∀ j, j < i → (v == l.getD j 0) = false)) l.length ?_ ?_)
  · exact ⟨0, by omega, by simp [setF_if, argE], by simp [setF_if, argE], by simp [setF_if, argE, hlen], by simp [setF_if, argE], fun j hj => by omega⟩
  rintro d E H n' ⟨i, hi, h0, h1, h7, h8, hall⟩
  replace hall := Hid.mk hall
  by_cases c : (i : Int) < l.length
  · have hw_i : IntKind.i64.wrap ((i : Int) + 1) = (i : Int) + 1 := wr64 (by omega) (by omega)
    have hr := ints_at (l := l) (i := i) (by omega)
    have hyes : (v == l.getD i 0) = true → findN l v = i := fun h => by
      unfold findN; rw [find_yes (p := fun i => v == l.getD i 0) (i := i) (by omega) h (fun j hj => hall.out j hj)]
    have hmore : (v == l.getD i 0) = false → ∀ j, j < i + 1 → (v == l.getD j 0) = false := fun h j hj => by
      by_cases q : j = i
      · rw [q]; exact h
      · exact hall.out j (by omega)
    replace hyes := Hid.mk hyes
    replace hmore := Hid.mk hmore
    generalize l.getD i 0 = x at hr hyes hmore
    cases cq : (v == x) with
    | true =>
      refine AL ?_
      simp [retA, backA, hyes.out cq]
    | false =>
      refine AL ?_
      exact ⟨l.length - (i + 1), by omega, i + 1, by omega, by simp [setF_if, *], by simp [setF_if, *], by simp [setF_if, *], by simp [setF_if, *], hmore.out cq⟩
  · refine AL ?_
    have : findN l v = -1 := by
      unfold findN; rw [find_no (p := fun i => v == l.getD i 0) (fun j hj => hall.out j (by omega))]
    simp [retA, backA, this]
theorem findN_any (l : List Int) (v : Int) : decide (findN l v ≥ 0) = hasM l v := by
  unfold findN hasM
  cases h : (List.range l.length).find? (fun i => v == l.getD i 0) with
  | none =>
    rw [List.find?_range_eq_none] at h
    have : l.any (· == v) = false := by
      rw [List.any_eq_false]
      intro x hx
      obtain ⟨i, hi, e⟩ := List.mem_iff_getElem.mp hx
      have := h i hi
      simp only [List.getD_eq_getElem?_getD, List.getElem?_eq_getElem hi, Option.getD_some, e] at this
      simp only [Bool.not_eq_true', beq_eq_false_iff_ne, ne_eq] at this
      simp only [beq_iff_eq]
      exact fun q => this q.symm
    rw [this]; rfl
  | some i =>
    have h1 := List.find?_some h
    have h2 := List.mem_range.mp (List.mem_of_find?_eq_some h)
    have h3 : l.any (· == v) = true := List.any_eq_true.mpr ⟨l[i], List.getElem_mem _, by
      simp only [List.getD_eq_getElem?_getD, List.getElem?_eq_getElem h2, Option.getD_some, beq_iff_eq] at h1
      simp [h1]⟩
    rw [h3]; simp
theorem slicesContains_fn (G : Gv) (l : List Int) (v : Int) (hl : l.length < 1000000000) : Gives Tryz.prog G 73 [.sl 0 (ints l), .i .i64 v] (.b (hasM l v)) := by
  refine .of (.body Tryz.func73 rfl (by simp [Tryz.ntmps73]) ?_)
  rw [Tryz.ntmps73, Tryz.results73]
  refine AL ?_
  refine CV (slicesIndex_fn G l v hl) ?_
  have ha := findN_any l v
  refine AL ?_
  simp [retA, backA, ha]
end Go.Proofs
end
section
open Go Go.Big
namespace Go.Proofs
set_option maxHeartbeats 2000000
def turnPl (ns : List Int) (x : Int × List Int) : Int × List Int := (x.1, sortedB (turnX ns x.2))
def l16T (ns : List Int) (s : List (Int × List Int)) : List (Int × List Int) := s.foldl (fun a x => insP (turnPl ns x) a) []
theorem l16T_take {ns : List Int} {s : List (Int × List Int)} {i : Nat} {x : Int × List Int} (h : s[i]? = some x) : l16T ns (s.take (i + 1)) = insP (turnPl ns x) (l16T ns (s.take i)) := by
  obtain ⟨hi, rfl⟩ := List.getElem?_eq_some_iff.mp h
  unfold l16T
  rw [List.take_succ_eq_append_getElem hi, List.foldl_append]; rfl
theorem l16T_perm (ns : List Int) (s : List (Int × List Int)) : (l16T ns s).Perm (s.map (turnPl ns)) := by
  have : ∀ (s a : List (Int × List Int)), (s.foldl (fun a x => insP (turnPl ns x) a) a).Perm (s.map (turnPl ns) ++ a) := by
    intro s
    induction s with
    | nil => intro a; exact .refl _
    | cons x s ih =>
      intro a
      rw [List.foldl_cons, List.map_cons]
      exact (ih _).trans (((insP_perm _ _).append_left _).trans List.perm_middle)
  have h := this s []
  rwa [List.append_nil] at h
theorem l16T_sorted (ns : List Int) (s : List (Int × List Int)) : (l16T ns s).Pairwise fun a b => ¬ cmpP b a < 0 := by
  have : ∀ (s a : List (Int × List Int)), a.Pairwise (fun a b => ¬ cmpP b a < 0) → (s.foldl (fun a x => insP (turnPl ns x) a) a).Pairwise (fun a b => ¬ cmpP b a < 0) := by
    intro s
    induction s with
    | nil => intro a h; exact h
    | cons x s ih => intro a h; exact ih _ (insP_sorted _ h)
  exact this s [] .nil
theorem l16T_eq (ns : List Int) (s : List (Int × List Int)) : l16T ns s = orderP (s.map (turnPl ns)) :=
  orderP_unique (l16T_sorted ns s) (orderP_sorted _) ((l16T_perm ns s).trans (orderP_perm _).symm)
theorem l16T_len (ns : List Int) (s : List (Int × List Int)) : (l16T ns s).length = s.length := by rw [(l16T_perm ns s).length_eq, List.length_map]
theorem turnPl_len (ns : List Int) (x : Int × List Int) : (turnPl ns x).2.length = x.2.length := by unfold turnPl; rw [sortedB_len, turnX_len]
theorem l16T_cells {ns : List Int} {s : List (Int × List Int)} {B : Nat} (h : ∀ x ∈ s, x.2.length < B) : ∀ y ∈ l16T ns s, y.2.length < B := fun y hy => by
  obtain ⟨x, hx, rfl⟩ := List.mem_map.mp ((l16T_perm ns s).mem_iff.mp hy)
  rw [turnPl_len]; exact h x hx
theorem l16Turn_fn (G : Gv) (r : Shape) (l : List PieceM) (s : List (Int × List Int)) (k : Nat) (ns : List Int) (hns : numsM r k = some ns) (h1 : 0 < r.length) (hr : r.length < 1000000000) (hs : s.length < 1000000000) (hsc : ∀ x ∈ s, x.2.length < 1000000000 ∧ ∀ i ∈ x.2, 0 ≤ i ∧ i < r.length) :
    Gives Tryz.prog G 106 [.ag [.sl 0 (cells r), .sl 0 (pieces l)], .sl 0 (places s), .i .i64 k] (.sl 1 (places (l16T ns s))) := by
  refine .of (.body Tryz.func106 rfl (by simp [Tryz.ntmps106]) ?_)
  rw [Tryz.ntmps106, Tryz.results106]
  have hlen := places_len s
  have hf := l10Numbers_fn G r k h1 hr
  rw [hns] at hf
  obtain ⟨hnl, _⟩ := numsM_facts hns
  replace hns := Hid.mk hns
  replace hsc := Hid.mk hsc
  replace hf := Hid.mk hf
  refine AL ?_
  refine CV hf.out ?_
  unfold setA
  refine AL ?_
  refine .loop (.inv (fun d E H n' => ∃ (i o e : Nat), i + d = s.length ∧ o < n' ∧ E 1 = .sl 0 (places s) ∧ E 7 = .sl 1 (ints ns) ∧ E 9 = .own o e ∧ E 10 = .i .i64 i ∧ H o = some (.arr e 55 2 (places (l16T ns (s.take i))) 1)) s.length ?_ ?_)
  · exact ⟨0, 11, 0, by omega, by omega, by simp [setF_if, argE], by simp [setF_if, argE], by simp [setF_if, argE], by simp [setF_if, argE], by simp [upd_if, l16T, places]⟩
  rintro d E H n' ⟨i, o, e, hi, hn, e1, e7, e9, e10, hH⟩
  by_cases c : (i : Int) < s.length
  · have hw_i : IntKind.i64.wrap ((i : Int) + 1) = (i : Int) + 1 := wr64 (by omega) (by omega)
    obtain ⟨x, hx⟩ : ∃ x, s[i]? = some x := ⟨_, List.getElem?_eq_getElem (by omega)⟩
    have hro := places_at hx
    obtain ⟨m1, m2⟩ := hsc.out x (List.mem_of_getElem? hx)
    have hT := l16T_take (ns := ns) hx
    have hfT := l12Turn_fn G x.1 x.2 ns m1 (by omega) (fun i hi => by have := m2 i hi; omega)
    have htl : (l16T ns (s.take i)).length < 1000000000 := by rw [l16T_len, List.length_take]; omega
    have htc : ∀ y ∈ l16T ns (s.take i), y.2.length < 1000000000 := l16T_cells (fun y hy => (hsc.out y (List.mem_of_mem_take hy)).1)
    have htx : (turnPl ns x).2.length < 1000000000 := by rw [turnPl_len]; exact m1
    have hpl : AV.ag [.i .i64 x.1, .sl 1 (ints (sortedB (turnX ns x.2)))] = placA 1 (turnPl ns x) := rfl
    rw [hpl] at hfT
    replace hx := Hid.mk hx
    replace hT := Hid.mk hT
    replace htc := Hid.mk htc
    replace m2 := Hid.mk m2
    generalize turnPl ns x = y at hT htx hfT
    generalize l16T ns (s.take i) = L at hT htl htc hH
    clear hpl
    replace hfT := Hid.mk hfT
    refine AL ?_
    refine CV hfT.out ?_
    refine AL ?_
    refine CI ?_
    refine (l12Insert_wc G L y o e _ _ (by omega) hH htl htc.out htx).mono ?_
    rintro z H2 n2 ⟨hn2, o', e', rfl, ho', hH2, _⟩
    refine AL ?_
    exact ⟨s.length - (i + 1), by omega, i + 1, o', e', by omega, by omega, by simp [setF_if, *], by simp [setF_if, *], by simp [setF_if, *], by simp [setF_if, *], by rw [hT.out]; exact hH2⟩
  · have ei : i = s.length := by omega
    rw [ei, List.take_length] at hH
    have hnb : newB 1 (places (l16T ns s)) := .inl (by decide)
    refine AL ?_
    simp [retA, backA, newSl, setF_if, *]
theorem turnList_o (G : Gv) (hA : AllK G) (r : Shape) (l : List PieceM) (s : List (Int × List Int)) (k : Nat) (ns : List Int) (hns : numsM r k = some ns) (hrs : r.Pairwise fun a b => lessC a.1 a.2 b.1 b.2 = true) (h1 : 0 < r.length) (hr : r.length < 1000000000) (hs : s.length < 1000000000) (hsc : ∀ x ∈ s, 0 < x.2.length ∧ x.2.length < 1000000000 ∧ ∀ i ∈ x.2, 0 ≤ i ∧ i < r.length) (hnd0 : (s.map (turnPl ns)).Nodup) :
    GivesO Tryz.prog G 111 [.ag [.sl 0 (cells r), .sl 0 (pieces l)], .sl 0 (places s), .i .i64 k] (.sl 1 (places (orderP (s.map (turnPl ns))))) := by
  refine .of (.body Tryz.func111 rfl (by simp [Tryz.ntmps111]) ?_)
  rw [Tryz.ntmps111, Tryz.results111]
  have hlen0 := places_len s
  have hf := turnNumbers_o G r k h1 hr hrs
  rw [hns] at hf
  obtain ⟨hnl, _⟩ := numsM_facts hns
  replace hns := Hid.mk hns
  replace hsc := Hid.mk hsc
  replace hrs := Hid.mk hrs
  replace hf := Hid.mk hf
  replace hA := Hid.mk hA
  replace hnd0 := Hid.mk hnd0
  unfold setA at hf
  refine AL ?_
  refine CWO hf.out ?_
  intro z H1 S0 m hz hn0 hS0 hf1 hm
  obtain ⟨za, zb, s1, s2, rfl, rfl, hza, hzb⟩ := ownX_tup2 hz
  obtain ⟨rfl, rfl⟩ := ownX_b hzb
  obtain ⟨on, en, tyn, szn, tn, rfl, hHn, rfl, htn, hfn⟩ : ∃ o e ty sz t, za = .own o e ∧ H1 o = some (.arr e ty sz (ints ns) t) ∧ s1 = [o] ∧ t ≠ 2 ∧ fitR sz (ints ns) := by
    rcases ownA_flat (ownX_un hza) (ints_scal _) with h | ⟨_, e1, _⟩
    · exact h
    · have : (ints ns).length = 0 := by rw [e1]; rfl
      rw [ints_len] at this; omega
  obtain ⟨hon1, hon2⟩ := hS0 on (by simp)
  replace hf1 := Hid.mk hf1
  clear hz hza hzb hS0 hn0 hf hf1
  replace htn := Hid.mk htn
  replace hfn := Hid.mk hfn
  have hne0 : ∀ j, (on = m + j) = False := fun j => by simp; omega
  obtain ⟨M, hM⟩ : ∃ M, M = m + 5 := ⟨_, rfl⟩
  refine AL ?_
  refine .loop (.inv (fun d E H n' => ∃ (i e t' : Nat) (rows : List (List PV)) (S : List Nat), i + d = s.length ∧ M < n' ∧ on < M ∧ E 7 = .own on en ∧ E 9 = .own M e ∧ E 20 = .sl 0 (places s) ∧ E 21 = .i .i64 s.length ∧ E 22 = .i .i64 i ∧ H on = some (.arr en tyn szn (ints ns) tn) ∧ H M = some (.arr e 55 2 rows t') ∧
      tagOk t' rows ∧ fitR 2 rows ∧ ownRs H rows (places ((s.take i).map (turnPl ns))) S ∧ S.Nodup ∧ (∀ o ∈ S, M < o ∧ o < n') ∧ (rows = [] → t' ≠ 2)) s.length ?_ ?_)
  · subst hM
    exact ⟨0, 0, 1, [], [], by omega, by omega, by omega, by simp [setF_if, argE], by simp [setF_if, argE], by simp [setF_if, argE], by simp [setF_if, argE, hlen0], by simp [setF_if, argE], by simp [upd_if, *], by simp [upd_if], .inr (fun r hr => by simp at hr), fun r hr => by simp at hr, ⟨rfl, rfl⟩, by simp, by simp, fun _ => by decide⟩
  clear hHn hM hne0 hon1 hon2 hm
  rintro d E H n' ⟨i, e, t', rows, S, hi, hn, hoM, e7, e9, e20, e21, e22, hHn, hHM, htag, hfit, hown, hnd, hlt, hnil⟩
  have hrl : rows.length = i := by
    rw [ownRs_len hown, places_len, List.length_map, List.length_take]; omega
  by_cases c : (i : Int) < s.length
  · have hw_i : IntKind.i64.wrap ((i : Int) + 1) = (i : Int) + 1 := wr64 (by omega) (by omega)
    obtain ⟨x, hx⟩ : ∃ x, s[i]? = some x := ⟨_, List.getElem?_eq_getElem (by omega)⟩
    have hro := places_at hx
    obtain ⟨m1, m2, m3⟩ := hsc.out x (List.mem_of_getElem? hx)
    have htk : places ((s.take (i + 1)).map (turnPl ns)) = places ((s.take i).map (turnPl ns)) ++ [[.i .i64 x.1, .sl (ints (sortedB (turnX ns x.2)))]] := by
      rw [take_map _ hx, places_app]; rfl
    have hfT := turned_o G hA.out.toAllH x.1 x.2 ns m1 m2 (by omega) (fun i hi => by have := m3 i hi; omega)
    have hTl : 0 < (sortedB (turnX ns x.2)).length := by rw [sortedB_len, turnX_len]; exact m1
    have hb : (rows.length + 1) * 32 ≤ 140737488355328 := by omega
    obtain ⟨xk, xs⟩ := x
    simp only at htk hfT hTl m1 m2
    generalize sortedB (turnX ns xs) = T at htk hfT hTl
    replace hx := Hid.mk hx
    replace htk := Hid.mk htk
    replace hfT := Hid.mk hfT
    replace m3 := Hid.mk m3
    replace htag := Hid.mk htag
    replace hfit := Hid.mk hfit
    replace hown := Hid.mk hown
    replace hnd := Hid.mk hnd
    replace hlt := Hid.mk hlt
    replace hnil := Hid.mk hnil
    have htn' := htn.out
    have hq1 : ∀ j, (on = n' + j) = False := fun j => by simp; omega
    have hq2 : ∀ j, (M = n' + j) = False := fun j => by simp; omega
    refine AL ?_
    refine CWO hfT.out ?_
    intro z H2 S1 m hz hn1 hS hf hm
    obtain ⟨za, zb, s1, s2, rfl, rfl, hza, hzb⟩ := ownX_ag2 hz
    obtain ⟨rfl, rfl⟩ := ownX_i hza
    obtain ⟨ob, eb, tyb, szb, tb, rfl, hHb, rfl, htb, hfb⟩ : ∃ o e ty sz t, zb = .own o e ∧ H2 o = some (.arr e ty sz (ints T) t) ∧ s2 = [o] ∧ t ≠ 2 ∧ fitR sz (ints T) := by
      rcases ownA_flat (ownX_un hzb) (ints_scal _) with h | ⟨_, e1, _⟩
      · exact h
      · have : (ints T).length = 0 := by rw [e1]; rfl
        rw [ints_len] at this; omega
    obtain ⟨hb1, hb2⟩ := hS ob (by simp)
    have f0 := hf on (by omega)
    have f2 := hf M (by omega)
    simp only [upd_if, hq1, hq2, reduceIte, if_false, hHn, hHM] at f0 f2
    have hS4 : ∀ o ∈ S, M < o ∧ o < m := fun o h => by have := hlt.out o h; omega
    have hSd : ob ∉ S := fun h1 => by have := hlt.out ob h1; omega
    have hf1 : ∀ o ∈ S, H2 o = H o := fun o h => by
      have h1 := (hlt.out o h).2
      rw [hf o (by omega)]; simp [upd_if, show ¬ o = n' + 3 by omega]
    have hr2 : ∀ j, (on = m + j) = False := fun j => by simp; omega
    have hr1 : ∀ j, (M = m + j) = False := fun j => by simp; omega
    have hr3 : (M = ob) = False := by simp; omega
    have hown2 : ∀ H3 : Heap, (∀ o, M < o → o < m → H3 o = H2 o) → ownRs H3 (rows ++ [[.i .i64 xk, .ob ob eb]]) (places ((s.take (i + 1)).map (turnPl ns))) (S ++ [ob]) := fun H3 h3 => by
      rw [htk.out]
      refine ownRs_append (ownRs_congr (H := H) (fun o ho => ?_) hown.out) (ownRs_one (ownPs_congr (H := H2) (fun o ho => ?_) ?_))
      · rw [h3 o (hS4 o ho).1 (hS4 o ho).2]; exact hf1 o ho
      · rw [List.mem_singleton.mp ho]
        exact h3 ob (by omega) hb2
      · rw [← List.nil_append [ob]]
        exact ownPs_cons (ownP_scal_mk rfl) (by rw [← List.append_nil [ob]]; exact ownPs_cons (ownP_mk hHb (ints_scal _) htb hfb) (ownPs_scal_mk (by simp)))
    have htag2 : tagOk (joinT t' 2) (rows ++ [[.i .i64 xk, .ob ob eb]]) := tag_app htag.out (.inl rfl)
    have hr4 : ∀ j, (ob = m + j) = False := fun j => by simp; omega
    have hr8 : (on = M) = False := by simp; omega
    have hr5 : (M = m) = False := by simp; omega
    have hr6 : (on = m) = False := by simp; omega
    have hr7 : (ob = m) = False := by simp; omega
    clear hz hza hzb hf hHn hHM hS hn1 hf1 htb hfb
    replace hown2 := Hid.mk hown2
    replace htag2 := Hid.mk htag2
    replace hS4 := Hid.mk hS4
    replace hSd := Hid.mk hSd
    have hnm : M < m := by omega
    clear hrl
    refine AL ?_
    refine ⟨s.length - (i + 1), by omega, i + 1, e + 1, joinT t' 2, rows ++ [[PV.i .i64 xk, PV.ob ob eb]], S ++ [ob], by omega, by omega, hoM, by simp [setF_if, *], by simp [setF_if, *], by simp [setF_if, *], by simp [setF_if, *], by simp [setF_if, *], by simp [upd_if, *], by simp [upd_if, joinT, *], htag2.out, ?_, hown2.out _ (fun x h1 h2 => ?_), ?_, ?_, fun h => by simp at h⟩
    · intro r hr
      rcases List.mem_append.mp hr with hr | hr
      · exact hfit.out r hr
      · rw [List.mem_singleton.mp hr]; rfl
    · simp only [upd_if]
      rw [if_neg (by omega)]
      rw [if_neg (by omega)]
    · exact List.nodup_append.mpr ⟨hnd.out, by simp, fun x hx y hy e => hSd.out (by rw [← List.mem_singleton.mp hy, ← e]; exact hx)⟩
    · intro x hx
      rcases List.mem_append.mp hx with hx | hx
      · exact ⟨(hS4.out x hx).1, by have := (hS4.out x hx).2; omega⟩
      · rw [List.mem_singleton.mp hx]; omega
  · have ei : i = s.length := by omega
    rw [ei, List.take_length] at hown
    have hb9 : rows.length < 1000000000 := by omega
    have h2S : M ∉ S := fun h => by have := (hlt M h).1; omega
    by_cases hne : rows = []
    · subst hne
      obtain ⟨e1, rfl⟩ := hown
      have hL0 : s.map (turnPl ns) = [] := List.map_eq_nil_iff.mp e1
      rw [hL0]
      clear hnd0 e1
      refine AL ?_
      refine CI ?_
      refine WC_given (hA.out.c4 _ _ _ _ (.tup []) H _ ⟨rfl, rfl, rfl, rfl, _, M, e, _, 2, t', rfl, hHM⟩) ?_
      refine AL ?_
      exact ⟨[M], ownX_sl (tagOk_own hHM ⟨by simp [orderP, places], rfl⟩ htag (by simp) hfit hnil), by simp⟩
    · have hcel : ∀ y ∈ s.map (turnPl ns), y.2.length < 1000000000 := fun y hy => by
        obtain ⟨x, hx, rfl⟩ := List.mem_map.mp hy
        rw [turnPl_len]; exact (hsc.out x hx).2.1
      obtain ⟨rows', S', hcall, g1, g2, g3, g4, g5⟩ := sortPl (L := s.map (turnPl ns)) hA.out.c3 hHM hown h2S hne hb9 hcel hnd0.out htag hfit
      have h2S' : M ∉ S' := fun h => h2S (g2.mem_iff.mp h)
      have hndS := g2.nodup_iff.mpr hnd
      clear hcel
      replace htag := Hid.mk htag
      replace hfit := Hid.mk hfit
      replace hown := Hid.mk hown
      replace hnd := Hid.mk hnd
      replace hlt := Hid.mk hlt
      replace hnil := Hid.mk hnil
      replace g1 := Hid.mk g1
      replace g2 := Hid.mk g2
      replace g4 := Hid.mk g4
      replace g5 := Hid.mk g5
      replace hcall := Hid.mk hcall
      replace hndS := Hid.mk hndS
      refine AL ?_
      refine CI ?_
      refine WC_given (hcall.out _) ?_
      refine AL ?_
      exact ⟨M :: S', ownX_sl (tagOk_own (by simp [upd_if]; rfl) (ownRs_congr (fun o ho => by rw [upd_if, if_neg (by rintro rfl; exact h2S' ho)]) g1.out) g4.out (ownRs_ns g1.out (places_ns _)) g5.out (fun h => absurd h g3)), List.nodup_cons.mpr ⟨h2S', hndS.out⟩⟩
end Go.Proofs
end
