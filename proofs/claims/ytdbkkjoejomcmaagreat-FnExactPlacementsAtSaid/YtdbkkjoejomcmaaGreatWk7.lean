/- Walks: Lists of numbers that rise, the reference's. No condition. | What is a placement. No condition. | Placements of a piece, as lists: what both programs make. No condition. | The set of cells, by a search of each: the one program. No condition. | Whether a placement overlaps none of a list; the copies that are left. No condition. -/
import Derived.Test.YtdbkkjoejomcmaaGreatBO
import Derived.Test.YtdbkkjoejomcmaaGreatWk1
import Derived.Test.YtdbkkjoejomcmaaGreatWk6
import Derived.Test.YtdbkkjoejomcmaaGreatWk2
import Derived.Test.YtdbkkjoejomcmaaGreatBC
import Derived.Test.YtdbkkjoejomcmaaGreatWk5
set_option linter.unusedVariables false
set_option linter.unusedSimpArgs false
section
open Go Go.Big
namespace Go.Proofs
set_option maxHeartbeats 2000000
theorem l01Rises_fn (G : Gv) (l : List Int) (n : Int) (hl : l.length < 4611686018427387904) : Gives Tryz.prog G 140 [.sl 0 (ints l), .i .i64 n] (.b (inc l (IntKind.i64.wrap (n - 1)))) := by
  refine .of (.body Tryz.func140 rfl (by simp [Tryz.ntmps140]) ?_)
  rw [Tryz.ntmps140, Tryz.results140]
  refine AG ?_
  refine .block (.loop (.inv (fun d E H n' => ∃ i : Nat, i + d = l.length ∧ E 0 = .sl 0 (ints l) ∧ E 1 = .i .i64 n ∧ E 5 = .i .i64 i ∧ (∀ j, j < i → incAt l (IntKind.i64.wrap (n - 1)) j = true)) l.length ?_ ?_))
  · simp [setF_if, argE]
  have hlen := ints_len l
  rintro d E H n' ⟨i, hi, h0, h1, h5, hall⟩
  refine AG ?_
  by_cases c : (i : Int) < l.length
  · refine IFT ?_
    have hr : (ints l)[i]? = some [.i .i64 (l.getD i 0)] := ints_at (by omega)
    have hat : incAt l (IntKind.i64.wrap (n - 1)) i = incAt l (IntKind.i64.wrap (n - 1)) i := rfl
    conv at hat => rhs; unfold incAt
    have hno : incAt l (IntKind.i64.wrap (n - 1)) i = false → inc l (IntKind.i64.wrap (n - 1)) = false := fun h => all_no (by omega) h
    have hw2 : IntKind.i64.wrap ((i : Int) + 1) = (i : Int) + 1 := wr64 (by omega) (by omega)
    have more : incAt l (IntKind.i64.wrap (n - 1)) i = true → ∀ j, j < i + 1 → incAt l (IntKind.i64.wrap (n - 1)) j = true := fun h j hj => by
      by_cases e : j = i
      · rw [e]; exact h
      · exact hall j (by omega)
    generalize l.getD i 0 = x at hr hat
    refine .skip ?_
    refine TH ?_
    refine .seq ?_
    refine .block ?_
    refine AQ ?_
    refine CQ (l01In_fn G _ _ _) ?_
    refine AQ ?_
    by_cases c1 : (decide (x ≥ 0) && decide (x ≤ IntKind.i64.wrap (n - 1))) = true
    · refine AQ ?_
      by_cases c3 : (i : Int) > 0
      · have hr2 : (ints l)[((i : Int) - 1).toNat]? = some [.i .i64 (l.getD (i - 1) 0)] := by rw [show ((i : Int) - 1).toNat = i - 1 by omega]; exact ints_at (by omega)
        have hw : IntKind.i64.wrap ((i : Int) - 1) = (i : Int) - 1 := wr64 (by omega) (by omega)
        have h01 : 0 ≤ (i : Int) - 1 := by omega
        generalize l.getD (i - 1) 0 = y at hr2 hat
        refine AQ ?_
        by_cases c4 : x ≤ y
        · refine IFT ?_
          refine AG ?_
          refine .ret ?_
          (try simp only [tN, tR, tE, rN, rR, rE, xN, xR, xE, reduceIte])
          refine DN ?_
          have := hno (by simp only [decide_true, decide_false, Bool.not_true, Bool.not_false, Bool.and_true, Bool.true_and, Bool.and_false, Bool.false_and, Bool.and_self, *])
          simp [retA, backA, this]
        · refine IFF ?_
          refine .skip ?_
          (try simp only [tN, tR, tE, rN, rR, rE, xN, xR, xE, reduceIte])
          refine .region ?_
          refine AG ?_
          (try simp only [tN, tR, tE, rN, rR, rE, xN, xR, xE, reduceIte])
          refine ⟨l.length - (i + 1), by omega, i + 1, by omega, ?_⟩
          simp [setF_if, *]
          exact more (by simp only [decide_true, decide_false, Bool.not_true, Bool.not_false, Bool.and_true, Bool.true_and, Bool.and_false, Bool.false_and, Bool.and_self, *])
      · refine AQ ?_
        refine IFF ?_
        refine .skip ?_
        (try simp only [tN, tR, tE, rN, rR, rE, xN, xR, xE, reduceIte])
        refine .region ?_
        refine AG ?_
        (try simp only [tN, tR, tE, rN, rR, rE, xN, xR, xE, reduceIte])
        refine ⟨l.length - (i + 1), by omega, i + 1, by omega, ?_⟩
        simp [setF_if, *]
        exact more (by simp only [decide_true, decide_false, Bool.not_true, Bool.not_false, Bool.and_true, Bool.true_and, Bool.and_false, Bool.false_and, Bool.and_self, *])
    · refine AQ ?_
      refine IFT ?_
      refine AG ?_
      refine .ret ?_
      (try simp only [tN, tR, tE, rN, rR, rE, xN, xR, xE, reduceIte])
      refine DN ?_
      have := hno (by simp only [decide_true, decide_false, Bool.not_true, Bool.not_false, Bool.and_true, Bool.true_and, Bool.and_false, Bool.false_and, Bool.and_self, *])
      simp [retA, backA, this]
  · refine IFF ?_
    refine .exit ?_
    (try simp only [tN, tR, tE, rN, rR, rE, xN, xR, xE, reduceIte])
    refine AG ?_
    refine .ret ?_
    refine DN ?_
    have : inc l (IntKind.i64.wrap (n - 1)) = true := all_yes (fun j hj => hall j (by omega))
    simp [retA, backA, this]
end Go.Proofs
end
section
open Go Go.Big
namespace Go.Proofs
set_option maxHeartbeats 2000000
theorem inc_mem {s : List Int} {m : Int} (h : inc s m = true) : ∀ k ∈ s, 0 ≤ k ∧ k ≤ m := by
  intro k hk
  obtain ⟨i, hi, rfl⟩ := List.getElem_of_mem hk
  unfold inc at h
  have := List.all_eq_true.mp h i (List.mem_range.mpr hi)
  unfold incAt at this
  simp only [List.getD_eq_getElem?_getD, List.getElem?_eq_getElem hi, Option.getD_some, Bool.and_eq_true, decide_eq_true_eq] at this
  exact this.1
theorem pickM_len (l : List (Int × Int)) (s : List Int) : (pickM l s).length = s.length := by simp [pickM]
def pc0 : PieceM := ⟨[], 0, false⟩
def ownM (r : List (Int × Int)) (s : List Int) : Shape := normM (pickM r s)
theorem ownM_len (r : List (Int × Int)) (s : List Int) : (ownM r s).length = s.length := by unfold ownM; rw [normM_len, pickM_len]
def fitS (p : PieceM) (own : Shape) : Bool := (formsP p).any fun f => cmpM f own == 0
def fitI (p : PieceM) (own : Shape) : Bool := (formsI p).any fun f => decide (f = own)
theorem l12Form_fn (G : Gv) (r : List (Int × Int)) (l : List PieceM) (k : Nat) (s : List Int) (p : PieceM) (hp : l[k]? = some p) (hp0 : 0 < p.cs.length) (hpl : p.cs.length < 1000000000) (hr : r.length < 1000000000) (hs : s.length < 1000000000) (hs0 : 0 < s.length) (hk : ∀ k ∈ s, 0 ≤ k ∧ k < r.length) :
    Gives Tryz.prog G 141 [.ag [.sl 0 (cells r), .sl 0 (pieces l)], .i .i64 k, .sl 0 (ints s)] (.b (fitS p (ownM r s))) := by
  refine .of (.body Tryz.func141 rfl (by simp [Tryz.ntmps141]) ?_)
  rw [Tryz.ntmps141, Tryz.results141]
  have hrow := pieces_at hp
  replace hk := Hid.mk hk
  refine AL ?_
  refine CV (l10Cells_fn G r s hr hs hk.out) ?_
  refine AL ?_
  refine CV (l02Normal_fn G (pickM r s) (by rw [pickM_len]; exact hs0) (by rw [pickM_len]; exact hs)) ?_
  refine AL ?_
  refine CV (l11Forms_fn G p hp0 hpl) ?_
  have how : normM (pickM r s) = ownM r s := rfl
  have hol : (ownM r s).length < 1000000000 := by rw [ownM_len]; exact hs
  rw [how]
  generalize ownM r s = own at hol
  unfold fitS
  obtain ⟨a1, a2⟩ := formsP_ok p
  have hal := shapesR_len (formsP p)
  replace a2 := Hid.mk a2
  generalize formsP p = fa at *
  clear how
  refine AL ?_
  refine .loop (.inv (fun d E H n' => ∃ i : Nat, i + d = fa.length ∧ E 7 = .sl 1 (cells own) ∧ E 8 = .sl 1 (shapesR fa) ∧ E 9 = .i .i64 i ∧ (fa.take i).any (fun f => cmpM f own == 0) = false) fa.length ?_ ?_)
  · exact ⟨0, by omega, by simp [setF_if, argE], by simp [setF_if, argE], by simp [setF_if, argE], by simp⟩
  rintro d E H n' ⟨i, hi, h7, h8, h9, hany⟩
  replace hany := Hid.mk hany
  by_cases c : (i : Int) < fa.length
  · have hw_i : IntKind.i64.wrap ((i : Int) + 1) = (i : Int) + 1 := wr64 (by omega) (by omega)
    have cN : i < fa.length := by omega
    have hr := shapesR_at (ls := fa) (i := i) cN
    have hta := take_any (p := fun f => cmpM f own == 0) cN
    have hat := any_at (p := fun f => cmpM f own == 0) cN
    have hxl : (fa.getD i []).length < 1000000000 := by rw [a2.out _ (by rw [List.getD_eq_getElem?_getD, List.getElem?_eq_getElem cN]; exact List.getElem_mem _)]; exact hpl
    replace hta := Hid.mk hta
    replace hat := Hid.mk hat
    generalize fa.getD i [] = x at hr hta hat hxl
    refine AL ?_
    refine CV (specCompareShapes_fn G x own hxl hol) ?_
    by_cases cc : (cmpM x own == 0) = true
    · refine AL ?_
      simp [retA, backA, hat.out cc]
    · simp only [Bool.not_eq_true] at cc
      refine AL ?_
      exact ⟨fa.length - (i + 1), by omega, i + 1, by omega, by simp [setF_if, *], by simp [setF_if, *], by simp [setF_if, *], by rw [hta.out, hany.out, cc]; rfl⟩
  · have e' : i = fa.length := by omega
    rw [e', List.take_length] at hany
    refine AL ?_
    simp [retA, backA, hany.out]
def placeS (r : List (Int × Int)) (l : List PieceM) (k : Int) (s : List Int) : Bool := (decide (k ≥ 0) && decide (k ≤ (l.length : Int) - 1)) && decide ((s.length : Int) > 0) && inc s ((r.length : Int) - 1) && fitS (l.getD k.toNat pc0) (ownM r s)
def placeI (r : List (Int × Int)) (l : List PieceM) (k : Int) (s : List Int) : Bool := (decide (k ≥ 0) && decide (k ≤ (l.length : Int) - 1)) && decide ((s.length : Int) > 0) && inc s ((r.length : Int) - 1) && fitI (l.getD k.toNat pc0) (ownM r s)
theorem l12Is_fn (G : Gv) (r : List (Int × Int)) (l : List PieceM) (k : Int) (s : List Int) (hr1 : 1 ≤ r.length) (hr : r.length < 1000000000) (hl1 : 1 ≤ l.length) (hl : l.length < 1000000000) (hs : s.length < 1000000000) (hp0 : ∀ p ∈ l, 0 < p.cs.length) (hpl : ∀ p ∈ l, p.cs.length < 1000000000) :
    Gives Tryz.prog G 85 [.ag [.sl 0 (cells r), .sl 0 (pieces l)], .ag [.i .i64 k, .sl 0 (ints s)]] (.b (placeS r l k s)) := by
  refine .of (.body Tryz.func85 rfl (by simp [Tryz.ntmps85]) ?_)
  rw [Tryz.ntmps85, Tryz.results85]
  have hlen := pieces_len l
  have hsl := ints_len s
  have hrl := cells_len r
  have hw1 : IntKind.i64.wrap ((l.length : Int) - 1) = (l.length : Int) - 1 := wr64 (by omega) (by omega)
  have hw2 : IntKind.i64.wrap ((r.length : Int) - 1) = (r.length : Int) - 1 := wr64 (by omega) (by omega)
  replace hp0 := Hid.mk hp0
  replace hpl := Hid.mk hpl
  refine AL ?_
  refine CV (l01In_fn G _ _ _) ?_
  by_cases c1 : (decide (k ≥ 0) && decide (k ≤ (l.length : Int) - 1)) = true
  · by_cases c2 : (s.length : Int) > 0
    · refine AL ?_
      refine CV (l01Rises_fn G s _ (by omega)) ?_
      rw [hw2]
      by_cases c3 : inc s ((r.length : Int) - 1) = true
      · have hmem := inc_mem c3
        replace hmem := Hid.mk hmem
        obtain ⟨k0, k1⟩ : 0 ≤ k ∧ k ≤ (l.length : Int) - 1 := by simpa using c1
        have hkl : k.toNat < l.length := by omega
        obtain ⟨p, hp⟩ : ∃ p, l[k.toNat]? = some p := ⟨_, List.getElem?_eq_getElem hkl⟩
        have hkk : ((k.toNat : Nat) : Int) = k := Int.toNat_of_nonneg k0
        have hf := l12Form_fn G r l k.toNat s p hp (hp0.out p (List.mem_of_getElem? hp)) (hpl.out p (List.mem_of_getElem? hp)) hr hs (by omega) (fun x hx => by have := hmem.out x hx; omega)
        rw [hkk] at hf
        have hpd : l.getD k.toNat pc0 = p := by rw [List.getD_eq_getElem?_getD, hp]; rfl
        replace hkk := Hid.mk hkk
        refine AL ?_
        refine CV hf ?_
        have : placeS r l k s = fitS p (ownM r s) := by unfold placeS; rw [c1, c3, hpd]; simp; omega
        clear hf
        refine AL ?_
        simp [retA, backA, this]
      · have : placeS r l k s = false := by
          simp only [Bool.not_eq_true] at c3
          unfold placeS; rw [c3]; simp
        refine AL ?_
        simp [retA, backA, this]
    · have : placeS r l k s = false := by
        have hcs : decide ((s.length : Int) > 0) = false := decide_eq_false c2
        unfold placeS; rw [hcs]; simp
      refine AL ?_
      simp [retA, backA, this]
  · have : placeS r l k s = false := by
      simp only [Bool.not_eq_true] at c1
      unfold placeS; rw [c1]; rfl
    refine AL ?_
    simp [retA, backA, this]
theorem puzzleS_ok {r : List (Int × Int)} {l : List PieceM} (h : puzzleS r l = true) : 1 ≤ r.length ∧ 1 ≤ l.length ∧ ∀ p ∈ l, 0 < p.cs.length := by
  unfold puzzleS at h
  simp only [Bool.and_eq_true, decide_eq_true_eq, List.all_eq_true, List.mem_range] at h
  obtain ⟨⟨h1, h2, h3⟩, h4⟩ := h
  have hr : shapeM r = true := by unfold regionS at h1; simp only [Bool.and_eq_true] at h1; exact h1.1
  refine ⟨shapeM_pos hr, by omega, fun p hp => ?_⟩
  obtain ⟨i, hi, rfl⟩ := List.getElem_of_mem hp
  have := (h4 i hi).1
  rw [List.getD_eq_getElem?_getD, List.getElem?_eq_getElem hi] at this
  exact pieceS_pos this
theorem puzzleI_ok {r : List (Int × Int)} {l : List PieceM} (h : puzzleI r l = true) : 1 ≤ r.length ∧ 1 ≤ l.length ∧ ∀ p ∈ l, 0 < p.cs.length := by
  unfold puzzleI at h
  simp only [Bool.and_eq_true, decide_eq_true_eq, List.all_eq_true, List.mem_range] at h
  obtain ⟨⟨h1, h2, h3⟩, h4⟩ := h
  refine ⟨shapeM_pos (regionM_shape h1), by omega, fun p hp => ?_⟩
  obtain ⟨i, hi, rfl⟩ := List.getElem_of_mem hp
  have := (h4 i hi).1
  rw [List.getD_eq_getElem?_getD, List.getElem?_eq_getElem hi] at this
  exact pieceM_pos this
theorem isPl1_fn (G : Gv) (a own : Shape) (o : Nat) (T : TypeId) (H : Heap) (n tg ta : Nat) (ho : o < n) (hH : H o = some (.box T [.sl tg (cells own)])) (ha : a.length < 1000000000) (hb : own.length < 1000000000) :
    WC Tryz.prog G 149 [.sl ta (cells a), .ptr o 0 0 0] H n (fun r H' n' => r = .b (decide (a = own)) ∧ n ≤ n' ∧ H' = H) := by
  refine (.body Tryz.func149 rfl (by simp [Tryz.ntmps149]) ?_)
  rw [Tryz.ntmps149, Tryz.results149]
  refine AL ?_
  refine CV (equal_fn G a own ha hb) ?_
  refine AL ?_
  refine ⟨by simp [retA, setF_if], by omega, ?_⟩
  first | rfl | trivial
theorem isPlacement_fn (G : Gv) (hG : ∀ f args H n r H' n', sortsG f args H n r H' n' → G f args H n r H' n') (hG1 : ∀ f args H n r H' n', sortsG1 f args H n r H' n' → G f args H n r H' n') (r : List (Int × Int)) (l : List PieceM) (k : Int) (s : List Int) (hr1 : 1 ≤ r.length) (hr : r.length < 1000000000) (hl1 : 1 ≤ l.length) (hl : l.length < 1000000000) (hs : s.length < 1000000000) (hp0 : ∀ p ∈ l, 0 < p.cs.length) (hpl : ∀ p ∈ l, p.cs.length < 1000000000) :
    Gives Tryz.prog G 89 [.ag [.sl 0 (cells r), .sl 0 (pieces l)], .ag [.i .i64 k, .sl 0 (ints s)]] (.b (placeI r l k s)) := by
  refine .of (.body Tryz.func89 rfl (by simp [Tryz.ntmps89]) ?_)
  rw [Tryz.ntmps89, Tryz.results89]
  replace hG := Hid.mk hG
  replace hG1 := Hid.mk hG1
  have hlen := pieces_len l
  have hsl := ints_len s
  have hrl := cells_len r
  have hw1 : IntKind.i64.wrap ((l.length : Int) - 1) = (l.length : Int) - 1 := wr64 (by omega) (by omega)
  have hw2 : IntKind.i64.wrap ((r.length : Int) - 1) = (r.length : Int) - 1 := wr64 (by omega) (by omega)
  replace hp0 := Hid.mk hp0
  replace hpl := Hid.mk hpl
  refine AL ?_
  refine CV (within_fn G _ _ _) ?_
  by_cases c1 : (decide (k ≥ 0) && decide (k ≤ (l.length : Int) - 1)) = true
  · by_cases c2 : ((s.length : Int) == 0) = true
    · have : placeI r l k s = false := by
        have : s.length = 0 := by simpa using c2
        unfold placeI; simp [this]
      refine AL ?_
      simp [retA, backA, this]
    · have hs0 : 0 < s.length := by
        have : ¬ s.length = 0 := by simpa using c2
        omega
      simp only [Bool.not_eq_true] at c2
      refine AL ?_
      refine CV (isIncreasing_fn G s _ (by omega)) ?_
      rw [hw2]
      by_cases c3 : inc s ((r.length : Int) - 1) = true
      · have hmem := inc_mem c3
        replace hmem := Hid.mk hmem
        obtain ⟨k0, k1⟩ : 0 ≤ k ∧ k ≤ (l.length : Int) - 1 := by simpa using c1
        have hkl : k.toNat < l.length := by omega
        obtain ⟨p, hp⟩ : ∃ p, l[k.toNat]? = some p := ⟨_, List.getElem?_eq_getElem hkl⟩
        have hpd : l.getD k.toNat pc0 = p := by rw [List.getD_eq_getElem?_getD, hp]; rfl
        have hrow := pieces_at hp
        have hpp0 := hp0.out p (List.mem_of_getElem? hp)
        have hppl := hpl.out p (List.mem_of_getElem? hp)
        have : placeI r l k s = fitI p (ownM r s) := by unfold placeI; rw [c1, c3, hpd]; simp; omega
        replace this := Hid.mk this
        replace hpd := Hid.mk hpd
        refine AL ?_
        refine CV (setToCells_fn G r s hr hs (fun x hx => by have := hmem.out x hx; omega)) ?_
        refine AL ?_
        refine CV (normal_fn G (pickM r s) (by rw [pickM_len]; exact hs0) (by rw [pickM_len]; exact hs)) ?_
        have how : normM (pickM r s) = ownM r s := rfl
        have hol : (ownM r s).length < 1000000000 := by rw [ownM_len]; exact hs
        rw [how]
        generalize ownM r s = own at hol this
        clear how
        refine AL ?_
        refine CV (formsOf_fn G hG.out hG1.out p hpp0 hppl) ?_
        obtain ⟨f1, f2⟩ := formsI_ok p
        replace f2 := Hid.mk f2
        refine AL ?_
        refine CI ?_
        refine (containsFunc_fn G _ _ _ _ 1 (fun a => decide (a = own)) (formsI p) ?_ (by kernel_rfl) (by omega) _ _ (Nat.le_refl _) (fun _ _ => rfl)).mono ?_
        · intro x hx H n hn hH
          refine (isPl1_fn G x own _ 32 H n 1 1 ?_ ?_ (by rw [f2.out x hx]; exact hppl) hol).mono ?_
          rotate_left
          · rw [hH _ ?_]
            · exact Heap.upd_same _ _ _
            · decide
          · rintro r H2 n2 ⟨h1, h2, rfl⟩
            exact ⟨h1, by omega, hH⟩
          · omega
        · rintro r2 H2 n2 ⟨rfl, hn2, hH2⟩
          replace hH2 := Hid.mk hH2
          refine AL ?_
          simp [retA, backA, setF_if, this.out, fitI]
      · have : placeI r l k s = false := by
          simp only [Bool.not_eq_true] at c3
          unfold placeI; rw [c3]; simp
        refine AL ?_
        simp [retA, backA, this]
  · have : placeI r l k s = false := by
      simp only [Bool.not_eq_true] at c1
      unfold placeI; rw [c1]; rfl
    refine AL ?_
    simp [retA, backA, this]
end Go.Proofs
end
section
open Go Go.Big
namespace Go.Proofs
set_option maxHeartbeats 2000000
/-- The indices of cells in a region, if all lie in it. -/
def setM (r : Shape) : Shape → Option (List Int)
  | [] => some []
  | c :: cs => if idxM r c < 0 then none else (setM r cs).map (idxM r c :: ·)
def gM (r : Shape) (i : Int) (f : Shape) (a b : Int) : Option (Int × List Int) := (setM r (movedM f a b)).map fun s => (i, s)
def offA (f : Shape) (c : Int × Int) : Int × Int := (IntKind.i64.wrap (c.1 - (f.getD 0 (0, 0)).1), IntKind.i64.wrap (c.2 - (f.getD 0 (0, 0)).2))
def rowA (r : Shape) (i : Int) (f : Shape) : List (Int × List Int) := r.filterMap fun c => gM r i f (offA f c).1 (offA f c).2
def listA (r : Shape) (i : Int) (fs : List Shape) : List (Int × List Int) := fs.flatMap (rowA r i)
def orderP (l : List (Int × List Int)) : List (Int × List Int) := l.mergeSort fun a b => !decide (cmpP b a < 0)
/-- A placement put into a list in order. -/
def insP (x : Int × List Int) : List (Int × List Int) → List (Int × List Int)
  | [] => [x]
  | y :: l => if cmpP y x < 0 then y :: insP x l else x :: y :: l
def stepB (r : Shape) (i : Int) (f : Shape) (y : Int) (out : List (Int × List Int)) (x : Nat) : List (Int × List Int) := match gM r i f x y with
  | some t => insP t out
  | none => out
def rowB (r : Shape) (i : Int) (f : Shape) (wide : Nat) (out : List (Int × List Int)) (y : Nat) : List (Int × List Int) := (List.range wide).foldl (stepB r i f y) out
def formB (r : Shape) (i : Int) (wide high : Nat) (out : List (Int × List Int)) (f : Shape) : List (Int × List Int) := (List.range high).foldl (rowB r i f wide) out
def listB (r : Shape) (i : Int) (fs : List Shape) : List (Int × List Int) := fs.foldl (formB r i (sizeM r).1.toNat (sizeM r).2.toNat) []
/- Where cells stand. -/
theorem cellAt_iff {l : Shape} {c : Int × Int} {i : Nat} : cellAt l c i = true ↔ l.getD i (0, 0) = c := by
  simp [cellAt, Prod.ext_iff]
theorem idx_mem {r : Shape} {c : Int × Int} (h : c ∈ r) : 0 ≤ idxM r c ∧ idxM r c < r.length ∧ r.getD (idxM r c).toNat (0, 0) = c := by
  unfold idxM
  cases q : (List.range r.length).find? (cellAt r c) with
  | none =>
    obtain ⟨i, hi, e⟩ := List.mem_iff_getElem.mp h
    rw [List.find?_range_eq_none] at q
    have := q i hi
    rw [Bool.not_eq_true', ← Bool.not_eq_true, cellAt_iff] at this
    exact absurd (by simp [List.getD_eq_getElem?_getD, hi, e]) this
  | some i =>
    rw [List.find?_range_eq_some] at q
    have hi : i < r.length := by simpa using q.2.1
    exact ⟨by simp, by simp [hi], by simpa using cellAt_iff.mp q.1⟩
theorem idx_not {r : Shape} {c : Int × Int} (h : c ∉ r) : idxM r c = -1 := by
  unfold idxM
  cases q : (List.range r.length).find? (cellAt r c) with
  | none => rfl
  | some i =>
    rw [List.find?_range_eq_some] at q
    have hi : i < r.length := by simpa using q.2.1
    have := cellAt_iff.mp q.1
    simp only [List.getD_eq_getElem?_getD, List.getElem?_eq_getElem hi, Option.getD_some] at this
    exact absurd (this ▸ List.getElem_mem hi) h
end Go.Proofs
end
section
open Go Go.Big
namespace Go.Proofs
set_option maxHeartbeats 2000000
theorem setM_snoc {r : Shape} {c : Int × Int} : ∀ {cs : Shape}, setM r (cs ++ [c]) = (setM r cs).bind fun s => if idxM r c < 0 then none else some (s ++ [idxM r c])
  | [] => by
    simp only [List.nil_append, setM]
    split <;> simp [*]
  | d :: cs => by
    rw [List.cons_append]
    simp only [setM]
    split
    · rfl
    · rw [setM_snoc]
      cases setM r cs with
      | none => rfl
      | some s => simp only [Option.bind_some, Option.map_some]; split <;> simp
theorem setM_app {r : Shape} {b : Shape} : ∀ {a : Shape}, setM r a = none → setM r (a ++ b) = none
  | [], h => by simp [setM] at h
  | d :: a, h => by
    rw [List.cons_append]
    simp only [setM] at h ⊢
    split at h
    · rename_i c; rw [if_pos c]
    · rename_i c
      rw [if_neg c]
      cases q : setM r a with
      | none => rw [setM_app q]; rfl
      | some s => rw [q] at h; simp at h
theorem setM_len {r : Shape} : ∀ {cs : Shape} {s : List Int}, setM r cs = some s → s.length = cs.length
  | [], s, h => by simp only [setM, Option.some.injEq] at h; subst h; rfl
  | c :: cs, s, h => by
    simp only [setM] at h
    split at h
    · simp at h
    · obtain ⟨s', h1, rfl⟩ := Option.map_eq_some_iff.mp h
      simp [setM_len h1]
theorem setM_take {r cs : Shape} {i : Nat} (hi : i < cs.length) {s : List Int} (h : setM r (cs.take i) = some s) : setM r (cs.take (i + 1)) = if idxM r (cs.getD i (0, 0)) < 0 then none else some (s ++ [idxM r (cs.getD i (0, 0))]) := by
  rw [List.take_succ_eq_append_getElem hi, setM_snoc, h, Option.bind_some, List.getD_eq_getElem?_getD, List.getElem?_eq_getElem hi]; rfl
theorem setM_stop {r cs : Shape} {i : Nat} (hi : i < cs.length) (h : setM r (cs.take (i + 1)) = none) : setM r cs = none := by
  have := setM_app (b := cs.drop (i + 1)) h
  rwa [List.take_append_drop] at this
def setA (o : Option (List Int)) : AV := match o with
  | some s => .tup [.sl 1 (ints s), .b true]
  | none => .tup [.sl 1 [], .b false]
theorem l10Set_fn (G : Gv) (r cs : Shape) (hr : r.length < 1000000000) (hc : cs.length < 1000000000) : Gives Tryz.prog G 129 [.sl 0 (cells r), .sl 0 (cells cs)] (setA (setM r cs)) := by
  refine .of (.body Tryz.func129 rfl (by simp [Tryz.ntmps129]) ?_)
  rw [Tryz.ntmps129, Tryz.results129]
  have hlen := cells_len cs
  refine AL ?_
  refine .loop (.inv (fun d E H n' => ∃ (i : Nat) (s : List Int) (e : Nat), i + d = cs.length ∧ 2 < n' ∧ E 0 = .sl 0 (cells r) ∧ E 1 = .sl 0 (cells cs) ∧ E 6 = .own 2 e ∧ E 7 = .i .i64 i ∧ H 2 = some (.arr e 2 1 (ints s) 1) ∧ setM r (cs.take i) = some s) cs.length ?_ ?_)
  · exact ⟨0, [], 0, by omega, by omega, by simp [setF_if, argE], by simp [setF_if, argE], by simp [setF_if, argE], by simp [setF_if, argE], by simp [upd_if, ints], rfl⟩
  rintro d E H n' ⟨i, s, e, hi, hn, h0, h1, h6, h7, hH, hs⟩
  replace hs := Hid.mk hs
  by_cases c : (i : Int) < cs.length
  · have hw_i : IntKind.i64.wrap ((i : Int) + 1) = (i : Int) + 1 := wr64 (by omega) (by omega)
    have hro := cells_at (l := cs) (i := i) (by omega)
    have hst := setM_take (i := i) (by omega) hs.out
    have hsl := setM_len hs.out
    have hstop := fun h => setM_stop (r := r) (cs := cs) (i := i) (by omega) h
    rw [List.length_take] at hsl
    have hle : (ints s).length = s.length := ints_len s
    have hb : (s.length + 1) * 8 ≤ 140737488355328 := by omega
    generalize cs.getD i (0, 0) = p at hro hst
    obtain ⟨px, py⟩ := p
    have hap : ints s ++ [[.i .i64 (idxM r (px, py))]] = ints (s ++ [idxM r (px, py)]) := by simp [ints]
    replace hst := Hid.mk hst
    replace hstop := Hid.mk hstop
    have n3 : ¬ (2 = n' + 17) := by omega
    clear hsl
    refine AL ?_
    refine CV (l02Index_fn G r px py hr) ?_
    by_cases ck : idxM r (px, py) < 0
    · have := hstop.out (by rw [hst.out, if_pos ck])
      replace this := Hid.mk this
      clear hb
      refine AL ?_
      simp [retA, backA, backsA, setA, this.out]
    · have hst2 := hst.out
      rw [if_neg ck] at hst2
      replace hst2 := Hid.mk hst2
      refine AL ?_
      exact ⟨cs.length - (i + 1), by omega, i + 1, s ++ [idxM r (px, py)], e + 1, by omega, by omega, by simp [setF_if, *], by simp [setF_if, *], by simp [setF_if, *], by simp [setF_if, *], by simp [upd_if, *], hst2.out⟩
  · have ei : i = cs.length := by omega
    have hs' := hs.out
    rw [ei, List.take_length] at hs'
    refine AL ?_
    rw [hs']
    simp [retA, backA, backsA, newSl, newB, setA, setF_if, h6, hH]
/- The library's binary search in a sorted list of cells. -/
def posM (r : Shape) (c : Int × Int) : Nat := r.countP fun q => lessC q.1 q.2 c.1 c.2
theorem countP_split {α : Type} {p : α → Bool} {l : List α} {i : Nat} (hi : i ≤ l.length) (h1 : ∀ k (h : k < l.length), k < i → p l[k] = true) (h2 : ∀ k (h : k < l.length), i ≤ k → p l[k] = false) : l.countP p = i := by
  have e : l.countP p = (l.take i).countP p + (l.drop i).countP p := by rw [← List.countP_append, List.take_append_drop]
  have e1 : (l.take i).countP p = (l.take i).length := by
    rw [List.countP_eq_length]
    intro x hx
    obtain ⟨k, hk, rfl⟩ := List.mem_iff_getElem.mp hx
    rw [List.length_take] at hk
    rw [List.getElem_take]
    exact h1 k (by omega) (by omega)
  have e2 : (l.drop i).countP p = 0 := by
    rw [List.countP_eq_zero]
    intro x hx
    obtain ⟨k, hk, rfl⟩ := List.mem_iff_getElem.mp hx
    rw [List.length_drop] at hk
    rw [List.getElem_drop, h2 (i + k) (by omega) (by omega)]
    simp
  rw [e, e1, e2, List.length_take]; omega
theorem wru64 {n : Int} (h1 : 0 ≤ n) (h2 : n < 4611686018427387904) : IntKind.u64.wrap n = n := by
  simp [IntKind.wrap, IntKind.bits, IntKind.signed]; omega
theorem bsearch_fn (G : Gv) (r : Shape) (c : Int × Int) (hs : r.Pairwise fun a b => lessC a.1 a.2 b.1 b.2 = true) (hr : r.length < 1000000000) :
    Gives Tryz.prog G 183 [.sl 0 (cells r), cellA c.1 c.2, .fn 184 []] (.tup [.i .i64 (posM r c), .b (decide (c ∈ r))]) := by
  refine .of (.body Tryz.func183 rfl (by simp [Tryz.ntmps183]) ?_)
  rw [Tryz.ntmps183, Tryz.results183]
  have hlen := cells_len r
  obtain ⟨cx, cy⟩ := c
  replace hs := Hid.mk hs
  refine AL ?_
  refine .loop (.inv (fun d E H n' => ∃ i j : Nat, d = j - i ∧ i ≤ j ∧ j ≤ r.length ∧ 0 < n' ∧ E 0 = .sl 0 (cells r) ∧ E 2 = .fn 184 [] ∧ E 4 = .ptr 0 0 0 0 ∧ E 8 = .i .i64 r.length ∧ E 9 = .i .i64 i ∧ E 10 = .i .i64 j ∧ H 0 = some (.box 117 [.i .i64 cx, .i .i64 cy]) ∧
      (∀ k (h : k < r.length), k < i → lessC (r[k]).1 (r[k]).2 cx cy = true) ∧ (∀ k (h : k < r.length), j ≤ k → lessC (r[k]).1 (r[k]).2 cx cy = false)) r.length ?_ ?_)
  · exact ⟨0, r.length, by omega, by omega, by omega, by omega, by simp [setF_if, argE], by simp [setF_if, argE], by simp [setF_if, argE], by simp [setF_if, argE, hlen], by simp [setF_if, argE], by simp [setF_if, argE, hlen], by simp [upd_if], fun k _ hk => by omega, fun k _ hk => by omega⟩
  rintro d E H n' ⟨i, j, hd, hij, hj, hn, h0, h2, h4, h8, h9, h10, hH, hlo, hhi⟩
  replace hlo := Hid.mk hlo
  replace hhi := Hid.mk hhi
  by_cases ci : (i : Int) < j
  · obtain ⟨h, hh⟩ : ∃ h, h = (i + j) / 2 := ⟨_, rfl⟩
    have hhb : i ≤ h ∧ h < j := by omega
    have hhl : h < r.length := by omega
    have hw1 : IntKind.i64.wrap ((i : Int) + j) = (i : Int) + j := wr64 (by omega) (by omega)
    have hw2 : IntKind.u64.wrap ((i : Int) + j) = (i : Int) + j := wru64 (by omega) (by omega)
    have hw3 : IntKind.i64.wrap (h : Int) = h := wr64 (by omega) (by omega)
    have hw4 : IntKind.i64.wrap ((h : Int) + 1) = (h : Int) + 1 := wr64 (by omega) (by omega)
    have hf : Int.fdiv ((i : Int) + j) (2 ^ min 1 IntKind.u64.bits) = (h : Int) := by
      rw [show ((2 : Int) ^ min 1 IntKind.u64.bits) = 2 from rfl, Int.fdiv_eq_ediv_of_nonneg _ (by omega)]; omega
    have hro := cells_at (l := r) (i := h) (by omega)
    rw [show r.getD h (0, 0) = r[h]'hhl by rw [List.getD_eq_getElem?_getD, List.getElem?_eq_getElem (by omega)]; rfl] at hro
    obtain ⟨q, hq⟩ : ∃ q, r[h]'hhl = q := ⟨_, rfl⟩
    rw [hq] at hro
    have hlt : lessC q.1 q.2 cx cy = true → ∀ k (hk : k < r.length), k < h + 1 → lessC (r[k]).1 (r[k]).2 cx cy = true := fun hl k hk hkh => by
      by_cases e : k = h
      · subst e; rw [hq]; exact hl
      · have := List.pairwise_iff_getElem.mp hs.out k h hk hhl (by omega)
        rw [hq] at this
        exact lessC_trans (a := r[k]) (b := q) (c := (cx, cy)) this hl
    have hge : lessC q.1 q.2 cx cy = false → ∀ k (hk : k < r.length), h ≤ k → lessC (r[k]).1 (r[k]).2 cx cy = false := fun hl k hk hkh => by
      by_cases e : k = h
      · subst e; rw [hq]; exact hl
      · have := List.pairwise_iff_getElem.mp hs.out h k hhl hk (by omega)
        rw [hq] at this
        cases z : lessC (r[k]).1 (r[k]).2 cx cy with
        | false => rfl
        | true => have := lessC_trans (a := q) (b := r[k]) (c := (cx, cy)) this z; rw [hl] at this; cases this
    have hdec : decide (cmpC q.1 q.2 cx cy < 0) = lessC q.1 q.2 cx cy := by rw [cmpC_cases]; cases lessC q.1 q.2 cx cy <;> simp <;> split <;> simp
    obtain ⟨qx, qy⟩ := q
    simp only at hro hdec hlt hge
    replace hlt := Hid.mk hlt
    replace hge := Hid.mk hge
    replace hq := Hid.mk hq
    replace hh := Hid.mk hh
    refine AL ?_
    refine CQ (compareCells_fn G qx qy cx cy) ?_
    cases cl : lessC qx qy cx cy with
    | true =>
      rw [cl] at hdec
      refine AL ?_
      exact ⟨j - (h + 1), by omega, h + 1, j, rfl, by omega, by omega, by omega, by simp [setF_if, *], by simp [setF_if, *], by simp [setF_if, *], by simp [setF_if, *], by simp [setF_if, *], by simp [setF_if, *], by simp [*], hlt.out cl, hhi.out⟩
    | false =>
      rw [cl] at hdec
      refine AL ?_
      exact ⟨h - i, by omega, i, h, rfl, by omega, by omega, by omega, by simp [setF_if, *], by simp [setF_if, *], by simp [setF_if, *], by simp [setF_if, *], by simp [setF_if, *], by simp [setF_if, *], by simp [*], hlo.out, hge.out cl⟩
  · obtain rfl : i = j := by omega
    have hpos : posM r (cx, cy) = i := by
      unfold posM
      exact countP_split hj hlo.out hhi.out
    by_cases cl : (i : Int) < r.length
    · have hil : i < r.length := by omega
      have hro := cells_at (l := r) (i := i) hil
      rw [show r.getD i (0, 0) = r[i]'hil by rw [List.getD_eq_getElem?_getD, List.getElem?_eq_getElem hil]; rfl] at hro
      have hqn := hhi.out i hil (Nat.le_refl _)
      have hdec : (cmpC (r[i]'hil).1 (r[i]'hil).2 cx cy == 0) = decide ((cx, cy) ∈ r) := by
        rw [cmpC_cases, hqn]
        simp only [Bool.false_eq_true, if_false]
        by_cases e : r[i]'hil = (cx, cy)
        · have h1 : (cx, cy) ∈ r := e ▸ List.getElem_mem hil
          rw [e]
          simp [h1, lessC_self]
        · have h1 : (cx, cy) ∉ r := fun h => by
            obtain ⟨k, hk, hkc⟩ := List.mem_iff_getElem.mp h
            rcases Nat.lt_trichotomy k i with h2 | rfl | h2
            · have := hlo.out k hk h2
              rw [hkc, lessC_self] at this; cases this
            · exact e hkc
            · have := List.pairwise_iff_getElem.mp hs.out i k hil hk h2
              rw [hkc] at this
              rw [this] at hqn; cases hqn
          have h2 : lessC cx cy (r[i]'hil).1 (r[i]'hil).2 = true := by
            cases z : lessC cx cy (r[i]'hil).1 (r[i]'hil).2 with
            | true => rfl
            | false => exact absurd (lessC_total (a := r[i]'hil) (b := (cx, cy)) hqn z) e
          rw [h2]; simp [h1]
      generalize r[i]'hil = q at hro hdec hqn
      obtain ⟨qx, qy⟩ := q
      simp only at hro hdec hqn
      replace hpos := Hid.mk hpos
      clear hqn
      generalize decide ((cx, cy) ∈ r) = dd at hdec
      replace hdec := Hid.mk hdec
      refine AL ?_
      refine CQ (compareCells_fn G qx qy cx cy) ?_
      rw [show cmpC qx qy cx cy = cmpC qx qy cx cy from rfl]
      have hdec2 := hdec.out
      refine AL ?_
      simp [retA, backA, backsA, hpos.out]
    · have hdec : decide ((cx, cy) ∈ r) = false := by
        rw [decide_eq_false_iff_not]
        intro h
        obtain ⟨k, hk, hkc⟩ := List.mem_iff_getElem.mp h
        have := hlo.out k hk (by omega)
        rw [hkc, lessC_self] at this; cases this
      replace hpos := Hid.mk hpos
      refine AL ?_
      simp [retA, backA, backsA, hpos.out, hdec]
theorem idx_pos {r : Shape} {c : Int × Int} (hs : r.Pairwise fun a b => lessC a.1 a.2 b.1 b.2 = true) (h : c ∈ r) : idxM r c = posM r c := by
  obtain ⟨k1, k2, k3⟩ := idx_mem h
  generalize idxM r c = k at k1 k2 k3
  obtain ⟨j, rfl⟩ : ∃ j : Nat, k = j := ⟨k.toNat, by omega⟩
  have hj : j < r.length := by omega
  have e : r[j]'hj = c := by
    rw [Int.toNat_natCast, List.getD_eq_getElem?_getD, List.getElem?_eq_getElem hj] at k3; exact k3
  have : posM r c = j := by
    unfold posM
    refine countP_split (by omega) (fun k hk hkj => ?_) (fun k hk hkj => ?_)
    · have := List.pairwise_iff_getElem.mp hs k j hk hj hkj
      rw [e] at this; exact this
    · by_cases q : k = j
      · subst q; rw [e]; exact lessC_self _ _
      · have := List.pairwise_iff_getElem.mp hs j k hj hk (by omega)
        rw [e] at this
        cases z : lessC (r[k]).1 (r[k]).2 c.1 c.2 with
        | false => rfl
        | true => have h2 := lessC_trans (a := c) (b := r[k]) (c := c) this z; rw [lessC_self] at h2; cases h2
  rw [this]
theorem cellsToSet_o (G : Gv) (r cs : Shape) (hs : r.Pairwise fun a b => lessC a.1 a.2 b.1 b.2 = true) (hr : r.length < 1000000000) (hc : cs.length < 1000000000) : GivesO Tryz.prog G 136 [.sl 0 (cells r), .sl 0 (cells cs)] (setA (setM r cs)) := by
  refine .of (.body Tryz.func136 rfl (by simp [Tryz.ntmps136]) ?_)
  rw [Tryz.ntmps136, Tryz.results136]
  have hlen := cells_len cs
  replace hs := Hid.mk hs
  refine AL ?_
  refine .loop (.inv (fun d E H n' => ∃ (i : Nat) (s : List Int) (e : Nat), i + d = cs.length ∧ 2 < n' ∧ E 0 = .sl 0 (cells r) ∧ E 12 = .sl 0 (cells cs) ∧ E 13 = .i .i64 cs.length ∧ E 6 = .own 2 e ∧ E 14 = .i .i64 i ∧ H 2 = some (.arr e 2 1 (ints s) 1) ∧ setM r (cs.take i) = some s) cs.length ?_ ?_)
  · exact ⟨0, [], 0, by omega, by omega, by simp [setF_if, argE], by simp [setF_if, argE], by simp [setF_if, argE, hlen], by simp [setF_if, argE], by simp [setF_if, argE], by simp [upd_if, ints], rfl⟩
  rintro d E H n' ⟨i, s, e, hi, hn, h0, h12, h13, h6, h14, hH, hst0⟩
  replace hst0 := Hid.mk hst0
  by_cases c : (i : Int) < cs.length
  · have hw_i : IntKind.i64.wrap ((i : Int) + 1) = (i : Int) + 1 := wr64 (by omega) (by omega)
    have hro := cells_at (l := cs) (i := i) (by omega)
    have hst := setM_take (i := i) (by omega) hst0.out
    have hsl := setM_len hst0.out
    have hstop := fun h => setM_stop (r := r) (cs := cs) (i := i) (by omega) h
    rw [List.length_take] at hsl
    have hle : (ints s).length = s.length := ints_len s
    have hb : (s.length + 1) * 8 ≤ 140737488355328 := by omega
    generalize cs.getD i (0, 0) = p at hro hst
    have hap : ints s ++ [[.i .i64 (posM r p : Int)]] = ints (s ++ [(posM r p : Int)]) := by simp [ints]
    have n3 : ¬ (2 = n' + 3) := by omega
    have n17 : ¬ (2 = n' + 17) := by omega
    have hb1 := bsearch_fn G r p hs.out hr
    by_cases hm : p ∈ r
    · have hip := idx_pos hs.out hm
      rw [hip, if_neg (by omega)] at hst
      rw [show decide (p ∈ r) = true by simpa using hm] at hb1
      replace hst := Hid.mk hst
      replace hip := Hid.mk hip
      replace hm := Hid.mk hm
      replace hb1 := Hid.mk hb1
      clear hsl hstop
      obtain ⟨px, py⟩ := p
      generalize (posM r (px, py) : Int) = pm at hap hb1 hst hip
      refine AL ?_
      refine CV hb1.out ?_
      refine AL ?_
      exact ⟨cs.length - (i + 1), by omega, i + 1, s ++ [pm], e + 1, by omega, by omega, by simp [setF_if, *], by simp [setF_if, *], by simp [setF_if, *], by simp [setF_if, *], by simp [setF_if, *], by simp [upd_if, *], hst.out⟩
    · have hne : idxM r p = -1 := idx_not hm
      rw [hne, if_pos (by omega)] at hst
      have hnone := hstop hst
      rw [show decide (p ∈ r) = false by simpa using hm] at hb1
      replace hnone := Hid.mk hnone
      replace hb1 := Hid.mk hb1
      clear hsl hstop hst hne hm hap hb
      obtain ⟨px, py⟩ := p
      refine AL ?_
      refine CV hb1.out ?_
      refine AL ?_
      refine ⟨[], ?_, by simp⟩
      rw [hnone.out]
      exact ownX_mkT (s1 := []) (ownX_sl ownA_nil) ownX_mkb
  · have ei : i = cs.length := by omega
    have hs' := hst0.out
    rw [ei, List.take_length] at hs'
    refine AL ?_
    refine ⟨[2], ?_, by simp⟩
    rw [hs', ← List.append_nil [2]]
    exact ownX_mkT (ownX_sl (ownA_mk hH (ints_scal _) (by decide) (ints_fit _))) ownX_mkb
end Go.Proofs
end
section
open Go Go.Big
namespace Go.Proofs
set_option maxHeartbeats 2000000
theorem take_allG {α : Type} {p : α → Bool} {l : List α} {i : Nat} {x : α} (h : l[i]? = some x) : (l.take (i + 1)).all p = ((l.take i).all p && p x) := by
  obtain ⟨hi, rfl⟩ := List.getElem?_eq_some_iff.mp h
  rw [List.take_succ_eq_append_getElem hi, List.all_append]; simp
theorem all_noG {α : Type} {p : α → Bool} {l : List α} {i : Nat} {x : α} (h : l[i]? = some x) (hp : p x = false) : l.all p = false :=
  List.all_eq_false.mpr ⟨x, List.mem_of_getElem? h, by simp [hp]⟩
def clearM (l : List (Int × List Int)) (x : List Int) : Bool := l.all fun y => !overM y.2 x
theorem l15Clear_fn (G : Gv) (l : List (Int × List Int)) (x : Int × List Int) (hl : l.length < 1000000000) (hc : ∀ p ∈ l, p.2.length < 1000000000) (hx : x.2.length < 1000000000) : Gives Tryz.prog G 202 [.sl 0 (places l), placA 0 x] (.b (clearM l x.2)) := by
  refine .of (.body Tryz.func202 rfl (by simp [Tryz.ntmps202]) ?_)
  rw [Tryz.ntmps202, Tryz.results202]
  obtain ⟨k, s⟩ := x
  have hlen := places_len l
  replace hc := Hid.mk hc
  refine AL ?_
  refine .loop (.inv (fun d E H n' => ∃ i : Nat, i + d = l.length ∧ 0 < n' ∧ E 0 = .sl 0 (places l) ∧ E 3 = .ptr 0 0 0 0 ∧ E 5 = .i .i64 i ∧ H 0 = some (.box 55 [.i .i64 k, .sl 0 (ints s)]) ∧ (l.take i).all (fun y => !overM y.2 s) = true) l.length ?_ ?_)
  · exact ⟨0, by omega, by omega, by simp [setF_if, argE], by simp [setF_if, argE], by simp [setF_if, argE], by simp [upd_if], by simp⟩
  rintro d E H n' ⟨i, hi, hn, h0, h3, h5, hH, hall⟩
  replace hall := Hid.mk hall
  by_cases c : (i : Int) < l.length
  · have hw_i : IntKind.i64.wrap ((i : Int) + 1) = (i : Int) + 1 := wr64 (by omega) (by omega)
    obtain ⟨p, hp⟩ : ∃ p, l[i]? = some p := ⟨_, List.getElem?_eq_getElem (by omega)⟩
    have hr := places_at hp
    have hta := take_allG (p := fun y : Int × List Int => !overM y.2 s) hp
    have hat := all_noG (p := fun y : Int × List Int => !overM y.2 s) hp
    have hpl := hc.out p (List.mem_of_getElem? hp)
    replace hta := Hid.mk hta
    replace hat := Hid.mk hat
    replace hp := Hid.mk hp
    refine AL ?_
    refine CQ (l12Overlap_fn G p.2 s hpl hx) ?_
    by_cases ce : overM p.2 s = true
    · refine AL ?_
      simp [retA, backA, clearM, hat.out (by simp [ce])]
    · refine AL ?_
      exact ⟨l.length - (i + 1), by omega, i + 1, by omega, by omega, by simp [setF_if, *], by simp [setF_if, *], by simp [setF_if, *], by simp [upd_if, *], by rw [hta.out, hall.out]; simpa using ce⟩
  · have e : i = l.length := by omega
    rw [e, List.take_length] at hall
    refine AL ?_
    simp [retA, backA, clearM, hall.out]
def decM (out : List Int) (x : Int × List Int) : List Int := out.set x.1.toNat (IntKind.i64.wrap (out.getD x.1.toNat 0 - 1))
def copiesM (l : List PieceM) : List Int := l.map fun p => p.k
def leftM (l : List PieceM) (s : List (Int × List Int)) : List Int := s.foldl decM (copiesM l)
theorem foldl_take {α β : Type} {f : β → α → β} {z : β} {l : List α} {i : Nat} {x : α} (h : l[i]? = some x) : (l.take (i + 1)).foldl f z = f ((l.take i).foldl f z) x := by
  obtain ⟨hi, rfl⟩ := List.getElem?_eq_some_iff.mp h
  rw [List.take_succ_eq_append_getElem hi, List.foldl_append]; rfl
theorem dec_len : ∀ (s : List (Int × List Int)) (o : List Int), (s.foldl decM o).length = o.length
  | [], _ => rfl
  | x :: s, o => by rw [List.foldl_cons, dec_len s]; simp [decM]
theorem l15Left_fn (G : Gv) (r : List (Int × Int)) (l : List PieceM) (s : List (Int × List Int)) (hl : l.length < 1000000000) (hs : s.length < 1000000000) (hk : ∀ x ∈ s, 0 ≤ x.1 ∧ x.1 < l.length) : Gives Tryz.prog G 62 [.ag [.sl 0 (cells r), .sl 0 (pieces l)], .sl 0 (places s)] (.sl 1 (ints (leftM l s))) := by
  refine .of (.body Tryz.func62 rfl (by simp [Tryz.ntmps62]) ?_)
  rw [Tryz.ntmps62, Tryz.results62]
  have hlen := pieces_len l
  have hlens := places_len s
  replace hk := Hid.mk hk
  refine AL ?_
  refine .loop (.inv (fun d E H n' => ∃ i : Nat, i + d = l.length ∧ 2 < n' ∧ E 1 = .sl 0 (places s) ∧ E 2 = .ptr 0 0 0 0 ∧ E 6 = .i .i64 i ∧ H 0 = some (.box 35 [.sl 0 (cells r), .sl 0 (pieces l)]) ∧ ∃ e, E 5 = .own 2 e ∧ H 2 = some (.arr e 2 1 (ints (copiesM (l.take i))) 1)) l.length ?_ ?_)
  · exact ⟨0, by omega, by omega, by simp [setF_if, argE], by simp [setF_if, argE], by simp [setF_if, argE], by simp [upd_if], 0, by simp [setF_if, argE], by simp [upd_if, copiesM, ints]⟩
  · rintro d E H n' ⟨i, hi, hn, h1, h2, h6, hH, e, h5, hH2⟩
    by_cases c : (i : Int) < l.length
    · have hw_i : IntKind.i64.wrap ((i : Int) + 1) = (i : Int) + 1 := wr64 (by omega) (by omega)
      obtain ⟨p, hp⟩ : ∃ p, l[i]? = some p := ⟨_, List.getElem?_eq_getElem (by omega)⟩
      have hr : (pieces l)[i]? = some (pieceR p) := by simp [pieces, hp]
      have htk : ints (copiesM (l.take i)) ++ [[.i .i64 p.k]] = ints (copiesM (l.take (i + 1))) := by
        obtain ⟨hi', rfl⟩ := List.getElem?_eq_some_iff.mp hp
        rw [List.take_succ_eq_append_getElem hi']; simp only [ints, copiesM, List.map_append, List.map_cons, List.map_nil]
      have hrl : (ints (copiesM (l.take i))).length = i := by simp [ints, copiesM]; omega
      have hb : (i + 1) * 8 ≤ 140737488355328 := by omega
      replace hp := Hid.mk hp
      refine AL ?_
      exact ⟨l.length - (i + 1), by omega, i + 1, by omega, by omega, by simp [setF_if, *], by simp [setF_if, *], by simp [setF_if, *], by simp [upd_if, *], e + 1, by simp [setF_if, *], by simp [upd_if, *]⟩
    · have ei : i = l.length := by omega
      rw [ei, List.take_length] at hH2
      refine AL ?_
      refine .loop (.inv (fun d E H n' => ∃ i : Nat, i + d = s.length ∧ 2 < n' ∧ E 1 = .sl 0 (places s) ∧ E 7 = .i .i64 i ∧ E 5 = .own 2 e ∧ H 2 = some (.arr e 2 1 (ints ((s.take i).foldl decM (copiesM l))) 1)) s.length ?_ ?_)
      · exact ⟨0, by omega, by omega, by simp [setF_if, *], by simp [setF_if, *], by simp [setF_if, *], by simp [upd_if, *]⟩
      clear h1 h5 hH2 c ei hi hH h2 h6
      rintro d E H n' ⟨i, hi, hn, h1, h7, h5, hH2⟩
      by_cases c : (i : Int) < s.length
      · have hw_i : IntKind.i64.wrap ((i : Int) + 1) = (i : Int) + 1 := wr64 (by omega) (by omega)
        obtain ⟨x, hx⟩ : ∃ x, s[i]? = some x := ⟨_, List.getElem?_eq_getElem (by omega)⟩
        have hr := places_at hx
        obtain ⟨k1, k2⟩ := hk.out x (List.mem_of_getElem? hx)
        have hft := foldl_take (f := decM) (z := copiesM l) hx
        have hol : ((s.take i).foldl decM (copiesM l)).length = l.length := by rw [dec_len]; simp [copiesM]
        have hro := ints_at (l := (s.take i).foldl decM (copiesM l)) (i := x.1.toNat) (by omega)
        have hro2 : x.1.toNat < (ints ((s.take i).foldl decM (copiesM l))).length := by rw [ints_len]; omega
        have hset := ints_set ((s.take i).foldl decM (copiesM l)) x.1.toNat (IntKind.i64.wrap (((s.take i).foldl decM (copiesM l)).getD x.1.toNat 0 - 1))
        rw [show ((s.take i).foldl decM (copiesM l)).set x.1.toNat (IntKind.i64.wrap (((s.take i).foldl decM (copiesM l)).getD x.1.toNat 0 - 1)) = (s.take (i + 1)).foldl decM (copiesM l) by rw [hft]; rfl] at hset
        replace hset := hset.symm
        generalize ((s.take i).foldl decM (copiesM l)).getD x.1.toNat 0 = v at hro hset
        generalize ints ((s.take i).foldl decM (copiesM l)) = R at hH2 hro hro2 hset
        replace hx := Hid.mk hx
        replace hft := Hid.mk hft
        clear hol
        refine AL ?_
        exact ⟨s.length - (i + 1), by omega, i + 1, by omega, by omega, by simp [setF_if, *], by simp [setF_if, *], by simp [setF_if, *], by simp [upd_if, *]⟩
      · have ei : i = s.length := by omega
        rw [ei, List.take_length] at hH2
        refine AL ?_
        simp [retA, backA, newSl, newB, leftM, *]
end Go.Proofs
end
