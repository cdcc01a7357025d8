/- Walks: Lists of numbers that rise, the reference's. No condition. | What is a placement. No condition. | Whether a list of numbers holds one, whether two have one in common; lists and placements compared. No condition. | Lists compared as the library does it; placements compared. No condition. | Sizes of what comes in. No condition. | Lists of placements: turned into other ones, equal to itself, their size. No condition. | Placements of a piece, as lists: what both programs make. No condition. | Arguments turned into ones that the caller owns. No condition. -/
import Derived.Test.YtmglpcdalechfaaGreatBO
import Derived.Test.YtmglpcdalechfaaGreatWk1
import Derived.Test.YtmglpcdalechfaaGreatWk4
import Derived.Test.YtmglpcdalechfaaGreatBC
set_option linter.unusedVariables false
set_option linter.unusedSimpArgs false
section
open Go Go.Big
namespace Go.Proofs
set_option maxHeartbeats 2000000
theorem l01Rises_fn (G : Gv) (l : List Int) (n : Int) (hl : l.length < 4611686018427387904) : Gives Tryz.prog G 115 [.sl 0 (ints l), .i .i64 n] (.b (inc l (IntKind.i64.wrap (n - 1)))) := by
  refine .of (.body Tryz.func115 rfl (by simp [Tryz.ntmps115]) ?_)
  rw [Tryz.ntmps115, Tryz.results115]
  refine AG ?_
  refine .block (.loop (.inv (fun d E H n' => ∃ i : Nat, i + d = l.length ∧ E 0 = .sl 0 (ints l) ∧ E 1 = .i .i64 n ∧ E 5 = .i .i64 i ∧ (∀ j, j < i → incAt l (IntKind.i64.wrap (n - 1)) j = true)) l.length ?_ ?_))
  · simp [setF_if, argE]
  have hlen := ints_len l
  rintro d E H n' ⟨i, hi, h0, h1, h5, hall⟩
  refine AG ?_
  by_cases c : (i : Int) < l.length
  · refine IFT ?_
    have hr : (ints l)[i]? = some [.i .i64 (l.getD i 0)] := ints_at (by omega)
    have hat : incAt l (IntKind.i64.wrap (n - 1)) i = incAt l (IntKind.i64.wrap (n - 1)) i := rfl
    conv at hat => rhs; unfold incAt
    have hno : incAt l (IntKind.i64.wrap (n - 1)) i = false → inc l (IntKind.i64.wrap (n - 1)) = false := fun h => all_no (by omega) h
    have hw2 : IntKind.i64.wrap ((i : Int) + 1) = (i : Int) + 1 := wr64 (by omega) (by omega)
    have more : incAt l (IntKind.i64.wrap (n - 1)) i = true → ∀ j, j < i + 1 → incAt l (IntKind.i64.wrap (n - 1)) j = true := fun h j hj => by
      by_cases e : j = i
      · rw [e]; exact h
      · exact hall j (by omega)
    generalize l.getD i 0 = x at hr hat
    refine .skip ?_
    refine TH ?_
    refine .seq ?_
    refine .block ?_
    refine AQ ?_
    refine CQ (l01In_fn G _ _ _) ?_
    refine AQ ?_
    by_cases c1 : (decide (x ≥ 0) && decide (x ≤ IntKind.i64.wrap (n - 1))) = true
    · refine AQ ?_
      by_cases c3 : (i : Int) > 0
      · have hr2 : (ints l)[((i : Int) - 1).toNat]? = some [.i .i64 (l.getD (i - 1) 0)] := by rw [show ((i : Int) - 1).toNat = i - 1 by omega]; exact ints_at (by omega)
        have hw : IntKind.i64.wrap ((i : Int) - 1) = (i : Int) - 1 := wr64 (by omega) (by omega)
        have h01 : 0 ≤ (i : Int) - 1 := by omega
        generalize l.getD (i - 1) 0 = y at hr2 hat
        refine AQ ?_
        by_cases c4 : x ≤ y
        · refine IFT ?_
          refine AG ?_
          refine .ret ?_
          (try simp only [tN, tR, tE, rN, rR, rE, xN, xR, xE, reduceIte])
          refine DN ?_
          have := hno (by simp only [decide_true, decide_false, Bool.not_true, Bool.not_false, Bool.and_true, Bool.true_and, Bool.and_false, Bool.false_and, Bool.and_self, *])
          simp [retA, backA, this]
        · refine IFF ?_
          refine .skip ?_
          (try simp only [tN, tR, tE, rN, rR, rE, xN, xR, xE, reduceIte])
          refine .region ?_
          refine AG ?_
          (try simp only [tN, tR, tE, rN, rR, rE, xN, xR, xE, reduceIte])
          refine ⟨l.length - (i + 1), by omega, i + 1, by omega, ?_⟩
          simp [setF_if, *]
          exact more (by simp only [decide_true, decide_false, Bool.not_true, Bool.not_false, Bool.and_true, Bool.true_and, Bool.and_false, Bool.false_and, Bool.and_self, *])
      · refine AQ ?_
        refine IFF ?_
        refine .skip ?_
        (try simp only [tN, tR, tE, rN, rR, rE, xN, xR, xE, reduceIte])
        refine .region ?_
        refine AG ?_
        (try simp only [tN, tR, tE, rN, rR, rE, xN, xR, xE, reduceIte])
        refine ⟨l.length - (i + 1), by omega, i + 1, by omega, ?_⟩
        simp [setF_if, *]
        exact more (by simp only [decide_true, decide_false, Bool.not_true, Bool.not_false, Bool.and_true, Bool.true_and, Bool.and_false, Bool.false_and, Bool.and_self, *])
    · refine AQ ?_
      refine IFT ?_
      refine AG ?_
      refine .ret ?_
      (try simp only [tN, tR, tE, rN, rR, rE, xN, xR, xE, reduceIte])
      refine DN ?_
      have := hno (by simp only [decide_true, decide_false, Bool.not_true, Bool.not_false, Bool.and_true, Bool.true_and, Bool.and_false, Bool.false_and, Bool.and_self, *])
      simp [retA, backA, this]
  · refine IFF ?_
    refine .exit ?_
    (try simp only [tN, tR, tE, rN, rR, rE, xN, xR, xE, reduceIte])
    refine AG ?_
    refine .ret ?_
    refine DN ?_
    have : inc l (IntKind.i64.wrap (n - 1)) = true := all_yes (fun j hj => hall j (by omega))
    simp [retA, backA, this]
end Go.Proofs
end
section
open Go Go.Big
namespace Go.Proofs
set_option maxHeartbeats 2000000
theorem inc_mem {s : List Int} {m : Int} (h : inc s m = true) : ∀ k ∈ s, 0 ≤ k ∧ k ≤ m := by
  intro k hk
  obtain ⟨i, hi, rfl⟩ := List.getElem_of_mem hk
  unfold inc at h
  have := List.all_eq_true.mp h i (List.mem_range.mpr hi)
  unfold incAt at this
  simp only [List.getD_eq_getElem?_getD, List.getElem?_eq_getElem hi, Option.getD_some, Bool.and_eq_true, decide_eq_true_eq] at this
  exact this.1
theorem pickM_len (l : List (Int × Int)) (s : List Int) : (pickM l s).length = s.length := by simp [pickM]
def pc0 : PieceM := ⟨[], 0, false⟩
def ownM (r : List (Int × Int)) (s : List Int) : Shape := normM (pickM r s)
theorem ownM_len (r : List (Int × Int)) (s : List Int) : (ownM r s).length = s.length := by unfold ownM; rw [normM_len, pickM_len]
def fitS (p : PieceM) (own : Shape) : Bool := (formsP p).any fun f => cmpM f own == 0
def fitI (p : PieceM) (own : Shape) : Bool := (formsI p).any fun f => decide (f = own)
theorem l12Form_fn (G : Gv) (r : List (Int × Int)) (l : List PieceM) (k : Nat) (s : List Int) (p : PieceM) (hp : l[k]? = some p) (hp0 : 0 < p.cs.length) (hpl : p.cs.length < 1000000000) (hr : r.length < 1000000000) (hs : s.length < 1000000000) (hs0 : 0 < s.length) (hk : ∀ k ∈ s, 0 ≤ k ∧ k < r.length) :
    Gives Tryz.prog G 273 [.ag [.sl 0 (cells r), .sl 0 (pieces l)], .i .i64 k, .sl 0 (ints s)] (.b (fitS p (ownM r s))) := by
  refine .of (.body Tryz.func273 rfl (by simp [Tryz.ntmps273]) ?_)
  rw [Tryz.ntmps273, Tryz.results273]
  have hrow := pieces_at hp
  replace hk := Hid.mk hk
  refine AL ?_
  refine CV (l10Cells_fn G r s hr hs hk.out) ?_
  refine AL ?_
  refine CV (l02Normal_fn G (pickM r s) (by rw [pickM_len]; exact hs0) (by rw [pickM_len]; exact hs)) ?_
  refine AL ?_
  refine CV (l11Forms_fn G p hp0 hpl) ?_
  have how : normM (pickM r s) = ownM r s := rfl
  have hol : (ownM r s).length < 1000000000 := by rw [ownM_len]; exact hs
  rw [how]
  generalize ownM r s = own at hol
  unfold fitS
  obtain ⟨a1, a2⟩ := formsP_ok p
  have hal := shapesR_len (formsP p)
  replace a2 := Hid.mk a2
  generalize formsP p = fa at *
  clear how
  refine AL ?_
  refine .loop (.inv (fun d E H n' => ∃ i : Nat, i + d = fa.length ∧ E 7 = .sl 1 (cells own) ∧ E 8 = .sl 1 (shapesR fa) ∧ E 9 = .i .i64 i ∧ (fa.take i).any (fun f => cmpM f own == 0) = false) fa.length ?_ ?_)
  · exact ⟨0, by omega, by simp [setF_if, argE], by simp [setF_if, argE], by simp [setF_if, argE], by simp⟩
  rintro d E H n' ⟨i, hi, h7, h8, h9, hany⟩
  replace hany := Hid.mk hany
  by_cases c : (i : Int) < fa.length
  · have hw_i : IntKind.i64.wrap ((i : Int) + 1) = (i : Int) + 1 := wr64 (by omega) (by omega)
    have cN : i < fa.length := by omega
    have hr := shapesR_at (ls := fa) (i := i) cN
    have hta := take_any (p := fun f => cmpM f own == 0) cN
    have hat := any_at (p := fun f => cmpM f own == 0) cN
    have hxl : (fa.getD i []).length < 1000000000 := by rw [a2.out _ (by rw [List.getD_eq_getElem?_getD, List.getElem?_eq_getElem cN]; exact List.getElem_mem _)]; exact hpl
    replace hta := Hid.mk hta
    replace hat := Hid.mk hat
    generalize fa.getD i [] = x at hr hta hat hxl
    refine AL ?_
    refine CV (specCompareShapes_fn G x own hxl hol) ?_
    by_cases cc : (cmpM x own == 0) = true
    · refine AL ?_
      simp [retA, backA, hat.out cc]
    · simp only [Bool.not_eq_true] at cc
      refine AL ?_
      exact ⟨fa.length - (i + 1), by omega, i + 1, by omega, by simp [setF_if, *], by simp [setF_if, *], by simp [setF_if, *], by rw [hta.out, hany.out, cc]; rfl⟩
  · have e' : i = fa.length := by omega
    rw [e', List.take_length] at hany
    refine AL ?_
    simp [retA, backA, hany.out]
def placeS (r : List (Int × Int)) (l : List PieceM) (k : Int) (s : List Int) : Bool := (decide (k ≥ 0) && decide (k ≤ (l.length : Int) - 1)) && decide ((s.length : Int) > 0) && inc s ((r.length : Int) - 1) && fitS (l.getD k.toNat pc0) (ownM r s)
def placeI (r : List (Int × Int)) (l : List PieceM) (k : Int) (s : List Int) : Bool := (decide (k ≥ 0) && decide (k ≤ (l.length : Int) - 1)) && decide ((s.length : Int) > 0) && inc s ((r.length : Int) - 1) && fitI (l.getD k.toNat pc0) (ownM r s)
theorem l12Is_fn (G : Gv) (r : List (Int × Int)) (l : List PieceM) (k : Int) (s : List Int) (hr1 : 1 ≤ r.length) (hr : r.length < 1000000000) (hl1 : 1 ≤ l.length) (hl : l.length < 1000000000) (hs : s.length < 1000000000) (hp0 : ∀ p ∈ l, 0 < p.cs.length) (hpl : ∀ p ∈ l, p.cs.length < 1000000000) :
    Gives Tryz.prog G 216 [.ag [.sl 0 (cells r), .sl 0 (pieces l)], .ag [.i .i64 k, .sl 0 (ints s)]] (.b (placeS r l k s)) := by
  refine .of (.body Tryz.func216 rfl (by simp [Tryz.ntmps216]) ?_)
  rw [Tryz.ntmps216, Tryz.results216]
  have hlen := pieces_len l
  have hsl := ints_len s
  have hrl := cells_len r
  have hw1 : IntKind.i64.wrap ((l.length : Int) - 1) = (l.length : Int) - 1 := wr64 (by omega) (by omega)
  have hw2 : IntKind.i64.wrap ((r.length : Int) - 1) = (r.length : Int) - 1 := wr64 (by omega) (by omega)
  replace hp0 := Hid.mk hp0
  replace hpl := Hid.mk hpl
  refine AL ?_
  refine CV (l01In_fn G _ _ _) ?_
  by_cases c1 : (decide (k ≥ 0) && decide (k ≤ (l.length : Int) - 1)) = true
  · by_cases c2 : (s.length : Int) > 0
    · refine AL ?_
      refine CV (l01Rises_fn G s _ (by omega)) ?_
      rw [hw2]
      by_cases c3 : inc s ((r.length : Int) - 1) = true
      · have hmem := inc_mem c3
        replace hmem := Hid.mk hmem
        obtain ⟨k0, k1⟩ : 0 ≤ k ∧ k ≤ (l.length : Int) - 1 := by simpa using c1
        have hkl : k.toNat < l.length := by omega
        obtain ⟨p, hp⟩ : ∃ p, l[k.toNat]? = some p := ⟨_, List.getElem?_eq_getElem hkl⟩
        have hkk : ((k.toNat : Nat) : Int) = k := Int.toNat_of_nonneg k0
        have hf := l12Form_fn G r l k.toNat s p hp (hp0.out p (List.mem_of_getElem? hp)) (hpl.out p (List.mem_of_getElem? hp)) hr hs (by omega) (fun x hx => by have := hmem.out x hx; omega)
        rw [hkk] at hf
        have hpd : l.getD k.toNat pc0 = p := by rw [List.getD_eq_getElem?_getD, hp]; rfl
        replace hkk := Hid.mk hkk
        refine AL ?_
        refine CV hf ?_
        have : placeS r l k s = fitS p (ownM r s) := by unfold placeS; rw [c1, c3, hpd]; simp; omega
        clear hf
        refine AL ?_
        simp [retA, backA, this]
      · have : placeS r l k s = false := by
          simp only [Bool.not_eq_true] at c3
          unfold placeS; rw [c3]; simp
        refine AL ?_
        simp [retA, backA, this]
    · have : placeS r l k s = false := by
        have hcs : decide ((s.length : Int) > 0) = false := decide_eq_false c2
        unfold placeS; rw [hcs]; simp
      refine AL ?_
      simp [retA, backA, this]
  · have : placeS r l k s = false := by
      simp only [Bool.not_eq_true] at c1
      unfold placeS; rw [c1]; rfl
    refine AL ?_
    simp [retA, backA, this]
theorem puzzleS_ok {r : List (Int × Int)} {l : List PieceM} (h : puzzleS r l = true) : 1 ≤ r.length ∧ 1 ≤ l.length ∧ ∀ p ∈ l, 0 < p.cs.length := by
  unfold puzzleS at h
  simp only [Bool.and_eq_true, decide_eq_true_eq, List.all_eq_true, List.mem_range] at h
  obtain ⟨⟨h1, h2, h3⟩, h4⟩ := h
  have hr : shapeM r = true := by unfold regionS at h1; simp only [Bool.and_eq_true] at h1; exact h1.1
  refine ⟨shapeM_pos hr, by omega, fun p hp => ?_⟩
  obtain ⟨i, hi, rfl⟩ := List.getElem_of_mem hp
  have := (h4 i hi).1
  rw [List.getD_eq_getElem?_getD, List.getElem?_eq_getElem hi] at this
  exact pieceS_pos this
theorem puzzleI_ok {r : List (Int × Int)} {l : List PieceM} (h : puzzleI r l = true) : 1 ≤ r.length ∧ 1 ≤ l.length ∧ ∀ p ∈ l, 0 < p.cs.length := by
  unfold puzzleI at h
  simp only [Bool.and_eq_true, decide_eq_true_eq, List.all_eq_true, List.mem_range] at h
  obtain ⟨⟨h1, h2, h3⟩, h4⟩ := h
  refine ⟨shapeM_pos (regionM_shape h1), by omega, fun p hp => ?_⟩
  obtain ⟨i, hi, rfl⟩ := List.getElem_of_mem hp
  have := (h4 i hi).1
  rw [List.getD_eq_getElem?_getD, List.getElem?_eq_getElem hi] at this
  exact pieceM_pos this
theorem isPl1_fn (G : Gv) (a own : Shape) (o : Nat) (T : TypeId) (H : Heap) (n tg ta : Nat) (ho : o < n) (hH : H o = some (.box T [.sl tg (cells own)])) (ha : a.length < 1000000000) (hb : own.length < 1000000000) :
    WC Tryz.prog G 275 [.sl ta (cells a), .ptr o 0 0 0] H n (fun r H' n' => r = .b (decide (a = own)) ∧ n ≤ n' ∧ H' = H) := by
  refine (.body Tryz.func275 rfl (by simp [Tryz.ntmps275]) ?_)
  rw [Tryz.ntmps275, Tryz.results275]
  refine AL ?_
  refine CV (equal_fn G a own ha hb) ?_
  refine AL ?_
  refine ⟨by simp [retA, setF_if], by omega, ?_⟩
  first | rfl | trivial
theorem isPlacement_fn (G : Gv) (hG : ∀ f args H n r H' n', sortsG f args H n r H' n' → G f args H n r H' n') (hG1 : ∀ f args H n r H' n', sortsG1 f args H n r H' n' → G f args H n r H' n') (r : List (Int × Int)) (l : List PieceM) (k : Int) (s : List Int) (hr1 : 1 ≤ r.length) (hr : r.length < 1000000000) (hl1 : 1 ≤ l.length) (hl : l.length < 1000000000) (hs : s.length < 1000000000) (hp0 : ∀ p ∈ l, 0 < p.cs.length) (hpl : ∀ p ∈ l, p.cs.length < 1000000000) :
    Gives Tryz.prog G 218 [.ag [.sl 0 (cells r), .sl 0 (pieces l)], .ag [.i .i64 k, .sl 0 (ints s)]] (.b (placeI r l k s)) := by
  refine .of (.body Tryz.func218 rfl (by simp [Tryz.ntmps218]) ?_)
  rw [Tryz.ntmps218, Tryz.results218]
  replace hG := Hid.mk hG
  replace hG1 := Hid.mk hG1
  have hlen := pieces_len l
  have hsl := ints_len s
  have hrl := cells_len r
  have hw1 : IntKind.i64.wrap ((l.length : Int) - 1) = (l.length : Int) - 1 := wr64 (by omega) (by omega)
  have hw2 : IntKind.i64.wrap ((r.length : Int) - 1) = (r.length : Int) - 1 := wr64 (by omega) (by omega)
  replace hp0 := Hid.mk hp0
  replace hpl := Hid.mk hpl
  refine AL ?_
  refine CV (within_fn G _ _ _) ?_
  by_cases c1 : (decide (k ≥ 0) && decide (k ≤ (l.length : Int) - 1)) = true
  · by_cases c2 : ((s.length : Int) == 0) = true
    · have : placeI r l k s = false := by
        have : s.length = 0 := by simpa using c2
        unfold placeI; simp [this]
      refine AL ?_
      simp [retA, backA, this]
    · have hs0 : 0 < s.length := by
        have : ¬ s.length = 0 := by simpa using c2
        omega
      simp only [Bool.not_eq_true] at c2
      refine AL ?_
      refine CV (isIncreasing_fn G s _ (by omega)) ?_
      rw [hw2]
      by_cases c3 : inc s ((r.length : Int) - 1) = true
      · have hmem := inc_mem c3
        replace hmem := Hid.mk hmem
        obtain ⟨k0, k1⟩ : 0 ≤ k ∧ k ≤ (l.length : Int) - 1 := by simpa using c1
        have hkl : k.toNat < l.length := by omega
        obtain ⟨p, hp⟩ : ∃ p, l[k.toNat]? = some p := ⟨_, List.getElem?_eq_getElem hkl⟩
        have hpd : l.getD k.toNat pc0 = p := by rw [List.getD_eq_getElem?_getD, hp]; rfl
        have hrow := pieces_at hp
        have hpp0 := hp0.out p (List.mem_of_getElem? hp)
        have hppl := hpl.out p (List.mem_of_getElem? hp)
        have : placeI r l k s = fitI p (ownM r s) := by unfold placeI; rw [c1, c3, hpd]; simp; omega
        replace this := Hid.mk this
        replace hpd := Hid.mk hpd
        refine AL ?_
        refine CV (setToCells_fn G r s hr hs (fun x hx => by have := hmem.out x hx; omega)) ?_
        refine AL ?_
        refine CV (normal_fn G (pickM r s) (by rw [pickM_len]; exact hs0) (by rw [pickM_len]; exact hs)) ?_
        have how : normM (pickM r s) = ownM r s := rfl
        have hol : (ownM r s).length < 1000000000 := by rw [ownM_len]; exact hs
        rw [how]
        generalize ownM r s = own at hol this
        clear how
        refine AL ?_
        refine CV (formsOf_fn G hG.out hG1.out p hpp0 hppl) ?_
        obtain ⟨f1, f2⟩ := formsI_ok p
        replace f2 := Hid.mk f2
        refine AL ?_
        refine CI ?_
        refine (containsFunc_fn G _ _ _ _ 1 (fun a => decide (a = own)) (formsI p) ?_ (by kernel_rfl) (by omega) _ _ (Nat.le_refl _) (fun _ _ => rfl)).mono ?_
        · intro x hx H n hn hH
          refine (isPl1_fn G x own _ 32 H n 1 1 ?_ ?_ (by rw [f2.out x hx]; exact hppl) hol).mono ?_
          rotate_left
          · rw [hH _ ?_]
            · exact Heap.upd_same _ _ _
            · decide
          · rintro r H2 n2 ⟨h1, h2, rfl⟩
            exact ⟨h1, by omega, hH⟩
          · omega
        · rintro r2 H2 n2 ⟨rfl, hn2, hH2⟩
          replace hH2 := Hid.mk hH2
          refine AL ?_
          simp [retA, backA, setF_if, this.out, fitI]
      · have : placeI r l k s = false := by
          simp only [Bool.not_eq_true] at c3
          unfold placeI; rw [c3]; simp
        refine AL ?_
        simp [retA, backA, this]
  · have : placeI r l k s = false := by
      simp only [Bool.not_eq_true] at c1
      unfold placeI; rw [c1]; rfl
    refine AL ?_
    simp [retA, backA, this]
end Go.Proofs
end
section
open Go Go.Big
namespace Go.Proofs
set_option maxHeartbeats 2000000
theorem take_anyG {α : Type} {p : α → Bool} {l : List α} {i : Nat} {x : α} (h : l[i]? = some x) : (l.take (i + 1)).any p = ((l.take i).any p || p x) := by
  obtain ⟨hi, rfl⟩ := List.getElem?_eq_some_iff.mp h
  rw [List.take_succ_eq_append_getElem hi, List.any_append]; simp
theorem any_atG {α : Type} {p : α → Bool} {l : List α} {i : Nat} {x : α} (h : l[i]? = some x) (hp : p x = true) : l.any p = true :=
  List.any_eq_true.mpr ⟨x, List.mem_of_getElem? h, hp⟩
theorem ints_row {l : List Int} {i : Nat} {x : Int} (h : l[i]? = some x) : (ints l)[i]? = some [.i .i64 x] := by simp [ints, h]
def hasM (l : List Int) (x : Int) : Bool := l.any (· == x)
def overM (a b : List Int) : Bool := a.any fun x => hasM b x
theorem l01Has_fn (G : Gv) (l : List Int) (x : Int) (hl : l.length < 1000000000) : Gives Tryz.prog G 105 [.sl 0 (ints l), .i .i64 x] (.b (hasM l x)) := by
  refine .of (.body Tryz.func105 rfl (by simp [Tryz.ntmps105]) ?_)
  rw [Tryz.ntmps105, Tryz.results105]
  have hlen := ints_len l
  refine AL ?_
  refine .loop (.inv (fun d E H n' => ∃ i : Nat, i + d = l.length ∧ E 0 = .sl 0 (ints l) ∧ E 1 = .i .i64 x ∧ E 5 = .i .i64 i ∧ (l.take i).any (· == x) = false) l.length ?_ ?_)
  · exact ⟨0, by omega, by simp [setF_if, argE], by simp [setF_if, argE], by simp [setF_if, argE], by simp⟩
  rintro d E H n' ⟨i, hi, h0, h1, h5, hany⟩
  replace hany := Hid.mk hany
  by_cases c : (i : Int) < l.length
  · have hw_i : IntKind.i64.wrap ((i : Int) + 1) = (i : Int) + 1 := wr64 (by omega) (by omega)
    obtain ⟨y, hy⟩ : ∃ y, l[i]? = some y := ⟨_, List.getElem?_eq_getElem (by omega)⟩
    have hr := ints_row hy
    have hta := take_anyG (p := (· == x)) hy
    have hat := any_atG (p := (· == x)) hy
    replace hta := Hid.mk hta
    replace hat := Hid.mk hat
    replace hy := Hid.mk hy
    by_cases ce : (y == x) = true
    · refine AL ?_
      simp [retA, backA, hasM, hat.out ce]
    · refine AL ?_
      exact ⟨l.length - (i + 1), by omega, i + 1, by omega, by simp [setF_if, *], by simp [setF_if, *], by simp [setF_if, *], by rw [hta.out, hany.out]; simpa using ce⟩
  · have e : i = l.length := by omega
    rw [e, List.take_length] at hany
    refine AL ?_
    simp [retA, backA, hasM, hany.out]
theorem l12Overlap_fn (G : Gv) (a b : List Int) (ha : a.length < 1000000000) (hb : b.length < 1000000000) : Gives Tryz.prog G 170 [.sl 0 (ints a), .sl 0 (ints b)] (.b (overM a b)) := by
  refine .of (.body Tryz.func170 rfl (by simp [Tryz.ntmps170]) ?_)
  rw [Tryz.ntmps170, Tryz.results170]
  have hlen := ints_len a
  refine AL ?_
  refine .loop (.inv (fun d E H n' => ∃ i : Nat, i + d = a.length ∧ E 0 = .sl 0 (ints a) ∧ E 1 = .sl 0 (ints b) ∧ E 5 = .i .i64 i ∧ (a.take i).any (fun x => hasM b x) = false) a.length ?_ ?_)
  · exact ⟨0, by omega, by simp [setF_if, argE], by simp [setF_if, argE], by simp [setF_if, argE], by simp⟩
  rintro d E H n' ⟨i, hi, h0, h1, h5, hany⟩
  replace hany := Hid.mk hany
  by_cases c : (i : Int) < a.length
  · have hw_i : IntKind.i64.wrap ((i : Int) + 1) = (i : Int) + 1 := wr64 (by omega) (by omega)
    obtain ⟨y, hy⟩ : ∃ y, a[i]? = some y := ⟨_, List.getElem?_eq_getElem (by omega)⟩
    have hr := ints_row hy
    have hta := take_anyG (p := fun x => hasM b x) hy
    have hat := any_atG (p := fun x => hasM b x) hy
    replace hta := Hid.mk hta
    replace hat := Hid.mk hat
    replace hy := Hid.mk hy
    refine AL ?_
    refine CV (l01Has_fn G b y hb) ?_
    by_cases ce : hasM b y = true
    · refine AL ?_
      simp [retA, backA, overM, hat.out ce]
    · refine AL ?_
      exact ⟨a.length - (i + 1), by omega, i + 1, by omega, by simp [setF_if, *], by simp [setF_if, *], by simp [setF_if, *], by rw [hta.out, hany.out]; simpa using ce⟩
  · have e : i = a.length := by omega
    rw [e, List.take_length] at hany
    refine AL ?_
    simp [retA, backA, overM, hany.out]
/-- Lists in their order. -/
def cmpN : List Int → List Int → Int
  | [], [] => 0
  | [], _ :: _ => -1
  | _ :: _, [] => 1
  | x :: l, y :: k => if x < y then -1 else if x > y then 1 else cmpN l k
theorem drop_cons {α : Type} {l : List α} {i : Nat} {x : α} (h : l[i]? = some x) : l.drop i = x :: l.drop (i + 1) := by
  obtain ⟨hi, rfl⟩ := List.getElem?_eq_some_iff.mp h
  exact List.drop_eq_getElem_cons hi
theorem l12Lists_fn (G : Gv) (a b : List Int) (ha : a.length < 1000000000) (hb : b.length < 1000000000) : Gives Tryz.prog G 195 [.sl 0 (ints a), .sl 0 (ints b)] (.i .i64 (cmpN a b)) := by
  refine .of (.body Tryz.func195 rfl (by simp [Tryz.ntmps195]) ?_)
  rw [Tryz.ntmps195, Tryz.results195]
  have hlen := ints_len a
  have hlenb := ints_len b
  refine AL ?_
  refine .loop (.inv (fun d E H n' => ∃ i : Nat, i + d = a.length ∧ i ≤ b.length ∧ E 0 = .sl 0 (ints a) ∧ E 1 = .sl 0 (ints b) ∧ E 5 = .i .i64 i ∧ cmpN (a.drop i) (b.drop i) = cmpN a b) a.length ?_ ?_)
  · exact ⟨0, by omega, by omega, by simp [setF_if, argE], by simp [setF_if, argE], by simp [setF_if, argE], by simp⟩
  rintro d E H n' ⟨i, hi, hib, h0, h1, h5, hcm⟩
  by_cases c : (i : Int) < a.length
  · by_cases cb : (i : Int) < b.length
    · have hw_i : IntKind.i64.wrap ((i : Int) + 1) = (i : Int) + 1 := wr64 (by omega) (by omega)
      obtain ⟨x, hx⟩ : ∃ x, a[i]? = some x := ⟨_, List.getElem?_eq_getElem (by omega)⟩
      obtain ⟨y, hy⟩ : ∃ y, b[i]? = some y := ⟨_, List.getElem?_eq_getElem (by omega)⟩
      have hr := ints_row hx
      have hr2 := ints_row hy
      rw [drop_cons hx, drop_cons hy, cmpN] at hcm
      replace hcm := Hid.mk hcm
      replace hx := Hid.mk hx
      replace hy := Hid.mk hy
      by_cases c1 : x < y
      · have hm := hcm.out
        rw [if_pos c1] at hm
        refine AL ?_
        simp [retA, backA, ← hm]
      · by_cases c2 : x > y
        · have hm := hcm.out
          rw [if_neg c1, if_pos c2] at hm
          refine AL ?_
          simp [retA, backA, ← hm]
        · have hm := hcm.out
          rw [if_neg c1, if_neg c2] at hm
          replace hm := Hid.mk hm
          refine AL ?_
          exact ⟨a.length - (i + 1), by omega, i + 1, by omega, by omega, by simp [setF_if, *], by simp [setF_if, *], by simp [setF_if, *], hm.out⟩
    · have e : i = b.length := by omega
      obtain ⟨x, hx⟩ : ∃ x, a[i]? = some x := ⟨_, List.getElem?_eq_getElem (by omega)⟩
      have hm : cmpN a b = 1 := by rw [← hcm, drop_cons hx, e, List.drop_length]; rfl
      have g1 : ¬ (a.length : Int) < b.length := by omega
      have g2 : (b.length : Int) < a.length := by omega
      clear hx
      refine AL ?_
      simp [retA, backA, hm]
  · have e : i = a.length := by omega
    rw [e, List.drop_length] at hcm
    by_cases g1 : (a.length : Int) < b.length
    · have hm : cmpN a b = -1 := by
        rw [← hcm]
        obtain ⟨y, hy⟩ : ∃ y, b[a.length]? = some y := ⟨_, List.getElem?_eq_getElem (by omega)⟩
        rw [drop_cons hy]; rfl
      refine AL ?_
      simp [retA, backA, hm]
    · have g2 : ¬ (b.length : Int) < a.length := by omega
      have hm : cmpN a b = 0 := by
        rw [← hcm, List.drop_of_length_le (by omega)]; rfl
      refine AL ?_
      simp [retA, backA, hm]
end Go.Proofs
end
section
open Go Go.Big
namespace Go.Proofs
set_option maxHeartbeats 2000000
theorem slicesCompare_fn (G : Gv) (a b : List Int) (ha : a.length < 1000000000) (hb : b.length < 1000000000) : Gives Tryz.prog G 194 [.sl 0 (ints a), .sl 0 (ints b)] (.i .i64 (cmpN a b)) := by
  refine .of (.body Tryz.func194 rfl (by simp [Tryz.ntmps194]) ?_)
  rw [Tryz.ntmps194, Tryz.results194]
  have hlen := ints_len a
  have hlenb := ints_len b
  refine AL ?_
  refine .loop (.inv (fun d E H n' => ∃ i : Nat, i + d = a.length ∧ i ≤ b.length ∧ E 0 = .sl 0 (ints a) ∧ E 1 = .sl 0 (ints b) ∧ E 9 = .sl 0 (ints a) ∧ E 10 = .i .i64 a.length ∧ E 11 = .i .i64 i ∧ cmpN (a.drop i) (b.drop i) = cmpN a b) a.length ?_ ?_)
  · exact ⟨0, by omega, by omega, by simp [setF_if, argE], by simp [setF_if, argE], by simp [setF_if, argE], by simp [setF_if, argE, hlen], by simp [setF_if, argE], by simp⟩
  rintro d E H n' ⟨i, hi, hib, h0, h1, h9, h10, h11, hcm⟩
  by_cases c : (i : Int) < a.length
  · by_cases cb : (i : Int) ≥ b.length
    · have e : i = b.length := by omega
      obtain ⟨x, hx⟩ : ∃ x, a[i]? = some x := ⟨_, List.getElem?_eq_getElem (by omega)⟩
      have hr := ints_row hx
      have hm : cmpN a b = 1 := by rw [← hcm, drop_cons hx, e, List.drop_length]; rfl
      clear hx e
      replace hm := Hid.mk hm
      refine AL ?_
      simp [retA, backA, hm.out]
    · have hw_i : IntKind.i64.wrap ((i : Int) + 1) = (i : Int) + 1 := wr64 (by omega) (by omega)
      obtain ⟨x, hx⟩ : ∃ x, a[i]? = some x := ⟨_, List.getElem?_eq_getElem (by omega)⟩
      obtain ⟨y, hy⟩ : ∃ y, b[i]? = some y := ⟨_, List.getElem?_eq_getElem (by omega)⟩
      have hr := ints_row hx
      have hr2 := ints_row hy
      rw [drop_cons hx, drop_cons hy, cmpN] at hcm
      replace hcm := Hid.mk hcm
      replace hx := Hid.mk hx
      replace hy := Hid.mk hy
      refine AL ?_
      refine CV (compare_fn G x y) ?_
      by_cases c1 : x < y
      · have hm := hcm.out
        rw [if_pos c1] at hm
        replace hm := Hid.mk hm
        have hcx : cmpI x y = -1 := by unfold cmpI; rw [if_pos c1]
        refine AL ?_
        simp [retA, backA, ← hm.out]
      · by_cases c2 : x > y
        · have hm := hcm.out
          rw [if_neg c1, if_pos c2] at hm
          replace hm := Hid.mk hm
          have hcx : cmpI x y = 1 := by unfold cmpI; rw [if_neg c1, if_pos c2]
          refine AL ?_
          simp [retA, backA, ← hm.out]
        · have hm := hcm.out
          rw [if_neg c1, if_neg c2] at hm
          have hcx : cmpI x y = 0 := by unfold cmpI; rw [if_neg c1, if_neg c2]
          replace hm := Hid.mk hm
          refine AL ?_
          exact ⟨a.length - (i + 1), by omega, i + 1, by omega, by omega, by simp [setF_if, *], by simp [setF_if, *], by simp [setF_if, *], by simp [setF_if, *], by simp [setF_if, *], hm.out⟩
  · have e : i = a.length := by omega
    rw [e, List.drop_length] at hcm
    by_cases g1 : (a.length : Int) < b.length
    · have hm : cmpN a b = -1 := by
        rw [← hcm]
        obtain ⟨y, hy⟩ : ∃ y, b[a.length]? = some y := ⟨_, List.getElem?_eq_getElem (by omega)⟩
        rw [drop_cons hy]; rfl
      refine AL ?_
      simp [retA, backA, hm]
    · have hm : cmpN a b = 0 := by
        rw [← hcm, List.drop_of_length_le (by omega)]; rfl
      refine AL ?_
      simp [retA, backA, hm]
/-- Placements: the piece and its cells. -/
abbrev placA (t : Nat) (x : Int × List Int) : AV := .ag [.i .i64 x.1, .sl t (ints x.2)]
def cmpP (x y : Int × List Int) : Int := if x.1 < y.1 then -1 else if x.1 > y.1 then 1 else cmpN x.2 y.2
theorem specComparePl_fn (G : Gv) (x y : Int × List Int) (hx : x.2.length < 1000000000) (hy : y.2.length < 1000000000) : Gives Tryz.prog G 217 [placA 0 x, placA 0 y] (.i .i64 (cmpP x y)) := by
  refine .of (.body Tryz.func217 rfl (by simp [Tryz.ntmps217]) ?_)
  rw [Tryz.ntmps217, Tryz.results217]
  obtain ⟨a, l⟩ := x
  obtain ⟨b, k⟩ := y
  by_cases c1 : a < b
  · have c0 : (a != b) = true := by simp; omega
    have hm : cmpP (a, l) (b, k) = -1 := by simp [cmpP, c1]
    refine AL ?_
    simp [retA, backA, hm]
  · by_cases c2 : a > b
    · have c0 : (a != b) = true := by simp; omega
      have hm : cmpP (a, l) (b, k) = 1 := by simp [cmpP, c1, c2]
      refine AL ?_
      simp [retA, backA, hm]
    · have c0 : (a != b) = false := by simp; omega
      have hm : cmpP (a, l) (b, k) = cmpN l k := by simp [cmpP, c1, c2]
      refine AL ?_
      refine CV (l12Lists_fn G l k hx hy) ?_
      refine AL ?_
      simp [retA, backA, hm]
theorem implComparePl_fn (G : Gv) (x y : Int × List Int) (hx : x.2.length < 1000000000) (hy : y.2.length < 1000000000) : Gives Tryz.prog G 157 [placA 0 x, placA 0 y] (.i .i64 (cmpP x y)) := by
  refine .of (.body Tryz.func157 rfl (by simp [Tryz.ntmps157]) ?_)
  rw [Tryz.ntmps157, Tryz.results157]
  obtain ⟨a, l⟩ := x
  obtain ⟨b, k⟩ := y
  refine AL ?_
  refine CV (compare_fn G a b) ?_
  by_cases c1 : a < b
  · have hc : cmpI a b = -1 := by unfold cmpI; rw [if_pos c1]
    have hm : cmpP (a, l) (b, k) = -1 := by simp [cmpP, c1]
    refine AL ?_
    simp [retA, backA, hm]
  · by_cases c2 : a > b
    · have hc : cmpI a b = 1 := by unfold cmpI; rw [if_neg c1, if_pos c2]
      have hm : cmpP (a, l) (b, k) = 1 := by simp [cmpP, c1, c2]
      refine AL ?_
      simp [retA, backA, hm]
    · have hc : cmpI a b = 0 := by unfold cmpI; rw [if_neg c1, if_neg c2]
      have hm : cmpP (a, l) (b, k) = cmpN l k := by simp [cmpP, c1, c2]
      refine AL ?_
      refine CV (slicesCompare_fn G l k hx hy) ?_
      refine AL ?_
      simp [retA, backA, hm]
end Go.Proofs
end
section
open Go Go.Big
namespace Go.Proofs
set_option maxHeartbeats 2000000
theorem wr64s {n : Int} (h1 : -9223372036854775808 ≤ n) (h2 : n ≤ 9223372036854775807) : IntKind.i64.wrap n = n := by
  simp only [IntKind.wrap, IntKind.bits, IntKind.signed]; simp; omega
def szN (n : Nat) (left : Int) : Int := if left - n < 0 then -1 else left - n
theorem szN_le {n : Nat} {left : Int} (h : ¬ szN n left < 0) : (n : Int) ≤ left ∧ szN n left ≤ left ∧ 0 ≤ szN n left := by
  unfold szN at *; split at h <;> simp_all <;> omega
theorem szCellS_fn (G : Gv) (l : List (Int × Int)) (left : Int) (hl : l.length ≤ 9223372036854775807) (h0 : 0 ≤ left) (h1 : left ≤ 1048576) : Gives Tryz.prog G 52 [.sl 0 (cells l), .i .i64 left] (.i .i64 (szN l.length left)) := by
  refine .of (.body Tryz.func52 rfl (by simp [Tryz.ntmps52]) ?_)
  rw [Tryz.ntmps52, Tryz.results52]
  have hlen := cells_len l
  have hw : IntKind.i64.wrap (left - l.length) = left - l.length := wr64s (by omega) (by omega)
  by_cases c : left - (l.length : Int) < 0
  · refine AL ?_
    simp [retA, backA, szN, c]
  · refine AL ?_
    simp [retA, backA, szN, c]
theorem szInt64S_fn (G : Gv) (l : List Int) (left : Int) (hl : l.length ≤ 9223372036854775807) (h0 : 0 ≤ left) (h1 : left ≤ 1048576) : Gives Tryz.prog G 81 [.sl 0 (ints l), .i .i64 left] (.i .i64 (szN l.length left)) := by
  refine .of (.body Tryz.func81 rfl (by simp [Tryz.ntmps81]) ?_)
  rw [Tryz.ntmps81, Tryz.results81]
  have hlen := ints_len l
  have hw : IntKind.i64.wrap (left - l.length) = left - l.length := wr64s (by omega) (by omega)
  by_cases c : left - (l.length : Int) < 0
  · refine AL ?_
    simp [retA, backA, szN, c]
  · refine AL ?_
    simp [retA, backA, szN, c]
theorem szPiece_fn (G : Gv) (p : PieceM) (left : Int) (hl : p.cs.length ≤ 9223372036854775807) (h0 : 0 ≤ left) (h1 : left ≤ 1048576) : Gives Tryz.prog G 37 [pieceA 0 p, .i .i64 left] (.i .i64 (szN p.cs.length left)) := by
  refine .of (.body Tryz.func37 rfl (by simp [Tryz.ntmps37]) ?_)
  rw [Tryz.ntmps37, Tryz.results37]
  refine AL ?_
  refine CV (szCellS_fn G _ _ hl h0 h1) ?_
  by_cases c : szN p.cs.length left < 0
  · refine AL ?_
    have : szN p.cs.length left = -1 := by unfold szN at *; split at c <;> simp_all
    simp [retA, backA, this]
  · refine AL ?_
    simp [retA, backA]
theorem szPlacement_fn (G : Gv) (k : Int) (l : List Int) (left : Int) (hl : l.length ≤ 9223372036854775807) (h0 : 0 ≤ left) (h1 : left ≤ 1048576) : Gives Tryz.prog G 101 [.ag [.i .i64 k, .sl 0 (ints l)], .i .i64 left] (.i .i64 (szN l.length left)) := by
  refine .of (.body Tryz.func101 rfl (by simp [Tryz.ntmps101]) ?_)
  rw [Tryz.ntmps101, Tryz.results101]
  refine AL ?_
  refine CV (szInt64S_fn G _ _ hl h0 h1) ?_
  by_cases c : szN l.length left < 0
  · refine AL ?_
    have : szN l.length left = -1 := by unfold szN at *; split at c <;> simp_all
    simp [retA, backA, this]
  · refine AL ?_
    simp [retA, backA]
def szP : List PieceM → Int → Int
  | [], left => left
  | p :: r, left => if szN p.cs.length left < 0 then -1 else szP r (szN p.cs.length left)
def szPS (l : List PieceM) (left : Int) : Int := if left - l.length < 0 then -1 else szP l (left - l.length)
theorem szPieceS_fn (G : Gv) (l : List PieceM) (left : Int) (hl : l.length ≤ 9223372036854775807) (hc : ∀ p ∈ l, p.cs.length ≤ 9223372036854775807) (h0 : 0 ≤ left) (h1 : left ≤ 1048576) : Gives Tryz.prog G 69 [.sl 0 (pieces l), .i .i64 left] (.i .i64 (szPS l left)) := by
  refine .of (.body Tryz.func69 rfl (by simp [Tryz.ntmps69]) ?_)
  rw [Tryz.ntmps69, Tryz.results69]
  have hlen := pieces_len l
  replace hc := Hid.mk hc
  have hw : IntKind.i64.wrap (left - l.length) = left - l.length := wr64s (by omega) (by omega)
  by_cases c : left - (l.length : Int) < 0
  · refine AL ?_
    simp [retA, backA, szPS, c]
  · refine AL ?_
    refine .loop (.inv (fun d E H n' => ∃ (i : Nat) (lf : Int), i + d = l.length ∧ 0 ≤ lf ∧ lf ≤ 1048576 ∧ szP (l.drop i) lf = szPS l left ∧ E 0 = .sl 0 (pieces l) ∧ E 1 = .i .i64 lf ∧ E 5 = .i .i64 i) l.length ?_ ?_)
    · exact ⟨0, left - l.length, by omega, by omega, by omega, by unfold szPS; rw [if_neg c]; rfl, by simp [setF_if, argE], by simp [setF_if, argE, hlen, hw], by simp [setF_if, argE]⟩
    have hbl : (l.length : Int) ≤ 1048576 := by omega
    clear hw c
    rintro d E H n' ⟨i, lf, hi, hl0, hl1, hsz, e0, e1, e3⟩
    by_cases c : (i : Int) < l.length
    · have cN : i < l.length := by omega
      obtain ⟨p, hpi⟩ : ∃ p, l[i]? = some p := ⟨_, List.getElem?_eq_getElem (by omega)⟩
      have hr : (pieces l)[i]? = some (pieceR p) := by simp [pieces, hpi]
      have hw_i : IntKind.i64.wrap ((i : Int) + 1) = (i : Int) + 1 := wr64 (by omega) (by omega)
      have hd : l.drop i = p :: l.drop (i + 1) := by
        rw [List.drop_eq_getElem_cons cN]; congr 1
        rw [List.getElem?_eq_getElem cN] at hpi; exact Option.some.inj hpi
      rw [hd] at hsz
      have hpc := hc.out p (List.mem_of_getElem? hpi)
      replace hsz := Hid.mk hsz
      clear hd
      refine AQ ?_
      refine AL ?_
      refine CV (szPiece_fn G _ _ hpc hl0 hl1) ?_
      by_cases c2 : szN p.cs.length lf < 0
      · refine AL ?_
        have : szPS l left = -1 := by rw [← hsz.out, szP, if_pos c2]
        simp [retA, backA, this]
      · refine AL ?_
        obtain ⟨_, g2, g3⟩ := szN_le c2
        refine ⟨l.length - (i + 1), by omega, i + 1, szN p.cs.length lf, by omega, g3, by omega, by rw [← hsz.out, szP, if_neg c2], by simp [setF_if, *], by simp [setF_if, *], by simp [setF_if, *]⟩
    · have e' : i = l.length := by omega
      subst e'
      rw [List.drop_length, szP] at hsz
      refine AL ?_
      simp [retA, backA, hsz]
def szPz (r : List (Int × Int)) (l : List PieceM) (left : Int) : Int := if szN r.length left < 0 then -1 else szPS l (szN r.length left)
theorem szPS_neg {l : List PieceM} {left : Int} (h : szPS l left < 0) : szPS l left = -1 := by
  unfold szPS at *
  split
  · rfl
  · rename_i c
    rw [if_neg c] at h
    generalize left - (l.length : Int) = x at h c
    induction l generalizing x with
    | nil => exact absurd h c
    | cons p r ih =>
      simp only [szP] at h ⊢
      split
      · rfl
      · rename_i c2
        rw [if_neg c2] at h
        exact ih _ h c2
theorem szPuzzle_fn (G : Gv) (r : List (Int × Int)) (l : List PieceM) (left : Int) (hr : r.length ≤ 9223372036854775807) (hl : l.length ≤ 9223372036854775807) (hc : ∀ p ∈ l, p.cs.length ≤ 9223372036854775807) (h0 : 0 ≤ left) (h1 : left ≤ 1048576) : Gives Tryz.prog G 14 [.ag [.sl 0 (cells r), .sl 0 (pieces l)], .i .i64 left] (.i .i64 (szPz r l left)) := by
  refine .of (.body Tryz.func14 rfl (by simp [Tryz.ntmps14]) ?_)
  rw [Tryz.ntmps14, Tryz.results14]
  refine AL ?_
  refine CV (szCellS_fn G _ _ hr h0 h1) ?_
  replace hc := Hid.mk hc
  by_cases c : szN r.length left < 0
  · refine AL ?_
    simp [retA, backA, szPz, c]
  · obtain ⟨_, g2, g3⟩ := szN_le c
    refine AL ?_
    refine CV (szPieceS_fn G _ _ hl hc.out g3 (by omega)) ?_
    by_cases c2 : szPS l (szN r.length left) < 0
    · refine AL ?_
      simp [retA, backA, szPz, c, szPS_neg c2]
    · refine AL ?_
      simp [retA, backA, szPz, c]
theorem szP_le {l : List PieceM} : ∀ {left : Int}, left ≤ 1048576 → ¬ szP l left < 0 → (∀ p ∈ l, (p.cs.length : Int) ≤ 1048576) ∧ szP l left ≤ left := by
  induction l with
  | nil => intro left _ _; exact ⟨by simp, Int.le_refl _⟩
  | cons p r ih =>
    intro left hl h
    unfold szP at h ⊢
    split at h
    · simp at h
    · rename_i c
      rw [if_neg c]
      obtain ⟨g1, g2, g3⟩ := szN_le c
      obtain ⟨h1, h2⟩ := ih (by omega) h
      refine ⟨fun x hx => ?_, by omega⟩
      rcases List.mem_cons.mp hx with rfl | hx
      · omega
      · exact h1 x hx
theorem szPz_le {r : List (Int × Int)} {l : List PieceM} {left : Int} (hl : left ≤ 1048576) (h : ¬ szPz r l left < 0) : (r.length : Int) ≤ 1048576 ∧ (l.length : Int) ≤ 1048576 ∧ (∀ p ∈ l, (p.cs.length : Int) ≤ 1048576) ∧ 0 ≤ szPz r l left ∧ szPz r l left ≤ left := by
  unfold szPz at h ⊢
  split at h
  · simp at h
  · rename_i c
    rw [if_neg c]
    obtain ⟨g1, g2, g3⟩ := szN_le c
    unfold szPS at h ⊢
    split at h
    · simp at h
    · rename_i c2
      rw [if_neg c2]
      obtain ⟨h1, h2⟩ := szP_le (by omega) h
      exact ⟨by omega, by omega, h1, by omega, by omega⟩
end Go.Proofs
end
section
open Go Go.Big
namespace Go.Proofs
set_option maxHeartbeats 2000000
abbrev placR (x : Int × List Int) : List PV := [.i .i64 x.1, .sl (ints x.2)]
def places (l : List (Int × List Int)) : List (List PV) := l.map placR
theorem places_len (l : List (Int × List Int)) : (places l).length = l.length := by simp [places]
theorem places_at {l : List (Int × List Int)} {i : Nat} {x : Int × List Int} (h : l[i]? = some x) : (places l)[i]? = some (placR x) := by simp [places, h]
theorem toPlacementS_fn (G : Gv) (l : List (Int × List Int)) (hl : l.length < 1000000000) (hc : ∀ p ∈ l, p.2.length < 1000000000) : Gives Tryz.prog G 49 [.sl 0 (places l)] (.sl 1 (places l)) := by
  refine .of (.body Tryz.func49 rfl (by simp [Tryz.ntmps49]) ?_)
  rw [Tryz.ntmps49, Tryz.results49]
  have hlen := places_len l
  have b1 : ((32 : Nat) : Int) * l.length ≤ 281474976710656 := by simp; omega
  have b2 : (l.length : Int) ≤ 9223372036854775807 := by omega
  have b3 : (0 : Int) ≤ l.length := by omega
  refine AG ?_
  refine .block (.loop (.inv (fun d E H n' => ∃ i : Nat, i + d = l.length ∧ E 0 = .sl 0 (places l) ∧ E 3 = .own 3 0 ∧ E 4 = .i .i64 i ∧ H 3 = some (.arr 0 110 2 (part (places l) [.i .i64 0, .sl []] i) 1)) l.length ?_ ?_))
  · simp [setF_if, argE, upd_if, part_zero, hlen]
  rintro d E H n' ⟨i, hi, h0, h3, h4, hH⟩
  refine AG ?_
  by_cases c : (i : Int) < l.length
  · refine IFT ?_
    obtain ⟨p, hpi⟩ : ∃ p, l[i]? = some p := ⟨_, List.getElem?_eq_getElem (by omega)⟩
    have hr : (places l)[i]? = some (placR p) := places_at hpi
    have hp := part_at (l := places l) (z := [PV.i .i64 0, PV.sl []]) (i := i) (by omega)
    have hs := part_set (z := [PV.i .i64 0, PV.sl []]) hr
    have hpl : i < (part (places l) [PV.i .i64 0, PV.sl []] i).length := (List.getElem?_eq_some_iff.mp hp).1
    have hw2 : IntKind.i64.wrap ((i : Int) + 1) = (i : Int) + 1 := wr64 (by omega) (by omega)
    refine .skip ?_
    refine AG ?_
    refine .block ?_
    refine AG ?_
    refine CV (toPlacement_fn G p.1 p.2 (hc p (List.mem_of_getElem? hpi))) ?_
    refine AG ?_
    (try simp only [tN, tR, tE, rN, rR, rE, xN, xR, xE, reduceIte])
    refine AG ?_
    (try simp only [tN, tR, tE, rN, rR, rE, xN, xR, xE, reduceIte])
    refine ⟨l.length - (i + 1), by omega, i + 1, by omega, ?_⟩
    simp [setF_if, upd_if, *]
  · refine IFF ?_
    refine .exit ?_
    (try simp only [tN, tR, tE, rN, rR, rE, xN, xR, xE, reduceIte])
    refine AG ?_
    refine .ret ?_
    refine DN ?_
    have e : i = (places l).length := by omega
    simp [retA, backA, newSl, newB, hH]
    rw [e, part_all]
theorem eqPlacementS_fn (G : Gv) (l : List (Int × List Int)) (hl : l.length < 1000000000) (hc : ∀ p ∈ l, p.2.length < 1000000000) : Gives Tryz.prog G 51 [.sl 0 (places l), .sl 0 (places l)] (.b true) := by
  refine .of (.body Tryz.func51 rfl (by simp [Tryz.ntmps51]) ?_)
  rw [Tryz.ntmps51, Tryz.results51]
  have hlen := places_len l
  refine AG ?_
  have hn : ((l.length : Int) != l.length) = false := by simp
  refine IFF ?_
  refine .skip ?_
  refine AG ?_
  refine .block (.loop (.inv (fun d E H n' => ∃ i : Nat, i + d = l.length ∧ E 0 = .sl 0 (places l) ∧ E 1 = .sl 0 (places l) ∧ E 5 = .i .i64 i) l.length ?_ ?_))
  · simp [setF_if, argE]
  rintro d E H n' ⟨i, hi, h0, h1, h5⟩
  refine AG ?_
  by_cases c : (i : Int) < l.length
  · refine IFT ?_
    obtain ⟨p, hpi⟩ : ∃ p, l[i]? = some p := ⟨_, List.getElem?_eq_getElem (by omega)⟩
    have hr : (places l)[i]? = some (placR p) := places_at hpi
    have hw2 : IntKind.i64.wrap ((i : Int) + 1) = (i : Int) + 1 := wr64 (by omega) (by omega)
    refine .skip ?_
    refine AG ?_
    refine .block ?_
    refine AQ ?_
    refine CQ (eqPlacement_fn G p.1 p.2 (hc p (List.mem_of_getElem? hpi))) ?_
    refine AQ ?_
    refine IFF ?_
    refine .skip ?_
    (try simp only [tN, tR, tE, rN, rR, rE, xN, xR, xE, reduceIte])
    refine AG ?_
    (try simp only [tN, tR, tE, rN, rR, rE, xN, xR, xE, reduceIte])
    refine ⟨l.length - (i + 1), by omega, i + 1, by omega, ?_⟩
    simp [setF_if, *]
  · refine IFF ?_
    refine .exit ?_
    (try simp only [tN, tR, tE, rN, rR, rE, xN, xR, xE, reduceIte])
    refine AG ?_
    refine .ret ?_
    refine DN ?_
    simp [retA, backA]
def szPL : List (Int × List Int) → Int → Int
  | [], left => left
  | p :: r, left => if szN p.2.length left < 0 then -1 else szPL r (szN p.2.length left)
def szPLS (l : List (Int × List Int)) (left : Int) : Int := if left - l.length < 0 then -1 else szPL l (left - l.length)
theorem szPlacementS_fn (G : Gv) (l : List (Int × List Int)) (left : Int) (hl : l.length ≤ 9223372036854775807) (hc : ∀ p ∈ l, p.2.length ≤ 9223372036854775807) (h0 : 0 ≤ left) (h1 : left ≤ 1048576) : Gives Tryz.prog G 47 [.sl 0 (places l), .i .i64 left] (.i .i64 (szPLS l left)) := by
  refine .of (.body Tryz.func47 rfl (by simp [Tryz.ntmps47]) ?_)
  rw [Tryz.ntmps47, Tryz.results47]
  have hlen := places_len l
  replace hc := Hid.mk hc
  have hw : IntKind.i64.wrap (left - l.length) = left - l.length := wr64s (by omega) (by omega)
  by_cases c : left - (l.length : Int) < 0
  · refine AL ?_
    simp [retA, backA, szPLS, c]
  · refine AL ?_
    refine .loop (.inv (fun d E H n' => ∃ (i : Nat) (lf : Int), i + d = l.length ∧ 0 ≤ lf ∧ lf ≤ 1048576 ∧ szPL (l.drop i) lf = szPLS l left ∧ E 0 = .sl 0 (places l) ∧ E 1 = .i .i64 lf ∧ E 5 = .i .i64 i) l.length ?_ ?_)
    · exact ⟨0, left - l.length, by omega, by omega, by omega, by unfold szPLS; rw [if_neg c]; rfl, by simp [setF_if, argE], by simp [setF_if, argE, hlen, hw], by simp [setF_if, argE]⟩
    have hbl : (l.length : Int) ≤ 1048576 := by omega
    clear hw c
    rintro d E H n' ⟨i, lf, hi, hl0, hl1, hsz, e0, e1, e3⟩
    by_cases c : (i : Int) < l.length
    · have cN : i < l.length := by omega
      obtain ⟨p, hpi⟩ : ∃ p, l[i]? = some p := ⟨_, List.getElem?_eq_getElem (by omega)⟩
      have hr : (places l)[i]? = some (placR p) := places_at hpi
      have hw_i : IntKind.i64.wrap ((i : Int) + 1) = (i : Int) + 1 := wr64 (by omega) (by omega)
      have hd : l.drop i = p :: l.drop (i + 1) := drop_cons hpi
      rw [hd] at hsz
      have hpc := hc.out p (List.mem_of_getElem? hpi)
      replace hsz := Hid.mk hsz
      clear hd
      refine AQ ?_
      refine AL ?_
      refine CV (szPlacement_fn G p.1 _ _ hpc hl0 hl1) ?_
      by_cases c2 : szN p.2.length lf < 0
      · refine AL ?_
        have : szPLS l left = -1 := by rw [← hsz.out, szPL, if_pos c2]
        simp [retA, backA, this]
      · refine AL ?_
        obtain ⟨_, g2, g3⟩ := szN_le c2
        refine ⟨l.length - (i + 1), by omega, i + 1, szN p.2.length lf, by omega, g3, by omega, by rw [← hsz.out, szPL, if_neg c2], by simp [setF_if, *], by simp [setF_if, *], by simp [setF_if, *]⟩
    · have e' : i = l.length := by omega
      subst e'
      rw [List.drop_length, szPL] at hsz
      refine AL ?_
      simp [retA, backA, hsz]
theorem szPL_le {l : List (Int × List Int)} : ∀ {left : Int}, left ≤ 1048576 → ¬ szPL l left < 0 → (∀ p ∈ l, (p.2.length : Int) ≤ 1048576) ∧ szPL l left ≤ left := by
  induction l with
  | nil => intro left _ _; exact ⟨by simp, Int.le_refl _⟩
  | cons p r ih =>
    intro left hl h
    unfold szPL at h ⊢
    split at h
    · simp at h
    · rename_i c
      rw [if_neg c]
      obtain ⟨g1, g2, g3⟩ := szN_le c
      obtain ⟨h1, h2⟩ := ih (by omega) h
      refine ⟨fun x hx => ?_, by omega⟩
      rcases List.mem_cons.mp hx with rfl | hx
      · omega
      · exact h1 x hx
theorem szPLS_le {l : List (Int × List Int)} {left : Int} (hl : left ≤ 1048576) (h : ¬ szPLS l left < 0) : (l.length : Int) ≤ 1048576 ∧ ∀ p ∈ l, (p.2.length : Int) ≤ 1048576 := by
  unfold szPLS at h
  split at h
  · simp at h
  · obtain ⟨h1, h2⟩ := szPL_le (by omega) h
    exact ⟨by omega, h1⟩
end Go.Proofs
end
section
open Go Go.Big
namespace Go.Proofs
set_option maxHeartbeats 2000000
/-- The indices of cells in a region, if all lie in it. -/
def setM (r : Shape) : Shape → Option (List Int)
  | [] => some []
  | c :: cs => if idxM r c < 0 then none else (setM r cs).map (idxM r c :: ·)
def gM (r : Shape) (i : Int) (f : Shape) (a b : Int) : Option (Int × List Int) := (setM r (movedM f a b)).map fun s => (i, s)
def offA (f : Shape) (c : Int × Int) : Int × Int := (IntKind.i64.wrap (c.1 - (f.getD 0 (0, 0)).1), IntKind.i64.wrap (c.2 - (f.getD 0 (0, 0)).2))
def rowA (r : Shape) (i : Int) (f : Shape) : List (Int × List Int) := r.filterMap fun c => gM r i f (offA f c).1 (offA f c).2
def listA (r : Shape) (i : Int) (fs : List Shape) : List (Int × List Int) := fs.flatMap (rowA r i)
def orderP (l : List (Int × List Int)) : List (Int × List Int) := l.mergeSort fun a b => !decide (cmpP b a < 0)
/-- A placement put into a list in order. -/
def insP (x : Int × List Int) : List (Int × List Int) → List (Int × List Int)
  | [] => [x]
  | y :: l => if cmpP y x < 0 then y :: insP x l else x :: y :: l
def stepB (r : Shape) (i : Int) (f : Shape) (y : Int) (out : List (Int × List Int)) (x : Nat) : List (Int × List Int) := match gM r i f x y with
  | some t => insP t out
  | none => out
def rowB (r : Shape) (i : Int) (f : Shape) (wide : Nat) (out : List (Int × List Int)) (y : Nat) : List (Int × List Int) := (List.range wide).foldl (stepB r i f y) out
def formB (r : Shape) (i : Int) (wide high : Nat) (out : List (Int × List Int)) (f : Shape) : List (Int × List Int) := (List.range high).foldl (rowB r i f wide) out
def listB (r : Shape) (i : Int) (fs : List Shape) : List (Int × List Int) := fs.foldl (formB r i (sizeM r).1.toNat (sizeM r).2.toNat) []
/- Where cells stand. -/
theorem cellAt_iff {l : Shape} {c : Int × Int} {i : Nat} : cellAt l c i = true ↔ l.getD i (0, 0) = c := by
  simp [cellAt, Prod.ext_iff]
theorem idx_mem {r : Shape} {c : Int × Int} (h : c ∈ r) : 0 ≤ idxM r c ∧ idxM r c < r.length ∧ r.getD (idxM r c).toNat (0, 0) = c := by
  unfold idxM
  cases q : (List.range r.length).find? (cellAt r c) with
  | none =>
    obtain ⟨i, hi, e⟩ := List.mem_iff_getElem.mp h
    rw [List.find?_range_eq_none] at q
    have := q i hi
    rw [Bool.not_eq_true', ← Bool.not_eq_true, cellAt_iff] at this
    exact absurd (by simp [List.getD_eq_getElem?_getD, hi, e]) this
  | some i =>
    rw [List.find?_range_eq_some] at q
    have hi : i < r.length := by simpa using q.2.1
    exact ⟨by simp, by simp [hi], by simpa using cellAt_iff.mp q.1⟩
theorem idx_not {r : Shape} {c : Int × Int} (h : c ∉ r) : idxM r c = -1 := by
  unfold idxM
  cases q : (List.range r.length).find? (cellAt r c) with
  | none => rfl
  | some i =>
    rw [List.find?_range_eq_some] at q
    have hi : i < r.length := by simpa using q.2.1
    have := cellAt_iff.mp q.1
    simp only [List.getD_eq_getElem?_getD, List.getElem?_eq_getElem hi, Option.getD_some] at this
    exact absurd (this ▸ List.getElem_mem hi) h
end Go.Proofs
end
section
open Go Go.Big
namespace Go.Proofs
set_option maxHeartbeats 2000000
theorem cells_scal (l : List (Int × Int)) : scalRows (cells l) := fun r hr p hp => by
  obtain ⟨c, _, rfl⟩ := List.mem_map.mp hr
  simp at hp; rcases hp with rfl | rfl <;> rfl
theorem cells_fit (l : List (Int × Int)) : fitR 2 (cells l) := fun r hr => by
  obtain ⟨c, _, rfl⟩ := List.mem_map.mp hr; rfl
theorem ints_scal (l : List Int) : scalRows (ints l) := fun r hr p hp => by
  obtain ⟨c, _, rfl⟩ := List.mem_map.mp hr
  simp at hp; subst hp; rfl
theorem ints_fit (l : List Int) : fitR 1 (ints l) := fun r hr => by
  obtain ⟨c, _, rfl⟩ := List.mem_map.mp hr; rfl
theorem toCellS_o (G : Gv) (l : List (Int × Int)) (hl : l.length < 1000000000) : GivesO Tryz.prog G 54 [.sl 0 (cells l)] (.sl 1 (cells l)) := by
  refine .of (.body Tryz.func54 rfl (by simp [Tryz.ntmps54]) ?_)
  rw [Tryz.ntmps54, Tryz.results54]
  have hlen := cells_len l
  have b1 : ((16 : Nat) : Int) * l.length ≤ 281474976710656 := by simp; omega
  have b2 : (l.length : Int) ≤ 9223372036854775807 := by omega
  have b3 : (0 : Int) ≤ l.length := by omega
  refine AG ?_
  refine .block (.loop (.inv (fun d E H n' => ∃ i : Nat, i + d = l.length ∧ E 0 = .sl 0 (cells l) ∧ E 3 = .own 3 0 ∧ E 4 = .i .i64 i ∧ H 3 = some (.arr 0 142 2 (part (cells l) [.i .i64 0, .i .i64 0] i) 1)) l.length ?_ ?_))
  · simp [setF_if, argE, upd_if, part_zero, hlen]
  rintro d E H n' ⟨i, hi, h0, h3, h4, hH⟩
  refine AG ?_
  by_cases c : (i : Int) < l.length
  · refine IFT ?_
    have hr := cells_at (l := l) (i := i) (by omega)
    have hp := part_at (l := cells l) (z := [PV.i .i64 0, PV.i .i64 0]) (i := i) (by omega)
    have hs := part_set (z := [PV.i .i64 0, PV.i .i64 0]) hr
    have hpl : i < (part (cells l) [PV.i .i64 0, PV.i .i64 0] i).length := (List.getElem?_eq_some_iff.mp hp).1
    have hw2 : IntKind.i64.wrap ((i : Int) + 1) = (i : Int) + 1 := wr64 (by omega) (by omega)
    refine .skip ?_
    refine AG ?_
    refine .block ?_
    refine AG ?_
    refine CV (toCell_fn G _ _) ?_
    refine AG ?_
    (try simp only [tN, tR, tE, rN, rR, rE, xN, xR, xE, reduceIte])
    refine AG ?_
    (try simp only [tN, tR, tE, rN, rR, rE, xN, xR, xE, reduceIte])
    refine ⟨l.length - (i + 1), by omega, i + 1, by omega, ?_⟩
    simp [setF_if, upd_if, *]
  · have e : i = (cells l).length := by omega
    rw [e, part_all] at hH
    refine AL ?_
    exact ⟨[3], ownX_sl (ownA_mk hH (cells_scal l) (by decide) (cells_fit l)), by simp⟩
theorem toInt64S_o (G : Gv) (l : List Int) (hl : l.length < 1000000000) : GivesO Tryz.prog G 55 [.sl 0 (ints l)] (.sl 1 (ints l)) := by
  refine .of (.body Tryz.func55 rfl (by simp [Tryz.ntmps55]) ?_)
  rw [Tryz.ntmps55, Tryz.results55]
  have hlen := ints_len l
  have b1 : ((8 : Nat) : Int) * l.length ≤ 281474976710656 := by simp; omega
  have b2 : (l.length : Int) ≤ 9223372036854775807 := by omega
  have b3 : (0 : Int) ≤ l.length := by omega
  refine AG ?_
  refine .block (.loop (.inv (fun d E H n' => ∃ i : Nat, i + d = l.length ∧ E 0 = .sl 0 (ints l) ∧ E 3 = .own 3 0 ∧ E 4 = .i .i64 i ∧ H 3 = some (.arr 0 2 1 (part (ints l) [.i .i64 0] i) 1)) l.length ?_ ?_))
  · simp [setF_if, argE, upd_if, part_zero, hlen]
  rintro d E H n' ⟨i, hi, h0, h3, h4, hH⟩
  refine AG ?_
  by_cases c : (i : Int) < l.length
  · refine IFT ?_
    have hr := ints_at (l := l) (i := i) (by omega)
    have hp := part_at (l := ints l) (z := [PV.i .i64 0]) (i := i) (by omega)
    have hs := part_set (z := [PV.i .i64 0]) hr
    have hpl : i < (part (ints l) [PV.i .i64 0] i).length := (List.getElem?_eq_some_iff.mp hp).1
    have hw2 : IntKind.i64.wrap ((i : Int) + 1) = (i : Int) + 1 := wr64 (by omega) (by omega)
    refine .skip ?_
    refine AG ?_
    refine .block ?_
    refine AG ?_
    (try simp only [tN, tR, tE, rN, rR, rE, xN, xR, xE, reduceIte])
    refine AG ?_
    (try simp only [tN, tR, tE, rN, rR, rE, xN, xR, xE, reduceIte])
    refine ⟨l.length - (i + 1), by omega, i + 1, by omega, ?_⟩
    simp [setF_if, upd_if, *]
  · have e : i = (ints l).length := by omega
    rw [e, part_all] at hH
    refine AL ?_
    exact ⟨[3], ownX_sl (ownA_mk hH (ints_scal l) (by decide) (ints_fit l)), by simp⟩
end Go.Proofs
end
