/- Walks: Lists of numbers that rise, the reference's. No condition. | What is a placement. No condition. | Placements of a piece, as lists: what both programs make. No condition. | Plain law: what the one program computes of a puzzle and a placement is what the other does. No condition. -/
import Derived.Test.YtmglpcdalechfaaGreatBO
import Derived.Test.YtmglpcdalechfaaGreatWk1
import Derived.Test.YtmglpcdalechfaaGreatWk6
import Derived.Test.YtmglpcdalechfaaGreatWk2
import Derived.Test.YtmglpcdalechfaaGreatBC
set_option linter.unusedVariables false
set_option linter.unusedSimpArgs false
section
open Go Go.Big
namespace Go.Proofs
set_option maxHeartbeats 2000000
theorem l01Rises_fn (G : Gv) (l : List Int) (n : Int) (hl : l.length < 4611686018427387904) : Gives Tryz.prog G 115 [.sl 0 (ints l), .i .i64 n] (.b (inc l (IntKind.i64.wrap (n - 1)))) := by
  refine .of (.body Tryz.func115 rfl (by simp [Tryz.ntmps115]) ?_)
  rw [Tryz.ntmps115, Tryz.results115]
  refine AG ?_
  refine .block (.loop (.inv (fun d E H n' => ∃ i : Nat, i + d = l.length ∧ E 0 = .sl 0 (ints l) ∧ E 1 = .i .i64 n ∧ E 5 = .i .i64 i ∧ (∀ j, j < i → incAt l (IntKind.i64.wrap (n - 1)) j = true)) l.length ?_ ?_))
  · simp [setF_if, argE]
  have hlen := ints_len l
  rintro d E H n' ⟨i, hi, h0, h1, h5, hall⟩
  refine AG ?_
  by_cases c : (i : Int) < l.length
  · refine IFT ?_
    have hr : (ints l)[i]? = some [.i .i64 (l.getD i 0)] := ints_at (by omega)
    have hat : incAt l (IntKind.i64.wrap (n - 1)) i = incAt l (IntKind.i64.wrap (n - 1)) i := rfl
    conv at hat => rhs; unfold incAt
    have hno : incAt l (IntKind.i64.wrap (n - 1)) i = false → inc l (IntKind.i64.wrap (n - 1)) = false := fun h => all_no (by omega) h
    have hw2 : IntKind.i64.wrap ((i : Int) + 1) = (i : Int) + 1 := wr64 (by omega) (by omega)
    have more : incAt l (IntKind.i64.wrap (n - 1)) i = true → ∀ j, j < i + 1 → incAt l (IntKind.i64.wrap (n - 1)) j = true := fun h j hj => by
      by_cases e : j = i
      · rw [e]; exact h
      · exact hall j (by omega)
    generalize l.getD i 0 = x at hr hat
    refine .skip ?_
    refine TH ?_
    refine .seq ?_
    refine .block ?_
    refine AQ ?_
    refine CQ (l01In_fn G _ _ _) ?_
    refine AQ ?_
    by_cases c1 : (decide (x ≥ 0) && decide (x ≤ IntKind.i64.wrap (n - 1))) = true
    · refine AQ ?_
      by_cases c3 : (i : Int) > 0
      · have hr2 : (ints l)[((i : Int) - 1).toNat]? = some [.i .i64 (l.getD (i - 1) 0)] := by rw [show ((i : Int) - 1).toNat = i - 1 by omega]; exact ints_at (by omega)
        have hw : IntKind.i64.wrap ((i : Int) - 1) = (i : Int) - 1 := wr64 (by omega) (by omega)
        have h01 : 0 ≤ (i : Int) - 1 := by omega
        generalize l.getD (i - 1) 0 = y at hr2 hat
        refine AQ ?_
        by_cases c4 : x ≤ y
        · refine IFT ?_
          refine AG ?_
          refine .ret ?_
          (try simp only [tN, tR, tE, rN, rR, rE, xN, xR, xE, reduceIte])
          refine DN ?_
          have := hno (by simp only [decide_true, decide_false, Bool.not_true, Bool.not_false, Bool.and_true, Bool.true_and, Bool.and_false, Bool.false_and, Bool.and_self, *])
          simp [retA, backA, this]
        · refine IFF ?_
          refine .skip ?_
          (try simp only [tN, tR, tE, rN, rR, rE, xN, xR, xE, reduceIte])
          refine .region ?_
          refine AG ?_
          (try simp only [tN, tR, tE, rN, rR, rE, xN, xR, xE, reduceIte])
          refine ⟨l.length - (i + 1), by omega, i + 1, by omega, ?_⟩
          simp [setF_if, *]
          exact more (by simp only [decide_true, decide_false, Bool.not_true, Bool.not_false, Bool.and_true, Bool.true_and, Bool.and_false, Bool.false_and, Bool.and_self, *])
      · refine AQ ?_
        refine IFF ?_
        refine .skip ?_
        (try simp only [tN, tR, tE, rN, rR, rE, xN, xR, xE, reduceIte])
        refine .region ?_
        refine AG ?_
        (try simp only [tN, tR, tE, rN, rR, rE, xN, xR, xE, reduceIte])
        refine ⟨l.length - (i + 1), by omega, i + 1, by omega, ?_⟩
        simp [setF_if, *]
        exact more (by simp only [decide_true, decide_false, Bool.not_true, Bool.not_false, Bool.and_true, Bool.true_and, Bool.and_false, Bool.false_and, Bool.and_self, *])
    · refine AQ ?_
      refine IFT ?_
      refine AG ?_
      refine .ret ?_
      (try simp only [tN, tR, tE, rN, rR, rE, xN, xR, xE, reduceIte])
      refine DN ?_
      have := hno (by simp only [decide_true, decide_false, Bool.not_true, Bool.not_false, Bool.and_true, Bool.true_and, Bool.and_false, Bool.false_and, Bool.and_self, *])
      simp [retA, backA, this]
  · refine IFF ?_
    refine .exit ?_
    (try simp only [tN, tR, tE, rN, rR, rE, xN, xR, xE, reduceIte])
    refine AG ?_
    refine .ret ?_
    refine DN ?_
    have : inc l (IntKind.i64.wrap (n - 1)) = true := all_yes (fun j hj => hall j (by omega))
    simp [retA, backA, this]
end Go.Proofs
end
section
open Go Go.Big
namespace Go.Proofs
set_option maxHeartbeats 2000000
theorem inc_mem {s : List Int} {m : Int} (h : inc s m = true) : ∀ k ∈ s, 0 ≤ k ∧ k ≤ m := by
  intro k hk
  obtain ⟨i, hi, rfl⟩ := List.getElem_of_mem hk
  unfold inc at h
  have := List.all_eq_true.mp h i (List.mem_range.mpr hi)
  unfold incAt at this
  simp only [List.getD_eq_getElem?_getD, List.getElem?_eq_getElem hi, Option.getD_some, Bool.and_eq_true, decide_eq_true_eq] at this
  exact this.1
theorem pickM_len (l : List (Int × Int)) (s : List Int) : (pickM l s).length = s.length := by simp [pickM]
def pc0 : PieceM := ⟨[], 0, false⟩
def ownM (r : List (Int × Int)) (s : List Int) : Shape := normM (pickM r s)
theorem ownM_len (r : List (Int × Int)) (s : List Int) : (ownM r s).length = s.length := by unfold ownM; rw [normM_len, pickM_len]
def fitS (p : PieceM) (own : Shape) : Bool := (formsP p).any fun f => cmpM f own == 0
def fitI (p : PieceM) (own : Shape) : Bool := (formsI p).any fun f => decide (f = own)
theorem l12Form_fn (G : Gv) (r : List (Int × Int)) (l : List PieceM) (k : Nat) (s : List Int) (p : PieceM) (hp : l[k]? = some p) (hp0 : 0 < p.cs.length) (hpl : p.cs.length < 1000000000) (hr : r.length < 1000000000) (hs : s.length < 1000000000) (hs0 : 0 < s.length) (hk : ∀ k ∈ s, 0 ≤ k ∧ k < r.length) :
    Gives Tryz.prog G 273 [.ag [.sl 0 (cells r), .sl 0 (pieces l)], .i .i64 k, .sl 0 (ints s)] (.b (fitS p (ownM r s))) := by
  refine .of (.body Tryz.func273 rfl (by simp [Tryz.ntmps273]) ?_)
  rw [Tryz.ntmps273, Tryz.results273]
  have hrow := pieces_at hp
  replace hk := Hid.mk hk
  refine AL ?_
  refine CV (l10Cells_fn G r s hr hs hk.out) ?_
  refine AL ?_
  refine CV (l02Normal_fn G (pickM r s) (by rw [pickM_len]; exact hs0) (by rw [pickM_len]; exact hs)) ?_
  refine AL ?_
  refine CV (l11Forms_fn G p hp0 hpl) ?_
  have how : normM (pickM r s) = ownM r s := rfl
  have hol : (ownM r s).length < 1000000000 := by rw [ownM_len]; exact hs
  rw [how]
  generalize ownM r s = own at hol
  unfold fitS
  obtain ⟨a1, a2⟩ := formsP_ok p
  have hal := shapesR_len (formsP p)
  replace a2 := Hid.mk a2
  generalize formsP p = fa at *
  clear how
  refine AL ?_
  refine .loop (.inv (fun d E H n' => ∃ i : Nat, i + d = fa.length ∧ E 7 = .sl 1 (cells own) ∧ E 8 = .sl 1 (shapesR fa) ∧ E 9 = .i .i64 i ∧ (fa.take i).any (fun f => cmpM f own == 0) = false) fa.length ?_ ?_)
  · exact ⟨0, by omega, by simp [setF_if, argE], by simp [setF_if, argE], by simp [setF_if, argE], by simp⟩
  rintro d E H n' ⟨i, hi, h7, h8, h9, hany⟩
  replace hany := Hid.mk hany
  by_cases c : (i : Int) < fa.length
  · have hw_i : IntKind.i64.wrap ((i : Int) + 1) = (i : Int) + 1 := wr64 (by omega) (by omega)
    have cN : i < fa.length := by omega
    have hr := shapesR_at (ls := fa) (i := i) cN
    have hta := take_any (p := fun f => cmpM f own == 0) cN
    have hat := any_at (p := fun f => cmpM f own == 0) cN
    have hxl : (fa.getD i []).length < 1000000000 := by rw [a2.out _ (by rw [List.getD_eq_getElem?_getD, List.getElem?_eq_getElem cN]; exact List.getElem_mem _)]; exact hpl
    replace hta := Hid.mk hta
    replace hat := Hid.mk hat
    generalize fa.getD i [] = x at hr hta hat hxl
    refine AL ?_
    refine CV (specCompareShapes_fn G x own hxl hol) ?_
    by_cases cc : (cmpM x own == 0) = true
    · refine AL ?_
      simp [retA, backA, hat.out cc]
    · simp only [Bool.not_eq_true] at cc
      refine AL ?_
      exact ⟨fa.length - (i + 1), by omega, i + 1, by omega, by simp [setF_if, *], by simp [setF_if, *], by simp [setF_if, *], by rw [hta.out, hany.out, cc]; rfl⟩
  · have e' : i = fa.length := by omega
    rw [e', List.take_length] at hany
    refine AL ?_
    simp [retA, backA, hany.out]
def placeS (r : List (Int × Int)) (l : List PieceM) (k : Int) (s : List Int) : Bool := (decide (k ≥ 0) && decide (k ≤ (l.length : Int) - 1)) && decide ((s.length : Int) > 0) && inc s ((r.length : Int) - 1) && fitS (l.getD k.toNat pc0) (ownM r s)
def placeI (r : List (Int × Int)) (l : List PieceM) (k : Int) (s : List Int) : Bool := (decide (k ≥ 0) && decide (k ≤ (l.length : Int) - 1)) && decide ((s.length : Int) > 0) && inc s ((r.length : Int) - 1) && fitI (l.getD k.toNat pc0) (ownM r s)
theorem l12Is_fn (G : Gv) (r : List (Int × Int)) (l : List PieceM) (k : Int) (s : List Int) (hr1 : 1 ≤ r.length) (hr : r.length < 1000000000) (hl1 : 1 ≤ l.length) (hl : l.length < 1000000000) (hs : s.length < 1000000000) (hp0 : ∀ p ∈ l, 0 < p.cs.length) (hpl : ∀ p ∈ l, p.cs.length < 1000000000) :
    Gives Tryz.prog G 216 [.ag [.sl 0 (cells r), .sl 0 (pieces l)], .ag [.i .i64 k, .sl 0 (ints s)]] (.b (placeS r l k s)) := by
  refine .of (.body Tryz.func216 rfl (by simp [Tryz.ntmps216]) ?_)
  rw [Tryz.ntmps216, Tryz.results216]
  have hlen := pieces_len l
  have hsl := ints_len s
  have hrl := cells_len r
  have hw1 : IntKind.i64.wrap ((l.length : Int) - 1) = (l.length : Int) - 1 := wr64 (by omega) (by omega)
  have hw2 : IntKind.i64.wrap ((r.length : Int) - 1) = (r.length : Int) - 1 := wr64 (by omega) (by omega)
  replace hp0 := Hid.mk hp0
  replace hpl := Hid.mk hpl
  refine AL ?_
  refine CV (l01In_fn G _ _ _) ?_
  by_cases c1 : (decide (k ≥ 0) && decide (k ≤ (l.length : Int) - 1)) = true
  · by_cases c2 : (s.length : Int) > 0
    · refine AL ?_
      refine CV (l01Rises_fn G s _ (by omega)) ?_
      rw [hw2]
      by_cases c3 : inc s ((r.length : Int) - 1) = true
      · have hmem := inc_mem c3
        replace hmem := Hid.mk hmem
        obtain ⟨k0, k1⟩ : 0 ≤ k ∧ k ≤ (l.length : Int) - 1 := by simpa using c1
        have hkl : k.toNat < l.length := by omega
        obtain ⟨p, hp⟩ : ∃ p, l[k.toNat]? = some p := ⟨_, List.getElem?_eq_getElem hkl⟩
        have hkk : ((k.toNat : Nat) : Int) = k := Int.toNat_of_nonneg k0
        have hf := l12Form_fn G r l k.toNat s p hp (hp0.out p (List.mem_of_getElem? hp)) (hpl.out p (List.mem_of_getElem? hp)) hr hs (by omega) (fun x hx => by have := hmem.out x hx; omega)
        rw [hkk] at hf
        have hpd : l.getD k.toNat pc0 = p := by rw [List.getD_eq_getElem?_getD, hp]; rfl
        replace hkk := Hid.mk hkk
        refine AL ?_
        refine CV hf ?_
        have : placeS r l k s = fitS p (ownM r s) := by unfold placeS; rw [c1, c3, hpd]; simp; omega
        clear hf
        refine AL ?_
        simp [retA, backA, this]
      · have : placeS r l k s = false := by
          simp only [Bool.not_eq_true] at c3
          unfold placeS; rw [c3]; simp
        refine AL ?_
        simp [retA, backA, this]
    · have : placeS r l k s = false := by
        have hcs : decide ((s.length : Int) > 0) = false := decide_eq_false c2
        unfold placeS; rw [hcs]; simp
      refine AL ?_
      simp [retA, backA, this]
  · have : placeS r l k s = false := by
      simp only [Bool.not_eq_true] at c1
      unfold placeS; rw [c1]; rfl
    refine AL ?_
    simp [retA, backA, this]
theorem puzzleS_ok {r : List (Int × Int)} {l : List PieceM} (h : puzzleS r l = true) : 1 ≤ r.length ∧ 1 ≤ l.length ∧ ∀ p ∈ l, 0 < p.cs.length := by
  unfold puzzleS at h
  simp only [Bool.and_eq_true, decide_eq_true_eq, List.all_eq_true, List.mem_range] at h
  obtain ⟨⟨h1, h2, h3⟩, h4⟩ := h
  have hr : shapeM r = true := by unfold regionS at h1; simp only [Bool.and_eq_true] at h1; exact h1.1
  refine ⟨shapeM_pos hr, by omega, fun p hp => ?_⟩
  obtain ⟨i, hi, rfl⟩ := List.getElem_of_mem hp
  have := (h4 i hi).1
  rw [List.getD_eq_getElem?_getD, List.getElem?_eq_getElem hi] at this
  exact pieceS_pos this
theorem puzzleI_ok {r : List (Int × Int)} {l : List PieceM} (h : puzzleI r l = true) : 1 ≤ r.length ∧ 1 ≤ l.length ∧ ∀ p ∈ l, 0 < p.cs.length := by
  unfold puzzleI at h
  simp only [Bool.and_eq_true, decide_eq_true_eq, List.all_eq_true, List.mem_range] at h
  obtain ⟨⟨h1, h2, h3⟩, h4⟩ := h
  refine ⟨shapeM_pos (regionM_shape h1), by omega, fun p hp => ?_⟩
  obtain ⟨i, hi, rfl⟩ := List.getElem_of_mem hp
  have := (h4 i hi).1
  rw [List.getD_eq_getElem?_getD, List.getElem?_eq_getElem hi] at this
  exact pieceM_pos this
theorem isPl1_fn (G : Gv) (a own : Shape) (o : Nat) (T : TypeId) (H : Heap) (n tg ta : Nat) (ho : o < n) (hH : H o = some (.box T [.sl tg (cells own)])) (ha : a.length < 1000000000) (hb : own.length < 1000000000) :
    WC Tryz.prog G 275 [.sl ta (cells a), .ptr o 0 0 0] H n (fun r H' n' => r = .b (decide (a = own)) ∧ n ≤ n' ∧ H' = H) := by
  refine (.body Tryz.func275 rfl (by simp [Tryz.ntmps275]) ?_)
  rw [Tryz.ntmps275, Tryz.results275]
  refine AL ?_
  refine CV (equal_fn G a own ha hb) ?_
  refine AL ?_
  refine ⟨by simp [retA, setF_if], by omega, ?_⟩
  first | rfl | trivial
theorem isPlacement_fn (G : Gv) (hG : ∀ f args H n r H' n', sortsG f args H n r H' n' → G f args H n r H' n') (hG1 : ∀ f args H n r H' n', sortsG1 f args H n r H' n' → G f args H n r H' n') (r : List (Int × Int)) (l : List PieceM) (k : Int) (s : List Int) (hr1 : 1 ≤ r.length) (hr : r.length < 1000000000) (hl1 : 1 ≤ l.length) (hl : l.length < 1000000000) (hs : s.length < 1000000000) (hp0 : ∀ p ∈ l, 0 < p.cs.length) (hpl : ∀ p ∈ l, p.cs.length < 1000000000) :
    Gives Tryz.prog G 218 [.ag [.sl 0 (cells r), .sl 0 (pieces l)], .ag [.i .i64 k, .sl 0 (ints s)]] (.b (placeI r l k s)) := by
  refine .of (.body Tryz.func218 rfl (by simp [Tryz.ntmps218]) ?_)
  rw [Tryz.ntmps218, Tryz.results218]
  replace hG := Hid.mk hG
  replace hG1 := Hid.mk hG1
  have hlen := pieces_len l
  have hsl := ints_len s
  have hrl := cells_len r
  have hw1 : IntKind.i64.wrap ((l.length : Int) - 1) = (l.length : Int) - 1 := wr64 (by omega) (by omega)
  have hw2 : IntKind.i64.wrap ((r.length : Int) - 1) = (r.length : Int) - 1 := wr64 (by omega) (by omega)
  replace hp0 := Hid.mk hp0
  replace hpl := Hid.mk hpl
  refine AL ?_
  refine CV (within_fn G _ _ _) ?_
  by_cases c1 : (decide (k ≥ 0) && decide (k ≤ (l.length : Int) - 1)) = true
  · by_cases c2 : ((s.length : Int) == 0) = true
    · have : placeI r l k s = false := by
        have : s.length = 0 := by simpa using c2
        unfold placeI; simp [this]
      refine AL ?_
      simp [retA, backA, this]
    · have hs0 : 0 < s.length := by
        have : ¬ s.length = 0 := by simpa using c2
        omega
      simp only [Bool.not_eq_true] at c2
      refine AL ?_
      refine CV (isIncreasing_fn G s _ (by omega)) ?_
      rw [hw2]
      by_cases c3 : inc s ((r.length : Int) - 1) = true
      · have hmem := inc_mem c3
        replace hmem := Hid.mk hmem
        obtain ⟨k0, k1⟩ : 0 ≤ k ∧ k ≤ (l.length : Int) - 1 := by simpa using c1
        have hkl : k.toNat < l.length := by omega
        obtain ⟨p, hp⟩ : ∃ p, l[k.toNat]? = some p := ⟨_, List.getElem?_eq_getElem hkl⟩
        have hpd : l.getD k.toNat pc0 = p := by rw [List.getD_eq_getElem?_getD, hp]; rfl
        have hrow := pieces_at hp
        have hpp0 := hp0.out p (List.mem_of_getElem? hp)
        have hppl := hpl.out p (List.mem_of_getElem? hp)
        have : placeI r l k s = fitI p (ownM r s) := by unfold placeI; rw [c1, c3, hpd]; simp; omega
        replace this := Hid.mk this
        replace hpd := Hid.mk hpd
        refine AL ?_
        refine CV (setToCells_fn G r s hr hs (fun x hx => by have := hmem.out x hx; omega)) ?_
        refine AL ?_
        refine CV (normal_fn G (pickM r s) (by rw [pickM_len]; exact hs0) (by rw [pickM_len]; exact hs)) ?_
        have how : normM (pickM r s) = ownM r s := rfl
        have hol : (ownM r s).length < 1000000000 := by rw [ownM_len]; exact hs
        rw [how]
        generalize ownM r s = own at hol this
        clear how
        refine AL ?_
        refine CV (formsOf_fn G hG.out hG1.out p hpp0 hppl) ?_
        obtain ⟨f1, f2⟩ := formsI_ok p
        replace f2 := Hid.mk f2
        refine AL ?_
        refine CI ?_
        refine (containsFunc_fn G _ _ _ _ 1 (fun a => decide (a = own)) (formsI p) ?_ (by kernel_rfl) (by omega) _ _ (Nat.le_refl _) (fun _ _ => rfl)).mono ?_
        · intro x hx H n hn hH
          refine (isPl1_fn G x own _ 32 H n 1 1 ?_ ?_ (by rw [f2.out x hx]; exact hppl) hol).mono ?_
          rotate_left
          · rw [hH _ ?_]
            · exact Heap.upd_same _ _ _
            · decide
          · rintro r H2 n2 ⟨h1, h2, rfl⟩
            exact ⟨h1, by omega, hH⟩
          · omega
        · rintro r2 H2 n2 ⟨rfl, hn2, hH2⟩
          replace hH2 := Hid.mk hH2
          refine AL ?_
          simp [retA, backA, setF_if, this.out, fitI]
      · have : placeI r l k s = false := by
          simp only [Bool.not_eq_true] at c3
          unfold placeI; rw [c3]; simp
        refine AL ?_
        simp [retA, backA, this]
  · have : placeI r l k s = false := by
      simp only [Bool.not_eq_true] at c1
      unfold placeI; rw [c1]; rfl
    refine AL ?_
    simp [retA, backA, this]
end Go.Proofs
end
section
open Go Go.Big
namespace Go.Proofs
set_option maxHeartbeats 2000000
/-- The indices of cells in a region, if all lie in it. -/
def setM (r : Shape) : Shape → Option (List Int)
  | [] => some []
  | c :: cs => if idxM r c < 0 then none else (setM r cs).map (idxM r c :: ·)
def gM (r : Shape) (i : Int) (f : Shape) (a b : Int) : Option (Int × List Int) := (setM r (movedM f a b)).map fun s => (i, s)
def offA (f : Shape) (c : Int × Int) : Int × Int := (IntKind.i64.wrap (c.1 - (f.getD 0 (0, 0)).1), IntKind.i64.wrap (c.2 - (f.getD 0 (0, 0)).2))
def rowA (r : Shape) (i : Int) (f : Shape) : List (Int × List Int) := r.filterMap fun c => gM r i f (offA f c).1 (offA f c).2
def listA (r : Shape) (i : Int) (fs : List Shape) : List (Int × List Int) := fs.flatMap (rowA r i)
def orderP (l : List (Int × List Int)) : List (Int × List Int) := l.mergeSort fun a b => !decide (cmpP b a < 0)
/-- A placement put into a list in order. -/
def insP (x : Int × List Int) : List (Int × List Int) → List (Int × List Int)
  | [] => [x]
  | y :: l => if cmpP y x < 0 then y :: insP x l else x :: y :: l
def stepB (r : Shape) (i : Int) (f : Shape) (y : Int) (out : List (Int × List Int)) (x : Nat) : List (Int × List Int) := match gM r i f x y with
  | some t => insP t out
  | none => out
def rowB (r : Shape) (i : Int) (f : Shape) (wide : Nat) (out : List (Int × List Int)) (y : Nat) : List (Int × List Int) := (List.range wide).foldl (stepB r i f y) out
def formB (r : Shape) (i : Int) (wide high : Nat) (out : List (Int × List Int)) (f : Shape) : List (Int × List Int) := (List.range high).foldl (rowB r i f wide) out
def listB (r : Shape) (i : Int) (fs : List Shape) : List (Int × List Int) := fs.foldl (formB r i (sizeM r).1.toNat (sizeM r).2.toNat) []
/- Where cells stand. -/
theorem cellAt_iff {l : Shape} {c : Int × Int} {i : Nat} : cellAt l c i = true ↔ l.getD i (0, 0) = c := by
  simp [cellAt, Prod.ext_iff]
theorem idx_mem {r : Shape} {c : Int × Int} (h : c ∈ r) : 0 ≤ idxM r c ∧ idxM r c < r.length ∧ r.getD (idxM r c).toNat (0, 0) = c := by
  unfold idxM
  cases q : (List.range r.length).find? (cellAt r c) with
  | none =>
    obtain ⟨i, hi, e⟩ := List.mem_iff_getElem.mp h
    rw [List.find?_range_eq_none] at q
    have := q i hi
    rw [Bool.not_eq_true', ← Bool.not_eq_true, cellAt_iff] at this
    exact absurd (by simp [List.getD_eq_getElem?_getD, hi, e]) this
  | some i =>
    rw [List.find?_range_eq_some] at q
    have hi : i < r.length := by simpa using q.2.1
    exact ⟨by simp, by simp [hi], by simpa using cellAt_iff.mp q.1⟩
theorem idx_not {r : Shape} {c : Int × Int} (h : c ∉ r) : idxM r c = -1 := by
  unfold idxM
  cases q : (List.range r.length).find? (cellAt r c) with
  | none => rfl
  | some i =>
    rw [List.find?_range_eq_some] at q
    have hi : i < r.length := by simpa using q.2.1
    have := cellAt_iff.mp q.1
    simp only [List.getD_eq_getElem?_getD, List.getElem?_eq_getElem hi, Option.getD_some] at this
    exact absurd (this ▸ List.getElem_mem hi) h
end Go.Proofs
end
section
open Go Go.Big
namespace Go.Proofs
set_option maxHeartbeats 2000000
theorem maxI_le {a b c : Int} : maxI a b ≤ c ↔ a ≤ c ∧ b ≤ c := by unfold maxI; split <;> omega
theorem fold_max1 (f : Int × Int → Int × Int) (b : Int) : ∀ (l : List (Int × Int)) (s : Int × Int), (l.foldl (fun s p => (maxI s.1 (f p).1, maxI s.2 (f p).2)) s).1 ≤ b ↔ s.1 ≤ b ∧ ∀ p ∈ l, (f p).1 ≤ b
  | [], s => by simp
  | p :: l, s => by rw [List.foldl_cons, fold_max1 f b l, maxI_le]; simp [and_assoc]
theorem fold_max2 (f : Int × Int → Int × Int) (b : Int) : ∀ (l : List (Int × Int)) (s : Int × Int), (l.foldl (fun s p => (maxI s.1 (f p).1, maxI s.2 (f p).2)) s).2 ≤ b ↔ s.2 ≤ b ∧ ∀ p ∈ l, (f p).2 ≤ b
  | [], s => by simp
  | p :: l, s => by rw [List.foldl_cons, fold_max2 f b l, maxI_le]; simp [and_assoc]
theorem wrap_small {n : Int} (h : inC n = true) : IntKind.i64.wrap (IntKind.i64.wrap (n - 0) + 1) = n + 1 := by
  simp only [inC, Bool.and_eq_true, decide_eq_true_eq] at h
  have h1 : IntKind.i64.wrap (n - 0) = n := by simp [IntKind.wrap, IntKind.bits, IntKind.signed]; omega
  rw [h1]
  simp [IntKind.wrap, IntKind.bits, IntKind.signed]; omega
theorem regionM_S (l : List (Int × Int)) : regionM l = regionS l := by
  unfold regionM regionS
  by_cases hs : shapeM l = true
  · obtain ⟨_, hc, hp, _⟩ := shapeM_spec hs
    rw [hs]
    generalize hq : minF l l.length = q
    obtain ⟨a, b⟩ := q
    by_cases h0 : a = 0 ∧ b = 0
    · obtain ⟨rfl, rfl⟩ := h0
      have hmem : l.getD 0 (0, 0) ∈ l := by
        cases l with
        | nil => simp at hp
        | cons x l => simp
      have e1 : (maxF l l.length).1 < 20 ↔ (sizeM l).1 ≤ 20 := by
        have m1 := fold_max1 (fun p => p) 19 l (l.getD 0 (0, 0))
        have m2 := fold_max1 (fun p => (IntKind.i64.wrap (IntKind.i64.wrap (p.1 - 0) + 1), IntKind.i64.wrap (IntKind.i64.wrap (p.2 - 0) + 1))) 20 l (0, 0)
        unfold sizeM sizeF maxF
        rw [hq, List.take_length]
        simp only at m1 m2 ⊢
        rw [m2, show ∀ x : Int, x < 20 ↔ x ≤ 19 by omega, m1]
        constructor
        · rintro ⟨_, h⟩
          refine ⟨by omega, fun p hp => ?_⟩
          rw [wrap_small (hc p hp).1]
          have := h p hp
          omega
        · rintro ⟨_, h⟩
          have h' : ∀ p ∈ l, p.1 ≤ 19 := fun p hp => by
            have := h p hp
            rw [wrap_small (hc p hp).1] at this
            omega
          exact ⟨h' _ hmem, h'⟩
      have e2 : (maxF l l.length).2 < 20 ↔ (sizeM l).2 ≤ 20 := by
        have m1 := fold_max2 (fun p => p) 19 l (l.getD 0 (0, 0))
        have m2 := fold_max2 (fun p => (IntKind.i64.wrap (IntKind.i64.wrap (p.1 - 0) + 1), IntKind.i64.wrap (IntKind.i64.wrap (p.2 - 0) + 1))) 20 l (0, 0)
        unfold sizeM sizeF maxF
        rw [hq, List.take_length]
        simp only at m1 m2 ⊢
        rw [m2, show ∀ x : Int, x < 20 ↔ x ≤ 19 by omega, m1]
        constructor
        · rintro ⟨_, h⟩
          refine ⟨by omega, fun p hp => ?_⟩
          rw [wrap_small (hc p hp).2]
          have := h p hp
          omega
        · rintro ⟨_, h⟩
          have h' : ∀ p ∈ l, p.2 ≤ 19 := fun p hp => by
            have := h p hp
            rw [wrap_small (hc p hp).2] at this
            omega
          exact ⟨h' _ hmem, h'⟩
      simp [e1, e2]
    · have : ((a, b) == ((0, 0) : Int × Int)) = false := by
        rw [beq_eq_false_iff_ne]; intro e; exact h0 (by simpa using e)
      have h2 : (a == 0 && b == 0) = false := by
        rw [Bool.eq_false_iff]; intro e; exact h0 (by simpa using e)
      rw [this]
      simp only [h2, Bool.false_and, Bool.and_false]
  · rw [Bool.eq_false_iff.mpr hs]; simp
theorem set_nn {out : List Int} {k : Nat} {v : Int} (hv : 0 ≤ v) (j : Nat) (h : 0 ≤ out.getD j 0) : 0 ≤ (out.set k v).getD j 0 := by
  simp only [List.getD_eq_getElem?_getD, List.getElem?_set] at h ⊢
  split
  · split <;> simp [hv]
  · exact h
theorem lookP_nn {l : List (Int × Int)} {i : Int} (hi : 0 ≤ i) {s : List Int × List Int} {c : Int × Int} (j : Nat) (h : 0 ≤ s.1.getD j 0) : 0 ≤ (lookP l i s c).1.getD j 0 := by
  unfold lookP
  split
  · exact set_nn hi j h
  · exact h
theorem lookF_nn {l : List (Int × Int)} {i : Int} (hi : 0 ≤ i) (j : Nat) : ∀ {cs : List (Int × Int)} {s : List Int × List Int}, 0 ≤ s.1.getD j 0 → 0 ≤ (cs.foldl (lookP l i) s).1.getD j 0
  | [], _, h => h
  | c :: cs, s, h => lookF_nn hi j (cs := cs) (lookP_nn hi j h)
theorem runP_nn {l : List (Int × Int)} {i : Int} (hi : 0 ≤ i) (j : Nat) : ∀ {f : Nat} {out rest : List Int}, 0 ≤ out.getD j 0 → 0 ≤ (runP l i f out rest).getD j 0
  | 0, _, _, h => by simpa [runP] using h
  | f + 1, out, [], h => by simpa [runP] using h
  | f + 1, out, c :: rest, h => by
    rw [runP]
    exact runP_nn hi j (lookF_nn hi j h)
theorem startP_nn {l : List (Int × Int)} {out : List Int} {i : Nat} (j : Nat) (h : 0 ≤ out.getD j 0 ∨ j = i) : 0 ≤ (startP l out i).getD j 0 := by
  unfold startP
  split
  · rename_i hc
    rcases h with h | rfl
    · exact h
    · exact hc
  · refine runP_nn (by omega) j ?_
    rcases h with h | rfl
    · exact set_nn (by omega) j h
    · simp only [List.getD_eq_getElem?_getD, List.getElem?_set]
      simp only [if_true]
      split <;> simp
theorem partsM_nn (l : List (Int × Int)) : ∀ (i j : Nat), j < i → 0 ≤ (partsM l i).getD j 0
  | 0, j, h => by omega
  | i + 1, j, h => by
    rw [partsM_succ]
    by_cases hj : j < i
    · exact startP_nn j (Or.inl (partsM_nn l i j hj))
    · exact startP_nn j (Or.inr (by omega))
theorem fold_maxI (b : Int) : ∀ (l : List Int) (s : Int), l.foldl maxI s ≤ b ↔ s ≤ b ∧ ∀ p ∈ l, p ≤ b
  | [], s => by simp
  | p :: l, s => by rw [List.foldl_cons, fold_maxI b l, maxI_le]; simp [and_assoc]
theorem conn_eq {l : List (Int × Int)} (h : 1 ≤ l.length) : connM l = connS l := by
  unfold connM connS maxLF zerosM
  have hlen := partsM_len l (Nat.le_refl l.length)
  have hnn := partsM_nn l l.length
  generalize partsM l l.length = o at hlen hnn ⊢
  have hall : ∀ p ∈ o, 0 ≤ p := fun p hp => by
    obtain ⟨j, hj, rfl⟩ := List.mem_iff_getElem.mp hp
    have := hnn j (by omega)
    simpa [List.getD_eq_getElem?_getD, hj] using this
  rw [← hlen, List.take_length]
  have h0 : o.getD 0 0 ∈ o := by
    cases o with
    | nil => simp at hlen; omega
    | cons x o => simp
  have m1 := fold_maxI 0 o (o.getD 0 0)
  have m2 := fold_maxI (-1) o (o.getD 0 0)
  have h1 := hall _ h0
  rw [Bool.eq_iff_iff]
  simp only [beq_iff_eq, List.all_eq_true, List.mem_range]
  constructor
  · intro e j hj
    have hx := (m1.mp (by omega)).2 (o.getD j 0) (by simp [List.getD_eq_getElem?_getD, hj])
    have := hnn j (by omega)
    omega
  · intro e
    have : o.foldl maxI (o.getD 0 0) ≤ 0 := m1.mpr ⟨by have := e 0 (by omega); omega, fun p hp => by
      obtain ⟨j, hj, rfl⟩ := List.mem_iff_getElem.mp hp
      have := e j hj
      simp [List.getD_eq_getElem?_getD, hj] at this
      omega⟩
    have h3 : ¬ o.foldl maxI (o.getD 0 0) ≤ -1 := fun hx => by have := (m2.mp hx).1; omega
    omega
theorem piece_eq (p : PieceM) : pieceM p = pieceS p := by
  unfold pieceM pieceS
  rw [← regionM_S]
  by_cases h : regionM p.cs = true
  · have hs := regionM_shape h
    rw [h, hs, conn_eq (shapeM_spec hs).2.2.1]
    simp
  · rw [Bool.eq_false_iff.mpr h]; simp
/-- Two strictly sorted lists of the same shapes are one. -/
theorem sorted_ext : ∀ {l k : List Shape}, l.Pairwise (fun a b => cmpM a b < 0) → k.Pairwise (fun a b => cmpM a b < 0) → (∀ x, x ∈ l ↔ x ∈ k) → l = k
  | [], [], _, _, _ => rfl
  | [], y :: k, _, _, h => absurd ((h y).mpr (by simp)) (by simp)
  | x :: l, [], _, _, h => absurd ((h x).mp (by simp)) (by simp)
  | x :: l, y :: k, hl, hk, h => by
    rw [List.pairwise_cons] at hl hk
    have hxy : x = y := by
      rcases List.mem_cons.mp ((h x).mp (by simp)) with e | e
      · exact e
      · rcases List.mem_cons.mp ((h y).mpr (by simp)) with e' | e'
        · exact e'.symm
        · exact absurd (cmpM_trans (hl.1 y e') (hk.1 x e)) (cmpM_irrefl x)
    subst hxy
    rw [sorted_ext hl.2 hk.2 fun z => ?_]
    constructor
    · intro hz
      rcases List.mem_cons.mp ((h z).mp (List.mem_cons_of_mem _ hz)) with e | e
      · subst e; exact absurd (hl.1 _ hz) (cmpM_irrefl _)
      · exact e
    · intro hz
      rcases List.mem_cons.mp ((h z).mpr (List.mem_cons_of_mem _ hz)) with e | e
      · subst e; exact absurd (hk.1 _ hz) (cmpM_irrefl _)
      · exact e
theorem insS_iff {c x : Shape} : ∀ {ls : List Shape}, x ∈ insS c ls ↔ x = c ∨ x ∈ ls
  | [] => by simp [insS]
  | y :: ls => by
    unfold insS
    split
    · simp
    · rw [List.mem_cons, insS_iff, List.mem_cons]
      constructor
      · rintro (h | h | h)
        · exact Or.inr (Or.inl h)
        · exact Or.inl h
        · exact Or.inr (Or.inr h)
      · rintro (h | h | h)
        · exact Or.inr (Or.inl h)
        · exact Or.inl h
        · exact Or.inr (Or.inr h)
theorem insS_sorted {c : Shape} : ∀ {ls : List Shape}, c ∉ ls → ls.Pairwise (fun a b => cmpM a b < 0) → (insS c ls).Pairwise (fun a b => cmpM a b < 0)
  | [], _, _ => by simp [insS]
  | y :: ls, hc, h => by
    rw [List.pairwise_cons] at h
    unfold insS
    split
    · rename_i hlt
      rw [List.pairwise_cons]
      refine ⟨fun z hz => ?_, List.pairwise_cons.mpr h⟩
      rcases List.mem_cons.mp hz with rfl | hz
      · exact hlt
      · exact cmpM_trans hlt (h.1 z hz)
    · rename_i hnlt
      rw [List.pairwise_cons]
      refine ⟨fun z hz => ?_, insS_sorted (fun hx => hc (List.mem_cons_of_mem _ hx)) h.2⟩
      rcases insS_iff.mp hz with rfl | hz
      · rcases cmpM_trich z y with e | e | e
        · exact absurd e hnlt
        · subst e; exact absurd List.mem_cons_self hc
        · exact e
      · exact h.1 z hz
theorem any_same {c : Shape} {ls : List Shape} : (List.range ls.length).any (sameAt c ls) = true ↔ c ∈ ls := by
  rw [List.any_eq_true]
  constructor
  · rintro ⟨i, hi, he⟩
    rw [List.mem_range] at hi
    simp only [sameAt, beq_iff_eq] at he
    have := cmpM_zero.mp he
    rw [this]
    simp [List.getD_eq_getElem?_getD, hi]
  · intro h
    obtain ⟨j, hj, e⟩ := List.mem_iff_getElem.mp h
    refine ⟨j, List.mem_range.mpr hj, ?_⟩
    simp only [sameAt, beq_iff_eq]
    rw [cmpM_zero]
    simp [List.getD_eq_getElem?_getD, hj, e]
theorem addS_iff {c x : Shape} {ls : List Shape} : x ∈ addS c ls ↔ x = c ∨ x ∈ ls := by
  unfold addS
  split
  · rename_i h
    have := any_same.mp h
    constructor
    · exact Or.inr
    · rintro (rfl | h)
      · exact this
      · exact h
  · exact insS_iff
theorem addS_sorted {c : Shape} {ls : List Shape} (h : ls.Pairwise (fun a b => cmpM a b < 0)) : (addS c ls).Pairwise (fun a b => cmpM a b < 0) := by
  unfold addS
  split
  · exact h
  · rename_i hn
    exact insS_sorted (fun hc => hn (any_same.mpr hc)) h
theorem formsF_iff (l : Shape) (x : Shape) : ∀ t, x ∈ formsF l t ↔ ∃ i, i < t ∧ x = formM l i
  | 0 => by simp [formsF]
  | t + 1 => by
    rw [formsF_succ, addS_iff, formsF_iff l x t]
    constructor
    · rintro (h | ⟨i, hi, h⟩)
      · exact ⟨t, by omega, h⟩
      · exact ⟨i, by omega, h⟩
    · rintro ⟨i, hi, h⟩
      by_cases e : i = t
      · subst e; exact Or.inl h
      · exact Or.inr ⟨i, by omega, h⟩
theorem formsF_sorted (l : Shape) : ∀ t, (formsF l t).Pairwise (fun a b => cmpM a b < 0)
  | 0 => by simp [formsF]
  | t + 1 => by rw [formsF_succ]; exact addS_sorted (formsF_sorted l t)
theorem cptA_iff {x z : Shape} : ∀ {l : List Shape}, (z = x ∨ z ∈ cptA x l) ↔ (z = x ∨ z ∈ l)
  | [] => by simp [cptA]
  | y :: l => by
    unfold cptA
    split
    · rename_i h
      subst h
      rw [cptA_iff (l := l)]
      simp
    · rw [List.mem_cons, cptA_iff (l := l), List.mem_cons]
theorem cptA_sorted {x : Shape} : ∀ {l : List Shape}, (x :: l).Pairwise (fun a b => ¬ cmpM b a < 0) → (x :: cptA x l).Pairwise (fun a b => cmpM a b < 0)
  | [], _ => by simp [cptA]
  | y :: l, h => by
    rw [List.pairwise_cons] at h
    unfold cptA
    split
    · rename_i e
      subst e
      exact cptA_sorted h.2
    · rename_i ne
      have h1 := cptA_sorted h.2
      have hxy : cmpM x y < 0 := by
        rcases cmpM_trich x y with e | e | e
        · exact e
        · exact absurd e.symm ne
        · exact absurd e (h.1 y (by simp))
      rw [List.pairwise_cons]
      refine ⟨fun z hz => ?_, h1⟩
      rcases List.mem_cons.mp hz with rfl | hz
      · exact hxy
      · exact cmpM_trans hxy ((List.pairwise_cons.mp h1).1 z hz)
theorem compactS_iff {z : Shape} {l : List Shape} : z ∈ compactS l ↔ z ∈ l := by
  cases l with
  | nil => simp [compactS]
  | cons x l => rw [compactS, List.mem_cons, List.mem_cons, cptA_iff]
theorem compactS_sorted {l : List Shape} (h : l.Pairwise (fun a b => ¬ cmpM b a < 0)) : (compactS l).Pairwise (fun a b => cmpM a b < 0) := by
  cases l with
  | nil => simp [compactS]
  | cons x l => exact cptA_sorted h
theorem forms_eq (p : PieceM) : formsI p = formsP p := by
  unfold formsI formsP tidyM
  refine sorted_ext (compactS_sorted (orderS_sorted _)) (formsF_sorted _ _) fun x => ?_
  rw [compactS_iff, (orderS_perm _).mem_iff, formsF_iff]
  simp only [formsL, List.mem_map, List.mem_range]
  exact ⟨fun ⟨i, h1, h2⟩ => ⟨i, h1, h2.symm⟩, fun ⟨i, h1, h2⟩ => ⟨i, h1, h2.symm⟩⟩
theorem cmp_dec (a b : Shape) : (cmpM a b == 0) = decide (a = b) := by
  rw [Bool.eq_iff_iff]; simp [cmpM_zero]
theorem alike_eq (p q : PieceM) : alikeS p q = (decide (p.cs.length = q.cs.length) && alikeI p q) := by
  unfold alikeS alikeI
  rw [forms_eq, forms_eq]
  simp only [cmp_dec]
  by_cases h : p.cs.length = q.cs.length
  · simp [h]
  · simp only [h, decide_false, Bool.false_and, List.any_eq_false]
    intro a ha
    rw [List.any_eq_true]
    rintro ⟨b, hb, e⟩
    have e' := of_decide_eq_true e
    subst e'
    exact h (((formsP_ok p).2 a ha).symm.trans ((formsP_ok q).2 a hb))
theorem puzzle_eq (r : List (Int × Int)) (l : List PieceM) : puzzleI r l = puzzleS r l := by
  unfold puzzleI puzzleS
  have hr : regionM r = regionS r := regionM_S r
  have hp : ∀ i, (pieceM (l.getD i ⟨[], 0, false⟩) && apartI l i (l.getD i ⟨[], 0, false⟩)) = (pieceS (l.getD i ⟨[], 0, false⟩) && apartS l i (l.getD i ⟨[], 0, false⟩)) := fun i => by
    simp only [piece_eq, apartI, apartS, alike_eq]
  rw [hr]
  congr 1
  · congr 1
    rw [Bool.eq_iff_iff]
    simp
    omega
  · congr 1
    funext i
    exact hp i
theorem place_eq (r : List (Int × Int)) (l : List PieceM) (k : Int) (s : List Int) : placeI r l k s = placeS r l k s := by
  unfold placeI placeS fitI fitS
  rw [forms_eq]
  simp only [cmp_dec]
end Go.Proofs
end
