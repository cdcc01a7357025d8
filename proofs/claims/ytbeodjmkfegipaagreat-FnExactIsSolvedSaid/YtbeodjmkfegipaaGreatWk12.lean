/- Walks: Plain law: the two programs agree on what is a solution. No condition. | The sorts' contracts hold. No condition. -/
import Derived.Test.YtbeodjmkfegipaaGreatBO
import Derived.Test.YtbeodjmkfegipaaGreatWk11
import Derived.Test.YtbeodjmkfegipaaGreatWk4
import Derived.Test.YtbeodjmkfegipaaGreatWk5
import Derived.Test.YtbeodjmkfegipaaGreatShelf
set_option linter.unusedVariables false
set_option linter.unusedSimpArgs false
section
open Go Go.Big
namespace Go.Proofs
set_option maxHeartbeats 2000000
theorem inc_lt {s : List Int} {m : Int} (h : inc s m = true) : s.Pairwise (· < ·) := by
  rw [List.pairwise_iff_getElem]
  have step : ∀ i (hi : i < s.length), 0 < i → s.getD (i - 1) 0 < s.getD i 0 := fun i hi h0 => by
    have := List.all_eq_true.mp h i (List.mem_range.mpr hi)
    unfold incAt at this
    have h0' : ((i : Int) > 0) := by omega
    simp only [h0', decide_true, Bool.true_and, Bool.and_eq_true, Bool.not_eq_true', decide_eq_false_iff_not] at this
    omega
  have key : ∀ d i, i + d + 1 < s.length → s.getD i 0 < s.getD (i + d + 1) 0 := by
    intro d
    induction d with
    | zero => intro i hi; exact step (i + 1) hi (by omega)
    | succ d ih =>
      intro i hi
      have h1 := ih i (by omega)
      have h2 := step (i + (d + 1) + 1) hi (by omega)
      rw [show i + (d + 1) + 1 - 1 = i + d + 1 by omega] at h2
      omega
  intro i j hi hj hij
  have := key (j - i - 1) i (by omega)
  rw [show i + (j - i - 1) + 1 = j by omega] at this
  simpa [List.getD_eq_getElem?_getD, hi, hj] using this
/-- What is covered already: a cell is covered, or one of those that are laid. -/
def hit (cov : List Bool) (c : Int) : Bool := cov.getD c.toNat false
theorem hit_set {cov : List Bool} {c y : Int} (hc : 0 ≤ c) (hy : 0 ≤ y) (hy2 : y.toNat < cov.length) : hit (cov.set y.toNat true) c = (c == y || hit cov c) := by
  unfold hit
  by_cases e : c = y
  · subst e
    simp [List.getD_eq_getElem?_getD, hy2]
  · have : ¬ y.toNat = c.toNat := by omega
    have e' : (c == y) = false := by simpa using e
    rw [e', Bool.false_or]
    simp [List.getD_eq_getElem?_getD, List.getElem?_set, this]
theorem covC_spec : ∀ {cs : List Int} {cov : List Bool}, (∀ c ∈ cs, 0 ≤ c ∧ c.toNat < cov.length) → cs.Pairwise (· < ·) →
    (cs.any (hit cov) = true ∧ covC cov cs = none) ∨ (cs.any (hit cov) = false ∧ ∃ cov', covC cov cs = some cov' ∧ cov'.length = cov.length ∧ ∀ c, 0 ≤ c → hit cov' c = (hasM cs c || hit cov c))
  | [], cov, _, _ => .inr ⟨rfl, cov, rfl, rfl, fun c _ => by simp [hasM]⟩
  | y :: cs, cov, hin, hp => by
    rw [List.pairwise_cons] at hp
    obtain ⟨y0, y1⟩ := hin y (by simp)
    unfold covC
    by_cases e : hit cov y = true
    · exact .inl ⟨by simp [e], if_pos e⟩
    · have hset := fun c (hc : 0 ≤ c) => hit_set (cov := cov) hc y0 y1
      have e' : (cov.getD y.toNat false) = false := by simpa [hit] using e
      rw [e']
      simp only [Bool.false_eq_true, if_false]
      have hany : cs.any (hit (cov.set y.toNat true)) = cs.any (hit cov) := by
        rw [Bool.eq_iff_iff, List.any_eq_true, List.any_eq_true]
        constructor
        · rintro ⟨c, hc, h⟩
          rw [hset c (hin c (List.mem_cons_of_mem _ hc)).1] at h
          have : c ≠ y := fun q => by have := hp.1 c hc; omega
          exact ⟨c, hc, by simpa [this] using h⟩
        · rintro ⟨c, hc, h⟩
          exact ⟨c, hc, by rw [hset c (hin c (List.mem_cons_of_mem _ hc)).1, h, Bool.or_true]⟩
      rcases covC_spec (cs := cs) (cov := cov.set y.toNat true) (fun c hc => ⟨(hin c (List.mem_cons_of_mem _ hc)).1, by rw [List.length_set]; exact (hin c (List.mem_cons_of_mem _ hc)).2⟩) hp.2 with ⟨h1, h2⟩ | ⟨h1, cov', h2, h3, h4⟩
      · exact .inl ⟨by rw [hany] at h1; simp [h1], h2⟩
      · refine .inr ⟨by rw [hany] at h1; simp [h1, e], cov', h2, by rw [h3, List.length_set], fun c hc => ?_⟩
        rw [h4 c hc, hset c hc]
        simp only [hasM, List.any_cons]
        rw [show (y == c) = (c == y) by rw [Bool.eq_iff_iff, beq_iff_eq, beq_iff_eq]; exact ⟨Eq.symm, Eq.symm⟩]
        cases (c == y) <;> cases (cs.any fun x => x == c) <;> simp
theorem over_iff {a b : List Int} : overM a b = true ↔ ∃ c, c ∈ a ∧ c ∈ b := by
  simp only [overM, hasM, List.any_eq_true, beq_iff_eq]
  exact ⟨fun ⟨c, h1, x, h2, e⟩ => ⟨c, h1, e ▸ h2⟩, fun ⟨c, h1, h2⟩ => ⟨c, h1, c, h2, rfl⟩⟩
theorem over_comm (a b : List Int) : overM a b = overM b a := by
  rw [Bool.eq_iff_iff, over_iff, over_iff]
  exact ⟨fun ⟨c, h1, h2⟩ => ⟨c, h2, h1⟩, fun ⟨c, h1, h2⟩ => ⟨c, h2, h1⟩⟩
def apartP (x y : Int × List Int) : Prop := overM x.2 y.2 = false
theorem clear_iff (s : List (Int × List Int)) : (List.range s.length).all (clearAt s) = true ↔ s.Pairwise apartP := by
  rw [List.pairwise_iff_getElem, List.all_eq_true]
  constructor
  · intro h i j hi hj hij
    have := h j (List.mem_range.mpr hj)
    unfold clearAt clearM at this
    rw [List.all_eq_true] at this
    have h2 := this s[i] (by rw [List.mem_take_iff_getElem]; exact ⟨i, by omega, rfl⟩)
    simpa [apartP, List.getD_eq_getElem?_getD, hj] using h2
  · intro h j hj
    rw [List.mem_range] at hj
    unfold clearAt clearM
    rw [List.all_eq_true]
    intro y hy
    rw [List.mem_take_iff_getElem] at hy
    obtain ⟨i, hi, rfl⟩ := hy
    have := h i j (by omega) hj (by omega)
    simpa [apartP, List.getD_eq_getElem?_getD, hj] using this
theorem covL_spec {n : Nat} : ∀ {s : List (Int × List Int)} {cov : List Bool}, cov.length = n → (∀ x ∈ s, (∀ c ∈ x.2, 0 ≤ c ∧ c < n) ∧ x.2.Pairwise (· < ·)) →
    ((covL cov s).isSome = true ↔ (∀ x ∈ s, x.2.any (hit cov) = false) ∧ s.Pairwise apartP)
  | [], cov, _, _ => by simp [covL]
  | x :: s, cov, hl, h => by
    obtain ⟨h1, h2⟩ := h x (by simp)
    unfold covL
    rcases covC_spec (cs := x.2) (cov := cov) (fun c hc => ⟨(h1 c hc).1, by have := (h1 c hc).2; have := (h1 c hc).1; omega⟩) h2 with ⟨e1, e2⟩ | ⟨e1, cov', e2, e3, e4⟩
    · rw [e2]
      constructor
      · intro q; simp at q
      · rintro ⟨a, _⟩
        have := a x (by simp)
        rw [e1] at this; simp at this
    · rw [e2, Option.bind_some, covL_spec (n := n) (s := s) (cov := cov') (by omega) (fun y hy => h y (List.mem_cons_of_mem _ hy)), List.pairwise_cons]
      have key : ∀ y ∈ s, (y.2.any (hit cov') = false ↔ y.2.any (hit cov) = false ∧ apartP x y) := by
        intro y hy
        unfold apartP
        rw [over_comm, overM, ← Bool.not_eq_true, ← Bool.not_eq_true, ← Bool.not_eq_true, List.any_eq_true, List.any_eq_true, List.any_eq_true]
        constructor
        · intro hh
          refine ⟨fun ⟨c, hc, q⟩ => hh ⟨c, hc, ?_⟩, fun ⟨c, hc, q⟩ => hh ⟨c, hc, ?_⟩⟩
          · rw [e4 c ((h y (List.mem_cons_of_mem _ hy)).1 c hc).1, q, Bool.or_true]
          · rw [e4 c ((h y (List.mem_cons_of_mem _ hy)).1 c hc).1, q, Bool.true_or]
        · rintro ⟨a1, a2⟩ ⟨c, hc, q⟩
          rw [e4 c ((h y (List.mem_cons_of_mem _ hy)).1 c hc).1, Bool.or_eq_true] at q
          rcases q with q | q
          · exact a2 ⟨c, hc, q⟩
          · exact a1 ⟨c, hc, q⟩
      constructor
      · rintro ⟨a, b⟩
        exact ⟨fun y hy => by
          rcases List.mem_cons.mp hy with rfl | hy
          · exact e1
          · exact ((key y hy).mp (a y hy)).1, fun y hy => ((key y hy).mp (a y hy)).2, b⟩
      · rintro ⟨a, b, c⟩
        exact ⟨fun y hy => (key y hy).mpr ⟨a y (List.mem_cons_of_mem _ hy), b y hy⟩, c⟩
def cntM (s : List (Int × List Int)) (i : Nat) : Nat := s.countP fun x => x.1.toNat == i
theorem wrap_in {v : Int} (h1 : -9000000000 ≤ v) (h2 : v ≤ 9000000000) : IntKind.i64.wrap v = v := by
  simp [IntKind.wrap, IntKind.bits, IntKind.signed]; omega
theorem getD_set_int {o : List Int} {k i : Nat} {v : Int} (hk : k < o.length) : (o.set k v).getD i 0 = if k = i then v else o.getD i 0 := by
  simp only [List.getD_eq_getElem?_getD, List.getElem?_set]
  split
  · first | rfl | (rw [if_pos hk]; rfl) | simp [hk]
  · rfl
theorem incF : ∀ {s : List (Int × List Int)} {o : List Int}, (∀ j, -1000000000 ≤ o.getD j 0 ∧ o.getD j 0 + s.length ≤ 3000000000) → (∀ x ∈ s, x.1.toNat < o.length) → ∀ i, (s.foldl incM o).getD i 0 = o.getD i 0 + cntM s i
  | [], o, _, _, i => by simp [cntM]
  | x :: s, o, hb, hx, i => by
    have h0 := hx x (by simp)
    have hbx := hb x.1.toNat
    simp only [List.length_cons] at hb hbx
    rw [List.foldl_cons]
    unfold incM
    rw [wrap_in (by omega) (by omega)]
    have hset := fun j => getD_set_int (o := o) (k := x.1.toNat) (i := j) (v := o.getD x.1.toNat 0 + 1) h0
    have := incF (s := s) (o := o.set x.1.toNat (o.getD x.1.toNat 0 + 1)) (fun j => by
      rw [hset j]; have := hb j; split <;> omega) (fun y hy => by rw [List.length_set]; exact hx y (List.mem_cons_of_mem _ hy)) i
    unfold incM at this
    rw [this, hset i]
    unfold cntM
    rw [List.countP_cons]
    by_cases e : x.1.toNat = i
    · subst e; simp; omega
    · simp [e]
theorem decF : ∀ {s : List (Int × List Int)} {o : List Int}, (∀ j, -3000000000 ≤ o.getD j 0 - s.length ∧ o.getD j 0 ≤ 3000000000) → (∀ x ∈ s, x.1.toNat < o.length) → ∀ i, (s.foldl decM o).getD i 0 = o.getD i 0 - cntM s i
  | [], o, _, _, i => by simp [cntM]
  | x :: s, o, hb, hx, i => by
    have h0 := hx x (by simp)
    have hbx := hb x.1.toNat
    simp only [List.length_cons] at hb hbx
    rw [List.foldl_cons]
    unfold decM
    rw [wrap_in (by omega) (by omega)]
    have hset := fun j => getD_set_int (o := o) (k := x.1.toNat) (i := j) (v := o.getD x.1.toNat 0 - 1) h0
    have := decF (s := s) (o := o.set x.1.toNat (o.getD x.1.toNat 0 - 1)) (fun j => by
      rw [hset j]; have := hb j; split <;> omega) (fun y hy => by rw [List.length_set]; exact hx y (List.mem_cons_of_mem _ hy)) i
    unfold decM at this
    rw [this, hset i]
    unfold cntM
    rw [List.countP_cons]
    by_cases e : x.1.toNat = i
    · subst e; simp; omega
    · simp [e]
theorem copies_at {l : List PieceM} {i : Nat} (h : i < l.length) : (copiesM l).getD i 0 = (l.getD i pc0).k := by
  simp [copiesM, List.getD_eq_getElem?_getD, h]
theorem puzzle_k {r : List (Int × Int)} {l : List PieceM} (h : puzzleS r l = true) : ∀ p ∈ l, 1 ≤ p.k ∧ p.k ≤ 8 := by
  intro p hp
  obtain ⟨i, hi, rfl⟩ := List.mem_iff_getElem.mp hp
  unfold puzzleS at h
  rw [Bool.and_eq_true] at h
  have := List.all_eq_true.mp h.2 i (List.mem_range.mpr hi)
  rw [Bool.and_eq_true, List.getD_eq_getElem?_getD, List.getElem?_eq_getElem hi] at this
  have h2 := this.1
  unfold pieceS at h2
  simp only [Option.getD_some, Bool.and_eq_true, decide_eq_true_eq] at h2
  omega
theorem solved_eq (r : List (Int × Int)) (l : List PieceM) (s : List (Int × List Int)) (hs : s.length < 1000000000) : isSolvedI r l s = solvedS r l s := by
  unfold isSolvedI solvedS solvedI fitsI fitsS
  rw [puzzle_eq, show (fun x : Int × List Int => placeI r l x.1 x.2) = fun x => placeS r l x.1 x.2 from funext fun x => place_eq r l x.1 x.2]
  by_cases c1 : puzzleS r l = true
  · by_cases c2 : ascM (fun x => placeS r l x.1 x.2) s = true
    · have hk := puzzle_k c1
      have hin : ∀ x ∈ s, (0 ≤ x.1 ∧ x.1 < l.length) ∧ (∀ c ∈ x.2, 0 ≤ c ∧ c < (r.length : Int)) := fun x hx => placeS_ok (asc_mem c2 hx)
      have hinc : ∀ x ∈ s, x.2.Pairwise (· < ·) := fun x hx => by
        have := asc_mem c2 hx
        unfold placeS at this
        simp only [Bool.and_eq_true] at this
        exact inc_lt this.1.2
      have e1 : (covL (List.replicate r.length false) s).isSome = (List.range s.length).all (clearAt s) := by
        rw [Bool.eq_iff_iff, clear_iff, covL_spec (n := r.length) (by simp) (fun x hx => ⟨(hin x hx).2, hinc x hx⟩)]
        refine ⟨fun h => h.2, fun h => ⟨fun x _ => ?_, h⟩⟩
        rw [List.any_eq_false]
        intro c _
        simp only [hit, List.getD_eq_getElem?_getD, List.getElem?_replicate]
        split <;> simp
      have hcl : (copiesM l).length = l.length := by simp [copiesM]
      have e2 : (List.range l.length).all (sumI l s) = (List.range (leftM l s).length).all (zeroAt (leftM l s)) := by
        have hll : (leftM l s).length = l.length := by unfold leftM; rw [dec_len, hcl]
        rw [hll, Bool.eq_iff_iff, List.all_eq_true, List.all_eq_true]
        have each : ∀ i, i < l.length → (sumI l s i = true ↔ zeroAt (leftM l s) i = true) := fun i hi => by
          unfold sumI zeroAt countM leftM
          rw [incF (fun j => by
              have : (List.replicate l.length (0 : Int)).getD j 0 = 0 := by
                simp only [List.getD_eq_getElem?_getD, List.getElem?_replicate]; split <;> simp
              rw [this]; omega) (fun x hx => by have := (hin x hx).1; simp; omega) i,
            decF (fun j => by
              have : 0 ≤ (copiesM l).getD j 0 ∧ (copiesM l).getD j 0 ≤ 8 := by
                by_cases hj : j < l.length
                · rw [copies_at hj]
                  have := hk (l.getD j pc0) (by simp [List.getD_eq_getElem?_getD, hj])
                  omega
                · simp [copiesM, List.getD_eq_getElem?_getD, hj]
              omega) (fun x hx => by have := (hin x hx).1; rw [hcl]; omega) i, copies_at hi]
          have : (List.replicate l.length (0 : Int)).getD i 0 = 0 := by simp [List.getD_eq_getElem?_getD, hi]
          rw [this, beq_iff_eq, beq_iff_eq]
          omega
        exact ⟨fun h i hi => (each i (List.mem_range.mp hi)).mp (h i hi), fun h i hi => (each i (List.mem_range.mp hi)).mpr (h i hi)⟩
      rw [c1, c2, e1, e2]
      simp [Bool.and_assoc]
    · simp [Bool.eq_false_iff.mpr c2]
  · simp [Bool.eq_false_iff.mpr c1]
end Go.Proofs
end
section
open Go Go.Big
namespace Go.Proofs
set_option maxHeartbeats 2000000
theorem noG_ok : GvOk Tryz.prog noG := fun _ _ _ _ _ _ _ h => h.elim
def bothG : Gv := fun f args H n r H' n' => sortsG f args H n r H' n' ∨ sortsG1 f args H n r H' n'
theorem bothG_ok : GvOk Tryz.prog bothG := by
  rintro f args H n r H' n' (h | h)
  · exact sortK_ok Tryz.sortCell (by decide) Tryz.isAgg65 Tryz.sizeOf65 noG_ok _ _ _ _ _ _ _ h
  · exact sort1_ok Tryz.sortShape noG_ok _ _ _ _ _ _ _ h
end Go.Proofs
end
