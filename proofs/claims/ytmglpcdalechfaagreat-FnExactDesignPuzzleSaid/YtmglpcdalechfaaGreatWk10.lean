/- Walks: Shapes that grow, in plain words. No condition. | Shapes that grow: the reference. No condition. | Shapes tidied in place. Condition: the given contract holds. | More words. No condition. -/
import Derived.Test.YtmglpcdalechfaaGreatBO
import Derived.Test.YtmglpcdalechfaaGreatWk6
import Derived.Test.YtmglpcdalechfaaGreatWk9
import Derived.Test.YtmglpcdalechfaaGreatWk7
import Derived.Test.YtmglpcdalechfaaGreatWk8
import Derived.Test.YtmglpcdalechfaaGreatWk2
import Derived.Test.YtmglpcdalechfaaGreatBigT2
import Derived.Test.YtmglpcdalechfaaGreatBC
import Derived.Test.YtmglpcdalechfaaGreatWk3
set_option linter.unusedVariables false
set_option linter.unusedSimpArgs false
section
open Go Go.Big
namespace Go.Proofs
set_option maxHeartbeats 2000000
def ltC (a b : Int × Int) : Prop := lessC a.1 a.2 b.1 b.2 = true
theorem ltC_irrefl (a : Int × Int) : ¬ ltC a a := by unfold ltC; rw [lessC_self]; decide
theorem ltC_trich (a b : Int × Int) : ltC a b ∨ a = b ∨ ltC b a := by
  unfold ltC
  cases h1 : lessC a.1 a.2 b.1 b.2 with
  | true => exact .inl rfl
  | false =>
    cases h2 : lessC b.1 b.2 a.1 a.2 with
    | true => exact .inr (.inr rfl)
    | false => exact .inr (.inl (lessC_total h1 h2))
theorem ltC_trans {a b c : Int × Int} (h1 : ltC a b) (h2 : ltC b c) : ltC a c := lessC_trans' h1 h2
theorem sortedC_ext {a b : Shape} (ha : a.Pairwise ltC) (hb : b.Pairwise ltC) (h : ∀ x, x ∈ a ↔ x ∈ b) : a = b := by
  have na : a.Nodup := ha.imp fun h e => by subst e; exact ltC_irrefl _ h
  have nb : b.Nodup := hb.imp fun h e => by subst e; exact ltC_irrefl _ h
  have hp : a.Perm b := (List.perm_ext_iff_of_nodup na nb).mpr h
  exact hp.eq_of_pairwise (fun a b _ _ h1 h2 => absurd (ltC_trans h1 h2) (ltC_irrefl _)) ha hb
theorem insM_iff {c x : Int × Int} {l : Shape} : x ∈ insM c l ↔ x = c ∨ x ∈ l := by rw [(insM_perm c l).mem_iff, List.mem_cons]
theorem insM_strict {c : Int × Int} : ∀ {l : Shape}, c ∉ l → l.Pairwise ltC → (insM c l).Pairwise ltC
  | [], _, _ => by simp [insM]
  | y :: l, hc, h => by
    rw [List.pairwise_cons] at h
    unfold insM
    split
    · rename_i hlt
      rw [List.pairwise_cons]
      refine ⟨fun z hz => ?_, List.pairwise_cons.mpr h⟩
      rcases List.mem_cons.mp hz with rfl | hz
      · exact hlt
      · exact ltC_trans hlt (h.1 z hz)
    · rename_i hnlt
      rw [List.pairwise_cons]
      refine ⟨fun z hz => ?_, insM_strict (fun hx => hc (List.mem_cons_of_mem _ hx)) h.2⟩
      rcases insM_iff.mp hz with rfl | hz
      · rcases ltC_trich z y with e | e | e
        · exact absurd e hnlt
        · subst e; exact absurd List.mem_cons_self hc
        · exact e
      · exact h.1 z hz
theorem idx_neg {l : Shape} {c : Int × Int} : idxM l c < 0 ↔ c ∉ l := by
  constructor
  · intro h hc
    have := (idx_mem hc).1
    omega
  · intro h
    rw [idx_not h]; decide
theorem nbrP_iff {l out : Shape} {a x : Int × Int} : x ∈ nbrP l out a ↔ x ∈ out ∨ (x = a ∧ a ∉ l) := by
  unfold nbrP
  split
  · rename_i h
    have h1 := idx_neg.mp h
    split
    · rw [insM_iff]
      constructor
      · rintro (h | h)
        · exact .inr ⟨h, h1⟩
        · exact .inl h
      · rintro (h | h)
        · exact .inr h
        · exact .inl h.1
    · rename_i h2
      have h3 : a ∈ out := Classical.byContradiction fun q => h2 (idx_neg.mpr q)
      constructor
      · exact .inl
      · rintro (h | h)
        · exact h
        · rw [h.1]; exact h3
  · rename_i h
    have h3 : a ∈ l := Classical.byContradiction fun q => h (idx_neg.mpr q)
    constructor
    · exact .inl
    · rintro (h | h)
      · exact h
      · exact absurd h3 h.2
theorem nbrP_strict {l out : Shape} {a : Int × Int} (h : out.Pairwise ltC) : (nbrP l out a).Pairwise ltC := by
  unfold nbrP
  split
  · split
    · rename_i h2
      exact insM_strict (idx_neg.mp h2) h
    · exact h
  · exact h
theorem nbrF_spec {l : Shape} : ∀ {cs out : Shape}, out.Pairwise ltC → (cs.foldl (nbrP l) out).Pairwise ltC ∧ ∀ x, x ∈ cs.foldl (nbrP l) out ↔ x ∈ out ∨ (x ∈ cs ∧ x ∉ l)
  | [], out, h => ⟨h, fun x => by simp⟩
  | a :: cs, out, h => by
    rw [List.foldl_cons]
    obtain ⟨h1, h2⟩ := nbrF_spec (l := l) (cs := cs) (nbrP_strict (a := a) h)
    refine ⟨h1, fun x => ?_⟩
    rw [h2, nbrP_iff, List.mem_cons]
    constructor
    · rintro ((h | ⟨rfl, h⟩) | ⟨h, h'⟩)
      · exact .inl h
      · exact .inr ⟨.inl rfl, h⟩
      · exact .inr ⟨.inr h, h'⟩
    · rintro (h | ⟨rfl | h, h'⟩)
      · exact .inl (.inl h)
      · exact .inl (.inr ⟨rfl, h'⟩)
      · exact .inr ⟨h, h'⟩
theorem nbrS_spec' {l : Shape} : ∀ {cs out : Shape}, out.Pairwise ltC → (cs.foldl (nbrC l) out).Pairwise ltC ∧ ∀ x, x ∈ cs.foldl (nbrC l) out ↔ x ∈ out ∨ ((∃ c ∈ cs, x ∈ aroundM c) ∧ x ∉ l)
  | [], out, h => ⟨h, fun x => by simp⟩
  | c :: cs, out, h => by
    rw [List.foldl_cons]
    obtain ⟨g1, g2⟩ := nbrF_spec (l := l) (cs := aroundM c) h
    obtain ⟨h1, h2⟩ := nbrS_spec' (l := l) (cs := cs) (out := nbrC l out c) g1
    refine ⟨h1, fun x => ?_⟩
    rw [h2, show x ∈ nbrC l out c ↔ _ from g2 x]
    constructor
    · rintro ((h | ⟨h, h'⟩) | ⟨⟨d, hd, h⟩, h'⟩)
      · exact .inl h
      · exact .inr ⟨⟨c, List.mem_cons_self, h⟩, h'⟩
      · exact .inr ⟨⟨d, List.mem_cons_of_mem _ hd, h⟩, h'⟩
    · rintro (h | ⟨⟨d, hd, h⟩, h'⟩)
      · exact .inl (.inl h)
      · rcases List.mem_cons.mp hd with rfl | hd
        · exact .inl (.inr ⟨h, h'⟩)
        · exact .inr ⟨⟨d, hd, h⟩, h'⟩
theorem nbrS_spec (l : Shape) : (nbrS l).Pairwise ltC ∧ ∀ x, x ∈ nbrS l ↔ (∃ c ∈ l, x ∈ aroundM c) ∧ x ∉ l := by
  obtain ⟨h1, h2⟩ := nbrS_spec' (l := l) (cs := l) (out := []) .nil
  refine ⟨h1, fun x => ?_⟩
  have := h2 x
  simpa [nbrS] using this
/-- The program's neighbours. -/
def stepI (l out : Shape) (d : Int × Int) : Shape := if idxM l d < 0 then out ++ [d] else out
def nbrD (l out : Shape) (c : Int × Int) : Shape := (aroundM c).foldl (stepI l) out
def nb0 (l : Shape) : Shape := l.foldl (nbrD l) []
def nbrI (l : Shape) : Shape := compactC (sortM (nb0 l))
theorem stepI_mem {l : Shape} : ∀ {cs out : Shape} {x : Int × Int}, x ∈ cs.foldl (stepI l) out ↔ x ∈ out ∨ (x ∈ cs ∧ x ∉ l)
  | [], out, x => by simp
  | a :: cs, out, x => by
    rw [List.foldl_cons, stepI_mem, List.mem_cons]
    unfold stepI
    split
    · rename_i h
      have h1 := idx_neg.mp h
      rw [List.mem_append, List.mem_singleton]
      constructor
      · rintro ((h | rfl) | ⟨h, h'⟩)
        · exact .inl h
        · exact .inr ⟨.inl rfl, h1⟩
        · exact .inr ⟨.inr h, h'⟩
      · rintro (h | ⟨rfl | h, h'⟩)
        · exact .inl (.inl h)
        · exact .inl (.inr rfl)
        · exact .inr ⟨h, h'⟩
    · rename_i h
      have h3 : a ∈ l := Classical.byContradiction fun q => h (idx_neg.mpr q)
      constructor
      · rintro (h | ⟨h, h'⟩)
        · exact .inl h
        · exact .inr ⟨.inr h, h'⟩
      · rintro (h | ⟨rfl | h, h'⟩)
        · exact .inl h
        · exact absurd h3 h'
        · exact .inr ⟨h, h'⟩
theorem nb0_mem' {l : Shape} : ∀ {cs out : Shape} {x : Int × Int}, x ∈ cs.foldl (nbrD l) out ↔ x ∈ out ∨ ((∃ c ∈ cs, x ∈ aroundM c) ∧ x ∉ l)
  | [], out, x => by simp
  | c :: cs, out, x => by
    rw [List.foldl_cons, nb0_mem', show x ∈ nbrD l out c ↔ _ from stepI_mem]
    constructor
    · rintro ((h | ⟨h, h'⟩) | ⟨⟨d, hd, h⟩, h'⟩)
      · exact .inl h
      · exact .inr ⟨⟨c, List.mem_cons_self, h⟩, h'⟩
      · exact .inr ⟨⟨d, List.mem_cons_of_mem _ hd, h⟩, h'⟩
    · rintro (h | ⟨⟨d, hd, h⟩, h'⟩)
      · exact .inl (.inl h)
      · rcases List.mem_cons.mp hd with rfl | hd
        · exact .inl (.inr ⟨h, h'⟩)
        · exact .inr ⟨⟨d, hd, h⟩, h'⟩
theorem stepI_len (l : Shape) : ∀ (cs out : Shape), (cs.foldl (stepI l) out).length ≤ out.length + cs.length
  | [], out => by simp
  | a :: cs, out => by
    rw [List.foldl_cons, List.length_cons]
    have h1 := stepI_len l cs (stepI l out a)
    have h2 : (stepI l out a).length ≤ out.length + 1 := by unfold stepI; split <;> simp
    omega
theorem nbrD_len (l out : Shape) (c : Int × Int) : (nbrD l out c).length ≤ out.length + 4 := stepI_len l (aroundM c) out
theorem nbrDs_len (l : Shape) : ∀ (cs out : Shape), (cs.foldl (nbrD l) out).length ≤ out.length + 4 * cs.length
  | [], out => by simp
  | c :: cs, out => by
    rw [List.foldl_cons, List.length_cons]
    have h1 := nbrDs_len l cs (nbrD l out c)
    have h2 := nbrD_len l out c
    omega
theorem cptC_iff {x z : Int × Int} : ∀ {l : Shape}, (z = x ∨ z ∈ cptC x l) ↔ (z = x ∨ z ∈ l)
  | [] => by simp [cptC]
  | y :: l => by
    unfold cptC
    split
    · rename_i h
      subst h
      rw [cptC_iff (l := l)]
      simp
    · rw [List.mem_cons, cptC_iff (l := l), List.mem_cons]
theorem cptC_sorted {x : Int × Int} : ∀ {l : Shape}, (x :: l).Pairwise (fun a b => lessC b.1 b.2 a.1 a.2 = false) → (x :: cptC x l).Pairwise ltC
  | [], _ => by simp [cptC]
  | y :: l, h => by
    rw [List.pairwise_cons] at h
    unfold cptC
    split
    · rename_i e
      subst e
      exact cptC_sorted h.2
    · rename_i ne
      have h1 := cptC_sorted h.2
      have hxy : ltC x y := by
        rcases ltC_trich x y with e | e | e
        · exact e
        · exact absurd e.symm ne
        · have := h.1 y (by simp)
          unfold ltC at e
          rw [this] at e; exact absurd e (by decide)
      rw [List.pairwise_cons]
      refine ⟨fun z hz => ?_, h1⟩
      rcases List.mem_cons.mp hz with rfl | hz
      · exact hxy
      · exact ltC_trans hxy ((List.pairwise_cons.mp h1).1 z hz)
theorem compactC_iff {z : Int × Int} {l : Shape} : z ∈ compactC l ↔ z ∈ l := by
  cases l with
  | nil => simp [compactC]
  | cons x l => rw [compactC, List.mem_cons, List.mem_cons, cptC_iff]
theorem compactC_sorted {l : Shape} (h : l.Pairwise (fun a b => lessC b.1 b.2 a.1 a.2 = false)) : (compactC l).Pairwise ltC := by
  cases l with
  | nil => simp [compactC]
  | cons x l => exact cptC_sorted h
theorem nbr_eq (l : Shape) : nbrI l = nbrS l := by
  refine sortedC_ext (compactC_sorted (sortM_sorted _)) (nbrS_spec l).1 fun x => ?_
  unfold nbrI nb0
  rw [compactC_iff, (sortM_perm _).mem_iff, nb0_mem', (nbrS_spec l).2]
  simp
/-- A shape of k cells as it is listed. -/
structure Poly (k : Nat) (s : Shape) : Prop where
  len : s.length = k
  sorted : s.Pairwise ltC
  box : ∀ p ∈ s, 0 ≤ p.1 ∧ p.1 ≤ 2 * (k : Int) ∧ 0 ≤ p.2 ∧ p.2 ≤ 2 * (k : Int)
  nm : normM s = s
theorem sortM_of {s : Shape} (h : s.Pairwise ltC) : sortM s = s := by
  have h2 : s.Pairwise (fun a b => lessC b.1 b.2 a.1 a.2 = false) := h.imp fun {a b} h => by
    cases q : lessC b.1 b.2 a.1 a.2 with
    | false => rfl
    | true => exact absurd (ltC_trans h q) (ltC_irrefl _)
  exact List.Perm.eq_of_pairwise (fun a b _ _ h1 h2 => lessC_total h2 h1) (sortM_sorted s) h2 (sortM_perm s)
theorem sortM_app (s : Shape) (d : Int × Int) : sortM (s ++ [d]) = insM d (sortM s) := by
  unfold sortM; rw [List.foldl_append]; rfl
theorem around_box {c d : Int × Int} {B : Int} (hB : 0 ≤ B) (hB2 : B ≤ 100) (hc : 0 ≤ c.1 ∧ c.1 ≤ B ∧ 0 ≤ c.2 ∧ c.2 ≤ B) (h : d ∈ aroundM c) : -1 ≤ d.1 ∧ d.1 ≤ B + 1 ∧ -1 ≤ d.2 ∧ d.2 ≤ B + 1 := by
  have w1 : IntKind.i64.wrap (c.1 - 1) = c.1 - 1 := wr64s (by omega) (by omega)
  have w2 : IntKind.i64.wrap (c.1 + 1) = c.1 + 1 := wr64s (by omega) (by omega)
  have w3 : IntKind.i64.wrap (c.2 - 1) = c.2 - 1 := wr64s (by omega) (by omega)
  have w4 : IntKind.i64.wrap (c.2 + 1) = c.2 + 1 := wr64s (by omega) (by omega)
  simp only [aroundM, w1, w2, w3, w4, List.mem_cons, List.not_mem_nil, or_false] at h
  rcases h with rfl | rfl | rfl | rfl <;> simp only <;> omega
theorem ltC_shift {a b : Int × Int} (x y : Int) (h : ltC a b) : ltC (a.1 - x, a.2 - y) (b.1 - x, b.2 - y) := by
  unfold ltC lessC at *
  simp only [Bool.or_eq_true, Bool.and_eq_true, decide_eq_true_eq, beq_iff_eq] at *
  omega
theorem normM_map {l : Shape} (hl : 0 < l.length) (h : ∀ p ∈ l, -100 ≤ p.1 ∧ p.1 ≤ 100 ∧ -100 ≤ p.2 ∧ p.2 ≤ 100) : ∃ a b, (∀ p ∈ l, a ≤ p.1 ∧ b ≤ p.2) ∧ (∃ p ∈ l, p.1 = a) ∧ (∃ p ∈ l, p.2 = b) ∧ normM l = l.map fun p => (p.1 - a, p.2 - b) := by
  obtain ⟨h1, h2, h3⟩ := minF_spec hl
  refine ⟨(minF l l.length).1, (minF l l.length).2, h1, h2, h3, ?_⟩
  obtain ⟨p, hp, e1⟩ := h2
  obtain ⟨q, hq, e2⟩ := h3
  have b1 := h p hp
  have b2 := h q hq
  unfold normM
  have w1 : IntKind.i64.wrap (0 - (minF l l.length).1) = - (minF l l.length).1 := by rw [wr64s (by omega) (by omega)]; omega
  have w2 : IntKind.i64.wrap (0 - (minF l l.length).2) = - (minF l l.length).2 := by rw [wr64s (by omega) (by omega)]; omega
  rw [w1, w2, movedM_small (fun p hp => by have := h p hp; omega) (by omega) (by omega)]
  exact List.map_congr_left fun p _ => by rw [Int.sub_eq_add_neg, Int.sub_eq_add_neg]
theorem poly_next {k : Nat} {s : Shape} {d : Int × Int} (hk : k ≤ 20) (h : Poly k s) (hd : d ∈ nbrS s) : Poly (k + 1) (normM (insM d s)) := by
  obtain ⟨⟨c, hc, ha⟩, hn⟩ := ((nbrS_spec s).2 d).mp hd
  have hdb := around_box (B := 2 * (k : Int)) (by omega) (by omega) (h.box c hc) ha
  have hbox : ∀ p ∈ insM d s, -1 ≤ p.1 ∧ p.1 ≤ 2 * (k : Int) + 1 ∧ -1 ≤ p.2 ∧ p.2 ≤ 2 * (k : Int) + 1 := fun p hp => by
    rcases insM_iff.mp hp with rfl | hp
    · exact hdb
    · have := h.box p hp; omega
  have hlen : (insM d s).length = k + 1 := by rw [insM_len, h.len]
  obtain ⟨a, b, h1, ⟨p, hp, e1⟩, ⟨q, hq, e2⟩, e⟩ := normM_map (l := insM d s) (by omega) (fun p hp => by have := hbox p hp; omega)
  have hpb := hbox p hp
  have hqb := hbox q hq
  have hb2 : ∀ z ∈ normM (insM d s), 0 ≤ z.1 ∧ z.1 ≤ 2 * ((k + 1 : Nat) : Int) ∧ 0 ≤ z.2 ∧ z.2 ≤ 2 * ((k + 1 : Nat) : Int) := fun z hz => by
    rw [e] at hz
    obtain ⟨y, hy, rfl⟩ := List.mem_map.mp hz
    have h2 := h1 y hy
    have h3 := hbox y hy
    push_cast
    omega
  refine ⟨by rw [normM_len]; exact hlen, ?_, hb2, ?_⟩
  · rw [e, List.pairwise_map]
    exact (insM_strict hn h.sorted).imp fun h => ltC_shift a b h
  · have hne : 0 < (normM (insM d s)).length := by rw [normM_len]; omega
    obtain ⟨a2, b2, g1, ⟨p2, hp2, f1⟩, ⟨q2, hq2, f2⟩, e3⟩ := normM_map hne (fun p hp => by have := hb2 p hp; push_cast at this; omega)
    have ha2 : a2 = 0 := by
      have h4 := hb2 p2 hp2
      have h5 := (g1 (p.1 - a, p.2 - b) (by rw [e]; exact List.mem_map.mpr ⟨p, hp, rfl⟩)).1
      simp only at h5
      omega
    have hb3 : b2 = 0 := by
      have h4 := hb2 q2 hq2
      have h5 := (g1 (q.1 - a, q.2 - b) (by rw [e]; exact List.mem_map.mpr ⟨q, hq, rfl⟩)).2
      simp only at h5
      omega
    rw [e3, ha2, hb3]
    conv => rhs; rw [← List.map_id (normM (insM d s))]
    exact List.map_congr_left fun p _ => by simp
theorem poly_one : Poly 1 [(0, 0)] := ⟨rfl, by simp, by simp, by decide⟩
/-- There is always room. -/
theorem nbr_some {k : Nat} {s : Shape} (hk : k ≤ 20) (h0 : 0 < s.length) (h : Poly k s) : 0 < (nbrS s).length := by
  obtain ⟨c, hc, hn⟩ : ∃ c ∈ s, (c.1, c.2 + 1) ∉ s := Classical.byContradiction fun q => by
    have hall : ∀ c ∈ s, (c.1, c.2 + 1) ∈ s := fun c hc => Classical.byContradiction fun q2 => q ⟨c, hc, q2⟩
    obtain ⟨c, hc⟩ := List.exists_mem_of_length_pos h0
    have hj : ∀ j : Nat, (c.1, c.2 + (j : Int)) ∈ s := by
      intro j
      induction j with
      | zero => simpa using hc
      | succ j ih =>
        have := hall _ ih
        simp only at this
        rw [show c.2 + ((j + 1 : Nat) : Int) = c.2 + (j : Int) + 1 by push_cast; omega]
        exact this
    have h1 := h.box _ (hj (2 * k + 1))
    have h2 := h.box _ hc
    simp only at h1
    push_cast at h1
    omega
  have hb := h.box c hc
  have w4 : IntKind.i64.wrap (c.2 + 1) = c.2 + 1 := wr64s (by omega) (by omega)
  have : (c.1, c.2 + 1) ∈ nbrS s := ((nbrS_spec s).2 _).mpr ⟨⟨c, hc, by simp [aroundM, w4]⟩, hn⟩
  exact List.length_pos_of_mem this
def growS (acc : List Shape) (s : Shape) : List Shape := (nbrS s).foldl (fun a d => addS (normM (insM d s)) a) acc
def grownI (s : Shape) : List Shape := tidyM ((nbrI s).map fun d => normM (sortM (s ++ [d])))
def fixS : Nat → List Shape
  | 0 => [[(0, 0)]]
  | n + 1 => (fixS n).foldl growS []
theorem growF_spec {s : Shape} : ∀ {ds : Shape} {acc : List Shape}, acc.Pairwise (fun a b => cmpM a b < 0) → (ds.foldl (fun a d => addS (normM (insM d s)) a) acc).Pairwise (fun a b => cmpM a b < 0) ∧ ∀ x, x ∈ ds.foldl (fun a d => addS (normM (insM d s)) a) acc ↔ x ∈ acc ∨ ∃ d ∈ ds, x = normM (insM d s)
  | [], acc, h => ⟨h, fun x => by simp⟩
  | d :: ds, acc, h => by
    rw [List.foldl_cons]
    obtain ⟨h1, h2⟩ := growF_spec (s := s) (ds := ds) (addS_sorted (c := normM (insM d s)) h)
    refine ⟨h1, fun x => ?_⟩
    rw [h2, addS_iff]
    constructor
    · rintro ((rfl | h) | ⟨e, he, h⟩)
      · exact .inr ⟨d, List.mem_cons_self, rfl⟩
      · exact .inl h
      · exact .inr ⟨e, List.mem_cons_of_mem _ he, h⟩
    · rintro (h | ⟨e, he, h⟩)
      · exact .inl (.inr h)
      · rcases List.mem_cons.mp he with rfl | he
        · exact .inl (.inl h)
        · exact .inr ⟨e, he, h⟩
theorem growF_len {s : Shape} : ∀ (ds : Shape) (acc : List Shape), (ds.foldl (fun a d => addS (normM (insM d s)) a) acc).length ≤ acc.length + ds.length
  | [], acc => by simp
  | d :: ds, acc => by
    rw [List.foldl_cons, List.length_cons]
    have h1 := growF_len (s := s) ds (addS (normM (insM d s)) acc)
    have h2 := addS_len (normM (insM d s)) acc
    omega
theorem growS_len (acc : List Shape) (s : Shape) : (growS acc s).length ≤ acc.length + 4 * s.length := by
  have h1 : (growS acc s).length ≤ acc.length + (nbrS s).length := growF_len (s := s) (nbrS s) acc
  have h2 := nbrS_len s
  omega
theorem growAll_spec : ∀ {ls acc : List Shape}, acc.Pairwise (fun a b => cmpM a b < 0) → (ls.foldl growS acc).Pairwise (fun a b => cmpM a b < 0) ∧ ∀ x, x ∈ ls.foldl growS acc ↔ x ∈ acc ∨ ∃ s ∈ ls, ∃ d ∈ nbrS s, x = normM (insM d s)
  | [], acc, h => ⟨h, fun x => by simp⟩
  | s :: ls, acc, h => by
    rw [List.foldl_cons]
    obtain ⟨g1, g2⟩ := growF_spec (s := s) (ds := nbrS s) h
    obtain ⟨h1, h2⟩ := growAll_spec (ls := ls) (acc := growS acc s) g1
    refine ⟨h1, fun x => ?_⟩
    rw [h2, show x ∈ growS acc s ↔ _ from g2 x]
    constructor
    · rintro ((h | ⟨d, hd, h⟩) | ⟨e, he, h⟩)
      · exact .inl h
      · exact .inr ⟨s, List.mem_cons_self, d, hd, h⟩
      · exact .inr ⟨e, List.mem_cons_of_mem _ he, h⟩
    · rintro (h | ⟨e, he, d, hd, h⟩)
      · exact .inl (.inl h)
      · rcases List.mem_cons.mp he with rfl | he
        · exact .inl (.inr ⟨d, hd, h⟩)
        · exact .inr ⟨e, he, d, hd, h⟩
theorem growAll_len (k : Nat) : ∀ (ls acc : List Shape), (∀ s ∈ ls, s.length = k) → (ls.foldl growS acc).length ≤ acc.length + 4 * k * ls.length
  | [], acc, _ => by simp
  | s :: ls, acc, h => by
    rw [List.foldl_cons, List.length_cons]
    have h1 := growAll_len k ls (growS acc s) (fun x hx => h x (List.mem_cons_of_mem _ hx))
    have h2 := growS_len acc s
    have h3 := h s List.mem_cons_self
    rw [h3] at h2
    have : 4 * k * (ls.length + 1) = 4 * k * ls.length + 4 * k := by rw [Nat.mul_add, Nat.mul_one]
    omega
structure FixOk (k : Nat) (ls : List Shape) : Prop where
  poly : ∀ s ∈ ls, Poly k s
  sorted : ls.Pairwise (fun a b => cmpM a b < 0)
  pos : 0 < ls.length
theorem fix_next {k : Nat} {ls : List Shape} (hk1 : 0 < k) (hk : k ≤ 20) (h : FixOk k ls) : FixOk (k + 1) (ls.foldl growS []) := by
  obtain ⟨h1, h2⟩ := growAll_spec (ls := ls) (acc := []) .nil
  refine ⟨fun x hx => ?_, h1, ?_⟩
  · rcases (h2 x).mp hx with h3 | ⟨s, hs, d, hd, rfl⟩
    · simp at h3
    · exact poly_next hk (h.poly s hs) hd
  · obtain ⟨s, hs⟩ := List.exists_mem_of_length_pos h.pos
    have hn := nbr_some hk (by rw [(h.poly s hs).len]; exact hk1) (h.poly s hs)
    obtain ⟨d, hd⟩ := List.exists_mem_of_length_pos hn
    exact List.length_pos_of_mem ((h2 _).mpr (.inr ⟨s, hs, d, hd, rfl⟩))
theorem fixS_ok : ∀ n, n ≤ 19 → FixOk (n + 1) (fixS n)
  | 0, _ => ⟨fun s hs => by simp [fixS] at hs; subst hs; exact poly_one, by simp [fixS], by simp [fixS]⟩
  | n + 1, h => fix_next (by omega) (by omega) (fixS_ok n (by omega))
theorem fixS_len : ∀ n, n ≤ 4 → (fixS n).length ≤ 6144 ∧ (n ≤ 3 → (fixS n).length ≤ 384) ∧ (n ≤ 2 → (fixS n).length ≤ 32) ∧ (n ≤ 1 → (fixS n).length ≤ 4) ∧ (n = 0 → (fixS n).length = 1)
  | 0, _ => by simp [fixS]
  | n + 1, h => by
    have ih := fixS_len n (by omega)
    have hl := growAll_len (n + 1) (fixS n) [] (fun s hs => ((fixS_ok n (by omega)).poly s hs).len)
    have e : (fixS (n + 1)).length ≤ 4 * (n + 1) * (fixS n).length := by simpa [fixS] using hl
    have : n = 0 ∨ n = 1 ∨ n = 2 ∨ n = 3 := by omega
    rcases this with rfl | rfl | rfl | rfl <;> omega
theorem grown_eq {k : Nat} {s : Shape} (h : Poly k s) : grownI s = tidyM ((nbrS s).map fun d => normM (insM d s)) := by
  unfold grownI
  rw [nbr_eq]
  congr 1
  exact List.map_congr_left fun d _ => by rw [sortM_app, sortM_of h.sorted]
theorem tidyM_iff {ls : List Shape} {x : Shape} : x ∈ tidyM ls ↔ x ∈ ls := by unfold tidyM; rw [compactS_iff, (orderS_perm _).mem_iff]
theorem tidyM_sorted (ls : List Shape) : (tidyM ls).Pairwise (fun a b => cmpM a b < 0) := compactS_sorted (orderS_sorted _)
theorem next_eq {k : Nat} {ls : List Shape} (h : ∀ s ∈ ls, Poly k s) : tidyM (ls.flatMap grownI) = ls.foldl growS [] := by
  obtain ⟨h1, h2⟩ := growAll_spec (ls := ls) (acc := []) .nil
  refine sorted_ext (tidyM_sorted _) h1 fun x => ?_
  rw [tidyM_iff, List.mem_flatMap, h2]
  constructor
  · rintro ⟨s, hs, hx⟩
    rw [grown_eq (h s hs), tidyM_iff] at hx
    obtain ⟨d, hd, rfl⟩ := List.mem_map.mp hx
    exact .inr ⟨s, hs, d, hd, rfl⟩
  · rintro (h3 | ⟨s, hs, d, hd, rfl⟩)
    · simp at h3
    · refine ⟨s, hs, ?_⟩
      rw [grown_eq (h s hs), tidyM_iff]
      exact List.mem_map.mpr ⟨d, hd, rfl⟩
/-- Shapes that are their own least form. -/
def ownB (s : Shape) : Bool := (List.range 7).all fun t => decide (cmpM s (formM s (t + 1)) ≤ 0)
def ownS (n : Nat) : List Shape := (fixS n).filter ownB
def minS : List Shape → Shape
  | [] => []
  | a :: L => L.foldl (fun b x => if cmpM x b < 0 then x else b) a
theorem minS_take {L : List Shape} {i : Nat} {x : Shape} (h0 : 0 < i) (h : L[i]? = some x) : minS (L.take (i + 1)) = if cmpM x (minS (L.take i)) < 0 then x else minS (L.take i) := by
  cases L with
  | nil => simp at h
  | cons a L =>
    obtain ⟨j, rfl⟩ : ∃ j, i = j + 1 := ⟨i - 1, by omega⟩
    rw [List.getElem?_cons_succ] at h
    obtain ⟨hj, rfl⟩ := List.getElem?_eq_some_iff.mp h
    simp only [List.take_succ_cons, minS]
    rw [List.take_succ_eq_append_getElem hj, List.foldl_append]; rfl
theorem minF_fold : ∀ (L : List Shape) (a : Shape), (L.foldl (fun b x => if cmpM x b < 0 then x else b) a) ∈ a :: L ∧ ∀ y ∈ a :: L, ¬ cmpM y (L.foldl (fun b x => if cmpM x b < 0 then x else b) a) < 0
  | [], a => ⟨by simp, fun y hy => by simp at hy; subst hy; exact cmpM_irrefl _⟩
  | x :: L, a => by
    rw [List.foldl_cons]
    by_cases c : cmpM x a < 0
    · rw [if_pos c]
      obtain ⟨h1, h2⟩ := minF_fold L x
      refine ⟨List.mem_cons_of_mem _ h1, fun y hy => ?_⟩
      rcases List.mem_cons.mp hy with rfl | hy
      · intro q
        exact h2 x List.mem_cons_self (cmpM_trans c q)
      · exact h2 y hy
    · rw [if_neg c]
      obtain ⟨h1, h2⟩ := minF_fold L a
      refine ⟨?_, fun y hy => ?_⟩
      · rcases List.mem_cons.mp h1 with h | h
        · rw [h]; exact List.mem_cons_self
        · exact List.mem_cons_of_mem _ (List.mem_cons_of_mem _ h)
      · rcases List.mem_cons.mp hy with rfl | hy
        · exact h2 y List.mem_cons_self
        · rcases List.mem_cons.mp hy with rfl | hy
          · exact cmpM_ntrans c (h2 a List.mem_cons_self)
          · exact h2 y (List.mem_cons_of_mem _ hy)
theorem cmpM_le {a b : Shape} : cmpM a b ≤ 0 ↔ ¬ cmpM b a < 0 := by
  constructor
  · intro h q
    by_cases e : cmpM a b = 0
    · rw [cmpM_zero] at e; subst e; exact cmpM_irrefl _ q
    · exact cmpM_irrefl _ (cmpM_trans (show cmpM a b < 0 by omega) q)
  · intro h
    rcases cmpM_trich a b with q | q | q
    · omega
    · rw [q, cmpM_zero.mpr rfl]; decide
    · exact absurd q h
theorem form0 {k : Nat} {s : Shape} (h : Poly k s) : formM s 0 = s := by
  have e : turnL s 0 = s := by
    unfold turnL
    conv => rhs; rw [← List.map_id s]
    exact List.map_congr_left fun p _ => rfl
  unfold formM
  rw [e, sortM_of h.sorted, h.nm]
theorem least_eq {k : Nat} {s : Shape} (h : Poly k s) : decide (minS (formsL s 8) = s) = ownB s := by
  have hL : formsL s 8 = formM s 0 :: (List.range 7).map fun t => formM s (t + 1) := rfl
  obtain ⟨m1, m2⟩ := minF_fold ((List.range 7).map fun t => formM s (t + 1)) (formM s 0)
  have hm : minS (formsL s 8) = ((List.range 7).map fun t => formM s (t + 1)).foldl (fun b x => if cmpM x b < 0 then x else b) (formM s 0) := by rw [hL]; rfl
  rw [← hm, form0 h] at m1 m2
  rw [Bool.eq_iff_iff, decide_eq_true_eq]
  unfold ownB
  rw [List.all_eq_true]
  constructor
  · intro e t ht
    rw [decide_eq_true_eq, cmpM_le]
    have := m2 (formM s (t + 1)) (List.mem_cons_of_mem _ (List.mem_map.mpr ⟨t, ht, rfl⟩))
    rw [e] at this; exact this
  · intro hall
    refine cmpM_total ?_ (m2 s List.mem_cons_self)
    rcases List.mem_cons.mp m1 with e | e
    · rw [e]; exact cmpM_irrefl _
    · obtain ⟨t, ht, e2⟩ := List.mem_map.mp e
      have := hall t ht
      rw [decide_eq_true_eq, cmpM_le] at this
      rw [← e2]; exact this
end Go.Proofs
end
section
open Go Go.Big
namespace Go.Proofs
set_option maxHeartbeats 2000000
theorem shapesR_row {ls : List Shape} {i : Nat} {x : Shape} (h : ls[i]? = some x) : (shapesR ls)[i]? = some [.sl (cells x)] := by simp [shapesR, h]
theorem growT_len {s : Shape} (ds : Shape) (acc : List Shape) (i : Nat) : ((ds.take i).foldl (fun a d => addS (normM (insM d s)) a) acc).length ≤ acc.length + i := by
  have h1 := growF_len (s := s) (ds.take i) acc
  have h2 : (ds.take i).length ≤ i := by rw [List.length_take]; omega
  omega
theorem growT_mem {s : Shape} {B : Nat} : ∀ {ds : Shape} {acc : List Shape}, (∀ x ∈ acc, x.length < B) → s.length + 1 < B → ∀ x ∈ ds.foldl (fun a d => addS (normM (insM d s)) a) acc, x.length < B
  | [], acc, h, _ => h
  | d :: ds, acc, h, hs => by
    rw [List.foldl_cons]
    refine growT_mem (ds := ds) (fun x hx => ?_) hs
    rcases addS_mem hx with rfl | hx
    · rw [normM_len, insM_len]; exact hs
    · exact h x hx
theorem l05Grow_wc (G : Gv) (acc : List Shape) (s : Shape) (H : Heap) (n o e : Nat) (ho : o < n) (hH : H o = some (.arr e 32 1 (shapesR acc) 1)) (h1 : 0 < s.length) (hs : s.length < 100) (hacc : acc.length < 100000) (hl : ∀ x ∈ acc, x.length < 1000) :
    WC Tryz.prog G 184 [.own o e, .sl 1 (cells s)] H n (fun r H' n' => ∃ o' e', r = .own o' e' ∧ o' < n' ∧ H' o' = some (.arr e' 32 1 (shapesR (growS acc s)) 1)) := by
  refine (.body Tryz.func184 rfl (by simp [Tryz.ntmps184]) ?_)
  rw [Tryz.ntmps184, Tryz.results184]
  have hnb := l02Neighbours_fn G s (by omega)
  have hnl := nbrS_len s
  have htl := growT_len (s := s) (nbrS s) acc
  have htm : ∀ i, ∀ x ∈ ((nbrS s).take i).foldl (fun a d => addS (normM (insM d s)) a) acc, x.length < 1000 := fun i => growT_mem hl (by omega)
  have hgr : growS acc s = (nbrS s).foldl (fun a d => addS (normM (insM d s)) a) acc := rfl
  rw [hgr]
  generalize nbrS s = ds at hnb hnl htl htm ⊢
  have hdl := cells_len ds
  replace hnb := Hid.mk hnb
  replace htl := Hid.mk htl
  replace htm := Hid.mk htm
  clear hl hgr
  refine AL ?_
  refine CV hnb.out ?_
  refine AL ?_
  refine .loop (.inv (fun d E H n' => ∃ i o e : Nat, i + d = ds.length ∧ o < n' ∧ E 0 = .own o e ∧ E 1 = .sl 1 (cells s) ∧ E 5 = .sl 1 (cells ds) ∧ E 6 = .i .i64 i ∧ H o = some (.arr e 32 1 (shapesR ((ds.take i).foldl (fun a d => addS (normM (insM d s)) a) acc)) 1)) ds.length ?_ ?_)
  · exact ⟨0, o, e, by omega, by omega, by simp [setF_if, argE], by simp [setF_if, argE], by simp [setF_if, argE], by simp [setF_if, argE], hH⟩
  clear hH ho
  rintro d E H n' ⟨i, o, e, hi, hon, h0, h1', h5, h6, hHo⟩
  by_cases c : (i : Int) < ds.length
  · have hw_i : IntKind.i64.wrap ((i : Int) + 1) = (i : Int) + 1 := wr64 (by omega) (by omega)
    obtain ⟨x, hx⟩ : ∃ x, ds[i]? = some x := ⟨_, List.getElem?_eq_getElem (by omega)⟩
    have hxr := cells_row hx
    have hft := fold_take (fun a d => addS (normM (insM d s)) a) acc hx
    have hl2 := htl.out i
    have hm2 := htm.out i
    have hin := l02Insert_fn G s x.1 x.2 (by omega)
    have hno := l02Normal_fn G (insM (x.1, x.2) s) (by rw [insM_len]; omega) (by rw [insM_len]; omega)
    have hnl2 : (normM (insM (x.1, x.2) s)).length < 1000000000 := by rw [normM_len, insM_len]; omega
    generalize ((ds.take i).foldl (fun a d => addS (normM (insM d s)) a) acc) = a0 at hHo hft hl2 hm2
    rw [show addS (normM (insM x s)) a0 = addS (normM (insM (x.1, x.2) s)) a0 from rfl] at hft
    generalize insM (x.1, x.2) s = s1 at hin hno hnl2 hft
    generalize normM s1 = s2 at hno hnl2 hft
    replace hx := Hid.mk hx
    replace hin := Hid.mk hin
    replace hno := Hid.mk hno
    replace hm2 := Hid.mk hm2
    replace hft := Hid.mk hft
    refine AL ?_
    refine CV hin.out ?_
    refine AL ?_
    refine CV hno.out ?_
    refine AL ?_
    refine CI ?_
    refine (l03Add_fn G s2 a0 H _ o e (by omega) hHo hnl2 (by omega) (fun l hl => by have := hm2.out l hl; omega)).mono ?_
    rintro r H2 n2 ⟨o2, e2, rfl, ho2, hH2⟩
    rw [← hft.out] at hH2
    refine AL ?_
    exact ⟨ds.length - (i + 1), by omega, i + 1, o2, e2, by omega, by omega, by simp [setF_if, *], by simp [setF_if, *], by simp [setF_if, *], by simp [setF_if, *], hH2⟩
  · have ei : i = ds.length := by omega
    rw [ei, List.take_length] at hHo
    refine AL ?_
    exact ⟨o, e, by simp [retA, setF_if, h0], by omega, hHo⟩
theorem growAllT_len {k : Nat} (ls : List Shape) (h : ∀ s ∈ ls, s.length = k) (i : Nat) : ((ls.take i).foldl growS []).length ≤ 4 * k * ls.length := by
  have h1 := growAll_len k (ls.take i) [] (fun s hs => h s (List.mem_of_mem_take hs))
  have h2 : (ls.take i).length ≤ ls.length := by rw [List.length_take]; omega
  have h3 : 4 * k * (ls.take i).length ≤ 4 * k * ls.length := Nat.mul_le_mul_left _ h2
  simp only [List.length_nil] at h1
  omega
theorem growAllT_mem {B : Nat} : ∀ {ls acc : List Shape}, (∀ x ∈ acc, x.length < B) → (∀ s ∈ ls, s.length + 1 < B) → ∀ x ∈ ls.foldl growS acc, x.length < B
  | [], acc, h, _ => h
  | s :: ls, acc, h, hs => by
    rw [List.foldl_cons]
    exact growAllT_mem (ls := ls) (fun x hx => growT_mem h (hs s List.mem_cons_self) x hx) (fun y hy => hs y (List.mem_cons_of_mem _ hy))
theorem fix_bound {m : Nat} (hm : m ≤ 3) : 4 * (m + 1) * (fixS m).length ≤ 6144 := by
  have h := fixS_len m (by omega)
  have : m = 0 ∨ m = 1 ∨ m = 2 ∨ m = 3 := by omega
  rcases this with rfl | rfl | rfl | rfl <;> omega
theorem l05Fixed_fn (G : Gv) (n : Nat) (h1 : 1 ≤ n) (h5 : n ≤ 5) : Gives Tryz.prog G 114 [.i .i64 n] (.sl 1 (shapesR (fixS (n - 1)))) := by
  refine .of (.body Tryz.func114 rfl (by simp [Tryz.ntmps114]) ?_)
  rw [Tryz.ntmps114, Tryz.results114]
  repeat first | refine W.seq ?_ | refine W.region ?_
  refine OP ?_
  refine WR.nil ?_
  refine TH ?_
  repeat first | refine W.seq ?_ | refine W.region ?_
  refine OP ?_
  refine OP ?_
  refine WR.frz 2 0 1 (ty := 142) (sz := 2) (rows := cells [(0, 0)]) (t := 1) (by simp [upd_if, cells]) (.inr ⟨rfl, .inl rfl⟩) (by decide) ?_
  intro E2 H2 hE2 hH2
  have e8 := hE2 8
  have e0 := hE2 0
  simp [setF_if, argE, frzV] at e8 e0
  clear hE2 hH2
  refine AL ?_
  refine .loop (.inv (fun d E H n' => ∃ m o e : Nat, m + 1 + d = n ∧ o < n' ∧ E 0 = .i .i64 n ∧ E 3 = .own o e ∧ E 4 = .i .i64 ((m : Int) + 1) ∧ H o = some (.arr e 32 1 (shapesR (fixS m)) 1)) (n - 1) ?_ ?_)
  · exact ⟨0, 3, 0, by omega, by omega, by simp [setF_if, *], by simp [setF_if, *], by simp [setF_if, *], by simp [upd_if, fixS, shapesR]⟩
  clear e8 e0
  rintro d E H n' ⟨m, o, e, hm, hon, h0, h3, h4, hHo⟩
  have hok := fixS_ok m (by omega)
  by_cases c : (m : Int) + 1 < n
  · have hw : IntKind.i64.wrap ((m : Int) + 1 + 1) = (m : Int) + 1 + 1 := wr64 (by omega) (by omega)
    have hfb := fix_bound (m := m) (by omega)
    have hnext : fixS (m + 1) = (fixS m).foldl growS [] := rfl
    have hpl : ∀ s ∈ fixS m, s.length = m + 1 := fun s hs => (hok.poly s hs).len
    have htl := growAllT_len (fixS m) hpl
    have htm : ∀ i, ∀ x ∈ ((fixS m).take i).foldl growS [], x.length < 1000 := fun i => growAllT_mem (fun x hx => by simp at hx) (fun s hs => by rw [hpl s (List.mem_of_mem_take hs)]; omega)
    generalize fixS m = ls at hHo hok hfb hnext hpl htl htm
    have hlr := shapesR_len ls
    have hl9 : ls.length ≤ 6144 := by
      have : 1 * ls.length ≤ 4 * (m + 1) * ls.length := Nat.mul_le_mul_right _ (by omega)
      omega
    replace hnext := Hid.mk hnext
    replace hpl := Hid.mk hpl
    replace htl := Hid.mk htl
    replace htm := Hid.mk htm
    replace hok := Hid.mk hok
    repeat first | refine W.seq ?_ | refine W.region ?_
    refine WR.frz o e 1 hHo (.inr ⟨rfl, .inl rfl⟩) (by decide) ?_
    intro E2 H2 hE2 hH2
    have f3 := hE2 3
    have f0 := hE2 0
    have f4 := hE2 4
    rw [h3] at f3
    rw [h0] at f0
    rw [h4] at f4
    simp [frzV] at f3 f0 f4
    clear hE2 hH2 h3 h0 h4 hHo hon
    refine AL ?_
    refine .loop (.inv (fun d2 E H n' => ∃ i o e : Nat, i + d2 = ls.length ∧ o < n' ∧ E 0 = .i .i64 n ∧ E 3 = .sl 1 (shapesR ls) ∧ E 4 = .i .i64 ((m : Int) + 1) ∧ E 5 = .own o e ∧ E 6 = .i .i64 i ∧ H o = some (.arr e 32 1 (shapesR ((ls.take i).foldl growS [])) 1)) ls.length ?_ ?_)
    · exact ⟨0, n' + 3, 0, by omega, by omega, by simp [setF_if, *], by simp [setF_if, *], by simp [setF_if, *], by simp [setF_if, *], by simp [setF_if, *], by simp [upd_if, shapesR]⟩
    clear f3 f0 f4
    rintro d2 E H n' ⟨i, o, e, hi, hon, h0, h3, h4, h5', h6, hHo⟩
    by_cases ci : (i : Int) < ls.length
    · have hw_i : IntKind.i64.wrap ((i : Int) + 1) = (i : Int) + 1 := wr64 (by omega) (by omega)
      obtain ⟨x, hx⟩ : ∃ x, ls[i]? = some x := ⟨_, List.getElem?_eq_getElem (by omega)⟩
      have hxr := shapesR_row hx
      have hxl := hpl.out x (List.mem_of_getElem? hx)
      have hft := fold_take growS [] hx
      have hl2 := htl.out i
      have hm2 := htm.out i
      generalize ((ls.take i).foldl growS []) = a0 at hHo hft hl2 hm2
      have hgw := fun n2 (hn2 : o < n2) => l05Grow_wc G a0 x H n2 o e hn2 hHo (by omega) (by omega) (by omega) hm2
      replace hx := Hid.mk hx
      replace hgw := Hid.mk hgw
      replace hm2 := Hid.mk hm2
      replace hxl := Hid.mk hxl
      clear hl2 hfb
      refine AL ?_
      refine CI ?_
      refine (hgw.out _ (by omega)).mono ?_
      rintro r H2 n2 ⟨o2, e2, rfl, ho2, hH2⟩
      rw [← hft] at hH2
      clear hft
      refine AL ?_
      exact ⟨ls.length - (i + 1), by omega, i + 1, o2, e2, by omega, by omega, by simp [setF_if, *], by simp [setF_if, *], by simp [setF_if, *], by simp [setF_if, *], by simp [setF_if, *], hH2⟩
    · have ei : i = ls.length := by omega
      rw [ei, List.take_length, ← hnext.out] at hHo
      refine AL ?_
      exact ⟨n - (m + 1 + 1), by omega, m + 1, o, e, by omega, by omega, by simp [setF_if, *], by simp [setF_if, *], by simp [setF_if, *], hHo⟩
  · have em : n - 1 = m := by omega
    rw [em]
    refine AL ?_
    simp [retA, backA, newSl, newB, hHo]
theorem ownB_take (s : Shape) (t : Nat) : ((List.range (t + 1)).all fun t => decide (cmpM s (formM s (t + 1)) ≤ 0)) = (((List.range t).all fun t => decide (cmpM s (formM s (t + 1)) ≤ 0)) && decide (cmpM s (formM s (t + 1)) ≤ 0)) := by
  rw [List.range_succ, List.all_append]; simp
theorem filter_take1 {α : Type} {q : α → Bool} {l : List α} {j : Nat} {x : α} (h : l[j]? = some x) : (l.take (j + 1)).filter q = (l.take j).filter q ++ (if q x then [x] else []) := by
  obtain ⟨hj, rfl⟩ := List.getElem?_eq_some_iff.mp h
  rw [List.take_succ_eq_append_getElem hj, List.filter_append]
  congr 1
  by_cases c : q l[j] = true <;> simp [c]
theorem l05Own_wc (G : Gv) (ls : List Shape) (H0 : Heap) (n0 : Nat) (hls : ls.length < 100000) (hl : ∀ s ∈ ls, 0 < s.length ∧ s.length < 1000) : 
    WC Tryz.prog G 113 [.sl 1 (shapesR ls), .i .i64 8] H0 n0 (fun r H' n' => n0 ≤ n' ∧ (∀ k, k < n0 → H' k = H0 k) ∧ ∃ o e, r = .own o e ∧ n0 ≤ o ∧ o < n' ∧ H' o = some (.arr e 32 1 (shapesR (ls.filter ownB)) 1)) := by
  refine (.body Tryz.func113 rfl (by simp [Tryz.ntmps113]) ?_)
  rw [Tryz.ntmps113, Tryz.results113]
  have hlr := shapesR_len ls
  replace hl := Hid.mk hl
  obtain ⟨m, hm⟩ : ∃ m, m = n0 + 1 := ⟨_, rfl⟩
  refine AL ?_
  refine .loop (.inv (fun d E H n' => ∃ i e : Nat, i + d = ls.length ∧ m < n' ∧ (∀ k, k < n0 → H k = H0 k) ∧ E 0 = .sl 1 (shapesR ls) ∧ E 1 = .i .i64 8 ∧ E 5 = .own m e ∧ E 6 = .i .i64 i ∧ H m = some (.arr e 32 1 (shapesR ((ls.take i).filter ownB)) 1)) ls.length ?_ ?_)
  · subst hm
    exact ⟨0, 0, by omega, by omega, fun k hk => by rw [upd_if, if_neg (by omega)], by simp [setF_if, argE], by simp [setF_if, argE], by simp [setF_if, argE], by simp [setF_if, argE], by simp [upd_if, shapesR]⟩
  have hmn : n0 < m := by omega
  replace hm := Hid.mk hm
  rintro d E H n' ⟨i, e, hi, hnn, hfr, h0, h1, h5, h6, hH⟩
  replace hfr := Hid.mk hfr
  by_cases c : (i : Int) < ls.length
  · have hw_i : IntKind.i64.wrap ((i : Int) + 1) = (i : Int) + 1 := wr64 (by omega) (by omega)
    obtain ⟨s, hs⟩ : ∃ s, ls[i]? = some s := ⟨_, List.getElem?_eq_getElem (by omega)⟩
    have hsr := shapesR_row hs
    obtain ⟨s1, s2⟩ := hl.out s (List.mem_of_getElem? hs)
    have hft := filter_take1 (q := ownB) hs
    have hrl : (shapesR ((ls.take i).filter ownB)).length ≤ i := by
      rw [shapesR_len]
      have h1 := List.length_filter_le ownB (ls.take i)
      rw [List.length_take] at h1; omega
    have hap : shapesR ((ls.take i).filter ownB) ++ [[.sl (cells s)]] = shapesR ((ls.take i).filter ownB ++ [s]) := by simp [shapesR]
    replace hs := Hid.mk hs
    replace hft := Hid.mk hft
    generalize (ls.take i).filter ownB = F at hH hft hrl hap
    refine AL ?_
    refine .loop (.inv (fun d2 E H n' => ∃ t : Nat, t + d2 = 7 ∧ m < n' ∧ (∀ k, k < n0 → H k = H0 k) ∧ E 0 = .sl 1 (shapesR ls) ∧ E 1 = .i .i64 8 ∧ E 5 = .own m e ∧ E 6 = .i .i64 i ∧ E 7 = .b ((List.range t).all fun t => decide (cmpM s (formM s (t + 1)) ≤ 0)) ∧ E 8 = .i .i64 ((t : Int) + 1) ∧ H m = some (.arr e 32 1 (shapesR F) 1)) 7 ?_ ?_)
    · exact ⟨0, by omega, by omega, hfr.out, by simp [setF_if, *], by simp [setF_if, *], by simp [setF_if, *], by simp [setF_if, *], by simp [setF_if, *], by simp [setF_if, *], hH⟩
    clear h0 h1 h5 h6 hH hnn hfr
    rintro d2 E H n' ⟨t, ht, hnn, hfr, h0, h1, h5, h6, h7, h8, hH⟩
    replace hfr := Hid.mk hfr
    by_cases ct : (t : Int) + 1 < 8
    · have hw : IntKind.i64.wrap ((t : Int) + 1 + 1) = (t : Int) + 1 + 1 := wr64 (by omega) (by omega)
      have hot := ownB_take s t
      have hfo := l03Form_fn G s (t + 1) s1 (by omega)
      rw [show (((t + 1 : Nat)) : Int) = (t : Int) + 1 by omega] at hfo
      have hcm := specCompareShapes_fn G s (formM s (t + 1)) (by omega) (by rw [formM_len]; omega)
      generalize ((List.range t).all fun t => decide (cmpM s (formM s (t + 1)) ≤ 0)) = b0 at h7 hot
      generalize formM s (t + 1) = f at hfo hcm hot
      generalize cmpM s f = v at hcm hot
      replace hot := Hid.mk hot
      replace hfo := Hid.mk hfo
      replace hcm := Hid.mk hcm
      cases b0 with
      | true =>
        have hot2 := hot.out
        rw [Bool.true_and] at hot2
        replace hot2 := Hid.mk hot2
        refine AL ?_
        refine CQ hfo.out ?_
        refine CQ hcm.out ?_
        refine AL ?_
        exact ⟨7 - (t + 1), by omega, t + 1, by omega, by omega, hfr.out, by simp [setF_if, *], by simp [setF_if, *], by simp [setF_if, *], by simp [setF_if, *], by simp [setF_if, hot2.out], by simp [setF_if, *], hH⟩
      | false =>
        have hot2 := hot.out
        rw [Bool.false_and] at hot2
        replace hot2 := Hid.mk hot2
        refine AL ?_
        exact ⟨7 - (t + 1), by omega, t + 1, by omega, by omega, hfr.out, by simp [setF_if, *], by simp [setF_if, *], by simp [setF_if, *], by simp [setF_if, *], by simp [setF_if, hot2.out], by simp [setF_if, *], hH⟩
    · have et : t = 7 := by omega
      rw [et, show ((List.range 7).all fun t => decide (cmpM s (formM s (t + 1)) ≤ 0)) = ownB s from rfl] at h7
      have hb : ((shapesR F).length + 1) * 24 ≤ 140737488355328 := by omega
      cases cb : ownB s with
      | true =>
        have hft2 := hft.out
        rw [cb, if_pos rfl] at hft2
        rw [← hft2] at hap
        rw [cb] at h7
        clear hft hft2 hrl
        have hq2 : ∀ j, (m = n' + j) = False := fun j => by simp; omega
        refine AL ?_
        exact ⟨ls.length - (i + 1), by omega, i + 1, e + 1, by omega, by omega, fun k hk => by simp only [upd_if]; rw [if_neg (by omega), if_neg (by omega)]; exact hfr.out k hk, by simp [setF_if, *], by simp [setF_if, *], by simp [setF_if, *], by simp [setF_if, *], by simp [upd_if, joinT, *]⟩
      | false =>
        have hft2 := hft.out
        rw [cb, if_neg (by decide), List.append_nil] at hft2
        rw [cb] at h7
        replace hft2 := Hid.mk hft2
        clear hft hrl hap
        refine AL ?_
        exact ⟨ls.length - (i + 1), by omega, i + 1, e, by omega, by omega, hfr.out, by simp [setF_if, *], by simp [setF_if, *], by simp [setF_if, *], by simp [setF_if, *], by rw [hft2.out]; exact hH⟩
  · have ei : i = ls.length := by omega
    rw [ei, List.take_length] at hH
    refine AL ?_
    exact ⟨by omega, hfr.out, m, e, by simp [retA, setF_if, h5], by omega, by omega, hH⟩
end Go.Proofs
end
section
open Go Go.Big
namespace Go.Proofs
set_option maxHeartbeats 2000000
theorem compactFunc_ownD (G : Gv) (ls : List Shape) (H : Heap) (n o e : Nat) (ho : o < n) (hH : H o = some (.arr e 32 1 (shapesR ls) 1)) (hls : ls.length < 1000000) (hl : ∀ l ∈ ls, l.length < 1000000000) :
    WC Tryz.prog G 261 [.own o e, .fn 262 []] H n (fun r H' n' => ∃ e', r = .own o e' ∧ o < n' ∧ H' o = some (.arr e' 32 1 (shapesR (compactS ls)) 1)) := by
  refine (.body Tryz.func261 rfl (by simp [Tryz.ntmps261]) ?_)
  rw [Tryz.ntmps261, Tryz.results261]
  have hlen := shapesR_len ls
  replace hl := Hid.mk hl
  by_cases c2 : (ls.length : Int) < 2
  · refine AL ?_
    have : compactS ls = ls := by
      match ls, c2 with
      | [], _ => rfl
      | [x], _ => rfl
      | _ :: _ :: _, h => simp at h; omega
    exact ⟨e, by simp [retA, setF_if, argE], by omega, by rw [this]; exact hH⟩
  · refine AL ?_
    refine .loop (.inv (fun d E H n' => ∃ k : Nat, k + d = ls.length ∧ 1 ≤ k ∧ o < n' ∧ E 0 = .own o e ∧ E 1 = .fn 262 [] ∧ E 5 = .i .i64 k ∧ H o = some (.arr e 32 1 (shapesR ls) 1) ∧ (∀ j, 1 ≤ j → j < k → ls.getD j [] ≠ ls.getD (j - 1) [])) (ls.length - 1) ?_ ?_)
    · exact ⟨1, by omega, by omega, by omega, by simp [setF_if, argE], by simp [setF_if, argE], by simp [setF_if, argE], hH, fun j h1 h2 => by omega⟩
    clear hH ho c2
    rintro d E H n' ⟨k, hk, hk1, hon, h0, h1, h5, hH, hall⟩
    replace hall := Hid.mk hall
    by_cases c : (k : Int) < ls.length
    · have hw_k : IntKind.i64.wrap ((k : Int) + 1) = (k : Int) + 1 := wr64 (by omega) (by omega)
      have cN : k < ls.length := by omega
      have hr := shapesR_at (ls := ls) (i := k) cN
      have hr2 : (shapesR ls)[((k : Int) - 1).toNat]? = some [.sl (cells (ls.getD (k - 1) []))] := by rw [show ((k : Int) - 1).toNat = k - 1 by omega]; exact shapesR_at (by omega)
      have hw1 : IntKind.i64.wrap ((k : Int) - 1) = (k : Int) - 1 := wr64 (by omega) (by omega)
      have h01 : 0 ≤ (k : Int) - 1 := by omega
      have hlt2 : ((k : Int) - 1).toNat < ls.length := by omega
      have hmem : ∀ i, i < ls.length → (ls.getD i []).length < 1000000000 := fun i hi => hl.out _ (by rw [List.getD_eq_getElem?_getD, List.getElem?_eq_getElem hi]; exact List.getElem_mem _)
      have hx := hmem k cN
      have hy := hmem (k - 1) (by omega)
      have hpre := compact_prefix (ls := ls) (k := k) hk1 (by omega) hall.out
      rw [dropS_at cN, cptA] at hpre
      have hnx : ls.getD k [] ≠ ls.getD (k - 1) [] → ∀ j, 1 ≤ j → j < k + 1 → ls.getD j [] ≠ ls.getD (j - 1) [] := fun h j h1 h2 => by
        by_cases q : j = k
        · rw [q]; exact h
        · exact hall.out j h1 (by omega)
      replace hnx := Hid.mk hnx
      replace hpre := Hid.mk hpre
      replace hmem := Hid.mk hmem
      generalize hxe : ls.getD k [] = x at hr hx hpre hnx
      generalize ls.getD (k - 1) [] = y at hr2 hy hpre hnx
      replace hxe := Hid.mk hxe
      refine AL ?_
      refine CQ (equalShapes_fn G x y hx hy) ?_
      by_cases ceq : x = y
      · have hd : decide (x = y) = true := by simp [ceq]
        have hpre2 := hpre.out
        rw [if_pos ceq] at hpre2
        replace hpre2 := Hid.mk hpre2
        replace ceq := Hid.mk ceq
        clear hpre hnx hr hr2
        have hkn : (k ≤ ls.length) = True := by simp; omega
        refine AL ?_
        refine .loop (.inv (fun d2 E H n' => ∃ (j kk : Nat) (R : List Shape), k + j + d2 = ls.length ∧ 1 ≤ j ∧ 1 ≤ kk ∧ kk ≤ k + j - 1 ∧ R.length = ls.length ∧ R.drop (k + j - 1) = ls.drop (k + j - 1) ∧ R.take kk ++ cptA (ls.getD (k + j - 1) []) (ls.drop (k + j)) = compactS ls ∧ o < n' ∧ E 0 = .own o e ∧ E 1 = .fn 262 [] ∧ E 5 = .i .i64 kk ∧ E 6 = .vw o e k (ls.length - k) ∧ E 7 = .i .i64 j ∧ H o = some (.arr e 32 1 (shapesR R) 1)) (ls.length - k - 1) ?_ ?_)
        · exact ⟨1, k, ls, by omega, by omega, by omega, by omega, rfl, rfl, by rw [show k + 1 - 1 = k by omega, hxe.out]; exact hpre2.out.symm, by omega, by simp [setF_if, *], by simp [setF_if, *], by simp [setF_if, *], by simp [setF_if, *], by simp [setF_if, *], by simp [*]⟩
        clear hH h0 h1 h5 hon hpre2 hxe hw_k hw1 h01 hlt2 hx hy hall
        rintro d2 E H n' ⟨j, kk, R, hj, hj1, hkk1, hkk, hRl, hRd, hRt, hon, h0, h1, h5, h6, h7, hH⟩
        have hRlen := shapesR_len R
        have htl : ((shapesR R).drop k |>.take (ls.length - k)).length = ls.length - k := by rw [List.length_take, List.length_drop, hRlen, hRl]; omega
        by_cases cj : (j : Int) < ((ls.length - k : Nat) : Int)
        · have hw_j : IntKind.i64.wrap ((j : Int) + 1) = (j : Int) + 1 := wr64 (by omega) (by omega)
          have hRx : R.getD (k + j) [] = ls.getD (k + j) [] := by
            have := congrArg (fun z : List Shape => z[1]?) hRd
            simp only [List.getElem?_drop] at this
            rw [show k + j - 1 + 1 = k + j by omega] at this
            simp only [List.getD_eq_getElem?_getD, this]
          have hRy : R.getD (k + j - 1) [] = ls.getD (k + j - 1) [] := by
            have := congrArg (fun z : List Shape => z[0]?) hRd
            simp only [List.getElem?_drop, Nat.add_zero] at this
            simp only [List.getD_eq_getElem?_getD, this]
          have hr := shapesR_at (ls := R) (i := k + j) (by omega)
          have hr2 : (shapesR R)[k + ((j : Int) - 1).toNat]? = some [.sl (cells (R.getD (k + j - 1) []))] := by rw [show k + ((j : Int) - 1).toNat = k + j - 1 by omega]; exact shapesR_at (by omega)
          have hr3 := shapesR_at (ls := R) (i := kk) (by omega)
          rw [hRx] at hr
          rw [hRy] at hr2
          have hw1 : IntKind.i64.wrap ((j : Int) - 1) = (j : Int) - 1 := wr64 (by omega) (by omega)
          have hwk : IntKind.i64.wrap ((kk : Int) + 1) = (kk : Int) + 1 := wr64 (by omega) (by omega)
          have h01 : 0 ≤ (j : Int) - 1 := by omega
          have hlt2 : ((j : Int) - 1).toNat < ls.length - k := by omega
          have hlt3 : j < ls.length - k := by omega
          have hlt4 : kk < ls.length := by omega
          have hx := hmem.out (k + j) (by omega)
          have hy := hmem.out (k + j - 1) (by omega)
          rw [dropS_at (l := ls) (i := k + j) (by omega), cptA] at hRt
          have hRd2 : R.drop (k + j) = ls.drop (k + j) := by
            have := congrArg (fun z : List Shape => z.drop 1) hRd
            simp only [List.drop_drop] at this
            rw [show k + j - 1 + 1 = k + j by omega] at this
            exact this
          have hset : ∀ z, (shapesR R).set kk [PV.sl (cells z)] = shapesR (R.set kk z) := fun z => (shapesR_set R kk z).symm
          replace hRt := Hid.mk hRt
          replace hRd := Hid.mk hRd2
          clear hRx hRy hRd2
          generalize hxe : ls.getD (k + j) [] = x at hr hx hRt
          generalize ls.getD (k + j - 1) [] = y at hr2 hy hRt
          replace hxe := Hid.mk hxe
          refine AL ?_
          refine CQ (equalShapes_fn G x y hx hy) ?_
          by_cases ceq : x = y
          · have hd : decide (x = y) = true := by simp [ceq]
            have hRt2 := hRt.out
            rw [if_pos ceq] at hRt2
            replace ceq := Hid.mk ceq
            replace hRt2 := Hid.mk hRt2
            have bt : (!true) = false := rfl
            refine AL ?_
            refine ⟨d2 - 1, by omega, j + 1, kk, R, by omega, by omega, by omega, by omega, hRl, by rw [show k + (j + 1) - 1 = k + j by omega]; exact hRd.out, by rw [show k + (j + 1) - 1 = k + j by omega, hxe.out]; exact hRt2.out, by omega, by simp [setF_if, *], by simp [setF_if, *], by simp [setF_if, *], by simp [setF_if, *], by simp [setF_if, *], by simp [*]⟩
          · have hd : decide (x = y) = false := by simp [ceq]
            have hRt2 := hRt.out
            rw [if_neg ceq] at hRt2
            replace ceq := Hid.mk ceq
            replace hRt2 := Hid.mk hRt2
            have bt : (!false) = true := rfl
            refine AL ?_
            refine ⟨d2 - 1, by omega, j + 1, kk + 1, R.set kk x, by omega, by omega, by omega, by omega, by rw [List.length_set]; exact hRl, ?_, ?_, by omega, by simp [setF_if, *], by simp [setF_if, *], by simp [setF_if, *], by simp [setF_if, *], by simp [setF_if, *], by simp [upd_if, *]⟩
            · rw [show k + (j + 1) - 1 = k + j by omega, List.drop_set_of_lt (by omega)]; exact hRd.out
            · rw [show k + (j + 1) - 1 = k + j by omega, hxe.out, List.take_succ_eq_append_getElem (by rw [List.length_set]; omega), List.take_set_of_le (Nat.le_refl _), List.getElem_set_self]
              have := hRt2.out
              simpa [Nat.add_assoc] using this
        · have ej : k + j = ls.length := by omega
          have hRt2 : R.take kk = compactS ls := by
            rw [ej, List.drop_length, cptA, List.append_nil] at hRt
            exact hRt
          replace hRt2 := Hid.mk hRt2
          clear hRt hRd hmem
          have hkl : (kk ≤ ls.length) = True := by simp; omega
          have hsum : (kk + (ls.length - kk) = ls.length) = True := by simp; omega
          have hzi : (0 : Int) ≤ kk := by omega
          have hs0 : kk - 0 = kk := rfl
          have hrt : (shapesR R).take kk = shapesR (compactS ls) := by rw [← hRt2.out, shapesR_take]
          have hrl2 : (shapesR (compactS ls)).length = kk := by rw [← hrt, List.length_take, hRlen, hRl]; omega
          generalize shapesR (compactS ls) = F at hrt hrl2 ⊢
          refine AX ?_
          have hL3 : (F ++ List.replicate (ls.length - kk) [PV.sl []]).length = ls.length := by rw [List.length_append, hrl2, List.length_replicate]; omega
          refine OP ?_
          refine OP ?_
          refine WR.trim 4 (o := o) (e := e) (lo := 0) (m := kk) (ty := 32) (sz := 1) (rows := F ++ List.replicate (ls.length - kk) [PV.sl []]) (t := 1) (by simp [setF_if]) (by simp [upd_if, joinT]) (by omega) ?_
          refine AL ?_
          refine ⟨e + 1, by simp [retA, setF_if], by omega, ?_⟩
          rw [upd_if, if_pos rfl]
          simp [hrl2, List.take_append_of_le_length, List.take_of_length_le]
      · have hd : decide (x = y) = false := by simp [ceq]
        replace hnx := Hid.mk (hnx.out ceq)
        clear ceq
        refine AL ?_
        refine ⟨ls.length - (k + 1), by omega, k + 1, by omega, ?_⟩
        exact ⟨by omega, by omega, by simp [setF_if, *], by simp [setF_if, *], by simp [setF_if, *], by simp [*], hnx.out⟩
    · have e' : k = ls.length := by omega
      have hpre := compact_prefix (ls := ls) (k := k) hk1 (by omega) hall.out
      subst e'
      rw [List.drop_length, cptA, List.append_nil, List.take_length] at hpre
      refine AL ?_
      exact ⟨e, by simp [retA, setF_if, h0], by omega, by rw [hpre]; exact hH⟩
theorem tidyShapes_ownD (G : Gv) (hG : ∀ f args H n r H' n', sortsG1 f args H n r H' n' → G f args H n r H' n') (ls : List Shape) (H : Heap) (n o e : Nat) (ho : o < n) (hH : H o = some (.arr e 32 1 (shapesR ls) 1)) (h1 : 0 < ls.length) (hls : ls.length < 1000000) (hl : ∀ l ∈ ls, l.length < 1000000000) :
    WC Tryz.prog G 205 [.own o e] H n (fun r H' n' => ∃ e', r = .own o e' ∧ o < n' ∧ H' o = some (.arr e' 32 1 (shapesR (tidyM ls)) 1)) := by
  refine (.body Tryz.func205 rfl (by simp [Tryz.ntmps205]) ?_)
  rw [Tryz.ntmps205, Tryz.results205]
  replace hG := Hid.mk hG
  replace hl := Hid.mk hl
  refine AL ?_
  refine CI ?_
  refine WC_given (hG.out _ _ _ _ (.tup []) (H.upd o (.arr e 32 1 (shapesR (orderS ls)) 1)) _ ⟨rfl, rfl, rfl, 235, o, e, 32, shapesR ls, 1, shapesR (orderS ls), goodS, cfS, rfl, hH, rfl, fun h0 => ?_, ?_, by decide, ?_, cmpShapes_ok, enters_cmpShapes, fun rows2 => shapes_unique⟩) ?_
  · have := shapesR_len ls; rw [h0] at this; simp at this; omega
  · rw [shapesR_len]; omega
  · intro r hr
    obtain ⟨p, hp, rfl⟩ := List.mem_map.mp hr
    exact ⟨p, rfl, hl.out p hp⟩
  refine AL ?_
  refine CI ?_
  have hp := orderS_perm ls
  refine (compactFunc_ownD G (orderS ls) _ _ o e (by omega) (Heap.upd_same _ _ _) (by rw [hp.length_eq]; exact hls) (fun l hl' => hl.out l (hp.mem_iff.mp hl'))).mono ?_
  clear hp
  rintro r H2 n2 ⟨e', rfl, hon2, hH2⟩
  refine AL ?_
  exact ⟨e', by simp [retA, setF_if], by omega, hH2⟩
end Go.Proofs
end
section
open Go Go.Big
namespace Go.Proofs
set_option maxHeartbeats 2000000
theorem FCP {ob : List Nat} {wr : List (Nat × Nat)} {rd : List (Nat × List Nat)} {N : Nat} {ds : List (Option Tmp)} {l : List Oper} {E : Env} {H : Heap} {n m : Nat} {K : Env → Heap → Nat → Prop} {o : Oper} {c : Call} {f : FuncId} {args args' : List AV} {y : AV} {d : Nat} {G : Gv}
    (hF : Gives Tryz.prog G f args' y)
    (h : WF Tryz.prog G ob wr rd N ds l (setF E d y) H m K)
    (hop : o.op = .call c := by rfl) (hdst : o.dst = some d := by rfl) (hw : wantR ds E o.guard = some true := by exact vB)
    (hc : calleeA E c = some (f, args) := by exact vD)
    (hg : ∀ Hx : Heap, Agrees ob (fpL wr rd o) Hx H → givesA Hx args = some args' := by (intro Hx hx; exact vE))
    (hwr : wrL wr o = none := by rfl)
    (hf : (Tryz.prog.funcs[f]?).any (fun fn => fn.body.isSome && (fn.name != "runtime.NumGoroutine")) = true := by kernel_rfl)
    (hn : n + 1 = m := by exact vG)
    (hd : d < N := by decide) : WF Tryz.prog G ob wr rd N ds (o :: l) E H n K :=
  FC hF hg h hop hdst hw hc hwr hf hn hd
end Go.Proofs
end
