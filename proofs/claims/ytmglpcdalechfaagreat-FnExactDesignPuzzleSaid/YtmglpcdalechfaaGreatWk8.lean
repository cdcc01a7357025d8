/- Walks: Plain law: the two programs list the same placements of a piece. No condition. | Placements that own their cells, sorted by the library. No condition. | The set of cells, by a search of each: the one program. No condition. | The permutation of a turn: both programs. No condition. -/
import Derived.Test.YtmglpcdalechfaaGreatBO
import Derived.Test.YtmglpcdalechfaaGreatWk5
import Derived.Test.YtmglpcdalechfaaGreatWk7
import Derived.Test.YtmglpcdalechfaaGreatWk3
import Derived.Test.YtmglpcdalechfaaGreatBigSortN
import Derived.Test.YtmglpcdalechfaaGreatBC
import Derived.Test.YtmglpcdalechfaaGreatWk1
import Derived.Test.YtmglpcdalechfaaGreatWk2
set_option linter.unusedVariables false
set_option linter.unusedSimpArgs false
section
open Go Go.Big
namespace Go.Proofs
set_option maxHeartbeats 2000000
/- Orders of lists of numbers and of placements. -/
theorem cmpN_self : ∀ a : List Int, cmpN a a = 0
  | [] => rfl
  | x :: a => by simp [cmpN, cmpN_self a]
theorem cmpN_zero : ∀ {a b : List Int}, cmpN a b = 0 → a = b
  | [], [], _ => rfl
  | [], y :: b, h => by simp [cmpN] at h
  | x :: a, [], h => by simp [cmpN] at h
  | x :: a, y :: b, h => by
    simp only [cmpN] at h
    split at h
    · simp at h
    · split at h
      · simp at h
      · rw [cmpN_zero h, show x = y by omega]
theorem cmpN_trich : ∀ (a b : List Int), cmpN a b < 0 ∨ a = b ∨ cmpN b a < 0
  | [], [] => .inr (.inl rfl)
  | [], y :: b => .inl (by simp [cmpN])
  | x :: a, [] => .inr (.inr (by simp [cmpN]))
  | x :: a, y :: b => by
    simp only [cmpN]
    by_cases h1 : x < y
    · left; simp [h1]
    · by_cases h2 : x > y
      · right; right; simp [show y < x from h2]
      · obtain rfl : x = y := by omega
        rcases cmpN_trich a b with h | rfl | h
        · left; simpa using h
        · right; left; rfl
        · right; right; simpa using h
theorem cmpN_trans : ∀ {a b c : List Int}, cmpN a b < 0 → cmpN b c < 0 → cmpN a c < 0
  | [], [], _, h, _ => by simp [cmpN] at h
  | [], _ :: _, [], _, h => by simp [cmpN] at h
  | [], _ :: _, _ :: _, _, _ => by simp [cmpN]
  | _ :: _, [], _, h, _ => by simp [cmpN] at h
  | _ :: _, _ :: _, [], _, h => by simp [cmpN] at h
  | x :: a, y :: b, z :: c, h1, h2 => by
    simp only [cmpN] at h1 h2 ⊢
    by_cases p : x < y
    · by_cases q : y < z
      · simp [show x < z by omega]
      · by_cases q2 : y > z
        · simp [q, q2] at h2
        · obtain rfl : y = z := by omega
          simp [p]
    · by_cases p2 : x > y
      · simp [p, p2] at h1
      · obtain rfl : x = y := by omega
        by_cases q : x < z
        · simp [q]
        · by_cases q2 : x > z
          · simp [q, q2] at h2
          · obtain rfl : x = z := by omega
            simp only [Int.lt_irrefl, gt_iff_lt, if_false] at h1 h2 ⊢
            exact cmpN_trans h1 h2
theorem cmpP_trich (a b : Int × List Int) : cmpP a b < 0 ∨ a = b ∨ cmpP b a < 0 := by
  obtain ⟨i, a⟩ := a; obtain ⟨j, b⟩ := b
  simp only [cmpP]
  by_cases h1 : i < j
  · left; simp [h1]
  · by_cases h2 : i > j
    · right; right; simp [show j < i from h2]
    · obtain rfl : i = j := by omega
      rcases cmpN_trich a b with h | rfl | h
      · left; simpa using h
      · right; left; rfl
      · right; right; simpa using h
theorem cmpP_irrefl (a : Int × List Int) : ¬ cmpP a a < 0 := by simp [cmpP, cmpN_self]
theorem cmpP_trans {a b c : Int × List Int} (h1 : cmpP a b < 0) (h2 : cmpP b c < 0) : cmpP a c < 0 := by
  obtain ⟨i, a⟩ := a; obtain ⟨j, b⟩ := b; obtain ⟨k, c⟩ := c
  simp only [cmpP] at h1 h2 ⊢
  by_cases p : i < j
  · by_cases q : j < k
    · simp [show i < k by omega]
    · by_cases q2 : j > k
      · simp [q, q2] at h2
      · obtain rfl : j = k := by omega
        simp [p]
  · by_cases p2 : i > j
    · simp [p, p2] at h1
    · obtain rfl : i = j := by omega
      by_cases q : i < k
      · simp [q]
      · by_cases q2 : i > k
        · simp [q, q2] at h2
        · obtain rfl : i = k := by omega
          simp only [Int.lt_irrefl, gt_iff_lt, if_false] at h1 h2 ⊢
          exact cmpN_trans h1 h2
theorem cmpP_ntrans {a b c : Int × List Int} (h1 : ¬ cmpP a b < 0) (h2 : ¬ cmpP b c < 0) : ¬ cmpP a c < 0 := by
  rcases cmpP_trich a b with h | rfl | h
  · exact absurd h h1
  · exact h2
  · rcases cmpP_trich b c with g | rfl | g
    · exact absurd g h2
    · exact h1
    · intro q; exact cmpP_irrefl a (cmpP_trans q (cmpP_trans g h))
theorem cmpP_total {a b : Int × List Int} (h1 : ¬ cmpP a b < 0) (h2 : ¬ cmpP b a < 0) : a = b := by
  rcases cmpP_trich a b with h | h | h
  · exact absurd h h1
  · exact h
  · exact absurd h h2
theorem orderP_perm (l : List (Int × List Int)) : (orderP l).Perm l := List.mergeSort_perm _ _
theorem orderP_sorted (l : List (Int × List Int)) : (orderP l).Pairwise fun a b => ¬ cmpP b a < 0 := by
  have := List.pairwise_mergeSort (le := fun a b => !decide (cmpP b a < 0)) (fun a b c h1 h2 => by
    simp only [Bool.not_eq_true', decide_eq_false_iff_not] at *
    exact cmpP_ntrans h2 h1) (fun a b => by
    simp only [Bool.or_eq_true, Bool.not_eq_true', decide_eq_false_iff_not]
    by_cases h : cmpP b a < 0
    · right; intro h2; exact cmpP_irrefl a (cmpP_trans h2 h)
    · left; exact h) l
  exact this.imp fun {a b} h => by simpa using h
theorem insP_perm (x : Int × List Int) : ∀ l, (insP x l).Perm (x :: l)
  | [] => .refl _
  | y :: l => by
    unfold insP
    split
    · exact ((insP_perm x l).cons y).trans (.swap x y l)
    · exact .refl _
theorem insP_sorted (x : Int × List Int) : ∀ {l : List (Int × List Int)}, l.Pairwise (fun a b => ¬ cmpP b a < 0) → (insP x l).Pairwise (fun a b => ¬ cmpP b a < 0)
  | [], _ => by simp [insP]
  | y :: l, h => by
    rw [List.pairwise_cons] at h
    unfold insP
    split
    · rename_i q
      rw [List.pairwise_cons]
      refine ⟨fun z hz => ?_, insP_sorted x h.2⟩
      rcases List.mem_cons.mp ((insP_perm x l).mem_iff.mp hz) with rfl | hz
      · intro q2; exact cmpP_irrefl y (cmpP_trans q q2)
      · exact h.1 z hz
    · rename_i q
      rw [List.pairwise_cons, List.pairwise_cons]
      refine ⟨fun z hz => ?_, h⟩
      rcases List.mem_cons.mp hz with rfl | hz
      · exact q
      · exact cmpP_ntrans (h.1 z hz) q
theorem insP_len (x : Int × List Int) (l : List (Int × List Int)) : (insP x l).length = l.length + 1 := (insP_perm x l).length_eq
/-- Two sorted lists of the same elements are one. -/
theorem orderP_unique {l k : List (Int × List Int)} (hl : l.Pairwise fun a b => ¬ cmpP b a < 0) (hk : k.Pairwise fun a b => ¬ cmpP b a < 0) (h : l.Perm k) : l = k :=
  List.Perm.eq_of_pairwise (fun a b _ _ h1 h2 => cmpP_total h2 h1) hl hk h
theorem perm_of_nodup {α : Type} [DecidableEq α] {l k : List α} (hl : l.Nodup) (hk : k.Nodup) (h : ∀ x, x ∈ l ↔ x ∈ k) : l.Perm k := by
  rw [List.perm_iff_count]
  intro a
  rw [hl.count, hk.count]
  simp [h a]
theorem setM_some {r : Shape} : ∀ {cs : Shape} {s : List Int}, setM r cs = some s → (∀ c ∈ cs, c ∈ r) ∧ pickM r s = cs ∧ s.length = cs.length ∧ ∀ k ∈ s, 0 ≤ k ∧ k < r.length
  | [], s, h => by simp only [setM, Option.some.injEq] at h; subst h; simp [pickM]
  | c :: cs, s, h => by
    simp only [setM] at h
    split at h
    · simp at h
    · rename_i hc
      obtain ⟨s', h1, rfl⟩ := Option.map_eq_some_iff.mp h
      obtain ⟨g1, g2, g3, g4⟩ := setM_some h1
      have hcr : c ∈ r := by
        by_cases q : c ∈ r
        · exact q
        · rw [idx_not q] at hc; omega
      obtain ⟨k1, k2, k3⟩ := idx_mem hcr
      refine ⟨fun x hx => ?_, ?_, by simp [g3], fun k hk => ?_⟩
      · rcases List.mem_cons.mp hx with rfl | hx
        · exact hcr
        · exact g1 x hx
      · simp only [pickM, List.map_cons, k3] at g2 ⊢
        rw [g2]
      · rcases List.mem_cons.mp hk with rfl | hk
        · exact ⟨k1, k2⟩
        · exact g4 k hk
theorem setM_yes {r : Shape} : ∀ {cs : Shape}, (∀ c ∈ cs, c ∈ r) → ∃ s, setM r cs = some s
  | [], _ => ⟨[], rfl⟩
  | c :: cs, h => by
    obtain ⟨s, hs⟩ := setM_yes (fun x hx => h x (List.mem_cons_of_mem _ hx))
    obtain ⟨k1, _⟩ := idx_mem (h c List.mem_cons_self)
    exact ⟨idxM r c :: s, by simp only [setM]; rw [if_neg (by omega), hs]; rfl⟩
/- Least corners. -/
theorem minI_le (a b : Int) : minI a b ≤ a ∧ minI a b ≤ b ∧ (minI a b = a ∨ minI a b = b) := by unfold minI; split <;> omega
theorem fold_min : ∀ (l : Shape) (s : Int × Int), (l.foldl (fun q p => (minI q.1 p.1, minI q.2 p.2)) s).1 ≤ s.1 ∧ (l.foldl (fun q p => (minI q.1 p.1, minI q.2 p.2)) s).2 ≤ s.2 ∧ (∀ p ∈ l, (l.foldl (fun q p => (minI q.1 p.1, minI q.2 p.2)) s).1 ≤ p.1 ∧ (l.foldl (fun q p => (minI q.1 p.1, minI q.2 p.2)) s).2 ≤ p.2) ∧ ((l.foldl (fun q p => (minI q.1 p.1, minI q.2 p.2)) s).1 = s.1 ∨ ∃ p ∈ l, p.1 = (l.foldl (fun q p => (minI q.1 p.1, minI q.2 p.2)) s).1) ∧ ((l.foldl (fun q p => (minI q.1 p.1, minI q.2 p.2)) s).2 = s.2 ∨ ∃ p ∈ l, p.2 = (l.foldl (fun q p => (minI q.1 p.1, minI q.2 p.2)) s).2)
  | [], s => by simp
  | p :: l, s => by
    obtain ⟨h1, h2, h3, h4, h5⟩ := fold_min l (minI s.1 p.1, minI s.2 p.2)
    rw [List.foldl_cons]
    have a := minI_le s.1 p.1
    have b := minI_le s.2 p.2
    simp only at h1 h2 h4 h5
    refine ⟨by omega, by omega, fun q hq => ?_, ?_, ?_⟩
    · rcases List.mem_cons.mp hq with rfl | hq
      · exact ⟨by omega, by omega⟩
      · exact h3 q hq
    · rcases h4 with h | ⟨q, hq, h⟩
      · rcases a.2.2 with e | e
        · left; rw [h, e]
        · right; exact ⟨p, List.mem_cons_self, by rw [h, e]⟩
      · right; exact ⟨q, List.mem_cons_of_mem _ hq, h⟩
    · rcases h5 with h | ⟨q, hq, h⟩
      · rcases b.2.2 with e | e
        · left; rw [h, e]
        · right; exact ⟨p, List.mem_cons_self, by rw [h, e]⟩
      · right; exact ⟨q, List.mem_cons_of_mem _ hq, h⟩
theorem minF_spec {l : Shape} (h : 0 < l.length) : (∀ p ∈ l, (minF l l.length).1 ≤ p.1 ∧ (minF l l.length).2 ≤ p.2) ∧ (∃ p ∈ l, p.1 = (minF l l.length).1) ∧ (∃ p ∈ l, p.2 = (minF l l.length).2) := by
  have hm : l.getD 0 (0, 0) ∈ l := by
    cases l with
    | nil => simp at h
    | cons x l => simp
  unfold minF
  rw [List.take_length]
  obtain ⟨h1, h2, h3, h4, h5⟩ := fold_min l (l.getD 0 (0, 0))
  refine ⟨h3, ?_, ?_⟩
  · rcases h4 with h | h
    · exact ⟨_, hm, h.symm⟩
    · exact h
  · rcases h5 with h | h
    · exact ⟨_, hm, h.symm⟩
    · exact h
theorem minF_is {l : Shape} (h : 0 < l.length) {a b : Int} (h1 : ∀ p ∈ l, a ≤ p.1 ∧ b ≤ p.2) (h2 : ∃ p ∈ l, p.1 = a) (h3 : ∃ p ∈ l, p.2 = b) : minF l l.length = (a, b) := by
  obtain ⟨g1, ⟨p, hp, g2⟩, ⟨q, hq, g3⟩⟩ := minF_spec h
  obtain ⟨p', hp', g4⟩ := h2
  obtain ⟨q', hq', g5⟩ := h3
  have k1 := h1 p hp
  have k2 := h1 q hq
  have k3 := g1 p' hp'
  have k4 := g1 q' hq'
  apply Prod.ext
  · show _ = a; omega
  · show _ = b; omega
theorem wr1 {n : Int} (h1 : -100000 ≤ n) (h2 : n ≤ 100000) : IntKind.i64.wrap n = n := by
  simp [IntKind.wrap, IntKind.bits, IntKind.signed]; omega
/-- A shape that lies at its corner. -/
structure Formed (f : Shape) : Prop where
  pos : 0 < f.length
  box : ∀ p ∈ f, 0 ≤ p.1 ∧ p.1 ≤ 200 ∧ 0 ≤ p.2 ∧ p.2 ≤ 200
  left : ∃ p ∈ f, p.1 = 0
  top : ∃ p ∈ f, p.2 = 0
theorem movedM_small {f : Shape} (h : ∀ p ∈ f, -1000 ≤ p.1 ∧ p.1 ≤ 1000 ∧ -1000 ≤ p.2 ∧ p.2 ≤ 1000) {a b : Int} (ha : -1000 ≤ a ∧ a ≤ 1000) (hb : -1000 ≤ b ∧ b ≤ 1000) : movedM f a b = f.map fun p => (p.1 + a, p.2 + b) := by
  unfold movedM
  refine List.map_congr_left fun p hp => ?_
  have := h p hp
  rw [wr1 (by omega) (by omega), wr1 (by omega) (by omega)]
theorem norm_formed {l : Shape} (hl : 0 < l.length) (h : ∀ p ∈ l, -100 ≤ p.1 ∧ p.1 ≤ 100 ∧ -100 ≤ p.2 ∧ p.2 ≤ 100) : Formed (normM l) := by
  obtain ⟨g1, ⟨p, hp, g2⟩, ⟨q, hq, g3⟩⟩ := minF_spec hl
  have kp := h p hp
  have kq := h q hq
  have e : normM l = l.map fun p => (p.1 + (0 - (minF l l.length).1), p.2 + (0 - (minF l l.length).2)) := by
    unfold normM
    rw [wr1 (by omega) (by omega), wr1 (by omega) (by omega), movedM_small (fun x hx => by have := h x hx; omega) (by omega) (by omega)]
  rw [e]
  refine ⟨by simpa using hl, fun x hx => ?_, ⟨_, List.mem_map_of_mem hp, by show p.1 + _ = 0; omega⟩, ⟨_, List.mem_map_of_mem hq, by show q.2 + _ = 0; omega⟩⟩
  obtain ⟨y, hy, rfl⟩ := List.mem_map.mp hx
  have := h y hy
  have := g1 y hy
  exact ⟨by show 0 ≤ y.1 + _; omega, by show y.1 + _ ≤ 200; omega, by show 0 ≤ y.2 + _; omega, by show y.2 + _ ≤ 200; omega⟩
theorem Formed.small {f : Shape} (h : Formed f) : ∀ p ∈ f, -1000 ≤ p.1 ∧ p.1 ≤ 1000 ∧ -1000 ≤ p.2 ∧ p.2 ≤ 1000 := fun p hp => by have := h.box p hp; omega
theorem Formed.norm {f : Shape} (h : Formed f) {a b : Int} (ha : -500 ≤ a ∧ a ≤ 500) (hb : -500 ≤ b ∧ b ≤ 500) : normM (movedM f a b) = f := by
  have e := movedM_small h.small (a := a) (b := b) (by omega) (by omega)
  have hm : minF (movedM f a b) (movedM f a b).length = (a, b) := by
    rw [e]
    obtain ⟨p, hp, h1⟩ := h.left
    obtain ⟨q, hq, h2⟩ := h.top
    refine minF_is (by simpa using h.pos) (fun x hx => ?_) ⟨_, List.mem_map_of_mem hp, by show p.1 + a = a; omega⟩ ⟨_, List.mem_map_of_mem hq, by show q.2 + b = b; omega⟩
    obtain ⟨y, hy, rfl⟩ := List.mem_map.mp hx
    have := h.box y hy
    exact ⟨by show a ≤ y.1 + a; omega, by show b ≤ y.2 + b; omega⟩
  unfold normM
  rw [hm, wr1 (by omega) (by omega), wr1 (by omega) (by omega), e, movedM_small (fun x hx => by
    obtain ⟨y, hy, rfl⟩ := List.mem_map.mp hx
    have := h.box y hy
    exact ⟨by show _ ≤ y.1 + a; omega, by show y.1 + a ≤ _; omega, by show _ ≤ y.2 + b; omega, by show y.2 + b ≤ _; omega⟩) (by omega) (by omega), List.map_map]
  conv => rhs; rw [← List.map_id f]
  refine List.map_congr_left fun p _ => ?_
  simp only [Function.comp, id]
  apply Prod.ext
  · show p.1 + a + (0 - a) = p.1; omega
  · show p.2 + b + (0 - b) = p.2; omega
theorem Formed.zero {f : Shape} (h : Formed f) : f.getD 0 (0, 0) ∈ f := by
  have := h.pos
  cases f with
  | nil => simp at this
  | cons x l => simp
theorem gM_some {r : Shape} {i : Int} {f : Shape} {a b : Int} {t : Int × List Int} (h : gM r i f a b = some t) : t.1 = i ∧ setM r (movedM f a b) = some t.2 := by
  obtain ⟨s, h1, rfl⟩ := Option.map_eq_some_iff.mp h
  exact ⟨rfl, h1⟩
/-- The form and the offset are told by the placement. -/
theorem gM_tells {r : Shape} {i j : Int} {f g : Shape} {a b c d : Int} {t : Int × List Int} (hf : Formed f) (hg : Formed g) (ha : -500 ≤ a ∧ a ≤ 500) (hb : -500 ≤ b ∧ b ≤ 500) (hc : -500 ≤ c ∧ c ≤ 500) (hd : -500 ≤ d ∧ d ≤ 500) (h1 : gM r i f a b = some t) (h2 : gM r j g c d = some t) : f = g ∧ a = c ∧ b = d := by
  obtain ⟨_, e1⟩ := gM_some h1
  obtain ⟨_, e2⟩ := gM_some h2
  have k1 := (setM_some e1).2.1
  have k2 := (setM_some e2).2.1
  have hfg : f = g := by rw [← hf.norm ha hb, ← hg.norm hc hd, ← k1, ← k2]
  subst hfg
  have k3 := k1.symm.trans k2
  rw [movedM_small hf.small (by omega) (by omega), movedM_small hf.small (by omega) (by omega)] at k3
  have h0 := hf.pos
  cases f with
  | nil => simp at h0
  | cons x l =>
    simp only [List.map_cons, List.cons.injEq, Prod.mk.injEq] at k3
    exact ⟨rfl, by omega, by omega⟩
/-- What is asked of a region. -/
structure Boxed (r : Shape) : Prop where
  nodup : r.Nodup
  box : ∀ p ∈ r, 0 ≤ p.1 ∧ p.1 < 20 ∧ 0 ≤ p.2 ∧ p.2 < 20
  len : r.length ≤ 40
  wide : ∀ p ∈ r, p.1 < (sizeM r).1 ∧ p.2 < (sizeM r).2
  wide20 : (sizeM r).1 ≤ 20 ∧ (sizeM r).2 ≤ 20
theorem offA_eq {f : Shape} (hf : Formed f) {r : Shape} (hr : Boxed r) {c : Int × Int} (hc : c ∈ r) : offA f c = (c.1 - (f.getD 0 (0, 0)).1, c.2 - (f.getD 0 (0, 0)).2) := by
  have h1 := hf.box _ hf.zero
  have h2 := hr.box c hc
  unfold offA
  rw [wr1 (by omega) (by omega), wr1 (by omega) (by omega)]
theorem offA_small {f : Shape} (hf : Formed f) {r : Shape} (hr : Boxed r) {c : Int × Int} (hc : c ∈ r) : (-500 ≤ (offA f c).1 ∧ (offA f c).1 ≤ 500) ∧ (-500 ≤ (offA f c).2 ∧ (offA f c).2 ≤ 500) := by
  have h1 := hf.box _ hf.zero
  have h2 := hr.box c hc
  rw [offA_eq hf hr hc]
  exact ⟨⟨by show _ ≤ c.1 - _; omega, by show c.1 - _ ≤ _; omega⟩, ⟨by show _ ≤ c.2 - _; omega, by show c.2 - _ ≤ _; omega⟩⟩
theorem listA_nodup {r : Shape} (hr : Boxed r) {i : Int} {fs : List Shape} (hn : fs.Nodup) (hf : ∀ f ∈ fs, Formed f) : (listA r i fs).Nodup := by
  unfold listA
  rw [List.nodup_iff_pairwise_ne, List.pairwise_flatMap]
  refine ⟨fun f hfm => ?_, ?_⟩
  · unfold rowA
    rw [List.pairwise_filterMap]
    refine (List.Pairwise.and_mem.mp hr.nodup).imp fun {c d} ⟨hc, hd, hcd⟩ t1 h1 t2 h2 => ?_
    rintro rfl
    obtain ⟨s1, s2⟩ := offA_small (hf f hfm) hr hc
    obtain ⟨s3, s4⟩ := offA_small (hf f hfm) hr hd
    obtain ⟨_, e1, e2⟩ := gM_tells (hf f hfm) (hf f hfm) s1 s2 s3 s4 h1 h2
    rw [offA_eq (hf f hfm) hr hc, offA_eq (hf f hfm) hr hd] at e1 e2
    apply hcd
    simp only at e1 e2
    apply Prod.ext <;> omega
  · refine (List.Pairwise.and_mem.mp hn).imp fun {f g} ⟨hfm, hgm, hfg⟩ t1 h1 t2 h2 => ?_
    rintro rfl
    unfold rowA at h1 h2
    obtain ⟨c, hc, h1⟩ := List.mem_filterMap.mp h1
    obtain ⟨d, hd, h2⟩ := List.mem_filterMap.mp h2
    obtain ⟨s1, s2⟩ := offA_small (hf f hfm) hr hc
    obtain ⟨s3, s4⟩ := offA_small (hf g hgm) hr hd
    exact hfg (gM_tells (hf f hfm) (hf g hgm) s1 s2 s3 s4 h1 h2).1
/-- The list that the other makes, before it is put in order. -/
def flatB (r : Shape) (i : Int) (fs : List Shape) (w h : Nat) : List (Int × List Int) := fs.flatMap fun f => (List.range h).flatMap fun y => (List.range w).filterMap fun x => gM r i f (x : Nat) (y : Nat)
theorem stepB_fold {r : Shape} {i : Int} {f : Shape} {y : Int} : ∀ (xs : List Nat) (out : List (Int × List Int)), (xs.foldl (stepB r i f y) out).Perm (xs.filterMap (fun x => gM r i f (x : Nat) y) ++ out) ∧ (out.Pairwise (fun a b => ¬ cmpP b a < 0) → (xs.foldl (stepB r i f y) out).Pairwise fun a b => ¬ cmpP b a < 0)
  | [], out => ⟨.refl _, id⟩
  | x :: xs, out => by
    rw [List.foldl_cons]
    cases q : gM r i f (x : Nat) y with
    | none =>
      have e : stepB r i f y out x = out := by unfold stepB; rw [q]
      rw [e, List.filterMap_cons_none (f := fun x : Nat => gM r i f (x : Nat) y) q]
      exact stepB_fold xs out
    | some t =>
      have e : stepB r i f y out x = insP t out := by unfold stepB; rw [q]
      rw [e, List.filterMap_cons_some (f := fun x : Nat => gM r i f (x : Nat) y) q]
      obtain ⟨h1, h2⟩ := stepB_fold xs (insP t out)
      refine ⟨h1.trans ?_, fun h => h2 (insP_sorted t h)⟩
      refine ((insP_perm t out).append_left _).trans ?_
      rw [List.cons_append]
      exact List.perm_middle
theorem rowB_fold {r : Shape} {i : Int} {f : Shape} {w : Nat} : ∀ (ys : List Nat) (out : List (Int × List Int)), (ys.foldl (rowB r i f w) out).Perm ((ys.flatMap fun y => (List.range w).filterMap fun x => gM r i f (x : Nat) (y : Nat)) ++ out) ∧ (out.Pairwise (fun a b => ¬ cmpP b a < 0) → (ys.foldl (rowB r i f w) out).Pairwise fun a b => ¬ cmpP b a < 0)
  | [], out => ⟨.refl _, id⟩
  | y :: ys, out => by
    rw [List.foldl_cons, List.flatMap_cons]
    obtain ⟨h1, h2⟩ := stepB_fold (r := r) (i := i) (f := f) (y := (y : Int)) (List.range w) out
    obtain ⟨h3, h4⟩ := rowB_fold ys (rowB r i f w out y)
    refine ⟨h3.trans ?_, fun h => h4 (h2 h)⟩
    refine (h1.append_left _).trans ?_
    rw [← List.append_assoc]
    exact List.perm_append_comm.append_right _
theorem formB_fold {r : Shape} {i : Int} {w h : Nat} : ∀ (fs : List Shape) (out : List (Int × List Int)), (fs.foldl (formB r i w h) out).Perm (flatB r i fs w h ++ out) ∧ (out.Pairwise (fun a b => ¬ cmpP b a < 0) → (fs.foldl (formB r i w h) out).Pairwise fun a b => ¬ cmpP b a < 0)
  | [], out => ⟨.refl _, id⟩
  | f :: fs, out => by
    rw [List.foldl_cons]
    obtain ⟨h1, h2⟩ := rowB_fold (r := r) (i := i) (f := f) (w := w) (List.range h) out
    obtain ⟨h3, h4⟩ := formB_fold fs (formB r i w h out f)
    refine ⟨h3.trans ?_, fun g => h4 (h2 g)⟩
    refine (h1.append_left _).trans ?_
    unfold flatB
    rw [List.flatMap_cons, ← List.append_assoc]
    exact List.perm_append_comm.append_right _
theorem toNat_cast {a : Int} (h : 0 ≤ a) : ((a.toNat : Nat) : Int) = a := by omega
theorem flatB_nodup {r : Shape} {i : Int} {fs : List Shape} {w h : Nat} (hw : w ≤ 20) (hh : h ≤ 20) (hn : fs.Nodup) (hf : ∀ f ∈ fs, Formed f) : (flatB r i fs w h).Nodup := by
  unfold flatB
  rw [List.nodup_iff_pairwise_ne, List.pairwise_flatMap]
  refine ⟨fun f hfm => ?_, ?_⟩
  · rw [List.pairwise_flatMap]
    refine ⟨fun y hy => ?_, ?_⟩
    · rw [List.pairwise_filterMap]
      have hy := List.mem_range.mp hy
      refine (List.Pairwise.and_mem.mp List.nodup_range).imp fun {c d} ⟨hc, hd, hcd⟩ t1 h1 t2 h2 => ?_
      rintro rfl
      have hc := List.mem_range.mp hc
      have hd := List.mem_range.mp hd
      obtain ⟨_, e1, e2⟩ := gM_tells (hf f hfm) (hf f hfm) (by omega) (by omega) (by omega) (by omega) h1 h2
      exact hcd (by omega)
    · refine (List.Pairwise.and_mem.mp List.nodup_range).imp fun {c d} ⟨hc, hd, hcd⟩ t1 h1 t2 h2 => ?_
      rintro rfl
      have hc := List.mem_range.mp hc
      have hd := List.mem_range.mp hd
      obtain ⟨x1, hx1, h1⟩ := List.mem_filterMap.mp h1
      obtain ⟨x2, hx2, h2⟩ := List.mem_filterMap.mp h2
      have hx1 := List.mem_range.mp hx1
      have hx2 := List.mem_range.mp hx2
      obtain ⟨_, e1, e2⟩ := gM_tells (hf f hfm) (hf f hfm) (by omega) (by omega) (by omega) (by omega) h1 h2
      exact hcd (by omega)
  · refine (List.Pairwise.and_mem.mp hn).imp fun {f g} ⟨hfm, hgm, hfg⟩ t1 h1 t2 h2 => ?_
    rintro rfl
    obtain ⟨y1, hy1, h1⟩ := List.mem_flatMap.mp h1
    obtain ⟨y2, hy2, h2⟩ := List.mem_flatMap.mp h2
    obtain ⟨x1, hx1, h1⟩ := List.mem_filterMap.mp h1
    obtain ⟨x2, hx2, h2⟩ := List.mem_filterMap.mp h2
    have hx1 := List.mem_range.mp hx1
    have hx2 := List.mem_range.mp hx2
    have hy1 := List.mem_range.mp hy1
    have hy2 := List.mem_range.mp hy2
    exact hfg (gM_tells (hf f hfm) (hf g hgm) (by omega) (by omega) (by omega) (by omega) h1 h2).1
theorem list_iff {r : Shape} (hr : Boxed r) {i : Int} {fs : List Shape} (hf : ∀ f ∈ fs, Formed f) (t : Int × List Int) : t ∈ listA r i fs ↔ t ∈ flatB r i fs (sizeM r).1.toNat (sizeM r).2.toNat := by
  unfold listA flatB rowA
  simp only [List.mem_flatMap, List.mem_filterMap, List.mem_range]
  constructor
  · rintro ⟨f, hfm, c, hc, h⟩
    have hF := hf f hfm
    have hin := (setM_some (gM_some h).2).1
    obtain ⟨s1, s2⟩ := offA_small hF hr hc
    rw [movedM_small hF.small (by omega) (by omega)] at hin
    obtain ⟨p, hp, hp0⟩ := hF.left
    obtain ⟨q, hq, hq0⟩ := hF.top
    have k1 := hin _ (List.mem_map_of_mem hp)
    have k2 := hin _ (List.mem_map_of_mem hq)
    have b1 := hr.box _ k1
    have b2 := hr.box _ k2
    have w1 := hr.wide _ k1
    have w2 := hr.wide _ k2
    simp only at b1 b2 w1 w2
    refine ⟨f, hfm, (offA f c).2.toNat, by omega, (offA f c).1.toNat, by omega, ?_⟩
    rw [toNat_cast (by omega), toNat_cast (by omega)]; exact h
  · rintro ⟨f, hfm, y, hy, x, hx, h⟩
    have hF := hf f hfm
    have hin := (setM_some (gM_some h).2).1
    have hw := hr.wide20
    rw [movedM_small hF.small (by omega) (by omega)] at hin
    have hc := hin _ (List.mem_map_of_mem hF.zero)
    refine ⟨f, hfm, _, hc, ?_⟩
    rw [offA_eq hF hr hc]
    simp only
    rw [show (f.getD 0 (0, 0)).1 + (x : Int) - (f.getD 0 (0, 0)).1 = x by omega, show (f.getD 0 (0, 0)).2 + (y : Int) - (f.getD 0 (0, 0)).2 = y by omega]
    exact h
theorem list_eq {r : Shape} (hr : Boxed r) {i : Int} {fs : List Shape} (hn : fs.Nodup) (hf : ∀ f ∈ fs, Formed f) : orderP (listA r i fs) = listB r i fs := by
  obtain ⟨h1, h2⟩ := formB_fold (r := r) (i := i) (w := (sizeM r).1.toNat) (h := (sizeM r).2.toNat) fs []
  rw [List.append_nil] at h1
  have hw := hr.wide20
  refine orderP_unique (orderP_sorted _) (h2 .nil) ((orderP_perm _).trans (.trans ?_ h1.symm))
  exact perm_of_nodup (listA_nodup hr hn hf) (flatB_nodup (by omega) (by omega) hn hf) (list_iff hr hf)

theorem boxed_of {r : Shape} (h : regionS r = true) : Boxed r := by
  have hM : regionM r = true := by rw [regionM_S]; exact h
  unfold regionM at hM
  unfold regionS at h
  simp only [Bool.and_eq_true, beq_iff_eq, decide_eq_true_eq] at hM h
  obtain ⟨⟨hs, h0⟩, hx, hy⟩ := hM
  obtain ⟨_, ⟨⟨_, _⟩, w1⟩, w2⟩ := h
  obtain ⟨_, hc, hp, hl⟩ := shapeM_spec hs
  obtain ⟨g1, _, _⟩ := minF_spec (l := r) (by omega)
  rw [h0] at g1
  have m1 := fold_max1 (fun p => p) 19 r (r.getD 0 (0, 0))
  have m2 := fold_max2 (fun p => p) 19 r (r.getD 0 (0, 0))
  have s1 := fold_max1 (fun p => (IntKind.i64.wrap (IntKind.i64.wrap (p.1 - 0) + 1), IntKind.i64.wrap (IntKind.i64.wrap (p.2 - 0) + 1))) (sizeM r).1 r (0, 0)
  have s2 := fold_max2 (fun p => (IntKind.i64.wrap (IntKind.i64.wrap (p.1 - 0) + 1), IntKind.i64.wrap (IntKind.i64.wrap (p.2 - 0) + 1))) (sizeM r).2 r (0, 0)
  unfold maxF at hx hy
  rw [List.take_length] at hx hy
  have hx' := (m1.mp (by (try simp only); omega)).2
  have hy' := (m2.mp (by (try simp only); omega)).2
  have e1 : (sizeM r).1 = (r.foldl (fun s p => (maxI s.1 (IntKind.i64.wrap (IntKind.i64.wrap (p.1 - 0) + 1)), maxI s.2 (IntKind.i64.wrap (IntKind.i64.wrap (p.2 - 0) + 1)))) (0, 0)).1 := by
    unfold sizeM sizeF; rw [h0, List.take_length]
  have e2 : (sizeM r).2 = (r.foldl (fun s p => (maxI s.1 (IntKind.i64.wrap (IntKind.i64.wrap (p.1 - 0) + 1)), maxI s.2 (IntKind.i64.wrap (IntKind.i64.wrap (p.2 - 0) + 1)))) (0, 0)).2 := by
    unfold sizeM sizeF; rw [h0, List.take_length]
  have k1 := (s1.mp (by (try simp only); omega)).2
  have k2 := (s2.mp (by (try simp only); omega)).2
  refine ⟨shapeM_nodup hs, fun p hp => ?_, hl, fun p hp => ?_, ⟨w1, w2⟩⟩
  · have a := g1 p hp
    have b := hx' p hp
    have c := hy' p hp
    (try simp only at a b c)
    omega
  · have a := k1 p hp
    have b := k2 p hp
    (try simp only at a b)
    rw [wrap_small (hc p hp).1] at a
    rw [wrap_small (hc p hp).2] at b
    omega
def inB (p : Int × Int) : Prop := -100 ≤ p.1 ∧ p.1 ≤ 100 ∧ -100 ≤ p.2 ∧ p.2 ≤ 100
theorem inB_iter {p : Int × Int} (h : inB p) : ∀ n, inB (iterT p n)
  | 0 => h
  | n + 1 => by
    have := inB_iter h n
    unfold iterT stepT
    unfold inB at this ⊢
    (try simp only)
    rw [wr1 (by omega) (by omega)]
    omega
theorem inB_turn {p : Int × Int} (h : inB p) (t : Nat) : inB (turnM p t) := by
  unfold turnM
  refine inB_iter ?_ _
  unfold flipT
  split
  · unfold inB at h ⊢
    (try simp only)
    rw [wr1 (by omega) (by omega)]
    omega
  · exact h
theorem formed_of {p : PieceM} (h : pieceS p = true) : ∀ f ∈ formsP p, Formed f := by
  intro f hf
  unfold formsP at hf
  rw [formsF_iff] at hf
  obtain ⟨i, _, rfl⟩ := hf
  have hs : shapeM p.cs = true := by
    unfold pieceS at h
    simp only [Bool.and_eq_true] at h
    exact h.1.2.1
  obtain ⟨_, hc, hp, _⟩ := shapeM_spec hs
  unfold formM
  refine norm_formed ?_ fun x hx => ?_
  · rw [(sortM_perm _).length_eq, turnL_len]; omega
  · obtain ⟨y, hy, rfl⟩ := List.mem_map.mp ((sortM_perm _).mem_iff.mp hx)
    have := hc y hy
    simp only [inC, Bool.and_eq_true, decide_eq_true_eq] at this
    exact inB_turn (show inB y by unfold inB; omega) i
theorem forms_nodup (p : PieceM) : (formsP p).Nodup := (formsF_sorted _ _).imp fun {a b} h e => by subst e; exact cmpM_irrefl a h
theorem puzzle_parts {r : Shape} {l : List PieceM} (h : puzzleS r l = true) : regionS r = true ∧ l.length ≤ 12 ∧ ∀ p ∈ l, pieceS p = true := by
  unfold puzzleS at h
  simp only [Bool.and_eq_true, decide_eq_true_eq] at h
  obtain ⟨⟨h1, _, h2⟩, h3⟩ := h
  refine ⟨h1, by omega, fun p hp => ?_⟩
  obtain ⟨i, hi, rfl⟩ := List.mem_iff_getElem.mp hp
  have := List.all_eq_true.mp h3 i (List.mem_range.mpr hi)
  rw [Bool.and_eq_true, List.getD_eq_getElem?_getD, List.getElem?_eq_getElem hi] at this
  exact this.1
/-- Both lists of placements of a piece of a puzzle are one. -/
theorem places_eq {r : Shape} {l : List PieceM} (h : puzzleS r l = true) {p : PieceM} (hp : p ∈ l) (i : Int) : orderP (listA r i (formsI p)) = listB r i (formsP p) := by
  obtain ⟨h1, _, h3⟩ := puzzle_parts h
  rw [forms_eq]
  exact list_eq (boxed_of h1) (forms_nodup p) (formed_of (h3 p hp))
theorem listA_nodup' {r : Shape} {l : List PieceM} (h : puzzleS r l = true) {p : PieceM} (hp : p ∈ l) (i : Int) : (listA r i (formsI p)).Nodup := by
  obtain ⟨h1, _, h3⟩ := puzzle_parts h
  rw [forms_eq]
  exact listA_nodup (boxed_of h1) (forms_nodup p) (formed_of (h3 p hp))
end Go.Proofs
end
section
open Go Go.Big
namespace Go.Proofs
set_option maxHeartbeats 2000000
def rowP (r : List PV) : Int × List Int := match r with
  | [.i _ a, .sl rows] => (a, rows.map fun q => match q with
    | [.i _ x] => x
    | _ => 0)
  | _ => (0, [])
theorem rowP_placR (x : Int × List Int) : rowP (placR x) = x := by
  obtain ⟨a, l⟩ := x
  simp [rowP, ints, Function.comp_def]
theorem rowP_places (l : List (Int × List Int)) : (places l).map rowP = l := by
  unfold places
  rw [List.map_map]
  conv => rhs; rw [← List.map_id l]
  exact List.map_congr_left fun x _ => rowP_placR x
def cfP (a b : List PV) : Int := cmpP (rowP a) (rowP b)
def goodP' (r : List PV) : Prop := ∃ x : Int × List Int, x.2.length < 1000000000 ∧ r = placR x
theorem cmpPl_ok : CmpOk Tryz.prog noG 157 goodP' cfP where
  gives := by
    rintro _ _ ⟨x, hx, rfl⟩ ⟨y, hy, rfl⟩
    unfold cfP
    rw [rowP_placR, rowP_placR]
    exact implComparePl_fn noG x y hx hy
  irrefl := by
    rintro _ ⟨x, hx, rfl⟩
    exact cmpP_irrefl _
  trans := fun a b c _ _ _ h1 h2 => cmpP_trans h1 h2
  ntrans := fun a b c _ _ _ h1 h2 => cmpP_ntrans h1 h2
theorem enters_cmpPl (args : Array Value) (w : World) : (callFunc 157 args).run Tryz.prog w = .ok (.enter 157 args) w := enters_of Tryz.func157 (by kernel_rfl) rfl args w
/-- The third sort that is given. -/
def sortsG2 : Gv := SortO Tryz.prog noG 156 2
def sortsN2 : Gv := SortN 156
/-- All sorts that are given. -/
structure AllG (G : Gv) : Prop where
  c1 : ∀ f args H n r H' n', sortsG f args H n r H' n' → G f args H n r H' n'
  c2 : ∀ f args H n r H' n', sortsG1 f args H n r H' n' → G f args H n r H' n'
  c3 : ∀ f args H n r H' n', sortsG2 f args H n r H' n' → G f args H n r H' n'
  c4 : ∀ f args H n r H' n', sortsN2 f args H n r H' n' → G f args H n r H' n'
theorem ownRs_perm {H : Heap} {a b : List (List PV)} (hp : a.Perm b) : ∀ {q : List (List PV)} {S : List Nat}, ownRs H a q S → ∃ q' S', ownRs H b q' S' ∧ S'.Perm S ∧ q'.Perm q := by
  induction hp with
  | nil => exact fun h => ⟨_, _, h, .refl _, .refl _⟩
  | cons x _ ih =>
    rintro _ _ ⟨p, q, s, s', rfl, rfl, h1, h2⟩
    obtain ⟨q', S', g1, g2, g3⟩ := ih h2
    exact ⟨_, _, ownRs_cons h1 g1, g2.append_left s, g3.cons p⟩
  | swap x y l =>
    rintro _ _ ⟨p, q, s, s', rfl, rfl, h1, p2, q2, s2, s3, rfl, rfl, h2, h3⟩
    refine ⟨_, _, ownRs_cons h2 (ownRs_cons h1 h3), ?_, .swap _ _ _⟩
    rw [← List.append_assoc, ← List.append_assoc]
    exact List.perm_append_comm.append_right s3
  | trans _ _ ih1 ih2 =>
    intro q S h
    obtain ⟨q1, S1, g1, g2, g3⟩ := ih1 h
    obtain ⟨q2, S2, k1, k2, k3⟩ := ih2 g1
    exact ⟨q2, S2, k1, k2.trans g2, k3.trans g3⟩
/-- An array of different placements, sorted. -/
theorem sortPl {G : Gv} (hG : ∀ f args H n r H' n', sortsG2 f args H n r H' n' → G f args H n r H' n') {H : Heap} {o e t : Nat} {T : TypeId} {rows : List (List PV)} {L : List (Int × List Int)} {S : List Nat} (hH : H o = some (.arr e T 2 rows t)) (hown : ownRs H rows (places L) S) (ho : o ∉ S) (hne : rows ≠ []) (hlen : rows.length < 1000000000) (hL : ∀ x ∈ L, x.2.length < 1000000000) (hnd : L.Nodup) (htag : tagOk t rows) (hfit : fitR 2 rows) :
    ∃ rows' S', (∀ n, G 156 [.own o e, .fn 157 []] H n (.tup []) (H.upd o (.arr e T 2 rows' t)) n) ∧ ownRs H rows' (places (orderP L)) S' ∧ S'.Perm S ∧ rows' ≠ [] ∧ tagOk t rows' ∧ fitR 2 rows' := by
  have hoff : ownRs (offH H o e) rows (places L) S := ownRs_congr (fun k hk => by unfold offH; exact Heap.upd_ne _ _ (fun h => ho (h ▸ hk))) hown
  obtain ⟨hd1, hd2⟩ := ownRs_der hoff
  have hd3 : rows.map (drow (offH H o e)) = places L := hd2
  let le : List PV → List PV → Bool := fun a b => !decide (cfP (drow (offH H o e) b) (drow (offH H o e) a) < 0)
  have hperm : (rows.mergeSort le).Perm rows := List.mergeSort_perm _ _
  have hsorted : (rows.mergeSort le).Pairwise (fun a b => ¬ cfP (drow (offH H o e) b) (drow (offH H o e) a) < 0) := by
    have := List.pairwise_mergeSort (le := le) (fun a b c h1 h2 => by
      simp only [le, Bool.not_eq_true', decide_eq_false_iff_not] at *
      exact cmpP_ntrans h2 h1) (fun a b => by
      simp only [le, Bool.or_eq_true, Bool.not_eq_true', decide_eq_false_iff_not]
      rcases cmpP_trich (rowP (drow (offH H o e) b)) (rowP (drow (offH H o e) a)) with h | h | h
      · exact .inr fun g => cmpP_irrefl _ (cmpP_trans g h)
      · exact .inl (by unfold cfP; rw [h]; exact cmpP_irrefl _)
      · exact .inl fun g => cmpP_irrefl _ (cmpP_trans g h)) rows
    exact this.imp fun h => by simpa [le] using h
  have hinj : ∀ a ∈ rows, ∀ b ∈ rows, drow (offH H o e) a = drow (offH H o e) b → a = b := by
    have hn : (rows.map (drow (offH H o e))).Nodup := by
      rw [hd3]
      exact List.pairwise_map.mpr (hnd.imp fun {a b} hab h => hab (by rw [← rowP_placR a, h, rowP_placR]))
    intro a ha b hb hab
    obtain ⟨i, hi, rfl⟩ := List.mem_iff_getElem.mp ha
    obtain ⟨j, hj, rfl⟩ := List.mem_iff_getElem.mp hb
    have hij : i = j := by
      refine (List.getElem_inj (h₀ := by simpa using hi) (h₁ := by simpa using hj) hn).mp ?_
      simpa using hab
    subst hij; rfl
  have hrow : ∀ a ∈ rows, ∃ x ∈ L, drow (offH H o e) a = placR x := fun a ha => by
    have : drow (offH H o e) a ∈ places L := by rw [← hd3]; exact List.mem_map_of_mem ha
    obtain ⟨x, hx, e⟩ := List.mem_map.mp this
    exact ⟨x, hx, e.symm⟩
  have huniq : ∀ rows2 : List (List PV), rows2.Perm rows → rows2.Pairwise (fun a b => ¬ cfP (drow (offH H o e) b) (drow (offH H o e) a) < 0) → rows2 = rows.mergeSort le := by
    intro rows2 hp hs
    refine List.Perm.eq_of_pairwise (fun a b ha hb h1 h2 => ?_) hs hsorted (hp.trans hperm.symm)
    obtain ⟨x, hx, e1⟩ := hrow a (hp.mem_iff.mp ha)
    obtain ⟨y, hy, e2⟩ := hrow b (hperm.mem_iff.mp hb)
    refine hinj a (hp.mem_iff.mp ha) b (hperm.mem_iff.mp hb) ?_
    rw [e1, e2] at h1 h2 ⊢
    unfold cfP at h1 h2
    rw [rowP_placR, rowP_placR] at h1 h2
    rw [cmpP_total h1 h2]
  obtain ⟨q', S', g1, g2, g3⟩ := ownRs_perm hperm.symm hown
  have hq : q' = places (orderP L) := by
    have k1 : ownRs (offH H o e) (rows.mergeSort le) q' S' := ownRs_congr (fun k hk => by unfold offH; exact Heap.upd_ne _ _ (fun h => ho (h ▸ g2.mem_iff.mp hk))) g1
    have k2 : (rows.mergeSort le).map (drow (offH H o e)) = q' := (ownRs_der k1).2
    have k3 : (q'.map rowP).Perm L := by have := g3.map rowP; rwa [rowP_places] at this
    have k4 : (q'.map rowP).Pairwise fun a b => ¬ cmpP b a < 0 := by
      rw [← k2, List.map_map, List.pairwise_map]
      exact hsorted
    have k5 : q'.map rowP = orderP L := orderP_unique k4 (orderP_sorted L) (k3.trans (orderP_perm L).symm)
    have k6 : ∀ r ∈ q', ∃ x, r = placR x := fun r hr => by
      obtain ⟨x, _, e⟩ := List.mem_map.mp (g3.mem_iff.mp hr)
      exact ⟨x, e.symm⟩
    rw [← k5]
    unfold places
    rw [List.map_map]
    conv => lhs; rw [← List.map_id q']
    refine List.map_congr_left fun r hr => ?_
    obtain ⟨x, rfl⟩ := k6 r hr
    simp only [id, Function.comp, rowP_placR]
  subst hq
  refine ⟨rows.mergeSort le, S', fun n => hG _ _ _ _ _ _ _ ⟨rfl, rfl, rfl, 157, o, e, T, rows, t, rows.mergeSort le, goodP', cfP, rfl, hH, rfl, hne, by omega, fun r hr => ⟨fun p hp => Option.isSome_iff_exists.mp (hd1 r hr p hp), ?_⟩, cmpPl_ok, enters_cmpPl, huniq⟩, g1, g2, fun h => hne ?_, ?_, fun r hr => hfit r (hperm.mem_iff.mp hr)⟩
  · obtain ⟨x, hx, e1⟩ := hrow r hr
    exact ⟨x, hL x hx, e1⟩
  · have := hperm.length_eq
    rw [h] at this
    exact List.length_eq_zero_iff.mp this.symm
  · exact htag.imp id fun h r hr => h r (hperm.mem_iff.mp hr)
end Go.Proofs
end
section
open Go Go.Big
namespace Go.Proofs
set_option maxHeartbeats 2000000
theorem setM_snoc {r : Shape} {c : Int × Int} : ∀ {cs : Shape}, setM r (cs ++ [c]) = (setM r cs).bind fun s => if idxM r c < 0 then none else some (s ++ [idxM r c])
  | [] => by
    simp only [List.nil_append, setM]
    split <;> simp [*]
  | d :: cs => by
    rw [List.cons_append]
    simp only [setM]
    split
    · rfl
    · rw [setM_snoc]
      cases setM r cs with
      | none => rfl
      | some s => simp only [Option.bind_some, Option.map_some]; split <;> simp
theorem setM_app {r : Shape} {b : Shape} : ∀ {a : Shape}, setM r a = none → setM r (a ++ b) = none
  | [], h => by simp [setM] at h
  | d :: a, h => by
    rw [List.cons_append]
    simp only [setM] at h ⊢
    split at h
    · rename_i c; rw [if_pos c]
    · rename_i c
      rw [if_neg c]
      cases q : setM r a with
      | none => rw [setM_app q]; rfl
      | some s => rw [q] at h; simp at h
theorem setM_len {r : Shape} : ∀ {cs : Shape} {s : List Int}, setM r cs = some s → s.length = cs.length
  | [], s, h => by simp only [setM, Option.some.injEq] at h; subst h; rfl
  | c :: cs, s, h => by
    simp only [setM] at h
    split at h
    · simp at h
    · obtain ⟨s', h1, rfl⟩ := Option.map_eq_some_iff.mp h
      simp [setM_len h1]
theorem setM_take {r cs : Shape} {i : Nat} (hi : i < cs.length) {s : List Int} (h : setM r (cs.take i) = some s) : setM r (cs.take (i + 1)) = if idxM r (cs.getD i (0, 0)) < 0 then none else some (s ++ [idxM r (cs.getD i (0, 0))]) := by
  rw [List.take_succ_eq_append_getElem hi, setM_snoc, h, Option.bind_some, List.getD_eq_getElem?_getD, List.getElem?_eq_getElem hi]; rfl
theorem setM_stop {r cs : Shape} {i : Nat} (hi : i < cs.length) (h : setM r (cs.take (i + 1)) = none) : setM r cs = none := by
  have := setM_app (b := cs.drop (i + 1)) h
  rwa [List.take_append_drop] at this
def setA (o : Option (List Int)) : AV := match o with
  | some s => .tup [.sl 1 (ints s), .b true]
  | none => .tup [.sl 1 [], .b false]
theorem l10Set_fn (G : Gv) (r cs : Shape) (hr : r.length < 1000000000) (hc : cs.length < 1000000000) : Gives Tryz.prog G 201 [.sl 0 (cells r), .sl 0 (cells cs)] (setA (setM r cs)) := by
  refine .of (.body Tryz.func201 rfl (by simp [Tryz.ntmps201]) ?_)
  rw [Tryz.ntmps201, Tryz.results201]
  have hlen := cells_len cs
  refine AL ?_
  refine .loop (.inv (fun d E H n' => ∃ (i : Nat) (s : List Int) (e : Nat), i + d = cs.length ∧ 2 < n' ∧ E 0 = .sl 0 (cells r) ∧ E 1 = .sl 0 (cells cs) ∧ E 6 = .own 2 e ∧ E 7 = .i .i64 i ∧ H 2 = some (.arr e 2 1 (ints s) 1) ∧ setM r (cs.take i) = some s) cs.length ?_ ?_)
  · exact ⟨0, [], 0, by omega, by omega, by simp [setF_if, argE], by simp [setF_if, argE], by simp [setF_if, argE], by simp [setF_if, argE], by simp [upd_if, ints], rfl⟩
  rintro d E H n' ⟨i, s, e, hi, hn, h0, h1, h6, h7, hH, hs⟩
  replace hs := Hid.mk hs
  by_cases c : (i : Int) < cs.length
  · have hw_i : IntKind.i64.wrap ((i : Int) + 1) = (i : Int) + 1 := wr64 (by omega) (by omega)
    have hro := cells_at (l := cs) (i := i) (by omega)
    have hst := setM_take (i := i) (by omega) hs.out
    have hsl := setM_len hs.out
    have hstop := fun h => setM_stop (r := r) (cs := cs) (i := i) (by omega) h
    rw [List.length_take] at hsl
    have hle : (ints s).length = s.length := ints_len s
    have hb : (s.length + 1) * 8 ≤ 140737488355328 := by omega
    generalize cs.getD i (0, 0) = p at hro hst
    obtain ⟨px, py⟩ := p
    have hap : ints s ++ [[.i .i64 (idxM r (px, py))]] = ints (s ++ [idxM r (px, py)]) := by simp [ints]
    replace hst := Hid.mk hst
    replace hstop := Hid.mk hstop
    have n3 : ¬ (2 = n' + 17) := by omega
    clear hsl
    refine AL ?_
    refine CV (l02Index_fn G r px py hr) ?_
    by_cases ck : idxM r (px, py) < 0
    · have := hstop.out (by rw [hst.out, if_pos ck])
      replace this := Hid.mk this
      clear hb
      refine AL ?_
      simp [retA, backA, backsA, setA, this.out]
    · have hst2 := hst.out
      rw [if_neg ck] at hst2
      replace hst2 := Hid.mk hst2
      refine AL ?_
      exact ⟨cs.length - (i + 1), by omega, i + 1, s ++ [idxM r (px, py)], e + 1, by omega, by omega, by simp [setF_if, *], by simp [setF_if, *], by simp [setF_if, *], by simp [setF_if, *], by simp [upd_if, *], hst2.out⟩
  · have ei : i = cs.length := by omega
    have hs' := hs.out
    rw [ei, List.take_length] at hs'
    refine AL ?_
    rw [hs']
    simp [retA, backA, backsA, newSl, newB, setA, setF_if, h6, hH]
/- The library's binary search in a sorted list of cells. -/
def posM (r : Shape) (c : Int × Int) : Nat := r.countP fun q => lessC q.1 q.2 c.1 c.2
theorem countP_split {α : Type} {p : α → Bool} {l : List α} {i : Nat} (hi : i ≤ l.length) (h1 : ∀ k (h : k < l.length), k < i → p l[k] = true) (h2 : ∀ k (h : k < l.length), i ≤ k → p l[k] = false) : l.countP p = i := by
  have e : l.countP p = (l.take i).countP p + (l.drop i).countP p := by rw [← List.countP_append, List.take_append_drop]
  have e1 : (l.take i).countP p = (l.take i).length := by
    rw [List.countP_eq_length]
    intro x hx
    obtain ⟨k, hk, rfl⟩ := List.mem_iff_getElem.mp hx
    rw [List.length_take] at hk
    rw [List.getElem_take]
    exact h1 k (by omega) (by omega)
  have e2 : (l.drop i).countP p = 0 := by
    rw [List.countP_eq_zero]
    intro x hx
    obtain ⟨k, hk, rfl⟩ := List.mem_iff_getElem.mp hx
    rw [List.length_drop] at hk
    rw [List.getElem_drop, h2 (i + k) (by omega) (by omega)]
    simp
  rw [e, e1, e2, List.length_take]; omega
theorem wru64 {n : Int} (h1 : 0 ≤ n) (h2 : n < 4611686018427387904) : IntKind.u64.wrap n = n := by
  simp [IntKind.wrap, IntKind.bits, IntKind.signed]; omega
theorem bsearch_fn (G : Gv) (r : Shape) (c : Int × Int) (hs : r.Pairwise fun a b => lessC a.1 a.2 b.1 b.2 = true) (hr : r.length < 1000000000) :
    Gives Tryz.prog G 206 [.sl 0 (cells r), cellA c.1 c.2, .fn 207 []] (.tup [.i .i64 (posM r c), .b (decide (c ∈ r))]) := by
  refine .of (.body Tryz.func206 rfl (by simp [Tryz.ntmps206]) ?_)
  rw [Tryz.ntmps206, Tryz.results206]
  have hlen := cells_len r
  obtain ⟨cx, cy⟩ := c
  replace hs := Hid.mk hs
  refine AL ?_
  refine .loop (.inv (fun d E H n' => ∃ i j : Nat, d = j - i ∧ i ≤ j ∧ j ≤ r.length ∧ 0 < n' ∧ E 0 = .sl 0 (cells r) ∧ E 2 = .fn 207 [] ∧ E 4 = .ptr 0 0 0 0 ∧ E 8 = .i .i64 r.length ∧ E 9 = .i .i64 i ∧ E 10 = .i .i64 j ∧ H 0 = some (.box 142 [.i .i64 cx, .i .i64 cy]) ∧
      (∀ k (h : k < r.length), k < i → lessC (r[k]).1 (r[k]).2 cx cy = true) ∧ (∀ k (h : k < r.length), j ≤ k → lessC (r[k]).1 (r[k]).2 cx cy = false)) r.length ?_ ?_)
  · exact ⟨0, r.length, by omega, by omega, by omega, by omega, by simp [setF_if, argE], by simp [setF_if, argE], by simp [setF_if, argE], by simp [setF_if, argE, hlen], by simp [setF_if, argE], by simp [setF_if, argE, hlen], by simp [upd_if], fun k _ hk => by omega, fun k _ hk => by omega⟩
  rintro d E H n' ⟨i, j, hd, hij, hj, hn, h0, h2, h4, h8, h9, h10, hH, hlo, hhi⟩
  replace hlo := Hid.mk hlo
  replace hhi := Hid.mk hhi
  by_cases ci : (i : Int) < j
  · obtain ⟨h, hh⟩ : ∃ h, h = (i + j) / 2 := ⟨_, rfl⟩
    have hhb : i ≤ h ∧ h < j := by omega
    have hhl : h < r.length := by omega
    have hw1 : IntKind.i64.wrap ((i : Int) + j) = (i : Int) + j := wr64 (by omega) (by omega)
    have hw2 : IntKind.u64.wrap ((i : Int) + j) = (i : Int) + j := wru64 (by omega) (by omega)
    have hw3 : IntKind.i64.wrap (h : Int) = h := wr64 (by omega) (by omega)
    have hw4 : IntKind.i64.wrap ((h : Int) + 1) = (h : Int) + 1 := wr64 (by omega) (by omega)
    have hf : Int.fdiv ((i : Int) + j) (2 ^ min 1 IntKind.u64.bits) = (h : Int) := by
      rw [show ((2 : Int) ^ min 1 IntKind.u64.bits) = 2 from rfl, Int.fdiv_eq_ediv_of_nonneg _ (by omega)]; omega
    have hro := cells_at (l := r) (i := h) (by omega)
    rw [show r.getD h (0, 0) = r[h]'hhl by rw [List.getD_eq_getElem?_getD, List.getElem?_eq_getElem (by omega)]; rfl] at hro
    obtain ⟨q, hq⟩ : ∃ q, r[h]'hhl = q := ⟨_, rfl⟩
    rw [hq] at hro
    have hlt : lessC q.1 q.2 cx cy = true → ∀ k (hk : k < r.length), k < h + 1 → lessC (r[k]).1 (r[k]).2 cx cy = true := fun hl k hk hkh => by
      by_cases e : k = h
      · subst e; rw [hq]; exact hl
      · have := List.pairwise_iff_getElem.mp hs.out k h hk hhl (by omega)
        rw [hq] at this
        exact lessC_trans (a := r[k]) (b := q) (c := (cx, cy)) this hl
    have hge : lessC q.1 q.2 cx cy = false → ∀ k (hk : k < r.length), h ≤ k → lessC (r[k]).1 (r[k]).2 cx cy = false := fun hl k hk hkh => by
      by_cases e : k = h
      · subst e; rw [hq]; exact hl
      · have := List.pairwise_iff_getElem.mp hs.out h k hhl hk (by omega)
        rw [hq] at this
        cases z : lessC (r[k]).1 (r[k]).2 cx cy with
        | false => rfl
        | true => have := lessC_trans (a := q) (b := r[k]) (c := (cx, cy)) this z; rw [hl] at this; cases this
    have hdec : decide (cmpC q.1 q.2 cx cy < 0) = lessC q.1 q.2 cx cy := by rw [cmpC_cases]; cases lessC q.1 q.2 cx cy <;> simp <;> split <;> simp
    obtain ⟨qx, qy⟩ := q
    simp only at hro hdec hlt hge
    replace hlt := Hid.mk hlt
    replace hge := Hid.mk hge
    replace hq := Hid.mk hq
    replace hh := Hid.mk hh
    refine AL ?_
    refine CQ (compareCells_fn G qx qy cx cy) ?_
    cases cl : lessC qx qy cx cy with
    | true =>
      rw [cl] at hdec
      refine AL ?_
      exact ⟨j - (h + 1), by omega, h + 1, j, rfl, by omega, by omega, by omega, by simp [setF_if, *], by simp [setF_if, *], by simp [setF_if, *], by simp [setF_if, *], by simp [setF_if, *], by simp [setF_if, *], by simp [*], hlt.out cl, hhi.out⟩
    | false =>
      rw [cl] at hdec
      refine AL ?_
      exact ⟨h - i, by omega, i, h, rfl, by omega, by omega, by omega, by simp [setF_if, *], by simp [setF_if, *], by simp [setF_if, *], by simp [setF_if, *], by simp [setF_if, *], by simp [setF_if, *], by simp [*], hlo.out, hge.out cl⟩
  · obtain rfl : i = j := by omega
    have hpos : posM r (cx, cy) = i := by
      unfold posM
      exact countP_split hj hlo.out hhi.out
    by_cases cl : (i : Int) < r.length
    · have hil : i < r.length := by omega
      have hro := cells_at (l := r) (i := i) hil
      rw [show r.getD i (0, 0) = r[i]'hil by rw [List.getD_eq_getElem?_getD, List.getElem?_eq_getElem hil]; rfl] at hro
      have hqn := hhi.out i hil (Nat.le_refl _)
      have hdec : (cmpC (r[i]'hil).1 (r[i]'hil).2 cx cy == 0) = decide ((cx, cy) ∈ r) := by
        rw [cmpC_cases, hqn]
        simp only [Bool.false_eq_true, if_false]
        by_cases e : r[i]'hil = (cx, cy)
        · have h1 : (cx, cy) ∈ r := e ▸ List.getElem_mem hil
          rw [e]
          simp [h1, lessC_self]
        · have h1 : (cx, cy) ∉ r := fun h => by
            obtain ⟨k, hk, hkc⟩ := List.mem_iff_getElem.mp h
            rcases Nat.lt_trichotomy k i with h2 | rfl | h2
            · have := hlo.out k hk h2
              rw [hkc, lessC_self] at this; cases this
            · exact e hkc
            · have := List.pairwise_iff_getElem.mp hs.out i k hil hk h2
              rw [hkc] at this
              rw [this] at hqn; cases hqn
          have h2 : lessC cx cy (r[i]'hil).1 (r[i]'hil).2 = true := by
            cases z : lessC cx cy (r[i]'hil).1 (r[i]'hil).2 with
            | true => rfl
            | false => exact absurd (lessC_total (a := r[i]'hil) (b := (cx, cy)) hqn z) e
          rw [h2]; simp [h1]
      generalize r[i]'hil = q at hro hdec hqn
      obtain ⟨qx, qy⟩ := q
      simp only at hro hdec hqn
      replace hpos := Hid.mk hpos
      clear hqn
      generalize decide ((cx, cy) ∈ r) = dd at hdec
      replace hdec := Hid.mk hdec
      refine AL ?_
      refine CQ (compareCells_fn G qx qy cx cy) ?_
      rw [show cmpC qx qy cx cy = cmpC qx qy cx cy from rfl]
      have hdec2 := hdec.out
      refine AL ?_
      simp [retA, backA, backsA, hpos.out]
    · have hdec : decide ((cx, cy) ∈ r) = false := by
        rw [decide_eq_false_iff_not]
        intro h
        obtain ⟨k, hk, hkc⟩ := List.mem_iff_getElem.mp h
        have := hlo.out k hk (by omega)
        rw [hkc, lessC_self] at this; cases this
      replace hpos := Hid.mk hpos
      refine AL ?_
      simp [retA, backA, backsA, hpos.out, hdec]
theorem idx_pos {r : Shape} {c : Int × Int} (hs : r.Pairwise fun a b => lessC a.1 a.2 b.1 b.2 = true) (h : c ∈ r) : idxM r c = posM r c := by
  obtain ⟨k1, k2, k3⟩ := idx_mem h
  generalize idxM r c = k at k1 k2 k3
  obtain ⟨j, rfl⟩ : ∃ j : Nat, k = j := ⟨k.toNat, by omega⟩
  have hj : j < r.length := by omega
  have e : r[j]'hj = c := by
    rw [Int.toNat_natCast, List.getD_eq_getElem?_getD, List.getElem?_eq_getElem hj] at k3; exact k3
  have : posM r c = j := by
    unfold posM
    refine countP_split (by omega) (fun k hk hkj => ?_) (fun k hk hkj => ?_)
    · have := List.pairwise_iff_getElem.mp hs k j hk hj hkj
      rw [e] at this; exact this
    · by_cases q : k = j
      · subst q; rw [e]; exact lessC_self _ _
      · have := List.pairwise_iff_getElem.mp hs j k hj hk (by omega)
        rw [e] at this
        cases z : lessC (r[k]).1 (r[k]).2 c.1 c.2 with
        | false => rfl
        | true => have h2 := lessC_trans (a := c) (b := r[k]) (c := c) this z; rw [lessC_self] at h2; cases h2
  rw [this]
theorem cellsToSet_o (G : Gv) (r cs : Shape) (hs : r.Pairwise fun a b => lessC a.1 a.2 b.1 b.2 = true) (hr : r.length < 1000000000) (hc : cs.length < 1000000000) : GivesO Tryz.prog G 154 [.sl 0 (cells r), .sl 0 (cells cs)] (setA (setM r cs)) := by
  refine .of (.body Tryz.func154 rfl (by simp [Tryz.ntmps154]) ?_)
  rw [Tryz.ntmps154, Tryz.results154]
  have hlen := cells_len cs
  replace hs := Hid.mk hs
  refine AL ?_
  refine .loop (.inv (fun d E H n' => ∃ (i : Nat) (s : List Int) (e : Nat), i + d = cs.length ∧ 2 < n' ∧ E 0 = .sl 0 (cells r) ∧ E 12 = .sl 0 (cells cs) ∧ E 13 = .i .i64 cs.length ∧ E 6 = .own 2 e ∧ E 14 = .i .i64 i ∧ H 2 = some (.arr e 2 1 (ints s) 1) ∧ setM r (cs.take i) = some s) cs.length ?_ ?_)
  · exact ⟨0, [], 0, by omega, by omega, by simp [setF_if, argE], by simp [setF_if, argE], by simp [setF_if, argE, hlen], by simp [setF_if, argE], by simp [setF_if, argE], by simp [upd_if, ints], rfl⟩
  rintro d E H n' ⟨i, s, e, hi, hn, h0, h12, h13, h6, h14, hH, hst0⟩
  replace hst0 := Hid.mk hst0
  by_cases c : (i : Int) < cs.length
  · have hw_i : IntKind.i64.wrap ((i : Int) + 1) = (i : Int) + 1 := wr64 (by omega) (by omega)
    have hro := cells_at (l := cs) (i := i) (by omega)
    have hst := setM_take (i := i) (by omega) hst0.out
    have hsl := setM_len hst0.out
    have hstop := fun h => setM_stop (r := r) (cs := cs) (i := i) (by omega) h
    rw [List.length_take] at hsl
    have hle : (ints s).length = s.length := ints_len s
    have hb : (s.length + 1) * 8 ≤ 140737488355328 := by omega
    generalize cs.getD i (0, 0) = p at hro hst
    have hap : ints s ++ [[.i .i64 (posM r p : Int)]] = ints (s ++ [(posM r p : Int)]) := by simp [ints]
    have n3 : ¬ (2 = n' + 3) := by omega
    have n17 : ¬ (2 = n' + 17) := by omega
    have hb1 := bsearch_fn G r p hs.out hr
    by_cases hm : p ∈ r
    · have hip := idx_pos hs.out hm
      rw [hip, if_neg (by omega)] at hst
      rw [show decide (p ∈ r) = true by simpa using hm] at hb1
      replace hst := Hid.mk hst
      replace hip := Hid.mk hip
      replace hm := Hid.mk hm
      replace hb1 := Hid.mk hb1
      clear hsl hstop
      obtain ⟨px, py⟩ := p
      generalize (posM r (px, py) : Int) = pm at hap hb1 hst hip
      refine AL ?_
      refine CV hb1.out ?_
      refine AL ?_
      exact ⟨cs.length - (i + 1), by omega, i + 1, s ++ [pm], e + 1, by omega, by omega, by simp [setF_if, *], by simp [setF_if, *], by simp [setF_if, *], by simp [setF_if, *], by simp [setF_if, *], by simp [upd_if, *], hst.out⟩
    · have hne : idxM r p = -1 := idx_not hm
      rw [hne, if_pos (by omega)] at hst
      have hnone := hstop hst
      rw [show decide (p ∈ r) = false by simpa using hm] at hb1
      replace hnone := Hid.mk hnone
      replace hb1 := Hid.mk hb1
      clear hsl hstop hst hne hm hap hb
      obtain ⟨px, py⟩ := p
      refine AL ?_
      refine CV hb1.out ?_
      refine AL ?_
      refine ⟨[], ?_, by simp⟩
      rw [hnone.out]
      exact ownX_mkT (s1 := []) (ownX_sl ownA_nil) ownX_mkb
  · have ei : i = cs.length := by omega
    have hs' := hst0.out
    rw [ei, List.take_length] at hs'
    refine AL ?_
    refine ⟨[2], ?_, by simp⟩
    rw [hs', ← List.append_nil [2]]
    exact ownX_mkT (ownX_sl (ownA_mk hH (ints_scal _) (by decide) (ints_fit _))) ownX_mkb
end Go.Proofs
end
section
open Go Go.Big
namespace Go.Proofs
set_option maxHeartbeats 2000000
def numsM (r : Shape) (t : Nat) : Option (List Int) := setM r (normM (turnL r t))
theorem turnL_length (r : Shape) (t : Nat) : (turnL r t).length = r.length := by simp [turnL]
/-- What both TurnNumbers give. -/
def tnM (b : Bool) (r : Shape) (k : Int) : List Int × Int := if b then (if inT k then (match numsM r k.toNat with
  | some s => (s, 0)
  | none => ([], 5)) else ([], 2)) else ([], 1)
where inT (k : Int) : Bool := decide (k ≥ 0) && decide (k ≤ 7)
end Go.Proofs
end
