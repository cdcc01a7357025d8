/- Walks: Plain law: the symmetries of a puzzle, both programs. No condition. | Plain law: what a solution is, turned. No condition. | TurnSolution: both programs' functions. Condition: the given contracts hold. | Numbers written into puzzles and placements; held in them. No condition. | Placements whose numbers are still those that were written. No condition. | The statement's law: it answers true if the two agree. No condition. -/
import Derived.Test.YtdbkkjoejomcmaaGreatBO
import Derived.Test.YtdbkkjoejomcmaaGreatWk12
import Derived.Test.YtdbkkjoejomcmaaGreatWk13
import Derived.Test.YtdbkkjoejomcmaaGreatWk6
import Derived.Test.YtdbkkjoejomcmaaGreatBC
set_option linter.unusedVariables false
set_option linter.unusedSimpArgs false
section
open Go Go.Big
namespace Go.Proofs
set_option maxHeartbeats 2000000
theorem stepT_inj {p q : Int × Int} (hp : inB p) (hq : inB q) (h : stepT p = stepT q) : p = q := by
  unfold stepT at h
  unfold inB at hp hq
  simp only [Prod.mk.injEq] at h
  rw [wr1 (by omega) (by omega), wr1 (by omega) (by omega)] at h
  exact Prod.ext h.2 (by omega)
theorem iterT_inj {p q : Int × Int} (hp : inB p) (hq : inB q) : ∀ {n : Nat}, iterT p n = iterT q n → p = q
  | 0, h => h
  | n + 1, h => iterT_inj hp hq (n := n) (stepT_inj (inB_iter hp n) (inB_iter hq n) h)
theorem turnM_inj {p q : Int × Int} (hp : inB p) (hq : inB q) {t : Nat} (h : turnM p t = turnM q t) : p = q := by
  have hf : ∀ {x : Int × Int}, inB x → inB (flipT x t) := fun {x} hx => by
    unfold flipT
    unfold inB at hx ⊢
    split
    · rw [wr1 (by omega) (by omega)]
      (try simp only)
      omega
    · exact hx
  have := iterT_inj (hf hp) (hf hq) h
  unfold flipT at this
  unfold inB at hp hq
  split at this
  · simp only [Prod.mk.injEq] at this
    rw [wr1 (by omega) (by omega), wr1 (by omega) (by omega)] at this
    exact Prod.ext (by omega) this.2
  · exact this
theorem norm_map {l : Shape} (hl : 0 < l.length) (h : ∀ p ∈ l, inB p) : normM l = l.map fun p => (p.1 + (0 - (minF l l.length).1), p.2 + (0 - (minF l l.length).2)) := by
  obtain ⟨g1, ⟨p, hp, g2⟩, ⟨q, hq, g3⟩⟩ := minF_spec hl
  have kp := h p hp
  have kq := h q hq
  unfold inB at kp kq
  unfold normM
  rw [wr1 (by omega) (by omega), wr1 (by omega) (by omega), movedM_small (fun x hx => by have := h x hx; unfold inB at this; omega) (by omega) (by omega)]
theorem minF_perm {l k : Shape} (hp : l.Perm k) (hl : 0 < l.length) : minF l l.length = minF k k.length := by
  have hk : 0 < k.length := by rw [← hp.length_eq]; exact hl
  obtain ⟨g1, ⟨p, hp1, g2⟩, ⟨q, hq, g3⟩⟩ := minF_spec hk
  exact minF_is hl (fun x hx => g1 x (hp.mem_iff.mp hx)) ⟨p, hp.mem_iff.mpr hp1, g2⟩ ⟨q, hp.mem_iff.mpr hq, g3⟩
theorem nodup_le {α : Type} [DecidableEq α] : ∀ {l k : List α}, l.Nodup → (∀ x ∈ l, x ∈ k) → l.length ≤ k.length
  | [], _, _, _ => Nat.zero_le _
  | x :: l, k, hn, h => by
    rw [List.nodup_cons] at hn
    have hx := h x List.mem_cons_self
    have := nodup_le (l := l) (k := k.erase x) hn.2 (fun y hy => (List.mem_erase_of_ne (fun (e : y = x) => hn.1 (e ▸ hy))).mpr (h y (List.mem_cons_of_mem _ hy)))
    rw [List.length_erase_of_mem hx] at this
    have hk := List.length_pos_of_mem hx
    rw [List.length_cons]; omega
theorem region_norm {r : Shape} (h : regionS r = true) : normM r = r := by
  have hb := boxed_of h
  unfold regionS at h
  simp only [Bool.and_eq_true, beq_iff_eq, decide_eq_true_eq] at h
  obtain ⟨hs, ⟨⟨m1, m2⟩, _⟩, _⟩ := h
  obtain ⟨_, _, hp, _⟩ := shapeM_spec hs
  rw [norm_map (by omega) (fun p hp => by have := hb.box p hp; unfold inB; omega), m1, m2]
  simp
theorem sym_eq {r : Shape} (h : regionS r = true) (t : Nat) : symQI r t = symQS r t := by
  have hb := boxed_of h
  have hn := region_norm h
  have hs : r.Pairwise (fun a b => lessC a.1 a.2 b.1 b.2 = true) := by
    unfold regionS at h
    simp only [Bool.and_eq_true] at h
    exact (shapeM_spec h.1).1
  have h0 : 0 < r.length := by
    unfold regionS at h
    simp only [Bool.and_eq_true] at h
    have := (shapeM_spec h.1).2.2.1
    omega
  have hin : ∀ p ∈ r, inB p := fun p hp => by have := hb.box p hp; unfold inB; omega
  have hT : ∀ p ∈ turnL r t, inB p := fun p hp => by
    obtain ⟨q, hq, rfl⟩ := List.mem_map.mp hp
    exact inB_turn (hin q hq) t
  have hTl : (turnL r t).length = r.length := turnL_len r t
  have hTn : (turnL r t).Nodup := by
    unfold turnL
    rw [List.Nodup, List.pairwise_map]
    exact hb.nodup.imp_of_mem (fun ha hc hne e => hne (turnM_inj (hin _ ha) (hin _ hc) e))
  unfold symQI symQS numsM formM
  rw [hn]
  generalize turnL r t = T at hT hTl hTn
  have hsp := sortM_perm T
  have hss := sortM_sorted T
  have hsl : (sortM T).length = T.length := hsp.length_eq
  have e1 := norm_map (l := T) (by omega) hT
  have e2 := norm_map (l := sortM T) (by omega) (fun p hp => hT p (hsp.mem_iff.mp hp))
  rw [minF_perm hsp (by omega)] at e2
  generalize minF T T.length = m at e1 e2
  have hperm : (normM (sortM T)).Perm (normM T) := by rw [e1, e2]; exact hsp.map _
  have hnd : (normM (sortM T)).Nodup := by
    rw [e2, List.Nodup, List.pairwise_map]
    exact (hsp.nodup_iff.mpr hTn).imp (fun {a b} hne e => hne (by
      simp only [Prod.mk.injEq] at e
      exact Prod.ext (by omega) (by omega)))
  have hst : (normM (sortM T)).Pairwise (fun a b => lessC b.1 b.2 a.1 a.2 = false) := by
    rw [e2, List.pairwise_map]
    refine hss.imp fun {a b} hab => ?_
    simp only [lessC, Bool.or_eq_false_iff, Bool.and_eq_false_iff, decide_eq_false_iff_not, beq_eq_false_iff_ne] at hab ⊢
    omega
  have hlen : (normM (sortM T)).length = r.length := by rw [normM_len]; omega
  generalize normM (sortM T) = N at hperm hnd hst hlen
  generalize normM T = M at hperm
  have hr2 : r.Pairwise (fun a b => lessC b.1 b.2 a.1 a.2 = false) := hs.imp fun {a b} hab => by
    cases z : lessC b.1 b.2 a.1 a.2 with
    | false => rfl
    | true => have := lessC_trans' hab z; rw [lessC_self] at this; simp at this
  by_cases c : N = r
  · subst c
    obtain ⟨s, hs⟩ := setM_yes (r := N) (cs := M) (fun x hx => hperm.mem_iff.mpr hx)
    rw [hs]; simp
  · rw [decide_eq_false c]
    symm
    cases hq : setM r M with
    | none => rfl
    | some s =>
      exfalso
      apply c
      have hsub := (setM_some hq).1
      have hNr : ∀ x ∈ N, x ∈ r := fun x hx => hsub x (hperm.mem_iff.mp hx)
      have hrN : ∀ x ∈ r, x ∈ N := fun x hx => by
        apply Classical.byContradiction
        intro hx2
        have := nodup_le (l := x :: N) (k := r) (List.nodup_cons.mpr ⟨hx2, hnd⟩) (fun y hy => by
          rcases List.mem_cons.mp hy with rfl | hy
          · exact hx
          · exact hNr y hy)
        rw [List.length_cons] at this; omega
      have hp2 := perm_of_nodup hnd hb.nodup (fun x => ⟨hNr x, hrN x⟩)
      exact List.Perm.eq_of_pairwise (fun a b _ _ h1 h2 => lessC_total h2 h1) hst hr2 hp2
theorem tidy_forms (cs : Shape) (t : Nat) (b : Bool) (ht : t = if b then 8 else 4) : tidyM (formsL cs t) = formsF cs t := by
  have := forms_eq ⟨cs, 0, b⟩
  unfold formsI formsP at this
  rw [ht]; exact this
theorem hand_eq (p : PieceM) : handS p = !handP p := by
  unfold handS handP formsP
  rw [tidy_forms p.cs 4 false rfl, tidy_forms p.cs 8 true rfl]
  cases p.b with
  | true => simp
  | false => simp
theorem symT_congr {p q : Nat → Bool} (h : ∀ t, p t = q t) (n : Nat) : symT p n = symT q n := by
  rw [show p = q from funext h]
theorem symsP_eq {r : Shape} {l : List PieceM} (h : regionS r = true) : symsI r l = symsS r l := by
  unfold symsI symsS
  rw [symT_congr (sym_eq h) 8]
  have e : l.all handS = !l.any handP := by
    rw [show handS = fun p => !handP p from funext hand_eq]
    induction l with
    | nil => rfl
    | cons x l ih => rw [List.all_cons, List.any_cons, ih]; simp
  rw [e]
  refine List.filter_congr fun x _ => ?_
  by_cases c : x < 4
  · simp [c, show ¬ x ≥ 4 by omega]
  · simp [c, show x ≥ 4 by omega]
theorem symsS_len (r : Shape) (l : List PieceM) : (symsS r l).length ≤ 8 := by
  unfold symsS
  have := List.length_filter_le (fun x => decide (x < 4) || l.all handS) (symT (symQS r) 8)
  have := symT_len (symQS r) 8
  omega
theorem psym_eq (r : Shape) (l : List PieceM) : psymI r l = psymS r l ∧ (psymI r l).1.length < 1000000000 := by
  unfold psymI psymS
  rw [fits_eq]
  by_cases c : fitsS r l = true
  · rw [if_pos c, if_pos c, symsP_eq (puzzle_parts (fits_puzzle c)).1]
    have := symsS_len r l
    exact ⟨rfl, by show (symsS r l).length < _; omega⟩
  · rw [if_neg c, if_neg c]; simp
end Go.Proofs
end
section
open Go Go.Big
namespace Go.Proofs
set_option maxHeartbeats 2000000
theorem turn_nodup {r : Shape} (h : regionS r = true) (t : Nat) : (normM (turnL r t)).Nodup := by
  have hb := boxed_of h
  have h0 : 0 < r.length := by
    unfold regionS at h
    simp only [Bool.and_eq_true] at h
    have := (shapeM_spec h.1).2.2.1
    omega
  have hin : ∀ p ∈ r, inB p := fun p hp => by have := hb.box p hp; unfold inB; omega
  have hT : ∀ p ∈ turnL r t, inB p := fun p hp => by
    obtain ⟨q, hq, rfl⟩ := List.mem_map.mp hp
    exact inB_turn (hin q hq) t
  have hTl : (turnL r t).length = r.length := turnL_len r t
  have hTn : (turnL r t).Nodup := by
    unfold turnL
    rw [List.Nodup, List.pairwise_map]
    exact hb.nodup.imp_of_mem (fun ha hc hne e => hne (turnM_inj (hin _ ha) (hin _ hc) e))
  rw [norm_map (by omega) hT, List.Nodup, List.pairwise_map]
  exact hTn.imp (fun {a b} hne e => hne (by
    simp only [Prod.mk.injEq] at e
    exact Prod.ext (by omega) (by omega)))
theorem nums_inj {r : Shape} (h : regionS r = true) {t : Nat} {ns : List Int} (hn : numsM r t = some ns) {i j : Nat} (hi : i < ns.length) (hj : j < ns.length) (e : ns.getD i 0 = ns.getD j 0) : i = j := by
  obtain ⟨_, hp, _, _⟩ := setM_some hn
  have hd := turn_nodup h t
  rw [← hp] at hd
  unfold pickM at hd
  have := List.getElem_inj (xs := ns.map fun k => r.getD k.toNat (0, 0)) (i := i) (j := j) (h₀ := by simpa using hi) (h₁ := by simpa using hj) hd
  apply this.mp
  simp only [List.getElem_map]
  simp only [List.getD_eq_getElem?_getD, List.getElem?_eq_getElem hi, List.getElem?_eq_getElem hj, Option.getD_some] at e
  rw [e]
theorem solved_facts {r : Shape} {l : List PieceM} {s : List (Int × List Int)} (h : solvedS r l s = true) : fitsS r l = true ∧ (∀ x ∈ s, 0 < x.2.length ∧ ∀ i ∈ x.2, 0 ≤ i ∧ i < r.length) ∧ s.Pairwise apartP := by
  unfold solvedS at h
  simp only [Bool.and_eq_true] at h
  obtain ⟨⟨⟨h1, h2⟩, h3⟩, _⟩ := h
  exact ⟨h1, fun x hx => place_cells (asc_mem h2 hx), (clear_iff s).mp h3⟩
theorem turnPl_nodup {r : Shape} {l : List PieceM} {s : List (Int × List Int)} (h : solvedS r l s = true) {t : Nat} {ns : List Int} (hn : numsM r t = some ns) : (s.map (turnPl ns)).Nodup := by
  obtain ⟨h1, h2, h3⟩ := solved_facts h
  have hreg := (puzzle_parts (fits_puzzle h1)).1
  have hnl := (numsM_facts hn).1
  rw [List.Nodup, List.pairwise_map]
  refine h3.imp_of_mem fun {x y} hx hy hap e => ?_
  obtain ⟨hx0, hxi⟩ := h2 x hx
  obtain ⟨_, hyi⟩ := h2 y hy
  have e2 : sortedB (turnX ns x.2) = sortedB (turnX ns y.2) := (Prod.mk.injEq _ _ _ _ ▸ e : x.1 = y.1 ∧ _).2
  obtain ⟨a, ha⟩ := List.exists_mem_of_length_pos hx0
  have m1 : ns.getD a.toNat 0 ∈ turnX ns x.2 := List.mem_map_of_mem ha
  have m2 : ns.getD a.toNat 0 ∈ turnX ns y.2 := by
    have := (sortedB_props (turnX ns x.2)).1.mem_iff.mpr m1
    rw [e2] at this
    exact (sortedB_props (turnX ns y.2)).1.mem_iff.mp this
  obtain ⟨b, hb, hab⟩ := List.mem_map.mp m2
  have ka := hxi a ha
  have kb := hyi b hb
  have := nums_inj hreg hn (by omega) (by omega) hab
  have hba : a = b := by omega
  have : overM x.2 y.2 = true := over_iff.mpr ⟨a, ha, hba ▸ hb⟩
  rw [show overM x.2 y.2 = false from hap] at this
  cases this
theorem solved_len {r : Shape} {l : List PieceM} {s : List (Int × List Int)} (h : solvedS r l s = true) : s.length ≤ 40 ∧ ∀ x ∈ s, x.2.length ≤ 40 := by
  obtain ⟨h1, h2, h3⟩ := solved_facts h
  obtain ⟨_, _, gr, _⟩ := puzzle_facts (fits_puzzle h1)
  have hasc : ∀ x ∈ s, x.2.Pairwise (· < ·) := fun x hx => by
    unfold solvedS at h
    simp only [Bool.and_eq_true] at h
    have := asc_mem h.1.1.2 hx
    unfold placeS at this
    simp only [Bool.and_eq_true, decide_eq_true_eq] at this
    exact inc_lt this.1.2
  constructor
  · have hm : (s.map fun x => (x.2.getD 0 0).toNat).Nodup := by
      rw [List.Nodup, List.pairwise_map]
      refine h3.imp_of_mem fun {x y} hx hy hap e => ?_
      obtain ⟨hx0, hxi⟩ := h2 x hx
      obtain ⟨hy0, hyi⟩ := h2 y hy
      have ma : x.2.getD 0 0 ∈ x.2 := by rw [List.getD_eq_getElem?_getD, List.getElem?_eq_getElem hx0]; exact List.getElem_mem _
      have mb : y.2.getD 0 0 ∈ y.2 := by rw [List.getD_eq_getElem?_getD, List.getElem?_eq_getElem hy0]; exact List.getElem_mem _
      have ka := hxi _ ma
      have kb := hyi _ mb
      have hba : x.2.getD 0 0 = y.2.getD 0 0 := by omega
      have : overM x.2 y.2 = true := over_iff.mpr ⟨_, ma, hba ▸ mb⟩
      rw [show overM x.2 y.2 = false from hap] at this
      cases this
    have := nodup_le (k := List.range r.length) hm (fun z hz => by
      obtain ⟨x, hx, rfl⟩ := List.mem_map.mp hz
      obtain ⟨hx0, hxi⟩ := h2 x hx
      have ma : x.2.getD 0 0 ∈ x.2 := by rw [List.getD_eq_getElem?_getD, List.getElem?_eq_getElem hx0]; exact List.getElem_mem _
      have ka := hxi _ ma
      exact List.mem_range.mpr (by omega))
    rw [List.length_map, List.length_range] at this
    omega
  · intro x hx
    have hm : (x.2.map Int.toNat).Nodup := by
      rw [List.Nodup, List.pairwise_map]
      refine (hasc x hx).imp_of_mem fun {a b} ha hb hab e => ?_
      have := (h2 x hx).2 a ha
      have := (h2 x hx).2 b hb
      omega
    have := nodup_le (k := List.range r.length) hm (fun z hz => by
      obtain ⟨a, ha, rfl⟩ := List.mem_map.mp hz
      have := (h2 x hx).2 a ha
      exact List.mem_range.mpr (by omega))
    rw [List.length_map, List.length_range] at this
    omega
theorem cntP_leS {n : Nat} : ∀ {l : List (Int × List Int)}, (∀ x ∈ l, x.2.length ≤ n) → cntP l ≤ (l.length * (1 + n) : Nat)
  | [], _ => by simp [cntP]
  | x :: l, h => by
    have h1 := h x List.mem_cons_self
    have h2 := cntP_leS (l := l) (fun y hy => h y (List.mem_cons_of_mem _ hy))
    have h3 : ((x :: l).length * (1 + n) : Nat) = l.length * (1 + n) + (1 + n) := by rw [List.length_cons, Nat.add_mul, Nat.one_mul]
    rw [h3]
    simp only [cntP]
    omega
theorem small_placesS {w : List (Int × List Int)} {n : Nat} (hn : n ≤ 100000) (h1 : w.length ≤ n) (h2 : ∀ x ∈ w, x.2.length ≤ 40) : w.length < 1000000000 ∧ (∀ x ∈ w, x.2.length < 1000000000) ∧ cntP w < 100000000000 := by
  refine ⟨by omega, fun x hx => by have := h2 x hx; omega, ?_⟩
  have := cntP_leS h2
  omega
theorem inM_lt {k : Int} {n : Nat} (h : inM k n = true) : 0 ≤ k ∧ k.toNat < n := by
  unfold inM at h
  simp only [Bool.and_eq_true, decide_eq_true_eq] at h
  omega
def nsM (r : Shape) (k : Int) : List Int := (numsM r k.toNat).getD []
theorem sym_nums {r : Shape} {l : List PieceM} {k : Int} (h : hasM (symsS r l) k = true) : ∃ t : Nat, k = t ∧ t < 8 ∧ numsM r t = some (nsM r k) := by
  unfold hasM at h
  obtain ⟨x, hx, e⟩ := List.any_eq_true.mp h
  obtain rfl : x = k := by simpa using e
  unfold symsS at hx
  obtain ⟨t, rfl, ht, hq⟩ := symT_mem (List.mem_filter.mp hx).1
  refine ⟨t, rfl, ht, ?_⟩
  unfold symQS at hq
  unfold nsM
  rw [Int.toNat_natCast]
  obtain ⟨s, hs⟩ := Option.isSome_iff_exists.mp hq
  rw [hs]; rfl
end Go.Proofs
end
section
open Go Go.Big
namespace Go.Proofs
set_option maxHeartbeats 2000000
def codS (r : Shape) (l : List PieceM) (s : List (Int × List Int)) : Int := if fitsS r l then (if solvedS r l s then 0 else 2) else 1
def codI (r : Shape) (l : List PieceM) (s : List (Int × List Int)) : Int := if fitsI r l then (if solvedI r l s then 0 else 2) else 1
theorem cod_eq (r : Shape) (l : List PieceM) (s : List (Int × List Int)) (hs : s.length < 1000000000) : codI r l s = codS r l s := by
  unfold codI codS
  have := solved_eq r l s hs
  unfold isSolvedI at this
  rw [fits_eq] at this ⊢
  by_cases c : fitsS r l = true
  · rw [c, Bool.true_and] at this
    rw [if_pos c, if_pos c, this]
  · rw [if_neg c, if_neg c]
theorem cod_zero {r : Shape} {l : List PieceM} {s : List (Int × List Int)} (h : codS r l s = 0) : solvedS r l s = true := by
  unfold codS at h
  by_cases c : fitsS r l = true
  · rw [if_pos c] at h
    by_cases c2 : solvedS r l s = true
    · exact c2
    · rw [if_neg c2] at h; omega
  · rw [if_neg c] at h; omega
theorem l16Code_fn (G : Gv) (r : Shape) (l : List PieceM) (s : List (Int × List Int)) (hr : r.length < 1000000000) (hl : l.length < 1000000000) (hpl : ∀ p ∈ l, p.cs.length < 1000000000) (hs : s.length < 1000000000) (hsc : ∀ x ∈ s, x.2.length < 1000000000) :
    Gives Tryz.prog G 104 [.ag [.sl 0 (cells r), .sl 0 (pieces l)], .sl 0 (places s)] (.i .i64 (codS r l s)) := by
  refine .of (.body Tryz.func104 rfl (by simp [Tryz.ntmps104]) ?_)
  rw [Tryz.ntmps104, Tryz.results104]
  have hf1 := specDoesFit_fn G r l hr hl hpl
  have hf2 := specIsSolved_fn G r l s hr hl hs hsc hpl
  unfold codS
  generalize fitsS r l = a at hf1
  generalize solvedS r l s = b at hf2
  replace hf1 := Hid.mk hf1
  replace hf2 := Hid.mk hf2
  clear hpl hsc
  refine AL ?_
  refine CV hf1.out ?_
  cases a with
  | false =>
    refine AL ?_
    simp [retA, backA, setF_if]
  | true =>
    refine AL ?_
    refine CV hf2.out ?_
    cases b with
    | false =>
      refine AL ?_
      simp [retA, backA, setF_if]
    | true =>
      refine AL ?_
      simp [retA, backA, setF_if]
theorem solutionCode_fn (G : Gv) (hA : AllK G) (r : Shape) (l : List PieceM) (s : List (Int × List Int)) (hr : r.length < 1000000000) (hl : l.length < 1000000000) (hpl : ∀ p ∈ l, p.cs.length < 1000000000) (hs : s.length < 1000000000) (hsc : ∀ x ∈ s, x.2.length < 1000000000) :
    Gives Tryz.prog G 107 [.ag [.sl 0 (cells r), .sl 0 (pieces l)], .sl 0 (places s)] (.i .i64 (codI r l s)) := by
  refine .of (.body Tryz.func107 rfl (by simp [Tryz.ntmps107]) ?_)
  rw [Tryz.ntmps107, Tryz.results107]
  have hf1 := implDoesFit_fn G hA.c1 hA.c2 r l hr hl hpl
  have hf2 : fitsI r l = true → _ := fun h => isSolved_fn G hA.c1 hA.c2 r l s (fitsI_ok h).1 hr (fitsI_ok h).2.1 hl hs hsc (fitsI_ok h).2.2 hpl
  unfold codI
  generalize fitsI r l = a at hf1 hf2
  generalize solvedI r l s = b at hf2
  replace hf1 := Hid.mk hf1
  replace hf2 := Hid.mk hf2
  clear hpl hsc
  refine AL ?_
  refine CV hf1.out ?_
  cases a with
  | false =>
    refine AL ?_
    simp [retA, backA, setF_if]
  | true =>
    refine AL ?_
    refine CV (hf2.out rfl) ?_
    cases b with
    | false =>
      refine AL ?_
      simp [retA, backA, setF_if]
    | true =>
      refine AL ?_
      simp [retA, backA, setF_if]
def tsolS (r : Shape) (l : List PieceM) (s : List (Int × List Int)) (k : Int) : List (Int × List Int) × Int := if codS r l s = 0 then (if hasM (symsS r l) k then (l16T (nsM r k) s, 0) else ([], 2)) else ([], codS r l s)
def tsolI (r : Shape) (l : List PieceM) (s : List (Int × List Int)) (k : Int) : List (Int × List Int) × Int := if codI r l s = 0 then (if hasM (symsI r l) k then (orderP (s.map (turnPl (nsM r k))), 0) else ([], 2)) else ([], codI r l s)
theorem specTurnSolution_fn (G : Gv) (r : Shape) (l : List PieceM) (s : List (Int × List Int)) (k : Int) (hr : r.length < 1000000000) (hl : l.length < 1000000000) (hpl : ∀ p ∈ l, p.cs.length < 1000000000) (hs : s.length < 1000000000) (hsc : ∀ x ∈ s, x.2.length < 1000000000) :
    Gives Tryz.prog G 55 [.ag [.sl 0 (cells r), .sl 0 (pieces l)], .sl 0 (places s), .i .i64 k] (.tup [.sl 1 (places (tsolS r l s k).1), .i .i64 (tsolS r l s k).2]) := by
  refine .of (.body Tryz.func55 rfl (by simp [Tryz.ntmps55]) ?_)
  rw [Tryz.ntmps55, Tryz.results55]
  have hcod := l16Code_fn G r l s hr hl hpl hs hsc
  by_cases c : codS r l s = 0
  · have hsol := cod_zero c
    obtain ⟨hfit, hx, _⟩ := solved_facts hsol
    obtain ⟨g1, g8⟩ := fits_facts hfit
    have hsy := l16Symmetries_fn G r l g1 hr hl g8
    have hres : tsolS r l s k = if hasM (symsS r l) k then (l16T (nsM r k) s, 0) else ([], 2) := by unfold tsolS; rw [if_pos c]
    rw [hres]
    rw [c] at hcod
    have hyl := symsS_len r l
    have hT : hasM (symsS r l) k = true → Gives Tryz.prog G 106 [.ag [.sl 0 (cells r), .sl 0 (pieces l)], .sl 0 (places s), .i .i64 k] (.sl 1 (places (l16T (nsM r k) s))) := fun h => by
      obtain ⟨t, e, _, hn⟩ := sym_nums h
      rw [e] at hn ⊢
      exact l16Turn_fn G r l s t _ hn g1 hr hs (fun x hx' => ⟨hsc x hx', (hx x hx').2⟩)
    have hH := l01Has_fn G (symsS r l) k (by omega)
    generalize l16T (nsM r k) s = OUT at hT
    generalize symsS r l = Y at hsy hT hH hyl
    generalize hasM Y k = b at hT hH
    clear hres c hsol hfit hx g1 g8 hpl hsc
    replace hcod := Hid.mk hcod
    replace hsy := Hid.mk hsy
    replace hT := Hid.mk hT
    replace hH := Hid.mk hH
    refine AL ?_
    refine CV hcod.out ?_
    refine AL ?_
    refine CV hsy.out ?_
    refine AL ?_
    refine CV hH.out ?_
    cases b with
    | false =>
      refine AL ?_
      simp [retA, backA, backsA, places_nil]
    | true =>
      refine AL ?_
      refine CV (hT.out rfl) ?_
      refine AL ?_
      simp [retA, backA, backsA, newSl]
  · have hres : tsolS r l s k = ([], codS r l s) := by unfold tsolS; rw [if_neg c]
    rw [hres]
    have c2 : (codS r l s == 0) = false := by simpa using c
    have c3 : (codS r l s != 0) = true := by simpa using c
    generalize codS r l s = cd at hcod c c2 c3
    clear hres hpl hsc
    replace hcod := Hid.mk hcod
    refine AL ?_
    refine CV hcod.out ?_
    refine AL ?_
    simp [retA, backA, backsA, places_nil]
theorem implTurnSolution_o (G : Gv) (hA : AllK G) (r : Shape) (l : List PieceM) (s : List (Int × List Int)) (k : Int) (hr : r.length < 1000000000) (hl : l.length < 1000000000) (hpl : ∀ p ∈ l, p.cs.length < 1000000000) (hs : s.length < 1000000000) (hsc : ∀ x ∈ s, x.2.length < 1000000000) :
    GivesO Tryz.prog G 56 [.ag [.sl 0 (cells r), .sl 0 (pieces l)], .sl 0 (places s), .i .i64 k] (.tup [.sl 1 (places (tsolI r l s k).1), .i .i64 (tsolI r l s k).2]) := by
  refine .of (.body Tryz.func56 rfl (by simp [Tryz.ntmps56]) ?_)
  rw [Tryz.ntmps56, Tryz.results56]
  have hcod := solutionCode_fn G hA r l s hr hl hpl hs hsc
  by_cases c : codI r l s = 0
  · have c' : codS r l s = 0 := by rw [← cod_eq r l s hs]; exact c
    have hsol := cod_zero c'
    obtain ⟨hfit, hx, _⟩ := solved_facts hsol
    obtain ⟨g1, g8⟩ := fits_facts hfit
    have grs := (puzzle_facts (fits_puzzle hfit)).1
    have hsy := (puzzleSymmetries_o G hA r l g1 hr hl g8).gives
    have hyl := symsS_len r l
    rw [← symsP_eq (puzzle_parts (fits_puzzle hfit)).1] at hyl
    have hres : tsolI r l s k = if hasM (symsI r l) k then (orderP (s.map (turnPl (nsM r k))), 0) else ([], 2) := by unfold tsolI; rw [if_pos c]
    rw [hres]
    rw [c] at hcod
    have hT : hasM (symsI r l) k = true → GivesO Tryz.prog G 111 [.ag [.sl 0 (cells r), .sl 0 (pieces l)], .sl 0 (places s), .i .i64 k] (.sl 1 (places (orderP (s.map (turnPl (nsM r k)))))) := fun h => by
      rw [symsP_eq (puzzle_parts (fits_puzzle hfit)).1] at h
      obtain ⟨t, e, _, hn⟩ := sym_nums h
      have hnd := turnPl_nodup hsol hn
      rw [e] at hn hnd ⊢
      exact turnList_o G hA r l s t _ hn grs g1 hr hs (fun x hx' => ⟨(hx x hx').1, hsc x hx', (hx x hx').2⟩) hnd
    have hH := slicesContains_fn G (symsI r l) k (by omega)
    generalize orderP (s.map (turnPl (nsM r k))) = OUT at hT
    generalize symsI r l = Y at hsy hT hH hyl
    generalize hasM Y k = b at hT hH
    clear hres c c' hsol hfit hx g1 g8 hpl hsc grs
    replace hcod := Hid.mk hcod
    replace hsy := Hid.mk hsy
    replace hT := Hid.mk hT
    replace hH := Hid.mk hH
    refine AL ?_
    refine CV hcod.out ?_
    refine AL ?_
    refine CV hsy.out ?_
    refine AL ?_
    refine CV hH.out ?_
    cases b with
    | false =>
      refine AL ?_
      exact ⟨[], ownX_mkT (s1 := []) (ownX_sl ownA_nil) ownX_mki, by simp⟩
    | true =>
      refine AL ?_
      refine CWO (hT.out rfl) ?_
      intro z H1 S m hz hn hS hf1 hm
      replace hz := Hid.mk hz
      replace hn := Hid.mk hn
      refine AL ?_
      refine ⟨S, ?_, hn.out⟩
      have := ownX_mkT hz.out (ownX_mki (H := H1) (k := .i64) (n := 0))
      rw [List.append_nil] at this
      simpa [retA, setF_if] using this
  · have hres : tsolI r l s k = ([], codI r l s) := by unfold tsolI; rw [if_neg c]
    rw [hres]
    have c2 : (codI r l s == 0) = false := by simpa using c
    have c3 : (codI r l s != 0) = true := by simpa using c
    generalize codI r l s = cd at hcod c c2 c3
    clear hres hpl hsc
    replace hcod := Hid.mk hcod
    refine AL ?_
    refine CV hcod.out ?_
    refine AL ?_
    exact ⟨[], ownX_mkT (s1 := []) (ownX_sl ownA_nil) ownX_mki, by simp⟩
end Go.Proofs
end
section
open Go Go.Big
namespace Go.Proofs
set_option maxHeartbeats 2000000
theorem markPuzzle_m (G : Gv) (r : List (Int × Int)) (l : List PieceM) (k : Int) (hr : r.length < 1000000000) (hl : l.length < 1000000000) (hc : ∀ p ∈ l, p.cs.length < 1000000000) (hk0 : 0 ≤ k) (hk : k + 2 * r.length + cntQ l < 1000000000000) :
    Marks Tryz.prog G 24 (.ag [.sl 1 (cells r), .sl 1 (pieces l)]) (.ag [.sl 1 (cells (runC k r.length)), .sl 1 (pieces (mkQ (k + 2 * r.length) l))]) k (k + 2 * r.length + cntQ l) := by
  intro x H0 n0 S hx hn hS
  have hcn := cntQ_nn l
  obtain ⟨za, zb, s1, s2, rfl, rfl, hxa, hxb⟩ := ownX_ag2 hx
  clear hx
  rw [List.nodup_append] at hn
  obtain ⟨hn1, hn2, hn3⟩ := hn
  have hS1 : ∀ o ∈ s1, o < n0 := fun o ho => hS o (by simp [ho])
  have hS2 : ∀ o ∈ s2, o < n0 := fun o ho => hS o (by simp [ho])
  have pa := (ownX_plain hxa).1
  have pb := (ownX_plain hxb).1
  replace hxa := Hid.mk hxa
  replace hxb := Hid.mk hxb
  replace hn1 := Hid.mk hn1
  replace hn2 := Hid.mk hn2
  replace hn3 := Hid.mk hn3
  replace hS1 := Hid.mk hS1
  replace hS2 := Hid.mk hS2
  replace hc := Hid.mk hc
  clear hS
  refine (.body Tryz.func24 rfl (by simp [Tryz.ntmps24]) ?_)
  rw [Tryz.ntmps24, Tryz.results24]
  refine W.seq ?_
  refine W.region ?_
  refine OP (y := .ptr n0 0 0 0) (H1 := H0.upd n0 (.box 35 [za, zb])) (op := .box 35 (.tmp 0)) ?_ (hs := by rw [st_box]; simp [flatA, pa, pb, argE])
  refine AL ?_
  refine CI ?_
  refine WC.mono (markCellS_m G r k hr hk0 (by omega) _ _ _ s1 (ownX_congr (fun o ho => by rw [upd_if, if_neg (by have := hS1.out o ho; omega)]) hxa.out) hn1.out (fun o ho => by have := hS1.out o ho; omega)) ?_
  rintro _ H1 m ⟨rfl, hm, hz1, hf1⟩
  have hb := hf1 n0 (by omega) (fun h => by have := hS1.out _ h; omega)
  rw [upd_if, if_pos rfl] at hb
  have hxb1 := ownX_congr (H' := H1) (fun o ho => by rw [hf1 o (by have := hS2.out o ho; omega) (fun h => hn3.out o h o ho rfl), upd_if, if_neg (by have := hS2.out o ho; omega)]) hxb.out
  replace hxb1 := Hid.mk hxb1
  replace hz1 := Hid.mk hz1
  replace hf1 := Hid.mk hf1
  clear pa pb
  refine AL ?_
  refine CI ?_
  refine WC.mono (markPieceS_m G l (k + 2 * r.length) hl hc.out (by omega) (by omega) _ _ _ s2 hxb1.out hn2.out (fun o ho => by have := hS2.out o ho; omega)) ?_
  rintro _ H2 m2 ⟨rfl, hm2, hz2, hf2⟩
  have hb2 := hf2 n0 (by omega) (fun h => by have := hS2.out _ h; omega)
  replace hz2 := Hid.mk hz2
  replace hf2 := Hid.mk hf2
  refine AL ?_
  refine ⟨rfl, by omega, ownX_mk2 (ownX_congr (fun o ho => hf2.out o (by have := hS1.out o ho; omega) (fun h => hn3.out o ho o h rfl)) hz1.out) hz2.out, fun o ho hno => ?_⟩
  rw [hf2.out o (by omega) (fun h => hno (by simp [h])), hf1.out o (by omega) (fun h => hno (by simp [h])), upd_if, if_neg (by omega)]
theorem markPlacement_m (G : Gv) (j : Int) (l : List Int) (k : Int) (hl : l.length < 1000000000) (hk0 : 0 ≤ k) (hk : k < 1000000000000) :
    Marks Tryz.prog G 44 (.ag [.i .i64 j, .sl 1 (ints l)]) (.ag [.i .i64 j, .sl 1 (ints (runI k l.length))]) k (k + l.length) := by
  intro x H0 n0 S hx hn hS
  obtain ⟨zi, za, s2, s1, rfl, rfl, hxi, hxa⟩ := ownX_ag2 hx
  obtain ⟨rfl, rfl⟩ := ownX_i hxi
  clear hx hxi
  rw [List.nil_append] at hn hS ⊢
  have pa := (ownX_plain hxa).1
  have pi : plainA H0 (.i .i64 j) = true := rfl
  replace hxa := Hid.mk hxa
  replace hn := Hid.mk hn
  replace hS := Hid.mk hS
  refine (.body Tryz.func44 rfl (by simp [Tryz.ntmps44]) ?_)
  rw [Tryz.ntmps44, Tryz.results44]
  refine W.seq ?_
  refine W.region ?_
  refine OP (y := .ptr n0 0 0 0) (H1 := H0.upd n0 (.box 55 [.i .i64 j, za])) (op := .box 55 (.tmp 0)) ?_ (hs := by rw [st_box]; simp [flatA, pa, pi, argE])
  clear pa pi
  refine AL ?_
  refine CI ?_
  refine WC.mono (markInt64S_m G l k hl hk0 hk _ _ _ s1 (ownX_congr (fun o ho => by rw [upd_if, if_neg (by have := hS.out o ho; omega)]) hxa.out) hn.out (fun o ho => by have := hS.out o ho; omega)) ?_
  rintro _ H1 m ⟨rfl, hm, hz1, hf1⟩
  replace hz1 := Hid.mk hz1
  replace hf1 := Hid.mk hf1
  refine AL ?_
  refine ⟨rfl, by omega, ownX_mk2 (s1 := []) ownX_mki hz1.out, fun o ho hno => ?_⟩
  rw [hf1.out o (by omega) hno, upd_if, if_neg (by omega)]
end Go.Proofs
end
section
open Go Go.Big
namespace Go.Proofs
set_option maxHeartbeats 2000000
theorem mkP_length : ∀ (k : Int) (l : List (Int × List Int)), (mkP k l).length = l.length
  | _, [] => rfl
  | k, p :: l => by simp only [mkP, List.length_cons, mkP_length]
theorem heldPlacementS_fn (G : Gv) (l : List (Int × List Int)) (k : Int) (hl : l.length < 1000000000) (hc : ∀ p ∈ l, p.2.length < 1000000000) (hk0 : 0 ≤ k) (hk : k + cntP l < 1000000000000) :
    Gives Tryz.prog G 32 [.sl 0 (places (mkP k l)), .i .i64 k] (.i .i64 (k + cntP l)) := by
  refine .of (.body Tryz.func32 rfl (by simp [Tryz.ntmps32]) ?_)
  rw [Tryz.ntmps32, Tryz.results32]
  have hlen : (places (mkP k l)).length = l.length := by rw [places_len, mkP_length]
  replace hc := Hid.mk hc
  generalize hM : mkP k l = M at hlen
  replace hM := Hid.mk hM
  refine AL ?_
  refine .loop (.inv (fun d E H n' => ∃ (i : Nat) (k' : Int), i + d = l.length ∧ E 0 = .sl 0 (places M) ∧ E 1 = .i .i64 k' ∧ E 5 = .i .i64 i ∧ M.drop i = mkP k' (l.drop i) ∧ k' + cntP (l.drop i) = k + cntP l ∧ 0 ≤ k') l.length ?_ ?_)
  · exact ⟨0, k, by omega, by simp [setF_if, argE], by simp [setF_if, argE], by simp [setF_if, argE], by simp [hM.out], by simp, hk0⟩
  rintro d E H n' ⟨i, k', hi, h0, h1, h5, hd, hn, hk'⟩
  replace hn := Hid.mk hn
  replace hd := Hid.mk hd
  by_cases c : (i : Int) < l.length
  · have hw_i : IntKind.i64.wrap ((i : Int) + 1) = (i : Int) + 1 := wr64 (by omega) (by omega)
    obtain ⟨p, hp⟩ : ∃ p, l[i]? = some p := ⟨_, List.getElem?_eq_getElem (by omega)⟩
    have hpl := hc.out p (List.mem_of_getElem? hp)
    have hld := drop_cons hp
    have hd2 := hd.out
    have hn2 := hn.out
    rw [hld] at hd2 hn2
    simp only [mkP, cntP] at hd2 hn2
    have hnn := cntP_nn (l.drop (i + 1))
    have hro : (places M)[i]? = some (placR (k', runI (k' + 1) p.2.length)) := places_at (by
      have : (M.drop i)[0]? = some (k', runI (k' + 1) p.2.length) := by rw [hd2]; rfl
      rwa [List.getElem?_drop, Nat.add_zero] at this)
    have hd3 : M.drop (i + 1) = mkP (k' + 1 + p.2.length) (l.drop (i + 1)) := by
      rw [← List.drop_drop (i := 1), hd2]; rfl
    have hw1 : IntKind.i64.wrap (k' + 1) = k' + 1 := wr64 (by omega) (by omega)
    have hbne : (k' != k') = false := by simp
    have hneg : ¬ (k' + 1 + (p.2.length : Int) < 0) := by omega
    replace hd2 := Hid.mk hd2
    replace hd3 := Hid.mk hd3
    replace hld := Hid.mk hld
    replace hp := Hid.mk hp
    replace hn2 := Hid.mk hn2
    replace hnn := Hid.mk hnn
    refine AL ?_
    refine CV (heldInt64S_fn G (k' + 1) p.2.length hpl (by omega) (by have := hn2.out; have := hnn.out; omega)) ?_
    refine AL ?_
    exact ⟨l.length - (i + 1), by omega, i + 1, k' + 1 + p.2.length, by omega, by simp [setF_if, *], by simp [setF_if, *], by simp [setF_if, *], hd3.out, by have := hn2.out; omega, by omega⟩
  · have ei : i = l.length := by omega
    have hn2 := hn.out
    rw [ei, List.drop_length] at hn2
    simp only [cntP] at hn2
    refine AL ?_
    simp [retA, backA, setF_if, h1]; omega
theorem heldPlacement_fn (G : Gv) (j : Int) (k : Int) (m : Nat) (hl : m < 1000000000) (hk0 : 0 ≤ k) (hk : k < 1000000000000) :
    Gives Tryz.prog G 45 [.ag [.i .i64 j, .sl 0 (ints (runI k m))], .i .i64 k] (.i .i64 (k + m)) := by
  refine .of (.body Tryz.func45 rfl (by simp [Tryz.ntmps45]) ?_)
  rw [Tryz.ntmps45, Tryz.results45]
  have hneg : ¬ (k + (m : Int) < 0) := by omega
  refine AL ?_
  refine CV (heldInt64S_fn G k m hl hk0 hk) ?_
  refine AL ?_
  simp [retA, backA]
end Go.Proofs
end
section
open Go Go.Big
namespace Go.Proofs
set_option maxHeartbeats 2000000
theorem giveOf_last {H : Heap} {a za b : AV} {q : List (List PV)} {S : List Nat} (h : ownX H (.ag [a, za]) (.ag [b, .sl 1 q]) S) : giveA H za = some (.sl 0 q) := by
  obtain ⟨zi, z, s1, s2, e, _, _, h2⟩ := ownX_ag2 h
  cases e
  exact ownX_gives h2
theorem szP_cnt : ∀ {l : List PieceM} {left : Int}, ¬ szP l left < 0 → cntQ l ≤ 2 * left + 2 * l.length
  | [], left, h => by simp only [szP] at h; simp only [cntQ, List.length_nil]; omega
  | p :: l, left, h => by
    unfold szP at h
    split at h
    · simp at h
    · rename_i c
      have := szP_cnt h
      unfold szN at c this
      split at c
      · simp at c
      · rename_i c2
        rw [if_neg c2] at this
        simp only [cntQ, List.length_cons]; omega
theorem szPz_cnt {r : List (Int × Int)} {l : List PieceM} {left : Int} (h : ¬ szPz r l left < 0) : cntQ l ≤ 2 * left + 2 * left := by
  unfold szPz at h
  split at h
  · simp at h
  · rename_i c
    unfold szPS at h
    split at h
    · simp at h
    · rename_i c2
      have := szP_cnt h
      have := szN_le c
      omega
theorem szPL_cnt : ∀ {l : List (Int × List Int)} {left : Int}, ¬ szPL l left < 0 → cntP l ≤ left + l.length
  | [], left, h => by simp only [szPL] at h; simp only [cntP, List.length_nil]; omega
  | p :: l, left, h => by
    unfold szPL at h
    split at h
    · simp at h
    · rename_i c
      have := szPL_cnt h
      unfold szN at c this
      split at c
      · simp at c
      · rename_i c2
        rw [if_neg c2] at this
        simp only [cntP, List.length_cons]; omega
theorem szPLS_cnt {l : List (Int × List Int)} {left : Int} (h : ¬ szPLS l left < 0) : cntP l ≤ left + left := by
  unfold szPLS at h
  split at h
  · simp at h
  · have := szPL_cnt h
    omega
theorem law_fn (G : Gv) (hA : AllK G) (r : List (Int × Int)) (l : List PieceM) (s : List (Int × List Int)) (k : Int)
    (hr : r.length ≤ 9223372036854775807) (hl : l.length ≤ 9223372036854775807) (hc : ∀ p ∈ l, p.cs.length ≤ 9223372036854775807) (hs : s.length ≤ 9223372036854775807) (hsc : ∀ x ∈ s, x.2.length ≤ 9223372036854775807)
    (hpure : r.length < 1000000000 → l.length < 1000000000 → (∀ p ∈ l, p.cs.length < 1000000000) → s.length < 1000000000 → (∀ x ∈ s, x.2.length < 1000000000) → tsolI r l s k = tsolS r l s k ∧ ((tsolI r l s k).1.length < 1000000000) ∧ (∀ x ∈ (tsolI r l s k).1, x.2.length < 1000000000) ∧ (cntP (tsolI r l s k).1 < 100000000000)) :
    Gives Tryz.prog G 13 [.ag [.sl 0 (cells r), .sl 0 (pieces l)], .sl 0 (places s), .i .i64 k] (.b true) := by
  refine .of (.body Tryz.func13 rfl (by simp [Tryz.ntmps13]) ?_)
  rw [Tryz.ntmps13, Tryz.results13]
  replace hA := Hid.mk hA
  replace hc := Hid.mk hc
  replace hsc := Hid.mk hsc
  replace hpure := Hid.mk hpure
  refine AX ?_
  refine CV (szPuzzle_fn G r l 1048576 hr hl hc.out (by omega) (by omega)) ?_
  by_cases c1 : szPz r l 1048576 < 0
  · refine AX ?_
    simp [retA, backA]
  obtain ⟨ga1, gb1, gc1, gd1, ge1⟩ := szPz_le (left := 1048576) (by omega) c1
  replace gc1 := Hid.mk gc1
  refine AX ?_
  refine CV (szPlacementS_fn G s _ hs hsc.out (by omega) (by omega)) ?_
  by_cases c2 : szPLS s (szPz r l 1048576) < 0
  · refine AX ?_
    simp [retA, backA]
  obtain ⟨ga2, gc2⟩ := szPLS_le (left := szPz r l 1048576) (by omega) c2
  replace gc2 := Hid.mk gc2
  have hr9 : r.length < 1000000000 := by omega
  have hl9 : l.length < 1000000000 := by omega
  have hc9 : ∀ p ∈ l, p.cs.length < 1000000000 := fun p hp => by have := gc1.out p hp; omega
  have hs9 : s.length < 1000000000 := by omega
  have hsc9 : ∀ x ∈ s, x.2.length < 1000000000 := fun p hp => by have := gc2.out p hp; omega
  have hkq : cntQ l < 100000000000 := by have := szPz_cnt c1; omega
  have hkq0 := cntQ_nn l
  have hkp : cntP s < 100000000000 := by have := szPLS_cnt c2; omega
  have hkp0 := cntP_nn s
  obtain ⟨hp, hwl, hwc, hwk⟩ := hpure.out hr9 hl9 hc9 hs9 hsc9
  replace hc9 := Hid.mk hc9
  replace hsc9 := Hid.mk hsc9
  have hspec := specTurnSolution_fn G r l s k hr9 hl9 hc9.out hs9 hsc9.out
  have himpl := implTurnSolution_o G hA.out r l s k hr9 hl9 hc9.out hs9 hsc9.out
  rw [← hp] at hspec
  clear hp
  generalize tsolI r l s k = W at hspec himpl hwl hwc hwk
  obtain ⟨w, wc⟩ := W
  simp only at hspec himpl hwl hwc hwk
  have hbb : (wc != wc) = false := by simp
  have hwk0 := cntP_nn w
  replace hwc := Hid.mk hwc
  replace hspec := Hid.mk hspec
  replace himpl := Hid.mk himpl
  clear gc1 gc2
  refine AX ?_
  refine CV (toPuzzle_fn G r l hr9 hl9 hc9.out) ?_
  refine AX ?_
  refine CV (toPlacementS_fn G s hs9 hsc9.out) ?_
  refine AX ?_
  refine CV hspec.out ?_
  refine AX ?_
  refine CWO (toPuzzle_o G r l hr9 hl9 hc9.out) ?_
  intro z1 Hh1 S1 m1 hz1 hn1 hS1 hf1 hm1
  have B0 := hf1 0 (by omega)
  simp [upd_if] at B0
  obtain ⟨za1, zb1, sa1, sb1, rfl, rfl, Xa1, Xb1⟩ := ownX_ag2 hz1
  have Ra1 := fun o (ho : o ∈ sa1) => hS1 o (by simp [ho])
  have Rb1 := fun o (ho : o ∈ sb1) => hS1 o (by simp [ho])
  clear hz1 hS1 hf1
  replace Xa1 := Hid.mk Xa1
  replace Ra1 := Hid.mk Ra1
  replace Xb1 := Hid.mk Xb1
  replace Rb1 := Hid.mk Rb1
  replace hn1 := Hid.mk hn1
  refine AX ?_
  have pl_za1 := (ownX_plain (ownX_congr (H' := Hh1.upd (m1) (.box 35 [.nil, .nil])) (fun o ho => by rw [upd_if, if_neg (by have := Ra1.out o ho; omega)]) Xa1.out)).1
  have pl_zb1 := (ownX_plain (ownX_congr (H' := Hh1.upd (m1) (.box 35 [.nil, .nil])) (fun o ho => by rw [upd_if, if_neg (by have := Rb1.out o ho; omega)]) Xb1.out)).1
  refine OPN (op := .store 35 (.tmp 10) (.tmp 39)) (H1 := (Hh1.upd (m1) (.box 35 [.nil, .nil])).upd (m1) (.box 35 [za1, zb1])) (y := .un) ?_ (hs := by
    rw [st_store]
    simp only [look_tmp, setF_if, Nat.reduceEqDiff, reduceIte, flatA, List.all_cons, List.all_nil, pl_za1, pl_zb1, Bool.and_self, BT.all, storeA, upd_if, putA, List.length_cons, List.length_nil, Nat.reduceAdd, Nat.reduceLeDiff, List.set_cons_zero, List.set_cons_succ, Option.map_some])
  repeat first | refine OP ?_ | refine SK ?_ | refine OPN ?_ | refine WR.nil ?_
  refine TH ?_
  refine W.cutn ?_
  intro EX1 HX1 NX1 hEX hHX hNX
  have e1_1 := hEX 1
  have e2_1 := hEX 2
  have e3_1 := hEX 3
  have e8_1 := hEX 8
  have e9_1 := hEX 9
  have e10_1 := hEX 10
  simp only [setF_if, argE, Nat.reduceEqDiff, reduceIte, List.getElem?_cons_zero, List.getElem?_cons_succ, Option.getD_some] at e1_1 e2_1 e3_1 e8_1 e9_1 e10_1
  have hN1 : m1 < NX1 := by omega
  have B0' := (show HX1 (0) = Hh1 (0) by rw [hHX, upd_if, if_neg (by omega), upd_if, if_neg (by omega)]).trans B0
  have bx1 : HX1 (m1) = some (.box 35 [za1, zb1]) := by rw [hHX, upd_if, if_pos rfl]
  have Xa1' := ownX_congr (H' := HX1) (fun o ho => by have := Ra1.out o ho; rw [hHX, upd_if, if_neg (by omega), upd_if, if_neg (by omega)]) Xa1.out
  clear Xa1
  replace Xa1' := Hid.mk Xa1'
  have Xb1' := ownX_congr (H' := HX1) (fun o ho => by have := Rb1.out o ho; rw [hHX, upd_if, if_neg (by omega), upd_if, if_neg (by omega)]) Xb1.out
  clear Xb1
  replace Xb1' := Hid.mk Xb1'
  clear hEX hHX hNX pl_za1 pl_zb1 B0
  refine AX ?_
  refine CWO (toPlacementS_o G s hs9 hsc9.out) ?_
  intro z2 Hh2 S2 m2 hz2 hn2 hS2 hf2 hm2
  have B0'' := (hf2 (0) (by omega)).trans B0'
  clear B0'
  have bx1' := (hf2 (m1) (by omega)).trans bx1
  clear bx1
  have Xa1'' := ownX_congr (fun o ho => hf2 o (by have := Ra1.out o ho; omega)) Xa1'.out
  clear Xa1'
  replace Xa1'' := Hid.mk Xa1''
  have Xb1'' := ownX_congr (fun o ho => hf2 o (by have := Rb1.out o ho; omega)) Xb1'.out
  clear Xb1'
  replace Xb1'' := Hid.mk Xb1''
  have R2 := hS2
  clear hS2 hf2
  have gl2 := ownX_gives hz2
  clear gl2
  replace hz2 := Hid.mk hz2
  replace R2 := Hid.mk R2
  replace hn2 := Hid.mk hn2
  have ga1 := ownX_gives Xa1''.out
  have gb1 := ownX_gives Xb1''.out
  have g2 := ownX_gives hz2.out
  refine AX ?_
  refine CWO himpl.out ?_
  intro z3 Hh3 S3 m3 hz3 hn3 hS3 hf3 hm3
  try clear ga1
  try clear gb1
  try clear g2
  have B0''' := (hf3 (0) (by omega)).trans B0''
  clear B0''
  have bx1'' := (hf3 (m1) (by omega)).trans bx1'
  clear bx1'
  have Xa1''' := ownX_congr (fun o ho => hf3 o (by have := Ra1.out o ho; omega)) Xa1''.out
  clear Xa1''
  replace Xa1''' := Hid.mk Xa1'''
  have Xb1''' := ownX_congr (fun o ho => hf3 o (by have := Rb1.out o ho; omega)) Xb1''.out
  clear Xb1''
  replace Xb1''' := Hid.mk Xb1'''
  have hz2' := ownX_congr (fun o ho => hf3 o (by have := R2.out o ho; omega)) hz2.out
  clear hz2
  replace hz2' := Hid.mk hz2'
  obtain ⟨zw3, zc3, Sw3, Sc3, rfl, rfl, hw3, hc3⟩ := ownX_tup2 hz3
  obtain ⟨rfl, rfl⟩ := ownX_i hc3
  simp only [List.append_nil] at hn3 hS3
  clear hc3 hz3
  have R3 := hS3
  clear hS3 hf3
  replace hw3 := Hid.mk hw3
  replace R3 := Hid.mk R3
  replace hn3 := Hid.mk hn3
  have ga1 := ownX_gives Xa1'''.out
  have gb1 := ownX_gives Xb1'''.out
  have g2 := ownX_gives hz2'.out
  have g3 := ownX_gives hw3.out
  refine AX ?_
  refine CV (eqPlacementS_fn G w hwl hwc.out) ?_
  refine AX ?_
  refine DR ?_
  refine AX ?_
  refine CQ (toPuzzle_fn G r l hr9 hl9 hc9.out) ?_
  refine AX ?_
  refine CQ (eqPuzzle_fn G r l hr9 hl9 hc9.out) ?_
  refine AX ?_
  refine CV (toPlacementS_fn G s hs9 hsc9.out) ?_
  refine AX ?_
  refine CV (eqPlacementS_fn G s hs9 hsc9.out) ?_
  refine AX ?_
  refine CI ?_
  refine WC.mono (markPuzzle_m G r l 1 hr9 hl9 hc9.out (by omega) (by omega) _ _ _ (sa1 ++ sb1) (ownX_mk2 Xa1'''.out Xb1'''.out) (by simpa using hn1.out) (fun o ho => by simp only [List.nil_append, List.mem_append] at ho; rcases ho with ho | ho; have := Ra1.out o ho; omega; have := Rb1.out o ho; omega)) ?_
  rintro _ Hh4 m4 ⟨rfl, hm4, hw4, hf4⟩
  try clear ga1
  try clear gb1
  try clear g2
  try clear g3
  have B0'''' := (hf4 (0) (by omega) (fun h => by simp only [List.nil_append, List.mem_append] at h; rcases h with h | h; have := Ra1.out _ h; omega; have := Rb1.out _ h; omega)).trans B0'''
  clear B0'''
  have bx1''' := (hf4 (m1) (by omega) (fun h => by simp only [List.nil_append, List.mem_append] at h; rcases h with h | h; have := Ra1.out _ h; omega; have := Rb1.out _ h; omega)).trans bx1''
  clear bx1''
  have hz2'' := ownX_congr (fun o ho => hf4 o (by have := R2.out o ho; omega) (fun h => by have := R2.out o ho; simp only [List.nil_append, List.mem_append] at h; rcases h with h | h; have := Ra1.out _ h; omega; have := Rb1.out _ h; omega)) hz2'.out
  clear hz2'
  replace hz2'' := Hid.mk hz2''
  have hw3' := ownX_congr (fun o ho => hf4 o (by have := R3.out o ho; omega) (fun h => by have := R3.out o ho; simp only [List.nil_append, List.mem_append] at h; rcases h with h | h; have := Ra1.out _ h; omega; have := Rb1.out _ h; omega)) hw3.out
  clear hw3
  replace hw3' := Hid.mk hw3'
  clear hf4 hw4
  refine AX ?_
  refine CI ?_
  refine WC.mono (markPlacementS_m G s (1 + 2 * r.length + cntQ l) hs9 hsc9.out (by omega) (by omega) _ _ _ S2 hz2''.out hn2.out (fun o ho => by have := R2.out o ho; omega)) ?_
  rintro _ Hh5 m5 ⟨rfl, hm5, hw5, hf5⟩
  try clear g2
  try clear g3
  have B0''''' := (hf5 (0) (by omega) (fun h => by have := R2.out _ h; omega)).trans B0''''
  clear B0''''
  have bx1'''' := (hf5 (m1) (by omega) (fun h => by have := R2.out _ h; omega)).trans bx1'''
  clear bx1'''
  have hw3'' := ownX_congr (fun o ho => hf5 o (by have := R3.out o ho; omega) (fun h => by have := R3.out o ho; have := R2.out _ h; omega)) hw3'.out
  clear hw3'
  replace hw3'' := Hid.mk hw3''
  clear hf5 hw5
  have hkn : ¬ (1 + 2 * r.length + cntQ l + cntP s < 0) := by omega
  have g3 := ownX_gives hw3''.out
  refine AX ?_
  refine CV (eqPlacementS_fn G w hwl hwc.out) ?_
  refine AX ?_
  refine CI ?_
  refine WC.mono (markPlacementS_m G w 1 hwl hwc.out (by omega) (by omega) _ _ _ Sw3 hw3''.out hn3.out (fun o ho => by have := R3.out o ho; omega)) ?_
  rintro _ Hh6 m6 ⟨rfl, hm6, hw6, hf6⟩
  try clear g3
  have B0'''''' := (hf6 (0) (by omega) (fun h => by have := R3.out _ h; omega)).trans B0'''''
  clear B0'''''
  have bx1''''' := (hf6 (m1) (by omega) (fun h => by have := R3.out _ h; omega)).trans bx1''''
  clear bx1''''
  clear hf6
  try clear hkn
  have hkn : ¬ (1 + cntP w < 0) := by omega
  have hkk : (1 + cntP w != 1 + cntP w) = false := by simp
  have g3 := ownX_gives hw6
  clear hw6
  refine AX ?_
  refine CV (heldPlacementS_fn G w 1 hwl hwc.out (by omega) (by omega)) ?_
  refine AX ?_
  refine CV (toPuzzle_fn G r l hr9 hl9 hc9.out) ?_
  refine AX ?_
  refine CV (toPlacementS_fn G s hs9 hsc9.out) ?_
  have hlt0 : 0 < m6 := by omega
  have hlt1 : m1 < m6 := by omega
  refine AX ?_
  refine CV himpl.out.gives ?_
  refine AX ?_
  refine CV (eqPlacementS_fn G w hwl hwc.out) ?_
  refine AX ?_
  refine CV (heldPlacementS_fn G w 1 hwl hwc.out (by omega) (by omega)) ?_
  refine AX ?_
  simp [retA, backA]
end Go.Proofs
end
