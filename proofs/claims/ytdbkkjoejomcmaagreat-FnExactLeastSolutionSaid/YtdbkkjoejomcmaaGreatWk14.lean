/- Walks: Plain law: the symmetries of a puzzle, both programs. No condition. | Plain law: what a solution is, turned. No condition. | TurnSolution: both programs' functions. Condition: the given contracts hold. | Lists of placements compared, of one length. No condition. | StabilizerOf: both programs' functions. Condition: the given contracts hold. -/
import Derived.Test.YtdbkkjoejomcmaaGreatBO
import Derived.Test.YtdbkkjoejomcmaaGreatWk12
import Derived.Test.YtdbkkjoejomcmaaGreatWk13
import Derived.Test.YtdbkkjoejomcmaaGreatWk6
import Derived.Test.YtdbkkjoejomcmaaGreatBC
import Derived.Test.YtdbkkjoejomcmaaGreatWk4
import Derived.Test.YtdbkkjoejomcmaaGreatWk3
set_option linter.unusedVariables false
set_option linter.unusedSimpArgs false
section
open Go Go.Big
namespace Go.Proofs
set_option maxHeartbeats 2000000
theorem stepT_inj {p q : Int × Int} (hp : inB p) (hq : inB q) (h : stepT p = stepT q) : p = q := by
  unfold stepT at h
  unfold inB at hp hq
  simp only [Prod.mk.injEq] at h
  rw [wr1 (by omega) (by omega), wr1 (by omega) (by omega)] at h
  exact Prod.ext h.2 (by omega)
theorem iterT_inj {p q : Int × Int} (hp : inB p) (hq : inB q) : ∀ {n : Nat}, iterT p n = iterT q n → p = q
  | 0, h => h
  | n + 1, h => iterT_inj hp hq (n := n) (stepT_inj (inB_iter hp n) (inB_iter hq n) h)
theorem turnM_inj {p q : Int × Int} (hp : inB p) (hq : inB q) {t : Nat} (h : turnM p t = turnM q t) : p = q := by
  have hf : ∀ {x : Int × Int}, inB x → inB (flipT x t) := fun {x} hx => by
    unfold flipT
    unfold inB at hx ⊢
    split
    · rw [wr1 (by omega) (by omega)]
      (try simp only)
      omega
    · exact hx
  have := iterT_inj (hf hp) (hf hq) h
  unfold flipT at this
  unfold inB at hp hq
  split at this
  · simp only [Prod.mk.injEq] at this
    rw [wr1 (by omega) (by omega), wr1 (by omega) (by omega)] at this
    exact Prod.ext (by omega) this.2
  · exact this
theorem norm_map {l : Shape} (hl : 0 < l.length) (h : ∀ p ∈ l, inB p) : normM l = l.map fun p => (p.1 + (0 - (minF l l.length).1), p.2 + (0 - (minF l l.length).2)) := by
  obtain ⟨g1, ⟨p, hp, g2⟩, ⟨q, hq, g3⟩⟩ := minF_spec hl
  have kp := h p hp
  have kq := h q hq
  unfold inB at kp kq
  unfold normM
  rw [wr1 (by omega) (by omega), wr1 (by omega) (by omega), movedM_small (fun x hx => by have := h x hx; unfold inB at this; omega) (by omega) (by omega)]
theorem minF_perm {l k : Shape} (hp : l.Perm k) (hl : 0 < l.length) : minF l l.length = minF k k.length := by
  have hk : 0 < k.length := by rw [← hp.length_eq]; exact hl
  obtain ⟨g1, ⟨p, hp1, g2⟩, ⟨q, hq, g3⟩⟩ := minF_spec hk
  exact minF_is hl (fun x hx => g1 x (hp.mem_iff.mp hx)) ⟨p, hp.mem_iff.mpr hp1, g2⟩ ⟨q, hp.mem_iff.mpr hq, g3⟩
theorem nodup_le {α : Type} [DecidableEq α] : ∀ {l k : List α}, l.Nodup → (∀ x ∈ l, x ∈ k) → l.length ≤ k.length
  | [], _, _, _ => Nat.zero_le _
  | x :: l, k, hn, h => by
    rw [List.nodup_cons] at hn
    have hx := h x List.mem_cons_self
    have := nodup_le (l := l) (k := k.erase x) hn.2 (fun y hy => (List.mem_erase_of_ne (fun (e : y = x) => hn.1 (e ▸ hy))).mpr (h y (List.mem_cons_of_mem _ hy)))
    rw [List.length_erase_of_mem hx] at this
    have hk := List.length_pos_of_mem hx
    rw [List.length_cons]; omega
theorem region_norm {r : Shape} (h : regionS r = true) : normM r = r := by
  have hb := boxed_of h
  unfold regionS at h
  simp only [Bool.and_eq_true, beq_iff_eq, decide_eq_true_eq] at h
  obtain ⟨hs, ⟨⟨m1, m2⟩, _⟩, _⟩ := h
  obtain ⟨_, _, hp, _⟩ := shapeM_spec hs
  rw [norm_map (by omega) (fun p hp => by have := hb.box p hp; unfold inB; omega), m1, m2]
  simp
theorem sym_eq {r : Shape} (h : regionS r = true) (t : Nat) : symQI r t = symQS r t := by
  have hb := boxed_of h
  have hn := region_norm h
  have hs : r.Pairwise (fun a b => lessC a.1 a.2 b.1 b.2 = true) := by
    unfold regionS at h
    simp only [Bool.and_eq_true] at h
    exact (shapeM_spec h.1).1
  have h0 : 0 < r.length := by
    unfold regionS at h
    simp only [Bool.and_eq_true] at h
    have := (shapeM_spec h.1).2.2.1
    omega
  have hin : ∀ p ∈ r, inB p := fun p hp => by have := hb.box p hp; unfold inB; omega
  have hT : ∀ p ∈ turnL r t, inB p := fun p hp => by
    obtain ⟨q, hq, rfl⟩ := List.mem_map.mp hp
    exact inB_turn (hin q hq) t
  have hTl : (turnL r t).length = r.length := turnL_len r t
  have hTn : (turnL r t).Nodup := by
    unfold turnL
    rw [List.Nodup, List.pairwise_map]
    exact hb.nodup.imp_of_mem (fun ha hc hne e => hne (turnM_inj (hin _ ha) (hin _ hc) e))
  unfold symQI symQS numsM formM
  rw [hn]
  generalize turnL r t = T at hT hTl hTn
  have hsp := sortM_perm T
  have hss := sortM_sorted T
  have hsl : (sortM T).length = T.length := hsp.length_eq
  have e1 := norm_map (l := T) (by omega) hT
  have e2 := norm_map (l := sortM T) (by omega) (fun p hp => hT p (hsp.mem_iff.mp hp))
  rw [minF_perm hsp (by omega)] at e2
  generalize minF T T.length = m at e1 e2
  have hperm : (normM (sortM T)).Perm (normM T) := by rw [e1, e2]; exact hsp.map _
  have hnd : (normM (sortM T)).Nodup := by
    rw [e2, List.Nodup, List.pairwise_map]
    exact (hsp.nodup_iff.mpr hTn).imp (fun {a b} hne e => hne (by
      simp only [Prod.mk.injEq] at e
      exact Prod.ext (by omega) (by omega)))
  have hst : (normM (sortM T)).Pairwise (fun a b => lessC b.1 b.2 a.1 a.2 = false) := by
    rw [e2, List.pairwise_map]
    refine hss.imp fun {a b} hab => ?_
    simp only [lessC, Bool.or_eq_false_iff, Bool.and_eq_false_iff, decide_eq_false_iff_not, beq_eq_false_iff_ne] at hab ⊢
    omega
  have hlen : (normM (sortM T)).length = r.length := by rw [normM_len]; omega
  generalize normM (sortM T) = N at hperm hnd hst hlen
  generalize normM T = M at hperm
  have hr2 : r.Pairwise (fun a b => lessC b.1 b.2 a.1 a.2 = false) := hs.imp fun {a b} hab => by
    cases z : lessC b.1 b.2 a.1 a.2 with
    | false => rfl
    | true => have := lessC_trans' hab z; rw [lessC_self] at this; simp at this
  by_cases c : N = r
  · subst c
    obtain ⟨s, hs⟩ := setM_yes (r := N) (cs := M) (fun x hx => hperm.mem_iff.mpr hx)
    rw [hs]; simp
  · rw [decide_eq_false c]
    symm
    cases hq : setM r M with
    | none => rfl
    | some s =>
      exfalso
      apply c
      have hsub := (setM_some hq).1
      have hNr : ∀ x ∈ N, x ∈ r := fun x hx => hsub x (hperm.mem_iff.mp hx)
      have hrN : ∀ x ∈ r, x ∈ N := fun x hx => by
        apply Classical.byContradiction
        intro hx2
        have := nodup_le (l := x :: N) (k := r) (List.nodup_cons.mpr ⟨hx2, hnd⟩) (fun y hy => by
          rcases List.mem_cons.mp hy with rfl | hy
          · exact hx
          · exact hNr y hy)
        rw [List.length_cons] at this; omega
      have hp2 := perm_of_nodup hnd hb.nodup (fun x => ⟨hNr x, hrN x⟩)
      exact List.Perm.eq_of_pairwise (fun a b _ _ h1 h2 => lessC_total h2 h1) hst hr2 hp2
theorem tidy_forms (cs : Shape) (t : Nat) (b : Bool) (ht : t = if b then 8 else 4) : tidyM (formsL cs t) = formsF cs t := by
  have := forms_eq ⟨cs, 0, b⟩
  unfold formsI formsP at this
  rw [ht]; exact this
theorem hand_eq (p : PieceM) : handS p = !handP p := by
  unfold handS handP formsP
  rw [tidy_forms p.cs 4 false rfl, tidy_forms p.cs 8 true rfl]
  cases p.b with
  | true => simp
  | false => simp
theorem symT_congr {p q : Nat → Bool} (h : ∀ t, p t = q t) (n : Nat) : symT p n = symT q n := by
  rw [show p = q from funext h]
theorem symsP_eq {r : Shape} {l : List PieceM} (h : regionS r = true) : symsI r l = symsS r l := by
  unfold symsI symsS
  rw [symT_congr (sym_eq h) 8]
  have e : l.all handS = !l.any handP := by
    rw [show handS = fun p => !handP p from funext hand_eq]
    induction l with
    | nil => rfl
    | cons x l ih => rw [List.all_cons, List.any_cons, ih]; simp
  rw [e]
  refine List.filter_congr fun x _ => ?_
  by_cases c : x < 4
  · simp [c, show ¬ x ≥ 4 by omega]
  · simp [c, show x ≥ 4 by omega]
theorem symsS_len (r : Shape) (l : List PieceM) : (symsS r l).length ≤ 8 := by
  unfold symsS
  have := List.length_filter_le (fun x => decide (x < 4) || l.all handS) (symT (symQS r) 8)
  have := symT_len (symQS r) 8
  omega
theorem psym_eq (r : Shape) (l : List PieceM) : psymI r l = psymS r l ∧ (psymI r l).1.length < 1000000000 := by
  unfold psymI psymS
  rw [fits_eq]
  by_cases c : fitsS r l = true
  · rw [if_pos c, if_pos c, symsP_eq (puzzle_parts (fits_puzzle c)).1]
    have := symsS_len r l
    exact ⟨rfl, by show (symsS r l).length < _; omega⟩
  · rw [if_neg c, if_neg c]; simp
end Go.Proofs
end
section
open Go Go.Big
namespace Go.Proofs
set_option maxHeartbeats 2000000
theorem turn_nodup {r : Shape} (h : regionS r = true) (t : Nat) : (normM (turnL r t)).Nodup := by
  have hb := boxed_of h
  have h0 : 0 < r.length := by
    unfold regionS at h
    simp only [Bool.and_eq_true] at h
    have := (shapeM_spec h.1).2.2.1
    omega
  have hin : ∀ p ∈ r, inB p := fun p hp => by have := hb.box p hp; unfold inB; omega
  have hT : ∀ p ∈ turnL r t, inB p := fun p hp => by
    obtain ⟨q, hq, rfl⟩ := List.mem_map.mp hp
    exact inB_turn (hin q hq) t
  have hTl : (turnL r t).length = r.length := turnL_len r t
  have hTn : (turnL r t).Nodup := by
    unfold turnL
    rw [List.Nodup, List.pairwise_map]
    exact hb.nodup.imp_of_mem (fun ha hc hne e => hne (turnM_inj (hin _ ha) (hin _ hc) e))
  rw [norm_map (by omega) hT, List.Nodup, List.pairwise_map]
  exact hTn.imp (fun {a b} hne e => hne (by
    simp only [Prod.mk.injEq] at e
    exact Prod.ext (by omega) (by omega)))
theorem nums_inj {r : Shape} (h : regionS r = true) {t : Nat} {ns : List Int} (hn : numsM r t = some ns) {i j : Nat} (hi : i < ns.length) (hj : j < ns.length) (e : ns.getD i 0 = ns.getD j 0) : i = j := by
  obtain ⟨_, hp, _, _⟩ := setM_some hn
  have hd := turn_nodup h t
  rw [← hp] at hd
  unfold pickM at hd
  have := List.getElem_inj (xs := ns.map fun k => r.getD k.toNat (0, 0)) (i := i) (j := j) (h₀ := by simpa using hi) (h₁ := by simpa using hj) hd
  apply this.mp
  simp only [List.getElem_map]
  simp only [List.getD_eq_getElem?_getD, List.getElem?_eq_getElem hi, List.getElem?_eq_getElem hj, Option.getD_some] at e
  rw [e]
theorem solved_facts {r : Shape} {l : List PieceM} {s : List (Int × List Int)} (h : solvedS r l s = true) : fitsS r l = true ∧ (∀ x ∈ s, 0 < x.2.length ∧ ∀ i ∈ x.2, 0 ≤ i ∧ i < r.length) ∧ s.Pairwise apartP := by
  unfold solvedS at h
  simp only [Bool.and_eq_true] at h
  obtain ⟨⟨⟨h1, h2⟩, h3⟩, _⟩ := h
  exact ⟨h1, fun x hx => place_cells (asc_mem h2 hx), (clear_iff s).mp h3⟩
theorem turnPl_nodup {r : Shape} {l : List PieceM} {s : List (Int × List Int)} (h : solvedS r l s = true) {t : Nat} {ns : List Int} (hn : numsM r t = some ns) : (s.map (turnPl ns)).Nodup := by
  obtain ⟨h1, h2, h3⟩ := solved_facts h
  have hreg := (puzzle_parts (fits_puzzle h1)).1
  have hnl := (numsM_facts hn).1
  rw [List.Nodup, List.pairwise_map]
  refine h3.imp_of_mem fun {x y} hx hy hap e => ?_
  obtain ⟨hx0, hxi⟩ := h2 x hx
  obtain ⟨_, hyi⟩ := h2 y hy
  have e2 : sortedB (turnX ns x.2) = sortedB (turnX ns y.2) := (Prod.mk.injEq _ _ _ _ ▸ e : x.1 = y.1 ∧ _).2
  obtain ⟨a, ha⟩ := List.exists_mem_of_length_pos hx0
  have m1 : ns.getD a.toNat 0 ∈ turnX ns x.2 := List.mem_map_of_mem ha
  have m2 : ns.getD a.toNat 0 ∈ turnX ns y.2 := by
    have := (sortedB_props (turnX ns x.2)).1.mem_iff.mpr m1
    rw [e2] at this
    exact (sortedB_props (turnX ns y.2)).1.mem_iff.mp this
  obtain ⟨b, hb, hab⟩ := List.mem_map.mp m2
  have ka := hxi a ha
  have kb := hyi b hb
  have := nums_inj hreg hn (by omega) (by omega) hab
  have hba : a = b := by omega
  have : overM x.2 y.2 = true := over_iff.mpr ⟨a, ha, hba ▸ hb⟩
  rw [show overM x.2 y.2 = false from hap] at this
  cases this
theorem solved_len {r : Shape} {l : List PieceM} {s : List (Int × List Int)} (h : solvedS r l s = true) : s.length ≤ 40 ∧ ∀ x ∈ s, x.2.length ≤ 40 := by
  obtain ⟨h1, h2, h3⟩ := solved_facts h
  obtain ⟨_, _, gr, _⟩ := puzzle_facts (fits_puzzle h1)
  have hasc : ∀ x ∈ s, x.2.Pairwise (· < ·) := fun x hx => by
    unfold solvedS at h
    simp only [Bool.and_eq_true] at h
    have := asc_mem h.1.1.2 hx
    unfold placeS at this
    simp only [Bool.and_eq_true, decide_eq_true_eq] at this
    exact inc_lt this.1.2
  constructor
  · have hm : (s.map fun x => (x.2.getD 0 0).toNat).Nodup := by
      rw [List.Nodup, List.pairwise_map]
      refine h3.imp_of_mem fun {x y} hx hy hap e => ?_
      obtain ⟨hx0, hxi⟩ := h2 x hx
      obtain ⟨hy0, hyi⟩ := h2 y hy
      have ma : x.2.getD 0 0 ∈ x.2 := by rw [List.getD_eq_getElem?_getD, List.getElem?_eq_getElem hx0]; exact List.getElem_mem _
      have mb : y.2.getD 0 0 ∈ y.2 := by rw [List.getD_eq_getElem?_getD, List.getElem?_eq_getElem hy0]; exact List.getElem_mem _
      have ka := hxi _ ma
      have kb := hyi _ mb
      have hba : x.2.getD 0 0 = y.2.getD 0 0 := by omega
      have : overM x.2 y.2 = true := over_iff.mpr ⟨_, ma, hba ▸ mb⟩
      rw [show overM x.2 y.2 = false from hap] at this
      cases this
    have := nodup_le (k := List.range r.length) hm (fun z hz => by
      obtain ⟨x, hx, rfl⟩ := List.mem_map.mp hz
      obtain ⟨hx0, hxi⟩ := h2 x hx
      have ma : x.2.getD 0 0 ∈ x.2 := by rw [List.getD_eq_getElem?_getD, List.getElem?_eq_getElem hx0]; exact List.getElem_mem _
      have ka := hxi _ ma
      exact List.mem_range.mpr (by omega))
    rw [List.length_map, List.length_range] at this
    omega
  · intro x hx
    have hm : (x.2.map Int.toNat).Nodup := by
      rw [List.Nodup, List.pairwise_map]
      refine (hasc x hx).imp_of_mem fun {a b} ha hb hab e => ?_
      have := (h2 x hx).2 a ha
      have := (h2 x hx).2 b hb
      omega
    have := nodup_le (k := List.range r.length) hm (fun z hz => by
      obtain ⟨a, ha, rfl⟩ := List.mem_map.mp hz
      have := (h2 x hx).2 a ha
      exact List.mem_range.mpr (by omega))
    rw [List.length_map, List.length_range] at this
    omega
theorem cntP_leS {n : Nat} : ∀ {l : List (Int × List Int)}, (∀ x ∈ l, x.2.length ≤ n) → cntP l ≤ (l.length * (1 + n) : Nat)
  | [], _ => by simp [cntP]
  | x :: l, h => by
    have h1 := h x List.mem_cons_self
    have h2 := cntP_leS (l := l) (fun y hy => h y (List.mem_cons_of_mem _ hy))
    have h3 : ((x :: l).length * (1 + n) : Nat) = l.length * (1 + n) + (1 + n) := by rw [List.length_cons, Nat.add_mul, Nat.one_mul]
    rw [h3]
    simp only [cntP]
    omega
theorem small_placesS {w : List (Int × List Int)} {n : Nat} (hn : n ≤ 100000) (h1 : w.length ≤ n) (h2 : ∀ x ∈ w, x.2.length ≤ 40) : w.length < 1000000000 ∧ (∀ x ∈ w, x.2.length < 1000000000) ∧ cntP w < 100000000000 := by
  refine ⟨by omega, fun x hx => by have := h2 x hx; omega, ?_⟩
  have := cntP_leS h2
  omega
theorem inM_lt {k : Int} {n : Nat} (h : inM k n = true) : 0 ≤ k ∧ k.toNat < n := by
  unfold inM at h
  simp only [Bool.and_eq_true, decide_eq_true_eq] at h
  omega
def nsM (r : Shape) (k : Int) : List Int := (numsM r k.toNat).getD []
theorem sym_nums {r : Shape} {l : List PieceM} {k : Int} (h : hasM (symsS r l) k = true) : ∃ t : Nat, k = t ∧ t < 8 ∧ numsM r t = some (nsM r k) := by
  unfold hasM at h
  obtain ⟨x, hx, e⟩ := List.any_eq_true.mp h
  obtain rfl : x = k := by simpa using e
  unfold symsS at hx
  obtain ⟨t, rfl, ht, hq⟩ := symT_mem (List.mem_filter.mp hx).1
  refine ⟨t, rfl, ht, ?_⟩
  unfold symQS at hq
  unfold nsM
  rw [Int.toNat_natCast]
  obtain ⟨s, hs⟩ := Option.isSome_iff_exists.mp hq
  rw [hs]; rfl
end Go.Proofs
end
section
open Go Go.Big
namespace Go.Proofs
set_option maxHeartbeats 2000000
def codS (r : Shape) (l : List PieceM) (s : List (Int × List Int)) : Int := if fitsS r l then (if solvedS r l s then 0 else 2) else 1
def codI (r : Shape) (l : List PieceM) (s : List (Int × List Int)) : Int := if fitsI r l then (if solvedI r l s then 0 else 2) else 1
theorem cod_eq (r : Shape) (l : List PieceM) (s : List (Int × List Int)) (hs : s.length < 1000000000) : codI r l s = codS r l s := by
  unfold codI codS
  have := solved_eq r l s hs
  unfold isSolvedI at this
  rw [fits_eq] at this ⊢
  by_cases c : fitsS r l = true
  · rw [c, Bool.true_and] at this
    rw [if_pos c, if_pos c, this]
  · rw [if_neg c, if_neg c]
theorem cod_zero {r : Shape} {l : List PieceM} {s : List (Int × List Int)} (h : codS r l s = 0) : solvedS r l s = true := by
  unfold codS at h
  by_cases c : fitsS r l = true
  · rw [if_pos c] at h
    by_cases c2 : solvedS r l s = true
    · exact c2
    · rw [if_neg c2] at h; omega
  · rw [if_neg c] at h; omega
theorem l16Code_fn (G : Gv) (r : Shape) (l : List PieceM) (s : List (Int × List Int)) (hr : r.length < 1000000000) (hl : l.length < 1000000000) (hpl : ∀ p ∈ l, p.cs.length < 1000000000) (hs : s.length < 1000000000) (hsc : ∀ x ∈ s, x.2.length < 1000000000) :
    Gives Tryz.prog G 104 [.ag [.sl 0 (cells r), .sl 0 (pieces l)], .sl 0 (places s)] (.i .i64 (codS r l s)) := by
  refine .of (.body Tryz.func104 rfl (by simp [Tryz.ntmps104]) ?_)
  rw [Tryz.ntmps104, Tryz.results104]
  have hf1 := specDoesFit_fn G r l hr hl hpl
  have hf2 := specIsSolved_fn G r l s hr hl hs hsc hpl
  unfold codS
  generalize fitsS r l = a at hf1
  generalize solvedS r l s = b at hf2
  replace hf1 := Hid.mk hf1
  replace hf2 := Hid.mk hf2
  clear hpl hsc
  refine AL ?_
  refine CV hf1.out ?_
  cases a with
  | false =>
    refine AL ?_
    simp [retA, backA, setF_if]
  | true =>
    refine AL ?_
    refine CV hf2.out ?_
    cases b with
    | false =>
      refine AL ?_
      simp [retA, backA, setF_if]
    | true =>
      refine AL ?_
      simp [retA, backA, setF_if]
theorem solutionCode_fn (G : Gv) (hA : AllK G) (r : Shape) (l : List PieceM) (s : List (Int × List Int)) (hr : r.length < 1000000000) (hl : l.length < 1000000000) (hpl : ∀ p ∈ l, p.cs.length < 1000000000) (hs : s.length < 1000000000) (hsc : ∀ x ∈ s, x.2.length < 1000000000) :
    Gives Tryz.prog G 107 [.ag [.sl 0 (cells r), .sl 0 (pieces l)], .sl 0 (places s)] (.i .i64 (codI r l s)) := by
  refine .of (.body Tryz.func107 rfl (by simp [Tryz.ntmps107]) ?_)
  rw [Tryz.ntmps107, Tryz.results107]
  have hf1 := implDoesFit_fn G hA.c1 hA.c2 r l hr hl hpl
  have hf2 : fitsI r l = true → _ := fun h => isSolved_fn G hA.c1 hA.c2 r l s (fitsI_ok h).1 hr (fitsI_ok h).2.1 hl hs hsc (fitsI_ok h).2.2 hpl
  unfold codI
  generalize fitsI r l = a at hf1 hf2
  generalize solvedI r l s = b at hf2
  replace hf1 := Hid.mk hf1
  replace hf2 := Hid.mk hf2
  clear hpl hsc
  refine AL ?_
  refine CV hf1.out ?_
  cases a with
  | false =>
    refine AL ?_
    simp [retA, backA, setF_if]
  | true =>
    refine AL ?_
    refine CV (hf2.out rfl) ?_
    cases b with
    | false =>
      refine AL ?_
      simp [retA, backA, setF_if]
    | true =>
      refine AL ?_
      simp [retA, backA, setF_if]
def tsolS (r : Shape) (l : List PieceM) (s : List (Int × List Int)) (k : Int) : List (Int × List Int) × Int := if codS r l s = 0 then (if hasM (symsS r l) k then (l16T (nsM r k) s, 0) else ([], 2)) else ([], codS r l s)
def tsolI (r : Shape) (l : List PieceM) (s : List (Int × List Int)) (k : Int) : List (Int × List Int) × Int := if codI r l s = 0 then (if hasM (symsI r l) k then (orderP (s.map (turnPl (nsM r k))), 0) else ([], 2)) else ([], codI r l s)
theorem specTurnSolution_fn (G : Gv) (r : Shape) (l : List PieceM) (s : List (Int × List Int)) (k : Int) (hr : r.length < 1000000000) (hl : l.length < 1000000000) (hpl : ∀ p ∈ l, p.cs.length < 1000000000) (hs : s.length < 1000000000) (hsc : ∀ x ∈ s, x.2.length < 1000000000) :
    Gives Tryz.prog G 55 [.ag [.sl 0 (cells r), .sl 0 (pieces l)], .sl 0 (places s), .i .i64 k] (.tup [.sl 1 (places (tsolS r l s k).1), .i .i64 (tsolS r l s k).2]) := by
  refine .of (.body Tryz.func55 rfl (by simp [Tryz.ntmps55]) ?_)
  rw [Tryz.ntmps55, Tryz.results55]
  have hcod := l16Code_fn G r l s hr hl hpl hs hsc
  by_cases c : codS r l s = 0
  · have hsol := cod_zero c
    obtain ⟨hfit, hx, _⟩ := solved_facts hsol
    obtain ⟨g1, g8⟩ := fits_facts hfit
    have hsy := l16Symmetries_fn G r l g1 hr hl g8
    have hres : tsolS r l s k = if hasM (symsS r l) k then (l16T (nsM r k) s, 0) else ([], 2) := by unfold tsolS; rw [if_pos c]
    rw [hres]
    rw [c] at hcod
    have hyl := symsS_len r l
    have hT : hasM (symsS r l) k = true → Gives Tryz.prog G 106 [.ag [.sl 0 (cells r), .sl 0 (pieces l)], .sl 0 (places s), .i .i64 k] (.sl 1 (places (l16T (nsM r k) s))) := fun h => by
      obtain ⟨t, e, _, hn⟩ := sym_nums h
      rw [e] at hn ⊢
      exact l16Turn_fn G r l s t _ hn g1 hr hs (fun x hx' => ⟨hsc x hx', (hx x hx').2⟩)
    have hH := l01Has_fn G (symsS r l) k (by omega)
    generalize l16T (nsM r k) s = OUT at hT
    generalize symsS r l = Y at hsy hT hH hyl
    generalize hasM Y k = b at hT hH
    clear hres c hsol hfit hx g1 g8 hpl hsc
    replace hcod := Hid.mk hcod
    replace hsy := Hid.mk hsy
    replace hT := Hid.mk hT
    replace hH := Hid.mk hH
    refine AL ?_
    refine CV hcod.out ?_
    refine AL ?_
    refine CV hsy.out ?_
    refine AL ?_
    refine CV hH.out ?_
    cases b with
    | false =>
      refine AL ?_
      simp [retA, backA, backsA, places_nil]
    | true =>
      refine AL ?_
      refine CV (hT.out rfl) ?_
      refine AL ?_
      simp [retA, backA, backsA, newSl]
  · have hres : tsolS r l s k = ([], codS r l s) := by unfold tsolS; rw [if_neg c]
    rw [hres]
    have c2 : (codS r l s == 0) = false := by simpa using c
    have c3 : (codS r l s != 0) = true := by simpa using c
    generalize codS r l s = cd at hcod c c2 c3
    clear hres hpl hsc
    replace hcod := Hid.mk hcod
    refine AL ?_
    refine CV hcod.out ?_
    refine AL ?_
    simp [retA, backA, backsA, places_nil]
theorem implTurnSolution_o (G : Gv) (hA : AllK G) (r : Shape) (l : List PieceM) (s : List (Int × List Int)) (k : Int) (hr : r.length < 1000000000) (hl : l.length < 1000000000) (hpl : ∀ p ∈ l, p.cs.length < 1000000000) (hs : s.length < 1000000000) (hsc : ∀ x ∈ s, x.2.length < 1000000000) :
    GivesO Tryz.prog G 56 [.ag [.sl 0 (cells r), .sl 0 (pieces l)], .sl 0 (places s), .i .i64 k] (.tup [.sl 1 (places (tsolI r l s k).1), .i .i64 (tsolI r l s k).2]) := by
  refine .of (.body Tryz.func56 rfl (by simp [Tryz.ntmps56]) ?_)
  rw [Tryz.ntmps56, Tryz.results56]
  have hcod := solutionCode_fn G hA r l s hr hl hpl hs hsc
  by_cases c : codI r l s = 0
  · have c' : codS r l s = 0 := by rw [← cod_eq r l s hs]; exact c
    have hsol := cod_zero c'
    obtain ⟨hfit, hx, _⟩ := solved_facts hsol
    obtain ⟨g1, g8⟩ := fits_facts hfit
    have grs := (puzzle_facts (fits_puzzle hfit)).1
    have hsy := (puzzleSymmetries_o G hA r l g1 hr hl g8).gives
    have hyl := symsS_len r l
    rw [← symsP_eq (puzzle_parts (fits_puzzle hfit)).1] at hyl
    have hres : tsolI r l s k = if hasM (symsI r l) k then (orderP (s.map (turnPl (nsM r k))), 0) else ([], 2) := by unfold tsolI; rw [if_pos c]
    rw [hres]
    rw [c] at hcod
    have hT : hasM (symsI r l) k = true → GivesO Tryz.prog G 111 [.ag [.sl 0 (cells r), .sl 0 (pieces l)], .sl 0 (places s), .i .i64 k] (.sl 1 (places (orderP (s.map (turnPl (nsM r k)))))) := fun h => by
      rw [symsP_eq (puzzle_parts (fits_puzzle hfit)).1] at h
      obtain ⟨t, e, _, hn⟩ := sym_nums h
      have hnd := turnPl_nodup hsol hn
      rw [e] at hn hnd ⊢
      exact turnList_o G hA r l s t _ hn grs g1 hr hs (fun x hx' => ⟨(hx x hx').1, hsc x hx', (hx x hx').2⟩) hnd
    have hH := slicesContains_fn G (symsI r l) k (by omega)
    generalize orderP (s.map (turnPl (nsM r k))) = OUT at hT
    generalize symsI r l = Y at hsy hT hH hyl
    generalize hasM Y k = b at hT hH
    clear hres c c' hsol hfit hx g1 g8 hpl hsc grs
    replace hcod := Hid.mk hcod
    replace hsy := Hid.mk hsy
    replace hT := Hid.mk hT
    replace hH := Hid.mk hH
    refine AL ?_
    refine CV hcod.out ?_
    refine AL ?_
    refine CV hsy.out ?_
    refine AL ?_
    refine CV hH.out ?_
    cases b with
    | false =>
      refine AL ?_
      exact ⟨[], ownX_mkT (s1 := []) (ownX_sl ownA_nil) ownX_mki, by simp⟩
    | true =>
      refine AL ?_
      refine CWO (hT.out rfl) ?_
      intro z H1 S m hz hn hS hf1 hm
      replace hz := Hid.mk hz
      replace hn := Hid.mk hn
      refine AL ?_
      refine ⟨S, ?_, hn.out⟩
      have := ownX_mkT hz.out (ownX_mki (H := H1) (k := .i64) (n := 0))
      rw [List.append_nil] at this
      simpa [retA, setF_if] using this
  · have hres : tsolI r l s k = ([], codI r l s) := by unfold tsolI; rw [if_neg c]
    rw [hres]
    have c2 : (codI r l s == 0) = false := by simpa using c
    have c3 : (codI r l s != 0) = true := by simpa using c
    generalize codI r l s = cd at hcod c c2 c3
    clear hres hpl hsc
    replace hcod := Hid.mk hcod
    refine AL ?_
    refine CV hcod.out ?_
    refine AL ?_
    exact ⟨[], ownX_mkT (s1 := []) (ownX_sl ownA_nil) ownX_mki, by simp⟩
end Go.Proofs
end
section
open Go Go.Big
namespace Go.Proofs
set_option maxHeartbeats 2000000
def cmpQ : List (Int × List Int) → List (Int × List Int) → Int
  | [], _ => 0
  | _ :: _, [] => 0
  | x :: a, y :: b => if cmpP x y = 0 then cmpQ a b else cmpP x y
theorem dropP_at {l : List (Int × List Int)} {i : Nat} {x : Int × List Int} (h : l[i]? = some x) : l.drop i = x :: l.drop (i + 1) := by
  obtain ⟨hi, rfl⟩ := List.getElem?_eq_some_iff.mp h
  exact List.drop_eq_getElem_cons hi
theorem l16Compare_fn (G : Gv) (a b : List (Int × List Int)) (ha : a.length < 1000000000) (hac : ∀ x ∈ a, x.2.length < 1000000000) (hbc : ∀ x ∈ b, x.2.length < 1000000000) (ce : b.length = a.length) : Gives Tryz.prog G 105 [.sl 0 (places a), .sl 0 (places b)] (.i .i64 (cmpQ a b)) := by
  refine .of (.body Tryz.func105 rfl (by simp [Tryz.ntmps105]) ?_)
  rw [Tryz.ntmps105, Tryz.results105]
  have hlen := places_len a
  have hlen2 := places_len b
  replace hac := Hid.mk hac
  replace hbc := Hid.mk hbc
  refine AL ?_
  refine .loop (.inv (fun d E H n' => ∃ i : Nat, i + d = a.length ∧ E 0 = .sl 0 (places a) ∧ E 1 = .sl 0 (places b) ∧ E 5 = .i .i64 i ∧ cmpQ (a.drop i) (b.drop i) = cmpQ a b) a.length ?_ ?_)
  · exact ⟨0, by omega, by simp [setF_if, argE], by simp [setF_if, argE], by simp [setF_if, argE], by simp⟩
  rintro d E H n' ⟨i, hi, h0, h1, h5, hc⟩
  replace hc := Hid.mk hc
  by_cases c : (i : Int) < a.length
  · have hw_i : IntKind.i64.wrap ((i : Int) + 1) = (i : Int) + 1 := wr64 (by omega) (by omega)
    obtain ⟨x, hx⟩ : ∃ x, a[i]? = some x := ⟨_, List.getElem?_eq_getElem (by omega)⟩
    obtain ⟨y, hy⟩ : ∃ y, b[i]? = some y := ⟨_, List.getElem?_eq_getElem (by omega)⟩
    have hro := places_at hx
    have hro2 := places_at hy
    have hd1 := dropP_at hx
    have hd2 := dropP_at hy
    have hcx := specComparePl_fn G x y (hac.out x (List.mem_of_getElem? hx)) (hbc.out y (List.mem_of_getElem? hy))
    have hq := hc.out
    rw [hd1, hd2, cmpQ] at hq
    clear hd1 hd2
    replace hx := Hid.mk hx
    replace hy := Hid.mk hy
    obtain ⟨xk, xs⟩ := x
    obtain ⟨yk, ys⟩ := y
    generalize cmpP (xk, xs) (yk, ys) = v at hcx hq
    replace hcx := Hid.mk hcx
    replace hq := Hid.mk hq
    refine AL ?_
    refine CQ hcx.out ?_
    by_cases cv : v = 0
    · have hq2 := hq.out
      rw [if_pos cv] at hq2
      have cv2 : (v != 0) = false := by simpa using cv
      replace hq2 := Hid.mk hq2
      replace cv := Hid.mk cv
      refine AL ?_
      exact ⟨a.length - (i + 1), by omega, i + 1, by omega, by simp [setF_if, *], by simp [setF_if, *], by simp [setF_if, *], hq2.out⟩
    · have hq2 := hq.out
      rw [if_neg cv] at hq2
      have cv2 : (v != 0) = true := by simpa using cv
      replace hq2 := Hid.mk hq2
      replace cv := Hid.mk cv
      refine AL ?_
      simp [retA, backA, setF_if, hq2.out]
  · have e : i = a.length := by omega
    have hq := hc.out
    rw [e, List.drop_length, cmpQ] at hq
    replace hq := Hid.mk hq
    refine AL ?_
    simp [retA, backA, setF_if, ← hq.out]
theorem compareFuncPl_fn (G : Gv) (a b : List (Int × List Int)) (ha : a.length < 1000000000) (hac : ∀ x ∈ a, x.2.length < 1000000000) (hbc : ∀ x ∈ b, x.2.length < 1000000000) (ce : b.length = a.length) : Gives Tryz.prog G 169 [.sl 0 (places a), .sl 0 (places b), .fn 139 []] (.i .i64 (cmpQ a b)) := by
  refine .of (.body Tryz.func169 rfl (by simp [Tryz.ntmps169]) ?_)
  rw [Tryz.ntmps169, Tryz.results169]
  have hlen := places_len a
  have hlen2 := places_len b
  replace hac := Hid.mk hac
  replace hbc := Hid.mk hbc
  refine AL ?_
  refine .loop (.inv (fun d E H n' => ∃ i : Nat, i + d = a.length ∧ 0 < n' ∧ E 0 = .sl 0 (places a) ∧ E 1 = .sl 0 (places b) ∧ E 2 = .fn 139 [] ∧ E 11 = .sl 0 (places a) ∧ E 12 = .i .i64 a.length ∧ E 13 = .i .i64 i ∧ cmpQ (a.drop i) (b.drop i) = cmpQ a b) a.length ?_ ?_)
  · exact ⟨0, by omega, by omega, by simp [setF_if, argE], by simp [setF_if, argE], by simp [setF_if, argE], by simp [setF_if, argE], by simp [setF_if, argE, hlen], by simp [setF_if, argE], by simp⟩
  rintro d E H n' ⟨i, hi, hn, h0, h1, h2, h11, h12, h13, hc⟩
  replace hc := Hid.mk hc
  by_cases c : (i : Int) < a.length
  · have hw_i : IntKind.i64.wrap ((i : Int) + 1) = (i : Int) + 1 := wr64 (by omega) (by omega)
    obtain ⟨x, hx⟩ : ∃ x, a[i]? = some x := ⟨_, List.getElem?_eq_getElem (by omega)⟩
    obtain ⟨y, hy⟩ : ∃ y, b[i]? = some y := ⟨_, List.getElem?_eq_getElem (by omega)⟩
    have hro := places_at hx
    have hro2 := places_at hy
    have hd1 := dropP_at hx
    have hd2 := dropP_at hy
    have hcx := implComparePl_fn G x y (hac.out x (List.mem_of_getElem? hx)) (hbc.out y (List.mem_of_getElem? hy))
    have hq := hc.out
    rw [hd1, hd2, cmpQ] at hq
    clear hd1 hd2
    have cge : ¬ ((i : Int) ≥ a.length) := by omega
    replace hx := Hid.mk hx
    replace hy := Hid.mk hy
    obtain ⟨xk, xs⟩ := x
    obtain ⟨yk, ys⟩ := y
    generalize cmpP (xk, xs) (yk, ys) = v at hcx hq
    replace hcx := Hid.mk hcx
    replace hq := Hid.mk hq
    refine AL ?_
    refine CV hcx.out ?_
    by_cases cv : v = 0
    · have hq2 := hq.out
      rw [if_pos cv] at hq2
      have cv2 : (v != 0) = false := by simpa using cv
      replace hq2 := Hid.mk hq2
      replace cv := Hid.mk cv
      refine AL ?_
      exact ⟨a.length - (i + 1), by omega, i + 1, by omega, by omega, by simp [setF_if, *], by simp [setF_if, *], by simp [setF_if, *], by simp [setF_if, *], by simp [setF_if, *], by simp [setF_if, *], hq2.out⟩
    · have hq2 := hq.out
      rw [if_neg cv] at hq2
      have cv2 : (v != 0) = true := by simpa using cv
      replace hq2 := Hid.mk hq2
      replace cv := Hid.mk cv
      refine AL ?_
      simp [retA, backA, setF_if, hq2.out]
  · have e : i = a.length := by omega
    have hq := hc.out
    rw [e, List.drop_length, cmpQ] at hq
    replace hq := Hid.mk hq
    refine AL ?_
    simp [retA, backA, setF_if, ← hq.out]
theorem compareLists_fn (G : Gv) (a b : List (Int × List Int)) (ha : a.length < 1000000000) (hac : ∀ x ∈ a, x.2.length < 1000000000) (hbc : ∀ x ∈ b, x.2.length < 1000000000) (ce : b.length = a.length) : Gives Tryz.prog G 110 [.sl 0 (places a), .sl 0 (places b)] (.i .i64 (cmpQ a b)) := by
  refine .of (.body Tryz.func110 rfl (by simp [Tryz.ntmps110]) ?_)
  rw [Tryz.ntmps110, Tryz.results110]
  have hf := compareFuncPl_fn G a b ha hac hbc ce
  clear hac hbc
  replace hf := Hid.mk hf
  refine AL ?_
  refine CV hf.out ?_
  refine AL ?_
  simp [retA, backA, setF_if]
end Go.Proofs
end
section
open Go Go.Big
namespace Go.Proofs
set_option maxHeartbeats 2000000
theorem stab1_wc (G : Gv) (r : Shape) (l : List PieceM) (s T : List (Int × List Int)) (x v : Int) (T0 T1 : TypeId) (H : Heap) (n : Nat) (hn : 1 < n) (h0 : H 0 = some (.box T0 [.sl 0 (cells r), .sl 0 (pieces l)])) (h1 : H 1 = some (.box T1 [.sl 0 (places s)]))
    (hT : GivesO Tryz.prog G 111 [.ag [.sl 0 (cells r), .sl 0 (pieces l)], .sl 0 (places s), .i .i64 x] (.sl 1 (places T))) (hc : Gives Tryz.prog G 110 [.sl 0 (places T), .sl 0 (places s)] (.i .i64 v)) :
    WC Tryz.prog G 109 [.i .i64 x, .ptr 0 0 0 0, .ptr 1 0 0 0] H n (fun r H' n' => r = .b (v != 0) ∧ n ≤ n' ∧ ∀ k, k < n → H' k = H k) := by
  refine (.body Tryz.func109 rfl (by simp [Tryz.ntmps109]) ?_)
  rw [Tryz.ntmps109, Tryz.results109]
  replace hT := Hid.mk hT
  replace hc := Hid.mk hc
  refine AX ?_
  refine DMF [111] [9] 2 ?_
  refine AX ?_
  refine CWM hT.out ?_
  intro z H1 S m hz hn1 hS hf hm
  have hgv := ownX_gives hz
  have q1 := (hf 1 (by omega)).trans h1
  have hf2 : ∀ k, k < n → H1 k = H k := fun k hk => hf k (by omega)
  clear hz hn1 hS hf
  replace hf2 := Hid.mk hf2
  refine OSQ ?_ (hs := by
    intro Hx hx
    have q0 := hx 1 (by omega)
    rw [q1] at q0
    exact EV)
  refine CM hc.out ?_
  refine AX ?_
  exact ⟨by simp [retA, setF_if], by omega, hf2.out⟩
theorem sym_mem {r : Shape} {l : List PieceM} {k : Int} (h : k ∈ symsS r l) : ∃ t : Nat, k = t ∧ t < 8 ∧ numsM r t = some (nsM r k) :=
  sym_nums (l := l) (by unfold hasM; exact List.any_eq_true.mpr ⟨k, h, by simp⟩)
theorem symsS_pos {r : Shape} {l : List PieceM} (h : regionS r = true) : 0 < (symsS r l).length := by
  have hq : symQS r 0 = true := by
    unfold symQS numsM
    have : turnL r 0 = r := by
      unfold turnL
      conv => rhs; rw [← List.map_id r]
      exact List.map_congr_left fun p _ => rfl
    rw [this, region_norm h]
    obtain ⟨s, hs⟩ := setM_yes (r := r) (cs := r) (fun x hx => hx)
    rw [hs]; rfl
  have : (0 : Int) ∈ symsS r l := by
    unfold symsS symT
    rw [List.mem_filter]
    refine ⟨List.mem_map.mpr ⟨0, ?_, rfl⟩, by simp⟩
    rw [List.mem_filter]
    exact ⟨List.mem_range.mpr (by omega), hq⟩
  exact List.length_pos_of_mem this
def stabS (r : Shape) (l : List PieceM) (s : List (Int × List Int)) : List Int × Int := if codS r l s = 0 then ((symsS r l).filter (fun x => cmpQ (l16T (nsM r x) s) s == 0), 0) else ([], codS r l s)
def stabI (r : Shape) (l : List PieceM) (s : List (Int × List Int)) : List Int × Int := if codI r l s = 0 then ((symsI r l).filter (fun x => !(cmpQ (orderP (s.map (turnPl (nsM r x)))) s != 0)), 0) else ([], codI r l s)
theorem specStabilizerOf_fn (G : Gv) (r : Shape) (l : List PieceM) (s : List (Int × List Int)) (hr : r.length < 1000000000) (hl : l.length < 1000000000) (hpl : ∀ p ∈ l, p.cs.length < 1000000000) (hs : s.length < 1000000000) (hsc : ∀ x ∈ s, x.2.length < 1000000000) :
    Gives Tryz.prog G 53 [.ag [.sl 0 (cells r), .sl 0 (pieces l)], .sl 0 (places s)] (.tup [.sl 1 (ints (stabS r l s).1), .i .i64 (stabS r l s).2]) := by
  refine .of (.body Tryz.func53 rfl (by simp [Tryz.ntmps53]) ?_)
  rw [Tryz.ntmps53, Tryz.results53]
  have hcod := l16Code_fn G r l s hr hl hpl hs hsc
  by_cases c : codS r l s = 0
  · have hsol := cod_zero c
    obtain ⟨hfit, hx, _⟩ := solved_facts hsol
    obtain ⟨g1, g8⟩ := fits_facts hfit
    have hsy := l16Symmetries_fn G r l g1 hr hl g8
    have hres : stabS r l s = ((symsS r l).filter (fun x => cmpQ (l16T (nsM r x) s) s == 0), 0) := by unfold stabS; rw [if_pos c]
    rw [hres]
    rw [c] at hcod
    have hyl := symsS_len r l
    have hT : ∀ k ∈ symsS r l, Gives Tryz.prog G 106 [.ag [.sl 0 (cells r), .sl 0 (pieces l)], .sl 0 (places s), .i .i64 k] (.sl 1 (places (l16T (nsM r k) s))) := fun k h => by
      obtain ⟨t, e, _, hn⟩ := sym_mem h
      rw [e] at hn ⊢
      exact l16Turn_fn G r l s t _ hn g1 hr hs (fun x hx' => ⟨hsc x hx', (hx x hx').2⟩)
    have hC : ∀ k ∈ symsS r l, Gives Tryz.prog G 105 [.sl 0 (places (l16T (nsM r k) s)), .sl 0 (places s)] (.i .i64 (cmpQ (l16T (nsM r k) s) s)) := fun k _ =>
      l16Compare_fn G _ s (by rw [l16T_len]; exact hs) (l16T_cells hsc) hsc (by rw [l16T_len])
    obtain ⟨F, hF⟩ : ∃ F : Int → List (Int × List Int), F = fun k => l16T (nsM r k) s := ⟨_, rfl⟩
    obtain ⟨V, hV⟩ : ∃ V : Int → Int, V = fun k => cmpQ (l16T (nsM r k) s) s := ⟨_, rfl⟩
    rw [show (fun x => cmpQ (l16T (nsM r x) s) s == 0) = fun x => V x == 0 by rw [hV]]
    replace hT : ∀ k ∈ symsS r l, Gives Tryz.prog G 106 [.ag [.sl 0 (cells r), .sl 0 (pieces l)], .sl 0 (places s), .i .i64 k] (.sl 1 (places (F k))) := by rw [hF]; exact hT
    replace hC : ∀ k ∈ symsS r l, Gives Tryz.prog G 105 [.sl 0 (places (F k)), .sl 0 (places s)] (.i .i64 (V k)) := by rw [hF, hV]; exact hC
    generalize symsS r l = Y at hsy hT hC hyl
    clear hres c hsol hfit hx g1 g8 hpl hsc hF hV
    have hYn := ints_len Y
    replace hcod := Hid.mk hcod
    replace hsy := Hid.mk hsy
    replace hT := Hid.mk hT
    replace hC := Hid.mk hC
    refine AL ?_
    refine CV hcod.out ?_
    refine AL ?_
    refine CV hsy.out ?_
    refine AL ?_
    refine .loop (.inv (fun d E H n' => ∃ (i e : Nat), i + d = Y.length ∧ 12 < n' ∧ E 1 = .sl 0 (places s) ∧ E 2 = .ptr 0 0 0 0 ∧ E 7 = .sl 1 (ints Y) ∧ E 8 = .own 12 e ∧ E 9 = .i .i64 i ∧ H 0 = some (.box 35 [.sl 0 (cells r), .sl 0 (pieces l)]) ∧ H 12 = some (.arr e 2 1 (ints ((Y.take i).filter fun x => V x == 0)) 1)) Y.length ?_ ?_)
    · exact ⟨0, 0, by omega, by omega, by simp [setF_if, argE], by simp [setF_if, argE], by simp [setF_if, argE], by simp [setF_if, argE], by simp [setF_if, argE], by simp [upd_if], by simp [upd_if, ints]⟩
    rintro d E H n' ⟨i, e, hi, hn, e1, e2, e7, e8, e9, hH0, hH⟩
    by_cases ci : (i : Int) < Y.length
    · have hw_i : IntKind.i64.wrap ((i : Int) + 1) = (i : Int) + 1 := wr64 (by omega) (by omega)
      obtain ⟨x, hx⟩ : ∃ x, Y[i]? = some x := ⟨_, List.getElem?_eq_getElem (by omega)⟩
      have hro := ints_row hx
      have hft := filter_take (q := fun x => V x == 0) hx
      have hrl : (ints ((Y.take i).filter fun x => V x == 0)).length ≤ 8 := by
        rw [ints_len]
        have := List.length_filter_le (fun x => V x == 0) (Y.take i)
        have := List.length_take_le i Y
        omega
      have hb : ((ints ((Y.take i).filter fun x => V x == 0)).length + 1) * 8 ≤ 140737488355328 := by omega
      have hTx := hT.out x (List.mem_of_getElem? hx)
      have hCx := hC.out x (List.mem_of_getElem? hx)
      replace hx := Hid.mk hx
      generalize F x = Fx at hTx hCx
      generalize V x = v at hft hCx
      replace hTx := Hid.mk hTx
      replace hCx := Hid.mk hCx
      by_cases cv : v = 0
      · have hft2 := hft
        simp only [cv, beq_self_eq_true, if_true] at hft2
        have hap : ints ((Y.take i).filter fun x => V x == 0) ++ [[PV.i .i64 x]] = ints ((Y.take (i + 1)).filter fun x => V x == 0) := by rw [hft2]; exact ints_app1 _ _
        clear hft hft2
        generalize ints ((Y.take i).filter fun x => V x == 0) = R at hH hrl hb hap
        clear hrl
        have cv2 : (v == 0) = true := by simpa using cv
        replace cv := Hid.mk cv
        refine AL ?_
        refine CQ hTx.out ?_
        refine AL ?_
        refine CQ hCx.out ?_
        refine AL ?_
        exact ⟨Y.length - (i + 1), by omega, i + 1, e + 1, by omega, by omega, by simp [setF_if, *], by simp [setF_if, *], by simp [setF_if, *], by simp [setF_if, *], by simp [setF_if, *], by simp [upd_if, *], by simp [upd_if, *]⟩
      · have cv2 : (v == 0) = false := by simpa using cv
        have hft2 := hft
        simp only [cv2, Bool.false_eq_true, if_false, List.append_nil] at hft2
        rw [← hft2] at hH
        clear hft hft2 hb hrl
        replace cv := Hid.mk cv
        refine AL ?_
        refine CQ hTx.out ?_
        refine AL ?_
        refine CQ hCx.out ?_
        refine AL ?_
        exact ⟨Y.length - (i + 1), by omega, i + 1, e, by omega, by omega, by simp [setF_if, *], by simp [setF_if, *], by simp [setF_if, *], by simp [setF_if, *], by simp [setF_if, *], hH0, hH⟩
    · have ei : i = Y.length := by omega
      rw [ei, List.take_length] at hH
      refine AL ?_
      simp [retA, backA, backsA, newSl, newB, setF_if, *]
  · have hres : stabS r l s = ([], codS r l s) := by unfold stabS; rw [if_neg c]
    rw [hres]
    have c3 : (codS r l s != 0) = true := by simpa using c
    generalize codS r l s = cd at hcod c c3
    clear hres hpl hsc
    replace hcod := Hid.mk hcod
    refine AL ?_
    refine CV hcod.out ?_
    refine AL ?_
    simp [retA, backA, backsA, ints]
theorem implStabilizerOf_o (G : Gv) (hA : AllK G) (r : Shape) (l : List PieceM) (s : List (Int × List Int)) (hr : r.length < 1000000000) (hl : l.length < 1000000000) (hpl : ∀ p ∈ l, p.cs.length < 1000000000) (hs : s.length < 1000000000) (hsc : ∀ x ∈ s, x.2.length < 1000000000) :
    GivesO Tryz.prog G 54 [.ag [.sl 0 (cells r), .sl 0 (pieces l)], .sl 0 (places s)] (.tup [.sl 1 (ints (stabI r l s).1), .i .i64 (stabI r l s).2]) := by
  refine .of (.body Tryz.func54 rfl (by simp [Tryz.ntmps54]) ?_)
  rw [Tryz.ntmps54, Tryz.results54]
  have hcod := solutionCode_fn G hA r l s hr hl hpl hs hsc
  by_cases c : codI r l s = 0
  · have c' : codS r l s = 0 := by rw [← cod_eq r l s hs]; exact c
    have hsol := cod_zero c'
    obtain ⟨hfit, hx, _⟩ := solved_facts hsol
    obtain ⟨g1, g8⟩ := fits_facts hfit
    have grs := (puzzle_facts (fits_puzzle hfit)).1
    have hsy := puzzleSymmetries_o G hA r l g1 hr hl g8
    have hyl := symsS_len r l
    have hTS : ∀ k ∈ symsS r l, GivesO Tryz.prog G 111 [.ag [.sl 0 (cells r), .sl 0 (pieces l)], .sl 0 (places s), .i .i64 k] (.sl 1 (places (orderP (s.map (turnPl (nsM r k)))))) := fun k h => by
      obtain ⟨t, e, _, hn⟩ := sym_mem h
      have hnd := turnPl_nodup hsol hn
      rw [e] at hn hnd ⊢
      exact turnList_o G hA r l s t _ hn grs g1 hr hs (fun x hx' => ⟨(hx x hx').1, hsc x hx', (hx x hx').2⟩) hnd
    rw [← symsP_eq (puzzle_parts (fits_puzzle hfit)).1] at hyl hTS
    have hres : stabI r l s = ((symsI r l).filter (fun x => !(cmpQ (orderP (s.map (turnPl (nsM r x)))) s != 0)), 0) := by unfold stabI; rw [if_pos c]
    rw [hres]
    rw [c] at hcod
    have hC : ∀ k, Gives Tryz.prog G 110 [.sl 0 (places (orderP (s.map (turnPl (nsM r k))))), .sl 0 (places s)] (.i .i64 (cmpQ (orderP (s.map (turnPl (nsM r k)))) s)) := fun k => by
      rw [← l16T_eq]
      exact compareLists_fn G _ s (by rw [l16T_len]; exact hs) (l16T_cells hsc) hsc (by rw [l16T_len])
    have hW : ∀ k ∈ symsI r l, ∀ (T0 T1 : TypeId) (H : Heap) (n : Nat), 1 < n → H 0 = some (.box T0 [.sl 0 (cells r), .sl 0 (pieces l)]) → H 1 = some (.box T1 [.sl 0 (places s)]) →
        WC Tryz.prog G 109 [.i .i64 k, .ptr 0 0 0 0, .ptr 1 0 0 0] H n (fun z H' n' => z = .b (cmpQ (orderP (s.map (turnPl (nsM r k)))) s != 0) ∧ n ≤ n' ∧ ∀ k, k < n → H' k = H k) :=
      fun k hk T0 T1 H n hn h0 h1 => stab1_wc G r l s _ k _ T0 T1 H n hn h0 h1 (hTS k hk) (hC k)
    have hne := symsS_pos (l := l) (puzzle_parts (fits_puzzle hfit)).1
    rw [← symsP_eq (puzzle_parts (fits_puzzle hfit)).1] at hne
    obtain ⟨V, hV⟩ : ∃ V : Int → Int, V = fun k => cmpQ (orderP (s.map (turnPl (nsM r k)))) s := ⟨_, rfl⟩
    rw [show (fun x => !(cmpQ (orderP (s.map (turnPl (nsM r x)))) s != 0)) = fun x => !(V x != 0) by rw [hV]]
    replace hW : ∀ k ∈ symsI r l, ∀ (T0 T1 : TypeId) (H : Heap) (n : Nat), 1 < n → H 0 = some (.box T0 [.sl 0 (cells r), .sl 0 (pieces l)]) → H 1 = some (.box T1 [.sl 0 (places s)]) →
        WC Tryz.prog G 109 [.i .i64 k, .ptr 0 0 0 0, .ptr 1 0 0 0] H n (fun z H' n' => z = .b (V k != 0) ∧ n ≤ n' ∧ ∀ k, k < n → H' k = H k) := by rw [hV]; exact hW
    generalize symsI r l = Y at hsy hW hyl hne
    clear hres c c' hsol hfit hx g1 g8 hpl hsc grs hTS hC hV
    replace hcod := Hid.mk hcod
    replace hsy := Hid.mk hsy
    replace hW := Hid.mk hW
    refine AL ?_
    refine CV hcod.out ?_
    refine AL ?_
    refine CWO hsy.out ?_
    intro z H1 S m hz hn hS hf hm
    have b0 := hf 0 (by omega)
    have b1 := hf 1 (by omega)
    simp only [upd_if, Nat.reduceEqDiff, reduceIte, if_false, Nat.zero_ne_one, Nat.one_ne_zero] at b0 b1
    obtain ⟨o, e, ty, sz, t, rfl, hHo, rfl, ht, hft⟩ : ∃ o e ty sz t, z = .own o e ∧ H1 o = some (.arr e ty sz (ints Y) t) ∧ S = [o] ∧ t ≠ 2 ∧ fitR sz (ints Y) := by
      rcases ownA_flat (ownX_un hz) (ints_scal _) with h | ⟨_, e1, _⟩
      · exact h
      · have : (ints Y).length = 0 := by rw [e1]; rfl
        rw [ints_len] at this; omega
    obtain rfl := fit_one hft hne
    obtain ⟨ho1, ho2⟩ := hS o (by simp)
    clear hz hn hS hf hft
    replace ht := Hid.mk ht
    refine AL ?_
    refine CI ?_
    refine (deleteFuncIn_own G 109 [.ptr 0 0 0 0, .ptr 1 0 0 0] _ _ o e t ty (fun x => V x != 0) Y (fun x hx H3 n3 hn3 hH3 => hW.out x hx _ _ H3 n3 (by omega) ((hH3 0 (by omega) (by omega)).trans b0) ((hH3 1 (by omega) (by omega)).trans b1)) (by kernel_rfl) (by omega) (by omega) hHo ht.out).mono ?_
    rintro z H3 n3 ⟨hn3, _, hz⟩
    replace hz := Hid.mk hz
    refine AL ?_
    rcases hz.out with ⟨e', t', rfl, ht, hH3⟩ | ⟨rfl, hnil⟩
    · refine ⟨[o], ?_, by simp⟩
      rw [← List.append_nil [o]]
      simpa [retA, setF_if] using ownX_mkT (ownX_sl (ownA_mk hH3 (ints_scal _) ht (ints_fit _))) (ownX_mki (k := .i64) (n := 0))
    · refine ⟨[], ?_, by simp⟩
      rw [hnil]
      simpa [retA, setF_if, ints] using ownX_mkT (s1 := []) (s2 := []) (ownX_sl (H := H3) (x := .sl 1 []) (.inr ⟨.inr ⟨1, rfl⟩, rfl, rfl⟩)) (ownX_mki (k := .i64) (n := 0))
  · have hres : stabI r l s = ([], codI r l s) := by unfold stabI; rw [if_neg c]
    rw [hres]
    have c3 : (codI r l s != 0) = true := by simpa using c
    generalize codI r l s = cd at hcod c c3
    clear hres hpl hsc
    replace hcod := Hid.mk hcod
    refine AL ?_
    refine CV hcod.out ?_
    refine AL ?_
    exact ⟨[], ownX_mkT (s1 := []) (ownX_sl ownA_nil) ownX_mki, by simp⟩
end Go.Proofs
end
