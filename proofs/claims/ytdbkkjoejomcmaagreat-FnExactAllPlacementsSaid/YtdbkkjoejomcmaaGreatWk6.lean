/- Walks: The set of cells, by a search of each: the one program. No condition. | Numbers written into lists of one's own. No condition. | Numbers written into lists of what owns lists. No condition. -/
import Derived.Test.YtdbkkjoejomcmaaGreatBO
import Derived.Test.YtdbkkjoejomcmaaGreatWk5
import Derived.Test.YtdbkkjoejomcmaaGreatWk1
import Derived.Test.YtdbkkjoejomcmaaGreatWk3
set_option linter.unusedVariables false
set_option linter.unusedSimpArgs false
section
open Go Go.Big
namespace Go.Proofs
set_option maxHeartbeats 2000000
theorem setM_snoc {r : Shape} {c : Int × Int} : ∀ {cs : Shape}, setM r (cs ++ [c]) = (setM r cs).bind fun s => if idxM r c < 0 then none else some (s ++ [idxM r c])
  | [] => by
    simp only [List.nil_append, setM]
    split <;> simp [*]
  | d :: cs => by
    rw [List.cons_append]
    simp only [setM]
    split
    · rfl
    · rw [setM_snoc]
      cases setM r cs with
      | none => rfl
      | some s => simp only [Option.bind_some, Option.map_some]; split <;> simp
theorem setM_app {r : Shape} {b : Shape} : ∀ {a : Shape}, setM r a = none → setM r (a ++ b) = none
  | [], h => by simp [setM] at h
  | d :: a, h => by
    rw [List.cons_append]
    simp only [setM] at h ⊢
    split at h
    · rename_i c; rw [if_pos c]
    · rename_i c
      rw [if_neg c]
      cases q : setM r a with
      | none => rw [setM_app q]; rfl
      | some s => rw [q] at h; simp at h
theorem setM_len {r : Shape} : ∀ {cs : Shape} {s : List Int}, setM r cs = some s → s.length = cs.length
  | [], s, h => by simp only [setM, Option.some.injEq] at h; subst h; rfl
  | c :: cs, s, h => by
    simp only [setM] at h
    split at h
    · simp at h
    · obtain ⟨s', h1, rfl⟩ := Option.map_eq_some_iff.mp h
      simp [setM_len h1]
theorem setM_take {r cs : Shape} {i : Nat} (hi : i < cs.length) {s : List Int} (h : setM r (cs.take i) = some s) : setM r (cs.take (i + 1)) = if idxM r (cs.getD i (0, 0)) < 0 then none else some (s ++ [idxM r (cs.getD i (0, 0))]) := by
  rw [List.take_succ_eq_append_getElem hi, setM_snoc, h, Option.bind_some, List.getD_eq_getElem?_getD, List.getElem?_eq_getElem hi]; rfl
theorem setM_stop {r cs : Shape} {i : Nat} (hi : i < cs.length) (h : setM r (cs.take (i + 1)) = none) : setM r cs = none := by
  have := setM_app (b := cs.drop (i + 1)) h
  rwa [List.take_append_drop] at this
def setA (o : Option (List Int)) : AV := match o with
  | some s => .tup [.sl 1 (ints s), .b true]
  | none => .tup [.sl 1 [], .b false]
theorem l10Set_fn (G : Gv) (r cs : Shape) (hr : r.length < 1000000000) (hc : cs.length < 1000000000) : Gives Tryz.prog G 129 [.sl 0 (cells r), .sl 0 (cells cs)] (setA (setM r cs)) := by
  refine .of (.body Tryz.func129 rfl (by simp [Tryz.ntmps129]) ?_)
  rw [Tryz.ntmps129, Tryz.results129]
  have hlen := cells_len cs
  refine AL ?_
  refine .loop (.inv (fun d E H n' => ∃ (i : Nat) (s : List Int) (e : Nat), i + d = cs.length ∧ 2 < n' ∧ E 0 = .sl 0 (cells r) ∧ E 1 = .sl 0 (cells cs) ∧ E 6 = .own 2 e ∧ E 7 = .i .i64 i ∧ H 2 = some (.arr e 2 1 (ints s) 1) ∧ setM r (cs.take i) = some s) cs.length ?_ ?_)
  · exact ⟨0, [], 0, by omega, by omega, by simp [setF_if, argE], by simp [setF_if, argE], by simp [setF_if, argE], by simp [setF_if, argE], by simp [upd_if, ints], rfl⟩
  rintro d E H n' ⟨i, s, e, hi, hn, h0, h1, h6, h7, hH, hs⟩
  replace hs := Hid.mk hs
  by_cases c : (i : Int) < cs.length
  · have hw_i : IntKind.i64.wrap ((i : Int) + 1) = (i : Int) + 1 := wr64 (by omega) (by omega)
    have hro := cells_at (l := cs) (i := i) (by omega)
    have hst := setM_take (i := i) (by omega) hs.out
    have hsl := setM_len hs.out
    have hstop := fun h => setM_stop (r := r) (cs := cs) (i := i) (by omega) h
    rw [List.length_take] at hsl
    have hle : (ints s).length = s.length := ints_len s
    have hb : (s.length + 1) * 8 ≤ 140737488355328 := by omega
    generalize cs.getD i (0, 0) = p at hro hst
    obtain ⟨px, py⟩ := p
    have hap : ints s ++ [[.i .i64 (idxM r (px, py))]] = ints (s ++ [idxM r (px, py)]) := by simp [ints]
    replace hst := Hid.mk hst
    replace hstop := Hid.mk hstop
    have n3 : ¬ (2 = n' + 17) := by omega
    clear hsl
    refine AL ?_
    refine CV (l02Index_fn G r px py hr) ?_
    by_cases ck : idxM r (px, py) < 0
    · have := hstop.out (by rw [hst.out, if_pos ck])
      replace this := Hid.mk this
      clear hb
      refine AL ?_
      simp [retA, backA, backsA, setA, this.out]
    · have hst2 := hst.out
      rw [if_neg ck] at hst2
      replace hst2 := Hid.mk hst2
      refine AL ?_
      exact ⟨cs.length - (i + 1), by omega, i + 1, s ++ [idxM r (px, py)], e + 1, by omega, by omega, by simp [setF_if, *], by simp [setF_if, *], by simp [setF_if, *], by simp [setF_if, *], by simp [upd_if, *], hst2.out⟩
  · have ei : i = cs.length := by omega
    have hs' := hs.out
    rw [ei, List.take_length] at hs'
    refine AL ?_
    rw [hs']
    simp [retA, backA, backsA, newSl, newB, setA, setF_if, h6, hH]
/- The library's binary search in a sorted list of cells. -/
def posM (r : Shape) (c : Int × Int) : Nat := r.countP fun q => lessC q.1 q.2 c.1 c.2
theorem countP_split {α : Type} {p : α → Bool} {l : List α} {i : Nat} (hi : i ≤ l.length) (h1 : ∀ k (h : k < l.length), k < i → p l[k] = true) (h2 : ∀ k (h : k < l.length), i ≤ k → p l[k] = false) : l.countP p = i := by
  have e : l.countP p = (l.take i).countP p + (l.drop i).countP p := by rw [← List.countP_append, List.take_append_drop]
  have e1 : (l.take i).countP p = (l.take i).length := by
    rw [List.countP_eq_length]
    intro x hx
    obtain ⟨k, hk, rfl⟩ := List.mem_iff_getElem.mp hx
    rw [List.length_take] at hk
    rw [List.getElem_take]
    exact h1 k (by omega) (by omega)
  have e2 : (l.drop i).countP p = 0 := by
    rw [List.countP_eq_zero]
    intro x hx
    obtain ⟨k, hk, rfl⟩ := List.mem_iff_getElem.mp hx
    rw [List.length_drop] at hk
    rw [List.getElem_drop, h2 (i + k) (by omega) (by omega)]
    simp
  rw [e, e1, e2, List.length_take]; omega
theorem wru64 {n : Int} (h1 : 0 ≤ n) (h2 : n < 4611686018427387904) : IntKind.u64.wrap n = n := by
  simp [IntKind.wrap, IntKind.bits, IntKind.signed]; omega
theorem bsearch_fn (G : Gv) (r : Shape) (c : Int × Int) (hs : r.Pairwise fun a b => lessC a.1 a.2 b.1 b.2 = true) (hr : r.length < 1000000000) :
    Gives Tryz.prog G 183 [.sl 0 (cells r), cellA c.1 c.2, .fn 184 []] (.tup [.i .i64 (posM r c), .b (decide (c ∈ r))]) := by
  refine .of (.body Tryz.func183 rfl (by simp [Tryz.ntmps183]) ?_)
  rw [Tryz.ntmps183, Tryz.results183]
  have hlen := cells_len r
  obtain ⟨cx, cy⟩ := c
  replace hs := Hid.mk hs
  refine AL ?_
  refine .loop (.inv (fun d E H n' => ∃ i j : Nat, d = j - i ∧ i ≤ j ∧ j ≤ r.length ∧ 0 < n' ∧ E 0 = .sl 0 (cells r) ∧ E 2 = .fn 184 [] ∧ E 4 = .ptr 0 0 0 0 ∧ E 8 = .i .i64 r.length ∧ E 9 = .i .i64 i ∧ E 10 = .i .i64 j ∧ H 0 = some (.box 117 [.i .i64 cx, .i .i64 cy]) ∧
      (∀ k (h : k < r.length), k < i → lessC (r[k]).1 (r[k]).2 cx cy = true) ∧ (∀ k (h : k < r.length), j ≤ k → lessC (r[k]).1 (r[k]).2 cx cy = false)) r.length ?_ ?_)
  · exact ⟨0, r.length, by omega, by omega, by omega, by omega, by simp [setF_if, argE], by simp [setF_if, argE], by simp [setF_if, argE], by simp [setF_if, argE, hlen], by simp [setF_if, argE], by simp [setF_if, argE, hlen], by simp [upd_if], fun k _ hk => by omega, fun k _ hk => by omega⟩
  rintro d E H n' ⟨i, j, hd, hij, hj, hn, h0, h2, h4, h8, h9, h10, hH, hlo, hhi⟩
  replace hlo := Hid.mk hlo
  replace hhi := Hid.mk hhi
  by_cases ci : (i : Int) < j
  · obtain ⟨h, hh⟩ : ∃ h, h = (i + j) / 2 := ⟨_, rfl⟩
    have hhb : i ≤ h ∧ h < j := by omega
    have hhl : h < r.length := by omega
    have hw1 : IntKind.i64.wrap ((i : Int) + j) = (i : Int) + j := wr64 (by omega) (by omega)
    have hw2 : IntKind.u64.wrap ((i : Int) + j) = (i : Int) + j := wru64 (by omega) (by omega)
    have hw3 : IntKind.i64.wrap (h : Int) = h := wr64 (by omega) (by omega)
    have hw4 : IntKind.i64.wrap ((h : Int) + 1) = (h : Int) + 1 := wr64 (by omega) (by omega)
    have hf : Int.fdiv ((i : Int) + j) (2 ^ min 1 IntKind.u64.bits) = (h : Int) := by
      rw [show ((2 : Int) ^ min 1 IntKind.u64.bits) = 2 from rfl, Int.fdiv_eq_ediv_of_nonneg _ (by omega)]; omega
    have hro := cells_at (l := r) (i := h) (by omega)
    rw [show r.getD h (0, 0) = r[h]'hhl by rw [List.getD_eq_getElem?_getD, List.getElem?_eq_getElem (by omega)]; rfl] at hro
    obtain ⟨q, hq⟩ : ∃ q, r[h]'hhl = q := ⟨_, rfl⟩
    rw [hq] at hro
    have hlt : lessC q.1 q.2 cx cy = true → ∀ k (hk : k < r.length), k < h + 1 → lessC (r[k]).1 (r[k]).2 cx cy = true := fun hl k hk hkh => by
      by_cases e : k = h
      · subst e; rw [hq]; exact hl
      · have := List.pairwise_iff_getElem.mp hs.out k h hk hhl (by omega)
        rw [hq] at this
        exact lessC_trans (a := r[k]) (b := q) (c := (cx, cy)) this hl
    have hge : lessC q.1 q.2 cx cy = false → ∀ k (hk : k < r.length), h ≤ k → lessC (r[k]).1 (r[k]).2 cx cy = false := fun hl k hk hkh => by
      by_cases e : k = h
      · subst e; rw [hq]; exact hl
      · have := List.pairwise_iff_getElem.mp hs.out h k hhl hk (by omega)
        rw [hq] at this
        cases z : lessC (r[k]).1 (r[k]).2 cx cy with
        | false => rfl
        | true => have := lessC_trans (a := q) (b := r[k]) (c := (cx, cy)) this z; rw [hl] at this; cases this
    have hdec : decide (cmpC q.1 q.2 cx cy < 0) = lessC q.1 q.2 cx cy := by rw [cmpC_cases]; cases lessC q.1 q.2 cx cy <;> simp <;> split <;> simp
    obtain ⟨qx, qy⟩ := q
    simp only at hro hdec hlt hge
    replace hlt := Hid.mk hlt
    replace hge := Hid.mk hge
    replace hq := Hid.mk hq
    replace hh := Hid.mk hh
    refine AL ?_
    refine CQ (compareCells_fn G qx qy cx cy) ?_
    cases cl : lessC qx qy cx cy with
    | true =>
      rw [cl] at hdec
      refine AL ?_
      exact ⟨j - (h + 1), by omega, h + 1, j, rfl, by omega, by omega, by omega, by simp [setF_if, *], by simp [setF_if, *], by simp [setF_if, *], by simp [setF_if, *], by simp [setF_if, *], by simp [setF_if, *], by simp [*], hlt.out cl, hhi.out⟩
    | false =>
      rw [cl] at hdec
      refine AL ?_
      exact ⟨h - i, by omega, i, h, rfl, by omega, by omega, by omega, by simp [setF_if, *], by simp [setF_if, *], by simp [setF_if, *], by simp [setF_if, *], by simp [setF_if, *], by simp [setF_if, *], by simp [*], hlo.out, hge.out cl⟩
  · obtain rfl : i = j := by omega
    have hpos : posM r (cx, cy) = i := by
      unfold posM
      exact countP_split hj hlo.out hhi.out
    by_cases cl : (i : Int) < r.length
    · have hil : i < r.length := by omega
      have hro := cells_at (l := r) (i := i) hil
      rw [show r.getD i (0, 0) = r[i]'hil by rw [List.getD_eq_getElem?_getD, List.getElem?_eq_getElem hil]; rfl] at hro
      have hqn := hhi.out i hil (Nat.le_refl _)
      have hdec : (cmpC (r[i]'hil).1 (r[i]'hil).2 cx cy == 0) = decide ((cx, cy) ∈ r) := by
        rw [cmpC_cases, hqn]
        simp only [Bool.false_eq_true, if_false]
        by_cases e : r[i]'hil = (cx, cy)
        · have h1 : (cx, cy) ∈ r := e ▸ List.getElem_mem hil
          rw [e]
          simp [h1, lessC_self]
        · have h1 : (cx, cy) ∉ r := fun h => by
            obtain ⟨k, hk, hkc⟩ := List.mem_iff_getElem.mp h
            rcases Nat.lt_trichotomy k i with h2 | rfl | h2
            · have := hlo.out k hk h2
              rw [hkc, lessC_self] at this; cases this
            · exact e hkc
            · have := List.pairwise_iff_getElem.mp hs.out i k hil hk h2
              rw [hkc] at this
              rw [this] at hqn; cases hqn
          have h2 : lessC cx cy (r[i]'hil).1 (r[i]'hil).2 = true := by
            cases z : lessC cx cy (r[i]'hil).1 (r[i]'hil).2 with
            | true => rfl
            | false => exact absurd (lessC_total (a := r[i]'hil) (b := (cx, cy)) hqn z) e
          rw [h2]; simp [h1]
      generalize r[i]'hil = q at hro hdec hqn
      obtain ⟨qx, qy⟩ := q
      simp only at hro hdec hqn
      replace hpos := Hid.mk hpos
      clear hqn
      generalize decide ((cx, cy) ∈ r) = dd at hdec
      replace hdec := Hid.mk hdec
      refine AL ?_
      refine CQ (compareCells_fn G qx qy cx cy) ?_
      rw [show cmpC qx qy cx cy = cmpC qx qy cx cy from rfl]
      have hdec2 := hdec.out
      refine AL ?_
      simp [retA, backA, backsA, hpos.out]
    · have hdec : decide ((cx, cy) ∈ r) = false := by
        rw [decide_eq_false_iff_not]
        intro h
        obtain ⟨k, hk, hkc⟩ := List.mem_iff_getElem.mp h
        have := hlo.out k hk (by omega)
        rw [hkc, lessC_self] at this; cases this
      replace hpos := Hid.mk hpos
      refine AL ?_
      simp [retA, backA, backsA, hpos.out, hdec]
theorem idx_pos {r : Shape} {c : Int × Int} (hs : r.Pairwise fun a b => lessC a.1 a.2 b.1 b.2 = true) (h : c ∈ r) : idxM r c = posM r c := by
  obtain ⟨k1, k2, k3⟩ := idx_mem h
  generalize idxM r c = k at k1 k2 k3
  obtain ⟨j, rfl⟩ : ∃ j : Nat, k = j := ⟨k.toNat, by omega⟩
  have hj : j < r.length := by omega
  have e : r[j]'hj = c := by
    rw [Int.toNat_natCast, List.getD_eq_getElem?_getD, List.getElem?_eq_getElem hj] at k3; exact k3
  have : posM r c = j := by
    unfold posM
    refine countP_split (by omega) (fun k hk hkj => ?_) (fun k hk hkj => ?_)
    · have := List.pairwise_iff_getElem.mp hs k j hk hj hkj
      rw [e] at this; exact this
    · by_cases q : k = j
      · subst q; rw [e]; exact lessC_self _ _
      · have := List.pairwise_iff_getElem.mp hs j k hj hk (by omega)
        rw [e] at this
        cases z : lessC (r[k]).1 (r[k]).2 c.1 c.2 with
        | false => rfl
        | true => have h2 := lessC_trans (a := c) (b := r[k]) (c := c) this z; rw [lessC_self] at h2; cases h2
  rw [this]
theorem cellsToSet_o (G : Gv) (r cs : Shape) (hs : r.Pairwise fun a b => lessC a.1 a.2 b.1 b.2 = true) (hr : r.length < 1000000000) (hc : cs.length < 1000000000) : GivesO Tryz.prog G 136 [.sl 0 (cells r), .sl 0 (cells cs)] (setA (setM r cs)) := by
  refine .of (.body Tryz.func136 rfl (by simp [Tryz.ntmps136]) ?_)
  rw [Tryz.ntmps136, Tryz.results136]
  have hlen := cells_len cs
  replace hs := Hid.mk hs
  refine AL ?_
  refine .loop (.inv (fun d E H n' => ∃ (i : Nat) (s : List Int) (e : Nat), i + d = cs.length ∧ 2 < n' ∧ E 0 = .sl 0 (cells r) ∧ E 12 = .sl 0 (cells cs) ∧ E 13 = .i .i64 cs.length ∧ E 6 = .own 2 e ∧ E 14 = .i .i64 i ∧ H 2 = some (.arr e 2 1 (ints s) 1) ∧ setM r (cs.take i) = some s) cs.length ?_ ?_)
  · exact ⟨0, [], 0, by omega, by omega, by simp [setF_if, argE], by simp [setF_if, argE], by simp [setF_if, argE, hlen], by simp [setF_if, argE], by simp [setF_if, argE], by simp [upd_if, ints], rfl⟩
  rintro d E H n' ⟨i, s, e, hi, hn, h0, h12, h13, h6, h14, hH, hst0⟩
  replace hst0 := Hid.mk hst0
  by_cases c : (i : Int) < cs.length
  · have hw_i : IntKind.i64.wrap ((i : Int) + 1) = (i : Int) + 1 := wr64 (by omega) (by omega)
    have hro := cells_at (l := cs) (i := i) (by omega)
    have hst := setM_take (i := i) (by omega) hst0.out
    have hsl := setM_len hst0.out
    have hstop := fun h => setM_stop (r := r) (cs := cs) (i := i) (by omega) h
    rw [List.length_take] at hsl
    have hle : (ints s).length = s.length := ints_len s
    have hb : (s.length + 1) * 8 ≤ 140737488355328 := by omega
    generalize cs.getD i (0, 0) = p at hro hst
    have hap : ints s ++ [[.i .i64 (posM r p : Int)]] = ints (s ++ [(posM r p : Int)]) := by simp [ints]
    have n3 : ¬ (2 = n' + 3) := by omega
    have n17 : ¬ (2 = n' + 17) := by omega
    have hb1 := bsearch_fn G r p hs.out hr
    by_cases hm : p ∈ r
    · have hip := idx_pos hs.out hm
      rw [hip, if_neg (by omega)] at hst
      rw [show decide (p ∈ r) = true by simpa using hm] at hb1
      replace hst := Hid.mk hst
      replace hip := Hid.mk hip
      replace hm := Hid.mk hm
      replace hb1 := Hid.mk hb1
      clear hsl hstop
      obtain ⟨px, py⟩ := p
      generalize (posM r (px, py) : Int) = pm at hap hb1 hst hip
      refine AL ?_
      refine CV hb1.out ?_
      refine AL ?_
      exact ⟨cs.length - (i + 1), by omega, i + 1, s ++ [pm], e + 1, by omega, by omega, by simp [setF_if, *], by simp [setF_if, *], by simp [setF_if, *], by simp [setF_if, *], by simp [setF_if, *], by simp [upd_if, *], hst.out⟩
    · have hne : idxM r p = -1 := idx_not hm
      rw [hne, if_pos (by omega)] at hst
      have hnone := hstop hst
      rw [show decide (p ∈ r) = false by simpa using hm] at hb1
      replace hnone := Hid.mk hnone
      replace hb1 := Hid.mk hb1
      clear hsl hstop hst hne hm hap hb
      obtain ⟨px, py⟩ := p
      refine AL ?_
      refine CV hb1.out ?_
      refine AL ?_
      refine ⟨[], ?_, by simp⟩
      rw [hnone.out]
      exact ownX_mkT (s1 := []) (ownX_sl ownA_nil) ownX_mkb
  · have ei : i = cs.length := by omega
    have hs' := hst0.out
    rw [ei, List.take_length] at hs'
    refine AL ?_
    refine ⟨[2], ?_, by simp⟩
    rw [hs', ← List.append_nil [2]]
    exact ownX_mkT (ownX_sl (ownA_mk hH (ints_scal _) (by decide) (ints_fit _))) ownX_mkb
end Go.Proofs
end
section
open Go Go.Big
namespace Go.Proofs
set_option maxHeartbeats 2000000
/-- So many numbers from one on. -/
def runI (k : Int) (n : Nat) : List Int := (List.range n).map fun i : Nat => k + (i : Int)
theorem runI_len (k : Int) (n : Nat) : (runI k n).length = n := by simp [runI]
theorem runI_succ (k : Int) (n : Nat) : runI k (n + 1) = runI k n ++ [k + n] := by simp [runI, List.range_succ]
theorem runI_at {k : Int} {n i : Nat} (h : i < n) : (runI k n)[i]? = some (k + i) := by simp [runI, h]
theorem mark_set (k : Int) {l : List Int} {i : Nat} (h : i < l.length) : (ints (runI k i ++ l.drop i)).set i [.i .i64 (k + i)] = ints (runI k (i + 1) ++ l.drop (i + 1)) := by
  rw [← ints_set]
  congr 1
  have e : l.drop i = l[i] :: l.drop (i + 1) := List.drop_eq_getElem_cons h
  rw [e, List.set_append_right _ _ (by rw [runI_len]; omega), runI_len, Nat.sub_self, List.set_cons_zero, runI_succ]
  simp
theorem mark_at (k : Int) {l : List Int} {i : Nat} (h : i < l.length) : (ints (runI k i ++ l.drop i))[i]? = some [.i .i64 (l.getD i 0)] := by
  have e : l.drop i = l[i] :: l.drop (i + 1) := List.drop_eq_getElem_cons h
  simp only [ints, List.getElem?_map]
  rw [List.getElem?_append_right (by rw [runI_len]; omega), runI_len, Nat.sub_self, e]
  simp [List.getD_eq_getElem?_getD, h]
theorem ints_nil {l : List Int} (h : ints l = []) : l = [] := by
  cases l with
  | nil => rfl
  | cons x l => simp [ints] at h
theorem fit_one {l : List Int} {sz : Nat} (h : fitR sz (ints l)) (h0 : 0 < l.length) : sz = 1 := by
  cases l with
  | nil => simp at h0
  | cons x l => exact (h [.i .i64 x] (by simp [ints])).symm
theorem markInt64S_m (G : Gv) (l : List Int) (k : Int) (hl : l.length < 1000000000) (hk0 : 0 ≤ k) (hk : k < 1000000000000) :
    Marks Tryz.prog G 26 (.sl 1 (ints l)) (.sl 1 (ints (runI k l.length))) k (k + l.length) := by
  intro x H0 n0 S hx hn hS
  rcases ownA_flat (ownX_un hx) (ints_scal l) with ⟨o, e, ty, sz, t, rfl, hH0, rfl, ht, hf⟩ | ⟨hx', hq, rfl⟩
  · have hlen := ints_len l
    clear hx hn hS
    refine (.body Tryz.func26 rfl (by simp [Tryz.ntmps26]) ?_)
    rw [Tryz.ntmps26, Tryz.results26]
    refine AL ?_
    refine .loop (.inv (fun d E H n' => ∃ (i t' : Nat), i + d = l.length ∧ E 0 = .own o e ∧ E 1 = .i .i64 (k + i) ∧ E 5 = .i .i64 i ∧ H o = some (.arr e ty sz (ints (runI k i ++ l.drop i)) t') ∧ t' ≠ 2 ∧ n0 ≤ n' ∧ (∀ o', o' ≠ o → H o' = H0 o')) l.length ?_ ?_)
    · exact ⟨0, t, by omega, by simp [setF_if, argE], by simp [setF_if, argE], by simp [setF_if, argE], by simpa [runI] using hH0, ht, by omega, fun _ _ => rfl⟩
    rintro d E H n' ⟨i, t', hi, h0, h1, h5, hH, ht', hn', hfr⟩
    replace hfr := Hid.mk hfr
    have hle : (ints (runI k i ++ l.drop i)).length = l.length := by rw [ints_len, List.length_append, runI_len, List.length_drop]; omega
    by_cases c : (i : Int) < l.length
    · have hw_i : IntKind.i64.wrap ((i : Int) + 1) = (i : Int) + 1 := wr64 (by omega) (by omega)
      have hwk : IntKind.i64.wrap (k + i + 1) = k + ((i + 1 : Nat) : Int) := by rw [wr64 (by omega) (by omega)]; omega
      obtain rfl := fit_one hf (by omega)
      have hro := mark_at k (l := l) (i := i) (by omega)
      have hset := mark_set k (l := l) (i := i) (by omega)
      have hj : joinT t' 1 ≠ 2 := joinT_ne ht' (by decide)
      have cN : i < l.length := by omega
      generalize ints (runI k i ++ l.drop i) = R at hH hro hset hle
      replace hj := Hid.mk hj
      replace ht' := Hid.mk ht'
      refine AL ?_
      exact ⟨l.length - (i + 1), by omega, i + 1, joinT t' 1, by omega, by simp [setF_if, *], by simp [setF_if, *], by simp [setF_if, *], by simp [upd_if, joinT, *], hj.out, by omega, fun o' ho' => by rw [upd_if, if_neg ho']; exact hfr.out o' ho'⟩
    · refine AL ?_
      have ei : i = l.length := by omega
      rw [ei, List.drop_length, List.append_nil] at hH
      refine ⟨by simp [retA, setF_if, h1, ei], by omega, ownX_sl (ownA_mk hH (ints_scal _) ht' ?_), fun o' h1 h2 => hfr.out o' (by simpa using h2)⟩
      intro r hr
      have h3 := ints_fit _ r hr
      obtain ⟨y, hy, rfl⟩ := List.mem_map.mp hr
      have h4 : 0 < l.length := by
        have := List.length_pos_of_mem hy
        rw [runI_len] at this; exact this
      rw [fit_one hf h4]; rfl
  · obtain rfl := ints_nil hq
    clear hx
    rcases hx' with rfl | ⟨t, rfl⟩
    all_goals
      refine (.body Tryz.func26 rfl (by simp [Tryz.ntmps26]) ?_)
      rw [Tryz.ntmps26, Tryz.results26]
      refine AL ?_
      refine .loop (.inv (fun d E H n' => E 0 = (_ : AV) ∧ E 1 = .i .i64 k ∧ E 5 = .i .i64 0 ∧ n0 ≤ n' ∧ ∀ o, H o = H0 o) 0 ⟨by simp [setF_if, argE]; rfl, by simp [setF_if, argE], by simp [setF_if, argE], by omega, fun _ => rfl⟩ ?_)
      rintro d E H n' ⟨h0, h1, h5, hn', hfr⟩
      replace hfr := Hid.mk hfr
      have c : ¬ ((0 : Int) < ((0 : Nat) : Int)) := by omega
      refine AL ?_
      exact ⟨by simp [retA, setF_if, h1], by omega, ownX_sl (.inr ⟨by first | exact .inl rfl | exact .inr ⟨_, rfl⟩, rfl, rfl⟩), fun o' _ _ => hfr.out o'⟩
/-- A list of such numbers is held. -/
theorem heldInt64S_fn (G : Gv) (k : Int) (m : Nat) (hl : m < 1000000000) (hk0 : 0 ≤ k) (hk : k < 1000000000000) : Gives Tryz.prog G 27 [.sl 0 (ints (runI k m)), .i .i64 k] (.i .i64 (k + m)) := by
  refine .of (.body Tryz.func27 rfl (by simp [Tryz.ntmps27]) ?_)
  rw [Tryz.ntmps27, Tryz.results27]
  have hlen : (ints (runI k m)).length = m := by rw [ints_len, runI_len]
  refine AL ?_
  refine .loop (.inv (fun d E H n' => ∃ i : Nat, i + d = m ∧ E 0 = .sl 0 (ints (runI k m)) ∧ E 1 = .i .i64 (k + i) ∧ E 5 = .i .i64 i) m ?_ ?_)
  · exact ⟨0, by omega, by simp [setF_if, argE], by simp [setF_if, argE], by simp [setF_if, argE]⟩
  rintro d E H n' ⟨i, hi, h0, h1, h5⟩
  by_cases c : (i : Int) < m
  · have hw_i : IntKind.i64.wrap ((i : Int) + 1) = (i : Int) + 1 := wr64 (by omega) (by omega)
    have hwk : IntKind.i64.wrap (k + i + 1) = k + ((i + 1 : Nat) : Int) := by rw [wr64 (by omega) (by omega)]; omega
    have hr := ints_row (runI_at (k := k) (n := m) (i := i) (by omega))
    refine AL ?_
    exact ⟨m - (i + 1), by omega, i + 1, by omega, by simp [setF_if, *], by simp [setF_if, *], by simp [setF_if, *]⟩
  · refine AL ?_
    have ei : i = m := by omega
    simp [retA, backA, setF_if, h1, ei]
/-- Cells of such numbers. -/
def runC (k : Int) (n : Nat) : List (Int × Int) := (List.range n).map fun i : Nat => (k + 2 * (i : Int), k + 2 * (i : Int) + 1)
theorem runC_len (k : Int) (n : Nat) : (runC k n).length = n := by simp [runC]
theorem runC_succ (k : Int) (n : Nat) : runC k (n + 1) = runC k n ++ [(k + 2 * (n : Int), k + 2 * (n : Int) + 1)] := by simp [runC, List.range_succ]
theorem cmark_set (k : Int) {l : List (Int × Int)} {i : Nat} (h : i < l.length) : ((cells (runC k i ++ l.drop i)).set i [.i .i64 (k + 2 * (i : Int)), .i .i64 (l.getD i (0, 0)).2]).set i [.i .i64 (k + 2 * (i : Int)), .i .i64 (k + 2 * (i : Int) + 1)] = cells (runC k (i + 1) ++ l.drop (i + 1)) := by
  have e : l.drop i = l[i] :: l.drop (i + 1) := List.drop_eq_getElem_cons h
  rw [List.set_set, e]
  unfold cells
  rw [List.map_append, List.set_append_right _ _ (by rw [List.length_map, runC_len]; omega), List.length_map, runC_len, Nat.sub_self, List.map_cons, List.set_cons_zero, runC_succ]
  simp
theorem cmark_at (k : Int) {l : List (Int × Int)} {i : Nat} (h : i < l.length) : (cells (runC k i ++ l.drop i))[i]? = some [.i .i64 (l.getD i (0, 0)).1, .i .i64 (l.getD i (0, 0)).2] := by
  have e : l.drop i = l[i] :: l.drop (i + 1) := List.drop_eq_getElem_cons h
  simp only [cells, List.getElem?_map]
  rw [List.getElem?_append_right (by rw [runC_len]; omega), runC_len, Nat.sub_self, e]
  simp [List.getD_eq_getElem?_getD, h]
theorem cells_nil {l : List (Int × Int)} (h : cells l = []) : l = [] := by
  cases l with
  | nil => rfl
  | cons x l => simp [cells] at h
theorem fit_two {l : List (Int × Int)} {sz : Nat} (h : fitR sz (cells l)) (h0 : 0 < l.length) : sz = 2 := by
  cases l with
  | nil => simp at h0
  | cons x l => exact (h [.i .i64 x.1, .i .i64 x.2] (by simp [cells])).symm
theorem markCellS_m (G : Gv) (l : List (Int × Int)) (k : Int) (hl : l.length < 1000000000) (hk0 : 0 ≤ k) (hk : k < 1000000000000) :
    Marks Tryz.prog G 68 (.sl 1 (cells l)) (.sl 1 (cells (runC k l.length))) k (k + 2 * l.length) := by
  intro x H0 n0 S hx hn hS
  rcases ownA_flat (ownX_un hx) (cells_scal l) with ⟨o, e, ty, sz, t, rfl, hH0, rfl, ht, hf⟩ | ⟨hx', hq, rfl⟩
  · have hlen := cells_len l
    clear hx hn hS
    refine (.body Tryz.func68 rfl (by simp [Tryz.ntmps68]) ?_)
    rw [Tryz.ntmps68, Tryz.results68]
    refine AL ?_
    refine .loop (.inv (fun d E H n' => ∃ (i t' : Nat), i + d = l.length ∧ E 0 = .own o e ∧ E 1 = .i .i64 (k + 2 * i) ∧ E 5 = .i .i64 i ∧ H o = some (.arr e ty sz (cells (runC k i ++ l.drop i)) t') ∧ t' ≠ 2 ∧ n0 ≤ n' ∧ (∀ o', o' ≠ o → H o' = H0 o')) l.length ?_ ?_)
    · exact ⟨0, t, by omega, by simp [setF_if, argE], by simp [setF_if, argE], by simp [setF_if, argE], by simpa [runC] using hH0, ht, by omega, fun _ _ => rfl⟩
    rintro d E H n' ⟨i, t', hi, h0, h1, h5, hH, ht', hn', hfr⟩
    replace hfr := Hid.mk hfr
    have hle : (cells (runC k i ++ l.drop i)).length = l.length := by rw [cells_len, List.length_append, runC_len, List.length_drop]; omega
    by_cases c : (i : Int) < l.length
    · have hw_i : IntKind.i64.wrap ((i : Int) + 1) = (i : Int) + 1 := wr64 (by omega) (by omega)
      have hwk : IntKind.i64.wrap (k + 2 * (i : Int) + 1) = k + 2 * (i : Int) + 1 := wr64 (by omega) (by omega)
      have hwk2 : IntKind.i64.wrap (k + 2 * (i : Int) + 1 + 1) = k + 2 * ((i + 1 : Nat) : Int) := by rw [wr64 (by omega) (by omega)]; omega
      obtain rfl := fit_two hf (by omega)
      have hro := cmark_at k (l := l) (i := i) (by omega)
      have hset := cmark_set k (l := l) (i := i) (by omega)
      have hj : joinT (joinT t' 1) 1 ≠ 2 := joinT_ne (joinT_ne ht' (by decide)) (by decide)
      have cN : i < l.length := by omega
      generalize cells (runC k i ++ l.drop i) = R at hH hro hset hle
      generalize (l.getD i (0, 0)).1 = y1 at hro hset
      generalize (l.getD i (0, 0)).2 = y2 at hro hset
      have hR2 : (R.set i [.i .i64 (k + 2 * (i : Int)), .i .i64 y2])[i]? = some [.i .i64 (k + 2 * (i : Int)), .i .i64 y2] := by rw [List.getElem?_set_self]; omega
      have hRl : (R.set i [.i .i64 (k + 2 * (i : Int)), .i .i64 y2]).length = l.length := by rw [List.length_set]; exact hle
      generalize hR0 : R.set i [.i .i64 (k + 2 * (i : Int)), .i .i64 y2] = R2 at hset hR2 hRl
      replace hj := Hid.mk hj
      replace ht' := Hid.mk ht'
      refine AL ?_
      exact ⟨l.length - (i + 1), by omega, i + 1, joinT (joinT t' 1) 1, by omega, by simp [setF_if, *], by simp [setF_if, *], by simp [setF_if, *], by simp [upd_if, joinT, *], hj.out, by omega, fun o' ho' => by rw [upd_if, if_neg ho', upd_if, if_neg ho']; exact hfr.out o' ho'⟩
    · refine AL ?_
      have ei : i = l.length := by omega
      rw [ei, List.drop_length, List.append_nil] at hH
      refine ⟨by simp [retA, setF_if, h1, ei], by omega, ownX_sl (ownA_mk hH (cells_scal _) ht' ?_), fun o' h1 h2 => hfr.out o' (by simpa using h2)⟩
      intro r hr
      have h3 := cells_fit _ r hr
      obtain ⟨y, hy, rfl⟩ := List.mem_map.mp hr
      have h4 : 0 < l.length := by
        have := List.length_pos_of_mem hy
        rw [runC_len] at this; exact this
      rw [fit_two hf h4]; rfl
  · obtain rfl := cells_nil hq
    clear hx
    rcases hx' with rfl | ⟨t, rfl⟩
    all_goals
      refine (.body Tryz.func68 rfl (by simp [Tryz.ntmps68]) ?_)
      rw [Tryz.ntmps68, Tryz.results68]
      refine AL ?_
      refine .loop (.inv (fun d E H n' => E 0 = (_ : AV) ∧ E 1 = .i .i64 k ∧ E 5 = .i .i64 0 ∧ n0 ≤ n' ∧ ∀ o, H o = H0 o) 0 ⟨by simp [setF_if, argE]; rfl, by simp [setF_if, argE], by simp [setF_if, argE], by omega, fun _ => rfl⟩ ?_)
      rintro d E H n' ⟨h0, h1, h5, hn', hfr⟩
      replace hfr := Hid.mk hfr
      have c : ¬ ((0 : Int) < ((0 : Nat) : Int)) := by omega
      refine AL ?_
      exact ⟨by simp [retA, setF_if, h1], by omega, ownX_sl (.inr ⟨by first | exact .inl rfl | exact .inr ⟨_, rfl⟩, rfl, rfl⟩), fun o' _ _ => hfr.out o'⟩
end Go.Proofs
end
section
open Go Go.Big
namespace Go.Proofs
set_option maxHeartbeats 2000000
theorem ownP_load {H : Heap} {q : PV} {rows : List (List PV)} {s : List Nat} (h : ownP H q (.sl rows) s) (tg : Nat) : ownX H (avOf tg q) (.sl 1 rows) s := by
  cases q with
  | ob o e =>
    obtain ⟨rfl, ty, sz, rows', t, h1, h2, h3, e1, h4⟩ := h
    cases e1
    exact ownX_sl (ownA_mk h1 h3 h2 h4)
  | sl r => obtain ⟨rfl, e1, rfl⟩ := h; cases e1; exact ownX_sl (.inr ⟨.inr ⟨tg, rfl⟩, rfl, rfl⟩)
  | i => obtain ⟨_, e⟩ := h; cases e
  | b => obtain ⟨_, e⟩ := h; cases e
  | s => obtain ⟨_, e⟩ := h; cases e
theorem ownP_forms {H : Heap} {q : PV} {rows : List (List PV)} {s : List Nat} (h : ownP H q (.sl rows) s) : (∃ o e, q = .ob o e) ∨ q = .sl [] := by
  cases q with
  | ob o e => exact .inl ⟨o, e, rfl⟩
  | sl r => obtain ⟨rfl, _⟩ := h; exact .inr rfl
  | i => obtain ⟨_, e⟩ := h; cases e
  | b => obtain ⟨_, e⟩ := h; cases e
  | s => obtain ⟨_, e⟩ := h; cases e
theorem ownP_back {H H0 : Heap} {q : PV} {rows rows0 : List (List PV)} {s s0 : List Nat} {tg : Nat} (h0 : ownP H0 q (.sl rows0) s0) (h : ownX H (avOf tg q) (.sl 1 rows) s) (hs : scalRows rows) : ownP H q (.sl rows) s := by
  cases q with
  | ob o e =>
    rcases ownA_flat (ownX_un h) hs with ⟨o', e', ty, sz, t, e1, h1, rfl, h2, h3⟩ | ⟨e1 | ⟨_, e1⟩, _⟩
    · cases e1; exact ownP_mk h1 hs h2 h3
    · cases e1
    · cases e1
  | sl r =>
    rcases ownA_flat (ownX_un h) hs with ⟨o', e', ty, sz, t, e1, _⟩ | ⟨e1 | ⟨_, e1⟩, rfl, rfl⟩
    · cases e1
    · cases e1
    · cases e1; exact ⟨rfl, rfl, rfl⟩
  | i => obtain ⟨_, e⟩ := h0; cases e
  | b => obtain ⟨_, e⟩ := h0; cases e
  | s => obtain ⟨_, e⟩ := h0; cases e
theorem ownPs_cons {H : Heap} {p q : PV} {ps qs : List PV} {s s' : List Nat} (h : ownP H p q s) (g : ownPs H ps qs s') : ownPs H (p :: ps) (q :: qs) (s ++ s') := ⟨q, qs, s, s', rfl, rfl, h, g⟩
theorem ownP_isI {H : Heap} {p : PV} {k : IntKind} {n : Int} {s : List Nat} (h : ownP H p (.i k n) s) : p = .i k n ∧ s = [] := by
  cases p with
  | ob o e => obtain ⟨_, _, _, _, _, _, _, _, e1, _⟩ := h; cases e1
  | sl r => obtain ⟨_, e1, _⟩ := h; cases e1
  | i => obtain ⟨rfl, e1⟩ := h; cases e1; exact ⟨rfl, rfl⟩
  | b => obtain ⟨_, e1⟩ := h; cases e1
  | s => obtain ⟨_, e1⟩ := h; cases e1
theorem ownP_isB {H : Heap} {p : PV} {b : Bool} {s : List Nat} (h : ownP H p (.b b) s) : p = .b b ∧ s = [] := by
  cases p with
  | ob o e => obtain ⟨_, _, _, _, _, _, _, _, e1, _⟩ := h; cases e1
  | sl r => obtain ⟨_, e1, _⟩ := h; cases e1
  | i => obtain ⟨_, e1⟩ := h; cases e1
  | b => obtain ⟨rfl, e1⟩ := h; cases e1; exact ⟨rfl, rfl⟩
  | s => obtain ⟨_, e1⟩ := h; cases e1
theorem ownPs_nilI {H : Heap} {ps : List PV} {s : List Nat} (h : ownPs H ps [] s) : ps = [] ∧ s = [] := by
  cases ps with
  | nil => exact ⟨rfl, h.2⟩
  | cons p ps => obtain ⟨_, _, _, _, e, _⟩ := h; cases e
theorem ownPs_consI {H : Heap} {ps : List PV} {q : PV} {qs : List PV} {s : List Nat} (h : ownPs H ps (q :: qs) s) : ∃ p ps' s1 s2, ps = p :: ps' ∧ s = s1 ++ s2 ∧ ownP H p q s1 ∧ ownPs H ps' qs s2 := by
  cases ps with
  | nil => have := h.1; cases this
  | cons p ps => obtain ⟨_, _, s1, s2, e, e2, h1, h2⟩ := h; cases e; exact ⟨p, ps, s1, s2, rfl, e2, h1, h2⟩
theorem ownRs_consI {H : Heap} {rows : List (List PV)} {q : List PV} {qs : List (List PV)} {S : List Nat} (h : ownRs H rows (q :: qs) S) : ∃ r rs s1 s2, rows = r :: rs ∧ S = s1 ++ s2 ∧ ownPs H r q s1 ∧ ownRs H rs qs s2 := by
  cases rows with
  | nil => have := h.1; cases this
  | cons r rs => obtain ⟨_, _, s1, s2, e, e2, h1, h2⟩ := h; cases e; exact ⟨r, rs, s1, s2, rfl, e2, h1, h2⟩
theorem ownRs_nilI {H : Heap} {rows : List (List PV)} {S : List Nat} (h : ownRs H rows [] S) : rows = [] ∧ S = [] := by
  cases rows with
  | nil => exact ⟨rfl, h.2⟩
  | cons r rs => obtain ⟨_, _, _, _, e, _⟩ := h; cases e
/-- One row has been written. -/
theorem mark_step {H H1 H2 : Heap} {r1 r2 : List (List PV)} {row' : List PV} {q1 q2 : List (List PV)} {qr : List PV} {S1 s S2 : List Nat} {o n : Nat} (hnd : (o :: (S1 ++ (s ++ S2))).Nodup) (hlt : ∀ x ∈ S1 ++ (s ++ S2), x < n)
    (h1 : ownRs H r1 q1 S1) (h2 : ownRs H r2 q2 S2) (hp : ownPs H1 row' qr s) (fr : ∀ x, x < n → x ≠ o → x ∉ s → H1 x = H x) (fo : ∀ x, x ≠ o → H2 x = H1 x) : ownRs H2 (r1 ++ [row']) (q1 ++ [qr]) (S1 ++ s) ∧ ownRs H2 r2 q2 S2 := by
  rw [List.nodup_cons] at hnd
  obtain ⟨ho, hnd⟩ := hnd
  rw [List.nodup_append] at hnd
  obtain ⟨n1, n2, n3⟩ := hnd
  rw [List.nodup_append] at n2
  obtain ⟨m1, m2, m3⟩ := n2
  have away : ∀ x, x ∈ S1 ++ (s ++ S2) → x ≠ o := fun x hx e => ho (e ▸ hx)
  refine ⟨ownRs_append (ownRs_congr (fun x hx => ?_) h1) (ownRs_one (ownPs_congr (fun x hx => fo x (away x (by simp [hx]))) hp)), ownRs_congr (fun x hx => ?_) h2⟩
  · rw [fo x (away x (by simp [hx])), fr x (hlt x (by simp [hx])) (away x (by simp [hx])) (fun h => n3 x hx x (by simp [h]) rfl)]
  · rw [fo x (away x (by simp [hx])), fr x (hlt x (by simp [hx])) (away x (by simp [hx])) (fun h => m3 x h x hx rfl)]
/-- What is marked in pieces. -/
def mkQ : Int → List PieceM → List PieceM
  | _, [] => []
  | k, p :: l => ⟨runC k p.cs.length, k + 2 * p.cs.length, (k + 2 * p.cs.length + 1).tmod 3 == 0⟩ :: mkQ (k + 2 * p.cs.length + 2) l
def cntQ : List PieceM → Int
  | [] => 0
  | p :: l => 2 * p.cs.length + 2 + cntQ l
theorem cntQ_nn : ∀ l, 0 ≤ cntQ l
  | [] => Int.le_refl _
  | p :: l => by have := cntQ_nn l; simp only [cntQ]; omega
theorem pieces_app (a b : List PieceM) : pieces (a ++ b) = pieces a ++ pieces b := by simp [pieces]
theorem row_noScal {q0 : PV} {rows : List (List PV)} {s : List Nat} {H : Heap} (h : ownP H q0 (.sl rows) s) : scalB q0 = false := by
  cases q0 with
  | ob => rfl
  | sl => rfl
  | i => obtain ⟨_, e⟩ := h; cases e
  | b => obtain ⟨_, e⟩ := h; cases e
  | s => obtain ⟨_, e⟩ := h; cases e
theorem set_mid {α : Type} (r1 r2 : List α) (a b : α) {i : Nat} (h : r1.length = i) : (r1 ++ a :: r2).set i b = r1 ++ b :: r2 := by
  subst h; simp
theorem at_mid {α : Type} (r1 r2 : List α) (a : α) {i : Nat} (h : r1.length = i) : (r1 ++ a :: r2)[i]? = some a := by
  subst h; simp
/-- The tag of an array some of whose rows may own something. -/
def tagOk (t : Nat) (rows : List (List PV)) : Prop := t = 2 ∨ noObs rows
theorem tag_join {t : Nat} {rows : List (List PV)} (h : tagOk t rows) : tagOk (joinT t 1) rows := h.imp (fun e => by subst e; rfl) id
theorem tagOk_own {H : Heap} {o e : Nat} {ty : TypeId} {sz t : Nat} {rows q : List (List PV)} {S : List Nat} (h : H o = some (.arr e ty sz rows t)) (hr : ownRs H rows q S) (ht : tagOk t rows) (hq : ∀ r ∈ rows, ∃ p ∈ r, scalB p = false) (hf : fitR sz rows) (ht2 : rows = [] → t ≠ 2) : ownA H (.own o e) q (o :: S) := by
  refine .inl ⟨o, e, ty, sz, rows, t, S, rfl, h, rfl, hr, ht, fun hs => ?_, hf⟩
  · cases rows with
    | nil => exact ht2 rfl
    | cons r rs =>
      obtain ⟨p, hp, hs2⟩ := hq r List.mem_cons_self
      rw [hs r List.mem_cons_self p hp] at hs2; cases hs2

theorem ownPs_ns {H : Heap} : ∀ {ps qs : List PV} {s : List Nat}, ownPs H ps qs s → (∃ q ∈ qs, scalB q = false) → ∃ p ∈ ps, scalB p = false
  | [], _, _, h, ⟨q, hq, _⟩ => by rw [h.1] at hq; simp at hq
  | p :: ps, _, _, ⟨q, qs', s1, s2, e1, _, h1, h2⟩, ⟨z, hz, hs⟩ => by
    subst e1
    rcases List.mem_cons.mp hz with rfl | hz
    · refine ⟨p, List.mem_cons_self, ?_⟩
      cases q0 : scalB p with
      | false => rfl
      | true => obtain ⟨_, rfl⟩ := ownP_scal q0 h1; rw [q0] at hs; cases hs
    · obtain ⟨p', g1, g2⟩ := ownPs_ns h2 ⟨z, hz, hs⟩
      exact ⟨p', List.mem_cons_of_mem _ g1, g2⟩
theorem ownRs_ns {H : Heap} : ∀ {rows q : List (List PV)} {S : List Nat}, ownRs H rows q S → (∀ r ∈ q, ∃ p ∈ r, scalB p = false) → ∀ r ∈ rows, ∃ p ∈ r, scalB p = false
  | [], _, _, _, _ => by simp
  | r :: rs, _, _, ⟨a, b, s1, s2, e1, _, h1, h2⟩, hq => fun x hx => by
    subst e1
    rcases List.mem_cons.mp hx with rfl | hx
    · exact ownPs_ns h1 (hq a List.mem_cons_self)
    · exact ownRs_ns h2 (fun y hy => hq y (List.mem_cons_of_mem _ hy)) x hx
theorem pieces_ns (l : List PieceM) : ∀ r ∈ pieces l, ∃ p ∈ r, scalB p = false := fun r hr => by
  obtain ⟨p, _, rfl⟩ := List.mem_map.mp hr
  exact ⟨_, List.mem_cons_self, rfl⟩
theorem mkQ_len : ∀ (k : Int) (l : List PieceM), (mkQ k l).length = l.length
  | _, [] => rfl
  | k, p :: l => by simp [mkQ, mkQ_len]
theorem noObs_join {t : Nat} {r1 r2 : List (List PV)} {a : List PV} {b a0 b0 : PV} (h : tagOk t (r1 ++ a :: r2)) (ha : a = [b, a0, b0]) (c1 c2 : PV) (hc1 : noOb c1 = true) (hc2 : noOb c2 = true) : tagOk t (r1 ++ [b, c1, c2] :: r2) := by
  rcases h with h | h1
  · exact .inl h
  · refine .inr fun r hr p hp => ?_
    rcases List.mem_append.mp hr with hr | hr
    · exact h1 r (List.mem_append.mpr (.inl hr)) p hp
    · rcases List.mem_cons.mp hr with rfl | hr
      · simp only [List.mem_cons, List.not_mem_nil, or_false] at hp
        rcases hp with rfl | rfl | rfl
        · exact h1 a (by simp) _ (by rw [ha]; simp)
        · exact hc1
        · exact hc2
      · exact h1 r (List.mem_append.mpr (.inr (List.mem_cons_of_mem _ hr))) p hp
theorem markPieceS_m (G : Gv) (l : List PieceM) (k : Int) (hl : l.length < 1000000000) (hc : ∀ p ∈ l, p.cs.length < 1000000000) (hk0 : 0 ≤ k) (hk : k + cntQ l < 1000000000000) :
    Marks Tryz.prog G 69 (.sl 1 (pieces l)) (.sl 1 (pieces (mkQ k l))) k (k + cntQ l) := by
  intro x H0 n0 S hx hn hS
  rcases ownX_un hx with ⟨o, e, ty, sz, rows0, t0, S', rfl, hH0, rfl, hR0, ht0, ht0', hf0⟩ | ⟨hx', hq, rfl⟩
  · have hlen := pieces_len l
    have hr0l := ownRs_len hR0
    have htag0 : tagOk t0 rows0 := ht0
    have hnil0 : rows0 = [] → t0 ≠ 2 := fun e => ht0' (by rw [e]; intro r hr; simp at hr)
    have hon : o < n0 := hS o List.mem_cons_self
    have hSn : ∀ x ∈ S', x < n0 := fun x hx => hS x (List.mem_cons_of_mem _ hx)
    clear hx ht0 ht0' hS
    replace hn := Hid.mk hn
    replace hSn := Hid.mk hSn
    replace hc := Hid.mk hc
    replace hnil0 := Hid.mk hnil0
    refine (.body Tryz.func69 rfl (by simp [Tryz.ntmps69]) ?_)
    rw [Tryz.ntmps69, Tryz.results69]
    refine AL ?_
    refine .loop (.inv (fun d E H n' => ∃ (i t' : Nat) (r1 r2 : List (List PV)) (S1 S2 : List Nat) (D : List PieceM) (k' : Int), i + d = l.length ∧ E 0 = .own o e ∧ E 1 = .i .i64 k' ∧ E 5 = .i .i64 i ∧ H o = some (.arr e ty sz (r1 ++ r2) t') ∧ n0 ≤ n' ∧ (r1.length = i ∧ D.length = i ∧ (r1 ++ r2).length = l.length ∧ (l = [] → t' ≠ 2)) ∧ tagOk t' (r1 ++ r2) ∧ fitR sz (r1 ++ r2) ∧
        (S' = S1 ++ S2 ∧ ownRs H r1 (pieces D) S1 ∧ ownRs H r2 (pieces (l.drop i)) S2) ∧ (D ++ mkQ k' (l.drop i) = mkQ k l ∧ k' + cntQ (l.drop i) = k + cntQ l ∧ 0 ≤ k') ∧ ∀ o', o' < n0 → o' ∉ o :: S' → H o' = H0 o') l.length ?_ ?_)
    · refine ⟨0, t0, [], rows0, [], S', [], k, by omega, by simp [setF_if, argE], by simp [setF_if, argE], by simp [setF_if, argE], by simpa using hH0, by omega, ⟨rfl, rfl, by simp [hr0l, hlen], fun e => hnil0.out ?_⟩, by simpa using htag0, by simpa using hf0, ⟨rfl, ⟨rfl, rfl⟩, by simpa using hR0⟩, ⟨rfl, rfl, hk0⟩, fun _ _ _ => rfl⟩
      subst e; exact List.length_eq_zero_iff.mp (by rw [hr0l]; rfl)
    clear hH0 hR0 htag0 hf0
    rintro d E H n' ⟨i, t', r1, r2, S1, S2, D, k', hi, h0, h1, h5, hH, hn', ⟨hr1, hD, hrl, hnil⟩, htag, hfit, hown, hnum, hfr⟩
    replace hfr := Hid.mk hfr
    replace htag := Hid.mk htag
    replace hfit := Hid.mk hfit
    replace hown := Hid.mk hown
    replace hnum := Hid.mk hnum
    replace hnil := Hid.mk hnil
    replace hr1 := Hid.mk hr1
    replace hD := Hid.mk hD
    by_cases c : (i : Int) < l.length
    · have hw_i : IntKind.i64.wrap ((i : Int) + 1) = (i : Int) + 1 := wr64 (by omega) (by omega)
      obtain ⟨p, hp⟩ : ∃ p, l[i]? = some p := ⟨_, List.getElem?_eq_getElem (by omega)⟩
      have hpl := hc.out p (List.mem_of_getElem? hp)
      obtain ⟨hS', hr1o, hr2o⟩ := hown.out
      obtain ⟨hN1, hN2, hN3⟩ := hnum.out
      rw [drop_cons hp] at hr2o hN1 hN2
      obtain ⟨row, r2, s, S2, rfl, rfl, hrow, hr2n⟩ := ownRs_consI hr2o
      clear hr2o
      obtain ⟨q0, ps, s, s', rfl, rfl, hq0, hps⟩ := ownPs_consI hrow
      obtain ⟨p1, ps, s1, s', rfl, rfl, hp1, hps1⟩ := ownPs_consI hps
      obtain ⟨p2, ps, s2, s', rfl, rfl, hp2, hps2⟩ := ownPs_consI hps1
      obtain ⟨rfl, rfl⟩ := ownPs_nilI hps2
      obtain ⟨rfl, rfl⟩ := ownP_isI hp1
      obtain ⟨rfl, rfl⟩ := ownP_isB hp2
      clear hp1 hp2 hps hps1 hps2 hrow
      simp only [List.nil_append, List.append_nil] at hS'
      have hcnt := cntQ_nn (l.drop (i + 1))
      simp only [mkQ, cntQ] at hN1 hN2
      have hsz : sz = 3 := by have := hfit.out [q0, .i .i64 p.k, .b p.b] (by simp); simpa using this.symm
      subst hsz
      have hro : (r1 ++ [q0, .i .i64 p.k, .b p.b] :: r2)[i]? = some [q0, .i .i64 p.k, .b p.b] := at_mid _ _ _ hr1.out
      have cN : i < l.length := by omega
      have hw1 : IntKind.i64.wrap (k' + 2 * (p.cs.length : Int) + 1) = k' + 2 * (p.cs.length : Int) + 1 := wr64 (by omega) (by omega)
      have hw2 : IntKind.i64.wrap (k' + 2 * (p.cs.length : Int) + 1 + 1) = k' + 2 * (p.cs.length : Int) + 2 := by rw [wr64 (by omega) (by omega)]; omega
      have hz := ownP_load hq0 (ftag t')
      obtain ⟨row', hrow'⟩ : ∃ row', row' = [q0, .i .i64 (k' + 2 * (p.cs.length : Int)), .b ((k' + 2 * (p.cs.length : Int) + 1).tmod 3 == 0)] := ⟨_, rfl⟩
      have hset : ((r1 ++ [q0, .i .i64 p.k, .b p.b] :: r2).set i [q0, .i .i64 (k' + 2 * (p.cs.length : Int)), .b p.b]).set i [q0, .i .i64 (k' + 2 * (p.cs.length : Int)), .b ((k' + 2 * (p.cs.length : Int) + 1).tmod 3 == 0)] = r1 ++ row' :: r2 := by rw [set_mid _ _ _ _ hr1.out, set_mid _ _ _ _ hr1.out, hrow']
      have hro2 : ((r1 ++ [q0, .i .i64 p.k, .b p.b] :: r2).set i [q0, .i .i64 (k' + 2 * (p.cs.length : Int)), .b p.b])[i]? = some [q0, .i .i64 (k' + 2 * (p.cs.length : Int)), .b p.b] := by rw [set_mid _ _ _ _ hr1.out]; exact at_mid _ _ _ hr1.out
      have hrl2 : ((r1 ++ [q0, .i .i64 p.k, .b p.b] :: r2).set i [q0, .i .i64 (k' + 2 * (p.cs.length : Int)), .b p.b]).length = l.length := by rw [List.length_set]; exact hrl
      have htag2 : tagOk (joinT (joinT t' 1) 1) (r1 ++ row' :: r2) := by rw [hrow']; exact tag_join <| tag_join <| noObs_join htag.out rfl _ _ rfl rfl
      have hfit2 : fitR 3 (r1 ++ row' :: r2) := fun r hr => by
        rcases List.mem_append.mp hr with hr | hr
        · exact hfit.out r (List.mem_append.mpr (.inl hr))
        · rcases List.mem_cons.mp hr with rfl | hr
          · rw [hrow']; rfl
          · exact hfit.out r (List.mem_append.mpr (.inr (List.mem_cons_of_mem _ hr)))
      have hnd : (o :: (S1 ++ (s ++ S2))).Nodup := by rw [← hS']; exact hn.out
      have hlt : ∀ x ∈ S1 ++ (s ++ S2), x < n0 := by rw [← hS']; exact hSn.out
      have hos : o ∉ s := fun h => by rw [List.nodup_cons] at hnd; exact hnd.1 (by simp [h])
      have hsn : s.Nodup := by
        rw [List.nodup_cons, List.nodup_append, List.nodup_append] at hnd; exact hnd.2.2.1.1
      generalize r1 ++ [q0, .i .i64 p.k, .b p.b] :: r2 = R at hH hro hset hro2 hrl2 hrl
      generalize hR1 : R.set i [q0, .i .i64 (k' + 2 * (p.cs.length : Int)), .b p.b] = R1 at hset hro2 hrl2
      replace htag2 := Hid.mk htag2
      replace hfit2 := Hid.mk hfit2
      replace hnd := Hid.mk hnd
      replace hlt := Hid.mk hlt
      replace hos := Hid.mk hos
      replace hsn := Hid.mk hsn
      replace hq0 := Hid.mk hq0
      replace hr1o := Hid.mk hr1o
      replace hr2n := Hid.mk hr2n
      replace hS' := Hid.mk hS'
      replace hrow' := Hid.mk hrow'
      replace hp := Hid.mk hp
      replace hz := Hid.mk hz
      replace hN1 := Hid.mk hN1
      obtain ⟨T, hT⟩ : ∃ T, T = joinT (joinT t' 1) 1 := ⟨_, rfl⟩
      replace hT := Hid.mk hT
      refine AL ?_
      refine CI ?_
      refine (markCellS_m G p.cs k' hpl (by omega) (by omega) _ H _ s hz.out hsn.out (fun x hx => by have := hlt.out x (by simp [hx]); omega)).mono ?_
      rintro _ H1 m ⟨rfl, hm, hz1, hf1⟩
      have hH1 := hf1 o (by omega) hos.out
      rw [hH] at hH1
      replace hf1 := Hid.mk hf1
      replace hz1 := Hid.mk hz1
      clear hH
      refine AL ?_
      have hq1 := ownP_back hq0.out hz1.out (cells_scal _)
      have hp' : ownPs H1 row' (pieceR ⟨runC k' p.cs.length, k' + 2 * p.cs.length, (k' + 2 * p.cs.length + 1).tmod 3 == 0⟩) s := by
        rw [hrow'.out, ← List.append_nil s]
        exact ownPs_cons hq1 (ownPs_scal_mk (by simp [scalB]))
      have hlt2 : ∀ x ∈ S1 ++ (s ++ S2), x < n' := fun x hx => Nat.lt_of_lt_of_le (hlt.out x hx) hn'
      have hfr2 : ∀ x, x < n' → x ≠ o → x ∉ s → H1 x = H x := fun x hx _ hs => hf1.out x (by omega) hs
      refine ⟨l.length - (i + 1), by omega, i + 1, T, r1 ++ [row'], r2, S1 ++ s, S2, D ++ [⟨runC k' p.cs.length, k' + 2 * p.cs.length, (k' + 2 * p.cs.length + 1).tmod 3 == 0⟩], k' + 2 * p.cs.length + 2, by omega, by simp [setF_if, *], by simp [setF_if, *], by simp [setF_if, *], ?_, by omega, ⟨by simp [hr1.out], by simp [hD.out], ?_, fun e => by rw [e] at cN; simp at cN⟩, ?_, ?_, ⟨?_, ?_, ?_⟩, ⟨?_, by omega, by omega⟩, ?_⟩
      · rw [hT.out]; simp [upd_if, joinT]
      · have := congrArg List.length hset
        simp only [List.length_set, hrl2] at this
        simp only [List.append_assoc, List.singleton_append]; exact this.symm
      · rw [hT.out]; simpa using htag2.out
      · simpa using hfit2.out
      · rw [hS'.out]; simp
      · rw [pieces_app]
        exact (mark_step hnd.out hlt2 hr1o.out hr2n.out hp' hfr2 (fun x hx => by rw [upd_if, if_neg hx, upd_if, if_neg hx])).1
      · exact (mark_step hnd.out hlt2 hr1o.out hr2n.out hp' hfr2 (fun x hx => by rw [upd_if, if_neg hx, upd_if, if_neg hx])).2
      · simpa using hN1.out
      · intro o' h1 h2
        have h3 : o' ≠ o := fun e => h2 (by rw [e]; exact List.mem_cons_self)
        rw [upd_if, if_neg h3, upd_if, if_neg h3, hf1.out o' (by omega) (fun h => h2 (List.mem_cons_of_mem _ (by rw [hS'.out]; simp [h])))]
        exact hfr.out o' h1 h2
    · refine AL ?_
      have ei : i = l.length := by omega
      obtain ⟨hS', hr1o, hr2o⟩ := hown.out
      obtain ⟨hN1, hN2, hN3⟩ := hnum.out
      rw [ei, List.drop_length] at hr2o hN1 hN2
      obtain ⟨rfl, rfl⟩ := ownRs_nilI hr2o
      simp only [mkQ, cntQ, List.append_nil] at hN1 hN2 hS' hH
      subst hS' hN1
      have ht := htag.out
      have hf := hfit.out
      rw [List.append_nil] at ht hf
      refine ⟨by simp [retA, setF_if, h1]; omega, by omega, ownX_sl (tagOk_own hH hr1o ht (ownRs_ns hr1o (pieces_ns _)) hf ?_), fun o' h1 h2 => hfr.out o' h1 h2⟩
      intro e
      refine hnil.out (List.length_eq_zero_iff.mp ?_)
      have := hr1.out
      rw [e] at this; simp at this; omega
  · obtain rfl : l = [] := by
      cases l with
      | nil => rfl
      | cons x l => simp [pieces] at hq
    clear hx
    rcases hx' with rfl | ⟨t, rfl⟩
    all_goals
      refine (.body Tryz.func69 rfl (by simp [Tryz.ntmps69]) ?_)
      rw [Tryz.ntmps69, Tryz.results69]
      refine AL ?_
      refine .loop (.inv (fun d E H n' => E 0 = (_ : AV) ∧ E 1 = .i .i64 k ∧ E 5 = .i .i64 0 ∧ n0 ≤ n' ∧ ∀ o, H o = H0 o) 0 ⟨by simp [setF_if, argE]; rfl, by simp [setF_if, argE], by simp [setF_if, argE], by omega, fun _ => rfl⟩ ?_)
      rintro d E H n' ⟨h0, h1, h5, hn', hfr⟩
      replace hfr := Hid.mk hfr
      have c : ¬ ((0 : Int) < ((0 : Nat) : Int)) := by omega
      refine AL ?_
      exact ⟨by simp [retA, setF_if, h1, cntQ], by omega, ownX_sl (.inr ⟨by first | exact .inl rfl | exact .inr ⟨_, rfl⟩, rfl, rfl⟩), fun o' _ _ => hfr.out o'⟩
end Go.Proofs
end
