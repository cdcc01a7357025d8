/- Walks: The set of cells, by a search of each: the one program. No condition. | Numbers written into placements and puzzles. No condition. | Puzzles and placements turned into ones that the caller owns. No condition. | Whether a placement overlaps none of a list; the copies that are left. No condition. | Placements and puzzles turned into ones that the caller owns. No condition. -/
import Derived.Test.YtmglpcdalechfaaGreatBO
import Derived.Test.YtmglpcdalechfaaGreatWk6
import Derived.Test.YtmglpcdalechfaaGreatWk2
import Derived.Test.YtmglpcdalechfaaGreatWk5
import Derived.Test.YtmglpcdalechfaaGreatWk3
set_option linter.unusedVariables false
set_option linter.unusedSimpArgs false
section
open Go Go.Big
namespace Go.Proofs
set_option maxHeartbeats 2000000
theorem setM_snoc {r : Shape} {c : Int × Int} : ∀ {cs : Shape}, setM r (cs ++ [c]) = (setM r cs).bind fun s => if idxM r c < 0 then none else some (s ++ [idxM r c])
  | [] => by
    simp only [List.nil_append, setM]
    split <;> simp [*]
  | d :: cs => by
    rw [List.cons_append]
    simp only [setM]
    split
    · rfl
    · rw [setM_snoc]
      cases setM r cs with
      | none => rfl
      | some s => simp only [Option.bind_some, Option.map_some]; split <;> simp
theorem setM_app {r : Shape} {b : Shape} : ∀ {a : Shape}, setM r a = none → setM r (a ++ b) = none
  | [], h => by simp [setM] at h
  | d :: a, h => by
    rw [List.cons_append]
    simp only [setM] at h ⊢
    split at h
    · rename_i c; rw [if_pos c]
    · rename_i c
      rw [if_neg c]
      cases q : setM r a with
      | none => rw [setM_app q]; rfl
      | some s => rw [q] at h; simp at h
theorem setM_len {r : Shape} : ∀ {cs : Shape} {s : List Int}, setM r cs = some s → s.length = cs.length
  | [], s, h => by simp only [setM, Option.some.injEq] at h; subst h; rfl
  | c :: cs, s, h => by
    simp only [setM] at h
    split at h
    · simp at h
    · obtain ⟨s', h1, rfl⟩ := Option.map_eq_some_iff.mp h
      simp [setM_len h1]
theorem setM_take {r cs : Shape} {i : Nat} (hi : i < cs.length) {s : List Int} (h : setM r (cs.take i) = some s) : setM r (cs.take (i + 1)) = if idxM r (cs.getD i (0, 0)) < 0 then none else some (s ++ [idxM r (cs.getD i (0, 0))]) := by
  rw [List.take_succ_eq_append_getElem hi, setM_snoc, h, Option.bind_some, List.getD_eq_getElem?_getD, List.getElem?_eq_getElem hi]; rfl
theorem setM_stop {r cs : Shape} {i : Nat} (hi : i < cs.length) (h : setM r (cs.take (i + 1)) = none) : setM r cs = none := by
  have := setM_app (b := cs.drop (i + 1)) h
  rwa [List.take_append_drop] at this
def setA (o : Option (List Int)) : AV := match o with
  | some s => .tup [.sl 1 (ints s), .b true]
  | none => .tup [.sl 1 [], .b false]
theorem l10Set_fn (G : Gv) (r cs : Shape) (hr : r.length < 1000000000) (hc : cs.length < 1000000000) : Gives Tryz.prog G 201 [.sl 0 (cells r), .sl 0 (cells cs)] (setA (setM r cs)) := by
  refine .of (.body Tryz.func201 rfl (by simp [Tryz.ntmps201]) ?_)
  rw [Tryz.ntmps201, Tryz.results201]
  have hlen := cells_len cs
  refine AL ?_
  refine .loop (.inv (fun d E H n' => ∃ (i : Nat) (s : List Int) (e : Nat), i + d = cs.length ∧ 2 < n' ∧ E 0 = .sl 0 (cells r) ∧ E 1 = .sl 0 (cells cs) ∧ E 6 = .own 2 e ∧ E 7 = .i .i64 i ∧ H 2 = some (.arr e 2 1 (ints s) 1) ∧ setM r (cs.take i) = some s) cs.length ?_ ?_)
  · exact ⟨0, [], 0, by omega, by omega, by simp [setF_if, argE], by simp [setF_if, argE], by simp [setF_if, argE], by simp [setF_if, argE], by simp [upd_if, ints], rfl⟩
  rintro d E H n' ⟨i, s, e, hi, hn, h0, h1, h6, h7, hH, hs⟩
  replace hs := Hid.mk hs
  by_cases c : (i : Int) < cs.length
  · have hw_i : IntKind.i64.wrap ((i : Int) + 1) = (i : Int) + 1 := wr64 (by omega) (by omega)
    have hro := cells_at (l := cs) (i := i) (by omega)
    have hst := setM_take (i := i) (by omega) hs.out
    have hsl := setM_len hs.out
    have hstop := fun h => setM_stop (r := r) (cs := cs) (i := i) (by omega) h
    rw [List.length_take] at hsl
    have hle : (ints s).length = s.length := ints_len s
    have hb : (s.length + 1) * 8 ≤ 140737488355328 := by omega
    generalize cs.getD i (0, 0) = p at hro hst
    obtain ⟨px, py⟩ := p
    have hap : ints s ++ [[.i .i64 (idxM r (px, py))]] = ints (s ++ [idxM r (px, py)]) := by simp [ints]
    replace hst := Hid.mk hst
    replace hstop := Hid.mk hstop
    have n3 : ¬ (2 = n' + 17) := by omega
    clear hsl
    refine AL ?_
    refine CV (l02Index_fn G r px py hr) ?_
    by_cases ck : idxM r (px, py) < 0
    · have := hstop.out (by rw [hst.out, if_pos ck])
      replace this := Hid.mk this
      clear hb
      refine AL ?_
      simp [retA, backA, backsA, setA, this.out]
    · have hst2 := hst.out
      rw [if_neg ck] at hst2
      replace hst2 := Hid.mk hst2
      refine AL ?_
      exact ⟨cs.length - (i + 1), by omega, i + 1, s ++ [idxM r (px, py)], e + 1, by omega, by omega, by simp [setF_if, *], by simp [setF_if, *], by simp [setF_if, *], by simp [setF_if, *], by simp [upd_if, *], hst2.out⟩
  · have ei : i = cs.length := by omega
    have hs' := hs.out
    rw [ei, List.take_length] at hs'
    refine AL ?_
    rw [hs']
    simp [retA, backA, backsA, newSl, newB, setA, setF_if, h6, hH]
/- The library's binary search in a sorted list of cells. -/
def posM (r : Shape) (c : Int × Int) : Nat := r.countP fun q => lessC q.1 q.2 c.1 c.2
theorem countP_split {α : Type} {p : α → Bool} {l : List α} {i : Nat} (hi : i ≤ l.length) (h1 : ∀ k (h : k < l.length), k < i → p l[k] = true) (h2 : ∀ k (h : k < l.length), i ≤ k → p l[k] = false) : l.countP p = i := by
  have e : l.countP p = (l.take i).countP p + (l.drop i).countP p := by rw [← List.countP_append, List.take_append_drop]
  have e1 : (l.take i).countP p = (l.take i).length := by
    rw [List.countP_eq_length]
    intro x hx
    obtain ⟨k, hk, rfl⟩ := List.mem_iff_getElem.mp hx
    rw [List.length_take] at hk
    rw [List.getElem_take]
    exact h1 k (by omega) (by omega)
  have e2 : (l.drop i).countP p = 0 := by
    rw [List.countP_eq_zero]
    intro x hx
    obtain ⟨k, hk, rfl⟩ := List.mem_iff_getElem.mp hx
    rw [List.length_drop] at hk
    rw [List.getElem_drop, h2 (i + k) (by omega) (by omega)]
    simp
  rw [e, e1, e2, List.length_take]; omega
theorem wru64 {n : Int} (h1 : 0 ≤ n) (h2 : n < 4611686018427387904) : IntKind.u64.wrap n = n := by
  simp [IntKind.wrap, IntKind.bits, IntKind.signed]; omega
theorem bsearch_fn (G : Gv) (r : Shape) (c : Int × Int) (hs : r.Pairwise fun a b => lessC a.1 a.2 b.1 b.2 = true) (hr : r.length < 1000000000) :
    Gives Tryz.prog G 206 [.sl 0 (cells r), cellA c.1 c.2, .fn 207 []] (.tup [.i .i64 (posM r c), .b (decide (c ∈ r))]) := by
  refine .of (.body Tryz.func206 rfl (by simp [Tryz.ntmps206]) ?_)
  rw [Tryz.ntmps206, Tryz.results206]
  have hlen := cells_len r
  obtain ⟨cx, cy⟩ := c
  replace hs := Hid.mk hs
  refine AL ?_
  refine .loop (.inv (fun d E H n' => ∃ i j : Nat, d = j - i ∧ i ≤ j ∧ j ≤ r.length ∧ 0 < n' ∧ E 0 = .sl 0 (cells r) ∧ E 2 = .fn 207 [] ∧ E 4 = .ptr 0 0 0 0 ∧ E 8 = .i .i64 r.length ∧ E 9 = .i .i64 i ∧ E 10 = .i .i64 j ∧ H 0 = some (.box 142 [.i .i64 cx, .i .i64 cy]) ∧
      (∀ k (h : k < r.length), k < i → lessC (r[k]).1 (r[k]).2 cx cy = true) ∧ (∀ k (h : k < r.length), j ≤ k → lessC (r[k]).1 (r[k]).2 cx cy = false)) r.length ?_ ?_)
  · exact ⟨0, r.length, by omega, by omega, by omega, by omega, by simp [setF_if, argE], by simp [setF_if, argE], by simp [setF_if, argE], by simp [setF_if, argE, hlen], by simp [setF_if, argE], by simp [setF_if, argE, hlen], by simp [upd_if], fun k _ hk => by omega, fun k _ hk => by omega⟩
  rintro d E H n' ⟨i, j, hd, hij, hj, hn, h0, h2, h4, h8, h9, h10, hH, hlo, hhi⟩
  replace hlo := Hid.mk hlo
  replace hhi := Hid.mk hhi
  by_cases ci : (i : Int) < j
  · obtain ⟨h, hh⟩ : ∃ h, h = (i + j) / 2 := ⟨_, rfl⟩
    have hhb : i ≤ h ∧ h < j := by omega
    have hhl : h < r.length := by omega
    have hw1 : IntKind.i64.wrap ((i : Int) + j) = (i : Int) + j := wr64 (by omega) (by omega)
    have hw2 : IntKind.u64.wrap ((i : Int) + j) = (i : Int) + j := wru64 (by omega) (by omega)
    have hw3 : IntKind.i64.wrap (h : Int) = h := wr64 (by omega) (by omega)
    have hw4 : IntKind.i64.wrap ((h : Int) + 1) = (h : Int) + 1 := wr64 (by omega) (by omega)
    have hf : Int.fdiv ((i : Int) + j) (2 ^ min 1 IntKind.u64.bits) = (h : Int) := by
      rw [show ((2 : Int) ^ min 1 IntKind.u64.bits) = 2 from rfl, Int.fdiv_eq_ediv_of_nonneg _ (by omega)]; omega
    have hro := cells_at (l := r) (i := h) (by omega)
    rw [show r.getD h (0, 0) = r[h]'hhl by rw [List.getD_eq_getElem?_getD, List.getElem?_eq_getElem (by omega)]; rfl] at hro
    obtain ⟨q, hq⟩ : ∃ q, r[h]'hhl = q := ⟨_, rfl⟩
    rw [hq] at hro
    have hlt : lessC q.1 q.2 cx cy = true → ∀ k (hk : k < r.length), k < h + 1 → lessC (r[k]).1 (r[k]).2 cx cy = true := fun hl k hk hkh => by
      by_cases e : k = h
      · subst e; rw [hq]; exact hl
      · have := List.pairwise_iff_getElem.mp hs.out k h hk hhl (by omega)
        rw [hq] at this
        exact lessC_trans (a := r[k]) (b := q) (c := (cx, cy)) this hl
    have hge : lessC q.1 q.2 cx cy = false → ∀ k (hk : k < r.length), h ≤ k → lessC (r[k]).1 (r[k]).2 cx cy = false := fun hl k hk hkh => by
      by_cases e : k = h
      · subst e; rw [hq]; exact hl
      · have := List.pairwise_iff_getElem.mp hs.out h k hhl hk (by omega)
        rw [hq] at this
        cases z : lessC (r[k]).1 (r[k]).2 cx cy with
        | false => rfl
        | true => have := lessC_trans (a := q) (b := r[k]) (c := (cx, cy)) this z; rw [hl] at this; cases this
    have hdec : decide (cmpC q.1 q.2 cx cy < 0) = lessC q.1 q.2 cx cy := by rw [cmpC_cases]; cases lessC q.1 q.2 cx cy <;> simp <;> split <;> simp
    obtain ⟨qx, qy⟩ := q
    simp only at hro hdec hlt hge
    replace hlt := Hid.mk hlt
    replace hge := Hid.mk hge
    replace hq := Hid.mk hq
    replace hh := Hid.mk hh
    refine AL ?_
    refine CQ (compareCells_fn G qx qy cx cy) ?_
    cases cl : lessC qx qy cx cy with
    | true =>
      rw [cl] at hdec
      refine AL ?_
      exact ⟨j - (h + 1), by omega, h + 1, j, rfl, by omega, by omega, by omega, by simp [setF_if, *], by simp [setF_if, *], by simp [setF_if, *], by simp [setF_if, *], by simp [setF_if, *], by simp [setF_if, *], by simp [*], hlt.out cl, hhi.out⟩
    | false =>
      rw [cl] at hdec
      refine AL ?_
      exact ⟨h - i, by omega, i, h, rfl, by omega, by omega, by omega, by simp [setF_if, *], by simp [setF_if, *], by simp [setF_if, *], by simp [setF_if, *], by simp [setF_if, *], by simp [setF_if, *], by simp [*], hlo.out, hge.out cl⟩
  · obtain rfl : i = j := by omega
    have hpos : posM r (cx, cy) = i := by
      unfold posM
      exact countP_split hj hlo.out hhi.out
    by_cases cl : (i : Int) < r.length
    · have hil : i < r.length := by omega
      have hro := cells_at (l := r) (i := i) hil
      rw [show r.getD i (0, 0) = r[i]'hil by rw [List.getD_eq_getElem?_getD, List.getElem?_eq_getElem hil]; rfl] at hro
      have hqn := hhi.out i hil (Nat.le_refl _)
      have hdec : (cmpC (r[i]'hil).1 (r[i]'hil).2 cx cy == 0) = decide ((cx, cy) ∈ r) := by
        rw [cmpC_cases, hqn]
        simp only [Bool.false_eq_true, if_false]
        by_cases e : r[i]'hil = (cx, cy)
        · have h1 : (cx, cy) ∈ r := e ▸ List.getElem_mem hil
          rw [e]
          simp [h1, lessC_self]
        · have h1 : (cx, cy) ∉ r := fun h => by
            obtain ⟨k, hk, hkc⟩ := List.mem_iff_getElem.mp h
            rcases Nat.lt_trichotomy k i with h2 | rfl | h2
            · have := hlo.out k hk h2
              rw [hkc, lessC_self] at this; cases this
            · exact e hkc
            · have := List.pairwise_iff_getElem.mp hs.out i k hil hk h2
              rw [hkc] at this
              rw [this] at hqn; cases hqn
          have h2 : lessC cx cy (r[i]'hil).1 (r[i]'hil).2 = true := by
            cases z : lessC cx cy (r[i]'hil).1 (r[i]'hil).2 with
            | true => rfl
            | false => exact absurd (lessC_total (a := r[i]'hil) (b := (cx, cy)) hqn z) e
          rw [h2]; simp [h1]
      generalize r[i]'hil = q at hro hdec hqn
      obtain ⟨qx, qy⟩ := q
      simp only at hro hdec hqn
      replace hpos := Hid.mk hpos
      clear hqn
      generalize decide ((cx, cy) ∈ r) = dd at hdec
      replace hdec := Hid.mk hdec
      refine AL ?_
      refine CQ (compareCells_fn G qx qy cx cy) ?_
      rw [show cmpC qx qy cx cy = cmpC qx qy cx cy from rfl]
      have hdec2 := hdec.out
      refine AL ?_
      simp [retA, backA, backsA, hpos.out]
    · have hdec : decide ((cx, cy) ∈ r) = false := by
        rw [decide_eq_false_iff_not]
        intro h
        obtain ⟨k, hk, hkc⟩ := List.mem_iff_getElem.mp h
        have := hlo.out k hk (by omega)
        rw [hkc, lessC_self] at this; cases this
      replace hpos := Hid.mk hpos
      refine AL ?_
      simp [retA, backA, backsA, hpos.out, hdec]
theorem idx_pos {r : Shape} {c : Int × Int} (hs : r.Pairwise fun a b => lessC a.1 a.2 b.1 b.2 = true) (h : c ∈ r) : idxM r c = posM r c := by
  obtain ⟨k1, k2, k3⟩ := idx_mem h
  generalize idxM r c = k at k1 k2 k3
  obtain ⟨j, rfl⟩ : ∃ j : Nat, k = j := ⟨k.toNat, by omega⟩
  have hj : j < r.length := by omega
  have e : r[j]'hj = c := by
    rw [Int.toNat_natCast, List.getD_eq_getElem?_getD, List.getElem?_eq_getElem hj] at k3; exact k3
  have : posM r c = j := by
    unfold posM
    refine countP_split (by omega) (fun k hk hkj => ?_) (fun k hk hkj => ?_)
    · have := List.pairwise_iff_getElem.mp hs k j hk hj hkj
      rw [e] at this; exact this
    · by_cases q : k = j
      · subst q; rw [e]; exact lessC_self _ _
      · have := List.pairwise_iff_getElem.mp hs j k hj hk (by omega)
        rw [e] at this
        cases z : lessC (r[k]).1 (r[k]).2 c.1 c.2 with
        | false => rfl
        | true => have h2 := lessC_trans (a := c) (b := r[k]) (c := c) this z; rw [lessC_self] at h2; cases h2
  rw [this]
theorem cellsToSet_o (G : Gv) (r cs : Shape) (hs : r.Pairwise fun a b => lessC a.1 a.2 b.1 b.2 = true) (hr : r.length < 1000000000) (hc : cs.length < 1000000000) : GivesO Tryz.prog G 154 [.sl 0 (cells r), .sl 0 (cells cs)] (setA (setM r cs)) := by
  refine .of (.body Tryz.func154 rfl (by simp [Tryz.ntmps154]) ?_)
  rw [Tryz.ntmps154, Tryz.results154]
  have hlen := cells_len cs
  replace hs := Hid.mk hs
  refine AL ?_
  refine .loop (.inv (fun d E H n' => ∃ (i : Nat) (s : List Int) (e : Nat), i + d = cs.length ∧ 2 < n' ∧ E 0 = .sl 0 (cells r) ∧ E 12 = .sl 0 (cells cs) ∧ E 13 = .i .i64 cs.length ∧ E 6 = .own 2 e ∧ E 14 = .i .i64 i ∧ H 2 = some (.arr e 2 1 (ints s) 1) ∧ setM r (cs.take i) = some s) cs.length ?_ ?_)
  · exact ⟨0, [], 0, by omega, by omega, by simp [setF_if, argE], by simp [setF_if, argE], by simp [setF_if, argE, hlen], by simp [setF_if, argE], by simp [setF_if, argE], by simp [upd_if, ints], rfl⟩
  rintro d E H n' ⟨i, s, e, hi, hn, h0, h12, h13, h6, h14, hH, hst0⟩
  replace hst0 := Hid.mk hst0
  by_cases c : (i : Int) < cs.length
  · have hw_i : IntKind.i64.wrap ((i : Int) + 1) = (i : Int) + 1 := wr64 (by omega) (by omega)
    have hro := cells_at (l := cs) (i := i) (by omega)
    have hst := setM_take (i := i) (by omega) hst0.out
    have hsl := setM_len hst0.out
    have hstop := fun h => setM_stop (r := r) (cs := cs) (i := i) (by omega) h
    rw [List.length_take] at hsl
    have hle : (ints s).length = s.length := ints_len s
    have hb : (s.length + 1) * 8 ≤ 140737488355328 := by omega
    generalize cs.getD i (0, 0) = p at hro hst
    have hap : ints s ++ [[.i .i64 (posM r p : Int)]] = ints (s ++ [(posM r p : Int)]) := by simp [ints]
    have n3 : ¬ (2 = n' + 3) := by omega
    have n17 : ¬ (2 = n' + 17) := by omega
    have hb1 := bsearch_fn G r p hs.out hr
    by_cases hm : p ∈ r
    · have hip := idx_pos hs.out hm
      rw [hip, if_neg (by omega)] at hst
      rw [show decide (p ∈ r) = true by simpa using hm] at hb1
      replace hst := Hid.mk hst
      replace hip := Hid.mk hip
      replace hm := Hid.mk hm
      replace hb1 := Hid.mk hb1
      clear hsl hstop
      obtain ⟨px, py⟩ := p
      generalize (posM r (px, py) : Int) = pm at hap hb1 hst hip
      refine AL ?_
      refine CV hb1.out ?_
      refine AL ?_
      exact ⟨cs.length - (i + 1), by omega, i + 1, s ++ [pm], e + 1, by omega, by omega, by simp [setF_if, *], by simp [setF_if, *], by simp [setF_if, *], by simp [setF_if, *], by simp [setF_if, *], by simp [upd_if, *], hst.out⟩
    · have hne : idxM r p = -1 := idx_not hm
      rw [hne, if_pos (by omega)] at hst
      have hnone := hstop hst
      rw [show decide (p ∈ r) = false by simpa using hm] at hb1
      replace hnone := Hid.mk hnone
      replace hb1 := Hid.mk hb1
      clear hsl hstop hst hne hm hap hb
      obtain ⟨px, py⟩ := p
      refine AL ?_
      refine CV hb1.out ?_
      refine AL ?_
      refine ⟨[], ?_, by simp⟩
      rw [hnone.out]
      exact ownX_mkT (s1 := []) (ownX_sl ownA_nil) ownX_mkb
  · have ei : i = cs.length := by omega
    have hs' := hst0.out
    rw [ei, List.take_length] at hs'
    refine AL ?_
    refine ⟨[2], ?_, by simp⟩
    rw [hs', ← List.append_nil [2]]
    exact ownX_mkT (ownX_sl (ownA_mk hH (ints_scal _) (by decide) (ints_fit _))) ownX_mkb
end Go.Proofs
end
section
open Go Go.Big
namespace Go.Proofs
set_option maxHeartbeats 2000000
/-- What is marked in placements. -/
def mkP : Int → List (Int × List Int) → List (Int × List Int)
  | _, [] => []
  | k, p :: l => (k, runI (k + 1) p.2.length) :: mkP (k + 1 + p.2.length) l
def cntP : List (Int × List Int) → Int
  | [] => 0
  | p :: l => 1 + p.2.length + cntP l
theorem cntP_nn : ∀ l, 0 ≤ cntP l
  | [] => Int.le_refl _
  | p :: l => by have := cntP_nn l; simp only [cntP]; omega
theorem places_app (a b : List (Int × List Int)) : places (a ++ b) = places a ++ places b := by simp [places]
theorem places_ns (l : List (Int × List Int)) : ∀ r ∈ places l, ∃ p ∈ r, scalB p = false := fun r hr => by
  obtain ⟨p, _, rfl⟩ := List.mem_map.mp hr
  exact ⟨_, List.mem_cons_of_mem _ List.mem_cons_self, rfl⟩
theorem noObs_join2 {t : Nat} {r1 r2 : List (List PV)} {a : List PV} {b a0 : PV} (h : tagOk t (r1 ++ a :: r2)) (ha : a = [a0, b]) (c1 : PV) (hc1 : noOb c1 = true) : tagOk t (r1 ++ [c1, b] :: r2) := by
  rcases h with h | h1
  · exact .inl h
  · refine .inr fun r hr p hp => ?_
    rcases List.mem_append.mp hr with hr | hr
    · exact h1 r (List.mem_append.mpr (.inl hr)) p hp
    · rcases List.mem_cons.mp hr with rfl | hr
      · simp only [List.mem_cons, List.not_mem_nil, or_false] at hp
        rcases hp with rfl | rfl
        · exact hc1
        · exact h1 a (by simp) _ (by rw [ha]; simp)
      · exact h1 r (List.mem_append.mpr (.inr (List.mem_cons_of_mem _ hr))) p hp
end Go.Proofs
end
section
open Go Go.Big
namespace Go.Proofs
set_option maxHeartbeats 2000000
theorem ownX_leaf {H : Heap} {z : AV} {rows : List (List PV)} {s : List Nat} (h : ownX H z (.sl 1 rows) s) (hs : scalRows rows) : ∃ q tg, pvOf z = some q ∧ tagOf z = tg ∧ ownP H q (.sl rows) s ∧ (noOb q = true ∨ tg = 2) := by
  rcases ownA_flat (ownX_un h) hs with ⟨o, e, ty, sz, t, rfl, h1, rfl, h2, h3⟩ | ⟨rfl | ⟨t, rfl⟩, rfl, rfl⟩
  · exact ⟨.ob o e, 2, rfl, rfl, ownP_mk h1 hs h2 h3, .inr rfl⟩
  · exact ⟨.sl [], 1, rfl, rfl, ⟨rfl, rfl, rfl⟩, .inl rfl⟩
  · exact ⟨.sl [], t, rfl, rfl, ⟨rfl, rfl, rfl⟩, .inl rfl⟩
theorem toPiece_o (G : Gv) (p : PieceM) (hl : p.cs.length < 1000000000) : GivesO Tryz.prog G 39 [pieceA 0 p] (pieceA 1 p) := by
  refine .of (.body Tryz.func39 rfl (by simp [Tryz.ntmps39]) ?_)
  rw [Tryz.ntmps39, Tryz.results39]
  refine AL ?_
  refine CWO (toCellS_o G _ hl) ?_
  intro z H1 S m hz hn hS hf hm
  have f1 := hf 1 (by omega)
  have f2 := hf 2 (by omega)
  have f0 := hf 0 (by omega)
  simp [upd_if] at f0 f1 f2
  have hS1 : ∀ o ∈ S, 5 ≤ o := fun o ho => (hS o ho).1
  replace hS := Hid.mk hS
  replace hf := Hid.mk hf
  replace hn := Hid.mk hn
  replace hS1 := Hid.mk hS1
  have hz' := Hid.mk hz
  rcases ownX_cases hz with ⟨o, e, ty, sz, rows, t, rfl, hH, ho⟩ | rfl | ⟨t, rfl⟩
  · clear hz
    have ho5 := hS1.out o ho
    have n1 : ¬ o = 1 := by omega
    have n2 : ¬ o = 2 := by omega
    clear ho
    refine AL ?_
    refine ⟨S, ?_, hn.out⟩
    rw [← List.append_nil S]
    exact ownX_mk3 (s2 := []) (s3 := []) (ownX_congr (fun o ho => by have := hS1.out o ho; simp [upd_if, show ¬ o = 1 by omega, show ¬ o = 2 by omega]) hz'.out) ownX_mki ownX_mkb
  · clear hz
    refine AL ?_
    refine ⟨S, ?_, hn.out⟩
    rw [← List.append_nil S]
    exact ownX_mk3 (s2 := []) (s3 := []) (ownX_congr (fun o ho => by have := hS1.out o ho; simp [upd_if, show ¬ o = 1 by omega, show ¬ o = 2 by omega]) hz'.out) ownX_mki ownX_mkb
  · clear hz
    refine AL ?_
    refine ⟨S, ?_, hn.out⟩
    rw [← List.append_nil S]
    exact ownX_mk3 (s2 := []) (s3 := []) (ownX_congr (fun o ho => by have := hS1.out o ho; simp [upd_if, show ¬ o = 1 by omega, show ¬ o = 2 by omega]) hz'.out) ownX_mki ownX_mkb
theorem toPlacement_o (G : Gv) (k : Int) (l : List Int) (hl : l.length < 1000000000) : GivesO Tryz.prog G 106 [.ag [.i .i64 k, .sl 0 (ints l)]] (.ag [.i .i64 k, .sl 1 (ints l)]) := by
  refine .of (.body Tryz.func106 rfl (by simp [Tryz.ntmps106]) ?_)
  rw [Tryz.ntmps106, Tryz.results106]
  refine AL ?_
  refine CWO (toInt64S_o G _ hl) ?_
  intro z H1 S m hz hn hS hf hm
  have f1 := hf 1 (by omega)
  have f2 := hf 2 (by omega)
  have f0 := hf 0 (by omega)
  simp [upd_if] at f0 f1 f2
  have hS1 : ∀ o ∈ S, 5 ≤ o := fun o ho => Nat.le_trans (by omega) (hS o ho).1
  replace hS := Hid.mk hS
  replace hf := Hid.mk hf
  replace hn := Hid.mk hn
  replace hS1 := Hid.mk hS1
  have hz' := Hid.mk hz
  rcases ownX_cases hz with ⟨o, e, ty, sz, rows, t, rfl, hH, ho⟩ | rfl | ⟨t, rfl⟩
  · clear hz
    have ho5 := hS1.out o ho
    have n1 : ¬ o = 1 := by omega
    have n2 : ¬ o = 2 := by omega
    clear ho
    refine AL ?_
    exact ⟨S, ownX_mk2 (s1 := []) ownX_mki (ownX_congr (fun o ho => by have := hS1.out o ho; simp [upd_if, show ¬ o = 1 by omega, show ¬ o = 2 by omega]) hz'.out), hn.out⟩
  · clear hz
    refine AL ?_
    exact ⟨S, ownX_mk2 (s1 := []) ownX_mki (ownX_congr (fun o ho => by have := hS1.out o ho; simp [upd_if, show ¬ o = 1 by omega, show ¬ o = 2 by omega]) hz'.out), hn.out⟩
  · clear hz
    refine AL ?_
    exact ⟨S, ownX_mk2 (s1 := []) ownX_mki (ownX_congr (fun o ho => by have := hS1.out o ho; simp [upd_if, show ¬ o = 1 by omega, show ¬ o = 2 by omega]) hz'.out), hn.out⟩
theorem tag_store {t t2 : Nat} {rows : List (List PV)} {row : List PV} (h : tagOk t rows) (hr : t2 = 2 ∨ noObs [row]) : tagOk (joinT t t2) (rows ++ [row]) := by
  rcases h with h | h
  · exact .inl ((join_2 t t2).1 h)
  · rcases hr with hr | hr
    · exact .inl ((join_2 t t2).2 hr)
    · refine .inr fun r hm p hp => ?_
      rcases List.mem_append.mp hm with hm | hm
      · exact h r hm p hp
      · exact hr r hm p hp
theorem take_map {α β : Type} (f : α → β) {l : List α} {i : Nat} {x : α} (h : l[i]? = some x) : (l.take (i + 1)).map f = (l.take i).map f ++ [f x] := by
  obtain ⟨hi, rfl⟩ := List.getElem?_eq_some_iff.mp h
  rw [List.take_succ_eq_append_getElem hi, List.map_append]; rfl
theorem toPieceS_o (G : Gv) (l : List PieceM) (hl : l.length < 1000000000) (hc : ∀ p ∈ l, p.cs.length < 1000000000) : GivesO Tryz.prog G 73 [.sl 0 (pieces l)] (.sl 1 (pieces l)) := by
  refine .of (.body Tryz.func73 rfl (by simp [Tryz.ntmps73]) ?_)
  rw [Tryz.ntmps73, Tryz.results73]
  have hlen := pieces_len l
  have b1 : ((40 : Nat) : Int) * l.length ≤ 281474976710656 := by simp; omega
  have b2 : (l.length : Int) ≤ 9223372036854775807 := by omega
  have b3 : (0 : Int) ≤ l.length := by omega
  replace hc := Hid.mk hc
  refine AG ?_
  refine .block (.loop (.inv (fun d E H n' => ∃ (i t' : Nat) (r1 : List (List PV)) (S1 : List Nat), i + d = l.length ∧ E 0 = .sl 0 (pieces l) ∧ E 3 = .own 3 0 ∧ E 4 = .i .i64 i ∧ H 3 = some (.arr 0 68 3 (r1 ++ List.replicate d [PV.sl [], PV.i .i64 0, PV.b false]) t') ∧ 3 < n' ∧ r1.length = i ∧ tagOk t' r1 ∧ fitR 3 r1 ∧ (l = [] → t' ≠ 2) ∧ ownRs H r1 (pieces (l.take i)) S1 ∧ S1.Nodup ∧ ∀ o ∈ S1, 3 < o ∧ o < n') l.length ?_ ?_))
  · refine ⟨0, 1, [], [], by omega, by simp [setF_if, argE], by simp [setF_if, argE], by simp [setF_if, argE], by simp [upd_if, hlen], by omega, rfl, .inr (fun r hr => by simp at hr), fun r hr => by simp at hr, fun _ => by decide, ⟨rfl, rfl⟩, by simp, by simp⟩
  clear b1 b2 b3
  rintro d E H n' ⟨i, t', r1, S1, hi, h0, h3, h4, hH, hn3, hr1, htag, hfit, hnil, hown, hnd, hlt⟩
  replace hr1 := Hid.mk hr1
  replace htag := Hid.mk htag
  replace hfit := Hid.mk hfit
  replace hnil := Hid.mk hnil
  replace hown := Hid.mk hown
  replace hnd := Hid.mk hnd
  replace hlt := Hid.mk hlt
  by_cases c : (i : Int) < l.length
  · have hw_i : IntKind.i64.wrap ((i : Int) + 1) = (i : Int) + 1 := wr64 (by omega) (by omega)
    obtain ⟨p, hp⟩ : ∃ p, l[i]? = some p := ⟨_, List.getElem?_eq_getElem (by omega)⟩
    have hpl := hc.out p (List.mem_of_getElem? hp)
    have hr : (pieces l)[i]? = some (pieceR p) := by simp [pieces, hp]
    obtain ⟨d, rfl⟩ : ∃ d', d = d' + 1 := ⟨d - 1, by omega⟩
    rw [List.replicate_succ] at hH
    have hro : (r1 ++ [PV.sl [], PV.i .i64 0, PV.b false] :: List.replicate d [PV.sl [], PV.i .i64 0, PV.b false])[i]? = some [PV.sl [], PV.i .i64 0, PV.b false] := at_mid _ _ _ hr1.out
    have hset : ∀ x, (r1 ++ [PV.sl [], PV.i .i64 0, PV.b false] :: List.replicate d [PV.sl [], PV.i .i64 0, PV.b false]).set i x = r1 ++ x :: List.replicate d [PV.sl [], PV.i .i64 0, PV.b false] := fun x => set_mid _ _ _ _ hr1.out
    have hrl : i < (r1 ++ [PV.sl [], PV.i .i64 0, PV.b false] :: List.replicate d [PV.sl [], PV.i .i64 0, PV.b false]).length := (List.getElem?_eq_some_iff.mp hro).1
    generalize r1 ++ [PV.sl [], PV.i .i64 0, PV.b false] :: List.replicate d [PV.sl [], PV.i .i64 0, PV.b false] = R at hH hro hset hrl
    have htk := take_map pieceR hp
    replace htk := Hid.mk htk
    replace hp := Hid.mk hp
    replace hpl := Hid.mk hpl
    skip
    refine AL ?_
    refine CWO (toPiece_o G p hpl.out) ?_
    intro z H1 S m hz hn hS hf hm
    have hH1 := hf 3 (by omega)
    rw [hH] at hH1
    obtain ⟨z, zk, zb, S, s2, s3, rfl, rfl, hz2, h2, h3'⟩ := ownX_ag3 hz
    obtain ⟨rfl, rfl⟩ := ownX_i h2
    obtain ⟨rfl, rfl⟩ := ownX_b h3'
    clear h2 h3' hz
    simp only [List.append_nil] at hn hS
    have hq := ownX_leaf hz2 (cells_scal _)
    have hSd : ∀ o ∈ S1, o ∉ S := fun o h1 h2 => by have := hlt.out o h1; have := hS o h2; omega
    have hS3 : ∀ o ∈ S, 3 < o ∧ o < m := fun o h => by have := hS o h; omega
    have hS4 : ∀ o ∈ S1, 3 < o ∧ o < m := fun o h => by have := hlt.out o h; omega
    have hf1 : ∀ o ∈ S1, H1 o = H o := fun o h => hf o (by have := hlt.out o h; omega)
    have hcs := ownX_cases hz2
    clear hz2
    replace hq := Hid.mk hq
    replace hSd := Hid.mk hSd
    replace hS3 := Hid.mk hS3
    replace hS4 := Hid.mk hS4
    replace hf1 := Hid.mk hf1
    replace hf := Hid.mk hf
    replace hS := Hid.mk hS
    replace hn := Hid.mk hn
    clear hH
    have fin : ∀ (q : PV) (t2 : Nat) (H2 : Heap), ownP H1 q (.sl (cells p.cs)) S → (noOb q = true ∨ t2 = 2) → (∀ o, o ≠ 3 → H2 o = H1 o) → tagOk (joinT t' t2) (r1 ++ [[q, .i .i64 p.k, .b p.b]]) ∧ ownRs H2 (r1 ++ [[q, .i .i64 p.k, .b p.b]]) (pieces (l.take (i + 1))) (S1 ++ S) := by
      intro q t2 H2 h1 h2 h3
      refine ⟨tag_store htag.out (h2.symm.imp id fun h2 r hr p hp => ?_), ?_⟩
      · obtain rfl := List.mem_singleton.mp hr
        simp only [List.mem_cons, List.not_mem_nil, or_false] at hp
        rcases hp with rfl | rfl | rfl <;> first | rfl | exact h2
      · have e : pieces (l.take (i + 1)) = pieces (l.take i) ++ [pieceR p] := htk.out
        rw [e]
        refine ownRs_append (ownRs_congr (H := H) (fun o ho => ?_) hown.out) (ownRs_one (ownPs_congr (H := H1) (fun o ho => ?_) ?_))
        · rw [h3 o (by have := hlt.out o ho; omega)]; exact hf1.out o ho
        · exact h3 o (by have := hS3.out o ho; omega)
        · rw [← List.append_nil S]; exact ownPs_cons h1 (ownPs_scal_mk (by simp [scalB]))
    replace fin := Hid.mk fin
    replace htk := Hid.mk htk
    rcases hcs with ⟨o, e, ty, sz, rows, t, rfl, hHo, ho⟩ | rfl | ⟨t, rfl⟩
    · have ho3 := hS3.out o ho
      have n3 : ¬ o = 3 := by omega
      clear ho
      obtain ⟨q, tg, e1, e2, hq1, hq2⟩ := hq.out
      cases e1
      clear hq2 e2
      replace hq1 := Hid.mk hq1
      replace hset := Hid.mk hset
      refine AL ?_
      refine ⟨d, by omega, i + 1, joinT t' (2), r1 ++ [[PV.ob o e, PV.i .i64 p.k, PV.b p.b]], S1 ++ S, by omega, by simp [setF_if, *], by simp [setF_if, *], by simp [setF_if, *], ?_, by omega, by simp [hr1.out], (fin.out _ _ H1 hq1.out (.inr rfl) (fun _ _ => rfl)).1, ?_, fun e => by rw [e] at hi; simp at hi, (fin.out _ (2) _ hq1.out (.inr rfl) (fun k hk => by rw [upd_if, if_neg hk])).2, ?_, ?_⟩
      · simp [upd_if, joinT, hset.out]
      · intro r hr
        rcases List.mem_append.mp hr with hr | hr
        · exact hfit.out r hr
        · rw [List.mem_singleton.mp hr]; rfl
      · exact List.nodup_append.mpr ⟨hnd.out, hn.out, fun x hx y hy e => hSd.out x hx (e ▸ hy)⟩
      · intro x hx
        rcases List.mem_append.mp hx with hx | hx
        · exact ⟨(hS4.out x hx).1, by have := (hS4.out x hx).2; omega⟩
        · exact ⟨(hS3.out x hx).1, by have := (hS3.out x hx).2; omega⟩
    · skip
      obtain ⟨q, tg, e1, e2, hq1, hq2⟩ := hq.out
      cases e1
      clear hq2 e2
      replace hq1 := Hid.mk hq1
      replace hset := Hid.mk hset
      refine AL ?_
      refine ⟨d, by omega, i + 1, joinT t' (1), r1 ++ [[PV.sl [], PV.i .i64 p.k, PV.b p.b]], S1 ++ S, by omega, by simp [setF_if, *], by simp [setF_if, *], by simp [setF_if, *], ?_, by omega, by simp [hr1.out], (fin.out _ _ H1 hq1.out (.inl rfl) (fun _ _ => rfl)).1, ?_, fun e => by rw [e] at hi; simp at hi, (fin.out _ (1) _ hq1.out (.inl rfl) (fun k hk => by rw [upd_if, if_neg hk])).2, ?_, ?_⟩
      · simp [upd_if, joinT, hset.out]
      · intro r hr
        rcases List.mem_append.mp hr with hr | hr
        · exact hfit.out r hr
        · rw [List.mem_singleton.mp hr]; rfl
      · exact List.nodup_append.mpr ⟨hnd.out, hn.out, fun x hx y hy e => hSd.out x hx (e ▸ hy)⟩
      · intro x hx
        rcases List.mem_append.mp hx with hx | hx
        · exact ⟨(hS4.out x hx).1, by have := (hS4.out x hx).2; omega⟩
        · exact ⟨(hS3.out x hx).1, by have := (hS3.out x hx).2; omega⟩
    · skip
      obtain ⟨q, tg, e1, e2, hq1, hq2⟩ := hq.out
      cases e1
      clear hq2 e2
      replace hq1 := Hid.mk hq1
      replace hset := Hid.mk hset
      refine AL ?_
      refine ⟨d, by omega, i + 1, joinT t' (joinT t 1), r1 ++ [[PV.sl [], PV.i .i64 p.k, PV.b p.b]], S1 ++ S, by omega, by simp [setF_if, *], by simp [setF_if, *], by simp [setF_if, *], ?_, by omega, by simp [hr1.out], (fin.out _ _ H1 hq1.out (.inl rfl) (fun _ _ => rfl)).1, ?_, fun e => by rw [e] at hi; simp at hi, (fin.out _ (joinT t 1) _ hq1.out (.inl rfl) (fun k hk => by rw [upd_if, if_neg hk])).2, ?_, ?_⟩
      · simp [upd_if, joinT, hset.out]
      · intro r hr
        rcases List.mem_append.mp hr with hr | hr
        · exact hfit.out r hr
        · rw [List.mem_singleton.mp hr]; rfl
      · exact List.nodup_append.mpr ⟨hnd.out, hn.out, fun x hx y hy e => hSd.out x hx (e ▸ hy)⟩
      · intro x hx
        rcases List.mem_append.mp hx with hx | hx
        · exact ⟨(hS4.out x hx).1, by have := (hS4.out x hx).2; omega⟩
        · exact ⟨(hS3.out x hx).1, by have := (hS3.out x hx).2; omega⟩
  · refine AL ?_
    have ei : i = l.length := by omega
    have hd : d = 0 := by omega
    subst hd
    rw [List.replicate_zero, List.append_nil] at hH
    have ho := hown.out
    rw [ei, List.take_length] at ho
    refine ⟨3 :: S1, ownX_sl (tagOk_own hH ho htag.out (ownRs_ns ho (pieces_ns _)) hfit.out fun e => hnil.out ?_), List.nodup_cons.mpr ⟨fun h => by have := hlt.out 3 h; omega, hnd.out⟩⟩
    refine List.length_eq_zero_iff.mp ?_
    have := hr1.out
    rw [e] at this; simp at this; omega
end Go.Proofs
end
section
open Go Go.Big
namespace Go.Proofs
set_option maxHeartbeats 2000000
theorem take_allG {α : Type} {p : α → Bool} {l : List α} {i : Nat} {x : α} (h : l[i]? = some x) : (l.take (i + 1)).all p = ((l.take i).all p && p x) := by
  obtain ⟨hi, rfl⟩ := List.getElem?_eq_some_iff.mp h
  rw [List.take_succ_eq_append_getElem hi, List.all_append]; simp
theorem all_noG {α : Type} {p : α → Bool} {l : List α} {i : Nat} {x : α} (h : l[i]? = some x) (hp : p x = false) : l.all p = false :=
  List.all_eq_false.mpr ⟨x, List.mem_of_getElem? h, by simp [hp]⟩
def clearM (l : List (Int × List Int)) (x : List Int) : Bool := l.all fun y => !overM y.2 x
theorem l15Clear_fn (G : Gv) (l : List (Int × List Int)) (x : Int × List Int) (hl : l.length < 1000000000) (hc : ∀ p ∈ l, p.2.length < 1000000000) (hx : x.2.length < 1000000000) : Gives Tryz.prog G 103 [.sl 0 (places l), placA 0 x] (.b (clearM l x.2)) := by
  refine .of (.body Tryz.func103 rfl (by simp [Tryz.ntmps103]) ?_)
  rw [Tryz.ntmps103, Tryz.results103]
  obtain ⟨k, s⟩ := x
  have hlen := places_len l
  replace hc := Hid.mk hc
  refine AL ?_
  refine .loop (.inv (fun d E H n' => ∃ i : Nat, i + d = l.length ∧ 0 < n' ∧ E 0 = .sl 0 (places l) ∧ E 3 = .ptr 0 0 0 0 ∧ E 5 = .i .i64 i ∧ H 0 = some (.box 110 [.i .i64 k, .sl 0 (ints s)]) ∧ (l.take i).all (fun y => !overM y.2 s) = true) l.length ?_ ?_)
  · exact ⟨0, by omega, by omega, by simp [setF_if, argE], by simp [setF_if, argE], by simp [setF_if, argE], by simp [upd_if], by simp⟩
  rintro d E H n' ⟨i, hi, hn, h0, h3, h5, hH, hall⟩
  replace hall := Hid.mk hall
  by_cases c : (i : Int) < l.length
  · have hw_i : IntKind.i64.wrap ((i : Int) + 1) = (i : Int) + 1 := wr64 (by omega) (by omega)
    obtain ⟨p, hp⟩ : ∃ p, l[i]? = some p := ⟨_, List.getElem?_eq_getElem (by omega)⟩
    have hr := places_at hp
    have hta := take_allG (p := fun y : Int × List Int => !overM y.2 s) hp
    have hat := all_noG (p := fun y : Int × List Int => !overM y.2 s) hp
    have hpl := hc.out p (List.mem_of_getElem? hp)
    replace hta := Hid.mk hta
    replace hat := Hid.mk hat
    replace hp := Hid.mk hp
    refine AL ?_
    refine CQ (l12Overlap_fn G p.2 s hpl hx) ?_
    by_cases ce : overM p.2 s = true
    · refine AL ?_
      simp [retA, backA, clearM, hat.out (by simp [ce])]
    · refine AL ?_
      exact ⟨l.length - (i + 1), by omega, i + 1, by omega, by omega, by simp [setF_if, *], by simp [setF_if, *], by simp [setF_if, *], by simp [upd_if, *], by rw [hta.out, hall.out]; simpa using ce⟩
  · have e : i = l.length := by omega
    rw [e, List.take_length] at hall
    refine AL ?_
    simp [retA, backA, clearM, hall.out]
def decM (out : List Int) (x : Int × List Int) : List Int := out.set x.1.toNat (IntKind.i64.wrap (out.getD x.1.toNat 0 - 1))
def copiesM (l : List PieceM) : List Int := l.map fun p => p.k
def leftM (l : List PieceM) (s : List (Int × List Int)) : List Int := s.foldl decM (copiesM l)
theorem foldl_take {α β : Type} {f : β → α → β} {z : β} {l : List α} {i : Nat} {x : α} (h : l[i]? = some x) : (l.take (i + 1)).foldl f z = f ((l.take i).foldl f z) x := by
  obtain ⟨hi, rfl⟩ := List.getElem?_eq_some_iff.mp h
  rw [List.take_succ_eq_append_getElem hi, List.foldl_append]; rfl
theorem dec_len : ∀ (s : List (Int × List Int)) (o : List Int), (s.foldl decM o).length = o.length
  | [], _ => rfl
  | x :: s, o => by rw [List.foldl_cons, dec_len s]; simp [decM]
end Go.Proofs
end
section
open Go Go.Big
namespace Go.Proofs
set_option maxHeartbeats 2000000
theorem toPlacementS_o (G : Gv) (l : List (Int × List Int)) (hl : l.length < 1000000000) (hc : ∀ p ∈ l, p.2.length < 1000000000) : GivesO Tryz.prog G 49 [.sl 0 (places l)] (.sl 1 (places l)) := by
  refine .of (.body Tryz.func49 rfl (by simp [Tryz.ntmps49]) ?_)
  rw [Tryz.ntmps49, Tryz.results49]
  have hlen := places_len l
  have b1 : ((32 : Nat) : Int) * l.length ≤ 281474976710656 := by simp; omega
  have b2 : (l.length : Int) ≤ 9223372036854775807 := by omega
  have b3 : (0 : Int) ≤ l.length := by omega
  replace hc := Hid.mk hc
  refine AG ?_
  refine .block (.loop (.inv (fun d E H n' => ∃ (i t' : Nat) (r1 : List (List PV)) (S1 : List Nat), i + d = l.length ∧ E 0 = .sl 0 (places l) ∧ E 3 = .own 3 0 ∧ E 4 = .i .i64 i ∧ H 3 = some (.arr 0 110 2 (r1 ++ List.replicate d [PV.i .i64 0, PV.sl []]) t') ∧ 3 < n' ∧ r1.length = i ∧ tagOk t' r1 ∧ fitR 2 r1 ∧ (l = [] → t' ≠ 2) ∧ ownRs H r1 (places (l.take i)) S1 ∧ S1.Nodup ∧ ∀ o ∈ S1, 3 < o ∧ o < n') l.length ?_ ?_))
  · refine ⟨0, 1, [], [], by omega, by simp [setF_if, argE], by simp [setF_if, argE], by simp [setF_if, argE], by simp [upd_if, hlen], by omega, rfl, .inr (fun r hr => by simp at hr), fun r hr => by simp at hr, fun _ => by decide, ⟨rfl, rfl⟩, by simp, by simp⟩
  clear b1 b2 b3
  rintro d E H n' ⟨i, t', r1, S1, hi, h0, h3, h4, hH, hn3, hr1, htag, hfit, hnil, hown, hnd, hlt⟩
  replace hr1 := Hid.mk hr1
  replace htag := Hid.mk htag
  replace hfit := Hid.mk hfit
  replace hnil := Hid.mk hnil
  replace hown := Hid.mk hown
  replace hnd := Hid.mk hnd
  replace hlt := Hid.mk hlt
  by_cases c : (i : Int) < l.length
  · have hw_i : IntKind.i64.wrap ((i : Int) + 1) = (i : Int) + 1 := wr64 (by omega) (by omega)
    obtain ⟨p, hp⟩ : ∃ p, l[i]? = some p := ⟨_, List.getElem?_eq_getElem (by omega)⟩
    have hpl := hc.out p (List.mem_of_getElem? hp)
    have hr : (places l)[i]? = some (placR p) := by simp [places, hp]
    obtain ⟨d, rfl⟩ : ∃ d', d = d' + 1 := ⟨d - 1, by omega⟩
    rw [List.replicate_succ] at hH
    have hro : (r1 ++ [PV.i .i64 0, PV.sl []] :: List.replicate d [PV.i .i64 0, PV.sl []])[i]? = some [PV.i .i64 0, PV.sl []] := at_mid _ _ _ hr1.out
    have hset : ∀ x, (r1 ++ [PV.i .i64 0, PV.sl []] :: List.replicate d [PV.i .i64 0, PV.sl []]).set i x = r1 ++ x :: List.replicate d [PV.i .i64 0, PV.sl []] := fun x => set_mid _ _ _ _ hr1.out
    have hrl : i < (r1 ++ [PV.i .i64 0, PV.sl []] :: List.replicate d [PV.i .i64 0, PV.sl []]).length := (List.getElem?_eq_some_iff.mp hro).1
    generalize r1 ++ [PV.i .i64 0, PV.sl []] :: List.replicate d [PV.i .i64 0, PV.sl []] = R at hH hro hset hrl
    have htk := take_map placR hp
    replace htk := Hid.mk htk
    replace hp := Hid.mk hp
    replace hpl := Hid.mk hpl
    skip
    refine AL ?_
    refine CWO (toPlacement_o G p.1 p.2 hpl.out) ?_
    intro z H1 S m hz hn hS hf hm
    have hH1 := hf 3 (by omega)
    rw [hH] at hH1
    obtain ⟨zk, z, s2, S, rfl, rfl, h2, hz2⟩ := ownX_ag2 hz
    obtain ⟨rfl, rfl⟩ := ownX_i h2
    clear h2 hz
    simp only [List.nil_append] at hn hS
    have hq := ownX_leaf hz2 (ints_scal _)
    have hSd : ∀ o ∈ S1, o ∉ S := fun o h1 h2 => by have := hlt.out o h1; have := hS o h2; omega
    have hS3 : ∀ o ∈ S, 3 < o ∧ o < m := fun o h => by have := hS o h; omega
    have hS4 : ∀ o ∈ S1, 3 < o ∧ o < m := fun o h => by have := hlt.out o h; omega
    have hf1 : ∀ o ∈ S1, H1 o = H o := fun o h => hf o (by have := hlt.out o h; omega)
    have hcs := ownX_cases hz2
    clear hz2
    replace hq := Hid.mk hq
    replace hSd := Hid.mk hSd
    replace hS3 := Hid.mk hS3
    replace hS4 := Hid.mk hS4
    replace hf1 := Hid.mk hf1
    replace hf := Hid.mk hf
    replace hS := Hid.mk hS
    replace hn := Hid.mk hn
    clear hH
    have fin : ∀ (q : PV) (t2 : Nat) (H2 : Heap), ownP H1 q (.sl (ints p.2)) S → (noOb q = true ∨ t2 = 2) → (∀ o, o ≠ 3 → H2 o = H1 o) → tagOk (joinT t' t2) (r1 ++ [[.i .i64 p.1, q]]) ∧ ownRs H2 (r1 ++ [[.i .i64 p.1, q]]) (places (l.take (i + 1))) (S1 ++ S) := by
      intro q t2 H2 h1 h2 h3
      refine ⟨tag_store htag.out (h2.symm.imp id fun h2 r hr p hp => ?_), ?_⟩
      · obtain rfl := List.mem_singleton.mp hr
        simp only [List.mem_cons, List.not_mem_nil, or_false] at hp
        rcases hp with rfl | rfl <;> first | rfl | exact h2
      · have e : places (l.take (i + 1)) = places (l.take i) ++ [placR p] := htk.out
        rw [e]
        refine ownRs_append (ownRs_congr (H := H) (fun o ho => ?_) hown.out) (ownRs_one (ownPs_congr (H := H1) (fun o ho => ?_) ?_))
        · rw [h3 o (by have := hlt.out o ho; omega)]; exact hf1.out o ho
        · exact h3 o (by have := hS3.out o ho; omega)
        · exact ownPs_cons (s := []) (ownP_scal_mk rfl) (by rw [← List.append_nil S]; exact ownPs_cons h1 ⟨rfl, rfl⟩)
    replace fin := Hid.mk fin
    replace htk := Hid.mk htk
    rcases hcs with ⟨o, e, ty, sz, rows, t, rfl, hHo, ho⟩ | rfl | ⟨t, rfl⟩
    · have ho3 := hS3.out o ho
      have n3 : ¬ o = 3 := by omega
      clear ho
      obtain ⟨q, tg, e1, e2, hq1, hq2⟩ := hq.out
      cases e1
      clear hq2 e2
      replace hq1 := Hid.mk hq1
      replace hset := Hid.mk hset
      refine AL ?_
      refine ⟨d, by omega, i + 1, joinT t' (2), r1 ++ [[PV.i .i64 p.1, PV.ob o e]], S1 ++ S, by omega, by simp [setF_if, *], by simp [setF_if, *], by simp [setF_if, *], ?_, by omega, by simp [hr1.out], (fin.out _ _ H1 hq1.out (.inr rfl) (fun _ _ => rfl)).1, ?_, fun e => by rw [e] at hi; simp at hi, (fin.out _ (2) _ hq1.out (.inr rfl) (fun k hk => by rw [upd_if, if_neg hk])).2, ?_, ?_⟩
      · simp [upd_if, joinT, hset.out]
      · intro r hr
        rcases List.mem_append.mp hr with hr | hr
        · exact hfit.out r hr
        · rw [List.mem_singleton.mp hr]; rfl
      · exact List.nodup_append.mpr ⟨hnd.out, hn.out, fun x hx y hy e => hSd.out x hx (e ▸ hy)⟩
      · intro x hx
        rcases List.mem_append.mp hx with hx | hx
        · exact ⟨(hS4.out x hx).1, by have := (hS4.out x hx).2; omega⟩
        · exact ⟨(hS3.out x hx).1, by have := (hS3.out x hx).2; omega⟩
    · skip
      obtain ⟨q, tg, e1, e2, hq1, hq2⟩ := hq.out
      cases e1
      clear hq2 e2
      replace hq1 := Hid.mk hq1
      replace hset := Hid.mk hset
      refine AL ?_
      refine ⟨d, by omega, i + 1, joinT t' (1), r1 ++ [[PV.i .i64 p.1, PV.sl []]], S1 ++ S, by omega, by simp [setF_if, *], by simp [setF_if, *], by simp [setF_if, *], ?_, by omega, by simp [hr1.out], (fin.out _ _ H1 hq1.out (.inl rfl) (fun _ _ => rfl)).1, ?_, fun e => by rw [e] at hi; simp at hi, (fin.out _ (1) _ hq1.out (.inl rfl) (fun k hk => by rw [upd_if, if_neg hk])).2, ?_, ?_⟩
      · simp [upd_if, joinT, hset.out]
      · intro r hr
        rcases List.mem_append.mp hr with hr | hr
        · exact hfit.out r hr
        · rw [List.mem_singleton.mp hr]; rfl
      · exact List.nodup_append.mpr ⟨hnd.out, hn.out, fun x hx y hy e => hSd.out x hx (e ▸ hy)⟩
      · intro x hx
        rcases List.mem_append.mp hx with hx | hx
        · exact ⟨(hS4.out x hx).1, by have := (hS4.out x hx).2; omega⟩
        · exact ⟨(hS3.out x hx).1, by have := (hS3.out x hx).2; omega⟩
    · skip
      obtain ⟨q, tg, e1, e2, hq1, hq2⟩ := hq.out
      cases e1
      clear hq2 e2
      replace hq1 := Hid.mk hq1
      replace hset := Hid.mk hset
      refine AL ?_
      refine ⟨d, by omega, i + 1, joinT t' (joinT 1 (joinT t 1)), r1 ++ [[PV.i .i64 p.1, PV.sl []]], S1 ++ S, by omega, by simp [setF_if, *], by simp [setF_if, *], by simp [setF_if, *], ?_, by omega, by simp [hr1.out], (fin.out _ _ H1 hq1.out (.inl rfl) (fun _ _ => rfl)).1, ?_, fun e => by rw [e] at hi; simp at hi, (fin.out _ (joinT 1 (joinT t 1)) _ hq1.out (.inl rfl) (fun k hk => by rw [upd_if, if_neg hk])).2, ?_, ?_⟩
      · simp [upd_if, joinT, hset.out]
      · intro r hr
        rcases List.mem_append.mp hr with hr | hr
        · exact hfit.out r hr
        · rw [List.mem_singleton.mp hr]; rfl
      · exact List.nodup_append.mpr ⟨hnd.out, hn.out, fun x hx y hy e => hSd.out x hx (e ▸ hy)⟩
      · intro x hx
        rcases List.mem_append.mp hx with hx | hx
        · exact ⟨(hS4.out x hx).1, by have := (hS4.out x hx).2; omega⟩
        · exact ⟨(hS3.out x hx).1, by have := (hS3.out x hx).2; omega⟩
  · refine AL ?_
    have ei : i = l.length := by omega
    have hd : d = 0 := by omega
    subst hd
    rw [List.replicate_zero, List.append_nil] at hH
    have ho := hown.out
    rw [ei, List.take_length] at ho
    refine ⟨3 :: S1, ownX_sl (tagOk_own hH ho htag.out (ownRs_ns ho (places_ns _)) hfit.out fun e => hnil.out ?_), List.nodup_cons.mpr ⟨fun h => by have := hlt.out 3 h; omega, hnd.out⟩⟩
    refine List.length_eq_zero_iff.mp ?_
    have := hr1.out
    rw [e] at this; simp at this; omega
theorem toPuzzle_o (G : Gv) (l : List (Int × Int)) (ps : List PieceM) (hl : l.length < 1000000000) (hp : ps.length < 1000000000) (hc : ∀ p ∈ ps, p.cs.length < 1000000000) :
    GivesO Tryz.prog G 16 [.ag [.sl 0 (cells l), .sl 0 (pieces ps)]] (.ag [.sl 1 (cells l), .sl 1 (pieces ps)]) := by
  refine .of (.body Tryz.func16 rfl (by simp [Tryz.ntmps16]) ?_)
  rw [Tryz.ntmps16, Tryz.results16]
  replace hc := Hid.mk hc
  refine AL ?_
  refine CWO (toCellS_o G _ hl) ?_
  intro z H1 S m hz hn hS hf hm
  have f1 := hf 1 (by omega)
  have f2 := hf 2 (by omega)
  have f0 := hf 0 (by omega)
  simp [upd_if] at f0 f1 f2
  have hS1 : ∀ o ∈ S, 5 ≤ o ∧ o < m := hS
  clear hS hf
  replace hn := Hid.mk hn
  replace hS1 := Hid.mk hS1
  have hz' := Hid.mk hz
  rcases ownX_cases hz with ⟨o, e, ty, sz, rows, t, rfl, hH, ho⟩ | rfl | ⟨t, rfl⟩
  · clear hz
    have ho5 := (hS1.out o ho).1
    have n1 : ¬ o = 1 := by omega
    have n2 : ¬ o = 2 := by omega
    refine AL ?_
    refine CWO (toPieceS_o G _ hp hc.out) ?_
    intro z2 H2 S2 m2 hz2 hn2 hS2 hf2 hm2
    have g1 := hf2 1 (by omega)
    have g2 := hf2 2 (by omega)
    have g0 := hf2 0 (by omega)
    simp [upd_if, f0, f1, f2] at g0 g1 g2
    have hzz := ownX_congr (fun k hk => (hf2 k (by have := (hS1.out k hk).2; omega)).trans (by have := (hS1.out k hk).1; simp [upd_if, show ¬ k = 2 by omega])) hz'.out
    have hHo := hf2 o (by have := (hS1.out o ho).2; omega)
    simp [upd_if, n2, hH] at hHo
    clear ho
    have hSS : ∀ k ∈ S2, m ≤ k := fun k hk => by have := (hS2 k hk).1; omega
    have hS21 : ∀ k ∈ S2, 5 ≤ k := fun k hk => by have := hSS k hk; omega
    clear hf2 hS2 f0 f1 f2
    replace hn2 := Hid.mk hn2
    replace hzz := Hid.mk hzz
    replace hSS := Hid.mk hSS
    replace hS21 := Hid.mk hS21
    have hz2' := Hid.mk hz2
    rcases ownX_cases hz2 with ⟨o2, e2, ty2, sz2, rows2, t2, rfl, hH2, ho2⟩ | rfl | ⟨t2, rfl⟩
    · clear hz2
      have k5 := hS21.out o2 ho2
      have k1 : ¬ o2 = 1 := by omega
      have k2 : ¬ o2 = 2 := by omega
      clear ho2
      refine AL ?_
      refine ⟨S ++ S2, ownX_mk2 (ownX_congr (fun k hk => by have := (hS1.out k hk).1; simp [upd_if, show ¬ k = 1 by omega, show ¬ k = 2 by omega]) hzz.out) (ownX_congr (fun k hk => by have := hS21.out k hk; simp [upd_if, show ¬ k = 1 by omega, show ¬ k = 2 by omega]) hz2'.out), List.nodup_append.mpr ⟨hn.out, hn2.out, fun a ha b hb e => ?_⟩⟩
      have := (hS1.out a ha).2
      have := hSS.out b hb
      omega
    · clear hz2
      refine AL ?_
      refine ⟨S ++ S2, ownX_mk2 (ownX_congr (fun k hk => by have := (hS1.out k hk).1; simp [upd_if, show ¬ k = 1 by omega, show ¬ k = 2 by omega]) hzz.out) (ownX_congr (fun k hk => by have := hS21.out k hk; simp [upd_if, show ¬ k = 1 by omega, show ¬ k = 2 by omega]) hz2'.out), List.nodup_append.mpr ⟨hn.out, hn2.out, fun a ha b hb e => ?_⟩⟩
      have := (hS1.out a ha).2
      have := hSS.out b hb
      omega
    · clear hz2
      refine AL ?_
      refine ⟨S ++ S2, ownX_mk2 (ownX_congr (fun k hk => by have := (hS1.out k hk).1; simp [upd_if, show ¬ k = 1 by omega, show ¬ k = 2 by omega]) hzz.out) (ownX_congr (fun k hk => by have := hS21.out k hk; simp [upd_if, show ¬ k = 1 by omega, show ¬ k = 2 by omega]) hz2'.out), List.nodup_append.mpr ⟨hn.out, hn2.out, fun a ha b hb e => ?_⟩⟩
      have := (hS1.out a ha).2
      have := hSS.out b hb
      omega
  · clear hz
    refine AL ?_
    refine CWO (toPieceS_o G _ hp hc.out) ?_
    intro z2 H2 S2 m2 hz2 hn2 hS2 hf2 hm2
    have g1 := hf2 1 (by omega)
    have g2 := hf2 2 (by omega)
    have g0 := hf2 0 (by omega)
    simp [upd_if, f0, f1, f2] at g0 g1 g2
    have hzz := ownX_congr (fun k hk => (hf2 k (by have := (hS1.out k hk).2; omega)).trans (by have := (hS1.out k hk).1; simp [upd_if, show ¬ k = 2 by omega])) hz'.out
    have hSS : ∀ k ∈ S2, m ≤ k := fun k hk => by have := (hS2 k hk).1; omega
    have hS21 : ∀ k ∈ S2, 5 ≤ k := fun k hk => by have := hSS k hk; omega
    clear hf2 hS2 f0 f1 f2
    replace hn2 := Hid.mk hn2
    replace hzz := Hid.mk hzz
    replace hSS := Hid.mk hSS
    replace hS21 := Hid.mk hS21
    have hz2' := Hid.mk hz2
    rcases ownX_cases hz2 with ⟨o2, e2, ty2, sz2, rows2, t2, rfl, hH2, ho2⟩ | rfl | ⟨t2, rfl⟩
    · clear hz2
      have k5 := hS21.out o2 ho2
      have k1 : ¬ o2 = 1 := by omega
      have k2 : ¬ o2 = 2 := by omega
      clear ho2
      refine AL ?_
      refine ⟨S ++ S2, ownX_mk2 (ownX_congr (fun k hk => by have := (hS1.out k hk).1; simp [upd_if, show ¬ k = 1 by omega, show ¬ k = 2 by omega]) hzz.out) (ownX_congr (fun k hk => by have := hS21.out k hk; simp [upd_if, show ¬ k = 1 by omega, show ¬ k = 2 by omega]) hz2'.out), List.nodup_append.mpr ⟨hn.out, hn2.out, fun a ha b hb e => ?_⟩⟩
      have := (hS1.out a ha).2
      have := hSS.out b hb
      omega
    · clear hz2
      refine AL ?_
      refine ⟨S ++ S2, ownX_mk2 (ownX_congr (fun k hk => by have := (hS1.out k hk).1; simp [upd_if, show ¬ k = 1 by omega, show ¬ k = 2 by omega]) hzz.out) (ownX_congr (fun k hk => by have := hS21.out k hk; simp [upd_if, show ¬ k = 1 by omega, show ¬ k = 2 by omega]) hz2'.out), List.nodup_append.mpr ⟨hn.out, hn2.out, fun a ha b hb e => ?_⟩⟩
      have := (hS1.out a ha).2
      have := hSS.out b hb
      omega
    · clear hz2
      refine AL ?_
      refine ⟨S ++ S2, ownX_mk2 (ownX_congr (fun k hk => by have := (hS1.out k hk).1; simp [upd_if, show ¬ k = 1 by omega, show ¬ k = 2 by omega]) hzz.out) (ownX_congr (fun k hk => by have := hS21.out k hk; simp [upd_if, show ¬ k = 1 by omega, show ¬ k = 2 by omega]) hz2'.out), List.nodup_append.mpr ⟨hn.out, hn2.out, fun a ha b hb e => ?_⟩⟩
      have := (hS1.out a ha).2
      have := hSS.out b hb
      omega
  · clear hz
    refine AL ?_
    refine CWO (toPieceS_o G _ hp hc.out) ?_
    intro z2 H2 S2 m2 hz2 hn2 hS2 hf2 hm2
    have g1 := hf2 1 (by omega)
    have g2 := hf2 2 (by omega)
    have g0 := hf2 0 (by omega)
    simp [upd_if, f0, f1, f2] at g0 g1 g2
    have hzz := ownX_congr (fun k hk => (hf2 k (by have := (hS1.out k hk).2; omega)).trans (by have := (hS1.out k hk).1; simp [upd_if, show ¬ k = 2 by omega])) hz'.out
    have hSS : ∀ k ∈ S2, m ≤ k := fun k hk => by have := (hS2 k hk).1; omega
    have hS21 : ∀ k ∈ S2, 5 ≤ k := fun k hk => by have := hSS k hk; omega
    clear hf2 hS2 f0 f1 f2
    replace hn2 := Hid.mk hn2
    replace hzz := Hid.mk hzz
    replace hSS := Hid.mk hSS
    replace hS21 := Hid.mk hS21
    have hz2' := Hid.mk hz2
    rcases ownX_cases hz2 with ⟨o2, e2, ty2, sz2, rows2, t2, rfl, hH2, ho2⟩ | rfl | ⟨t2, rfl⟩
    · clear hz2
      have k5 := hS21.out o2 ho2
      have k1 : ¬ o2 = 1 := by omega
      have k2 : ¬ o2 = 2 := by omega
      clear ho2
      refine AL ?_
      refine ⟨S ++ S2, ownX_mk2 (ownX_congr (fun k hk => by have := (hS1.out k hk).1; simp [upd_if, show ¬ k = 1 by omega, show ¬ k = 2 by omega]) hzz.out) (ownX_congr (fun k hk => by have := hS21.out k hk; simp [upd_if, show ¬ k = 1 by omega, show ¬ k = 2 by omega]) hz2'.out), List.nodup_append.mpr ⟨hn.out, hn2.out, fun a ha b hb e => ?_⟩⟩
      have := (hS1.out a ha).2
      have := hSS.out b hb
      omega
    · clear hz2
      refine AL ?_
      refine ⟨S ++ S2, ownX_mk2 (ownX_congr (fun k hk => by have := (hS1.out k hk).1; simp [upd_if, show ¬ k = 1 by omega, show ¬ k = 2 by omega]) hzz.out) (ownX_congr (fun k hk => by have := hS21.out k hk; simp [upd_if, show ¬ k = 1 by omega, show ¬ k = 2 by omega]) hz2'.out), List.nodup_append.mpr ⟨hn.out, hn2.out, fun a ha b hb e => ?_⟩⟩
      have := (hS1.out a ha).2
      have := hSS.out b hb
      omega
    · clear hz2
      refine AL ?_
      refine ⟨S ++ S2, ownX_mk2 (ownX_congr (fun k hk => by have := (hS1.out k hk).1; simp [upd_if, show ¬ k = 1 by omega, show ¬ k = 2 by omega]) hzz.out) (ownX_congr (fun k hk => by have := hS21.out k hk; simp [upd_if, show ¬ k = 1 by omega, show ¬ k = 2 by omega]) hz2'.out), List.nodup_append.mpr ⟨hn.out, hn2.out, fun a ha b hb e => ?_⟩⟩
      have := (hS1.out a ha).2
      have := hSS.out b hb
      omega
end Go.Proofs
end
