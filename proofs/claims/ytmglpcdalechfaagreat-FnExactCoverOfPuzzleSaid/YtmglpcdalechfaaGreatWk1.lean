/- Walks: More words. No condition. | More words: shared calls as makers in drawn regions. No condition. | A word more: an owned result in a drawn region. No condition. | impl.within | spec.l01In. No condition. | Small functions of cells. No condition. | Lists of numbers that rise. No condition. | Small functions of cells, the second part. No condition. | Whether a list of numbers holds one, whether two have one in common; lists and placements compared. No condition. | Lists compared as the library does it; placements compared. No condition. | Lists of cells turned into other ones. No condition. | Pieces and puzzles turned into other ones. No condition. | Puzzles and placements turned into other ones. No condition. | What is equal to itself. No condition. | What is equal to itself, the second part. No condition. | Sizes of what comes in. No condition. -/
import Derived.Test.YtmglpcdalechfaaGreatBO
import Derived.Test.YtmglpcdalechfaaGreatBC
import Derived.Test.YtmglpcdalechfaaGreatBigL
set_option linter.unusedVariables false
set_option linter.unusedSimpArgs false
section
open Go Go.Big
namespace Go.Proofs
set_option maxHeartbeats 2000000
theorem FCP {ob : List Nat} {wr : List (Nat × Nat)} {rd : List (Nat × List Nat)} {N : Nat} {ds : List (Option Tmp)} {l : List Oper} {E : Env} {H : Heap} {n m : Nat} {K : Env → Heap → Nat → Prop} {o : Oper} {c : Call} {f : FuncId} {args args' : List AV} {y : AV} {d : Nat} {G : Gv}
    (hF : Gives Tryz.prog G f args' y)
    (h : WF Tryz.prog G ob wr rd N ds l (setF E d y) H m K)
    (hop : o.op = .call c := by rfl) (hdst : o.dst = some d := by rfl) (hw : wantR ds E o.guard = some true := by exact vB)
    (hc : calleeA E c = some (f, args) := by exact vD)
    (hg : ∀ Hx : Heap, Agrees ob (fpL wr rd o) Hx H → givesA Hx args = some args' := by (intro Hx hx; exact vE))
    (hwr : wrL wr o = none := by rfl)
    (hf : (Tryz.prog.funcs[f]?).any (fun fn => fn.body.isSome && (fn.name != "runtime.NumGoroutine")) = true := by kernel_rfl)
    (hn : n + 1 = m := by exact vG)
    (hd : d < N := by decide) : WF Tryz.prog G ob wr rd N ds (o :: l) E H n K :=
  FC hF hg h hop hdst hw hc hwr hf hn hd
end Go.Proofs
end
section
open Go Go.Big
namespace Go.Proofs
set_option maxHeartbeats 2000000
theorem fn_of {f : FuncId} (hf : (Tryz.prog.funcs[f]?).any (fun fn => fn.body.isSome && (fn.name != "runtime.NumGoroutine")) = true) : ∃ fn, Tryz.prog.funcs[f]? = some fn ∧ fn.body.isSome = true ∧ (fn.name == "runtime.NumGoroutine") = false := by
  cases q : Tryz.prog.funcs[f]? with
  | none => rw [q] at hf; exact absurd hf (by simp)
  | some fn =>
    rw [q] at hf
    simp only [Option.any_some, Bool.and_eq_true, bne_iff_ne, ne_eq] at hf
    exact ⟨fn, rfl, hf.1, by simpa using hf.2⟩
theorem CSM {fs st : List Nat} {n0 : Nat} {N : Nat} {ds : List (Option Tmp)} {l : List Oper} {E : Env} {H : Heap} {n : Nat} {K : Env → Heap → Nat → Prop} {o : Oper} {c : Call} {f : FuncId} {args : List AV} {d : Nat} {G : Gv}
    (hG : GvOk Tryz.prog G)
    (hF : WC Tryz.prog G f args H n (fun y H1 n1 => (∀ k, k < n0 → cutH n1 H1 k = H k) ∧ WM Tryz.prog G fs st n0 N ds l (setF E d y) (cutH n1 H1) n1 K))
    (hop : o.op = .call c := by rfl) (hmk : mkF fs (.call c) = true := by rfl) (hdst : o.dst = some d := by rfl) (hw : wantR ds E o.guard = some true := by exact vB)
    (hc : calleeA E c = some (f, args) := by exact vD)
    (hf : (Tryz.prog.funcs[f]?).any (fun fn => fn.body.isSome && (fn.name != "runtime.NumGoroutine")) = true := by kernel_rfl)
    (hd : d < N := by decide) : WM Tryz.prog G fs st n0 N ds (o :: l) E H n K := by
  unfold WC at hF
  obtain ⟨y, H1, n1, hb, hlow, h⟩ := hF
  exact WM.sem hw (by rw [hdst]; simpa [dstOk] using hd) (fun hfree => ⟨fun k hk => cutH_ge hk, fun i => OneM_call hG hop hmk hc (fn_of hf) hfree hb hlow⟩) (by rw [hdst]; exact h)
theorem CSF {fs st : List Nat} {n0 : Nat} {N : Nat} {ds : List (Option Tmp)} {l : List Oper} {E : Env} {H : Heap} {n : Nat} {K : Env → Heap → Nat → Prop} {o : Oper} {c : Call} {f : FuncId} {args : List AV} {d : Nat} {G : Gv}
    (hG : GvOk Tryz.prog G)
    (hF : WC Tryz.prog G f args H n (fun y H1 n1 => ∃ x e sz t ty rows, y = .own x e ∧ H1 x = some (.arr e ty sz rows t) ∧ newB t rows ∧ t ≠ 2 ∧ (∀ k, k < n0 → cutH n1 (frzH H1 x e 1 rows) k = H k) ∧ WM Tryz.prog G fs st n0 N ds l (setF E d (.sl 1 rows)) (cutH n1 (frzH H1 x e 1 rows)) n1 K))
    (hop : o.op = .call c := by rfl) (hmk : mkF fs (.call c) = true := by rfl) (hdst : o.dst = some d := by rfl) (hw : wantR ds E o.guard = some true := by exact vB)
    (hc : calleeA E c = some (f, args) := by exact vD)
    (hf : (Tryz.prog.funcs[f]?).any (fun fn => fn.body.isSome && (fn.name != "runtime.NumGoroutine")) = true := by kernel_rfl)
    (hd : d < N := by decide) : WM Tryz.prog G fs st n0 N ds (o :: l) E H n K := by
  unfold WC at hF
  obtain ⟨y, H1, n1, hb, x, e, sz, t, ty, rows, rfl, hx, hnb, ht2, hlow, h⟩ := hF
  exact WM.sem hw (by rw [hdst]; simpa [dstOk] using hd) (fun hfree => ⟨fun k hk => cutH_ge hk, fun i => OneM_frz hG hop hmk hc (fn_of hf) hfree hb hx hnb ht2 hlow⟩) (by rw [hdst]; exact h)
theorem OSQ {fs st : List Nat} {n0 : Nat} {N : Nat} {ds : List (Option Tmp)} {l : List Oper} {E : Env} {H : Heap} {n m : Nat} {K : Env → Heap → Nat → Prop} {o : Oper} {op : Op} {d : Nat} {y : AV} {G : Gv}
    (h : WM Tryz.prog G fs st n0 N ds l (setF E d y) H m K)
    (hop : o.op = op := by rfl) (hdst : o.dst = some d := by rfl) (hw : wantR ds E o.guard = some true := by exact vB)
    (hs : ∀ Hx : Heap, (∀ k, k < n0 → Hx k = H k) → ∃ H1, stepOp Tryz.prog Hx 0 (Go.Big.look E) op = some (y, H1))
    (hn : n + 1 = m := by exact vG)
    (hk : quietOp op = true := by rfl) (hst : stD st o = true := by rfl) (hmk : mkF fs o.op = false := by rfl)
    (hd : d < N := by decide) : WM Tryz.prog G fs st n0 N ds (o :: l) E H n K := OST hs h hop hdst hw hn hk hst hmk hd
end Go.Proofs
end
section
open Go Go.Big
namespace Go.Proofs
set_option maxHeartbeats 2000000
theorem FCO {ob : List Nat} {wr : List (Nat × Nat)} {rd : List (Nat × List Nat)} {N : Nat} {ds : List (Option Tmp)} {l : List Oper} {E : Env} {H : Heap} {n : Nat} {K : Env → Heap → Nat → Prop} {o : Oper} {c : Call} {f : FuncId} {args args' : List AV} {d : Nat} {G : Gv} (a : Nat)
    (hG : GvOk Tryz.prog G)
    (hF : WC Tryz.prog G f args' (fun _ => none) 0 (fun y Hc _ => ∃ oo e sz t ty rows, y = .own oo e ∧ Hc oo = some (.arr e ty sz rows t) ∧ newB t rows ∧ t ≠ 2 ∧ WF Tryz.prog G ob wr rd N ds l (setF E d (.own n e)) (H.upd n (.arr e ty sz rows t)) (n + 1) K))
    (hop : o.op = .call c := by rfl) (hdst : o.dst = some d := by rfl) (hw : wantR ds E o.guard = some true := by exact vB)
    (hc : calleeA E c = some (f, args) := by exact vD)
    (hg : ∀ Hx : Heap, Agrees ob (fpL wr rd o) Hx H → givesA Hx args = some args' := by (intro Hx hx; exact vE))
    (hwr : wrL wr o = some a := by rfl) (hX : ob[a]? = some n := by rfl) (hnd : ob.Nodup := by assumption)
    (hf : (Tryz.prog.funcs[f]?).any (fun fn => fn.body.isSome && (fn.name != "runtime.NumGoroutine")) = true := by kernel_rfl)
    (hd : d < N := by decide) : WF Tryz.prog G ob wr rd N ds (o :: l) E H n K := by
  unfold WC at hF
  obtain ⟨y, Hc, nc, hb, oo, e, sz, t, ty, rows, rfl, hx, hnb, ht2, h⟩ := hF
  exact WF.sem (m := n + 1) hw (by rw [hdst]; simpa [dstOk] using hd) (fun hfree => ⟨fun k hk => by rw [Heap.upd_ne _ _ (by omega)]; exact hfree k (by omega), OneL_own hG hop hwr hX (hfree n (Nat.le_refl _)) hnd hc hg (fn_of hf) hb hx hnb ht2⟩) (by rw [hdst]; exact h)
end Go.Proofs
end
section
open Go Go.Big
namespace Go.Proofs
set_option maxHeartbeats 2000000
theorem within_fn (G : Gv) (n lo hi : Int) : Gives Tryz.prog G 86 [.i .i64 n, .i .i64 lo, .i .i64 hi] (.b (decide (n ≥ lo) && decide (n ≤ hi))) := by
  refine .of (.body Tryz.func86 rfl (by simp [Tryz.ntmps86]) ?_)
  rw [Tryz.ntmps86, Tryz.results86]
  refine AG ?_
  by_cases c : n ≥ lo
  all_goals
    refine AG ?_
    refine .ret ?_
    refine .ret rfl ?_
    simp [retA, backA, backsA, newSl, newB, setF_if, upd_if, *]
theorem l01In_fn (G : Gv) (n lo hi : Int) : Gives Tryz.prog G 83 [.i .i64 n, .i .i64 lo, .i .i64 hi] (.b (decide (n ≥ lo) && decide (n ≤ hi))) := by
  refine .of (.body Tryz.func83 rfl (by simp [Tryz.ntmps83]) ?_)
  rw [Tryz.ntmps83, Tryz.results83]
  refine AG ?_
  by_cases c : n ≥ lo
  all_goals
    refine AG ?_
    refine .ret ?_
    refine .ret rfl ?_
    simp [retA, backA, backsA, newSl, newB, setF_if, upd_if, *]
end Go.Proofs
end
section
open Go Go.Big
namespace Go.Proofs
set_option maxHeartbeats 2000000
abbrev cellA (x y : Int) : AV := .ag [.i .i64 x, .i .i64 y]
def inC (x : Int) : Bool := decide (x ≥ -100) && decide (x ≤ 100)
theorem isCoordinate_fn (G : Gv) (x : Int) : Gives Tryz.prog G 232 [.i .i64 x] (.b (inC x)) := by
  refine .of (.body Tryz.func232 rfl (by simp [Tryz.ntmps232]) ?_)
  rw [Tryz.ntmps232, Tryz.results232]
  refine AG ?_
  refine CV (within_fn G _ _ _) ?_
  refine AG ?_
  refine .ret ?_
  refine .ret rfl ?_
  simp [retA, backA, setF_if, inC]
theorem l02Cell_fn (G : Gv) (x y : Int) : Gives Tryz.prog G 225 [cellA x y] (.b (inC x && inC y)) := by
  refine .of (.body Tryz.func225 rfl (by simp [Tryz.ntmps225]) ?_)
  rw [Tryz.ntmps225, Tryz.results225]
  refine AG ?_
  refine CV (l01In_fn G _ _ _) ?_
  refine AG ?_
  by_cases c : (decide (x ≥ -100) && decide (x ≤ 100)) = true
  · refine AG ?_
    refine CV (l01In_fn G _ _ _) ?_
    refine AG ?_
    refine .ret ?_
    refine .ret rfl ?_
    simp [retA, backA, setF_if, inC, *]
  · refine AG ?_
    refine .ret ?_
    refine .ret rfl ?_
    simp [retA, backA, setF_if, inC, *]
def lessC (a b c d : Int) : Bool := decide (b < d) || ((b == d) && decide (a < c))
theorem l02Less_fn (G : Gv) (a b c d : Int) : Gives Tryz.prog G 226 [cellA a b, cellA c d] (.b (lessC a b c d)) := by
  refine .of (.body Tryz.func226 rfl (by simp [Tryz.ntmps226]) ?_)
  rw [Tryz.ntmps226, Tryz.results226]
  refine AG ?_
  by_cases c1 : b < d
  · refine AG ?_
    refine .ret ?_
    refine .ret rfl ?_
    simp [retA, backA, setF_if, lessC, *]
  · refine AG ?_
    by_cases c2 : (b == d) = true
    · refine AG ?_
      refine .ret ?_
      refine .ret rfl ?_
      simp [retA, backA, setF_if, lessC, *]
    · refine AG ?_
      refine .ret ?_
      refine .ret rfl ?_
      simp [retA, backA, setF_if, lessC, *]
end Go.Proofs
end
section
open Go Go.Big
namespace Go.Proofs
set_option maxHeartbeats 2000000
theorem wr64 {k : Int} (h1 : 0 ≤ k) (h2 : k < 9223372036854775808) : IntKind.i64.wrap k = k := by
  simp [IntKind.wrap, IntKind.bits, IntKind.signed]; omega
def ints (l : List Int) : List (List PV) := l.map fun x => [.i .i64 x]
theorem ints_len (l : List Int) : (ints l).length = l.length := by simp [ints]
theorem ints_at {l : List Int} {i : Nat} (h : i < l.length) : (ints l)[i]? = some [.i .i64 (l.getD i 0)] := by
  simp [ints, h, List.getD_eq_getElem?_getD]
theorem all_no {f : Nat → Bool} {n i : Nat} (h : i < n) (hf : f i = false) : (List.range n).all f = false := by
  rw [List.all_eq_false]; exact ⟨i, List.mem_range.mpr h, by simp [hf]⟩
theorem all_yes {f : Nat → Bool} {n : Nat} (h : ∀ i < n, f i = true) : (List.range n).all f = true := by
  rw [List.all_eq_true]; exact fun i hi => h i (List.mem_range.mp hi)
def incAt (l : List Int) (m : Int) (i : Nat) : Bool := (decide (l.getD i 0 ≥ 0) && decide (l.getD i 0 ≤ m)) && !(decide ((i : Int) > 0) && decide (l.getD i 0 ≤ l.getD (i - 1) 0))
def inc (l : List Int) (m : Int) : Bool := (List.range l.length).all (incAt l m)
theorem isIncreasing_fn (G : Gv) (l : List Int) (n : Int) (hl : l.length < 4611686018427387904) : Gives Tryz.prog G 121 [.sl 0 (ints l), .i .i64 n] (.b (inc l (IntKind.i64.wrap (n - 1)))) := by
  refine .of (.body Tryz.func121 rfl (by simp [Tryz.ntmps121]) ?_)
  rw [Tryz.ntmps121, Tryz.results121]
  refine AG ?_
  refine .block (.loop (.inv (fun d E H n' => ∃ i : Nat, i + d = l.length ∧ E 0 = .sl 0 (ints l) ∧ E 1 = .i .i64 n ∧ E 7 = .sl 0 (ints l) ∧ E 8 = .i .i64 l.length ∧ E 9 = .i .i64 i ∧ (∀ j, j < i → incAt l (IntKind.i64.wrap (n - 1)) j = true)) l.length ?_ ?_))
  · simp [setF_if, argE, ints]
  rintro d E H n' ⟨i, hi, h0, h1, h7, h8, h9, hall⟩
  refine AG ?_
  by_cases c : (i : Int) < l.length
  · refine IFT ?_
    have hr : (ints l)[i]? = some [.i .i64 (l.getD i 0)] := ints_at (by omega)
    have hat : incAt l (IntKind.i64.wrap (n - 1)) i = incAt l (IntKind.i64.wrap (n - 1)) i := rfl
    conv at hat => rhs; unfold incAt
    have hno : incAt l (IntKind.i64.wrap (n - 1)) i = false → inc l (IntKind.i64.wrap (n - 1)) = false := fun h => all_no (by omega) h
    have hw2 : IntKind.i64.wrap ((i : Int) + 1) = (i : Int) + 1 := wr64 (by omega) (by omega)
    have more : incAt l (IntKind.i64.wrap (n - 1)) i = true → ∀ j, j < i + 1 → incAt l (IntKind.i64.wrap (n - 1)) j = true := fun h j hj => by
      by_cases e : j = i
      · rw [e]; exact h
      · exact hall j (by omega)
    generalize l.getD i 0 = x at hr hat
    refine .skip ?_
    refine TH ?_
    refine .seq ?_
    refine .block ?_
    refine AG ?_
    refine CV (within_fn G _ _ _) ?_
    refine AG ?_
    by_cases c1 : (decide (x ≥ 0) && decide (x ≤ IntKind.i64.wrap (n - 1))) = true
    · refine AG ?_
      by_cases c3 : (i : Int) > 0
      · have hr2 : (ints l)[((i : Int) - 1).toNat]? = some [.i .i64 (l.getD (i - 1) 0)] := by rw [show ((i : Int) - 1).toNat = i - 1 by omega]; exact ints_at (by omega)
        have hw : IntKind.i64.wrap ((i : Int) - 1) = (i : Int) - 1 := wr64 (by omega) (by omega)
        have h01 : 0 ≤ (i : Int) - 1 := by omega
        generalize l.getD (i - 1) 0 = y at hr2 hat
        refine AG ?_
        by_cases c4 : x ≤ y
        · refine IFT ?_
          refine AG ?_
          refine .ret ?_
          (try simp only [tN, tR, tE, rN, rR, rE, xN, xR, xE, reduceIte])
          refine DN ?_
          have := hno (by simp only [decide_true, decide_false, Bool.not_true, Bool.not_false, Bool.and_true, Bool.true_and, Bool.and_false, Bool.false_and, Bool.and_self, *])
          simp [retA, backA, this]
        · refine IFF ?_
          refine .skip ?_
          (try simp only [tN, tR, tE, rN, rR, rE, xN, xR, xE, reduceIte])
          refine .region ?_
          refine AG ?_
          (try simp only [tN, tR, tE, rN, rR, rE, xN, xR, xE, reduceIte])
          refine ⟨l.length - (i + 1), by omega, i + 1, by omega, ?_⟩
          simp [setF_if, *]
          exact more (by simp only [decide_true, decide_false, Bool.not_true, Bool.not_false, Bool.and_true, Bool.true_and, Bool.and_false, Bool.false_and, Bool.and_self, *])
      · refine AG ?_
        refine IFF ?_
        refine .skip ?_
        (try simp only [tN, tR, tE, rN, rR, rE, xN, xR, xE, reduceIte])
        refine .region ?_
        refine AG ?_
        (try simp only [tN, tR, tE, rN, rR, rE, xN, xR, xE, reduceIte])
        refine ⟨l.length - (i + 1), by omega, i + 1, by omega, ?_⟩
        simp [setF_if, *]
        exact more (by simp only [decide_true, decide_false, Bool.not_true, Bool.not_false, Bool.and_true, Bool.true_and, Bool.and_false, Bool.false_and, Bool.and_self, *])
    · refine AG ?_
      refine IFT ?_
      refine AG ?_
      refine .ret ?_
      (try simp only [tN, tR, tE, rN, rR, rE, xN, xR, xE, reduceIte])
      refine DN ?_
      have := hno (by simp only [decide_true, decide_false, Bool.not_true, Bool.not_false, Bool.and_true, Bool.true_and, Bool.and_false, Bool.false_and, Bool.and_self, *])
      simp [retA, backA, this]
  · refine IFF ?_
    refine .exit ?_
    (try simp only [tN, tR, tE, rN, rR, rE, xN, xR, xE, reduceIte])
    refine AG ?_
    refine .ret ?_
    refine DN ?_
    have : inc l (IntKind.i64.wrap (n - 1)) = true := all_yes (fun j hj => hall j (by omega))
    simp [retA, backA, this]
end Go.Proofs
end
section
open Go Go.Big
namespace Go.Proofs
set_option maxHeartbeats 2000000
theorem isNaN_fn (G : Gv) (x : Int) : Gives Tryz.prog G 271 [.i .i64 x] (.b false) := by
  refine .of (.body Tryz.func271 rfl (by simp [Tryz.ntmps271]) ?_)
  rw [Tryz.ntmps271, Tryz.results271]
  refine AG ?_
  refine .ret ?_
  refine .ret rfl ?_
  simp [retA, backA, setF_if]
def cmpI (a b : Int) : Int := if a < b then -1 else if a > b then 1 else 0
theorem compare_fn (G : Gv) (a b : Int) : Gives Tryz.prog G 209 [.i .i64 a, .i .i64 b] (.i .i64 (cmpI a b)) := by
  refine .of (.body Tryz.func209 rfl (by simp [Tryz.ntmps209]) ?_)
  rw [Tryz.ntmps209, Tryz.results209]
  refine AG ?_
  refine CV (isNaN_fn G _) ?_
  refine AG ?_
  refine CV (isNaN_fn G _) ?_
  refine AG ?_
  refine IFF ?_
  refine .skip ?_
  refine AG ?_
  refine IFF ?_
  refine .skip ?_
  refine AG ?_
  by_cases c : a < b
  · refine IFT ?_
    refine AG ?_
    refine .ret ?_
    (try simp only [tN, tR, tE, rN, rR, rE, xN, xR, xE, reduceIte])
    refine .ret rfl ?_
    simp [retA, backA, setF_if, cmpI, *]
  · refine IFF ?_
    refine .skip ?_
    refine AG ?_
    by_cases c2 : a > b
    · refine IFT ?_
      refine AG ?_
      refine .ret ?_
      (try simp only [tN, tR, tE, rN, rR, rE, xN, xR, xE, reduceIte])
      refine .ret rfl ?_
      simp [retA, backA, setF_if, cmpI, *]
    · refine IFF ?_
      refine .skip ?_
      refine AG ?_
      refine .ret ?_
      refine .ret rfl ?_
      simp [retA, backA, setF_if, cmpI, *]
def cmpC (a b c d : Int) : Int := if cmpI b d ≠ 0 then cmpI b d else cmpI a c
theorem compareCells_fn (G : Gv) (a b c d : Int) : Gives Tryz.prog G 207 [cellA a b, cellA c d] (.i .i64 (cmpC a b c d)) := by
  refine .of (.body Tryz.func207 rfl (by simp [Tryz.ntmps207]) ?_)
  rw [Tryz.ntmps207, Tryz.results207]
  refine AG ?_
  refine CV (compare_fn G _ _) ?_
  refine AG ?_
  by_cases c1 : (cmpI b d != 0) = true
  · refine IFT ?_
    refine AG ?_
    refine .ret ?_
    (try simp only [tN, tR, tE, rN, rR, rE, xN, xR, xE, reduceIte])
    refine .ret rfl ?_
    simp at c1
    simp [retA, backA, setF_if, cmpC, c1]
  · refine IFF ?_
    refine .skip ?_
    refine AG ?_
    refine CV (compare_fn G _ _) ?_
    refine AG ?_
    refine .ret ?_
    refine .ret rfl ?_
    simp at c1
    simp [retA, backA, setF_if, cmpC, c1]
theorem eqCell_fn (G : Gv) (a b c d : Int) : Gives Tryz.prog G 123 [cellA a b, cellA c d] (.b (a == c && b == d)) := by
  refine .of (.body Tryz.func123 rfl (by simp [Tryz.ntmps123]) ?_)
  rw [Tryz.ntmps123, Tryz.results123]
  refine AG ?_
  by_cases c1 : (a != c) = true
  · refine IFT ?_
    refine AG ?_
    refine .ret ?_
    (try simp only [tN, tR, tE, rN, rR, rE, xN, xR, xE, reduceIte])
    refine .ret rfl ?_
    simp at c1
    simp [retA, backA, setF_if, c1]
  · refine IFF ?_
    refine .skip ?_
    refine AG ?_
    by_cases c2 : (b != d) = true
    · refine IFT ?_
      refine AG ?_
      refine .ret ?_
      (try simp only [tN, tR, tE, rN, rR, rE, xN, xR, xE, reduceIte])
      refine .ret rfl ?_
      simp at c1 c2
      simp [retA, backA, setF_if, c1, c2]
    · refine IFF ?_
      refine .skip ?_
      refine AG ?_
      refine .ret ?_
      refine .ret rfl ?_
      simp at c1 c2
      simp [retA, backA, setF_if, c1, c2]
theorem toCell_fn (G : Gv) (x y : Int) : Gives Tryz.prog G 117 [cellA x y] (cellA x y) := by
  refine .of (.body Tryz.func117 rfl (by simp [Tryz.ntmps117]) ?_)
  rw [Tryz.ntmps117, Tryz.results117]
  refine AG ?_
  refine .ret ?_
  refine DN ?_
  simp [retA, backA, backsA]
theorem around_fn (G : Gv) (x y : Int) : Gives Tryz.prog G 166 [cellA x y] (.sl 1 [[.i .i64 x, .i .i64 (IntKind.i64.wrap (y - 1))], [.i .i64 (IntKind.i64.wrap (x - 1)), .i .i64 y], [.i .i64 (IntKind.i64.wrap (x + 1)), .i .i64 y], [.i .i64 x, .i .i64 (IntKind.i64.wrap (y + 1))]]) := by
  refine .of (.body Tryz.func166 rfl (by simp [Tryz.ntmps166]) ?_)
  rw [Tryz.ntmps166, Tryz.results166]
  refine AG ?_
  refine .ret ?_
  refine DN ?_
  simp [retA, backA, newSl, newB, upd_if]
theorem l02Around_fn (G : Gv) (x y : Int) : Gives Tryz.prog G 272 [cellA x y] (.sl 1 [[.i .i64 x, .i .i64 (IntKind.i64.wrap (y - 1))], [.i .i64 (IntKind.i64.wrap (x - 1)), .i .i64 y], [.i .i64 (IntKind.i64.wrap (x + 1)), .i .i64 y], [.i .i64 x, .i .i64 (IntKind.i64.wrap (y + 1))]]) := by
  refine .of (.body Tryz.func272 rfl (by simp [Tryz.ntmps272]) ?_)
  rw [Tryz.ntmps272, Tryz.results272]
  refine AG ?_
  refine .ret ?_
  refine DN ?_
  simp [retA, backA, newSl, newB, upd_if]
end Go.Proofs
end
section
open Go Go.Big
namespace Go.Proofs
set_option maxHeartbeats 2000000
theorem take_anyG {α : Type} {p : α → Bool} {l : List α} {i : Nat} {x : α} (h : l[i]? = some x) : (l.take (i + 1)).any p = ((l.take i).any p || p x) := by
  obtain ⟨hi, rfl⟩ := List.getElem?_eq_some_iff.mp h
  rw [List.take_succ_eq_append_getElem hi, List.any_append]; simp
theorem any_atG {α : Type} {p : α → Bool} {l : List α} {i : Nat} {x : α} (h : l[i]? = some x) (hp : p x = true) : l.any p = true :=
  List.any_eq_true.mpr ⟨x, List.mem_of_getElem? h, hp⟩
theorem ints_row {l : List Int} {i : Nat} {x : Int} (h : l[i]? = some x) : (ints l)[i]? = some [.i .i64 x] := by simp [ints, h]
def hasM (l : List Int) (x : Int) : Bool := l.any (· == x)
def overM (a b : List Int) : Bool := a.any fun x => hasM b x
theorem l01Has_fn (G : Gv) (l : List Int) (x : Int) (hl : l.length < 1000000000) : Gives Tryz.prog G 105 [.sl 0 (ints l), .i .i64 x] (.b (hasM l x)) := by
  refine .of (.body Tryz.func105 rfl (by simp [Tryz.ntmps105]) ?_)
  rw [Tryz.ntmps105, Tryz.results105]
  have hlen := ints_len l
  refine AL ?_
  refine .loop (.inv (fun d E H n' => ∃ i : Nat, i + d = l.length ∧ E 0 = .sl 0 (ints l) ∧ E 1 = .i .i64 x ∧ E 5 = .i .i64 i ∧ (l.take i).any (· == x) = false) l.length ?_ ?_)
  · exact ⟨0, by omega, by simp [setF_if, argE], by simp [setF_if, argE], by simp [setF_if, argE], by simp⟩
  rintro d E H n' ⟨i, hi, h0, h1, h5, hany⟩
  replace hany := Hid.mk hany
  by_cases c : (i : Int) < l.length
  · have hw_i : IntKind.i64.wrap ((i : Int) + 1) = (i : Int) + 1 := wr64 (by omega) (by omega)
    obtain ⟨y, hy⟩ : ∃ y, l[i]? = some y := ⟨_, List.getElem?_eq_getElem (by omega)⟩
    have hr := ints_row hy
    have hta := take_anyG (p := (· == x)) hy
    have hat := any_atG (p := (· == x)) hy
    replace hta := Hid.mk hta
    replace hat := Hid.mk hat
    replace hy := Hid.mk hy
    by_cases ce : (y == x) = true
    · refine AL ?_
      simp [retA, backA, hasM, hat.out ce]
    · refine AL ?_
      exact ⟨l.length - (i + 1), by omega, i + 1, by omega, by simp [setF_if, *], by simp [setF_if, *], by simp [setF_if, *], by rw [hta.out, hany.out]; simpa using ce⟩
  · have e : i = l.length := by omega
    rw [e, List.take_length] at hany
    refine AL ?_
    simp [retA, backA, hasM, hany.out]
theorem l12Overlap_fn (G : Gv) (a b : List Int) (ha : a.length < 1000000000) (hb : b.length < 1000000000) : Gives Tryz.prog G 170 [.sl 0 (ints a), .sl 0 (ints b)] (.b (overM a b)) := by
  refine .of (.body Tryz.func170 rfl (by simp [Tryz.ntmps170]) ?_)
  rw [Tryz.ntmps170, Tryz.results170]
  have hlen := ints_len a
  refine AL ?_
  refine .loop (.inv (fun d E H n' => ∃ i : Nat, i + d = a.length ∧ E 0 = .sl 0 (ints a) ∧ E 1 = .sl 0 (ints b) ∧ E 5 = .i .i64 i ∧ (a.take i).any (fun x => hasM b x) = false) a.length ?_ ?_)
  · exact ⟨0, by omega, by simp [setF_if, argE], by simp [setF_if, argE], by simp [setF_if, argE], by simp⟩
  rintro d E H n' ⟨i, hi, h0, h1, h5, hany⟩
  replace hany := Hid.mk hany
  by_cases c : (i : Int) < a.length
  · have hw_i : IntKind.i64.wrap ((i : Int) + 1) = (i : Int) + 1 := wr64 (by omega) (by omega)
    obtain ⟨y, hy⟩ : ∃ y, a[i]? = some y := ⟨_, List.getElem?_eq_getElem (by omega)⟩
    have hr := ints_row hy
    have hta := take_anyG (p := fun x => hasM b x) hy
    have hat := any_atG (p := fun x => hasM b x) hy
    replace hta := Hid.mk hta
    replace hat := Hid.mk hat
    replace hy := Hid.mk hy
    refine AL ?_
    refine CV (l01Has_fn G b y hb) ?_
    by_cases ce : hasM b y = true
    · refine AL ?_
      simp [retA, backA, overM, hat.out ce]
    · refine AL ?_
      exact ⟨a.length - (i + 1), by omega, i + 1, by omega, by simp [setF_if, *], by simp [setF_if, *], by simp [setF_if, *], by rw [hta.out, hany.out]; simpa using ce⟩
  · have e : i = a.length := by omega
    rw [e, List.take_length] at hany
    refine AL ?_
    simp [retA, backA, overM, hany.out]
/-- Lists in their order. -/
def cmpN : List Int → List Int → Int
  | [], [] => 0
  | [], _ :: _ => -1
  | _ :: _, [] => 1
  | x :: l, y :: k => if x < y then -1 else if x > y then 1 else cmpN l k
theorem drop_cons {α : Type} {l : List α} {i : Nat} {x : α} (h : l[i]? = some x) : l.drop i = x :: l.drop (i + 1) := by
  obtain ⟨hi, rfl⟩ := List.getElem?_eq_some_iff.mp h
  exact List.drop_eq_getElem_cons hi
theorem l12Lists_fn (G : Gv) (a b : List Int) (ha : a.length < 1000000000) (hb : b.length < 1000000000) : Gives Tryz.prog G 195 [.sl 0 (ints a), .sl 0 (ints b)] (.i .i64 (cmpN a b)) := by
  refine .of (.body Tryz.func195 rfl (by simp [Tryz.ntmps195]) ?_)
  rw [Tryz.ntmps195, Tryz.results195]
  have hlen := ints_len a
  have hlenb := ints_len b
  refine AL ?_
  refine .loop (.inv (fun d E H n' => ∃ i : Nat, i + d = a.length ∧ i ≤ b.length ∧ E 0 = .sl 0 (ints a) ∧ E 1 = .sl 0 (ints b) ∧ E 5 = .i .i64 i ∧ cmpN (a.drop i) (b.drop i) = cmpN a b) a.length ?_ ?_)
  · exact ⟨0, by omega, by omega, by simp [setF_if, argE], by simp [setF_if, argE], by simp [setF_if, argE], by simp⟩
  rintro d E H n' ⟨i, hi, hib, h0, h1, h5, hcm⟩
  by_cases c : (i : Int) < a.length
  · by_cases cb : (i : Int) < b.length
    · have hw_i : IntKind.i64.wrap ((i : Int) + 1) = (i : Int) + 1 := wr64 (by omega) (by omega)
      obtain ⟨x, hx⟩ : ∃ x, a[i]? = some x := ⟨_, List.getElem?_eq_getElem (by omega)⟩
      obtain ⟨y, hy⟩ : ∃ y, b[i]? = some y := ⟨_, List.getElem?_eq_getElem (by omega)⟩
      have hr := ints_row hx
      have hr2 := ints_row hy
      rw [drop_cons hx, drop_cons hy, cmpN] at hcm
      replace hcm := Hid.mk hcm
      replace hx := Hid.mk hx
      replace hy := Hid.mk hy
      by_cases c1 : x < y
      · have hm := hcm.out
        rw [if_pos c1] at hm
        refine AL ?_
        simp [retA, backA, ← hm]
      · by_cases c2 : x > y
        · have hm := hcm.out
          rw [if_neg c1, if_pos c2] at hm
          refine AL ?_
          simp [retA, backA, ← hm]
        · have hm := hcm.out
          rw [if_neg c1, if_neg c2] at hm
          replace hm := Hid.mk hm
          refine AL ?_
          exact ⟨a.length - (i + 1), by omega, i + 1, by omega, by omega, by simp [setF_if, *], by simp [setF_if, *], by simp [setF_if, *], hm.out⟩
    · have e : i = b.length := by omega
      obtain ⟨x, hx⟩ : ∃ x, a[i]? = some x := ⟨_, List.getElem?_eq_getElem (by omega)⟩
      have hm : cmpN a b = 1 := by rw [← hcm, drop_cons hx, e, List.drop_length]; rfl
      have g1 : ¬ (a.length : Int) < b.length := by omega
      have g2 : (b.length : Int) < a.length := by omega
      clear hx
      refine AL ?_
      simp [retA, backA, hm]
  · have e : i = a.length := by omega
    rw [e, List.drop_length] at hcm
    by_cases g1 : (a.length : Int) < b.length
    · have hm : cmpN a b = -1 := by
        rw [← hcm]
        obtain ⟨y, hy⟩ : ∃ y, b[a.length]? = some y := ⟨_, List.getElem?_eq_getElem (by omega)⟩
        rw [drop_cons hy]; rfl
      refine AL ?_
      simp [retA, backA, hm]
    · have g2 : ¬ (b.length : Int) < a.length := by omega
      have hm : cmpN a b = 0 := by
        rw [← hcm, List.drop_of_length_le (by omega)]; rfl
      refine AL ?_
      simp [retA, backA, hm]
end Go.Proofs
end
section
open Go Go.Big
namespace Go.Proofs
set_option maxHeartbeats 2000000
theorem slicesCompare_fn (G : Gv) (a b : List Int) (ha : a.length < 1000000000) (hb : b.length < 1000000000) : Gives Tryz.prog G 194 [.sl 0 (ints a), .sl 0 (ints b)] (.i .i64 (cmpN a b)) := by
  refine .of (.body Tryz.func194 rfl (by simp [Tryz.ntmps194]) ?_)
  rw [Tryz.ntmps194, Tryz.results194]
  have hlen := ints_len a
  have hlenb := ints_len b
  refine AL ?_
  refine .loop (.inv (fun d E H n' => ∃ i : Nat, i + d = a.length ∧ i ≤ b.length ∧ E 0 = .sl 0 (ints a) ∧ E 1 = .sl 0 (ints b) ∧ E 9 = .sl 0 (ints a) ∧ E 10 = .i .i64 a.length ∧ E 11 = .i .i64 i ∧ cmpN (a.drop i) (b.drop i) = cmpN a b) a.length ?_ ?_)
  · exact ⟨0, by omega, by omega, by simp [setF_if, argE], by simp [setF_if, argE], by simp [setF_if, argE], by simp [setF_if, argE, hlen], by simp [setF_if, argE], by simp⟩
  rintro d E H n' ⟨i, hi, hib, h0, h1, h9, h10, h11, hcm⟩
  by_cases c : (i : Int) < a.length
  · by_cases cb : (i : Int) ≥ b.length
    · have e : i = b.length := by omega
      obtain ⟨x, hx⟩ : ∃ x, a[i]? = some x := ⟨_, List.getElem?_eq_getElem (by omega)⟩
      have hr := ints_row hx
      have hm : cmpN a b = 1 := by rw [← hcm, drop_cons hx, e, List.drop_length]; rfl
      clear hx e
      replace hm := Hid.mk hm
      refine AL ?_
      simp [retA, backA, hm.out]
    · have hw_i : IntKind.i64.wrap ((i : Int) + 1) = (i : Int) + 1 := wr64 (by omega) (by omega)
      obtain ⟨x, hx⟩ : ∃ x, a[i]? = some x := ⟨_, List.getElem?_eq_getElem (by omega)⟩
      obtain ⟨y, hy⟩ : ∃ y, b[i]? = some y := ⟨_, List.getElem?_eq_getElem (by omega)⟩
      have hr := ints_row hx
      have hr2 := ints_row hy
      rw [drop_cons hx, drop_cons hy, cmpN] at hcm
      replace hcm := Hid.mk hcm
      replace hx := Hid.mk hx
      replace hy := Hid.mk hy
      refine AL ?_
      refine CV (compare_fn G x y) ?_
      by_cases c1 : x < y
      · have hm := hcm.out
        rw [if_pos c1] at hm
        replace hm := Hid.mk hm
        have hcx : cmpI x y = -1 := by unfold cmpI; rw [if_pos c1]
        refine AL ?_
        simp [retA, backA, ← hm.out]
      · by_cases c2 : x > y
        · have hm := hcm.out
          rw [if_neg c1, if_pos c2] at hm
          replace hm := Hid.mk hm
          have hcx : cmpI x y = 1 := by unfold cmpI; rw [if_neg c1, if_pos c2]
          refine AL ?_
          simp [retA, backA, ← hm.out]
        · have hm := hcm.out
          rw [if_neg c1, if_neg c2] at hm
          have hcx : cmpI x y = 0 := by unfold cmpI; rw [if_neg c1, if_neg c2]
          replace hm := Hid.mk hm
          refine AL ?_
          exact ⟨a.length - (i + 1), by omega, i + 1, by omega, by omega, by simp [setF_if, *], by simp [setF_if, *], by simp [setF_if, *], by simp [setF_if, *], by simp [setF_if, *], hm.out⟩
  · have e : i = a.length := by omega
    rw [e, List.drop_length] at hcm
    by_cases g1 : (a.length : Int) < b.length
    · have hm : cmpN a b = -1 := by
        rw [← hcm]
        obtain ⟨y, hy⟩ : ∃ y, b[a.length]? = some y := ⟨_, List.getElem?_eq_getElem (by omega)⟩
        rw [drop_cons hy]; rfl
      refine AL ?_
      simp [retA, backA, hm]
    · have hm : cmpN a b = 0 := by
        rw [← hcm, List.drop_of_length_le (by omega)]; rfl
      refine AL ?_
      simp [retA, backA, hm]
/-- Placements: the piece and its cells. -/
abbrev placA (t : Nat) (x : Int × List Int) : AV := .ag [.i .i64 x.1, .sl t (ints x.2)]
def cmpP (x y : Int × List Int) : Int := if x.1 < y.1 then -1 else if x.1 > y.1 then 1 else cmpN x.2 y.2
theorem specComparePl_fn (G : Gv) (x y : Int × List Int) (hx : x.2.length < 1000000000) (hy : y.2.length < 1000000000) : Gives Tryz.prog G 217 [placA 0 x, placA 0 y] (.i .i64 (cmpP x y)) := by
  refine .of (.body Tryz.func217 rfl (by simp [Tryz.ntmps217]) ?_)
  rw [Tryz.ntmps217, Tryz.results217]
  obtain ⟨a, l⟩ := x
  obtain ⟨b, k⟩ := y
  by_cases c1 : a < b
  · have c0 : (a != b) = true := by simp; omega
    have hm : cmpP (a, l) (b, k) = -1 := by simp [cmpP, c1]
    refine AL ?_
    simp [retA, backA, hm]
  · by_cases c2 : a > b
    · have c0 : (a != b) = true := by simp; omega
      have hm : cmpP (a, l) (b, k) = 1 := by simp [cmpP, c1, c2]
      refine AL ?_
      simp [retA, backA, hm]
    · have c0 : (a != b) = false := by simp; omega
      have hm : cmpP (a, l) (b, k) = cmpN l k := by simp [cmpP, c1, c2]
      refine AL ?_
      refine CV (l12Lists_fn G l k hx hy) ?_
      refine AL ?_
      simp [retA, backA, hm]
theorem implComparePl_fn (G : Gv) (x y : Int × List Int) (hx : x.2.length < 1000000000) (hy : y.2.length < 1000000000) : Gives Tryz.prog G 157 [placA 0 x, placA 0 y] (.i .i64 (cmpP x y)) := by
  refine .of (.body Tryz.func157 rfl (by simp [Tryz.ntmps157]) ?_)
  rw [Tryz.ntmps157, Tryz.results157]
  obtain ⟨a, l⟩ := x
  obtain ⟨b, k⟩ := y
  refine AL ?_
  refine CV (compare_fn G a b) ?_
  by_cases c1 : a < b
  · have hc : cmpI a b = -1 := by unfold cmpI; rw [if_pos c1]
    have hm : cmpP (a, l) (b, k) = -1 := by simp [cmpP, c1]
    refine AL ?_
    simp [retA, backA, hm]
  · by_cases c2 : a > b
    · have hc : cmpI a b = 1 := by unfold cmpI; rw [if_neg c1, if_pos c2]
      have hm : cmpP (a, l) (b, k) = 1 := by simp [cmpP, c1, c2]
      refine AL ?_
      simp [retA, backA, hm]
    · have hc : cmpI a b = 0 := by unfold cmpI; rw [if_neg c1, if_neg c2]
      have hm : cmpP (a, l) (b, k) = cmpN l k := by simp [cmpP, c1, c2]
      refine AL ?_
      refine CV (slicesCompare_fn G l k hx hy) ?_
      refine AL ?_
      simp [retA, backA, hm]
end Go.Proofs
end
section
open Go Go.Big
namespace Go.Proofs
set_option maxHeartbeats 2000000
def cells (l : List (Int × Int)) : List (List PV) := l.map fun p => [.i .i64 p.1, .i .i64 p.2]
theorem cells_len (l : List (Int × Int)) : (cells l).length = l.length := by simp [cells]
theorem cells_at {l : List (Int × Int)} {i : Nat} (h : i < l.length) : (cells l)[i]? = some [.i .i64 (l.getD i (0, 0)).1, .i .i64 (l.getD i (0, 0)).2] := by
  simp [cells, h, List.getD_eq_getElem?_getD]
def part {α : Type} (l : List α) (z : α) (i : Nat) : List α := l.take i ++ List.replicate (l.length - i) z
theorem part_at {α : Type} {l : List α} {z : α} {i : Nat} (h : i < l.length) : (part l z i)[i]? = some z := by
  unfold part
  rw [List.getElem?_append_right (by simp; omega)]
  simp [List.getElem?_replicate]; omega
theorem part_set {α : Type} {l : List α} {z x : α} {i : Nat} (h : l[i]? = some x) : (part l z i).set i x = part l z (i + 1) := by
  have hi := (List.getElem?_eq_some_iff.mp h).1
  have hx := (List.getElem?_eq_some_iff.mp h).2
  unfold part
  rw [List.set_append_right _ _ (by simp; omega), show l.length - i = (l.length - (i + 1)) + 1 by omega, List.replicate_succ, List.length_take, Nat.min_eq_left (by omega), Nat.sub_self, List.set_cons_zero, List.take_succ_eq_append_getElem hi, hx]
  simp
theorem part_zero {α : Type} (l : List α) (z : α) : part l z 0 = List.replicate l.length z := by simp [part]
theorem part_all {α : Type} (l : List α) (z : α) : part l z l.length = l := by simp [part]
theorem toCellS_fn (G : Gv) (l : List (Int × Int)) (hl : l.length < 1000000000) : Gives Tryz.prog G 54 [.sl 0 (cells l)] (.sl 1 (cells l)) := by
  refine .of (.body Tryz.func54 rfl (by simp [Tryz.ntmps54]) ?_)
  rw [Tryz.ntmps54, Tryz.results54]
  have hlen := cells_len l
  have b1 : ((16 : Nat) : Int) * l.length ≤ 281474976710656 := by simp; omega
  have b2 : (l.length : Int) ≤ 9223372036854775807 := by omega
  have b3 : (0 : Int) ≤ l.length := by omega
  refine AG ?_
  refine .block (.loop (.inv (fun d E H n' => ∃ i : Nat, i + d = l.length ∧ E 0 = .sl 0 (cells l) ∧ E 3 = .own 3 0 ∧ E 4 = .i .i64 i ∧ H 3 = some (.arr 0 142 2 (part (cells l) [.i .i64 0, .i .i64 0] i) 1)) l.length ?_ ?_))
  · simp [setF_if, argE, upd_if, part_zero, hlen]
  rintro d E H n' ⟨i, hi, h0, h3, h4, hH⟩
  refine AG ?_
  by_cases c : (i : Int) < l.length
  · refine IFT ?_
    have hr := cells_at (l := l) (i := i) (by omega)
    have hp := part_at (l := cells l) (z := [PV.i .i64 0, PV.i .i64 0]) (i := i) (by omega)
    have hs := part_set (z := [PV.i .i64 0, PV.i .i64 0]) hr
    have hpl : i < (part (cells l) [PV.i .i64 0, PV.i .i64 0] i).length := (List.getElem?_eq_some_iff.mp hp).1
    have hw2 : IntKind.i64.wrap ((i : Int) + 1) = (i : Int) + 1 := wr64 (by omega) (by omega)
    refine .skip ?_
    refine AG ?_
    refine .block ?_
    refine AG ?_
    refine CV (toCell_fn G _ _) ?_
    refine AG ?_
    (try simp only [tN, tR, tE, rN, rR, rE, xN, xR, xE, reduceIte])
    refine AG ?_
    (try simp only [tN, tR, tE, rN, rR, rE, xN, xR, xE, reduceIte])
    refine ⟨l.length - (i + 1), by omega, i + 1, by omega, ?_⟩
    simp [setF_if, upd_if, *]
  · refine IFF ?_
    refine .exit ?_
    (try simp only [tN, tR, tE, rN, rR, rE, xN, xR, xE, reduceIte])
    refine AG ?_
    refine .ret ?_
    refine DN ?_
    have e : i = (cells l).length := by omega
    simp [retA, backA, newSl, newB, hH]
    rw [e, part_all]
end Go.Proofs
end
section
open Go Go.Big
namespace Go.Proofs
set_option maxHeartbeats 2000000
structure PieceM where
  cs : List (Int × Int)
  k : Int
  b : Bool
abbrev pieceA (t : Nat) (p : PieceM) : AV := .ag [.sl t (cells p.cs), .i .i64 p.k, .b p.b]
abbrev pieceR (p : PieceM) : List PV := [.sl (cells p.cs), .i .i64 p.k, .b p.b]
theorem toPiece_fn (G : Gv) (p : PieceM) (hl : p.cs.length < 1000000000) : Gives Tryz.prog G 39 [pieceA 0 p] (pieceA 1 p) := by
  refine .of (.body Tryz.func39 rfl (by simp [Tryz.ntmps39]) ?_)
  rw [Tryz.ntmps39, Tryz.results39]
  refine AG ?_
  refine CV (toCellS_fn G _ hl) ?_
  refine AG ?_
  refine .ret ?_
  refine DN ?_
  simp [retA, backA, backsA, newSl, newB]
def pieces (l : List PieceM) : List (List PV) := l.map pieceR
theorem pieces_len (l : List PieceM) : (pieces l).length = l.length := by simp [pieces]
theorem toPieceS_fn (G : Gv) (l : List PieceM) (hl : l.length < 1000000000) (hc : ∀ p ∈ l, p.cs.length < 1000000000) : Gives Tryz.prog G 73 [.sl 0 (pieces l)] (.sl 1 (pieces l)) := by
  refine .of (.body Tryz.func73 rfl (by simp [Tryz.ntmps73]) ?_)
  rw [Tryz.ntmps73, Tryz.results73]
  have hlen := pieces_len l
  have b1 : ((40 : Nat) : Int) * l.length ≤ 281474976710656 := by simp; omega
  have b2 : (l.length : Int) ≤ 9223372036854775807 := by omega
  have b3 : (0 : Int) ≤ l.length := by omega
  refine AG ?_
  refine .block (.loop (.inv (fun d E H n' => ∃ i : Nat, i + d = l.length ∧ E 0 = .sl 0 (pieces l) ∧ E 3 = .own 3 0 ∧ E 4 = .i .i64 i ∧ H 3 = some (.arr 0 68 3 (part (pieces l) [.sl [], .i .i64 0, .b false] i) 1)) l.length ?_ ?_))
  · simp [setF_if, argE, upd_if, part_zero, hlen]
  rintro d E H n' ⟨i, hi, h0, h3, h4, hH⟩
  refine AG ?_
  by_cases c : (i : Int) < l.length
  · refine IFT ?_
    obtain ⟨p, hpi⟩ : ∃ p, l[i]? = some p := ⟨_, List.getElem?_eq_getElem (by omega)⟩
    have hr : (pieces l)[i]? = some (pieceR p) := by simp [pieces, hpi]
    have hp := part_at (l := pieces l) (z := [PV.sl [], PV.i .i64 0, PV.b false]) (i := i) (by omega)
    have hs := part_set (z := [PV.sl [], PV.i .i64 0, PV.b false]) hr
    have hpl : i < (part (pieces l) [PV.sl [], PV.i .i64 0, PV.b false] i).length := (List.getElem?_eq_some_iff.mp hp).1
    have hw2 : IntKind.i64.wrap ((i : Int) + 1) = (i : Int) + 1 := wr64 (by omega) (by omega)
    refine .skip ?_
    refine AG ?_
    refine .block ?_
    refine AG ?_
    refine CV (toPiece_fn G p (hc p (List.mem_of_getElem? hpi))) ?_
    refine AG ?_
    (try simp only [tN, tR, tE, rN, rR, rE, xN, xR, xE, reduceIte])
    refine AG ?_
    (try simp only [tN, tR, tE, rN, rR, rE, xN, xR, xE, reduceIte])
    refine ⟨l.length - (i + 1), by omega, i + 1, by omega, ?_⟩
    simp [setF_if, upd_if, *]
  · refine IFF ?_
    refine .exit ?_
    (try simp only [tN, tR, tE, rN, rR, rE, xN, xR, xE, reduceIte])
    refine AG ?_
    refine .ret ?_
    refine DN ?_
    have e : i = (pieces l).length := by omega
    simp [retA, backA, newSl, newB, hH]
    rw [e, part_all]
end Go.Proofs
end
section
open Go Go.Big
namespace Go.Proofs
set_option maxHeartbeats 2000000
theorem toPuzzle_fn (G : Gv) (l : List (Int × Int)) (ps : List PieceM) (hl : l.length < 1000000000) (hp : ps.length < 1000000000) (hc : ∀ p ∈ ps, p.cs.length < 1000000000) :
    Gives Tryz.prog G 16 [.ag [.sl 0 (cells l), .sl 0 (pieces ps)]] (.ag [.sl 1 (cells l), .sl 1 (pieces ps)]) := by
  refine .of (.body Tryz.func16 rfl (by simp [Tryz.ntmps16]) ?_)
  rw [Tryz.ntmps16, Tryz.results16]
  refine AG ?_
  refine CV (toCellS_fn G _ hl) ?_
  refine AG ?_
  refine CV (toPieceS_fn G _ hp hc) ?_
  refine AG ?_
  refine .ret ?_
  refine DN ?_
  simp [retA, backA, backsA, newSl, newB]
theorem toInt64S_fn (G : Gv) (l : List Int) (hl : l.length < 1000000000) : Gives Tryz.prog G 55 [.sl 0 (ints l)] (.sl 1 (ints l)) := by
  refine .of (.body Tryz.func55 rfl (by simp [Tryz.ntmps55]) ?_)
  rw [Tryz.ntmps55, Tryz.results55]
  have hlen := ints_len l
  have b1 : ((8 : Nat) : Int) * l.length ≤ 281474976710656 := by simp; omega
  have b2 : (l.length : Int) ≤ 9223372036854775807 := by omega
  have b3 : (0 : Int) ≤ l.length := by omega
  refine AG ?_
  refine .block (.loop (.inv (fun d E H n' => ∃ i : Nat, i + d = l.length ∧ E 0 = .sl 0 (ints l) ∧ E 3 = .own 3 0 ∧ E 4 = .i .i64 i ∧ H 3 = some (.arr 0 2 1 (part (ints l) [.i .i64 0] i) 1)) l.length ?_ ?_))
  · simp [setF_if, argE, upd_if, part_zero, hlen]
  rintro d E H n' ⟨i, hi, h0, h3, h4, hH⟩
  refine AG ?_
  by_cases c : (i : Int) < l.length
  · refine IFT ?_
    have hr := ints_at (l := l) (i := i) (by omega)
    have hp := part_at (l := ints l) (z := [PV.i .i64 0]) (i := i) (by omega)
    have hs := part_set (z := [PV.i .i64 0]) hr
    have hpl : i < (part (ints l) [PV.i .i64 0] i).length := (List.getElem?_eq_some_iff.mp hp).1
    have hw2 : IntKind.i64.wrap ((i : Int) + 1) = (i : Int) + 1 := wr64 (by omega) (by omega)
    refine .skip ?_
    refine AG ?_
    refine .block ?_
    refine AG ?_
    (try simp only [tN, tR, tE, rN, rR, rE, xN, xR, xE, reduceIte])
    refine AG ?_
    (try simp only [tN, tR, tE, rN, rR, rE, xN, xR, xE, reduceIte])
    refine ⟨l.length - (i + 1), by omega, i + 1, by omega, ?_⟩
    simp [setF_if, upd_if, *]
  · refine IFF ?_
    refine .exit ?_
    (try simp only [tN, tR, tE, rN, rR, rE, xN, xR, xE, reduceIte])
    refine AG ?_
    refine .ret ?_
    refine DN ?_
    have e : i = (ints l).length := by omega
    simp [retA, backA, newSl, newB, hH]
    rw [e, part_all]
theorem toPlacement_fn (G : Gv) (k : Int) (l : List Int) (hl : l.length < 1000000000) : Gives Tryz.prog G 106 [.ag [.i .i64 k, .sl 0 (ints l)]] (.ag [.i .i64 k, .sl 1 (ints l)]) := by
  refine .of (.body Tryz.func106 rfl (by simp [Tryz.ntmps106]) ?_)
  rw [Tryz.ntmps106, Tryz.results106]
  refine AG ?_
  refine CV (toInt64S_fn G _ hl) ?_
  refine AG ?_
  refine .ret ?_
  refine DN ?_
  simp [retA, backA, backsA, newSl, newB]
end Go.Proofs
end
section
open Go Go.Big
namespace Go.Proofs
set_option maxHeartbeats 2000000
theorem eqCellS_fn (G : Gv) (l : List (Int × Int)) (hl : l.length < 1000000000) : Gives Tryz.prog G 57 [.sl 0 (cells l), .sl 0 (cells l)] (.b true) := by
  refine .of (.body Tryz.func57 rfl (by simp [Tryz.ntmps57]) ?_)
  rw [Tryz.ntmps57, Tryz.results57]
  have hlen := cells_len l
  refine AG ?_
  have hn : ((l.length : Int) != l.length) = false := by simp
  refine IFF ?_
  refine .skip ?_
  refine AG ?_
  refine .block (.loop (.inv (fun d E H n' => ∃ i : Nat, i + d = l.length ∧ E 0 = .sl 0 (cells l) ∧ E 1 = .sl 0 (cells l) ∧ E 5 = .i .i64 i) l.length ?_ ?_))
  · simp [setF_if, argE]
  rintro d E H n' ⟨i, hi, h0, h1, h5⟩
  refine AG ?_
  by_cases c : (i : Int) < l.length
  · refine IFT ?_
    have hr := cells_at (l := l) (i := i) (by omega)
    have hw2 : IntKind.i64.wrap ((i : Int) + 1) = (i : Int) + 1 := wr64 (by omega) (by omega)
    refine .skip ?_
    refine AG ?_
    refine .block ?_
    refine AQ ?_
    refine CQ (eqCell_fn G _ _ _ _) ?_
    refine AQ ?_
    refine IFF ?_
    refine .skip ?_
    (try simp only [tN, tR, tE, rN, rR, rE, xN, xR, xE, reduceIte])
    refine AG ?_
    (try simp only [tN, tR, tE, rN, rR, rE, xN, xR, xE, reduceIte])
    refine ⟨l.length - (i + 1), by omega, i + 1, by omega, ?_⟩
    simp [setF_if, *]
  · refine IFF ?_
    refine .exit ?_
    (try simp only [tN, tR, tE, rN, rR, rE, xN, xR, xE, reduceIte])
    refine AG ?_
    refine .ret ?_
    refine DN ?_
    simp [retA, backA]
theorem eqInt64S_fn (G : Gv) (l : List Int) (hl : l.length < 1000000000) : Gives Tryz.prog G 27 [.sl 0 (ints l), .sl 0 (ints l)] (.b true) := by
  refine .of (.body Tryz.func27 rfl (by simp [Tryz.ntmps27]) ?_)
  rw [Tryz.ntmps27, Tryz.results27]
  have hlen := ints_len l
  refine AG ?_
  have hn : ((l.length : Int) != l.length) = false := by simp
  refine IFF ?_
  refine .skip ?_
  refine AG ?_
  refine .block (.loop (.inv (fun d E H n' => ∃ i : Nat, i + d = l.length ∧ E 0 = .sl 0 (ints l) ∧ E 1 = .sl 0 (ints l) ∧ E 5 = .i .i64 i) l.length ?_ ?_))
  · simp [setF_if, argE]
  rintro d E H n' ⟨i, hi, h0, h1, h5⟩
  refine AG ?_
  by_cases c : (i : Int) < l.length
  · refine IFT ?_
    have hr := ints_at (l := l) (i := i) (by omega)
    have hw2 : IntKind.i64.wrap ((i : Int) + 1) = (i : Int) + 1 := wr64 (by omega) (by omega)
    refine .skip ?_
    refine AG ?_
    refine .block ?_
    refine AQ ?_
    refine IFF ?_
    refine .skip ?_
    (try simp only [tN, tR, tE, rN, rR, rE, xN, xR, xE, reduceIte])
    refine AG ?_
    (try simp only [tN, tR, tE, rN, rR, rE, xN, xR, xE, reduceIte])
    refine ⟨l.length - (i + 1), by omega, i + 1, by omega, ?_⟩
    simp [setF_if, *]
  · refine IFF ?_
    refine .exit ?_
    (try simp only [tN, tR, tE, rN, rR, rE, xN, xR, xE, reduceIte])
    refine AG ?_
    refine .ret ?_
    refine DN ?_
    simp [retA, backA]
end Go.Proofs
end
section
open Go Go.Big
namespace Go.Proofs
set_option maxHeartbeats 2000000
theorem eqPiece_fn (G : Gv) (p : PieceM) (hl : p.cs.length < 1000000000) : Gives Tryz.prog G 43 [pieceA 0 p, pieceA 0 p] (.b true) := by
  refine .of (.body Tryz.func43 rfl (by simp [Tryz.ntmps43]) ?_)
  rw [Tryz.ntmps43, Tryz.results43]
  refine AG ?_
  refine CV (eqCellS_fn G _ hl) ?_
  refine AG ?_
  refine IFF ?_
  refine .skip ?_
  refine AG ?_
  refine IFF ?_
  refine .skip ?_
  refine AG ?_
  refine IFF ?_
  refine .skip ?_
  refine AG ?_
  refine .ret ?_
  refine DN ?_
  simp [retA, backA]
theorem eqPieceS_fn (G : Gv) (l : List PieceM) (hl : l.length < 1000000000) (hc : ∀ p ∈ l, p.cs.length < 1000000000) : Gives Tryz.prog G 79 [.sl 0 (pieces l), .sl 0 (pieces l)] (.b true) := by
  refine .of (.body Tryz.func79 rfl (by simp [Tryz.ntmps79]) ?_)
  rw [Tryz.ntmps79, Tryz.results79]
  have hlen := pieces_len l
  refine AG ?_
  have hn : ((l.length : Int) != l.length) = false := by simp
  refine IFF ?_
  refine .skip ?_
  refine AG ?_
  refine .block (.loop (.inv (fun d E H n' => ∃ i : Nat, i + d = l.length ∧ E 0 = .sl 0 (pieces l) ∧ E 1 = .sl 0 (pieces l) ∧ E 5 = .i .i64 i) l.length ?_ ?_))
  · simp [setF_if, argE]
  rintro d E H n' ⟨i, hi, h0, h1, h5⟩
  refine AG ?_
  by_cases c : (i : Int) < l.length
  · refine IFT ?_
    obtain ⟨p, hpi⟩ : ∃ p, l[i]? = some p := ⟨_, List.getElem?_eq_getElem (by omega)⟩
    have hr : (pieces l)[i]? = some (pieceR p) := by simp [pieces, hpi]
    have hw2 : IntKind.i64.wrap ((i : Int) + 1) = (i : Int) + 1 := wr64 (by omega) (by omega)
    refine .skip ?_
    refine AG ?_
    refine .block ?_
    refine AQ ?_
    refine CQ (eqPiece_fn G p (hc p (List.mem_of_getElem? hpi))) ?_
    refine AQ ?_
    refine IFF ?_
    refine .skip ?_
    (try simp only [tN, tR, tE, rN, rR, rE, xN, xR, xE, reduceIte])
    refine AG ?_
    (try simp only [tN, tR, tE, rN, rR, rE, xN, xR, xE, reduceIte])
    refine ⟨l.length - (i + 1), by omega, i + 1, by omega, ?_⟩
    simp [setF_if, *]
  · refine IFF ?_
    refine .exit ?_
    (try simp only [tN, tR, tE, rN, rR, rE, xN, xR, xE, reduceIte])
    refine AG ?_
    refine .ret ?_
    refine DN ?_
    simp [retA, backA]
theorem eqPuzzle_fn (G : Gv) (l : List (Int × Int)) (ps : List PieceM) (hl : l.length < 1000000000) (hp : ps.length < 1000000000) (hc : ∀ p ∈ ps, p.cs.length < 1000000000) :
    Gives Tryz.prog G 19 [.ag [.sl 0 (cells l), .sl 0 (pieces ps)], .ag [.sl 0 (cells l), .sl 0 (pieces ps)]] (.b true) := by
  refine .of (.body Tryz.func19 rfl (by simp [Tryz.ntmps19]) ?_)
  rw [Tryz.ntmps19, Tryz.results19]
  refine AG ?_
  refine CV (eqCellS_fn G _ hl) ?_
  refine AG ?_
  refine IFF ?_
  refine .skip ?_
  refine AG ?_
  refine CV (eqPieceS_fn G _ hp hc) ?_
  refine AG ?_
  refine IFF ?_
  refine .skip ?_
  refine AG ?_
  refine .ret ?_
  refine DN ?_
  simp [retA, backA]
theorem eqPlacement_fn (G : Gv) (k : Int) (l : List Int) (hl : l.length < 1000000000) : Gives Tryz.prog G 110 [.ag [.i .i64 k, .sl 0 (ints l)], .ag [.i .i64 k, .sl 0 (ints l)]] (.b true) := by
  refine .of (.body Tryz.func110 rfl (by simp [Tryz.ntmps110]) ?_)
  rw [Tryz.ntmps110, Tryz.results110]
  refine AG ?_
  refine IFF ?_
  refine .skip ?_
  refine AG ?_
  refine CV (eqInt64S_fn G _ hl) ?_
  refine AG ?_
  refine IFF ?_
  refine .skip ?_
  refine AG ?_
  refine .ret ?_
  refine DN ?_
  simp [retA, backA]
end Go.Proofs
end
section
open Go Go.Big
namespace Go.Proofs
set_option maxHeartbeats 2000000
theorem wr64s {n : Int} (h1 : -9223372036854775808 ≤ n) (h2 : n ≤ 9223372036854775807) : IntKind.i64.wrap n = n := by
  simp only [IntKind.wrap, IntKind.bits, IntKind.signed]; simp; omega
def szN (n : Nat) (left : Int) : Int := if left - n < 0 then -1 else left - n
theorem szN_le {n : Nat} {left : Int} (h : ¬ szN n left < 0) : (n : Int) ≤ left ∧ szN n left ≤ left ∧ 0 ≤ szN n left := by
  unfold szN at *; split at h <;> simp_all <;> omega
theorem szCellS_fn (G : Gv) (l : List (Int × Int)) (left : Int) (hl : l.length ≤ 9223372036854775807) (h0 : 0 ≤ left) (h1 : left ≤ 1048576) : Gives Tryz.prog G 52 [.sl 0 (cells l), .i .i64 left] (.i .i64 (szN l.length left)) := by
  refine .of (.body Tryz.func52 rfl (by simp [Tryz.ntmps52]) ?_)
  rw [Tryz.ntmps52, Tryz.results52]
  have hlen := cells_len l
  have hw : IntKind.i64.wrap (left - l.length) = left - l.length := wr64s (by omega) (by omega)
  by_cases c : left - (l.length : Int) < 0
  · refine AL ?_
    simp [retA, backA, szN, c]
  · refine AL ?_
    simp [retA, backA, szN, c]
theorem szInt64S_fn (G : Gv) (l : List Int) (left : Int) (hl : l.length ≤ 9223372036854775807) (h0 : 0 ≤ left) (h1 : left ≤ 1048576) : Gives Tryz.prog G 81 [.sl 0 (ints l), .i .i64 left] (.i .i64 (szN l.length left)) := by
  refine .of (.body Tryz.func81 rfl (by simp [Tryz.ntmps81]) ?_)
  rw [Tryz.ntmps81, Tryz.results81]
  have hlen := ints_len l
  have hw : IntKind.i64.wrap (left - l.length) = left - l.length := wr64s (by omega) (by omega)
  by_cases c : left - (l.length : Int) < 0
  · refine AL ?_
    simp [retA, backA, szN, c]
  · refine AL ?_
    simp [retA, backA, szN, c]
theorem szPiece_fn (G : Gv) (p : PieceM) (left : Int) (hl : p.cs.length ≤ 9223372036854775807) (h0 : 0 ≤ left) (h1 : left ≤ 1048576) : Gives Tryz.prog G 37 [pieceA 0 p, .i .i64 left] (.i .i64 (szN p.cs.length left)) := by
  refine .of (.body Tryz.func37 rfl (by simp [Tryz.ntmps37]) ?_)
  rw [Tryz.ntmps37, Tryz.results37]
  refine AL ?_
  refine CV (szCellS_fn G _ _ hl h0 h1) ?_
  by_cases c : szN p.cs.length left < 0
  · refine AL ?_
    have : szN p.cs.length left = -1 := by unfold szN at *; split at c <;> simp_all
    simp [retA, backA, this]
  · refine AL ?_
    simp [retA, backA]
theorem szPlacement_fn (G : Gv) (k : Int) (l : List Int) (left : Int) (hl : l.length ≤ 9223372036854775807) (h0 : 0 ≤ left) (h1 : left ≤ 1048576) : Gives Tryz.prog G 101 [.ag [.i .i64 k, .sl 0 (ints l)], .i .i64 left] (.i .i64 (szN l.length left)) := by
  refine .of (.body Tryz.func101 rfl (by simp [Tryz.ntmps101]) ?_)
  rw [Tryz.ntmps101, Tryz.results101]
  refine AL ?_
  refine CV (szInt64S_fn G _ _ hl h0 h1) ?_
  by_cases c : szN l.length left < 0
  · refine AL ?_
    have : szN l.length left = -1 := by unfold szN at *; split at c <;> simp_all
    simp [retA, backA, this]
  · refine AL ?_
    simp [retA, backA]
def szP : List PieceM → Int → Int
  | [], left => left
  | p :: r, left => if szN p.cs.length left < 0 then -1 else szP r (szN p.cs.length left)
def szPS (l : List PieceM) (left : Int) : Int := if left - l.length < 0 then -1 else szP l (left - l.length)
theorem szPieceS_fn (G : Gv) (l : List PieceM) (left : Int) (hl : l.length ≤ 9223372036854775807) (hc : ∀ p ∈ l, p.cs.length ≤ 9223372036854775807) (h0 : 0 ≤ left) (h1 : left ≤ 1048576) : Gives Tryz.prog G 69 [.sl 0 (pieces l), .i .i64 left] (.i .i64 (szPS l left)) := by
  refine .of (.body Tryz.func69 rfl (by simp [Tryz.ntmps69]) ?_)
  rw [Tryz.ntmps69, Tryz.results69]
  have hlen := pieces_len l
  replace hc := Hid.mk hc
  have hw : IntKind.i64.wrap (left - l.length) = left - l.length := wr64s (by omega) (by omega)
  by_cases c : left - (l.length : Int) < 0
  · refine AL ?_
    simp [retA, backA, szPS, c]
  · refine AL ?_
    refine .loop (.inv (fun d E H n' => ∃ (i : Nat) (lf : Int), i + d = l.length ∧ 0 ≤ lf ∧ lf ≤ 1048576 ∧ szP (l.drop i) lf = szPS l left ∧ E 0 = .sl 0 (pieces l) ∧ E 1 = .i .i64 lf ∧ E 5 = .i .i64 i) l.length ?_ ?_)
    · exact ⟨0, left - l.length, by omega, by omega, by omega, by unfold szPS; rw [if_neg c]; rfl, by simp [setF_if, argE], by simp [setF_if, argE, hlen, hw], by simp [setF_if, argE]⟩
    have hbl : (l.length : Int) ≤ 1048576 := by omega
    clear hw c
    rintro d E H n' ⟨i, lf, hi, hl0, hl1, hsz, e0, e1, e3⟩
    by_cases c : (i : Int) < l.length
    · have cN : i < l.length := by omega
      obtain ⟨p, hpi⟩ : ∃ p, l[i]? = some p := ⟨_, List.getElem?_eq_getElem (by omega)⟩
      have hr : (pieces l)[i]? = some (pieceR p) := by simp [pieces, hpi]
      have hw_i : IntKind.i64.wrap ((i : Int) + 1) = (i : Int) + 1 := wr64 (by omega) (by omega)
      have hd : l.drop i = p :: l.drop (i + 1) := by
        rw [List.drop_eq_getElem_cons cN]; congr 1
        rw [List.getElem?_eq_getElem cN] at hpi; exact Option.some.inj hpi
      rw [hd] at hsz
      have hpc := hc.out p (List.mem_of_getElem? hpi)
      replace hsz := Hid.mk hsz
      clear hd
      refine AQ ?_
      refine AL ?_
      refine CV (szPiece_fn G _ _ hpc hl0 hl1) ?_
      by_cases c2 : szN p.cs.length lf < 0
      · refine AL ?_
        have : szPS l left = -1 := by rw [← hsz.out, szP, if_pos c2]
        simp [retA, backA, this]
      · refine AL ?_
        obtain ⟨_, g2, g3⟩ := szN_le c2
        refine ⟨l.length - (i + 1), by omega, i + 1, szN p.cs.length lf, by omega, g3, by omega, by rw [← hsz.out, szP, if_neg c2], by simp [setF_if, *], by simp [setF_if, *], by simp [setF_if, *]⟩
    · have e' : i = l.length := by omega
      subst e'
      rw [List.drop_length, szP] at hsz
      refine AL ?_
      simp [retA, backA, hsz]
def szPz (r : List (Int × Int)) (l : List PieceM) (left : Int) : Int := if szN r.length left < 0 then -1 else szPS l (szN r.length left)
theorem szPS_neg {l : List PieceM} {left : Int} (h : szPS l left < 0) : szPS l left = -1 := by
  unfold szPS at *
  split
  · rfl
  · rename_i c
    rw [if_neg c] at h
    generalize left - (l.length : Int) = x at h c
    induction l generalizing x with
    | nil => exact absurd h c
    | cons p r ih =>
      simp only [szP] at h ⊢
      split
      · rfl
      · rename_i c2
        rw [if_neg c2] at h
        exact ih _ h c2
theorem szPuzzle_fn (G : Gv) (r : List (Int × Int)) (l : List PieceM) (left : Int) (hr : r.length ≤ 9223372036854775807) (hl : l.length ≤ 9223372036854775807) (hc : ∀ p ∈ l, p.cs.length ≤ 9223372036854775807) (h0 : 0 ≤ left) (h1 : left ≤ 1048576) : Gives Tryz.prog G 14 [.ag [.sl 0 (cells r), .sl 0 (pieces l)], .i .i64 left] (.i .i64 (szPz r l left)) := by
  refine .of (.body Tryz.func14 rfl (by simp [Tryz.ntmps14]) ?_)
  rw [Tryz.ntmps14, Tryz.results14]
  refine AL ?_
  refine CV (szCellS_fn G _ _ hr h0 h1) ?_
  replace hc := Hid.mk hc
  by_cases c : szN r.length left < 0
  · refine AL ?_
    simp [retA, backA, szPz, c]
  · obtain ⟨_, g2, g3⟩ := szN_le c
    refine AL ?_
    refine CV (szPieceS_fn G _ _ hl hc.out g3 (by omega)) ?_
    by_cases c2 : szPS l (szN r.length left) < 0
    · refine AL ?_
      simp [retA, backA, szPz, c, szPS_neg c2]
    · refine AL ?_
      simp [retA, backA, szPz, c]
theorem szP_le {l : List PieceM} : ∀ {left : Int}, left ≤ 1048576 → ¬ szP l left < 0 → (∀ p ∈ l, (p.cs.length : Int) ≤ 1048576) ∧ szP l left ≤ left := by
  induction l with
  | nil => intro left _ _; exact ⟨by simp, Int.le_refl _⟩
  | cons p r ih =>
    intro left hl h
    unfold szP at h ⊢
    split at h
    · simp at h
    · rename_i c
      rw [if_neg c]
      obtain ⟨g1, g2, g3⟩ := szN_le c
      obtain ⟨h1, h2⟩ := ih (by omega) h
      refine ⟨fun x hx => ?_, by omega⟩
      rcases List.mem_cons.mp hx with rfl | hx
      · omega
      · exact h1 x hx
theorem szPz_le {r : List (Int × Int)} {l : List PieceM} {left : Int} (hl : left ≤ 1048576) (h : ¬ szPz r l left < 0) : (r.length : Int) ≤ 1048576 ∧ (l.length : Int) ≤ 1048576 ∧ (∀ p ∈ l, (p.cs.length : Int) ≤ 1048576) ∧ 0 ≤ szPz r l left ∧ szPz r l left ≤ left := by
  unfold szPz at h ⊢
  split at h
  · simp at h
  · rename_i c
    rw [if_neg c]
    obtain ⟨g1, g2, g3⟩ := szN_le c
    unfold szPS at h ⊢
    split at h
    · simp at h
    · rename_i c2
      rw [if_neg c2]
      obtain ⟨h1, h2⟩ := szP_le (by omega) h
      exact ⟨by omega, by omega, h1, by omega, by omega⟩
end Go.Proofs
end
