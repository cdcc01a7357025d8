/- Calls that share the objects. No condition. -/
import Derived.Test.YtmglpcdalechfaaGreatBO
import Derived.Test.YtmglpcdalechfaaGreatBigO
set_option linter.unusedVariables false
set_option linter.unusedSimpArgs false
open Go Go.Big
namespace Go.Proofs
theorem WC_given {f : FuncId} {args : List AV} {H H' : Heap} {n n' : Nat} {r : AV} {K : AV → Heap → Nat → Prop} {G : Gv} (h : G f args H n r H' n') (g : K r H' n') : WC Tryz.prog G f args H n K := by
  unfold WC; exact ⟨r, H', n', .given h, g⟩
/-- A call that shares the objects. -/
theorem CI {N : Nat} {ds : List (Option Tmp)} {l : List Oper} {E : Env} {H : Heap} {n : Nat} {K : Env → Heap → Nat → Prop} {o : Oper} {c : Call} {f : FuncId} {args : List AV} {d : Nat} {G : Gv}
    (hF : WC Tryz.prog G f args H n (fun r H1 n1 => WR Tryz.prog G N ds l (setF E d r) H1 n1 K))
    (hop : o.op = .call c := by rfl) (hdst : o.dst = some d := by rfl) (hw : wantR ds E o.guard = some true := by exact vB)
    (hc : calleeA E c = some (f, args) := by exact vD)
    (hf : (Tryz.prog.funcs[f]?).any (fun fn => fn.body.isSome && (fn.name != "runtime.NumGoroutine")) = true := by kernel_rfl)
    (hd : d < N := by decide) : WR Tryz.prog G N ds (o :: l) E H n K := by
  cases q : Tryz.prog.funcs[f]? with
  | none => rw [q] at hf; exact absurd hf (by simp)
  | some fn =>
    rw [q] at hf
    simp only [Option.any_some, Bool.and_eq_true, bne_iff_ne, ne_eq] at hf
    exact .calli hop hw hc q hf.1 (by simpa using hf.2) (by rw [hdst]; simpa [dstOk] using hd) (hF.mono fun r H1 n1 h => by rw [hdst]; exact h)
/-- A call whose results are the caller's own from then on. -/
theorem CWO {N : Nat} {ds : List (Option Tmp)} {l : List Oper} {E : Env} {H : Heap} {n : Nat} {K : Env → Heap → Nat → Prop} {o : Oper} {c : Call} {f : FuncId} {args args' : List AV} {y : AV} {d : Nat} {G : Gv}
    (hF : GivesO Tryz.prog G f args' y)
    (h : ∀ z (H' : Heap) (S : List Nat) m, ownX H' z y S → S.Nodup → (∀ o ∈ S, n ≤ o ∧ o < m) → (∀ o, o < n → H' o = H o) → n ≤ m → WR Tryz.prog G N ds l (setF E d z) H' m K)
    (hop : o.op = .call c := by rfl) (hdst : o.dst = some d := by rfl) (hw : wantR ds E o.guard = some true := by exact vB)
    (hc : calleeA E c = some (f, args) := by exact vD)
    (hg : givesA H args = some args' := by exact vE)
    (hf : (Tryz.prog.funcs[f]?).any (fun fn => fn.body.isSome && (fn.name != "runtime.NumGoroutine")) = true := by kernel_rfl)
    (hd : d < N := by decide) : WR Tryz.prog G N ds (o :: l) E H n K := by
  cases q : Tryz.prog.funcs[f]? with
  | none => rw [q] at hf; exact absurd hf (by simp)
  | some fn =>
    rw [q] at hf
    simp only [Option.any_some, Bool.and_eq_true, bne_iff_ne, ne_eq] at hf
    refine .callw hop hw hc hg q hf.1 (by simpa using hf.2) (by rw [hdst]; simpa [dstOk] using hd) ?_
    refine GivesO.after (K := fun z m H' => WR Tryz.prog G N ds l (putE E o.dst z) H' m K) hF (fun z H' S m g1 g2 g3 g4 g5 => ?_)
    rw [hdst]; exact h z H' S m g1 g2 g3 g4 g5
/-- A call whose results are the caller's own from then on. -/
theorem CWO1 {N : Nat} {ds : List (Option Tmp)} {l : List Oper} {E : Env} {H : Heap} {n : Nat} {K : Env → Heap → Nat → Prop} {o : Oper} {c : Call} {f : FuncId} {args args' : List AV} {y : AV} {d : Nat} {G : Gv}
    (hF : GivesO Tryz.prog G f args' y)
    (h : ∀ z (H' : Heap) (S : List Nat) m, ownX H' z y S → S.Nodup → (∀ o ∈ S, n ≤ o ∧ o < m) → (∀ o, o < n → H' o = H o) → n ≤ m → (∀ t rows, z = .sl t rows → t = 1) → WR Tryz.prog G N ds l (setF E d z) H' m K)
    (hop : o.op = .call c := by rfl) (hdst : o.dst = some d := by rfl) (hw : wantR ds E o.guard = some true := by exact vB)
    (hc : calleeA E c = some (f, args) := by exact vD)
    (hg : givesA H args = some args' := by exact vE)
    (hf : (Tryz.prog.funcs[f]?).any (fun fn => fn.body.isSome && (fn.name != "runtime.NumGoroutine")) = true := by kernel_rfl)
    (hd : d < N := by decide) : WR Tryz.prog G N ds (o :: l) E H n K := by
  cases q : Tryz.prog.funcs[f]? with
  | none => rw [q] at hf; exact absurd hf (by simp)
  | some fn =>
    rw [q] at hf
    simp only [Option.any_some, Bool.and_eq_true, bne_iff_ne, ne_eq] at hf
    refine .callw hop hw hc hg q hf.1 (by simpa using hf.2) (by rw [hdst]; simpa [dstOk] using hd) ?_
    refine GivesO.after1 (K := fun z m H' => WR Tryz.prog G N ds l (putE E o.dst z) H' m K) hF (fun z H' S m g1 g2 g3 g4 g5 g6 => ?_)
    rw [hdst]; exact h z H' S m g1 g2 g3 g4 g5 g6
/-- The same in a region whose operations come up in any order. -/
theorem CWM {fs st : List Nat} {n0 : Nat} {N : Nat} {ds : List (Option Tmp)} {l : List Oper} {E : Env} {H : Heap} {n : Nat} {K : Env → Heap → Nat → Prop} {o : Oper} {c : Call} {f : FuncId} {args args' : List AV} {y : AV} {d : Nat} {G : Gv}
    (hF : GivesO Tryz.prog G f args' y)
    (h : ∀ z (H' : Heap) (S : List Nat) m, ownX H' z y S → S.Nodup → (∀ o ∈ S, n ≤ o ∧ o < m) → (∀ o, o < n → H' o = H o) → n ≤ m → WM Tryz.prog G fs st n0 N ds l (setF E d z) H' m K)
    (hop : o.op = .call c := by rfl) (hmk : mkF fs (.call c) = true := by rfl) (hn0 : n0 ≤ n := by omega) (hdst : o.dst = some d := by rfl) (hw : wantR ds E o.guard = some true := by exact vB)
    (hc : calleeA E c = some (f, args) := by exact vD)
    (hg : givesA H args = some args' := by exact vE)
    (hf : (Tryz.prog.funcs[f]?).any (fun fn => fn.body.isSome && (fn.name != "runtime.NumGoroutine")) = true := by kernel_rfl)
    (hd : d < N := by decide) : WM Tryz.prog G fs st n0 N ds (o :: l) E H n K := by
  cases q : Tryz.prog.funcs[f]? with
  | none => rw [q] at hf; exact absurd hf (by simp)
  | some fn =>
    rw [q] at hf
    simp only [Option.any_some, Bool.and_eq_true, bne_iff_ne, ne_eq] at hf
    refine WM.callw hop hmk hn0 hw hc hg q hf.1 (by simpa using hf.2) (by rw [hdst]; simpa [dstOk] using hd) ?_
    refine GivesO.afterc (K := fun z m H' => WM Tryz.prog G fs st n0 N ds l (putE E o.dst z) H' m K) hF (fun z H' S m g1 g2 g3 g4 g5 => ?_)
    rw [hdst]; exact h z H' S m g1 g2 g3 g4 g5
end Go.Proofs
