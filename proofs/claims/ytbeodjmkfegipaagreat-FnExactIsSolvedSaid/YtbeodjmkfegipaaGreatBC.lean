/- Calls that share the objects. No condition. -/
import Derived.Test.YtbeodjmkfegipaaGreatBO
set_option linter.unusedVariables false
set_option linter.unusedSimpArgs false
open Go Go.Big
namespace Go.Proofs
theorem WC_given {f : FuncId} {args : List AV} {H H' : Heap} {n n' : Nat} {r : AV} {K : AV → Heap → Nat → Prop} {G : Gv} (h : G f args H n r H' n') (g : K r H' n') : WC Tryz.prog G f args H n K := by
  unfold WC; exact ⟨r, H', n', .given h, g⟩
/-- A call that shares the objects. -/
theorem CI {N : Nat} {ds : List (Option Tmp)} {l : List Oper} {E : Env} {H : Heap} {n : Nat} {K : Env → Heap → Nat → Prop} {o : Oper} {c : Call} {f : FuncId} {args : List AV} {d : Nat} {G : Gv}
    (hF : WC Tryz.prog G f args H n (fun r H1 n1 => WR Tryz.prog G N ds l (setF E d r) H1 n1 K))
    (hop : o.op = .call c := by rfl) (hdst : o.dst = some d := by rfl) (hw : wantR ds E o.guard = some true := by first | rfl | (simp only [wantR, Option.join_some, beq_self_eq_true, beq_true, beq_false, Bool.not_true, Bool.not_false, Bool.false_and, Bool.and_false, look_tmp, look_int, look_bool, look_str, look_nil, look_func, setF_if, argE, List.getElem?_cons_zero, List.getElem?_cons_succ, List.getElem?_nil, Option.getD_some, Option.getD_none, Option.map_some, Option.map_none, List.length_cons, List.length_nil, List.length_map, List.map_cons, List.map_nil, List.take_succ_cons, List.take_zero, List.drop_succ_cons, List.drop_zero, List.set_cons_zero, List.set_cons_succ, List.all_cons, List.all_nil, List.cons_append, List.nil_append, Bool.and_true, Bool.true_and, Bool.and_self, Nat.reduceEqDiff, Nat.reduceAdd, Nat.reduceSub, Nat.reduceLeDiff, Nat.reduceLT, Nat.reduceMul, Nat.zero_add, Nat.add_zero, Nat.le_refl, reduceIte, decide_true, decide_false, or_true, true_or, or_self, or_false, false_or, and_true, true_and, and_self, and_false, false_and, not_true_eq_false, not_false_eq_true, reduceCtorEq, List.toList_toArray, Int.reduceToNat, Int.reduceLE, Int.reduceLT, Int.toNat_natCast, Int.natCast_nonneg, Int.le_refl, Array.toList_map, Option.getD, *] <;> fail) | (simp [wantR, setF_if, argE, *] <;> fail))
    (hc : calleeA E c = some (f, args) := by (generalize hq : calleeA _ _ = q; simp only [calleeA, List.append_nil, look_tmp, look_int, look_bool, look_str, look_nil, look_func, setF_if, argE, List.getElem?_cons_zero, List.getElem?_cons_succ, List.getElem?_nil, Option.getD_some, Option.getD_none, Option.map_some, Option.map_none, List.length_cons, List.length_nil, List.length_map, List.map_cons, List.map_nil, List.take_succ_cons, List.take_zero, List.drop_succ_cons, List.drop_zero, List.set_cons_zero, List.set_cons_succ, List.all_cons, List.all_nil, List.cons_append, List.nil_append, Bool.and_true, Bool.true_and, Bool.and_self, Nat.reduceEqDiff, Nat.reduceAdd, Nat.reduceSub, Nat.reduceLeDiff, Nat.reduceLT, Nat.reduceMul, Nat.zero_add, Nat.add_zero, Nat.le_refl, reduceIte, decide_true, decide_false, or_true, true_or, or_self, or_false, false_or, and_true, true_and, and_self, and_false, false_and, not_true_eq_false, not_false_eq_true, reduceCtorEq, List.toList_toArray, Int.reduceToNat, Int.reduceLE, Int.reduceLT, Int.toNat_natCast, Int.natCast_nonneg, Int.le_refl, Array.toList_map, Option.getD, *] at hq; subst hq; rfl))
    (hf : (Tryz.prog.funcs[f]?).any (fun fn => fn.body.isSome && (fn.name != "runtime.NumGoroutine")) = true := by kernel_rfl)
    (hd : d < N := by decide) : WR Tryz.prog G N ds (o :: l) E H n K := by
  cases q : Tryz.prog.funcs[f]? with
  | none => rw [q] at hf; exact absurd hf (by simp)
  | some fn =>
    rw [q] at hf
    simp only [Option.any_some, Bool.and_eq_true, bne_iff_ne, ne_eq] at hf
    exact .calli hop hw hc q hf.1 (by simpa using hf.2) (by rw [hdst]; simpa [dstOk] using hd) (hF.mono fun r H1 n1 h => by rw [hdst]; exact h)
end Go.Proofs
