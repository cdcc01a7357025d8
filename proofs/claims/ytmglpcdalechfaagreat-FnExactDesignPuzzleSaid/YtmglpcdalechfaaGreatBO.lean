/- One operation, with the program's facts. No condition. -/
import Derived.Test.YtmglpcdalechfaaGreatBT
set_option linter.unusedVariables false
set_option linter.unusedSimpArgs false
open Go Go.Big
namespace Go.Proofs
def mpOf : Option Ob → Option (Int → Int → Option Int)
  | some (.mp f) => some f
  | _ => none
theorem mpOf_eq {x : Option Ob} {f : Int → Int → Option Int} (h : mpOf x = some f) : x = some (.mp f) := by
  unfold mpOf at h; split at h
  · simp only [Option.some.injEq] at h; subst h; rfl
  · simp at h
structure Hid (p : Prop) : Prop where
  out : p
theorem neAdd {a b k : Nat} (h : a < b) : (a = b + k) = False := by simp; omega
theorem neLt {a b : Nat} (h : a < b) : (a = b) = False := by simp; omega
theorem addNe {a b k : Nat} (h : a < b) : (b + k = a) = False := by simp; omega
theorem ltNe {a b : Nat} (h : a < b) : (b = a) = False := by simp; omega
theorem ltAdd {a b k : Nat} (h : a < b) : (a < b + k) = True := by simp; omega
theorem vA {p : Prop} (h : p := by (generalize hq : stepOp _ _ _ _ _ = q; simp only [st_move, st_assign, st_pick, st_nil, st_un, st_ext, st_conv, st_len, st_min, st_max, st_append, st_clear, clearA, st_build, st_fn, st_store, st_alloc, st_box, st_makeSlice, st_buildSlice, st_load, st_bin, st_slice, st_fieldAddr, st_field, st_indexAddr, st_index, andH_some, pickA_b, nilA, unA, extA, convA, lenA, rowsA, loadA, cellsA, fieldAddrA, indexAddrA, elemA, liveB, binA, binI, binS, opMake, flatA, plainA, storeA, putA, avOf, ftag_0, ftag_1, ftag_2, fieldA, partA, buildA, placesA, fillA, goodZ, litRows, pvOf, pvsOf, tagOf, joinT, zeroRow, sliceA, boundA, upd_if, appendA, fitA, mmL, mmA, Bool.false_eq_true, neAdd, neLt, ltAdd, addNe, ltNe, Nat.left_eq_add, Nat.add_eq_left, Option.map_some, beq_self_eq_true, look_tmp, look_int, look_bool, look_str, look_nil, look_func, setF_if, argE, List.getElem?_cons_zero, List.getElem?_cons_succ, List.getElem?_nil, Option.getD_some, Option.getD_none, Option.map_some, Option.map_none, List.length_cons, List.length_nil, List.length_map, List.map_cons, List.map_nil, List.take_succ_cons, List.take_zero, List.drop_succ_cons, List.drop_zero, List.set_cons_zero, List.set_cons_succ, List.all_cons, List.all_nil, List.cons_append, List.nil_append, Bool.and_true, Bool.true_and, Bool.and_self, Nat.reduceEqDiff, Nat.reduceAdd, Nat.reduceSub, Nat.reduceLeDiff, Nat.reduceLT, Nat.reduceMul, Nat.zero_add, Nat.add_zero, Nat.le_refl, reduceIte, decide_true, decide_false, or_true, true_or, or_self, or_false, false_or, and_true, true_and, and_self, and_false, false_and, not_true_eq_false, not_false_eq_true, reduceCtorEq, List.toList_toArray, Int.reduceToNat, Int.reduceLE, Int.reduceLT, Int.toNat_natCast, Int.natCast_nonneg, Int.le_refl, Array.toList_map, Option.getD, BT.all, Go.Proofs.Tryz.underlying2, Go.Proofs.Tryz.underlying3, Go.Proofs.Tryz.underlying4, Go.Proofs.Tryz.underlying5, Go.Proofs.Tryz.underlying9, Go.Proofs.Tryz.underlying22, Go.Proofs.Tryz.underlying23, Go.Proofs.Tryz.underlying24, Go.Proofs.Tryz.underlying25, Go.Proofs.Tryz.underlying27, Go.Proofs.Tryz.underlying28, Go.Proofs.Tryz.underlying29, Go.Proofs.Tryz.underlying32, Go.Proofs.Tryz.underlying33, Go.Proofs.Tryz.underlying34, Go.Proofs.Tryz.underlying35, Go.Proofs.Tryz.underlying42, Go.Proofs.Tryz.underlying43, Go.Proofs.Tryz.underlying44, Go.Proofs.Tryz.underlying48, Go.Proofs.Tryz.underlying60, Go.Proofs.Tryz.underlying61, Go.Proofs.Tryz.underlying62, Go.Proofs.Tryz.underlying63, Go.Proofs.Tryz.underlying67, Go.Proofs.Tryz.underlying68, Go.Proofs.Tryz.underlying70, Go.Proofs.Tryz.underlying77, Go.Proofs.Tryz.underlying81, Go.Proofs.Tryz.underlying109, Go.Proofs.Tryz.underlying110, Go.Proofs.Tryz.underlying121, Go.Proofs.Tryz.underlying126, Go.Proofs.Tryz.underlying128, Go.Proofs.Tryz.underlying129, Go.Proofs.Tryz.underlying132, Go.Proofs.Tryz.underlying135, Go.Proofs.Tryz.underlying141, Go.Proofs.Tryz.underlying142, Go.Proofs.Tryz.underlying146, Go.Proofs.Tryz.underlying151, Go.Proofs.Tryz.underlying153, Go.Proofs.Tryz.underlying190, Go.Proofs.Tryz.underlying192, Go.Proofs.Tryz.underlying202, Go.Proofs.Tryz.underlying227, Go.Proofs.Tryz.underlying228, Go.Proofs.Tryz.underlying229, Go.Proofs.Tryz.underlying251, Go.Proofs.Tryz.underlying253, Go.Proofs.Tryz.underlying269, Go.Proofs.Tryz.underlying276, Go.Proofs.Tryz.underlying279, Go.Proofs.BT.e141, Go.Proofs.BT.e142, Go.Proofs.BT.e151, *] at hq; subst hq; rfl)) : p := h
theorem vB {p : Prop} (h : p := by first | rfl | (simp only [wantR, Option.join_some, beq_self_eq_true, beq_true, beq_false, Bool.not_true, Bool.not_false, Bool.false_and, Bool.and_false, beq_self_eq_true, look_tmp, look_int, look_bool, look_str, look_nil, look_func, setF_if, argE, List.getElem?_cons_zero, List.getElem?_cons_succ, List.getElem?_nil, Option.getD_some, Option.getD_none, Option.map_some, Option.map_none, List.length_cons, List.length_nil, List.length_map, List.map_cons, List.map_nil, List.take_succ_cons, List.take_zero, List.drop_succ_cons, List.drop_zero, List.set_cons_zero, List.set_cons_succ, List.all_cons, List.all_nil, List.cons_append, List.nil_append, Bool.and_true, Bool.true_and, Bool.and_self, Nat.reduceEqDiff, Nat.reduceAdd, Nat.reduceSub, Nat.reduceLeDiff, Nat.reduceLT, Nat.reduceMul, Nat.zero_add, Nat.add_zero, Nat.le_refl, reduceIte, decide_true, decide_false, or_true, true_or, or_self, or_false, false_or, and_true, true_and, and_self, and_false, false_and, not_true_eq_false, not_false_eq_true, reduceCtorEq, List.toList_toArray, Int.reduceToNat, Int.reduceLE, Int.reduceLT, Int.toNat_natCast, Int.natCast_nonneg, Int.le_refl, Array.toList_map, Option.getD, *] <;> fail) | (simp [wantR, setF_if, argE, *] <;> fail)) : p := h
theorem vC {p : Prop} (h : p := by first | (simp only [wantR, Option.join_some, beq_self_eq_true, beq_true, beq_false, Bool.not_true, Bool.not_false, Bool.false_and, Bool.and_false, beq_self_eq_true, look_tmp, look_int, look_bool, look_str, look_nil, look_func, setF_if, argE, List.getElem?_cons_zero, List.getElem?_cons_succ, List.getElem?_nil, Option.getD_some, Option.getD_none, Option.map_some, Option.map_none, List.length_cons, List.length_nil, List.length_map, List.map_cons, List.map_nil, List.take_succ_cons, List.take_zero, List.drop_succ_cons, List.drop_zero, List.set_cons_zero, List.set_cons_succ, List.all_cons, List.all_nil, List.cons_append, List.nil_append, Bool.and_true, Bool.true_and, Bool.and_self, Nat.reduceEqDiff, Nat.reduceAdd, Nat.reduceSub, Nat.reduceLeDiff, Nat.reduceLT, Nat.reduceMul, Nat.zero_add, Nat.add_zero, Nat.le_refl, reduceIte, decide_true, decide_false, or_true, true_or, or_self, or_false, false_or, and_true, true_and, and_self, and_false, false_and, not_true_eq_false, not_false_eq_true, reduceCtorEq, List.toList_toArray, Int.reduceToNat, Int.reduceLE, Int.reduceLT, Int.toNat_natCast, Int.natCast_nonneg, Int.le_refl, Array.toList_map, Option.getD, *] <;> fail) | (simp [wantR, setF_if, argE, *] <;> fail)) : p := h
theorem vD {p : Prop} (h : p := by (generalize hq : calleeA _ _ = q; simp only [calleeA, List.append_nil, beq_self_eq_true, look_tmp, look_int, look_bool, look_str, look_nil, look_func, setF_if, argE, List.getElem?_cons_zero, List.getElem?_cons_succ, List.getElem?_nil, Option.getD_some, Option.getD_none, Option.map_some, Option.map_none, List.length_cons, List.length_nil, List.length_map, List.map_cons, List.map_nil, List.take_succ_cons, List.take_zero, List.drop_succ_cons, List.drop_zero, List.set_cons_zero, List.set_cons_succ, List.all_cons, List.all_nil, List.cons_append, List.nil_append, Bool.and_true, Bool.true_and, Bool.and_self, Nat.reduceEqDiff, Nat.reduceAdd, Nat.reduceSub, Nat.reduceLeDiff, Nat.reduceLT, Nat.reduceMul, Nat.zero_add, Nat.add_zero, Nat.le_refl, reduceIte, decide_true, decide_false, or_true, true_or, or_self, or_false, false_or, and_true, true_and, and_self, and_false, false_and, not_true_eq_false, not_false_eq_true, reduceCtorEq, List.toList_toArray, Int.reduceToNat, Int.reduceLE, Int.reduceLT, Int.toNat_natCast, Int.natCast_nonneg, Int.le_refl, Array.toList_map, Option.getD, *] at hq; subst hq; rfl)) : p := h
theorem vE {p : Prop} (h : p := by (generalize hq : givesA _ _ = q; simp only [givesA, giveA, rowsA, upd_if, beq_self_eq_true, look_tmp, look_int, look_bool, look_str, look_nil, look_func, setF_if, argE, List.getElem?_cons_zero, List.getElem?_cons_succ, List.getElem?_nil, Option.getD_some, Option.getD_none, Option.map_some, Option.map_none, List.length_cons, List.length_nil, List.length_map, List.map_cons, List.map_nil, List.take_succ_cons, List.take_zero, List.drop_succ_cons, List.drop_zero, List.set_cons_zero, List.set_cons_succ, List.all_cons, List.all_nil, List.cons_append, List.nil_append, Bool.and_true, Bool.true_and, Bool.and_self, Nat.reduceEqDiff, Nat.reduceAdd, Nat.reduceSub, Nat.reduceLeDiff, Nat.reduceLT, Nat.reduceMul, Nat.zero_add, Nat.add_zero, Nat.le_refl, reduceIte, decide_true, decide_false, or_true, true_or, or_self, or_false, false_or, and_true, true_and, and_self, and_false, false_and, not_true_eq_false, not_false_eq_true, reduceCtorEq, List.toList_toArray, Int.reduceToNat, Int.reduceLE, Int.reduceLT, Int.toNat_natCast, Int.natCast_nonneg, Int.le_refl, Array.toList_map, Option.getD, *] at hq; subst hq; rfl)) : p := h
theorem vF {p : Prop} (h : p := by first | (simp only [Bool.not_true, Bool.not_false, Bool.false_and, Bool.and_false, beq_self_eq_true, look_tmp, look_int, look_bool, look_str, look_nil, look_func, setF_if, argE, List.getElem?_cons_zero, List.getElem?_cons_succ, List.getElem?_nil, Option.getD_some, Option.getD_none, Option.map_some, Option.map_none, List.length_cons, List.length_nil, List.length_map, List.map_cons, List.map_nil, List.take_succ_cons, List.take_zero, List.drop_succ_cons, List.drop_zero, List.set_cons_zero, List.set_cons_succ, List.all_cons, List.all_nil, List.cons_append, List.nil_append, Bool.and_true, Bool.true_and, Bool.and_self, Nat.reduceEqDiff, Nat.reduceAdd, Nat.reduceSub, Nat.reduceLeDiff, Nat.reduceLT, Nat.reduceMul, Nat.zero_add, Nat.add_zero, Nat.le_refl, reduceIte, decide_true, decide_false, or_true, true_or, or_self, or_false, false_or, and_true, true_and, and_self, and_false, false_and, not_true_eq_false, not_false_eq_true, reduceCtorEq, List.toList_toArray, Int.reduceToNat, Int.reduceLE, Int.reduceLT, Int.toNat_natCast, Int.natCast_nonneg, Int.le_refl, Array.toList_map, Option.getD, *] <;> fail) | (simp [setF_if, argE, *] <;> fail)) : p := h
theorem vG {p : Prop} (h : p := by (generalize hq : _ + 1 = q; (try simp only [Nat.add_assoc, Nat.reduceAdd, Nat.zero_add] at hq); subst hq; rfl)) : p := h
theorem OP {N : Nat} {ds : List (Option Tmp)} {l : List Oper} {E : Env} {H : Heap} {n m : Nat} {K : Env → Heap → Nat → Prop} {o : Oper} {op : Op} {d : Nat} {y : AV} {H1 : Heap} {G : Gv}
    (h : WR Tryz.prog G N ds l (setF E d y) H1 m K)
    (hop : o.op = op := by rfl) (hdst : o.dst = some d := by rfl) (hw : wantR ds E o.guard = some true := by exact vB)
    (hs : stepOp Tryz.prog H n (Go.Big.look E) op = some (y, H1) := by exact vA)
    (hn : n + 1 = m := by exact vG)
    (hd : d < N := by decide) : WR Tryz.prog G N ds (o :: l) E H n K :=
  .op hw (by rw [hop]; exact hs) (by rw [hdst]; simpa [dstOk] using hd) (by rw [hdst]; subst hn; exact h)
theorem OPN {N : Nat} {ds : List (Option Tmp)} {l : List Oper} {E : Env} {H : Heap} {n m : Nat} {K : Env → Heap → Nat → Prop} {o : Oper} {op : Op} {y : AV} {H1 : Heap} {G : Gv}
    (h : WR Tryz.prog G N ds l E H1 m K)
    (hop : o.op = op := by rfl) (hdst : o.dst = none := by rfl) (hw : wantR ds E o.guard = some true := by exact vB)
    (hs : stepOp Tryz.prog H n (Go.Big.look E) op = some (y, H1) := by exact vA)
    (hn : n + 1 = m := by exact vG) : WR Tryz.prog G N ds (o :: l) E H n K :=
  .op hw (by rw [hop]; exact hs) (by rw [hdst]; rfl) (by rw [hdst]; subst hn; exact h)
theorem SK {N : Nat} {ds : List (Option Tmp)} {l : List Oper} {E : Env} {H : Heap} {n : Nat} {K : Env → Heap → Nat → Prop} {o : Oper} {d : Nat} {G : Gv}
    (h : WR Tryz.prog G N ds l (setF E d (.tup [])) H n K)
    (hdst : o.dst = some d := by rfl) (hw : wantR ds E o.guard = some false := by exact vC)
    (hd : d < N := by decide) : WR Tryz.prog G N ds (o :: l) E H n K :=
  .skip hw (by rw [hdst]; simpa [dstOk] using hd) (by rw [hdst]; exact h)
theorem IFT {N : Nat} {c : Operand} {a b : Code} {E : Env} {H : Heap} {n : Nat} {K : Exit → Env → Heap → Nat → Prop} {G : Gv}
    (h : W Tryz.prog G N a E H n K) (hc : Go.Big.look E c = .b true := by exact vF) : W Tryz.prog G N (.cond c a b) E H n K := .cond hc h
theorem IFF {N : Nat} {c : Operand} {a b : Code} {E : Env} {H : Heap} {n : Nat} {K : Exit → Env → Heap → Nat → Prop} {G : Gv}
    (h : W Tryz.prog G N b E H n K) (hc : Go.Big.look E c = .b false := by exact vF) : W Tryz.prog G N (.cond c a b) E H n K := .cond hc h
theorem DN {rs : Array ResultVar} {K : AV → Heap → Nat → Prop} {E : Env} {H : Heap} {n : Nat} {xs : List AV} {y : AV} (g : K y H n) (h : resA Tryz.prog H E rs.toList = some xs := by (generalize hq : resA _ _ _ _ = q; simp only [resA, loadA, cellsA, upd_if, beq_self_eq_true, look_tmp, look_int, look_bool, look_str, look_nil, look_func, setF_if, argE, List.getElem?_cons_zero, List.getElem?_cons_succ, List.getElem?_nil, Option.getD_some, Option.getD_none, Option.map_some, Option.map_none, List.length_cons, List.length_nil, List.length_map, List.map_cons, List.map_nil, List.take_succ_cons, List.take_zero, List.drop_succ_cons, List.drop_zero, List.set_cons_zero, List.set_cons_succ, List.all_cons, List.all_nil, List.cons_append, List.nil_append, Bool.and_true, Bool.true_and, Bool.and_self, Nat.reduceEqDiff, Nat.reduceAdd, Nat.reduceSub, Nat.reduceLeDiff, Nat.reduceLT, Nat.reduceMul, Nat.zero_add, Nat.add_zero, Nat.le_refl, reduceIte, decide_true, decide_false, or_true, true_or, or_self, or_false, false_or, and_true, true_and, and_self, and_false, false_and, not_true_eq_false, not_false_eq_true, reduceCtorEq, List.toList_toArray, Int.reduceToNat, Int.reduceLE, Int.reduceLT, Int.toNat_natCast, Int.natCast_nonneg, Int.le_refl, Array.toList_map, Option.getD, BT.all, Go.Proofs.Tryz.underlying2, Go.Proofs.Tryz.underlying3, Go.Proofs.Tryz.underlying4, Go.Proofs.Tryz.underlying5, Go.Proofs.Tryz.underlying9, Go.Proofs.Tryz.underlying22, Go.Proofs.Tryz.underlying23, Go.Proofs.Tryz.underlying24, Go.Proofs.Tryz.underlying25, Go.Proofs.Tryz.underlying27, Go.Proofs.Tryz.underlying28, Go.Proofs.Tryz.underlying29, Go.Proofs.Tryz.underlying32, Go.Proofs.Tryz.underlying33, Go.Proofs.Tryz.underlying34, Go.Proofs.Tryz.underlying35, Go.Proofs.Tryz.underlying42, Go.Proofs.Tryz.underlying43, Go.Proofs.Tryz.underlying44, Go.Proofs.Tryz.underlying48, Go.Proofs.Tryz.underlying60, Go.Proofs.Tryz.underlying61, Go.Proofs.Tryz.underlying62, Go.Proofs.Tryz.underlying63, Go.Proofs.Tryz.underlying67, Go.Proofs.Tryz.underlying68, Go.Proofs.Tryz.underlying70, Go.Proofs.Tryz.underlying77, Go.Proofs.Tryz.underlying81, Go.Proofs.Tryz.underlying109, Go.Proofs.Tryz.underlying110, Go.Proofs.Tryz.underlying121, Go.Proofs.Tryz.underlying126, Go.Proofs.Tryz.underlying128, Go.Proofs.Tryz.underlying129, Go.Proofs.Tryz.underlying132, Go.Proofs.Tryz.underlying135, Go.Proofs.Tryz.underlying141, Go.Proofs.Tryz.underlying142, Go.Proofs.Tryz.underlying146, Go.Proofs.Tryz.underlying151, Go.Proofs.Tryz.underlying153, Go.Proofs.Tryz.underlying190, Go.Proofs.Tryz.underlying192, Go.Proofs.Tryz.underlying202, Go.Proofs.Tryz.underlying227, Go.Proofs.Tryz.underlying228, Go.Proofs.Tryz.underlying229, Go.Proofs.Tryz.underlying251, Go.Proofs.Tryz.underlying253, Go.Proofs.Tryz.underlying269, Go.Proofs.Tryz.underlying276, Go.Proofs.Tryz.underlying279, Go.Proofs.BT.e141, Go.Proofs.BT.e142, Go.Proofs.BT.e151, *] at hq; subst hq; rfl)) (hy : retA xs = y := by rfl) : doneK Tryz.prog rs K .ret E H n := .ret h (by rw [hy]; exact g)
/-- A call by value of a function that is known. -/
theorem CV {N : Nat} {ds : List (Option Tmp)} {l : List Oper} {E : Env} {H : Heap} {n m : Nat} {K : Env → Heap → Nat → Prop} {o : Oper} {c : Call} {f : FuncId} {args args' : List AV} {y : AV} {d : Nat} {G : Gv}
    (hF : Gives Tryz.prog G f args' y)
    (h : WR Tryz.prog G N ds l (setF E d y) H m K)
    (hop : o.op = .call c := by rfl) (hdst : o.dst = some d := by rfl) (hw : wantR ds E o.guard = some true := by exact vB)
    (hc : calleeA E c = some (f, args) := by exact vD)
    (hg : givesA H args = some args' := by exact vE)
    (hf : (Tryz.prog.funcs[f]?).any (fun fn => fn.body.isSome && (fn.name != "runtime.NumGoroutine")) = true := by kernel_rfl)
    (hn : n + 1 = m := by exact vG)
    (hd : d < N := by decide) : WR Tryz.prog G N ds (o :: l) E H n K := by
  cases q : Tryz.prog.funcs[f]? with
  | none => rw [q] at hf; exact absurd hf (by simp)
  | some fn =>
    rw [q] at hf
    simp only [Option.any_some, Bool.and_eq_true, bne_iff_ne, ne_eq] at hf
    exact .callv hop hw hc hg q hf.1 (by simpa using hf.2) (by rw [hdst]; simpa [dstOk] using hd) hF (by rw [hdst]; subst hn; exact h)
theorem OQ {N : Nat} {ds : List (Option Tmp)} {l : List Oper} {E : Env} {H : Heap} {K : Env → Prop} {o : Oper} {op : Op} {d : Nat} {y : AV} {H1 : Heap} {G : Gv}
    (h : WQ Tryz.prog G N ds l (setF E d y) H K)
    (hop : o.op = op := by rfl) (hdst : o.dst = some d := by rfl) (hw : wantR ds E o.guard = some true := by exact vB)
    (hs : stepOp Tryz.prog H 0 (Go.Big.look E) op = some (y, H1) := by exact vA)
    (hk : quietOp op = true := by rfl)
    (hd : d < N := by decide) : WQ Tryz.prog G N ds (o :: l) E H K :=
  .op hw (by rw [hop]; exact pure_of_step hk ⟨_, _, hs⟩) (by rw [hdst]; simpa [dstOk] using hd) (by rw [hdst]; exact h)
theorem SQ {N : Nat} {ds : List (Option Tmp)} {l : List Oper} {E : Env} {H : Heap} {K : Env → Prop} {o : Oper} {d : Nat} {G : Gv}
    (h : WQ Tryz.prog G N ds l (setF E d (.tup [])) H K)
    (hdst : o.dst = some d := by rfl) (hw : wantR ds E o.guard = some false := by exact vC)
    (hd : d < N := by decide) : WQ Tryz.prog G N ds (o :: l) E H K :=
  .skip hw (by rw [hdst]; simpa [dstOk] using hd) (by rw [hdst]; exact h)
/-- A call by value of a function that is known. -/
theorem CQ {N : Nat} {ds : List (Option Tmp)} {l : List Oper} {E : Env} {H : Heap} {K : Env → Prop} {o : Oper} {c : Call} {f : FuncId} {args args' : List AV} {y : AV} {d : Nat} {G : Gv}
    (hF : Gives Tryz.prog G f args' y)
    (h : WQ Tryz.prog G N ds l (setF E d y) H K)
    (hop : o.op = .call c := by rfl) (hdst : o.dst = some d := by rfl) (hw : wantR ds E o.guard = some true := by exact vB)
    (hc : calleeA E c = some (f, args) := by exact vD)
    (hg : givesA H args = some args' := by exact vE)
    (hf : (Tryz.prog.funcs[f]?).any (fun fn => fn.body.isSome && (fn.name != "runtime.NumGoroutine")) = true := by kernel_rfl)
    (hd : d < N := by decide) : WQ Tryz.prog G N ds (o :: l) E H K := by
  cases q : Tryz.prog.funcs[f]? with
  | none => rw [q] at hf; exact absurd hf (by simp)
  | some fn =>
    rw [q] at hf
    simp only [Option.any_some, Bool.and_eq_true, bne_iff_ne, ne_eq] at hf
    exact .callv hop hw hc hg q hf.1 (by simpa using hf.2) (by rw [hdst]; simpa [dstOk] using hd) hF (by rw [hdst]; exact h)
theorem mixedF : Tryz.prog.follows .mixedOrders = true := by kernel_rfl
/-- A region whose operations may come up in any order. -/
theorem DR {N : Nat} {id : Nat} {os : List Oper} {ds : List (Option Tmp)} {E : Env} {H : Heap} {n : Nat} {K : Exit → Env → Heap → Nat → Prop} {G : Gv} (h : WQ Tryz.prog G N ds os E H (fun E' => K .normal E' H n)) (hI : indep os.toArray = true := by kernel_rfl) (hd : os.map (·.dst) = ds := by (generalize hq : List.map _ _ = q; simp only [List.map_cons, List.map_nil] at hq; subst hq; rfl)) : W Tryz.prog G N (.region id os.toArray true) E H n K :=
  .drawn mixedF hI h hd
theorem OM {fs st : List Nat} {n0 : Nat} {N : Nat} {ds : List (Option Tmp)} {l : List Oper} {E : Env} {H : Heap} {n m : Nat} {K : Env → Heap → Nat → Prop} {o : Oper} {op : Op} {d : Nat} {y : AV} {H1 : Heap} {G : Gv}
    (h : WM Tryz.prog G fs st n0 N ds l (setF E d y) H1 m K)
    (hop : o.op = op := by rfl) (hdst : o.dst = some d := by rfl) (hw : wantR ds E o.guard = some true := by exact vB)
    (hs : stepOp Tryz.prog H n (Go.Big.look E) op = some (y, H1) := by exact vA)
    (hag : ∀ k, k < n0 → H1 k = H k := by first | exact (fun k hk => absurd hk (Nat.not_lt_zero k)) | exact (fun _ _ => rfl) | exact (fun k hk => by rw [upd_if, if_neg (by omega)])) (hst : stD st o = false := by rfl)
    (hn : n + 1 = m := by exact vG)
    (hd : d < N := by decide) : WM Tryz.prog G fs st n0 N ds (o :: l) E H n K :=
  WM.op hw (by rw [hop]; exact hs) (by rw [hdst]; simpa [dstOk] using hd) hag hst (by rw [hdst]; subst hn; exact h)
theorem OST {fs st : List Nat} {n0 : Nat} {N : Nat} {ds : List (Option Tmp)} {l : List Oper} {E : Env} {H : Heap} {n m : Nat} {K : Env → Heap → Nat → Prop} {o : Oper} {op : Op} {d : Nat} {y : AV} {G : Gv}
    (hs : ∀ Hx : Heap, (∀ k, k < n0 → Hx k = H k) → ∃ H1, stepOp Tryz.prog Hx 0 (Go.Big.look E) op = some (y, H1)) (h : WM Tryz.prog G fs st n0 N ds l (setF E d y) H m K)
    (hop : o.op = op := by rfl) (hdst : o.dst = some d := by rfl) (hw : wantR ds E o.guard = some true := by exact vB)
    (hn : n + 1 = m := by exact vG)
    (hk : quietOp op = true := by rfl) (hst : stD st o = true := by rfl) (hmk : mkF fs o.op = false := by rfl)
    (hd : d < N := by decide) : WM Tryz.prog G fs st n0 N ds (o :: l) E H n K :=
  WM.stab hw hst hmk (fun Hx hx => by rw [hop]; obtain ⟨H1, h1⟩ := hs Hx hx; exact pure_of_step hk ⟨0, H1, h1⟩) (by rw [hdst]; simpa [dstOk] using hd) (by rw [hdst]; subst hn; exact h)
theorem EVM {H H1 : Heap} {n : Nat} {E : Env} {op : Op} {y : AV} (hs : stepOp Tryz.prog H n (Go.Big.look E) op = some (y, H1) := by exact vA) : stepOp Tryz.prog H n (Go.Big.look E) op = some (y, H1) := hs
theorem EV {H H1 : Heap} {E : Env} {op : Op} {y : AV} (hs : stepOp Tryz.prog H 0 (Go.Big.look E) op = some (y, H1) := by exact vA) : ∃ H1, stepOp Tryz.prog H 0 (Go.Big.look E) op = some (y, H1) := ⟨H1, hs⟩
theorem OMN {fs st : List Nat} {n0 : Nat} {N : Nat} {ds : List (Option Tmp)} {l : List Oper} {E : Env} {H : Heap} {n m : Nat} {K : Env → Heap → Nat → Prop} {o : Oper} {op : Op} {y : AV} {H1 : Heap} {G : Gv}
    (h : WM Tryz.prog G fs st n0 N ds l E H1 m K)
    (hop : o.op = op := by rfl) (hdst : o.dst = none := by rfl) (hw : wantR ds E o.guard = some true := by exact vB)
    (hs : stepOp Tryz.prog H n (Go.Big.look E) op = some (y, H1) := by exact vA)
    (hag : ∀ k, k < n0 → H1 k = H k := by first | exact (fun k hk => absurd hk (Nat.not_lt_zero k)) | exact (fun _ _ => rfl) | exact (fun k hk => by rw [upd_if, if_neg (by omega)])) (hst : stD st o = false := by rfl)
    (hn : n + 1 = m := by exact vG) : WM Tryz.prog G fs st n0 N ds (o :: l) E H n K :=
  WM.op hw (by rw [hop]; exact hs) (by rw [hdst]; rfl) hag hst (by rw [hdst]; subst hn; exact h)
theorem SM {fs st : List Nat} {n0 : Nat} {N : Nat} {ds : List (Option Tmp)} {l : List Oper} {E : Env} {H : Heap} {n : Nat} {K : Env → Heap → Nat → Prop} {o : Oper} {d : Nat} {G : Gv}
    (h : WM Tryz.prog G fs st n0 N ds l (setF E d (.tup [])) H n K)
    (hdst : o.dst = some d := by rfl) (hw : wantR ds E o.guard = some false := by exact vC)
    (hd : d < N := by decide) : WM Tryz.prog G fs st n0 N ds (o :: l) E H n K :=
  .skip hw (by rw [hdst]; simpa [dstOk] using hd) (by rw [hdst]; exact h)
theorem CM {fs st : List Nat} {n0 : Nat} {N : Nat} {ds : List (Option Tmp)} {l : List Oper} {E : Env} {H : Heap} {n m : Nat} {K : Env → Heap → Nat → Prop} {o : Oper} {c : Call} {f : FuncId} {args args' : List AV} {y : AV} {d : Nat} {G : Gv}
    (hF : Gives Tryz.prog G f args' y)
    (h : WM Tryz.prog G fs st n0 N ds l (setF E d y) H m K)
    (hop : o.op = .call c := by rfl) (hdst : o.dst = some d := by rfl) (hw : wantR ds E o.guard = some true := by exact vB)
    (hc : calleeA E c = some (f, args) := by exact vD)
    (hg : givesA H args = some args' := by exact vE)
    (hst : stD st o = false := by rfl)
    (hf : (Tryz.prog.funcs[f]?).any (fun fn => fn.body.isSome && (fn.name != "runtime.NumGoroutine")) = true := by kernel_rfl)
    (hn : n + 1 = m := by exact vG)
    (hd : d < N := by decide) : WM Tryz.prog G fs st n0 N ds (o :: l) E H n K := by
  cases q : Tryz.prog.funcs[f]? with
  | none => rw [q] at hf; exact absurd hf (by simp)
  | some fn =>
    rw [q] at hf
    simp only [Option.any_some, Bool.and_eq_true, bne_iff_ne, ne_eq] at hf
    exact .callv hop hw hc hg q hf.1 (by simpa using hf.2) (by rw [hdst]; simpa [dstOk] using hd) hst hF (by rw [hdst]; subst hn; exact h)
theorem DM {N : Nat} {id : Nat} {os : List Oper} {ds : List (Option Tmp)} {E : Env} {H : Heap} {n : Nat} {K : Exit → Env → Heap → Nat → Prop} {G : Gv} (h : WM Tryz.prog G [] [] 0 N ds os E H n (K .normal)) (hI : indepM [] [] os.toArray = true := by kernel_rfl) (hd : os.map (·.dst) = ds := by (generalize hq : List.map _ _ = q; simp only [List.map_cons, List.map_nil] at hq; subst hq; rfl)) : W Tryz.prog G N (.region id os.toArray true) E H n K :=
  .drawnm mixedF hI h hd
theorem DMF (fs st : List Nat) (n0 : Nat) {N : Nat} {id : Nat} {os : List Oper} {ds : List (Option Tmp)} {E : Env} {H : Heap} {n : Nat} {K : Exit → Env → Heap → Nat → Prop} {G : Gv} (h : WM Tryz.prog G fs st n0 N ds os E H n (K .normal)) (hI : indepM fs st os.toArray = true := by kernel_rfl) (hd : os.map (·.dst) = ds := by (generalize hq : List.map _ _ = q; simp only [List.map_cons, List.map_nil] at hq; subst hq; rfl)) : W Tryz.prog G N (.region id os.toArray true) E H n K :=
  .drawnm mixedF hI h hd
theorem FF {ob : List Nat} {wr : List (Nat × Nat)} {rd : List (Nat × List Nat)} {N : Nat} {ds : List (Option Tmp)} {l : List Oper} {E : Env} {H : Heap} {n m : Nat} {K : Env → Heap → Nat → Prop} {o : Oper} {op : Op} {d : Nat} {y : AV} {H1 : Heap} {G : Gv}
    (h : WF Tryz.prog G ob wr rd N ds l (setF E d y) H m K)
    (hop : o.op = op := by rfl) (hdst : o.dst = some d := by rfl) (hw : wantR ds E o.guard = some true := by exact vB)
    (hs : stepOp Tryz.prog H 0 (Go.Big.look E) op = some (y, H1) := by exact vA)
    (hn : n + 1 = m := by exact vG)
    (hmf : memFree op = true := by rfl) (hk : quietOp op = true := by rfl) (hwr : wrL wr o = none := by rfl)
    (hd : d < N := by decide) : WF Tryz.prog G ob wr rd N ds (o :: l) E H n K :=
  WF.quiet hw hwr (fun Hx _ => by rw [hop, free_heap (P := Tryz.prog) (H' := H) hmf]; exact pure_of_step hk ⟨_, _, hs⟩) (by rw [hdst]; simpa [dstOk] using hd) (by rw [hdst]; subst hn; exact h)
theorem FQ {ob : List Nat} {wr : List (Nat × Nat)} {rd : List (Nat × List Nat)} {N : Nat} {ds : List (Option Tmp)} {l : List Oper} {E : Env} {H : Heap} {n m : Nat} {K : Env → Heap → Nat → Prop} {o : Oper} {op : Op} {d : Nat} {y : AV} {G : Gv}
    (h : WF Tryz.prog G ob wr rd N ds l (setF E d y) H m K)
    (hop : o.op = op := by rfl) (hdst : o.dst = some d := by rfl) (hw : wantR ds E o.guard = some true := by exact vB)
    (hs : ∀ Hx : Heap, Agrees ob (fpL wr rd o) Hx H → ∃ H1, stepOp Tryz.prog Hx 0 (Go.Big.look E) op = some (y, H1))
    (hn : n + 1 = m := by exact vG)
    (hk : quietOp op = true := by rfl) (hwr : wrL wr o = none := by rfl)
    (hd : d < N := by decide) : WF Tryz.prog G ob wr rd N ds (o :: l) E H n K :=
  WF.quiet hw hwr (fun Hx hx => by rw [hop]; obtain ⟨H1, h1⟩ := hs Hx hx; exact pure_of_step hk ⟨0, H1, h1⟩) (by rw [hdst]; simpa [dstOk] using hd) (by rw [hdst]; subst hn; exact h)
theorem FM {ob : List Nat} {wr : List (Nat × Nat)} {rd : List (Nat × List Nat)} {N : Nat} {ds : List (Option Tmp)} {l : List Oper} {E : Env} {H : Heap} {n m : Nat} {K : Env → Heap → Nat → Prop} {o : Oper} {op : Op} {d : Nat} {y : AV} {v : Ob} {G : Gv} (a X : Nat)
    (h : WF Tryz.prog G ob wr rd N ds l (setF E d y) (H.upd X v) m K)
    (hop : o.op = op := by rfl) (hdst : o.dst = some d := by rfl) (hw : wantR ds E o.guard = some true := by exact vB)
    (hs : ∀ Hx : Heap, Agrees ob (fpL wr rd o) Hx H → stepOp Tryz.prog Hx n (Go.Big.look E) op = some (y, Hx.upd X v))
    (hn : n + 1 = m := by exact vG)
    (hwr : wrL wr o = some a := by rfl) (hX : ob[a]? = some X := by rfl) (hXn : X ≤ n := by omega) (hnd : ob.Nodup := by assumption) (hb : n = X ∨ n ∉ ob := by first | exact .inl rfl | exact .inr (by simp only [List.mem_cons, List.not_mem_nil, or_false, not_or]; omega))
    (hd : d < N := by decide) : WF Tryz.prog G ob wr rd N ds (o :: l) E H n K :=
  WF.make hw hwr hX hXn (fun b hb2 => by
    rcases hb with e | e
    · rw [nodup_at hnd hb2 (e ▸ hX)]; unfold fpL; rw [hwr]; simp
    · exact absurd (List.mem_of_getElem? hb2) e) (fun Hx hx => by rw [hop]; exact hs Hx hx) (by rw [hdst]; simpa [dstOk] using hd) (by rw [hdst]; subst hn; exact h)
theorem FMN {ob : List Nat} {wr : List (Nat × Nat)} {rd : List (Nat × List Nat)} {N : Nat} {ds : List (Option Tmp)} {l : List Oper} {E : Env} {H : Heap} {n m : Nat} {K : Env → Heap → Nat → Prop} {o : Oper} {op : Op} {y : AV} {v : Ob} {G : Gv} (a X : Nat)
    (h : WF Tryz.prog G ob wr rd N ds l E (H.upd X v) m K)
    (hop : o.op = op := by rfl) (hdst : o.dst = none := by rfl) (hw : wantR ds E o.guard = some true := by exact vB)
    (hs : ∀ Hx : Heap, Agrees ob (fpL wr rd o) Hx H → stepOp Tryz.prog Hx n (Go.Big.look E) op = some (y, Hx.upd X v))
    (hn : n + 1 = m := by exact vG)
    (hwr : wrL wr o = some a := by rfl) (hX : ob[a]? = some X := by rfl) (hXn : X ≤ n := by omega) (hnd : ob.Nodup := by assumption) (hb : n = X ∨ n ∉ ob := by first | exact .inl rfl | exact .inr (by simp only [List.mem_cons, List.not_mem_nil, or_false, not_or]; omega)) : WF Tryz.prog G ob wr rd N ds (o :: l) E H n K :=
  WF.make hw hwr hX hXn (fun b hb2 => by
    rcases hb with e | e
    · rw [nodup_at hnd hb2 (e ▸ hX)]; unfold fpL; rw [hwr]; simp
    · exact absurd (List.mem_of_getElem? hb2) e) (fun Hx hx => by rw [hop]; exact hs Hx hx) (by rw [hdst]; rfl) (by rw [hdst]; subst hn; exact h)
theorem FS {ob : List Nat} {wr : List (Nat × Nat)} {rd : List (Nat × List Nat)} {N : Nat} {ds : List (Option Tmp)} {l : List Oper} {E : Env} {H : Heap} {n : Nat} {K : Env → Heap → Nat → Prop} {o : Oper} {d : Nat} {G : Gv}
    (h : WF Tryz.prog G ob wr rd N ds l (setF E d (.tup [])) H n K)
    (hdst : o.dst = some d := by rfl) (hw : wantR ds E o.guard = some false := by exact vC)
    (hd : d < N := by decide) : WF Tryz.prog G ob wr rd N ds (o :: l) E H n K :=
  WF.skip hw (by rw [hdst]; simpa [dstOk] using hd) (by rw [hdst]; exact h)
theorem FC {ob : List Nat} {wr : List (Nat × Nat)} {rd : List (Nat × List Nat)} {N : Nat} {ds : List (Option Tmp)} {l : List Oper} {E : Env} {H : Heap} {n m : Nat} {K : Env → Heap → Nat → Prop} {o : Oper} {c : Call} {f : FuncId} {args args' : List AV} {y : AV} {d : Nat} {G : Gv}
    (hF : Gives Tryz.prog G f args' y)
    (hg : ∀ Hx : Heap, Agrees ob (fpL wr rd o) Hx H → givesA Hx args = some args')
    (h : WF Tryz.prog G ob wr rd N ds l (setF E d y) H m K)
    (hop : o.op = .call c := by rfl) (hdst : o.dst = some d := by rfl) (hw : wantR ds E o.guard = some true := by exact vB)
    (hc : calleeA E c = some (f, args) := by exact vD)
    (hwr : wrL wr o = none := by rfl)
    (hf : (Tryz.prog.funcs[f]?).any (fun fn => fn.body.isSome && (fn.name != "runtime.NumGoroutine")) = true := by kernel_rfl)
    (hn : n + 1 = m := by exact vG)
    (hd : d < N := by decide) : WF Tryz.prog G ob wr rd N ds (o :: l) E H n K := by
  cases q : Tryz.prog.funcs[f]? with
  | none => rw [q] at hf; exact absurd hf (by simp)
  | some fn =>
    rw [q] at hf
    simp only [Option.any_some, Bool.and_eq_true, bne_iff_ne, ne_eq] at hf
    exact WF.callv hop hwr hw hc hg q hf.1 (by simpa using hf.2) (by rw [hdst]; simpa [dstOk] using hd) hF (by rw [hdst]; subst hn; exact h)
theorem FD (ob : List Nat) (wr : List (Nat × Nat)) (rd : List (Nat × List Nat)) (hnd : ob.Nodup) {N : Nat} {id : Nat} {os : List Oper} {ds : List (Option Tmp)} {E : Env} {H : Heap} {n : Nat} {K : Exit → Env → Heap → Nat → Prop} {G : Gv} (h : WF Tryz.prog G ob wr rd N ds os E H n (K .normal)) (hI : indepL wr rd os.toArray = true := by kernel_rfl) (hd : os.map (·.dst) = ds := by (generalize hq : List.map _ _ = q; simp only [List.map_cons, List.map_nil] at hq; subst hq; rfl)) : W Tryz.prog G N (.region id os.toArray true) E H n K :=
  .drawnl mixedF hI hnd h hd

theorem MN {N : Nat} {ds : List (Option Tmp)} {l : List Oper} {E : Env} {H : Heap} {n m : Nat} {K : Env → Heap → Nat → Prop} {o : Oper} {t : TypeId} {d : Nat} {G : Gv}
    (h : WR Tryz.prog G N ds l (setF E d (.own n 0)) (H.upd n (.mp fun _ _ => none)) m K)
    (hop : o.op = .makeMap t none := by rfl) (hdst : o.dst = some d := by rfl) (hw : wantR ds E o.guard = some true := by exact vB) (hn : n + 1 = m := by exact vG)
    (hd : d < N := by decide) : WR Tryz.prog G N ds (o :: l) E H n K :=
  .mapr hw (by rw [hop]; exact .new t) (by rw [hdst]; simpa [dstOk] using hd) (by rw [hdst]; subst hn; exact h)
theorem MP {N : Nat} {ds : List (Option Tmp)} {l : List Oper} {E : Env} {H : Heap} {n m : Nat} {K : Env → Heap → Nat → Prop} {o : Oper} {t : TypeId} {mm k x : Operand} {q e : Nat} {f : Int → Int → Option Int} {a b v : Int} {G : Gv}
    (hc : CellMap Tryz.prog t) (hwa : wf64 a) (hwb : wf64 b)
    (h : WR Tryz.prog G N ds l E (H.upd q (.mp (putM f a b v))) m K)
    (hop : o.op = .mapUpdate t mm k x := by rfl) (hdst : o.dst = none := by rfl) (hw : wantR ds E o.guard = some true := by exact vB)
    (h1 : Go.Big.look E mm = .own q e := by (generalize hq : Go.Big.look _ _ = q; simp only [beq_self_eq_true, look_tmp, look_int, look_bool, look_str, look_nil, look_func, setF_if, argE, List.getElem?_cons_zero, List.getElem?_cons_succ, List.getElem?_nil, Option.getD_some, Option.getD_none, Option.map_some, Option.map_none, List.length_cons, List.length_nil, List.length_map, List.map_cons, List.map_nil, List.take_succ_cons, List.take_zero, List.drop_succ_cons, List.drop_zero, List.set_cons_zero, List.set_cons_succ, List.all_cons, List.all_nil, List.cons_append, List.nil_append, Bool.and_true, Bool.true_and, Bool.and_self, Nat.reduceEqDiff, Nat.reduceAdd, Nat.reduceSub, Nat.reduceLeDiff, Nat.reduceLT, Nat.reduceMul, Nat.zero_add, Nat.add_zero, Nat.le_refl, reduceIte, decide_true, decide_false, or_true, true_or, or_self, or_false, false_or, and_true, true_and, and_self, and_false, false_and, not_true_eq_false, not_false_eq_true, reduceCtorEq, List.toList_toArray, Int.reduceToNat, Int.reduceLE, Int.reduceLT, Int.toNat_natCast, Int.natCast_nonneg, Int.le_refl, Array.toList_map, Option.getD, *] at hq; subst hq; rfl)) (h2 : mpOf (H q) = some f := by (generalize hq : mpOf _ = z; simp only [mpOf, upd_if, st_move, st_assign, st_pick, st_nil, st_un, st_ext, st_conv, st_len, st_min, st_max, st_append, st_clear, clearA, st_build, st_fn, st_store, st_alloc, st_box, st_makeSlice, st_buildSlice, st_load, st_bin, st_slice, st_fieldAddr, st_field, st_indexAddr, st_index, andH_some, pickA_b, nilA, unA, extA, convA, lenA, rowsA, loadA, cellsA, fieldAddrA, indexAddrA, elemA, liveB, binA, binI, binS, opMake, flatA, plainA, storeA, putA, avOf, ftag_0, ftag_1, ftag_2, fieldA, partA, buildA, placesA, fillA, goodZ, litRows, pvOf, pvsOf, tagOf, joinT, zeroRow, sliceA, boundA, upd_if, appendA, fitA, mmL, mmA, Bool.false_eq_true, neAdd, neLt, ltAdd, addNe, ltNe, Nat.left_eq_add, Nat.add_eq_left, Option.map_some, beq_self_eq_true, look_tmp, look_int, look_bool, look_str, look_nil, look_func, setF_if, argE, List.getElem?_cons_zero, List.getElem?_cons_succ, List.getElem?_nil, Option.getD_some, Option.getD_none, Option.map_some, Option.map_none, List.length_cons, List.length_nil, List.length_map, List.map_cons, List.map_nil, List.take_succ_cons, List.take_zero, List.drop_succ_cons, List.drop_zero, List.set_cons_zero, List.set_cons_succ, List.all_cons, List.all_nil, List.cons_append, List.nil_append, Bool.and_true, Bool.true_and, Bool.and_self, Nat.reduceEqDiff, Nat.reduceAdd, Nat.reduceSub, Nat.reduceLeDiff, Nat.reduceLT, Nat.reduceMul, Nat.zero_add, Nat.add_zero, Nat.le_refl, reduceIte, decide_true, decide_false, or_true, true_or, or_self, or_false, false_or, and_true, true_and, and_self, and_false, false_and, not_true_eq_false, not_false_eq_true, reduceCtorEq, List.toList_toArray, Int.reduceToNat, Int.reduceLE, Int.reduceLT, Int.toNat_natCast, Int.natCast_nonneg, Int.le_refl, Array.toList_map, Option.getD, *] at hq; subst hq; rfl)) (h3 : Go.Big.look E k = .ag [.i .i64 a, .i .i64 b] := by (generalize hq : Go.Big.look _ _ = q; simp only [beq_self_eq_true, look_tmp, look_int, look_bool, look_str, look_nil, look_func, setF_if, argE, List.getElem?_cons_zero, List.getElem?_cons_succ, List.getElem?_nil, Option.getD_some, Option.getD_none, Option.map_some, Option.map_none, List.length_cons, List.length_nil, List.length_map, List.map_cons, List.map_nil, List.take_succ_cons, List.take_zero, List.drop_succ_cons, List.drop_zero, List.set_cons_zero, List.set_cons_succ, List.all_cons, List.all_nil, List.cons_append, List.nil_append, Bool.and_true, Bool.true_and, Bool.and_self, Nat.reduceEqDiff, Nat.reduceAdd, Nat.reduceSub, Nat.reduceLeDiff, Nat.reduceLT, Nat.reduceMul, Nat.zero_add, Nat.add_zero, Nat.le_refl, reduceIte, decide_true, decide_false, or_true, true_or, or_self, or_false, false_or, and_true, true_and, and_self, and_false, false_and, not_true_eq_false, not_false_eq_true, reduceCtorEq, List.toList_toArray, Int.reduceToNat, Int.reduceLE, Int.reduceLT, Int.toNat_natCast, Int.natCast_nonneg, Int.le_refl, Array.toList_map, Option.getD, *] at hq; subst hq; rfl)) (h4 : Go.Big.look E x = .i .i64 v := by (generalize hq : Go.Big.look _ _ = q; simp only [beq_self_eq_true, look_tmp, look_int, look_bool, look_str, look_nil, look_func, setF_if, argE, List.getElem?_cons_zero, List.getElem?_cons_succ, List.getElem?_nil, Option.getD_some, Option.getD_none, Option.map_some, Option.map_none, List.length_cons, List.length_nil, List.length_map, List.map_cons, List.map_nil, List.take_succ_cons, List.take_zero, List.drop_succ_cons, List.drop_zero, List.set_cons_zero, List.set_cons_succ, List.all_cons, List.all_nil, List.cons_append, List.nil_append, Bool.and_true, Bool.true_and, Bool.and_self, Nat.reduceEqDiff, Nat.reduceAdd, Nat.reduceSub, Nat.reduceLeDiff, Nat.reduceLT, Nat.reduceMul, Nat.zero_add, Nat.add_zero, Nat.le_refl, reduceIte, decide_true, decide_false, or_true, true_or, or_self, or_false, false_or, and_true, true_and, and_self, and_false, false_and, not_true_eq_false, not_false_eq_true, reduceCtorEq, List.toList_toArray, Int.reduceToNat, Int.reduceLE, Int.reduceLT, Int.toNat_natCast, Int.natCast_nonneg, Int.le_refl, Array.toList_map, Option.getD, *] at hq; subst hq; rfl)) (hn : n + 1 = m := by exact vG) : WR Tryz.prog G N ds (o :: l) E H n K :=
  .mapr hw (by rw [hop]; exact .put t mm k x q e f a b v hc h1 (mpOf_eq h2) h3 hwa hwb h4) (by rw [hdst]; rfl) (by rw [hdst]; subst hn; exact h)
theorem MG {N : Nat} {ds : List (Option Tmp)} {l : List Oper} {E : Env} {H : Heap} {n m : Nat} {K : Env → Heap → Nat → Prop} {o : Oper} {t : TypeId} {mm k : Operand} {q e : Nat} {f : Int → Int → Option Int} {a b : Int} {d : Nat} {G : Gv}
    (hc : CellMap Tryz.prog t) (hwa : wf64 a) (hwb : wf64 b)
    (h : WR Tryz.prog G N ds l (setF E d (.tup [.i .i64 ((f a b).getD 0), .b (f a b).isSome])) H m K)
    (hop : o.op = .lookup t mm k true := by rfl) (hdst : o.dst = some d := by rfl) (hw : wantR ds E o.guard = some true := by exact vB)
    (h1 : Go.Big.look E mm = .own q e := by (generalize hq : Go.Big.look _ _ = q; simp only [beq_self_eq_true, look_tmp, look_int, look_bool, look_str, look_nil, look_func, setF_if, argE, List.getElem?_cons_zero, List.getElem?_cons_succ, List.getElem?_nil, Option.getD_some, Option.getD_none, Option.map_some, Option.map_none, List.length_cons, List.length_nil, List.length_map, List.map_cons, List.map_nil, List.take_succ_cons, List.take_zero, List.drop_succ_cons, List.drop_zero, List.set_cons_zero, List.set_cons_succ, List.all_cons, List.all_nil, List.cons_append, List.nil_append, Bool.and_true, Bool.true_and, Bool.and_self, Nat.reduceEqDiff, Nat.reduceAdd, Nat.reduceSub, Nat.reduceLeDiff, Nat.reduceLT, Nat.reduceMul, Nat.zero_add, Nat.add_zero, Nat.le_refl, reduceIte, decide_true, decide_false, or_true, true_or, or_self, or_false, false_or, and_true, true_and, and_self, and_false, false_and, not_true_eq_false, not_false_eq_true, reduceCtorEq, List.toList_toArray, Int.reduceToNat, Int.reduceLE, Int.reduceLT, Int.toNat_natCast, Int.natCast_nonneg, Int.le_refl, Array.toList_map, Option.getD, *] at hq; subst hq; rfl)) (h2 : mpOf (H q) = some f := by (generalize hq : mpOf _ = z; simp only [mpOf, upd_if, st_move, st_assign, st_pick, st_nil, st_un, st_ext, st_conv, st_len, st_min, st_max, st_append, st_clear, clearA, st_build, st_fn, st_store, st_alloc, st_box, st_makeSlice, st_buildSlice, st_load, st_bin, st_slice, st_fieldAddr, st_field, st_indexAddr, st_index, andH_some, pickA_b, nilA, unA, extA, convA, lenA, rowsA, loadA, cellsA, fieldAddrA, indexAddrA, elemA, liveB, binA, binI, binS, opMake, flatA, plainA, storeA, putA, avOf, ftag_0, ftag_1, ftag_2, fieldA, partA, buildA, placesA, fillA, goodZ, litRows, pvOf, pvsOf, tagOf, joinT, zeroRow, sliceA, boundA, upd_if, appendA, fitA, mmL, mmA, Bool.false_eq_true, neAdd, neLt, ltAdd, addNe, ltNe, Nat.left_eq_add, Nat.add_eq_left, Option.map_some, beq_self_eq_true, look_tmp, look_int, look_bool, look_str, look_nil, look_func, setF_if, argE, List.getElem?_cons_zero, List.getElem?_cons_succ, List.getElem?_nil, Option.getD_some, Option.getD_none, Option.map_some, Option.map_none, List.length_cons, List.length_nil, List.length_map, List.map_cons, List.map_nil, List.take_succ_cons, List.take_zero, List.drop_succ_cons, List.drop_zero, List.set_cons_zero, List.set_cons_succ, List.all_cons, List.all_nil, List.cons_append, List.nil_append, Bool.and_true, Bool.true_and, Bool.and_self, Nat.reduceEqDiff, Nat.reduceAdd, Nat.reduceSub, Nat.reduceLeDiff, Nat.reduceLT, Nat.reduceMul, Nat.zero_add, Nat.add_zero, Nat.le_refl, reduceIte, decide_true, decide_false, or_true, true_or, or_self, or_false, false_or, and_true, true_and, and_self, and_false, false_and, not_true_eq_false, not_false_eq_true, reduceCtorEq, List.toList_toArray, Int.reduceToNat, Int.reduceLE, Int.reduceLT, Int.toNat_natCast, Int.natCast_nonneg, Int.le_refl, Array.toList_map, Option.getD, *] at hq; subst hq; rfl)) (h3 : Go.Big.look E k = .ag [.i .i64 a, .i .i64 b] := by (generalize hq : Go.Big.look _ _ = q; simp only [beq_self_eq_true, look_tmp, look_int, look_bool, look_str, look_nil, look_func, setF_if, argE, List.getElem?_cons_zero, List.getElem?_cons_succ, List.getElem?_nil, Option.getD_some, Option.getD_none, Option.map_some, Option.map_none, List.length_cons, List.length_nil, List.length_map, List.map_cons, List.map_nil, List.take_succ_cons, List.take_zero, List.drop_succ_cons, List.drop_zero, List.set_cons_zero, List.set_cons_succ, List.all_cons, List.all_nil, List.cons_append, List.nil_append, Bool.and_true, Bool.true_and, Bool.and_self, Nat.reduceEqDiff, Nat.reduceAdd, Nat.reduceSub, Nat.reduceLeDiff, Nat.reduceLT, Nat.reduceMul, Nat.zero_add, Nat.add_zero, Nat.le_refl, reduceIte, decide_true, decide_false, or_true, true_or, or_self, or_false, false_or, and_true, true_and, and_self, and_false, false_and, not_true_eq_false, not_false_eq_true, reduceCtorEq, List.toList_toArray, Int.reduceToNat, Int.reduceLE, Int.reduceLT, Int.toNat_natCast, Int.natCast_nonneg, Int.le_refl, Array.toList_map, Option.getD, *] at hq; subst hq; rfl)) (hn : n + 1 = m := by exact vG) (hd : d < N := by decide) : WR Tryz.prog G N ds (o :: l) E H n K :=
  .mapr hw (by rw [hop]; exact .get t mm k q e f a b hc h1 (mpOf_eq h2) h3 hwa hwb) (by rw [hdst]; simpa [dstOk] using hd) (by rw [hdst]; subst hn; exact h)

theorem AL {p q : Prop} (h : q) (k : Hid q → p := by (intro hq; (repeat first | refine OP ?_ | refine SK ?_ | refine OPN ?_ | refine OM ?_ | refine SM ?_ | refine OMN ?_ | refine WM.nil ?_ | refine OQ ?_ | refine SQ ?_ | refine TH ?_ | refine WR.nil ?_ | refine WQ.nil ?_ | refine W.seq ?_ | refine W.region ?_ | refine DR ?_ | refine IFT ?_ | refine IFF ?_ | refine W.skip ?_ | refine W.block ?_ | refine W.exit ?_ | refine W.ret ?_ | (simp only [tN, tR, tE, rN, rR, rE, xN, xR, xE, reduceIte]) | refine DN ?_); exact hq.out)) : p := k ⟨h⟩
theorem AX {p q : Prop} (h : q) (k : Hid q → p := by (intro hq; (repeat first | refine OP ?_ | refine SK ?_ | refine OPN ?_ | refine OM ?_ | refine SM ?_ | refine OMN ?_ | refine WM.nil ?_ | refine OQ ?_ | refine SQ ?_ | refine TH ?_ | refine WR.nil ?_ | refine WQ.nil ?_ | refine W.seq ?_ | refine W.region ?_ | refine IFT ?_ | refine IFF ?_ | refine W.skip ?_ | refine W.block ?_ | refine W.exit ?_ | refine W.ret ?_ | (simp only [tN, tR, tE, rN, rR, rE, xN, xR, xE, reduceIte]) | refine DN ?_); exact hq.out)) : p := k ⟨h⟩
theorem AM {p q : Prop} (h : q) (k : Hid q → p := by (intro hq; (repeat first | refine OP ?_ | refine SK ?_ | refine OPN ?_ | refine OM ?_ | refine SM ?_ | refine OMN ?_ | refine WM.nil ?_ | refine OQ ?_ | refine SQ ?_ | refine TH ?_ | refine WR.nil ?_ | refine WQ.nil ?_ | refine W.seq ?_ | refine W.region ?_ | refine DM ?_ | refine IFT ?_ | refine IFF ?_ | refine W.skip ?_ | refine W.block ?_ | refine W.exit ?_ | refine W.ret ?_ | (simp only [tN, tR, tE, rN, rR, rE, xN, xR, xE, reduceIte]) | refine DN ?_); exact hq.out)) : p := k ⟨h⟩
theorem AG {p q : Prop} (h : q) (k : Hid q → p := by (intro hq; (repeat first | refine OP ?_ | refine SK ?_ | refine OPN ?_ | refine TH ?_ | refine WR.nil ?_ | refine W.seq ?_ | refine W.region ?_ | refine DR ?_); exact hq.out)) : p := k ⟨h⟩
theorem AQ {p q : Prop} (h : q) (k : Hid q → p := by (intro hq; (repeat first | refine OQ ?_ | refine SQ ?_ | refine TH ?_ | refine WQ.nil ?_ | refine W.seq ?_ | refine W.region ?_ | refine DR ?_ | refine OP ?_ | refine SK ?_ | refine WR.nil ?_); exact hq.out)) : p := k ⟨h⟩
end Go.Proofs
