/- How a function runs without memory: a relation by rules. No condition. -/
import Derived.Test.YtmglpcdalechfaaGreatBig13
import Derived.Calls
set_option linter.unusedVariables false
set_option linter.unusedSimpArgs false
namespace Go.Big
variable {P : Program}

/-- One operation that is no call of a function. -/
def stepOp (P : Program) (H : Heap) (n : Nat) (ρ : Operand → AV) : Op → Option (AV × Heap)
  | .store t a x => match flatA H (ρ x), sz? P t with
    | some l, some k => if l.length = k then (storeA H l (ρ a)).map fun H' => (.un, H') else none
    | _, _ => none
  | .call { callee := .builtin .append, args := args, argTypes := ts } => match args.toList, ts.toList with
    | [x, s], [t, t'] => if t = t' then appendA P H n t (ρ x) (ρ s) else none
    | _, _ => none
  | .call { callee := .builtin .clear, args := args, argTypes := ts } => match args.toList, ts.toList with
    | [x], [t] => clearA P H t (ρ x)
    | _, _ => none
  | o => match opPure P H ρ o with
    | some y => some (y, H)
    | none => opMake P H n ρ o
theorem stepOp_ok {M : Mem} {base n : Nat} (hok : Ok M base) (hn : M.H n = none) {ρ : Operand → AV} {ev : Operand → Value} (hρ : ∀ x, vrep M (ρ x) (ev x)) (o : Oper) {y : AV} {H' : Heap} (h : stepOp P M.H n ρ o.op = some (y, H')) :
    ∃ v w', ((execOp ev o).run P M.w = .ok (.value v) w' ∨ (execOp ev o).run P M.w = .ok .skip w' ∧ v = undef) ∧ To M base H' y w' v := by
  have gen : (match opPure P M.H ρ o.op with | some y => some (y, M.H) | none => opMake P M.H n ρ o.op) = some (y, H') → ∃ v w', ((execOp ev o).run P M.w = .ok (.value v) w' ∨ (execOp ev o).run P M.w = .ok .skip w' ∧ v = undef) ∧ To M base H' y w' v := by
    intro h
    cases q : opPure P M.H ρ o.op with
    | some z =>
      rw [q] at h
      simp only [Option.some.injEq, Prod.mk.injEq] at h
      obtain ⟨rfl, rfl⟩ := h
      obtain ⟨v, h1, h2⟩ := opPure_ok hok hρ o q
      exact ⟨v, M.w, .inl h1, To.same hok h2⟩
    | none =>
      rw [q] at h
      obtain ⟨v, w', h1, h2⟩ := opMake_ok hok hn hρ o h
      exact ⟨v, w', .inl h1, h2⟩
  unfold stepOp at h
  split at h
  · rename_i t a x hop
    split at h
    · rename_i l k hl hk
      split at h
      · rename_i c
        cases q : storeA M.H l (ρ a) with
        | none => rw [q] at h; simp at h
        | some H1 =>
          rw [q] at h
          simp only [Option.map_some, Option.some.injEq, Prod.mk.injEq] at h
          obtain ⟨rfl, rfl⟩ := h
          obtain ⟨f1, f2⟩ := flatA_ok hok (hρ x) hl
          obtain ⟨ad, w', e1, e2, e3⟩ := storeA_ok (P := P) hok (hρ a) f1 f2 q
          refine ⟨undef, w', .inr ⟨?_, rfl⟩, e3⟩
          unfold execOp
          rw [hop]
          have hs : (ev x).cells.size = k := by rw [← Array.length_toList, ← all2_len f1]; exact c
          simp only [Instr.storeAt, e1, Instr.sureAddr, storeVar, Sem.run_bind, Sem.run_pure, Result.andThen_ok, run_size hk]
          rw [if_neg (by simp [hs])]
          rw [e2]; rfl
      · simp at h
    · simp at h
  · rename_i args ts hop
    split at h
    · rename_i x s t t' q1 q2
      split at h
      · rename_i e0; subst e0
        obtain ⟨v', w', h1, h2⟩ := appendA_ok (P := P) (ty := o.type) hok hn (hρ x) (hρ s) h
        refine ⟨v', w', .inl ?_, h2⟩
        have e1 : args.map ev = #[ev x, ev s] := by
          apply Array.toList_inj.mp
          rw [Array.toList_map, q1]; rfl
        have e2 : ts = #[t, t] := Array.toList_inj.mp q2
        unfold execOp
        rw [hop]
        simp only [resolve, invoke, builtin, Sem.run_bind, Sem.run_pure, Result.andThen_ok, e1, e2, h1]
      · simp at h
    · simp at h
  · rename_i args ts hop
    split at h
    · rename_i x t q1 q2
      obtain ⟨w', h1, h2⟩ := clearA_ok (P := P) (ty := o.type) hok (hρ x) h
      refine ⟨_, w', .inl ?_, h2⟩
      have e1 : args.map ev = #[ev x] := by
        apply Array.toList_inj.mp
        rw [Array.toList_map, q1]; rfl
      have e2 : ts = #[t] := Array.toList_inj.mp q2
      unfold execOp
      rw [hop]
      simp only [resolve, invoke, builtin, Sem.run_bind, Sem.run_pure, Result.andThen_ok, e1, e2, h1]
    · simp at h
  · exact gen h

abbrev Env := Nat → AV
def look (E : Env) : Operand → AV
  | .tmp t => E t
  | .const v => ofC v
  | .global _ => .un
  | .func f => .fn f []
def putE (E : Env) (d : Option Tmp) (y : AV) : Env := match d with
  | some t => setF E t y
  | none => E
def dstOk (N : Nat) : Option Tmp → Bool
  | some t => decide (t < N)
  | none => true
/-- Whether a guarded operation is carried out. -/
def wantA (ops : Array Oper) (E : Env) (o : Oper) : Option Bool := match o.guard with
  | none => some true
  | some (j, want) => match (ops[j]?).bind (·.dst) with
    | some t => match E t with
      | .b b => some (b == want)
      | .tup _ => some false
      | _ => none
    | none => none
structure Er (M : Mem) (N : Nat) (E : Env) (a : Act) : Prop where
  size : a.tmps.size = N
  rep : ∀ t, vrep M (E t) (a.tmps.getD t undef)
theorem Er.look {M : Mem} {N : Nat} {E : Env} {a : Act} (h : Er M N E a) (x : Operand) : vrep M (look E x) (a.eval x) := by
  cases x with
  | tmp t => exact h.rep t
  | const v => exact ofC_ok v
  | global g => trivial
  | func f => exact ⟨#[], rfl, rfl⟩
theorem Er.put {M M' : Mem} {N : Nat} {E : Env} {a : Act} {d : Option Tmp} {y : AV} {v : Value} (h : Er M N E a) (hs : Step M M') (hd : dstOk N d = true) (hy : vrep M' y v) : Er M' N (putE E d y) (a.put d v) := by
  cases d with
  | none => exact ⟨h.size, fun t => vrep_step hs _ _ (h.rep t)⟩
  | some d =>
    simp only [dstOk, decide_eq_true_eq] at hd
    refine ⟨by simp [Act.put, h.size], fun t => ?_⟩
    simp only [Act.put, putE]
    by_cases c : t = d
    · subst c
      rw [setF_same]
      have hlt : t < a.tmps.size := by rw [h.size]; exact hd
      simpa [Array.getD, hlt] using hy
    · rw [setF_ne _ _ c]
      have := vrep_step hs _ _ (h.rep t)
      have e : (a.tmps.setIfInBounds d v).getD t undef = a.tmps.getD t undef := by
        simp only [Array.getD_eq_getD_getElem?]
        rw [Array.getElem?_setIfInBounds_ne (fun e => c e.symm)]
      rw [e]; exact this
theorem want_ok {M : Mem} {N : Nat} {E : Env} {a : Act} {ops : Array Oper} {o : Oper} {b : Bool} (h : Er M N E a) (hw : wantA ops E o = some b) : Region.wanted o (yielded ops a.tmps) = b := by
  unfold wantA at hw
  unfold Region.wanted
  split at hw
  · rename_i q; rw [q]; simpa using hw
  · rename_i j want q
    rw [q]
    simp only
    split at hw
    · rename_i t ht
      have hr := h.rep t
      split at hw
      · rename_i c hE
        rw [hE] at hr
        replace hr : a.tmps.getD t undef = .bool c := hr
        have hy : yielded ops a.tmps j = some c := by
          unfold yielded
          rw [ht]
          simp only [Option.bind_some]
          rw [Array.getD_eq_getD_getElem?] at hr
          cases q2 : a.tmps[t]? with
          | none => rw [q2] at hr; simp [undef] at hr
          | some u => rw [q2] at hr; simp only [Option.getD_some] at hr; rw [hr]
        rw [hy]
        simp only [Option.some.injEq] at hw
        rw [← hw]; simp
      · rename_i xs hE
        rw [hE] at hr
        obtain ⟨vs, hr, _⟩ := hr
        have hy : yielded ops a.tmps j = none := by
          unfold yielded
          rw [ht]
          simp only [Option.bind_some]
          rw [Array.getD_eq_getD_getElem?] at hr
          cases q2 : a.tmps[t]? with
          | none => rfl
          | some u => rw [q2] at hr; simp only [Option.getD_some] at hr; rw [hr]
        rw [hy]
        simp only [Option.some.injEq] at hw
        rw [← hw]; simp
      · simp at hw
    · simp at hw
end Go.Big
