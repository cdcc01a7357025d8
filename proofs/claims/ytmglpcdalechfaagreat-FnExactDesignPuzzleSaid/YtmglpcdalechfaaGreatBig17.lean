/- The machine does what the rules say. No condition. -/
import Derived.Test.YtmglpcdalechfaaGreatBigF
import Derived.Test.YtmglpcdalechfaaGreatBigW
set_option linter.unusedVariables false
set_option linter.unusedSimpArgs false
namespace Go.Big
variable {P : Program}

def free (H : Heap) (n : Nat) : Prop := ∀ k, n ≤ k → H k = none
theorem free_upd {H : Heap} {n o : Nat} {x : Ob} (h : free H n) (ho : o ≤ n) : free (H.upd o x) (n + 1) := fun k hk => by
  rw [Heap.upd_ne _ _ (by omega)]; exact h k (by omega)
theorem stepOp_free {H H1 : Heap} {n : Nat} {ρ : Operand → AV} {op : Op} {y : AV} (hf : free H n) (h : stepOp P H n ρ op = some (y, H1)) : free H1 (n + 1) := by
  have old : ∀ {o : Nat} {x : Ob}, H o = some x → o ≤ n := fun {o x} hx => by
    by_cases c : o ≤ n
    · exact c
    · rw [hf o (by omega)] at hx; simp at hx
  have same : free H (n + 1) := fun k hk => hf k (by omega)
  have gen : (match opPure P H ρ op with | some y => some (y, H) | none => opMake P H n ρ op) = some (y, H1) → free H1 (n + 1) := by
    intro h
    split at h
    · simp only [Option.some.injEq, Prod.mk.injEq] at h; obtain ⟨_, rfl⟩ := h; exact same
    · cases op <;> simp only [opMake] at h <;> try (simp at h; done)
      all_goals
        repeat' (split at h)
        all_goals first
          | (simp at h; done)
          | (simp only [Option.some.injEq, Prod.mk.injEq] at h; obtain ⟨_, rfl⟩ := h; exact free_upd hf (Nat.le_refl _))
  unfold stepOp at h
  split at h
  · split at h
    · split at h
      · obtain ⟨H2, q, e⟩ := Option.map_eq_some_iff.mp h
        simp only [Prod.mk.injEq] at e
        obtain ⟨_, rfl⟩ := e
        unfold storeA at q
        split at q
        · split at q
          · rename_i hx
            split at q
            · simp only [Option.some.injEq] at q; subst q; exact free_upd hf (old hx)
            · simp at q
          · rename_i hx
            split at q
            · split at q
              · split at q
                · simp only [Option.some.injEq] at q; subst q; exact free_upd hf (old hx)
                · simp at q
              · simp at q
            · simp at q
          · simp at q
        · simp at q
      · simp at h
    · simp at h
  · split at h
    · split at h
      · unfold appendA at h
        split at h
        · split at h
          · split at h
            · split at h
              · split at h
                · rename_i hx
                  split at h
                  · simp only [Option.some.injEq, Prod.mk.injEq] at h; obtain ⟨_, rfl⟩ := h; exact free_upd hf (old hx)
                  · simp at h
                · simp at h
              · split at h
                · rename_i hx
                  split at h
                  · simp only [Option.some.injEq, Prod.mk.injEq] at h; obtain ⟨_, rfl⟩ := h; exact free_upd hf (old hx)
                  · simp at h
                · simp at h
              · split at h
                · simp only [Option.some.injEq, Prod.mk.injEq] at h; obtain ⟨_, rfl⟩ := h; exact free_upd hf (Nat.le_refl _)
                · simp at h
              · simp at h
            · simp at h
          · simp at h
        · simp at h
      · simp at h
    · simp at h
  · split at h
    · unfold clearA at h
      split at h
      · split at h
        · split at h
          · rename_i hx
            split at h
            · simp only [Option.some.injEq, Prod.mk.injEq] at h; obtain ⟨_, rfl⟩ := h; exact free_upd hf (old hx)
            · simp at h
          · simp at h
        · simp at h
      · simp at h
    · simp at h
  · exact gen h
theorem mapStep_free {H H1 : Heap} {n : Nat} {ρ : Operand → AV} {op : Op} {y : AV} (hf : free H n) (h : MapStep P H n ρ op y H1) : free H1 (n + 1) := by
  have old : ∀ {o : Nat} {x : Ob}, H o = some x → o ≤ n := fun {o x} hx => by
    by_cases c : o ≤ n
    · exact c
    · rw [hf o (by omega)] at hx; simp at hx
  cases h with
  | new t => exact free_upd hf (Nat.le_refl _)
  | put t m k x q e f a b v hc hm hq hk hwa hwb hx => exact free_upd hf (old hq)
  | get t m k q e f a b hc hm hq hk hwa hwb => exact fun k hk => hf k (by omega)
/-- How memory stands behind a run. -/
structure Aft (M : Mem) (base : Nat) (H' : Heap) (n' : Nat) (M' : Mem) : Prop where
  H : M'.H = H'
  step : Step M M'
  ok : Ok M' base
  below : Below base M.w M'.w
  free : free H' n'
theorem Aft.trans {M M1 M2 : Mem} {base n1 n2 : Nat} {H1 H2 : Heap} (h : Aft M base H1 n1 M1) (g : Aft M1 base H2 n2 M2) : Aft M base H2 n2 M2 :=
  ⟨g.H, h.step.trans g.step, g.ok, h.below.trans g.below, g.free⟩
theorem Aft.refl {M : Mem} {base n : Nat} (hok : Ok M base) (hf : Big.free M.H n) : Aft M base M.H n M := ⟨rfl, Step.refl M, hok, Below.refl _ _, hf⟩
/-- What a run's judgement says of the machine. -/
def LoopWp (P : Program) (c : Code) (Q : Exit → Act → World → Prop) (a : Act) (w : World) : Prop :=
  ∀ (b : Frame) (k : List Item) (cs : List Frame), ∃ e a' w', Q e a' w' ∧ Arrives P (lone (b.at a (.code c :: .inLoop c :: k)) cs w) b k cs e a' w'
def After (M : Mem) (base N : Nat) (a : Act) (E' : Env) (H' : Heap) (n' : Nat) (R : Act → World → Prop) : Prop :=
  ∀ M' a', Aft M base H' n' M' → Er M' N E' a' → a'.defers = a.defers → R a' M'.w
def Says (P : Program) : J → Prop
  | .ops N os l E H n E' H' n' => ∀ (M : Mem) (base : Nat) (a : Act), Ok M base → M.H = H → free H n → Er M N E a → ∀ Q, After M base N a E' H' n' (Q .normal) → wpOps P os Q l a M.w
  | .code N c E H n x E' H' n' => ∀ (M : Mem) (base : Nat) (a : Act), Ok M base → M.H = H → free H n → Er M N E a → ∀ Q, After M base N a E' H' n' (Q x) → c.wp P Q a M.w
  | .loop N c E H n x E' H' n' => ∀ (M : Mem) (base : Nat) (a : Act), Ok M base → M.H = H → free H n → Er M N E a → ∀ Q, After M base N a E' H' n' (Q x) → LoopWp P c Q a M.w
  | .call f args H n r H' n' => ∀ (M : Mem) (base : Nat) (vs : List Value), Ok M base → M.H = H → free H n → all2 (vrep M) args vs → Calls P f vs.toArray M.w (fun e w' => ∃ v M', e = .returned v ∧ M'.w = w' ∧ Aft M base H' n' M' ∧ vrep M' r v)
  | .opsq N os l E H E' => Seqd P N os H l E E'
  | .opsl ob wr rd N os l E H n E' H' n' => free H n → free H' n' ∧ Seql P ob wr rd N os l E H E' H'
  | .opsm fs st n0 N os l E H n E' H' n' => free H n → free H' n' ∧ Seqm P fs st n0 N os l E H E' H'
/-- The contracts of functions that are shown otherwise hold. -/
def GvOk (P : Program) (G : Gv) : Prop := ∀ f args H n r H' n', G f args H n r H' n' → Says P (.call f args H n r H' n')

theorem wp_loop_one {c : Code} {Q : Exit → Act → World → Prop} {a : Act} {w : World} (h : c.wp P (Exit.then (fun a' w' => LoopWp P c Q a' w') Q) a w) : LoopWp P c Q a w := by
  intro b k cs
  obtain ⟨e, a₁, w₁, hq, harr⟩ := h b (.inLoop c :: k) cs
  cases e with
  | normal =>
    obtain ⟨e₂, a₂, w₂, hq₂, harr₂⟩ := hq b k cs
    exact ⟨e₂, a₂, w₂, hq₂, .of_steps (Steps.trans harr (.one step_inLoop)) harr₂⟩
  | exit id => exact ⟨_, a₁, w₁, hq, .pass (x := .inLoop c) rfl (fun _ _ => .inl (by simp)) harr⟩
  | goto l => exact ⟨_, a₁, w₁, hq, .pass (x := .inLoop c) rfl (fun _ _ => .inl (by simp)) harr⟩
  | ret => exact ⟨_, a₁, w₁, hq, .pass (x := .inLoop c) rfl (fun _ _ => .inl (by simp)) harr⟩
  | panic ch => exact ⟨_, a₁, w₁, hq, .pass (x := .inLoop c) rfl (fun _ _ => .inl (by simp)) harr⟩
  | outgrown => exact ⟨_, a₁, w₁, hq, .pass (x := .inLoop c) rfl (fun _ _ => .inl (by simp)) harr⟩
theorem wp_of_loop {c : Code} {Q : Exit → Act → World → Prop} {a : Act} {w : World} (h : LoopWp P c Q a w) : (Code.loop c).wp P Q a w := by
  intro b k cs
  obtain ⟨e, a', w', hq, harr⟩ := h b k cs
  exact ⟨e, a', w', hq, .of_steps (.one step_loop) harr⟩
theorem call_run {ev : Operand → Value} {o : Oper} {c : Call} {f : FuncId} {args : Array Value} {caps : Array Value} {fo : Operand} {fn : Func} {w : World} (hop : o.op = .call c) (hc : c.callee = .value fo) (hf : ev fo = .func (.func f) #[] caps) (hfn : P.funcs[f]? = some fn) (hb : fn.body.isSome = true) (hn : (fn.name == "runtime.NumGoroutine") = false) :
    (execOp ev o).run P w = .ok (.enter f (c.args.map ev ++ caps)) w := by
  unfold execOp
  rw [hop]
  have hb' : ¬ fn.body = none := by intro e; rw [e] at hb; simp at hb
  have hn' : ¬ fn.name = "runtime.NumGoroutine" := by simpa using hn
  simp [resolve, hc, Deferred.ofValue, hf, invoke, callFunc, run_program, hfn, hn', hb']

theorem all2_cons_inv {α β : Type} {R : α → β → Prop} {x : α} {xs : List α} {ys : List β} (h : all2 R (x :: xs) ys) : ∃ y r, ys = y :: r ∧ R x y ∧ all2 R xs r := by
  cases ys with
  | nil => exact h.elim
  | cons y r => exact ⟨y, r, rfl, h.1, h.2⟩
theorem callee_ok {M : Mem} {N : Nat} {E : Env} {a : Act} {c : Call} {f : FuncId} {args : List AV} (h : Er M N E a) (hc : calleeA E c = some (f, args)) : ∃ fo caps, c.callee = .value fo ∧ a.eval fo = .func (.func f) #[] caps ∧ all2 (vrep M) args (c.args.map a.eval ++ caps).toList := by
  unfold calleeA at hc
  split at hc
  · rename_i fo q
    have hf := h.look fo
    split at hc
    · rename_i g caps q2
      simp only [Option.some.injEq, Prod.mk.injEq] at hc
      obtain ⟨rfl, rfl⟩ := hc
      rw [q2] at hf
      obtain ⟨vs, e1, e2⟩ := hf
      refine ⟨fo, vs, q, e1, ?_⟩
      rw [Array.toList_append, Array.toList_map]
      exact all2_append (all2_ops (fun x => h.look x) _) (vreps_all2.mp e2)
    · simp at hc
  · simp at hc
theorem res_ok {M : Mem} {base N : Nat} {E : Env} {a : Act} (hok : Ok M base) (h : Er M N E a) : ∀ {rs : List ResultVar} {xs : List AV}, resA P M.H E rs = some xs → ∃ vs, (rs.mapM fun | .tmp t => pure (a.tmps.getD t undef) | .cell x t => do loadVar t (← asAddr (a.tmps.getD x undef)) : Sem (List Value)).run P M.w = .ok vs M.w ∧ all2 (vrep M) xs vs
  | [], xs, e => by simp only [resA, Option.some.injEq] at e; subst e; exact ⟨[], rfl, trivial⟩
  | .tmp t :: rs, xs, e => by
    simp only [resA] at e
    obtain ⟨ys, q, rfl⟩ := Option.map_eq_some_iff.mp e
    obtain ⟨vs, h1, h2⟩ := res_ok hok h q
    exact ⟨_ :: vs, by simp only [List.mapM_cons, Sem.run_bind, Sem.run_pure, Result.andThen_ok, h1], h.rep t, h2⟩
  | .cell x t :: rs, xs, e => by
    simp only [resA] at e
    split at e
    · rename_i y ys q1 q2
      simp only [Option.some.injEq] at e; subst e
      obtain ⟨vs, h1, h2⟩ := res_ok hok h q2
      obtain ⟨u, h3, h4⟩ := loadA_ok (P := P) hok (h.rep x) q1
      refine ⟨u :: vs, ?_, h4, h2⟩
      have h5 : (do loadVar t (← asAddr (a.tmps.getD x undef)) : Sem Value).run P M.w = .ok u M.w := by
        have hp : ∃ ad, a.tmps.getD x undef = .pointer (some ad) := by
          unfold loadA at q1
          have hv := h.rep x
          split at q1
          · split at q1
            · obtain ⟨l, q, _⟩ := Option.map_eq_some_iff.mp q1
              obtain ⟨ad, _, e, _⟩ := cellsA_ok hok hv q
              exact ⟨ad, e⟩
            · simp at q1
          · split at q1
            · rename_i q
              obtain ⟨ad, _, e, _⟩ := cellsA_ok hok hv q
              exact ⟨ad, e⟩
            · simp at q1
          · simp at q1
        obtain ⟨ad, e⟩ := hp
        rw [e] at h3 ⊢
        simpa [Instr.loadAt, Instr.sureAddr, asAddr] using h3
      rw [List.mapM_cons, Sem.run_bind]
      simp only at h5 ⊢
      rw [h5]
      simp only [Result.andThen_ok, Sem.run_bind, h1, Sem.run_pure]
    · simp at e
theorem opMake_congr {P : Program} {H : Heap} {n : Nat} {ρ ρ' : Operand → AV} (op : Op) (h : ∀ x ∈ op.operands, ρ x = ρ' x) : opMake P H n ρ op = opMake P H n ρ' op := by
  cases op <;> try rfl
  case buildSlice t len ps =>
    simp only [opMake]
    have : (ps.toList.map fun p => (p.1, ρ p.2)) = ps.toList.map fun p => (p.1, ρ' p.2) := List.map_congr_left fun p hp => by
      rw [h p.2 (by simp only [Op.operands, List.mem_toArray]; exact List.mem_map_of_mem hp)]
    rw [this]
  all_goals
    simp only [Op.operands, Array.mem_def, List.mem_cons, List.not_mem_nil, or_false, forall_eq_or_imp, forall_eq] at h
    simp only [opMake, h]
theorem stepOp_congr {P : Program} {H : Heap} {n : Nat} {ρ ρ' : Operand → AV} (op : Op) (h : ∀ x ∈ op.operands, ρ x = ρ' x) : stepOp P H n ρ op = stepOp P H n ρ' op := by
  have gen : (match opPure P H ρ op with | some y => some (y, H) | none => opMake P H n ρ op) = (match opPure P H ρ' op with | some y => some (y, H) | none => opMake P H n ρ' op) := by
    rw [opPure_congr op h, opMake_congr op h]
  cases op <;> try exact gen
  case store t a x =>
    simp only [Op.operands, Array.mem_def, List.mem_cons, List.not_mem_nil, or_false, forall_eq_or_imp, forall_eq] at h
    simp only [stepOp, h]
  case call c =>
    obtain ⟨callee, args, ts⟩ := c
    cases callee <;> try exact gen
    rename_i b
    have hall : args.toList.map ρ = args.toList.map ρ' := List.map_congr_left fun p hp => h p (by simpa [Op.operands, Call.operands] using hp)
    cases b <;> try exact gen
    · unfold stepOp
      simp only
      generalize args.toList = l at hall
      split
      · simp only [List.map_cons, List.map_nil, List.cons.injEq, and_true] at hall
        rw [hall.1, hall.2]
      · rfl
    · unfold stepOp
      simp only
      generalize args.toList = l at hall
      split
      · simp only [List.map_cons, List.map_nil, List.cons.injEq, and_true] at hall
        rw [hall]
      · rfl
theorem step_quiet {P : Program} {H H1 : Heap} {n : Nat} {ρ : Operand → AV} {op : Op} {y : AV} (hm : mkOp op = false) (h : stepOp P H n ρ op = some (y, H1)) : H1 = H ∧ opPure P H ρ op = some y := by
  have gen : opMake P H n ρ op = none → (match opPure P H ρ op with | some y => some (y, H) | none => opMake P H n ρ op) = some (y, H1) → H1 = H ∧ opPure P H ρ op = some y := by
    intro hn h
    split at h
    · rename_i z q
      simp only [Option.some.injEq, Prod.mk.injEq] at h
      obtain ⟨rfl, rfl⟩ := h
      exact ⟨rfl, q⟩
    · rw [hn] at h; simp at h
  cases op <;> first | (simp [mkOp] at hm; done) | exact gen rfl h | skip
  case call c =>
    obtain ⟨callee, args, ts⟩ := c
    cases callee <;> first | exact gen rfl h | skip
    rename_i b
    cases b <;> first | exact gen rfl h | (simp [mkOp] at hm; done)
theorem cut_low {H Hc : Heap} {n m k : Nat} (h : k < n) (hm : n ≤ m) : cutH m (bringH H Hc n) k = H k := by
  unfold cutH bringH
  rw [if_pos (by omega), if_pos h]
theorem mkF_not {fs : List Nat} {op : Op} (h : mkF fs op = false) : mkOp op = false := by
  unfold mkF at h
  rw [Bool.or_eq_false_iff] at h
  exact h.1
theorem free_quiet {op : Op} (h : memFree op = true) : mkOp op = false := by
  cases op <;> first | rfl | (simp [memFree] at h)
theorem free_heap {P : Program} {H H' : Heap} {ρ : Operand → AV} {op : Op} (h : memFree op = true) : opPure P H ρ op = opPure P H' ρ op := by
  cases op <;> first | rfl | (simp [memFree] at h)
theorem says {G : Gv} (hG : GvOk P G) {j : J} (h : Big P G j) : Says P j := by
  induction h with
  | nil =>
    intro M base a hok hH hf hE Q hQ
    subst hH
    exact hQ M a (Aft.refl hok hf) hE rfl
  | @op N os i l E H n E' H' n' o y H1 ho hw hs hd _ ih =>
    intro M base a hok hH hf hE Q hQ
    subst hH
    simp only [wpOps, ho, want_ok hE hw, if_true]
    obtain ⟨v, w', h1, ⟨⟨M', e1, e2, e3, e4, e5, e6⟩, e7⟩⟩ := stepOp_ok hok (hf n (Nat.le_refl _)) (fun x => hE.look x) o hs
    subst e1
    have hf1 := stepOp_free hf hs
    have haft : Aft M base H1 (n + 1) M' := ⟨e2, e4, e5, e7, hf1⟩
    have key : wpOps P os Q l (a.put o.dst v) M'.w := ih M' base _ e5 e2 hf1 (hE.put e4 hd e6) Q (fun M2 a2 g1 g2 g3 => hQ M2 a2 (haft.trans g1) g2 (g3.trans (by cases o.dst <;> rfl)))
    left
    unfold Oper.wp
    rcases h1 with h1 | ⟨h1, rfl⟩
    · rw [h1]; exact key
    · rw [h1]; exact key
  | @mapr N os i l E H n E' H' n' o y H1 ho hw hs hd _ ih =>
    intro M base a hok hH hf hE Q hQ
    subst hH
    simp only [wpOps, ho, want_ok hE hw, if_true]
    obtain ⟨v, w', h1, ⟨⟨M', e1, e2, e3, e4, e5, e6⟩, e7⟩⟩ := mapStep_ok hok (hf n (Nat.le_refl _)) (fun x => hE.look x) o hs
    subst e1
    have hf1 := mapStep_free hf hs
    have haft : Aft M base H1 (n + 1) M' := ⟨e2, e4, e5, e7, hf1⟩
    have key : wpOps P os Q l (a.put o.dst v) M'.w := ih M' base _ e5 e2 hf1 (hE.put e4 hd e6) Q (fun M2 a2 g1 g2 g3 => hQ M2 a2 (haft.trans g1) g2 (g3.trans (by cases o.dst <;> rfl)))
    left
    unfold Oper.wp
    rcases h1 with h1 | ⟨h1, rfl⟩
    · rw [h1]; exact key
    · rw [h1]; exact key
  | @skip N os i l E H n E' H' n' o ho hw hd _ ih =>
    intro M base a hok hH hf hE Q hQ
    simp only [wpOps, ho, want_ok hE hw, Bool.false_eq_true, if_false]
    exact ih M base _ hok hH hf (hE.put (Step.refl M) hd (show vrep M (.tup []) undef from ⟨#[], rfl, rfl⟩)) Q (fun M2 a2 g1 g2 g3 => hQ M2 a2 g1 g2 (g3.trans (by cases o.dst <;> rfl)))
  | @frz N os l E H n E' H' n' o e ty sz rows t s hx hs ht2 _ ih =>
    intro M base a hok hH hf hE Q hQ
    subst hH
    obtain ⟨s1, s2, s3⟩ := Mz_ok hok hx hs ht2
    have hf1 : free (frzH M.H o e s rows) n := by
      intro k hk
      unfold frzH
      rw [if_neg (fun h => by subst h; rw [hf k hk] at hx; simp at hx), hf k hk]; rfl
    have haft : Aft M base (frzH M.H o e s rows) n (Mz M o e s rows) := ⟨rfl, s1, s2, Below.refl _ _, hf1⟩
    exact ih (Mz M o e s rows) base a s2 rfl hf1 ⟨hE.size, fun t => s3 _ _ (hE.rep t)⟩ Q (fun M2 a2 g1 g2 g3 => hQ M2 a2 (haft.trans g1) g2 g3)
  | @trim N os l E H n E' H' n' d o e lo m ty sz rows t hd hx hm0 _ ih =>
    intro M base a hok hH hf hE Q hQ
    subst hH
    have hvd := hE.rep d
    rw [hd] at hvd
    obtain ⟨s1, s2, s3⟩ := Mt_ok hok hx hm0 hvd
    have hf1 : free (M.H.upd o (.arr (e + 1) ty sz ((rows.drop lo).take m) t)) n := by
      intro k hk
      rw [Heap.upd_ne _ _ (fun h => by subst h; rw [hf k hk] at hx; simp at hx)]
      exact hf k hk
    have haft : Aft M base (M.H.upd o (.arr (e + 1) ty sz ((rows.drop lo).take m) t)) n (Mt M o _ (.arr (e + 1) ty sz ((rows.drop lo).take m) t)) := ⟨rfl, s1, s2, Below.refl _ _, hf1⟩
    refine ih (Mt M o _ (.arr (e + 1) ty sz ((rows.drop lo).take m) t)) base a s2 rfl hf1 ⟨hE.size, fun k => ?_⟩ Q (fun M2 a2 g1 g2 g3 => hQ M2 a2 (haft.trans g1) g2 g3)
    by_cases c : k = d
    · subst c
      simp only [setF, if_true]
      exact s3
    · simp only [setF, if_neg c]
      exact vrep_step s1 _ _ (hE.rep k)
  | @trim0 N os l E H n E' H' n' d o e lo ty sz rows t hd hx _ ih =>
    intro M base a hok hH hf hE Q hQ
    subst hH
    have hvd := hE.rep d
    rw [hd] at hvd
    refine ih M base a hok rfl hf ⟨hE.size, fun k => ?_⟩ Q hQ
    by_cases c : k = d
    · subst c
      simp only [setF, if_true]
      exact vw0_ok hx hvd
    · simp only [setF, if_neg c]
      exact hE.rep k
  | @callv N os i l E H n E' H' n' o c f args args' r y Hc nc ho hw hop hcl hgv hfn _ hbk hd _ ihc ih =>
    intro M base a hok hH hf hE Q hQ
    subst hH
    simp only [wpOps, ho, want_ok hE hw, if_true]
    obtain ⟨fo, caps, q1, q2, q3⟩ := callee_ok hE hcl
    obtain ⟨fn, p1, p2, p3⟩ := hfn
    left
    unfold Oper.wp
    rw [call_run (args := #[]) hop q1 q2 p1 p2 p3, Oper.upon_enter]
    have hga := vreps_all2.mp (givesA_ok hok args (vreps_all2.mpr q3) hgv)
    have hcall := ihc (Mc M) M.w.heap.size (c.args.map a.eval ++ caps).toList (Mc_ok M) rfl (fun _ _ => rfl) hga
    simp only [Array.toArray_toList] at hcall
    refine hcall.mono ?_
    rintro e w' ⟨v, Mx, rfl, rfl, hx, hv⟩
    obtain ⟨s1, s2, s3⟩ := Mb_ok (Mx := Mx) hok hx.below
    have hy : vrep (Mb M Mx) y v := backA_ok hx.ok r hv (by rw [hx.H]; exact hbk)
    have hf1 : free M.H (n + 1) := fun k hk => hf k (by omega)
    have haft : Aft M base M.H (n + 1) (Mb M Mx) := ⟨rfl, s1, s2, s3, hf1⟩
    exact ih (Mb M Mx) base _ s2 rfl hf1 (hE.put s1 hd hy) Q (fun M2 a2 g1 g2 g3 => hQ M2 a2 (haft.trans g1) g2 (g3.trans (by cases o.dst <;> rfl)))
  | @callw N os i l E H n E' H' n' o c f args args' r y Hc nc m ho hw hop hcl hgv hfn _ hbk hd hm _ ihc ih =>
    intro M base a hok hH hf hE Q hQ
    subst hH
    simp only [wpOps, ho, want_ok hE hw, if_true]
    obtain ⟨fo, caps, q1, q2, q3⟩ := callee_ok hE hcl
    obtain ⟨fn, p1, p2, p3⟩ := hfn
    left
    unfold Oper.wp
    rw [call_run (args := #[]) hop q1 q2 p1 p2 p3, Oper.upon_enter]
    have hga := vreps_all2.mp (givesA_ok hok args (vreps_all2.mpr q3) hgv)
    have hcall := ihc (Mc M) M.w.heap.size (c.args.map a.eval ++ caps).toList (Mc_ok M) rfl (fun _ _ => rfl) hga
    simp only [Array.toArray_toList] at hcall
    refine hcall.mono ?_
    rintro e w' ⟨v, Mx, rfl, rfl, hx, hv⟩
    obtain ⟨s1, s2, s3⟩ := Mw_ok (Mx := Mx) (k := n) hok hf hx.ok hx.below
    have hy : vrep (Mw M Mx n) y v := bringA_ok hx.ok r hv hbk
    have hH1 : (Mw M Mx n).H = bringH M.H Hc n := by show bringH M.H Mx.H n = _; rw [hx.H]
    have hf1 : free (bringH M.H Hc n) m := fun k hk => by
      show (if k < n then _ else _) = _
      rw [if_neg (by omega), hx.free (k - n) (by omega)]; rfl
    have haft : Aft M base (bringH M.H Hc n) m (Mw M Mx n) := ⟨hH1, s1, s2, s3, hf1⟩
    exact ih (Mw M Mx n) base _ s2 hH1 hf1 (hE.put s1 hd hy) Q (fun M2 a2 g1 g2 g3 => hQ M2 a2 (haft.trans g1) g2 (g3.trans (by cases o.dst <;> rfl)))
  | @calli N os i l E H n E' H' n' o c f args r H1 n1 ho hw hop hcl hfn _ hd _ ihc ih =>
    intro M base a hok hH hf hE Q hQ
    simp only [wpOps, ho, want_ok hE hw, if_true]
    obtain ⟨fo, caps, q1, q2, q3⟩ := callee_ok hE hcl
    obtain ⟨fn, p1, p2, p3⟩ := hfn
    left
    unfold Oper.wp
    rw [call_run (args := #[]) hop q1 q2 p1 p2 p3, Oper.upon_enter]
    have hcall := ihc M base (c.args.map a.eval ++ caps).toList hok hH hf q3
    simp only [Array.toArray_toList] at hcall
    refine hcall.mono ?_
    rintro e w' ⟨v, Mx, rfl, rfl, hx, hv⟩
    exact ih Mx base _ hx.ok hx.H hx.free (hE.put hx.step hd hv) Q (fun M2 a2 g1 g2 g3 => hQ M2 a2 (hx.trans g1) g2 (g3.trans (by cases o.dst <;> rfl)))
  | qnil => rfl
  | @qop N os i l E H E' o y ho hw hs hd _ ih =>
    refine (⟨o, y, true, ho, hw, hd, ⟨fun _ => ?_, ⟨fun h => absurd h (by simp), ih⟩⟩⟩ : ∃ o y b, os[i]? = some o ∧ wantA os E o = some b ∧ dstOk N o.dst = true ∧ (b = true → OneOk P N H o E y) ∧ (b = false → y = .tup []) ∧ Seqd P N os H l (putE E o.dst y) E')
    intro E1 hag M base a hok hH hE K Q hK
    subst hH
    have hs' : opPure P M.H (look E1) o.op = some y := by rw [← hs]; exact opPure_congr _ hag
    obtain ⟨v, h1, h2⟩ := opPure_ok hok (fun x => hE.look x) o hs'
    unfold Oper.wp
    rw [h1]
    exact hK M v rfl (Step.refl M) hok (Below.refl _ _) h2
  | @qskip N os i l E H E' o ho hw hd _ ih => exact (⟨o, .tup [], false, ho, hw, hd, ⟨fun h => absurd h (by simp), ⟨fun _ => rfl, ih⟩⟩⟩ : ∃ o y b, os[i]? = some o ∧ wantA os E o = some b ∧ dstOk N o.dst = true ∧ (b = true → OneOk P N H o E y) ∧ (b = false → y = .tup []) ∧ Seqd P N os H l (putE E o.dst y) E')
  | @qcall N os i l E H E' o c f args args' r y Hc nc ho hw hop hcl hgv hfn _ hbk hd _ ihc ih =>
    refine (⟨o, y, true, ho, hw, hd, ⟨fun _ => ?_, ⟨fun h => absurd h (by simp), ih⟩⟩⟩ : ∃ o y b, os[i]? = some o ∧ wantA os E o = some b ∧ dstOk N o.dst = true ∧ (b = true → OneOk P N H o E y) ∧ (b = false → y = .tup []) ∧ Seqd P N os H l (putE E o.dst y) E')
    intro E1 hag M base a hok hH hE K Q hK
    subst hH
    have hcl' : calleeA E1 c = some (f, args) := by rw [← hcl]; exact calleeA_congr (fun x hx => hag x (by rw [hop]; exact hx))
    obtain ⟨fo, caps, q1, q2, q3⟩ := callee_ok hE hcl'
    obtain ⟨fn, p1, p2, p3⟩ := hfn
    unfold Oper.wp
    rw [call_run (args := #[]) hop q1 q2 p1 p2 p3, Oper.upon_enter]
    have hga := vreps_all2.mp (givesA_ok hok args (vreps_all2.mpr q3) hgv)
    have hcall := ihc (Mc M) M.w.heap.size (c.args.map a.eval ++ caps).toList (Mc_ok M) rfl (fun _ _ => rfl) hga
    simp only [Array.toArray_toList] at hcall
    refine hcall.mono ?_
    rintro e w' ⟨v, Mx, rfl, rfl, hx, hv⟩
    obtain ⟨s1, s2, s3⟩ := Mb_ok (Mx := Mx) hok hx.below
    exact hK (Mb M Mx) v rfl s1 s2 s3 (backA_ok hx.ok r hv (by rw [hx.H]; exact hbk))
  | @drawn N id os E H n E' hm hI _ ih =>
    intro M base a hok hH hf hE Q hQ
    subst hH
    refine wp_region_any hm ?_
    have ih' : Seqd P N os M.H (List.range os.size) E E' := ih
    rw [List.range_eq_range'] at ih'
    obtain ⟨ys, _, e2, e3⟩ := seqd_each (s := 0) (ys := fun _ => .un) (E := E) ih'
    rw [Nat.zero_add] at e2 e3
    obtain ⟨s1, s2⟩ := quiet (M' := { M with w := { M.w with drawn := M.w.drawn + 1 } }) hok rfl rfl rfl (Nat.le_refl _) (fun _ _ => rfl)
    have hz : ∀ k, (Array.replicate os.size false).getD k false = false := fun k => by
      simp only [Array.getD]; split <;> simp
    exact any_ok hI (fun i hi => e3 i (Nat.zero_le _) hi) (M0 := { M with w := { M.w with drawn := M.w.drawn + 1 } }) (a0 := a)
      (fun M1 a1 g1 g2 g3 g4 g5 g6 => hQ M1 a1 ⟨g1, s1.trans g2, g3, (⟨rfl, rfl, rfl, Nat.le_refl _, fun _ _ => rfl, Nat.le_succ _⟩ : Below base M.w { M.w with drawn := M.w.drawn + 1 }).trans g4, hf⟩ (by rw [e2]; exact g5) g6)
      os.size (Array.replicate os.size false) E { M with w := { M.w with drawn := M.w.drawn + 1 } } a (by simp) (by simp [List.count_replicate]) (fun i o _ h => by rw [hz] at h; simp at h) (fun j t h => by rw [hz] at h; simp at h) (fun _ _ => rfl) rfl (Step.refl _) s2 (Below.refl _ _) ⟨hE.size, fun t => vrep_step s1 _ _ (hE.rep t)⟩ rfl
  | mnil => exact fun hf => ⟨hf, rfl, rfl⟩
  | @mop fs st n0 N os i l E H n E' H' n' o y H1 ho hw hs hd hag0 hst0 _ ih =>
    intro hf
    have hf1 := stepOp_free hf hs
    obtain ⟨g1, g2⟩ := ih hf1
    refine ⟨g1, o, y, true, H1, ho, hw, hd, fun _ => ⟨fun hm => (step_quiet (mkF_not hm) hs).1, hag0, ?_⟩, fun h => absurd h (by simp), g2⟩
    intro Hx Hy hxy E1 hag M base a hok hH hE K Q hK
    replace hxy : Hx = H ∧ Hy = H1 ∨ memFree o.op = true ∧ Hy = Hx := hxy.imp id (fun h => ⟨h.1.resolve_right (fun q => by rw [hst0] at q; exact absurd q.1.1 (by simp)), h.2⟩)
    subst hH
    have hs' : stepOp P H n (look E1) o.op = some (y, H1) := by rw [← hs]; exact stepOp_congr _ hag
    rcases hxy with ⟨e1, e2⟩ | ⟨e1, e2⟩
    · subst e2
      rw [← e1] at hs'
      obtain ⟨v, w', h1, ⟨⟨M', k1, k2, k3, k4, k5, k6⟩, k7⟩⟩ := stepOp_ok hok (by rw [e1]; exact hf n (Nat.le_refl _)) (fun x => hE.look x) o hs'
      subst k1
      unfold Oper.wp
      rcases h1 with h1 | ⟨h1, rfl⟩
      · rw [h1]; exact hK M' v k2 k4 k5 k7 k6
      · rw [h1]; exact hK M' undef k2 k4 k5 k7 k6
    · have hp := (step_quiet (free_quiet e1) hs').2
      rw [free_heap e1 (H' := M.H)] at hp
      obtain ⟨v, h1, h2⟩ := opPure_ok hok (fun x => hE.look x) o hp
      unfold Oper.wp
      rw [h1]
      exact hK M v e2.symm (Step.refl M) hok (Below.refl _ _) h2
  | @mst fs st n0 N os i l E H n E' H' n' o y ho hw hst0 hmk0 hs hd _ ih =>
    intro hf
    obtain ⟨g1, g2⟩ := ih (fun k hk => hf k (by omega))
    refine ⟨g1, o, y, true, H, ho, hw, hd, fun _ => ⟨fun _ => rfl, fun _ _ => rfl, ?_⟩, fun h => absurd h (by simp), g2⟩
    intro Hx Hy hxy E1 hag M base a hok hH hE K Q hK
    subst hH
    have hp : opPure P M.H (look E1) o.op = some y := by
      rw [opPure_congr _ hag]
      rcases hxy with ⟨e1, _⟩ | ⟨e1 | e1, _⟩
      · exact hs _ (fun k _ => by rw [e1])
      · rw [free_heap e1 (H' := H)]; exact hs H (fun _ _ => rfl)
      · exact hs _ e1.2
    have hy : Hy = M.H := by
      rcases hxy with ⟨e1, e2⟩ | ⟨_, e2⟩
      · rw [e1, e2]
      · exact e2
    obtain ⟨v, h1, h2⟩ := opPure_ok hok (fun x => hE.look x) o hp
    unfold Oper.wp
    rw [h1]
    exact hK M v hy.symm (Step.refl M) hok (Below.refl _ _) h2
  | @mskip fs st n0 N os i l E H n E' H' n' o ho hw hd _ ih =>
    intro hf
    obtain ⟨g1, g2⟩ := ih hf
    exact ⟨g1, o, .tup [], false, H, ho, hw, hd, fun h => absurd h (by simp), fun _ => ⟨rfl, rfl⟩, g2⟩
  | @mcall fs st n0 N os i l E H n E' H' n' o c f args args' r y Hc nc ho hw hop hcl hgv hfn _ hbk hd hst0 _ ihc ih =>
    intro hf
    obtain ⟨z1, z2⟩ := ih (fun k hk => hf k (by omega))
    refine ⟨z1, o, y, true, H, ho, hw, hd, fun _ => ⟨fun _ => rfl, fun _ _ => rfl, ?_⟩, fun h => absurd h (by simp), z2⟩
    intro Hx Hy hxy E1 hag M base a hok hH hE K Q hK
    obtain ⟨rfl, rfl⟩ : Hx = H ∧ Hy = H := by
      rcases hxy with h | ⟨h | h, _⟩
      · exact h
      · rw [hop] at h; simp [memFree] at h
      · rw [hst0] at h; exact absurd h.1.1 (by simp)
    subst hH
    have hcl' : calleeA E1 c = some (f, args) := by rw [← hcl]; exact calleeA_congr (fun x hx => hag x (by rw [hop]; exact hx))
    obtain ⟨fo, caps, q1, q2, q3⟩ := callee_ok hE hcl'
    obtain ⟨fn, p1, p2, p3⟩ := hfn
    unfold Oper.wp
    rw [call_run (args := #[]) hop q1 q2 p1 p2 p3, Oper.upon_enter]
    have hga := vreps_all2.mp (givesA_ok hok args (vreps_all2.mpr q3) hgv)
    have hcall := ihc (Mc M) M.w.heap.size (c.args.map a.eval ++ caps).toList (Mc_ok M) rfl (fun _ _ => rfl) hga
    simp only [Array.toArray_toList] at hcall
    refine hcall.mono ?_
    rintro e w' ⟨v, Mx, rfl, rfl, hx, hv⟩
    obtain ⟨s1, s2, s3⟩ := Mb_ok (Mx := Mx) hok hx.below
    exact hK (Mb M Mx) v rfl s1 s2 s3 (backA_ok hx.ok r hv (by rw [hx.H]; exact hbk))
  | @mcallw fs st n0 N os i l E H n E' H' n' o c f args args' r y Hc nc m ho hw hop hmk hcl hgv hfn _ hbk hd hm hn0 _ ihc ih =>
    intro hf
    obtain ⟨z1, z2⟩ := ih (fun k hk => if_neg (by omega))
    refine ⟨z1, o, y, true, cutH m (bringH H Hc n), ho, hw, hd, fun _ => ⟨fun h => by rw [hop] at h; rw [hmk] at h; simp at h, fun k hk => cut_low (by omega) (by omega), ?_⟩, fun h => absurd h (by simp), z2⟩
    intro Hx Hy hxy E1 hag M base a hok hH hE K Q hK
    obtain ⟨rfl, rfl⟩ : Hx = H ∧ Hy = cutH m (bringH H Hc n) := by
      rcases hxy with h | ⟨h | h, _⟩
      · exact h
      · rw [hop] at h; simp [memFree] at h
      · rw [hop, hmk] at h; exact absurd h.1.2 (by simp)
    subst hH
    have hcl' : calleeA E1 c = some (f, args) := by rw [← hcl]; exact calleeA_congr (fun x hx => hag x (by rw [hop]; exact hx))
    obtain ⟨fo, caps, q1, q2, q3⟩ := callee_ok hE hcl'
    obtain ⟨fn, p1, p2, p3⟩ := hfn
    unfold Oper.wp
    rw [call_run (args := #[]) hop q1 q2 p1 p2 p3, Oper.upon_enter]
    have hga := vreps_all2.mp (givesA_ok hok args (vreps_all2.mpr q3) hgv)
    have hcall := ihc (Mc M) M.w.heap.size (c.args.map a.eval ++ caps).toList (Mc_ok M) rfl (fun _ _ => rfl) hga
    simp only [Array.toArray_toList] at hcall
    refine hcall.mono ?_
    rintro e w' ⟨v, Mx, rfl, rfl, hx, hv⟩
    obtain ⟨s1, s2, s3⟩ := Mw_ok (Mx := Mx) (k := n) hok hf hx.ok hx.below
    have hH1 : (Mw M Mx n).H = cutH m (bringH M.H Hc n) := by
      show bringH M.H Mx.H n = _
      rw [hx.H]
      funext k
      unfold cutH
      split
      · rfl
      · rename_i hk
        show (if k < n then _ else _) = _
        rw [if_neg (by omega), hx.free (k - n) (by omega)]; rfl
    exact hK (Mw M Mx n) v hH1 s1 s2 s3 (bringA_ok hx.ok r hv hbk)
  | @msem fs st n0 N os i l E H n E' H' n' o y H1 m ho hw hd hs _ ih =>
    intro hf
    obtain ⟨h1, h2⟩ := hs hf
    obtain ⟨g1, g2⟩ := ih h1
    exact ⟨g1, o, y, true, H1, ho, hw, hd, fun _ => h2, fun h => absurd h (by simp), g2⟩
  | @drawnm N id os E H n E' H' n' fs st n0 hm hI _ ih =>
    intro M base a hok hH hf hE Q hQ
    subst hH
    refine wp_region_any hm ?_
    obtain ⟨hf', ih'⟩ : free H' n' ∧ Seqm P fs st n0 N os (List.range os.size) E M.H E' H' := ih hf
    rw [List.range_eq_range'] at ih'
    obtain ⟨ys, HH, _, e0, e1, e2, e3⟩ := seqm_each (s := 0) (ys := fun _ => .un) (E := E) ih'
    rw [Nat.zero_add] at e1 e2 e3
    obtain ⟨s1, s2⟩ := quiet (M' := { M with w := { M.w with drawn := M.w.drawn + 1 } }) hok rfl rfl rfl (Nat.le_refl _) (fun _ _ => rfl)
    have hz : ∀ k, (Array.replicate os.size false).getD k false = false := fun k => by
      simp only [Array.getD]; split <;> simp
    refine any_okm hI (fun i hi => e3 i (Nat.zero_le _) hi) (M0 := { M with w := { M.w with drawn := M.w.drawn + 1 } }) (a0 := a)
      (fun M1 a1 g1 g2 g3 g4 g5 g6 => hQ M1 a1 ⟨g1.trans e1, s1.trans g2, g3, (⟨rfl, rfl, rfl, Nat.le_refl _, fun _ _ => rfl, Nat.le_succ _⟩ : Below base M.w { M.w with drawn := M.w.drawn + 1 }).trans g4, hf'⟩ (by rw [e2]; exact g5) g6)
      os.size (Array.replicate os.size false) E { M with w := { M.w with drawn := M.w.drawn + 1 } } a (by simp) (by simp [List.count_replicate]) (fun i o _ h => by rw [hz] at h; simp at h) (fun j t h => by rw [hz] at h; simp at h) (fun _ _ => rfl) (fun k hk hc => ?_) (fun k _ => (congrFun e0 k).symm) (Step.refl _) s2 (Below.refl _ _) ⟨hE.size, fun t => vrep_step s1 _ _ (hE.rep t)⟩ rfl
    have : ∀ m, maker fs os m → ¬ m < k := fun m hm => by
      rw [← hc m hm, hz]; simp
    rw [← e0]
    obtain ⟨d, rfl⟩ : ∃ d, k = 0 + d := ⟨k, by omega⟩
    exact (hh_const (fun i hi => e3 i (Nat.zero_le _) hi) (by omega) (fun m _ m2 hm => this m hm m2)).symm
  | lnil => exact fun hf => ⟨hf, rfl, rfl⟩
  | @lq ob wr rd N os i l E H n E' H' n' o y ho hw hwr hs hd _ ih =>
    intro hf
    obtain ⟨g1, g2⟩ := ih (fun k hk => hf k (by omega))
    refine ⟨g1, o, y, true, H, ho, hw, hd, fun _ => ⟨fun _ _ => rfl, ?_⟩, fun h => absurd h (by simp), g2⟩
    intro Hx hxy E1 hag M base a hok hH hE K Q hK
    subst hH
    have hp : opPure P M.H (look E1) o.op = some y := by rw [opPure_congr _ hag]; exact hs _ hxy
    obtain ⟨v, h1, h2⟩ := opPure_ok hok (fun x => hE.look x) o hp
    unfold Oper.wp
    rw [h1]
    exact hK M v (fun _ _ => rfl) (fun b k hb _ => by rw [hwr] at hb; simp at hb) (Step.refl M) hok (Below.refl _ _) h2
  | @lm ob wr rd N os i l E H n E' H' n' o y a X v ho hw hwr hX hXn hb hs hd _ ih =>
    intro hf
    obtain ⟨g1, g2⟩ := ih (free_upd hf hXn)
    have hoff : ∀ k, offW ob wr o k → k ≠ X := fun k hk e => hk a hwr (e ▸ hX)
    refine ⟨g1, o, y, true, H.upd X v, ho, hw, hd, fun _ => ⟨fun k hk => Heap.upd_ne _ _ (hoff k hk), ?_⟩, fun h => absurd h (by simp), g2⟩
    intro Hx hxy E1 hag M base act hok hH hE K Q hK
    subst hH
    have hs' : stepOp P M.H n (look E1) o.op = some (y, M.H.upd X v) := by rw [stepOp_congr _ hag]; exact hs _ hxy
    have hn0 : M.H n = none := by rw [hxy n hb]; exact hf n (Nat.le_refl _)
    obtain ⟨u, w', h1, ⟨⟨M', k1, k2, k3, k4, k5, k6⟩, k7⟩⟩ := stepOp_ok hok hn0 (fun x => hE.look x) o hs'
    subst k1
    have c1 : ∀ k, offW ob wr o k → M'.H k = M.H k := fun k hk => by rw [k2]; exact Heap.upd_ne _ _ (hoff k hk)
    have c2 : ∀ b k, wrL wr o = some b → ob[b]? = some k → M'.H k = (H.upd X v) k := fun b k hb' hk => by
      rw [hwr] at hb'; cases hb'
      rw [hX] at hk; cases hk
      rw [k2, Heap.upd_same, Heap.upd_same]
    unfold Oper.wp
    rcases h1 with h1 | ⟨h1, rfl⟩
    · rw [h1]; exact hK M' u c1 c2 k4 k5 k7 k6
    · rw [h1]; exact hK M' undef c1 c2 k4 k5 k7 k6
  | @lskip ob wr rd N os i l E H n E' H' n' o ho hw hd _ ih =>
    intro hf
    obtain ⟨g1, g2⟩ := ih hf
    exact ⟨g1, o, .tup [], false, H, ho, hw, hd, fun h => absurd h (by simp), fun _ => ⟨rfl, rfl⟩, g2⟩
  | @lcall ob wr rd N os i l E H n E' H' n' o c f args args' r y Hc nc ho hw hwr hop hcl hgv hfn _ hbk hd _ ihc ih =>
    intro hf
    obtain ⟨z1, z2⟩ := ih (fun k hk => hf k (by omega))
    refine ⟨z1, o, y, true, H, ho, hw, hd, fun _ => ⟨fun _ _ => rfl, ?_⟩, fun h => absurd h (by simp), z2⟩
    intro Hx hxy E1 hag M base a hok hH hE K Q hK
    subst hH
    have hcl' : calleeA E1 c = some (f, args) := by rw [← hcl]; exact calleeA_congr (fun x hx => hag x (by rw [hop]; exact hx))
    obtain ⟨fo, caps, q1, q2, q3⟩ := callee_ok hE hcl'
    obtain ⟨fn, p1, p2, p3⟩ := hfn
    unfold Oper.wp
    rw [call_run (args := #[]) hop q1 q2 p1 p2 p3, Oper.upon_enter]
    have hga := vreps_all2.mp (givesA_ok hok args (vreps_all2.mpr q3) (hgv _ hxy))
    have hcall := ihc (Mc M) M.w.heap.size (c.args.map a.eval ++ caps).toList (Mc_ok M) rfl (fun _ _ => rfl) hga
    simp only [Array.toArray_toList] at hcall
    refine hcall.mono ?_
    rintro e w' ⟨v, Mx, rfl, rfl, hx, hv⟩
    obtain ⟨s1, s2, s3⟩ := Mb_ok (Mx := Mx) hok hx.below
    exact hK (Mb M Mx) v (fun _ _ => rfl) (fun b k hb _ => by rw [hwr] at hb; simp at hb) s1 s2 s3 (backA_ok hx.ok r hv (by rw [hx.H]; exact hbk))
  | @lsem ob wr rd N os i l E H n E' H' n' o y H1 m ho hw hd hs _ ih =>
    intro hf
    obtain ⟨h1, h2⟩ := hs hf
    obtain ⟨g1, g2⟩ := ih h1
    exact ⟨g1, o, y, true, H1, ho, hw, hd, fun _ => h2, fun h => absurd h (by simp), g2⟩
  | @drawnl N id os E H n E' H' n' ob wr rd hm hI hnd _ ih =>
    intro M base a hok hH hf hE Q hQ
    subst hH
    refine wp_region_any hm ?_
    obtain ⟨hf', ih'⟩ : free H' n' ∧ Seql P ob wr rd N os (List.range os.size) E M.H E' H' := ih hf
    rw [List.range_eq_range'] at ih'
    obtain ⟨ys, HH, _, e0, e1, e2, e3⟩ := seql_each (s := 0) (ys := fun _ => .un) (E := E) ih'
    rw [Nat.zero_add] at e1 e2 e3
    obtain ⟨s1, s2⟩ := quiet (M' := { M with w := { M.w with drawn := M.w.drawn + 1 } }) hok rfl rfl rfl (Nat.le_refl _) (fun _ _ => rfl)
    have hz : ∀ k, (Array.replicate os.size false).getD k false = false := fun k => by
      simp only [Array.getD]; split <;> simp
    refine any_okl hI hnd (fun i hi => e3 i (Nat.zero_le _) hi) (M0 := { M with w := { M.w with drawn := M.w.drawn + 1 } }) (a0 := a)
      (fun M1 a1 g1 g2 g3 g4 g5 g6 => hQ M1 a1 ⟨g1.trans e1, s1.trans g2, g3, (⟨rfl, rfl, rfl, Nat.le_refl _, fun _ _ => rfl, Nat.le_succ _⟩ : Below base M.w { M.w with drawn := M.w.drawn + 1 }).trans g4, hf'⟩ (by rw [e2]; exact g5) g6)
      os.size (Array.replicate os.size false) E { M with w := { M.w with drawn := M.w.drawn + 1 } } a (by simp) (by simp [List.count_replicate]) (fun i o _ h => by rw [hz] at h; simp at h) (fun j t h => by rw [hz] at h; simp at h) (fun _ _ => rfl) (fun b k hb i hi hc => ?_) (fun k _ => (congrFun e0 k).symm) (Step.refl _) s2 (Below.refl _ _) ⟨hE.size, fun t => vrep_step s1 _ _ (hE.rep t)⟩ rfl
    have hno : ∀ m, makerA wr os b m → ¬ m < i := by
      intro m hm
      rw [← hc m hm, hz]; simp
    show M.H k = HH i k
    rw [← e0]
    obtain ⟨d, rfl⟩ : ∃ d, i = 0 + d := ⟨i, by omega⟩
    refine (hl_const (fun i hi => e3 i (Nat.zero_le _) hi) (by omega) (fun m o _ m2 ho c hc2 hck => ?_)).symm
    have : c = b := nodup_at hnd hck hb
    subst this
    exact hno m ⟨o, ho, hc2⟩ (by omega)
  | cskip =>
    intro M base a hok hH hf hE Q hQ
    subst hH
    exact wp_skip (hQ M a (Aft.refl hok hf) hE rfl)
  | region _ ih =>
    intro M base a hok hH hf hE Q hQ
    exact wp_region (ih M base a hok hH hf hE Q hQ)
  | seq _ _ ih1 ih2 =>
    intro M base a hok hH hf hE Q hQ
    exact wp_seq (ih1 M base a hok hH hf hE _ (fun M1 a1 g1 g2 g3 => ih2 M1 base a1 g1.ok g1.H g1.free g2 Q (fun M2 a2 k1 k2 k3 => hQ M2 a2 (g1.trans k1) k2 (k3.trans g3))))
  | @seqx N a b E H n x E' H' n' _ hx ih =>
    intro M base a hok hH hf hE Q hQ
    refine wp_seq (ih M base a hok hH hf hE _ (fun M1 a1 g1 g2 g3 => ?_))
    have := hQ M1 a1 g1 g2 g3
    cases x <;> first | exact absurd rfl hx | exact this
  | @cond N c p q E H n x E' H' n' t hc _ ih =>
    intro M base a hok hH hf hE Q hQ
    have hl := hE.look c
    rw [hc] at hl
    exact wp_cond hl (ih M base a hok hH hf hE Q hQ)
  | @block N id c E H n x E' H' n' _ ih =>
    intro M base a hok hH hf hE Q hQ
    refine wp_block (ih M base a hok hH hf hE _ (fun M1 a1 g1 g2 g3 => ?_))
    have := hQ M1 a1 g1 g2 g3
    cases x with
    | exit id' =>
      simp only [Exit.inBlock, exitB] at this ⊢
      split
      · rename_i c; rw [if_pos c] at this; exact this
      · rename_i c; rw [if_neg c] at this; exact this
    | _ => exact this
  | cloop _ ih =>
    intro M base a hok hH hf hE Q hQ
    exact wp_of_loop (ih M base a hok hH hf hE Q hQ)
  | lmore _ _ ih1 ih2 =>
    intro M base a hok hH hf hE Q hQ
    exact wp_loop_one (ih1 M base a hok hH hf hE _ (fun M1 a1 g1 g2 g3 => ih2 M1 base a1 g1.ok g1.H g1.free g2 Q (fun M2 a2 k1 k2 k3 => hQ M2 a2 (g1.trans k1) k2 (k3.trans g3))))
  | @lend N c E H n x E' H' n' _ hx ih =>
    intro M base a hok hH hf hE Q hQ
    refine wp_loop_one (ih M base a hok hH hf hE _ (fun M1 a1 g1 g2 g3 => ?_))
    have := hQ M1 a1 g1 g2 g3
    cases x <;> first | exact absurd rfl hx | exact this
  | exit =>
    intro M base a hok hH hf hE Q hQ
    subst hH
    exact wp_exit (hQ M a (Aft.refl hok hf) hE rfl)
  | ret =>
    intro M base a hok hH hf hE Q hQ
    subst hH
    exact wp_ret (hQ M a (Aft.refl hok hf) hE rfl)
  | @call f args H n E' H' n' fn c x xs hfn hb hlen _ hx hr ih =>
    intro M base vs hok hH hf hv
    have hl := all2_len hv
    refine calls_of_wp hfn hb (ih M base _ hok hH hf ⟨?_, fun t => ?_⟩ _ (fun M' a' g1 g2 g3 => ?_))
    · simp; omega
    · show vrep M (argE args t) _
      unfold argE
      simp only [Array.getD_eq_getD_getElem?]
      cases q : args[t]? with
      | none => exact trivial
      | some y =>
        obtain ⟨v, q1, q2⟩ := all2_get hv q
        have hlt := (List.getElem?_eq_some_iff.mp q1).1
        rw [Array.getElem?_append_left (by simpa using hlt)]
        simpa [q1] using q2
    · obtain ⟨us, r1, r2⟩ := res_ok (P := P) g1.ok g2 (by rw [g1.H]; exact hr)
      have hres : ∃ v, (results fn a'.tmps).run P M'.w = .ok v M'.w ∧ vrep M' (retA xs) v := by
        unfold results
        rw [Sem.run_bind, Array.mapM_eq_mapM_toList, map_eq_pure_bind, Sem.run_bind]
        erw [r1]
        simp only [Result.andThen_ok, Sem.run_pure]
        refine ⟨_, rfl, ?_⟩
        match xs, us, r2 with
        | [], [], _ => exact ⟨#[], rfl, rfl⟩
        | [x], [u], h => simpa [retA] using h.1
        | x :: x' :: xs, u :: u' :: us, h =>
          simp only [retA]
          rw [dif_neg (by simp)]
          exact ⟨_, rfl, vreps_all2.mpr h⟩
        | [x], u :: u' :: us, h => exact h.2.elim
        | x :: x' :: xs, [u], h => exact h.2.elim
      obtain ⟨v, h1, h2⟩ := hres
      rcases hx with rfl | rfl
      · exact ⟨g3, v, h1, v, M', rfl, rfl, g1, h2⟩
      · exact ⟨g3, v, h1, v, M', rfl, rfl, g1, h2⟩
  | given h => exact hG _ _ _ _ _ _ _ h
end Go.Big
