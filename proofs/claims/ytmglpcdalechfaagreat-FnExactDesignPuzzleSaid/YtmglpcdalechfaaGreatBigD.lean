/- Regions whose operations may come up in any order. No condition. -/
import Derived.Test.YtmglpcdalechfaaGreatBig16
import Derived.Orders
set_option linter.unusedVariables false
set_option linter.unusedSimpArgs false
namespace Go.Big
variable {P : Program}

theorem opPure_congr {H : Heap} {ρ ρ' : Operand → AV} (op : Op) (h : ∀ x ∈ op.operands, ρ x = ρ' x) : opPure P H ρ op = opPure P H ρ' op := by
  cases op <;> try rfl
  case slice t x lo hi mx =>
    cases mx with
    | some m => rfl
    | none =>
      simp only [opPure]
      have h0 : ρ x = ρ' x := h x (by simp [Op.operands])
      have h1 : lo.map ρ = lo.map ρ' := by cases lo with
        | none => rfl
        | some l => simp only [Option.map_some, Option.some.injEq]; exact h l (by simp [Op.operands])
      have h2 : hi.map ρ = hi.map ρ' := by cases hi with
        | none => rfl
        | some l => simp only [Option.map_some, Option.some.injEq]; exact h l (by simp [Op.operands])
      rw [h0, h1, h2]
  case build t ps =>
    simp only [opPure]
    have : (ps.toList.map fun p => (p.1, ρ p.2)) = ps.toList.map fun p => (p.1, ρ' p.2) := List.map_congr_left fun p hp => by
      rw [h p.2 (by simp only [Op.operands, List.mem_toArray]; exact List.mem_map_of_mem hp)]
    rw [this]
  case makeFunc fn first caps =>
    cases fn <;> try rfl
    simp only [opPure]
    have : caps.toList.map ρ = caps.toList.map ρ' := List.map_congr_left fun p hp => h p (by simp [Op.operands]; exact .inr (by simpa using hp))
    rw [this]
  case call c =>
    have hall : c.args.toList.map ρ = c.args.toList.map ρ' := List.map_congr_left fun p hp => h p (by simp [Op.operands, Call.operands]; exact .inr (by simpa using hp))
    obtain ⟨callee, args, ts⟩ := c
    cases callee <;> try rfl
    rename_i b
    cases b <;> try rfl
    · simp only [opPure]
      simp only at hall
      generalize args.toList = l at hall
      cases l with
      | nil => rfl
      | cons x xs => cases xs with
        | nil => simp only [List.map_cons, List.map_nil, List.cons.injEq, and_true] at hall; cases ts[0]? with
          | none => rfl
          | some t => show lenA P H t (ρ x) = lenA P H t (ρ' x); rw [hall]
        | cons => rfl
    all_goals (simp only [opPure]; rw [hall])
  all_goals
    simp only [Op.operands, Array.mem_def, List.mem_cons, List.not_mem_nil, or_false, forall_eq_or_imp, forall_eq] at h
    simp only [opPure, h]
theorem calleeA_congr {E E' : Env} {c : Call} (h : ∀ x ∈ c.operands, look E x = look E' x) : calleeA E c = calleeA E' c := by
  obtain ⟨callee, args, ts⟩ := c
  cases callee <;> try rfl
  rename_i f
  have hall : args.toList.map (look E) = args.toList.map (look E') := List.map_congr_left fun p hp => h p (by simp [Call.operands]; exact .inr (by simpa using hp))
  have hf : look E f = look E' f := h f (by simp [Call.operands])
  simp only [calleeA, hf, hall]
/-- One operation of such a region: it leaves the objects as they are. -/
def OneOk (P : Program) (N : Nat) (H : Heap) (o : Oper) (E : Env) (y : AV) : Prop :=
  ∀ (E' : Env), (∀ x ∈ o.op.operands, look E' x = look E x) → ∀ (M : Mem) (base : Nat) (a : Act), Ok M base → M.H = H → Er M N E' a → ∀ (K : Act → World → Prop) (Q : Exit → Act → World → Prop),
    (∀ M' v, M'.H = H → Step M M' → Ok M' base → Below base M.w M'.w → vrep M' y v → K (a.put o.dst v) M'.w) → o.wp P a M.w K Q
def Seqd (P : Program) (N : Nat) (os : Array Oper) (H : Heap) : List Nat → Env → Env → Prop
  | [], E, E' => E' = E
  | i :: l, E, E' => ∃ o y b, os[i]? = some o ∧ wantA os E o = some b ∧ dstOk N o.dst = true ∧ (b = true → OneOk P N H o E y) ∧ (b = false → y = .tup []) ∧ Seqd P N os H l (putE E o.dst y) E'
def dstAt (os : Array Oper) (i : Nat) : Option Tmp := (os[i]?).bind (·.dst)
def seqE (os : Array Oper) (ys : Nat → AV) (E : Env) : Nat → Env
  | 0 => E
  | i + 1 => putE (seqE os ys E i) (dstAt os i) (ys i)
theorem seqE_congr {os : Array Oper} {ys zs : Nat → AV} {E : Env} : ∀ {i : Nat}, (∀ j < i, ys j = zs j) → seqE os ys E i = seqE os zs E i
  | 0, _ => rfl
  | i + 1, h => by rw [seqE, seqE, seqE_congr (fun j hj => h j (by omega)), h i (by omega)]
/-- What holds of each operation in the order of the text. -/
def Each (P : Program) (N : Nat) (os : Array Oper) (H : Heap) (E : Env) (ys : Nat → AV) (i : Nat) : Prop :=
  ∃ o b, os[i]? = some o ∧ wantA os (seqE os ys E i) o = some b ∧ dstOk N o.dst = true ∧ (b = true → OneOk P N H o (seqE os ys E i) (ys i)) ∧ (b = false → ys i = .tup [])
theorem seqd_each {N : Nat} {os : Array Oper} {H : Heap} {E : Env} : ∀ {k s : Nat} {ys : Nat → AV} {E' : Env}, Seqd P N os H (List.range' s k) (seqE os ys E s) E' → ∃ zs, (∀ j < s, zs j = ys j) ∧ E' = seqE os zs E (s + k) ∧ ∀ i, s ≤ i → i < s + k → Each P N os H E zs i
  | 0, s, ys, E', h => ⟨ys, fun _ _ => rfl, h, fun i h1 h2 => by omega⟩
  | k + 1, s, ys, E', h => by
    obtain ⟨o, y, b, h1, h2, h3, h4, h5, h6⟩ := h
    have hc : ∀ j < s, setF ys s y j = ys j := fun j hj => setF_ne _ _ (by omega)
    have e : putE (seqE os ys E s) o.dst y = seqE os (setF ys s y) E (s + 1) := by
      rw [seqE, setF_same, seqE_congr hc, dstAt, h1]; rfl
    rw [e] at h6
    obtain ⟨zs, g1, g2, g3⟩ := seqd_each h6
    have hz : zs s = y := by rw [g1 s (by omega), setF_same]
    have hz' : ∀ j < s, zs j = ys j := fun j hj => (g1 j (by omega)).trans (hc j hj)
    refine ⟨zs, hz', by rw [g2]; congr 1; omega, fun i h7 h8 => ?_⟩
    by_cases c : i = s
    · subst c
      refine ⟨o, b, h1, ?_, h3, ?_, ?_⟩
      · rw [seqE_congr hz']; exact h2
      · rw [seqE_congr hz', hz]; exact h4
      · rw [hz]; exact h5
    · exact g3 i (by omega) (by omega)
theorem seqE_at {os : Array Oper} {ys : Nat → AV} {E : Env} (hd : ∀ i j t, dstAt os i = some t → dstAt os j = some t → i = j) {t : Tmp} : ∀ i, (∀ j, j < i → dstAt os j = some t → seqE os ys E i t = ys j) ∧ ((∀ j, j < i → dstAt os j ≠ some t) → seqE os ys E i t = E t)
  | 0 => ⟨fun j hj => by omega, fun _ => rfl⟩
  | i + 1 => by
    obtain ⟨h1, h2⟩ := seqE_at hd (t := t) i (ys := ys) (E := E)
    constructor
    · intro j hj hdj
      rw [seqE]
      by_cases c : j = i
      · subst c; rw [hdj]; exact setF_same _ _ _
      · cases q : dstAt os i with
        | none => exact h1 j (by omega) hdj
        | some d =>
          rw [putE, setF_ne _ _ (fun e => c (hd j i t hdj (by rw [q, e])))]
          exact h1 j (by omega) hdj
    · intro h
      rw [seqE]
      cases q : dstAt os i with
      | none => exact h2 (fun j hj => h j (by omega))
      | some d =>
        rw [putE, setF_ne _ _ (fun e => h i (by omega) (by rw [q, e]))]
        exact h2 (fun j hj => h j (by omega))
theorem indep_spec {os : Array Oper} (h : indep os = true) {i : Nat} {o : Oper} (ho : os[i]? = some o) :
    (∀ e ∈ o.after, Region.binds .any e = true → e.on < i) ∧ ∀ j t, j ≠ i → dstAt os j = some t → o.dst ≠ some t ∧ (t ∈ o.looksAt os → dep os i j = true ∨ dep os j i = true) := by
  have hi : i < os.size := (Array.getElem?_eq_some_iff.mp ho).1
  unfold indep at h
  rw [List.all_eq_true] at h
  have h1 := h i (List.mem_range.mpr hi)
  simp only [ho, Bool.and_eq_true, Array.all_eq_true_iff_forall_mem, Bool.or_eq_true, Bool.not_eq_true', decide_eq_true_eq, List.all_eq_true, List.mem_range, beq_iff_eq] at h1
  refine ⟨fun e he hb => ?_, fun j t hj hd => ?_⟩
  · rcases h1.1 e he with h2 | h2
    · rw [hb] at h2; simp at h2
    · exact h2
  · have hjs : j < os.size := by
      unfold dstAt at hd
      cases q : os[j]? with
      | none => rw [q] at hd; simp at hd
      | some _ => exact (Array.getElem?_eq_some_iff.mp q).1
    rcases h1.2 j hjs with h2 | h2
    · exact absurd h2 hj
    · unfold dstAt at hd
      rw [hd] at h2
      simp only [Bool.and_eq_true, bne_iff_ne, ne_eq, Bool.or_eq_true, Bool.not_eq_true'] at h2
      refine ⟨h2.1, fun ht => ?_⟩
      rcases h2.2 with (h3 | h3) | h3
      · rw [List.contains_iff_mem.mpr ht] at h3; simp at h3
      · exact .inl h3
      · exact .inr h3
theorem dep_spec {os : Array Oper} {i j : Nat} (h : dep os i j = true) : ∃ o, os[i]? = some o ∧ ∃ e ∈ o.after, Region.binds .any e = true ∧ e.on = j := by
  unfold dep at h
  cases q : os[i]? with
  | none => rw [q] at h; simp at h
  | some o =>
    rw [q] at h
    obtain ⟨e, he, hb⟩ := Array.any_eq_true'.1 h
    simp only [Bool.and_eq_true, beq_iff_eq] at hb
    exact ⟨o, rfl, e, he, hb.1, hb.2⟩
theorem any_ok {N : Nat} {os : Array Oper} {H : Heap} {E : Env} {ys : Nat → AV} (hI : indep os = true) (hS : ∀ i, i < os.size → Each P N os H E ys i) {base : Nat} {Q : Exit → Act → World → Prop} {M0 : Mem} {a0 : Act}
    (hQ : ∀ M a, M.H = H → Step M0 M → Ok M base → Below base M0.w M.w → Er M N (seqE os ys E os.size) a → a.defers = a0.defers → Q .normal a M.w) :
    ∀ (fuel : Nat) (listed : Array Bool) (E1 : Env) (M : Mem) (a : Act), listed.size = os.size → listed.toList.count false ≤ fuel →
      (∀ i o, os[i]? = some o → listed.getD i false = true → ∀ e ∈ o.after, Region.binds .any e = true → listed.getD e.on false = true) →
      (∀ j t, listed.getD j false = true → dstAt os j = some t → E1 t = ys j) → (∀ t, (∀ j, listed.getD j false = true → dstAt os j ≠ some t) → E1 t = E t) →
      M.H = H → Step M0 M → Ok M base → Below base M0.w M.w → Er M N E1 a → a.defers = a0.defers → wpAny P .any os Q fuel listed a M.w := by
  have hd : ∀ i j t, dstAt os i = some t → dstAt os j = some t → i = j := by
    intro i j t h1 h2
    by_cases c : j = i
    · exact c.symm
    · have h1' := h1
      unfold dstAt at h1'
      cases q : os[i]? with
      | none => rw [q] at h1'; simp at h1'
      | some o =>
        rw [q] at h1'
        exact absurd h1' ((indep_spec hI q).2 j t c h2).1
  have lt_of : ∀ {j : Nat} {t : Tmp}, dstAt os j = some t → j < os.size := by
    intro j t h
    unfold dstAt at h
    cases q : os[j]? with
    | none => rw [q] at h; simp at h
    | some _ => exact (Array.getElem?_eq_some_iff.mp q).1
  have unl : ∀ (listed : Array Bool) (i : Nat), listed.size = os.size → i < os.size → listed.getD i true = listed.getD i false := by
    intro listed i h1 h2
    have : i < listed.size := by omega
    simp [Array.getD, this]
  have fin : ∀ (listed : Array Bool) (E1 : Env), listed.size = os.size → Region.ready .any os listed = [] → (∀ j t, listed.getD j false = true → dstAt os j = some t → E1 t = ys j) → (∀ t, (∀ j, listed.getD j false = true → dstAt os j ≠ some t) → E1 t = E t) → E1 = seqE os ys E os.size := by
    intro listed E1 hsz hr h1 h2
    have all : ∀ i, i < os.size → listed.getD i false = true := by
      intro i
      induction i using Nat.strongRecOn with
      | _ i ih =>
        intro hi
        by_cases c : listed.getD i false = true
        · exact c
        · have : i ∈ Region.ready .any os listed := by
            rw [mem_ready]
            obtain ⟨o, b, ho, _⟩ := hS i hi
            exact ⟨by rw [unl listed i hsz hi]; simpa using c, o, ho, fun e he hb => ih e.on ((indep_spec hI ho).1 e he hb) (by have := (indep_spec hI ho).1 e he hb; omega)⟩
          rw [hr] at this; simp at this
    funext t
    obtain ⟨g1, g2⟩ := seqE_at (os := os) (ys := ys) (E := E) hd (t := t) os.size
    by_cases c : ∃ j, dstAt os j = some t
    · obtain ⟨j, hj⟩ := c
      rw [h1 j t (all j (lt_of hj)) hj, g1 j (lt_of hj) hj]
    · rw [h2 t (fun j _ hj => c ⟨j, hj⟩), g2 (fun j _ hj => c ⟨j, hj⟩)]
  have step : ∀ (fuel : Nat) (listed : Array Bool) (E1 : Env) (M : Mem) (a : Act), listed.size = os.size →
      (∀ i o, os[i]? = some o → listed.getD i false = true → ∀ e ∈ o.after, Region.binds .any e = true → listed.getD e.on false = true) →
      (∀ j t, listed.getD j false = true → dstAt os j = some t → E1 t = ys j) → (∀ t, (∀ j, listed.getD j false = true → dstAt os j ≠ some t) → E1 t = E t) → ∀ i o, os[i]? = some o → i ∈ Region.ready .any os listed → ∀ t ∈ o.looksAt os, E1 t = seqE os ys E i t := by
    intro fuel listed E1 M a hsz hcl h1 h2 i o ho hi t ht
    obtain ⟨g1, g2⟩ := seqE_at (os := os) (ys := ys) (E := E) hd (t := t) i
    obtain ⟨r1, o', ho', r2⟩ := mem_ready.1 hi
    rw [ho] at ho'; cases ho'
    have his : i < os.size := (Array.getElem?_eq_some_iff.mp ho).1
    rw [unl listed i hsz his] at r1
    by_cases c : ∃ j, dstAt os j = some t
    · obtain ⟨j, hj⟩ := c
      have only : ∀ k, dstAt os k = some t → k = j := fun k hk => hd k j t hk hj
      by_cases ji : j = i
      · subst ji
        rw [h2 t (fun k hk hkt => by rw [only k hkt] at hk; rw [hk] at r1; simp at r1), g2 (fun k hk hkt => by have := only k hkt; omega)]
      · rcases ((indep_spec hI ho).2 j t ji hj).2 ht with h3 | h3
        · obtain ⟨o2, q, e, he, hb, rfl⟩ := dep_spec h3
          rw [ho] at q; cases q
          rw [h1 e.on t (r2 e he hb) hj, g1 e.on ((indep_spec hI ho).1 e he hb) hj]
        · obtain ⟨o2, q, e, he, hb, rfl⟩ := dep_spec h3
          have hlt := (indep_spec hI q).1 e he hb
          rw [h2 t (fun k hk hkt => by
            rw [only k hkt] at hk
            have := hcl j o2 q hk e he hb
            rw [this] at r1; simp at r1), g2 (fun k hk hkt => by have := only k hkt; omega)]
    · rw [h2 t (fun k _ hk => c ⟨k, hk⟩), g2 (fun k _ hk => c ⟨k, hk⟩)]
  intro fuel
  induction fuel with
  | zero =>
    intro listed E1 M a hsz hc hcl h1 h2 hH hst hok hb hE hdf
    have hr : Region.ready .any os listed = [] := by
      cases q : Region.ready .any os listed with
      | nil => rfl
      | cons i l =>
        exfalso
        have hi : i ∈ Region.ready .any os listed := by rw [q]; exact List.mem_cons_self
        obtain ⟨r1, o', ho', r2⟩ := mem_ready.1 hi
        have his : i < listed.size := by rw [hsz]; exact (Array.getElem?_eq_some_iff.mp ho').1
        have : false ∈ listed.toList := by
          simp only [Array.getD, his, dite_true] at r1
          rw [Array.mem_toList_iff]
          exact Array.mem_of_getElem r1
        have := List.count_pos_iff.mpr this
        omega
    refine ⟨hr, ?_⟩
    have e := fin listed E1 hsz hr h1 h2
    subst e
    exact hQ M a hH hst hok hb hE hdf
  | succ fuel ih =>
    intro listed E1 M a hsz hc hcl h1 h2 hH hst hok hb hE hdf
    refine ⟨fun hr => ?_, fun i hi => ?_⟩
    · have e := fin listed E1 hsz hr h1 h2
      subst e
      exact hQ M a hH hst hok hb hE hdf
    · obtain ⟨r1, o, ho, r2⟩ := mem_ready.1 hi
      have his : i < os.size := (Array.getElem?_eq_some_iff.mp ho).1
      have hls : i < listed.size := by omega
      have look_eq := step fuel listed E1 M a hsz hcl h1 h2 i o ho hi
      obtain ⟨o', b, q1, q2, q3, q4, q5⟩ := hS i his
      rw [ho] at q1; cases q1
      have hw : wantA os E1 o = some b := by
        rw [← q2]
        unfold wantA
        cases hg : o.guard with
        | none => rfl
        | some p =>
          obtain ⟨j, want⟩ := p
          simp only
          cases hj : (os[j]?).bind (·.dst) with
          | none => rfl
          | some t =>
            simp only
            rw [look_eq t (by unfold Oper.looksAt; rw [hg]; simp [hj])]
      have gs : ∀ k, (listed.setIfInBounds i true).getD k false = true ↔ k = i ∨ listed.getD k false = true := by
        intro k
        by_cases c : k = i
        · subst c; simp [Array.getD, hls]
        · rw [getD_set_ne false (fun e => c e.symm)]; simp [c]
      have hcnt : (listed.setIfInBounds i true).toList.count false ≤ fuel := by
        rw [Array.toList_setIfInBounds, List.count_set (by simpa using hls)]
        rw [unl listed i hsz his] at r1
        have : listed.toList[i]'(by simpa using hls) = false := by
          simp only [Array.getD, hls, dite_true] at r1
          simpa using r1
        rw [this]
        have hpos : 0 < listed.toList.count false := List.count_pos_iff.mpr (by rw [← this]; exact List.getElem_mem _)
        rw [if_pos (by rfl), if_neg (by decide)]
        omega
      have next : ∀ (y : AV) (v : Value) (M' : Mem), y = ys i → M'.H = H → Step M M' → Ok M' base → Below base M.w M'.w → vrep M' y v → wpAny P .any os Q fuel (listed.setIfInBounds i true) (a.put o.dst v) M'.w := by
        intro y v M' hy e1 e2 e3 e4 e5
        subst hy
        have hdi : dstAt os i = o.dst := by unfold dstAt; rw [ho]; rfl
        refine ih _ (putE E1 o.dst (ys i)) M' (a.put o.dst v) (by simpa using hsz) hcnt ?_ ?_ ?_ e1 (hst.trans e2) e3 (hb.trans e4) (hE.put e2 q3 e5) ((by cases o.dst <;> rfl : (a.put o.dst v).defers = a.defers).trans hdf)
        · intro k ok hk hkl e he hbe
          rw [gs] at hkl ⊢
          rcases hkl with rfl | hkl
          · rw [ho] at hk; cases hk
            exact .inr (r2 e he hbe)
          · exact .inr (hcl k ok hk hkl e he hbe)
        · intro j t hj hjt
          rw [gs] at hj
          by_cases c : j = i
          · subst c
            rw [hdi] at hjt; rw [hjt]; exact setF_same _ _ _
          · have hne : o.dst ≠ some t := fun e => c (hd j i t hjt (by rw [hdi, e]))
            have : putE E1 o.dst (ys i) t = E1 t := by
              cases q : o.dst with
              | none => rfl
              | some d => rw [q] at hne; exact setF_ne _ _ (fun e => hne (by rw [e]))
            rw [this]; exact h1 j t (hj.resolve_left c) hjt
        · intro t ht
          have hne : o.dst ≠ some t := fun e => ht i ((gs i).mpr (.inl rfl)) (by rw [hdi, e])
          have : putE E1 o.dst (ys i) t = E1 t := by
            cases q : o.dst with
            | none => rfl
            | some d => rw [q] at hne; exact setF_ne _ _ (fun e => hne (by rw [e]))
          rw [this]
          exact h2 t (fun j hj => ht j ((gs j).mpr (.inr hj)))
      unfold wpOp
      rw [ho]
      simp only [want_ok hE hw]
      cases b with
      | true =>
        rw [if_pos rfl]
        left
        refine q4 rfl E1 (fun x hx => ?_) M base a hok hH hE _ Q (fun M' v e1 e2 e3 e4 e5 => next _ v M' rfl e1 e2 e3 e4 e5)
        cases x with
        | tmp t => exact look_eq t (by unfold Oper.looksAt; simp only [List.mem_append, List.mem_filterMap]; exact .inl ⟨.tmp t, by simpa using hx, rfl⟩)
        | const v => rfl
        | global g => rfl
        | func f => rfl
      | false =>
        rw [if_neg (by simp)]
        exact next _ undef M (q5 rfl).symm hH (Step.refl M) hok (Below.refl _ _) ⟨#[], rfl, rfl⟩
end Go.Big
