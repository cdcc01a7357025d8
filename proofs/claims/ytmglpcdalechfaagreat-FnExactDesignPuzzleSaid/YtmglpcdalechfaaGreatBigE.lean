/- Regions whose operations may come up in any order, with some that change objects. No condition. -/
import Derived.Test.YtmglpcdalechfaaGreatBigD
set_option linter.unusedVariables false
set_option linter.unusedSimpArgs false
namespace Go.Big
variable {P : Program}
/-- What does not care in which place it comes up. -/
def frM (fs st : List Nat) (i : Nat) (o : Oper) : Bool := memFree o.op || stD st o && !mkF fs o.op
def Seqm (P : Program) (fs st : List Nat) (n0 : Nat) (N : Nat) (os : Array Oper) : List Nat → Env → Heap → Env → Heap → Prop
  | [], E, H, E', H' => E' = E ∧ H' = H
  | i :: l, E, H, E', H' => ∃ o y b H1, os[i]? = some o ∧ wantA os E o = some b ∧ dstOk N o.dst = true ∧ (b = true → OneM P fs st n0 N i o E y H H1) ∧ (b = false → y = .tup [] ∧ H1 = H) ∧ Seqm P fs st n0 N os l (putE E o.dst y) H1 E' H'
def EachM (P : Program) (fs st : List Nat) (n0 : Nat) (N : Nat) (os : Array Oper) (E : Env) (ys : Nat → AV) (HH : Nat → Heap) (i : Nat) : Prop :=
  ∃ o b, os[i]? = some o ∧ wantA os (seqE os ys E i) o = some b ∧ dstOk N o.dst = true ∧ (b = true → OneM P fs st n0 N i o (seqE os ys E i) (ys i) (HH i) (HH (i + 1))) ∧ (b = false → ys i = .tup [] ∧ HH (i + 1) = HH i)
theorem seqm_each {fs st : List Nat} {n0 : Nat} {N : Nat} {os : Array Oper} {E : Env} : ∀ {k s : Nat} {ys : Nat → AV} {H : Heap} {E' : Env} {H' : Heap}, Seqm P fs st n0 N os (List.range' s k) (seqE os ys E s) H E' H' → ∃ zs HH, (∀ j < s, zs j = ys j) ∧ HH s = H ∧ HH (s + k) = H' ∧ E' = seqE os zs E (s + k) ∧ ∀ i, s ≤ i → i < s + k → EachM P fs st n0 N os E zs HH i
  | 0, s, ys, H, E', H', h => ⟨ys, fun _ => H, fun _ _ => rfl, rfl, h.2.symm, h.1, fun i h1 h2 => by omega⟩
  | k + 1, s, ys, H, E', H', h => by
    obtain ⟨o, y, b, H1, h1, h2, h3, h4, h5, h6⟩ := h
    have hc : ∀ j < s, setF ys s y j = ys j := fun j hj => setF_ne _ _ (by omega)
    have e : putE (seqE os ys E s) o.dst y = seqE os (setF ys s y) E (s + 1) := by
      rw [seqE, setF_same, seqE_congr hc, dstAt, h1]; rfl
    rw [e] at h6
    obtain ⟨zs, HH, g1, g0, gH, g2, g3⟩ := seqm_each h6
    have hz : zs s = y := by rw [g1 s (by omega), setF_same]
    have hz' : ∀ j < s, zs j = ys j := fun j hj => (g1 j (by omega)).trans (hc j hj)
    have hn : ∀ j, j ≠ s → setF HH s H j = HH j := fun j hj => setF_ne _ _ hj
    refine ⟨zs, setF HH s H, hz', setF_same _ _ _, by rw [hn _ (by omega), show s + (k + 1) = s + 1 + k by omega]; exact gH, by rw [g2]; congr 1; omega, fun i h7 h8 => ?_⟩
    by_cases c : i = s
    · subst c
      refine ⟨o, b, h1, ?_, h3, ?_, ?_⟩
      · rw [seqE_congr hz']; exact h2
      · rw [seqE_congr hz', hz, setF_same, hn _ (by omega), g0]; exact h4
      · rw [hz, setF_same, hn _ (by omega), g0]; exact h5
    · obtain ⟨o', b', q1, q2, q3, q4, q5⟩ := g3 i (by omega) (by omega)
      exact ⟨o', b', q1, q2, q3, by rw [hn _ c, hn _ (by omega)]; exact q4, by rw [hn _ c, hn _ (by omega)]; exact q5⟩
variable {fs st : List Nat} {n0 : Nat}
def maker (fs : List Nat) (os : Array Oper) (i : Nat) : Prop := ∃ o, os[i]? = some o ∧ mkF fs o.op = true
theorem indepM_spec {os : Array Oper} (h : indepM fs st os = true) : indep os = true ∧ ∀ i j o, maker fs os j → os[i]? = some o → i ≠ j → frM fs st i o = true ∨ (i < j → forced os os.size j i = true) ∧ (j < i → forced os os.size i j = true) := by
  unfold indepM at h
  rw [Bool.and_eq_true, List.all_eq_true] at h
  refine ⟨h.1, ?_⟩
  rintro i j o ⟨p, hp, hm⟩ ho hij
  have hj : j < os.size := (Array.getElem?_eq_some_iff.mp hp).1
  have hi : i < os.size := (Array.getElem?_eq_some_iff.mp ho).1
  have h1 := h.2 j (List.mem_range.mpr hj)
  simp only [hp, hm, Bool.not_true, Bool.false_or, List.all_eq_true, List.mem_range] at h1
  have h2 := h1 i hi
  simp only [ho] at h2
  rw [Bool.or_eq_true, Bool.or_eq_true, beq_iff_eq] at h2
  rcases h2 with (h2 | h2) | h2
  · exact absurd h2 hij
  · exact .inl h2
  · refine .inr ⟨fun c => ?_, fun c => ?_⟩
    · rw [if_pos c] at h2; exact h2
    · rw [if_neg (by omega)] at h2; exact h2
theorem forced_listed {os : Array Oper} {listed : Array Bool} (hcl : ∀ i o, os[i]? = some o → listed.getD i false = true → ∀ e ∈ o.after, Region.binds .any e = true → listed.getD e.on false = true) :
    ∀ {f i j : Nat}, forced os f i j = true → (∀ o, os[i]? = some o → ∀ e ∈ o.after, Region.binds .any e = true → listed.getD e.on false = true) → listed.getD j false = true
  | 0, i, j, h, _ => by simp [forced] at h
  | f + 1, i, j, h, g => by
    simp only [forced] at h
    cases q : os[i]? with
    | none => rw [q] at h; simp at h
    | some o =>
      rw [q] at h
      obtain ⟨e, he, hb⟩ := Array.any_eq_true'.1 h
      simp only [Bool.and_eq_true, Bool.or_eq_true, beq_iff_eq] at hb
      have hl := g o q e he hb.1
      rcases hb.2 with rfl | hb2
      · exact hl
      · exact forced_listed hcl hb2 (fun o' ho' e' he' hb' => hcl _ o' ho' hl e' he' hb')
theorem hh_const {os : Array Oper} {N : Nat} {E : Env} {ys : Nat → AV} {HH : Nat → Heap} (hS : ∀ i, i < os.size → EachM P fs st n0 N os E ys HH i) : ∀ {d a : Nat}, a + d ≤ os.size → (∀ m, a ≤ m → m < a + d → ¬ maker fs os m) → HH (a + d) = HH a
  | 0, a, _, _ => rfl
  | d + 1, a, h, g => by
    rw [← Nat.add_assoc]
    obtain ⟨o, b, h1, h2, h3, h4, h5⟩ := hS (a + d) (by omega)
    have hm : mkF fs o.op = false := by
      cases q : mkF fs o.op with
      | false => rfl
      | true => exact absurd ⟨o, h1, q⟩ (g (a + d) (by omega) (by omega))
    have : HH (a + d + 1) = HH (a + d) := by
      cases b with
      | true => exact (h4 rfl).1 hm
      | false => exact (h5 rfl).2
    rw [this]
    exact hh_const hS (by omega) (fun m m1 m2 => g m m1 (by omega))
theorem hh_ag {os : Array Oper} {N : Nat} {E : Env} {ys : Nat → AV} {HH : Nat → Heap} (hS : ∀ i, i < os.size → EachM P fs st n0 N os E ys HH i) : ∀ {i : Nat}, i ≤ os.size → ∀ k, k < n0 → HH i k = HH 0 k
  | 0, _, _, _ => rfl
  | i + 1, h, k, hk => by
    obtain ⟨o, b, h1, h2, h3, h4, h5⟩ := hS i (by omega)
    have : HH (i + 1) k = HH i k := by
      cases b with
      | true => exact (h4 rfl).2.1 k hk
      | false => rw [(h5 rfl).2]
    rw [this]
    exact hh_ag hS (by omega) k hk
theorem any_okm {N : Nat} {os : Array Oper} {E : Env} {ys : Nat → AV} {HH : Nat → Heap} (hM : indepM fs st os = true) (hS : ∀ i, i < os.size → EachM P fs st n0 N os E ys HH i) {base : Nat} {Q : Exit → Act → World → Prop} {M0 : Mem} {a0 : Act}
    (hQ : ∀ M a, M.H = HH os.size → Step M0 M → Ok M base → Below base M0.w M.w → Er M N (seqE os ys E os.size) a → a.defers = a0.defers → Q .normal a M.w) :
    ∀ (fuel : Nat) (listed : Array Bool) (E1 : Env) (M : Mem) (a : Act), listed.size = os.size → listed.toList.count false ≤ fuel →
      (∀ i o, os[i]? = some o → listed.getD i false = true → ∀ e ∈ o.after, Region.binds .any e = true → listed.getD e.on false = true) →
      (∀ j t, listed.getD j false = true → dstAt os j = some t → E1 t = ys j) → (∀ t, (∀ j, listed.getD j false = true → dstAt os j ≠ some t) → E1 t = E t) →
      (∀ i, i ≤ os.size → (∀ m, maker fs os m → (listed.getD m false = true ↔ m < i)) → M.H = HH i) → (∀ k, k < n0 → M.H k = HH 0 k) → Step M0 M → Ok M base → Below base M0.w M.w → Er M N E1 a → a.defers = a0.defers → wpAny P .any os Q fuel listed a M.w := by
  have hI := (indepM_spec hM).1
  have hd : ∀ i j t, dstAt os i = some t → dstAt os j = some t → i = j := by
    intro i j t h1 h2
    by_cases c : j = i
    · exact c.symm
    · have h1' := h1
      unfold dstAt at h1'
      cases q : os[i]? with
      | none => rw [q] at h1'; simp at h1'
      | some o =>
        rw [q] at h1'
        exact absurd h1' ((indep_spec hI q).2 j t c h2).1
  have lt_of : ∀ {j : Nat} {t : Tmp}, dstAt os j = some t → j < os.size := by
    intro j t h
    unfold dstAt at h
    cases q : os[j]? with
    | none => rw [q] at h; simp at h
    | some _ => exact (Array.getElem?_eq_some_iff.mp q).1
  have unl : ∀ (listed : Array Bool) (i : Nat), listed.size = os.size → i < os.size → listed.getD i true = listed.getD i false := by
    intro listed i h1 h2
    have : i < listed.size := by omega
    simp [Array.getD, this]
  have fin : ∀ (listed : Array Bool) (E1 : Env), listed.size = os.size → Region.ready .any os listed = [] → (∀ j t, listed.getD j false = true → dstAt os j = some t → E1 t = ys j) → (∀ t, (∀ j, listed.getD j false = true → dstAt os j ≠ some t) → E1 t = E t) → E1 = seqE os ys E os.size ∧ ∀ i, i < os.size → listed.getD i false = true := by
    intro listed E1 hsz hr h1 h2
    have all : ∀ i, i < os.size → listed.getD i false = true := by
      intro i
      induction i using Nat.strongRecOn with
      | _ i ih =>
        intro hi
        by_cases c : listed.getD i false = true
        · exact c
        · have : i ∈ Region.ready .any os listed := by
            rw [mem_ready]
            obtain ⟨o, b, ho, _⟩ := hS i hi
            exact ⟨by rw [unl listed i hsz hi]; simpa using c, o, ho, fun e he hb => ih e.on ((indep_spec hI ho).1 e he hb) (by have := (indep_spec hI ho).1 e he hb; omega)⟩
          rw [hr] at this; simp at this
    refine ⟨?_, all⟩
    funext t
    obtain ⟨g1, g2⟩ := seqE_at (os := os) (ys := ys) (E := E) hd (t := t) os.size
    by_cases c : ∃ j, dstAt os j = some t
    · obtain ⟨j, hj⟩ := c
      rw [h1 j t (all j (lt_of hj)) hj, g1 j (lt_of hj) hj]
    · rw [h2 t (fun j _ hj => c ⟨j, hj⟩), g2 (fun j _ hj => c ⟨j, hj⟩)]
  have step : ∀ (fuel : Nat) (listed : Array Bool) (E1 : Env) (M : Mem) (a : Act), listed.size = os.size →
      (∀ i o, os[i]? = some o → listed.getD i false = true → ∀ e ∈ o.after, Region.binds .any e = true → listed.getD e.on false = true) →
      (∀ j t, listed.getD j false = true → dstAt os j = some t → E1 t = ys j) → (∀ t, (∀ j, listed.getD j false = true → dstAt os j ≠ some t) → E1 t = E t) → ∀ i o, os[i]? = some o → i ∈ Region.ready .any os listed → ∀ t ∈ o.looksAt os, E1 t = seqE os ys E i t := by
    intro fuel listed E1 M a hsz hcl h1 h2 i o ho hi t ht
    obtain ⟨g1, g2⟩ := seqE_at (os := os) (ys := ys) (E := E) hd (t := t) i
    obtain ⟨r1, o', ho', r2⟩ := mem_ready.1 hi
    rw [ho] at ho'; cases ho'
    have his : i < os.size := (Array.getElem?_eq_some_iff.mp ho).1
    rw [unl listed i hsz his] at r1
    by_cases c : ∃ j, dstAt os j = some t
    · obtain ⟨j, hj⟩ := c
      have only : ∀ k, dstAt os k = some t → k = j := fun k hk => hd k j t hk hj
      by_cases ji : j = i
      · subst ji
        rw [h2 t (fun k hk hkt => by rw [only k hkt] at hk; rw [hk] at r1; simp at r1), g2 (fun k hk hkt => by have := only k hkt; omega)]
      · rcases ((indep_spec hI ho).2 j t ji hj).2 ht with h3 | h3
        · obtain ⟨o2, q, e, he, hb, rfl⟩ := dep_spec h3
          rw [ho] at q; cases q
          rw [h1 e.on t (r2 e he hb) hj, g1 e.on ((indep_spec hI ho).1 e he hb) hj]
        · obtain ⟨o2, q, e, he, hb, rfl⟩ := dep_spec h3
          have hlt := (indep_spec hI q).1 e he hb
          rw [h2 t (fun k hk hkt => by
            rw [only k hkt] at hk
            have := hcl j o2 q hk e he hb
            rw [this] at r1; simp at r1), g2 (fun k hk hkt => by have := only k hkt; omega)]
    · rw [h2 t (fun k _ hk => c ⟨k, hk⟩), g2 (fun k _ hk => c ⟨k, hk⟩)]
  intro fuel
  induction fuel with
  | zero =>
    intro listed E1 M a hsz hc hcl h1 h2 hH hAg hst hok hb hE hdf
    have hr : Region.ready .any os listed = [] := by
      cases q : Region.ready .any os listed with
      | nil => rfl
      | cons i l =>
        exfalso
        have hi : i ∈ Region.ready .any os listed := by rw [q]; exact List.mem_cons_self
        obtain ⟨r1, o', ho', r2⟩ := mem_ready.1 hi
        have his : i < listed.size := by rw [hsz]; exact (Array.getElem?_eq_some_iff.mp ho').1
        have : false ∈ listed.toList := by
          simp only [Array.getD, his, dite_true] at r1
          rw [Array.mem_toList_iff]
          exact Array.mem_of_getElem r1
        have := List.count_pos_iff.mpr this
        omega
    refine ⟨hr, ?_⟩
    obtain ⟨e, all⟩ := fin listed E1 hsz hr h1 h2
    subst e
    exact hQ M a (hH os.size (Nat.le_refl _) (fun m hm => ⟨fun _ => by obtain ⟨o, ho, _⟩ := hm; exact (Array.getElem?_eq_some_iff.mp ho).1, fun q => all m q⟩)) hst hok hb hE hdf
  | succ fuel ih =>
    intro listed E1 M a hsz hc hcl h1 h2 hH hAg hst hok hb hE hdf
    refine ⟨fun hr => ?_, fun i hi => ?_⟩
    · obtain ⟨e, all⟩ := fin listed E1 hsz hr h1 h2
      subst e
      exact hQ M a (hH os.size (Nat.le_refl _) (fun m hm => ⟨fun _ => by obtain ⟨o, ho, _⟩ := hm; exact (Array.getElem?_eq_some_iff.mp ho).1, fun q => all m q⟩)) hst hok hb hE hdf
    · obtain ⟨r1, o, ho, r2⟩ := mem_ready.1 hi
      have his : i < os.size := (Array.getElem?_eq_some_iff.mp ho).1
      have hls : i < listed.size := by omega
      have look_eq := step fuel listed E1 M a hsz hcl h1 h2 i o ho hi
      obtain ⟨o', b, q1, q2, q3, q4, q5⟩ := hS i his
      rw [ho] at q1; cases q1
      have hw : wantA os E1 o = some b := by
        rw [← q2]
        unfold wantA
        cases hg : o.guard with
        | none => rfl
        | some p =>
          obtain ⟨j, want⟩ := p
          simp only
          cases hj : (os[j]?).bind (·.dst) with
          | none => rfl
          | some t =>
            simp only
            rw [look_eq t (by unfold Oper.looksAt; rw [hg]; simp [hj])]
      have gs : ∀ k, (listed.setIfInBounds i true).getD k false = true ↔ k = i ∨ listed.getD k false = true := by
        intro k
        by_cases c : k = i
        · subst c; simp [Array.getD, hls]
        · rw [getD_set_ne false (fun e => c e.symm)]; simp [c]
      have hcnt : (listed.setIfInBounds i true).toList.count false ≤ fuel := by
        rw [Array.toList_setIfInBounds, List.count_set (by simpa using hls)]
        rw [unl listed i hsz his] at r1
        have : listed.toList[i]'(by simpa using hls) = false := by
          simp only [Array.getD, hls, dite_true] at r1
          simpa using r1
        rw [this]
        have hpos : 0 < listed.toList.count false := List.count_pos_iff.mpr (by rw [← this]; exact List.getElem_mem _)
        rw [if_pos (by rfl), if_neg (by decide)]
        omega
      have cut : frM fs st i o = false → ∀ m, maker fs os m → (listed.getD m false = true ↔ m < i) := by
        intro hf m hm
        have r1' : listed.getD i false = false := by rw [unl listed i hsz his] at r1; exact r1
        by_cases c : i = m
        · subst c; simp [r1']
        · rcases (indepM_spec hM).2 i m o hm ho c with h | ⟨h3, h4⟩
          · rw [hf] at h; simp at h
          · constructor
            · intro hl
              by_cases c2 : i < m
              · have := forced_listed hcl (h3 c2) (fun o' ho' e' he' hb' => hcl m o' ho' hl e' he' hb')
                rw [r1'] at this; simp at this
              · omega
            · intro hl
              exact forced_listed hcl (h4 hl) (fun o' ho' e' he' hb' => by rw [ho] at ho'; cases ho'; exact r2 e' he' hb')
      have next : ∀ (y : AV) (v : Value) (M' : Mem), y = ys i → (M'.H = HH (i + 1) ∧ (frM fs st i o = false) ∨ M'.H = M.H ∧ (frM fs st i o = true ∨ HH (i + 1) = HH i)) → Step M M' → Ok M' base → Below base M.w M'.w → vrep M' y v → wpAny P .any os Q fuel (listed.setIfInBounds i true) (a.put o.dst v) M'.w := by
        intro y v M' hy e1 e2 e3 e4 e5
        subst hy
        have hdi : dstAt os i = o.dst := by unfold dstAt; rw [ho]; rfl
        refine ih _ (putE E1 o.dst (ys i)) M' (a.put o.dst v) (by simpa using hsz) hcnt ?_ ?_ ?_ ?_ ?_ (hst.trans e2) e3 (hb.trans e4) (hE.put e2 q3 e5) ((by cases o.dst <;> rfl : (a.put o.dst v).defers = a.defers).trans hdf)
        · intro k ok hk hkl e he hbe
          rw [gs] at hkl ⊢
          rcases hkl with rfl | hkl
          · rw [ho] at hk; cases hk
            exact .inr (r2 e he hbe)
          · exact .inr (hcl k ok hk hkl e he hbe)
        · intro j t hj hjt
          rw [gs] at hj
          by_cases c : j = i
          · subst c
            rw [hdi] at hjt; rw [hjt]; exact setF_same _ _ _
          · have hne : o.dst ≠ some t := fun e => c (hd j i t hjt (by rw [hdi, e]))
            have : putE E1 o.dst (ys i) t = E1 t := by
              cases q : o.dst with
              | none => rfl
              | some d => rw [q] at hne; exact setF_ne _ _ (fun e => hne (by rw [e]))
            rw [this]; exact h1 j t (hj.resolve_left c) hjt
        · intro t ht
          have hne : o.dst ≠ some t := fun e => ht i ((gs i).mpr (.inl rfl)) (by rw [hdi, e])
          have : putE E1 o.dst (ys i) t = E1 t := by
            cases q : o.dst with
            | none => rfl
            | some d => rw [q] at hne; exact setF_ne _ _ (fun e => hne (by rw [e]))
          rw [this]
          exact h2 t (fun j hj => ht j ((gs j).mpr (.inr hj)))
        · intro k hk hcut
          have r1' : listed.getD i false = false := by rw [unl listed i hsz his] at r1; exact r1
          by_cases mi : maker fs os i
          · have hnf : frM fs st i o = false := by
              obtain ⟨o2, h7, h8⟩ := mi
              rw [ho] at h7; cases h7
              have : memFree o.op = false := by
                cases q : o.op <;> rw [q] at h8 <;> first | rfl | simp [mkF, mkOp] at h8
              unfold frM
              rw [this, h8]; simp
            have hki : i < k := (hcut i mi).1 ((gs i).mpr (.inl rfl))
            rcases e1 with ⟨e1, _⟩ | ⟨e1, h9 | h9⟩
            · rw [e1]
              obtain ⟨d, rfl⟩ : ∃ d, k = i + 1 + d := ⟨k - (i + 1), by omega⟩
              refine (hh_const hS (by omega) (fun m m1 m2 hm => ?_)).symm
              have h7 := (hcut m hm).2 m2
              rw [gs] at h7
              have h8 := h7.resolve_left (by omega)
              have := (cut hnf m hm).1 h8
              omega
            · rw [hnf] at h9; simp at h9
            · rw [e1]
              have hi2 := hH i (by omega) (cut hnf)
              rw [hi2, ← h9]
              obtain ⟨d, rfl⟩ : ∃ d, k = i + 1 + d := ⟨k - (i + 1), by omega⟩
              refine (hh_const hS (by omega) (fun m m1 m2 hm => ?_)).symm
              have h7 := (hcut m hm).2 m2
              rw [gs] at h7
              have h8 := h7.resolve_left (by omega)
              have := (cut hnf m hm).1 h8
              omega
          · have hcut' : ∀ m, maker fs os m → (listed.getD m false = true ↔ m < k) := fun m hm => by
              rw [← hcut m hm, gs]
              exact ⟨.inr, fun h => h.resolve_left (fun e => mi (e ▸ hm))⟩
            have hk0 := hH k hk hcut'
            rcases e1 with ⟨e1, hnf⟩ | ⟨e1, _⟩
            · rw [e1, ← hk0, hH i (by omega) (cut hnf)]
              refine hh_const hS (d := 1) (by omega) (fun m m1 m2 hm => ?_)
              obtain rfl : m = i := by omega
              exact mi hm
            · rw [e1]; exact hk0
        · intro k hk
          rcases e1 with ⟨e1, _⟩ | ⟨e1, _⟩
          · rw [e1]; exact hh_ag hS (by omega) k hk
          · rw [e1]; exact hAg k hk
      unfold wpOp
      rw [ho]
      simp only [want_ok hE hw]
      cases b with
      | true =>
        rw [if_pos rfl]
        left
        have hx : ∃ Hy, ((M.H = HH i ∧ Hy = HH (i + 1)) ∨ (memFree o.op = true ∨ (stD st o = true ∧ mkF fs o.op = false) ∧ ∀ k, k < n0 → M.H k = HH i k) ∧ Hy = M.H) ∧ ∀ M' : Mem, M'.H = Hy → (M'.H = HH (i + 1) ∧ (frM fs st i o = false) ∨ M'.H = M.H ∧ (frM fs st i o = true ∨ HH (i + 1) = HH i)) := by
          cases q : frM fs st i o with
          | true =>
            refine ⟨M.H, .inr ⟨?_, rfl⟩, fun M' h => .inr ⟨h, .inl rfl⟩⟩
            unfold frM at q
            rw [Bool.or_eq_true, Bool.and_eq_true] at q
            rcases q with q | ⟨q, q'⟩
            · exact .inl q
            · exact .inr ⟨⟨q, by simpa using q'⟩, fun k hk => (hAg k hk).trans (hh_ag hS (by omega) k hk).symm⟩
          | false => exact ⟨HH (i + 1), .inl ⟨hH i (by omega) (cut q), rfl⟩, fun M' h => .inl ⟨h, rfl⟩⟩
        obtain ⟨Hy, hx1, hx2⟩ := hx
        refine (q4 rfl).2.2 M.H Hy hx1 E1 (fun x hx => ?_) M base a hok rfl hE _ Q (fun M' v e1 e2 e3 e4 e5 => next _ v M' rfl (hx2 M' e1) e2 e3 e4 e5)
        cases x with
        | tmp t => exact look_eq t (by unfold Oper.looksAt; simp only [List.mem_append, List.mem_filterMap]; exact .inl ⟨.tmp t, by simpa using hx, rfl⟩)
        | const v => rfl
        | global g => rfl
        | func f => rfl
      | false =>
        rw [if_neg (by simp)]
        exact next _ undef M (q5 rfl).1.symm (.inr ⟨rfl, .inr (q5 rfl).2⟩) (Step.refl M) hok (Below.refl _ _) ⟨#[], rfl, rfl⟩
end Go.Big
