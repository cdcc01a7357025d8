/- Regions whose operations may come up in any order, each with the objects that it reads and writes. No condition. -/
import Derived.Test.YtmglpcdalechfaaGreatBigE
set_option linter.unusedVariables false
set_option linter.unusedSimpArgs false
namespace Go.Big
variable {P : Program}
variable {ob : List Nat} {wr : List (Nat × Nat)} {rd : List (Nat × List Nat)}
def Seql (P : Program) (ob : List Nat) (wr : List (Nat × Nat)) (rd : List (Nat × List Nat)) (N : Nat) (os : Array Oper) : List Nat → Env → Heap → Env → Heap → Prop
  | [], E, H, E', H' => E' = E ∧ H' = H
  | i :: l, E, H, E', H' => ∃ o y b H1, os[i]? = some o ∧ wantA os E o = some b ∧ dstOk N o.dst = true ∧ (b = true → OneL P ob wr rd N o E y H H1) ∧ (b = false → y = .tup [] ∧ H1 = H) ∧ Seql P ob wr rd N os l (putE E o.dst y) H1 E' H'
def EachL (P : Program) (ob : List Nat) (wr : List (Nat × Nat)) (rd : List (Nat × List Nat)) (N : Nat) (os : Array Oper) (E : Env) (ys : Nat → AV) (HH : Nat → Heap) (i : Nat) : Prop :=
  ∃ o b, os[i]? = some o ∧ wantA os (seqE os ys E i) o = some b ∧ dstOk N o.dst = true ∧ (b = true → OneL P ob wr rd N o (seqE os ys E i) (ys i) (HH i) (HH (i + 1))) ∧ (b = false → ys i = .tup [] ∧ HH (i + 1) = HH i)
theorem seql_each {N : Nat} {os : Array Oper} {E : Env} : ∀ {k s : Nat} {ys : Nat → AV} {H : Heap} {E' : Env} {H' : Heap}, Seql P ob wr rd N os (List.range' s k) (seqE os ys E s) H E' H' → ∃ zs HH, (∀ j < s, zs j = ys j) ∧ HH s = H ∧ HH (s + k) = H' ∧ E' = seqE os zs E (s + k) ∧ ∀ i, s ≤ i → i < s + k → EachL P ob wr rd N os E zs HH i
  | 0, s, ys, H, E', H', h => ⟨ys, fun _ => H, fun _ _ => rfl, rfl, h.2.symm, h.1, fun i h1 h2 => by omega⟩
  | k + 1, s, ys, H, E', H', h => by
    obtain ⟨o, y, b, H1, h1, h2, h3, h4, h5, h6⟩ := h
    have hc : ∀ j < s, setF ys s y j = ys j := fun j hj => setF_ne _ _ (by omega)
    have e : putE (seqE os ys E s) o.dst y = seqE os (setF ys s y) E (s + 1) := by
      rw [seqE, setF_same, seqE_congr hc, dstAt, h1]; rfl
    rw [e] at h6
    obtain ⟨zs, HH, g1, g0, gH, g2, g3⟩ := seql_each h6
    have hz : zs s = y := by rw [g1 s (by omega), setF_same]
    have hz' : ∀ j < s, zs j = ys j := fun j hj => (g1 j (by omega)).trans (hc j hj)
    have hn : ∀ j, j ≠ s → setF HH s H j = HH j := fun j hj => setF_ne _ _ hj
    refine ⟨zs, setF HH s H, hz', setF_same _ _ _, by rw [hn _ (by omega), show s + (k + 1) = s + 1 + k by omega]; exact gH, by rw [g2]; congr 1; omega, fun i h7 h8 => ?_⟩
    by_cases c : i = s
    · subst c
      refine ⟨o, b, h1, ?_, h3, ?_, ?_⟩
      · rw [seqE_congr hz']; exact h2
      · rw [seqE_congr hz', hz, setF_same, hn _ (by omega), g0]; exact h4
      · rw [hz, setF_same, hn _ (by omega), g0]; exact h5
    · obtain ⟨o', b', q1, q2, q3, q4, q5⟩ := g3 i (by omega) (by omega)
      exact ⟨o', b', q1, q2, q3, by rw [hn _ c, hn _ (by omega)]; exact q4, by rw [hn _ c, hn _ (by omega)]; exact q5⟩
def makerA (wr : List (Nat × Nat)) (os : Array Oper) (a m : Nat) : Prop := ∃ o, os[m]? = some o ∧ wrL wr o = some a
theorem indepL_spec {os : Array Oper} (h : indepL wr rd os = true) : indep os = true ∧ ∀ i j o a, makerA wr os a j → os[i]? = some o → i ≠ j → a ∈ fpL wr rd o → (i < j → forced os os.size j i = true) ∧ (j < i → forced os os.size i j = true) := by
  unfold indepL at h
  rw [Bool.and_eq_true, List.all_eq_true] at h
  refine ⟨h.1, ?_⟩
  rintro i j o a ⟨p, hp, hm⟩ ho hij ha
  have hj : j < os.size := (Array.getElem?_eq_some_iff.mp hp).1
  have hi : i < os.size := (Array.getElem?_eq_some_iff.mp ho).1
  have h1 := h.2 j (List.mem_range.mpr hj)
  simp only [hp, Option.bind_some, hm, List.all_eq_true, List.mem_range] at h1
  have h2 := h1 i hi
  simp only [ho] at h2
  rw [Bool.or_eq_true, Bool.or_eq_true, beq_iff_eq] at h2
  rcases h2 with (h2 | h2) | h2
  · exact absurd h2 hij
  · rw [Bool.not_eq_true', ← Bool.not_eq_true, List.contains_iff_mem] at h2
    exact absurd ha h2
  · refine ⟨fun c => ?_, fun c => ?_⟩
    · rw [if_pos c] at h2; exact h2
    · rw [if_neg (by omega)] at h2; exact h2
/-- An object that no operation between writes stays. -/
theorem hl_const {os : Array Oper} {N : Nat} {E : Env} {ys : Nat → AV} {HH : Nat → Heap} (hS : ∀ i, i < os.size → EachL P ob wr rd N os E ys HH i) {k : Nat} : ∀ {d a : Nat}, a + d ≤ os.size → (∀ m o, a ≤ m → m < a + d → os[m]? = some o → offW ob wr o k) → HH (a + d) k = HH a k
  | 0, a, _, _ => rfl
  | d + 1, a, h, g => by
    rw [← Nat.add_assoc]
    obtain ⟨o, b, h1, h2, h3, h4, h5⟩ := hS (a + d) (by omega)
    have hm := g (a + d) o (by omega) (by omega) h1
    have : HH (a + d + 1) k = HH (a + d) k := by
      cases b with
      | true => exact (h4 rfl).1 k hm
      | false => rw [(h5 rfl).2]
    rw [this]
    exact hl_const hS (by omega) (fun m o m1 m2 => g m o m1 (by omega))
theorem nodup_at {l : List Nat} (h : l.Nodup) {a b k : Nat} (ha : l[a]? = some k) (hb : l[b]? = some k) : a = b := by
  obtain ⟨h1, e1⟩ := List.getElem?_eq_some_iff.mp ha
  obtain ⟨h2, e2⟩ := List.getElem?_eq_some_iff.mp hb
  rcases Nat.lt_trichotomy a b with h3 | h3 | h3
  · exact absurd (e1.trans e2.symm) (List.pairwise_iff_getElem.mp h a b h1 h2 h3)
  · exact h3
  · exact absurd (e2.trans e1.symm) (List.pairwise_iff_getElem.mp h b a h2 h1 h3)
theorem any_okl {N : Nat} {os : Array Oper} {E : Env} {ys : Nat → AV} {HH : Nat → Heap} (hM : indepL wr rd os = true) (hnd : ob.Nodup) (hS : ∀ i, i < os.size → EachL P ob wr rd N os E ys HH i) {base : Nat} {Q : Exit → Act → World → Prop} {M0 : Mem} {a0 : Act}
    (hQ : ∀ M a, M.H = HH os.size → Step M0 M → Ok M base → Below base M0.w M.w → Er M N (seqE os ys E os.size) a → a.defers = a0.defers → Q .normal a M.w) :
    ∀ (fuel : Nat) (listed : Array Bool) (E1 : Env) (M : Mem) (a : Act), listed.size = os.size → listed.toList.count false ≤ fuel →
      (∀ i o, os[i]? = some o → listed.getD i false = true → ∀ e ∈ o.after, Region.binds .any e = true → listed.getD e.on false = true) →
      (∀ j t, listed.getD j false = true → dstAt os j = some t → E1 t = ys j) → (∀ t, (∀ j, listed.getD j false = true → dstAt os j ≠ some t) → E1 t = E t) →
      (∀ (b k : Nat), ob[b]? = some k → ∀ i, i ≤ os.size → (∀ m, makerA wr os b m → (listed.getD m false = true ↔ m < i)) → M.H k = HH i k) → (∀ k : Nat, (∀ b : Nat, ob[b]? ≠ some k) → M.H k = HH 0 k) → Step M0 M → Ok M base → Below base M0.w M.w → Er M N E1 a → a.defers = a0.defers → wpAny P .any os Q fuel listed a M.w := by
  have hI := (indepL_spec hM).1
  have hd : ∀ i j t, dstAt os i = some t → dstAt os j = some t → i = j := by
    intro i j t h1 h2
    by_cases c : j = i
    · exact c.symm
    · have h1' := h1
      unfold dstAt at h1'
      cases q : os[i]? with
      | none => rw [q] at h1'; simp at h1'
      | some o =>
        rw [q] at h1'
        exact absurd h1' ((indep_spec hI q).2 j t c h2).1
  have lt_of : ∀ {j : Nat} {t : Tmp}, dstAt os j = some t → j < os.size := by
    intro j t h
    unfold dstAt at h
    cases q : os[j]? with
    | none => rw [q] at h; simp at h
    | some _ => exact (Array.getElem?_eq_some_iff.mp q).1
  have unl : ∀ (listed : Array Bool) (i : Nat), listed.size = os.size → i < os.size → listed.getD i true = listed.getD i false := by
    intro listed i h1 h2
    have : i < listed.size := by omega
    simp [Array.getD, this]
  have fin : ∀ (listed : Array Bool) (E1 : Env), listed.size = os.size → Region.ready .any os listed = [] → (∀ j t, listed.getD j false = true → dstAt os j = some t → E1 t = ys j) → (∀ t, (∀ j, listed.getD j false = true → dstAt os j ≠ some t) → E1 t = E t) → E1 = seqE os ys E os.size ∧ ∀ i, i < os.size → listed.getD i false = true := by
    intro listed E1 hsz hr h1 h2
    have all : ∀ i, i < os.size → listed.getD i false = true := by
      intro i
      induction i using Nat.strongRecOn with
      | _ i ih =>
        intro hi
        by_cases c : listed.getD i false = true
        · exact c
        · have : i ∈ Region.ready .any os listed := by
            rw [mem_ready]
            obtain ⟨o, b, ho, _⟩ := hS i hi
            exact ⟨by rw [unl listed i hsz hi]; simpa using c, o, ho, fun e he hb => ih e.on ((indep_spec hI ho).1 e he hb) (by have := (indep_spec hI ho).1 e he hb; omega)⟩
          rw [hr] at this; simp at this
    refine ⟨?_, all⟩
    funext t
    obtain ⟨g1, g2⟩ := seqE_at (os := os) (ys := ys) (E := E) hd (t := t) os.size
    by_cases c : ∃ j, dstAt os j = some t
    · obtain ⟨j, hj⟩ := c
      rw [h1 j t (all j (lt_of hj)) hj, g1 j (lt_of hj) hj]
    · rw [h2 t (fun j _ hj => c ⟨j, hj⟩), g2 (fun j _ hj => c ⟨j, hj⟩)]
  have step : ∀ (fuel : Nat) (listed : Array Bool) (E1 : Env) (M : Mem) (a : Act), listed.size = os.size →
      (∀ i o, os[i]? = some o → listed.getD i false = true → ∀ e ∈ o.after, Region.binds .any e = true → listed.getD e.on false = true) →
      (∀ j t, listed.getD j false = true → dstAt os j = some t → E1 t = ys j) → (∀ t, (∀ j, listed.getD j false = true → dstAt os j ≠ some t) → E1 t = E t) → ∀ i o, os[i]? = some o → i ∈ Region.ready .any os listed → ∀ t ∈ o.looksAt os, E1 t = seqE os ys E i t := by
    intro fuel listed E1 M a hsz hcl h1 h2 i o ho hi t ht
    obtain ⟨g1, g2⟩ := seqE_at (os := os) (ys := ys) (E := E) hd (t := t) i
    obtain ⟨r1, o', ho', r2⟩ := mem_ready.1 hi
    rw [ho] at ho'; cases ho'
    have his : i < os.size := (Array.getElem?_eq_some_iff.mp ho).1
    rw [unl listed i hsz his] at r1
    by_cases c : ∃ j, dstAt os j = some t
    · obtain ⟨j, hj⟩ := c
      have only : ∀ k, dstAt os k = some t → k = j := fun k hk => hd k j t hk hj
      by_cases ji : j = i
      · subst ji
        rw [h2 t (fun k hk hkt => by rw [only k hkt] at hk; rw [hk] at r1; simp at r1), g2 (fun k hk hkt => by have := only k hkt; omega)]
      · rcases ((indep_spec hI ho).2 j t ji hj).2 ht with h3 | h3
        · obtain ⟨o2, q, e, he, hb, rfl⟩ := dep_spec h3
          rw [ho] at q; cases q
          rw [h1 e.on t (r2 e he hb) hj, g1 e.on ((indep_spec hI ho).1 e he hb) hj]
        · obtain ⟨o2, q, e, he, hb, rfl⟩ := dep_spec h3
          have hlt := (indep_spec hI q).1 e he hb
          rw [h2 t (fun k hk hkt => by
            rw [only k hkt] at hk
            have := hcl j o2 q hk e he hb
            rw [this] at r1; simp at r1), g2 (fun k hk hkt => by have := only k hkt; omega)]
    · rw [h2 t (fun k _ hk => c ⟨k, hk⟩), g2 (fun k _ hk => c ⟨k, hk⟩)]
  intro fuel
  induction fuel with
  | zero =>
    intro listed E1 M a hsz hc hcl h1 h2 hL hU hst hok hb hE hdf
    have hr : Region.ready .any os listed = [] := by
      cases q : Region.ready .any os listed with
      | nil => rfl
      | cons i l =>
        exfalso
        have hi : i ∈ Region.ready .any os listed := by rw [q]; exact List.mem_cons_self
        obtain ⟨r1, o', ho', r2⟩ := mem_ready.1 hi
        have his : i < listed.size := by rw [hsz]; exact (Array.getElem?_eq_some_iff.mp ho').1
        have : false ∈ listed.toList := by
          simp only [Array.getD, his, dite_true] at r1
          rw [Array.mem_toList_iff]
          exact Array.mem_of_getElem r1
        have := List.count_pos_iff.mpr this
        omega
    refine ⟨hr, ?_⟩
    obtain ⟨e, all⟩ := fin listed E1 hsz hr h1 h2
    subst e
    have hend : M.H = HH os.size := by
      funext k
      by_cases c : ∃ b : Nat, ob[b]? = some k
      · obtain ⟨b, hb⟩ := c
        exact hL b k hb os.size (Nat.le_refl _) (fun m hm => ⟨fun _ => by obtain ⟨o, ho, _⟩ := hm; exact (Array.getElem?_eq_some_iff.mp ho).1, fun q => all m q⟩)
      · rw [hU k (fun b hb => c ⟨b, hb⟩)]
        have := hl_const hS (k := k) (d := os.size) (a := 0) (by omega) (fun m o _ _ _ a _ hk => c ⟨a, hk⟩)
        rw [Nat.zero_add] at this
        exact this.symm
    exact hQ M a hend hst hok hb hE hdf
  | succ fuel ih =>
    intro listed E1 M a hsz hc hcl h1 h2 hL hU hst hok hb hE hdf
    refine ⟨fun hr => ?_, fun i hi => ?_⟩
    · obtain ⟨e, all⟩ := fin listed E1 hsz hr h1 h2
      subst e
      have hend : M.H = HH os.size := by
        funext k
        by_cases c : ∃ b : Nat, ob[b]? = some k
        · obtain ⟨b, hb⟩ := c
          exact hL b k hb os.size (Nat.le_refl _) (fun m hm => ⟨fun _ => by obtain ⟨o, ho, _⟩ := hm; exact (Array.getElem?_eq_some_iff.mp ho).1, fun q => all m q⟩)
        · rw [hU k (fun b hb => c ⟨b, hb⟩)]
          have := hl_const hS (k := k) (d := os.size) (a := 0) (by omega) (fun m o _ _ _ a _ hk => c ⟨a, hk⟩)
          rw [Nat.zero_add] at this
          exact this.symm
      exact hQ M a hend hst hok hb hE hdf
    · obtain ⟨r1, o, ho, r2⟩ := mem_ready.1 hi
      have his : i < os.size := (Array.getElem?_eq_some_iff.mp ho).1
      have hls : i < listed.size := by omega
      have look_eq := step fuel listed E1 M a hsz hcl h1 h2 i o ho hi
      obtain ⟨o', b, q1, q2, q3, q4, q5⟩ := hS i his
      rw [ho] at q1; cases q1
      have hw : wantA os E1 o = some b := by
        rw [← q2]
        unfold wantA
        cases hg : o.guard with
        | none => rfl
        | some p =>
          obtain ⟨j, want⟩ := p
          simp only
          cases hj : (os[j]?).bind (·.dst) with
          | none => rfl
          | some t =>
            simp only
            rw [look_eq t (by unfold Oper.looksAt; rw [hg]; simp [hj])]
      have gs : ∀ k, (listed.setIfInBounds i true).getD k false = true ↔ k = i ∨ listed.getD k false = true := by
        intro k
        by_cases c : k = i
        · subst c; simp [Array.getD, hls]
        · rw [getD_set_ne false (fun e => c e.symm)]; simp [c]
      have hcnt : (listed.setIfInBounds i true).toList.count false ≤ fuel := by
        rw [Array.toList_setIfInBounds, List.count_set (by simpa using hls)]
        rw [unl listed i hsz his] at r1
        have : listed.toList[i]'(by simpa using hls) = false := by
          simp only [Array.getD, hls, dite_true] at r1
          simpa using r1
        rw [this]
        have hpos : 0 < listed.toList.count false := List.count_pos_iff.mpr (by rw [← this]; exact List.getElem_mem _)
        rw [if_pos (by rfl), if_neg (by decide)]
        omega
      have r1' : listed.getD i false = false := by rw [unl listed i hsz his] at r1; exact r1
      have cut : ∀ b, b ∈ fpL wr rd o → ∀ m, makerA wr os b m → (listed.getD m false = true ↔ m < i) := by
        intro b hb' m hm
        by_cases c : i = m
        · subst c; simp [r1']
        · obtain ⟨h3, h4⟩ := (indepL_spec hM).2 i m o b hm ho c hb'
          constructor
          · intro hl
            by_cases c2 : i < m
            · have := forced_listed hcl (h3 c2) (fun o' ho' e' he' hb' => hcl m o' ho' hl e' he' hb')
              rw [r1'] at this; simp at this
            · omega
          · intro hl
            exact forced_listed hcl (h4 hl) (fun o' ho' e' he' hb' => by rw [ho] at ho'; cases ho'; exact r2 e' he' hb')
      have hag : Agrees ob (fpL wr rd o) M.H (HH i) := by
        intro k hk
        by_cases c : ∃ b : Nat, ob[b]? = some k
        · obtain ⟨b, hb'⟩ := c
          exact hL b k hb' i (by omega) (cut b (hk b hb'))
        · rw [hU k (fun b hb' => c ⟨b, hb'⟩)]
          have := hl_const hS (k := k) (d := i) (a := 0) (by omega) (fun m o _ _ _ a _ hk => c ⟨a, hk⟩)
          rw [Nat.zero_add] at this
          exact this.symm
      have next : ∀ (y : AV) (v : Value) (M' : Mem), y = ys i → (∀ k, offW ob wr o k → M'.H k = M.H k) → (∀ b k, wrL wr o = some b → ob[b]? = some k → M'.H k = HH (i + 1) k) → Step M M' → Ok M' base → Below base M.w M'.w → vrep M' y v → wpAny P .any os Q fuel (listed.setIfInBounds i true) (a.put o.dst v) M'.w := by
        intro y v M' hy w1 w2 e2 e3 e4 e5
        subst hy
        have hdi : dstAt os i = o.dst := by unfold dstAt; rw [ho]; rfl
        refine ih _ (putE E1 o.dst (ys i)) M' (a.put o.dst v) (by simpa using hsz) hcnt ?_ ?_ ?_ ?_ ?_ (hst.trans e2) e3 (hb.trans e4) (hE.put e2 q3 e5) ((by cases o.dst <;> rfl : (a.put o.dst v).defers = a.defers).trans hdf)
        · intro k ok hk hkl e he hbe
          rw [gs] at hkl ⊢
          rcases hkl with rfl | hkl
          · rw [ho] at hk; cases hk
            exact .inr (r2 e he hbe)
          · exact .inr (hcl k ok hk hkl e he hbe)
        · intro j t hj hjt
          rw [gs] at hj
          by_cases c : j = i
          · subst c
            rw [hdi] at hjt; rw [hjt]; exact setF_same _ _ _
          · have hne : o.dst ≠ some t := fun e => c (hd j i t hjt (by rw [hdi, e]))
            have : putE E1 o.dst (ys i) t = E1 t := by
              cases q : o.dst with
              | none => rfl
              | some d => rw [q] at hne; exact setF_ne _ _ (fun e => hne (by rw [e]))
            rw [this]; exact h1 j t (hj.resolve_left c) hjt
        · intro t ht
          have hne : o.dst ≠ some t := fun e => ht i ((gs i).mpr (.inl rfl)) (by rw [hdi, e])
          have : putE E1 o.dst (ys i) t = E1 t := by
            cases q : o.dst with
            | none => rfl
            | some d => rw [q] at hne; exact setF_ne _ _ (fun e => hne (by rw [e]))
          rw [this]
          exact h2 t (fun j hj => ht j ((gs j).mpr (.inr hj)))
        · intro b k hbk i' hi' hcut
          by_cases mi : wrL wr o = some b
          · have hki : i < i' := (hcut i ⟨o, ho, mi⟩).1 ((gs i).mpr (.inl rfl))
            rw [w2 b k mi hbk]
            obtain ⟨d, rfl⟩ : ∃ d, i' = i + 1 + d := ⟨i' - (i + 1), by omega⟩
            refine (hl_const hS (by omega) (fun m o2 m1 m2 ho2 c hc hck => ?_)).symm
            have hbc : c = b := by
              exact nodup_at hnd hck hbk
            subst hbc
            have hm : makerA wr os c m := ⟨o2, ho2, hc⟩
            have h7 := (hcut m hm).2 m2
            rw [gs] at h7
            have h8 := h7.resolve_left (by omega)
            have := (cut c (by unfold fpL; rw [mi]; simp) m hm).1 h8
            omega
          · have hoff : offW ob wr o k := fun c hc hck => by
              have : c = b := nodup_at hnd hck hbk
              exact mi (this ▸ hc)
            rw [w1 k hoff]
            refine hL b k hbk i' hi' (fun m hm => ?_)
            rw [← hcut m hm, gs]
            exact ⟨.inr, fun h => h.resolve_left (fun e => by
              obtain ⟨o2, ho2, hw2⟩ := hm
              rw [e, ho] at ho2; cases ho2
              exact mi hw2)⟩
        · intro k hk
          rw [w1 k (fun c _ hck => hk c hck)]
          exact hU k hk
      unfold wpOp
      rw [ho]
      simp only [want_ok hE hw]
      cases b with
      | true =>
        rw [if_pos rfl]
        left
        refine (q4 rfl).2 M.H hag E1 (fun x hx => ?_) M base a hok rfl hE _ Q (fun M' v w1 w2 e2 e3 e4 e5 => next _ v M' rfl w1 w2 e2 e3 e4 e5)
        cases x with
        | tmp t => exact look_eq t (by unfold Oper.looksAt; simp only [List.mem_append, List.mem_filterMap]; exact .inl ⟨.tmp t, by simpa using hx, rfl⟩)
        | const v => rfl
        | global g => rfl
        | func f => rfl
      | false =>
        rw [if_neg (by simp)]
        refine next _ undef M (q5 rfl).1.symm (fun _ _ => rfl) (fun b k hb' hbk => ?_) (Step.refl M) hok (Below.refl _ _) ⟨#[], rfl, rfl⟩
        rw [(q5 rfl).2]
        exact hL b k hbk i (by omega) (cut b (by unfold fpL; rw [hb']; simp))
end Go.Big
