/- Slices that own what they lead to: told with the objects they take up. No condition. -/
import Derived.Test.YtmglpcdalechfaaGreatBigT
set_option linter.unusedVariables false
set_option linter.unusedSimpArgs false
namespace Go.Big
def fitR (sz : Nat) (rows : List (List PV)) : Prop := ∀ r ∈ rows, r.length = sz
def scalRows (rows : List (List PV)) : Prop := ∀ r ∈ rows, ∀ p ∈ r, scalB p = true
/-- A leaf as it lies in memory, and what it is without memory. -/
def ownP (H : Heap) : PV → PV → List Nat → Prop
  | .ob o e, q, S => S = [o] ∧ ∃ ty sz rows t, H o = some (.arr e ty sz rows t) ∧ t ≠ 2 ∧ scalRows rows ∧ q = .sl rows ∧ fitR sz rows
  | .sl rows, q, S => rows = [] ∧ q = .sl [] ∧ S = []
  | p, q, S => S = [] ∧ q = p
def ownPs (H : Heap) : List PV → List PV → List Nat → Prop
  | [], qs, S => qs = [] ∧ S = []
  | p :: ps, qs, S => ∃ q qs' s s', qs = q :: qs' ∧ S = s ++ s' ∧ ownP H p q s ∧ ownPs H ps qs' s'
def ownRs (H : Heap) : List (List PV) → List (List PV) → List Nat → Prop
  | [], qs, S => qs = [] ∧ S = []
  | p :: ps, qs, S => ∃ q qs' s s', qs = q :: qs' ∧ S = s ++ s' ∧ ownPs H p q s ∧ ownRs H ps qs' s'
def noObs (rows : List (List PV)) : Prop := ∀ r ∈ rows, ∀ p ∈ r, noOb p = true
/-- A slice that owns an array of one's own, and all that this leads to. -/
def ownA (H : Heap) (x : AV) (q : List (List PV)) (S : List Nat) : Prop :=
  (∃ o e ty sz rows t S', x = .own o e ∧ H o = some (.arr e ty sz rows t) ∧ S = o :: S' ∧ ownRs H rows q S' ∧ (t = 2 ∨ noObs rows) ∧ (scalRows rows → t ≠ 2) ∧ fitR sz rows) ∨ ((x = .nil ∨ ∃ t, x = .sl t []) ∧ q = [] ∧ S = [])
variable {H H' : Heap}
theorem ownP_scal {p q : PV} {S : List Nat} (hp : scalB p = true) (h : ownP H p q S) : S = [] ∧ q = p := by
  cases p <;> first | (simp [scalB] at hp; done) | exact h
theorem ownP_scal_mk {p : PV} (hp : scalB p = true) : ownP H p p [] := by
  cases p <;> first | (simp [scalB] at hp; done) | exact ⟨rfl, rfl⟩
theorem ownPs_scal : ∀ {ps qs : List PV} {S : List Nat}, (∀ p ∈ ps, scalB p = true) → ownPs H ps qs S → S = [] ∧ qs = ps
  | [], qs, S, _, h => ⟨h.2, h.1⟩
  | p :: ps, qs, S, hp, ⟨q, qs', s, s', e1, e2, h1, h2⟩ => by
    obtain ⟨rfl, rfl⟩ := ownP_scal (hp p List.mem_cons_self) h1
    obtain ⟨rfl, rfl⟩ := ownPs_scal (fun x hx => hp x (List.mem_cons_of_mem _ hx)) h2
    exact ⟨by simpa using e2, e1⟩
theorem ownPs_scal_mk : ∀ {ps : List PV}, (∀ p ∈ ps, scalB p = true) → ownPs H ps ps []
  | [], _ => ⟨rfl, rfl⟩
  | p :: ps, hp => ⟨p, ps, [], [], rfl, rfl, ownP_scal_mk (hp p List.mem_cons_self), ownPs_scal_mk (fun x hx => hp x (List.mem_cons_of_mem _ hx))⟩
theorem ownRs_scal : ∀ {rows q : List (List PV)} {S : List Nat}, scalRows rows → ownRs H rows q S → S = [] ∧ q = rows
  | [], q, S, _, h => ⟨h.2, h.1⟩
  | r :: rs, q, S, hr, ⟨a, b, s, s', e1, e2, h1, h2⟩ => by
    obtain ⟨rfl, rfl⟩ := ownPs_scal (hr r List.mem_cons_self) h1
    obtain ⟨rfl, rfl⟩ := ownRs_scal (fun x hx => hr x (List.mem_cons_of_mem _ hx)) h2
    exact ⟨by simpa using e2, e1⟩
theorem ownRs_scal_mk : ∀ {rows : List (List PV)}, scalRows rows → ownRs H rows rows []
  | [], _ => ⟨rfl, rfl⟩
  | r :: rs, hr => ⟨r, rs, [], [], rfl, rfl, ownPs_scal_mk (hr r List.mem_cons_self), ownRs_scal_mk (fun x hx => hr x (List.mem_cons_of_mem _ hx))⟩
theorem ownP_noob {p q : PV} {S : List Nat} (hp : noOb p = true) (h : ownP H p q S) : S = [] ∧ q = p := by
  cases p with
  | ob o e => simp [noOb] at hp
  | sl rows => obtain ⟨rfl, rfl, rfl⟩ := h; exact ⟨rfl, rfl⟩
  | i => exact h
  | b => exact h
  | s => exact h
theorem ownPs_noob : ∀ {ps qs : List PV} {S : List Nat}, (∀ p ∈ ps, noOb p = true) → ownPs H ps qs S → S = [] ∧ qs = ps
  | [], qs, S, _, h => ⟨h.2, h.1⟩
  | p :: ps, qs, S, hp, ⟨q, qs', s, s', e1, e2, h1, h2⟩ => by
    obtain ⟨rfl, rfl⟩ := ownP_noob (hp p List.mem_cons_self) h1
    obtain ⟨rfl, rfl⟩ := ownPs_noob (fun x hx => hp x (List.mem_cons_of_mem _ hx)) h2
    exact ⟨by simpa using e2, e1⟩
theorem ownRs_noob : ∀ {rows q : List (List PV)} {S : List Nat}, noObs rows → ownRs H rows q S → S = [] ∧ q = rows
  | [], q, S, _, h => ⟨h.2, h.1⟩
  | r :: rs, q, S, hr, ⟨a, b, s, s', e1, e2, h1, h2⟩ => by
    obtain ⟨rfl, rfl⟩ := ownPs_noob (hr r List.mem_cons_self) h1
    obtain ⟨rfl, rfl⟩ := ownRs_noob (fun x hx => hr x (List.mem_cons_of_mem _ hx)) h2
    exact ⟨by simpa using e2, e1⟩
theorem scal_noob {rows : List (List PV)} (h : scalRows rows) : noObs rows := fun r hr p hp => by
  have := h r hr p hp
  cases p <;> first | rfl | (simp [scalB] at this)
theorem ownP_congr {p q : PV} {S : List Nat} (hS : ∀ o ∈ S, H' o = H o) (h : ownP H p q S) : ownP H' p q S := by
  cases p <;> try exact h
  obtain ⟨rfl, ty, sz, rows, t, h1, h2⟩ := h
  exact ⟨rfl, ty, sz, rows, t, by rw [hS _ List.mem_cons_self]; exact h1, h2⟩
theorem ownPs_congr : ∀ {ps qs : List PV} {S : List Nat}, (∀ o ∈ S, H' o = H o) → ownPs H ps qs S → ownPs H' ps qs S
  | [], _, _, _, h => h
  | p :: ps, qs, S, hS, ⟨q, qs', s, s', e1, e2, h1, h2⟩ => by
    subst e2
    exact ⟨q, qs', s, s', e1, rfl, ownP_congr (fun o ho => hS o (List.mem_append.mpr (.inl ho))) h1, ownPs_congr (fun o ho => hS o (List.mem_append.mpr (.inr ho))) h2⟩
theorem ownRs_congr : ∀ {rows q : List (List PV)} {S : List Nat}, (∀ o ∈ S, H' o = H o) → ownRs H rows q S → ownRs H' rows q S
  | [], _, _, _, h => h
  | r :: rs, q, S, hS, ⟨a, b, s, s', e1, e2, h1, h2⟩ => by
    subst e2
    exact ⟨a, b, s, s', e1, rfl, ownPs_congr (fun o ho => hS o (List.mem_append.mpr (.inl ho))) h1, ownRs_congr (fun o ho => hS o (List.mem_append.mpr (.inr ho))) h2⟩
theorem ownA_congr {x : AV} {q : List (List PV)} {S : List Nat} (hS : ∀ o ∈ S, H' o = H o) (h : ownA H x q S) : ownA H' x q S := by
  rcases h with ⟨o, e, ty, sz, rows, t, S', rfl, h1, rfl, h2, h3, h4, h5⟩ | h
  · exact .inl ⟨o, e, ty, sz, rows, t, S', rfl, by rw [hS o List.mem_cons_self]; exact h1, rfl, ownRs_congr (fun k hk => hS k (List.mem_cons_of_mem _ hk)) h2, h3, h4, h5⟩
  · exact .inr h
theorem ownRs_append : ∀ {r1 q1 r2 q2 : List (List PV)} {S1 S2 : List Nat}, ownRs H r1 q1 S1 → ownRs H r2 q2 S2 → ownRs H (r1 ++ r2) (q1 ++ q2) (S1 ++ S2)
  | [], _, r2, q2, _, S2, ⟨rfl, rfl⟩, g => g
  | r :: rs, _, r2, q2, _, S2, ⟨a, b, s, s', rfl, rfl, h1, h2⟩, g => ⟨a, b ++ q2, s, s' ++ S2, rfl, by simp, h1, ownRs_append h2 g⟩
theorem ownRs_cons {r q : List PV} {s : List Nat} {rs qs : List (List PV)} {S : List Nat} (h : ownPs H r q s) (g : ownRs H rs qs S) : ownRs H (r :: rs) (q :: qs) (s ++ S) := ⟨q, qs, s, S, rfl, rfl, h, g⟩
theorem ownRs_one {r q : List PV} {s : List Nat} (h : ownPs H r q s) : ownRs H [r] [q] s := ⟨q, [], s, [], rfl, by simp, h, rfl, rfl⟩
theorem ownRs_len : ∀ {rows q : List (List PV)} {S : List Nat}, ownRs H rows q S → rows.length = q.length
  | [], _, _, ⟨rfl, _⟩ => rfl
  | r :: rs, _, _, ⟨a, b, s, s', rfl, _, _, h2⟩ => by simp [ownRs_len h2]
theorem ownRs_split : ∀ {r1 r2 q : List (List PV)} {S : List Nat}, ownRs H (r1 ++ r2) q S → ∃ q1 q2 S1 S2, q = q1 ++ q2 ∧ S = S1 ++ S2 ∧ ownRs H r1 q1 S1 ∧ ownRs H r2 q2 S2
  | [], r2, q, S, h => ⟨[], q, [], S, rfl, rfl, ⟨rfl, rfl⟩, h⟩
  | r :: rs, r2, q, S, ⟨a, b, s, s', e1, e2, h1, h2⟩ => by
    obtain ⟨q1, q2, S1, S2, rfl, rfl, g1, g2⟩ := ownRs_split h2
    exact ⟨a :: q1, q2, s ++ S1, S2, by simp [e1], by simp [e2], ⟨a, q1, s, S1, rfl, rfl, h1, g1⟩, g2⟩
/-- Given by value: what it is without memory. -/
theorem ownP_der {p q : PV} {S : List Nat} (h : ownP H p q S) : derP H p = some q := by
  cases p with
  | ob o e =>
    obtain ⟨rfl, ty, sz, rows, t, h1, h2, h3, rfl, h5⟩ := h
    simp [derP, h1, h2]
  | sl rows => obtain ⟨rfl, rfl, rfl⟩ := h; rfl
  | i => obtain ⟨rfl, rfl⟩ := h; rfl
  | b => obtain ⟨rfl, rfl⟩ := h; rfl
  | s => obtain ⟨rfl, rfl⟩ := h; rfl
theorem ownPs_der : ∀ {ps qs : List PV} {S : List Nat}, ownPs H ps qs S → (∀ p ∈ ps, (derP H p).isSome) ∧ ps.map (fun p => (derP H p).getD p) = qs
  | [], _, _, ⟨rfl, _⟩ => ⟨by simp, rfl⟩
  | p :: ps, _, _, ⟨q, qs', s, s', rfl, _, h1, h2⟩ => by
    obtain ⟨g1, g2⟩ := ownPs_der h2
    have := ownP_der h1
    exact ⟨fun x hx => by
      rcases List.mem_cons.mp hx with rfl | hx
      · rw [this]; rfl
      · exact g1 x hx, by simp [this, g2]⟩
theorem ownRs_der : ∀ {rows q : List (List PV)} {S : List Nat}, ownRs H rows q S → (∀ r ∈ rows, ∀ p ∈ r, (derP H p).isSome) ∧ (rows.map fun r => r.map fun p => (derP H p).getD p) = q
  | [], _, _, ⟨rfl, _⟩ => ⟨by simp, rfl⟩
  | r :: rs, _, _, ⟨a, b, s, s', rfl, _, h1, h2⟩ => by
    obtain ⟨g1, g2⟩ := ownRs_der h2
    obtain ⟨k1, k2⟩ := ownPs_der h1
    exact ⟨fun x hx => by
      rcases List.mem_cons.mp hx with rfl | hx
      · exact k1
      · exact g1 x hx, by simp [k2, g2]⟩
theorem ownA_give {x : AV} {q : List (List PV)} {S : List Nat} (h : ownA H x q S) : giveA H x = some (.sl 0 q) := by
  rcases h with ⟨o, e, ty, sz, rows, t, S', rfl, h1, rfl, h2, h3, h4, h5⟩ | ⟨rfl | ⟨t, rfl⟩, rfl, rfl⟩
  · simp only [giveA, h1, if_true]
    by_cases c : t = 2
    · rw [if_pos c]
      obtain ⟨g1, g2⟩ := ownRs_der h2
      have : derR (derP H) rows = some q := by
        unfold derR
        rw [if_pos (by rw [List.all_eq_true]; intro r hr; rw [List.all_eq_true]; intro p hp; exact g1 r hr p hp), g2]
      rw [this]; rfl
    · rw [if_neg c]
      rw [(ownRs_noob (h3.resolve_left c) h2).2]
  · rfl
  · rfl
/-- Handed back by value. -/
theorem ownP_new {p q : PV} {S : List Nat} (h : ownP H p q S) : derN H p = some q := by
  cases p with
  | ob o e =>
    obtain ⟨rfl, ty, sz, rows, t, h1, h2, h3, rfl, h5⟩ := h
    have : newB t rows := .inr h3
    simp [derN, h1, h2, this]
  | sl rows => obtain ⟨rfl, rfl, rfl⟩ := h; rfl
  | i => obtain ⟨rfl, rfl⟩ := h; rfl
  | b => obtain ⟨rfl, rfl⟩ := h; rfl
  | s => obtain ⟨rfl, rfl⟩ := h; rfl
theorem ownPs_new : ∀ {ps qs : List PV} {S : List Nat}, ownPs H ps qs S → (∀ p ∈ ps, (derN H p).isSome) ∧ ps.map (fun p => (derN H p).getD p) = qs
  | [], _, _, ⟨rfl, _⟩ => ⟨by simp, rfl⟩
  | p :: ps, _, _, ⟨q, qs', s, s', rfl, _, h1, h2⟩ => by
    obtain ⟨g1, g2⟩ := ownPs_new h2
    have := ownP_new h1
    exact ⟨fun x hx => by
      rcases List.mem_cons.mp hx with rfl | hx
      · rw [this]; rfl
      · exact g1 x hx, by simp [this, g2]⟩
theorem ownRs_new : ∀ {rows q : List (List PV)} {S : List Nat}, ownRs H rows q S → (∀ r ∈ rows, ∀ p ∈ r, (derN H p).isSome) ∧ (rows.map fun r => r.map fun p => (derN H p).getD p) = q
  | [], _, _, ⟨rfl, _⟩ => ⟨by simp, rfl⟩
  | r :: rs, _, _, ⟨a, b, s, s', rfl, _, h1, h2⟩ => by
    obtain ⟨g1, g2⟩ := ownRs_new h2
    obtain ⟨k1, k2⟩ := ownPs_new h1
    exact ⟨fun x hx => by
      rcases List.mem_cons.mp hx with rfl | hx
      · exact k1
      · exact g1 x hx, by simp [k2, g2]⟩
theorem ownA_back {x : AV} {q : List (List PV)} {S : List Nat} (h : ownA H x q S) : backA H x = some (.sl 1 q) := by
  rcases h with ⟨o, e, ty, sz, rows, t, S', rfl, h1, rfl, h2, h3, h4, h5⟩ | ⟨rfl | ⟨t, rfl⟩, rfl, rfl⟩
  · obtain ⟨g1, g2⟩ := ownRs_new h2
    have hd : derR (derN H) rows = some q := by
      unfold derR
      rw [if_pos (by rw [List.all_eq_true]; intro r hr; rw [List.all_eq_true]; intro p hp; exact g1 r hr p hp), g2]
    simp only [backA, newSl, h1]
    by_cases c : t ≠ 2 ∧ newB t rows
    · obtain ⟨_, rfl⟩ := ownRs_noob (h3.resolve_left c.1) h2
      simp [c.1, c.2]
    · have c' : ¬ (True ∧ t ≠ 2 ∧ newB t rows) := fun h => c h.2
      simp [c, hd]
  · rfl
  · simp [backA, newSl]
/-- Brought to the caller. -/
theorem ownP_bring {k : Nat} {p q : PV} {S : List Nat} (h : ownP H' p q S) : ownP (bringH H H' k) (shP k p) q (S.map (· + k)) := by
  cases p with
  | ob o e =>
    obtain ⟨rfl, ty, sz, rows, t, h1, h2, h3, rfl, h5⟩ := h
    refine ⟨rfl, ty, sz, rows, t, ?_, h2, h3, rfl, h5⟩
    have hn : newB t rows := .inr h3
    simp only [bringH]
    rw [if_neg (by omega), Nat.add_sub_cancel, h1]
    simp [bringO, h2, hn]
  | sl rows => obtain ⟨rfl, rfl, rfl⟩ := h; exact ⟨rfl, rfl, rfl⟩
  | i => obtain ⟨rfl, rfl⟩ := h; exact ⟨rfl, rfl⟩
  | b => obtain ⟨rfl, rfl⟩ := h; exact ⟨rfl, rfl⟩
  | s => obtain ⟨rfl, rfl⟩ := h; exact ⟨rfl, rfl⟩
theorem ownPs_bring {k : Nat} : ∀ {ps qs : List PV} {S : List Nat}, ownPs H' ps qs S → ownPs (bringH H H' k) (ps.map (shP k)) qs (S.map (· + k))
  | [], _, _, ⟨rfl, rfl⟩ => ⟨rfl, rfl⟩
  | p :: ps, _, _, ⟨q, qs', s, s', rfl, rfl, h1, h2⟩ => ⟨q, qs', s.map (· + k), s'.map (· + k), rfl, by simp, ownP_bring h1, ownPs_bring h2⟩
theorem ownRs_bring {k : Nat} : ∀ {rows q : List (List PV)} {S : List Nat}, ownRs H' rows q S → ownRs (bringH H H' k) (rows.map fun r => r.map (shP k)) q (S.map (· + k))
  | [], _, _, ⟨rfl, rfl⟩ => ⟨rfl, rfl⟩
  | r :: rs, _, _, ⟨a, b, s, s', rfl, rfl, h1, h2⟩ => ⟨a, b, s.map (· + k), s'.map (· + k), rfl, by simp, ownPs_bring h1, ownRs_bring h2⟩
theorem ownP_good {p q : PV} {S : List Nat} (h : ownP H p q S) : goodP p = true := by
  cases p with
  | sl rows => obtain ⟨rfl, _⟩ := h; rfl
  | _ => rfl
theorem ownPs_good : ∀ {ps qs : List PV} {S : List Nat}, ownPs H ps qs S → ∀ p ∈ ps, goodP p = true
  | [], _, _, _ => by simp
  | p :: ps, _, _, ⟨q, qs', s, s', _, _, h1, h2⟩ => fun x hx => by
    rcases List.mem_cons.mp hx with rfl | hx
    · exact ownP_good h1
    · exact ownPs_good h2 x hx
theorem ownRs_good : ∀ {rows q : List (List PV)} {S : List Nat}, ownRs H rows q S → ∀ r ∈ rows, ∀ p ∈ r, goodP p = true
  | [], _, _, _ => by simp
  | r :: rs, _, _, ⟨a, b, s, s', _, _, h1, h2⟩ => fun x hx => by
    rcases List.mem_cons.mp hx with rfl | hx
    · exact ownPs_good h1
    · exact ownRs_good h2 x hx
theorem shP_noob {k : Nat} {rows : List (List PV)} (h : noObs rows) : (rows.map fun r => r.map (shP k)) = rows := by
  conv => rhs; rw [← List.map_id rows]
  refine List.map_congr_left fun r hr => ?_
  conv => rhs; rw [id, ← List.map_id r]
  refine List.map_congr_left fun p hp => ?_
  have := h r hr p hp
  cases p <;> first | rfl | (simp [noOb] at this)
theorem ownA_bring {k : Nat} {x : AV} {q : List (List PV)} {S : List Nat} (h : ownA H' x q S) : ∃ y, bringA k x = some y ∧ ownA (bringH H H' k) y q (S.map (· + k)) := by
  rcases h with ⟨o, e, ty, sz, rows, t, S', rfl, h1, rfl, h2, h3, h4, h5⟩ | ⟨rfl | ⟨t, rfl⟩, rfl, rfl⟩
  · refine ⟨.own (o + k) e, rfl, .inl ⟨o + k, e, ty, sz, rows.map fun r => r.map (shP k), t, S'.map (· + k), rfl, ?_, rfl, ownRs_bring h2, ?_, ?_, ?_⟩⟩
    · simp only [bringH]
      rw [if_neg (by omega), Nat.add_sub_cancel, h1]
      simp only [Option.bind_some, bringO]
      by_cases c : t ≠ 2 ∧ newB t rows
      · rw [if_pos c, shP_noob (h3.resolve_left c.1)]
      · rw [if_neg c, if_pos (ownRs_good h2)]
    · rcases h3 with h3 | h3
      · exact .inl h3
      · rw [shP_noob h3]; exact .inr h3
    · intro hs
      refine h4 fun r hr p hp => ?_
      have := hs _ (List.mem_map_of_mem hr) _ (List.mem_map_of_mem hp)
      cases p <;> first | rfl | exact this
    · intro r hr
      obtain ⟨r', h6, rfl⟩ := List.mem_map.mp hr
      rw [List.length_map]; exact h5 r' h6
  · exact ⟨.sl 1 [], rfl, .inr ⟨.inr ⟨1, rfl⟩, rfl, rfl⟩⟩
  · exact ⟨.sl 1 [], by simp [bringA], .inr ⟨.inr ⟨1, rfl⟩, rfl, rfl⟩⟩

theorem ownP_flat {p q : PV} {S : List Nat} (hq : scalB q = true) (h : ownP H p q S) : scalB p = true := by
  cases p with
  | ob o e => obtain ⟨_, _, _, _, _, _, _, _, rfl, _⟩ := h; simp [scalB] at hq
  | sl rows => obtain ⟨rfl, rfl, rfl⟩ := h; simp [scalB] at hq
  | i => rfl
  | b => rfl
  | s => rfl
theorem ownPs_flat : ∀ {ps qs : List PV} {S : List Nat}, (∀ q ∈ qs, scalB q = true) → ownPs H ps qs S → ∀ p ∈ ps, scalB p = true
  | [], _, _, _, _ => by simp
  | p :: ps, _, _, hq, ⟨q, qs', s, s', e1, _, h1, h2⟩ => fun x hx => by
    subst e1
    rcases List.mem_cons.mp hx with rfl | hx
    · exact ownP_flat (hq q List.mem_cons_self) h1
    · exact ownPs_flat (fun z hz => hq z (List.mem_cons_of_mem _ hz)) h2 x hx
theorem ownRs_flat : ∀ {rows q : List (List PV)} {S : List Nat}, scalRows q → ownRs H rows q S → scalRows rows
  | [], _, _, _, _ => fun r hr => by simp at hr
  | r :: rs, _, _, hq, ⟨a, b, s, s', e1, _, h1, h2⟩ => fun x hx => by
    subst e1
    rcases List.mem_cons.mp hx with rfl | hx
    · exact ownPs_flat (hq a List.mem_cons_self) h1
    · exact ownRs_flat (fun z hz => hq z (List.mem_cons_of_mem _ hz)) h2 x hx
/-- A flat one: its elements lead nowhere. -/
theorem ownA_flat {x : AV} {q : List (List PV)} {S : List Nat} (h : ownA H x q S) (hq : scalRows q) : (∃ o e ty sz t, x = .own o e ∧ H o = some (.arr e ty sz q t) ∧ S = [o] ∧ t ≠ 2 ∧ fitR sz q) ∨ ((x = .nil ∨ ∃ t, x = .sl t []) ∧ q = [] ∧ S = []) := by
  rcases h with ⟨o, e, ty, sz, rows, t, S', rfl, h1, rfl, h2, h3, h4, h5⟩ | h
  · have hs := ownRs_flat hq h2
    obtain ⟨rfl, rfl⟩ := ownRs_scal hs h2
    exact .inl ⟨o, e, ty, sz, t, rfl, h1, rfl, h4 hs, h5⟩
  · exact .inr h
theorem ownA_mk {o e : Nat} {ty : TypeId} {sz t : Nat} {rows : List (List PV)} (h : H o = some (.arr e ty sz rows t)) (hs : scalRows rows) (ht : t ≠ 2) (hf : fitR sz rows) : ownA H (.own o e) rows [o] :=
  .inl ⟨o, e, ty, sz, rows, t, [], rfl, h, rfl, ownRs_scal_mk hs, .inr (scal_noob hs), fun _ => ht, hf⟩
theorem ownA_nil : ownA H .nil [] [] := .inr ⟨.inl rfl, rfl, rfl⟩
theorem ownP_mk {o e : Nat} {ty : TypeId} {sz t : Nat} {rows : List (List PV)} (h : H o = some (.arr e ty sz rows t)) (hs : scalRows rows) (ht : t ≠ 2) (hf : fitR sz rows) : ownP H (.ob o e) (.sl rows) [o] := ⟨rfl, ty, sz, rows, t, h, ht, hs, rfl, hf⟩
-- A value that owns what it leads to; beside it what it is without memory.
mutual
def ownX (H : Heap) : AV → AV → List Nat → Prop
  | .ag xs, y, S => ∃ ys, y = .ag ys ∧ ownXs H xs ys S
  | .tup xs, y, S => ∃ ys, y = .tup ys ∧ ownXs H xs ys S
  | .i k n, y, S => y = .i k n ∧ S = []
  | .b x, y, S => y = .b x ∧ S = []
  | .s x, y, S => y = .s x ∧ S = []
  | x, y, S => ∃ q, y = .sl 1 q ∧ ownA H x q S
def ownXs (H : Heap) : List AV → List AV → List Nat → Prop
  | [], ys, S => ys = [] ∧ S = []
  | x :: xs, ys, S => ∃ y ys' s s', ys = y :: ys' ∧ S = s ++ s' ∧ ownX H x y s ∧ ownXs H xs ys' s'
end
mutual
def tag0 : AV → AV
  | .ag xs => .ag (tags0 xs)
  | .sl _ q => .sl 0 q
  | x => x
def tags0 : List AV → List AV
  | [] => []
  | x :: xs => tag0 x :: tags0 xs
end
theorem ownX_sl {x : AV} {q : List (List PV)} {S : List Nat} (h : ownA H x q S) : ownX H x (.sl 1 q) S := by
  cases x <;> first
    | exact ⟨q, rfl, h⟩
    | (rcases h with ⟨_, _, _, _, _, _, _, e, _⟩ | ⟨e | ⟨_, e⟩, _⟩ <;> cases e)
theorem ownX_un {x : AV} {q : List (List PV)} {S : List Nat} (h : ownX H x (.sl 1 q) S) : ownA H x q S := by
  cases x <;> simp only [ownX] at h <;> first
    | (obtain ⟨q', e, h⟩ := h; cases e; exact h)
    | (obtain ⟨ys, e, h⟩ := h; cases e)
    | (obtain ⟨e, h⟩ := h; cases e)
mutual
theorem ownX_congr : ∀ {x y : AV} {S : List Nat}, (∀ o ∈ S, H' o = H o) → ownX H x y S → ownX H' x y S
  | .ag xs, y, S, hS, ⟨ys, e, h⟩ => ⟨ys, e, ownXs_congr hS h⟩
  | .tup xs, y, S, hS, ⟨ys, e, h⟩ => ⟨ys, e, ownXs_congr hS h⟩
  | .i _ _, _, _, _, h => h
  | .b _, _, _, _, h => h
  | .s _, _, _, _, h => h
  | .sl _ _, _, _, hS, ⟨q, e, h⟩ => ⟨q, e, ownA_congr hS h⟩
  | .nil, _, _, hS, ⟨q, e, h⟩ => ⟨q, e, ownA_congr hS h⟩
  | .own _ _, _, _, hS, ⟨q, e, h⟩ => ⟨q, e, ownA_congr hS h⟩
  | .vw _ _ _ _, _, _, hS, ⟨q, e, h⟩ => ⟨q, e, ownA_congr hS h⟩
  | .ptr _ _ _ _, _, _, hS, ⟨q, e, h⟩ => ⟨q, e, ownA_congr hS h⟩
  | .fp _ _, _, _, hS, ⟨q, e, h⟩ => ⟨q, e, ownA_congr hS h⟩
  | .fn _ _, _, _, hS, ⟨q, e, h⟩ => ⟨q, e, ownA_congr hS h⟩
  | .un, _, _, hS, ⟨q, e, h⟩ => ⟨q, e, ownA_congr hS h⟩
theorem ownXs_congr : ∀ {xs ys : List AV} {S : List Nat}, (∀ o ∈ S, H' o = H o) → ownXs H xs ys S → ownXs H' xs ys S
  | [], _, _, _, h => h
  | x :: xs, _, S, hS, ⟨y, ys', s, s', e1, e2, h1, h2⟩ => by
    subst e2
    exact ⟨y, ys', s, s', e1, rfl, ownX_congr (fun o ho => hS o (List.mem_append.mpr (.inl ho))) h1, ownXs_congr (fun o ho => hS o (List.mem_append.mpr (.inr ho))) h2⟩
end
theorem ownA_form {x : AV} {q : List (List PV)} {S : List Nat} (h : ownA H x q S) : (∃ o e, x = .own o e) ∨ x = .nil ∨ ∃ t, x = .sl t [] := by
  rcases h with ⟨o, e, ty, sz, rows, t, S', rfl, _⟩ | ⟨h, _⟩
  · exact .inl ⟨o, e, rfl⟩
  · exact .inr h
mutual
theorem ownX_back : ∀ {x y : AV} {S : List Nat}, ownX H x y S → backA H x = some y
  | .ag xs, _, _, ⟨ys, rfl, h⟩ => by simp only [backA, ownXs_back h]; rfl
  | .tup xs, _, _, ⟨ys, rfl, h⟩ => by simp only [backA, ownXs_back h]; rfl
  | .i _ _, _, _, ⟨rfl, _⟩ => rfl
  | .b _, _, _, ⟨rfl, _⟩ => rfl
  | .s _, _, _, ⟨rfl, _⟩ => rfl
  | .sl _ _, _, _, ⟨q, rfl, h⟩ => ownA_back h
  | .nil, _, _, ⟨q, rfl, h⟩ => ownA_back h
  | .own _ _, _, _, ⟨q, rfl, h⟩ => ownA_back h
  | .vw _ _ _ _, _, _, ⟨q, rfl, h⟩ => ownA_back h
  | .ptr _ _ _ _, _, _, ⟨q, rfl, h⟩ => ownA_back h
  | .fp _ _, _, _, ⟨q, rfl, h⟩ => ownA_back h
  | .fn _ _, _, _, ⟨q, rfl, h⟩ => ownA_back h
  | .un, _, _, ⟨q, rfl, h⟩ => ownA_back h
theorem ownXs_back : ∀ {xs ys : List AV} {S : List Nat}, ownXs H xs ys S → backsA H xs = some ys
  | [], _, _, ⟨rfl, _⟩ => rfl
  | x :: xs, _, S, ⟨y, ys', s, s', e1, _, h1, h2⟩ => by
    subst e1
    simp only [backsA, ownX_back h1, ownXs_back h2]
end
mutual
theorem ownX_bring {k : Nat} : ∀ {x y : AV} {S : List Nat}, ownX H' x y S → ∃ z, bringA k x = some z ∧ ownX (bringH H H' k) z y (S.map (· + k))
  | .ag xs, _, _, ⟨ys, rfl, h⟩ => by
    obtain ⟨zs, g1, g2⟩ := ownXs_bring h
    exact ⟨.ag zs, by simp only [bringA, g1]; rfl, ys, rfl, g2⟩
  | .tup xs, _, _, ⟨ys, rfl, h⟩ => by
    obtain ⟨zs, g1, g2⟩ := ownXs_bring h
    exact ⟨.tup zs, by simp only [bringA, g1]; rfl, ys, rfl, g2⟩
  | .i _ _, _, _, ⟨rfl, rfl⟩ => ⟨_, rfl, rfl, rfl⟩
  | .b _, _, _, ⟨rfl, rfl⟩ => ⟨_, rfl, rfl, rfl⟩
  | .s _, _, _, ⟨rfl, rfl⟩ => ⟨_, rfl, rfl, rfl⟩
  | .sl _ _, _, _, ⟨q, rfl, h⟩ => by obtain ⟨z, g1, g2⟩ := ownA_bring (k := k) (H := H) h; exact ⟨z, g1, ownX_sl g2⟩
  | .nil, _, _, ⟨q, rfl, h⟩ => by obtain ⟨z, g1, g2⟩ := ownA_bring (k := k) (H := H) h; exact ⟨z, g1, ownX_sl g2⟩
  | .own _ _, _, _, ⟨q, rfl, h⟩ => by obtain ⟨z, g1, g2⟩ := ownA_bring (k := k) (H := H) h; exact ⟨z, g1, ownX_sl g2⟩
  | .vw _ _ _ _, _, _, ⟨q, rfl, h⟩ => by obtain ⟨z, g1, g2⟩ := ownA_bring (k := k) (H := H) h; exact ⟨z, g1, ownX_sl g2⟩
  | .ptr _ _ _ _, _, _, ⟨q, rfl, h⟩ => by obtain ⟨z, g1, g2⟩ := ownA_bring (k := k) (H := H) h; exact ⟨z, g1, ownX_sl g2⟩
  | .fp _ _, _, _, ⟨q, rfl, h⟩ => by obtain ⟨z, g1, g2⟩ := ownA_bring (k := k) (H := H) h; exact ⟨z, g1, ownX_sl g2⟩
  | .fn _ _, _, _, ⟨q, rfl, h⟩ => by obtain ⟨z, g1, g2⟩ := ownA_bring (k := k) (H := H) h; exact ⟨z, g1, ownX_sl g2⟩
  | .un, _, _, ⟨q, rfl, h⟩ => by obtain ⟨z, g1, g2⟩ := ownA_bring (k := k) (H := H) h; exact ⟨z, g1, ownX_sl g2⟩
theorem ownXs_bring {k : Nat} : ∀ {xs ys : List AV} {S : List Nat}, ownXs H' xs ys S → ∃ zs, bringsA k xs = some zs ∧ ownXs (bringH H H' k) zs ys (S.map (· + k))
  | [], _, _, ⟨rfl, rfl⟩ => ⟨[], rfl, rfl, rfl⟩
  | x :: xs, _, S, ⟨y, ys', s, s', e1, e2, h1, h2⟩ => by
    subst e1 e2
    obtain ⟨z, g1, g2⟩ := ownX_bring h1
    obtain ⟨zs, g3, g4⟩ := ownXs_bring h2
    exact ⟨z :: zs, by simp only [bringsA, g1, g3], y, ys', s.map (· + k), s'.map (· + k), rfl, by simp, g2, g4⟩
end
mutual
theorem ownX_give : ∀ {x y : AV} {S : List Nat}, ownX H x y S → (∀ xs, x ≠ .tup xs) → (∀ xs, x = .ag xs → ∀ z ∈ xs, (∀ u, z ≠ .tup u) ∧ ∀ u, z ≠ .ag u) → giveA H x = some (tag0 y)
  | .ag xs, _, _, ⟨ys, rfl, h⟩, _, ht => by simp only [giveA, ownXs_give h (ht xs rfl)]; rfl
  | .tup xs, _, _, _, ht, _ => absurd rfl (ht xs)
  | .i _ _, _, _, ⟨rfl, _⟩, _, _ => rfl
  | .b _, _, _, ⟨rfl, _⟩, _, _ => rfl
  | .s _, _, _, ⟨rfl, _⟩, _, _ => rfl
  | .sl _ _, _, _, ⟨q, rfl, h⟩, _, _ => ownA_give h
  | .nil, _, _, ⟨q, rfl, h⟩, _, _ => ownA_give h
  | .own _ _, _, _, ⟨q, rfl, h⟩, _, _ => ownA_give h
  | .vw _ _ _ _, _, _, ⟨q, rfl, h⟩, _, _ => ownA_give h
  | .ptr _ _ _ _, _, _, ⟨q, rfl, h⟩, _, _ => ownA_give h
  | .fp _ _, _, _, ⟨q, rfl, h⟩, _, _ => ownA_give h
  | .fn _ _, _, _, ⟨q, rfl, h⟩, _, _ => ownA_give h
  | .un, _, _, ⟨q, rfl, h⟩, _, _ => ownA_give h
theorem ownXs_give : ∀ {xs ys : List AV} {S : List Nat}, ownXs H xs ys S → (∀ z ∈ xs, (∀ u, z ≠ .tup u) ∧ ∀ u, z ≠ .ag u) → givesA H xs = some (tags0 ys)
  | [], _, _, h, _ => by rw [h.1]; rfl
  | x :: xs, _, S, ⟨y, ys', s, s', e1, _, h1, h2⟩, ht => by
    subst e1
    have := ht x List.mem_cons_self
    simp only [givesA, ownX_give h1 this.1 (fun zs e => absurd e (this.2 zs)), ownXs_give h2 (fun z hz => ht z (List.mem_cons_of_mem _ hz))]
    rfl
end
theorem ownX_agI {x : AV} {ys : List AV} {S : List Nat} (h : ownX H x (.ag ys) S) : ∃ xs, x = .ag xs ∧ ownXs H xs ys S := by
  cases x <;> simp only [ownX] at h <;> first
    | (obtain ⟨zs, e, h⟩ := h; cases e; exact ⟨_, rfl, h⟩)
    | (obtain ⟨q, e, h⟩ := h; cases e)
    | (obtain ⟨e, h⟩ := h; cases e)
theorem ownX_tupI {x : AV} {ys : List AV} {S : List Nat} (h : ownX H x (.tup ys) S) : ∃ xs, x = .tup xs ∧ ownXs H xs ys S := by
  cases x <;> simp only [ownX] at h <;> first
    | (obtain ⟨zs, e, h⟩ := h; cases e; exact ⟨_, rfl, h⟩)
    | (obtain ⟨q, e, h⟩ := h; cases e)
    | (obtain ⟨e, h⟩ := h; cases e)
theorem ownX_i {x : AV} {k : IntKind} {n : Int} {S : List Nat} (h : ownX H x (.i k n) S) : x = .i k n ∧ S = [] := by
  cases x <;> first
    | (obtain ⟨e, h⟩ := h; cases e; exact ⟨rfl, h⟩)
    | (obtain ⟨e, h⟩ := h; cases e; done)
    | (obtain ⟨q, e, h⟩ := h; cases e; done)
theorem ownX_b {x : AV} {b : Bool} {S : List Nat} (h : ownX H x (.b b) S) : x = .b b ∧ S = [] := by
  cases x <;> first
    | (obtain ⟨e, h⟩ := h; cases e; exact ⟨rfl, h⟩)
    | (obtain ⟨e, h⟩ := h; cases e; done)
    | (obtain ⟨q, e, h⟩ := h; cases e; done)
theorem ownXs_consI {xs : List AV} {y : AV} {ys : List AV} {S : List Nat} (h : ownXs H xs (y :: ys) S) : ∃ x xs' s s', xs = x :: xs' ∧ S = s ++ s' ∧ ownX H x y s ∧ ownXs H xs' ys s' := by
  cases xs with
  | nil => have := h.1; cases this
  | cons x xs =>
    obtain ⟨a, b, s, s', e1, e2, h1, h2⟩ := h
    cases e1
    exact ⟨x, xs, s, s', rfl, e2, h1, h2⟩
theorem ownXs_nilI {xs : List AV} {S : List Nat} (h : ownXs H xs [] S) : xs = [] ∧ S = [] := by
  cases xs with
  | nil => exact ⟨rfl, h.2⟩
  | cons x xs => obtain ⟨a, b, s, s', e1, _⟩ := h; cases e1
theorem ownX_ag1 {x a : AV} {S : List Nat} (h : ownX H x (.ag [a]) S) : ∃ za, x = .ag [za] ∧ ownX H za a S := by
  obtain ⟨xs, rfl, h0⟩ := ownX_agI h
  clear h
  obtain ⟨za, xs, s, s', rfl, rfl, h1, h0⟩ := ownXs_consI h0
  obtain ⟨rfl, rfl⟩ := ownXs_nilI h0
  exact ⟨za, rfl, by rw [List.append_nil]; exact h1⟩
theorem ownX_ag2 {x a b : AV} {S : List Nat} (h : ownX H x (.ag [a, b]) S) : ∃ za zb s1 s2, x = .ag [za, zb] ∧ S = s1 ++ s2 ∧ ownX H za a s1 ∧ ownX H zb b s2 := by
  obtain ⟨xs, rfl, h0⟩ := ownX_agI h
  clear h
  obtain ⟨za, xs, s, s', rfl, rfl, h1, h0⟩ := ownXs_consI h0
  obtain ⟨zb, xs, s2, s', rfl, rfl, h2, h0⟩ := ownXs_consI h0
  obtain ⟨rfl, rfl⟩ := ownXs_nilI h0
  exact ⟨za, zb, s, s2, rfl, by rw [List.append_nil], h1, h2⟩
theorem ownX_ag3 {x a b c : AV} {S : List Nat} (h : ownX H x (.ag [a, b, c]) S) : ∃ za zb zc s1 s2 s3, x = .ag [za, zb, zc] ∧ S = s1 ++ (s2 ++ s3) ∧ ownX H za a s1 ∧ ownX H zb b s2 ∧ ownX H zc c s3 := by
  obtain ⟨xs, rfl, h0⟩ := ownX_agI h
  clear h
  obtain ⟨za, xs, s, s', rfl, rfl, h1, h0⟩ := ownXs_consI h0
  obtain ⟨zb, xs, s2, s', rfl, rfl, h2, h0⟩ := ownXs_consI h0
  obtain ⟨zc, xs, s3, s', rfl, rfl, h3, h0⟩ := ownXs_consI h0
  obtain ⟨rfl, rfl⟩ := ownXs_nilI h0
  exact ⟨za, zb, zc, s, s2, s3, rfl, by rw [List.append_nil], h1, h2, h3⟩
theorem ownX_tup2 {x a b : AV} {S : List Nat} (h : ownX H x (.tup [a, b]) S) : ∃ za zb s1 s2, x = .tup [za, zb] ∧ S = s1 ++ s2 ∧ ownX H za a s1 ∧ ownX H zb b s2 := by
  obtain ⟨xs, rfl, h0⟩ := ownX_tupI h
  clear h
  obtain ⟨za, xs, s, s', rfl, rfl, h1, h0⟩ := ownXs_consI h0
  obtain ⟨zb, xs, s2, s', rfl, rfl, h2, h0⟩ := ownXs_consI h0
  obtain ⟨rfl, rfl⟩ := ownXs_nilI h0
  exact ⟨za, zb, s, s2, rfl, by rw [List.append_nil], h1, h2⟩
theorem ownX_mk2 {za zb a b : AV} {s1 s2 : List Nat} (h1 : ownX H za a s1) (h2 : ownX H zb b s2) : ownX H (.ag [za, zb]) (.ag [a, b]) (s1 ++ s2) := ⟨_, rfl, a, [b], s1, s2, rfl, rfl, h1, b, [], s2, [], rfl, by simp, h2, rfl, rfl⟩
theorem ownX_mk3 {za zb zc a b c : AV} {s1 s2 s3 : List Nat} (h1 : ownX H za a s1) (h2 : ownX H zb b s2) (h3 : ownX H zc c s3) : ownX H (.ag [za, zb, zc]) (.ag [a, b, c]) (s1 ++ (s2 ++ s3)) := ⟨_, rfl, a, [b, c], s1, s2 ++ s3, rfl, rfl, h1, b, [c], s2, s3, rfl, rfl, h2, c, [], s3, [], rfl, by simp, h3, rfl, rfl⟩
theorem ownX_mkT {za zb a b : AV} {s1 s2 : List Nat} (h1 : ownX H za a s1) (h2 : ownX H zb b s2) : ownX H (.tup [za, zb]) (.tup [a, b]) (s1 ++ s2) := ⟨_, rfl, a, [b], s1, s2, rfl, rfl, h1, b, [], s2, [], rfl, by simp, h2, rfl, rfl⟩
theorem ownX_mki {k : IntKind} {n : Int} : ownX H (.i k n) (.i k n) [] := ⟨rfl, rfl⟩
theorem ownX_mkb {b : Bool} : ownX H (.b b) (.b b) [] := ⟨rfl, rfl⟩
/-- What a function gives that makes what it hands back. -/
def GivesO (P : Program) (G : Gv) (f : FuncId) (args : List AV) (y : AV) : Prop := WC P G f args (fun _ => none) 0 (fun r H n => ∃ S : List Nat, ownX H r y S ∧ S.Nodup)
theorem GivesO.gives {P : Program} {G : Gv} {f : FuncId} {args : List AV} {y : AV} (h : GivesO P G f args y) : Gives P G f args y := .of (h.mono fun r H n ⟨S, g, _⟩ => ownX_back g)
/-- What is held by a caller after such a call. -/
theorem GivesO.after {P : Program} {G : Gv} {f : FuncId} {args : List AV} {y : AV} {H0 : Heap} {k : Nat} {K : AV → Nat → Heap → Prop} (h : GivesO P G f args y) (hK : ∀ z (H' : Heap) (S : List Nat) m, ownX H' z y S → S.Nodup → (∀ o ∈ S, k ≤ o ∧ o < m) → (∀ o, o < k → H' o = H0 o) → k ≤ m → K z m H') :
    WC P G f args (fun _ => none) 0 (fun r Hc nc => ∃ z m, bringA k r = some z ∧ k + nc ≤ m ∧ K z m (bringH H0 Hc k)) := by
  refine WC.mono h ?_
  rintro r Hc nc ⟨S, g1, g2⟩
  obtain ⟨z, h1, h2⟩ := ownX_bring (k := k) (H := H0) g1
  have hmx : ∀ {l : List Nat} {a : Nat}, a ∈ l → a ≤ l.foldr max 0 := fun {l a} ha => by
    induction l with
    | nil => simp at ha
    | cons b l ih =>
      rw [List.foldr_cons]
      rcases List.mem_cons.mp ha with rfl | ha
      · exact Nat.le_max_left _ _
      · exact Nat.le_trans (ih ha) (Nat.le_max_right _ _)
  refine ⟨z, k + nc + (S.foldr max 0) + 1, h1, by omega, hK z _ _ _ h2 ?_ ?_ ?_ (by omega)⟩
  · exact List.pairwise_map.mpr (g2.imp (fun {a b} hab (e : a + k = b + k) => hab (by omega)))
  · intro o ho
    obtain ⟨a, ha, rfl⟩ := List.mem_map.mp ho
    have := hmx ha
    exact ⟨by omega, by omega⟩
  · intro o ho
    show (if o < k then _ else _) = _
    rw [if_pos ho]
theorem bringA_sl {k : Nat} {x z : AV} (h : bringA k x = some z) : ∀ t rows, z = .sl t rows → t = 1 := by
  rintro t rows rfl
  cases x <;> simp only [bringA] at h
  case sl t' rows' =>
    split at h
    · simp only [Option.some.injEq, AV.sl.injEq] at h; exact h.1.symm
    · cases h
  case nil => simp only [Option.some.injEq, AV.sl.injEq] at h; exact h.1.symm
  case ag xs => cases q : bringsA k xs <;> rw [q] at h <;> simp at h
  case tup xs => cases q : bringsA k xs <;> rw [q] at h <;> simp at h
  all_goals simp at h
theorem GivesO.after1 {P : Program} {G : Gv} {f : FuncId} {args : List AV} {y : AV} {H0 : Heap} {k : Nat} {K : AV → Nat → Heap → Prop} (h : GivesO P G f args y) (hK : ∀ z (H' : Heap) (S : List Nat) m, ownX H' z y S → S.Nodup → (∀ o ∈ S, k ≤ o ∧ o < m) → (∀ o, o < k → H' o = H0 o) → k ≤ m → (∀ t rows, z = .sl t rows → t = 1) → K z m H') :
    WC P G f args (fun _ => none) 0 (fun r Hc nc => ∃ z m, bringA k r = some z ∧ k + nc ≤ m ∧ K z m (bringH H0 Hc k)) := by
  refine WC.mono h ?_
  rintro r Hc nc ⟨S, g1, g2⟩
  obtain ⟨z, h1, h2⟩ := ownX_bring (k := k) (H := H0) g1
  have hmx : ∀ {l : List Nat} {a : Nat}, a ∈ l → a ≤ l.foldr max 0 := fun {l a} ha => by
    induction l with
    | nil => simp at ha
    | cons b l ih =>
      rw [List.foldr_cons]
      rcases List.mem_cons.mp ha with rfl | ha
      · exact Nat.le_max_left _ _
      · exact Nat.le_trans (ih ha) (Nat.le_max_right _ _)
  refine ⟨z, k + nc + (S.foldr max 0) + 1, h1, by omega, hK z _ _ _ h2 ?_ ?_ ?_ (by omega) (bringA_sl h1)⟩
  · exact List.pairwise_map.mpr (g2.imp (fun {a b} hab (e : a + k = b + k) => hab (by omega)))
  · intro o ho
    obtain ⟨a, ha, rfl⟩ := List.mem_map.mp ho
    have := hmx ha
    exact ⟨by omega, by omega⟩
  · intro o ho
    show (if o < k then _ else _) = _
    rw [if_pos ho]
theorem GivesO.afterc {P : Program} {G : Gv} {f : FuncId} {args : List AV} {y : AV} {H0 : Heap} {k : Nat} {K : AV → Nat → Heap → Prop} (h : GivesO P G f args y) (hK : ∀ z (H' : Heap) (S : List Nat) m, ownX H' z y S → S.Nodup → (∀ o ∈ S, k ≤ o ∧ o < m) → (∀ o, o < k → H' o = H0 o) → k ≤ m → K z m H') :
    WC P G f args (fun _ => none) 0 (fun r Hc nc => ∃ z m, bringA k r = some z ∧ k + nc ≤ m ∧ K z m (cutH m (bringH H0 Hc k))) := by
  refine WC.mono h ?_
  rintro r Hc nc ⟨S, g1, g2⟩
  obtain ⟨z, h1, h2⟩ := ownX_bring (k := k) (H := H0) g1
  have hmx : ∀ {l : List Nat} {a : Nat}, a ∈ l → a ≤ l.foldr max 0 := fun {l a} ha => by
    induction l with
    | nil => simp at ha
    | cons b l ih =>
      rw [List.foldr_cons]
      rcases List.mem_cons.mp ha with rfl | ha
      · exact Nat.le_max_left _ _
      · exact Nat.le_trans (ih ha) (Nat.le_max_right _ _)
  have hlt : ∀ o ∈ S.map (· + k), k ≤ o ∧ o < k + nc + (S.foldr max 0) + 1 := by
    intro o ho
    obtain ⟨a, ha, rfl⟩ := List.mem_map.mp ho
    have := hmx ha
    exact ⟨by omega, by omega⟩
  refine ⟨z, k + nc + (S.foldr max 0) + 1, h1, by omega, hK z _ _ _ (ownX_congr (fun o ho => if_pos (hlt o ho).2) h2) ?_ hlt ?_ (by omega)⟩
  · exact List.pairwise_map.mpr (g2.imp (fun {a b} hab (e : a + k = b + k) => hab (by omega)))
  · intro o ho
    unfold cutH
    rw [if_pos (by omega)]
    show (if o < k then _ else _) = _
    rw [if_pos ho]
theorem GivesO.of {P : Program} {G : Gv} {f : FuncId} {args : List AV} {y : AV} (h : WC P G f args (fun _ => none) 0 (fun r H n => ∃ S : List Nat, ownX H r y S ∧ S.Nodup)) : GivesO P G f args y := h
/-- A function that writes numbers into what it is handed, and nowhere else. -/
def Marks (P : Program) (G : Gv) (f : FuncId) (y y' : AV) (k k' : Int) : Prop := ∀ (x : AV) (H : Heap) (n : Nat) (S : List Nat), ownX H x y S → S.Nodup → (∀ o ∈ S, o < n) →
  WC P G f [x, .i .i64 k] H n (fun r H' n' => r = .i .i64 k' ∧ n ≤ n' ∧ ownX H' x y' S ∧ ∀ o, o < n → o ∉ S → H' o = H o)
theorem joinT_ne {a b : Nat} (ha : a ≠ 2) (hb : b ≠ 2) : joinT a b ≠ 2 := by
  unfold joinT
  split
  · exact ha
  · split
    · omega
    · split <;> omega
theorem ownX_cases {x : AV} {q : List (List PV)} {S : List Nat} (h : ownX H x (.sl 1 q) S) : (∃ o e ty sz rows t, x = .own o e ∧ H o = some (.arr e ty sz rows t) ∧ o ∈ S) ∨ x = .nil ∨ ∃ t, x = .sl t [] := by
  rcases ownX_un h with ⟨o, e, ty, sz, rows, t, S', rfl, h1, rfl, _⟩ | ⟨h, _⟩
  · exact .inl ⟨o, e, ty, sz, rows, t, rfl, h1, List.mem_cons_self⟩
  · exact .inr h
theorem ownX_plain {z : AV} {q : List (List PV)} {S : List Nat} (h : ownX H z (.sl 1 q) S) : plainA H z = true ∧ flatA H z = some [z] := by
  rcases ownX_cases h with ⟨o, e, ty, sz, rows, t, rfl, h1, _⟩ | rfl | ⟨t, rfl⟩
  · have hp : plainA H (.own o e) = true := by
      rcases ownX_un h with ⟨o', e', ty', sz', rows', t', S', e1, h2, _⟩ | ⟨e1 | ⟨_, e1⟩, _⟩
      · cases e1; simp [plainA, h2]
      · cases e1
      · cases e1
    exact ⟨hp, by simp [flatA, hp]⟩
  · exact ⟨rfl, rfl⟩
  · exact ⟨rfl, rfl⟩
theorem ownX_gives {z : AV} {q : List (List PV)} {S : List Nat} (h : ownX H z (.sl 1 q) S) : giveA H z = some (.sl 0 q) := ownA_give (ownX_un h)
attribute [irreducible] GivesO
end Go.Big
