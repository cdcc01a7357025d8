/- What a callee made becomes the caller's own. No condition. -/
import Derived.Test.YtmglpcdalechfaaGreatBig16
set_option linter.unusedVariables false
set_option linter.unusedSimpArgs false
namespace Go.Big
/-- The caller's memory behind such a call. -/
def Mw (M Mx : Mem) (k : Nat) : Mem := { w := Mx.w, fz := fun t b => M.fz t b ∨ t ≤ 1 ∧ Mx.fz 1 b, hv := fun o => if o < k then M.hv o else Mx.hv (o - k), H := bringH M.H Mx.H k }
section
variable {M Mx : Mem} {k base : Nat}
theorem mw_hv (o : Nat) : (Mw M Mx k).hv (o + k) = Mx.hv o := by
  show (if o + k < k then _ else _) = _
  rw [if_neg (by omega), Nat.add_sub_cancel]
theorem mw_H (o : Nat) : (Mw M Mx k).H (o + k) = (Mx.H o).bind (bringO k) := by
  show (if o + k < k then _ else _) = _
  rw [if_neg (by omega), Nat.add_sub_cancel]
theorem mw_fz {t : Nat} (hx : Ok Mx M.w.heap.size) (ht : 1 ≤ t) : ∀ b, Mx.fz t b → Mx.w.heap[b]? = Mx.w.heap[b]? ∧ (Mw M Mx k).fz 1 b := fun b hb => ⟨rfl, .inr ⟨Nat.le_refl _, hx.up1 t b ht hb⟩⟩
theorem bring_own (hx : Ok Mx M.w.heap.size) {o e : Nat} {v : Value} (h : vrep Mx (.own o e) v) : vrep (Mw M Mx k) (.own (o + k) e) v := by
  obtain ⟨x, h1, h2⟩ := h
  cases x with
  | arr e0 ty sz rows t =>
    by_cases c : t ≠ 2 ∧ newB t rows
    · exact ⟨.arr e0 ty sz rows t, by rw [mw_H, h1]; simp only [Option.bind_some, bringO]; rw [if_pos c], h2.1, fun q => by rw [mw_hv]; exact h2.2 q⟩
    · by_cases d : (∀ r ∈ rows, ∀ p ∈ r, goodP p = true)
      · exact ⟨.arr e0 ty sz (rows.map fun r => r.map (shP k)) t, by rw [mw_H, h1]; simp only [Option.bind_some, bringO]; rw [if_neg c, if_pos d], h2.1, fun q => by rw [mw_hv]; exact h2.2 q⟩
      · exact ⟨.fro (e0 + 1) [] 0, by rw [mw_H, h1]; simp only [Option.bind_some, bringO]; rw [if_neg c, if_neg d], by have := h2.1; omega, fun q => by have := h2.1; omega⟩
  | fro e0 rows t =>
    by_cases c : 1 ≤ t
    · exact ⟨.fro e0 rows 1, by rw [mw_H, h1]; simp only [Option.bind_some, bringO]; rw [if_pos c], h2.1, fun q => rep_mono (mw_fz hx c) (.sl rows) v (h2.2 q)⟩
    · exact ⟨.fro (e0 + 1) [] 0, by rw [mw_H, h1]; simp only [Option.bind_some, bringO]; rw [if_neg c], by have := h2.1; omega, fun q => by have := h2.1; omega⟩
  | box => exact h2.elim
  | mp f => exact ⟨.mp f, by rw [mw_H, h1]; rfl, by rw [mw_hv]; exact h2⟩
theorem bring_vw (hx : Ok Mx M.w.heap.size) {o e lo n : Nat} {v : Value} (h : vrep Mx (.vw o e lo n) v) : vrep (Mw M Mx k) (.vw (o + k) e lo n) v := by
  obtain ⟨x, h1, h2⟩ := h
  cases x with
  | arr e0 ty sz rows t =>
    by_cases c : t ≠ 2 ∧ newB t rows
    · exact ⟨.arr e0 ty sz rows t, by rw [mw_H, h1]; simp only [Option.bind_some, bringO]; rw [if_pos c], h2.1, fun q => by rw [mw_hv]; exact h2.2 q⟩
    · by_cases d : (∀ r ∈ rows, ∀ p ∈ r, goodP p = true)
      · exact ⟨.arr e0 ty sz (rows.map fun r => r.map (shP k)) t, by rw [mw_H, h1]; simp only [Option.bind_some, bringO]; rw [if_neg c, if_pos d], h2.1, fun q => by rw [mw_hv, List.length_map]; exact h2.2 q⟩
      · exact ⟨.fro (e0 + 1) [] 0, by rw [mw_H, h1]; simp only [Option.bind_some, bringO]; rw [if_neg c, if_neg d], by have := h2.1; omega, fun q => by have := h2.1; omega⟩
  | fro e0 rows t =>
    by_cases c : 1 ≤ t
    · exact ⟨.fro e0 rows 1, by rw [mw_H, h1]; simp only [Option.bind_some, bringO]; rw [if_pos c], h2.1, fun q => rep_mono (mw_fz hx c) (.sl _) v (h2.2 q)⟩
    · exact ⟨.fro (e0 + 1) [] 0, by rw [mw_H, h1]; simp only [Option.bind_some, bringO]; rw [if_neg c], by have := h2.1; omega, fun q => by have := h2.1; omega⟩
  | box => exact h2.elim
  | mp f => exact h2.elim
mutual
theorem bringA_ok (hx : Ok Mx M.w.heap.size) : ∀ (x : AV) {y : AV} {v : Value}, vrep Mx x v → bringA k x = some y → vrep (Mw M Mx k) y v
  | .i _ _, y, v, hv, h => by simp only [bringA, Option.some.injEq] at h; subst h; exact hv
  | .b _, y, v, hv, h => by simp only [bringA, Option.some.injEq] at h; subst h; exact hv
  | .s _, y, v, hv, h => by simp only [bringA, Option.some.injEq] at h; subst h; exact hv
  | .nil, y, v, hv, h => by simp only [bringA, Option.some.injEq] at h; subst h; exact ⟨none, 0, hv, Nat.le_refl _, fun q => absurd rfl q⟩
  | .sl t rows, y, v, hv, h => by
    simp only [bringA] at h
    split at h
    · rename_i c
      simp only [Option.some.injEq] at h; subst h
      rcases c with c | c
      · exact rep_mono (mw_fz hx c) (.sl rows) v hv
      · obtain rfl : rows = [] := List.isEmpty_iff.mp c
        obtain ⟨a, c', e1, h1, _⟩ := hv
        exact ⟨a, c', e1, h1, fun q => absurd rfl q⟩
    · simp at h
  | .own o e, y, v, hv, h => by simp only [bringA, Option.some.injEq] at h; subst h; exact bring_own hx hv
  | .vw o e lo n, y, v, hv, h => by simp only [bringA, Option.some.injEq] at h; subst h; exact bring_vw hx hv
  | .ag xs, y, v, hv, h => by
    simp only [bringA] at h
    cases q : bringsA k xs with
    | none => rw [q] at h; simp at h
    | some ys =>
      rw [q] at h; simp only [Option.map_some, Option.some.injEq] at h; subst h
      obtain ⟨vs, rfl, hs⟩ := hv
      exact ⟨vs, rfl, bringsA_ok hx xs hs q⟩
  | .tup xs, y, v, hv, h => by
    simp only [bringA] at h
    cases q : bringsA k xs with
    | none => rw [q] at h; simp at h
    | some ys =>
      rw [q] at h; simp only [Option.map_some, Option.some.injEq] at h; subst h
      obtain ⟨vs, rfl, hs⟩ := hv
      exact ⟨vs, rfl, bringsA_ok hx xs hs q⟩
  | .fn _ _, _, _, _, h => by simp [bringA] at h
  | .ptr _ _ _ _, _, _, _, h => by simp [bringA] at h
  | .fp _ _, _, _, _, h => by simp [bringA] at h
  | .un, _, _, _, h => by simp [bringA] at h
theorem bringsA_ok (hx : Ok Mx M.w.heap.size) : ∀ (xs : List AV) {ys : List AV} {vs : List Value}, vreps Mx xs vs → bringsA k xs = some ys → vreps (Mw M Mx k) ys vs
  | [], ys, vs, hv, h => by simp only [bringsA, Option.some.injEq] at h; subst h; exact hv
  | x :: xs, ys, vs, hv, h => by
    simp only [bringsA] at h
    split at h
    · rename_i y ys' q1 q2
      simp only [Option.some.injEq] at h; subst h
      obtain ⟨v, r, rfl, h1, h2⟩ := hv
      exact ⟨v, r, rfl, bringA_ok hx x h1 q1, bringsA_ok hx xs h2 q2⟩
    · simp at h
end
theorem bring_leaf (hx : Ok Mx M.w.heap.size) {t : Nat} {p : PV} {v : Value} (hg : goodP p = true) (h : repO Mx t p v) : repO (Mw M Mx k) t (shP k p) v := by
  cases p with
  | i => exact ⟨h.1, fun q => by simp [noOb, shP] at q⟩
  | b => exact ⟨h.1, fun q => by simp [noOb, shP] at q⟩
  | s => exact ⟨h.1, fun q => by simp [noOb, shP] at q⟩
  | ob o e => exact ⟨bring_own hx h.1, fun _ => h.2 rfl⟩
  | sl rows =>
    cases rows with
    | cons r rs => simp [goodP] at hg
    | nil =>
      obtain ⟨a, c, e1, h1, _⟩ := h.1
      exact ⟨⟨a, c, e1, h1, fun q => absurd rfl q⟩, fun q => by simp [noOb, shP] at q⟩
theorem bring_cells (hx : Ok Mx M.w.heap.size) {t : Nat} {rows : List (List PV)} (hn : newB t rows) : ∀ p ∈ rows.flatten, ∀ v, repO Mx t p v → repO (Mw M Mx k) t p v := by
  intro p hp v h
  rcases hn with rfl | hs
  · cases p with
    | i => exact h
    | b => exact h
    | s => exact h
    | ob o e => exact absurd (h.2 rfl).1 (by omega)
    | sl rows => exact ⟨rep_mono (mw_fz hx (Nat.le_refl 1)) (.sl rows) v h.1, fun q => by simp [noOb] at q⟩
  · obtain ⟨r, h1, h2⟩ := List.mem_flatten.mp hp
    have := hs r h1 p h2
    cases p with
    | i => exact h
    | b => exact h
    | s => exact h
    | ob o e => simp [scalB] at this
    | sl rows => simp [scalB] at this
theorem ownsAt_low {w : World} {base base' : Nat} (hb : base ≤ base') {e : TypeId} {sz n : Nat} {v : Value} {xs : List Value} (h : ownsAt w base' e sz v n xs) : ownsAt w base e sz v n xs := by
  refine ⟨h.1, h.2.imp id ?_⟩
  rintro ⟨g, f, cap, cur, h1, h2, h3⟩
  exact ⟨g, f, cap, cur, h1, Nat.le_trans hb h2, h3⟩
theorem bring_ob (hok : Ok M base) (hx : Ok Mx M.w.heap.size) {o : Nat} {x y : Ob} (h1 : Mx.H o = some x) (h2 : bringO k x = some y) : ObOk (Mw M Mx k) base (o + k) y := by
  have ho := hx.ob o x h1
  have hw : (Mw M Mx k).w = Mx.w := rfl
  cases x with
  | arr e ty sz rows t =>
    obtain ⟨p0, p1, cs, q1, q2⟩ := ho
    simp only [bringO] at h2
    split at h2
    · rename_i c
      simp only [Option.some.injEq] at h2; subst h2
      refine ⟨p0, p1, cs, ?_, all2_mono (fun p v hp h => bring_cells hx c.2 p hp v h) q2⟩
      rw [mw_hv, hw]; exact ownsAt_low hok.low q1
    · split at h2
      · rename_i c
        simp only [Option.some.injEq] at h2; subst h2
        refine ⟨p0, fun r hr => ?_, cs, ?_, ?_⟩
        · obtain ⟨r', g1, rfl⟩ := List.mem_map.mp hr
          rw [List.length_map]; exact p1 r' g1
        · rw [mw_hv, hw, List.length_map]; exact ownsAt_low hok.low q1
        · rw [show (rows.map fun r => r.map (shP k)).flatten = rows.flatten.map (shP k) by rw [List.map_flatten]]
          exact all2_map_l (all2_mono (fun p v hp h => by
            obtain ⟨r, g1, g2⟩ := List.mem_flatten.mp hp
            exact bring_leaf hx (c r g1 p g2) h) q2)
      · simp only [Option.some.injEq] at h2; subst h2; trivial
  | fro e rows t =>
    simp only [bringO] at h2
    split at h2 <;> (simp only [Option.some.injEq] at h2; subst h2; trivial)
  | box => simp [bringO] at h2
  | mp f =>
    simp only [bringO, Option.some.injEq] at h2; subst h2
    obtain ⟨g, arr, clock, e1, e2, e3, e4⟩ := ho
    exact ⟨g, arr, clock, by rw [mw_hv]; exact e1, Nat.le_trans hok.low e2, e3, e4⟩
theorem bringO_mut {x y : Ob} (h : bringO k x = some y) (hm : y.mut = true) : x.mut = true := by
  cases x with
  | arr => rfl
  | box => rfl
  | mp => rfl
  | fro e rows t =>
    simp only [bringO] at h
    split at h <;> (simp only [Option.some.injEq] at h; subst h; simp [Ob.mut] at hm)
/-- Behind such a call the caller's memory holds. -/
theorem Mw_ok (hok : Ok M base) (hf : ∀ o, k ≤ o → M.H o = none) (hx : Ok Mx M.w.heap.size) (hb : Below M.w.heap.size M.w Mx.w) : Step M (Mw M Mx k) ∧ Ok (Mw M Mx k) base ∧ Below base M.w Mx.w := by
  have old : ∀ {o : Nat}, o < k → (Mw M Mx k).H o = M.H o ∧ (Mw M Mx k).hv o = M.hv o := fun {o} h => ⟨if_pos h, if_pos h⟩
  have hlt : ∀ {o : Nat} {x : Ob}, M.H o = some x → o < k := fun {o x} h => by
    by_cases c : o < k
    · exact c
    · rw [hf o (by omega)] at h; simp at h
  have new : ∀ {o : Nat} {y : Ob}, ¬ o < k → (Mw M Mx k).H o = some y → ∃ o' x, o = o' + k ∧ Mx.H o' = some x ∧ bringO k x = some y := fun {o y} c h => by
    refine ⟨o - k, ?_⟩
    have e : o = (o - k) + k := by omega
    rw [e, mw_H] at h
    obtain ⟨x, h1, h2⟩ := Option.bind_eq_some_iff.mp h
    exact ⟨x, e, h1, h2⟩
  have hs : Step M (Mw M Mx k) := ⟨fun t b hb' => ⟨hb.block b (hok.lt t b hb'), .inl hb'⟩, fun o x hxo => ⟨x, by rw [(old (hlt hxo)).1]; exact hxo, Goes.refl x (old (hlt hxo)).2⟩⟩
  refine ⟨hs, ⟨Nat.le_trans hok.low hb.size, ?_, ?_, ?_, ?_, ?_, ?_, ?_⟩, ⟨hb.os, hb.tape, hb.output, hb.size, fun k hk => hb.block k (Nat.lt_of_lt_of_le hk hok.low), hb.drawn⟩⟩
  · rintro t b (h | h)
    · exact Nat.lt_of_lt_of_le (hok.lt t b h) hb.size
    · exact hx.lt 1 b h.2
  · rintro t b ht (h | h)
    · exact hok.fresh t b ht h
    · exact Nat.le_trans hok.low (hx.fresh 1 b (Nat.le_refl _) h.2)
  · rintro t b (h | h)
    · exact .inl (hok.up0 t b h)
    · exact .inr ⟨Nat.zero_le _, h.2⟩
  · rintro t b ht (h | h)
    · exact .inl (hok.up1 t b ht h)
    · exact .inr ⟨Nat.le_refl _, h.2⟩
  · intro o y hy
    by_cases c : o < k
    · rw [(old c).1] at hy
      have ho := hok.ob o y hy
      by_cases hm : y.mut = true
      · exact ho.step hs (old c).2 (fun b hb' => hb.block b (ho.blk hm b hb').2)
      · cases y <;> first | (exact absurd rfl hm) | trivial
    · obtain ⟨o', x, rfl, h1, h2⟩ := new c hy
      exact bring_ob hok hx h1 h2
  · intro o y b t hy hm hb' hfz
    by_cases c : o < k
    · rw [(old c).1] at hy
      rw [(old c).2] at hb'
      rcases hfz with h | h
      · exact hok.apart o y b t hy hm hb' h
      · have h1 := ((hok.ob o y hy).blk hm b hb').2
        have h2 := hx.fresh 1 b (Nat.le_refl _) h.2
        omega
    · obtain ⟨o', x, rfl, h1, h2⟩ := new c hy
      rw [mw_hv] at hb'
      have hmx := bringO_mut h2 hm
      rcases hfz with h | h
      · have h3 := ((hx.ob o' x h1).blk hmx b hb').1
        have h4 := hok.lt t b h
        omega
      · exact hx.apart o' x b 1 h1 hmx hb' h.2
  · intro o1 o2 y1 y2 b hy1 hy2 hm1 hm2 hne hb1 hb2
    by_cases c1 : o1 < k <;> by_cases c2 : o2 < k
    · rw [(old c1).1] at hy1
      rw [(old c2).1] at hy2
      rw [(old c1).2] at hb1
      rw [(old c2).2] at hb2
      exact hok.diff o1 o2 y1 y2 b hy1 hy2 hm1 hm2 hne hb1 hb2
    · rw [(old c1).1] at hy1
      rw [(old c1).2] at hb1
      obtain ⟨o', x, rfl, h1, h2⟩ := new c2 hy2
      rw [mw_hv] at hb2
      have h3 := ((hx.ob o' x h1).blk (bringO_mut h2 hm2) b hb2).1
      have h4 := ((hok.ob o1 y1 hy1).blk hm1 b hb1).2
      omega
    · rw [(old c2).1] at hy2
      rw [(old c2).2] at hb2
      obtain ⟨o', x, rfl, h1, h2⟩ := new c1 hy1
      rw [mw_hv] at hb1
      have h3 := ((hx.ob o' x h1).blk (bringO_mut h2 hm1) b hb1).1
      have h4 := ((hok.ob o2 y2 hy2).blk hm2 b hb2).2
      omega
    · obtain ⟨o1', x1, rfl, h1, g1⟩ := new c1 hy1
      obtain ⟨o2', x2, rfl, h2, g2⟩ := new c2 hy2
      rw [mw_hv] at hb1 hb2
      exact hx.diff o1' o2' x1 x2 b h1 h2 (bringO_mut g1 hm1) (bringO_mut g2 hm2) (fun e => hne (by rw [e])) hb1 hb2
end
end Go.Big
