/- Calls in regions whose operations may come up in any order: what they make or change is told of the machine. No condition but that the given contracts hold. -/
import Derived.Test.YtmglpcdalechfaaGreatBigT
set_option linter.unusedVariables false
set_option linter.unusedSimpArgs false
namespace Go.Big
variable {P : Program} {G : Gv}
theorem cutH_lt {n : Nat} {H : Heap} {k : Nat} (h : k < n) : cutH n H k = H k := if_pos h
theorem cutH_ge {n : Nat} {H : Heap} {k : Nat} (h : n ≤ k) : cutH n H k = none := if_neg (by omega)
theorem cutH_eq {n : Nat} {H : Heap} (h : ∀ k, n ≤ k → H k = none) : cutH n H = H := funext fun k => by
  unfold cutH; split
  · rfl
  · exact (h k (by omega)).symm
theorem cut_frz {n : Nat} {H : Heap} {x e t : Nat} {rows : List (List PV)} (hx : x < n) : frzH (cutH n H) x e t rows = cutH n (frzH H x e t rows) := funext fun k => by
  unfold frzH cutH
  by_cases c : k = x
  · subst c; simp [hx]
  · by_cases c2 : k < n <;> simp [c, c2]
/-- A shared call as a maker. -/
theorem OneM_call (hG : GvOk P G) {fs st : List Nat} {n0 N i : Nat} {o : Oper} {c : Call} {f : FuncId} {args : List AV} {E : Env} {H H1 : Heap} {n n1 : Nat} {y : AV} (hop : o.op = .call c) (hmk : mkF fs (.call c) = true) (hcl : calleeA E c = some (f, args))
    (hfn : ∃ fn, P.funcs[f]? = some fn ∧ fn.body.isSome = true ∧ (fn.name == "runtime.NumGoroutine") = false) (hf : ∀ k, n ≤ k → H k = none) (hbig : Big P G (.call f args H n y H1 n1)) (hlow : ∀ k, k < n0 → cutH n1 H1 k = H k) :
    OneM P fs st n0 N i o E y H (cutH n1 H1) := by
  refine ⟨fun h => by rw [hop, hmk] at h; simp at h, hlow, ?_⟩
  intro Hx Hy hxy E1 hag M base a hok hH hE K Q hK
  obtain ⟨rfl, rfl⟩ : Hx = H ∧ Hy = cutH n1 H1 := by
    rcases hxy with h | ⟨h | h, _⟩
    · exact h
    · rw [hop] at h; simp [memFree] at h
    · rw [hop, hmk] at h; exact absurd h.1.2 (by simp)
  subst hH
  have hcl' : calleeA E1 c = some (f, args) := by rw [← hcl]; exact calleeA_congr (fun x hx => hag x (by rw [hop]; exact hx))
  obtain ⟨fo, caps, q1, q2, q3⟩ := callee_ok hE hcl'
  obtain ⟨fn, p1, p2, p3⟩ := hfn
  unfold Oper.wp
  rw [call_run (args := #[]) hop q1 q2 p1 p2 p3, Oper.upon_enter]
  have hcall := says hG hbig M base (c.args.map a.eval ++ caps).toList hok rfl hf q3
  simp only [Array.toArray_toList] at hcall
  refine hcall.mono ?_
  rintro e' w' ⟨v, M1, rfl, rfl, haft, hv⟩
  have hfr := haft.free
  rw [haft.H.symm] at hfr
  refine hK M1 v ?_ haft.step haft.ok haft.below hv
  rw [haft.H]
  exact (cutH_eq haft.free).symm
/-- A shared call whose result, an array of one's own, is frozen at once. -/
theorem OneM_frz (hG : GvOk P G) {fs st : List Nat} {n0 N i : Nat} {o : Oper} {c : Call} {f : FuncId} {args : List AV} {E : Env} {H H1 : Heap} {n n1 x e sz t : Nat} {ty : TypeId} {rows : List (List PV)} (hop : o.op = .call c) (hmk : mkF fs (.call c) = true) (hcl : calleeA E c = some (f, args))
    (hfn : ∃ fn, P.funcs[f]? = some fn ∧ fn.body.isSome = true ∧ (fn.name == "runtime.NumGoroutine") = false) (hf : ∀ k, n ≤ k → H k = none) (hbig : Big P G (.call f args H n (.own x e) H1 n1)) (hx : H1 x = some (.arr e ty sz rows t)) (hnb : newB t rows) (ht2 : t ≠ 2) (hlow : ∀ k, k < n0 → cutH n1 (frzH H1 x e 1 rows) k = H k) :
    OneM P fs st n0 N i o E (.sl 1 rows) H (cutH n1 (frzH H1 x e 1 rows)) := by
  refine ⟨fun h => by rw [hop, hmk] at h; simp at h, hlow, ?_⟩
  intro Hx Hy hxy E1 hag M base a hok hH hE K Q hK
  obtain ⟨rfl, rfl⟩ : Hx = H ∧ Hy = cutH n1 (frzH H1 x e 1 rows) := by
    rcases hxy with h | ⟨h | h, _⟩
    · exact h
    · rw [hop] at h; simp [memFree] at h
    · rw [hop, hmk] at h; exact absurd h.1.2 (by simp)
  subst hH
  have hcl' : calleeA E1 c = some (f, args) := by rw [← hcl]; exact calleeA_congr (fun x hx => hag x (by rw [hop]; exact hx))
  obtain ⟨fo, caps, q1, q2, q3⟩ := callee_ok hE hcl'
  obtain ⟨fn, p1, p2, p3⟩ := hfn
  unfold Oper.wp
  rw [call_run (args := #[]) hop q1 q2 p1 p2 p3, Oper.upon_enter]
  have hcall := says hG hbig M base (c.args.map a.eval ++ caps).toList hok rfl hf q3
  simp only [Array.toArray_toList] at hcall
  refine hcall.mono ?_
  rintro e' w' ⟨v, M1, rfl, rfl, haft, hv⟩
  have hx1 : M1.H x = some (.arr e ty sz rows t) := by rw [haft.H]; exact hx
  obtain ⟨s1, s2, s3⟩ := Mz_ok haft.ok hx1 (.inr ⟨rfl, hnb⟩) ht2
  refine hK (Mz M1 x e 1 rows) v ?_ (haft.step.trans s1) s2 haft.below ?_
  · show frzH M1.H x e 1 rows = _
    rw [haft.H]
    refine (cutH_eq fun k hk => ?_).symm
    have hfr := haft.free k hk
    unfold frzH
    split
    · rename_i h; subst h; rw [hx] at hfr; cases hfr
    · rw [hfr]; rfl
  · have := s3 _ _ hv
    simpa [frzV] using this
/-- The caller's memory behind a call by value whose one result is an array of the caller's from then on. -/
def Me (M Mx : Mem) (X oo : Nat) (x : Ob) : Mem := { w := Mx.w, fz := fun t b => M.fz t b ∨ t ≤ 1 ∧ Mx.fz 1 b, hv := fun o => if o = X then Mx.hv oo else M.hv o, H := M.H.upd X x }
theorem Me_ok {M Mx : Mem} {base X oo e sz t : Nat} {ty : TypeId} {rows : List (List PV)} (hok : Ok M base) (hX : M.H X = none) (hx : Ok Mx M.w.heap.size) (hb : Below M.w.heap.size M.w Mx.w) (ho : Mx.H oo = some (.arr e ty sz rows t)) (hnb : newB t rows) (ht2 : t ≠ 2) :
    Step M (Me M Mx X oo (.arr e ty sz rows t)) ∧ Ok (Me M Mx X oo (.arr e ty sz rows t)) base ∧ Below base M.w Mx.w ∧ (Me M Mx X oo (.arr e ty sz rows t)).hv X = Mx.hv oo := by
  have old : ∀ {o : Nat}, o ≠ X → (Me M Mx X oo (.arr e ty sz rows t)).H o = M.H o ∧ (Me M Mx X oo (.arr e ty sz rows t)).hv o = M.hv o := fun {o} h => ⟨Heap.upd_ne _ _ h, if_neg h⟩
  have new : (Me M Mx X oo (.arr e ty sz rows t)).H X = some (.arr e ty sz rows t) ∧ (Me M Mx X oo (.arr e ty sz rows t)).hv X = Mx.hv oo := ⟨Heap.upd_same _ _ _, if_pos rfl⟩
  have hne : ∀ {o : Nat} {x : Ob}, M.H o = some x → o ≠ X := fun {o x} h e => by rw [e, hX] at h; cases h
  have hs : Step M (Me M Mx X oo (.arr e ty sz rows t)) := ⟨fun t b hb' => ⟨hb.block b (hok.lt t b hb'), .inl hb'⟩, fun o x hxo => ⟨x, by rw [(old (hne hxo)).1]; exact hxo, Goes.refl x (old (hne hxo)).2⟩⟩
  have hfz1 : ∀ b, Mx.fz t b → (Me M Mx X oo (.arr e ty sz rows t)).fz 1 b ∨ t = 0 := fun b h => by
    by_cases c : 1 ≤ t
    · exact .inl (.inr ⟨Nat.le_refl _, hx.up1 t b c h⟩)
    · exact .inr (by omega)
  obtain ⟨p0, p1, cs, q1, q2⟩ := hx.ob oo _ ho
  refine ⟨hs, ⟨Nat.le_trans hok.low hb.size, ?_, ?_, ?_, ?_, ?_, ?_, ?_⟩, ⟨hb.os, hb.tape, hb.output, hb.size, fun k hk => hb.block k (Nat.lt_of_lt_of_le hk hok.low), hb.drawn⟩, new.2⟩
  · rintro t b (h | h)
    · exact Nat.lt_of_lt_of_le (hok.lt t b h) hb.size
    · exact hx.lt 1 b h.2
  · rintro t b ht (h | h)
    · exact hok.fresh t b ht h
    · exact Nat.le_trans hok.low (hx.fresh 1 b (Nat.le_refl _) h.2)
  · rintro t b (h | h)
    · exact .inl (hok.up0 t b h)
    · exact .inr ⟨Nat.zero_le _, h.2⟩
  · rintro t b ht (h | h)
    · exact .inl (hok.up1 t b ht h)
    · exact .inr ⟨Nat.le_refl _, h.2⟩
  · intro o y hy
    by_cases c : o = X
    · subst c
      rw [new.1] at hy; cases hy
      refine ⟨p0, p1, cs, by rw [new.2]; exact ownsAt_low hok.low q1, all2_mono (fun p v hp h => ?_) q2⟩
      rcases hnb with rfl | hs2
      · cases p with
        | i => exact h
        | b => exact h
        | s => exact h
        | ob o e => exact absurd (h.2 rfl).1 (by omega)
        | sl rows => exact ⟨rep_mono (fun b hb => ⟨rfl, .inr ⟨Nat.le_refl _, hx.up1 1 b (Nat.le_refl _) hb⟩⟩) (.sl rows) v h.1, fun q => by simp [noOb] at q⟩
      · obtain ⟨r, h1, h2⟩ := List.mem_flatten.mp hp
        have := hs2 r h1 p h2
        cases p with
        | i => exact h
        | b => exact h
        | s => exact h
        | ob o e => simp [scalB] at this
        | sl rows => simp [scalB] at this
    · rw [(old c).1] at hy
      have ho := hok.ob o y hy
      by_cases hm : y.mut = true
      · exact ho.step hs (old c).2 (fun b hb' => hb.block b (ho.blk hm b hb').2)
      · cases y <;> first | (exact absurd rfl hm) | trivial
  · intro o y b t' hy hm hb' hfz
    by_cases c : o = X
    · subst c
      rw [new.1] at hy; cases hy
      rw [new.2] at hb'
      rcases hfz with h | h
      · have h3 := ((hx.ob oo _ ho).blk rfl b hb').1
        have h4 := hok.lt t' b h
        omega
      · exact hx.apart oo _ b 1 ho rfl hb' h.2
    · rw [(old c).1] at hy
      rw [(old c).2] at hb'
      rcases hfz with h | h
      · exact hok.apart o y b t' hy hm hb' h
      · have h1 := ((hok.ob o y hy).blk hm b hb').2
        have h2 := hx.fresh 1 b (Nat.le_refl _) h.2
        omega
  · intro o1 o2 y1 y2 b hy1 hy2 hm1 hm2 hne hb1 hb2
    by_cases c1 : o1 = X <;> by_cases c2 : o2 = X
    · exact absurd (c1.trans c2.symm) hne
    · subst c1
      rw [new.1] at hy1; cases hy1
      rw [new.2] at hb1
      rw [(old c2).1] at hy2
      rw [(old c2).2] at hb2
      have h3 := ((hx.ob oo _ ho).blk rfl b hb1).1
      have h4 := ((hok.ob o2 y2 hy2).blk hm2 b hb2).2
      omega
    · subst c2
      rw [new.1] at hy2; cases hy2
      rw [new.2] at hb2
      rw [(old c1).1] at hy1
      rw [(old c1).2] at hb1
      have h3 := ((hx.ob oo _ ho).blk rfl b hb2).1
      have h4 := ((hok.ob o1 y1 hy1).blk hm1 b hb1).2
      omega
    · rw [(old c1).1] at hy1
      rw [(old c2).1] at hy2
      rw [(old c1).2] at hb1
      rw [(old c2).2] at hb2
      exact hok.diff o1 o2 y1 y2 b hy1 hy2 hm1 hm2 hne hb1 hb2
/-- A call by value whose one result becomes an object of the caller. -/
theorem OneL_own (hG : GvOk P G) {ob : List Nat} {wr : List (Nat × Nat)} {rd : List (Nat × List Nat)} {N : Nat} {o : Oper} {c : Call} {f : FuncId} {args args' : List AV} {E : Env} {H Hc : Heap} {nc a X oo e sz t : Nat} {ty : TypeId} {rows : List (List PV)} (hop : o.op = .call c) (hwr : wrL wr o = some a) (hoX : ob[a]? = some X) (hXn : H X = none) (hnd : ob.Nodup) (hcl : calleeA E c = some (f, args)) (hgv : ∀ Hx : Heap, Agrees ob (fpL wr rd o) Hx H → givesA Hx args = some args')
    (hfn : ∃ fn, P.funcs[f]? = some fn ∧ fn.body.isSome = true ∧ (fn.name == "runtime.NumGoroutine") = false) (hbig : Big P G (.call f args' (fun _ => none) 0 (.own oo e) Hc nc)) (hx : Hc oo = some (.arr e ty sz rows t)) (hnb : newB t rows) (ht2 : t ≠ 2) :
    OneL P ob wr rd N o E (.own X e) H (H.upd X (.arr e ty sz rows t)) := by
  have hoff : ∀ k, offW ob wr o k → k ≠ X := fun k hk e => hk a hwr (e ▸ hoX)
  refine ⟨fun k hk => Heap.upd_ne _ _ (hoff k hk), ?_⟩
  intro Hx hxy E1 hag M base act hok hH hE K Q hK
  subst hH
  have hXM : M.H X = none := by
    rw [hxy X (fun b hb => by rw [nodup_at hnd hb hoX]; unfold fpL; rw [hwr]; simp)]; exact hXn
  have hcl' : calleeA E1 c = some (f, args) := by rw [← hcl]; exact calleeA_congr (fun x hx => hag x (by rw [hop]; exact hx))
  obtain ⟨fo, caps, q1, q2, q3⟩ := callee_ok hE hcl'
  obtain ⟨fn, p1, p2, p3⟩ := hfn
  unfold Oper.wp
  rw [call_run (args := #[]) hop q1 q2 p1 p2 p3, Oper.upon_enter]
  have hga := vreps_all2.mp (givesA_ok hok args (vreps_all2.mpr q3) (hgv _ hxy))
  have hcall := says hG hbig (Mc M) M.w.heap.size (c.args.map act.eval ++ caps).toList (Mc_ok M) rfl (fun _ _ => rfl) hga
  simp only [Array.toArray_toList] at hcall
  refine hcall.mono ?_
  rintro e' w' ⟨v, Mx, rfl, rfl, haft, hv⟩
  have hx1 : Mx.H oo = some (.arr e ty sz rows t) := by rw [haft.H]; exact hx
  obtain ⟨s1, s2, s3, s4⟩ := Me_ok (X := X) hok hXM haft.ok haft.below hx1 hnb ht2
  refine hK (Me M Mx X oo (.arr e ty sz rows t)) v (fun k hk => Heap.upd_ne _ _ (hoff k hk)) (fun b k hb' hk => ?_) s1 s2 s3 ?_
  · rw [hwr] at hb'; cases hb'
    rw [hoX] at hk; cases hk
    show (M.H.upd X _) X = (H.upd X _) X
    rw [Heap.upd_same, Heap.upd_same]
  · obtain ⟨x, h1, h2⟩ := hv
    rw [hx1] at h1; cases h1
    exact ⟨_, Heap.upd_same _ _ _, Nat.le_refl _, fun _ => by rw [s4]; exact h2.2 rfl⟩
end Go.Big
