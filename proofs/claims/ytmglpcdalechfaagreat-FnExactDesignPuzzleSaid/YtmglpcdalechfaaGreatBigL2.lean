/- A call by value in a drawn region that hands back a struct with one array. No condition but that the given contracts hold. -/
import Derived.Test.YtmglpcdalechfaaGreatBigL
set_option linter.unusedVariables false
set_option linter.unusedSimpArgs false
namespace Go.Big
variable {P : Program} {G : Gv}
/-- A call by value whose result is a struct of a number and an array that becomes an object of the caller. -/
theorem OneL_agI (hG : GvOk P G) {ob : List Nat} {wr : List (Nat × Nat)} {rd : List (Nat × List Nat)} {N : Nat} {o : Oper} {c : Call} {f : FuncId} {args args' : List AV} {E : Env} {H Hc : Heap} {nc a X oo e sz t : Nat} {ty : TypeId} {rows : List (List PV)} {kk : IntKind} {mm : Int} (hop : o.op = .call c) (hwr : wrL wr o = some a) (hoX : ob[a]? = some X) (hXn : H X = none) (hnd : ob.Nodup) (hcl : calleeA E c = some (f, args)) (hgv : ∀ Hx : Heap, Agrees ob (fpL wr rd o) Hx H → givesA Hx args = some args')
    (hfn : ∃ fn, P.funcs[f]? = some fn ∧ fn.body.isSome = true ∧ (fn.name == "runtime.NumGoroutine") = false) (hbig : Big P G (.call f args' (fun _ => none) 0 (.ag [.i kk mm, .own oo e]) Hc nc)) (hx : Hc oo = some (.arr e ty sz rows t)) (hnb : newB t rows) (ht2 : t ≠ 2) :
    OneL P ob wr rd N o E (.ag [.i kk mm, .own X e]) H (H.upd X (.arr e ty sz rows t)) := by
  have hoff : ∀ k, offW ob wr o k → k ≠ X := fun k hk e => hk a hwr (e ▸ hoX)
  refine ⟨fun k hk => Heap.upd_ne _ _ (hoff k hk), ?_⟩
  intro Hx hxy E1 hag M base act hok hH hE K Q hK
  subst hH
  have hXM : M.H X = none := by
    rw [hxy X (fun b hb => by rw [nodup_at hnd hb hoX]; unfold fpL; rw [hwr]; simp)]; exact hXn
  have hcl' : calleeA E1 c = some (f, args) := by rw [← hcl]; exact calleeA_congr (fun x hx => hag x (by rw [hop]; exact hx))
  obtain ⟨fo, caps, q1, q2, q3⟩ := callee_ok hE hcl'
  obtain ⟨fn, p1, p2, p3⟩ := hfn
  unfold Oper.wp
  rw [call_run (args := #[]) hop q1 q2 p1 p2 p3, Oper.upon_enter]
  have hga := vreps_all2.mp (givesA_ok hok args (vreps_all2.mpr q3) (hgv _ hxy))
  have hcall := says hG hbig (Mc M) M.w.heap.size (c.args.map act.eval ++ caps).toList (Mc_ok M) rfl (fun _ _ => rfl) hga
  simp only [Array.toArray_toList] at hcall
  refine hcall.mono ?_
  rintro e' w' ⟨v, Mx, rfl, rfl, haft, hv⟩
  have hx1 : Mx.H oo = some (.arr e ty sz rows t) := by rw [haft.H]; exact hx
  obtain ⟨s1, s2, s3, s4⟩ := Me_ok (X := X) hok hXM haft.ok haft.below hx1 hnb ht2
  refine hK (Me M Mx X oo (.arr e ty sz rows t)) v (fun k hk => Heap.upd_ne _ _ (hoff k hk)) (fun b k hb' hk => ?_) s1 s2 s3 ?_
  · rw [hwr] at hb'; cases hb'
    rw [hoX] at hk; cases hk
    show (M.H.upd X _) X = (H.upd X _) X
    rw [Heap.upd_same, Heap.upd_same]
  · obtain ⟨vs, rfl, hs⟩ := hv
    obtain ⟨u1, r1, e1, g1, u2, r2, e2, g2, g3⟩ := hs
    obtain ⟨x, h1, h2⟩ := g2
    rw [hx1] at h1; cases h1
    exact ⟨vs, rfl, u1, r1, e1, g1, u2, r2, e2, ⟨_, Heap.upd_same _ _ _, Nat.le_refl _, fun _ => by rw [s4]; exact h2.2 rfl⟩, g3⟩
end Go.Big
