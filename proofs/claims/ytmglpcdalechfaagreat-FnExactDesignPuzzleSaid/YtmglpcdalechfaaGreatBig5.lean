/- Slicing, arithmetic, conversions, lengths. No condition. -/
import Derived.Test.YtmglpcdalechfaaGreatBig4
import Derived.Laws.Unary
set_option linter.unusedVariables false
set_option linter.unusedSimpArgs false
namespace Go.Big
variable {P : Program}

theorem run_bound {x : Int} {k : IntKind} {y : Nat} {c : BoundsCode} (h0 : 0 ≤ x) (h1 : x ≤ y) (w : World) : (Instr.sliceBound (.int k x) y c).run P w = .ok x.toNat w := by
  unfold Instr.sliceBound
  simp [asIntOf, h0, h1]
/-- The bounds of a slicing, as numbers: low, high. -/
def boundA (d : Nat) : Option AV → Option Nat
  | none => some d
  | some (.i _ x) => if 0 ≤ x then some x.toNat else none
  | _ => none
def vrepO (M : Mem) : Option AV → Option Value → Prop
  | none, none => True
  | some x, some v => vrep M x v
  | _, _ => False
theorem run_bounds {M : Mem} {b : Bool} {len cap l h : Nat} {lo hi : Option AV} {vl vh : Option Value} (hl : vrepO M lo vl) (hh : vrepO M hi vh) (e1 : boundA 0 lo = some l) (e2 : boundA len hi = some h) (hlh : l ≤ h) (hc : h ≤ cap) (w : World) :
    (Instr.sliceBounds b len cap vl vh none).run P w = .ok (l, h, cap) w := by
  have gl : (lo = none ∧ vl = none ∧ l = 0) ∨ ∃ k x, lo = some (.i k x) ∧ vl = some (.int k x) ∧ 0 ≤ x ∧ x.toNat = l := by
    cases lo with
    | none => cases vl with
      | none => simp only [boundA, Option.some.injEq] at e1; exact .inl ⟨rfl, rfl, e1.symm⟩
      | some => exact hl.elim
    | some x => cases vl with
      | none => exact hl.elim
      | some v =>
        cases x <;> simp only [boundA] at e1 <;> try (simp at e1; done)
        rename_i k z
        split at e1
        · simp only [Option.some.injEq] at e1
          obtain rfl : v = .int k z := hl
          exact .inr ⟨k, z, rfl, rfl, by assumption, e1⟩
        · simp at e1
  have gh : (hi = none ∧ vh = none ∧ h = len) ∨ ∃ k x, hi = some (.i k x) ∧ vh = some (.int k x) ∧ 0 ≤ x ∧ x.toNat = h := by
    cases hi with
    | none => cases vh with
      | none => simp only [boundA, Option.some.injEq] at e2; exact .inl ⟨rfl, rfl, e2.symm⟩
      | some => exact hh.elim
    | some x => cases vh with
      | none => exact hh.elim
      | some v =>
        cases x <;> simp only [boundA] at e2 <;> try (simp at e2; done)
        rename_i k z
        split at e2
        · simp only [Option.some.injEq] at e2
          obtain rfl : v = .int k z := hh
          exact .inr ⟨k, z, rfl, rfl, by assumption, e2⟩
        · simp at e2
  clear e1 e2 hl hh
  rcases gl with ⟨_, rfl, rfl⟩ | ⟨k, x, _, rfl, hx, rfl⟩ <;> rcases gh with ⟨_, rfl, rfl⟩ | ⟨k', x', _, rfl, hx', rfl⟩
  · simp [Instr.sliceBounds]
  · have := fun c w => run_bound (P := P) (x := x') (k := k') (y := cap) (c := c) hx' (by omega) w
    simp [Instr.sliceBounds, this]
  · have := fun c w => run_bound (P := P) (x := x) (k := k) (y := h) (c := c) hx (by omega) w
    simp [Instr.sliceBounds, this]
  · have h1 := fun c w => run_bound (P := P) (x := x') (k := k') (y := cap) (c := c) hx' (by omega) w
    have h2 := fun c w => run_bound (P := P) (x := x) (k := k) (y := x'.toNat) (c := c) hx (by omega) w
    simp [Instr.sliceBounds, h1, h2]
/-- The elements of a slice are of a size. -/
def fitA (H : Heap) (n : Nat) (rows : List (List PV)) : AV → Bool
  | .own o _ | .vw o _ _ _ => match H o with
    | some (.arr _ _ sz _ _) => sz == n
    | _ => decide (∀ r ∈ rows, r.length = n)
  | _ => decide (∀ r ∈ rows, r.length = n)
def sliceA (P : Program) (H : Heap) (t : TypeId) (x : AV) (lo hi : Option AV) : Option AV :=
  match P.underlying t with
  | some .string => match x with
    | .s s => match boundA 0 lo, boundA s.size hi with
      | some l, some h => if l ≤ h ∧ h ≤ s.size then some (.s (s.extract l h)) else none
      | _, _ => none
    | _ => none
  | some (.slice el) => match rowsA H x, sz? P el with
    | some (tg, rows), some n => match boundA 0 lo, boundA rows.length hi with
      | some l, some h => if l ≤ h ∧ h ≤ rows.length ∧ fitA H n rows x = true then (match x with
        | .own o e => some (.vw o e l (h - l))
        | .vw o e b _ => some (.vw o e (b + l) (h - l))
        | _ => some (.sl tg ((rows.drop l).take (h - l)))) else none
      | _, _ => none
    | _, _ => none
  | _ => none
theorem add_block (a : Addr) (n : Nat) : (a.add n).block = a.block := by
  unfold Addr.add; split <;> first | rfl | (split <;> rfl)
theorem run_sliceAt_sl {M : Mem} {t el : TypeId} {n len c l h : Nat} {a : Option Addr} {lo hi : Option AV} {vl vh : Option Value} (hu : P.underlying t = some (.slice el)) (hn : sz? P el = some n) (hl : vrepO M lo vl) (hh : vrepO M hi vh) (e1 : boundA 0 lo = some l) (e2 : boundA len hi = some h) (hlh : l ≤ h) (hc : h ≤ c) (w : World) :
    (Instr.sliceAt t (.slice a len c) vl vh none).run P w = .ok (.slice (if c = l then a else a.map (·.add (l * n))) (h - l) (c - l)) w := by
  unfold Instr.sliceAt
  simp only [Sem.run_bind, run_underlying hu, Result.andThen_ok, Instr.slice, run_bounds (P := P) (b := true) (cap := c) hl hh e1 e2 hlh hc, run_size hn, Sem.run_pure]
theorem sliceA_ok {M : Mem} {base : Nat} (hok : Ok M base) {t : TypeId} {x y : AV} {v : Value} {lo hi : Option AV} {vl vh : Option Value} (hv : vrep M x v) (hl : vrepO M lo vl) (hh : vrepO M hi vh) (h : sliceA P M.H t x lo hi = some y) :
    ∃ u, (Instr.sliceAt t v vl vh none).run P M.w = .ok u M.w ∧ vrep M y u := by
  unfold sliceA at h
  split at h
  · rename_i hu
    split at h
    · rename_i s
      obtain rfl : v = .string s := hv
      split at h
      · rename_i l hb e1 e2
        split at h
        · rename_i c
          simp only [Option.some.injEq] at h; subst h
          refine ⟨_, ?_, rfl⟩
          unfold Instr.sliceAt
          simp only [Sem.run_bind, run_underlying hu, Result.andThen_ok, Instr.slice]
          simp [run_bounds (P := P) (b := false) (cap := s.size) hl hh e1 e2 c.1 c.2]
        · simp at h
      · simp at h
    · simp at h
  · rename_i el hu
    split at h
    · rename_i tg rows n hr hn
      split at h
      · rename_i l hb e1 e2
        split at h
        · rename_i c
          obtain ⟨a, cp, rfl, hcp⟩ := rowsA_len hok hv hr
          refine ⟨_, run_sliceAt_sl hu hn hl hh e1 e2 c.1 (Nat.le_trans c.2.1 hcp) M.w, ?_⟩
          obtain ⟨c1, c2, c3⟩ := c
          simp only at hcp c1 c2
          have frz : ∀ {tg : Nat} {rows : List (List PV)} {len : Nat}, rep M.w (M.fz tg) (.sl rows) (.slice a len cp) → hb ≤ rows.length → decide (∀ r ∈ rows, r.length = n) = true → rep M.w (M.fz tg) (.sl ((rows.drop l).take (hb - l))) (.slice (if cp = l then a else a.map (·.add (l * n))) (hb - l) (cp - l)) := by
            intro tg rows len hrep h2 h3
            obtain ⟨a', c', e, hc', hq⟩ := hrep
            cases e
            have hlen : ((rows.drop l).take (hb - l)).length = hb - l := by rw [List.length_take, List.length_drop]; omega
            refine ⟨_, _, by rw [hlen], by rw [hlen]; omega, fun hne => ?_⟩
            have hlt : l < hb := by
              by_cases q : l < hb
              · exact q
              · rw [show hb - l = 0 by omega] at hne; simp at hne
            have hrn : rows ≠ [] := fun e0 => by rw [e0] at h2; simp at h2; omega
            obtain ⟨ad, sz, rfl, hs, hz, hg, hrows⟩ := hq hrn
            have hszn : sz = n := by
              cases rows with
              | nil => exact absurd rfl hrn
              | cons r rs => rw [← hrows.1]; exact of_decide_eq_true h3 r List.mem_cons_self
            subst hszn
            refine ⟨ad.add (l * sz), sz, by rw [if_neg (by omega)]; rfl, by rw [add_spot hs], hz, by rw [add_spot hs]; exact hg, ?_⟩
            rw [add_spot hs]
            exact repRows_take _ _ _ (repRows_drop l rows _ hrows (by omega))
          cases x <;> simp only [rowsA] at hr <;> try (simp at hr; done)
          case sl =>
            simp only [Option.some.injEq, Prod.mk.injEq] at hr h; obtain ⟨rfl, rfl⟩ := hr; subst h
            exact frz hv c2 c3
          case nil =>
            simp only [Option.some.injEq, Prod.mk.injEq] at hr h; obtain ⟨rfl, rfl⟩ := hr; subst h
            simp only [List.length_nil, Nat.le_zero] at c2
            subst c2
            obtain rfl : l = 0 := by omega
            exact ⟨_, cp - 0, rfl, Nat.zero_le _, fun hne => by simp at hne⟩
          case own o e =>
            simp only [Option.some.injEq] at h; subst h
            obtain ⟨x, hx, g⟩ := hv
            rw [hx] at hr
            refine ⟨x, hx, ?_⟩
            cases x with
            | box => simp at hr
            | mp => simp at hr
            | arr e0 ty sz rows' tg' =>
              simp only at hr
              split at hr
              · rename_i he
                simp only [Option.some.injEq, Prod.mk.injEq] at hr; obtain ⟨rfl, rfl⟩ := hr
                simp only [fitA, hx, beq_iff_eq] at c3; subst c3
                have hvv := g.2 he
                obtain ⟨h1, h2, cs, ho, _⟩ := hok.ob o _ hx
                refine ⟨g.1, fun _ => ⟨by omega, _, _, rfl, by omega, fun ad had => ?_, fun h0 => ?_⟩⟩
                · rw [← hvv]
                  split at had
                  · rw [had]; rfl
                  · cases a with
                    | none => simp at had
                    | some a' => simp only [Option.map_some, Option.some.injEq] at had; rw [← had, add_block]; rfl
                rcases ho.2 with ⟨q1, q2⟩ | ⟨g1, f1, cap, cur, q1, _, _, hc, _⟩
                · rw [q1] at hvv
                  simp only [Value.slice.injEq] at hvv
                  omega
                · rw [q1] at hvv
                  simp only [Value.slice.injEq] at hvv
                  obtain ⟨rfl, _, rfl⟩ := hvv
                  exact ⟨g1, f1, _, _, q1, by rw [if_neg (by omega)]; simp [add_spot], by omega⟩
              · simp at hr
            | fro e0 rows' tg' =>
              simp only at hr
              split at hr
              · rename_i he
                simp only [Option.some.injEq, Prod.mk.injEq] at hr; obtain ⟨rfl, rfl⟩ := hr
                simp only [fitA, hx] at c3
                exact ⟨g.1, fun _ => frz (g.2 he) c2 c3⟩
              · simp at hr
          case vw o e lo' m =>
            simp only [Option.some.injEq] at h; subst h
            obtain ⟨x, hx, g⟩ := hv
            rw [hx] at hr
            refine ⟨x, hx, ?_⟩
            cases x with
            | box => simp at hr
            | mp => simp at hr
            | arr e0 ty sz rows' tg' =>
              simp only at hr
              split at hr
              · rename_i he
                simp only [Option.some.injEq, Prod.mk.injEq] at hr; obtain ⟨rfl, rfl⟩ := hr
                simp only [fitA, hx, beq_iff_eq] at c3; subst c3
                obtain ⟨h1, a', c', q1, h2, h4, h3⟩ := g.2 he
                rw [List.length_take, List.length_drop] at c2 hcp
                simp only [Value.slice.injEq] at q1
                obtain ⟨rfl, _, rfl⟩ := q1
                have k1 : hb ≤ m := Nat.le_trans c2 (Nat.min_le_left _ _)
                clear c2 hcp frz
                refine ⟨g.1, fun _ => ⟨by clear h3; omega, _, _, rfl, by clear h3; omega, fun ad had => ?_, fun h0 => ?_⟩⟩
                · split at had
                  · exact h4 _ had
                  · cases a with
                    | none => simp at had
                    | some a'' => simp only [Option.map_some, Option.some.injEq] at had; rw [← had, add_block]; exact h4 _ rfl
                obtain ⟨g1, f1, l1, k3, e1', rfl, k4⟩ := h3 (by clear h3; omega)
                refine ⟨g1, f1, l1, k3, e1', ?_, by rw [Nat.add_assoc, Nat.add_sub_cancel' (Nat.le_of_lt (Nat.lt_of_sub_pos h0))]; exact k4⟩
                rw [if_neg (by clear h3; omega), Option.map_some, add_spot rfl, Nat.add_mul, Nat.add_assoc]
              · simp at hr
            | fro e0 rows' tg' =>
              simp only at hr
              split at hr
              · rename_i he
                simp only [Option.some.injEq, Prod.mk.injEq] at hr; obtain ⟨rfl, rfl⟩ := hr
                simp only [fitA, hx] at c3
                refine ⟨g.1, fun _ => ?_⟩
                have := frz (g.2 he) c2 c3
                rw [List.length_take, List.length_drop] at c2
                rw [List.drop_take, List.drop_drop, List.take_take, Nat.min_eq_left (by omega)] at this
                exact this
              · simp at hr
        · simp at h
      · simp at h
    · simp at h
  · simp at h
end Go.Big
