/- Operations that leave memory as it is: what they give without memory is what the machine gives. No condition. -/
import Derived.Test.YtmglpcdalechfaaGreatBig2
import Derived.WalkKit
import Derived.Laws.Cells
import Derived.Laws.Entries
import Derived.ChangeKeysEq
set_option linter.unusedVariables false
set_option linter.unusedSimpArgs false
namespace Go.Big
variable {P : Program}

def sz? (P : Program) (t : TypeId) : Option Nat := (P.info? t).map (·.size)
def aggB : TypeDesc → Bool
  | .struct _ | .array _ _ => true
  | _ => false
def agg? (P : Program) (t : TypeId) : Option Bool := (P.underlying t).map aggB
theorem run_size {t : TypeId} {n : Nat} (h : sz? P t = some n) (w : World) : (sizeOf t).run P w = .ok n w := by
  unfold sz? at h
  cases q : P.info? t with
  | none => rw [q] at h; simp at h
  | some i =>
    rw [q] at h
    simp only [Option.map_some, Option.some.injEq] at h
    unfold sizeOf
    simp [run_typeInfo w q, h]
theorem run_agg {t : TypeId} {b : Bool} (h : agg? P t = some b) (w : World) : (isAgg t).run P w = .ok b w := by
  unfold agg? at h
  cases q : P.underlying t with
  | none => rw [q] at h; simp at h
  | some d =>
    rw [q] at h
    simp only [Option.map_some, Option.some.injEq] at h
    subst h
    unfold isAgg
    rw [Sem.run_bind, run_underlying q]
    cases d <;> rfl
theorem add_spot {a : Addr} (h : a.spot = none) (n : Nat) : a.add n = ⟨a.block, a.off + n, none⟩ := by
  unfold Addr.add
  obtain ⟨b, o, s⟩ := a
  simp only at h; subst h
  by_cases c : n = 0
  · subst c; simp
  · rw [if_neg c]

theorem flat_row {α : Type} {sz : Nat} : ∀ {rows : List (List α)} {ix : Nat} {r : List α}, (∀ x ∈ rows, x.length = sz) → rows[ix]? = some r → (rows.flatten.drop (ix * sz)).take sz = r
  | x :: xs, 0, r, h, e => by
    simp only [List.getElem?_cons_zero, Option.some.injEq] at e; subst e
    have := h x List.mem_cons_self
    rw [Nat.zero_mul, List.drop_zero, List.flatten_cons, List.take_append_of_le_length (by omega), List.take_of_length_le (by omega)]
  | x :: xs, ix + 1, r, h, e => by
    have hx := h x List.mem_cons_self
    have := flat_row (rows := xs) (fun y hy => h y (List.mem_cons_of_mem _ hy)) (by simpa using e)
    rw [List.flatten_cons, Nat.add_mul, Nat.one_mul, ← hx, Nat.add_comm, List.drop_append]
    rw [hx, List.drop_eq_nil_of_le (show x.length ≤ sz + ix * sz by omega), List.nil_append, Nat.add_sub_cancel_left]
    exact this
  | [], _, _, _, e => by simp at e
/-- The cells that an address leads to. -/
def cellsA (H : Heap) (n : Nat) : AV → Option (List AV)
  | .ptr o e ix off => match H o with
    | some (.box _ cells) => if off + n ≤ cells.length then some ((cells.drop off).take n) else none
    | some (.arr e0 _ _ rows t) => if e = e0 then (match rows[ix]? with
        | some r => if off + n ≤ r.length then some (((r.drop off).take n).map (avOf (ftag t))) else none
        | none => none) else none
    | _ => none
  | .fp t cells => if n ≤ cells.length then some ((cells.take n).map (avOf t)) else none
  | _ => none
theorem repCells_list {w : World} {G : Nat → Prop} {b : Nat} : ∀ {cs : List PV} {off : Nat}, repCells w G b off cs → ∃ vs, all2 (rep w G) cs vs ∧ ∀ j u, vs[j]? = some u → w.cell? ⟨b, off + j, none⟩ = some u
  | [], off, _ => ⟨[], trivial, fun j u h => by simp at h⟩
  | p :: ps, off, ⟨⟨v, h1, h2⟩, h3⟩ => by
    obtain ⟨vs, h4, h5⟩ := repCells_list h3
    refine ⟨v :: vs, ⟨h2, h4⟩, fun j u h => ?_⟩
    cases j with
    | zero => simp only [List.getElem?_cons_zero, Option.some.injEq] at h; subst h; simpa using h1
    | succ j => have := h5 j u (by simpa using h); rw [Nat.add_assoc, Nat.add_comm 1 j] at this; exact this
theorem all2_map {α β γ : Type} {R : α → β → Prop} {S : γ → β → Prop} {f : α → γ} (h : ∀ x y, R x y → S (f x) y) : ∀ {xs : List α} {ys : List β}, all2 R xs ys → all2 S (xs.map f) ys
  | [], [], _ => trivial
  | x :: xs, y :: ys, g => ⟨h x y g.1, all2_map h g.2⟩
  | [], _ :: _, g => g.elim
  | _ :: _, [], g => g.elim
theorem cellsA_ok {M : Mem} {base n : Nat} (hok : Ok M base) {av : AV} {v : Value} {l : List AV} (hv : vrep M av v) (h : cellsA M.H n av = some l) :
    ∃ ad cs, v = .pointer (some ad) ∧ ad.spot = none ∧ cs.length = n ∧ l.length = n ∧ all2 (vrep M) l cs ∧ ∀ j u, cs[j]? = some u → M.w.cell? (ad.add j) = some u := by
  cases av <;> simp only [cellsA] at h <;> try (simp at h; done)
  case ptr o e ix off =>
    obtain ⟨x, hx, g⟩ := hv
    rw [hx] at h
    cases x with
    | fro => simp at h
    | mp => simp at h
    | box ty cells =>
      simp only at h
      split at h
      · rename_i hl
        simp only [Option.some.injEq] at h; subst h
        obtain ⟨g0, cs, e1, h3, h4, h5⟩ := hok.ob o _ hx
        obtain ⟨g1, e2, rfl⟩ := g
        have e3 : g1 = g0 := by rw [e1] at e2; cases e2; rfl
        subst e3
        have hlen := all2_len h5
        refine ⟨_, (cs.toList.drop off).take n, rfl, rfl, ?_, ?_, all2_take n (all2_drop off h5), fun j u hj => ?_⟩
        · rw [List.length_take, List.length_drop, ← hlen]; omega
        · rw [List.length_take, List.length_drop]; omega
        · rw [add_spot rfl]
          have hjn : j < n := by
            have := (List.getElem?_eq_some_iff.mp hj).1
            rw [List.length_take] at this; omega
          rw [List.getElem?_take_of_lt hjn, List.getElem?_drop] at hj
          simp only [World.cell?, h4]
          simpa using hj
      · simp at h
    | arr e0 ty sz rows t =>
      simp only at h
      split at h
      · rename_i he; subst he
        obtain ⟨g1, f1, l1, k1, e2, rfl⟩ := g.2 rfl
        obtain ⟨h1, h2, cs, ho, ha⟩ := hok.ob o _ hx
        cases q : rows[ix]? with
        | none => rw [q] at h; simp at h
        | some r =>
          rw [q] at h
          simp only at h
          split at h
          · rename_i hl
            simp only [Option.some.injEq] at h; subst h
            have hr : r.length = sz := h2 r (List.mem_of_getElem? q)
            have hf := flat_row h2 q
            have ha2 := all2_take n (all2_drop off (all2_take sz (all2_drop (ix * sz) ha)))
            rw [hf] at ha2
            have hcl := all2_len ha2
            refine ⟨_, _, rfl, rfl, ?_, ?_, all2_map (R := repO M t) (f := avOf (ftag t)) (fun p v hp => hp.1) ha2, fun j u hj => ?_⟩
            · rw [← hcl, List.length_take, List.length_drop]; omega
            · rw [List.length_map, List.length_take, List.length_drop]; omega
            · rw [add_spot rfl]
              have hjn : j < n := by
                have := (List.getElem?_eq_some_iff.mp hj).1
                rw [List.length_take] at this; omega
              rw [List.getElem?_take_of_lt hjn, List.getElem?_drop, List.getElem?_take_of_lt (by omega), List.getElem?_drop] at hj
              have := ho.cells e2 _ u hj
              simpa [Nat.add_assoc] using this
          · simp at h
      · simp at h
  case fp t cells =>
    obtain ⟨ad, rfl, hs, hf, hr⟩ := hv
    split at h
    · rename_i hl
      simp only [Option.some.injEq] at h; subst h
      obtain ⟨vs, h1, h2⟩ := repCells_list (repCells_take n cells _ hr)
      have hcl := all2_len h1
      refine ⟨ad, vs, rfl, hs, ?_, ?_, all2_map (fun p v hp => vrep_avOf hp) h1, fun j u hj => ?_⟩
      · rw [← hcl, List.length_take]; omega
      · rw [List.length_map, List.length_take]; omega
      · rw [add_spot hs]; exact h2 j u hj
    · simp at h
/-- A load. -/
def loadA (P : Program) (H : Heap) (t : TypeId) (x : AV) : Option AV :=
  match agg? P t with
  | some true => match sz? P t with
    | some n => (cellsA H n x).map .ag
    | none => none
  | some false => match cellsA H 1 x with
    | some [y] => some y
    | _ => none
  | none => none
theorem loadA_ok {M : Mem} {base : Nat} (hok : Ok M base) {t : TypeId} {x y : AV} {v : Value} (hv : vrep M x v) (h : loadA P M.H t x = some y) :
    ∃ u, (Instr.loadAt t v).run P M.w = .ok u M.w ∧ vrep M y u := by
  unfold loadA at h
  split at h
  · rename_i ha
    split at h
    · rename_i n hn
      cases q : cellsA M.H n x with
      | none => rw [q] at h; simp at h
      | some l =>
        rw [q] at h
        simp only [Option.map_some, Option.some.injEq] at h; subst h
        obtain ⟨ad, cs, rfl, hs, h1, h2, h3, h4⟩ := cellsA_ok hok hv q
        refine ⟨.agg cs.toArray, ?_, ⟨cs.toArray, rfl, vreps_all2.mpr (by simpa using h3)⟩⟩
        simp only [Instr.loadAt, Instr.sureAddr, loadVar, Sem.run_bind, Sem.run_pure, Result.andThen_ok, run_agg ha, run_size hn, if_true]
        have := run_loadCells_list (P := P) (w := M.w) ad cs h4
        rw [h1] at this
        rw [this]; rfl
    · simp at h
  · rename_i ha
    split at h
    · rename_i y' q
      simp only [Option.some.injEq] at h; subst h
      obtain ⟨ad, cs, rfl, hs, h1, h2, h3, h4⟩ := cellsA_ok hok hv q
      match cs, h1, h3, h4 with
      | [u], _, h3, h4 =>
        refine ⟨u, ?_, h3.1⟩
        have h0 := h4 0 u rfl
        rw [add_spot hs, Nat.add_zero] at h0
        have h0' : M.w.cell? ad = some u := by
          obtain ⟨b, o, s⟩ := ad
          simp only at hs; subst hs; exact h0
        simp [Instr.loadAt, Instr.sureAddr, loadVar, run_agg ha, h0']
    · simp at h
  · simp at h
end Go.Big
