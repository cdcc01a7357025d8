/- More operations that leave memory as it is. No condition. -/
import Derived.Test.YtmglpcdalechfaaGreatBig3
set_option linter.unusedVariables false
set_option linter.unusedSimpArgs false
namespace Go.Big
variable {P : Program}

theorem repRows_get {w : World} {G : Nat → Prop} {sz b : Nat} : ∀ {rows : List (List PV)} {off ix : Nat} {r : List PV}, repRows w G sz b off rows → rows[ix]? = some r → r.length = sz ∧ repCells w G b (off + ix * sz) r
  | x :: xs, off, 0, r, h, e => by simp only [List.getElem?_cons_zero, Option.some.injEq] at e; subst e; exact ⟨h.1, by simpa using h.2.1⟩
  | x :: xs, off, ix + 1, r, h, e => by
    have := repRows_get h.2.2 (ix := ix) (by simpa using e)
    rw [Nat.add_mul, Nat.one_mul, Nat.add_comm (ix * sz) sz, ← Nat.add_assoc]; exact this
  | [], _, _, _, _, e => by simp at e
/-- A field's place. -/
def offA (P : Program) (s : TypeId) (f : Nat) : Option Nat := match P.underlying s with
  | some (.struct fs) => match fs[f]? with
    | some x => match sz? P x.type with
      | some (_ + 1) => some x.offset
      | _ => none
    | none => none
  | _ => none
theorem run_fieldAt {s : TypeId} {f o : Nat} (h : offA P s f = some o) (a : Addr) (w : World) : (Instr.fieldAt s (.pointer (some a)) f).run P w = .ok (.pointer (some (a.add o))) w := by
  unfold offA at h
  split at h
  · rename_i fs hu
    split at h
    · rename_i x hx
      split at h
      · rename_i k hk
        simp only [Option.some.injEq] at h; subst h
        unfold Instr.fieldAt
        rw [Sem.run_bind, run_underlying hu]
        simp only [Result.andThen_ok, hx, Instr.sureAddr, Sem.run_bind, Sem.run_pure, fieldPlace, run_size hk]
        simp
      · simp at h
    · simp at h
  · simp at h
/-- An address is not stale. -/
def liveB (H : Heap) (o e : Nat) : Bool := match H o with
  | some (.box ..) => true
  | some (.arr e0 ..) => e == e0
  | _ => false
theorem ptr_live {M : Mem} {o e ix off : Nat} {v : Value} (hv : vrep M (.ptr o e ix off) v) (h : liveB M.H o e = true) :
    ∃ a, v = .pointer (some a) ∧ a.spot = none ∧ ∀ k, vrep M (.ptr o e ix (off + k)) (.pointer (some ⟨a.block, a.off + k, none⟩)) := by
  obtain ⟨x, hx, g⟩ := hv
  unfold liveB at h
  rw [hx] at h
  cases x with
  | arr e0 ty sz rows t =>
    simp only [beq_iff_eq] at h
    obtain ⟨g1, f1, l1, k1, e2, rfl⟩ := g.2 h
    exact ⟨_, rfl, rfl, fun k => ⟨_, hx, g.1, fun _ => ⟨g1, f1, l1, k1, e2, by simp [Nat.add_assoc]⟩⟩⟩
  | fro => simp at h
  | mp => simp at h
  | box ty cells =>
    obtain ⟨g1, e2, rfl⟩ := g
    exact ⟨_, rfl, rfl, fun k => ⟨_, hx, g1, e2, rfl⟩⟩
def fieldAddrA (P : Program) (H : Heap) (s : TypeId) (f : Nat) : AV → Option AV
  | .ptr o e ix off => if liveB H o e = true then (offA P s f).map fun k => .ptr o e ix (off + k) else none
  | .fp t cells => match offA P s f with
    | some k => if k ≤ cells.length then some (.fp t (cells.drop k)) else none
    | none => none
  | _ => none
theorem fieldAddrA_ok {M : Mem} {s : TypeId} {f : Nat} {x y : AV} {v : Value} (hv : vrep M x v) (h : fieldAddrA P M.H s f x = some y) :
    ∃ u, (Instr.fieldAt s v f).run P M.w = .ok u M.w ∧ vrep M y u := by
  cases x <;> simp only [fieldAddrA] at h <;> try (simp at h; done)
  case ptr o e ix off =>
    split at h
    · rename_i hl
      cases q : offA P s f with
      | none => rw [q] at h; simp at h
      | some k =>
        rw [q] at h
        simp only [Option.map_some, Option.some.injEq] at h; subst h
        obtain ⟨a, rfl, hs, ha⟩ := ptr_live hv hl
        exact ⟨_, run_fieldAt q _ _, by rw [add_spot hs]; exact ha k⟩
    · simp at h
  case fp t cells =>
    split at h
    · rename_i k q
      split at h
      · simp only [Option.some.injEq] at h; subst h
        obtain ⟨ad, rfl, hs, hf, hr⟩ := hv
        refine ⟨_, run_fieldAt q _ _, ⟨_, rfl, ?_, ?_, ?_⟩⟩
        · rw [add_spot hs]
        · rw [add_spot hs]; exact hf
        · rw [add_spot hs]; exact repCells_drop k cells _ hr
      · simp at h
    · simp at h
/-- The elements behind a slice, its length; where they lie is told by 'at'. -/
def rowsA (H : Heap) : AV → Option (Nat × List (List PV))
  | .sl t rows => some (t, rows)
  | .nil => some (1, [])
  | .own o e => match H o with
    | some (.arr e0 _ _ rows t) => if e = e0 then some (t, rows) else none
    | some (.fro e0 rows t) => if e = e0 then some (t, rows) else none
    | _ => none
  | .vw o e lo n => match H o with
    | some (.arr e0 _ _ rows t) => if e = e0 then some (t, (rows.drop lo).take n) else none
    | some (.fro e0 rows t) => if e = e0 then some (t, (rows.drop lo).take n) else none
    | _ => none
  | _ => none
theorem rowsA_len {M : Mem} {base : Nat} (hok : Ok M base) {x : AV} {v : Value} {p : Nat × List (List PV)} (hv : vrep M x v) (h : rowsA M.H x = some p) : ∃ a c, v = .slice a p.2.length c ∧ p.2.length ≤ c := by
  cases x <;> simp only [rowsA] at h <;> try (simp at h; done)
  case sl t rows =>
    simp only [Option.some.injEq] at h; subst h
    obtain ⟨a, c, e, hc, _⟩ := hv
    exact ⟨a, c, e, hc⟩
  case nil =>
    simp only [Option.some.injEq] at h; subst h
    exact ⟨none, 0, hv, Nat.le_refl _⟩
  case own o e =>
    obtain ⟨x, hx, g⟩ := hv
    rw [hx] at h
    cases x with
    | box => simp at h
    | mp => simp at h
    | arr e0 ty sz rows t =>
      simp only at h
      split at h
      · rename_i he
        simp only [Option.some.injEq] at h; subst h
        obtain ⟨h1, h2, cs, ho, _⟩ := hok.ob o _ hx
        rw [g.2 he]
        rcases ho.2 with ⟨e1, e2⟩ | ⟨g1, f1, cap, cur, e1, _, _, hc, _⟩
        · exact ⟨none, 0, by rw [e1, e2], by simp only; omega⟩
        · exact ⟨_, cap, e1, hc⟩
      · simp at h
    | fro e0 rows t =>
      simp only at h
      split at h
      · rename_i he
        simp only [Option.some.injEq] at h; subst h
        obtain ⟨a, c, e, hc, _⟩ := g.2 he
        exact ⟨a, c, e, hc⟩
      · simp at h
  case vw o e lo n =>
    obtain ⟨x, hx, g⟩ := hv
    rw [hx] at h
    cases x with
    | box => simp at h
    | mp => simp at h
    | arr e0 ty sz rows t =>
      simp only at h
      split at h
      · rename_i he
        simp only [Option.some.injEq] at h; subst h
        obtain ⟨h1, a, c, e1, h2, _⟩ := g.2 he
        have : ((rows.drop lo).take n).length = n := by rw [List.length_take, List.length_drop]; omega
        exact ⟨a, c, by rw [this]; exact e1, by rw [this]; exact h2⟩
      · simp at h
    | fro e0 rows t =>
      simp only at h
      split at h
      · rename_i he
        simp only [Option.some.injEq] at h; subst h
        obtain ⟨a, c, e, hc, _⟩ := g.2 he
        exact ⟨a, c, e, hc⟩
      · simp at h
/-- The address of an element of a slice of elements of a size. -/
def elemA (H : Heap) (n i : Nat) : AV → Option AV
  | .sl t rows => match rows[i]? with
    | some r => if r.length = n ∧ 0 < n then some (.fp t r) else none
    | none => none
  | .own o e => match H o with
    | some (.arr e0 _ sz rows _) => if e = e0 ∧ i < rows.length ∧ sz = n then some (.ptr o e i 0) else none
    | some (.fro e0 rows t) => if e = e0 then (match rows[i]? with
      | some r => if r.length = n ∧ 0 < n then some (.fp t r) else none
      | none => none) else none
    | _ => none
  | .vw o e lo m => match H o with
    | some (.arr e0 _ sz _ _) => if e = e0 ∧ i < m ∧ sz = n then some (.ptr o e (lo + i) 0) else none
    | some (.fro e0 rows t) => if e = e0 then (match ((rows.drop lo).take m)[i]? with
      | some r => if r.length = n ∧ 0 < n then some (.fp t r) else none
      | none => none) else none
    | _ => none
  | _ => none
theorem sl_elem {M : Mem} {t : Nat} {rows : List (List PV)} {v : Value} {i n : Nat} {r : List PV} (hv : rep M.w (M.fz t) (.sl rows) v) (hr : rows[i]? = some r) (hn : r.length = n) (h0 : 0 < n) :
    ∃ ad c, v = .slice (some ad) rows.length c ∧ i < rows.length ∧ vrep M (.fp t r) (.pointer (some (ad.add (i * n)))) := by
  obtain ⟨a, c, e, hc, hq⟩ := hv
  have hi := (List.getElem?_eq_some_iff.mp hr).1
  obtain ⟨ad, sz, rfl, hs, hz, hg, hrows⟩ := hq (fun e0 => by rw [e0] at hi; simp at hi)
  obtain ⟨h1, h2⟩ := repRows_get hrows hr
  refine ⟨ad, c, e, hi, ad.add (i * n), rfl, ?_, ?_, ?_⟩
  · rw [add_spot hs]
  · rw [add_spot hs]; exact hg
  · rw [add_spot hs, ← hn, h1]; exact h2
theorem run_indexAt {t el : TypeId} {n i len c : Nat} {k : IntKind} {a : Addr} (hu : P.underlying t = some (.slice el)) (hn : sz? P el = some n) (hi : i < len) (w : World) :
    (Instr.indexAt t (.slice (some a) len c) (.int k (i : Int))).run P w = .ok (.pointer (some (a.add (i * n)))) w := by
  unfold Instr.indexAt
  simp only [asIntOf, Sem.run_bind, Sem.run_pure, Result.andThen_ok, run_underlying hu]
  have e1 : (0 : Int) ≤ (i : Int) ∧ (i : Int) < (len : Int) := by omega
  simp [e1, run_size hn]
theorem elemA_ok {M : Mem} {base : Nat} (hok : Ok M base) {t el : TypeId} {n i : Nat} {k : IntKind} {x y : AV} {v : Value} (hu : P.underlying t = some (.slice el)) (hn : sz? P el = some n) (hv : vrep M x v) (h : elemA M.H n i x = some y) :
    ∃ u, (Instr.indexAt t v (.int k (i : Int))).run P M.w = .ok u M.w ∧ vrep M y u := by
  have frz : ∀ {tg : Nat} {rows : List (List PV)}, rep M.w (M.fz tg) (.sl rows) v → (match rows[i]? with | some r => if r.length = n ∧ 0 < n then some (AV.fp tg r) else none | none => none) = some y → ∃ u, (Instr.indexAt t v (.int k (i : Int))).run P M.w = .ok u M.w ∧ vrep M y u := by
    intro tg rows hr h
    cases q : rows[i]? with
    | none => rw [q] at h; simp at h
    | some r =>
      rw [q] at h
      simp only at h
      split at h
      · rename_i c
        simp only [Option.some.injEq] at h; subst h
        obtain ⟨ad, cp, rfl, hi, hy⟩ := sl_elem hr q c.1 c.2
        exact ⟨_, run_indexAt hu hn hi M.w, hy⟩
      · simp at h
  cases x <;> simp only [elemA] at h <;> try (simp at h; done)
  case sl tg rows => exact frz hv h
  case own o e =>
    obtain ⟨x, hx, g⟩ := hv
    rw [hx] at h
    cases x with
    | box => simp at h
    | mp => simp at h
    | arr e0 ty sz rows tg =>
      simp only at h
      split at h
      · rename_i c
        obtain ⟨he, hi, hsz⟩ := c
        simp only [Option.some.injEq] at h; subst h
        obtain ⟨h1, h2, cs, ho, _⟩ := hok.ob o _ hx
        have hvv := g.2 he
        rcases ho.2 with ⟨e1, e2⟩ | ⟨g1, f1, cap, cur, e1, _, _, hc, _⟩
        · rw [e2] at hi; omega
        · rw [hvv, e1]
          refine ⟨_, run_indexAt hu hn hi M.w, ⟨_, hx, g.1, fun _ => ⟨g1, f1, _, _, e1, ?_⟩⟩⟩
          rw [add_spot rfl, hsz]; simp
      · simp at h
    | fro e0 rows tg =>
      simp only at h
      split at h
      · rename_i he; exact frz (g.2 he) h
      · simp at h
  case vw o e lo m =>
    obtain ⟨x, hx, g⟩ := hv
    rw [hx] at h
    cases x with
    | box => simp at h
    | mp => simp at h
    | arr e0 ty sz rows tg =>
      simp only at h
      split at h
      · rename_i c
        obtain ⟨he, hi, hsz⟩ := c
        simp only [Option.some.injEq] at h; subst h
        obtain ⟨h1, a, c1, rfl, h2, _, h3⟩ := g.2 he
        obtain ⟨g1, f1, l1, k1, e1, rfl, _⟩ := h3 (by omega)
        refine ⟨_, run_indexAt hu hn hi M.w, ⟨_, hx, g.1, fun _ => ⟨g1, f1, _, _, e1, ?_⟩⟩⟩
        rw [add_spot rfl, hsz, Nat.add_mul, Nat.add_zero, Nat.add_assoc]
      · simp at h
    | fro e0 rows tg =>
      simp only at h
      split at h
      · rename_i he; exact frz (g.2 he) h
      · simp at h
def indexAddrA (P : Program) (H : Heap) (t : TypeId) (x ix : AV) : Option AV :=
  match P.underlying t, x, ix with
  | some (.slice el), x, .i _ i => if 0 ≤ i then (match sz? P el with
    | some n => elemA H n i.toNat x
    | none => none) else none
  | some (.array len el), .ptr o e j off, .i _ i => if 0 ≤ i ∧ i < len ∧ liveB H o e = true then (sz? P el).map (fun n => .ptr o e j (off + i.toNat * n)) else none
  | some (.array len el), .fp t cells, .i _ i => if 0 ≤ i ∧ i < len then (match sz? P el with
    | some n => if i.toNat * n ≤ cells.length then some (.fp t (cells.drop (i.toNat * n))) else none
    | none => none) else none
  | _, _, _ => none
theorem run_indexAtArr {t el : TypeId} {n len : Nat} {i : Int} {k : IntKind} {a : Addr} (hu : P.underlying t = some (.array len el)) (hn : sz? P el = some n) (h0 : 0 ≤ i) (hi : i < len) (w : World) :
    (Instr.indexAt t (.pointer (some a)) (.int k i)).run P w = .ok (.pointer (some (a.add (i.toNat * n)))) w := by
  unfold Instr.indexAt
  simp only [asIntOf, Instr.sureAddr, Sem.run_bind, Sem.run_pure, Result.andThen_ok, run_underlying hu]
  simp [h0, hi, run_size hn]
theorem indexAddrA_ok {M : Mem} {base : Nat} (hok : Ok M base) {t : TypeId} {x ix y : AV} {v vi : Value} (hv : vrep M x v) (hi : vrep M ix vi) (h : indexAddrA P M.H t x ix = some y) :
    ∃ u, (Instr.indexAt t v vi).run P M.w = .ok u M.w ∧ vrep M y u := by
  unfold indexAddrA at h
  split at h
  · rename_i el k i hu
    obtain rfl : vi = .int k i := hi
    split at h
    · rename_i h0
      split at h
      · rename_i n hn
        have e : ((i.toNat : Nat) : Int) = i := by omega
        have := elemA_ok hok (k := k) hu hn hv h
        rw [e] at this; exact this
      · simp at h
    · simp at h
  · rename_i len el o e j off k i hu
    obtain rfl : vi = .int k i := hi
    split at h
    · rename_i c
      cases q : sz? P el with
      | none => rw [q] at h; simp at h
      | some n =>
        rw [q] at h
        simp only [Option.map_some, Option.some.injEq] at h; subst h
        obtain ⟨a, rfl, hs, ha⟩ := ptr_live hv c.2.2
        exact ⟨_, run_indexAtArr hu q c.1 c.2.1 _, by rw [add_spot hs]; exact ha _⟩
    · simp at h
  · rename_i len el tg cells k i hu
    obtain rfl : vi = .int k i := hi
    split at h
    · rename_i c
      split at h
      · rename_i n q
        split at h
        · simp only [Option.some.injEq] at h; subst h
          obtain ⟨ad, rfl, hs, hf, hr⟩ := hv
          refine ⟨_, run_indexAtArr hu q c.1 c.2 _, ⟨_, rfl, ?_, ?_, ?_⟩⟩
          · rw [add_spot hs]
          · rw [add_spot hs]; exact hf
          · rw [add_spot hs]; exact repCells_drop _ cells _ hr
        · simp at h
      · simp at h
    · simp at h
  · simp at h
/-- A part of a struct's value. -/
def partA (P : Program) (t : TypeId) (xs : List AV) (off : Nat) : Option AV :=
  match agg? P t with
  | some true => match sz? P t with
    | some n => if off + n ≤ xs.length then some (.ag ((xs.drop off).take n)) else none
    | none => none
  | some false => xs[off]?
  | none => none
theorem partA_ok {M : Mem} {t : TypeId} {xs : List AV} {cs : Array Value} {off : Nat} {y : AV} (hx : all2 (vrep M) xs cs.toList) (h : partA P t xs off = some y) :
    ∃ u, (part t cs off).run P M.w = .ok u M.w ∧ vrep M y u := by
  unfold partA at h
  have hl := all2_len hx
  split at h
  · rename_i ha
    split at h
    · rename_i n hn
      split at h
      · rename_i c
        simp only [Option.some.injEq] at h; subst h
        refine ⟨.agg (cs.extract off (off + n)), ?_, ⟨_, rfl, vreps_all2.mpr ?_⟩⟩
        · unfold part
          simp only [Sem.run_bind, run_agg ha, run_size hn, Sem.run_pure, Result.andThen_ok, if_true]
        · have := all2_take n (all2_drop off hx)
          simpa [Array.toList_extract, List.extract_eq_take_drop] using this
      · simp at h
    · simp at h
  · rename_i ha
    obtain ⟨u, hu, hr⟩ := all2_get hx h
    refine ⟨u, ?_, hr⟩
    unfold part
    have hu' : cs[off]? = some u := by rw [← hu]; simp
    simp [run_agg ha, hu']
  · simp at h
def fieldA (P : Program) (s : TypeId) (f : Nat) : AV → Option AV
  | .ag xs => match P.underlying s with
    | some (.struct fs) => match fs[f]? with
      | some x => partA P x.type xs x.offset
      | none => none
    | _ => none
  | _ => none
theorem fieldA_ok {M : Mem} {s : TypeId} {f : Nat} {x y : AV} {v : Value} (hv : vrep M x v) (h : fieldA P s f x = some y) :
    ∃ u, (Instr.field s v f).run P M.w = .ok u M.w ∧ vrep M y u := by
  cases x <;> simp only [fieldA] at h <;> try (simp at h; done)
  case ag xs =>
    obtain ⟨cs, rfl, hx⟩ := hv
    split at h
    · rename_i fs hu
      split at h
      · rename_i x q
        obtain ⟨u, h1, h2⟩ := partA_ok (M := M) (vreps_all2.mp hx) h
        refine ⟨u, ?_, h2⟩
        unfold Instr.field
        simp [run_underlying hu, q, asAgg, h1]
      · simp at h
    · simp at h
/-- A byte of a string. -/
def indexA (P : Program) (t : TypeId) : AV → AV → Option AV
  | .s x, .i _ i => match P.underlying t with
    | some .string => if h : 0 ≤ i ∧ i.toNat < x.size then some (.i .u8 ((x[i.toNat]'h.2).toNat : Int)) else none
    | _ => none
  | .ag xs, .i _ i => match P.underlying t with
    | some (.array len el) => if 0 ≤ i ∧ i < len then (match sz? P el with
      | some n => partA P el xs (i.toNat * n)
      | none => none) else none
    | _ => none
  | _, _ => none
theorem indexA_ok {M : Mem} {t : TypeId} {x ix y : AV} {v vi : Value} (hv : vrep M x v) (hi : vrep M ix vi) (h : indexA P t x ix = some y) :
    ∃ u, (Instr.index t v vi).run P M.w = .ok u M.w ∧ vrep M y u := by
  unfold indexA at h
  split at h
  · rename_i s k i
    obtain rfl : v = .string s := hv
    obtain rfl : vi = .int k i := hi
    split at h
    · rename_i hu
      split at h
      · rename_i c
        simp only [Option.some.injEq] at h; subst h
        refine ⟨_, ?_, rfl⟩
        unfold Instr.index
        simp only [asIntOf, Sem.run_bind, Sem.run_pure, Result.andThen_ok, run_underlying hu, if_pos c.1]
        rw [show s[i.toNat]? = some (s[i.toNat]'c.2) from getElem?_pos _ _ _]
        rfl
      · simp at h
    · simp at h
  · rename_i xs k i
    obtain ⟨cs, rfl, hx⟩ := hv
    obtain rfl : vi = .int k i := hi
    split at h
    · rename_i len el hu
      split at h
      · rename_i c
        split at h
        · rename_i n hn
          obtain ⟨u, h1, h2⟩ := partA_ok (M := M) (vreps_all2.mp hx) h
          refine ⟨u, ?_, h2⟩
          unfold Instr.index
          simp [asIntOf, run_underlying hu, c, run_size hn, h1]
        · simp at h
      · simp at h
    · simp at h
  · simp at h
end Go.Big
