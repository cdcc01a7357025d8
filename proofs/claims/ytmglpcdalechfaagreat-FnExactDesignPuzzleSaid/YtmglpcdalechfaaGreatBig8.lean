/- All operations that leave memory as it is, together. No condition. -/
import Derived.Test.YtmglpcdalechfaaGreatBig7
set_option linter.unusedVariables false
set_option linter.unusedSimpArgs false
namespace Go.Big
variable {P : Program}

def placesA (P : Program) : List Field → Option (List (Nat × Nat))
  | [] => some []
  | f :: fs => match sz? P f.type, placesA P fs with
    | some n, some r => some ((f.offset, n) :: r)
    | _, _ => none
theorem run_mapM_list {α β : Type} (f : α → Sem β) (w : World) : ∀ {l : List α} {r : List β}, all2 (fun x y => (f x).run P w = .ok y w) l r → (l.mapM f).run P w = .ok r w
  | [], [], _ => rfl
  | x :: xs, y :: ys, h => by
    have := run_mapM_list f w h.2
    simp [List.mapM_cons, h.1, this]
  | [], _ :: _, h => h.elim
  | _ :: _, [], h => h.elim
theorem run_places {w : World} {fs : Array Field} {r : List (Nat × Nat)} (h : placesA P fs.toList = some r) : (fs.mapM fun f => do pure (f.offset, ← sizeOf f.type) : Sem (Array (Nat × Nat))).run P w = .ok r.toArray w := by
  have key : ∀ {l : List Field} {r : List (Nat × Nat)}, placesA P l = some r → all2 (fun (f : Field) y => (do pure (f.offset, ← sizeOf f.type) : Sem (Nat × Nat)).run P w = .ok y w) l r := by
    intro l
    induction l with
    | nil => intro r h; simp only [placesA, Option.some.injEq] at h; subst h; trivial
    | cons f fs ih =>
      intro r h
      simp only [placesA] at h
      split at h
      · rename_i n q h1 h2
        simp only [Option.some.injEq] at h; subst h
        exact ⟨by simp [run_size h1], ih h2⟩
      · simp at h
  have := run_mapM_list (P := P) _ w (key h)
  rw [Array.mapM_eq_mapM_toList, map_eq_pure_bind, Sem.run_bind, this]
  rfl
/-- A struct's or an array's value out of parts. -/
def buildA (P : Program) (H : Heap) (t : TypeId) (parts : List (Nat × AV)) : Option AV :=
  match P.underlying t, zeroA P t with
  | some (.struct fs), some z => match placesA P fs.toList with
    | some pl => (fillA H (fun i => pl[i]?) z parts).map .ag
    | none => none
  | some (.array _ el), some z => match sz? P el with
    | some n => (fillA H (fun i => some (i * n, n)) z parts).map .ag
    | none => none
  | _, _ => none
theorem zero_one {l : List AV} {z : Array Value} (h : l = z.toList.map ofV) (hl : l.all (fun x => match x with | .un => false | .ag _ => false | .tup _ => false | _ => true) = true) : ∀ u ∈ z.toList, u.oneCell' = true := by
  subst h
  intro u hu
  rw [List.all_map, List.all_eq_true] at hl
  have := hl u hu
  cases u <;> first | rfl | (simp [ofV] at this)
def goodZ (l : List AV) : Bool := l.all (fun x => match x with | .un => false | .ag _ => false | .tup _ => false | _ => true)
theorem buildA_ok {M : Mem} {base : Nat} (hok : Ok M base) {t : TypeId} {parts : List (Nat × AV)} {vp : Array (Nat × Value)} {y : AV} (hz : ∀ z, zeroA P t = some z → goodZ z = true)
    (hp : all2 (fun (p : Nat × AV) (q : Nat × Value) => p.1 = q.1 ∧ vrep M p.2 q.2) parts vp.toList) (h : buildA P M.H t parts = some y) : ∃ u, (Instr.build t vp).run P M.w = .ok u M.w ∧ vrep M y u := by
  unfold buildA at h
  split at h
  · rename_i fs z hu hz0
    obtain ⟨zv, h1, h2, h3, _⟩ := run_zero hz0 M
    split at h
    · rename_i pl hpl
      cases q : fillA M.H (fun i => pl[i]?) z parts with
      | none => rw [q] at h; simp at h
      | some r =>
        rw [q] at h; simp only [Option.map_some, Option.some.injEq] at h; subst h
        obtain ⟨es, e1, e2, e3⟩ := fillA_ok hok hp h2 (zero_one h3 (hz _ hz0)) q
        refine ⟨.agg es, ?_, ⟨es, rfl, vreps_all2.mpr e2⟩⟩
        have hpp := run_places (P := P) (w := M.w) hpl
        have e1' : Instr.fill (fun i => pl.toArray[i]?) zv.cells vp.toList = some es := by
          rw [← e1]; congr 1; funext i; simp
        unfold Instr.build
        simp only [Sem.run_bind, h1, run_underlying hu, Result.andThen_ok, hpp, e1', Sem.run_pure]
    · simp at h
  · rename_i n el z hu hz0
    obtain ⟨zv, h1, h2, h3, _⟩ := run_zero hz0 M
    split at h
    · rename_i k hk
      cases q : fillA M.H (fun i => some (i * k, k)) z parts with
      | none => rw [q] at h; simp at h
      | some r =>
        rw [q] at h; simp only [Option.map_some, Option.some.injEq] at h; subst h
        obtain ⟨es, e1, e2, e3⟩ := fillA_ok hok hp h2 (zero_one h3 (hz _ hz0)) q
        refine ⟨.agg es, ?_, ⟨es, rfl, vreps_all2.mpr e2⟩⟩
        unfold Instr.build
        simp only [Sem.run_bind, h1, run_underlying hu, Result.andThen_ok, run_size hk, e1, Sem.run_pure]
    · simp at h
  · simp at h
/-- The length of a slice or a string. -/
def lenA (P : Program) (H : Heap) (t : TypeId) (x : AV) : Option AV :=
  match P.underlying t with
  | some .string => match x with
    | .s s => some (.i .i64 s.size)
    | _ => none
  | some (.slice _) => (rowsA H x).map fun p => .i .i64 p.2.length
  | some (.array n _) => some (.i .i64 n)
  | _ => none
theorem lenA_ok {M : Mem} {base : Nat} (hok : Ok M base) {t ty : TypeId} {x y : AV} {v : Value} {ts : Array TypeId} (hts : ts[0]? = some t) (hv : vrep M x v) (h : lenA P M.H t x = some y) : ∃ u, (Builtin.len_ ts ty #[v]).run P M.w = .ok u M.w ∧ vrep M y u := by
  unfold lenA at h
  split at h
  · rename_i hu
    split at h
    · rename_i s
      simp only [Option.some.injEq] at h; subst h
      obtain rfl : v = .string s := hv
      refine ⟨_, ?_, rfl⟩
      simp [Builtin.len_, hts, run_underlying hu, goInt]
    · simp at h
  · rename_i hu
    cases q : rowsA M.H x with
    | none => rw [q] at h; simp at h
    | some p =>
      rw [q] at h; simp only [Option.map_some, Option.some.injEq] at h; subst h
      obtain ⟨a, c, rfl, _⟩ := rowsA_len hok hv q
      refine ⟨_, ?_, rfl⟩
      simp [Builtin.len_, hts, run_underlying hu, goInt]
  · rename_i n el hu
    simp only [Option.some.injEq] at h; subst h
    refine ⟨_, ?_, rfl⟩
    simp [Builtin.len_, hts, run_underlying hu, goInt]
  · simp at h
def mmA (mx : Bool) : AV → AV → Option AV
  | .i k x, .i _ y => some (.i k (if mx then (if y > x then y else x) else (if y < x then y else x)))
  | _, _ => none
def mmL (mx : Bool) : AV → List AV → Option AV
  | x, [] => some x
  | x, y :: ys => match mmA mx x y with
    | some z => mmL mx z ys
    | none => none
theorem mmL_ok {M : Mem} {w : World} (mx : Bool) : ∀ {ys : List AV} {us : List Value} {x z : AV} {v : Value}, vrep M x v → all2 (vrep M) ys us → mmL mx x ys = some z → ∃ r, (us.foldlM (if mx then Builtin.max2 else Builtin.min2) v : Sem Value).run P w = .ok r w ∧ vrep M z r
  | [], [], x, z, v, hx, _, h => by simp only [mmL, Option.some.injEq] at h; subst h; exact ⟨v, rfl, hx⟩
  | y :: ys, u :: us, x, z, v, hx, hy, h => by
    simp only [mmL] at h
    split at h
    · rename_i q e
      unfold mmA at e
      split at e
      · rename_i k a k' b
        simp only [Option.some.injEq] at e
        obtain rfl : v = .int k a := hx
        obtain rfl : u = .int k' b := hy.1
        obtain ⟨r, h1, h2⟩ := mmL_ok mx (v := .int k (if mx then (if b > a then b else a) else (if b < a then b else a))) (by subst e; rfl) hy.2 h
        refine ⟨r, ?_, h2⟩
        rw [List.foldlM_cons, Sem.run_bind]
        cases mx <;> simpa [Builtin.max2, Builtin.min2] using h1
      · simp at e
    · simp at h
  | [], _ :: _, _, _, _, _, h, _ => h.elim
  | _ :: _, [], _, _, _, _, h, _ => h.elim
end Go.Big
