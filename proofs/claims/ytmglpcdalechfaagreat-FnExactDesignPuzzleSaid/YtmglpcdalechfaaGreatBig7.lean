/- All operations that leave memory as it is, together. No condition. -/
import Derived.Test.YtmglpcdalechfaaGreatBig6
set_option linter.unusedVariables false
set_option linter.unusedSimpArgs false
namespace Go.Big
variable {P : Program}

/-- A value of one cell, not stale. -/
def plainA (H : Heap) : AV → Bool
  | .i _ _ | .b _ | .s _ | .sl _ _ | .nil | .fp _ _ | .fn _ _ => true
  | .own o e | .vw o e _ _ => match H o with
    | some (.arr e0 ..) => e == e0
    | some (.fro e0 ..) => e == e0
    | _ => false
  | .ptr o e _ _ => liveB H o e
  | _ => false
theorem plain_one {M : Mem} {base : Nat} (hok : Ok M base) {x : AV} {v : Value} (hv : vrep M x v) (h : plainA M.H x = true) : v.oneCell' = true ∧ v.cells = #[v] := by
  cases x <;> simp only [plainA] at h <;> try (simp at h; done)
  case i => obtain rfl : v = _ := hv; exact ⟨rfl, rfl⟩
  case b => obtain rfl : v = _ := hv; exact ⟨rfl, rfl⟩
  case s => obtain rfl : v = _ := hv; exact ⟨rfl, rfl⟩
  case sl => obtain ⟨a, c, rfl, _⟩ := hv; exact ⟨rfl, rfl⟩
  case nil => obtain rfl : v = _ := hv; exact ⟨rfl, rfl⟩
  case fp => obtain ⟨a, rfl, _⟩ := hv; exact ⟨rfl, rfl⟩
  case fn => obtain ⟨a, rfl, _⟩ := hv; exact ⟨rfl, rfl⟩
  case own o e =>
    have key : ∃ p, rowsA M.H (.own o e) = some p := by
      obtain ⟨x, hx, g⟩ := hv
      rw [hx] at h
      cases x <;> simp only [beq_iff_eq] at h <;> try (simp at h; done)
      · exact ⟨_, (by simp only [rowsA, hx, h, if_true]; rfl)⟩
      · exact ⟨_, (by simp only [rowsA, hx, h, if_true]; rfl)⟩
    obtain ⟨p, hp⟩ := key
    obtain ⟨a, c, rfl, _⟩ := rowsA_len hok hv hp
    exact ⟨rfl, rfl⟩
  case vw o e lo n =>
    have key : ∃ p, rowsA M.H (.vw o e lo n) = some p := by
      obtain ⟨x, hx, g⟩ := hv
      rw [hx] at h
      cases x <;> simp only [beq_iff_eq] at h <;> try (simp at h; done)
      · exact ⟨_, (by simp only [rowsA, hx, h, if_true]; rfl)⟩
      · exact ⟨_, (by simp only [rowsA, hx, h, if_true]; rfl)⟩
    obtain ⟨p, hp⟩ := key
    obtain ⟨a, c, rfl, _⟩ := rowsA_len hok hv hp
    exact ⟨rfl, rfl⟩
  case ptr o e ix off =>
    obtain ⟨a, rfl, _⟩ := ptr_live hv h
    exact ⟨rfl, rfl⟩
/-- The cells of a value. -/
def flatA (H : Heap) : AV → Option (List AV)
  | .ag xs => if xs.all (plainA H) = true then some xs else none
  | x => if plainA H x = true then some [x] else none
theorem flatA_ok {M : Mem} {base : Nat} (hok : Ok M base) {x : AV} {v : Value} {l : List AV} (hv : vrep M x v) (h : flatA M.H x = some l) : all2 (vrep M) l v.cells.toList ∧ ∀ u ∈ v.cells.toList, u.oneCell' = true := by
  by_cases hx : ∃ xs, x = .ag xs
  · obtain ⟨xs, rfl⟩ := hx
    simp only [flatA] at h
    split at h
    · rename_i c
      simp only [Option.some.injEq] at h; subst h
      obtain ⟨vs, rfl, hs⟩ := hv
      refine ⟨vreps_all2.mp hs, ?_⟩
      have key : ∀ {xs : List AV} {vs : List Value}, all2 (vrep M) xs vs → xs.all (plainA M.H) = true → ∀ u ∈ vs, u.oneCell' = true := by
        intro xs
        induction xs with
        | nil => intro vs h1 _ u hu; cases vs with
          | nil => simp at hu
          | cons => exact h1.elim
        | cons y ys ih =>
          intro vs h1 h2 u hu
          cases vs with
          | nil => exact h1.elim
          | cons w ws =>
            simp only [List.all_cons, Bool.and_eq_true] at h2
            rcases List.mem_cons.mp hu with rfl | hu
            · exact (plain_one hok h1.1 h2.1).1
            · exact ih h1.2 h2.2 u hu
      exact key (vreps_all2.mp hs) c
    · simp at h
  · have h' : plainA M.H x = true ∧ l = [x] := by
      cases x <;> simp only [flatA] at h <;> first
        | exact absurd ⟨_, rfl⟩ hx
        | (split at h
           · rename_i c; simp only [Option.some.injEq] at h; exact ⟨c, h.symm⟩
           · simp at h)
    obtain ⟨h1, rfl⟩ := h'
    obtain ⟨h2, h3⟩ := plain_one hok hv h1
    rw [h3]
    exact ⟨⟨hv, trivial⟩, fun u hu => by simp only [List.mem_singleton] at hu; subst hu; exact h2⟩
/-- What a value of the machine stands for, where it leads to no memory. -/
def ofV : Value → AV
  | .int k n => .i k n
  | .bool b => .b b
  | .string s => .s s
  | .slice none 0 0 => .nil
  | .func (.func f) ⟨[]⟩ ⟨[]⟩ => .fn f []
  | _ => .un
theorem ofV_ok {M : Mem} (v : Value) : vrep M (ofV v) v := by
  unfold ofV
  split <;> first | rfl | trivial | exact ⟨#[], rfl, rfl⟩
def ofC : Value → AV
  | .agg cs => .ag (cs.toList.map ofV)
  | v => ofV v
theorem ofC_ok {M : Mem} (v : Value) : vrep M (ofC v) v := by
  unfold ofC
  split
  · rename_i cs
    refine ⟨cs, rfl, vreps_all2.mpr ?_⟩
    generalize cs.toList = l
    induction l with
    | nil => trivial
    | cons x xs ih => exact ⟨ofV_ok x, ih⟩
  · exact ofV_ok _
/-- The cells of a type's zero value. -/
def zeroA (P : Program) (t : TypeId) : Option (List AV) := match P.info? t with
  | some i => match i.zero with
    | some z => some (z.cells.toList.map ofV)
    | none => none
  | none => none
theorem map_ofV {M : Mem} : ∀ l : List Value, all2 (vrep M) (l.map ofV) l
  | [] => trivial
  | x :: xs => ⟨ofV_ok x, map_ofV xs⟩
theorem run_zero {t : TypeId} {l : List AV} (h : zeroA P t = some l) (M : Mem) : ∃ z, (zeroValue t).run P M.w = .ok z M.w ∧ all2 (vrep M) l z.cells.toList ∧ l = z.cells.toList.map ofV ∧ ∃ i, P.info? t = some i ∧ i.zero = some z := by
  unfold zeroA at h
  split at h
  · rename_i i q
    split at h
    · rename_i z q2
      simp only [Option.some.injEq] at h; subst h
      refine ⟨z, ?_, map_ofV _, rfl, i, q, q2⟩
      unfold zeroValue
      simp [run_typeInfo M.w q, q2]
    · simp at h
  · simp at h
def putA : List AV → Nat → List AV → List AV
  | cs, _, [] => cs
  | cs, off, v :: vs => putA (cs.set off v) (off + 1) vs
theorem putA_len : ∀ (vs cs : List AV) (off : Nat), (putA cs off vs).length = cs.length
  | [], _, _ => rfl
  | v :: vs, cs, off => by rw [putA, putA_len vs]; simp
theorem put_ok {M : Mem} : ∀ {vs : List AV} {us : List Value} {cs : List AV} {ds : Array Value} {off j : Nat}, all2 (vrep M) vs us → all2 (vrep M) cs ds.toList →
    all2 (vrep M) (putA cs (off + j) vs) ((us.zipIdx j).foldl (fun cs (x : Value × Nat) => cs.setIfInBounds (off + x.2) x.1) ds).toList
  | [], [], cs, ds, off, j, _, h => h
  | v :: vs, u :: us, cs, ds, off, j, h1, h2 => by
    simp only [putA, List.zipIdx_cons, List.foldl_cons]
    rw [Nat.add_assoc]
    refine put_ok h1.2 ?_
    rw [Array.toList_setIfInBounds]
    exact all2_set _ h2 h1.1
  | [], _ :: _, _, _, _, _, h, _ => h.elim
  | _ :: _, [], _, _, _, _, h, _ => h.elim
def fillA (H : Heap) (place : Nat → Option (Nat × Nat)) : List AV → List (Nat × AV) → Option (List AV)
  | cs, [] => some cs
  | cs, (i, x) :: rest => match place i, flatA H x with
    | some (off, size), some l => if l.length = size ∧ off + l.length ≤ cs.length then fillA H place (putA cs off l) rest else none
    | _, _ => none
theorem fillA_ok {M : Mem} {base : Nat} (hok : Ok M base) {place : Nat → Option (Nat × Nat)} : ∀ {parts : List (Nat × AV)} {vparts : List (Nat × Value)} {cs : List AV} {ds : Array Value} {r : List AV},
    all2 (fun (p : Nat × AV) (q : Nat × Value) => p.1 = q.1 ∧ vrep M p.2 q.2) parts vparts → all2 (vrep M) cs ds.toList → (∀ u ∈ ds.toList, u.oneCell' = true) → fillA M.H place cs parts = some r → ∃ es, Instr.fill place ds vparts = some es ∧ all2 (vrep M) r es.toList ∧ ∀ u ∈ es.toList, u.oneCell' = true
  | [], [], cs, ds, r, _, h, h1, e => by simp only [fillA, Option.some.injEq] at e; subst e; exact ⟨ds, rfl, h, h1⟩
  | (i, x) :: ps, (j, v) :: qs, cs, ds, r, h, h2, h1, e => by
    obtain ⟨⟨rfl, hv⟩, h3⟩ := h
    simp only [fillA] at e
    split at e
    · rename_i off size l q1 q2
      split at e
      · rename_i c
        obtain ⟨f1, f2⟩ := flatA_ok hok hv q2
        have hl := all2_len f1
        have hl2 := all2_len h2
        have hp := put_ok (j := 0) (off := off) f1 h2
        simp only [Nat.add_zero] at hp
        have hone : ∀ (us : List Value) (k : Nat) (ds : Array Value), (∀ u ∈ us, u.oneCell' = true) → (∀ u ∈ ds.toList, u.oneCell' = true) → ∀ u ∈ ((us.zipIdx k).foldl (fun cs (x : Value × Nat) => cs.setIfInBounds (off + x.2) x.1) ds).toList, u.oneCell' = true := by
          intro us
          induction us with
          | nil => intro k ds _ h u hu; exact h u hu
          | cons a us ih =>
            intro k ds ha h u hu
            simp only [List.zipIdx_cons, List.foldl_cons] at hu
            refine ih (k + 1) _ (fun u hu => ha u (List.mem_cons_of_mem _ hu)) (fun u hu => ?_) u hu
            rw [Array.toList_setIfInBounds] at hu
            rcases List.mem_or_eq_of_mem_set hu with hu | rfl
            · exact h u hu
            · exact ha _ List.mem_cons_self
        obtain ⟨es, h4, h5, h6⟩ := fillA_ok hok h3 hp (hone _ 0 ds f2 h1) e
        refine ⟨es, ?_, h5, h6⟩
        unfold Instr.fill
        have e1 : v.cells.size = size := by rw [← Array.length_toList, ← hl]; exact c.1
        have e2 : ¬ (off + v.cells.size > ds.size) := by rw [← Array.length_toList, ← Array.length_toList, ← hl, ← hl2]; omega
        simp only [q1]
        rw [if_neg (by simp [e1]; omega)]
        rw [← h4]
        congr 1
        rw [← Array.foldl_toList, Array.toList_zipIdx]
      · simp at e
    · simp at e
  | [], _ :: _, _, _, _, h, _, _, _ => h.elim
  | _ :: _, [], _, _, _, h, _, _, _ => h.elim
end Go.Big
