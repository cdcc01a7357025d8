/- An operation that leaves memory as it is: one word for all. No condition. -/
import Derived.Test.YtmglpcdalechfaaGreatBig8
set_option linter.unusedVariables false
set_option linter.unusedSimpArgs false
namespace Go.Big
variable {P : Program}

def opPure (P : Program) (H : Heap) (ρ : Operand → AV) : Op → Option AV
  | .move x | .assign x => some (ρ x)
  | .pick c a b => match ρ c with
    | .b t => some (if t then ρ a else ρ b)
    | _ => none
  | .load t a => loadA P H t (ρ a)
  | .nilCheck x => match ρ x with
    | .ptr o e i f => if liveB H o e = true then some (.ptr o e i f) else none
    | .fp t c => some (.fp t c)
    | .fn f c => some (.fn f c)
    | _ => none
  | .binOp op t x y _ => binA P op t (ρ x) (ρ y)
  | .unOp op _ x => match op, ρ x with
    | .neg, .i k n => some (.i k (k.wrap (0 - n)))
    | .not, .b b => some (.b (!b))
    | _, _ => none
  | .convert s d x => match P.underlying s, P.underlying d, ρ x with
    | some _, some (.int k), .i _ n => some (.i k (k.wrap n))
    | some .string, some .string, .s x => some (.s x)
    | _, _, _ => none
  | .makeFunc (.func f) first caps => if first.size = 0 then some (.fn f (caps.toList.map ρ)) else none
  | .slice t x lo hi none => sliceA P H t (ρ x) (lo.map ρ) (hi.map ρ)
  | .fieldAddr s x f => fieldAddrA P H s f (ρ x)
  | .field s x f => fieldA P s f (ρ x)
  | .indexAddr t x ix => indexAddrA P H t (ρ x) (ρ ix)
  | .index t x ix => indexA P t (ρ x) (ρ ix)
  | .extract t i => match ρ t with
    | .tup xs => xs[i]?
    | _ => none
  | .build t parts => match zeroA P t with
    | some z => if goodZ z = true then buildA P H t (parts.toList.map fun p => (p.1, ρ p.2)) else none
    | none => none
  | .call { callee := .builtin .len, args := args, argTypes := ts } => match args.toList, ts[0]? with
    | [x], some t => lenA P H t (ρ x)
    | _, _ => none
  | .call { callee := .builtin .min, args := args, argTypes := _ } => match args.toList.map ρ with
    | x :: xs => mmL false x xs
    | _ => none
  | .call { callee := .builtin .max, args := args, argTypes := _ } => match args.toList.map ρ with
    | x :: xs => mmL true x xs
    | _ => none
  | _ => none

theorem vrepO_map {M : Mem} {ρ : Operand → AV} {e : Operand → Value} (h : ∀ x, vrep M (ρ x) (e x)) (o : Option Operand) : vrepO M (o.map ρ) (o.map e) := by
  cases o
  · trivial
  · exact h _
theorem all2_ops {M : Mem} {ρ : Operand → AV} {e : Operand → Value} (h : ∀ x, vrep M (ρ x) (e x)) : ∀ l : List Operand, all2 (vrep M) (l.map ρ) (l.map e)
  | [] => trivial
  | x :: xs => ⟨h x, all2_ops h xs⟩
theorem all2_parts {M : Mem} {ρ : Operand → AV} {e : Operand → Value} (h : ∀ x, vrep M (ρ x) (e x)) : ∀ l : List (Nat × Operand), all2 (fun (p : Nat × AV) (q : Nat × Value) => p.1 = q.1 ∧ vrep M p.2 q.2) (l.map fun p => (p.1, ρ p.2)) (l.map fun p => (p.1, e p.2))
  | [] => trivial
  | x :: xs => ⟨⟨rfl, h _⟩, all2_parts h xs⟩
theorem opPure_ok {M : Mem} {base : Nat} (hok : Ok M base) {ρ : Operand → AV} {ev : Operand → Value} (hρ : ∀ x, vrep M (ρ x) (ev x)) (o : Oper) {y : AV} (h : opPure P M.H ρ o.op = some y) :
    ∃ v, (execOp ev o).run P M.w = .ok (.value v) M.w ∧ vrep M y v := by
  have fin : ∀ {F : Sem Value}, (∃ v, F.run P M.w = .ok v M.w ∧ vrep M y v) → ∃ v, (do pure (.value (← F)) : Sem Next).run P M.w = .ok (.value v) M.w ∧ vrep M y v := by
    rintro F ⟨v, h1, h2⟩
    exact ⟨v, by simp [h1], h2⟩
  unfold execOp
  cases hop : o.op <;> rw [hop] at h <;> simp only [opPure] at h <;> try (simp at h; done)
  case move x => simp only [Option.some.injEq] at h; subst h; exact ⟨_, rfl, hρ x⟩
  case assign x => simp only [Option.some.injEq] at h; subst h; exact ⟨_, rfl, hρ x⟩
  case pick c a b =>
    have hc := hρ c
    split at h
    · rename_i t q
      rw [q] at hc
      replace hc : ev c = .bool t := hc
      simp only [Option.some.injEq] at h; subst h
      refine ⟨if t then ev a else ev b, ?_, ?_⟩
      · simp [hc, asBool]
      · cases t
        · exact hρ b
        · exact hρ a
    · simp at h
  case load t a => exact fin (loadA_ok hok (hρ a) h)
  case nilCheck x =>
    have hx := hρ x
    split at h
    · rename_i o1 e i f q
      rw [q] at hx
      split at h
      · rename_i hl
        simp only [Option.some.injEq] at h; subst h
        obtain ⟨a, e1, _⟩ := ptr_live hx hl
        exact ⟨ev x, by simp [e1], hx⟩
      · simp at h
    · rename_i t c q
      rw [q] at hx
      simp only [Option.some.injEq] at h; subst h
      obtain ⟨a, e1, _⟩ := id hx
      exact ⟨ev x, by simp [e1], hx⟩
    · rename_i f c q
      rw [q] at hx
      simp only [Option.some.injEq] at h; subst h
      obtain ⟨a, e1, _⟩ := id hx
      exact ⟨ev x, by simp [e1], hx⟩
    · simp at h
  case binOp op t x y' ty => exact fin (binA_ok (hρ x) (hρ y') h)
  case unOp op ty x =>
    have hx := hρ x
    split at h
    · rename_i k n q
      rw [q] at hx
      replace hx : ev x = .int k n := hx
      simp only [Option.some.injEq] at h; subst h
      exact ⟨_, by simp [hx, Op.unary, Op.intArith], rfl⟩
    · rename_i b q
      rw [q] at hx
      replace hx : ev x = .bool b := hx
      simp only [Option.some.injEq] at h; subst h
      exact ⟨_, by simp [hx, Op.unary], rfl⟩
    · simp at h
  case convert s d x =>
    have hx := hρ x
    split at h
    · rename_i ds k k' n h1 h2 q
      rw [q] at hx
      replace hx : ev x = .int k' n := hx
      simp only [Option.some.injEq] at h; subst h
      refine ⟨_, ?_, rfl⟩
      simp [hx, convert, run_underlying h1, run_underlying h2, Conv.intToInt]
    · rename_i s' h1 h2 q
      rw [q] at hx
      replace hx : ev x = .string s' := hx
      simp only [Option.some.injEq] at h; subst h
      refine ⟨_, ?_, rfl⟩
      simp [hx, convert, run_underlying h1, run_underlying h2]
    · simp at h
  case makeFunc fn first caps =>
    cases fn <;> simp only [opPure] at h <;> try (simp at h; done)
    split at h
    · rename_i f c
      simp only [Option.some.injEq] at h; subst h
      refine ⟨.func (.func f) (first.map ev) (caps.map ev), by simp [Instr.makeFunc], ⟨caps.map ev, ?_, ?_⟩⟩
      · rw [Array.eq_empty_of_size_eq_zero c]; simp
      · rw [vreps_all2, Array.toList_map]; exact all2_ops hρ _
    · simp at h
  case slice t x lo hi mx =>
    cases mx with
    | none =>
      simp only [opPure] at h
      exact fin (sliceA_ok hok (hρ x) (vrepO_map hρ lo) (vrepO_map hρ hi) h)
    | some => simp [opPure] at h
  case fieldAddr s x f => exact fin (fieldAddrA_ok (hρ x) h)
  case field s x f => exact fin (fieldA_ok (hρ x) h)
  case indexAddr t x ix => exact fin (indexAddrA_ok hok (hρ x) (hρ ix) h)
  case index t x ix => exact fin (indexA_ok (hρ x) (hρ ix) h)
  case extract t i =>
    have hx := hρ t
    split at h
    · rename_i xs q
      rw [q] at hx
      obtain ⟨vs, e1, e2⟩ := hx
      obtain ⟨u, h1, h2⟩ := all2_get (vreps_all2.mp e2) h
      have h1' : vs[i]? = some u := by rw [← h1]; simp
      exact ⟨u, by simp [e1, Instr.extract, h1'], h2⟩
    · simp at h
  case build t parts =>
    split at h
    · rename_i z hz
      split at h
      · rename_i g
        refine fin (buildA_ok (vp := parts.map fun p => (p.1, ev p.2)) hok (fun z' hz' => by rw [hz] at hz'; cases hz'; exact g) ?_ h)
        rw [Array.toList_map]; exact all2_parts hρ _
      · simp at h
    · simp at h
  case call c =>
    obtain ⟨callee, args, ts⟩ := c
    cases callee <;> (try simp only [opPure] at h) <;> try (simp at h; done)
    rename_i b
    cases b <;> (try simp only [opPure] at h) <;> try (simp at h; done)
    case len =>
      split at h
      · rename_i x t q1 q2
        obtain ⟨u, h1, h2⟩ := lenA_ok (ty := o.type) hok q2 (hρ x) h
        have e1 : args.map ev = #[ev x] := by
          apply Array.toList_inj.mp
          rw [Array.toList_map, q1]; rfl
        exact ⟨u, by simp [resolve, invoke, builtin, e1, h1], h2⟩
      · simp at h
    case min =>
      split at h
      · rename_i x xs q
        have hh := all2_ops hρ args.toList
        rw [q] at hh
        cases q2 : args.toList.map ev with
        | nil => rw [q2] at hh; exact hh.elim
        | cons u us =>
          rw [q2] at hh
          obtain ⟨r, h1, h2⟩ := mmL_ok (P := P) (w := M.w) false hh.1 hh.2 h
          refine ⟨r, ?_, h2⟩
          simp only [resolve, invoke, builtin, Sem.run_bind, Sem.run_pure, Result.andThen_ok, Builtin.min_, Array.toList_map, q2]
          simp only [Bool.false_eq_true, if_false] at h1
          rw [h1]; rfl
      · simp at h
    case max =>
      split at h
      · rename_i x xs q
        have hh := all2_ops hρ args.toList
        rw [q] at hh
        cases q2 : args.toList.map ev with
        | nil => rw [q2] at hh; exact hh.elim
        | cons u us =>
          rw [q2] at hh
          obtain ⟨r, h1, h2⟩ := mmL_ok (P := P) (w := M.w) true hh.1 hh.2 h
          refine ⟨r, ?_, h2⟩
          simp only [resolve, invoke, builtin, Sem.run_bind, Sem.run_pure, Result.andThen_ok, Builtin.max_, Array.toList_map, q2]
          simp only [if_true] at h1
          rw [h1]; rfl
      · simp at h
end Go.Big
