/- Arithmetic, comparisons, conversions, lengths; all operations that leave memory as it is. No condition. -/
import Derived.Test.YtmglpcdalechfaaGreatBig5
import Derived.Laws.Cover3
import Derived.Laws.StructEq
import Derived.Laws.Concat
set_option linter.unusedVariables false
set_option linter.unusedSimpArgs false
namespace Go.Big
variable {P : Program}

def binI (op : BinOp) (k : IntKind) (a b : Int) : Option AV :=
  match op with
  | .add => some (.i k (k.wrap (a + b)))
  | .sub => some (.i k (k.wrap (a - b)))
  | .mul => some (.i k (k.wrap (a * b)))
  | .quo => if b = 0 then none else some (.i k (k.wrap (a.tdiv b)))
  | .rem => if b = 0 then none else some (.i k (a.tmod b))
  | .eql => some (.b (a == b))
  | .neq => some (.b (a != b))
  | .lss => some (.b (decide (a < b)))
  | .leq => some (.b (decide (a ≤ b)))
  | .gtr => some (.b (decide (a > b)))
  | .geq => some (.b (decide (a ≥ b)))
  | .shl => if b < 0 then none else some (.i k (k.wrap (a * 2 ^ (min b.toNat k.bits))))
  | .shr => if b < 0 then none else some (.i k (a.fdiv (2 ^ (min b.toNat k.bits))))
  | .and => some (.i k (k.wrap ((BitVec.ofInt k.bits a &&& BitVec.ofInt k.bits b).toNat)))
  | .or => some (.i k (k.wrap ((BitVec.ofInt k.bits a ||| BitVec.ofInt k.bits b).toNat)))
  | .xor => some (.i k (k.wrap ((BitVec.ofInt k.bits a ^^^ BitVec.ofInt k.bits b).toNat)))
  | .andNot => some (.i k (k.wrap ((BitVec.ofInt k.bits a &&& ~~~BitVec.ofInt k.bits b).toNat)))
def binS (op : BinOp) (a b : ByteArray) : Option AV :=
  match op with
  | .add => if ((a.size + b.size : Nat) : Int) > IntKind.i64.max then none else some (.s (a ++ b))
  | .eql => some (.b (a.toList == b.toList))
  | .neq => some (.b (!(a.toList == b.toList)))
  | .lss => some (.b (Op.bytesLess a.toList b.toList))
  | .leq => some (.b (Op.bytesLess a.toList b.toList || a.toList == b.toList))
  | .gtr => some (.b (!(Op.bytesLess a.toList b.toList || a.toList == b.toList)))
  | .geq => some (.b (!Op.bytesLess a.toList b.toList))
  | _ => none
def eqScal (P : Program) (t : TypeId) : AV → AV → Option Bool
  | .i k a, .i k' b => match P.underlying t with
    | some (.int _) => if k = k' then some (a == b) else none
    | _ => none
  | .b a, .b b => match P.underlying t with
    | some .bool => some (a == b)
    | _ => none
  | .s a, .s b => match P.underlying t with
    | some .string => some (a.toList == b.toList)
    | _ => none
  | _, _ => none
def eqFieldsA (P : Program) (xs ys : List AV) : List Field → Option Bool
  | [] => some true
  | f :: fs => if f.name = "_" then none else match xs[f.offset]?, ys[f.offset]? with
    | some x, some y => match eqScal P f.type x y, eqFieldsA P xs ys fs with
      | some r, some q => some (r && q)
      | _, _ => none
    | _, _ => none
def eqAggA (P : Program) (t : TypeId) (xs ys : List AV) : Option Bool :=
  match P.underlying t with
  | some (.struct fs) => if P.stoodInHeld t = false ∧ P.eqGuardType P.depth t = false then eqFieldsA P xs ys fs.toList else none
  | _ => none
def binA (P : Program) (op : BinOp) (t : TypeId) : AV → AV → Option AV
  | .i k a, .i k' b => if op = .shl ∨ op = .shr ∨ k = k' then binI op k a b else none
  | .s a, .s b => binS op a b
  | .b a, .b b => match op, P.underlying t with
    | .eql, some .bool => some (.b (a == b))
    | .neq, some .bool => some (.b (a != b))
    | _, _ => none
  | .ag xs, .ag ys => match op with
    | .eql => (eqAggA P t xs ys).map .b
    | .neq => (eqAggA P t xs ys).map fun r => .b (!r)
    | _ => none
  | .sl _ (_ :: _), .nil => match P.underlying t, op with
    | some (.slice _), .eql => some (.b false)
    | some (.slice _), .neq => some (.b true)
    | _, _ => none
  | _, _ => none
theorem scal_part {t : TypeId} {M : Mem} {xs : List AV} {cs : Array Value} {x : AV} {off : Nat} (ht : agg? P t = some false) (hx : all2 (vrep M) xs cs.toList) (h : xs[off]? = some x) : ∃ u, (part t cs off).run P M.w = .ok u M.w ∧ vrep M x u :=
  partA_ok hx (by unfold partA; rw [ht]; exact h)
theorem eqScal_agg {t : TypeId} {x y : AV} {r : Bool} (h : eqScal P t x y = some r) : agg? P t = some false := by
  unfold eqScal at h
  unfold agg?
  split at h
  · split at h
    · rename_i q; rw [q]; rfl
    · simp at h
  · split at h
    · rename_i q; rw [q]; rfl
    · simp at h
  · split at h
    · rename_i q; rw [q]; rfl
    · simp at h
  · simp at h
theorem eqScal_ok {t : TypeId} {M : Mem} {x y : AV} {v u : Value} {r : Bool} {d : Nat} (hx : vrep M x v) (hy : vrep M y u) (h : eqScal P t x y = some r) : (Op.equalIn (d + 1) t v u).run P M.w = .ok r M.w := by
  unfold eqScal at h
  split at h
  · split at h
    · rename_i q
      split at h
      · rename_i e
        simp only [Option.some.injEq] at h
        obtain rfl : v = .int _ _ := hx
        obtain rfl : u = .int _ _ := hy
        subst e; subst h
        exact run_equalIn_int (P := P) M.w d t _ _ _ _ q
      · simp at h
    · simp at h
  · split at h
    · rename_i q
      simp only [Option.some.injEq] at h
      obtain rfl : v = .bool _ := hx
      obtain rfl : u = .bool _ := hy
      subst h
      exact run_equalIn_bool' (P := P) M.w d t _ _ q
    · simp at h
  · split at h
    · rename_i q
      simp only [Option.some.injEq] at h
      obtain rfl : v = .string _ := hx
      obtain rfl : u = .string _ := hy
      subst h
      exact run_equalIn_string (P := P) M.w d t _ _ q
    · simp at h
  · simp at h
theorem eqFieldsA_ok {M : Mem} {xs ys : List AV} {cs ds : Array Value} {d : Nat} (hx : all2 (vrep M) xs cs.toList) (hy : all2 (vrep M) ys ds.toList) : ∀ {fs : List Field} {r : Bool}, eqFieldsA P xs ys fs = some r → (Op.eqFields (d + 1) cs ds fs).run P M.w = .ok r M.w
  | [], r, h => by simp only [eqFieldsA, Option.some.injEq] at h; subst h; rfl
  | f :: fs, r, h => by
    simp only [eqFieldsA] at h
    split at h
    · simp at h
    · rename_i hn
      split at h
      · rename_i x y q1 q2
        split at h
        · rename_i b c q3 q4
          simp only [Option.some.injEq] at h
          have ha := eqScal_agg q3
          obtain ⟨u, h1, h2⟩ := scal_part ha hx q1
          obtain ⟨v, h3, h4⟩ := scal_part ha hy q2
          have h5 := eqScal_ok (d := d) h2 h4 q3
          have h6 := eqFieldsA_ok (d := d) hx hy q4
          simp only [Op.eqFields, if_pos hn, Sem.run_bind, h1, h3, h5, Result.andThen_ok]
          subst h
          cases b
          · simp
          · simpa using h6
        · simp at h
      · simp at h
theorem fieldsOf_eq {t : TypeId} {fs : Array Field} (h : P.underlying t = some (.struct fs)) : P.fieldsOf t = fs := by
  unfold Program.fieldsOf; rw [h]
theorem eqAggA_ok {t : TypeId} {M : Mem} {xs ys : List AV} {cs ds : Array Value} {r : Bool} (hx : all2 (vrep M) xs cs.toList) (hy : all2 (vrep M) ys ds.toList) (h : eqAggA P t xs ys = some r) :
    (Op.equalIn 10000 t (.agg cs) (.agg ds)).run P M.w = .ok r M.w ∧ P.eqGuardType P.depth t = false := by
  unfold eqAggA at h
  split at h
  · rename_i fs hu
    split at h
    · rename_i c
      refine ⟨?_, c.2⟩
      rw [show (10000 : Nat) = 9998 + 1 + 1 from rfl, run_equalIn_agg (P := P) M.w _ t cs ds (by rw [fieldsOf_eq hu]; exact hu) c.1, fieldsOf_eq hu]
      exact eqFieldsA_ok hx hy h
    · simp at h
  · simp at h
theorem guard_plain {op : BinOp} {t : TypeId} {x y : Operand} {v u : Value} (h : ∀ cs, v ≠ .agg cs) (h' : v ≠ .nilIface) : eqGuard op t x y v u = pure () := by
  unfold eqGuard
  cases op <;> simp <;> cases v <;> first | rfl | exact absurd rfl (h _) | exact absurd rfl h'
theorem binA_ok {M : Mem} {op : BinOp} {t : TypeId} {ox oy : Operand} {x y z : AV} {v u : Value} (hx : vrep M x v) (hy : vrep M y u) (h : binA P op t x y = some z) :
    ∃ r, (do eqGuard op t ox oy v u; binOp op t v u : Sem Value).run P M.w = .ok r M.w ∧ vrep M z r := by
  unfold binA at h
  split at h
  · rename_i k a k' b
    obtain rfl : v = .int k a := hx
    obtain rfl : u = .int k' b := hy
    rw [guard_plain (by simp) (by simp)]
    split at h
    · rename_i c
      cases op <;> simp only [binI] at h
      all_goals first
        | (simp only [Option.some.injEq] at h; subst h
           obtain rfl : k = k' := by simpa using c
           refine ⟨_, ?_, rfl⟩
           simp [binOp, Op.intArith, Op.intCmp, Op.intBits]; done)
        | (split at h
           · simp at h
           · rename_i q
             simp only [Option.some.injEq] at h; subst h
             refine ⟨_, ?_, rfl⟩
             first
             | (simp [binOp, Op.shift, q]; done)
             | (rcases c with c | c | c
                · cases c
                · cases c
                · subst c; simp [binOp, Op.intDiv, q]; done))
    · simp at h
  · rename_i a b
    obtain rfl : v = .string a := hx
    obtain rfl : u = .string b := hy
    rw [guard_plain (by simp) (by simp)]
    cases op <;> simp only [binS] at h
    all_goals first
      | (simp at h; done)
      | (simp only [Option.some.injEq] at h; subst h
         exact ⟨_, by simp [binOp, Op.stringOp], rfl⟩)
      | (split at h
         · simp at h
         · rename_i q
           simp only [Option.some.injEq] at h; subst h
           refine ⟨_, ?_, rfl⟩
           simp only [binOp, Op.stringOp, Sem.run_bind, Sem.run_pure, Result.andThen_ok, if_neg q])
  · rename_i a b
    obtain rfl : v = .bool a := hx
    obtain rfl : u = .bool b := hy
    rw [guard_plain (by simp) (by simp)]
    split at h
    · rename_i q
      simp only [Option.some.injEq] at h; subst h
      refine ⟨_, ?_, rfl⟩
      have := run_equalIn_bool' (P := P) M.w 9999 t a b q
      simp [binOp, Op.equal, Op.maxDepth, this]
    · rename_i q
      simp only [Option.some.injEq] at h; subst h
      refine ⟨_, ?_, rfl⟩
      have := run_equalIn_bool' (P := P) M.w 9999 t a b q
      simp [binOp, Op.equal, Op.maxDepth, this]; cases a <;> cases b <;> rfl
    · simp at h
  · rename_i xs ys
    obtain ⟨cs, rfl, h1⟩ := hx
    obtain ⟨ds, rfl, h2⟩ := hy
    split at h
    · cases q : eqAggA P t xs ys with
      | none => rw [q] at h; simp at h
      | some r =>
        rw [q] at h; simp only [Option.map_some, Option.some.injEq] at h; subst h
        obtain ⟨h3, h4⟩ := eqAggA_ok (M := M) (vreps_all2.mp h1) (vreps_all2.mp h2) q
        refine ⟨.bool r, ?_, rfl⟩
        rw [Sem.run_bind, run_eqGuard_agg (P := P) M.w _ t ox oy cs ds h4, Result.andThen_ok, run_eql_struct, h3]; rfl
    · cases q : eqAggA P t xs ys with
      | none => rw [q] at h; simp at h
      | some r =>
        rw [q] at h; simp only [Option.map_some, Option.some.injEq] at h; subst h
        obtain ⟨h3, h4⟩ := eqAggA_ok (M := M) (vreps_all2.mp h1) (vreps_all2.mp h2) q
        refine ⟨.bool (!r), ?_, rfl⟩
        rw [Sem.run_bind, run_eqGuard_agg (P := P) M.w _ t ox oy cs ds h4, Result.andThen_ok, run_neq_struct, h3]; rfl
    · simp at h
  · obtain ⟨a, c, rfl, hc, hq⟩ := hx
    obtain rfl : u = .slice none 0 0 := hy
    obtain ⟨ad, _, rfl, _⟩ := hq (by simp)
    rw [guard_plain (by simp) (by simp)]
    split at h
    · rename_i q
      simp only [Option.some.injEq] at h; subst h
      refine ⟨_, ?_, rfl⟩
      have := fun l => run_equalIn_slice_nil (P := P) M.w 9999 t _ (some ad) l c q
      simp [binOp, Op.equal, Op.maxDepth, this]
    · rename_i q
      simp only [Option.some.injEq] at h; subst h
      refine ⟨_, ?_, rfl⟩
      have := fun l => run_equalIn_slice_nil (P := P) M.w 9999 t _ (some ad) l c q
      simp [binOp, Op.equal, Op.maxDepth, this]
    · simp at h
  · simp at h
end Go.Big
