/- What single operations do, told one by one. No condition. -/
import Derived.Test.YtmglpcdalechfaaGreatBigT
set_option linter.unusedVariables false
set_option linter.unusedSimpArgs false
namespace Go.Big
section
variable {P : Program} {H : Heap} {n : Nat} {ρ : Operand → AV}
def andH (H : Heap) (x : Option AV) : Option (AV × Heap) := match x with
  | some y => some (y, H)
  | none => none
theorem andH_some (y : AV) : andH H (some y) = some (y, H) := rfl
theorem andH_or (x : Option AV) (op : Op) (h : opMake P H n ρ op = none) : (match x with | some y => some (y, H) | none => opMake P H n ρ op) = andH H x := by
  cases x
  · exact h
  · rfl
theorem andH_eq {x y : Option AV} (h : x = y) : andH H x = andH H y := by rw [h]
def pickA : AV → AV → AV → Option AV
  | .b t, x, y => some (if t then x else y)
  | _, _, _ => none
theorem pickA_b (t : Bool) (x y : AV) : pickA (.b t) x y = some (if t then x else y) := rfl
theorem st_pick (c a b : Operand) : stepOp P H n ρ (.pick c a b) = andH H (pickA (ρ c) (ρ a) (ρ b)) := (andH_or _ _ rfl).trans (andH_eq (by
  simp only [opPure, pickA]; cases ρ c <;> rfl))
def nilA (H : Heap) : AV → Option AV
  | .ptr o e i f => if liveB H o e = true then some (.ptr o e i f) else none
  | .fp t c => some (.fp t c)
  | .fn f c => some (.fn f c)
  | _ => none
theorem st_nil (x : Operand) : stepOp P H n ρ (.nilCheck x) = andH H (nilA H (ρ x)) := (andH_or _ _ rfl).trans (andH_eq (by
  simp only [opPure, nilA]; cases ρ x <;> rfl))
def unA : UnOp → AV → Option AV
  | .neg, .i k n => some (.i k (k.wrap (0 - n)))
  | .not, .b b => some (.b (!b))
  | _, _ => none
theorem st_un (op : UnOp) (t : TypeId) (x : Operand) : stepOp P H n ρ (.unOp op t x) = andH H (unA op (ρ x)) := (andH_or _ _ rfl).trans (andH_eq (by
  simp only [opPure, unA]; cases op <;> cases ρ x <;> rfl))
def extA : AV → Nat → Option AV
  | .tup xs, i => xs[i]?
  | _, _ => none
theorem st_ext (t : Operand) (i : Nat) : stepOp P H n ρ (.extract t i) = andH H (extA (ρ t) i) := (andH_or _ _ rfl).trans (andH_eq (by
  simp only [opPure, extA]; cases ρ t <;> rfl))
def convA (P : Program) (s d : TypeId) (x : AV) : Option AV := match P.underlying s, P.underlying d, x with
  | some _, some (.int k), .i _ n => some (.i k (k.wrap n))
  | some .string, some .string, .s x => some (.s x)
  | _, _, _ => none
theorem st_conv (s d : TypeId) (x : Operand) : stepOp P H n ρ (.convert s d x) = andH H (convA P s d (ρ x)) := andH_or _ _ rfl
theorem st_len (x : Operand) (t : TypeId) : stepOp P H n ρ (.call { callee := .builtin .len, args := #[x], argTypes := #[t] }) = andH H (lenA P H t (ρ x)) := andH_or _ _ rfl
theorem st_min (xs : Array Operand) (ts : Array TypeId) : stepOp P H n ρ (.call { callee := .builtin .min, args := xs, argTypes := ts }) = andH H (match xs.toList.map ρ with | x :: xs => mmL false x xs | _ => none) := andH_or _ _ rfl
theorem st_max (xs : Array Operand) (ts : Array TypeId) : stepOp P H n ρ (.call { callee := .builtin .max, args := xs, argTypes := ts }) = andH H (match xs.toList.map ρ with | x :: xs => mmL true x xs | _ => none) := andH_or _ _ rfl
theorem st_append (x s : Operand) (t : TypeId) : stepOp P H n ρ (.call { callee := .builtin .append, args := #[x, s], argTypes := #[t, t] }) = appendA P H n t (ρ x) (ρ s) := by
  unfold stepOp; simp
theorem st_clear (x : Operand) (t : TypeId) : stepOp P H n ρ (.call { callee := .builtin .clear, args := #[x], argTypes := #[t] }) = clearA P H t (ρ x) := by
  unfold stepOp; simp
theorem st_build (t : TypeId) (parts : Array (Nat × Operand)) : stepOp P H n ρ (.build t parts) = andH H (match zeroA P t with
    | some z => if goodZ z = true then buildA P H t (parts.toList.map fun p => (p.1, ρ p.2)) else none
    | none => none) := andH_or _ _ rfl
theorem st_fn (f : FuncId) (caps : Array Operand) : stepOp P H n ρ (.makeFunc (.func f) #[] caps) = some (.fn f (caps.toList.map ρ), H) := rfl
theorem st_store (t : TypeId) (a x : Operand) : stepOp P H n ρ (.store t a x) = (match flatA H (ρ x), sz? P t with
    | some l, some k => if l.length = k then (storeA H l (ρ a)).map fun H' => (.un, H') else none
    | _, _ => none) := rfl
theorem st_alloc (t : TypeId) : stepOp P H n ρ (.alloc t) = (match zeroA P t with
    | some z => some (.ptr n 0 0 0, H.upd n (.box t z))
    | none => none) := rfl
theorem st_box (t : TypeId) (x : Operand) : stepOp P H n ρ (.box t x) = (match flatA H (ρ x) with
    | some l => some (.ptr n 0 0 0, H.upd n (.box t l))
    | none => none) := rfl
theorem st_makeSlice (t : TypeId) (l c : Operand) : stepOp P H n ρ (.makeSlice t l c) = opMake P H n ρ (.makeSlice t l c) := rfl
theorem st_buildSlice (t : TypeId) (len : Nat) (parts : Array (Nat × Operand)) : stepOp P H n ρ (.buildSlice t len parts) = opMake P H n ρ (.buildSlice t len parts) := rfl
theorem st_load (t : TypeId) (a : Operand) : stepOp P H n ρ (.load t a) = andH H (loadA P H t (ρ a)) := andH_or _ _ rfl
theorem st_bin (op : BinOp) (t : TypeId) (x y : Operand) (u : TypeId) : stepOp P H n ρ (.binOp op t x y u) = andH H (binA P op t (ρ x) (ρ y)) := andH_or _ _ rfl
theorem st_slice (t : TypeId) (x : Operand) (lo hi : Option Operand) : stepOp P H n ρ (.slice t x lo hi none) = andH H (sliceA P H t (ρ x) (lo.map ρ) (hi.map ρ)) := andH_or _ _ rfl
theorem st_fieldAddr (t : TypeId) (x : Operand) (f : Nat) : stepOp P H n ρ (.fieldAddr t x f) = andH H (fieldAddrA P H t f (ρ x)) := andH_or _ _ rfl
theorem st_field (t : TypeId) (x : Operand) (f : Nat) : stepOp P H n ρ (.field t x f) = andH H (fieldA P t f (ρ x)) := andH_or _ _ rfl
theorem st_indexAddr (t : TypeId) (x y : Operand) : stepOp P H n ρ (.indexAddr t x y) = andH H (indexAddrA P H t (ρ x) (ρ y)) := andH_or _ _ rfl
theorem st_index (t : TypeId) (x y : Operand) : stepOp P H n ρ (.index t x y) = andH H (indexA P t (ρ x) (ρ y)) := andH_or _ _ rfl
theorem upd_if (o k : Nat) (x : Ob) : H.upd o x k = if k = o then some x else H k := rfl
def quietOp (op : Op) : Bool := match op with
  | .move _ | .assign _ | .pick .. | .load .. | .nilCheck _ | .binOp .. | .unOp .. | .convert .. | .makeFunc .. | .slice .. | .fieldAddr .. | .field .. | .indexAddr .. | .index .. | .extract .. | .build .. => true
  | .call c => (match c.callee with | .builtin .len => true | .builtin .min => true | .builtin .max => true | _ => false)
  | _ => false
/-- An operation that leaves memory as it is, told by its step. -/
theorem pure_of_step {P : Program} {H : Heap} {ρ : Operand → AV} {op : Op} {y : AV} (hk : quietOp op = true) (h : ∃ n H', stepOp P H n ρ op = some (y, H')) : opPure P H ρ op = some y := by
  obtain ⟨n, H', h⟩ := h
  have key : (match opPure P H ρ op with | some y => some (y, H) | none => opMake P H n ρ op) = some (y, H') → opMake P H n ρ op = none → opPure P H ρ op = some y := by
    intro h1 h2
    cases q : opPure P H ρ op with
    | none => rw [q] at h1; rw [h2] at h1; simp at h1
    | some z => rw [q] at h1; simp only [Option.some.injEq, Prod.mk.injEq] at h1; rw [h1.1]
  unfold quietOp at hk
  cases op <;> first | exact key h rfl | (simp only [Bool.false_eq_true] at hk) | skip
  rename_i c
  obtain ⟨callee, args, ts⟩ := c
  cases callee with
  | value f => simp only [Bool.false_eq_true] at hk
  | invoke r m => simp only [Bool.false_eq_true] at hk
  | builtin b => cases b <;> first | exact key h rfl | (simp only [Bool.false_eq_true] at hk)
end
end Go.Big
