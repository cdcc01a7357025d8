/- Values without memory, what a machine's value stands for, and what a step keeps. No condition. -/
import Derived.Laws.AppendOwn
import Derived.Below
set_option linter.unusedVariables false
set_option linter.unusedSimpArgs false
namespace Go.Big

/-- A leaf of what memory holds, without memory: a slice is the list of its elements, an element the list of its cells. 'ob': a slice that owns an object (in arrays of one's own alone). -/
inductive PV where
  | i (k : IntKind) (n : Int)
  | b (x : Bool)
  | s (x : ByteArray)
  | sl (rows : List (List PV))
  | ob (o e : Nat)

/-- What a slot of a function holds. A tag says in which region a frozen slice's memory lies: 0 anywhere, others in new memory. -/
inductive AV where
  | i (k : IntKind) (n : Int)
  | b (x : Bool)
  | s (x : ByteArray)
  | sl (t : Nat) (rows : List (List PV))
  | nil
  | ag (xs : List AV)
  | own (o e : Nat)
  | vw (o e lo n : Nat)
  | ptr (o e ix off : Nat)
  | fp (t : Nat) (cells : List PV)
  | fn (f : FuncId) (caps : List AV)
  | tup (xs : List AV)
  | un

/-- An object that the function (or its caller) has made: an array of its own, a frozen one, a variable. -/
inductive Ob where
  | arr (e : Nat) (ty : TypeId) (sz : Nat) (rows : List (List PV)) (t : Nat)
  | fro (e : Nat) (rows : List (List PV)) (t : Nat)
  | box (ty : TypeId) (cells : List AV)
  | mp (f : Int → Int → Option Int)

abbrev Heap := Nat → Option Ob
def Heap.upd (H : Heap) (o : Nat) (x : Ob) : Heap := fun k => if k = o then some x else H k
theorem Heap.upd_same (H : Heap) (o : Nat) (x : Ob) : H.upd o x o = some x := by simp [Heap.upd]
theorem Heap.upd_ne (H : Heap) {o k : Nat} (x : Ob) (h : k ≠ o) : H.upd o x k = H k := by simp [Heap.upd, h]

def all2 {α β : Type} (R : α → β → Prop) : List α → List β → Prop
  | [], [] => True
  | x :: xs, y :: ys => R x y ∧ all2 R xs ys
  | _, _ => False
theorem all2_len {α β : Type} {R : α → β → Prop} : ∀ {xs : List α} {ys : List β}, all2 R xs ys → xs.length = ys.length
  | [], [], _ => rfl
  | x :: xs, y :: ys, h => by simp [all2_len h.2]
  | [], _ :: _, h => h.elim
  | _ :: _, [], h => h.elim
theorem all2_mono {α β : Type} {R S : α → β → Prop} : ∀ {xs : List α} {ys : List β}, (∀ x y, x ∈ xs → R x y → S x y) → all2 R xs ys → all2 S xs ys
  | [], [], _, _ => trivial
  | x :: xs, y :: ys, h, g => ⟨h x y List.mem_cons_self g.1, all2_mono (fun a b ha hb => h a b (List.mem_cons_of_mem _ ha) hb) g.2⟩
  | [], _ :: _, _, h => h.elim
  | _ :: _, [], _, h => h.elim
theorem all2_get {α β : Type} {R : α → β → Prop} : ∀ {xs : List α} {ys : List β} {i : Nat} {x : α}, all2 R xs ys → xs[i]? = some x → ∃ y, ys[i]? = some y ∧ R x y
  | x :: xs, y :: ys, 0, z, h, e => by simp at e; subst e; exact ⟨y, rfl, h.1⟩
  | x :: xs, y :: ys, i + 1, z, h, e => by simpa using all2_get h.2 (by simpa using e)
  | [], [], _, _, _, e => by simp at e
  | [], _ :: _, _, _, h, _ => h.elim
  | _ :: _, [], _, _, h, _ => h.elim
theorem all2_append {α β : Type} {R : α → β → Prop} : ∀ {xs : List α} {ys : List β} {xs' : List α} {ys' : List β}, all2 R xs ys → all2 R xs' ys' → all2 R (xs ++ xs') (ys ++ ys')
  | [], [], _, _, _, h => h
  | x :: xs, y :: ys, _, _, h, g => ⟨h.1, all2_append h.2 g⟩
  | [], _ :: _, _, _, h, _ => h.elim
  | _ :: _, [], _, _, h, _ => h.elim
theorem all2_take {α β : Type} {R : α → β → Prop} : ∀ {xs : List α} {ys : List β} (n : Nat), all2 R xs ys → all2 R (xs.take n) (ys.take n)
  | [], [], _, _ => by simp [all2]
  | x :: xs, y :: ys, 0, _ => by simp [all2]
  | x :: xs, y :: ys, n + 1, h => ⟨h.1, all2_take n h.2⟩
  | [], _ :: _, _, h => h.elim
  | _ :: _, [], _, h => h.elim
theorem all2_drop {α β : Type} {R : α → β → Prop} : ∀ {xs : List α} {ys : List β} (n : Nat), all2 R xs ys → all2 R (xs.drop n) (ys.drop n)
  | [], [], _, _ => by simp [all2]
  | x :: xs, y :: ys, 0, h => h
  | x :: xs, y :: ys, n + 1, h => all2_drop n h.2
  | [], _ :: _, _, h => h.elim
  | _ :: _, [], _, h => h.elim
theorem all2_set {α β : Type} {R : α → β → Prop} : ∀ {xs : List α} {ys : List β} (n : Nat) {x : α} {y : β}, all2 R xs ys → R x y → all2 R (xs.set n x) (ys.set n y)
  | [], [], _, _, _, _, _ => by simp [all2]
  | x :: xs, y :: ys, 0, _, _, h, g => ⟨g, h.2⟩
  | x :: xs, y :: ys, n + 1, _, _, h, g => ⟨h.1, all2_set n h.2 g⟩
  | [], _ :: _, _, _, _, h, _ => h.elim
  | _ :: _, [], _, _, _, h, _ => h.elim

section
variable (w : World) (G : Nat → Prop)
mutual
/-- What a leaf stands for: memory is read in blocks of which G holds. -/
def rep : PV → Value → Prop
  | .i k n, v => v = .int k n
  | .b x, v => v = .bool x
  | .s x, v => v = .string x
  | .sl rows, v => ∃ a c, v = .slice a rows.length c ∧ rows.length ≤ c ∧ (rows ≠ [] → ∃ ad sz, a = some ad ∧ ad.spot = none ∧ 0 < sz ∧ G ad.block ∧ repRows sz ad.block ad.off rows)
  | .ob _ _, _ => False
def repRows (sz blk : Nat) : Nat → List (List PV) → Prop
  | _, [] => True
  | off, r :: rs => r.length = sz ∧ repCells blk off r ∧ repRows sz blk (off + sz) rs
def repCells (blk : Nat) : Nat → List PV → Prop
  | _, [] => True
  | off, p :: ps => (∃ v, w.cell? ⟨blk, off, none⟩ = some v ∧ rep p v) ∧ repCells blk (off + 1) ps
end
end
mutual
theorem rep_mono {w w' : World} {G G' : Nat → Prop} (h : ∀ k, G k → w'.heap[k]? = w.heap[k]? ∧ G' k) : ∀ (x : PV) (v : Value), rep w G x v → rep w' G' x v
  | .i _ _, _, e => e
  | .b _, _, e => e
  | .s _, _, e => e
  | .sl rows, v, ⟨a, c, e, hc, hr⟩ => ⟨a, c, e, hc, fun hn => by
      obtain ⟨ad, sz, ha, hs, hz, hg, hq⟩ := hr hn
      exact ⟨ad, sz, ha, hs, hz, (h _ hg).2, repRows_mono h hg rows _ hq⟩⟩
  | .ob _ _, _, e => e.elim
theorem repRows_mono {w w' : World} {G G' : Nat → Prop} (h : ∀ k, G k → w'.heap[k]? = w.heap[k]? ∧ G' k) {sz blk : Nat} (hb : G blk) : ∀ (rows : List (List PV)) (off : Nat), repRows w G sz blk off rows → repRows w' G' sz blk off rows
  | [], _, _ => trivial
  | r :: rs, off, ⟨h1, h2, h3⟩ => ⟨h1, repCells_mono h hb r off h2, repRows_mono h hb rs _ h3⟩
theorem repCells_mono {w w' : World} {G G' : Nat → Prop} (h : ∀ k, G k → w'.heap[k]? = w.heap[k]? ∧ G' k) {blk : Nat} (hb : G blk) : ∀ (cs : List PV) (off : Nat), repCells w G blk off cs → repCells w' G' blk off cs
  | [], _, _ => trivial
  | p :: ps, off, ⟨⟨v, h1, h2⟩, h3⟩ => ⟨⟨v, (World.cell?_of_block (a := ⟨blk, off, none⟩) (h blk hb).1).trans h1, rep_mono h p v h2⟩, repCells_mono h hb ps _ h3⟩
end
theorem repRows_drop {w : World} {G : Nat → Prop} {sz blk : Nat} : ∀ (n : Nat) (rows : List (List PV)) (off : Nat), repRows w G sz blk off rows → n ≤ rows.length → repRows w G sz blk (off + n * sz) (rows.drop n)
  | 0, rows, off, h, _ => by simpa using h
  | n + 1, [], off, h, hn => by simp at hn
  | n + 1, r :: rs, off, h, hn => by
    have := repRows_drop n rs (off + sz) h.2.2 (by simpa using hn)
    rw [Nat.add_mul, Nat.one_mul, Nat.add_comm (n * sz) sz, ← Nat.add_assoc]
    simpa using this
theorem repRows_take {w : World} {G : Nat → Prop} {sz blk : Nat} : ∀ (n : Nat) (rows : List (List PV)) (off : Nat), repRows w G sz blk off rows → repRows w G sz blk off (rows.take n)
  | 0, rows, off, h => by simp [repRows]
  | n + 1, [], off, h => by simp [repRows]
  | n + 1, r :: rs, off, h => ⟨h.1, h.2.1, repRows_take n rs (off + sz) h.2.2⟩
theorem repCells_drop {w : World} {G : Nat → Prop} {blk : Nat} : ∀ (n : Nat) (cs : List PV) (off : Nat), repCells w G blk off cs → repCells w G blk (off + n) (cs.drop n)
  | 0, cs, off, h => by simpa using h
  | n + 1, [], off, h => by simp [repCells]
  | n + 1, p :: ps, off, h => by
    have := repCells_drop n ps (off + 1) h.2
    rw [Nat.add_assoc, Nat.add_comm 1 n] at this
    simpa using this
theorem repCells_take {w : World} {G : Nat → Prop} {blk : Nat} : ∀ (n : Nat) (cs : List PV) (off : Nat), repCells w G blk off cs → repCells w G blk off (cs.take n)
  | 0, cs, off, h => by simp [repCells]
  | n + 1, [], off, h => by simp [repCells]
  | n + 1, p :: ps, off, h => ⟨h.1, repCells_take n ps (off + 1) h.2⟩

/-- The block that a header or a pointer leads to. -/
def blk? : Value → Option Nat
  | .slice (some a) _ _ => some a.block
  | .pointer (some a) => some a.block
  | .map (some r) => some r
  | _ => none

/-- What a slot's value stands for. -/
structure Mem where
  w : World
  fz : Nat → Nat → Prop
  hv : Nat → Value
  H : Heap
section
variable (M : Mem)
mutual
def vrep : AV → Value → Prop
  | .i k n, v => v = .int k n
  | .b x, v => v = .bool x
  | .s x, v => v = .string x
  | .sl t rows, v => rep M.w (M.fz t) (.sl rows) v
  | .nil, v => v = .slice none 0 0
  | .ag xs, v => ∃ vs, v = .agg vs ∧ vreps xs vs.toList
  | .own o e, v => ∃ x, M.H o = some x ∧ match x with
    | .arr e0 _ _ _ _ => e ≤ e0 ∧ (e = e0 → v = M.hv o)
    | .fro e0 rows t => e ≤ e0 ∧ (e = e0 → rep M.w (M.fz t) (.sl rows) v)
    | .box .. => False
    | .mp _ => v = M.hv o
  | .vw o e lo n, v => ∃ x, M.H o = some x ∧ match x with
    | .arr e0 _ sz rows _ => e ≤ e0 ∧ (e = e0 → lo + n ≤ rows.length ∧ ∃ a c, v = .slice a n c ∧ n ≤ c ∧ (∀ ad, a = some ad → blk? (M.hv o) = some ad.block) ∧ (0 < c → ∃ g f l k, M.hv o = .slice (some ⟨g, f, none⟩) l k ∧ a = some ⟨g, f + lo * sz, none⟩ ∧ lo + c = k))
    | .fro e0 rows t => e ≤ e0 ∧ (e = e0 → rep M.w (M.fz t) (.sl ((rows.drop lo).take n)) v)
    | .box .. => False
    | .mp _ => False
  | .ptr o e ix off, v => ∃ x, M.H o = some x ∧ match x with
    | .arr e0 _ sz _ _ => e ≤ e0 ∧ (e = e0 → ∃ g f l k, M.hv o = .slice (some ⟨g, f, none⟩) l k ∧ v = .pointer (some ⟨g, f + (ix * sz + off), none⟩))
    | .fro e0 _ _ => e ≤ e0 ∧ e ≠ e0
    | .box _ _ => ∃ g, M.hv o = .pointer (some ⟨g, 0, none⟩) ∧ v = .pointer (some ⟨g, off, none⟩)
    | .mp _ => False
  | .fp t cells, v => ∃ ad, v = .pointer (some ad) ∧ ad.spot = none ∧ M.fz t ad.block ∧ repCells M.w (M.fz t) ad.block ad.off cells
  | .fn f caps, v => ∃ vs, v = .func (.func f) #[] vs ∧ vreps caps vs.toList
  | .tup xs, v => ∃ vs, v = .tuple vs ∧ vreps xs vs.toList
  | .un, _ => True
def vreps : List AV → List Value → Prop
  | [], vs => vs = []
  | x :: xs, vs => ∃ v r, vs = v :: r ∧ vrep x v ∧ vreps xs r
end
end
theorem vreps_all2 {M : Mem} : ∀ {xs : List AV} {vs : List Value}, vreps M xs vs ↔ all2 (vrep M) xs vs
  | [], [] => by simp [vreps, all2]
  | [], _ :: _ => by simp [vreps, all2]
  | _ :: _, [] => by simp [vreps, all2]
  | x :: xs, v :: vs => by
    simp only [vreps, all2]
    constructor
    · rintro ⟨v', r, e, h1, h2⟩; cases e; exact ⟨h1, vreps_all2.mp h2⟩
    · rintro ⟨h1, h2⟩; exact ⟨v, vs, rfl, h1, vreps_all2.mpr h2⟩

/-- What a step may do to an object, so that what slots hold of it stays. -/
def Goes (M M' : Mem) (o : Nat) (x x' : Ob) : Prop :=
  match x, x' with
  | .arr e _ sz rows _, .arr e' _ sz' rows' _ => e < e' ∨ (e = e' ∧ M'.hv o = M.hv o ∧ sz' = sz ∧ rows'.length = rows.length)
  | .arr e _ _ _ _, .fro e' _ _ => e < e'
  | .fro e rows t, .fro e' rows' t' => e = e' ∧ rows' = rows ∧ t' = t
  | .box _ _, .box _ _ => M'.hv o = M.hv o
  | .mp _, .mp _ => M'.hv o = M.hv o
  | _, _ => False
/-- A step: frozen memory is as it was, each object is there. -/
structure Step (M M' : Mem) : Prop where
  fz : ∀ t k, M.fz t k → M'.w.heap[k]? = M.w.heap[k]? ∧ M'.fz t k
  ob : ∀ o x, M.H o = some x → ∃ x', M'.H o = some x' ∧ Goes M M' o x x'
mutual
theorem vrep_step {M M' : Mem} (h : Step M M') : ∀ (x : AV) (v : Value), vrep M x v → vrep M' x v
  | .i _ _, _, e => e
  | .b _, _, e => e
  | .s _, _, e => e
  | .sl t rows, v, e => rep_mono (h.fz t) (.sl rows) v e
  | .nil, _, e => e
  | .ag xs, v, ⟨vs, e, hs⟩ => ⟨vs, e, vreps_step h xs _ hs⟩
  | .own o e, v, ⟨x, hx, g⟩ => by
    obtain ⟨x', hx', gg⟩ := h.ob o x hx
    refine ⟨x', hx', ?_⟩
    cases x <;> cases x' <;> simp only [Goes] at gg <;> try exact gg.elim
    · rcases gg with gg | ⟨rfl, g1, g2, g3⟩
      · exact ⟨by have := g.1; omega, fun q => by have := g.1; omega⟩
      · exact ⟨g.1, fun q => (g.2 q).trans g1.symm⟩
    · exact ⟨by have := g.1; omega, fun q => by have := g.1; omega⟩
    · obtain ⟨rfl, rfl, rfl⟩ := gg
      exact ⟨g.1, fun q => rep_mono (h.fz _) _ v (g.2 q)⟩
    · exact g.elim
    · exact g.trans gg.symm
  | .vw o e lo n, v, ⟨x, hx, g⟩ => by
    obtain ⟨x', hx', gg⟩ := h.ob o x hx
    refine ⟨x', hx', ?_⟩
    cases x <;> cases x' <;> simp only [Goes] at gg <;> try exact gg.elim
    · rcases gg with gg | ⟨rfl, g1, rfl, g3⟩
      · exact ⟨by have := g.1; omega, fun q => by have := g.1; omega⟩
      · exact ⟨g.1, fun q => by rw [g1, g3]; exact g.2 q⟩
    · exact ⟨by have := g.1; omega, fun q => by have := g.1; omega⟩
    · obtain ⟨rfl, rfl, rfl⟩ := gg
      exact ⟨g.1, fun q => rep_mono (h.fz _) _ v (g.2 q)⟩
    · exact g.elim
    · exact g.elim
  | .ptr o e ix off, v, ⟨x, hx, g⟩ => by
    obtain ⟨x', hx', gg⟩ := h.ob o x hx
    refine ⟨x', hx', ?_⟩
    cases x <;> cases x' <;> simp only [Goes] at gg <;> try exact gg.elim
    · rcases gg with gg | ⟨rfl, g1, rfl, g3⟩
      · exact ⟨by have := g.1; omega, fun q => by have := g.1; omega⟩
      · exact ⟨g.1, fun q => by rw [g1]; exact g.2 q⟩
    · exact ⟨by have := g.1; omega, by have := g.1; omega⟩
    · obtain ⟨rfl, rfl, rfl⟩ := gg
      exact g
    · show ∃ g, M'.hv o = _ ∧ _
      rw [gg]; exact g
    · exact g.elim
  | .fp t cells, v, ⟨ad, e, hs, hf, hr⟩ => ⟨ad, e, hs, (h.fz t _ hf).2, repCells_mono (h.fz t) hf cells _ hr⟩
  | .fn f caps, v, ⟨vs, e, hs⟩ => ⟨vs, e, vreps_step h caps _ hs⟩
  | .tup xs, v, ⟨vs, e, hs⟩ => ⟨vs, e, vreps_step h xs _ hs⟩
  | .un, _, _ => trivial
theorem vreps_step {M M' : Mem} (h : Step M M') : ∀ (xs : List AV) (vs : List Value), vreps M xs vs → vreps M' xs vs
  | [], _, e => e
  | x :: xs, _, ⟨v, r, e, h1, h2⟩ => ⟨v, r, e, vrep_step h x v h1, vreps_step h xs r h2⟩
end
/-- A leaf as a slot's value. -/
def avOf (t : Nat) : PV → AV
  | .i k n => .i k n
  | .b x => .b x
  | .s x => .s x
  | .sl rows => .sl t rows
  | .ob o e => .own o e
theorem vrep_avOf {M : Mem} {t : Nat} : ∀ {p : PV} {v : Value}, rep M.w (M.fz t) p v → vrep M (avOf t p) v
  | .i _ _, _, h => h
  | .b _, _, h => h
  | .s _, _, h => h
  | .sl _, _, h => h
  | .ob _ _, _, h => h.elim
/-- No object. -/
def noOb : PV → Bool
  | .ob _ _ => false
  | _ => true
/-- The tag of what is frozen in an array with a tag: 2 says that the array may hold slices that own objects. -/
def ftag (t : Nat) : Nat := if t = 2 then 0 else t
@[simp] theorem ftag_0 : ftag 0 = 0 := rfl
@[simp] theorem ftag_1 : ftag 1 = 1 := rfl
@[simp] theorem ftag_2 : ftag 2 = 0 := rfl
theorem ftag_ne {t : Nat} (h : t ≠ 2) : ftag t = t := if_neg h
/-- What a leaf of an array of one's own stands for. -/
def repO (M : Mem) (t : Nat) (p : PV) (v : Value) : Prop := vrep M (avOf (ftag t) p) v ∧ (noOb p = false → t = 2 ∧ v.oneCell' = true)
theorem repO_step {M M' : Mem} (h : Step M M') {t : Nat} {p : PV} {v : Value} (hp : repO M t p v) : repO M' t p v := ⟨vrep_step h _ v hp.1, hp.2⟩
theorem repO_of {M : Mem} {t : Nat} : ∀ {p : PV} {v : Value}, rep M.w (M.fz (ftag t)) p v → repO M t p v
  | .i _ _, _, h => ⟨h, fun e => by simp [noOb] at e⟩
  | .b _, _, h => ⟨h, fun e => by simp [noOb] at e⟩
  | .s _, _, h => ⟨h, fun e => by simp [noOb] at e⟩
  | .sl _, _, h => ⟨h, fun e => by simp [noOb] at e⟩
  | .ob _ _, _, h => h.elim
theorem repO_tag {M : Mem} {t t' : Nat} (h : ∀ k, M.fz (ftag t) k → M.fz (ftag t') k) (h2 : t = 2 → t' = 2) : ∀ {p : PV} {v : Value}, repO M t p v → repO M t' p v
  | .i _ _, _, e => ⟨e.1, fun h => by simp [noOb] at h⟩
  | .b _, _, e => ⟨e.1, fun h => by simp [noOb] at h⟩
  | .s _, _, e => ⟨e.1, fun h => by simp [noOb] at h⟩
  | .sl rows, v, e => ⟨rep_mono (fun k hk => ⟨rfl, h k hk⟩) (.sl rows) v e.1, fun h => by simp [noOb] at h⟩
  | .ob _ _, _, e => ⟨e.1, fun q => ⟨h2 (e.2 q).1, (e.2 q).2⟩⟩
theorem repO_one {M : Mem} {t : Nat} : ∀ {p : PV} {v : Value}, repO M t p v → v.oneCell' = true
  | .i _ _, v, e => by obtain rfl : v = _ := e.1; rfl
  | .b _, v, e => by obtain rfl : v = _ := e.1; rfl
  | .s _, v, e => by obtain rfl : v = _ := e.1; rfl
  | .sl rows, v, e => by obtain ⟨_, _, rfl, _⟩ := e.1; rfl
  | .ob _ _, _, e => (e.2 rfl).2
theorem all2_one {M : Mem} {t : Nat} : ∀ {ps : List PV} {vs : List Value}, all2 (repO M t) ps vs → ∀ u ∈ vs, u.oneCell' = true
  | [], [], _, u, hu => by simp at hu
  | p :: ps, v :: vs, h, u, hu => by
    rcases List.mem_cons.mp hu with rfl | hu
    · exact repO_one h.1
    · exact all2_one h.2 u hu
  | [], _ :: _, h, _, _ => h.elim
  | _ :: _, [], h, _, _ => h.elim
theorem rep_of {M : Mem} {t : Nat} (ht : t ≠ 2) : ∀ {p : PV} {v : Value}, repO M t p v → rep M.w (M.fz t) p v
  | .i _ _, _, e => e.1
  | .b _, _, e => e.1
  | .s _, _, e => e.1
  | .sl rows, v, e => by have := e.1; rw [ftag_ne ht] at this; exact this
  | .ob _ _, _, e => absurd (e.2 rfl).1 ht
theorem all2_rep {M : Mem} {t : Nat} (ht : t ≠ 2) {ps : List PV} {vs : List Value} (h : all2 (repO M t) ps vs) : all2 (rep M.w (M.fz t)) ps vs := all2_mono (fun p _ _ q => rep_of ht q) h
end Go.Big
