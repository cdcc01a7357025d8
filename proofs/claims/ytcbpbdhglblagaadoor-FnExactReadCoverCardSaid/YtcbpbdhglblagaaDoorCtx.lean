/- A law's things, held together: one fact tells all rows that were made, each in blocks of its own. -/
import Derived.Test.YtcbpbdhglblagaaDoorWMore
import Derived.Test.YtcbpbdhglblagaaDoorWApart
import Derived.Test.YtcbpbdhglblagaaDoorWKept
import Derived.Test.YtcbpbdhglblagaaDoorU
import Derived.Test.YtcbpbdhglblagaaDoorV
namespace Go.Proofs.YtcbpbdhglblagaaDoorW.PrintWords
open Go.RowKit
set_option linter.unusedVariables false

/-- A thing that is held: what is told of it, by the blocks that are its own. -/
structure Ent where
  P : Nat → World → (Nat → Prop) → Prop
  step : ∀ {b : Nat} {w w1 : World} {ok : Nat → Prop}, P b w ok → (∀ k, ok k → k < w.heap.size → w1.heap[k]? = w.heap[k]?) → P b w1 ok
  bound : ∀ {b : Nat} {w : World} {ok : Nat → Prop}, P b w ok → P b w (fun k => ok k ∧ b ≤ k ∧ k < w.heap.size)
  mono : ∀ {b : Nat} {w : World} {ok ok' : Nat → Prop}, (∀ k, ok k → ok' k) → P b w ok → P b w ok'
  lower : ∀ {b b' : Nat} {w : World} {ok : Nat → Prop}, b' ≤ b → P b w ok → P b' w ok
def Ctx.R {α : Type} (d : Kd α) (e : Nat) (v : Value) (xs : List α) : Ent where
  P := fun b w ok => d.R e w b ok v xs
  step := fun h hm => Kd.R_step h hm
  bound := fun h => Kd.R_mono (Kd.R_bound h) (fun _ hk => ⟨hk.1, hk.2.1, hk.2.2.1⟩)
  mono := fun hk h => Kd.R_mono h hk
  lower := fun hb h => Kd.R_lower h hb
def Ctx.S {α : Type} (d : Kd α) (e : Nat) (v : Value) (xs : List α) : Ent where
  P := fun b w ok => Kd.S d e w b ok v xs
  step := fun h hm => Kd.S_step h hm
  bound := fun h => Kd.S_mono (Kd.S_bound h) (fun _ hk => ⟨hk.1, hk.2.1, hk.2.2.1⟩)
  mono := fun hk h => Kd.S_mono h hk
  lower := fun hb h => Kd.S_lower h hb
def Ctx.blk (g : Nat) (o : Obj) : Ent where
  P := fun b w ok => ok g ∧ b ≤ g ∧ w.heap[g]? = some o
  step := fun h hm => ⟨h.1, h.2.1, (hm _ h.1 (blk_lt h.2.2)).trans h.2.2⟩
  bound := fun h => ⟨⟨h.1, h.2.1, blk_lt h.2.2⟩, h.2⟩
  mono := fun hk h => ⟨hk _ h.1, h.2⟩
  lower := fun hb h => ⟨h.1, Nat.le_trans hb h.2.1, h.2.2⟩

def Sat (w0 : World) (es : List Ent) (w : World) : Prop :=
  Below w0.heap.size w0 w ∧ ∃ f : Nat → Nat, ∀ (i : Nat) (e : Ent), es[i]? = some e → e.P w0.heap.size w (fun k => f k = i)
section
variable {w0 w w1 : World} {es : List Ent} {e : Ent}
theorem Sat.start (w : World) : Sat w [] w := ⟨Below.refl _ _, fun _ => 0, fun i e h => by simp at h⟩
theorem Sat.bel (h : Aside0 (Sat w0 es w)) : Below w0.heap.size w0 w := h.out.1
theorem Sat.size (h : Sat w0 es w) : w0.heap.size ≤ w.heap.size := h.1.size
theorem Sat.quiet (h : Sat w0 es w) (hb : Below w.heap.size w w1) : Sat w0 es w1 := by
  obtain ⟨h1, f, hf⟩ := h
  exact ⟨h1.trans (hb.mono h1.size), f, fun i e he => e.step (hf i e he) (fun k _ hlt => hb.block k hlt)⟩
theorem Sat.make (h : Sat w0 es w) (hb : Below w.heap.size w w1) (he : e.P w.heap.size w1 (fun _ => True)) : Sat w0 (e :: es) w1 := by
  obtain ⟨h1, f, hf⟩ := h
  refine ⟨h1.trans (hb.mono h1.size), fun k => if k < w.heap.size then f k + 1 else 0, fun i e' hi => ?_⟩
  cases i with
  | zero =>
    simp only [List.getElem?_cons_zero, Option.some.injEq] at hi
    subst hi
    exact e.mono (fun k hk => by simp only [if_neg (Nat.not_lt.mpr hk.2.1)]) (e.lower h1.size (e.bound he))
  | succ i =>
    simp only [List.getElem?_cons_succ] at hi
    exact e'.step (e'.mono (fun k hk => by simp only [if_pos hk.2.2, hk.1]) (e'.bound (hf i e' hi))) (fun k hk hlt => hb.block k hlt)
theorem Sat.at_ (h : Sat w0 es w) (i : Nat) (hi : es[i]? = some e) : ∃ ok, e.P w0.heap.size w ok ∧ ∀ (w1 : World) (e1 : Ent), Below w0.heap.size w0 w1 → Kept w w1 ok → e1.P w0.heap.size w1 (fun k => ok k ∨ w.heap.size ≤ k) → Sat w0 (es.set i e1) w1 := by
  obtain ⟨h1, f, hf⟩ := h
  refine ⟨_, hf i e hi, fun w1 e1 hb hk he => ⟨hb, fun k => if k < w.heap.size then f k else i, fun j e' hj => ?_⟩⟩
  by_cases hij : i = j
  · subst hij
    rw [List.getElem?_set_self (List.getElem?_eq_some_iff.1 hi).1] at hj
    simp only [Option.some.injEq] at hj
    subst hj
    refine e1.mono (fun k hk => ?_) he
    rcases hk with hk | hk
    · by_cases hlt : k < w.heap.size
      · show (if k < w.heap.size then f k else i) = i; rw [if_pos hlt, hk]
      · show (if k < w.heap.size then f k else i) = i; rw [if_neg hlt]
    · show (if k < w.heap.size then f k else i) = i; rw [if_neg (Nat.not_lt.mpr hk)]
  · rw [List.getElem?_set_ne hij] at hj
    refine e'.mono (fun k hk => ?_) (e'.step (e'.bound (hf j e' hj)) (fun k hk' hlt => hk.2 k hlt (fun hh => hij (hh.symm.trans hk'.1))))
    show (if k < w.heap.size then f k else i) = j; rw [if_pos hk.2.2, hk.1]
open Classical in
theorem Sat.make2 {e0 e1 : Ent} (h : Sat w0 es w) (hb : Below w.heap.size w w1) (A : Nat → Prop) (he0 : e0.P w.heap.size w1 A) (he1 : e1.P w.heap.size w1 (fun k => ¬ A k)) : Sat w0 (e0 :: e1 :: es) w1 := by
  obtain ⟨h1, f, hf⟩ := h
  refine ⟨h1.trans (hb.mono h1.size), fun k => if k < w.heap.size then f k + 2 else if A k then 0 else 1, fun i e' hi => ?_⟩
  match i, hi with
  | 0, hi =>
    simp only [List.getElem?_cons_zero, Option.some.injEq] at hi
    subst hi
    exact e0.mono (fun k hk => by simp only [if_neg (Nat.not_lt.mpr hk.2.1), if_pos hk.1]) (e0.lower h1.size (e0.bound he0))
  | 1, hi =>
    simp only [List.getElem?_cons_succ, List.getElem?_cons_zero, Option.some.injEq] at hi
    subst hi
    exact e1.mono (fun k hk => by simp only [if_neg (Nat.not_lt.mpr hk.2.1), if_neg hk.1]) (e1.lower h1.size (e1.bound he1))
  | i + 2, hi =>
    simp only [List.getElem?_cons_succ] at hi
    exact e'.step (e'.mono (fun k hk => by simp only [if_pos hk.2.2, hk.1]) (e'.bound (hf i e' hi))) (fun k hk hlt => hb.block k hlt)
open Classical in
theorem Sat.make3 {e0 e1 e2 : Ent} (h : Sat w0 es w) (hb : Below w.heap.size w w1) (A B : Nat → Prop) (he0 : e0.P w.heap.size w1 A) (he1 : e1.P w.heap.size w1 (fun k => ¬ A k ∧ B k)) (he2 : e2.P w.heap.size w1 (fun k => ¬ A k ∧ ¬ B k)) : Sat w0 (e0 :: e1 :: e2 :: es) w1 := by
  obtain ⟨h1, f, hf⟩ := h
  refine ⟨h1.trans (hb.mono h1.size), fun k => if k < w.heap.size then f k + 3 else if A k then 0 else if B k then 1 else 2, fun i e' hi => ?_⟩
  match i, hi with
  | 0, hi =>
    simp only [List.getElem?_cons_zero, Option.some.injEq] at hi
    subst hi
    exact e0.mono (fun k hk => by simp only [if_neg (Nat.not_lt.mpr hk.2.1), if_pos hk.1]) (e0.lower h1.size (e0.bound he0))
  | 1, hi =>
    simp only [List.getElem?_cons_succ, List.getElem?_cons_zero, Option.some.injEq] at hi
    subst hi
    exact e1.mono (fun k hk => by simp only [if_neg (Nat.not_lt.mpr hk.2.1), if_neg hk.1.1, if_pos hk.1.2]) (e1.lower h1.size (e1.bound he1))
  | 2, hi =>
    simp only [List.getElem?_cons_succ, List.getElem?_cons_zero, Option.some.injEq] at hi
    subst hi
    exact e2.mono (fun k hk => by simp only [if_neg (Nat.not_lt.mpr hk.2.1), if_neg hk.1.1, if_neg hk.1.2]) (e2.lower h1.size (e2.bound he2))
  | i + 3, hi =>
    simp only [List.getElem?_cons_succ] at hi
    exact e'.step (e'.mono (fun k hk => by simp only [if_pos hk.2.2, hk.1]) (e'.bound (hf i e' hi))) (fun k hk hlt => hb.block k hlt)
theorem Sat.pick0 {es' : List Ent} (h : Aside0 (Sat w0 es w)) (js : List Nat) (hn : js.Nodup := by decide) (he : es'.map some = js.map (fun j => es[j]?) := by exact rfl) : Aside0 (Sat w0 es' w) := by
  obtain ⟨h1, f, hf⟩ := h.out
  refine ⟨h1, fun k => js.idxOf (f k), fun i e hi => ?_⟩
  have h2 : (es'.map some)[i]? = some (some e) := by rw [List.getElem?_map, hi]; rfl
  rw [he, List.getElem?_map] at h2
  obtain ⟨j, hj, h3⟩ := Option.map_eq_some_iff.mp h2
  refine e.mono (fun k hk => ?_) (hf j e h3)
  obtain ⟨hlt, rfl⟩ := List.getElem?_eq_some_iff.mp hj
  show js.idxOf (f k) = i
  rw [hk]
  exact hn.idxOf_getElem i hlt
theorem Sat.drop (h : Sat w0 (e :: es) w) : Sat w0 es w := by
  obtain ⟨h1, f, hf⟩ := h
  exact ⟨h1, fun k => if f k = 0 then es.length else f k - 1, fun i e' hi => e'.mono (fun k hk => by simp only [hk]; simp) (hf (i + 1) e' (by simpa using hi))⟩
end
section
variable {w0 w W w1 : World} {es : List Ent} {α : Type} {d : Kd α} {t : Nat} {v : Value} {xs : List α}
theorem Sat.get {e : Ent} (h : Sat w0 es w) (i : Nat) (hi : es[i]? = some e) : ∃ ok, e.P w0.heap.size w ok := by
  obtain ⟨_, f, hf⟩ := h
  exact ⟨_, hf i e hi⟩
/-- A row that is held, in a world behind quiet steps. -/
theorem Sat.R (h : Aside0 (Sat w0 es w)) (i : Nat) (hi : es[i]? = some (Ctx.R d t v xs)) : d.R t w w0.heap.size (fun _ => True) v xs := by
  obtain ⟨_, hf⟩ := h.out.get i hi
  exact Kd.R_mono hf (fun _ _ => trivial)
theorem Sat.S (h : Aside0 (Sat w0 es w)) (i : Nat) (hi : es[i]? = some (Ctx.S d t v xs)) : Kd.S d t w w0.heap.size (fun _ => True) v xs := by
  obtain ⟨_, hf⟩ := h.out.get i hi
  exact Kd.S_mono hf (fun _ _ => trivial)
theorem Sat.B {g : Nat} {o : Obj} (h : Aside0 (Sat w0 es w)) (i : Nat) (hi : es[i]? = some (Ctx.blk g o)) : w.heap[g]? = some o := by
  obtain ⟨_, hf⟩ := h.out.get i hi
  exact hf.2.2
theorem Sat.ge {g : Nat} {o : Obj} (h : Aside0 (Sat w0 es w)) (i : Nat) (hi : es[i]? = some (Ctx.blk g o)) : w0.heap.size ≤ g := by
  obtain ⟨_, hf⟩ := h.out.get i hi
  exact hf.2.1
theorem Sat.ne {g g' : Nat} {o o' : Obj} (h : Aside0 (Sat w0 es w)) (i j : Nat) (hij : i ≠ j) (hi : es[i]? = some (Ctx.blk g o)) (hj : es[j]? = some (Ctx.blk g' o')) : g ≠ g' := by
  obtain ⟨_, f, hf⟩ := h.out
  rintro rfl
  exact hij ((hf i _ hi).1.symm.trans (hf j _ hj).1)
theorem Sat.mv (h : Aside0 (Sat w0 es w)) (q : Qt w W) : Aside0 (Sat w0 es W) := ⟨h.out.quiet q⟩
theorem Sat.drew (h : Aside0 (Sat w0 es w)) : Aside0 (Sat w0 es w.drew) := Sat.mv h (Qt.d1 (Qt.rf _))
theorem Sat.drn {m : Nat} (hq : w.drewN m = W) (h : Aside0 (Sat w0 es w)) : Aside0 (Sat w0 es W) := by subst hq; exact Sat.mv h (Qt.dn (Qt.rf _) _)
theorem Sat.pick {es' : List Ent} (h : Aside0 (Sat w0 es w)) (js : List Nat) (hn : js.Nodup := by decide) (he : es'.map some = js.map (fun j => es[j]?) := by exact rfl) (q : Qt w W := by with_reducible repeat (first | exact Qt.rf _ | apply Qt.al | apply Qt.dn | apply Qt.d1)) : Aside0 (Sat w0 es' W) := Sat.pick0 (Sat.mv h q) js hn he
theorem Sat.rd (h : Aside0 (Sat w0 es w)) (hb : Below W.heap.size W w1) (q : Qt w W := by with_reducible repeat (first | exact Qt.rf _ | apply Qt.al | apply Qt.dn | apply Qt.d1)) : Aside0 (Sat w0 es w1) := ⟨(h.out.quiet q).quiet hb⟩
theorem Sat.mkR (h : Aside0 (Sat w0 es w)) (hb : Below W.heap.size W w1) (he : d.R t w1 W.heap.size (fun _ => True) v xs) (q : Qt w W := by with_reducible repeat (first | exact Qt.rf _ | apply Qt.al | apply Qt.dn | apply Qt.d1)) : Aside0 (Sat w0 (Ctx.R d t v xs :: es) w1) := ⟨(h.out.quiet q).make hb he⟩
theorem Sat.mkS (h : Aside0 (Sat w0 es w)) (hb : Below W.heap.size W w1) (he : Kd.S d t w1 W.heap.size (fun _ => True) v xs) (q : Qt w W := by with_reducible repeat (first | exact Qt.rf _ | apply Qt.al | apply Qt.dn | apply Qt.d1)) : Aside0 (Sat w0 (Ctx.S d t v xs :: es) w1) := ⟨(h.out.quiet q).make hb he⟩
section
variable {β γ : Type} {d0 : Kd α} {d1 : Kd β} {d2 : Kd γ} {t0 t1 t2 : Nat} {v0 v1 v2 : Value} {xs0 : List α} {xs1 : List β} {xs2 : List γ}
theorem Sat.mk2RR (h : Aside0 (Sat w0 es w)) (hb : Below W.heap.size W w1) (h0 : d0.R t0 w1 W.heap.size (fun k => some k = v0.ownBlock) v0 xs0) (h1 : d1.R t1 w1 W.heap.size (fun k => some k ≠ v0.ownBlock) v1 xs1) (q : Qt w W := by with_reducible repeat (first | exact Qt.rf _ | apply Qt.al | apply Qt.dn | apply Qt.d1)) : Aside0 (Sat w0 (Ctx.R d0 t0 v0 xs0 :: Ctx.R d1 t1 v1 xs1 :: es) w1) := ⟨(h.out.quiet q).make2 hb _ h0 h1⟩
theorem Sat.mk2RS (h : Aside0 (Sat w0 es w)) (hb : Below W.heap.size W w1) (h0 : d0.R t0 w1 W.heap.size (fun k => some k = v0.ownBlock) v0 xs0) (h1 : Kd.S d1 t1 w1 W.heap.size (fun k => some k ≠ v0.ownBlock) v1 xs1) (q : Qt w W := by with_reducible repeat (first | exact Qt.rf _ | apply Qt.al | apply Qt.dn | apply Qt.d1)) : Aside0 (Sat w0 (Ctx.R d0 t0 v0 xs0 :: Ctx.S d1 t1 v1 xs1 :: es) w1) := ⟨(h.out.quiet q).make2 hb _ h0 h1⟩
theorem Sat.mk3RRR (h : Aside0 (Sat w0 es w)) (hb : Below W.heap.size W w1) (h0 : d0.R t0 w1 W.heap.size (fun k => some k = v0.ownBlock) v0 xs0) (h1 : d1.R t1 w1 W.heap.size (fun k => some k = v1.ownBlock ∧ some k ≠ v0.ownBlock) v1 xs1) (h2 : d2.R t2 w1 W.heap.size (fun k => some k ≠ v0.ownBlock ∧ some k ≠ v1.ownBlock) v2 xs2) (q : Qt w W := by with_reducible repeat (first | exact Qt.rf _ | apply Qt.al | apply Qt.dn | apply Qt.d1)) : Aside0 (Sat w0 (Ctx.R d0 t0 v0 xs0 :: Ctx.R d1 t1 v1 xs1 :: Ctx.R d2 t2 v2 xs2 :: es) w1) :=
  ⟨(h.out.quiet q).make3 hb (fun k => some k = v0.ownBlock) (fun k => some k = v1.ownBlock) h0 (Kd.R_mono h1 (fun _ hk => ⟨hk.2, hk.1⟩)) h2⟩
end
theorem Sat.box {g : Nat} {o : Obj} (h : Aside0 (Sat w0 es w)) (hg : g = W.heap.size) (hbox : w1.heap[g]? = some o) (hb : Below W.heap.size W w1) (q : Qt w W := by with_reducible repeat (first | exact Qt.rf _ | apply Qt.al | apply Qt.dn | apply Qt.d1)) : Aside0 (Sat w0 (Ctx.blk g o :: es) w1) := ⟨(h.out.quiet q).make hb ⟨trivial, by omega, hbox⟩⟩
end
section
variable {w0 w W w1 : World} {es : List Ent} {α : Type} {d : Kd α} {t : Nat} {v : Value} {xs : List α}
theorem Bw (h : Aside0 (Sat w0 es w)) (q : Qt w W := by with_reducible repeat (first | exact Qt.rf _ | apply Qt.al | apply Qt.dn | apply Qt.d1)) : Below w0.heap.size w0 W := (h.out.quiet q).1
theorem Sat.atE {e : Ent} (h : Aside0 (Sat w0 es w)) (i : Nat) (hi : es[i]? = some e) : ∃ ok, e.P w0.heap.size w ok ∧ ∀ (W w1 : World) (e1 : Ent), Qt w W → Below w0.heap.size w0 w1 → Kept W w1 ok → e1.P w0.heap.size w1 (fun k => ok k ∨ W.heap.size ≤ k) → Aside0 (Sat w0 (es.set i e1) w1) := by
  obtain ⟨ok, hP, hc⟩ := h.out.at_ i hi
  refine ⟨ok, hP, fun W w1 e1 hq hb hk he => ⟨hc w1 e1 hb ⟨Nat.le_trans hq.size hk.1, fun k hlt hn => ?_⟩ (e1.mono (fun k hk' => hk'.imp_right (fun hh => Nat.le_trans hq.size hh)) he)⟩⟩
  exact (hk.2 k (Nat.lt_of_lt_of_le hlt hq.size) hn).trans (hq.block k hlt)
theorem Sat.atR (h : Aside0 (Sat w0 es w)) (i : Nat) (hi : es[i]? = some (Ctx.R d t v xs)) : ∃ ok, d.R t w w0.heap.size ok v xs ∧ ∀ (W w1 : World) (xs' : List α), Qt w W → Below w0.heap.size w0 w1 → Kept W w1 ok → d.R t w1 w0.heap.size (fun k => ok k ∨ W.heap.size ≤ k) v xs' → Aside0 (Sat w0 (es.set i (Ctx.R d t v xs')) w1) := by
  obtain ⟨ok, hP, hc⟩ := Sat.atE h i hi
  exact ⟨ok, hP, fun W w1 xs' hq hb hk he => hc W w1 (Ctx.R d t v xs') hq hb hk he⟩
theorem Sat.atS (h : Aside0 (Sat w0 es w)) (i : Nat) (hi : es[i]? = some (Ctx.S d t v xs)) : ∃ ok, Kd.S d t w w0.heap.size ok v xs ∧ ∀ (W w1 : World) (xs' : List α), Qt w W → Below w0.heap.size w0 w1 → Kept W w1 ok → Kd.S d t w1 w0.heap.size (fun k => ok k ∨ W.heap.size ≤ k) v xs' → Aside0 (Sat w0 (es.set i (Ctx.S d t v xs')) w1) := by
  obtain ⟨ok, hP, hc⟩ := Sat.atE h i hi
  exact ⟨ok, hP, fun W w1 xs' hq hb hk he => hc W w1 (Ctx.S d t v xs') hq hb hk he⟩
theorem Sat.put {es' : List Ent} {g : Nat} {e : TypeId} {cs : Array Value} (h : Aside0 (Sat w0 es w)) (i j : Nat) (u : Value) (cs' : Array Value) (hi : es[i]? = some (Ctx.blk g (.cells cs e (0, 0))) := by exact rfl) (hc : cs.setIfInBounds j u = cs' := by exact rfl) (he : es.set i (Ctx.blk g (.cells cs' e (0, 0))) = es' := by (simp only [List.set_cons_zero, List.set_cons_succ]; exact rfl)) : Aside0 (Sat w0 es' (w.setCell ⟨g, j, none⟩ u)) := by
  subst he
  obtain ⟨ok, hP, hq⟩ := Sat.atE h i hi
  refine hq w _ _ (Qt.rf _) (below_set h.out.1 hP.2.1) (Kept.setCell (Kept.refl _ _) (.inl hP.1) u) ⟨.inl hP.1, hP.2.1, blk_put hP.2.2 j u hc⟩
theorem Sat.nf {es' : List Ent} (h : Aside0 (Sat w0 es w)) (he : es = es' := by (simp only [List.set_cons_zero, List.set_cons_succ]; exact rfl)) : Aside0 (Sat w0 es' w) := he ▸ h
end
end Go.Proofs.YtcbpbdhglblagaaDoorW.PrintWords
