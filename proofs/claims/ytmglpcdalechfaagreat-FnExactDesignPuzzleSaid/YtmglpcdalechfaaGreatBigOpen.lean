/- How a law's arguments are opened: from the row's reading of memory as data to what Big asks of a call's arguments. -/
import Derived.Test.YtmglpcdalechfaaGreatBig17
import Derived.Deep.Slices
import Derived.ChangeArms
import Derived.WideShapes
set_option linter.unusedVariables false
set_option linter.unusedSimpArgs false
namespace Go.Big
open Go.Deep Go.WideShapes Go.ChangeShapes
theorem repCells_ofO {w : World} {G : Nat → Prop} {blk : Nat} : ∀ (ps : List PV) (vs : List Value) (off : Nat), all2 (rep w G) ps vs → (∀ j v, vs[j]? = some v → w.cell? ⟨blk, off + j, none⟩ = some v) → repCells w G blk off ps
  | [], [], off, _, _ => trivial
  | p :: ps, v :: vs, off, h, hc => ⟨⟨v, hc 0 v rfl, h.1⟩, repCells_ofO ps vs (off + 1) h.2 fun j u hu => by
      have := hc (j + 1) u hu
      rwa [Nat.add_assoc, Nat.add_comm 1 j]⟩
  | [], _ :: _, _, h, _ => h.elim
  | _ :: _, [], _, h, _ => h.elim
theorem repRows_ofO {w : World} {G : Nat → Prop} {sz blk : Nat} : ∀ (rows : List (List PV)) (off : Nat), (∀ i r, rows[i]? = some r → r.length = sz ∧ repCells w G blk (off + i * sz) r) → repRows w G sz blk off rows
  | [], _, _ => trivial
  | r :: rs, off, h => ⟨(h 0 r rfl).1, by simpa using (h 0 r rfl).2, repRows_ofO rs (off + sz) fun i q hq => by
      have := h (i + 1) q hq
      rwa [Nat.add_mul, Nat.one_mul, Nat.add_comm (i * sz) sz, ← Nat.add_assoc] at this⟩
theorem all2_lenO {α β : Type} {R : α → β → Prop} : ∀ {xs : List α} {ys : List β}, all2 R xs ys → xs.length = ys.length
  | [], [], _ => rfl
  | x :: xs, y :: ys, h => by simp [all2_lenO h.2]
  | [], _ :: _, h => h.elim
  | _ :: _, [], h => h.elim

section
variable {H : Type} {enc : TypeId × Value → H} {P : Program} {w : World} {base : Nat} {spare : Nat → Bool} {held : Bool}
/-- Blocks that there are. -/
def Lt (w : World) (j : Nat) : Prop := 0 = 0 ∧ j < w.heap.size
/-- What lies at a type t stands for k of something of which We is known. -/
def Opens {α : Type} (enc : TypeId × Value → H) (P : Program) (w : World) (base : Nat) (spare : Nat → Bool) (held : Bool) (t : TypeId) (k : α → List PV) (We : α → Prop) : Prop :=
  ∀ n cs x, DataW.trod enc P w base spare held n t cs = some x → ∃ a : α, all2 (rep w (Lt w)) (k a) cs ∧ We a
theorem op_int {t : TypeId} {k : IntKind} (ht : P.underlying t = some (.int k)) : Opens enc P w base spare held t (fun x => [.i k x]) (fun x => (Lit.int k x).wf = true) := fun n cs x h => by
  obtain ⟨a, rfl, _, hw⟩ := DataW.trod_int ht h
  exact ⟨a, ⟨rfl, trivial⟩, hw⟩
theorem op_bool {t : TypeId} (ht : P.underlying t = some .bool) : Opens enc P w base spare held t (fun x => [.b x]) (fun _ => True) := fun n cs x h => by
  obtain ⟨a, rfl, _⟩ := DataW.trod_bool ht h
  exact ⟨a, ⟨rfl, trivial⟩, trivial⟩
theorem op_string {t : TypeId} (ht : P.underlying t = some .string) : Opens enc P w base spare held t (fun x => [.s x]) (fun s => s.size ≤ maxLen) := fun n cs x h => by
  obtain ⟨a, rfl, _, hw⟩ := DataW.trod_string ht h
  exact ⟨a, ⟨rfl, trivial⟩, hw⟩
theorem op_slice {α : Type} {t e : TypeId} {k : α → List PV} {We : α → Prop} (ht : P.underlying t = some (.slice e)) (hz : 0 < P.cellsOf e) (ho : Opens enc P w base spare held e k We) :
    Opens enc P w base spare held t (fun l : List α => [.sl (l.map k)]) (fun l : List α => l.length ≤ maxLen ∧ ∀ a ∈ l, We a) := fun n cs x h => by
  rcases open_slice ht h with ⟨rfl, _⟩ | ⟨a, len, cap, m, n', D, Pl, rfl, hb, hl, hm, hmm, _, hx⟩
  · exact ⟨[], ⟨⟨none, 0, rfl, Nat.le_refl _, fun h => absurd rfl h⟩, trivial⟩, Nat.zero_le _, fun a ha => absurd ha List.not_mem_nil⟩
  · have hlm : len ≤ m := by rw [hmm]; split <;> omega
    have each : ∀ i, i < len → ∃ z : α × List Value, w.cells? base (a.add (i * P.cellsOf e)) (P.cellsOf e) = some z.2 ∧ all2 (rep w (Lt w)) (k z.1) z.2 ∧ We z.1 := fun i hi => by
      obtain ⟨cs', h1, h2⟩ := hx i (by omega)
      obtain ⟨v, hv, hw⟩ := ho _ _ _ h2
      exact ⟨(v, cs'), h1, hv, hw⟩
    by_cases h0 : len = 0
    · subst h0
      exact ⟨[], ⟨⟨some a, cap, rfl, hl, fun h => absurd rfl h⟩, trivial⟩, Nat.zero_le _, fun a ha => absurd ha List.not_mem_nil⟩
    · obtain ⟨z0, hz0, _⟩ := each 0 (by omega)
      obtain ⟨y, hy⟩ : ∃ y : Nat → α × List Value, ∀ i, i < len → w.cells? base (a.add (i * P.cellsOf e)) (P.cellsOf e) = some (y i).2 ∧ all2 (rep w (Lt w)) (k (y i).1) (y i).2 ∧ We (y i).1 :=
        ⟨fun i => if hi : i < len then (each i hi).choose else z0, fun i hi => by simp only [dif_pos hi]; exact (each i hi).choose_spec⟩
      have hlen : ((List.range len).map fun i => (y i).1).length = len := by simp
      have hm' : len ≤ 9223372036854775807 := by unfold maxLen at hm; omega
      have hcell : ∀ i, i < len → ∀ j v, (y i).2[j]? = some v → w.cell? ((a.add (i * P.cellsOf e)).add j) = some v ∧ (y i).2.length = P.cellsOf e := fun i hi j v hv => by
        obtain ⟨_, hl2, hc⟩ := World.cells?_some (hy i hi).1
        have hj : j < P.cellsOf e := by have := (List.getElem?_eq_some_iff.1 hv).1; omega
        exact ⟨(hc j hj).trans hv, hl2⟩
      have hspot : a.spot = none ∧ a.block < w.heap.size := by
        obtain ⟨_, hl2, hc⟩ := World.cells?_some hz0
        have := hc 0 hz
        rw [List.getElem?_eq_getElem (by omega)] at this
        unfold World.cell? at this
        split at this
        · rename_i c t fr hq
          refine ⟨?_, by have h5 := (Array.getElem?_eq_some_iff.1 hq).1; simpa [Addr.add] using h5⟩
          split at this
          · exact nomatch this
          · rename_i hs
            cases hs' : a.spot with
            | none => rfl
            | some _ => exact absurd (by simp [Addr.add, hs']) hs
        · exact nomatch this
      refine ⟨(List.range len).map fun i => (y i).1, ⟨⟨some a, cap, by simp, by simpa using hl, fun _ => ⟨a, P.cellsOf e, rfl, hspot.1, hz, ⟨rfl, hspot.2⟩, repRows_ofO _ _ fun i r hr => ?_⟩⟩, trivial⟩, by rw [hlen]; unfold maxLen; exact hm', fun v hv => ?_⟩
      · have hi : i < len := by have := (List.getElem?_eq_some_iff.1 hr).1; simpa using this
        have hr' : r = k (y i).1 := by
          rw [List.getElem?_map, List.getElem?_map, List.getElem?_range hi] at hr
          simpa using hr.symm
        subst hr'
        obtain ⟨h1, h2, _⟩ := hy i hi
        obtain ⟨_, hl2, _⟩ := World.cells?_some h1
        refine ⟨(all2_lenO h2).trans hl2, repCells_ofO _ _ _ h2 fun j v hv => ?_⟩
        have := (hcell i hi j v hv).1
        rw [add_spot hspot.1, add_spot rfl] at this
        exact this
      · obtain ⟨i, hi, rfl⟩ := List.mem_map.1 hv
        exact (hy i (List.mem_range.1 hi)).2.2
theorem op_fields2 {α β : Type} {t : TypeId} {f0 f1 : Field} {k0 : α → List PV} {k1 : β → List PV} {W0 : α → Prop} {W1 : β → Prop} (ht : P.underlying t = some (.struct #[f0, f1])) (hc : P.cellsOf t = P.cellsOf f0.type + P.cellsOf f1.type)
    (o0 : f0.offset = 0) (o1 : f1.offset = P.cellsOf f0.type) (h0 : Opens enc P w base spare held f0.type k0 W0) (h1 : Opens enc P w base spare held f1.type k1 W1) :
    Opens enc P w base spare held t (fun x : α × β => k0 x.1 ++ k1 x.2) (fun x => W0 x.1 ∧ W1 x.2) := fun n cs x h => by
  obtain ⟨xs, n', _, _, hlen, hl, hf⟩ := DataW.trod_struct ht h
  obtain ⟨y0, e0⟩ : ∃ y, xs[0]? = some y := ⟨_, List.getElem?_eq_getElem (by rw [hl]; simp)⟩
  obtain ⟨y1, e1⟩ : ∃ y, xs[1]? = some y := ⟨_, List.getElem?_eq_getElem (by rw [hl]; simp)⟩
  obtain ⟨a, ha, wa⟩ := h0 _ _ _ ((hf 0 f0 rfl).trans e0)
  obtain ⟨b, hb, wb⟩ := h1 _ _ _ ((hf 1 f1 rfl).trans e1)
  rw [o0] at ha
  rw [o1] at hb
  refine ⟨(a, b), ?_, wa, wb⟩
  have e2 : (cs.drop (P.cellsOf f0.type)).take (P.cellsOf f1.type) = cs.drop (P.cellsOf f0.type) := List.take_of_length_le (by rw [List.length_drop]; omega)
  rw [e2] at hb
  have := all2_append ha hb
  simpa using this
theorem op_fields3 {α β γ : Type} {t : TypeId} {f0 f1 f2 : Field} {k0 : α → List PV} {k1 : β → List PV} {k2 : γ → List PV} {W0 : α → Prop} {W1 : β → Prop} {W2 : γ → Prop} (ht : P.underlying t = some (.struct #[f0, f1, f2])) (hc : P.cellsOf t = P.cellsOf f0.type + (P.cellsOf f1.type + P.cellsOf f2.type))
    (o0 : f0.offset = 0) (o1 : f1.offset = P.cellsOf f0.type) (o2 : f2.offset = P.cellsOf f0.type + P.cellsOf f1.type)
    (h0 : Opens enc P w base spare held f0.type k0 W0) (h1 : Opens enc P w base spare held f1.type k1 W1) (h2 : Opens enc P w base spare held f2.type k2 W2) :
    Opens enc P w base spare held t (fun x : α × β × γ => k0 x.1 ++ (k1 x.2.1 ++ k2 x.2.2)) (fun x => W0 x.1 ∧ W1 x.2.1 ∧ W2 x.2.2) := fun n cs x h => by
  obtain ⟨xs, n', _, _, hlen, hl, hf⟩ := DataW.trod_struct ht h
  obtain ⟨y0, e0⟩ : ∃ y, xs[0]? = some y := ⟨_, List.getElem?_eq_getElem (by rw [hl]; simp)⟩
  obtain ⟨y1, e1⟩ : ∃ y, xs[1]? = some y := ⟨_, List.getElem?_eq_getElem (by rw [hl]; simp)⟩
  obtain ⟨y2, e2⟩ : ∃ y, xs[2]? = some y := ⟨_, List.getElem?_eq_getElem (by rw [hl]; simp)⟩
  obtain ⟨a, ha, wa⟩ := h0 _ _ _ ((hf 0 f0 rfl).trans e0)
  obtain ⟨b, hb, wb⟩ := h1 _ _ _ ((hf 1 f1 rfl).trans e1)
  obtain ⟨c, hc', wc⟩ := h2 _ _ _ ((hf 2 f2 rfl).trans e2)
  rw [o0] at ha
  rw [o1] at hb
  rw [o2] at hc'
  refine ⟨(a, b, c), ?_, wa, wb, wc⟩
  have e3 : (cs.drop (P.cellsOf f0.type + P.cellsOf f1.type)).take (P.cellsOf f2.type) = cs.drop (P.cellsOf f0.type + P.cellsOf f1.type) := List.take_of_length_le (by rw [List.length_drop]; omega)
  rw [e3] at hc'
  have := all2_append ha (all2_append hb hc')
  rw [← List.drop_drop, List.take_append_drop] at this
  simpa using this
theorem op_iso {α β : Type} {t : TypeId} {k : α → List PV} {We : α → Prop} (f : β → α) (g : α → β) (hfg : ∀ a, f (g a) = a) (h : Opens enc P w base spare held t k We) : Opens enc P w base spare held t (fun b => k (f b)) (fun b => We (f b)) := fun n cs x hx => by
  obtain ⟨a, ha, hw⟩ := h n cs x hx
  exact ⟨g a, by show all2 (rep w (Lt w)) (k (f (g a))) cs; rw [hfg]; exact ha, by show We (f (g a)); rw [hfg]; exact hw⟩
/-- .. with its leaves as words: what it asks of a slot. -/
def avP : PV → AV
  | .i k n => .i k n
  | .b x => .b x
  | .s x => .s x
  | .sl rows => .sl 0 rows
  | .ob _ _ => .un
theorem avP_ok {M : Mem} {p : PV} {v : Value} (h : rep M.w (Lt M.w) p v) : vrep (Mc M) (avP p) v := by
  cases p with
  | i k n => simpa [rep, vrep, avP] using h
  | b x => simpa [rep, vrep, avP] using h
  | s x => simpa [rep, vrep, avP] using h
  | sl rows =>
    simp only [vrep, avP]
    exact rep_mono (w := M.w) (w' := M.w) (fun k hk => ⟨rfl, rfl, hk.2⟩) (.sl rows) v h
  | ob => exact h.elim
theorem avsP_ok {M : Mem} : ∀ {ps : List PV} {vs : List Value}, all2 (rep M.w (Lt M.w)) ps vs → vreps (Mc M) (ps.map avP) vs
  | [], [], _ => by simp [vreps]
  | p :: ps, v :: vs, h => by
    simp only [List.map_cons, vreps]
    exact ⟨v, vs, rfl, avP_ok h.1, avsP_ok h.2⟩
  | [], _ :: _, h => h.elim
  | _ :: _, [], h => h.elim
/-- A call of a law, out of what it gives. -/
theorem calls_of {G : Gv} (hG : GvOk P G) {f : FuncId} {args : List AV} {b : Bool} (h : ∃ r Hc nc, Big P G (.call f args (fun _ => none) 0 r Hc nc) ∧ backA Hc r = some (.b b)) (w : World) (vs : List Value)
    (hv : all2 (vrep (Mc { w := w, fz := fun _ _ => False, hv := fun _ => .bool false, H := fun _ => none })) args vs) :
    Calls P f vs.toArray w (fun e w' => e = .returned (.bool b) ∧ Go.RowKit.Below w.heap.size w w') := by
  obtain ⟨r, Hc, nc, hb, hbk⟩ := h
  have := says hG hb (Mc { w := w, fz := fun _ _ => False, hv := fun _ => .bool false, H := fun _ => none }) w.heap.size vs (Mc_ok _) rfl (fun _ _ => rfl) hv
  refine this.mono ?_
  rintro e w' ⟨v, M', rfl, rfl, hx, hr⟩
  have hy := backA_ok (M := Mc { w := w, fz := fun _ _ => False, hv := fun _ => .bool false, H := fun _ => none }) hx.ok r hr (by rw [hx.H]; exact hbk)
  refine ⟨?_, hx.below.kit⟩
  simp only [vrep] at hy
  rw [hy]
end
end Go.Big
