/- How a law's arguments are opened: from the row's reading of memory as data to what the printed contracts ask of their arguments. -/
import Derived.Test.YtcbpbdhglblagaaDoorWWords
import Derived.Deep.Slices
import Derived.ChangeArms
import Derived.WideShapes
namespace Go.Proofs.YtcbpbdhglblagaaDoor.Open
open Go.Proofs.YtcbpbdhglblagaaDoorW.PrintWords Go.Deep Go.WideShapes Go.ChangeShapes
set_option linter.unusedVariables false

section
variable {H : Type} {enc : TypeId × Value → H} {P : Program} {w : World} {base : Nat} {spare : Nat → Bool} {held : Bool}

/-- What lies at a type t reads as a value of the kind K, of which We is known. -/
def Opens {α : Type} (enc : TypeId × Value → H) (P : Program) (w : World) (base : Nat) (spare : Nat → Bool) (held : Bool) (t : TypeId) (K : Kd α) (We : α → Prop) : Prop :=
  ∀ n cs x, DataW.trod enc P w base spare held n t cs = some x → ∃ a : α, K.K w a cs ∧ We a

theorem op_int {t : TypeId} {k : IntKind} (ht : P.underlying t = some (.int k)) : Opens enc P w base spare held t (Kd.int k) (fun x => (Lit.int k x).wf = true) := fun n cs x h => by
  obtain ⟨a, rfl, _, hw⟩ := DataW.trod_int ht h
  exact ⟨a, rfl, hw⟩
theorem op_bool {t : TypeId} (ht : P.underlying t = some .bool) : Opens enc P w base spare held t Kd.bool (fun _ => True) := fun n cs x h => by
  obtain ⟨a, rfl, _⟩ := DataW.trod_bool ht h
  exact ⟨a, rfl, trivial⟩
theorem op_string {t : TypeId} (ht : P.underlying t = some .string) : Opens enc P w base spare held t Kd.string (fun s => s.size ≤ maxLen) := fun n cs x h => by
  obtain ⟨a, rfl, _, hw⟩ := DataW.trod_string ht h
  exact ⟨a, rfl, hw⟩

theorem op_slice {α : Type} {t e : TypeId} {K : Kd α} {We : α → Prop} (ht : P.underlying t = some (.slice e)) (hsz : P.cellsOf e = K.sz) (ho : Opens enc P w base spare held e K We) :
    Opens enc P w base spare held t (Kd.slice e K) (fun l => l.length ≤ maxLen ∧ ∀ a ∈ l, We a) := fun n cs x h => by
  rcases open_slice ht h with ⟨rfl, _⟩ | ⟨a, len, cap, m, n', D, Pl, rfl, hb, hl, hm, hmm, _, hx⟩
  · exact ⟨[], ⟨none, 0, rfl, Nat.le_refl _, Kd.C_nil K w⟩, Nat.zero_le _, fun a ha => absurd ha List.not_mem_nil⟩
  · have hlm : len ≤ m := by rw [hmm]; split <;> omega
    have each : ∀ i, i < len → ∃ z : α × List Value, w.cells? base (a.add (i * P.cellsOf e)) (P.cellsOf e) = some z.2 ∧ K.K w z.1 z.2 ∧ We z.1 := fun i hi => by
      obtain ⟨cs', h1, h2⟩ := hx i (by omega)
      obtain ⟨v, hv, hw⟩ := ho _ _ _ h2
      exact ⟨(v, cs'), h1, hv, hw⟩
    by_cases h0 : len = 0
    · subst h0
      exact ⟨[], ⟨some a, cap, rfl, hl, ⟨rfl, by simp, fun h => absurd h (Nat.lt_irrefl 0)⟩⟩, Nat.zero_le _, fun a ha => absurd ha List.not_mem_nil⟩
    · obtain ⟨z0, _⟩ := each 0 (by omega)
      obtain ⟨y, hy⟩ : ∃ y : Nat → α × List Value, ∀ i, i < len → w.cells? base (a.add (i * P.cellsOf e)) (P.cellsOf e) = some (y i).2 ∧ K.K w (y i).1 (y i).2 ∧ We (y i).1 :=
        ⟨fun i => if hi : i < len then (each i hi).choose else z0, fun i hi => by simp only [dif_pos hi]; exact (each i hi).choose_spec⟩
      have hlen : ((List.range len).map fun i => (y i).1).length = len := by simp
      have hm' : len ≤ 9223372036854775807 := by unfold maxLen at hm; omega
      refine ⟨(List.range len).map fun i => (y i).1, ⟨some a, cap, by rw [hlen], by rw [hlen]; exact hl, ?_⟩, by rw [hlen]; unfold maxLen; exact hm', fun v hv => ?_⟩
      · rw [hlen]
        refine ⟨hlen, hm', fun _ => ⟨a, rfl, fun j p hp => ?_⟩⟩
        have hj : j < len := by have := (List.getElem?_eq_some_iff.1 hp).1; rwa [hlen] at this
        obtain ⟨h1, h2, _⟩ := hy j hj
        have hp' : p = (y j).1 := by
          rw [List.getElem?_map, List.getElem?_range hj] at hp
          simpa using hp.symm
        subst hp'
        refine ⟨(y j).2, K.K_len h2, h2, fun i u hu => ?_⟩
        obtain ⟨_, hl2, hc⟩ := World.cells?_some h1
        have hi : i < P.cellsOf e := by have := (List.getElem?_eq_some_iff.1 hu).1; omega
        have := hc i hi
        rw [hu] at this
        rw [← hsz, ← Addr.add_add]
        exact this
      · obtain ⟨i, hi, rfl⟩ := List.mem_map.1 hv
        exact (hy i (List.mem_range.1 hi)).2.2

/-- A struct's fields, one behind the other. -/
theorem op_fields2 {α β : Type} {t : TypeId} {f0 f1 : Field} {K0 : Kd α} {K1 : Kd β} {W0 : α → Prop} {W1 : β → Prop} (ht : P.underlying t = some (.struct #[f0, f1])) (hc : P.cellsOf t = K0.sz + K1.sz)
    (o0 : f0.offset = 0) (o1 : f1.offset = K0.sz) (s0 : P.cellsOf f0.type = K0.sz) (s1 : P.cellsOf f1.type = K1.sz) (h0 : Opens enc P w base spare held f0.type K0 W0) (h1 : Opens enc P w base spare held f1.type K1 W1) :
    Opens enc P w base spare held t (Kd.pair K0 K1) (fun x => W0 x.1 ∧ W1 x.2) := fun n cs x h => by
  obtain ⟨xs, n', _, _, hlen, hl, hf⟩ := DataW.trod_struct ht h
  obtain ⟨y0, e0⟩ : ∃ y, xs[0]? = some y := ⟨_, List.getElem?_eq_getElem (by rw [hl]; simp)⟩
  obtain ⟨y1, e1⟩ : ∃ y, xs[1]? = some y := ⟨_, List.getElem?_eq_getElem (by rw [hl]; simp)⟩
  obtain ⟨a, ha, wa⟩ := h0 _ _ _ ((hf 0 f0 rfl).trans e0)
  obtain ⟨b, hb, wb⟩ := h1 _ _ _ ((hf 1 f1 rfl).trans e1)
  rw [o0, s0] at ha
  rw [o1, s1] at hb
  refine ⟨(a, b), ⟨cs.take K0.sz, cs.drop K0.sz, (List.take_append_drop _ _).symm, by simpa using ha, ?_⟩, wa, wb⟩
  have : (cs.drop K0.sz).take K1.sz = cs.drop K0.sz := List.take_of_length_le (by rw [List.length_drop]; omega)
  rwa [this] at hb
theorem op_fields3 {α β γ : Type} {t : TypeId} {f0 f1 f2 : Field} {K0 : Kd α} {K1 : Kd β} {K2 : Kd γ} {W0 : α → Prop} {W1 : β → Prop} {W2 : γ → Prop} (ht : P.underlying t = some (.struct #[f0, f1, f2])) (hc : P.cellsOf t = K0.sz + (K1.sz + K2.sz))
    (o0 : f0.offset = 0) (o1 : f1.offset = K0.sz) (o2 : f2.offset = K0.sz + K1.sz) (s0 : P.cellsOf f0.type = K0.sz) (s1 : P.cellsOf f1.type = K1.sz) (s2 : P.cellsOf f2.type = K2.sz)
    (h0 : Opens enc P w base spare held f0.type K0 W0) (h1 : Opens enc P w base spare held f1.type K1 W1) (h2 : Opens enc P w base spare held f2.type K2 W2) :
    Opens enc P w base spare held t (Kd.pair K0 (Kd.pair K1 K2)) (fun x => W0 x.1 ∧ W1 x.2.1 ∧ W2 x.2.2) := fun n cs x h => by
  obtain ⟨xs, n', _, _, hlen, hl, hf⟩ := DataW.trod_struct ht h
  obtain ⟨y0, e0⟩ : ∃ y, xs[0]? = some y := ⟨_, List.getElem?_eq_getElem (by rw [hl]; simp)⟩
  obtain ⟨y1, e1⟩ : ∃ y, xs[1]? = some y := ⟨_, List.getElem?_eq_getElem (by rw [hl]; simp)⟩
  obtain ⟨y2, e2⟩ : ∃ y, xs[2]? = some y := ⟨_, List.getElem?_eq_getElem (by rw [hl]; simp)⟩
  obtain ⟨a, ha, wa⟩ := h0 _ _ _ ((hf 0 f0 rfl).trans e0)
  obtain ⟨b, hb, wb⟩ := h1 _ _ _ ((hf 1 f1 rfl).trans e1)
  obtain ⟨c, hc', wc⟩ := h2 _ _ _ ((hf 2 f2 rfl).trans e2)
  rw [o0, s0] at ha
  rw [o1, s1] at hb
  rw [o2, s2] at hc'
  refine ⟨(a, b, c), ⟨cs.take K0.sz, cs.drop K0.sz, (List.take_append_drop _ _).symm, by simpa using ha, (cs.drop K0.sz).take K1.sz, (cs.drop K0.sz).drop K1.sz, (List.take_append_drop _ _).symm, hb, ?_⟩, wa, wb, wc⟩
  have : (cs.drop (K0.sz + K1.sz)).take K2.sz = cs.drop (K0.sz + K1.sz) := List.take_of_length_le (by rw [List.length_drop]; omega)
  rw [this] at hc'
  rwa [List.drop_drop]
theorem op_iso {α β : Type} {t : TypeId} {K : Kd α} {We : α → Prop} (f : β → α) (g : α → β) (hfg : ∀ a, f (g a) = a) (h : Opens enc P w base spare held t K We) : Opens enc P w base spare held t (Kd.iso K f) (fun b => We (f b)) := fun n cs x hx => by
  obtain ⟨a, ha, hw⟩ := h n cs x hx
  exact ⟨g a, by show K.K w (f (g a)) cs; rw [hfg]; exact ha, by show We (f (g a)); rw [hfg]; exact hw⟩
end
end Go.Proofs.YtcbpbdhglblagaaDoor.Open
