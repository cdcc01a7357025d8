/- Short words for what the print spells out at each step of a walk. -/
import Derived.Test.YtcbpbdhglblagaaDoorWMore
import Derived.Test.YtcbpbdhglblagaaDoorWApart
import Derived.Test.YtcbpbdhglblagaaDoorWN
import Derived.Test.YtcbpbdhglblagaaDoorWTab
import Derived.Test.YtcbpbdhglblagaaDoorWLast
import Derived.Test.YtcbpbdhglblagaaDoorU
namespace Go.Proofs.YtcbpbdhglblagaaDoorW.PrintWords
open Go.RowKit Go.Proofs.YtcbpbdhglblagaaDoorW.PrintWords Go.Proofs.YtcbpbdhglblagaaDoorW.PrintLast Go.Proofs.YtcbpbdhglblagaaDoorW.PrintMore
set_option linter.unusedVariables false

/-- Nothing that w holds is turned on the way to W. -/
def Qt (w W : World) : Prop := Below w.heap.size w W
theorem Qt.rf (w : World) : Qt w w := Below.refl _ _
theorem Qt.al {w W : World} (h : Qt w W) (o : Obj) : Qt w (W.alloc o) := below_alloc h o
theorem Qt.dn {w W : World} (h : Qt w W) (n : Nat) : Qt w (W.drewN n) := pw_below_drewN h n
theorem Qt.d1 {w W : World} (h : Qt w W) : Qt w W.drew := below_drew1 h
section
variable {α : Type} {d : Kd α} {e : Nat} {w W : World} {b : Nat} {ok : Nat → Prop} {v : Value} {xs : List α}
theorem R1 (h : Aside0 (d.R e w b ok v xs)) (q : Qt w W := by with_reducible repeat (first | exact Qt.rf _ | apply Qt.al | apply Qt.dn | apply Qt.d1)) : d.R e W b ok v xs := Kd.R_below h.out q
theorem S1 (h : Aside0 (d.S e w b ok v xs)) (q : Qt w W := by with_reducible repeat (first | exact Qt.rf _ | apply Qt.al | apply Qt.dn | apply Qt.d1)) : d.S e W b ok v xs := Kd.S_below h.out q
theorem B1 {g : Nat} {o : Obj} (h : Aside0 (w.heap[g]? = some o)) (q : Qt w W := by with_reducible repeat (first | exact Qt.rf _ | apply Qt.al | apply Qt.dn | apply Qt.d1)) : W.heap[g]? = some o := blk_below h.out q
/-- What the call has kept, by the name the print gives it. -/
theorem Hb {p : Prop} (h : p := by repeat (first | (with_reducible first | exact HB.out | apply below_alloc | apply pw_below_drewN | apply below_drew1 | refine below_set ?_ (Aside0.out (by assumption))) | exact HB.out)) : p := h
theorem Hk {p : Prop} (h : p := by repeat (first | (with_reducible first | exact HK.out | apply KeepBut.set_ | apply keep_drewN | apply keep_drew | apply keep_alloc) | exact HK.out)) : p := h
theorem Fin {p : Prop} (h : p := by first | rfl | (simp [errW_none, errW_some] <;> rfl) | (simp [*, errW_none, errW_some] <;> rfl)) : p := h
theorem Gle {g : Nat} (hg : g = W.heap.size) (h : Below w.heap.size w W) : w.heap.size ≤ g := by rw [hg]; exact below_size h
end
/-! Steps of regions: what is asked at each of them is shown by the word itself. -/
section
variable {P : Program} {md : Region.Mode} {ops : Array Oper} {Q : Exit → Act → World → Prop} {S : World → Prop} {ds : List Nat} {oi : Oper} {fuel : Nat} {l l' : Array Bool} {a a' : Act} {w : World} {N : Option Tmp} {v : Value}
theorem PU (i n : Nat) (h : wpAnyLast P md ops Q S ds fuel l' a' w)
    (hi : ops[i]? = some oi := by exact rfl) (hN : oi.dst = some n := by exact rfl) (hl : l.setIfInBounds i true = l' := by (simp only [List.setIfInBounds_toArray, List.set_cons_zero, List.set_cons_succ]; exact rfl)) (hc : anyB md ops l l' i = true := by first | exact any_of HT_.out (by kernel_rfl) | kernel_rfl)
    (hQ : ∀ c a w, Q (.panic c) (a.put oi.dst v) w → Q (.panic c) a w := by exact (fun _ _ _ h => h)) (hw : Region.wanted oi (yielded ops a.tmps) = true := by rfl) (hy : ∀ w', (execOp a.eval oi).run P w' = .ok (.value v) w' := by (intro w'; go_simp; with_reducible rfl))
    (ha : a.put (some n) v = a' := by (simp only [Act.put, List.setIfInBounds_toArray, List.set_cons_zero, List.set_cons_succ, i64_w, i32_w]; rfl)) : wpAnyLast P md ops Q S ds (fuel + 1) l a w :=
  pure_ l' hi hN hc hQ (.inl ⟨hw, hy⟩) ha h
theorem PV (i n : Nat) (h : wpAnyLast P md ops Q S ds fuel l' a' w)
    (hi : ops[i]? = some oi := by exact rfl) (hN : oi.dst = some n := by exact rfl) (hl : l.setIfInBounds i true = l' := by (simp only [List.setIfInBounds_toArray, List.set_cons_zero, List.set_cons_succ]; exact rfl)) (hc : anyB md ops l l' i = true := by first | exact any_of HT_.out (by kernel_rfl) | kernel_rfl)
    (hQ : ∀ c a w, Q (.panic c) (a.put oi.dst undef) w → Q (.panic c) a w := by exact (fun _ _ _ h => h)) (hw : Region.wanted oi (yielded ops a.tmps) = false := by rfl)
    (ha : a.put (some n) undef = a' := by (simp only [Act.put, List.setIfInBounds_toArray, List.set_cons_zero, List.set_cons_succ, i64_w, i32_w]; rfl)) : wpAnyLast P md ops Q S ds (fuel + 1) l a w :=
  pure_ l' hi hN hc hQ (.inr ⟨hw, rfl⟩) ha h
theorem TK (i n : Nat) (hS : S w) (h : wpAnyLast P md ops Q S ds fuel l' a' w)
    (hi : ops[i]? = some oi := by exact rfl) (hN : oi.dst = some n := by exact rfl) (hl : l.setIfInBounds i true = l' := by (simp only [List.setIfInBounds_toArray, List.set_cons_zero, List.set_cons_succ]; exact rfl)) (hc : takeB md ops ds l l' i = true := by first | exact take_ofW HT_.out HW_.out (by kernel_rfl) | kernel_rfl)
    (hQ : ∀ c a w, Q (.panic c) (a.put oi.dst v) w → Q (.panic c) a w := by exact (fun _ _ _ h => h)) (hw : Region.wanted oi (yielded ops a.tmps) = true := by rfl) (hy : ∀ w', S w' → (execOp a.eval oi).run P w' = .ok (.value v) w' := by (intro w' hS_; (repeat (have hS1_ := And.left hS_; replace hS_ := And.right hS_)); first | (go_simp; with_reducible rfl) | ((try simp only [add_plain] at *); go_simp; with_reducible rfl)))
    (ha : a.put (some n) v = a' := by (simp only [Act.put, List.setIfInBounds_toArray, List.set_cons_zero, List.set_cons_succ, i64_w, i32_w]; rfl)) : wpAnyLast P md ops Q S ds (fuel + 1) l a w :=
  take_ l' hi hN hc hQ (.inl ⟨hw, hy⟩) hS ha h
theorem ON (i n : Nat) (h : ∀ K : Act → World → Prop, Shut (∀ a' w', S w' → (S w' → wpAnyLast P md ops Q S ds fuel l' a' w') → K a' w') → if Region.wanted oi (yielded ops a.tmps) = true then Oper.wp P oi a w K Q else K (a.put (some n) undef) w)
    (hi : ops[i]? = some oi := by exact rfl) (hN : oi.dst = some n := by exact rfl) (hl : l.setIfInBounds i true = l' := by (simp only [List.setIfInBounds_toArray, List.set_cons_zero, List.set_cons_succ]; exact rfl)) (hc : readyB md ops l l' i = true := by first | exact one_of HT_.out (by kernel_rfl) | kernel_rfl) (hd : i ∉ ds := by decide) : wpAnyLast P md ops Q S ds (fuel + 1) l a w :=
  one_ l' hi hN hc hd h
theorem NM (n : Nat) {b : Act} (h : wpAnyLast P md ops Q S ds fuel l a' w) (ha : Act.put b (some n) v = a' := by (simp only [Act.put, List.setIfInBounds_toArray, List.set_cons_zero, List.set_cons_succ, i64_w, i32_w]; rfl)) : wpAnyLast P md ops Q S ds fuel l (Act.put b (some n) v) w := norm_ ha h
theorem GO {K : Act → World → Prop} {f : FuncId} {fn : Func} {as_ : Array Operand} {ts : Array TypeId} (hf : P.funcs[f]? = some fn) (args : Array Value) (h : Calls P f args w fun e w' => ∃ v, e = .returned v ∧ K (a.put N v) w')
    (hw : Region.wanted oi (yielded ops a.tmps) = true := by rfl) (hN : oi.dst = N := by exact rfl) (hop : oi.op = .call { callee := .value (.func f), args := as_, argTypes := ts } := by exact rfl) (hargs : as_.map a.eval = args := by ((try simp only [List.map_toArray, List.map_cons, List.map_nil]); first | done | rfl | (simp only [List.length_drop, List.length_take]; rfl)))
    (hname : (fn.name == "runtime.NumGoroutine") = false := by kernel_rfl) (hb : fn.body.isSome = true := by exact rfl) : if Region.wanted oi (yielded ops a.tmps) = true then Oper.wp P oi a w K Q else K (a.put N undef) w :=
  goes_ hf hname hb args hw hN hop hargs h
end
/-! Steps of a plain region. -/
section
variable {P : Program} {ops : Array Oper} {Q : Exit → Act → World → Prop} {rest : List Oper} {oi : Oper} {a : Act} {w : World}
theorem gD (N : Tmp) (h : wpList P ops Q (oi :: rest) a w) (hN : oi.dst = some N := by exact rfl) : wpList P ops Q (oi :: rest) a w := h
theorem gC (f : FuncId) {as_ : Array Operand} {ts : Array TypeId} (h : wpList P ops Q (oi :: rest) a w) (hop : oi.op = .call { callee := .value (.func f), args := as_, argTypes := ts } := by exact rfl) : wpList P ops Q (oi :: rest) a w := h
theorem GL (N : Option Tmp) {f : FuncId} {fn : Func} {as_ : Array Operand} {ts : Array TypeId} (hf : P.funcs[f]? = some fn) (args : Array Value) (h : Calls P f args w fun e w' => ∃ v, e = .returned v ∧ wpList P ops Q rest (a.put N v) w')
    (hd : oi.dst = N := by exact rfl) (hg : oi.guard = none := by exact rfl) (hop : oi.op = .call { callee := .value (.func f), args := as_, argTypes := ts } := by exact rfl) (hargs : as_.map a.eval = args := by ((try simp only [List.map_toArray, List.map_cons, List.map_nil]); first | done | rfl | (simp only [List.length_drop, List.length_take]; rfl)))
    (hname : (fn.name == "runtime.NumGoroutine") = false := by kernel_rfl) (hb : fn.body.isSome = true := by exact rfl) : wpList P ops Q (oi :: rest) a w :=
  goesL_ N hd hg hf hname hb args hop hargs h
theorem BX (cs : Array Value) (t : TypeId) (h : ∀ g, g = w.heap.size → ∀ w1, w1.heap[g]? = some (.cells cs t (0, 0)) → Below w.heap.size w w1 → wpList P ops Q rest (a.put oi.dst (.pointer (some ⟨g, 0, none⟩))) w1)
    (hgd : oi.guard = none := by exact rfl) (hrun : (execOp a.eval oi).run P w = .ok (.value (.pointer (some ⟨w.heap.size, 0, none⟩))) (w.alloc (.cells cs t (0, 0))) := by first | (go_simp; done) | (go_simp; rfl)) : wpList P ops Q (oi :: rest) a w :=
  Kd.event_run hgd hrun (h _ rfl _ (blk_new w _) (below_alloc (Below.refl _ _) _))
end
/-! Words for what is read. -/
section
variable {α : Type} {d : Kd α} {w W : World} {A : Option Addr} {n : Nat} {xs : List α}
theorem Ck (h : d.C w A n xs) (q : Qt w W := by with_reducible repeat (first | exact Qt.rf _ | apply Qt.al | apply Qt.dn | apply Qt.d1)) : d.C W A n xs := Kd.C_below h q
theorem hxb {v : Value} {ad : Addr} (h : w.cell? ad = some v) (hB_ : Below w.heap.size w W := by repeat (first | (with_reducible first | exact HB.out | apply below_alloc | apply pw_below_drewN | apply below_drew1 | refine below_set ?_ (Aside0.out (by assumption))) | exact HB.out)) : W.cell? ad = some v := (hB_.cell (World.block_lt_of_cell? w _ h)).trans h
theorem bc {g t i : Nat} {cs : Array Value} {v : Value} (h : Aside0 (w.heap[g]? = some (.cells cs t (0, 0)))) (hv : cs[i]? = some v := by exact rfl) : w.cell? ⟨g, i, none⟩ = some v := (blk_cell h.out i).trans hv
theorem oD {p : Prop} [dp : Decidable p] (h : decide p = true := by first | (with_reducible assumption) | assumption) : p := of_decide_eq_true h
theorem Fs {p : Prop} (h : p := by first | rfl | (simp; done) | (simp [*]; done)) : p := h
end
end Go.Proofs.YtcbpbdhglblagaaDoorW.PrintWords
