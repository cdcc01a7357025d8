/- Operations that make memory: variables, literals, makes. No condition. -/
import Derived.Test.YtmglpcdalechfaaGreatBig10
set_option linter.unusedVariables false
set_option linter.unusedSimpArgs false
namespace Go.Big
variable {P : Program}

theorem To.same {M : Mem} {base : Nat} (hok : Ok M base) {y : AV} {v : Value} (h : vrep M y v) : To M base M.H y M.w v :=
  ⟨⟨M, rfl, rfl, rfl, Step.refl M, hok, h⟩, Below.refl _ _⟩
/-- All cells of the element type's zero value, as leaves. -/
def zeroRow (P : Program) (t : TypeId) : Option (List PV) := match zeroA P t with
  | some z => if goodZ z = true then (pvsOf z).map (·.1) else none
  | none => none
theorem modCells {z : Array Value} {n : Nat} (h0 : 0 < z.size) : (madeCells z (n * z.size)).toList = (List.replicate n z.toList).flatten := by
  induction n with
  | zero => simp [madeCells]
  | succ n ih =>
    rw [List.replicate_succ', List.flatten_append, ← ih]
    apply List.ext_getElem?
    intro i
    simp only [madeCells, List.flatten_cons, List.flatten_nil, List.append_nil]
    have hlen : ∀ k, (Array.map (fun i => z[i % z.size]!) (Array.range k)).toList.length = k := by intro k; simp
    by_cases hi : i < n * z.size
    · rw [List.getElem?_append_left (by rw [hlen]; exact hi)]
      have h1 : i < (n + 1) * z.size := by rw [Nat.add_mul]; omega
      simp [hi, h1]
    · rw [List.getElem?_append_right (by rw [hlen]; omega), hlen]
      by_cases h1 : i < (n + 1) * z.size
      · have h2 : i - n * z.size < z.size := by rw [Nat.add_mul] at h1; omega
        have h3 : i % z.size = i - n * z.size := by
          have : i = z.size * n + (i - n * z.size) := by rw [Nat.mul_comm]; omega
          conv => lhs; rw [this]
          rw [Nat.mul_add_mod, Nat.mod_eq_of_lt h2]
        simp [h1, h2, h3]
      · have h2 : ¬ (i - n * z.size < z.size) := by rw [Nat.add_mul] at h1; omega
        simp [h1, h2]
def opMake (P : Program) (H : Heap) (n : Nat) (ρ : Operand → AV) : Op → Option (AV × Heap)
  | .alloc t => match zeroA P t with
    | some z => some (.ptr n 0 0 0, H.upd n (.box t z))
    | none => none
  | .box t x => match flatA H (ρ x) with
    | some l => some (.ptr n 0 0 0, H.upd n (.box t l))
    | none => none
  | .buildSlice t len parts => match P.underlying t with
    | some (.slice el) => match sz? P el, zeroA P el with
      | some (sz + 1), some z => if z.length = sz + 1 ∧ parts.size = len ∧ len * (sz + 1) ≤ 16777216 then (match litRows H (sz + 1) 0 (parts.toList.map fun p => (p.1, ρ p.2)) with
        | some (rows, tg) => some (.own n 0, H.upd n (.arr 0 el (sz + 1) rows tg))
        | none => none) else none
      | _, _ => none
    | _ => none
  | .makeSlice t l c => match P.underlying t, ρ l, ρ c with
    | some (.slice el), .i _ len, .i _ cap => match P.info? el, zeroRow P el with
      | some i, some z => if z.length = i.size ∧ 0 < i.size ∧ 0 ≤ len ∧ len ≤ cap ∧ (i.bytes : Int) * cap ≤ 281474976710656 ∧ cap ≤ 9223372036854775807 then some (.own n 0, H.upd n (.arr 0 el i.size (List.replicate len.toNat z) 1)) else none
      | _, _ => none
    | _, _, _ => none
  | _ => none
theorem opMake_ok {M : Mem} {base n : Nat} (hok : Ok M base) (hn : M.H n = none) {ρ : Operand → AV} {ev : Operand → Value} (hρ : ∀ x, vrep M (ρ x) (ev x)) (o : Oper) {y : AV} {H' : Heap} (h : opMake P M.H n ρ o.op = some (y, H')) :
    ∃ v w', (execOp ev o).run P M.w = .ok (.value v) w' ∧ To M base H' y w' v := by
  have fin : ∀ {F : Sem Value}, (∃ v w', F.run P M.w = .ok v w' ∧ To M base H' y w' v) → ∃ v w', (do pure (.value (← F)) : Sem Next).run P M.w = .ok (.value v) w' ∧ To M base H' y w' v := by
    rintro F ⟨v, w', h1, h2⟩
    exact ⟨v, w', by simp [h1], h2⟩
  unfold execOp
  cases hop : o.op <;> rw [hop] at h <;> simp only [opMake] at h <;> try (simp at h; done)
  case alloc t =>
    split at h
    · rename_i z hz
      simp only [Option.some.injEq, Prod.mk.injEq] at h
      obtain ⟨rfl, rfl⟩ := h
      obtain ⟨zv, h1, h2, _⟩ := run_zero hz M
      refine fin ⟨_, _, ?_, to_box hok hn h2⟩
      simp only [Instr.alloc, Sem.run_bind, h1, Result.andThen_ok, newVar, run_newRow, Sem.run_pure]
    · simp at h
  case box t x =>
    split at h
    · rename_i l hl
      simp only [Option.some.injEq, Prod.mk.injEq] at h
      obtain ⟨rfl, rfl⟩ := h
      obtain ⟨f1, f2⟩ := flatA_ok hok (hρ x) hl
      refine fin ⟨_, _, ?_, to_box hok hn f1⟩
      simp only [Instr.box, Sem.run_bind, newVar, run_newRow, Sem.run_pure, Result.andThen_ok]
    · simp at h
  case buildSlice t len parts =>
    split at h
    · rename_i el hu
      split at h
      · rename_i sz z hs hz
        split at h
        · rename_i c
          obtain ⟨c1, c2, c3⟩ := c
          split at h
          · rename_i rows tg hr
            simp only [Option.some.injEq, Prod.mk.injEq] at h
            obtain ⟨rfl, rfl⟩ := h
            obtain ⟨zv, h1, h2, h3, _⟩ := run_zero hz M
            have hz1 : zv.cells.size = sz + 1 := by rw [← Array.length_toList, ← all2_len h2]; exact c1
            have hpp : all2 (fun (p : Nat × AV) (q : Nat × Value) => p.1 = q.1 ∧ vrep M p.2 q.2) (parts.toList.map fun p => (p.1, ρ p.2)) (parts.map fun (i, x) => (i, ev x)).toList := by
              rw [Array.toList_map]; exact all2_parts hρ _
            obtain ⟨es, e1, e2, e3, e4, cs, e5, e6⟩ := litRows_ok (pre := []) (ds := (Array.range (len * (sz + 1))).map (zv.cells[· % zv.cells.size]!)) hok hpp hr (by simp) (by simp) (by simp [c2])
            simp only [List.length_map, Array.length_toList, c2] at e3
            rw [List.nil_append] at e5
            have hcl : es.size = len * (sz + 1) := by rw [e2]; simp
            refine fin ⟨_, _, ?_, to_arr hok hn (cur := es) (cap := len) (len := len) (cs := cs) (by omega) e4 e3 e6 (Nat.le_refl _) (by have : len ≤ len * (sz + 1) := Nat.le_mul_of_pos_right _ (by omega); simp only [maxLen]; omega) hcl (by rw [List.take_of_length_le (by simp [hcl]), e5])⟩
            unfold Instr.buildSlice
            simp only [Sem.run_bind, run_underlying hu, Result.andThen_ok, run_size hs]
            rw [if_neg (show ¬ (len * (sz + 1) > 2 ^ 24) by omega)]
            by_cases q : len * (sz + 1) = 0
            · have hl0 : len = 0 := by
                rcases Nat.mul_eq_zero.mp q with q | q
                · exact q
                · omega
              subst hl0
              simp only [Nat.zero_mul] at e1 ⊢
              simp only [if_true, Sem.run_pure, Result.andThen_ok]
              have e1' : Instr.fill (fun i => some (i * (sz + 1), sz + 1)) ((Array.range 0).map ((#[] : Array Value)[· % (#[] : Array Value).size]!)) (parts.map fun (i, x) => (i, ev x)).toList = some es := by
                rw [← e1]; congr 1; simp
              simp only [e1', Sem.run_bind, run_newRow, Result.andThen_ok, Sem.run_pure]
            · simp only [if_neg q, Sem.run_bind, h1, Result.andThen_ok, Sem.run_pure, e1, run_newRow]
          · simp at h
        · simp at h
      · simp at h
    · simp at h
  case makeSlice t l c =>
    have hl := hρ l
    have hc := hρ c
    split at h
    · rename_i el kl len kc cap hu q1 q2
      rw [q1] at hl
      rw [q2] at hc
      replace hl : ev l = .int kl len := hl
      replace hc : ev c = .int kc cap := hc
      split at h
      · rename_i i z hi hz
        split at h
        · rename_i g
          obtain ⟨g1, g2, g3, g4, g5, g6⟩ := g
          simp only [Option.some.injEq, Prod.mk.injEq] at h
          obtain ⟨rfl, rfl⟩ := h
          unfold zeroRow at hz
          split at hz
          · rename_i zz hzz
            split at hz
            · rename_i gz
              cases q : pvsOf zz with
              | none => rw [q] at hz; simp at hz
              | some r =>
                rw [q] at hz; simp only [Option.map_some, Option.some.injEq] at hz; subst hz
                obtain ⟨zv, h1, h2, h3, i', hi', hz'⟩ := run_zero hzz M
                rw [hi] at hi'; cases hi'
                have hpv := pvsOf_ok hok h2 (pvsOf_one (by rw [← h3]; exact q)) q
                have hzs : zv.cells.size = i.size := by rw [← Array.length_toList, ← all2_len hpv]; exact g1
                -- leaves of a zero value lead to no memory
                have htag : ∀ {xs : List AV} {vs : List Value} {r : List PV × Nat}, xs = vs.map ofV → pvsOf xs = some r → r.2 = 1 := by
                  intro xs
                  induction xs with
                  | nil => intro vs r _ h; simp only [pvsOf, Option.some.injEq] at h; subst h; rfl
                  | cons x xs ih =>
                    intro vs r hx h
                    cases vs with
                    | nil => simp at hx
                    | cons v vs =>
                      simp only [List.map_cons, List.cons.injEq] at hx
                      simp only [pvsOf] at h
                      split at h
                      · rename_i p ps t p1 p2
                        simp only [Option.some.injEq] at h; subst h
                        have ht : t = 1 := ih hx.2 p2
                        have hx1 : tagOf x = 1 := by
                          rw [hx.1]; unfold ofV; split <;> rfl
                        simp only [ht, hx1]; rfl
                      · simp at h
                have ht1 := htag h3 q
                rw [ht1] at hpv
                have hrep : ∀ k, all2 (repO M 1) (List.replicate k r.1).flatten (List.replicate k zv.cells.toList).flatten := by
                  intro k
                  induction k with
                  | zero => trivial
                  | succ k ih => rw [List.replicate_succ, List.replicate_succ, List.flatten_cons, List.flatten_cons]; exact all2_append hpv ih
                have hcap : cap.toNat ≤ maxLen := by simp only [maxLen]; omega
                refine fin ⟨_, _, ?_, to_arr hok hn (cur := madeCells zv.cells (cap.toNat * i.size)) (cap := cap.toNat) (len := len.toNat) (tg := 1) (cs := (List.replicate len.toNat zv.cells.toList).flatten) g2 ?_ (by simp) (hrep _) (by omega) hcap ?_ ?_⟩
                · rw [hl, hc]
                  exact run_make M.w t el i zv hu hi hz' kl kc len cap g3 g4 g5 g6
                · intro x hx; rw [List.eq_of_mem_replicate hx]; exact g1
                · simp [madeCells]
                · have := modCells (z := zv.cells) (n := cap.toNat) (by omega)
                  rw [hzs] at this
                  rw [this]
                  have hsplit : (List.replicate cap.toNat zv.cells.toList).flatten = (List.replicate len.toNat zv.cells.toList).flatten ++ (List.replicate (cap.toNat - len.toNat) zv.cells.toList).flatten := by
                    rw [← List.flatten_append, List.replicate_append_replicate]
                    congr 2; omega
                  have hlen : (List.replicate len.toNat zv.cells.toList).flatten.length = len.toNat * i.size := by
                    simp [List.length_flatten, hzs]
                  rw [hsplit, List.take_append_of_le_length (by omega), List.take_of_length_le (by omega)]
            · simp at hz
          · simp at hz
        · simp at h
      · simp at h
    · simp at h
end Go.Big
