/- Stores and appends: one word for all operations that change memory. No condition. -/
import Derived.Test.YtmglpcdalechfaaGreatBig12
set_option linter.unusedVariables false
set_option linter.unusedSimpArgs false
namespace Go.Big
variable {P : Program}

theorem putA_eq : ∀ {vs cs : List AV} {off : Nat}, off + vs.length ≤ cs.length → putA cs off vs = cs.take off ++ vs ++ cs.drop (off + vs.length)
  | [], cs, off, _ => by simp [putA]
  | v :: vs, cs, off, h => by
    simp only [List.length_cons] at h
    rw [putA, putA_eq (by simp; omega), List.take_succ_eq_append_getElem (by simp; omega), List.take_set_of_le (Nat.le_refl _), List.getElem_set_self, List.drop_set_of_lt (by omega), List.length_cons, show off + 1 + vs.length = off + (vs.length + 1) by omega]
    simp
theorem all2_split {α β : Type} {R : α → β → Prop} {cs vs : List α} {ds us : List β} {off : Nat} (h : all2 R cs ds) (g : all2 R vs us) : all2 R (cs.take off ++ vs ++ cs.drop (off + vs.length)) (ds.take off ++ us ++ ds.drop (off + us.length)) := by
  have hl := all2_len g
  rw [hl]
  exact all2_append (all2_append (all2_take _ h) g) (all2_drop _ h)
theorem take_mid {α : Type} (L us : List α) (A N : Nat) (h : A + us.length ≤ N) (hN : N ≤ L.length) : (L.take A ++ us ++ L.drop (A + us.length)).take N = (L.take N).take A ++ us ++ (L.take N).drop (A + us.length) := by
  have h1 : (L.take A).length = A := by rw [List.length_take]; omega
  have h2 : (L.take A ++ us).length = A + us.length := by rw [List.length_append, h1]
  rw [List.take_append, List.take_of_length_le (by omega), h2, List.take_take, Nat.min_eq_left (by omega), List.drop_take]
theorem drop_mid {α : Type} (L us : List α) (f A : Nat) (h : f + A + us.length ≤ L.length) : (L.take (f + A) ++ us ++ L.drop (f + A + us.length)).drop f = (L.drop f).take A ++ us ++ (L.drop f).drop (A + us.length) := by
  rw [List.append_assoc, List.drop_append_of_le_length (by rw [List.length_take]; omega), List.drop_take, show f + A - f = A by omega, List.append_assoc, List.drop_drop, show f + (A + us.length) = f + A + us.length by omega]
/-- A store of cells where an address leads. -/
def storeA (H : Heap) (l : List AV) : AV → Option Heap
  | .ptr o e ix off => match H o with
    | some (.box t cells) => if off + l.length ≤ cells.length then some (H.upd o (.box t (putA cells off l))) else none
    | some (.arr e0 t sz rows tg) => if e = e0 then (match rows[ix]?, pvsOf l with
      | some r, some (ps, tg') => if off + l.length ≤ r.length then some (H.upd o (.arr e0 t sz (rows.set ix (r.take off ++ ps ++ r.drop (off + ps.length))) (joinT tg tg'))) else none
      | _, _ => none) else none
    | _ => none
  | _ => none
theorem storeA_ok {M : Mem} {base : Nat} (hok : Ok M base) {x : AV} {v : Value} {l : List AV} {us : List Value} {H' : Heap} (hv : vrep M x v) (hl : all2 (vrep M) l us) (h1 : ∀ u ∈ us, u.oneCell' = true) (h : storeA M.H l x = some H') :
    ∃ a w', v = .pointer (some a) ∧ (storeCells a us 0).run P M.w = .ok () w' ∧ To M base H' .un w' undef := by
  have hlen := all2_len hl
  cases x <;> simp only [storeA] at h <;> try (simp at h; done)
  rename_i o e ix off
  obtain ⟨x, hx, g⟩ := hv
  rw [hx] at h
  cases x with
  | fro => simp at h
  | mp => simp at h
  | box t cells =>
    simp only at h
    split at h
    · rename_i c
      simp only [Option.some.injEq] at h; subst h
      obtain ⟨g1, e2, rfl⟩ := g
      obtain ⟨g0, cs, e3, q1, q2, q3⟩ := hok.ob o _ hx
      obtain rfl : g1 = g0 := by rw [e2] at e3; cases e3; rfl
      have hcl := all2_len q3
      have hrun := run_storeCells_at P g1 off t us 0 cs M.w q2 (by rw [← Array.length_toList, ← hcl]; omega) h1
      refine ⟨_, _, rfl, hrun, ?_⟩
      simp only [Nat.add_zero] at hrun ⊢
      let M' : Mem := { w := M.w.setRow g1 (cs.toList.take off ++ us ++ cs.toList.drop (off + us.length)).toArray, fz := M.fz, hv := M.hv, H := M.H.upd o (.box t (putA cells off l)) }
      have hother : ∀ k, k ≠ g1 → M'.w.heap[k]? = M.w.heap[k]? := fun k hk => setRow_other M.w g1 k _ hk
      obtain ⟨hs, hok'⟩ := touch (M' := M') (o := o) hok (.box t (putA cells off l)) rfl (fun _ _ => rfl) rfl (by simp [M']) (fun k _ hk => hother k (fun e => hk _ hx rfl (by rw [e2, e]; rfl)))
        (fun x hx' => by rw [hx] at hx'; cases hx'; exact rfl) (fun _ k hk => .inr ⟨_, hx, rfl, hk⟩)
        (fun hs => ⟨g1, _, e2, q1, setRow_heap M.w g1 cs _ t _ q2, by
          rw [putA_eq (by omega)]
          exact all2_mono (fun a b _ h => vrep_step hs a b h) (all2_split q3 hl)⟩)
      exact ⟨⟨M', rfl, rfl, rfl, hs, hok', trivial⟩, ⟨rfl, rfl, rfl, by simp, fun k hk => hother k (by omega), Nat.le_refl _⟩⟩
    · simp at h
  | arr e0 t sz rows tg =>
    simp only at h
    split at h
    · rename_i he; subst he
      split at h
      · rename_i r ps tg' hr hp
        split at h
        · rename_i c
          simp only [Option.some.injEq] at h; subst h
          obtain ⟨g1, f0, l1, k1, e2, rfl⟩ := g.2 rfl
          obtain ⟨p0, p1, cs, ho, ha⟩ := hok.ob o _ hx
          have hsz : r.length = sz := p1 r (List.mem_of_getElem? hr)
          have hi := (List.getElem?_eq_some_iff.mp hr).1
          have hpl := pvsOf_len hp
          simp only at hpl
          have hpv := pvsOf_ok hok hl h1 hp
          simp only at hpv
          rcases ho.2 with ⟨f1, f2⟩ | ⟨g2, f0', cap, cur, f1, f2, f3, f4, f5, f6, f7⟩
          · rw [f2] at hi; omega
          · obtain ⟨rfl, rfl⟩ : g1 = g2 ∧ f0 = f0' := by rw [e2] at f1; cases f1; exact ⟨rfl, rfl⟩
            have hcl := ho.1
            have hoff : ix * sz + off + us.length ≤ rows.length * sz := by
              have : (ix + 1) * sz ≤ rows.length * sz := Nat.mul_le_mul_right _ hi
              rw [Nat.add_mul] at this; omega
            have hcap : rows.length * sz ≤ cap * sz := Nat.mul_le_mul_right _ f4
            have hrun := run_storeCells_at P g1 (f0 + (ix * sz + off)) t us 0 cur M.w f3 (by rw [f6]; omega) h1
            refine ⟨_, _, rfl, hrun, ?_⟩
            simp only [Nat.add_zero] at hrun ⊢
            let cur' := (cur.toList.take (f0 + (ix * sz + off)) ++ us ++ cur.toList.drop (f0 + (ix * sz + off) + us.length)).toArray
            let rows' := rows.set ix (r.take off ++ ps ++ r.drop (off + ps.length))
            let M' : Mem := { w := M.w.setRow g1 cur', fz := M.fz, hv := M.hv, H := M.H.upd o (.arr e t sz rows' (joinT tg tg')) }
            have hother : ∀ k, k ≠ g1 → M'.w.heap[k]? = M.w.heap[k]? := fun k hk => setRow_other M.w g1 k _ hk
            have hrl : (r.take off ++ ps ++ r.drop (off + ps.length)).length = sz := by
              simp only [List.length_append, List.length_take, List.length_drop]; omega
            have hmem : ∀ y ∈ rows', y.length = sz := fun y hy => by
              rcases List.mem_or_eq_of_mem_set hy with hy | rfl
              · exact p1 y hy
              · exact hrl
            have hrows' : rows'.flatten = rows.flatten.take (ix * sz + off) ++ ps ++ rows.flatten.drop (ix * sz + off + ps.length) := by
              have hs1 : rows' = rows.take ix ++ ([r.take off ++ ps ++ r.drop (off + ps.length)] ++ rows.drop (ix + 1)) := by
                show rows.set ix _ = _
                rw [List.set_eq_take_append_cons_drop, if_pos hi]; rfl
              have hs2 : rows = rows.take ix ++ ([r] ++ rows.drop (ix + 1)) := by
                have : rows.drop ix = r :: rows.drop (ix + 1) := by
                  rw [List.drop_eq_getElem_cons hi]
                  congr 1
                  rw [List.getElem?_eq_getElem hi] at hr; exact Option.some.inj hr
                rw [List.singleton_append, ← this, List.take_append_drop]
              have hl1 : (rows.take ix).flatten.length = ix * sz := by
                rw [flat_len (fun y hy => p1 y (List.mem_of_mem_take hy)), List.length_take, Nat.min_eq_left (by omega)]
              rw [hs1]
              conv => rhs; rw [hs2]
              simp only [List.flatten_append, List.flatten_cons, List.flatten_nil, List.append_nil]
              generalize (rows.take ix).flatten = A at *
              generalize (rows.drop (ix + 1)).flatten = B at *
              rw [List.take_append, List.take_append, List.drop_append, List.drop_append]
              rw [List.take_of_length_le (show A.length ≤ ix * sz + off by omega), List.drop_eq_nil_of_le (show A.length ≤ ix * sz + off + ps.length by omega)]
              rw [hl1, show ix * sz + off - ix * sz = off by omega, show ix * sz + off + ps.length - ix * sz = off + ps.length by omega]
              rw [show off - r.length = 0 by omega, show off + ps.length - r.length = 0 by omega]
              simp
            have hap := all2_split (off := ix * sz + off) (all2_mono (fun a b _ q => (rep_join hok tg tg').1 q) ha) (all2_mono (fun a b _ q => (rep_join hok tg tg').2 q) hpv)
            rw [← hrows'] at hap
            have hfin : (cur'.toList.drop f0).take (rows'.length * sz) = cs.take (ix * sz + off) ++ us ++ cs.drop (ix * sz + off + us.length) := by
              simp only [cur', rows', List.length_set]
              rw [← f7]
              have hcu : f0 + rows.length * sz ≤ cur.toList.length := by have : cur.toList.length = cur.size := Array.length_toList; omega
              rw [drop_mid _ _ _ _ (by omega)]
              exact take_mid _ _ _ _ (by omega) (by rw [List.length_drop]; omega)
            obtain ⟨hs, hok'⟩ := touch (M' := M') (o := o) hok (.arr e t sz rows' (joinT tg tg')) rfl (fun _ _ => rfl) rfl (by simp [M']) (fun k _ hk => hother k (fun e' => hk _ hx rfl (by rw [e2, e']; rfl)))
              (fun x hx' => by rw [hx] at hx'; cases hx'; exact .inr ⟨rfl, rfl, rfl, by simp [rows']⟩) (fun _ k hk => .inr ⟨_, hx, rfl, hk⟩)
              (fun hs => ⟨p0, hmem, _, ⟨by rw [← all2_len hap, flat_len hmem], .inr ⟨g1, f0, cap, cur', by show M.hv o = _; rw [f1]; simp [rows'], f2, setRow_heap M.w g1 cur _ t _ f3, by simpa [rows'] using f4, f5, by
                  simp only [cur', List.size_toArray, List.length_append, List.length_take, List.length_drop, Array.length_toList, f6]; omega, hfin⟩⟩, all2_mono (fun a b _ h => repO_step hs h) hap⟩)
            exact ⟨⟨M', rfl, rfl, rfl, hs, hok', trivial⟩, ⟨rfl, rfl, rfl, by simp, fun k hk => hother k (by omega), Nat.le_refl _⟩⟩
        · simp at h
      · simp at h
    · simp at h
theorem rowsA_cells' {M : Mem} {base : Nat} (hok : Ok M base) {x : AV} {v : Value} {tg sz : Nat} {rows : List (List PV)} (hv : vrep M x v) (h : rowsA M.H x = some (tg, rows)) (hf : fitA M.H sz rows x = true ∨ rows = []) :
    ∃ a c cs, v = .slice a rows.length c ∧ rows.length ≤ c ∧ all2 (repO M tg) rows.flatten cs ∧ (∀ r ∈ rows, r.length = sz) ∧ (rows ≠ [] → ∃ ad, a = some ad ∧ ∀ j u, cs[j]? = some u → M.w.cell? (ad.add j) = some u) := by
  rcases hf with hf | rfl
  · exact rowsA_cells hok hv h hf
  · obtain ⟨a, c, e, hc⟩ := rowsA_len hok hv h
    exact ⟨a, c, [], e, hc, trivial, by simp, fun h => absurd rfl h⟩
/-- An append of all elements of a slice. -/
def appendA (P : Program) (H : Heap) (n : Nat) (t : TypeId) (dst src : AV) : Option (AV × Heap) :=
  match P.underlying t with
  | some (.slice el) => match P.info? el, zeroA P el, rowsA H src with
    | some i, some z, some (ts, srows) => if z.length = i.size ∧ 0 < i.size ∧ 0 < i.bytes ∧ (fitA H i.size srows src = true ∨ srows = []) then (match dst with
      | .own o e => match H o with
        | some (.arr e0 ty sz rows tg) => if e = e0 ∧ ty = el ∧ sz = i.size ∧ (rows.length + srows.length) * i.bytes ≤ 140737488355328 then some (.own o (e + 1), H.upd o (.arr (e + 1) el sz (rows ++ srows) (joinT tg ts))) else none
        | _ => none
      | .vw o e lo n => match H o with
        | some (.arr e0 ty sz rows tg) => if e = e0 ∧ ty = el ∧ sz = i.size ∧ lo + n = rows.length ∧ 0 < srows.length ∧ (n + srows.length) * i.bytes ≤ 140737488355328 then some (.own o (e + 1), H.upd o (.arr (e + 1) el sz (rows.drop lo ++ srows) (joinT tg ts))) else none
        | _ => none
      | .nil => if (0 + srows.length) * i.bytes ≤ 140737488355328 then some (.own n 0, H.upd n (.arr 0 el i.size srows ts)) else none
      | _ => none) else none
    | _, _, _ => none
  | _ => none
theorem blk_own {v : Value} (h : ∀ a, v ≠ .pointer a) (h' : ∀ a, v ≠ .map a) : blk? v = v.ownBlock := by
  cases v <;> try rfl
  · rename_i a; exact absurd rfl (h a)
  · rename_i a l c; cases a <;> rfl
  · rename_i a; exact absurd rfl (h' a)
theorem appendA_ok {M : Mem} {base n : Nat} (hok : Ok M base) (hn : M.H n = none) {t ty : TypeId} {x s y : AV} {v u : Value} {H' : Heap} (hx : vrep M x v) (hs : vrep M s u) (h : appendA P M.H n t x s = some (y, H')) :
    ∃ v' w', (Builtin.append_ #[t, t] ty #[v, u]).run P M.w = .ok v' w' ∧ To M base H' y w' v' := by
  unfold appendA at h
  split at h
  · rename_i el hu
    split at h
    · rename_i i z ts srows hi hz hr
      split at h
      · rename_i c
        obtain ⟨c1, c2, c3, c4⟩ := c
        obtain ⟨a, cp, cs, rfl, hcp, hcs, hmem, had⟩ := rowsA_cells' hok hs hr c4
        obtain ⟨zv, z1, z2, z3, i', hi', hz'⟩ := run_zero hz M
        rw [hi] at hi'; cases hi'
        have hzs : zv.cells.size = i.size := by rw [← Array.length_toList, ← all2_len z2]; exact c1
        have hone := @all2_one M ts
        have core : ∀ (v : Value) (m : Nat) (xs : List Value), xs.length = m * i.size → ((∃ b, v = .slice b 0 0 ∧ m = 0) ∨ ∃ g f cap cur, v = .slice (some ⟨g, f, none⟩) m cap ∧ base ≤ g ∧ M.w.heap[g]? = some (.cells cur el (0, 0)) ∧ m ≤ cap ∧ cap ≤ maxLen ∧ cur.size = f + cap * i.size ∧ (cur.toList.drop f).take (m * i.size) = xs) → 0 < srows.length → (m + srows.length) * i.bytes ≤ 140737488355328 →
            ∃ v' w', (Builtin.append_ #[t, t] ty #[v, .slice a srows.length cp]).run P M.w = .ok v' w' ∧ ownsAt w' base el i.size v' (m + srows.length) (xs ++ cs) ∧ M.w.grownBy w' v.ownBlock ∧ (∀ k, blk? v' = some k → M.w.heap.size ≤ k ∨ v.ownBlock = some k) ∧ M.w.drawn ≤ w'.drawn := by
          intro v m xs hx0 hown hpos hb
          have hl : cs.length = srows.length * i.size := by rw [← all2_len hcs, flat_len hmem]
          have hne : srows ≠ [] := fun e => by rw [e] at hpos; simp at hpos
          obtain ⟨ad, rfl, h2⟩ := had hne
          exact append_at M.w base t ty el i zv hu hi hz' hzs c2 c3 v m xs hx0 hown ad srows.length cp cs hpos hl h2 (hone hcs) hb hok.low
        have core0 : ∀ (v : Value) (m : Nat) (xs : List Value), ownsAt M.w base el i.size v m xs → srows.length = 0 → 
            ∃ v' w', (Builtin.append_ #[t, t] ty #[v, .slice a srows.length cp]).run P M.w = .ok v' w' ∧ ownsAt w' base el i.size v' (m + srows.length) (xs ++ cs) ∧ M.w.grownBy w' v.ownBlock ∧ (∀ k, blk? v' = some k → M.w.heap.size ≤ k ∨ v.ownBlock = some k) ∧ M.w.drawn ≤ w'.drawn := by
          intro v m xs hown h0
          have hl : cs.length = srows.length * i.size := by rw [← all2_len hcs, flat_len hmem]
          rw [h0, Nat.zero_mul] at hl
          obtain rfl := List.eq_nil_of_length_eq_zero hl
          rw [h0]
          refine ⟨v, M.w, ?_, by simpa using hown, ⟨rfl, rfl, rfl, Nat.le_refl _, fun _ _ _ => rfl⟩, fun k hk => ?_, Nat.le_refl _⟩
          · rcases hown.2 with ⟨rfl, rfl⟩ | ⟨g, f, cap, cur, rfl, _, _, hnc, _⟩
            · exact append_none M.w t ty el i hu hi _ none 0 0 cp (Nat.le_refl _)
            · exact append_none M.w t ty el i hu hi _ _ m cap cp hnc
          · rcases hown.2 with ⟨rfl, rfl⟩ | ⟨g, f, cap, cur, rfl, _⟩
            · simp [blk?] at hk
            · exact .inr hk
        have core1 : ∀ (v : Value) (m : Nat) (xs : List Value), ownsAt M.w base el i.size v m xs → (m + srows.length) * i.bytes ≤ 140737488355328 → 
            ∃ v' w', (Builtin.append_ #[t, t] ty #[v, .slice a srows.length cp]).run P M.w = .ok v' w' ∧ ownsAt w' base el i.size v' (m + srows.length) (xs ++ cs) ∧ M.w.grownBy w' v.ownBlock ∧ (∀ k, blk? v' = some k → M.w.heap.size ≤ k ∨ v.ownBlock = some k) ∧ M.w.drawn ≤ w'.drawn := by
          intro v m xs hown hb
          by_cases q : srows.length = 0
          · exact core0 v m xs hown q
          · refine core v m xs hown.1 (hown.2.imp ?_ id) (by omega) hb
            rintro ⟨rfl, rfl⟩; exact ⟨none, rfl, rfl⟩
        cases x <;> simp only at h <;> try (simp at h; done)
        case own o e =>
          obtain ⟨x, hxo, g⟩ := hx
          rw [hxo] at h
          cases x with
          | fro => simp at h
          | box => simp at h
          | mp => simp at h
          | arr e0 ty0 sz rows tg =>
            simp only at h
            split at h
            · rename_i d
              obtain ⟨rfl, rfl, rfl, d4⟩ := d
              simp only [Option.some.injEq, Prod.mk.injEq] at h
              obtain ⟨rfl, rfl⟩ := h
              obtain ⟨p0, p1, xs, ho, ha⟩ := hok.ob o _ hxo
              obtain rfl : v = M.hv o := g.2 rfl
              obtain ⟨v', w', r1, r2, r3, r4, r5⟩ := core1 _ _ _ ho d4
              refine ⟨v', w', r1, ?_⟩
              have hbo : blk? (M.hv o) = (M.hv o).ownBlock := blk_own (fun a e' => by
                rcases ho.2 with ⟨q, _⟩ | ⟨_, _, _, _, q, _⟩ <;> rw [e'] at q <;> cases q) (fun a e' => by
                rcases ho.2 with ⟨q, _⟩ | ⟨_, _, _, _, q, _⟩ <;> rw [e'] at q <;> cases q)
              let M' : Mem := { w := w', fz := M.fz, hv := setF M.hv o v', H := M.H.upd o (.arr (e + 1) ty0 i.size (rows ++ srows) (joinT tg ts)) }
              have hh : M'.hv o = v' := setF_same _ _ _
              obtain ⟨hst, hok'⟩ := touch (M' := M') (o := o) hok (.arr (e + 1) ty0 i.size (rows ++ srows) (joinT tg ts)) rfl (fun k hk => setF_ne _ _ hk) rfl r3.size
                (fun k hk hk2 => r3.block k hk (fun e' => hk2 _ hxo rfl (by rw [hbo, ← e'])))
                (fun x hx' => by rw [hxo] at hx'; cases hx'; exact .inl (by omega))
                (fun _ k hk => by rw [hh] at hk; exact (r4 k hk).imp id (fun q => ⟨_, hxo, rfl, by rw [hbo]; exact q⟩))
                (fun hst => ⟨c2, fun r hr => by
                    rcases List.mem_append.mp hr with hr | hr
                    · exact p1 r hr
                    · exact hmem r hr, xs ++ cs, by rw [hh, List.length_append]; exact r2, by
                    rw [List.flatten_append]
                    exact all2_append (all2_mono (fun a b _ q => repO_step hst ((rep_join hok tg ts).1 q)) ha) (all2_mono (fun a b _ q => repO_step hst ((rep_join hok tg ts).2 q)) hcs)⟩)
              exact ⟨⟨M', rfl, rfl, rfl, hst, hok', ⟨_, Heap.upd_same _ _ _, Nat.le_refl _, fun _ => hh.symm⟩⟩, ⟨r3.os, r3.tape, r3.output, r3.size, fun k hk => r3.block k (Nat.lt_of_lt_of_le hk hok.low) (fun e' => by
                have := (ownsAt.lt ho k (e'.symm)).1; omega), r5⟩⟩
            · simp at h
        case vw o e lo n' =>
          obtain ⟨x, hxo, g⟩ := hx
          rw [hxo] at h
          cases x with
          | fro => simp at h
          | box => simp at h
          | mp => simp at h
          | arr e0 ty0 sz rows tg =>
            simp only at h
            split at h
            · rename_i d
              obtain ⟨rfl, rfl, rfl, d1, d2, d4⟩ := d
              simp only [Option.some.injEq, Prod.mk.injEq] at h
              obtain ⟨rfl, rfl⟩ := h
              obtain ⟨p0, p1, xs, ho, ha⟩ := hok.ob o _ hxo
              obtain ⟨k1, av, c, rfl, k2, k4, k3⟩ := g.2 rfl
              have hdr : ∀ r ∈ rows.drop lo, r.length = i.size := fun r hr => p1 r (List.mem_of_mem_drop hr)
              have hdl : (rows.drop lo).length = n' := by rw [List.length_drop]; omega
              have hxl : (xs.drop (lo * i.size)).length = n' * i.size := by
                rw [List.length_drop, ho.1, ← Nat.sub_mul]; congr 1; omega
              have hvo : ((∃ b, (Value.slice av n' c) = .slice b 0 0 ∧ n' = 0) ∨ ∃ g f cap cur, (Value.slice av n' c) = .slice (some ⟨g, f, none⟩) n' cap ∧ base ≤ g ∧ M.w.heap[g]? = some (.cells cur ty0 (0, 0)) ∧ n' ≤ cap ∧ cap ≤ maxLen ∧ cur.size = f + cap * i.size ∧ (cur.toList.drop f).take (n' * i.size) = xs.drop (lo * i.size)) := by
                by_cases hc : c = 0
                · subst hc
                  obtain rfl : n' = 0 := by omega
                  exact .inl ⟨av, rfl, rfl⟩
                · obtain ⟨g1, f1, l1, kk, q1, rfl, q2⟩ := k3 (by omega)
                  rcases ho.2 with ⟨e1, _⟩ | ⟨g2, f2, cap, cur, e1, b1, b2, b3, b4, b5, b6⟩
                  · rw [q1] at e1; cases e1
                  · rw [q1] at e1
                    simp only [Value.slice.injEq, Option.some.injEq, Addr.mk.injEq, and_true] at e1
                    obtain ⟨⟨rfl, rfl⟩, rfl, rfl⟩ := e1
                    refine .inr ⟨g1, f1 + lo * i.size, c, cur, rfl, b1, b2, k2, by omega, ?_, ?_⟩
                    · rw [b5, ← q2, Nat.add_mul]; omega
                    · rw [← b6, List.drop_take, List.drop_drop, ← Nat.sub_mul]
                      congr 2; omega
              obtain ⟨v', w', r1, r2, r3, r4, r5⟩ := core _ _ _ hxl hvo d2 d4
              have hbs : ∀ k, (Value.slice av n' c).ownBlock = some k → blk? (M.hv o) = some k := fun k hk => by
                cases av with
                | none => simp [Value.ownBlock] at hk
                | some ad => rw [k4 ad rfl]; simpa [Value.ownBlock] using hk
              refine ⟨v', w', r1, ?_⟩
              let M' : Mem := { w := w', fz := M.fz, hv := setF M.hv o v', H := M.H.upd o (.arr (e + 1) ty0 i.size (rows.drop lo ++ srows) (joinT tg ts)) }
              have hh : M'.hv o = v' := setF_same _ _ _
              obtain ⟨hst, hok'⟩ := touch (M' := M') (o := o) hok (.arr (e + 1) ty0 i.size (rows.drop lo ++ srows) (joinT tg ts)) rfl (fun k hk => setF_ne _ _ hk) rfl r3.size
                (fun k hk hk2 => r3.block k hk (fun e' => hk2 _ hxo rfl (hbs _ e'.symm)))
                (fun x hx' => by rw [hxo] at hx'; cases hx'; exact .inl (by omega))
                (fun _ k hk => by rw [hh] at hk; exact (r4 k hk).imp id (fun q => ⟨_, hxo, rfl, hbs _ q⟩))
                (fun hst => ⟨c2, fun r hr => by
                    rcases List.mem_append.mp hr with hr | hr
                    · exact hdr r hr
                    · exact hmem r hr, xs.drop (lo * i.size) ++ cs, by rw [hh, List.length_append, hdl]; exact r2, by
                    rw [List.flatten_append]
                    rw [flat_drop lo _ p1]
                    exact all2_append (all2_drop _ (all2_mono (fun a b _ q => repO_step hst ((rep_join hok tg ts).1 q)) ha)) (all2_mono (fun a b _ q => repO_step hst ((rep_join hok tg ts).2 q)) hcs)⟩)
              exact ⟨⟨M', rfl, rfl, rfl, hst, hok', ⟨_, Heap.upd_same _ _ _, Nat.le_refl _, fun _ => hh.symm⟩⟩, ⟨r3.os, r3.tape, r3.output, r3.size, fun k hk => r3.block k (Nat.lt_of_lt_of_le hk hok.low) (fun e' => by
                have := ((hok.ob o _ hxo).blk rfl k (hbs k e'.symm)).1; omega), r5⟩⟩
            · simp at h
        case nil =>
          split at h
          · rename_i d
            simp only [Option.some.injEq, Prod.mk.injEq] at h
            obtain ⟨rfl, rfl⟩ := h
            obtain rfl : v = .slice none 0 0 := hx
            obtain ⟨v', w', r1, r2, r3, r4, r5⟩ := core1 _ _ _ (ownsAt_of (World.ownsRow_nil M.w base el i.size)) d
            refine ⟨v', w', r1, ?_⟩
            rw [Nat.zero_add, List.nil_append] at r2
            let M' : Mem := { w := w', fz := M.fz, hv := setF M.hv n v', H := M.H.upd n (.arr 0 el i.size srows ts) }
            have hh : M'.hv n = v' := setF_same _ _ _
            obtain ⟨hst, hok'⟩ := touch (M' := M') (o := n) hok (.arr 0 el i.size srows ts) rfl (fun k hk => setF_ne _ _ hk) rfl r3.size
              (fun k hk _ => r3.block k hk (by simp [Value.ownBlock]))
              (fun x hx' => by rw [hn] at hx'; simp at hx')
              (fun _ k hk => by rw [hh] at hk; exact (r4 k hk).imp id (fun q => by simp [Value.ownBlock] at q))
              (fun hst => ⟨c2, hmem, cs, by rw [hh]; exact r2, all2_mono (fun a b _ q => repO_step hst q) hcs⟩)
            exact ⟨⟨M', rfl, rfl, rfl, hst, hok', ⟨_, Heap.upd_same _ _ _, Nat.le_refl _, fun _ => hh.symm⟩⟩, ⟨r3.os, r3.tape, r3.output, r3.size, fun k hk => r3.block k (Nat.lt_of_lt_of_le hk hok.low) (by simp [Value.ownBlock]), r5⟩⟩
          · simp at h
      · simp at h
    · simp at h
  · simp at h
/-- The elements of a part of one's own array become zero. -/
def clearA (P : Program) (H : Heap) (t : TypeId) (x : AV) : Option (AV × Heap) :=
  match P.underlying t with
  | some (.slice el) => match zeroRow P el, x with
    | some z, .vw o e lo n => match H o with
      | some (.arr e0 ty sz rows tg) => if e = e0 ∧ z.length = sz ∧ lo + n = rows.length then some (.tup [], H.upd o (.arr e0 ty sz (rows.take lo ++ List.replicate n z) (joinT tg 1))) else none
      | _ => none
    | _, _ => none
  | _ => none
theorem zeroRow_ok {M : Mem} {base : Nat} (hok : Ok M base) {t : TypeId} {r : List PV} (hz : zeroRow P t = some r) : ∃ zv, (zeroValue t).run P M.w = .ok zv M.w ∧ zv.cells.size = r.length ∧ (∀ u ∈ zv.cells.toList, u.oneCell' = true) ∧
    ∀ k, all2 (repO M 1) (List.replicate k r).flatten (List.replicate k zv.cells.toList).flatten := by
  unfold zeroRow at hz
  split at hz
  · rename_i zz hzz
    split at hz
    · rename_i gz
      cases q : pvsOf zz with
      | none => rw [q] at hz; simp at hz
      | some r =>
        rw [q] at hz; simp only [Option.map_some, Option.some.injEq] at hz; subst hz
        obtain ⟨zv, h1, h2, h3, i', hi', hz'⟩ := run_zero hzz M
        have hpv := pvsOf_ok hok h2 (pvsOf_one (by rw [← h3]; exact q)) q
        have htag : ∀ {xs : List AV} {vs : List Value} {r : List PV × Nat}, xs = vs.map ofV → pvsOf xs = some r → r.2 = 1 := by
          intro xs
          induction xs with
          | nil => intro vs r _ h; simp only [pvsOf, Option.some.injEq] at h; subst h; rfl
          | cons x xs ih =>
            intro vs r hx h
            cases vs with
            | nil => simp at hx
            | cons v vs =>
              simp only [List.map_cons, List.cons.injEq] at hx
              simp only [pvsOf] at h
              split at h
              · rename_i p ps t p1 p2
                simp only [Option.some.injEq] at h; subst h
                have ht : t = 1 := ih hx.2 p2
                have hx1 : tagOf x = 1 := by
                  rw [hx.1]; unfold ofV; split <;> rfl
                simp only [ht, hx1]; rfl
              · simp at h
        have ht1 := htag h3 q
        rw [ht1] at hpv
        have hone := @all2_one M 1
        refine ⟨zv, h1, by rw [← Array.length_toList, ← all2_len hpv], hone hpv, fun k => ?_⟩
        induction k with
        | zero => trivial
        | succ k ih => rw [List.replicate_succ, List.replicate_succ, List.flatten_cons, List.flatten_cons]; exact all2_append hpv ih
    · simp at hz
  · simp at hz
theorem clearA_ok {M : Mem} {base : Nat} (hok : Ok M base) {t ty : TypeId} {x y : AV} {v : Value} {H' : Heap} (hx : vrep M x v) (h : clearA P M.H t x = some (y, H')) :
    ∃ w', (Builtin.clear_ #[t] ty #[v]).run P M.w = .ok (.tuple #[]) w' ∧ To M base H' y w' (.tuple #[]) := by
  unfold clearA at h
  split at h
  · rename_i el hu
    split at h
    · rename_i z o e lo n hz
      obtain ⟨xo, hxo, g⟩ := hx
      rw [hxo] at h
      cases xo with
      | fro => simp at h
      | box => simp at h
      | mp => simp at h
      | arr e0 t0 sz rows tg =>
        simp only at h
        split at h
        · rename_i c
          obtain ⟨rfl, c2, c3⟩ := c
          simp only [Option.some.injEq, Prod.mk.injEq] at h
          obtain ⟨rfl, rfl⟩ := h
          obtain ⟨k1, a, cp, rfl, k2, k4, k3⟩ := g.2 rfl
          obtain ⟨zv, z1, z2, z3, z4⟩ := zeroRow_ok (P := P) hok hz
          obtain ⟨p0, p1, cs, ho, ha⟩ := hok.ob o _ hxo
          by_cases hn : n = 0
          · subst hn
            refine ⟨M.w, ?_, ?_⟩
            · cases a <;> simp [Builtin.clear_, run_underlying hu]
            · let M' : Mem := { M with H := M.H.upd o (.arr e t0 sz (rows.take lo ++ List.replicate 0 z) (joinT tg 1)) }
              have hrw : rows.take lo ++ List.replicate 0 z = rows := by rw [List.replicate_zero, List.append_nil, List.take_of_length_le (by omega)]
              obtain ⟨hst, hok'⟩ := touch (M' := M') (o := o) hok (.arr e t0 sz (rows.take lo ++ List.replicate 0 z) (joinT tg 1)) rfl (fun _ _ => rfl) rfl (Nat.le_refl _) (fun _ _ _ => rfl)
                (fun x hx' => by rw [hxo] at hx'; cases hx'; exact .inr ⟨rfl, rfl, rfl, by rw [hrw]⟩) (fun _ k hk => .inr ⟨_, hxo, rfl, hk⟩)
                (fun hst => by
                  rw [hrw]
                  exact ⟨p0, p1, cs, ho, all2_mono (fun a b _ q => repO_step hst ((rep_join hok tg 1).1 q)) ha⟩)
              exact ⟨⟨M', rfl, rfl, rfl, hst, hok', ⟨#[], rfl, rfl⟩⟩, Below.refl _ _⟩
          · obtain ⟨g1, f1, l1, kk, q1, rfl, q2⟩ := k3 (by omega)
            rcases ho.2 with ⟨e1, _⟩ | ⟨g2, f2, cap, cur, e1, b1, b2, b3, b4, b5, b6⟩
            · rw [q1] at e1; cases e1
            · rw [q1] at e1
              simp only [Value.slice.injEq, Option.some.injEq, Addr.mk.injEq, and_true] at e1
              obtain ⟨⟨rfl, rfl⟩, rfl, rfl⟩ := e1
              have hzl : zv.cells.size = sz := by rw [z2]; exact c2
              have hzc : (Builtin.zeroCells zv.cells n).toList = (List.replicate n zv.cells.toList).flatten := by
                have := modCells (z := zv.cells) (n := n) (by omega)
                rw [← this]; rfl
              have hzn : (List.replicate n zv.cells.toList).flatten.length = n * sz := by simp [List.length_flatten, hzl]
              have hsum : rows.length * sz = lo * sz + n * sz := by rw [← c3, Nat.add_mul]
              have hcap : rows.length * sz ≤ kk * sz := Nat.mul_le_mul_right _ b3
              have h1 : ∀ u ∈ (List.replicate n zv.cells.toList).flatten, u.oneCell' = true := fun u hu => by
                obtain ⟨l, hl, hul⟩ := List.mem_flatten.mp hu
                rw [List.eq_of_mem_replicate hl] at hul
                exact z3 u hul
              have hrun := run_storeCells_at P g1 (f1 + lo * sz) t0 (List.replicate n zv.cells.toList).flatten 0 cur M.w b2 (by rw [hzn, b5]; omega) h1
              simp only [Nat.add_zero] at hrun
              refine ⟨M.w.setRow g1 (cur.toList.take (f1 + lo * sz) ++ (List.replicate n zv.cells.toList).flatten ++ cur.toList.drop (f1 + lo * sz + (List.replicate n zv.cells.toList).flatten.length)).toArray, ?_, ?_⟩
              · cases n with
                | zero => exact absurd rfl hn
                | succ n => simp only [Builtin.clear_, run_underlying hu, Sem.run_bind, Result.andThen_ok, z1, hzc, hrun, Sem.run_pure, List.getElem?_toArray, List.getElem?_cons_zero]
              · let cur' := (cur.toList.take (f1 + lo * sz) ++ (List.replicate n zv.cells.toList).flatten ++ cur.toList.drop (f1 + lo * sz + (List.replicate n zv.cells.toList).flatten.length)).toArray
                let rows' := rows.take lo ++ List.replicate n z
                let M' : Mem := { w := M.w.setRow g1 cur', fz := M.fz, hv := M.hv, H := M.H.upd o (.arr e t0 sz rows' (joinT tg 1)) }
                have hother : ∀ k, k ≠ g1 → M'.w.heap[k]? = M.w.heap[k]? := fun k hk => setRow_other M.w g1 k _ hk
                have hmem : ∀ y ∈ rows', y.length = sz := fun y hy => by
                  rcases List.mem_append.mp hy with hy | hy
                  · exact p1 y (List.mem_of_mem_take hy)
                  · rw [List.eq_of_mem_replicate hy]; exact c2
                have hrl : rows'.length = rows.length := by simp only [rows', List.length_append, List.length_take, List.length_replicate]; omega
                have hfin : (cur'.toList.drop f1).take (rows'.length * sz) = cs.take (lo * sz) ++ (List.replicate n zv.cells.toList).flatten := by
                  have hcu : f1 + kk * sz = cur.toList.length := by rw [Array.length_toList, b5]
                  simp only [cur']
                  rw [drop_mid _ _ _ _ (by omega), hrl, ← b6, List.take_take, Nat.min_eq_left (by omega)]
                  rw [List.take_append_of_le_length (by rw [List.length_append, List.length_take, List.length_drop, hzn]; omega), List.take_of_length_le (by rw [List.length_append, List.length_take, List.length_drop, hzn]; omega)]
                obtain ⟨hst, hok'⟩ := touch (M' := M') (o := o) hok (.arr e t0 sz rows' (joinT tg 1)) rfl (fun _ _ => rfl) rfl (by simp [M']) (fun k _ hk => hother k (fun e' => hk _ hxo rfl (by rw [q1, e']; rfl)))
                  (fun x hx' => by rw [hxo] at hx'; cases hx'; exact .inr ⟨rfl, rfl, rfl, hrl⟩) (fun _ k hk => .inr ⟨_, hxo, rfl, hk⟩)
                  (fun hst => ⟨p0, hmem, cs.take (lo * sz) ++ (List.replicate n zv.cells.toList).flatten, ⟨by rw [List.length_append, List.length_take, ho.1, hzn, hrl]; omega, .inr ⟨g1, f1, kk, cur', by show M.hv o = _; rw [q1, hrl], b1, setRow_heap M.w g1 cur _ t0 _ b2, by rw [hrl]; exact b3, b4, by
                      simp only [cur', List.size_toArray, List.length_append, List.length_take, List.length_drop, Array.length_toList, hzn]; omega, hfin⟩⟩, by
                    simp only [rows']
                    rw [List.flatten_append, flat_take lo _ p1]
                    exact all2_append (all2_take _ (all2_mono (fun a b _ q => repO_step hst ((rep_join hok tg 1).1 q)) ha)) (all2_mono (fun a b _ q => repO_step hst ((rep_join hok tg 1).2 q)) (z4 n))⟩)
                exact ⟨⟨M', rfl, rfl, rfl, hst, hok', ⟨#[], rfl, rfl⟩⟩, ⟨rfl, rfl, rfl, by simp, fun k hk => hother k (by omega), Nat.le_refl _⟩⟩
        · simp at h
    · simp at h
  · simp at h
end Go.Big
