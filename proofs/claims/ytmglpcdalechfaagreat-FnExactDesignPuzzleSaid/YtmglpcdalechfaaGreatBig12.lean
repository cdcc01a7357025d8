/- Stores and appends. No condition. -/
import Derived.Test.YtmglpcdalechfaaGreatBig11
set_option linter.unusedVariables false
set_option linter.unusedSimpArgs false
namespace Go.Big
variable {P : Program}

theorem append_room (w : World) (t ty e : TypeId) (i : TypeInfo) (ht : P.underlying t = some (.slice e)) (hi : P.info? e = some i)
    (g f sLen sCap : Nat) (cur : Array Value) (hg : w.heap[g]? = some (.cells cur e (0, 0)))
    (a : Addr) (m c : Nat) (news : List Value) (hl : news.length = m * i.size) (hnews : ∀ j u, news[j]? = some u → w.cell? (a.add j) = some u) (h1 : ∀ u ∈ news, u.oneCell' = true)
    (hroom : sLen + m ≤ sCap) (hfit : f + sLen * i.size + news.length ≤ cur.size) :
    (Builtin.append_ #[t, t] ty #[.slice (some ⟨g, f, none⟩) sLen sCap, .slice (some a) m c]).run P w =
      .ok (.slice (some ⟨g, f, none⟩) (sLen + m) sCap) (w.setRow g (cur.toList.take (f + sLen * i.size) ++ news ++ cur.toList.drop (f + sLen * i.size + news.length)).toArray) := by
  have hf := run_firstCells_some (P := P) w i.size m a m c news hl hnews
  have hst := run_storeCells_at P g (f + sLen * i.size) e news 0 cur w hg (by simpa using hfit) h1
  simp only [Nat.add_zero] at hst
  simp [Builtin.append_, run_underlying ht, sizeOf, typeInfo, hi, Builtin.lenOf, hroom, hf, add_spot, hst]
theorem append_at (w : World) (base : Nat) (t ty e : TypeId) (i : TypeInfo) (z : Value) (ht : P.underlying t = some (.slice e)) (hi : P.info? e = some i) (hz : i.zero = some z)
    (hzs : z.cells.size = i.size) (hsz : 0 < i.size) (hb0 : 0 < i.bytes) (v : Value) (n : Nat) (xs : List Value) (hx : xs.length = n * i.size)
    (hown : (∃ b, v = .slice b 0 0 ∧ n = 0) ∨ ∃ g f cap cur, v = .slice (some ⟨g, f, none⟩) n cap ∧ base ≤ g ∧ w.heap[g]? = some (.cells cur e (0, 0)) ∧ n ≤ cap ∧ cap ≤ maxLen ∧ cur.size = f + cap * i.size ∧ (cur.toList.drop f).take (n * i.size) = xs)
    (a : Addr) (m c : Nat) (news : List Value) (hm0 : 0 < m) (hl : news.length = m * i.size) (hnews : ∀ j u, news[j]? = some u → w.cell? (a.add j) = some u) (h1 : ∀ u ∈ news, u.oneCell' = true)
    (hbytes : (n + m) * i.bytes ≤ 140737488355328) (hbase : base ≤ w.heap.size) :
    ∃ v' w', (Builtin.append_ #[t, t] ty #[v, .slice (some a) m c]).run P w = .ok v' w' ∧ ownsAt w' base e i.size v' (n + m) (xs ++ news) ∧ w.grownBy w' v.ownBlock ∧ (∀ k, blk? v' = some k → w.heap.size ≤ k ∨ v.ownBlock = some k) ∧ w.drawn ≤ w'.drawn := by
  have hn : n + m ≤ 140737488355328 := by
    have : n + m ≤ (n + m) * i.bytes := Nat.le_mul_of_pos_right _ hb0
    omega
  have h63 : n + m ≤ maxLen := by simp only [maxLen]; omega
  have hlen : (xs ++ news).length = (n + m) * i.size := by rw [List.length_append, hx, hl, Nat.add_mul]
  have grown : ∀ (old : Nat) (row : Option Nat),
      ownsAt (w.drew.alloc (.cells (xs.toArray ++ news.toArray ++ Builtin.zeroCells z.cells (grownCap w (n + m) old e - (n + m))) e)) base e i.size
        (.slice (some ⟨w.heap.size, 0, none⟩) (n + m) (grownCap w (n + m) old e)) (n + m) (xs ++ news) ∧
      w.grownBy (w.drew.alloc (.cells (xs.toArray ++ news.toArray ++ Builtin.zeroCells z.cells (grownCap w (n + m) old e - (n + m))) e)) row := by
    intro old row
    have hge := grownCap_ge w (n + m) old e
    have hcm : grownCap w (n + m) old e ≤ maxLen := grownCap_le_maxLen w (n + m) old e h63
    refine ⟨⟨hlen, .inr ⟨w.heap.size, 0, _, _, rfl, hbase, heap_alloc_new w.drew _, hge, hcm, ?_, ?_⟩⟩, ⟨rfl, rfl, rfl, by simp, fun k hk _ => heap_alloc_old w.drew _ hk⟩⟩
    · simp only [Array.size_append, List.size_toArray, size_zeroCells, hzs, hx, hl, ← Nat.add_mul, Nat.zero_add]
      congr 1
      omega
    · simp only [Array.toList_append, List.append_assoc, List.drop_zero]
      rw [← List.append_assoc, ← hlen]
      exact List.take_left
  rcases hown with ⟨b, rfl, rfl⟩ | ⟨g, f, cap, cur, rfl, hbg, hg, hnc, hcm, hcs, htake⟩
  · have hx0 : xs = [] := List.eq_nil_of_length_eq_zero (by simpa using hx)
    subst hx0
    cases b with
    | none =>
      have hr := run_append_nil (P := P) w t ty e i z ht hi hz a m c news hl hnews (by omega) (by omega) (by have hb := hbytes; simp only [Nat.zero_add] at hb; omega)
      have hgr := grown 0 (Value.ownBlock (.slice none 0 0))
      simp only [Nat.zero_add, List.nil_append, Array.empty_append] at hgr ⊢
      exact ⟨_, _, hr, hgr.1, hgr.2, fun k hk => by simp only [blk?, Option.some.injEq] at hk; exact .inl (by omega), Nat.le_succ _⟩
    | some b =>
      have hr := run_append_grow (P := P) w t ty e i z ht hi hz b 0 0 [] (by simp) (fun j u hj => by simp at hj) a m c news hl hnews (by omega) (by omega) (growslice_fits (by omega) hbytes)
      have hgr := grown 0 (Value.ownBlock (.slice (some b) 0 0))
      exact ⟨_, _, hr, hgr.1, hgr.2, fun k hk => by simp only [blk?, Option.some.injEq] at hk; exact .inl (by omega), Nat.le_succ _⟩
  · by_cases hroom : n + m ≤ cap
    · have hfit : f + n * i.size + news.length ≤ cur.size := by
        have : (n + m) * i.size ≤ cap * i.size := Nat.mul_le_mul_right _ hroom
        rw [Nat.add_mul] at this
        rw [hl, hcs]; omega
      have hr := append_room (P := P) w t ty e i ht hi g f n cap cur hg a m c news hl hnews h1 hroom hfit
      refine ⟨_, _, hr, ⟨hlen, .inr ⟨g, f, cap, _, rfl, hbg, setRow_heap w g cur _ e _ hg, hroom, hcm, ?_, ?_⟩⟩, ⟨rfl, rfl, rfl, by simp, fun k _ hk => setRow_other w g k _ (fun e => hk (by simp [Value.ownBlock, e]))⟩, fun k hk => .inr hk, Nat.le_refl _⟩
      · simp only [List.size_toArray, List.length_append, List.length_take, List.length_drop, Array.length_toList]
        omega
      · have hcl : cur.toList.length = cur.size := Array.length_toList
        simp only []
        have hd : ((cur.toList.take (f + n * i.size) ++ news ++ cur.toList.drop (f + n * i.size + news.length))).drop f = xs ++ news ++ cur.toList.drop (f + n * i.size + news.length) := by
          rw [List.append_assoc, List.drop_append_of_le_length (by rw [List.length_take]; omega), List.drop_take, show f + n * i.size - f = n * i.size by omega, htake, List.append_assoc]
        rw [hd, ← hlen]
        exact List.take_left
    · have holds : ∀ j u, xs[j]? = some u → w.cell? ((⟨g, f, none⟩ : Addr).add j) = some u := fun j u hj => by
        rw [add_spot rfl]
        exact ownsAt.cells (⟨hx, .inr ⟨g, f, cap, cur, rfl, hbg, hg, hnc, hcm, hcs, htake⟩⟩ : ownsAt w base e i.size _ n xs) rfl j u hj
      have hr := run_append_grow (P := P) w t ty e i z ht hi hz ⟨g, f, none⟩ n cap xs hx holds a m c news hl hnews (by omega) (by omega) (growslice_fits (by omega) hbytes)
      have hgr := grown cap (Value.ownBlock (.slice (some ⟨g, f, none⟩) n cap))
      exact ⟨_, _, hr, hgr.1, hgr.2, fun k hk => by simp only [blk?, Option.some.injEq] at hk; exact .inl (by omega), Nat.le_succ _⟩
theorem append_none (w : World) (t ty e : TypeId) (i : TypeInfo) (ht : P.underlying t = some (.slice e)) (hi : P.info? e = some i) (a b : Option Addr) (n c c' : Nat) (hnc : n ≤ c) :
    (Builtin.append_ #[t, t] ty #[.slice b n c, .slice a 0 c']).run P w = .ok (.slice b n c) w := by
  have h : ¬ (n + 0 > c) := by omega
  cases a <;> cases b <;> simp [Builtin.append_, run_underlying ht, sizeOf, run_typeInfo w hi, Builtin.lenOf, Builtin.firstCells, loadCells, loadCellsFrom, hnc, storeCells]

theorem flat_len {sz : Nat} : ∀ {rows : List (List PV)}, (∀ r ∈ rows, r.length = sz) → rows.flatten.length = rows.length * sz
  | [], _ => by simp
  | r :: rs, h => by rw [List.flatten_cons, List.length_append, flat_len (fun x hx => h x (List.mem_cons_of_mem _ hx)), h r List.mem_cons_self, List.length_cons, Nat.add_mul]; omega
theorem repRows_list {w : World} {G : Nat → Prop} {sz b : Nat} : ∀ {rows : List (List PV)} {off : Nat}, repRows w G sz b off rows → ∃ vs, all2 (rep w G) rows.flatten vs ∧ ∀ j u, vs[j]? = some u → w.cell? ⟨b, off + j, none⟩ = some u
  | [], off, _ => ⟨[], trivial, fun j u h => by simp at h⟩
  | r :: rs, off, ⟨h1, h2, h3⟩ => by
    obtain ⟨vs, a1, a2⟩ := repCells_list h2
    obtain ⟨us, b1, b2⟩ := repRows_list h3
    refine ⟨vs ++ us, by rw [List.flatten_cons]; exact all2_append a1 b1, fun j u h => ?_⟩
    have hl := all2_len a1
    by_cases c : j < vs.length
    · rw [List.getElem?_append_left c] at h; exact a2 j u h
    · rw [List.getElem?_append_right (by omega)] at h
      have := b2 _ u h
      rw [show off + sz + (j - vs.length) = off + j by omega] at this; exact this
theorem flat_drop {sz : Nat} : ∀ (lo : Nat) (rows : List (List PV)), (∀ r ∈ rows, r.length = sz) → (rows.drop lo).flatten = rows.flatten.drop (lo * sz)
  | 0, rows, _ => by simp
  | lo + 1, [], _ => by simp
  | lo + 1, r :: rs, h => by
    have hr := h r List.mem_cons_self
    rw [List.drop_succ_cons, flat_drop lo rs (fun x hx => h x (List.mem_cons_of_mem _ hx)), List.flatten_cons, show (lo + 1) * sz = r.length + lo * sz by rw [hr, Nat.add_mul]; omega, List.drop_append,
      List.drop_eq_nil_of_le (show r.length ≤ r.length + lo * sz by omega), List.nil_append, Nat.add_sub_cancel_left]
theorem flat_take {sz : Nat} : ∀ (n : Nat) (rows : List (List PV)), (∀ r ∈ rows, r.length = sz) → (rows.take n).flatten = rows.flatten.take (n * sz)
  | 0, rows, _ => by simp
  | n + 1, [], _ => by simp
  | n + 1, r :: rs, h => by
    have hr := h r List.mem_cons_self
    rw [List.take_succ_cons, List.flatten_cons, flat_take n rs (fun x hx => h x (List.mem_cons_of_mem _ hx)), List.flatten_cons, show (n + 1) * sz = r.length + n * sz by rw [hr, Nat.add_mul]; omega, List.take_append,
      List.take_of_length_le (show r.length ≤ r.length + n * sz by omega), Nat.add_sub_cancel_left]
/-- The cells behind a slice. -/
theorem rowsA_cells {M : Mem} {base : Nat} (hok : Ok M base) {x : AV} {v : Value} {tg sz : Nat} {rows : List (List PV)} (hv : vrep M x v) (h : rowsA M.H x = some (tg, rows)) (hf : fitA M.H sz rows x = true) :
    ∃ a c cs, v = .slice a rows.length c ∧ rows.length ≤ c ∧ all2 (repO M tg) rows.flatten cs ∧ (∀ r ∈ rows, r.length = sz) ∧ (rows ≠ [] → ∃ ad, a = some ad ∧ ∀ j u, cs[j]? = some u → M.w.cell? (ad.add j) = some u) := by
  have frz : ∀ {rows : List (List PV)}, rep M.w (M.fz tg) (.sl rows) v → decide (∀ r ∈ rows, r.length = sz) = true → ∃ a c cs, v = .slice a rows.length c ∧ rows.length ≤ c ∧ all2 (repO M tg) rows.flatten cs ∧ (∀ r ∈ rows, r.length = sz) ∧ (rows ≠ [] → ∃ ad, a = some ad ∧ ∀ j u, cs[j]? = some u → M.w.cell? (ad.add j) = some u) := by
    rintro rows ⟨a, c, e, hc, hq⟩ hd
    by_cases hne : rows = []
    · subst hne; exact ⟨a, c, [], e, hc, trivial, by simp, fun h => absurd rfl h⟩
    · obtain ⟨ad, sz', rfl, hs, hz, hg, hrows⟩ := hq hne
      obtain ⟨cs, h1, h2⟩ := repRows_list hrows
      exact ⟨_, c, cs, e, hc, all2_repO hok h1, of_decide_eq_true hd, fun _ => ⟨ad, rfl, fun j u hj => by rw [add_spot hs]; exact h2 j u hj⟩⟩
  cases x <;> simp only [rowsA] at h <;> try (simp at h; done)
  case sl => simp only [Option.some.injEq, Prod.mk.injEq] at h; obtain ⟨rfl, rfl⟩ := h; exact frz hv hf
  case nil =>
    simp only [Option.some.injEq, Prod.mk.injEq] at h; obtain ⟨rfl, rfl⟩ := h
    exact ⟨none, 0, [], hv, Nat.le_refl _, trivial, by simp, fun h => absurd rfl h⟩
  case own o e =>
    obtain ⟨x, hx, g⟩ := hv
    rw [hx] at h
    cases x with
    | box => simp at h
    | mp => simp at h
    | arr e0 ty sz' rows' tg' =>
      simp only at h
      split at h
      · rename_i he
        simp only [Option.some.injEq, Prod.mk.injEq] at h; obtain ⟨rfl, rfl⟩ := h
        simp only [fitA, hx, beq_iff_eq] at hf; subst hf
        obtain ⟨h1, h2, cs, ho, ha⟩ := hok.ob o _ hx
        rw [g.2 he]
        rcases ho.2 with ⟨e1, e2⟩ | ⟨g1, f1, cap, cur, e1, _, _, hc, _⟩
        · exact ⟨none, 0, cs, by rw [e1, e2], by omega, ha, h2, fun hne => by rw [List.length_eq_zero_iff] at e2; exact absurd e2 hne⟩
        · exact ⟨_, cap, cs, e1, hc, ha, h2, fun _ => ⟨_, rfl, fun j u hj => by rw [add_spot rfl]; exact ho.cells e1 j u hj⟩⟩
      · simp at h
    | fro e0 rows' tg' =>
      simp only at h
      split at h
      · rename_i he
        simp only [Option.some.injEq, Prod.mk.injEq] at h; obtain ⟨rfl, rfl⟩ := h
        simp only [fitA, hx] at hf
        exact frz (g.2 he) hf
      · simp at h
  case vw o e lo n =>
    obtain ⟨x, hx, g⟩ := hv
    rw [hx] at h
    cases x with
    | box => simp at h
    | mp => simp at h
    | arr e0 ty sz' rows' tg' =>
      simp only at h
      split at h
      · rename_i he
        simp only [Option.some.injEq, Prod.mk.injEq] at h; obtain ⟨rfl, rfl⟩ := h
        simp only [fitA, hx, beq_iff_eq] at hf; subst hf
        obtain ⟨h1, h2, cs, ho, ha⟩ := hok.ob o _ hx
        obtain ⟨k1, a, c, e1, k2, _, k3⟩ := g.2 he
        have hlen : ((rows'.drop lo).take n).length = n := by rw [List.length_take, List.length_drop]; omega
        have hmem : ∀ r ∈ rows'.drop lo, r.length = sz' := fun r hr => h2 r (List.mem_of_mem_drop hr)
        refine ⟨a, c, (cs.drop (lo * sz')).take (n * sz'), by rw [hlen]; exact e1, by rw [hlen]; exact k2, ?_, fun r hr => hmem r (List.mem_of_mem_take hr), fun hne => ?_⟩
        · rw [flat_take n _ hmem, flat_drop lo _ h2]
          exact all2_take _ (all2_drop _ ha)
        · have hn : 0 < n := by
            cases n with
            | zero => simp at hne
            | succ n => omega
          obtain ⟨g1, f1, l1, c1, q1, rfl, _⟩ := k3 (by omega)
          refine ⟨_, rfl, fun j u hj => ?_⟩
          have hjn : j < n * sz' := by
            have := (List.getElem?_eq_some_iff.mp hj).1
            rw [List.length_take] at this; omega
          rw [List.getElem?_take_of_lt hjn, List.getElem?_drop] at hj
          have := ho.cells q1 _ u hj
          rw [add_spot rfl]
          simpa [Nat.add_assoc] using this
      · simp at h
    | fro e0 rows' tg' =>
      simp only at h
      split at h
      · rename_i he
        simp only [Option.some.injEq, Prod.mk.injEq] at h; obtain ⟨rfl, rfl⟩ := h
        simp only [fitA, hx] at hf
        exact frz (g.2 he) hf
      · simp at h
end Go.Big
