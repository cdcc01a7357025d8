/- What is handed to a callee, and what it hands back. No condition. -/
import Derived.Test.YtmglpcdalechfaaGreatBig15
set_option linter.unusedVariables false
set_option linter.unusedSimpArgs false
namespace Go.Big
variable {P : Program}

theorem all2_map_l {α β γ : Type} {S : γ → β → Prop} {f : α → γ} : ∀ {xs : List α} {ys : List β}, all2 (fun a b => S (f a) b) xs ys → all2 S (xs.map f) ys
  | [], [], _ => trivial
  | _ :: _, _ :: _, h => ⟨h.1, all2_map_l h.2⟩
  | [], _ :: _, h => h.elim
  | _ :: _, [], h => h.elim
theorem derR_some {f : PV → Option PV} {rows rows' : List (List PV)} (h : derR f rows = some rows') : rows' = (rows.map fun r => r.map fun p => (f p).getD p) ∧ ∀ p ∈ rows.flatten, ∃ q, f p = some q := by
  unfold derR at h
  split at h
  · rename_i c
    simp only [Option.some.injEq] at h
    refine ⟨h.symm, fun p hp => ?_⟩
    obtain ⟨r, h1, h2⟩ := List.mem_flatten.mp hp
    exact Option.isSome_iff_exists.mp (List.all_eq_true.mp (List.all_eq_true.mp c r h1) p h2)
  · simp at h
theorem repCells_of {w : World} {G : Nat → Prop} {b : Nat} : ∀ {ps : List PV} {cs : List Value} {off : Nat}, all2 (rep w G) ps cs → (∀ j u, cs[j]? = some u → w.cell? ⟨b, off + j, none⟩ = some u) → repCells w G b off ps
  | [], _, _, _, _ => trivial
  | p :: ps, [], _, h, _ => h.elim
  | p :: ps, c :: cs, off, h, g => ⟨⟨c, by simpa using g 0 c rfl, h.1⟩, repCells_of h.2 (fun j u hj => by have := g (j + 1) u (by simpa using hj); rw [Nat.add_assoc, Nat.add_comm 1 j]; exact this)⟩
theorem repRows_of {w : World} {G : Nat → Prop} {b sz : Nat} : ∀ {rows : List (List PV)} {cs : List Value} {off : Nat}, (∀ r ∈ rows, r.length = sz) → all2 (rep w G) rows.flatten cs → (∀ j u, cs[j]? = some u → w.cell? ⟨b, off + j, none⟩ = some u) → repRows w G sz b off rows
  | [], _, _, _, _, _ => trivial
  | r :: rs, cs, off, h, g, hc => by
    have hr := h r List.mem_cons_self
    rw [List.flatten_cons] at g
    have g1 := all2_take sz g
    have g2 := all2_drop sz g
    rw [← hr, List.take_left] at g1
    rw [← hr, List.drop_left] at g2
    refine ⟨hr, repCells_of g1 (fun j u hj => ?_), repRows_of (fun x hx => h x (List.mem_cons_of_mem _ hx)) g2 (fun j u hj => ?_)⟩
    · have hlt := (List.getElem?_eq_some_iff.mp hj).1
      rw [List.length_take] at hlt
      rw [List.getElem?_take_of_lt (by omega)] at hj
      exact hc j u hj
    · rw [List.getElem?_drop] at hj
      have := hc _ u hj
      rw [show off + sz + j = off + (r.length + j) by omega]; exact this
/-- An array of the call's own reads as a frozen slice. -/
theorem arr_repF {M : Mem} {base o e0 sz t : Nat} {ty : TypeId} {rows : List (List PV)} (hok : Ok M base) (hx : M.H o = some (.arr e0 ty sz rows t)) {G : Nat → Prop} (f : PV → PV) (hG : ∀ k, blk? (M.hv o) = some k → G k) (hc : ∀ p ∈ rows.flatten, ∀ v, repO M t p v → rep M.w G (f p) v)
    {lo n c : Nat} {a : Option Addr} (hl : lo + n ≤ rows.length) (hn : n ≤ c) (ha : 0 < c → ∃ g f l k, M.hv o = .slice (some ⟨g, f, none⟩) l k ∧ a = some ⟨g, f + lo * sz, none⟩ ∧ lo + c = k) : rep M.w G (.sl (((rows.map fun r => r.map f).drop lo).take n)) (.slice a n c) := by
  obtain ⟨p0, p1, cs, ho, hcs⟩ := hok.ob o _ hx
  have hcs' : all2 (rep M.w G) (rows.map fun r => r.map f).flatten cs := by
    rw [show (rows.map fun r => r.map f).flatten = rows.flatten.map f by rw [List.map_flatten]]
    exact all2_map_l (all2_mono (fun a b hm h => hc a hm b h) hcs)
  have p1' : ∀ r ∈ rows.map (fun r => r.map f), r.length = sz := fun r hr => by
    obtain ⟨r', h1, rfl⟩ := List.mem_map.mp hr
    rw [List.length_map]; exact p1 r' h1
  have hl' : lo + n ≤ (rows.map fun r => r.map f).length := by rw [List.length_map]; exact hl
  generalize (rows.map fun r => r.map f) = rows at hcs' p1' hl' ⊢
  have hlen : ((rows.drop lo).take n).length = n := by rw [List.length_take, List.length_drop]; omega
  refine ⟨a, c, by rw [hlen], by rw [hlen]; exact hn, fun hne => ?_⟩
  have hn0 : 0 < n := by
    cases n with
    | zero => simp at hne
    | succ n => omega
  obtain ⟨g, f, l, k, q1, rfl, _⟩ := ha (by omega)
  refine ⟨_, sz, rfl, rfl, p0, hG g (by rw [q1]; rfl), ?_⟩
  have hmem : ∀ r ∈ rows.drop lo, r.length = sz := fun r hr => p1' r (List.mem_of_mem_drop hr)
  have h2 := all2_take (n * sz) (all2_drop (lo * sz) hcs')
  rw [← flat_drop lo _ p1', ← flat_take n _ hmem] at h2
  refine repRows_of (fun r hr => hmem r (List.mem_of_mem_take hr)) h2 (fun j u hj => ?_)
  have hjn := (List.getElem?_eq_some_iff.mp hj).1
  rw [List.length_take] at hjn
  rw [List.getElem?_take_of_lt (by omega), List.getElem?_drop] at hj
  have := ho.cells q1 _ u hj
  rw [Nat.add_assoc]; exact this
theorem arr_rep {M : Mem} {base o e0 sz t : Nat} {ty : TypeId} {rows : List (List PV)} (hok : Ok M base) (hx : M.H o = some (.arr e0 ty sz rows t)) (ht : t ≠ 2) {G : Nat → Prop} (hG : ∀ k, blk? (M.hv o) = some k → G k) (hc : ∀ p ∈ rows.flatten, ∀ v, rep M.w (M.fz t) p v → rep M.w G p v)
    {lo n c : Nat} {a : Option Addr} (hl : lo + n ≤ rows.length) (hn : n ≤ c) (ha : 0 < c → ∃ g f l k, M.hv o = .slice (some ⟨g, f, none⟩) l k ∧ a = some ⟨g, f + lo * sz, none⟩ ∧ lo + c = k) : rep M.w G (.sl ((rows.drop lo).take n)) (.slice a n c) := by
  have := arr_repF hok hx (fun p => p) hG (fun p hp v h => hc p hp v (rep_of ht h)) hl hn ha
  simpa using this
theorem arr_ownF {M : Mem} {base o e0 sz t : Nat} {ty : TypeId} {rows : List (List PV)} (hok : Ok M base) (hx : M.H o = some (.arr e0 ty sz rows t)) {G : Nat → Prop} (f : PV → PV) (hG : ∀ k, blk? (M.hv o) = some k → G k) (hc : ∀ p ∈ rows.flatten, ∀ v, repO M t p v → rep M.w G (f p) v) : rep M.w G (.sl (rows.map fun r => r.map f)) (M.hv o) := by
  obtain ⟨p0, p1, cs, ho, hcs⟩ := hok.ob o _ hx
  rcases ho.2 with ⟨f1, f2⟩ | ⟨g, f', cap, cur, f1, f2, f3, f4, _⟩
  · have : rows = [] := List.length_eq_zero_iff.mp f2
    subst this
    rw [f1]; exact ⟨none, 0, rfl, Nat.le_refl _, fun h => absurd rfl h⟩
  · have := arr_repF hok hx f hG hc (lo := 0) (n := rows.length) (c := cap) (a := some ⟨g, f', none⟩) (by omega) f4 (fun _ => ⟨g, f', _, _, f1, by simp, by omega⟩)
    rw [List.drop_zero, List.take_of_length_le (by simp)] at this
    rw [f1]; exact this
theorem arr_own {M : Mem} {base o e0 sz t : Nat} {ty : TypeId} {rows : List (List PV)} (hok : Ok M base) (hx : M.H o = some (.arr e0 ty sz rows t)) (ht : t ≠ 2) {G : Nat → Prop} (hG : ∀ k, blk? (M.hv o) = some k → G k) (hc : ∀ p ∈ rows.flatten, ∀ v, rep M.w (M.fz t) p v → rep M.w G p v) : rep M.w G (.sl rows) (M.hv o) := by
  have := arr_ownF hok hx (fun p => p) hG (fun p hp v h => hc p hp v (rep_of ht h))
  simpa using this
/-- The memory that a callee begins with. -/
def Mc (M : Mem) : Mem := { w := M.w, fz := fun t k => t = 0 ∧ k < M.w.heap.size, hv := M.hv, H := fun _ => none }
theorem Mc_ok (M : Mem) : Ok (Mc M) M.w.heap.size :=
  ⟨Nat.le_refl _, fun t k h => h.2, fun t k ht h => by have := h.1; omega, fun t k h => ⟨rfl, h.2⟩, fun t k ht h => by have := h.1; omega, fun o x h => by simp [Mc] at h, fun o x k t h => by simp [Mc] at h, fun o o' x x' k h => by simp [Mc] at h⟩
theorem derP_ok {M : Mem} {base t : Nat} (hok : Ok M base) {p q : PV} {v : Value} (h : repO M t p v) (hq : derP M.H p = some q) : rep M.w ((Mc M).fz 0) q v := by
  have lt : ∀ {t k : Nat}, M.fz t k → M.w.heap[k]? = M.w.heap[k]? ∧ (Mc M).fz 0 k := fun {t k} hk => ⟨rfl, rfl, hok.lt t k hk⟩
  cases p with
  | i k n => simp only [derP, Option.some.injEq] at hq; subst hq; exact h.1
  | b x => simp only [derP, Option.some.injEq] at hq; subst hq; exact h.1
  | s x => simp only [derP, Option.some.injEq] at hq; subst hq; exact h.1
  | sl rows => simp only [derP, Option.some.injEq] at hq; subst hq; exact rep_mono (w := M.w) (w' := M.w) (fun k hk => lt hk) (.sl rows) v h.1
  | ob o e =>
    obtain ⟨x, hx, g⟩ := h.1
    cases x <;> simp only [derP, hx] at hq <;> try (simp at hq; done)
    · split at hq
      · rename_i c
        simp only [Option.some.injEq] at hq; subst hq
        rw [g.2 c.1]
        exact arr_own hok hx c.2 (fun k hk => ⟨rfl, ((hok.ob o _ hx).blk rfl k hk).2⟩) (fun p _ v hp => rep_mono (w := M.w) (w' := M.w) (fun k hk => lt hk) p v hp)
      · simp at hq
    · split at hq
      · rename_i c
        simp only [Option.some.injEq] at hq; subst hq
        exact rep_mono (w := M.w) (w' := M.w) (fun k hk => lt hk) (.sl _) v (g.2 c)
      · simp at hq
mutual
theorem giveA_ok {M : Mem} {base : Nat} (hok : Ok M base) : ∀ (x : AV) {y : AV} {v : Value}, vrep M x v → giveA M.H x = some y → vrep (Mc M) y v
  | .i k n, y, v, hv, h => by simp only [giveA, Option.some.injEq] at h; subst h; exact hv
  | .b x, y, v, hv, h => by simp only [giveA, Option.some.injEq] at h; subst h; exact hv
  | .s x, y, v, hv, h => by simp only [giveA, Option.some.injEq] at h; subst h; exact hv
  | .nil, y, v, hv, h => by simp only [giveA, Option.some.injEq] at h; subst h; exact ⟨none, 0, hv, Nat.le_refl _, fun q => absurd rfl q⟩
  | .sl t rows, y, v, hv, h => by
    simp only [giveA, Option.some.injEq] at h; subst h
    exact rep_mono (w := M.w) (w' := M.w) (fun k hk => ⟨rfl, rfl, hok.lt t k hk⟩) (.sl rows) v hv
  | .own o e, y, v, hv, h => by
    simp only [giveA] at h
    obtain ⟨x, hx, g⟩ := hv
    cases x <;> simp only [hx] at h <;> try (simp at h; done)
    · rename_i e0 ty sz rows t
      by_cases he : e = e0
      · rw [if_pos he] at h
        by_cases ht : t = 2
        · rw [if_pos ht] at h
          cases q : derR (derP M.H) rows with
          | none => rw [q] at h; simp at h
          | some rows' =>
            rw [q] at h; simp only [Option.map_some, Option.some.injEq] at h; subst h
            obtain ⟨rfl, hq⟩ := derR_some q
            rw [g.2 he]
            refine arr_ownF hok hx _ (fun k hk => ⟨rfl, ((hok.ob o _ hx).blk rfl k hk).2⟩) (fun p hp v hv => ?_)
            obtain ⟨p', hp'⟩ := hq p hp
            rw [hp']
            exact derP_ok hok hv hp'
        · rw [if_neg ht] at h
          simp only [Option.some.injEq] at h; subst h
          rw [g.2 he]
          exact arr_own hok hx ht (fun k hk => ⟨rfl, ((hok.ob o _ hx).blk rfl k hk).2⟩) (fun p _ v hp => rep_mono (w := M.w) (w' := M.w) (fun k hk => ⟨rfl, rfl, hok.lt t k hk⟩) p v hp)
      · rw [if_neg he] at h; simp at h
    · rename_i e0 rows t
      by_cases he : e = e0
      · rw [if_pos he] at h
        simp only [Option.some.injEq] at h; subst h
        exact rep_mono (w := M.w) (w' := M.w) (fun k hk => ⟨rfl, rfl, hok.lt t k hk⟩) (.sl rows) v (g.2 he)
      · rw [if_neg he] at h; simp at h
  | .vw o e lo n, y, v, hv, h => by
    simp only [giveA] at h
    obtain ⟨x, hx, g⟩ := hv
    cases x <;> simp only [hx] at h <;> try (simp at h; done)
    · rename_i e0 ty sz rows t
      by_cases he : e = e0
      · rw [if_pos he] at h
        have ht : t ≠ 2 := fun q => by rw [if_pos q] at h; simp at h
        rw [if_neg ht] at h
        simp only [Option.some.injEq] at h; subst h
        obtain ⟨g1, a, c, rfl, g2, _, g3⟩ := g.2 he
        exact arr_rep hok hx ht (fun k hk => ⟨rfl, ((hok.ob o _ hx).blk rfl k hk).2⟩) (fun p _ v hp => rep_mono (w := M.w) (w' := M.w) (fun k hk => ⟨rfl, rfl, hok.lt t k hk⟩) p v hp) g1 g2 g3
      · rw [if_neg he] at h; simp at h
    · rename_i e0 rows t
      by_cases he : e = e0
      · rw [if_pos he] at h
        simp only [Option.some.injEq] at h; subst h
        exact rep_mono (w := M.w) (w' := M.w) (fun k hk => ⟨rfl, rfl, hok.lt t k hk⟩) (.sl _) v (g.2 he)
      · rw [if_neg he] at h; simp at h
  | .ag xs, y, v, hv, h => by
    simp only [giveA] at h
    cases q : givesA M.H xs with
    | none => rw [q] at h; simp at h
    | some ys =>
      rw [q] at h; simp only [Option.map_some, Option.some.injEq] at h; subst h
      obtain ⟨vs, rfl, hs⟩ := hv
      exact ⟨vs, rfl, givesA_ok hok xs hs q⟩
  | .fn f caps, y, v, hv, h => by
    simp only [giveA] at h
    cases q : givesA M.H caps with
    | none => rw [q] at h; simp at h
    | some ys =>
      rw [q] at h; simp only [Option.map_some, Option.some.injEq] at h; subst h
      obtain ⟨vs, rfl, hs⟩ := hv
      exact ⟨vs, rfl, givesA_ok hok caps hs q⟩
  | .ptr _ _ _ _, _, _, _, h => by simp [giveA] at h
  | .fp _ _, _, _, _, h => by simp [giveA] at h
  | .tup _, _, _, _, h => by simp [giveA] at h
  | .un, _, _, _, h => by simp [giveA] at h
theorem givesA_ok {M : Mem} {base : Nat} (hok : Ok M base) : ∀ (xs : List AV) {ys : List AV} {vs : List Value}, vreps M xs vs → givesA M.H xs = some ys → vreps (Mc M) ys vs
  | [], ys, vs, hv, h => by simp only [givesA, Option.some.injEq] at h; subst h; exact hv
  | x :: xs, ys, vs, hv, h => by
    simp only [givesA] at h
    split at h
    · rename_i y ys' q1 q2
      simp only [Option.some.injEq] at h; subst h
      obtain ⟨v, r, rfl, h1, h2⟩ := hv
      exact ⟨v, r, rfl, giveA_ok hok x h1 q1, givesA_ok hok xs h2 q2⟩
    · simp at h
end
/-- The caller's memory behind the call: what is new is frozen. -/
def Mb (M Mx : Mem) : Mem := { w := Mx.w, fz := fun t k => M.fz t k ∨ t ≤ 1 ∧ M.w.heap.size ≤ k ∧ k < Mx.w.heap.size, hv := M.hv, H := M.H }
theorem rep_scal {w : World} {G G' : Nat → Prop} {p : PV} {v : Value} (h : scalB p = true) (hr : rep w G p v) : rep w G' p v := by
  cases p
  · exact hr
  · exact hr
  · exact hr
  · simp [scalB] at h
  · simp [scalB] at h
theorem newSl_ok {M Mx : Mem} {y x : AV} {v : Value} (hok : Ok Mx M.w.heap.size) (hv : vrep Mx x v) (h : newSl Mx.H x = some y) : vrep (Mb M Mx) y v := by
  have tags : ∀ {t : Nat}, 1 ≤ t → ∀ k, Mx.fz t k → (Mb M Mx).fz 1 k := fun ht k hk => .inr ⟨Nat.le_refl _, hok.fresh _ k ht hk, hok.lt _ k hk⟩
  have up : ∀ {t : Nat}, 1 ≤ t → ∀ {p : PV} {v : Value}, rep Mx.w (Mx.fz t) p v → rep Mx.w ((Mb M Mx).fz 1) p v := fun ht p v hp => rep_mono (fun k hk => ⟨rfl, tags ht k hk⟩) p v hp
  have cont : ∀ {t : Nat} {rows : List (List PV)}, newB t rows → ∀ p ∈ rows.flatten, ∀ v, rep Mx.w (Mx.fz t) p v → rep Mx.w ((Mb M Mx).fz 1) p v := by
    intro t rows hb p hp v hr
    rcases hb with hb | hb
    · exact up (by omega) hr
    · obtain ⟨r, h1, h2⟩ := List.mem_flatten.mp hp
      exact rep_scal (hb r h1 p h2) hr
  have own : ∀ {o : Nat} {x : Ob}, Mx.H o = some x → x.mut = true → ∀ k, blk? (Mx.hv o) = some k → (Mb M Mx).fz 1 k := fun hx hm k hk => .inr ⟨Nat.le_refl _, ((hok.ob _ _ hx).blk hm k hk).1, ((hok.ob _ _ hx).blk hm k hk).2⟩
  have der : ∀ {t : Nat} {p q : PV} {v : Value}, repO Mx t p v → derN Mx.H p = some q → rep Mx.w ((Mb M Mx).fz 1) q v := by
    intro t p q v h hq
    cases p with
    | i k n => simp only [derN, Option.some.injEq] at hq; subst hq; exact h.1
    | b x => simp only [derN, Option.some.injEq] at hq; subst hq; exact h.1
    | s x => simp only [derN, Option.some.injEq] at hq; subst hq; exact h.1
    | sl rows =>
      cases rows with
      | cons r rs => simp [derN] at hq
      | nil =>
        simp only [derN, List.isEmpty_nil, if_true, Option.some.injEq] at hq; subst hq
        obtain ⟨a, c, e1, h1, _⟩ := h.1
        exact ⟨a, c, e1, h1, fun q => absurd rfl q⟩
    | ob o e =>
      obtain ⟨x, hx, g⟩ := h.1
      cases x <;> simp only [derN, hx] at hq <;> try (simp at hq; done)
      · split at hq
        · rename_i c
          simp only [Option.some.injEq] at hq; subst hq
          rw [g.2 c.1]
          exact arr_own hok hx c.2.1 (own hx rfl) (cont c.2.2)
        · simp at hq
      · split at hq
        · rename_i c
          simp only [Option.some.injEq] at hq; subst hq
          exact up c.2 (p := .sl _) (g.2 c.1)
        · simp at hq
  cases x <;> simp only [newSl] at h <;> try (simp at h; done)
  case sl t rows =>
    split at h
    · rename_i c
      simp only [Option.some.injEq] at h; subst h
      rcases c with c | c
      · exact up c hv
      · obtain rfl : rows = [] := List.isEmpty_iff.mp c
        obtain ⟨a, c', e1, h1, _⟩ := hv
        exact ⟨a, c', e1, h1, fun q => absurd rfl q⟩
    · simp at h
  case own o e =>
    obtain ⟨x, hx, g⟩ := hv
    cases x <;> simp only [hx] at h <;> try (simp at h; done)
    · split at h
      · rename_i c
        simp only [Option.some.injEq] at h; subst h
        rw [g.2 c.1]
        exact arr_own hok hx c.2.1 (own hx rfl) (cont c.2.2)
      · split at h
        · rename_i e0 ty sz rows t _ c
          cases q : derR (derN Mx.H) rows with
          | none => rw [q] at h; simp at h
          | some rows' =>
            rw [q] at h; simp only [Option.map_some, Option.some.injEq] at h; subst h
            obtain ⟨rfl, hq⟩ := derR_some q
            rw [g.2 c]
            refine arr_ownF hok hx _ (own hx rfl) (fun p hp v hv => ?_)
            obtain ⟨p', hp'⟩ := hq p hp
            rw [hp']
            exact der hv hp'
        · simp at h
    · split at h
      · rename_i c
        simp only [Option.some.injEq] at h; subst h
        exact up c.2 (g.2 c.1)
      · simp at h
  case vw o e lo n =>
    obtain ⟨x, hx, g⟩ := hv
    cases x <;> simp only [hx] at h <;> try (simp at h; done)
    · split at h
      · rename_i c
        simp only [Option.some.injEq] at h; subst h
        obtain ⟨g1, a, c1, rfl, g2, g3⟩ := g.2 c.1
        exact arr_rep hok hx c.2.1 (own hx rfl) (cont c.2.2) g1 g2 g3.2
      · simp at h
    · split at h
      · rename_i c
        simp only [Option.some.injEq] at h; subst h
        exact up c.2 (g.2 c.1)
      · simp at h
mutual
theorem backA_ok {M Mx : Mem} (hok : Ok Mx M.w.heap.size) : ∀ (x : AV) {y : AV} {v : Value}, vrep Mx x v → backA Mx.H x = some y → vrep (Mb M Mx) y v
  | .i k n, y, v, hv, h => by simp only [backA, Option.some.injEq] at h; subst h; exact hv
  | .b x, y, v, hv, h => by simp only [backA, Option.some.injEq] at h; subst h; exact hv
  | .s x, y, v, hv, h => by simp only [backA, Option.some.injEq] at h; subst h; exact hv
  | .nil, y, v, hv, h => by simp only [backA, Option.some.injEq] at h; subst h; exact ⟨none, 0, hv, Nat.le_refl _, fun q => absurd rfl q⟩
  | .sl t rows, y, v, hv, h => newSl_ok hok hv (by simpa only [backA] using h)
  | .own o e, y, v, hv, h => newSl_ok hok hv (by simpa only [backA] using h)
  | .vw o e lo n, y, v, hv, h => newSl_ok hok hv (by simpa only [backA] using h)
  | .ag xs, y, v, hv, h => by
    simp only [backA] at h
    cases q : backsA Mx.H xs with
    | none => rw [q] at h; simp at h
    | some ys =>
      rw [q] at h; simp only [Option.map_some, Option.some.injEq] at h; subst h
      obtain ⟨vs, rfl, hs⟩ := hv
      exact ⟨vs, rfl, backsA_ok hok xs hs q⟩
  | .tup xs, y, v, hv, h => by
    simp only [backA] at h
    cases q : backsA Mx.H xs with
    | none => rw [q] at h; simp at h
    | some ys =>
      rw [q] at h; simp only [Option.map_some, Option.some.injEq] at h; subst h
      obtain ⟨vs, rfl, hs⟩ := hv
      exact ⟨vs, rfl, backsA_ok hok xs hs q⟩
  | .fn _ _, _, _, _, h => by simp [backA] at h
  | .ptr _ _ _ _, _, _, _, h => by simp [backA] at h
  | .fp _ _, _, _, _, h => by simp [backA] at h
  | .un, _, _, _, h => by simp [backA] at h
theorem backsA_ok {M Mx : Mem} (hok : Ok Mx M.w.heap.size) : ∀ (xs : List AV) {ys : List AV} {vs : List Value}, vreps Mx xs vs → backsA Mx.H xs = some ys → vreps (Mb M Mx) ys vs
  | [], ys, vs, hv, h => by simp only [backsA, Option.some.injEq] at h; subst h; exact hv
  | x :: xs, ys, vs, hv, h => by
    simp only [backsA] at h
    split at h
    · rename_i y ys' q1 q2
      simp only [Option.some.injEq] at h; subst h
      obtain ⟨v, r, rfl, h1, h2⟩ := hv
      exact ⟨v, r, rfl, backA_ok hok x h1 q1, backsA_ok hok xs h2 q2⟩
    · simp at h
end
/-- Behind a call the caller's memory holds. -/
theorem Mb_ok {M Mx : Mem} {base : Nat} (hok : Ok M base) (hb : Below M.w.heap.size M.w Mx.w) : Step M (Mb M Mx) ∧ Ok (Mb M Mx) base ∧ Below base M.w Mx.w := by
  have hs : Step M (Mb M Mx) := ⟨fun t k hk => ⟨hb.block k (hok.lt t k hk), .inl hk⟩, fun o x hx => ⟨x, hx, Goes.refl x rfl⟩⟩
  refine ⟨hs, ⟨Nat.le_trans hok.low hb.size, fun t k hk => ?_, fun t k ht hk => ?_, fun t k hk => ?_, fun t k ht hk => ?_, fun o x hx => ?_, fun o x k t hx hm hk hf => ?_, hok.diff⟩, ⟨hb.os, hb.tape, hb.output, hb.size, fun k hk => hb.block k (Nat.lt_of_lt_of_le hk hok.low), hb.drawn⟩⟩
  · rcases hk with hk | hk
    · exact Nat.lt_of_lt_of_le (hok.lt t k hk) hb.size
    · exact hk.2.2
  · rcases hk with hk | hk
    · exact hok.fresh t k ht hk
    · exact Nat.le_trans hok.low hk.2.1
  · rcases hk with hk | hk
    · exact .inl (hok.up0 t k hk)
    · exact .inr ⟨Nat.zero_le _, hk.2⟩
  · rcases hk with hk | hk
    · exact .inl (hok.up1 t k ht hk)
    · exact .inr ⟨Nat.le_refl _, hk.2⟩
  · have ho := hok.ob o x hx
    by_cases hm : x.mut = true
    · exact ho.step hs rfl (fun k hk => hb.block k (ho.blk hm k hk).2)
    · cases x <;> first | (exact absurd rfl hm) | trivial
  · rcases hf with hf | hf
    · exact hok.apart o x k t hx hm hk hf
    · have := ((hok.ob o x hx).blk hm k hk).2
      have h2 := hf.2.1
      omega
theorem all2_map_left {α β γ : Type} {R : α → β → Prop} {S : γ → β → Prop} {f : α → γ} : ∀ {xs : List α} {ys : List β}, all2 R xs ys → (∀ a b, R a b → S (f a) b) → all2 S (xs.map f) ys
  | [], [], _, _ => trivial
  | _ :: _, _ :: _, h, g => ⟨g _ _ h.1, all2_map_left h.2 g⟩
  | [], _ :: _, h, _ => h.elim
  | _ :: _, [], h, _ => h.elim
/-- Memory behind a freeze: nothing is written. -/
def Mz (M : Mem) (o e s : Nat) (rows : List (List PV)) : Mem := { M with fz := fun t k => M.fz t k ∨ (t = 0 ∨ s = 1 ∧ t = 1) ∧ blk? (M.hv o) = some k, H := frzH M.H o e s rows }
theorem Mz_ok {M : Mem} {base o e sz t s : Nat} {ty : TypeId} {rows : List (List PV)} (hok : Ok M base) (hx : M.H o = some (.arr e ty sz rows t)) (hs : s = 0 ∨ s = 1 ∧ newB t rows) (ht2 : t ≠ 2) :
    Step M (Mz M o e s rows) ∧ Ok (Mz M o e s rows) base ∧ ∀ x v, vrep M x v → vrep (Mz M o e s rows) (frzV o e s rows x) v := by
  have hsub : ∀ t k, M.fz t k → (Mz M o e s rows).fz t k := fun t k h => .inl h
  have hst : Step M (Mz M o e s rows) := by
    refine ⟨fun t k hk => ⟨rfl, .inl hk⟩, fun o' x h => ?_⟩
    by_cases c : o' = o
    · subst c
      rw [hx] at h; cases h
      exact ⟨_, if_pos rfl, Nat.lt_succ_self e⟩
    · refine ⟨frzO o e s rows x, by simp only [Mz, frzH]; rw [if_neg c, h]; rfl, ?_⟩
      cases x
      · exact .inr ⟨rfl, rfl, rfl, rfl⟩
      · exact ⟨rfl, rfl, rfl⟩
      · exact (rfl : (Mz M o e s rows).hv o' = M.hv o')
      · exact (rfl : (Mz M o e s rows).hv o' = M.hv o')
  have hblk := (hok.ob o _ hx).blk rfl
  have hcont : ∀ p ∈ rows.flatten, ∀ v, rep M.w (M.fz t) p v → rep M.w ((Mz M o e s rows).fz s) p v := by
    intro p hp v hr
    rcases hs with rfl | ⟨rfl, hb⟩
    · exact rep_mono (w := M.w) (w' := M.w) (fun k hk => ⟨rfl, .inl (hok.up0 t k hk)⟩) p v hr
    · rcases hb with hb | hb
      · exact rep_mono (w := M.w) (w' := M.w) (fun k hk => ⟨rfl, .inl (hok.up1 t k (by omega) hk)⟩) p v hr
      · obtain ⟨r, h1, h2⟩ := List.mem_flatten.mp hp
        exact rep_scal (hb r h1 p h2) hr
  have hv : ∀ x v, vrep M x v → vrep (Mz M o e s rows) (frzV o e s rows x) v := by
    intro x v h
    by_cases c : ∃ o' e', x = .own o' e' ∧ o' = o ∧ e' = e
    · obtain ⟨_, _, rfl, rfl, rfl⟩ := c
      obtain ⟨x, h1, h2⟩ := h
      rw [hx] at h1; cases h1
      rw [h2.2 rfl]
      simp only [frzV, and_self, if_true]
      exact arr_own hok hx ht2 (G := (Mz M _ _ s rows).fz s) (fun k hk => .inr ⟨by rcases hs with h | h; exact .inl h; exact .inr ⟨h.1, h.1⟩, hk⟩) hcont
    · have : frzV o e s rows x = x := by
        cases x <;> try rfl
        rename_i o' e'
        simp only [frzV]
        rw [if_neg (fun h => c ⟨_, _, rfl, h⟩)]
      rw [this]
      exact vrep_step hst x v h
  have back : ∀ {o' : Nat} {y : Ob}, (Mz M o e s rows).H o' = some y → y.mut = true → o' ≠ o ∧ ∃ x, M.H o' = some x ∧ x.mut = true ∧ y = frzO o e s rows x := by
    intro o' y hy hm
    simp only [Mz, frzH] at hy
    by_cases c : o' = o
    · rw [if_pos c] at hy; cases hy; simp [Ob.mut] at hm
    · rw [if_neg c] at hy
      obtain ⟨x, h1, rfl⟩ := Option.map_eq_some_iff.mp hy
      exact ⟨c, x, h1, by cases x <;> first | rfl | exact hm, rfl⟩
  refine ⟨hst, ⟨hok.low, ?_, ?_, ?_, ?_, ?_, ?_, ?_⟩, hv⟩
  · rintro t k (h | ⟨_, h⟩)
    · exact hok.lt t k h
    · exact (hblk k h).2
  · rintro t k h0 (h | ⟨_, h⟩)
    · exact hok.fresh t k h0 h
    · exact (hblk k h).1
  · rintro t k (h | ⟨_, h⟩)
    · exact .inl (hok.up0 t k h)
    · exact .inr ⟨.inl rfl, h⟩
  · rintro t k h0 (h | ⟨h1, h⟩)
    · exact .inl (hok.up1 t k h0 h)
    · rcases h1 with h1 | h1
      · omega
      · exact .inr ⟨.inr ⟨h1.1, rfl⟩, h⟩
  · intro o' y hy
    by_cases hm : y.mut = true
    · obtain ⟨c, x, h1, h2, rfl⟩ := back hy hm
      have := (hok.ob o' x h1).step hst rfl (fun _ _ => rfl)
      cases x with
      | arr => exact this
      | fro => trivial
      | mp => exact this
      | box ty cells =>
        obtain ⟨g, cs, e1, h3, h4, h5⟩ := hok.ob o' _ h1
        refine ⟨g, cs, e1, h3, h4, ?_⟩
        exact all2_map_left h5 (fun a b h => hv a b h)
    · cases y <;> first | (exact absurd rfl hm) | trivial
  · rintro o' y k t hy hm hb (h | ⟨_, h⟩)
    · obtain ⟨c, x, h1, h2, _⟩ := back hy hm
      exact hok.apart o' x k t h1 h2 hb h
    · obtain ⟨c, x, h1, h2, _⟩ := back hy hm
      exact hok.diff o' o x _ k h1 hx h2 rfl c hb h
  · intro o1 o2 y1 y2 k hy1 hy2 hm1 hm2 hne hb1 hb2
    obtain ⟨_, x1, h1, g1, _⟩ := back hy1 hm1
    obtain ⟨_, x2, h2, g2, _⟩ := back hy2 hm2
    exact hok.diff o1 o2 x1 x2 k h1 h2 g1 g2 hne hb1 hb2
theorem vw0_ok {M : Mem} {o e lo sz t : Nat} {ty : TypeId} {rows : List (List PV)} {v : Value} (hx : M.H o = some (.arr e ty sz rows t)) (hv : vrep M (.vw o e lo 0) v) : vrep M (.sl 1 []) v := by
  obtain ⟨x, hx1, gx⟩ := hv
  rw [hx] at hx1; cases hx1
  obtain ⟨_, a, c, rfl, hmc, _⟩ := gx.2 rfl
  exact ⟨a, c, rfl, Nat.zero_le _, fun h => absurd rfl h⟩
/-- A view takes the place of the array that it is a part of. -/
def Mt (M : Mem) (o : Nat) (v : Value) (x : Ob) : Mem := { M with hv := fun k => if k = o then v else M.hv k, H := M.H.upd o x }
theorem take_drop_flat {α : Type} {sz : Nat} : ∀ {rows : List (List α)} (lo : Nat), (∀ r ∈ rows, r.length = sz) → (rows.drop lo).flatten = rows.flatten.drop (lo * sz)
  | [], lo, _ => by simp
  | r :: rs, 0, _ => by simp
  | r :: rs, lo + 1, h => by
    have := take_drop_flat (rows := rs) lo (fun x hx => h x (List.mem_cons_of_mem _ hx))
    rw [List.drop_succ_cons, this, List.flatten_cons, Nat.add_mul, Nat.one_mul, Nat.add_comm, ← h r List.mem_cons_self, List.drop_append]
    rw [List.drop_eq_nil_of_le (Nat.le_add_right _ _), List.nil_append, Nat.add_sub_cancel_left]
theorem take_flat {α : Type} {sz : Nat} : ∀ {rows : List (List α)} (m : Nat), (∀ r ∈ rows, r.length = sz) → (rows.take m).flatten = rows.flatten.take (m * sz)
  | [], m, _ => by simp
  | r :: rs, 0, _ => by simp
  | r :: rs, m + 1, h => by
    have := take_flat (rows := rs) m (fun x hx => h x (List.mem_cons_of_mem _ hx))
    rw [List.take_succ_cons, List.flatten_cons, this, List.flatten_cons, Nat.add_mul, Nat.one_mul, Nat.add_comm, ← h r List.mem_cons_self, List.take_append]
    rw [List.take_of_length_le (Nat.le_add_right _ _), Nat.add_sub_cancel_left]
theorem Mt_ok {M : Mem} {base o e sz t lo m : Nat} {ty : TypeId} {rows : List (List PV)} {v : Value} (hok : Ok M base) (hx : M.H o = some (.arr e ty sz rows t)) (hm0 : 0 < m) (hv : vrep M (.vw o e lo m) v) :
    Step M (Mt M o v (.arr (e + 1) ty sz ((rows.drop lo).take m) t)) ∧ Ok (Mt M o v (.arr (e + 1) ty sz ((rows.drop lo).take m) t)) base ∧ vrep (Mt M o v (.arr (e + 1) ty sz ((rows.drop lo).take m) t)) (.own o (e + 1)) v := by
  obtain ⟨x, hx1, gx⟩ := hv
  rw [hx] at hx1; cases hx1
  obtain ⟨hle, a, c, rfl, hmc, hblk, hsome⟩ := gx.2 rfl
  obtain ⟨p0, p1, cs, ho, ha⟩ := hok.ob o _ hx
  have hpos : 0 < rows.length := by omega
  rcases ho.2 with ⟨_, e2⟩ | ⟨b, off, cap, cur, f1, f2, f3, f4, f5, f6, f7⟩
  · exact absurd e2 (by omega)
  have hc0 : 0 < c := by omega
  obtain ⟨g, f, l, k, e3, rfl, hlk⟩ := hsome hc0
  rw [f1] at e3
  simp only [Value.slice.injEq, Option.some.injEq, Addr.mk.injEq, and_true] at e3
  obtain ⟨⟨rfl, rfl⟩, rfl, rfl⟩ := e3
  have hH' : (Mt M o (.slice (some ⟨b, off + lo * sz, none⟩) m c) (.arr (e + 1) ty sz ((rows.drop lo).take m) t)).hv o = .slice (some ⟨b, off + lo * sz, none⟩) m c := if_pos rfl
  have hlen : ((rows.drop lo).take m).length = m := by rw [List.length_take, List.length_drop]; omega
  have hmem : ∀ r ∈ (rows.drop lo).take m, r.length = sz := fun r hr => p1 r (List.mem_of_mem_drop (List.mem_of_mem_take hr))
  have hcs : ((cs.drop (lo * sz)).take (m * sz)).length = m * sz := by
    rw [List.length_take, List.length_drop, ho.1, ← Nat.mul_sub_right_distrib]
    exact Nat.min_eq_left (Nat.mul_le_mul_right _ (by omega))
  have hcur : cur.size = off + lo * sz + c * sz := by rw [f6, ← hlk, Nat.add_mul]; omega
  have hcut : (cur.toList.drop (off + lo * sz)).take (m * sz) = (cs.drop (lo * sz)).take (m * sz) := by
    rw [← f7, List.drop_take, List.take_take, List.drop_drop, ← Nat.mul_sub_right_distrib, Nat.min_eq_left (Nat.mul_le_mul_right _ (by omega))]
  have hown : ownsAt M.w base ty sz (.slice (some ⟨b, off + lo * sz, none⟩) m c) m ((cs.drop (lo * sz)).take (m * sz)) := ⟨hcs, .inr ⟨b, off + lo * sz, c, cur, rfl, f2, f3, hmc, by omega, hcur, hcut⟩⟩
  have hall : all2 (repO M t) ((rows.drop lo).take m).flatten ((cs.drop (lo * sz)).take (m * sz)) := by
    rw [take_flat _ (fun r hr => p1 r (List.mem_of_mem_drop hr)), take_drop_flat _ p1]
    exact all2_take _ (all2_drop _ ha)
  obtain ⟨hst, hok'⟩ := touch (M' := Mt M o (.slice (some ⟨b, off + lo * sz, none⟩) m c) (.arr (e + 1) ty sz ((rows.drop lo).take m) t)) (o := o) hok (.arr (e + 1) ty sz ((rows.drop lo).take m) t) rfl (fun k hk => if_neg hk) rfl (Nat.le_refl _)
    (fun _ _ _ => rfl) (fun x hx' => by rw [hx] at hx'; cases hx'; exact .inl (Nat.lt_succ_self e))
    (fun _ j hj => by
      rw [hH'] at hj
      exact .inr ⟨_, hx, rfl, by rw [f1]; exact hj⟩)
    (fun hst => ⟨p0, hmem, (cs.drop (lo * sz)).take (m * sz), by rw [hH', hlen]; exact hown, all2_mono (fun p v _ h => repO_step hst h) hall⟩)
  exact ⟨hst, hok', ⟨_, Heap.upd_same _ _ _, Nat.le_refl _, fun _ => hH'.symm⟩⟩
end Go.Big
