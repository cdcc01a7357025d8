/- What holds of memory while a function runs, and what one object's change leaves as it was. No condition. -/
import Derived.Test.YtmglpcdalechfaaGreatBig1
set_option linter.unusedVariables false
set_option linter.unusedSimpArgs false
namespace Go.Big

def Ob.mut : Ob → Bool
  | .fro .. => false
  | _ => true
/-- An array of one's own: its block may hold more ahead of it. -/
def ownsAt (w : World) (base : Nat) (e : TypeId) (size : Nat) (v : Value) (n : Nat) (xs : List Value) : Prop :=
  xs.length = n * size ∧ ((v = .slice none 0 0 ∧ n = 0) ∨
    ∃ g f cap cur, v = .slice (some ⟨g, f, none⟩) n cap ∧ base ≤ g ∧ w.heap[g]? = some (.cells cur e (0, 0)) ∧ n ≤ cap ∧ cap ≤ maxLen ∧ cur.size = f + cap * size ∧ (cur.toList.drop f).take (n * size) = xs)
theorem ownsAt_of {w : World} {base : Nat} {e : TypeId} {sz n : Nat} {v : Value} {xs : List Value} (h : w.ownsRow base e sz v n xs) : ownsAt w base e sz v n xs := by
  refine ⟨h.1, h.2.imp id ?_⟩
  rintro ⟨g, cap, cur, h1, h2, h3, h4, h5, h6, h7⟩
  exact ⟨g, 0, cap, cur, h1, h2, h3, h4, h5, by omega, by simpa using h7⟩
theorem ownsAt.cells {w : World} {base : Nat} {e : TypeId} {sz n : Nat} {v : Value} {xs : List Value} (h : ownsAt w base e sz v n xs) {g f l k : Nat} (hv : v = .slice (some ⟨g, f, none⟩) l k) : ∀ j u, xs[j]? = some u → w.cell? ⟨g, f + j, none⟩ = some u := by
  intro j u hu
  rcases h.2 with ⟨e1, _⟩ | ⟨g', f', cap, cur, e1, _, hgg, _, _, hsz, htake⟩
  · rw [hv] at e1; cases e1
  · rw [hv] at e1
    simp only [Value.slice.injEq, Option.some.injEq, Addr.mk.injEq, and_true] at e1
    obtain ⟨⟨rfl, rfl⟩, _, _⟩ := e1
    rw [cell_of_row w g (f + j) cur e (0, 0) hgg]
    rw [← htake, List.getElem?_take] at hu
    split at hu
    · rw [List.getElem?_drop] at hu
      simpa using hu
    · cases hu
theorem ownsAt.lt {w : World} {base : Nat} {e : TypeId} {sz n : Nat} {v : Value} {xs : List Value} (h : ownsAt w base e sz v n xs) : ∀ k, v.ownBlock = some k → base ≤ k ∧ k < w.heap.size := by
  intro k hk
  rcases h.2 with ⟨rfl, _⟩ | ⟨g, f, cap, cur, rfl, hb, hg, _⟩
  · simp [Value.ownBlock] at hk
  · simp [Value.ownBlock] at hk
    subst hk
    exact ⟨hb, (Array.getElem?_eq_some_iff.1 hg).1⟩
/-- A number that a key may hold. -/
def wf64 (n : Int) : Prop := (Lit.int .i64 n).wf = true
/-- A map's entries: the keys are pairs of numbers, each once. -/
def mapOk (arr : List MapEntry) (f : Int → Int → Option Int) : Prop :=
  (arr.map (·.key)).Nodup ∧ (∀ x ∈ arr, ∃ a b v, x.key = .agg #[.int .i64 a, .int .i64 b] ∧ x.val = .int .i64 v ∧ f a b = some v ∧ wf64 a ∧ wf64 b) ∧ ∀ a b v, f a b = some v → ∃ x ∈ arr, x.key = .agg #[.int .i64 a, .int .i64 b]
/-- What an object stands for. -/
def ObOk (M : Mem) (base o : Nat) : Ob → Prop
  | .arr _ ty sz rows t => 0 < sz ∧ (∀ r ∈ rows, r.length = sz) ∧ ∃ cs, ownsAt M.w base ty sz (M.hv o) rows.length cs ∧ all2 (repO M t) rows.flatten cs
  | .fro .. => True
  | .box ty cells => ∃ g cs, M.hv o = .pointer (some ⟨g, 0, none⟩) ∧ base ≤ g ∧ M.w.heap[g]? = some (.cells cs ty (0, 0)) ∧ all2 (vrep M) cells cs.toList
  | .mp f => ∃ g arr clock, M.hv o = .map (some g) ∧ base ≤ g ∧ M.w.heap[g]? = some (.map arr clock) ∧ mapOk arr.toList f
structure Ok (M : Mem) (base : Nat) : Prop where
  low : base ≤ M.w.heap.size
  lt : ∀ t k, M.fz t k → k < M.w.heap.size
  fresh : ∀ t k, 1 ≤ t → M.fz t k → base ≤ k
  up0 : ∀ t k, M.fz t k → M.fz 0 k
  up1 : ∀ t k, 1 ≤ t → M.fz t k → M.fz 1 k
  ob : ∀ o x, M.H o = some x → ObOk M base o x
  apart : ∀ o x k t, M.H o = some x → x.mut = true → blk? (M.hv o) = some k → ¬ M.fz t k
  diff : ∀ o o' x x' k, M.H o = some x → M.H o' = some x' → x.mut = true → x'.mut = true → o ≠ o' → blk? (M.hv o) = some k → blk? (M.hv o') ≠ some k

theorem ownsAt_same {w w' : World} {base : Nat} {e : TypeId} {sz n : Nat} {v : Value} {xs : List Value} (h : ownsAt w base e sz v n xs) (hb : ∀ k, blk? v = some k → w'.heap[k]? = w.heap[k]?) : ownsAt w' base e sz v n xs := by
  obtain ⟨h1, h2⟩ := h
  refine ⟨h1, h2.imp id ?_⟩
  rintro ⟨g, f, cap, cur, rfl, h3, h4, h5⟩
  exact ⟨g, f, cap, cur, rfl, h3, (hb g rfl).trans h4, h5⟩
theorem ObOk.blk {M : Mem} {base o : Nat} {x : Ob} (h : ObOk M base o x) (hm : x.mut = true) : ∀ k, blk? (M.hv o) = some k → base ≤ k ∧ k < M.w.heap.size := by
  intro k hk
  cases x with
  | arr e ty sz rows t =>
    obtain ⟨_, _, cs, ho, _⟩ := h
    rcases ho.2 with ⟨e1, _⟩ | ⟨g, f, cap, cur, e1, h3, h4, _⟩
    · rw [e1] at hk; simp [blk?] at hk
    · rw [e1] at hk; simp only [blk?, Option.some.injEq] at hk; subst hk
      exact ⟨h3, by obtain ⟨hh, _⟩ := Array.getElem?_eq_some_iff.mp h4; exact hh⟩
  | fro => simp [Ob.mut] at hm
  | box ty cells =>
    obtain ⟨g, cs, e1, h3, h4, _⟩ := h
    rw [e1] at hk; simp only [blk?, Option.some.injEq] at hk; subst hk
    exact ⟨h3, by obtain ⟨hh, _⟩ := Array.getElem?_eq_some_iff.mp h4; exact hh⟩
  | mp f =>
    obtain ⟨g, arr, clock, e1, h3, h4, _⟩ := h
    rw [e1] at hk; simp only [blk?, Option.some.injEq] at hk; subst hk
    exact ⟨h3, by obtain ⟨hh, _⟩ := Array.getElem?_eq_some_iff.mp h4; exact hh⟩
theorem Goes.refl {M M' : Mem} {o : Nat} (x : Ob) (h : M'.hv o = M.hv o) : Goes M M' o x x := by
  cases x
  · exact .inr ⟨rfl, h, rfl, rfl⟩
  · exact ⟨rfl, rfl, rfl⟩
  · exact h
  · exact h
theorem ObOk.step {M M' : Mem} {base o : Nat} {x : Ob} (h : ObOk M base o x) (hs : Step M M') (hv : M'.hv o = M.hv o) (hb : ∀ k, blk? (M.hv o) = some k → M'.w.heap[k]? = M.w.heap[k]?) : ObOk M' base o x := by
  cases x with
  | arr e ty sz rows t =>
    obtain ⟨h1, h2, cs, ho, ha⟩ := h
    refine ⟨h1, h2, cs, ?_, all2_mono (fun p v _ hp => repO_step hs hp) ha⟩
    rw [hv]; exact ownsAt_same ho hb
  | fro => trivial
  | box ty cells =>
    obtain ⟨g, cs, e1, h3, h4, h5⟩ := h
    exact ⟨g, cs, hv.trans e1, h3, (hb g (by rw [e1]; rfl)).trans h4, all2_mono (fun p v _ hp => vrep_step hs p v hp) h5⟩
  | mp f =>
    obtain ⟨g, arr, clock, e1, h3, h4, h5⟩ := h
    exact ⟨g, arr, clock, hv.trans e1, h3, (hb g (by rw [e1]; rfl)).trans h4, h5⟩

/-- One object changes (or is new); all else stays. -/
theorem touch {M M' : Mem} {base o : Nat} (hok : Ok M base) (x' : Ob) (hH : M'.H = M.H.upd o x') (hhv : ∀ k, k ≠ o → M'.hv k = M.hv k) (hfz : M'.fz = M.fz) (hsz : M.w.heap.size ≤ M'.w.heap.size)
    (hheap : ∀ k, k < M.w.heap.size → (∀ x, M.H o = some x → x.mut = true → blk? (M.hv o) ≠ some k) → M'.w.heap[k]? = M.w.heap[k]?)
    (hgo : ∀ x, M.H o = some x → Goes M M' o x x')
    (hblk : x'.mut = true → ∀ k, blk? (M'.hv o) = some k → M.w.heap.size ≤ k ∨ ∃ x, M.H o = some x ∧ x.mut = true ∧ blk? (M.hv o) = some k)
    (hob : Step M M' → ObOk M' base o x') : Step M M' ∧ Ok M' base := by
  have hs : Step M M' := by
    refine ⟨fun t k hk => ⟨hheap k (hok.lt t k hk) (fun x hx hm hb => hok.apart o x k t hx hm hb hk), by rw [hfz]; exact hk⟩, fun o' x hx => ?_⟩
    by_cases h : o' = o
    · subst h; exact ⟨x', by rw [hH, Heap.upd_same], hgo x hx⟩
    · exact ⟨x, by rw [hH, Heap.upd_ne _ _ h]; exact hx, Goes.refl x (hhv o' h)⟩
  refine ⟨hs, ⟨Nat.le_trans hok.low hsz, fun t k hk => ?_, fun t k ht hk => ?_, fun t k hk => ?_, fun t k ht hk => ?_, fun o' x hx => ?_, fun o' x k t hx hm hb hk => ?_, fun o1 o2 x1 x2 k h1 h2 m1 m2 hne hb1 hb2 => ?_⟩⟩
  · rw [hfz] at hk; exact Nat.lt_of_lt_of_le (hok.lt t k hk) hsz
  · rw [hfz] at hk; exact hok.fresh t k ht hk
  · rw [hfz] at hk ⊢; exact hok.up0 t k hk
  · rw [hfz] at hk ⊢; exact hok.up1 t k ht hk
  · by_cases h : o' = o
    · subst h; rw [hH, Heap.upd_same] at hx; cases hx; exact hob hs
    · rw [hH, Heap.upd_ne _ _ h] at hx
      have ho := hok.ob o' x hx
      by_cases hm : x.mut = true
      · exact ho.step hs (hhv o' h) (fun k hk => hheap k (ho.blk hm k hk).2 (fun y hy hym hyb => hok.diff o' o x y k hx hy hm hym h hk hyb))
      · cases x <;> first | (exact absurd rfl hm) | trivial
  · rw [hfz] at hk
    by_cases h : o' = o
    · subst h; rw [hH, Heap.upd_same] at hx; cases hx
      rcases hblk hm k hb with h1 | ⟨y, hy, hym, hyb⟩
      · have := hok.lt t k hk; omega
      · exact hok.apart o' y k t hy hym hyb hk
    · rw [hH, Heap.upd_ne _ _ h] at hx
      rw [hhv o' h] at hb
      exact hok.apart o' x k t hx hm hb hk
  · have key : ∀ o' x k, o' ≠ o → M.H o' = some x → x.mut = true → blk? (M.hv o') = some k → x'.mut = true → blk? (M'.hv o) ≠ some k := by
      intro o' x k h hx hm hb hm' hb'
      rcases hblk hm' k hb' with h1 | ⟨y, hy, hym, hyb⟩
      · have := ((hok.ob o' x hx).blk hm k hb).2; omega
      · exact hok.diff o' o x y k hx hy hm hym h hb hyb
    rw [hH] at h1 h2
    by_cases e1 : o1 = o
    · subst e1
      rw [Heap.upd_same] at h1; cases h1
      have e2 : o2 ≠ o1 := fun e => hne e.symm
      rw [Heap.upd_ne _ _ e2] at h2
      rw [hhv o2 e2] at hb2
      exact key o2 x2 k e2 h2 m2 hb2 m1 hb1
    · rw [Heap.upd_ne _ _ e1] at h1
      rw [hhv o1 e1] at hb1
      by_cases e2 : o2 = o
      · subst e2
        rw [Heap.upd_same] at h2; cases h2
        exact key o1 x1 k e1 h1 m1 hb1 m2 hb2
      · rw [Heap.upd_ne _ _ e2] at h2
        rw [hhv o2 e2] at hb2
        exact hok.diff o1 o2 x1 x2 k h1 h2 m1 m2 hne hb1 hb2
/-- Nothing changes but what the world counts, or blocks are added. -/
theorem quiet {M M' : Mem} {base : Nat} (hok : Ok M base) (hH : M'.H = M.H) (hhv : M'.hv = M.hv) (hfz : M'.fz = M.fz) (hsz : M.w.heap.size ≤ M'.w.heap.size) (hheap : ∀ k, k < M.w.heap.size → M'.w.heap[k]? = M.w.heap[k]?) : Step M M' ∧ Ok M' base := by
  have hs : Step M M' := ⟨fun t k hk => ⟨hheap k (hok.lt t k hk), by rw [hfz]; exact hk⟩, fun o x hx => ⟨x, by rw [hH]; exact hx, Goes.refl x (by rw [hhv])⟩⟩
  refine ⟨hs, ⟨Nat.le_trans hok.low hsz, fun t k hk => ?_, fun t k ht hk => ?_, fun t k hk => ?_, fun t k ht hk => ?_, fun o x hx => ?_, fun o x k t hx hm hb hk => ?_, fun o1 o2 x1 x2 k h1 h2 m1 m2 hne hb1 hb2 => ?_⟩⟩
  · rw [hfz] at hk; exact Nat.lt_of_lt_of_le (hok.lt t k hk) hsz
  · rw [hfz] at hk; exact hok.fresh t k ht hk
  · rw [hfz] at hk ⊢; exact hok.up0 t k hk
  · rw [hfz] at hk ⊢; exact hok.up1 t k ht hk
  · rw [hH] at hx
    have ho := hok.ob o x hx
    by_cases hm : x.mut = true
    · exact ho.step hs (by rw [hhv]) (fun k hk => hheap k (ho.blk hm k hk).2)
    · cases x <;> first | (exact absurd rfl hm) | trivial
  · rw [hH] at hx; rw [hhv] at hb; rw [hfz] at hk; exact hok.apart o x k t hx hm hb hk
  · rw [hH] at h1 h2; rw [hhv] at hb1 hb2; exact hok.diff o1 o2 x1 x2 k h1 h2 m1 m2 hne hb1 hb2
theorem Step.refl (M : Mem) : Step M M := ⟨fun _ _ h => ⟨rfl, h⟩, fun o x h => ⟨x, h, Goes.refl x rfl⟩⟩
theorem Goes.trans {A B C : Mem} {o : Nat} {x y z : Ob} (h : Goes A B o x y) (g : Goes B C o y z) : Goes A C o x z := by
  cases x <;> cases y <;> simp only [Goes] at h <;> try exact h.elim
  · cases z <;> simp only [Goes] at g <;> try exact g.elim
    · simp only [Goes]
      rcases h with h | ⟨h1, h2, h3, h4⟩
      · rcases g with g | ⟨g1, _⟩
        · exact .inl (by omega)
        · exact .inl (by omega)
      · rcases g with g | ⟨g1, g2, g3, g4⟩
        · exact .inl (by omega)
        · exact .inr ⟨h1.trans g1, g2.trans h2, g3.trans h3, g4.trans h4⟩
    · simp only [Goes]
      rcases h with h | ⟨h1, _⟩ <;> omega
  · cases z <;> simp only [Goes] at g <;> try exact g.elim
    simp only [Goes]
    have := g.1
    omega
  · cases z <;> simp only [Goes] at g <;> try exact g.elim
    exact ⟨h.1.trans g.1, g.2.1.trans h.2.1, g.2.2.trans h.2.2⟩
  · cases z <;> simp only [Goes] at g <;> try exact g.elim
    exact g.trans h
  · cases z <;> simp only [Goes] at g <;> try exact g.elim
    exact g.trans h
theorem Step.trans {A B C : Mem} (h : Step A B) (g : Step B C) : Step A C :=
  ⟨fun t k hk => ⟨((g.fz t k (h.fz t k hk).2).1).trans (h.fz t k hk).1, (g.fz t k (h.fz t k hk).2).2⟩, fun o x hx => by
    obtain ⟨y, hy, g1⟩ := h.ob o x hx
    obtain ⟨z, hz, g2⟩ := g.ob o y hy
    exact ⟨z, hz, g1.trans g2⟩⟩
theorem fz_ftag {M : Mem} {base : Nat} (hok : Ok M base) {t k : Nat} (h : M.fz t k) : M.fz (ftag t) k := by
  unfold ftag; split
  · exact hok.up0 t k h
  · exact h
theorem all2_repO {M : Mem} {base : Nat} (hok : Ok M base) {t : Nat} {ps : List PV} {vs : List Value} (h : all2 (rep M.w (M.fz t)) ps vs) : all2 (repO M t) ps vs :=
  all2_mono (fun p v _ q => repO_of (rep_mono (fun k hk => ⟨rfl, fz_ftag hok hk⟩) p v q)) h
end Go.Big
