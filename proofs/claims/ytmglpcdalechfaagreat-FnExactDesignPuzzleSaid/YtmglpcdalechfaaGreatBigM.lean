/- Maps from pairs of numbers to numbers. No condition. -/
import Derived.Test.YtmglpcdalechfaaGreatBig14
import Derived.WideKeyMaps2
set_option linter.unusedVariables false
set_option linter.unusedSimpArgs false
namespace Go.Big
variable {P : Program}
/-- The type of such a map: its keys are told apart. -/
def CellMap (P : Program) (t : TypeId) : Prop := ∃ k e i, P.underlying t = some (.map k e) ∧ WideMaps.KeyLaw P k ∧ (∀ a b : Int, wf64 a → wf64 b → ∃ l, keyOf P k (.agg #[.int .i64 a, .int .i64 b]) = some l) ∧ P.info? e = some i ∧ i.zero = some (.int .i64 0)
def putM (f : Int → Int → Option Int) (a b v : Int) : Int → Int → Option Int := fun x y => if x = a ∧ y = b then some v else f x y
inductive MapStep (P : Program) (H : Heap) (n : Nat) (ρ : Operand → AV) : Op → AV → Heap → Prop where
  | new (t : TypeId) : MapStep P H n ρ (.makeMap t none) (.own n 0) (H.upd n (.mp fun _ _ => none))
  | put (t : TypeId) (m k x : Operand) (q e : Nat) (f : Int → Int → Option Int) (a b v : Int) : CellMap P t → ρ m = .own q e → H q = some (.mp f) → ρ k = .ag [.i .i64 a, .i .i64 b] → wf64 a → wf64 b → ρ x = .i .i64 v →
      MapStep P H n ρ (.mapUpdate t m k x) .un (H.upd q (.mp (putM f a b v)))
  | get (t : TypeId) (m k : Operand) (q e : Nat) (f : Int → Int → Option Int) (a b : Int) : CellMap P t → ρ m = .own q e → H q = some (.mp f) → ρ k = .ag [.i .i64 a, .i .i64 b] → wf64 a → wf64 b →
      MapStep P H n ρ (.lookup t m k true) (.tup [.i .i64 ((f a b).getD 0), .b (f a b).isSome]) H
theorem cell_inj {a b c d : Int} (h : (Value.agg #[.int .i64 a, .int .i64 b]) = .agg #[.int .i64 c, .int .i64 d]) : a = c ∧ b = d := by
  simpa using h
theorem mapOk_none {arr : List MapEntry} {f : Int → Int → Option Int} {a b : Int} (h : mapOk arr f) (hn : ∀ x ∈ arr, x.key ≠ .agg #[.int .i64 a, .int .i64 b]) : f a b = none := by
  cases q : f a b with
  | none => rfl
  | some v =>
    obtain ⟨x, hx, hk⟩ := h.2.2 a b v q
    exact absurd hk (hn x hx)
theorem mapOk_some {arr : List MapEntry} {f : Int → Int → Option Int} {a b : Int} {x : MapEntry} (h : mapOk arr f) (hx : x ∈ arr) (hk : x.key = .agg #[.int .i64 a, .int .i64 b]) : ∃ v, x.val = .int .i64 v ∧ f a b = some v := by
  obtain ⟨c, d, v, h1, h2, h3, _⟩ := h.2.1 x hx
  rw [hk] at h1
  obtain ⟨rfl, rfl⟩ := cell_inj h1
  exact ⟨v, h2, h3⟩
theorem mapOk_push {arr : List MapEntry} {f : Int → Int → Option Int} {a b v : Int} {c : Nat} (h : mapOk arr f) (ha : wf64 a) (hb : wf64 b) (hn : ∀ x ∈ arr, x.key ≠ .agg #[.int .i64 a, .int .i64 b]) : mapOk (arr ++ [⟨.agg #[.int .i64 a, .int .i64 b], .int .i64 v, c⟩]) (putM f a b v) := by
  refine ⟨?_, ?_, ?_⟩
  · rw [List.map_append, List.nodup_append]
    refine ⟨h.1, by simp, ?_⟩
    intro x hx y hy
    simp only [List.map_cons, List.map_nil, List.mem_singleton] at hy
    obtain ⟨z, hz, rfl⟩ := List.mem_map.mp hx
    rw [hy]; exact hn z hz
  · intro x hx
    rcases List.mem_append.mp hx with hx2 | hx
    · obtain ⟨c, d, u, h1, h2, h3, h4⟩ := h.2.1 x hx2
      refine ⟨c, d, u, h1, h2, ?_, h4⟩
      unfold putM
      rw [if_neg]
      · exact h3
      · rintro ⟨rfl, rfl⟩; exact hn x hx2 h1
    · simp only [List.mem_singleton] at hx; subst hx
      exact ⟨a, b, v, rfl, rfl, by simp [putM], ha, hb⟩
  · intro c d u hu
    unfold putM at hu
    split at hu
    · rename_i q; obtain ⟨rfl, rfl⟩ := q
      exact ⟨_, List.mem_append_right _ (List.mem_singleton.mpr rfl), rfl⟩
    · obtain ⟨x, hx, hk⟩ := h.2.2 c d u hu
      exact ⟨x, List.mem_append_left _ hx, hk⟩
theorem mapOk_modify {arr : List MapEntry} {f : Int → Int → Option Int} {a b v : Int} {j : Nat} {e0 : MapEntry} (h : mapOk arr f) (ha : wf64 a) (hb : wf64 b) (hj : arr[j]? = some e0) (hk : e0.key = .agg #[.int .i64 a, .int .i64 b]) :
    mapOk (arr.set j { e0 with key := .agg #[.int .i64 a, .int .i64 b], val := .int .i64 v }) (putM f a b v) := by
  have hjl := (List.getElem?_eq_some_iff.mp hj).1
  have hkeys : (arr.set j { e0 with key := .agg #[.int .i64 a, .int .i64 b], val := .int .i64 v }).map (·.key) = arr.map (·.key) := by
    apply List.ext_getElem?
    intro i
    rw [List.getElem?_map, List.getElem?_map, List.getElem?_set]
    by_cases c : j = i
    · subst c; rw [if_pos rfl, if_pos hjl, hj]; simp [hk]
    · rw [if_neg c]
  refine ⟨by rw [hkeys]; exact h.1, ?_, ?_⟩
  · intro x hx
    obtain ⟨i, hi⟩ := List.mem_iff_getElem?.mp hx
    rw [List.getElem?_set] at hi
    by_cases c : j = i
    · rw [if_pos c, if_pos hjl] at hi
      simp only [Option.some.injEq] at hi; subst hi
      exact ⟨a, b, v, rfl, rfl, by simp [putM], ha, hb⟩
    · rw [if_neg c] at hi
      obtain ⟨p, q, u, h1, h2, h3, h4⟩ := h.2.1 x (List.mem_of_getElem? hi)
      refine ⟨p, q, u, h1, h2, ?_, h4⟩
      unfold putM
      rw [if_neg]
      · exact h3
      · rintro ⟨rfl, rfl⟩
        have e1 : (arr.map (·.key))[i]? = some x.key := by rw [List.getElem?_map, hi]; rfl
        have e2 : (arr.map (·.key))[j]? = some x.key := by rw [List.getElem?_map, hj, h1, ← hk]; rfl
        have hil := (List.getElem?_eq_some_iff.mp e1).1
        exact c ((List.getElem?_inj (by simpa using hjl) h.1).mp (e2.trans e1.symm))
  · intro c d u hu
    unfold putM at hu
    split at hu
    · rename_i q; obtain ⟨rfl, rfl⟩ := q
      exact ⟨_, List.mem_of_getElem? (i := j) (by rw [List.getElem?_set, if_pos rfl, if_pos hjl]), rfl⟩
    · rename_i q
      obtain ⟨x, hx, hkx⟩ := h.2.2 c d u hu
      obtain ⟨i, hi⟩ := List.mem_iff_getElem?.mp hx
      by_cases e : j = i
      · subst e
        rw [hj] at hi; cases hi
        rw [hk] at hkx
        obtain ⟨rfl, rfl⟩ := cell_inj hkx
        exact absurd ⟨rfl, rfl⟩ q
      · exact ⟨x, List.mem_of_getElem? (i := i) (by rw [List.getElem?_set, if_neg e]; exact hi), hkx⟩
theorem mapStep_ok {M : Mem} {base n : Nat} (hok : Ok M base) (hn : M.H n = none) {ρ : Operand → AV} {ev : Operand → Value} (hρ : ∀ x, vrep M (ρ x) (ev x)) (o : Oper) {y : AV} {H' : Heap} (h : MapStep P M.H n ρ o.op y H') :
    ∃ v w', ((execOp ev o).run P M.w = .ok (.value v) w' ∨ (execOp ev o).run P M.w = .ok .skip w' ∧ v = undef) ∧ To M base H' y w' v := by
  generalize hop : o.op = op at h
  cases h with
  | new t =>
    refine ⟨.map (some M.w.heap.size), M.w.alloc (.map #[] 0), .inl ?_, ?_⟩
    · unfold execOp
      rw [hop]
      simp [Instr.makeMap]
    · let M' : Mem := { w := M.w.alloc (.map #[] 0), fz := M.fz, hv := setF M.hv n (.map (some M.w.heap.size)), H := M.H.upd n (.mp fun _ _ => none) }
      have hnew : M'.w.heap[M.w.heap.size]? = some (.map #[] 0) := heap_alloc_new M.w _
      have hsame : ∀ k, k < M.w.heap.size → M'.w.heap[k]? = M.w.heap[k]? := fun k hk => by
        show (M.w.heap.push _)[k]? = _
        rw [Array.getElem?_push_lt hk]; simp [hk]
      have hh : M'.hv n = .map (some M.w.heap.size) := setF_same _ _ _
      obtain ⟨hs, hok'⟩ := touch (M' := M') (o := n) hok (.mp fun _ _ => none) rfl (fun k hk => setF_ne _ _ hk) rfl (by show _ ≤ (M.w.heap.push _).size; simp) (fun k hk _ => hsame k hk) (fun x hx => by rw [hn] at hx; simp at hx)
        (fun _ k hk => by rw [hh] at hk; simp only [blk?, Option.some.injEq] at hk; exact .inl (by omega))
        (fun hs => ⟨_, #[], 0, hh, hok.low, hnew, ⟨by simp, by simp, by simp⟩⟩)
      refine ⟨⟨M', rfl, rfl, rfl, hs, hok', ⟨_, Heap.upd_same _ _ _, hh.symm⟩⟩, ?_⟩
      exact ⟨rfl, rfl, rfl, by show _ ≤ (M.w.heap.push _).size; simp, fun k hk => hsame k (Nat.lt_of_lt_of_le hk hok.low), Nat.le_refl _⟩
  | put t m k x q e f a b v hc hm hq hk hwa hwb hx =>
    obtain ⟨kt, et, i, hu, K, hkey, _⟩ := hc
    have h1 := hρ m
    rw [hm] at h1
    obtain ⟨x0, hx0, hmv⟩ := h1
    rw [hq] at hx0; cases hx0
    replace hmv : ev m = M.hv q := hmv
    obtain ⟨g, arr, clock, e1, e2, e3, e4⟩ := hok.ob q _ hq
    have h2 := hρ k
    rw [hk] at h2
    obtain ⟨ks, ek, hks⟩ := h2
    have hks' : ks.toList = [.int .i64 a, .int .i64 b] := by
      obtain ⟨v1, r1, g1, g2, v2, r2, g3, g4, g5⟩ := hks
      rw [g1, g3]
      obtain rfl : v1 = .int .i64 a := g2
      obtain rfl : v2 = .int .i64 b := g4
      have : r2 = [] := g5
      rw [this]
    have hks2 : ks = #[.int .i64 a, .int .i64 b] := Array.toList_inj.mp hks'
    subst hks2
    have h3 := hρ x
    rw [hx] at h3
    replace h3 : ev x = .int .i64 v := h3
    obtain ⟨kl, hkl⟩ := hkey a b hwa hwb
    have hall : ∀ z ∈ arr.toList, ∃ l, keyOf P kt z.key = some l := fun z hz => by
      obtain ⟨c, d, u, h5, _, _, h6, h7⟩ := e4.2.1 z hz
      rw [h5]; exact hkey c d h6 h7
    have fin : ∀ (arr' : Array MapEntry) (clock' : Nat), mapOk arr'.toList (putM f a b v) → (Instr.mapUpdate t (.map (some g)) (.agg #[.int .i64 a, .int .i64 b]) (.int .i64 v)).run P M.w = .ok () { M.w with heap := M.w.heap.setIfInBounds g (.map arr' clock') } →
        ∃ v' w', ((execOp ev o).run P M.w = .ok (.value v') w' ∨ (execOp ev o).run P M.w = .ok .skip w' ∧ v' = undef) ∧ To M base (M.H.upd q (.mp (putM f a b v))) .un w' v' := by
      intro arr' clock' hmo hrun
      refine ⟨undef, { M.w with heap := M.w.heap.setIfInBounds g (.map arr' clock') }, .inr ⟨?_, rfl⟩, ?_⟩
      · unfold execOp
        rw [hop]
        simp only [hmv, e1, ek, h3, Sem.run_bind, hrun, Result.andThen_ok, Sem.run_pure]
      · let M' : Mem := { w := { M.w with heap := M.w.heap.setIfInBounds g (.map arr' clock') }, fz := M.fz, hv := M.hv, H := M.H.upd q (.mp (putM f a b v)) }
        have hgl := (Array.getElem?_eq_some_iff.mp e3).1
        have hother : ∀ k, k ≠ g → M'.w.heap[k]? = M.w.heap[k]? := fun k hk => by
          show (M.w.heap.setIfInBounds g _)[k]? = _
          rw [Array.getElem?_setIfInBounds_ne (fun e => hk e.symm)]
        obtain ⟨hs, hok'⟩ := touch (M' := M') (o := q) hok (.mp (putM f a b v)) rfl (fun _ _ => rfl) rfl (by simp [M']) (fun k _ hk => hother k (fun e' => hk _ hq rfl (by rw [e1, e']; rfl)))
          (fun x hx' => by rw [hq] at hx'; cases hx'; exact rfl) (fun _ k hk => .inr ⟨_, hq, rfl, hk⟩)
          (fun hs => ⟨g, arr', clock', e1, e2, by show (M.w.heap.setIfInBounds g _)[g]? = _; rw [Array.getElem?_setIfInBounds_self_of_lt hgl], hmo⟩)
        exact ⟨⟨M', rfl, rfl, rfl, hs, hok', trivial⟩, ⟨rfl, rfl, rfl, by simp, fun k hk => hother k (by omega), Nat.le_refl _⟩⟩
    rcases K.find M.w hkl arr.toList hall with ⟨g1, g2⟩ | ⟨j, e0, g1, g2, g3⟩
    · refine fin (arr.push ⟨.agg #[.int .i64 a, .int .i64 b], .int .i64 v, clock⟩) (clock + 1) (by rw [Array.toList_push]; exact mapOk_push e4 hwa hwb g2) ?_
      simp [Instr.mapUpdate, run_underlying hu, MapKept.run_getObj_map e3, K.check M.w false hkl, g1, MapKept.run_setObj_map _ e3, Result.andThen]
    · have hj : arr[j]? = some e0 := by simpa using g2
      refine fin (arr.modify j fun e' => { e' with key := .agg #[.int .i64 a, .int .i64 b], val := .int .i64 v }) clock ?_ ?_
      · rw [Array.toList_modify, _root_.Go.ChangeMaps.modify_eq_set _ _ _ _ g2]
        exact mapOk_modify e4 hwa hwb g2 g3
      · simp [Instr.mapUpdate, run_underlying hu, MapKept.run_getObj_map e3, K.check M.w false hkl, g1, hj, g3, K.stays M.w hkl, MapKept.run_setObj_map _ e3, Result.andThen]
  | get t m k q e f a b hc hm hq hk hwa hwb =>
    obtain ⟨kt, et, i, hu, K, hkey, hi, hz⟩ := hc
    have h1 := hρ m
    rw [hm] at h1
    obtain ⟨x0, hx0, hmv⟩ := h1
    rw [hq] at hx0; cases hx0
    replace hmv : ev m = M.hv q := hmv
    obtain ⟨g, arr, clock, e1, e2, e3, e4⟩ := hok.ob q _ hq
    have h2 := hρ k
    rw [hk] at h2
    obtain ⟨ks, ek, hks⟩ := h2
    have hks' : ks.toList = [.int .i64 a, .int .i64 b] := by
      obtain ⟨v1, r1, g1, g2, v2, r2, g3, g4, g5⟩ := hks
      rw [g1, g3]
      obtain rfl : v1 = .int .i64 a := g2
      obtain rfl : v2 = .int .i64 b := g4
      have : r2 = [] := g5
      rw [this]
    have hks2 : ks = #[.int .i64 a, .int .i64 b] := Array.toList_inj.mp hks'
    subst hks2
    obtain ⟨kl, hkl⟩ := hkey a b hwa hwb
    have hall : ∀ z ∈ arr.toList, ∃ l, keyOf P kt z.key = some l := fun z hz => by
      obtain ⟨c, d, u, h5, _, _, h6, h7⟩ := e4.2.1 z hz
      rw [h5]; exact hkey c d h6 h7
    have hzr : (zeroValue et).run P M.w = .ok (.int .i64 0) M.w := by
      simp [zeroValue, run_typeInfo M.w hi, hz]
    refine ⟨.tuple #[.int .i64 ((f a b).getD 0), .bool (f a b).isSome], M.w, .inl ?_, To.same hok ⟨_, rfl, ⟨_, _, rfl, rfl, _, _, rfl, rfl, rfl⟩⟩⟩
    unfold execOp
    rw [hop]
    rcases K.find M.w hkl arr.toList hall with ⟨g1, g2⟩ | ⟨j, e0, g1, g2, g3⟩
    · simp [hmv, e1, ek, Instr.lookup, run_underlying hu, MapKept.run_getObj_map e3, K.check M.w _ hkl, g1, hzr, Result.andThen, mapOk_none e4 g2]
    · obtain ⟨u, h5, h6⟩ := mapOk_some e4 (List.mem_of_getElem? g2) g3
      simp [hmv, e1, ek, Instr.lookup, run_underlying hu, MapKept.run_getObj_map e3, K.check M.w _ hkl, g1, Result.andThen, h5, h6]
end Go.Big
