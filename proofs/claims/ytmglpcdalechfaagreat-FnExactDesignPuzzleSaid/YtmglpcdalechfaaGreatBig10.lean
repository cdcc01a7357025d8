/- Operations that make or change memory. No condition. -/
import Derived.Test.YtmglpcdalechfaaGreatBig9
import Derived.Laws.MakeOwn
import Derived.Laws.OwnMore
import Derived.Laws.AppendOwnNone
import Derived.Laws.CopyRow
set_option linter.unusedVariables false
set_option linter.unusedSimpArgs false
namespace Go.Big
variable {P : Program}

/-- What a run leaves: what lies below is as it was, and no draw is taken back. -/
structure Below (B : Nat) (w w' : World) : Prop where
  os : w'.os = w.os
  tape : w'.tape = w.tape
  output : w'.output = w.output
  size : w.heap.size ≤ w'.heap.size
  block : ∀ k, k < B → w'.heap[k]? = w.heap[k]?
  drawn : w.drawn ≤ w'.drawn
theorem Below.refl (B : Nat) (w : World) : Below B w w := ⟨rfl, rfl, rfl, Nat.le_refl _, fun _ _ => rfl, Nat.le_refl _⟩
theorem Below.trans {B : Nat} {a b c : World} (h : Below B a b) (k : Below B b c) : Below B a c :=
  ⟨k.os.trans h.os, k.tape.trans h.tape, k.output.trans h.output, Nat.le_trans h.size k.size, fun i hi => (k.block i hi).trans (h.block i hi), Nat.le_trans h.drawn k.drawn⟩
theorem Below.kit {B : Nat} {w w' : World} (h : Below B w w') : Go.RowKit.Below B w w' := ⟨h.os, h.tape, h.output, h.size, h.block⟩
/-- What a step leads to: memory goes on, all old blocks below the call's own are as they were, the value is what it should be. -/
structure To (M : Mem) (base : Nat) (H' : Heap) (y : AV) (w' : World) (v : Value) : Prop where
  ex : ∃ M' : Mem, M'.w = w' ∧ M'.H = H' ∧ M'.fz = M.fz ∧ Step M M' ∧ Ok M' base ∧ vrep M' y v
  below : Below base M.w w'
theorem heap_alloc (w : World) (o : Obj) : (w.alloc o).heap = w.heap.push o := rfl
def setF {α : Type} (f : Nat → α) (n : Nat) (x : α) : Nat → α := fun k => if k = n then x else f k
theorem setF_same {α : Type} (f : Nat → α) (n : Nat) (x : α) : setF f n x n = x := by simp [setF]
theorem setF_ne {α : Type} (f : Nat → α) {n k : Nat} (x : α) (h : k ≠ n) : setF f n x k = f k := by simp [setF, h]
/-- A new variable. -/
theorem to_box {M : Mem} {base n : Nat} (hok : Ok M base) (hn : M.H n = none) {t : TypeId} {l : List AV} {cs : Array Value} (hl : all2 (vrep M) l cs.toList) :
    To M base (M.H.upd n (.box t l)) (.ptr n 0 0 0) (M.w.alloc (.cells cs t)) (.pointer (some ⟨M.w.heap.size, 0, none⟩)) := by
  let M' : Mem := { w := M.w.alloc (.cells cs t), fz := M.fz, hv := setF M.hv n (.pointer (some ⟨M.w.heap.size, 0, none⟩)), H := M.H.upd n (.box t l) }
  have hnew : M'.w.heap[M.w.heap.size]? = some (.cells cs t (0, 0)) := heap_alloc_new M.w _
  have hsame : ∀ k, k < M.w.heap.size → M'.w.heap[k]? = M.w.heap[k]? := fun k hk => by
    show (M.w.heap.push _)[k]? = _
    rw [Array.getElem?_push_lt hk]; simp [hk]
  have hh : M'.hv n = .pointer (some ⟨M.w.heap.size, 0, none⟩) := setF_same _ _ _
  obtain ⟨hs, hok'⟩ := touch (M' := M') (o := n) hok (.box t l) rfl (fun k hk => setF_ne _ _ hk) rfl (by show _ ≤ (M.w.heap.push _).size; simp) (fun k hk _ => hsame k hk) (fun x hx => by rw [hn] at hx; simp at hx)
    (fun _ k hk => by rw [hh] at hk; simp only [blk?, Option.some.injEq] at hk; exact .inl (by omega))
    (fun hs => ⟨_, cs, hh, hok.low, hnew, all2_mono (fun x y _ h => vrep_step hs x y h) hl⟩)
  refine ⟨⟨M', rfl, rfl, rfl, hs, hok', ⟨_, Heap.upd_same _ _ _, _, hh, rfl⟩⟩, ?_⟩
  exact ⟨rfl, rfl, rfl, by show _ ≤ (M.w.heap.push _).size; simp, fun k hk => hsame k (Nat.lt_of_lt_of_le hk hok.low), Nat.le_refl _⟩
/-- A new array. -/
theorem to_arr {M : Mem} {base n : Nat} (hok : Ok M base) (hn : M.H n = none) {e : TypeId} {sz len cap : Nat} {rows : List (List PV)} {tg : Nat} {cs : List Value} {cur : Array Value} (h0 : 0 < sz) (hr : ∀ r ∈ rows, r.length = sz) (hlen : rows.length = len)
    (hcs : all2 (repO M tg) rows.flatten cs) (hc : len ≤ cap) (hm : cap ≤ maxLen) (hcur : cur.size = cap * sz) (ht : cur.toList.take (len * sz) = cs) :
    To M base (M.H.upd n (.arr 0 e sz rows tg)) (.own n 0) (M.w.alloc (.cells cur e)) (.slice (some ⟨M.w.heap.size, 0, none⟩) len cap) := by
  let M' : Mem := { w := M.w.alloc (.cells cur e), fz := M.fz, hv := setF M.hv n (.slice (some ⟨M.w.heap.size, 0, none⟩) len cap), H := M.H.upd n (.arr 0 e sz rows tg) }
  have hnew : M'.w.heap[M.w.heap.size]? = some (.cells cur e (0, 0)) := heap_alloc_new M.w _
  have hsame : ∀ k, k < M.w.heap.size → M'.w.heap[k]? = M.w.heap[k]? := fun k hk => by
    show (M.w.heap.push _)[k]? = _
    rw [Array.getElem?_push_lt hk]; simp [hk]
  have hh : M'.hv n = .slice (some ⟨M.w.heap.size, 0, none⟩) len cap := setF_same _ _ _
  have hfl : ∀ {rows : List (List PV)}, (∀ r ∈ rows, r.length = sz) → rows.flatten.length = rows.length * sz := by
    intro rows
    induction rows with
    | nil => intro _; simp
    | cons r rs ih => intro h; rw [List.flatten_cons, List.length_append, ih (fun x hx => h x (List.mem_cons_of_mem _ hx)), h r List.mem_cons_self, List.length_cons, Nat.add_mul]; omega
  obtain ⟨hs, hok'⟩ := touch (M' := M') (o := n) hok (.arr 0 e sz rows tg) rfl (fun k hk => setF_ne _ _ hk) rfl (by show _ ≤ (M.w.heap.push _).size; simp) (fun k hk _ => hsame k hk) (fun x hx => by rw [hn] at hx; simp at hx)
    (fun _ k hk => by rw [hh] at hk; simp only [blk?, Option.some.injEq] at hk; exact .inl (by omega))
    (fun hs => ⟨h0, hr, cs, ⟨by rw [← all2_len hcs, hfl hr], .inr ⟨_, 0, cap, cur, by rw [hh, hlen], hok.low, hnew, by omega, hm, by omega, by rw [hlen]; exact ht⟩⟩, all2_mono (fun x y _ h => repO_step hs h) hcs⟩)
  refine ⟨⟨M', rfl, rfl, rfl, hs, hok', ⟨_, Heap.upd_same _ _ _, Nat.le_refl _, fun _ => hh.symm⟩⟩, ?_⟩
  exact ⟨rfl, rfl, rfl, by show _ ≤ (M.w.heap.push _).size; simp, fun k hk => hsame k (Nat.lt_of_lt_of_le hk hok.low), Nat.le_refl _⟩
theorem run_newRow {t : TypeId} {cs : Array Value} (w : World) : (newRow t cs).run P w = .ok ⟨w.heap.size, 0, none⟩ (w.alloc (.cells cs t)) := by
  rfl
/-- A leaf out of a slot's value. -/
def pvOf : AV → Option PV
  | .i k n => some (.i k n)
  | .b x => some (.b x)
  | .s x => some (.s x)
  | .sl _ rows => some (.sl rows)
  | .nil => some (.sl [])
  | .own o e => some (.ob o e)
  | _ => none
def tagOf : AV → Nat
  | .sl t _ => t
  | .own _ _ => 2
  | _ => 1
def joinT (a b : Nat) : Nat := if a = b then a else if a = 2 ∨ b = 2 then 2 else if a = 0 ∨ b = 0 then 0 else 1
theorem fz_join {M : Mem} {base : Nat} (hok : Ok M base) (a b k : Nat) : (M.fz (ftag a) k → M.fz (ftag (joinT a b)) k) ∧ (M.fz (ftag b) k → M.fz (ftag (joinT a b)) k) := by
  unfold joinT
  by_cases h : a = b
  · rw [if_pos h]; subst h; exact ⟨id, id⟩
  · rw [if_neg h]
    by_cases h2 : a = 2 ∨ b = 2
    · rw [if_pos h2]; exact ⟨hok.up0 _ _, hok.up0 _ _⟩
    · rw [if_neg h2]
      rw [ftag_ne (t := a) (fun e => h2 (.inl e)), ftag_ne (t := b) (fun e => h2 (.inr e))]
      by_cases h0 : a = 0 ∨ b = 0
      · rw [if_pos h0]; exact ⟨hok.up0 _ _, hok.up0 _ _⟩
      · rw [if_neg h0]
        have : 1 ≤ a ∧ 1 ≤ b := by omega
        exact ⟨hok.up1 _ _ this.1, hok.up1 _ _ this.2⟩
theorem join_2 (a b : Nat) : (a = 2 → joinT a b = 2) ∧ (b = 2 → joinT a b = 2) := by
  unfold joinT
  constructor
  · intro h; split <;> simp [h]
  · intro h; split <;> simp_all
theorem rep_join {M : Mem} {base : Nat} (hok : Ok M base) (a b : Nat) {p : PV} {v : Value} : (repO M a p v → repO M (joinT a b) p v) ∧ (repO M b p v → repO M (joinT a b) p v) :=
  ⟨repO_tag (fun k hk => (fz_join hok a b k).1 hk) (join_2 a b).1, repO_tag (fun k hk => (fz_join hok a b k).2 hk) (join_2 a b).2⟩
theorem pvOf_ok {M : Mem} {base : Nat} (hok : Ok M base) {x : AV} {p : PV} {v : Value} (hv : vrep M x v) (h1 : v.oneCell' = true) (h : pvOf x = some p) : repO M (tagOf x) p v := by
  cases x <;> simp only [pvOf, Option.some.injEq] at h <;> try (simp at h; done)
  case i => subst h; exact ⟨hv, fun e => by simp [noOb] at e⟩
  case b => subst h; exact ⟨hv, fun e => by simp [noOb] at e⟩
  case s => subst h; exact ⟨hv, fun e => by simp [noOb] at e⟩
  case sl => subst h; exact repO_of (rep_mono (fun k hk => ⟨rfl, fz_ftag hok hk⟩) _ v hv)
  case own => subst h; exact ⟨hv, fun _ => ⟨rfl, h1⟩⟩
  case nil => subst h; obtain rfl : v = _ := hv; exact ⟨⟨none, 0, rfl, Nat.le_refl _, fun h => absurd rfl h⟩, fun e => by simp [noOb] at e⟩
/-- Leaves out of a list of slots' values. -/
def pvsOf : List AV → Option (List PV × Nat)
  | [] => some ([], 1)
  | x :: xs => match pvOf x, pvsOf xs with
    | some p, some (ps, t) => some (p :: ps, joinT (tagOf x) t)
    | _, _ => none
theorem pvsOf_ok {M : Mem} {base : Nat} (hok : Ok M base) : ∀ {xs : List AV} {vs : List Value} {r : List PV × Nat}, all2 (vrep M) xs vs → (∀ u ∈ vs, u.oneCell' = true) → pvsOf xs = some r → all2 (repO M r.2) r.1 vs
  | [], [], r, _, _, h => by simp only [pvsOf, Option.some.injEq] at h; subst h; trivial
  | x :: xs, v :: vs, r, hv, hone, h => by
    simp only [pvsOf] at h
    split at h
    · rename_i p ps t h1 h2
      simp only [Option.some.injEq] at h; subst h
      exact ⟨(rep_join hok _ _).1 (pvOf_ok hok hv.1 (hone _ List.mem_cons_self) h1), all2_mono (fun a b _ q => (rep_join hok _ _).2 q) (pvsOf_ok hok hv.2 (fun u hu => hone u (List.mem_cons_of_mem _ hu)) h2)⟩
    · simp at h
  | [], _ :: _, _, h, _, _ => h.elim
  | _ :: _, [], _, h, _, _ => h.elim
theorem pvsOf_one : ∀ {vs : List Value} {r : List PV × Nat}, pvsOf (vs.map ofV) = some r → ∀ u ∈ vs, u.oneCell' = true
  | [], r, _, u, hu => by simp at hu
  | v :: vs, r, h, u, hu => by
    simp only [List.map_cons, pvsOf] at h
    split at h
    · rename_i p ps t h1 h2
      rcases List.mem_cons.mp hu with rfl | hu
      · unfold ofV at h1
        split at h1 <;> first | rfl | (simp [pvOf] at h1; done)
      · exact pvsOf_one h2 u hu
    · simp at h
theorem pvsOf_len : ∀ {xs : List AV} {r : List PV × Nat}, pvsOf xs = some r → r.1.length = xs.length
  | [], r, h => by simp only [pvsOf, Option.some.injEq] at h; subst h; rfl
  | x :: xs, r, h => by
    simp only [pvsOf] at h
    split at h
    · rename_i p ps t h1 h2
      simp only [Option.some.injEq] at h; subst h
      simpa using pvsOf_len h2
    · simp at h
/-- The elements of a literal: each part in its turn. -/
def litRows (H : Heap) (sz : Nat) : Nat → List (Nat × AV) → Option (List (List PV) × Nat)
  | _, [] => some ([], 1)
  | i, (j, x) :: rest => if i = j then (match flatA H x with
    | some l => if l.length = sz then (match pvsOf l, litRows H sz (i + 1) rest with
      | some (r, t), some (rs, t') => some (r :: rs, joinT t t')
      | _, _ => none) else none
    | none => none) else none
theorem litRows_ok {M : Mem} {base : Nat} (hok : Ok M base) {sz : Nat} : ∀ {parts : List (Nat × AV)} {vparts : List (Nat × Value)} {i : Nat} {r : List (List PV) × Nat} {pre : List Value} {ds : Array Value},
    all2 (fun (p : Nat × AV) (q : Nat × Value) => p.1 = q.1 ∧ vrep M p.2 q.2) parts vparts → litRows M.H sz i parts = some r → pre.length = i * sz → ds.toList.take (i * sz) = pre → ds.size = (i + parts.length) * sz →
    ∃ es, Instr.fill (fun i => some (i * sz, sz)) ds vparts = some es ∧ es.size = ds.size ∧ r.1.length = parts.length ∧ (∀ x ∈ r.1, x.length = sz) ∧ ∃ cs, es.toList = pre ++ cs ∧ all2 (repO M r.2) r.1.flatten cs
  | [], [], i, r, pre, ds, _, h, h1, h2, h3 => by
    simp only [litRows, Option.some.injEq] at h; subst h
    refine ⟨ds, rfl, rfl, rfl, by simp, [], ?_, trivial⟩
    rw [List.append_nil, ← h2, List.take_of_length_le]
    simp at h3; simp [h3]
  | (i', x) :: ps, (j, v) :: qs, i, r, pre, ds, hp, h, h1, h2, h3 => by
    obtain ⟨⟨e0, hv⟩, hp'⟩ := hp
    simp only at e0; subst e0
    simp only [litRows] at h
    split at h
    · rename_i hij; subst hij
      split at h
      · rename_i l hl
        split at h
        · rename_i hsz
          split at h
          · rename_i rr t rs t' q1 q2
            simp only [Option.some.injEq] at h; subst h
            obtain ⟨f1, f2⟩ := flatA_ok hok hv hl
            have hll := all2_len f1
            have hpv := pvsOf_ok hok f1 f2 q1
            have hvl : v.cells.size = sz := by rw [← Array.length_toList, ← hll]; exact hsz
            simp only [List.length_cons] at h3
            have hds : i * sz + sz ≤ ds.size := by rw [h3, Nat.add_mul, Nat.add_mul]; omega
            -- the part is put in
            have hput : ∀ (us : List Value) (k : Nat) (ds : Array Value) (o : Nat), o + k + us.length ≤ ds.size → ((us.zipIdx k).foldl (fun cs (x : Value × Nat) => cs.setIfInBounds (o + x.2) x.1) ds).toList = ds.toList.take (o + k) ++ us ++ ds.toList.drop (o + k + us.length) := by
              intro us
              induction us with
              | nil => intro k ds o _; simp
              | cons a us ih =>
                intro k ds o hk
                simp only [List.length_cons] at hk
                simp only [List.zipIdx_cons, List.foldl_cons]
                rw [ih (k + 1) _ o (by simp; omega), Array.toList_setIfInBounds]
                have hlt : o + k < ds.toList.length := by simp; omega
                rw [show o + (k + 1) = (o + k) + 1 by omega, List.take_succ_eq_append_getElem (by simpa using hlt), List.take_set_of_le (Nat.le_refl _)]
                simp only [List.getElem_set_self, List.length_cons]
                rw [List.drop_set_of_lt (by omega)]
                simp [Nat.add_assoc, Nat.add_comm 1]
            generalize hes : ((v.cells.toList.zipIdx 0).foldl (fun cs (x : Value × Nat) => cs.setIfInBounds (i * sz + x.2) x.1) ds) = ds' at *
            have hd' : ds'.toList = ds.toList.take (i * sz) ++ v.cells.toList ++ ds.toList.drop (i * sz + sz) := by
              rw [← hes, hput _ 0 ds _ (by simp; omega)]; simp [hvl]
            have hsize : ds'.size = ds.size := by
              rw [← Array.length_toList, hd']
              simp only [List.length_append, List.length_take, List.length_drop, Array.length_toList, hvl]; omega
            obtain ⟨es, g1, g2, g3, g4, cs, g5, g6⟩ := litRows_ok hok (pre := pre ++ v.cells.toList) (ds := ds') hp' q2 (by rw [List.length_append, h1, Array.length_toList, hvl, Nat.add_mul]; omega)
              (by rw [hd', h2, Nat.add_mul, Nat.one_mul, List.take_append_of_le_length (by simp [h1, hvl]), List.take_of_length_le (by simp [h1, hvl])])
              (by rw [hsize, h3]; congr 1; omega)
            refine ⟨es, ?_, g2.trans hsize, by simp [g3], ?_, v.cells.toList ++ cs, by rw [g5, List.append_assoc], ?_⟩
            · unfold Instr.fill
              simp only
              rw [if_neg (by simp [hvl]; omega), ← g1]
              congr 1
              rw [← hes, ← Array.foldl_toList, Array.toList_zipIdx]
            · intro y hy
              rcases List.mem_cons.mp hy with rfl | hy
              · exact (pvsOf_len q1).trans hsz
              · exact g4 y hy
            · rw [List.flatten_cons]
              exact all2_append (all2_mono (fun a b _ q => (rep_join hok _ _).1 q) hpv) (all2_mono (fun a b _ q => (rep_join hok _ _).2 q) g6)
          · simp at h
        · simp at h
      · simp at h
    · simp at h
  | [], _ :: _, _, _, _, _, h, _, _, _, _ => h.elim
  | _ :: _, [], _, _, _, _, h, _, _, _, _ => h.elim
end Go.Big
