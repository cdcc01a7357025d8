/- The law FnExactReadCover returns true at every text. Conditions: none. -/
import Derived.Test.YtcbpbdhglblagaaDoorXRFnExactReadCover
namespace Go.Proofs.YtcbpbdhglblagaaDoor.XFnExactReadCover
open Go.RowKit Go.Proofs.YtcbpbdhglblagaaDoorW.PrintWords Go.Proofs.YtcbpbdhglblagaaDoorW.PrintLast Go.Proofs.YtcbpbdhglblagaaDoorW.PrintMore Go.Proofs.YtcbpbdhglblagaaDoor.U
set_option linter.unusedVariables false
set_option linter.unusedSimpArgs false

theorem wrap_succ {i n : Nat} (h : i < n) (hn : n ≤ 9223372036854775807) : wrap64 ((i : Int) + 1) = ((i + 1 : Nat) : Int) := by
  unfold wrap64; omega
theorem wrap_id {x : Int} (h0 : -9223372036854775808 ≤ x) (h1 : x ≤ 9223372036854775807) : wrap64 x = x := by
  unfold wrap64; omega
theorem rd_nat (l : List Int) {i : Nat} (h : i < l.length) : rd l (i : Int) = l[i] := by
  simp [rd, List.getD_eq_getElem?_getD, List.getElem?_eq_getElem h]
theorem ev_true {g : Nat → Option Bool} {r : Bool} (h : ∀ k, g (k + 1) = some r) : Ev g r := Ev.step (f := fun _ => some r) h (Ev.now r)
theorem ev_const {α : Type} {g : Nat → Option α} {r : α} (h : ∀ k, g (k + 1) = some r) : Ev g r := Ev.step (f := fun _ => some r) h (Ev.now r)
theorem ev_eq {α : Type} {g : Nat → Option α} {r r' : α} (h : Ev g r) (e : r = r') : Ev g r' := e ▸ h
theorem wf64 {x : Int} (h : (Lit.int .i64 x).wf = true) : -9223372036854775808 ≤ x ∧ x ≤ 9223372036854775807 := by
  simp only [Lit.wf, IntKind.min, IntKind.max, IntKind.signed, IntKind.bits, Bool.and_eq_true, decide_eq_true_eq] at h
  simpa using h

def BA (l : List UInt8) : ByteArray := ⟨l.toArray⟩
theorem BA_app (l m : List UInt8) : BA l ++ BA m = BA (l ++ m) := by
  apply ByteArray.ext
  rw [ByteArray.data_append]
  simp [BA]
theorem BA_size (l : List UInt8) : (BA l).size = l.length := by simp [BA, ByteArray.size]
theorem BA_data (l : List UInt8) : (BA l).data.toList = l := by simp [BA]

/-- The pieces of a text between a byte's places. -/
def sp (c : UInt8) : List UInt8 → List UInt8 → List (List UInt8)
  | cur, [] => [cur]
  | cur, x :: xs => if x = c then cur :: sp c [] xs else sp c (cur ++ [x]) xs
theorem sp_len (c : UInt8) : ∀ (L cur : List UInt8), (sp c cur L).length ≤ L.length + 1
  | [], _ => by simp [sp]
  | x :: xs, cur => by
    unfold sp
    by_cases h : x = c
    · rw [if_pos h]; have := sp_len c xs []; simp only [List.length_cons]; omega
    · rw [if_neg h]; have := sp_len c xs (cur ++ [x]); simp only [List.length_cons]; omega
theorem sp_pos (c : UInt8) : ∀ (L cur : List UInt8), 0 < (sp c cur L).length
  | [], _ => by simp [sp]
  | x :: xs, cur => by
    unfold sp
    by_cases h : x = c
    · rw [if_pos h]; simp
    · rw [if_neg h]; exact sp_pos c xs _
theorem sp_mem (c : UInt8) : ∀ (L cur : List UInt8), ∀ p ∈ sp c cur L, p.length ≤ cur.length + L.length
  | [], cur, p, h => by simp only [sp, List.mem_singleton] at h; subst h; simp
  | x :: xs, cur, p, h => by
    unfold sp at h
    by_cases q : x = c
    · rw [if_pos q] at h
      rcases List.mem_cons.mp h with rfl | h
      · simp
      · have := sp_mem c xs [] p h; simp only [List.length_cons, List.length_nil] at this ⊢; omega
    · rw [if_neg q] at h
      have := sp_mem c xs (cur ++ [x]) p h; simp only [List.length_cons, List.length_append, List.length_nil] at this ⊢; omega
theorem sp_none (c : UInt8) : ∀ (L cur : List UInt8), c ∉ L → sp c cur L = [cur ++ L]
  | [], cur, _ => by simp [sp]
  | x :: xs, cur, h => by
    unfold sp
    rw [if_neg (show ¬ x = c from fun e => h (by rw [e]; exact List.mem_cons_self)), sp_none c xs _ (fun e => h (List.mem_cons_of_mem _ e))]; simp
theorem sp_hit (c : UInt8) (B : List UInt8) : ∀ (A cur : List UInt8), c ∉ A → sp c cur (A ++ c :: B) = (cur ++ A) :: sp c [] B
  | [], cur, _ => by simp [sp]
  | x :: xs, cur, h => by
    rw [List.cons_append, sp]
    rw [if_neg (show ¬ x = c from fun e => h (by rw [e]; exact List.mem_cons_self)), sp_hit c B xs _ (fun e => h (List.mem_cons_of_mem _ e))]; simp
theorem jt_cons (c : UInt8) (x : List UInt8) (r : List (List UInt8)) : Lib.joinTail [c] (x :: r) = c :: (x ++ Lib.joinTail [c] r) := by simp [Lib.joinTail]
theorem join_cc (c : UInt8) (x y : List UInt8) (r : List (List UInt8)) : Lib.join (x :: y :: r) [c] = x ++ c :: Lib.join (y :: r) [c] := by
  rw [Lib.join_cons, Lib.join_cons, jt_cons]
theorem sp_cons (c : UInt8) (L cur : List UInt8) : ∃ p ps, sp c cur L = p :: ps := by
  have := sp_pos c L cur
  cases h : sp c cur L with
  | nil => rw [h] at this; simp at this
  | cons p ps => exact ⟨p, ps, rfl⟩
theorem sp_join (c : UInt8) : ∀ (L cur : List UInt8), Lib.join (sp c cur L) [c] = cur ++ L
  | [], cur => by simp [sp, Lib.join_one]
  | x :: xs, cur => by
    unfold sp
    by_cases h : x = c
    · rw [if_pos h]
      obtain ⟨p, ps, e⟩ := sp_cons c xs []
      have := sp_join c xs []
      rw [e] at this ⊢
      rw [join_cc, this, h]; simp
    · rw [if_neg h, sp_join c xs]; simp
theorem sp_of_join (c : UInt8) : ∀ (ps : List (List UInt8)) (p : List UInt8), c ∉ p → (∀ q ∈ ps, c ∉ q) → sp c [] (Lib.join (p :: ps) [c]) = p :: ps
  | [], p, h, _ => by rw [Lib.join_one, sp_none c p [] h]; simp
  | q :: qs, p, h, hq => by
    rw [join_cc, sp_hit c _ p [] h, sp_of_join c qs q (hq q List.mem_cons_self) (fun r hr => hq r (List.mem_cons_of_mem _ hr))]; simp
theorem ix_cases (c : UInt8) : ∀ L : List UInt8, (Lib.index L [c] = -1 ∧ c ∉ L) ∨ ∃ A B, L = A ++ c :: B ∧ c ∉ A ∧ Lib.index L [c] = (A.length : Nat)
  | [] => .inl ⟨by rw [Lib.index_one]; rfl, by simp⟩
  | x :: xs => by
    rw [Lib.index_one]
    unfold Lib.indexByte
    by_cases h : x = c
    · subst h; exact .inr ⟨[], xs, rfl, by simp, by simp⟩
    · rw [if_neg (by simpa using h)]
      rcases ix_cases c xs with ⟨h1, h2⟩ | ⟨A, B, h1, h2, h3⟩
      · rw [Lib.index_one] at h1
        rw [if_pos (by simp [h1])]
        exact .inl ⟨rfl, fun e => by rcases List.mem_cons.mp e with e | e; exact h e.symm; exact h2 e⟩
      · rw [Lib.index_one] at h3
        rw [if_neg (by simp [h3])]
        exact .inr ⟨x :: A, B, by rw [h1]; rfl, fun e => by rcases List.mem_cons.mp e with e | e; exact h e.symm; exact h2 e, by rw [h3]; simp⟩
theorem split_sp (c : UInt8) : ∀ (n : Nat) (L : List UInt8), L.length ≤ n → Lib.splitK [c] 0 (Lib.count L [c]) L = sp c [] L := by
  intro n
  induction n with
  | zero =>
    intro L h
    have : L = [] := List.eq_nil_of_length_eq_zero (by omega)
    subst this
    rcases ix_cases c [] with ⟨h1, _⟩ | ⟨A, B, h1, _⟩
    · rw [Lib.count_miss h1]; rfl
    · simp at h1
  | succ n ih =>
    intro L h
    rcases ix_cases c L with ⟨h1, h2⟩ | ⟨A, B, h1, h2, h3⟩
    · rw [Lib.count_miss h1, sp_none c L [] h2]; rfl
    · rw [Lib.count_hit (by simp) h3, Nat.add_comm, Lib.splitK, if_neg (by simp [h3]), h3]
      have e1 : L.take ((A.length : Int).toNat + 0) = A := by rw [h1]; simp
      have e2 : L.drop (A.length + [c].length) = B := by rw [h1]; simp
      have e3 : L.drop ((A.length : Int).toNat + [c].length) = B := by rw [Int.toNat_natCast]; exact e2
      have hl : B.length ≤ n := by rw [h1] at h; simp at h; omega
      rw [e1, e2, e3, ih B hl]
      conv => rhs; rw [h1, sp_hit c B A [] h2]
      simp
theorem BA_of (a : ByteArray) : a = BA a.data.toList := by apply ByteArray.ext; simp [BA]
theorem split_ev (L : List UInt8) (c : UInt8) (hL : L.length ≤ 2097152) : strings_Split.f (BA L) (BA [c]) = some ((sp c [] L).map BA) := by
  unfold strings_Split.f
  rw [if_pos ⟨by rw [BA_size]; omega, by rw [BA_size]; simp⟩]
  have h := Lib.splitB_data (BA [c]) 0 (Lib.countB (BA L) (BA [c])) (BA L)
  rw [BA_data, BA_data] at h
  have e : Lib.countB (BA L) (BA [c]) = Lib.count L [c] := by show Lib.count _ _ = _; rw [BA_data, BA_data]
  rw [e, split_sp c L.length L (Nat.le_refl _)] at h
  rw [e, ← h, List.map_map]
  congr 1
  conv => lhs; rw [← List.map_id (Lib.splitB (BA [c]) 0 (Lib.count L [c]) (BA L))]
  exact List.map_congr_left (fun x _ => BA_of x)
theorem bt_BA (L : List UInt8) {i : Nat} (h : i < L.length) : bt (BA L) (i : Int) = (L[i].toNat : Int) := by
  unfold bt
  rw [dif_pos (by rw [BA_size]; simpa using h)]
  simp [BA]; rfl
theorem ext_BA (L : List UInt8) (a b : Nat) : (BA L).extract a b = BA ((L.drop a).take (b - a)) := by
  apply ByteArray.ext
  apply Array.toList_inj.mp
  rw [Lib.extract_data, BA_data, BA_data]
theorem spec_split_loop (c : UInt8) (L : List UInt8) (hL : L.length ≤ 2097152) : ∀ d i (acc : List (List UInt8)) (fr : Nat), i + d = L.length → fr ≤ i → acc.length ≤ i →
    Ev (fun k => spec_l01Split.l0 k (BA L) (c.toNat : Int) (acc.map BA) (fr : Int) (i : Int)) ((acc ++ sp c ((L.drop fr).take (i - fr)) (L.drop i)).map BA) := by
  intro d
  induction d with
  | zero =>
    intro i acc fr h hf ha
    obtain rfl : i = L.length := by omega
    rw [List.drop_eq_nil_of_le (Nat.le_refl _)]
    refine Ev.step (f := fun k => spec_l01Split.l0 k (BA L) (c.toNat : Int) ((acc ++ [(L.drop fr).take (L.length - fr)]).map BA) ((L.length + 1 : Nat) : Int) ((L.length + 1 : Nat) : Int)) (fun k => ?_) (ev_const fun k => ?_)
    · simp only [spec_l01Split.l0]
      rw [if_pos (by rw [BA_size]; omega), if_pos (by rw [BA_size]), if_pos (by omega), if_pos (by omega), if_pos (by rw [List.length_map]; omega), ext_BA, wrap_id (x := (L.length : Int) + 1) (by omega) (by omega)]
      simp
    · simp only [spec_l01Split.l0]; rw [if_neg (by rw [BA_size]; omega)]; simp [sp]
  | succ d ih =>
    intro i acc fr h hf ha
    have hi : i < L.length := by omega
    rw [List.drop_eq_getElem_cons hi]
    unfold sp
    have et : (L.drop fr).take (i + 1 - fr) = (L.drop fr).take (i - fr) ++ [L[i]] := by
      rw [show i + 1 - fr = (i - fr) + 1 by omega, List.take_succ_eq_append_getElem (by simp; omega)]
      congr 1; simp [show fr + (i - fr) = i by omega]
    by_cases q : L[i] = c
    · rw [if_pos q]
      refine Ev.step (f := fun k => spec_l01Split.l0 k (BA L) (c.toNat : Int) ((acc ++ [(L.drop fr).take (i - fr)]).map BA) ((i + 1 : Nat) : Int) ((i + 1 : Nat) : Int)) (fun k => ?_) ?_
      · simp only [spec_l01Split.l0]
        rw [if_pos (by rw [BA_size]; omega), if_neg (by rw [BA_size]; omega), if_pos (by omega), if_pos (by rw [BA_size]; omega), bt_BA L hi, if_pos (by rw [q]), if_pos (by omega), if_pos (by omega), if_pos (by rw [List.length_map]; omega), ext_BA, wrap_succ hi (by omega)]
        simp
      · have := ih (i + 1) (acc ++ [(L.drop fr).take (i - fr)]) (i + 1) (by omega) (Nat.le_refl _) (by simp; omega)
        simpa using this
    · rw [if_neg q, ← et]
      refine Ev.step (fun k => ?_) (ih (i + 1) acc fr (by omega) (by omega) (by omega))
      simp only [spec_l01Split.l0]
      rw [if_pos (by rw [BA_size]; omega), if_neg (by rw [BA_size]; omega), if_pos (by omega), if_pos (by rw [BA_size]; omega), bt_BA L hi, if_neg (fun e => q (UInt8.toNat_inj.mp (by omega))), wrap_succ hi (by omega)]
theorem spec_split_ev (c : UInt8) (L : List UInt8) (hL : L.length ≤ 2097152) : Ev (fun k => spec_l01Split.f k (BA L) (c.toNat : Int)) ((sp c [] L).map BA) := by
  have := spec_split_loop c L hL L.length 0 [] 0 (by omega) (Nat.le_refl _) (Nat.le_refl _)
  simpa [spec_l01Split.f] using this

/-- The digits of a number. -/
def D10 (n : Int) : List UInt8 := Lib.decDigits n.toNat
theorem D10_small {n : Int} (h0 : 0 ≤ n) (h1 : n < 10) : D10 n = [UInt8.ofNat (48 + n.toNat)] := by
  unfold D10; rw [Lib.decDigits, dif_pos (by omega)]
theorem D10_two {n : Int} (h0 : 10 ≤ n) : D10 n = D10 (n / 10) ++ [UInt8.ofNat (48 + n.toNat % 10)] := by
  unfold D10
  conv => lhs; rw [Lib.decDigits, dif_neg (by omega)]
  rw [show (n / 10).toNat = n.toNat / 10 by omega]
theorem D10_len {n : Int} (h0 : 0 ≤ n) (h1 : n < 100) : (D10 n).length ≤ 2 := by
  by_cases c : n < 10
  · rw [D10_small h0 c]; simp
  · rw [D10_two (by omega), D10_small (by omega) (by omega)]; simp

theorem spec_dec {n : Int} (h0 : 0 ≤ n) (h1 : n < 100) : Ev (fun k => spec_l01Dec.f k n) (BA (D10 n)) := by
  have small : ∀ m : Int, 0 ≤ m → m < 10 → Ev (fun k => spec_l01Dec.f k m) (BA (D10 m)) := fun m g0 g1 => ev_const fun k => by
    simp only [spec_l01Dec.f]
    rw [if_pos g1, D10_small g0 g1, wrap_id (by omega) (by omega)]
    simp only [strOfNums, BA, List.map_cons, List.map_nil, Option.some.injEq]
    rw [show ((48 + m) % 256).toNat = 48 + m.toNat by omega]
  by_cases c : n < 10
  · exact small n h0 c
  · refine Ev.step (f := fun k => (spec_l01Dec.f k (n / 10)).bind fun t => if t.size + 1 ≤ 9223372036854775807 then some (t ++ BA [UInt8.ofNat (48 + n.toNat % 10)]) else none) (fun k => ?_) (Ev.bind (small (n / 10) (by omega) (by omega)) ?_)
    · simp only [spec_l01Dec.f]
      rw [if_neg c, Int.tdiv_eq_ediv_of_nonneg h0, wrap_id (x := n / 10) (by omega) (by omega), Int.tmod_eq_emod_of_nonneg h0, wrap_id (x := 48 + n % 10) (by omega) (by omega)]
      simp only [Option.bind_some, strOfNums_size, List.length_singleton]
      have e : strOfNums [(48 + n % 10) % 256] = BA [UInt8.ofNat (48 + n.toNat % 10)] := by
        simp only [strOfNums, BA, List.map_cons, List.map_nil]
        rw [show ((48 + n % 10) % 256).toNat = 48 + n.toNat % 10 by omega]
      rw [e]
    · have hl := D10_len (n := n / 10) (by omega) (by omega)
      rw [if_pos (by rw [BA_size]; omega), BA_app, ← D10_two (by omega)]
      exact Ev.now _

/-- A function that may fail, over a list. -/
def allO {α β : Type} (f : α → Option β) : List α → Option (List β)
  | [] => some []
  | x :: xs => match f x with
    | none => none
    | some v => match allO f xs with
      | none => none
      | some vs => some (v :: vs)
theorem allO_len {α β : Type} (f : α → Option β) : ∀ (l : List α) {r : List β}, allO f l = some r → r.length = l.length
  | [], r, h => by simp only [allO, Option.some.injEq] at h; subst h; rfl
  | x :: xs, r, h => by
    simp only [allO] at h
    cases q : f x with
    | none => rw [q] at h; simp at h
    | some v =>
      rw [q] at h; simp only at h
      cases q2 : allO f xs with
      | none => rw [q2] at h; simp at h
      | some vs =>
        rw [q2] at h
        simp only [Option.some.injEq] at h
        subst h
        simp [allO_len f xs q2]
theorem allO_mem {α β : Type} (f : α → Option β) : ∀ (l : List α) {r : List β}, allO f l = some r → ∀ y ∈ r, ∃ x ∈ l, f x = some y
  | [], r, h, y, hy => by simp only [allO, Option.some.injEq] at h; subst h; simp at hy
  | x :: xs, r, h, y, hy => by
    simp only [allO] at h
    cases q : f x with
    | none => rw [q] at h; simp at h
    | some v =>
      rw [q] at h; simp only at h
      cases q2 : allO f xs with
      | none => rw [q2] at h; simp at h
      | some vs =>
        rw [q2] at h
        simp only [Option.some.injEq] at h
        subst h
        rcases List.mem_cons.mp hy with rfl | hy
        · exact ⟨x, List.mem_cons_self, q⟩
        · obtain ⟨z, hz, e⟩ := allO_mem f xs q2 y hy
          exact ⟨z, List.mem_cons_of_mem _ hz, e⟩
theorem allO_map {α β : Type} (f : α → Option β) (g : β → α) : ∀ (l : List β), (∀ y ∈ l, f (g y) = some y) → allO f (l.map g) = some l
  | [], _ => rfl
  | y :: ys, h => by
    simp only [List.map_cons, allO, h y List.mem_cons_self, allO_map f g ys (fun z hz => h z (List.mem_cons_of_mem _ hz))]
/-- Where what is read can be written again, the list is what was written. -/
theorem allO_back {α β : Type} (f : α → Option β) (g : β → α) (h : ∀ x y, f x = some y → x = g y) : ∀ (l : List α) {r : List β}, allO f l = some r → l = r.map g
  | [], r, e => by simp only [allO, Option.some.injEq] at e; subst e; rfl
  | x :: xs, r, e => by
    simp only [allO] at e
    cases q : f x with
    | none => rw [q] at e; simp at e
    | some v =>
      rw [q] at e; simp only at e
      cases q2 : allO f xs with
      | none => rw [q2] at e; simp at e
      | some vs =>
        rw [q2] at e
        simp only [Option.some.injEq] at e
        subst e
        rw [List.map_cons, ← h x v q, ← allO_back f g h xs q2]
/-- The number that digits spell. -/
def dvF : Int → List UInt8 → Option Int
  | acc, [] => some acc
  | acc, c :: r => if 48 ≤ c.toNat ∧ c.toNat ≤ 57 then dvF (10 * acc + ((c.toNat : Int) - 48)) r else none
/-- A number of at most nine digits as it is written. -/
def val9 (L : List UInt8) : Option Int := if 1 ≤ L.length ∧ L.length ≤ 9 then (match dvF 0 L with | none => none | some n => if D10 n = L then some n else none) else none
theorem val9_back {L : List UInt8} {n : Int} (h : val9 L = some n) : L = D10 n := by
  unfold val9 at h
  split at h
  · cases q : dvF 0 L with
    | none => rw [q] at h; simp at h
    | some m =>
      rw [q] at h; simp only at h
      split at h
      · rename_i e; simp only [Option.some.injEq] at h; subst h; exact e.symm
      · simp at h
  · simp at h
theorem D10_mem : ∀ (m : Nat) (c : UInt8), c ∈ Lib.decDigits m → 48 ≤ c.toNat ∧ c.toNat ≤ 57 := by
  intro m
  induction m using Nat.strongRecOn with
  | _ m ih =>
    intro c h
    rw [Lib.decDigits] at h
    split at h
    · rename_i q
      simp only [List.mem_singleton] at h; subst h
      rw [UInt8.toNat_ofNat']; omega
    · rcases List.mem_append.mp h with h | h
      · exact ih (m / 10) (by omega) c h
      · simp only [List.mem_singleton] at h; subst h
        rw [UInt8.toNat_ofNat']; omega
theorem D10_no {n : Int} {c : UInt8} (h : c.toNat < 48 ∨ 57 < c.toNat) : c ∉ D10 n := fun e => by have := D10_mem _ c e; omega
theorem D10_cases {n : Int} (h0 : 0 ≤ n) (h1 : n < 100) : (∃ a : Nat, a < 10 ∧ n = a ∧ D10 n = [UInt8.ofNat (48 + a)]) ∨ ∃ a b : Nat, a < 10 ∧ b < 10 ∧ n = 10 * a + b ∧ D10 n = [UInt8.ofNat (48 + a), UInt8.ofNat (48 + b)] := by
  by_cases c : n < 10
  · exact .inl ⟨n.toNat, by omega, by omega, D10_small h0 c⟩
  · refine .inr ⟨(n / 10).toNat, n.toNat % 10, by omega, by omega, by omega, ?_⟩
    rw [D10_two (by omega), D10_small (by omega) (by omega)]; rfl
theorem dg_nat {a : Nat} (h : a < 10) : (UInt8.ofNat (48 + a)).toNat = 48 + a := by rw [UInt8.toNat_ofNat']; omega
theorem val9_small {n : Int} (h0 : 0 ≤ n) (h1 : n < 100) : val9 (D10 n) = some n := by
  have e : dvF 0 (D10 n) = some n ∧ 1 ≤ (D10 n).length := by
    rcases D10_cases h0 h1 with ⟨a, ha, rfl, e⟩ | ⟨a, b, ha, hb, rfl, e⟩
    · rw [e]; simp only [dvF, dg_nat ha]; refine ⟨?_, by simp⟩; rw [if_pos (by omega)]; congr 1; omega
    · rw [e]; simp only [dvF, dg_nat ha, dg_nat hb]; refine ⟨?_, by simp⟩; rw [if_pos (by omega), if_pos (by omega)]; congr 1; omega
  have hl := D10_len h0 h1
  unfold val9
  rw [if_pos ⟨e.2, by omega⟩, e.1]; simp
theorem dvF_bd : ∀ (L : List UInt8) (acc n : Int) (m : Nat), 0 ≤ acc → acc < 10 ^ m → dvF acc L = some n → 0 ≤ n ∧ n < 10 ^ (m + L.length)
  | [], acc, n, m, h0, h1, h => by simp only [dvF, Option.some.injEq] at h; subst h; exact ⟨h0, h1⟩
  | c :: r, acc, n, m, h0, h1, h => by
    simp only [dvF] at h
    split at h
    · have hp : (10 : Int) ^ (m + 1) = 10 * 10 ^ m := by rw [Int.pow_succ]; omega
      have := dvF_bd r (10 * acc + ((c.toNat : Int) - 48)) n (m + 1) (by omega) (by omega) h
      rw [show m + (c :: r).length = m + 1 + r.length by simp; omega]; exact this
    · simp at h
theorem D10_len' : ∀ (m : Nat) (n : Nat), n < 10 ^ (m + 1) → (Lib.decDigits n).length ≤ m + 1 := by
  intro m
  induction m with
  | zero => intro n h; rw [Lib.decDigits, dif_pos (by omega)]; simp
  | succ m ih =>
    intro n h
    rw [Lib.decDigits]
    split
    · simp
    · have := ih (n / 10) (by rw [Nat.pow_succ] at h; omega)
      rw [List.length_append, List.length_singleton]; omega
theorem spec_dec' : ∀ (m : Nat) (n : Int), 0 ≤ n → n < 10 ^ (m + 1) → m ≤ 17 → Ev (fun k => spec_l01Dec.f k n) (BA (D10 n)) := by
  intro m
  induction m with
  | zero => intro n h0 h1 _; exact spec_dec h0 (by omega)
  | succ m ih =>
    intro n h0 h1 hm
    have hp : (10 : Int) ^ (m + 1 + 1) = 10 * 10 ^ (m + 1) := by rw [Int.pow_succ]; omega
    have hq : (10 : Int) ^ (m + 1 + 1) ≤ 10 ^ 19 := by
      have : (10 : Int) ^ (m + 1 + 1) = ((10 ^ (m + 1 + 1) : Nat) : Int) := by push_cast; rfl
      have h2 : (10 : Nat) ^ (m + 1 + 1) ≤ 10 ^ 19 := Nat.pow_le_pow_right (by omega) (by omega)
      rw [this]; exact_mod_cast h2
    by_cases c : n < 10
    · exact spec_dec h0 (by omega)
    · refine Ev.step (f := fun k => (spec_l01Dec.f k (n / 10)).bind fun t => if t.size + 1 ≤ 9223372036854775807 then some (t ++ BA [UInt8.ofNat (48 + n.toNat % 10)]) else none) (fun k => ?_) (Ev.bind (ih (n / 10) (by omega) (by omega) (by omega)) ?_)
      · simp only [spec_l01Dec.f]
        rw [if_neg c, Int.tdiv_eq_ediv_of_nonneg h0, wrap_id (x := n / 10) (by omega) (by omega), Int.tmod_eq_emod_of_nonneg h0, wrap_id (x := 48 + n % 10) (by omega) (by omega)]
        simp only [Option.bind_some, strOfNums_size, List.length_singleton]
        have e : strOfNums [(48 + n % 10) % 256] = BA [UInt8.ofNat (48 + n.toNat % 10)] := by
          simp only [strOfNums, BA, List.map_cons, List.map_nil]
          rw [show ((48 + n % 10) % 256).toNat = 48 + n.toNat % 10 by omega]
        rw [e]
      · have hl : (D10 (n / 10)).length ≤ m + 1 := by
          unfold D10
          refine D10_len' m _ ?_
          have h3 : n / 10 < 10 ^ (m + 1) := by omega
          have : ((10 ^ (m + 1) : Nat) : Int) = (10 : Int) ^ (m + 1) := by push_cast; rfl
          omega
        rw [if_pos (by rw [BA_size]; omega), BA_app, ← D10_two (by omega)]
        exact Ev.now _
theorem spec_Value_ev (L : List UInt8) : ∃ r : Int × Bool, Ev (fun k => spec_l01Value.f k (BA L)) r ∧ r.2 = (val9 L).isSome ∧ ∀ n, val9 L = some n → r.1 = n := by
  by_cases hb : 1 ≤ L.length ∧ L.length ≤ 9
  · have hloop : ∀ d i (acc : Int), i + d = L.length → 0 ≤ acc → acc < 10 ^ i → ∃ r : Int × Bool, Ev (fun k => spec_l01Value.l0 k (BA L) acc (i : Int)) r ∧ (match dvF acc (L.drop i) with | none => r = (0, false) | some n => r = (n, decide (D10 n = L))) := by
      intro d
      induction d with
      | zero =>
        intro i acc h h0 h1
        rw [List.drop_eq_nil_of_le (by omega)]
        simp only [dvF]
        refine ⟨_, ?_, rfl⟩
        refine Ev.step (f := fun k => (spec_l01Dec.f k acc).bind fun t => some (acc, (t.toList == (BA L).toList))) (fun k => ?_) (Ev.bind (spec_dec' 17 acc h0 (by
          have h2 : (10 : Nat) ^ i ≤ 10 ^ 9 := Nat.pow_le_pow_right (by omega) (by omega)
          have h3 : ((10 ^ i : Nat) : Int) = (10 : Int) ^ i := by push_cast; rfl
          omega) (by omega)) ?_)
        · simp only [spec_l01Value.l0]; rw [if_neg (by rw [BA_size]; omega)]
        · refine ev_eq (Ev.now _) ?_
          congr 1
          rw [Lib.toList_data, Lib.toList_data, BA_data, BA_data]
          rw [Bool.eq_iff_iff]; simp
      | succ d ih =>
        intro i acc h h0 h1
        have hi : i < L.length := by omega
        rw [List.drop_eq_getElem_cons hi]
        simp only [dvF]
        have hlt : L[i].toNat < 256 := UInt8.toNat_lt _
        by_cases q : 48 ≤ L[i].toNat ∧ L[i].toNat ≤ 57
        · rw [if_pos q]
          have h2 : (10 : Nat) ^ i ≤ 10 ^ 8 := Nat.pow_le_pow_right (by omega) (by omega)
          have h3 : ((10 ^ i : Nat) : Int) = (10 : Int) ^ i := by push_cast; rfl
          have hp : (10 : Int) ^ (i + 1) = 10 * 10 ^ i := by rw [Int.pow_succ]; omega
          obtain ⟨r, hr, h4⟩ := ih (i + 1) (10 * acc + ((L[i].toNat : Int) - 48)) (by omega) (by omega) (by omega)
          refine ⟨r, Ev.step (fun k => ?_) hr, h4⟩
          simp only [spec_l01Value.l0]
          rw [if_pos (by rw [BA_size]; omega), if_pos (by omega), bt_BA L hi, if_neg (by omega), if_neg (by omega), wrap_succ hi (by omega), wrap_id (x := 10 * acc) (by omega) (by omega), show ((L[i].toNat : Int) - 48) % 256 = (L[i].toNat : Int) - 48 by omega, wrap_id (x := 10 * acc + ((L[i].toNat : Int) - 48)) (by omega) (by omega)]
        · rw [if_neg q]
          refine ⟨_, ev_const fun k => ?_, rfl⟩
          simp only [spec_l01Value.l0]
          rw [if_pos (by rw [BA_size]; omega), if_pos (by omega), bt_BA L hi]
          by_cases q2 : (L[i].toNat : Int) < 48
          · rw [if_pos q2]
          · rw [if_neg q2, if_pos (by omega)]
    obtain ⟨r, hr, h1⟩ := hloop L.length 0 0 (by omega) (by omega) (by simp)
    rw [List.drop_zero] at h1
    refine ⟨r, ?_, ?_⟩
    · simp only [spec_l01Value.f, if_neg (show ¬ ((BA L).size : Int) < 1 by rw [BA_size]; omega), decide_eq_false (show ¬ ((BA L).size : Int) > 9 by rw [BA_size]; omega)]
      exact Ev.step (fun k => by simp only [spec_l01Value.j0]; rw [if_neg (by simp)]; rfl) hr
    · unfold val9
      rw [if_pos hb]
      cases q : dvF 0 L with
      | none => rw [q] at h1; simp only at h1; subst h1; simp
      | some n =>
        rw [q] at h1; simp only at h1; subst h1
        by_cases c : D10 n = L
        · simp [c]
        · simp [c]
  · refine ⟨(0, false), ?_, ?_⟩
    · have hj : Ev (fun k => spec_l01Value.j0 k (BA L) true) (0, false) := ev_const fun k => by simp only [spec_l01Value.j0, if_true]
      simp only [spec_l01Value.f]
      by_cases c : ((BA L).size : Int) < 1
      · simp only [if_pos c]; exact hj
      · simp only [if_neg c, decide_eq_true (show ((BA L).size : Int) > 9 by rw [BA_size] at c ⊢; omega)]; exact hj
    · unfold val9; rw [if_neg hb]; simp
theorem rdB (ws : List (List UInt8)) {i : Nat} (h : i < ws.length) : rdOf ByteArray.empty (ws.map BA) (i : Int) = BA ws[i] := by
  simp [rdOf, List.getD_eq_getElem?_getD, List.getElem?_eq_getElem h]
def numsR (acc : List Int) : Option (List Int) → List Int × Bool
  | none => ([], false)
  | some xs => (acc ++ xs, true)
theorem spec_nums_ev (ws : List (List UInt8)) (hl : ws.length ≤ 4194304) : Ev (fun k => spec_l13Numbers.f k (ws.map BA)) (numsR [] (allO val9 ws)) := by
  have hloop : ∀ d i (acc : List Int), i + d = ws.length → acc.length ≤ i → Ev (fun k => spec_l13Numbers.l0 k (ws.map BA) acc (i : Int)) (numsR acc (allO val9 (ws.drop i))) := by
    intro d
    induction d with
    | zero =>
      intro i acc h ha
      rw [List.drop_eq_nil_of_le (by omega)]
      exact ev_const fun k => by simp only [spec_l13Numbers.l0]; rw [if_neg (by rw [List.length_map]; omega)]; simp [numsR, allO]
    | succ d ih =>
      intro i acc h ha
      have hi : i < ws.length := by omega
      rw [List.drop_eq_getElem_cons hi]
      obtain ⟨r, hr, h1, h2⟩ := spec_Value_ev ws[i]
      refine Ev.step (f := fun k => (spec_l01Value.f k (BA ws[i])).bind fun bt122 => if bt122.2 = true then (if acc.length < 17592186044416 then spec_l13Numbers.l0 k (ws.map BA) (acc ++ [bt122.1]) ((i + 1 : Nat) : Int) else none) else some ([], false)) (fun k => ?_) (Ev.bind hr ?_)
      · simp only [spec_l13Numbers.l0]
        rw [if_pos (by rw [List.length_map]; omega), if_pos (by omega), rdB ws hi, wrap_succ hi (by omega)]
      · cases q : val9 ws[i] with
        | none =>
          rw [q] at h1
          simp only [h1, allO, q]
          exact Ev.now _
        | some n =>
          rw [q] at h1
          rw [h2 n q]
          simp only [h1, Option.isSome_some, if_true, if_pos (show acc.length < 17592186044416 by omega)]
          refine ev_eq (ih (i + 1) (acc ++ [n]) (by omega) (by simp; omega)) ?_
          simp only [allO, q]
          cases allO val9 (ws.drop (i + 1)) with
          | none => rfl
          | some vs => simp [numsR]
  have := hloop ws.length 0 [] (by omega) (Nat.le_refl _)
  simpa [spec_l13Numbers.f] using this
/-- What ParseInt reads. -/
def pint (L : List UInt8) : Option Int := match Lib.parseIntB 64 L with | .ok v => some v | _ => none
theorem pint_small {n : Int} (h0 : 0 ≤ n) (h1 : n < 100) : pint (D10 n) = some n := by
  have e1 : ∀ a : Fin 10, pint [UInt8.ofNat (48 + a.val)] = some (a.val : Int) := by decide +kernel
  have e2 : ∀ a b : Fin 10, pint [UInt8.ofNat (48 + a.val), UInt8.ofNat (48 + b.val)] = some (10 * (a.val : Int) + b.val) := by decide +kernel
  rcases D10_cases h0 h1 with ⟨a, ha, rfl, e⟩ | ⟨a, b, ha, hb, rfl, e⟩
  · rw [e]; exact e1 ⟨a, ha⟩
  · rw [e]; exact e2 ⟨a, ha⟩ ⟨b, hb⟩
theorem pint_ev (L : List UInt8) (hL : L.length ≤ 2097152) : ∃ r : Int × Bool, strconv_ParseInt.f (BA L) 10 64 = some r ∧ r.2 = (pint L).isNone ∧ ∀ n, pint L = some n → r.1 = n := by
  unfold strconv_ParseInt.f pint
  rw [if_pos ⟨by rw [BA_size]; omega, rfl, rfl⟩, BA_data]
  cases Lib.parseIntB 64 L with
  | ok v => exact ⟨(v, false), rfl, rfl, fun n h => by simpa using h⟩
  | «syntax» => exact ⟨(0, true), rfl, rfl, fun n h => by simp at h⟩
  | range => exact ⟨(Lib.intSat 64 L, true), rfl, rfl, fun n h => by simp at h⟩
theorem impl_nums_ev (L : List UInt8) (c : UInt8) (hL : L.length ≤ 2097152) : Ev (fun k => impl_readNumbers.f k (BA L) (BA [c])) (numsR [] (allO pint (sp c [] L))) := by
  have hm := sp_mem c L []
  have hn := sp_len c L []
  simp only [impl_readNumbers.f, split_ev L c hL, Option.bind_some]
  generalize sp c [] L = ws at *
  have hloop : ∀ d i (acc : List Int), i + d = ws.length → acc.length ≤ i → Ev (fun k => impl_readNumbers.l0 k acc (ws.map BA) ((ws.map BA).length : Int) (i : Int)) (numsR acc (allO pint (ws.drop i))) := by
    intro d
    induction d with
    | zero =>
      intro i acc h ha
      rw [List.drop_eq_nil_of_le (by omega)]
      exact ev_const fun k => by simp only [impl_readNumbers.l0]; rw [if_neg (by rw [List.length_map]; omega)]; simp [numsR, allO]
    | succ d ih =>
      intro i acc h ha
      have hi : i < ws.length := by omega
      rw [List.drop_eq_getElem_cons hi]
      obtain ⟨r, hr, h1, h2⟩ := pint_ev ws[i] (by have := hm _ (List.getElem_mem hi); simp at this; omega)
      refine Ev.step (f := fun k => if r.2 = true then some ([], false) else (if acc.length < 17592186044416 then impl_readNumbers.l0 k (acc ++ [r.1]) (ws.map BA) ((ws.map BA).length : Int) ((i + 1 : Nat) : Int) else none)) (fun k => ?_) ?_
      · simp only [impl_readNumbers.l0]
        rw [if_pos (by rw [List.length_map]; omega), if_pos (by omega), if_pos (by rw [List.length_map]; omega), rdB ws hi, hr, wrap_succ hi (by omega)]
        rfl
      · cases q : pint ws[i] with
        | none =>
          rw [q] at h1
          simp only [h1, allO, q, Option.isNone_none, if_true]
          exact Ev.now _
        | some n =>
          rw [q] at h1
          rw [h2 n q]
          simp only [h1, Option.isNone_some, Bool.false_eq_true, if_false, if_pos (show acc.length < 17592186044416 by omega)]
          refine ev_eq (ih (i + 1) (acc ++ [n]) (by omega) (by simp; omega)) ?_
          simp only [allO, q]
          cases allO pint (ws.drop (i + 1)) with
          | none => rfl
          | some vs => simp [numsR]
  have := hloop ws.length 0 [] (by omega) (Nat.le_refl _)
  simpa using this

/-- A row's letters: the mark ahead of its first number, a comma ahead of each further one. -/
def segL : Bool → List Int → List UInt8
  | _, [] => []
  | b, x :: xs => (if b then 59 else 44) :: D10 x ++ segL false xs
theorem segL_len : ∀ (b : Bool) (l : List Int), (∀ x ∈ l, 0 ≤ x ∧ x < 100) → (segL b l).length ≤ 3 * l.length
  | _, [], _ => by simp [segL]
  | b, x :: xs, h => by
    have h1 := D10_len (h x List.mem_cons_self).1 (h x List.mem_cons_self).2
    have h2 := segL_len false xs (fun y hy => h y (List.mem_cons_of_mem _ hy))
    simp only [segL, List.cons_append, List.length_cons, List.length_append]
    omega
theorem segL_tail : ∀ (l : List Int), segL false l = Lib.joinTail [44] (l.map D10)
  | [] => rfl
  | x :: xs => by
    have h := segL_tail xs
    simp only [segL, h, Lib.joinTail, List.map_cons, List.flatten_cons]
    simp
theorem segL_join (x : Int) (xs : List Int) : segL true (x :: xs) = 59 :: Lib.join ((x :: xs).map D10) [44] := by
  rw [List.map_cons, Lib.join_cons, ← segL_tail]; rfl
/-- The text of a cover. -/
def coverL (a b : Int) (l : List (List Int)) : List UInt8 := (D10 a ++ [47] ++ D10 b) ++ (l.map (segL true)).flatten
theorem flat_len : ∀ (l : List (List Int)), (∀ r ∈ l, r.length ≤ 2097152 ∧ ∀ x ∈ r, 0 ≤ x ∧ x < 100) → ((l.map (segL true)).flatten).length ≤ l.length * 6291456
  | [], _ => by simp
  | r :: rs, h => by
    have h1 := segL_len true r (h r List.mem_cons_self).2
    have h2 := (h r List.mem_cons_self).1
    have h3 := flat_len rs (fun y hy => h y (List.mem_cons_of_mem _ hy))
    simp only [List.map_cons, List.flatten_cons, List.length_append, List.length_cons]
    rw [Nat.add_mul]; omega

/-- A cover's text, read with a reader of numbers. -/
def parseG (v : List UInt8 → Option Int) (L : List UInt8) : Option (Int × Int × List (List Int)) :=
  match sp 59 [] L with
  | [] => none
  | w0 :: ws => match allO v (sp 47 [] w0) with
    | some [a, b] => match allO (fun w => allO v (sp 44 [] w)) ws with
      | some rs => some (a, b, rs)
      | none => none
    | _ => none
theorem join_no {c d : UInt8} (hd : d ≠ c) : ∀ (ps : List (List UInt8)), (∀ p ∈ ps, d ∉ p) → d ∉ Lib.join ps [c]
  | [], _ => by simp [Lib.join_nil]
  | [p], h => by rw [Lib.join_one]; exact h p List.mem_cons_self
  | p :: q :: qs, h => by
    rw [join_cc]
    intro e
    rcases List.mem_append.mp e with e | e
    · exact h p List.mem_cons_self e
    · rcases List.mem_cons.mp e with e | e
      · exact hd e
      · exact join_no hd (q :: qs) (fun r hr => h r (List.mem_cons_of_mem _ hr)) e
theorem coverL_join (a b : Int) (l : List (List Int)) (hn : ∀ r ∈ l, r ≠ []) : coverL a b l = Lib.join (Lib.join [D10 a, D10 b] [47] :: l.map fun r => Lib.join (r.map D10) [44]) [59] := by
  unfold coverL
  rw [Lib.join_cons, Lib.join_cons, jt_cons]
  have e : ∀ l : List (List Int), (∀ r ∈ l, r ≠ []) → (l.map (segL true)).flatten = Lib.joinTail [59] (l.map fun r => Lib.join (r.map D10) [44]) := by
    intro l
    induction l with
    | nil => intro _; rfl
    | cons r rs ih =>
      intro h
      rw [List.map_cons, List.map_cons, List.flatten_cons, jt_cons, ih (fun x hx => h x (List.mem_cons_of_mem _ hx))]
      cases r with
      | nil => exact absurd rfl (h [] List.mem_cons_self)
      | cons x xs => rw [segL_join]; rfl
  rw [e l hn]
  simp [Lib.joinTail]
theorem map_ne {α β : Type} {l : List α} {f : α → β} (h : l ≠ []) : ∃ x xs, l.map f = f x :: xs.map f ∧ l = x :: xs := by
  cases l with
  | nil => exact absurd rfl h
  | cons x xs => exact ⟨x, xs, rfl, rfl⟩
theorem parse_of (v : List UInt8 → Option Int) (hv : ∀ n : Int, 0 ≤ n → n < 100 → v (D10 n) = some n) {a b : Int} {l : List (List Int)} (ha : 0 ≤ a ∧ a < 100) (hb : 0 ≤ b ∧ b < 100) (hx : ∀ r ∈ l, ∀ x ∈ r, 0 ≤ x ∧ x < 100) (hn : ∀ r ∈ l, r ≠ []) :
    parseG v (coverL a b l) = some (a, b, l) := by
  unfold parseG
  rw [coverL_join a b l hn, sp_of_join 59 _ _ (join_no (by decide) _ (fun p hp => by
    simp only [List.mem_cons, List.not_mem_nil, or_false] at hp
    rcases hp with rfl | rfl <;> exact D10_no (by decide))) (fun q hq => by
    obtain ⟨r, _, rfl⟩ := List.mem_map.mp hq
    exact join_no (by decide) _ (fun p hp => by obtain ⟨x, _, rfl⟩ := List.mem_map.mp hp; exact D10_no (by decide)))]
  simp only
  rw [sp_of_join 47 [D10 b] (D10 a) (D10_no (by decide)) (fun q hq => by simp only [List.mem_singleton] at hq; subst hq; exact D10_no (by decide))]
  have e1 : allO v [D10 a, D10 b] = some [a, b] := by simp only [allO, hv a ha.1 ha.2, hv b hb.1 hb.2]
  have e2 : allO (fun w => allO v (sp 44 [] w)) (l.map fun r => Lib.join (r.map D10) [44]) = some l := by
    refine allO_map (fun w => allO v (sp 44 [] w)) (fun r => Lib.join (r.map D10) [44]) l (fun r hr => ?_)
    obtain ⟨x, xs, e, rfl⟩ := map_ne (f := D10) (hn r hr)
    rw [e, sp_of_join 44 (xs.map D10) (D10 x) (D10_no (by decide)) (fun q hq => by obtain ⟨y, _, rfl⟩ := List.mem_map.mp hq; exact D10_no (by decide)), ← e]
    exact allO_map v D10 _ (fun y hy => hv y (hx _ hr y hy).1 (hx _ hr y hy).2)
  rw [e1, e2]
theorem parse_back {L : List UInt8} {a b : Int} {l : List (List Int)} (h : parseG val9 L = some (a, b, l)) : coverL a b l = L := by
  unfold parseG at h
  obtain ⟨w0, ws, e⟩ := sp_cons 59 L []
  have hj := sp_join 59 L []
  rw [e] at h hj
  simp only at h
  cases q : allO val9 (sp 47 [] w0) with
  | none => rw [q] at h; simp at h
  | some hd =>
    rw [q] at h
    match hd, q, h with
    | [], _, h => simp at h
    | [_], _, h => simp at h
    | _ :: _ :: _ :: _, _, h => simp at h
    | [a', b'], q, h =>
      simp only at h
      cases q2 : allO (fun w => allO val9 (sp 44 [] w)) ws with
      | none => rw [q2] at h; simp at h
      | some rs =>
        rw [q2] at h
        simp only [Option.some.injEq, Prod.mk.injEq] at h
        obtain ⟨rfl, rfl, rfl⟩ := h
        have b0 := allO_back val9 D10 (fun x y => val9_back) _ q
        have hj0 := sp_join 47 w0 []
        rw [b0] at hj0
        have b1 := allO_back (fun w => allO val9 (sp 44 [] w)) (fun r => Lib.join (r.map D10) [44]) (fun x y hxy => by
          have h1 := sp_join 44 x []
          rw [allO_back val9 D10 (fun x y => val9_back) _ hxy] at h1
          simpa using h1.symm) _ q2
        have hn : ∀ r ∈ rs, r ≠ [] := fun r hr e0 => by
          obtain ⟨x, _, h1⟩ := allO_mem _ _ q2 r hr
          have h2 := allO_len _ _ h1
          have h3 := sp_pos 44 x []
          rw [e0] at h2; simp at h2; omega
        rw [coverL_join a' b' rs hn, ← b1]
        simp only [List.map_cons, List.map_nil, List.nil_append] at hj0 hj
        rw [hj0, hj]
abbrev RC := Int × Int × List (List Int) × Bool
def zRC : RC := (0, 0, [], false)
def rowsO (v : List UInt8 → Option Int) (f : List (List Int) → RC) (acc : List (List Int)) (ws : List (List UInt8)) : RC := match allO (fun w => allO v (sp 44 [] w)) ws with
  | some rs => f (acc ++ rs)
  | none => zRC
theorem rowsO_cons (v : List UInt8 → Option Int) (f : List (List Int) → RC) (acc : List (List Int)) (w : List UInt8) (ws : List (List UInt8)) : rowsO v f acc (w :: ws) = match allO v (sp 44 [] w) with
  | some r => rowsO v f (acc ++ [r]) ws
  | none => zRC := by
  unfold rowsO
  simp only [allO]
  cases allO v (sp 44 [] w) with
  | none => rfl
  | some r => cases allO (fun w => allO v (sp 44 [] w)) ws <;> simp

/-- Rising, from a number on, each within 0 to m. -/
def risesB (m : Int) : List Int → Int → Bool
  | [], _ => true
  | x :: xs, p => decide (0 ≤ x) && decide (x ≤ m) && decide (p < x) && risesB m xs x
def prevOf (l : List Int) (i : Nat) : Int := if i = 0 then -1 else l.getD (i - 1) 0
theorem prevOf_succ (l : List Int) {i : Nat} (h : i < l.length) : prevOf l (i + 1) = l[i] := by
  simp [prevOf, List.getD_eq_getElem?_getD, List.getElem?_eq_getElem h]
theorem rises_next (m : Int) (l : List Int) {i : Nat} (h : i < l.length) : risesB m (l.drop i) (prevOf l i) = (decide (0 ≤ l[i]) && decide (l[i] ≤ m) && decide (prevOf l i < l[i]) && risesB m (l.drop (i + 1)) (prevOf l (i + 1))) := by
  rw [List.drop_eq_getElem_cons h, prevOf_succ l h]; rfl
theorem rises_end (m : Int) (l : List Int) {i : Nat} (h : l.length ≤ i) (p : Int) : risesB m (l.drop i) p = true := by
  rw [List.drop_eq_nil_of_le h]; rfl

def longL (l : List (List Int)) : Prop := l.length ≤ 9223372036854775807 ∧ ∀ x ∈ l, x.length ≤ 9223372036854775807
theorem longL_of {l : List (List Int)} {p : Int → Prop} (h : l.length ≤ maxLen ∧ ∀ x ∈ l, x.length ≤ maxLen ∧ ∀ y ∈ x, p y) : longL l := ⟨h.1, fun x hx => (h.2 x hx).1⟩

def rowB (c : Int) (x : List Int) : Bool := !decide ((x.length : Int) = 0) && risesB (wrap64 (c - 1)) x (-1)
def coverB (a b : Int) (l : List (List Int)) : Bool := (decide (1 ≤ a) && decide (a ≤ 60)) && (decide (1 ≤ b) && decide (b ≤ a)) && decide ((l.length : Int) ≤ 400) && l.all (rowB a)

theorem spec_in (a b c : Int) : spec_l01In.f a b c = some (decide (b ≤ a) && decide (a ≤ c)) := by
  unfold spec_l01In.f; by_cases h : b ≤ a
  · rw [if_pos h]; simp [h]
  · rw [if_neg h]; simp [h]

theorem spec_rises_loop (l : List Int) (n : Int) (hl : l.length ≤ 9223372036854775807) : ∀ d i, i + d = l.length →
    Ev (fun k => spec_l01Rises.l0 k l n (i : Int)) (risesB (wrap64 (n - 1)) (l.drop i) (prevOf l i)) := by
  intro d
  induction d with
  | zero =>
    intro i h
    rw [rises_end _ _ (by omega)]
    exact ev_const fun k => by simp only [spec_l01Rises.l0]; rw [if_neg (by omega)]
  | succ d ih =>
    intro i h
    have hi : i < l.length := by omega
    have step : ∀ k, spec_l01Rises.l0 (k + 1) l n (i : Int) = if (decide (0 ≤ l[i]) && decide (l[i] ≤ wrap64 (n - 1))) = true then (if decide (prevOf l i < l[i]) = true ∨ i = 0 then spec_l01Rises.l0 k l n ((i + 1 : Nat) : Int) else some false) else some false := fun k => by
      simp only [spec_l01Rises.l0]
      rw [if_pos (by omega), if_pos (by omega), rd_nat l hi, spec_in]
      simp only [Option.bind_some, wrap_succ hi hl]
      by_cases c : (decide (0 ≤ l[i]) && decide (l[i] ≤ wrap64 (n - 1))) = true
      · rw [if_pos c, if_pos c]
        by_cases z : i = 0
        · rw [if_neg (by omega), if_pos (.inr z)]
        · have e : wrap64 ((i : Int) - 1) = ((i - 1 : Nat) : Int) := by unfold wrap64; omega
          have p : prevOf l i = l[i - 1] := by simp [prevOf, z, List.getD_eq_getElem?_getD, List.getElem?_eq_getElem (show i - 1 < l.length by omega)]
          rw [if_pos (by omega), e, if_pos (by omega), if_pos (by omega), rd_nat l (by omega), p]
          by_cases q : l[i] ≤ l[i - 1]
          · rw [if_pos q, if_neg (by simp [z]; omega)]
          · rw [if_neg q, if_pos (.inl (by simp; omega))]
      · rw [if_neg c, if_neg c]
    rw [rises_next _ _ hi]
    refine Ev.step step ?_
    by_cases c : (decide (0 ≤ l[i]) && decide (l[i] ≤ wrap64 (n - 1))) = true
    · simp only [if_pos c]
      by_cases q : decide (prevOf l i < l[i]) = true ∨ i = 0
      · simp only [if_pos q]
        refine ev_eq (ih (i + 1) (by omega)) ?_
        have q' : decide (prevOf l i < l[i]) = true := q.elim id fun z => by
          subst z
          simp only [Bool.and_eq_true, decide_eq_true_eq] at c
          simp [prevOf]; omega
        rw [c, q']; simp
      · simp only [if_neg q]
        refine ev_eq (Ev.now _) ?_
        rw [show decide (prevOf l i < l[i]) = false by simp only [not_or] at q; simpa using q.1]; simp
    · simp only [if_neg c]
      refine ev_eq (Ev.now _) ?_
      simp only [Bool.not_eq_true] at c
      rw [c]; simp
theorem spec_rises (l : List Int) (n : Int) (hl : l.length ≤ 9223372036854775807) : Ev (fun k => spec_l01Rises.f k l n) (risesB (wrap64 (n - 1)) l (-1)) := by
  have := spec_rises_loop l n hl l.length 0 (by omega)
  simpa [spec_l01Rises.f, prevOf] using this

theorem rdr_nat (l : List (List Int)) {i : Nat} (h : i < l.length) : rd_L3 l (i : Int) = l[i] := by
  simp [rd_L3, List.getD_eq_getElem?_getD, List.getElem?_eq_getElem h]

theorem spec_IsCover_loop (a b : Int) (l : List (List Int)) (hl : longL l) : ∀ d i, i + d = l.length → Ev (fun k => spec_IsCover.l0 k (i : Int) a b l) ((l.drop i).all (rowB a)) := by
  intro d
  induction d with
  | zero =>
    intro i h
    rw [List.drop_eq_nil_of_le (by omega)]
    exact ev_const fun k => by simp only [spec_IsCover.l0]; rw [if_neg (by omega)]; rfl
  | succ d ih =>
    intro i h
    have hi : i < l.length := by omega
    rw [List.drop_eq_getElem_cons hi, List.all_cons]
    have step : ∀ k, spec_IsCover.l0 (k + 1) (i : Int) a b l = if (l[i].length : Int) = 0 then some false else (spec_l01Rises.f k l[i] a).bind fun t => if t = true then spec_IsCover.l0 k ((i + 1 : Nat) : Int) a b l else some false := fun k => by
      simp only [spec_IsCover.l0]
      rw [if_pos (by omega), if_pos (by omega), rdr_nat l hi, wrap_succ hi hl.1]
    refine Ev.step step ?_
    by_cases c : (l[i].length : Int) = 0
    · simp only [if_pos c]; refine ev_eq (Ev.now _) ?_; simp only [rowB, c]; simp
    · simp only [if_neg c]
      refine Ev.bind (spec_rises l[i] a (hl.2 _ (List.getElem_mem hi))) ?_
      have e : rowB a l[i] = risesB (wrap64 (a - 1)) l[i] (-1) := by simp only [rowB, c]; simp
      cases q : risesB (wrap64 (a - 1)) l[i] (-1) with
      | true => simp only [if_true]; refine ev_eq (ih (i + 1) (by omega)) ?_; rw [e, q]; simp
      | false => simp only [Bool.false_eq_true, if_false]; refine ev_eq (Ev.now _) ?_; rw [e, q]; simp
theorem spec_IsCover_ev (a b : Int) (l : List (List Int)) (hl : longL l) : Ev (fun k => spec_IsCover.f k a b l) (coverB a b l) := by
  have hL := spec_IsCover_loop a b l hl l.length 0 (by omega)
  have hj : ∀ x, Ev (fun k => spec_IsCover.j0 k x a b l) (!x && l.all (rowB a)) := fun x => by
    refine Ev.step (f := fun k => if x = true then some false else spec_IsCover.l0 k 0 a b l) (fun k => by simp only [spec_IsCover.j0]) ?_
    cases x with
    | true => simpa using Ev.now false
    | false => simpa using hL
  simp only [spec_IsCover.f, spec_in, Option.bind_some]
  unfold coverB
  cases q : (decide (1 ≤ a) && decide (a ≤ 60)) with
  | false => simp only [Bool.false_eq_true, if_false, Bool.false_and]; exact hj true
  | true =>
    cases q2 : (decide (1 ≤ b) && decide (b ≤ a)) with
    | false => simp only [Bool.false_eq_true, if_false, if_true, Bool.false_and, Bool.and_false]; exact hj true
    | true =>
      simp only [if_true, Bool.true_and]
      refine ev_eq (hj _) ?_
      by_cases c : (l.length : Int) ≤ 400
      · rw [decide_eq_true c, decide_eq_false (by omega)]; rfl
      · rw [decide_eq_false c, decide_eq_true (by omega)]; rfl

def endS (a b : Int) (rs : List (List Int)) : RC := if coverB a b rs then (a, b, rs, true) else zRC
theorem rd_two (a b : Int) : rd [a, b] 0 = a ∧ rd [a, b] 1 = b := ⟨rfl, rfl⟩
theorem spec_read_loop (a b : Int) (words : List (List UInt8)) (hw : words.length ≤ 4194304) (hm : ∀ w ∈ words, w.length ≤ 1048576) : ∀ d i (acc : List (List Int)), i + d = words.length → acc.length ≤ i → (∀ r ∈ acc, r.length ≤ 1048577) →
    Ev (fun k => spec_ReadCover.l0 k (words.map BA) [a, b] acc (i : Int)) (rowsO val9 (endS a b) acc (words.drop i)) := by
  intro d
  induction d with
  | zero =>
    intro i acc h ha hr
    rw [List.drop_eq_nil_of_le (by omega)]
    have hl : longL acc := ⟨by omega, fun x hx => by have := hr x hx; omega⟩
    refine Ev.step (f := fun k => (spec_IsCover.f k a b acc).bind fun t => if t = true then some (a, b, acc, true) else some (0, 0, [], false)) (fun k => ?_) (Ev.bind (spec_IsCover_ev a b acc hl) ?_)
    · simp only [spec_ReadCover.l0]
      rw [if_neg (by rw [List.length_map]; omega), if_pos (by simp), if_pos (by simp), (rd_two a b).1, (rd_two a b).2]
    · refine ev_eq (r := if coverB a b acc = true then (a, b, acc, true) else (0, 0, [], false)) ?_ ?_
      · cases coverB a b acc <;> exact Ev.now _
      · simp [rowsO, allO, endS, zRC]
  | succ d ih =>
    intro i acc h ha hr
    have hi : i < words.length := by omega
    have hwl := hm _ (List.getElem_mem hi)
    have hsl := sp_len 44 words[i] []
    rw [List.drop_eq_getElem_cons hi, rowsO_cons]
    refine Ev.step (f := fun k => (spec_l01Split.f k (BA words[i]) 44).bind fun t157 => (spec_l13Numbers.f k t157).bind fun bt160 => if bt160.2 = true then (if acc.length < 5864062014805 then spec_ReadCover.l0 k (words.map BA) [a, b] (acc ++ [bt160.1]) ((i + 1 : Nat) : Int) else none) else some (0, 0, [], false)) (fun k => ?_) (Ev.bind (spec_split_ev 44 words[i] (by omega)) (Ev.bind (spec_nums_ev (sp 44 [] words[i]) (by omega)) ?_))
    · simp only [spec_ReadCover.l0]
      rw [if_pos (by rw [List.length_map]; omega), if_pos (by omega), rdB words hi, wrap_succ hi (by omega)]
    · cases q : allO val9 (sp 44 [] words[i]) with
      | none => simp only [numsR]; exact Ev.now _
      | some r =>
        have hrl := allO_len _ _ q
        simp only [numsR, List.nil_append, if_true, if_pos (show acc.length < 5864062014805 by omega)]
        exact ih (i + 1) (acc ++ [r]) (by omega) (by simp; omega) (fun x hx => by
          rcases List.mem_append.mp hx with hx | hx
          · exact hr x hx
          · simp only [List.mem_singleton] at hx; subst hx; omega)
def readS (L : List UInt8) : RC := match parseG val9 L with
  | some (a, b, rs) => endS a b rs
  | none => zRC
theorem spec_Read_ev (L : List UInt8) (hL : L.length ≤ 1048576) : Ev (fun k => spec_ReadCover.f k (BA L)) (readS L) := by
  have hlen := sp_len 59 L []
  have hmem := sp_mem 59 L []
  simp only [spec_ReadCover.f]
  refine Ev.bind (spec_split_ev 59 L (by omega)) ?_
  unfold readS parseG
  obtain ⟨w0, ws, e⟩ := sp_cons 59 L []
  rw [e] at hlen hmem
  rw [e]
  have h0 := hmem w0 List.mem_cons_self
  simp only [List.length_nil, Nat.zero_add] at h0
  have hr0 := rdB (w0 :: ws) (i := 0) (by simp)
  simp only [List.getElem_cons_zero] at hr0
  simp only [if_pos (show 0 < ((((w0 :: ws).map BA).length : Nat) : Int) by rw [List.length_map, List.length_cons]; omega)]
  rw [show rdOf ByteArray.empty ((w0 :: ws).map BA) 0 = BA w0 from hr0]
  have hs0 := sp_len 47 w0 []
  refine Ev.bind (spec_split_ev 47 w0 (by omega)) (Ev.bind (spec_nums_ev (sp 47 [] w0) (by omega)) ?_)
  have hz : ∀ xs, Ev (fun k => spec_ReadCover.j0 k ((w0 :: ws).map BA) xs true) zRC := fun xs => ev_const fun k => by simp only [spec_ReadCover.j0, if_true]; rfl
  cases q : allO val9 (sp 47 [] w0) with
  | none => simp only [numsR, Bool.false_eq_true, if_false]; exact hz _
  | some hd =>
    simp only [numsR, List.nil_append, if_true]
    match hd with
    | [] => exact hz _
    | [_] => exact hz _
    | x :: y :: z :: zs =>
      rw [show ((((x :: y :: z :: zs).length : Nat) : Int) != 2) = true from bne_iff_ne.mpr (by simp only [List.length_cons]; omega)]
      exact hz _
    | [a, b] =>
      simp only
      refine Ev.step (f := fun k => spec_ReadCover.l0 k ((w0 :: ws).map BA) [a, b] [] ((1 : Nat) : Int)) (fun k => by simp only [spec_ReadCover.j0]; rfl) ?_
      refine ev_eq (spec_read_loop a b (w0 :: ws) (by omega) (fun w hw => by have := hmem w hw; simp at this; omega) ws.length 1 [] (by simp; omega) (by simp) (by simp)) ?_
      simp only [rowsO, List.drop_succ_cons, List.drop_zero, List.nil_append]
      cases allO (fun w => allO val9 (sp 44 [] w)) ws <;> rfl

theorem impl_in (a b c : Int) : impl_within.f a b c = some (decide (b ≤ a) && decide (a ≤ c)) := by
  unfold impl_within.f; by_cases h : b ≤ a
  · rw [if_pos h]; simp [h]
  · rw [if_neg h]; simp [h]

theorem impl_rises_loop (l : List Int) (n : Int) (hl : l.length ≤ 9223372036854775807) : ∀ d i, i + d = l.length →
    Ev (fun k => impl_isIncreasing.l0 k l n l (l.length : Int) (i : Int)) (risesB (wrap64 (n - 1)) (l.drop i) (prevOf l i)) := by
  intro d
  induction d with
  | zero =>
    intro i h
    rw [rises_end _ _ (by omega)]
    exact ev_const fun k => by simp only [impl_isIncreasing.l0]; rw [if_neg (by omega)]
  | succ d ih =>
    intro i h
    have hi : i < l.length := by omega
    have step : ∀ k, impl_isIncreasing.l0 (k + 1) l n l (l.length : Int) (i : Int) = if (decide (0 ≤ l[i]) && decide (l[i] ≤ wrap64 (n - 1))) = true then (if decide (prevOf l i < l[i]) = true ∨ i = 0 then impl_isIncreasing.l0 k l n l (l.length : Int) ((i + 1 : Nat) : Int) else some false) else some false := fun k => by
      simp only [impl_isIncreasing.l0]
      rw [if_pos (by omega), if_pos (by omega), if_pos (by omega), rd_nat l hi, impl_in]
      simp only [Option.bind_some, wrap_succ hi hl]
      by_cases c : (decide (0 ≤ l[i]) && decide (l[i] ≤ wrap64 (n - 1))) = true
      · rw [if_pos c, if_pos c]
        by_cases z : i = 0
        · rw [if_neg (by omega), if_pos (.inr z)]
        · have e : wrap64 ((i : Int) - 1) = ((i - 1 : Nat) : Int) := by unfold wrap64; omega
          have p : prevOf l i = l[i - 1] := by simp [prevOf, z, List.getD_eq_getElem?_getD, List.getElem?_eq_getElem (show i - 1 < l.length by omega)]
          rw [if_pos (by omega), e, if_pos (by omega), if_pos (by omega), rd_nat l (by omega), p]
          by_cases q : l[i] ≤ l[i - 1]
          · rw [if_pos q, if_neg (by simp [z]; omega)]
          · rw [if_neg q, if_pos (.inl (by simp; omega))]
      · rw [if_neg c, if_neg c]
    rw [rises_next _ _ hi]
    refine Ev.step step ?_
    by_cases c : (decide (0 ≤ l[i]) && decide (l[i] ≤ wrap64 (n - 1))) = true
    · simp only [if_pos c]
      by_cases q : decide (prevOf l i < l[i]) = true ∨ i = 0
      · simp only [if_pos q]
        refine ev_eq (ih (i + 1) (by omega)) ?_
        have q' : decide (prevOf l i < l[i]) = true := q.elim id fun z => by
          subst z
          simp only [Bool.and_eq_true, decide_eq_true_eq] at c
          simp [prevOf]; omega
        rw [c, q']; simp
      · simp only [if_neg q]
        refine ev_eq (Ev.now _) ?_
        rw [show decide (prevOf l i < l[i]) = false by simp only [not_or] at q; simpa using q.1]; simp
    · simp only [if_neg c]
      refine ev_eq (Ev.now _) ?_
      simp only [Bool.not_eq_true] at c
      rw [c]; simp
theorem impl_rises (l : List Int) (n : Int) (hl : l.length ≤ 9223372036854775807) : Ev (fun k => impl_isIncreasing.f k l n) (risesB (wrap64 (n - 1)) l (-1)) := by
  have := impl_rises_loop l n hl l.length 0 (by omega)
  simpa [impl_isIncreasing.f, prevOf] using this

theorem anyM_ev {α : Type} (p : Nat → α → Option Bool) (q : α → Bool) : ∀ l : List α, (∀ x ∈ l, Ev (fun k => p k x) (q x)) → Ev (fun k => anyM (p k) l) (l.any q)
  | [], _ => by simpa [anyM] using Ev.now false
  | x :: xs, h => by
    simp only [anyM, List.any_cons]
    refine Ev.bind (h x (List.mem_cons_self ..)) ?_
    cases c : q x with
    | true => simpa using Ev.now true
    | false => simpa using anyM_ev p q xs (fun y hy => h y (List.mem_cons_of_mem _ hy))
theorem anyM_some {α : Type} (p : α → Option Bool) (q : α → Bool) : ∀ l : List α, (∀ x ∈ l, p x = some (q x)) → anyM p l = some (l.any q)
  | [], _ => rfl
  | x :: xs, h => by
    simp only [anyM, List.any_cons, h x (List.mem_cons_self ..), Option.bind_some]
    cases c : q x with
    | true => simp
    | false => simpa using anyM_some p q xs (fun y hy => h y (List.mem_cons_of_mem _ hy))

theorem impl_IsCover_ev (a b : Int) (l : List (List Int)) (hl : longL l) : Ev (fun k => impl_IsCover.f k a b l) (coverB a b l) := by
  have h1 : ∀ x ∈ l, Ev (fun k => impl_IsCover_1.f k x a) (!rowB a x) := fun x hx => by
    simp only [impl_IsCover_1.f]
    by_cases c : (x.length : Int) = 0
    · simp only [if_pos c]; refine ev_eq (Ev.now _) ?_; simp only [rowB, c]; simp
    · simp only [if_neg c]
      refine Ev.bind (impl_rises x a (hl.2 _ hx)) ?_
      refine ev_eq (Ev.now _) ?_
      simp only [rowB, c]; simp
  have h2 := anyM_ev (fun k x => impl_IsCover_1.f k x a) (fun x => !rowB a x) l h1
  simp only [impl_IsCover.f, impl_in, Option.bind_some]
  unfold coverB
  cases q : (decide (1 ≤ a) && decide (a ≤ 60)) with
  | false => simpa using Ev.now false
  | true =>
    cases q2 : (decide (1 ≤ b) && decide (b ≤ a)) with
    | false => simpa using Ev.now false
    | true =>
      simp only [if_true, Bool.true_and]
      by_cases c : (l.length : Int) ≤ 400
      · simp only [if_neg (show ¬ (l.length : Int) > 400 by omega), decide_eq_true c, Bool.true_and]
        refine Ev.bind h2 ?_
        refine ev_eq (Ev.now _) ?_
        simp [List.any_eq_not_all_not]
      · simp only [if_pos (show (l.length : Int) > 400 by omega), decide_eq_false c, Bool.false_and]
        exact Ev.now false

theorem u64_wrap (n : Nat) (h : n < 18446744073709551616) : IntKind.u64.wrap (n : Int) = (n : Int) := by
  simp only [IntKind.wrap, IntKind.signed, IntKind.bits]
  simp
  omega
theorem u64_ofInt (a : Nat) (ha : a < 18446744073709551616) : (BitVec.ofInt 64 (a : Int)).toNat = a := by
  rw [BitVec.ofInt_natCast, BitVec.toNat_ofNat]; exact Nat.mod_eq_of_lt (by omega)
theorem u64_and (a b : Nat) (ha : a < 18446744073709551616) (hb : b < 18446744073709551616) : Go.bits .and .u64 (a : Int) (b : Int) = ((a &&& b : Nat) : Int) := by
  have hx : a &&& b < 2 ^ 64 := Nat.and_lt_two_pow _ (by omega)
  show IntKind.u64.wrap ((BitVec.ofInt 64 (a : Int) &&& BitVec.ofInt 64 (b : Int)).toNat : Int) = _
  rw [BitVec.toNat_and, u64_ofInt a ha, u64_ofInt b hb]
  exact u64_wrap _ (by omega)
theorem u64_or (a b : Nat) (ha : a < 18446744073709551616) (hb : b < 18446744073709551616) : Go.bits .or .u64 (a : Int) (b : Int) = ((a ||| b : Nat) : Int) := by
  have hx : a ||| b < 2 ^ 64 := Nat.or_lt_two_pow (by omega) (by omega)
  show IntKind.u64.wrap ((BitVec.ofInt 64 (a : Int) ||| BitVec.ofInt 64 (b : Int)).toNat : Int) = _
  rw [BitVec.toNat_or, u64_ofInt a ha, u64_ofInt b hb]
  exact u64_wrap _ (by omega)
theorem pow60 {k : Nat} (h : k < 60) : 2 ^ k < 1152921504606846976 := Nat.lt_of_lt_of_le (Nat.pow_lt_pow_right (by omega) h) (by decide)
theorem u64_shl {k : Nat} (h : k < 60) : shl .u64 1 (k : Int) = ((2 ^ k : Nat) : Int) := by
  have := pow60 h
  unfold shl
  rw [show (IntKind.u64).bits = 64 from rfl, Int.toNat_natCast, Nat.min_eq_left (by omega), Int.one_mul]
  have e : ((2 : Int) ^ k) = ((2 ^ k : Nat) : Int) := by push_cast; rfl
  rw [e]
  exact u64_wrap _ (by omega)
theorem u64_shr (m k : Nat) (h : k < 60) : shr .u64 (m : Int) (k : Int) = ((m >>> k : Nat) : Int) := by
  unfold shr
  rw [show (IntKind.u64).bits = 64 from rfl, Int.toNat_natCast, Nat.min_eq_left (by omega), Nat.shiftRight_eq_div_pow]
  push_cast; rfl
theorem u64_bit (m k : Nat) (hm : m < 18446744073709551616) (h : k < 60) : (Go.bits .and .u64 (shr .u64 (m : Int) (k : Int)) 1 = 1) ↔ m.testBit k = true := by
  have hs : m >>> k ≤ m := by rw [Nat.shiftRight_eq_div_pow]; exact Nat.div_le_self _ _
  rw [u64_shr m k h, show (1 : Int) = ((1 : Nat) : Int) from rfl, u64_and _ _ (by omega) (by omega), Nat.and_one_is_mod]
  rw [Nat.testBit_eq_decide_div_mod_eq, Nat.shiftRight_eq_div_pow]
  simp only [decide_eq_true_eq]
  omega
/-- The columns of a row, as bits. -/
def maskN (m : Nat) : List Int → Nat
  | [] => m
  | x :: xs => maskN (m ||| 2 ^ x.toNat) xs
def cols60 (r : List Int) : Prop := ∀ x ∈ r, 0 ≤ x ∧ x < 60
theorem maskN_lt : ∀ (r : List Int) (m : Nat), cols60 r → m < 1152921504606846976 → maskN m r < 1152921504606846976
  | [], _, _, h => h
  | x :: xs, m, hc, h => maskN_lt xs _ (fun y hy => hc y (List.mem_cons_of_mem _ hy)) (by
      have hx := hc x List.mem_cons_self
      have h1 := pow60 (k := x.toNat) (by omega)
      exact Nat.or_lt_two_pow (n := 60) (by omega) (by omega))
theorem maskN_bit : ∀ (r : List Int) (m j : Nat), cols60 r → (maskN m r).testBit j = (m.testBit j || r.contains (j : Int))
  | [], m, j, _ => by simp [maskN]
  | x :: xs, m, j, hc => by
    have hx := hc x List.mem_cons_self
    simp only [maskN]
    rw [maskN_bit xs _ j (fun y hy => hc y (List.mem_cons_of_mem _ hy)), Nat.testBit_or, Nat.testBit_two_pow, List.contains_cons]
    have e : decide (x.toNat = j) = ((j : Int) == x) := by
      rw [Bool.eq_iff_iff]; simp only [decide_eq_true_eq, beq_iff_eq]; omega
    rw [e, Bool.or_assoc]
theorem and_zero_iff (a b : Nat) : (a &&& b = 0) ↔ ∀ j, (a.testBit j && b.testBit j) = false := by
  constructor
  · intro h j; rw [← Nat.testBit_and, h, Nat.zero_testBit]
  · intro h; refine Nat.eq_of_testBit_eq (fun j => ?_); rw [Nat.testBit_and, h j, Nat.zero_testBit]
def overB2 (a b : List Int) : Bool := a.any (fun e => b.contains e)
theorem mask_over {a b : List Int} (ha : cols60 a) (hb : cols60 b) : (Go.bits .and .u64 ((maskN 0 a : Nat) : Int) ((maskN 0 b : Nat) : Int) = 0) ↔ overB2 a b = false := by
  have h1 := maskN_lt a 0 ha (by omega)
  have h2 := maskN_lt b 0 hb (by omega)
  rw [u64_and _ _ (by omega) (by omega), show (0 : Int) = ((0 : Nat) : Int) from rfl, Int.natCast_inj, and_zero_iff]
  constructor
  · intro h
    unfold overB2
    refine List.any_eq_false.2 (fun e he hc => ?_)
    have hx := ha e he
    have h3 := h e.toNat
    rw [maskN_bit a 0 _ ha, maskN_bit b 0 _ hb, show ((e.toNat : Nat) : Int) = e by omega, hc, Nat.zero_testBit] at h3
    simp [he] at h3
  · intro h j
    rw [maskN_bit a 0 _ ha, maskN_bit b 0 _ hb, Nat.zero_testBit, Bool.false_or, Bool.false_or]
    cases hj : a.contains (j : Int) with
    | false => rfl
    | true =>
      rw [Bool.true_and]
      have := List.any_eq_false.1 h (j : Int) (List.contains_iff_mem.1 hj)
      simpa using this

theorem rises_mem (m : Int) : ∀ (l : List Int) (p : Int), risesB m l p = true → ∀ x ∈ l, 0 ≤ x ∧ x ≤ m
  | [], _, _, x, hx => absurd hx List.not_mem_nil
  | y :: ys, p, h, x, hx => by
    simp only [risesB, Bool.and_eq_true, decide_eq_true_eq] at h
    rcases List.mem_cons.mp hx with rfl | hx
    · exact ⟨h.1.1.1, h.1.1.2⟩
    · exact rises_mem m ys y h.2 x hx
theorem cover_cols {a b : Int} {l : List (List Int)} (h : coverB a b l = true) : ∀ r ∈ l, cols60 r := fun r hr x hx => by
  simp only [coverB, rowB, Bool.and_eq_true, decide_eq_true_eq, List.all_eq_true] at h
  have h1 := rises_mem _ r (-1) (h.2 r hr).2 x hx
  have e : wrap64 (a - 1) = a - 1 := wrap_id (by omega) (by omega)
  omega

theorem cover_small {a b : Int} {l : List (List Int)} (h : coverB a b l = true) : (0 ≤ a ∧ a < 100) ∧ (0 ≤ b ∧ b < 100) ∧ l.length ≤ 400 ∧ (∀ r ∈ l, ∀ x ∈ r, 0 ≤ x ∧ x < 100) ∧ ∀ r ∈ l, r ≠ [] := by
  have hc := cover_cols h
  simp only [coverB, rowB, Bool.and_eq_true, decide_eq_true_eq, List.all_eq_true, Bool.not_eq_true', decide_eq_false_iff_not] at h
  exact ⟨by omega, by omega, by omega, fun r hr x hx => by have := hc r hr x hx; omega, fun r hr e => by have := (h.2 r hr).1; rw [e] at this; simp at this⟩
def ctB (a b : Int) (l : List (List Int)) : ByteArray := if coverB a b l then BA (coverL a b l) else BA []

theorem nums_loop (l : List Int) (s : ByteArray) (hl : l.length ≤ 2097152) (hx : ∀ x ∈ l, 0 ≤ x ∧ x < 100) {R : ByteArray} (hE : strings_Join.f (l.map fun x => BA (D10 x)) s = some R) : ∀ d i, i + d = l.length → Ev (fun k => impl_numbersText.l0 k s ((l.take i).map fun x => BA (D10 x)) l (l.length : Int) (i : Int)) R := by
  intro d
  induction d with
  | zero =>
    intro i h
    rw [List.take_of_length_le (by omega)]
    exact ev_const fun k => by simp only [impl_numbersText.l0]; rw [if_neg (by omega), hE]; rfl
  | succ d ih =>
    intro i h
    have hi : i < l.length := by omega
    have hv := hx _ (List.getElem_mem hi)
    have e : strconv_FormatInt.f l[i] 10 = some (BA (D10 l[i])) := by unfold strconv_FormatInt.f; rw [if_pos ⟨hv.1, hv.2, rfl⟩]; rfl
    refine Ev.step (fun k => ?_) (ih (i + 1) (by omega))
    simp only [impl_numbersText.l0]
    rw [if_pos (by omega), if_pos (by omega), if_pos (by omega), rd_nat l hi, e]
    simp only [Option.bind_some]
    rw [if_pos (by simp; omega), wrap_succ hi (by omega), List.take_succ_eq_append_getElem hi, List.map_append]; rfl
theorem nums_ev (l : List Int) (c : UInt8) (hl : l.length ≤ 2097152) (hx : ∀ x ∈ l, 0 ≤ x ∧ x < 100) (h0 : l ≠ []) : Ev (fun k => impl_numbersText.f k l (BA [c])) (BA (Lib.join (l.map D10) [c])) := by
  have hlen : (Lib.join (l.map D10) [c]).length ≤ 3 * l.length := by
    cases l with
    | nil => exact absurd rfl h0
    | cons x xs =>
      rw [List.map_cons, Lib.join_cons, List.length_append]
      have h1 := D10_len (hx x List.mem_cons_self).1 (hx x List.mem_cons_self).2
      have h2 : ∀ ys : List Int, (∀ y ∈ ys, 0 ≤ y ∧ y < 100) → (Lib.joinTail [c] (ys.map D10)).length ≤ 3 * ys.length := by
        intro ys
        induction ys with
        | nil => intro _; simp [Lib.joinTail]
        | cons y ys ih =>
          intro h
          have h3 := D10_len (h y List.mem_cons_self).1 (h y List.mem_cons_self).2
          have h4 := ih (fun z hz => h z (List.mem_cons_of_mem _ hz))
          simp only [Lib.joinTail, List.map_cons, List.flatten_cons, List.length_append, List.length_cons, List.length_nil] at h4 ⊢
          omega
      have h5 := h2 xs (fun z hz => hx z (List.mem_cons_of_mem _ hz))
      simp only [List.length_cons]; omega
  have em : (l.map fun x => BA (D10 x)).map (·.data.toList) = l.map D10 := by rw [List.map_map]; exact List.map_congr_left (fun x _ => BA_data _)
  have e : strings_Join.f (l.map fun x => BA (D10 x)) (BA [c]) = some (BA (Lib.join (l.map D10) [c])) := by
    unfold strings_Join.f
    rw [em, BA_data, if_pos ⟨by rw [List.length_map]; omega, by omega⟩]; rfl
  have := nums_loop l (BA [c]) hl hx e l.length 0 (by omega)
  simpa [impl_numbersText.f] using this
theorem impl_ct_rows (l : List (List Int)) (hl : longL l) (h4 : l.length ≤ 400) (hr : ∀ r ∈ l, r.length ≤ 2097152 ∧ ∀ x ∈ r, 0 ≤ x ∧ x < 100) (hn : ∀ r ∈ l, r ≠ []) : ∀ d i (acc : List UInt8), i + d = l.length → acc.length + d * 6291456 ≤ 4000000000 → Ev (fun k => impl_coverText.l0 k (BA acc) l (l.length : Int) (i : Int)) (BA (acc ++ ((l.drop i).map (segL true)).flatten)) := by
  intro d
  induction d with
  | zero =>
    intro i acc h _
    rw [List.drop_eq_nil_of_le (by omega)]
    exact ev_const fun k => by simp only [impl_coverText.l0]; rw [if_neg (by omega)]; simp
  | succ d ih =>
    intro i acc h hb
    have hi : i < l.length := by omega
    have hm := hr _ (List.getElem_mem hi)
    have h0 := hn _ (List.getElem_mem hi)
    have hs := segL_len true l[i] hm.2
    have hj : segL true l[i] = 59 :: Lib.join (l[i].map D10) [44] := by
      cases q : l[i] with
      | nil => exact absurd q h0
      | cons x xs => exact segL_join x xs
    have hjl : (Lib.join (l[i].map D10) [44]).length + 1 ≤ 3 * l[i].length := by rw [hj] at hs; simpa using hs
    rw [List.drop_eq_getElem_cons hi, List.map_cons, List.flatten_cons, ← List.append_assoc]
    refine Ev.step (f := fun k => (impl_numbersText.f k l[i] (BA [44])).bind fun t => if 1 + t.size ≤ 9223372036854775807 then (if (BA acc).size + (BA [59] ++ t).size ≤ 9223372036854775807 then impl_coverText.l0 k (BA acc ++ (BA [59] ++ t)) l (l.length : Int) ((i + 1 : Nat) : Int) else none) else none) (fun k => ?_) (Ev.bind (nums_ev l[i] 44 hm.1 hm.2 h0) ?_)
    · simp only [impl_coverText.l0]
      rw [if_pos (by omega), if_pos (by omega), if_pos (by omega), rdr_nat l hi, wrap_succ hi hl.1]; rfl
    · simp only [BA_app, BA_size, List.length_append, List.length_singleton]
      simp only [if_pos (show 1 + (Lib.join (l[i].map D10) [44]).length ≤ 9223372036854775807 by omega), if_pos (show acc.length + (1 + (Lib.join (l[i].map D10) [44]).length) ≤ 9223372036854775807 by omega), show [59] ++ Lib.join (l[i].map D10) [44] = segL true l[i] from hj.symm]
      exact ih (i + 1) (acc ++ segL true l[i]) (by omega) (by rw [List.length_append]; omega)
theorem impl_coverText_ev {a b : Int} {l : List (List Int)} (hl : longL l) (hr : ∀ r ∈ l, r.length ≤ 2097152) (c : coverB a b l = true) : Ev (fun k => impl_coverText.f k a b l) (BA (coverL a b l)) := by
  obtain ⟨ha, hb, h4, hx, hn⟩ := cover_small c
  simp only [impl_coverText.f]
  have da := D10_len ha.1 ha.2
  have db := D10_len hb.1 hb.2
  refine Ev.bind (nums_ev [a, b] 47 (by simp) (fun x hx => by
    simp only [List.mem_cons, List.not_mem_nil, or_false] at hx
    rcases hx with rfl | rfl
    · exact ha
    · exact hb) (by simp)) ?_
  have e : Lib.join ([a, b].map D10) [47] = D10 a ++ [47] ++ D10 b := by rw [List.map_cons, Lib.join_cons]; simp [Lib.joinTail]
  rw [e]
  have := impl_ct_rows l hl h4 (fun r h => ⟨hr r h, hx r h⟩) hn l.length 0 (D10 a ++ [47] ++ D10 b) (by omega) (by simp only [List.length_append, List.length_singleton]; omega)
  rw [List.drop_zero] at this
  exact this

def endI (L : List UInt8) (a b : Int) (rs : List (List Int)) : RC := if coverB a b rs then (if coverL a b rs = L then (a, b, rs, true) else zRC) else zRC
theorem impl_read_loop (L : List UInt8) (a b : Int) (words : List (List UInt8)) (hw : words.length ≤ 4194304) (hm : ∀ w ∈ words, w.length ≤ 1048576) : ∀ d i (acc : List (List Int)), i + d = words.length → acc.length ≤ i → (∀ r ∈ acc, r.length ≤ 1048577) →
    Ev (fun k => impl_ReadCover.l0 k (BA L) (words.map BA) ((words.map BA).length : Int) (i : Int) a b acc) (rowsO pint (endI L a b) acc (words.drop i)) := by
  intro d
  induction d with
  | zero =>
    intro i acc h ha hr
    rw [List.drop_eq_nil_of_le (by omega)]
    have hl : longL acc := ⟨by omega, fun x hx => by have := hr x hx; omega⟩
    refine Ev.step (f := fun k => (impl_IsCover.f k a b acc).bind fun t => if t = true then (impl_coverText.f k a b acc).bind (fun t223 => if t223.toList = (BA L).toList then some (a, b, acc, true) else some (0, 0, [], false)) else some (0, 0, [], false)) (fun k => ?_) (Ev.bind (impl_IsCover_ev a b acc hl) ?_)
    · simp only [impl_ReadCover.l0]
      rw [if_neg (by rw [List.length_map]; omega)]
    · have e : rowsO pint (endI L a b) acc [] = endI L a b acc := by simp [rowsO, allO]
      rw [e]
      unfold endI
      cases c : coverB a b acc with
      | false => exact Ev.now _
      | true =>
        simp only [if_true]
        refine Ev.bind (impl_coverText_ev hl (fun r h => by have := hr r h; omega) c) ?_
        simp only [Lib.toList_data, BA_data]
        by_cases q : coverL a b acc = L
        · simp only [if_pos q]; exact Ev.now _
        · simp only [if_neg q]; exact Ev.now _
  | succ d ih =>
    intro i acc h ha hr
    have hi : i < words.length := by omega
    have hwl := hm _ (List.getElem_mem hi)
    have hsl := sp_len 44 words[i] []
    rw [List.drop_eq_getElem_cons hi, rowsO_cons]
    refine Ev.step (f := fun k => (impl_readNumbers.f k (BA words[i]) (BA [44])).bind fun bt215 => if bt215.2 = true then (if acc.length < 5864062014805 then impl_ReadCover.l0 k (BA L) (words.map BA) ((words.map BA).length : Int) ((i + 1 : Nat) : Int) a b (acc ++ [bt215.1]) else none) else some (0, 0, [], false)) (fun k => ?_) (Ev.bind (impl_nums_ev words[i] 44 (by omega)) ?_)
    · simp only [impl_ReadCover.l0]
      rw [if_pos (by rw [List.length_map]; omega), if_pos (by omega), if_pos (by rw [List.length_map]; omega), rdB words hi, wrap_succ hi (by omega)]; rfl
    · cases q : allO pint (sp 44 [] words[i]) with
      | none => simp only [numsR]; exact Ev.now _
      | some r =>
        have hrl := allO_len _ _ q
        simp only [numsR, List.nil_append, if_true, if_pos (show acc.length < 5864062014805 by omega)]
        exact ih (i + 1) (acc ++ [r]) (by omega) (by simp; omega) (fun x hx => by
          rcases List.mem_append.mp hx with hx | hx
          · exact hr x hx
          · simp only [List.mem_singleton] at hx; subst hx; omega)
def readI (L : List UInt8) : RC := match sp 59 [] L with
  | [] => zRC
  | w0 :: ws => match allO pint (sp 47 [] w0) with
    | some [a, b] => if ws.length ≤ 400 then rowsO pint (endI L a b) [] ws else zRC
    | _ => zRC
theorem impl_Read_ev (L : List UInt8) (hL : L.length ≤ 1048576) : Ev (fun k => impl_ReadCover.f k (BA L)) (readI L) := by
  have hlen := sp_len 59 L []
  have hmem := sp_mem 59 L []
  simp only [impl_ReadCover.f]
  rw [show (⟨#[59]⟩ : ByteArray) = BA [59] from rfl, split_ev L 59 (by omega)]
  simp only [Option.bind_some]
  unfold readI
  obtain ⟨w0, ws, e⟩ := sp_cons 59 L []
  rw [e] at hlen hmem
  rw [e]
  have h0 := hmem w0 List.mem_cons_self
  simp only [List.length_nil, Nat.zero_add] at h0
  have hr0 := rdB (w0 :: ws) (i := 0) (by simp)
  simp only [List.getElem_cons_zero] at hr0
  simp only [if_pos (show 0 < ((((w0 :: ws).map BA).length : Nat) : Int) by rw [List.length_map, List.length_cons]; omega)]
  rw [show rdOf ByteArray.empty ((w0 :: ws).map BA) 0 = BA w0 from hr0]
  refine Ev.bind (impl_nums_ev w0 47 (by omega)) ?_
  have hz : ∀ xs, Ev (fun k => impl_ReadCover.j0 k (BA L) ((w0 :: ws).map BA) xs true) zRC := fun xs => ev_const fun k => by simp only [impl_ReadCover.j0, if_true]; rfl
  cases q : allO pint (sp 47 [] w0) with
  | none => simp only [numsR, Bool.false_eq_true, if_false]; exact hz _
  | some hd =>
    simp only [numsR, List.nil_append, if_true]
    match hd with
    | [] => exact hz _
    | [_] => exact hz _
    | x :: y :: z :: zs => simp only [if_neg (show ¬ (((x :: y :: z :: zs).length : Nat) : Int) = 2 by simp only [List.length_cons]; omega)]; exact hz _
    | [a, b] =>
      simp only [List.length_cons, List.length_nil, List.length_map] at hlen ⊢
      rw [wrap_id (x := ((ws.length + 1 : Nat) : Int) - 1) (by omega) (by omega)]
      simp only [if_pos (show (((0 + 1 + 1 : Nat)) : Int) = 2 from rfl)]
      by_cases c : ws.length ≤ 400
      · rw [if_pos c, decide_eq_false (show ¬ ((ws.length + 1 : Nat) : Int) - 1 > 400 by omega)]
        have hlp := impl_read_loop L a b ws (by omega) (fun w hw => by have := hmem w (List.mem_cons_of_mem _ hw); simp at this; omega) ws.length 0 [] (by omega) (Nat.le_refl _) (by simp)
        rw [List.drop_zero] at hlp
        refine Ev.step (fun k => ?_) hlp
        simp only [impl_ReadCover.j0]
        rw [if_neg (by simp), if_pos (by simp), if_pos (by simp), if_pos (by simp; omega), (rd_two a b).1, (rd_two a b).2]
        rfl
      · rw [if_neg c, decide_eq_true (show ((ws.length + 1 : Nat) : Int) - 1 > 400 by omega)]
        exact hz _

theorem readI_z {L : List UInt8} (h : ∀ a b rs, coverB a b rs = true → coverL a b rs ≠ L) : readI L = zRC := by
  have he : ∀ a b rs, endI L a b rs = zRC := fun a b rs => by
    unfold endI
    by_cases c : coverB a b rs = true
    · rw [if_pos c, if_neg (h a b rs c)]
    · rw [if_neg c]
  unfold readI
  cases sp 59 [] L with
  | nil => rfl
  | cons w0 ws =>
    simp only
    split
    · split
      · unfold rowsO; split
        · exact he _ _ _
        · rfl
      · rfl
    · rfl
theorem read_same (L : List UInt8) : readS L = readI L := by
  by_cases h : ∃ a b rs, coverB a b rs = true ∧ coverL a b rs = L
  · obtain ⟨a, b, rs, c, rfl⟩ := h
    obtain ⟨ha, hb, h4, hx, hn⟩ := cover_small c
    have e1 : readS (coverL a b rs) = (a, b, rs, true) := by
      unfold readS
      rw [parse_of val9 (fun n h0 h1 => val9_small h0 h1) ha hb hx hn]
      simp only [endS, c, if_true]
    have e2 := parse_of pint (fun n h0 h1 => pint_small h0 h1) ha hb hx hn
    rw [e1]
    unfold readI
    unfold parseG at e2
    cases q : sp 59 [] (coverL a b rs) with
    | nil => rw [q] at e2; simp at e2
    | cons w0 ws =>
      rw [q] at e2
      simp only at e2 ⊢
      cases q1 : allO pint (sp 47 [] w0) with
      | none => rw [q1] at e2; simp at e2
      | some hd =>
        rw [q1] at e2
        match hd, q1, e2 with
        | [], _, h => simp at h
        | [_], _, h => simp at h
        | _ :: _ :: _ :: _, _, h => simp at h
        | [a', b'], q1, e2 =>
          simp only at e2 ⊢
          cases q2 : allO (fun w => allO pint (sp 44 [] w)) ws with
          | none => rw [q2] at e2; simp at e2
          | some rs' =>
            rw [q2] at e2
            simp only [Option.some.injEq, Prod.mk.injEq] at e2
            obtain ⟨rfl, rfl, rfl⟩ := e2
            have hlen := allO_len _ _ q2
            rw [if_pos (by omega)]
            unfold rowsO
            rw [q2]
            simp [endI, c]
  · have h' : ∀ a b rs, coverB a b rs = true → coverL a b rs ≠ L := fun a b rs c e => h ⟨a, b, rs, c, e⟩
    rw [readI_z h']
    unfold readS
    cases q : parseG val9 L with
    | none => rfl
    | some p =>
      obtain ⟨a, b, rs⟩ := p
      simp only [endS]
      by_cases c : coverB a b rs = true
      · exact absurd (parse_back q) (h' a b rs c)
      · rw [if_neg c]
theorem seg_ge : ∀ (b : Bool) (l : List Int), l.length ≤ (segL b l).length
  | _, [] => by simp
  | b, x :: xs => by
    have := seg_ge false xs
    simp only [segL, List.cons_append, List.length_cons, List.length_append]; omega
theorem flat_ge : ∀ (l : List (List Int)) (r : List Int), r ∈ l → r.length ≤ ((l.map (segL true)).flatten).length
  | x :: xs, r, h => by
    simp only [List.map_cons, List.flatten_cons, List.length_append]
    rcases List.mem_cons.mp h with rfl | h
    · have := seg_ge true r; omega
    · have := flat_ge xs r h; omega
theorem readS_rows (L : List UInt8) : (readS L).2.2.1.length ≤ 400 ∧ ∀ r ∈ (readS L).2.2.1, r.length ≤ L.length := by
  unfold readS
  cases q : parseG val9 L with
  | none => simp [zRC]
  | some p =>
    obtain ⟨a, b, rs⟩ := p
    simp only [endS]
    by_cases c : coverB a b rs = true
    · rw [if_pos c]
      obtain ⟨_, _, h4, _, _⟩ := cover_small c
      refine ⟨h4, fun r hr => ?_⟩
      have hj := parse_back q
      have := flat_ge rs r hr
      rw [← hj]
      simp only [coverL, List.length_append]; omega
    · rw [if_neg c]; simp [zRC]

theorem eqInts_loop (l : List Int) (hl : l.length ≤ 9223372036854775807) : ∀ d i, i + d = l.length → Ev (fun k => laws_eqInt64S.l0 k l l (i : Int)) true := by
  intro d
  induction d with
  | zero => intro i h; exact ev_const fun k => by simp only [laws_eqInt64S.l0]; rw [if_neg (by omega)]
  | succ d ih =>
    intro i h
    have hi : i < l.length := by omega
    refine Ev.step (f := fun k => laws_eqInt64S.l0 k l l ((i + 1 : Nat) : Int)) (fun k => ?_) (ih (i + 1) (by omega))
    simp only [laws_eqInt64S.l0]
    rw [if_pos (by omega), if_pos (by omega), if_pos (by omega), wrap_succ hi hl]; simp
theorem eqInts (l : List Int) (hl : l.length ≤ 9223372036854775807) : Ev (fun k => laws_eqInt64S.f k l l) true := by
  have := eqInts_loop l hl l.length 0 (by omega)
  simpa [laws_eqInt64S.f] using this

theorem eqRows_loop (l : List (List Int)) (hl : longL l) : ∀ d i, i + d = l.length → Ev (fun k => laws_eqInt64SS.l0 k l l (i : Int)) true := by
  intro d
  induction d with
  | zero => intro i h; exact ev_const fun k => by simp only [laws_eqInt64SS.l0]; rw [if_neg (by omega)]
  | succ d ih =>
    intro i h
    have hi : i < l.length := by omega
    refine Ev.step (f := fun k => (laws_eqInt64S.f k l[i] l[i]).bind fun t => if t = true then laws_eqInt64SS.l0 k l l ((i + 1 : Nat) : Int) else some false) (fun k => ?_) (Ev.bind (eqInts l[i] (hl.2 _ (List.getElem_mem hi))) (by simpa using ih (i + 1) (by omega)))
    simp only [laws_eqInt64SS.l0]
    rw [if_pos (by omega), if_pos (by omega), if_pos (by omega), rdr_nat l hi, wrap_succ hi hl.1]
theorem eqRows (l : List (List Int)) (hl : longL l) : Ev (fun k => laws_eqInt64SS.f k l l) true := by
  have := eqRows_loop l hl l.length 0 (by omega)
  simpa [laws_eqInt64SS.f] using this

theorem eqCover_ev (a b : Int) (l : List (List Int)) (hl : longL l) : Ev (fun k => laws_eqCover.f k a b l a b l) true := by
  simp only [laws_eqCover.f, if_true]
  exact Ev.bind (eqRows l hl) (by simpa using Ev.now true)

/-- The numbers from a on. -/
def seqI (a : Int) : Nat → List Int
  | 0 => []
  | n + 1 => a :: seqI (a + 1) n
theorem seqI_length : ∀ n a, (seqI a n).length = n
  | 0, _ => rfl
  | n + 1, a => by simp [seqI, seqI_length n]
theorem seqI_snoc : ∀ n a, seqI a (n + 1) = seqI a n ++ [a + n]
  | 0, a => by simp [seqI]
  | n + 1, a => by
    rw [seqI, seqI_snoc n (a + 1), seqI]
    simp only [List.cons_append]
    congr 3; omega
theorem seqI_get : ∀ n a i (h : i < (seqI a n).length), (seqI a n)[i] = a + i
  | 0, _, _, h => by simp [seqI] at h
  | n + 1, a, 0, _ => by simp [seqI]
  | n + 1, a, i + 1, h => by
    simp only [seqI, List.getElem_cons_succ]
    rw [seqI_get n (a + 1) i]; omega
theorem markInts_loop (a : Int) (n : Nat) (h0 : 0 ≤ a) (h1 : a + n ≤ 4611686018427387904) : ∀ d i (y : List Int), i + d = n → y.length = d → Ev (fun k => laws_markInt64S.l0 k (seqI a i ++ y) (a + i) (i : Int)) (a + n, seqI a n) := by
  intro d
  induction d with
  | zero =>
    intro i y h hy
    have : y = [] := List.eq_nil_of_length_eq_zero hy
    subst this
    obtain rfl : i = n := by omega
    exact ev_const fun k => by simp only [laws_markInt64S.l0]; rw [if_neg (by simp [seqI_length])]; simp
  | succ d ih =>
    intro i y h hy
    obtain ⟨z, ys, rfl⟩ : ∃ z ys, y = z :: ys := by cases y with | nil => simp at hy | cons z ys => exact ⟨z, ys, rfl⟩
    refine Ev.step (f := fun k => laws_markInt64S.l0 k (seqI a (i + 1) ++ ys) (a + ((i + 1 : Nat) : Int)) ((i + 1 : Nat) : Int)) (fun k => ?_) (ih (i + 1) ys (by omega) (by simpa using hy))
    simp only [laws_markInt64S.l0]
    rw [if_pos (by simp [seqI_length]; omega), if_pos (by omega)]
    have e1 : wrap64 (a + (i : Int) + 1) = a + ((i + 1 : Nat) : Int) := by unfold wrap64; omega
    have e2 : wrap64 ((i : Int) + 1) = ((i + 1 : Nat) : Int) := by unfold wrap64; omega
    rw [e1, e2, Int.toNat_natCast, seqI_snoc]
    congr 1
    rw [List.set_append_right _ _ (by rw [seqI_length]; exact Nat.le_refl i), seqI_length]; simp
theorem markInts (a : Int) (y : List Int) (h0 : 0 ≤ a) (h1 : a + y.length ≤ 4611686018427387904) : Ev (fun k => laws_markInt64S.f k y a) (a + y.length, seqI a y.length) := by
  have := markInts_loop a y.length h0 h1 y.length 0 y (by omega) rfl
  simpa [laws_markInt64S.f, seqI] using this
theorem heldInts_loop (a : Int) (n : Nat) (h0 : 0 ≤ a) (h1 : a + n ≤ 4611686018427387904) : ∀ d i, i + d = n → Ev (fun k => laws_heldInt64S.l0 k (seqI a n) (a + i) (i : Int)) (a + n) := by
  intro d
  induction d with
  | zero =>
    intro i h
    obtain rfl : i = n := by omega
    exact ev_const fun k => by simp only [laws_heldInt64S.l0]; rw [if_neg (by simp [seqI_length])]
  | succ d ih =>
    intro i h
    have hi : i < (seqI a n).length := by rw [seqI_length]; omega
    refine Ev.step (f := fun k => laws_heldInt64S.l0 k (seqI a n) (a + ((i + 1 : Nat) : Int)) ((i + 1 : Nat) : Int)) (fun k => ?_) (ih (i + 1) (by omega))
    simp only [laws_heldInt64S.l0]
    rw [if_pos (by omega), if_pos (by omega), rd_nat _ hi, seqI_get, if_pos rfl]
    have e1 : wrap64 (a + (i : Int) + 1) = a + ((i + 1 : Nat) : Int) := by unfold wrap64; omega
    have e2 : wrap64 ((i : Int) + 1) = ((i + 1 : Nat) : Int) := by unfold wrap64; omega
    rw [e1, e2]
theorem heldInts (a : Int) (n : Nat) (h0 : 0 ≤ a) (h1 : a + n ≤ 4611686018427387904) : Ev (fun k => laws_heldInt64S.f k (seqI a n) a) (a + n) := by
  have := heldInts_loop a n h0 h1 n 0 (by omega)
  simpa [laws_heldInt64S.f] using this

def marksZ : List (List Int) → Int → List (List Int)
  | [], _ => []
  | x :: xs, a => seqI a x.length :: marksZ xs (a + x.length)
def marksR : List (List Int) → Int → Int
  | [], a => a
  | x :: xs, a => marksR xs (a + x.length)
theorem marksZ_len : ∀ (l : List (List Int)) (a : Int), (marksZ l a).length = l.length
  | [], _ => rfl
  | x :: xs, a => by simp [marksZ, marksZ_len xs]
theorem marksR_bd : ∀ (l : List (List Int)) (a : Int), (∀ x ∈ l, (x.length : Int) ≤ 1048576) → a ≤ marksR l a ∧ marksR l a ≤ a + l.length * 1048576
  | [], a, _ => by simp [marksR]
  | x :: xs, a, hx => by
    have h1 := hx x List.mem_cons_self
    have h2 := marksR_bd xs (a + x.length) (fun y hy => hx y (List.mem_cons_of_mem _ hy))
    simp only [marksR, List.length_cons]; push_cast
    constructor <;> omega
theorem markRowsZ : ∀ (l : List (List Int)) (a : Int), 0 ≤ a → (∀ x ∈ l, (x.length : Int) ≤ 1048576) → a + l.length * 1048576 ≤ 4611686018427387904 → Ev (fun k => laws_markInt64SS.f k l a) (marksR l a, marksZ l a)
  | [], a, _, _, _ => Ev.now _
  | x :: xs, a, h0, hx, h1 => by
    have hxl := hx x List.mem_cons_self
    simp only [List.length_cons] at h1
    push_cast at h1
    exact Ev.bind (markInts a x h0 (by omega)) (Ev.bind (markRowsZ xs (a + x.length) (by omega) (fun y hy => hx y (List.mem_cons_of_mem _ hy)) (by omega)) (Ev.now _))
theorem heldRows_loop (z : List (List Int)) (hz : z.length ≤ 9223372036854775807) : ∀ (l : List (List Int)) (i : Nat) (a : Int), 0 ≤ a → (∀ x ∈ l, (x.length : Int) ≤ 1048576) → a + l.length * 1048576 ≤ 4611686018427387904 → z.drop i = marksZ l a → i ≤ z.length → Ev (fun k => laws_heldInt64SS.l0 k z a (i : Int)) (marksR l a)
  | [], i, a, _, _, _, hd, _ => by
    have h : z.length ≤ i := by simpa [marksZ] using hd
    exact ev_const fun k => by simp only [laws_heldInt64SS.l0]; rw [if_neg (by omega)]; rfl
  | x :: xs, i, a, h0, hx, h1, hd, _ => by
    have hxl := hx x List.mem_cons_self
    simp only [List.length_cons] at h1
    push_cast at h1
    have hi : i < z.length := by
      by_cases h : i < z.length
      · exact h
      · rw [List.drop_eq_nil_of_le (by omega)] at hd; simp [marksZ] at hd
    rw [List.drop_eq_getElem_cons hi] at hd
    simp only [marksZ, List.cons.injEq] at hd
    refine Ev.step (f := fun k => (laws_heldInt64S.f k z[i] a).bind fun t => if t < 0 then some (-1) else laws_heldInt64SS.l0 k z t ((i + 1 : Nat) : Int)) (fun k => ?_) (Ev.bind (by rw [hd.1]; exact heldInts a x.length h0 (by omega)) ?_)
    · simp only [laws_heldInt64SS.l0]
      rw [if_pos (by omega), if_pos (by omega), rdr_nat z hi, wrap_succ hi hz]
    · simp only [if_neg (show ¬ a + (x.length : Int) < 0 by omega)]
      exact heldRows_loop z hz xs (i + 1) (a + x.length) (by omega) (fun y hy => hx y (List.mem_cons_of_mem _ hy)) (by omega) hd.2 (by omega)
theorem heldRows (l : List (List Int)) (hl : (l.length : Int) ≤ 1048576) (hx : ∀ x ∈ l, (x.length : Int) ≤ 1048576) : Ev (fun k => laws_heldInt64SS.f k (marksZ l 1) 1) (marksR l 1) := by
  have := heldRows_loop (marksZ l 1) (by rw [marksZ_len]; omega) l 0 1 (by omega) hx (by omega) rfl (by omega)
  simpa [laws_heldInt64SS.f] using this


theorem pure : laws_FnExactReadCover.Pure := by
  intro s _
  refine Ev.rounds (r := true) ?_
  simp only [laws_FnExactReadCover.f]
  by_cases c : (s.size : Int) > 1048576
  · simp only [if_pos c]; exact Ev.now _
  · simp only [if_neg c]
    have hL : s.data.toList.length ≤ 1048576 := by rw [← Lib.size_eq]; omega
    obtain ⟨L, rfl⟩ : ∃ L, s = BA L := ⟨_, BA_of s⟩
    rw [BA_data] at hL
    have hS := spec_Read_ev L hL
    have hI := impl_Read_ev L hL
    rw [← read_same L] at hI
    have hlen := readS_rows L
    generalize readS L = v at *
    obtain ⟨a, b, f, e⟩ := v
    replace hlen : f.length ≤ 400 ∧ ∀ r ∈ f, r.length ≤ L.length := hlen
    have hf : longL f := ⟨by omega, fun x hx => by have := hlen.2 x hx; omega⟩
    have hE := eqCover_ev a b f hf
    refine Ev.bind hS (Ev.bind hI (Ev.bind hE ?_))
    simp only [if_true, bne_self_eq_false, Bool.false_eq_true, if_false]
    have hx : ∀ x ∈ f, (x.length : Int) ≤ 1048576 := fun x hx => by have := hlen.2 x hx; omega
    have hR := marksR_bd f 1 hx
    have hMz : Ev (fun k => laws_markCover.f k a b f 1) (marksR f 1, marksZ f 1) := markRowsZ f 1 (by omega) hx (by omega)
    have hH : Ev (fun k => laws_heldCover.f k a b (marksZ f 1) 1) (marksR f 1) := by
      have := heldRows f (by omega) hx
      simp only [laws_heldCover.f]
      refine Ev.bind this ?_
      simp only [if_neg (show ¬ (marksR f 1 < 0) by omega)]
      exact Ev.now _
    refine Ev.bind hMz (Ev.bind hH ?_)
    simp only [if_neg (show ¬ (marksR f 1 < 0) by omega), if_true]
    refine Ev.bind hI (Ev.bind hE ?_)
    simp only [if_true, bne_self_eq_false, Bool.false_eq_true, if_false]
    refine Ev.bind hH ?_
    simp only [if_neg (show ¬ (marksR f 1 < 0) by omega), if_true]
    exact Ev.now true

end Go.Proofs.YtcbpbdhglblagaaDoor.XFnExactReadCover
namespace Go.Proofs.YtcbpbdhglblagaaDoor
/-- The law FnExactReadCover returns true at every text. Conditions: none. -/
theorem fnExactReadCover_holds : Rows.FnExactReadCoverCardSaid := fnExactReadCover.of_pure XFnExactReadCover.pure
#print axioms fnExactReadCover_holds
end Go.Proofs.YtcbpbdhglblagaaDoor
