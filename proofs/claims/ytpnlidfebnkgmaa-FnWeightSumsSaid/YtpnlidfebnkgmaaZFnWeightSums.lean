/- The law FnWeightSums returns true at every code: what it draws is small, and sums of weights add up. Conditions: none. -/
import Derived.Test.YtpnlidfebnkgmaaXRFnWeightSums
namespace Go.Proofs.Ytpnlidfebnkgmaa.XFnWeightSums
open Go.RowKit Go.Proofs.YtpnlidfebnkgmaaW.PrintWords Go.Proofs.YtpnlidfebnkgmaaW.PrintLast Go.Proofs.YtpnlidfebnkgmaaW.PrintMore Go.Proofs.Ytpnlidfebnkgmaa.U
set_option linter.unusedVariables false
set_option linter.unusedSimpArgs false

theorem wrap_succ {i n : Nat} (h : i < n) (hn : n ≤ 9223372036854775807) : wrap64 ((i : Int) + 1) = ((i + 1 : Nat) : Int) := by
  unfold wrap64; omega
theorem wrap_id {x : Int} (h0 : -9223372036854775808 ≤ x) (h1 : x ≤ 9223372036854775807) : wrap64 x = x := by
  unfold wrap64; omega
theorem rd_nat (l : List Int) {i : Nat} (h : i < l.length) : rd l (i : Int) = l[i] := by
  simp [rd, List.getD_eq_getElem?_getD, List.getElem?_eq_getElem h]
theorem ev_true {g : Nat → Option Bool} {r : Bool} (h : ∀ k, g (k + 1) = some r) : Ev g r := Ev.step (f := fun _ => some r) h (Ev.now r)
theorem ev_const {α : Type} {g : Nat → Option α} {r : α} (h : ∀ k, g (k + 1) = some r) : Ev g r := Ev.step (f := fun _ => some r) h (Ev.now r)
theorem ev_eq {α : Type} {g : Nat → Option α} {r r' : α} (h : Ev g r) (e : r = r') : Ev g r' := e ▸ h
theorem wf64 {x : Int} (h : (Lit.int .i64 x).wf = true) : -9223372036854775808 ≤ x ∧ x ≤ 9223372036854775807 := by
  simp only [Lit.wf, IntKind.min, IntKind.max, IntKind.signed, IntKind.bits, Bool.and_eq_true, decide_eq_true_eq] at h
  simpa using h

/-- A source of draws: a code, how far it is read, and the number that is carried on. -/
def Src (L : List Int) (p z : Int) : Prop := (L.length ≤ 4096 ∧ ∀ x ∈ L, 0 ≤ x ∧ x ≤ 255) ∧ (0 ≤ p ∧ p ≤ (L.length : Int)) ∧ 0 ≤ z ∧ z < 2147483647
theorem byte_of {x : Int} (h : (Lit.int .u8 x).wf = true) : 0 ≤ x ∧ x ≤ 255 := by
  simp only [Lit.wf, IntKind.min, IntKind.max, IntKind.signed, IntKind.bits, Bool.and_eq_true, decide_eq_true_eq] at h
  simpa using h
theorem rd_mem {L : List Int} {p : Int} (h0 : 0 ≤ p) (h1 : p < (L.length : Int)) : rd L p ∈ L := by
  have h : p.toNat < L.length := by omega
  show L.getD p.toNat 0 ∈ L
  rw [List.getD_eq_getElem?_getD, List.getElem?_eq_getElem h]; exact List.getElem_mem h
theorem src_z {z : Int} (h0 : 0 ≤ z) (h1 : z < 2147483647) (m c : Int) (hm : 0 ≤ m ∧ m ≤ 100000) (hc : 0 ≤ c ∧ c ≤ 1000) : 0 ≤ Int.tmod (wrap64 ((wrap64 (z * m)) + c)) 2147483647 ∧ Int.tmod (wrap64 ((wrap64 (z * m)) + c)) 2147483647 < 2147483647 := by
  have h2 : z * m ≤ 2147483647 * 100000 := Int.mul_le_mul (by omega) hm.2 hm.1 (by omega)
  have h3 : 0 ≤ z * m := Int.mul_nonneg h0 hm.1
  rw [wrap_id (x := z * m) (by omega) (by omega), wrap_id (by omega) (by omega), Int.tmod_eq_emod_of_nonneg (by omega)]
  omega
theorem tmod_rng {x n : Int} (hx : 0 ≤ x) (hn : 1 < n) : 0 ≤ Int.tmod x n ∧ Int.tmod x n < n := ⟨Int.tmod_nonneg _ hx, Int.tmod_lt_of_pos _ (by omega)⟩
theorem src_next {L : List Int} {p z : Int} (h : Src L p z) (n : Int) : ∃ r p' z', spec_l01Next.f L p z n = some (r, p', z') ∧ Src L p' z' ∧ 0 ≤ r ∧ (1 < n → r < n) ∧ (n ≤ 1 → r = 0) := by
  obtain ⟨⟨h1, h2⟩, ⟨h3, h4⟩, h5, h6⟩ := h
  have hz := src_z h5 h6 48271 29 (by omega) (by omega)
  simp only [spec_l01Next.f]
  by_cases c : n ≤ 1
  · rw [if_pos c]; exact ⟨0, p, z, rfl, ⟨⟨h1, h2⟩, ⟨h3, h4⟩, h5, h6⟩, Int.le_refl _, fun h => absurd h (by omega), fun _ => rfl⟩
  rw [if_neg c]
  generalize Int.tmod (wrap64 ((wrap64 (z * 48271)) + 29)) 2147483647 = z2 at hz
  have hd : 0 ≤ Int.tdiv z2 31 ∧ Int.tdiv z2 31 ≤ z2 := by rw [Int.tdiv_eq_ediv_of_nonneg hz.1]; omega
  generalize Int.tdiv z2 31 = d at hd
  have n0 : ¬ n = 0 := by omega
  by_cases c1 : p < (L.length : Int)
  · have hm := h2 _ (rd_mem h3 c1)
    have e : wrap64 (p + 1) = p + 1 := wrap_id (by omega) (by omega)
    have e2 : wrap64 (p + 1 - 1) = p := by rw [wrap_id (by omega) (by omega)]; omega
    simp only [if_pos c1, if_pos h3, e, e2, if_neg n0]
    have t1 := tmod_rng (x := wrap64 (rd L p)) (n := n) (by rw [wrap_id (by omega) (by omega)]; omega) (by omega)
    have t2 := tmod_rng (x := wrap64 (wrap64 d + wrap64 (rd L p))) (n := n) (by rw [wrap_id (x := d) (by omega) (by omega), wrap_id (x := rd L p) (by omega) (by omega), wrap_id (by omega) (by omega)]; omega) (by omega)
    by_cases c2 : n ≤ 256
    · rw [if_pos c2]
      by_cases c3 : Int.tmod (p + 1) 2 = 0
      · rw [if_pos c3]; exact ⟨_, _, _, rfl, ⟨⟨h1, h2⟩, ⟨by omega, by omega⟩, hz⟩, t1.1, fun _ => t1.2, fun h => absurd h c⟩
      · rw [if_neg c3]; exact ⟨_, _, _, rfl, ⟨⟨h1, h2⟩, ⟨by omega, by omega⟩, hz⟩, t2.1, fun _ => t2.2, fun h => absurd h c⟩
    · rw [if_neg c2]; exact ⟨_, _, _, rfl, ⟨⟨h1, h2⟩, ⟨by omega, by omega⟩, hz⟩, t2.1, fun _ => t2.2, fun h => absurd h c⟩
  · rw [if_neg c1, if_neg n0]
    have t := tmod_rng (x := wrap64 d) (n := n) (by rw [wrap_id (by omega) (by omega)]; omega) (by omega)
    exact ⟨_, _, _, rfl, ⟨⟨h1, h2⟩, ⟨h3, h4⟩, hz⟩, t.1, fun _ => t.2, fun h => absurd h c⟩
theorem src_from_loop (L : List Int) (h1 : L.length ≤ 4096) (h2 : ∀ x ∈ L, 0 ≤ x ∧ x ≤ 255) : ∀ (d i : Nat) (z : Int), i + d = 64 → 0 ≤ z → z < 2147483647 → ∃ z', Ev (fun k => spec_l01From.l0 k L (i : Int) L 0 z) (L, 0, z') ∧ Src L 0 z' := by
  intro d
  induction d with
  | zero =>
    intro i z hi h5 h6
    refine ⟨z, ev_const fun k => ?_, ⟨⟨h1, h2⟩, by omega, h5, h6⟩⟩
    simp only [spec_l01From.l0]
    rw [if_neg (show ¬ (i : Int) < 64 by omega)]; split <;> rfl
  | succ d ih =>
    intro i z hi h5 h6
    by_cases c : (i : Int) < (L.length : Int)
    · have hm := h2 _ (rd_mem (p := (i : Int)) (by omega) c)
      have hz := src_z h5 h6 47 (rd L (i : Int)) (by omega) (by omega)
      obtain ⟨z', hE, hS⟩ := ih (i + 1) _ (by omega) hz.1 hz.2
      refine ⟨z', Ev.step (fun k => ?_) hE, hS⟩
      simp only [spec_l01From.l0]
      rw [if_pos c, if_pos (by omega), if_pos (by omega), wrap_succ (n := 64) (by omega) (by omega), wrap_id (x := rd L (i : Int)) (by omega) (by omega)]
    · refine ⟨z, ev_const fun k => ?_, ⟨⟨h1, h2⟩, by omega, h5, h6⟩⟩
      simp only [spec_l01From.l0]
      rw [if_neg c]
theorem src_from (L : List Int) (h1 : L.length ≤ 4096) (h2 : ∀ x ∈ L, 0 ≤ x ∧ x ≤ 255) : ∃ z, Ev (fun k => spec_l01From.f k L) (L, 0, z) ∧ Src L 0 z := by
  obtain ⟨z, hE, hS⟩ := src_from_loop L h1 h2 64 0 61003 (by omega) (by omega) (by omega)
  exact ⟨z, by simpa [spec_l01From.f] using hE, hS⟩
/-- What a draw gives, where it stands in a bind. -/
theorem src_bind {α : Type} {L : List Int} {p z n : Int} (h : Src L p z) {F : Nat → Int × Int × Int → Option α} {C : α → Prop}
    (hF : ∀ r p' z', Src L p' z' → 0 ≤ r → (1 < n → r < n) → (n ≤ 1 → r = 0) → ∃ x, Ev (fun k => F k (r, p', z')) x ∧ C x) : ∃ x, Ev (fun k => (spec_l01Next.f L p z n).bind (F k)) x ∧ C x := by
  obtain ⟨r, p', z', e, hs, h0, h1, h2⟩ := src_next h n
  obtain ⟨x, hx, hc⟩ := hF r p' z' hs h0 h1 h2
  exact ⟨x, by simp only [e, Option.bind_some]; exact hx, hc⟩
theorem ex_step {α : Type} {C : α → Prop} {f g : Nat → Option α} (h : ∀ k, g (k + 1) = f k) (hf : ∃ x, Ev f x ∧ C x) : ∃ x, Ev g x ∧ C x := by
  obtain ⟨x, hx, hc⟩ := hf
  exact ⟨x, Ev.step h hx, hc⟩
theorem ex_now {α : Type} {C : α → Prop} {x : α} (hc : C x) : ∃ y, Ev (fun _ => some x) y ∧ C y := ⟨x, Ev.now x, hc⟩
theorem ex_bind {α β : Type} {C : α → Prop} {D : β → Prop} {f : Nat → Option α} {g : Nat → α → Option β} (hf : ∃ x, Ev f x ∧ C x) (hg : ∀ x, C x → ∃ y, Ev (fun k => g k x) y ∧ D y) : ∃ y, Ev (fun k => (f k).bind (g k)) y ∧ D y := by
  obtain ⟨x, hx, hc⟩ := hf
  obtain ⟨y, hy, hd⟩ := hg x hc
  exact ⟨y, Ev.bind hx hy, hd⟩

theorem rdc_nat (l : List S68) {i : Nat} (h : i < l.length) : rd_T68 l (i : Int) = l[i] := by
  simp [rd_T68, List.getD_eq_getElem?_getD, List.getElem?_eq_getElem h]

theorem rectC_loop (a b : Nat) (ha : 1 ≤ a ∧ a ≤ 20) (hb : b ≤ 20) : ∀ (d i : Nat) (acc : List S68), i + d = a * b → acc.length = i → ∃ r, Ev (fun k => spec_l10Rectangle.l0 k (a : Int) (b : Int) acc (i : Int)) r ∧ r.length = a * b := by
  have hab : a * b ≤ 20 * 20 := Nat.mul_le_mul ha.2 hb
  have e : wrap64 ((a : Int) * (b : Int)) = ((a * b : Nat) : Int) := by rw [← Int.natCast_mul]; exact wrap_id (by omega) (by omega)
  intro d
  induction d with
  | zero => intro i acc h hl; exact ⟨acc, ev_const fun k => by simp only [spec_l10Rectangle.l0]; rw [e, if_neg (by omega)], by omega⟩
  | succ d ih =>
    intro i acc h hl
    refine ex_step (fun k => ?_) (ih (i + 1) (acc ++ [⟨Int.tmod (i : Int) (a : Int), wrap64 (Int.tdiv (i : Int) (a : Int))⟩]) (by omega) (by rw [List.length_append, List.length_singleton]; omega))
    simp only [spec_l10Rectangle.l0]
    rw [e, if_pos (by omega), if_neg (by omega), if_pos (by omega), wrap_succ (show i < 1000 by omega) (by omega)]
theorem rectC (a b : Nat) (ha : 1 ≤ a ∧ a ≤ 20) (hb : b ≤ 20) : ∃ r, Ev (fun k => spec_l10Rectangle.f k (a : Int) (b : Int)) r ∧ r.length = a * b := by
  simpa [spec_l10Rectangle.f] using rectC_loop a b ha hb (a * b) 0 [] (by omega) rfl

theorem leastC_loop (l : List S68) (hl : l.length ≤ 100000) : ∀ (d i : Nat) (a b : Int), i + d = l.length → ∃ r, Ev (fun k => spec_l02Least.l0 k l a b (i : Int)) r ∧ True := by
  intro d
  induction d with
  | zero => intro i a b h; exact ⟨(a, b), ev_const fun k => by simp only [spec_l02Least.l0]; rw [if_neg (by omega)], trivial⟩
  | succ d ih =>
    intro i a b h
    have hi : i < l.length := by omega
    refine ex_step (fun k => ?_) (ih (i + 1) (mn a ((rd_T68 l (i : Int)).f0)) (mn b ((rd_T68 l (i : Int)).f1)) (by omega))
    simp only [spec_l02Least.l0]; rw [if_pos (by omega), if_pos (by omega), wrap_succ hi (by omega)]
theorem leastC (l : List S68) (hl : l.length ≤ 100000) (h0 : l.length ≠ 0) : ∃ r, Ev (fun k => spec_l02Least.f k l) r ∧ True := by
  simp only [spec_l02Least.f, if_pos (show 0 < (l.length : Int) by omega)]
  exact leastC_loop l hl (l.length - 1) 1 _ _ (by omega)
theorem moveC_loop (l : List S68) (x y : Int) (hl : l.length ≤ 100000) : ∀ (d i : Nat) (acc : List S68), i + d = l.length → acc.length = i → ∃ r, Ev (fun k => spec_l02Move.l0 k l x y acc (i : Int)) r ∧ r.length = l.length := by
  intro d
  induction d with
  | zero => intro i acc h ha; exact ⟨acc, ev_const fun k => by simp only [spec_l02Move.l0]; rw [if_neg (by omega)], by omega⟩
  | succ d ih =>
    intro i acc h ha
    have hi : i < l.length := by omega
    refine ex_step (fun k => ?_) (ih (i + 1) (acc ++ [⟨wrap64 ((rd_T68 l (i : Int)).f0 + x), wrap64 ((rd_T68 l (i : Int)).f1 + y)⟩]) (by omega) (by rw [List.length_append, List.length_singleton]; omega))
    simp only [spec_l02Move.l0]; rw [if_pos (by omega), if_pos (by omega), if_pos (by omega), wrap_succ hi (by omega)]
theorem moveC (l : List S68) (x y : Int) (hl : l.length ≤ 100000) : ∃ r, Ev (fun k => spec_l02Move.f k l x y) r ∧ r.length = l.length := by
  simpa [spec_l02Move.f] using moveC_loop l x y hl l.length 0 [] (by omega) rfl
theorem normalC (l : List S68) (hl : l.length ≤ 100000) (h0 : l.length ≠ 0) : ∃ r, Ev (fun k => spec_l02Normal.f k l) r ∧ r.length = l.length := by
  simp only [spec_l02Normal.f]
  refine ex_bind (leastC l hl h0) fun x _ => ?_
  refine ex_bind (moveC l _ _ hl) fun z hz => ex_now hz

theorem less_some (a b c d : Int) : ∃ t, spec_l02Less.f a b c d = some t := by
  unfold spec_l02Less.f
  by_cases h : b < d
  · rw [if_pos h]; exact ⟨_, rfl⟩
  · rw [if_neg h]
    by_cases h2 : b = d
    · rw [if_pos h2]; exact ⟨_, rfl⟩
    · rw [if_neg h2]; exact ⟨_, rfl⟩
def fromC (l : List S68) (c : S68) (r : List S68) : Prop := ∀ e ∈ r, e ∈ l ∨ e = c
theorem fromC_snoc {l : List S68} {c e : S68} {r : List S68} (h : fromC l c r) (he : e ∈ l ∨ e = c) : fromC l c (r ++ [e]) := fun z hz => by
  rcases List.mem_append.1 hz with h1 | h1
  · exact h z h1
  · rw [List.mem_singleton.1 h1]; exact he
theorem insertC_loop (l : List S68) (x y : Int) (hl : l.length ≤ 100000) : ∀ (d i : Nat) (acc : List S68) (b : Bool), i + d = l.length → acc.length = (if b then i + 1 else i) → fromC l ⟨x, y⟩ acc → ∃ r, Ev (fun k => spec_l02Insert.l0 k l acc b (i : Int) x y) r ∧ (r.length = l.length + 1 ∧ fromC l ⟨x, y⟩ r) := by
  intro d
  induction d with
  | zero =>
    intro i acc b h ha hf
    cases b with
    | true => exact ⟨acc, ev_const fun k => by simp only [spec_l02Insert.l0, if_true]; rw [if_neg (by omega)], by simp only [if_true] at ha; omega, hf⟩
    | false =>
      simp only [Bool.false_eq_true, if_false] at ha
      exact ⟨acc ++ [⟨x, y⟩], ev_const fun k => by simp only [spec_l02Insert.l0, Bool.false_eq_true, if_false]; rw [if_neg (by omega), if_pos (by omega)], by rw [List.length_append, List.length_singleton]; omega, fromC_snoc hf (.inr rfl)⟩
  | succ d ih =>
    intro i acc b h ha hf
    have hi : i < l.length := by omega
    have hm : l[i] ∈ l := List.getElem_mem hi
    have e0 : (⟨(l[i]).f0, (l[i]).f1⟩ : S68) = l[i] := rfl
    cases b with
    | true =>
      simp only [if_true] at ha
      refine ex_step (fun k => ?_) (ih (i + 1) (acc ++ [l[i]]) true (by omega) (by rw [List.length_append, List.length_singleton, if_pos rfl]; omega) (fromC_snoc hf (.inl hm)))
      simp only [spec_l02Insert.l0, if_true]
      rw [if_pos (by omega), if_pos (by omega), if_pos (by omega), rdc_nat l hi, wrap_succ hi (by omega)]
    | false =>
      simp only [Bool.false_eq_true, if_false] at ha
      obtain ⟨t, ht⟩ := less_some x y (l[i]).f0 (l[i]).f1
      cases t with
      | true =>
        refine ex_step (fun k => ?_) (ih (i + 1) ((acc ++ [⟨x, y⟩]) ++ [l[i]]) true (by omega) (by simp only [List.length_append, List.length_singleton, if_true]; omega) (fromC_snoc (fromC_snoc hf (.inr rfl)) (.inl hm)))
        simp only [spec_l02Insert.l0, Bool.false_eq_true, if_false]
        rw [if_pos (by omega), if_pos (by omega), rdc_nat l hi, ht, wrap_succ hi (by omega)]
        simp only [Option.bind_some, if_true]
        rw [if_pos (by omega), if_pos (by rw [List.length_append, List.length_singleton]; omega)]
      | false =>
        refine ex_step (fun k => ?_) (ih (i + 1) (acc ++ [l[i]]) false (by omega) (by simp only [List.length_append, List.length_singleton, Bool.false_eq_true, if_false]; omega) (fromC_snoc hf (.inl hm)))
        simp only [spec_l02Insert.l0, Bool.false_eq_true, if_false]
        rw [if_pos (by omega), if_pos (by omega), rdc_nat l hi, ht, wrap_succ hi (by omega)]
        simp only [Option.bind_some, Bool.false_eq_true, if_false]
        rw [if_pos (by omega)]
theorem insertC (l : List S68) (x y : Int) (hl : l.length ≤ 100000) : ∃ r, Ev (fun k => spec_l02Insert.f k l x y) r ∧ (r.length = l.length + 1 ∧ fromC l ⟨x, y⟩ r) := by
  simpa [spec_l02Insert.f] using insertC_loop l x y hl l.length 0 [] false (by omega) (by simp) (fun e he => absurd he List.not_mem_nil)

theorem indexC_loop (l : List S68) (x y : Int) (hl : l.length ≤ 100000) : ∀ (d i : Nat), i + d = l.length → ∃ r, Ev (fun k => spec_l02Index.l0 k l (i : Int) x y) r ∧ ((⟨x, y⟩ ∉ l → r < 0) ∧ (¬ r < 0 → l.length ≠ 0)) := by
  intro d
  induction d with
  | zero => intro i h; exact ⟨-1, ev_const fun k => by simp only [spec_l02Index.l0]; rw [if_neg (by omega)], fun _ => by omega, fun h => absurd (by omega) h⟩
  | succ d ih =>
    intro i h
    have hi : i < l.length := by omega
    by_cases c : ((l[i]).f0 == x && (l[i]).f1 == y) = true
    · refine ⟨(i : Int), ev_const fun k => ?_, fun hn => ?_, fun _ => by omega⟩
      · simp only [spec_l02Index.l0]; rw [if_pos (by omega), if_pos (by omega), rdc_nat l hi, if_pos c]
      · simp only [Bool.and_eq_true, beq_iff_eq] at c
        exact absurd (by have := List.getElem_mem hi; rwa [show l[i] = ⟨x, y⟩ by rw [← c.1, ← c.2]] at this) hn
    · refine ex_step (fun k => ?_) (ih (i + 1) (by omega))
      simp only [spec_l02Index.l0]; rw [if_pos (by omega), if_pos (by omega), rdc_nat l hi, if_neg c, wrap_succ hi (by omega)]
theorem indexC (l : List S68) (x y : Int) (hl : l.length ≤ 100000) : ∃ r, Ev (fun k => spec_l02Index.f k l x y) r ∧ ((⟨x, y⟩ ∉ l → r < 0) ∧ (¬ r < 0 → l.length ≠ 0)) := by
  simpa [spec_l02Index.f] using indexC_loop l x y hl l.length 0 (by omega)

def inC (b : Int) (l : List S68) : Prop := ∀ e ∈ l, (-b ≤ e.f0 ∧ e.f0 ≤ b) ∧ -b ≤ e.f1 ∧ e.f1 ≤ b
theorem around_ev (x y : Int) : spec_l02Around.f x y = some [⟨x, wrap64 (y - 1)⟩, ⟨wrap64 (x - 1), y⟩, ⟨wrap64 (x + 1), y⟩, ⟨x, wrap64 (y + 1)⟩] := rfl
theorem neigh_in (b : Int) (hb : 0 ≤ b ∧ b ≤ 1000) (l : List S68) (hl : l.length ≤ 1000) (i : Nat) (ar : List S68) (har : ar.length = 4) (hin : inC (b + 1) ar) (crit q : Prop) (hcr : crit → ¬ q → (rd_T68 ar 0) ∉ l) {C : List S68 → Prop}
    (hE : ∀ out : List S68, out.length ≤ 4 * i + 4 → inC (b + 1) out → (crit → out.length ≠ 0) → ∃ r, Ev (fun k => spec_l02Neighbours.l0 k l out (wrap64 ((i : Int) + 1))) r ∧ C r) :
    ∀ (d kk : Nat) (out : List S68), kk + d = 4 → out.length ≤ 4 * i + kk → i < 1000 → inC (b + 1) out → (crit → (kk ≠ 0 ∨ q) → out.length ≠ 0) → ∃ r, Ev (fun k => spec_l02Neighbours.l1 k l out (i : Int) ar (kk : Int)) r ∧ C r := by
  intro d
  induction d with
  | zero =>
    intro kk out h ho hi hout hne
    refine ex_step (fun k => ?_) (hE out (by omega) hout (fun hc => hne hc (.inl (by omega))))
    simp only [spec_l02Neighbours.l1]; rw [if_neg (by omega)]
  | succ d ih =>
    intro kk out h ho hi hout hne
    have hk : kk < ar.length := by omega
    obtain ⟨r1, h1, h1a, h1b⟩ := indexC l (ar[kk]).f0 (ar[kk]).f1 (by omega)
    obtain ⟨r2, h2, h2a, h2b⟩ := indexC out (ar[kk]).f0 (ar[kk]).f1 (by omega)
    obtain ⟨out2, h3, h3a, h3b⟩ := insertC out (ar[kk]).f0 (ar[kk]).f1 (by omega)
    have hz : kk = 0 → rd_T68 ar 0 = ar[kk] := fun e => by subst e; exact rdc_nat ar hk
    refine ex_step (f := fun k => (spec_l02Index.f k l (ar[kk]).f0 (ar[kk]).f1).bind fun t => if t < 0 then ((spec_l02Index.f k out (ar[kk]).f0 (ar[kk]).f1).bind fun t => if t < 0 then ((spec_l02Insert.f k out (ar[kk]).f0 (ar[kk]).f1).bind fun t => spec_l02Neighbours.l1 k l t (i : Int) ar ((kk + 1 : Nat) : Int)) else spec_l02Neighbours.l1 k l out (i : Int) ar ((kk + 1 : Nat) : Int)) else spec_l02Neighbours.l1 k l out (i : Int) ar ((kk + 1 : Nat) : Int)) (fun k => ?_) ?_
    · simp only [spec_l02Neighbours.l1]
      rw [if_pos (by omega), if_pos (by omega), if_pos (by omega), rdc_nat ar hk, wrap_succ (n := 4) (by omega) (by omega)]
    · refine ex_bind (C := fun x => x = r1) ⟨r1, h1, rfl⟩ (fun x hx => ?_)
      subst hx
      by_cases c1 : x < 0
      · simp only [if_pos c1]
        refine ex_bind (C := fun z => z = r2) ⟨r2, h2, rfl⟩ (fun z hz2 => ?_)
        subst hz2
        by_cases c2 : z < 0
        · simp only [if_pos c2]
          refine ex_bind (C := fun z => z = out2) ⟨out2, h3, rfl⟩ (fun z hz3 => ?_)
          subst hz3
          refine ih (kk + 1) z (by omega) (by omega) hi (fun e he => ?_) (fun _ _ => by omega)
          rcases h3b e he with q | q
          · exact hout e q
          · rw [q]; exact hin _ (List.getElem_mem hk)
        · simp only [if_neg c2]
          exact ih (kk + 1) out (by omega) (by omega) hi hout (fun _ _ => h2b c2)
      · simp only [if_neg c1]
        refine ih (kk + 1) out (by omega) (by omega) hi hout (fun hc _ => ?_)
        by_cases q1 : q
        · exact hne hc (.inr q1)
        by_cases q2 : kk = 0
        · have := hcr hc q1
          rw [hz q2] at this
          exact absurd (h1a this) c1
        · exact hne hc (.inl q2)
theorem neigh_loop (b : Int) (hb : 0 ≤ b ∧ b ≤ 1000) (l : List S68) (hl : l.length ≤ 200) (hin : inC b l) (p : Nat) (hp : p < l.length) (hpn : (⟨(l[p]).f0, (l[p]).f1 - 1⟩ : S68) ∉ l) :
    ∀ (d i : Nat) (out : List S68), i + d = l.length → out.length ≤ 4 * i → inC (b + 1) out → (p < i → out.length ≠ 0) → ∃ r, Ev (fun k => spec_l02Neighbours.l0 k l out (i : Int)) r ∧ ((r.length ≤ 800 ∧ r.length ≠ 0) ∧ inC (b + 1) r) := by
  intro d
  induction d with
  | zero =>
    intro i out h ho hout hne
    exact ⟨out, ev_const fun k => by simp only [spec_l02Neighbours.l0]; rw [if_neg (by omega)], ⟨by omega, hne (by omega)⟩, hout⟩
  | succ d ih =>
    intro i out h ho hout hne
    have hi : i < l.length := by omega
    have hc := hin _ (List.getElem_mem hi)
    have w1 : wrap64 ((l[i]).f1 - 1) = (l[i]).f1 - 1 := wrap_id (by omega) (by omega)
    have w2 : wrap64 ((l[i]).f0 - 1) = (l[i]).f0 - 1 := wrap_id (by omega) (by omega)
    have w3 : wrap64 ((l[i]).f0 + 1) = (l[i]).f0 + 1 := wrap_id (by omega) (by omega)
    have w4 : wrap64 ((l[i]).f1 + 1) = (l[i]).f1 + 1 := wrap_id (by omega) (by omega)
    refine ex_step (f := fun k => spec_l02Neighbours.l1 k l out (i : Int) [⟨(l[i]).f0, (l[i]).f1 - 1⟩, ⟨(l[i]).f0 - 1, (l[i]).f1⟩, ⟨(l[i]).f0 + 1, (l[i]).f1⟩, ⟨(l[i]).f0, (l[i]).f1 + 1⟩] ((0 : Nat) : Int)) (fun k => ?_)
      (neigh_in b hb l (by omega) i [⟨(l[i]).f0, (l[i]).f1 - 1⟩, ⟨(l[i]).f0 - 1, (l[i]).f1⟩, ⟨(l[i]).f0 + 1, (l[i]).f1⟩, ⟨(l[i]).f0, (l[i]).f1 + 1⟩] rfl ?_ (p ≤ i) (p < i) ?_ ?_ 4 0 out (by omega) (by omega) (by omega) hout (fun _ h => h.elim (fun h => absurd rfl h) hne))
    · simp only [spec_l02Neighbours.l0]
      rw [if_pos (by omega), if_pos (by omega), rdc_nat l hi, around_ev, w1, w2, w3, w4]; rfl
    · intro e he
      simp only [List.mem_cons, List.not_mem_nil, or_false] at he
      rcases he with rfl | rfl | rfl | rfl <;> (constructor <;> constructor <;> simp only <;> omega)
    · intro e1 e2
      have e : i = p := by omega
      subst e
      exact hpn
    · intro out2 ho2 hout2 hne2
      rw [wrap_succ hi (by omega)]
      exact ih (i + 1) out2 (by omega) (by omega) hout2 (fun hpi => hne2 (by omega))
theorem low_cell : ∀ (l : List S68), l.length ≠ 0 → ∃ p, ∃ h : p < l.length, ∀ e ∈ l, (l[p]).f1 ≤ e.f1
  | [], h => absurd rfl h
  | [x], _ => ⟨0, by simp, fun e he => by rw [List.mem_singleton.1 he]; exact Int.le_refl _⟩
  | x :: y :: r, _ => by
    obtain ⟨p, hp, hm⟩ := low_cell (y :: r) (by simp)
    by_cases c : x.f1 ≤ ((y :: r)[p]).f1
    · refine ⟨0, by simp, fun e he => ?_⟩
      rcases List.mem_cons.1 he with rfl | he
      · exact Int.le_refl _
      · exact Int.le_trans c (hm e he)
    · refine ⟨p + 1, by simpa using hp, fun e he => ?_⟩
      simp only [List.getElem_cons_succ]
      rcases List.mem_cons.1 he with rfl | he
      · omega
      · exact hm e he
theorem neighC (b : Int) (hb : 0 ≤ b ∧ b ≤ 1000) (l : List S68) (hl : l.length ≤ 200) (h0 : l.length ≠ 0) (hin : inC b l) : ∃ r, Ev (fun k => spec_l02Neighbours.f k l) r ∧ ((r.length ≤ 800 ∧ r.length ≠ 0) ∧ inC (b + 1) r) := by
  obtain ⟨p, hp, hm⟩ := low_cell l h0
  have := neigh_loop b hb l hl hin p hp (fun he => by have h1 := hm _ he; simp only at h1; omega) l.length 0 [] (by omega) (by simp) (fun e he => absurd he List.not_mem_nil) (fun h => absurd h (by omega))
  simpa [spec_l02Neighbours.f] using this

def drawnC (L : List Int) (n : Nat) (x : List S68 × Int × Int) : Prop := (x.1.length ≠ 0 ∧ x.1.length ≤ n) ∧ Src L x.2.1 x.2.2
theorem polyC_loop (L : List Int) : ∀ (n : Nat) (l : List S68) (p z : Int), Src L p z → l.length ≠ 0 → l.length + n ≤ 10 → inC (l.length : Int) l → ∃ r, Ev (fun k => spec_l02DrawPoly.l0 k l (n : Int) L p z) r ∧ drawnC L 10 r := by
  intro n
  induction n with
  | zero =>
    intro l p z h h0 h1 hin
    refine ex_step (f := fun k => (spec_l02Normal.f k l).bind fun t => some (t, p, z)) (fun k => by simp only [spec_l02DrawPoly.l0]; rw [if_neg (by omega)]) (ex_bind (normalC l (by omega) h0) fun x hx => ex_now ⟨⟨by show x.length ≠ 0; omega, by show x.length ≤ 10; omega⟩, h⟩)
  | succ n ih =>
    intro l p z h h0 h1 hin
    refine ex_step (fun k => by simp only [spec_l02DrawPoly.l0]; rw [if_pos (by omega)]) (ex_bind (neighC (l.length : Int) (by omega) l (by omega) h0 hin) fun t ht => ?_)
    refine src_bind h fun r p' z' hs g0 g1 g2 => ?_
    have hr : r < (t.length : Int) := by
      by_cases q : 1 < (t.length : Int)
      · exact g1 q
      · have := g2 (by omega); have := ht.1.2; omega
    simp only [if_pos g0, if_pos hr]
    obtain ⟨m, rfl⟩ : ∃ m : Nat, r = (m : Int) := ⟨r.toNat, by omega⟩
    have hm : m < t.length := by omega
    rw [rdc_nat t hm]
    have hc := ht.2 _ (List.getElem_mem hm)
    refine ex_bind (insertC l (t[m]).f0 (t[m]).f1 (by omega)) fun x hx => ?_
    have e1 : wrap64 (((n + 1 : Nat) : Int) - 1) = (n : Int) := by rw [wrap_id (by omega) (by omega)]; omega
    rw [e1]
    refine ih x p' z' hs (by omega) (by omega) (fun e he => ?_)
    rw [hx.1]
    rcases hx.2 e he with q | q
    · have := hin e q; push_cast; omega
    · rw [q]; push_cast; exact hc
theorem polyC (L : List Int) (p z n : Int) (hn : n ≤ 9) (h : Src L p z) : ∃ r, Ev (fun k => spec_l02DrawPoly.f k L p z n) r ∧ drawnC L 10 r := by
  simp only [spec_l02DrawPoly.f]
  refine src_bind h fun r p' z' hs g0 g1 g2 => ?_
  obtain ⟨m, rfl⟩ : ∃ m : Nat, r = (m : Int) := ⟨r.toNat, by omega⟩
  refine polyC_loop L m _ p' z' hs (by simp) ?_ (fun e he => ?_)
  · simp only [List.length_singleton]
    by_cases q : 1 < n
    · have := g1 q; omega
    · have := g2 (by omega); omega
  · rw [List.mem_singleton.1 he]; simp

theorem sortC_loop (l : List S68) (hl : l.length ≤ 10000) : ∀ (d i : Nat) (acc : List S68), i + d = l.length → acc.length = i → ∃ r, Ev (fun k => spec_l02Sort.l0 k l acc (i : Int)) r ∧ r.length = l.length := by
  intro d
  induction d with
  | zero => intro i acc h ha; exact ⟨acc, ev_const fun k => by simp only [spec_l02Sort.l0]; rw [if_neg (by omega)], by omega⟩
  | succ d ih =>
    intro i acc h ha
    have hi : i < l.length := by omega
    refine ex_step (f := fun k => (spec_l02Insert.f k acc (l[i]).f0 (l[i]).f1).bind fun t => spec_l02Sort.l0 k l t ((i + 1 : Nat) : Int)) (fun k => ?_) (ex_bind (insertC acc _ _ (by omega)) fun t ht => ih (i + 1) t (by omega) (by omega))
    simp only [spec_l02Sort.l0]; rw [if_pos (by omega), if_pos (by omega), rdc_nat l hi, wrap_succ hi (by omega)]
theorem sortC (l : List S68) (hl : l.length ≤ 10000) : ∃ r, Ev (fun k => spec_l02Sort.f k l) r ∧ r.length = l.length := by
  simpa [spec_l02Sort.f] using sortC_loop l hl l.length 0 [] (by omega) rfl

def drawnL (L : List Int) (n : Nat) (x : List S68 × Int × Int) : Prop := x.1.length ≤ n ∧ Src L x.2.1 x.2.2
theorem drawC_row (L : List Int) : ∀ (d i : Nat) (acc : List S68) (p z : Int), i + d = 41 → acc.length ≤ i → Src L p z → ∃ r, Ev (fun k => spec_l02Draw.l0 k acc (i : Int) L p z) r ∧ drawnL L 60 r := by
  intro d
  induction d with
  | zero =>
    intro i acc p z h ha hs
    refine ex_step (fun k => by simp only [spec_l02Draw.l0]; rfl) (src_bind hs fun r p' z' hs g0 g1 g2 => ?_)
    have g1 := g1 (by omega)
    rw [wrap_id (x := 40 + r) (by omega) (by omega)]
    simp only [if_neg (show ¬ (i : Int) < 40 + r by omega)]
    exact ex_now ⟨by show acc.length ≤ 60; omega, hs⟩
  | succ d ih =>
    intro i acc p z h ha hs
    refine ex_step (fun k => by simp only [spec_l02Draw.l0]; rfl) (src_bind hs fun r p' z' hs g0 g1 g2 => ?_)
    have g1 := g1 (by omega)
    rw [wrap_id (x := 40 + r) (by omega) (by omega), wrap_succ (show i < 100 by omega) (by omega)]
    by_cases c : (i : Int) < 40 + r
    · simp only [if_pos c, if_pos (show acc.length < 8796093022208 by omega)]
      exact ih (i + 1) _ p' z' (by omega) (by rw [List.length_append, List.length_singleton]; omega) hs
    · simp only [if_neg c]; exact ex_now ⟨by show acc.length ≤ 60; omega, hs⟩
theorem drawC (L : List Int) (p z : Int) (h : Src L p z) : ∃ r, Ev (fun k => spec_l02Draw.f k L p z) r ∧ drawnL L 60 r := by
  simp only [spec_l02Draw.f]
  refine ex_bind (polyC L p z 8 (by omega) h) fun x hx => ?_
  refine src_bind hx.2 fun a p1 z1 hs a0 a1 a2 => ?_
  refine src_bind hs fun b p2 z2 hs b0 b1 b2 => ?_
  refine ex_bind (moveC x.1 _ _ (by have := hx.1.2; omega)) fun t ht => ?_
  refine src_bind hs fun k0 p3 z3 hs k0a k0b k0c => ?_
  refine src_bind hs fun c p4 z4 hs c0 c1 c2 => ?_
  have ht0 : t.length ≠ 0 := by have := hx.1.1; omega
  have ht1 : t.length ≤ 10 := by have := hx.1.2; omega
  have hk : k0 < (t.length : Int) := by
    by_cases q : 1 < (t.length : Int)
    · exact k0b q
    · have := k0c (by omega); omega
  have w1 : wrap64 ((t.length : Int) - 1) = (t.length : Int) - 1 := wrap_id (by omega) (by omega)
  simp only [w1, if_pos k0a, if_pos hk, if_pos (show t.length < 8796093022208 by omega), if_pos (show 0 < (t.length : Int) by omega), if_pos (show 0 ≤ (t.length : Int) - 1 by omega), if_pos (show (t.length : Int) - 1 < (t.length : Int) by omega)]
  by_cases e0 : c = 0
  · simp only [if_pos e0, Option.bind_some]
    refine src_bind hs fun r p5 z5 hs r0 r1 r2 => ?_
    simp only [if_pos r0, if_pos (show r < (([-100, 100, 101] : List Int).length : Int) from r1 (by omega))]
    exact ex_bind (sortC _ (by simp; omega)) fun y hy => ex_now ⟨by show y.length ≤ 60; rw [hy]; simp; omega, hs⟩
  simp only [if_neg e0]
  by_cases e1 : c = 1
  · simp only [if_pos e1]; exact ex_now ⟨by show (t ++ [_]).length ≤ 60; rw [List.length_append, List.length_singleton]; omega, hs⟩
  simp only [if_neg e1]
  by_cases e2 : c = 2
  · simp only [if_pos e2]; exact ex_now ⟨by simp, hs⟩
  simp only [if_neg e2]
  by_cases e3 : c = 3
  · simp only [if_pos e3]; exact drawC_row L 41 0 [] p4 z4 (by omega) (by simp) hs
  simp only [if_neg e3]
  by_cases e4 : c = 4
  · simp only [if_pos e4]; exact ex_now ⟨by show (t ++ [_]).length ≤ 60; rw [List.length_append, List.length_singleton]; omega, hs⟩
  simp only [if_neg e4]
  by_cases e5 : c = 5
  · simp only [if_pos e5]; exact ex_now ⟨by show (t ++ [_]).length ≤ 60; rw [List.length_append, List.length_singleton]; omega, hs⟩
  simp only [if_neg e5]
  exact ex_now ⟨by show t.length ≤ 60; omega, hs⟩

theorem withoutC (l : List S68) (m : Nat) (hm : m < l.length) (hl : l.length ≤ 100000) : ∃ r, spec_l05Without.f l (m : Int) = some r ∧ r.length = l.length - 1 := by
  refine ⟨l.take m ++ l.drop (m + 1), ?_, by rw [List.length_append, List.length_take, List.length_drop]; omega⟩
  have h1 : (l.take m).length ≤ l.length := by rw [List.length_take]; omega
  have h2 : (l.drop (m + 1)).length ≤ l.length := by rw [List.length_drop]; omega
  have e : wrap64 ((m : Int) + 1) = ((m + 1 : Nat) : Int) := wrap_succ hm (by omega)
  have a1 : (0 : Int) ≤ (m : Int) := by omega
  have a2 : (m : Int) ≤ (l.length : Int) := by omega
  have a3 : (l.take m).length < 8796093022208 := by omega
  have a4 : (0 : Int) ≤ ((m + 1 : Nat) : Int) := by omega
  have a5 : ((m + 1 : Nat) : Int) ≤ (l.length : Int) := by omega
  have a6 : (l.take m).length + (l.drop (m + 1)).length < 8796093022208 := by omega
  simp only [spec_l05Without.f, Option.bind_some, e, if_pos a1, if_pos a2, if_pos a4, if_pos a5, Int.toNat_natCast, List.length_nil, Nat.zero_add, List.nil_append, if_pos a3, if_pos a6]
theorem sides (r : Int) (h0 : 0 ≤ r) (h1 : r < 7) : ∃ a b : Nat, rd_L3 [[3, 4], [4, 3], [2, 5], [5, 2], [3, 3], [6, 2], [4, 2]] r = [(a : Int), (b : Int)] ∧ (2 ≤ a ∧ a ≤ 6) ∧ 2 ≤ b ∧ b ≤ 5 := by
  rcases (by omega : r = 0 ∨ r = 1 ∨ r = 2 ∨ r = 3 ∨ r = 4 ∨ r = 5 ∨ r = 6) with rfl | rfl | rfl | rfl | rfl | rfl | rfl
  · exact ⟨3, 4, rfl, by omega, by omega⟩
  · exact ⟨4, 3, rfl, by omega, by omega⟩
  · exact ⟨2, 5, rfl, by omega, by omega⟩
  · exact ⟨5, 2, rfl, by omega, by omega⟩
  · exact ⟨3, 3, rfl, by omega, by omega⟩
  · exact ⟨6, 2, rfl, by omega, by omega⟩
  · exact ⟨4, 2, rfl, by omega, by omega⟩
theorem smallC (L : List Int) (p z : Int) (h : Src L p z) : ∃ r, Ev (fun k => spec_l10DrawSmall.f k L p z) r ∧ drawnL L 60 r := by
  simp only [spec_l10DrawSmall.f, Option.bind_some]
  refine src_bind h fun r p1 z1 hs r0 r1 r2 => ?_
  have r1 := r1 (by omega)
  obtain ⟨a, b, e, ha, hb⟩ := sides r r0 r1
  simp only [e, if_pos r0, if_pos (show r < (([[3, 4], [4, 3], [2, 5], [5, 2], [3, 3], [6, 2], [4, 2]] : List (List Int)).length : Int) from r1), if_pos (show 0 < (([(a : Int), (b : Int)] : List Int).length : Int) by simp), if_pos (show 1 < (([(a : Int), (b : Int)] : List Int).length : Int) by simp)]
  have e0 : rd [(a : Int), (b : Int)] 0 = (a : Int) := rfl
  have e1 : rd [(a : Int), (b : Int)] 1 = (b : Int) := rfl
  simp only [e0, e1]
  have hab : a * b ≤ 6 * 5 := Nat.mul_le_mul ha.2 hb.2
  have hab2 : 2 * 2 ≤ a * b := Nat.mul_le_mul ha.1 hb.1
  refine ex_bind (rectC a b (by omega) (by omega)) fun t ht => ?_
  refine src_bind hs fun c p2 z2 hs c0 c1 c2 => ?_
  by_cases q : c = 0
  · simp only [if_pos q]
    refine src_bind hs fun k0 p3 z3 hs k0a k0b k0c => ?_
    have k0b := k0b (by omega)
    obtain ⟨m, rfl⟩ : ∃ m : Nat, k0 = (m : Int) := ⟨k0.toNat, by omega⟩
    obtain ⟨y, hy, hyl⟩ := withoutC t m (by omega) (by omega)
    simp only [hy, Option.bind_some]
    exact ex_bind (normalC y (by omega) (by omega)) fun x hx => ex_now ⟨by show x.length ≤ 60; omega, hs⟩
  · simp only [if_neg q]; exact ex_now ⟨by show t.length ≤ 60; omega, hs⟩
theorem regionC_j (L : List Int) (p z : Int) (b : Bool) (h : Src L p z) : ∃ r, Ev (fun k => spec_l10Draw.j0 k b L p z) r ∧ drawnL L 60 r := by
  cases b with
  | true =>
    refine ex_step (fun k => by simp only [spec_l10Draw.j0, if_true]) (ex_bind (polyC L p z 9 (by omega) h) fun x hx => ex_now ⟨by show x.1.length ≤ 60; have := hx.1.2; omega, hx.2⟩)
  | false =>
    refine ex_step (fun k => by simp only [spec_l10Draw.j0, Bool.false_eq_true, if_false]) (ex_bind (smallC L p z h) fun x hx => ex_now ⟨by show x.1.length ≤ 60; exact hx.1, hx.2⟩)
theorem regionC (L : List Int) (p z : Int) (h : Src L p z) : ∃ r, Ev (fun k => spec_l10Draw.f k L p z) r ∧ drawnL L 60 r := by
  simp only [spec_l10Draw.f]
  refine src_bind h fun c p1 z1 hs c0 c1 c2 => ?_
  by_cases e0 : c = 0
  · simp only [if_pos e0]; exact ex_bind (drawC L p1 z1 hs) fun x hx => ex_now hx
  simp only [if_neg e0]
  by_cases e1 : c = 1
  · simp only [if_pos e1]; exact ex_bind (rectC 20 2 (by omega) (by omega)) fun x hx => ex_now ⟨by show x.length ≤ 60; omega, hs⟩
  simp only [if_neg e1]
  by_cases e2 : c = 2
  · simp only [if_pos e2]
    refine src_bind hs fun r p2 z2 hs r0 r1 r2 => ex_now ⟨by simp, hs⟩
  simp only [if_neg e2]
  by_cases e3 : c = 3
  · simp only [if_pos e3]; exact regionC_j L p1 z1 _ hs
  · simp only [if_neg e3]; exact regionC_j L p1 z1 _ hs

theorem planeC_loop (l : List S68) (m a b c : Int) (hm : m ≠ 0) (hl : l.length ≤ 100000) : ∀ (d i : Nat) (acc : List Int), i + d = l.length → acc.length = i → ∃ r, Ev (fun k => spec_l19Plane.l0 k l m a b c acc (i : Int)) r ∧ (r.1 = m ∧ r.2.length = l.length) := by
  intro d
  induction d with
  | zero => intro i acc h ha; exact ⟨(m, acc), ev_const fun k => by simp only [spec_l19Plane.l0]; rw [if_neg (by omega)], rfl, by show acc.length = _; omega⟩
  | succ d ih =>
    intro i acc h ha
    have hi : i < l.length := by omega
    obtain ⟨t, ht⟩ : ∃ t, spec_l01Mod.f (wrap64 ((wrap64 ((wrap64 (a * ((rd_T68 l (i : Int)).f0))) + (wrap64 (b * ((rd_T68 l (i : Int)).f1))))) + c)) m = some t := ⟨_, by simp only [spec_l01Mod.f]; rw [if_neg hm]⟩
    refine ex_step (fun k => ?_) (ih (i + 1) (acc ++ [t]) (by omega) (by rw [List.length_append, List.length_singleton]; omega))
    simp only [spec_l19Plane.l0, ht]
    rw [if_pos (by omega), if_pos (by omega), wrap_succ hi (by omega)]
    simp only [Option.bind_some]
    rw [if_pos (by omega)]
theorem planeC (l : List S68) (m a b c : Int) (hm : m ≠ 0) (hl : l.length ≤ 100000) : ∃ r, Ev (fun k => spec_l19Plane.f k l m a b c) r ∧ (r.1 = m ∧ r.2.length = l.length) := by
  simpa [spec_l19Plane.f] using planeC_loop l m a b c hm hl l.length 0 [] (by omega) rfl
def drawnW (L : List Int) (n : Nat) (x : Int × List Int × Int × Int) : Prop := x.2.1.length ≤ n ∧ Src L x.2.2.1 x.2.2.2
theorem weightsC_j1 (L : List Int) (l : List S68) (m : Int) (p z a : Int) (w : List Int) (h : Src L p z) (hl : l.length ≤ 60) (hw : w.length ≤ 60) : ∃ r, Ev (fun k => spec_l19Draw.j1 k l m L p z a w) r ∧ drawnW L 61 r := by
  refine ex_step (fun k => by simp only [spec_l19Draw.j1]; rfl) (src_bind h fun c p1 z1 hs c0 c1 c2 => ?_)
  by_cases e0 : c = 0
  · simp only [if_pos e0, Option.bind_some]
    refine src_bind hs fun r p2 z2 hs r0 r1 r2 => ?_
    simp only [if_pos r0, if_pos (show r < (([1, 7] : List Int).length : Int) from r1 (by omega)), if_pos (show 0 ≤ (l.length : Int) by omega), if_pos (show ((l.length : Int)).toNat ≤ 35184372088832 by omega)]
    exact ex_now ⟨by simp; omega, hs⟩
  simp only [if_neg e0]
  by_cases e1 : c = 1
  · simp only [if_pos e1, spec_l01Own.f, Option.bind_some, List.length_nil, Nat.zero_add, if_pos (show w.length < 17592186044416 by omega), List.nil_append]
    exact ex_now ⟨by show (w ++ [0]).length ≤ 61; rw [List.length_append, List.length_singleton]; omega, hs⟩
  simp only [if_neg e1]
  by_cases e2 : c = 2
  · simp only [if_pos e2]
    by_cases q : (w.length : Int) > 0
    · simp only [if_pos q, Option.bind_some]
      refine src_bind hs fun r p2 z2 hs r0 r1 r2 => ?_
      simp only [if_pos r0, if_pos (show r < (([-1, m] : List Int).length : Int) from r1 (by omega)), if_pos (show 0 < (w.length : Int) from q)]
      exact ex_now ⟨by simp; omega, hs⟩
    · simp only [if_neg q]; exact ex_now ⟨by show w.length ≤ 61; omega, hs⟩
  · simp only [if_neg e2]; exact ex_now ⟨by show w.length ≤ 61; omega, hs⟩
theorem weightsC_j0 (L : List Int) (l : List S68) (m : Int) (b : Bool) (p z a : Int) (w : List Int) (h : Src L p z) (hl : l.length ≤ 60) (hw : w.length ≤ 60) (hb : b = true → w.length ≠ 0) : ∃ r, Ev (fun k => spec_l19Draw.j0 k l m b L p z a w) r ∧ drawnW L 61 r := by
  cases b with
  | false => exact ex_step (fun k => by simp only [spec_l19Draw.j0, Bool.false_eq_true, if_false]) (weightsC_j1 L l m p z a w h hl hw)
  | true =>
    refine ex_step (fun k => by simp only [spec_l19Draw.j0, if_true]; rfl) (src_bind h fun r p1 z1 hs r0 r1 r2 => ?_)
    refine src_bind hs fun t p2 z2 hs t0 t1 t2 => ?_
    have h0 := hb rfl
    have hr : r < (w.length : Int) := by
      by_cases q : 1 < (w.length : Int)
      · exact r1 q
      · have := r2 (by omega); omega
    simp only [if_pos r0, if_pos hr]
    exact weightsC_j1 L l m p2 z2 a _ hs hl (by simp; omega)
theorem weightsC (L : List Int) (l : List S68) (m : Int) (p z : Int) (h : Src L p z) (hl : l.length ≤ 60) (hm : m ≠ 0) : ∃ r, Ev (fun k => spec_l19Draw.f k L p z l m) r ∧ drawnW L 61 r := by
  simp only [spec_l19Draw.f]
  refine src_bind h fun a p1 z1 hs a0 a1 a2 => ?_
  refine src_bind hs fun b p2 z2 hs b0 b1 b2 => ?_
  refine src_bind hs fun c p3 z3 hs c0 c1 c2 => ?_
  refine ex_bind (planeC l m a b c hm (by omega)) fun x hx => ?_
  refine src_bind hs fun d p4 z4 hs d0 d1 d2 => ?_
  by_cases q : d = 0
  · simp only [if_pos q]
    refine weightsC_j0 L l m _ p4 z4 _ _ hs hl (by rw [hx.2]; exact hl) (fun hb => ?_)
    have := of_decide_eq_true hb
    omega
  · simp only [if_neg q]
    exact weightsC_j0 L l m false p4 z4 _ _ hs hl (by rw [hx.2]; exact hl) (fun hb => by cases hb)

theorem setC_all (L : List Int) (l : List S68) (p z : Int) (h : Src L p z) (hl : l.length ≤ 60) : ∀ (d i : Nat) (acc : List Int), i + d = l.length → acc.length ≤ i → ∃ r, Ev (fun k => spec_l10DrawSet.l1 k l acc (i : Int) L p z) r ∧ (r.1.length ≤ 61 ∧ Src L r.2.1 r.2.2) := by
  intro d
  induction d with
  | zero => intro i acc h1 ha; exact ⟨(acc, p, z), ev_const fun k => by simp only [spec_l10DrawSet.l1]; rw [if_neg (by omega)], by show acc.length ≤ 61; omega, h⟩
  | succ d ih =>
    intro i acc h1 ha
    have hi : i < l.length := by omega
    refine ex_step (fun k => ?_) (ih (i + 1) (acc ++ [(i : Int)]) (by omega) (by rw [List.length_append, List.length_singleton]; omega))
    simp only [spec_l10DrawSet.l1]; rw [if_pos (by omega), if_pos (by omega), wrap_succ hi (by omega)]
theorem setC_loop (L : List Int) (l : List S68) (hl : l.length ≤ 60) : ∀ (d i : Nat) (acc : List Int) (p z : Int), Src L p z → i + d = l.length → acc.length ≤ i → ∃ r, Ev (fun k => spec_l10DrawSet.l0 k l acc (i : Int) L p z) r ∧ (r.1.length ≤ 61 ∧ Src L r.2.1 r.2.2) := by
  intro d
  induction d with
  | zero =>
    intro i acc p z h h1 ha
    refine ex_step (fun k => by simp only [spec_l10DrawSet.l0]; rw [if_neg (by omega)]) (src_bind h fun c p1 z1 hs c0 c1 c2 => ?_)
    simp only [if_pos (show acc.length < 17592186044416 by omega)]
    by_cases e0 : c = 0
    · simp only [if_pos e0]; exact ex_now ⟨by show (acc ++ [_]).length ≤ 61; rw [List.length_append, List.length_singleton]; omega, hs⟩
    simp only [if_neg e0]
    by_cases e1 : c = 1
    · simp only [if_pos e1]; exact ex_now ⟨by show (acc ++ [_]).length ≤ 61; rw [List.length_append, List.length_singleton]; omega, hs⟩
    simp only [if_neg e1]
    by_cases e2 : c = 2
    · simp only [if_pos e2]; exact setC_all L l p1 z1 hs hl l.length 0 [] (by omega) (by simp)
    simp only [if_neg e2]
    exact ex_now ⟨by show acc.length ≤ 61; omega, hs⟩
  | succ d ih =>
    intro i acc p z h h1 ha
    have hi : i < l.length := by omega
    refine ex_step (f := fun k => (spec_l01Next.f L p z 3).bind fun t => if t.1 = 0 then spec_l10DrawSet.l0 k l (acc ++ [(i : Int)]) ((i + 1 : Nat) : Int) L t.2.1 t.2.2 else spec_l10DrawSet.l0 k l acc ((i + 1 : Nat) : Int) L t.2.1 t.2.2) (fun k => ?_) (src_bind h fun c p1 z1 hs c0 c1 c2 => ?_)
    · simp only [spec_l10DrawSet.l0]; rw [if_pos (by omega), wrap_succ hi (by omega)]
      simp only [if_pos (show acc.length < 17592186044416 by omega)]
    · by_cases e0 : c = 0
      · simp only [if_pos e0]; exact ih (i + 1) _ p1 z1 hs (by omega) (by rw [List.length_append, List.length_singleton]; omega)
      · simp only [if_neg e0]; exact ih (i + 1) _ p1 z1 hs (by omega) (by omega)
theorem setC (L : List Int) (l : List S68) (p z : Int) (h : Src L p z) (hl : l.length ≤ 60) : ∃ r, Ev (fun k => spec_l10DrawSet.f k L p z l) r ∧ (r.1.length ≤ 61 ∧ Src L r.2.1 r.2.2) := by
  simpa [spec_l10DrawSet.f] using setC_loop L l hl l.length 0 [] p z h (by omega) (by simp)

theorem drawAdd (L : List Int) (h1 : L.length ≤ 4096) (h2 : ∀ x ∈ L, 0 ≤ x ∧ x ≤ 255) : ∃ x, Ev (fun k => spec_DrawAddWeightings.f k L) x ∧ (x.1.length ≤ 60 ∧ x.2.2.1.length ≤ 61 ∧ x.2.2.2.2.length ≤ 61) := by
  obtain ⟨z, hE, hS⟩ := src_from L h1 h2
  simp only [spec_DrawAddWeightings.f]
  refine ex_bind (C := fun x => x = (L, 0, z)) ⟨_, hE, rfl⟩ fun x hx => ?_
  subst hx
  refine ex_bind (regionC L 0 z hS) fun x hx => ?_
  refine src_bind hx.2 fun r p1 z1 hs r0 r1 r2 => ?_
  have r1 := r1 (by omega)
  rw [wrap_id (x := 2 + r) (by omega) (by omega)]
  refine ex_bind (weightsC L x.1 (2 + r) p1 z1 hs hx.1 (by omega)) fun v hv => ?_
  refine ex_bind (weightsC L x.1 (2 + r) _ _ hv.2 hx.1 (by omega)) fun w hw => ?_
  exact ex_now ⟨hx.1, hv.1, hw.1⟩
theorem drawSetW (L : List Int) (h1 : L.length ≤ 4096) (h2 : ∀ x ∈ L, 0 ≤ x ∧ x ≤ 255) : ∃ x, Ev (fun k => spec_DrawWeightOfSet.f k L) x ∧ (x.1.length ≤ 60 ∧ x.2.2.1.length ≤ 61 ∧ x.2.2.2.length ≤ 61) := by
  obtain ⟨z, hE, hS⟩ := src_from L h1 h2
  simp only [spec_DrawWeightOfSet.f]
  refine ex_bind (C := fun x => x = (L, 0, z)) ⟨_, hE, rfl⟩ fun x hx => ?_
  subst hx
  refine ex_bind (regionC L 0 z hS) fun x hx => ?_
  refine src_bind hx.2 fun r p1 z1 hs r0 r1 r2 => ?_
  have r1 := r1 (by omega)
  rw [wrap_id (x := 2 + r) (by omega) (by omega)]
  refine ex_bind (weightsC L x.1 (2 + r) p1 z1 hs hx.1 (by omega)) fun v hv => ?_
  refine ex_bind (setC L x.1 _ _ hv.2 hx.1) fun s hs => ?_
  exact ex_now ⟨hx.1, hv.1, hs.1⟩
theorem drawIsW (L : List Int) (h1 : L.length ≤ 4096) (h2 : ∀ x ∈ L, 0 ≤ x ∧ x ≤ 255) : ∃ x, Ev (fun k => spec_DrawIsWeighting.f k L) x ∧ (x.1.length ≤ 60 ∧ x.2.2.length ≤ 61) := by
  obtain ⟨z, hE, hS⟩ := src_from L h1 h2
  simp only [spec_DrawIsWeighting.f]
  refine ex_bind (C := fun x => x = (L, 0, z)) ⟨_, hE, rfl⟩ fun x hx => ?_
  subst hx
  refine ex_bind (regionC L 0 z hS) fun x hx => ?_
  refine src_bind hx.2 fun r p1 z1 hs r0 r1 r2 => ?_
  have r1 := r1 (by omega)
  rw [wrap_id (x := 2 + r) (by omega) (by omega)]
  refine ex_bind (weightsC L x.1 (2 + r) p1 z1 hs hx.1 (by omega)) fun v hv => ?_
  exact ex_now ⟨hx.1, hv.1⟩

theorem likeInts_loop (l : List Int) (hl : l.length ≤ 9223372036854775807) : ∀ d i, i + d = l.length → Ev (fun k => laws_likeInts.l0 k l l (i : Int)) true := by
  intro d
  induction d with
  | zero =>
    intro i h
    exact ev_const fun k => by simp only [laws_likeInts.l0]; rw [if_neg (by omega)]
  | succ d ih =>
    intro i h
    have hi : i < l.length := by omega
    refine Ev.step (fun k => ?_) (ih (i + 1) (by omega))
    simp only [laws_likeInts.l0]
    rw [if_pos (by omega), if_pos (by omega), if_pos (by omega), wrap_succ hi hl]; simp
theorem likeInts (l : List Int) (hl : l.length ≤ 9223372036854775807) : Ev (fun k => laws_likeInts.f k l l) true := by
  have := likeInts_loop l hl l.length 0 (by omega)
  simpa [laws_likeInts.f] using this

def weightB (n : Nat) (m : Int) (w : List Int) : Bool := (decide (2 ≤ m) && decide (m ≤ 6)) && (decide ((w.length : Int) = (n : Int)) && w.all (fun x => decide (0 ≤ x) && decide (x ≤ wrap64 (m - 1))))

/-- Rising, from a number on, each within 0 to m. -/
def risesB (m : Int) : List Int → Int → Bool
  | [], _ => true
  | x :: xs, p => decide (0 ≤ x) && decide (x ≤ m) && decide (p < x) && risesB m xs x
def prevOf (l : List Int) (i : Nat) : Int := if i = 0 then -1 else l.getD (i - 1) 0
theorem prevOf_succ (l : List Int) {i : Nat} (h : i < l.length) : prevOf l (i + 1) = l[i] := by
  simp [prevOf, List.getD_eq_getElem?_getD, List.getElem?_eq_getElem h]
theorem rises_next (m : Int) (l : List Int) {i : Nat} (h : i < l.length) : risesB m (l.drop i) (prevOf l i) = (decide (0 ≤ l[i]) && decide (l[i] ≤ m) && decide (prevOf l i < l[i]) && risesB m (l.drop (i + 1)) (prevOf l (i + 1))) := by
  rw [List.drop_eq_getElem_cons h, prevOf_succ l h]; rfl
theorem rises_end (m : Int) (l : List Int) {i : Nat} (h : l.length ≤ i) (p : Int) : risesB m (l.drop i) p = true := by
  rw [List.drop_eq_nil_of_le h]; rfl

def wsum (w : List Int) : List Int → Int
  | [] => 0
  | x :: xs => rd w x + wsum w xs
def okSet (m : Int) (w s : List Int) : Prop := (2 ≤ m ∧ m ≤ 6) ∧ (∀ x ∈ s, 0 ≤ x ∧ x < (w.length : Int)) ∧ ∀ x ∈ s, 0 ≤ rd w x ∧ rd w x ≤ 5
theorem wsum_bd {m : Int} {w : List Int} : ∀ (s : List Int), (∀ x ∈ s, 0 ≤ rd w x ∧ rd w x ≤ 5) → 0 ≤ wsum w s ∧ wsum w s ≤ 5 * s.length
  | [], _ => ⟨Int.le_refl 0, by simp [wsum]⟩
  | x :: xs, h => by
    have h1 := h x List.mem_cons_self
    have h2 := wsum_bd (m := m) xs (fun y hy => h y (List.mem_cons_of_mem _ hy))
    simp only [wsum, List.length_cons]; push_cast; omega
theorem okSet_of {n : Nat} {m : Int} {w s : List Int} (hw : weightB n m w = true) (hn : n ≤ 1000) (hs : risesB (wrap64 ((n : Int) - 1)) s (-1) = true) : okSet m w s := by
  simp only [weightB, Bool.and_eq_true, decide_eq_true_eq, List.all_eq_true] at hw
  obtain ⟨⟨h1, h2⟩, h3, h4⟩ := hw
  rw [wrap_id (by omega) (by omega)] at hs
  have hm : ∀ (l : List Int) (p : Int), risesB ((n : Int) - 1) l p = true → ∀ x ∈ l, 0 ≤ x ∧ x ≤ (n : Int) - 1 := by
    intro l
    induction l with
    | nil => intro p _ x hx; cases hx
    | cons y ys ih =>
      intro p h x hx
      simp only [risesB, Bool.and_eq_true, decide_eq_true_eq] at h
      rcases List.mem_cons.mp hx with rfl | hx
      · exact ⟨h.1.1.1, h.1.1.2⟩
      · exact ih y h.2 x hx
  refine ⟨⟨h1, h2⟩, fun x hx => by have := hm s _ hs x hx; omega, fun x hx => ?_⟩
  have hx := hm s _ hs x hx
  have hlt : x.toNat < w.length := by omega
  have e : rd w x = w[x.toNat] := by simp [rd, List.getD_eq_getElem?_getD, List.getElem?_eq_getElem hlt]
  have := h4 _ (List.getElem_mem hlt)
  rw [wrap_id (by omega) (by omega)] at this
  rw [e]; omega
def wofB (rg : Bool) (n : Nat) (m : Int) (w s : List Int) : Int × Int :=
  if rg then (if weightB n m w then (if risesB (wrap64 ((n : Int) - 1)) s (-1) then (wsum w s % m, 0) else (0, 2)) else (0, 2)) else (0, 1)

theorem spec_wof_loop (m : Int) (w s : List Int) (ok : okSet m w s) (hs : s.length ≤ 1048576) : ∀ d i (a : Int), i + d = s.length → 0 ≤ a → a ≤ 5 → Ev (fun k => spec_l19Weight.l0 k s a (i : Int) m w) (if i = s.length then a else (a + wsum w (s.drop i)) % m) := by
  intro d
  induction d with
  | zero =>
    intro i a h _ _
    rw [if_pos (by omega)]
    exact ev_const fun k => by simp only [spec_l19Weight.l0]; rw [if_neg (by omega)]
  | succ d ih =>
    intro i a h h0 h1
    have hi : i < s.length := by omega
    have hx := ok.2.1 _ (List.getElem_mem hi)
    have hv := ok.2.2 _ (List.getElem_mem hi)
    have hm := ok.1
    rw [if_neg (by omega), List.drop_eq_getElem_cons hi]
    simp only [wsum]
    have e : Int.tmod (wrap64 (a + rd w s[i])) m = (a + rd w s[i]) % m := by rw [wrap_id (by omega) (by omega), Int.tmod_eq_emod_of_nonneg (by omega)]
    have b1 : 0 ≤ (a + rd w s[i]) % m := Int.emod_nonneg _ (by omega)
    have b2 : (a + rd w s[i]) % m < m := Int.emod_lt_of_pos _ (by omega)
    refine Ev.step (f := fun k => spec_l19Weight.l0 k s ((a + rd w s[i]) % m) ((i + 1 : Nat) : Int) m w) (fun k => ?_) (ev_eq (ih (i + 1) _ (by omega) b1 (by omega)) ?_)
    · simp only [spec_l19Weight.l0]
      rw [if_pos (by omega), if_pos (by omega), rd_nat s hi, if_pos hx.1, if_pos hx.2, if_neg (show ¬ m = 0 by omega), e, wrap_succ hi (by omega)]
    · by_cases q : i + 1 = s.length
      · rw [if_pos q, List.drop_eq_nil_of_le (by omega)]; simp [wsum]
      · rw [if_neg q, Int.emod_add_emod]; congr 1; omega
theorem spec_wof (m : Int) (w s : List Int) (ok : okSet m w s) (hs : s.length ≤ 1048576) : Ev (fun k => spec_l19Weight.f k m w s) (wsum w s % m) := by
  have := spec_wof_loop m w s ok hs s.length 0 0 (by omega) (by omega) (by omega)
  simp only [spec_l19Weight.f]
  refine ev_eq (by simpa using this) ?_
  by_cases q : s = []
  · subst q; simp [wsum]
  · have : ¬ (0 = s.length) := by intro h; exact q (List.length_eq_zero_iff.mp h.symm)
    simp [this]

def coordB (c : S68) : Bool := (decide (-100 ≤ c.f0) && decide (c.f0 ≤ 100)) && (decide (-100 ≤ c.f1) && decide (c.f1 ≤ 100))
def lessC (a b : S68) : Bool := decide (a.f1 < b.f1) || (decide (a.f1 = b.f1) && decide (a.f0 < b.f0))
def nextB (p : Option S68) (c : S68) : Bool := match p with | none => true | some q => lessC q c
def shB : List S68 → Option S68 → Bool
  | [], _ => true
  | c :: cs, p => coordB c && (nextB p c && shB cs (some c))
def prevC (l : List S68) (i : Nat) : Option S68 := if i = 0 then none else l[i - 1]?
theorem prevC_succ (l : List S68) {i : Nat} (h : i < l.length) : prevC l (i + 1) = some l[i] := by simp [prevC, List.getElem?_eq_getElem h]
theorem prevC_pos (l : List S68) {i : Nat} (z : i ≠ 0) (h : i < l.length) : prevC l i = some l[i - 1] := by
  simp [prevC, z, List.getElem?_eq_getElem (show i - 1 < l.length by omega)]
def lenB (l : List S68) : Bool := decide (1 ≤ (l.length : Int)) && decide ((l.length : Int) ≤ 40)
def shapeB (l : List S68) : Bool := shB l none && lenB l
theorem shB_mem : ∀ (l : List S68) p, shB l p = true → ∀ c ∈ l, coordB c = true
  | [], _, _, c, hc => absurd hc List.not_mem_nil
  | x :: xs, p, h, c, hc => by
    simp only [shB, Bool.and_eq_true] at h
    rcases List.mem_cons.mp hc with rfl | hc
    · exact h.1
    · exact shB_mem xs _ h.2.2 c hc
theorem coordB_bd {c : S68} (h : coordB c = true) : -100 ≤ c.f0 ∧ c.f0 ≤ 100 ∧ -100 ≤ c.f1 ∧ c.f1 ≤ 100 := by
  simp only [coordB, Bool.and_eq_true, decide_eq_true_eq] at h; omega
theorem shapeB_parts {l : List S68} (h : shapeB l = true) : 1 ≤ l.length ∧ l.length ≤ 40 ∧ ∀ c ∈ l, -100 ≤ c.f0 ∧ c.f0 ≤ 100 ∧ -100 ≤ c.f1 ∧ c.f1 ≤ 100 := by
  simp only [shapeB, lenB, Bool.and_eq_true, decide_eq_true_eq] at h
  exact ⟨by omega, by omega, fun c hc => coordB_bd (shB_mem l none h.1 c hc)⟩

theorem mn_le (a b : Int) : mn a b ≤ a ∧ mn a b ≤ b ∧ (mn a b = a ∨ mn a b = b) := by unfold mn; split <;> omega
theorem mx_le (a b : Int) : a ≤ mx a b ∧ b ≤ mx a b ∧ (mx a b = a ∨ mx a b = b) := by unfold mx; split <;> omega
def foldMn (g : S68 → Int) (l : List S68) (a : Int) : Int := l.foldl (fun m c => mn m (g c)) a
def foldMx (g : S68 → Int) (l : List S68) (a : Int) : Int := l.foldl (fun m c => mx m (g c)) a
theorem foldMn_le (g : S68 → Int) : ∀ (l : List S68) a, foldMn g l a ≤ a
  | [], a => Int.le_refl a
  | c :: l, a => by have := foldMn_le g l (mn a (g c)); have h := mn_le a (g c); simp only [foldMn, List.foldl_cons] at this ⊢; omega
theorem foldMn_mem (g : S68 → Int) : ∀ (l : List S68) a c, c ∈ l → foldMn g l a ≤ g c
  | [], _, _, h => absurd h List.not_mem_nil
  | x :: l, a, c, h => by
    simp only [foldMn, List.foldl_cons]
    rcases List.mem_cons.mp h with rfl | h
    · have := foldMn_le g l (mn a (g c)); have h := mn_le a (g c); simp only [foldMn] at this; omega
    · exact foldMn_mem g l _ c h
theorem foldMn_ge (g : S68 → Int) (B : Int) : ∀ (l : List S68) a, B ≤ a → (∀ c ∈ l, B ≤ g c) → B ≤ foldMn g l a
  | [], a, h, _ => h
  | c :: l, a, h, hc => by
    show B ≤ foldMn g l (mn a (g c))
    exact foldMn_ge g B l (mn a (g c)) (by have := mn_le a (g c); have := hc c (List.mem_cons_self ..); omega) (fun x hx => hc x (List.mem_cons_of_mem _ hx))
theorem foldMx_iff (g : S68 → Int) (B : Int) : ∀ (l : List S68) a, foldMx g l a ≤ B ↔ a ≤ B ∧ ∀ c ∈ l, g c ≤ B
  | [], a => by simp [foldMx]
  | c :: l, a => by
    have := foldMx_iff g B l (mx a (g c)); have h := mx_le a (g c)
    simp only [foldMx, List.foldl_cons] at this ⊢
    rw [this]
    constructor
    · rintro ⟨h1, h2⟩; exact ⟨by omega, fun x hx => by rcases List.mem_cons.mp hx with rfl | hx; omega; exact h2 x hx⟩
    · rintro ⟨h1, h2⟩; exact ⟨by have := h2 c (List.mem_cons_self ..); omega, fun x hx => h2 x (List.mem_cons_of_mem _ hx)⟩
def hd0 (l : List S68) : S68 := rd_T68 l 0
theorem hd0_cons (c : S68) (l : List S68) : hd0 (c :: l) = c := by simp [hd0, rd_T68]
theorem hd0_mem {l : List S68} (h : 0 < l.length) : hd0 l ∈ l := by cases l with | nil => simp at h | cons c l => rw [hd0_cons]; exact List.mem_cons_self ..
def leastX (l : List S68) : Int := foldMn (·.f0) l (hd0 l).f0
def leastY (l : List S68) : Int := foldMn (·.f1) l (hd0 l).f1
theorem foldMn_tail (g : S68 → Int) (l : List S68) (h : 0 < l.length) : foldMn g (l.drop 1) (g (hd0 l)) = foldMn g l (g (hd0 l)) := by
  cases l with
  | nil => simp at h
  | cons c l => rw [hd0_cons]; simp only [foldMn, List.drop_succ_cons, List.drop_zero, List.foldl_cons]; rw [show mn (g c) (g c) = g c by unfold mn; split <;> rfl]

def regionB (l : List S68) : Bool := shapeB l && (decide (leastX l = 0) && decide (leastY l = 0) && (l.all (fun c => decide (c.f0 < 20)) && l.all (fun c => decide (c.f1 < 20))))
theorem regionB_parts {l : List S68} (h : regionB l = true) : 1 ≤ l.length ∧ l.length ≤ 40 ∧ ∀ c ∈ l, 0 ≤ c.f0 ∧ c.f0 < 20 ∧ 0 ≤ c.f1 ∧ c.f1 < 20 := by
  simp only [regionB, Bool.and_eq_true, decide_eq_true_eq, List.all_eq_true] at h
  obtain ⟨h1, ⟨h2, h3⟩, h4, h5⟩ := h
  obtain ⟨p1, p2, _⟩ := shapeB_parts h1
  refine ⟨p1, p2, fun c hc => ?_⟩
  have a : leastX l ≤ c.f0 := foldMn_mem (·.f0) l (hd0 l).f0 c hc
  have b : leastY l ≤ c.f1 := foldMn_mem (·.f1) l (hd0 l).f1 c hc
  exact ⟨by omega, h4 c hc, by omega, h5 c hc⟩

theorem spec_in (a b c : Int) : spec_l01In.f a b c = some (decide (b ≤ a) && decide (a ≤ c)) := by
  unfold spec_l01In.f; by_cases h : b ≤ a
  · rw [if_pos h]; simp [h]
  · rw [if_neg h]; simp [h]

theorem spec_cell (c : S68) : spec_l02Cell.f c.f0 c.f1 = some (coordB c) := by
  simp only [spec_l02Cell.f, spec_in, Option.bind_some, coordB]
  split
  · rename_i h; rw [h]; simp
  · rename_i h; simp only [Bool.not_eq_true] at h; rw [h]; simp
theorem spec_less (a b : S68) : spec_l02Less.f a.f0 a.f1 b.f0 b.f1 = some (lessC a b) := by
  unfold spec_l02Less.f lessC
  split
  · rename_i h; simp [h]
  · rename_i h; split
    · rename_i h2; simp [h, h2]
    · rename_i h2; simp [h, h2]
theorem spec_shape_loop (l : List S68) (hl : l.length ≤ 9223372036854775807) : ∀ d i, i + d = l.length → Ev (fun k => spec_IsShape.l0 k l (i : Int)) (shB (l.drop i) (prevC l i) && lenB l) := by
  intro d
  induction d with
  | zero =>
    intro i h
    rw [List.drop_eq_nil_of_le (by omega)]
    exact ev_const fun k => by simp only [spec_IsShape.l0]; rw [if_neg (by omega), spec_in]; simp [shB, lenB]
  | succ d ih =>
    intro i h
    have hi : i < l.length := by omega
    rw [List.drop_eq_getElem_cons hi]
    simp only [shB]
    have step : ∀ k, spec_IsShape.l0 (k + 1) l (i : Int) = if (coordB l[i] && nextB (prevC l i) l[i]) = true then spec_IsShape.l0 k l ((i + 1 : Nat) : Int) else some false := fun k => by
      simp only [spec_IsShape.l0]
      rw [if_pos (by omega), if_pos (by omega), rdc_nat l hi, wrap_succ hi hl, spec_cell]
      simp only [Option.bind_some]
      cases hc : coordB l[i] with
      | false => simp
      | true =>
        simp only [if_true, Bool.true_and]
        by_cases z : i = 0
        · rw [if_neg (by omega), if_pos (by simp [prevC, z, nextB])]
        · have e : wrap64 ((i : Int) - 1) = ((i - 1 : Nat) : Int) := by unfold wrap64; omega
          rw [if_pos (by omega), e, if_pos (by omega), if_pos (by omega), rdc_nat l (by omega), spec_less, prevC_pos l z hi]
          simp only [Option.bind_some, nextB]
          rfl
    refine Ev.step step ?_
    cases q : (coordB l[i] && nextB (prevC l i) l[i]) with
    | true =>
      simp only [if_true]
      refine ev_eq (ih (i + 1) (by omega)) ?_
      rw [prevC_succ l hi]
      simp only [Bool.and_eq_true] at q
      rw [q.1, q.2]; simp
    | false =>
      simp only [Bool.false_eq_true, if_false]
      refine ev_eq (Ev.now _) ?_
      rw [← Bool.and_assoc, q]; simp
theorem spec_IsShape_ev (l : List S68) (hl : l.length ≤ 9223372036854775807) : Ev (fun k => spec_IsShape.f k l) (shapeB l) := by
  have := spec_shape_loop l hl l.length 0 (by omega)
  simpa [spec_IsShape.f, prevC, shapeB] using this

theorem spec_least_loop (l : List S68) (hl : l.length ≤ 9223372036854775807) : ∀ d i (x y : Int), i + d = l.length → Ev (fun k => spec_l02Least.l0 k l x y (i : Int)) (foldMn (·.f0) (l.drop i) x, foldMn (·.f1) (l.drop i) y) := by
  intro d
  induction d with
  | zero =>
    intro i x y h
    rw [List.drop_eq_nil_of_le (by omega)]
    exact ev_const fun k => by simp only [spec_l02Least.l0]; rw [if_neg (by omega)]; rfl
  | succ d ih =>
    intro i x y h
    have hi : i < l.length := by omega
    rw [List.drop_eq_getElem_cons hi]
    refine Ev.step (f := fun k => spec_l02Least.l0 k l (mn x l[i].f0) (mn y l[i].f1) ((i + 1 : Nat) : Int)) (fun k => ?_) (ih (i + 1) _ _ (by omega))
    simp only [spec_l02Least.l0]
    rw [if_pos (by omega), if_pos (by omega), rdc_nat l hi, wrap_succ hi hl]
theorem spec_least (l : List S68) (hl : l.length ≤ 9223372036854775807) (h0 : 0 < l.length) : Ev (fun k => spec_l02Least.f k l) (leastX l, leastY l) := by
  have := spec_least_loop l hl (l.length - 1) 1 (hd0 l).f0 (hd0 l).f1 (by omega)
  rw [foldMn_tail (·.f0) l h0, foldMn_tail (·.f1) l h0] at this
  simp only [spec_l02Least.f, if_pos (show 0 < (l.length : Int) by omega)]
  exact this

theorem spec_size_loop (l : List S68) (a b : Int) (hl : l.length ≤ 9223372036854775807) : ∀ d i (x y : Int), i + d = l.length → Ev (fun k => spec_l04Size.l0 k l a b x y (i : Int)) (foldMx (fun c => wrap64 (wrap64 (c.f0 - a) + 1)) (l.drop i) x, foldMx (fun c => wrap64 (wrap64 (c.f1 - b) + 1)) (l.drop i) y) := by
  intro d
  induction d with
  | zero =>
    intro i x y h
    rw [List.drop_eq_nil_of_le (by omega)]
    exact ev_const fun k => by simp only [spec_l04Size.l0]; rw [if_neg (by omega)]; rfl
  | succ d ih =>
    intro i x y h
    have hi : i < l.length := by omega
    rw [List.drop_eq_getElem_cons hi]
    refine Ev.step (f := fun k => spec_l04Size.l0 k l a b (mx x (wrap64 (wrap64 (l[i].f0 - a) + 1))) (mx y (wrap64 (wrap64 (l[i].f1 - b) + 1))) ((i + 1 : Nat) : Int)) (fun k => ?_) (ih (i + 1) _ _ (by omega))
    simp only [spec_l04Size.l0]
    rw [if_pos (by omega), if_pos (by omega), rdc_nat l hi, wrap_succ hi hl]
def sizeX (l : List S68) : Int := foldMx (fun c => wrap64 (wrap64 (c.f0 - leastX l) + 1)) l 0
def sizeY (l : List S68) : Int := foldMx (fun c => wrap64 (wrap64 (c.f1 - leastY l) + 1)) l 0
theorem spec_size (l : List S68) (hl : l.length ≤ 9223372036854775807) (h0 : 0 < l.length) : Ev (fun k => spec_l04Size.f k l) (sizeX l, sizeY l) := by
  simp only [spec_l04Size.f]
  refine Ev.bind (spec_least l hl h0) ?_
  have := spec_size_loop l (leastX l) (leastY l) hl l.length 0 0 0 (by omega)
  rw [List.drop_zero] at this
  exact this

theorem size_iff (g : S68 → Int) (l : List S68) (hb : ∀ c ∈ l, -100 ≤ g c ∧ g c ≤ 100) : decide (foldMx (fun c => wrap64 (wrap64 (g c - 0) + 1)) l 0 ≤ 20) = l.all (fun c => decide (g c < 20)) := by
  rw [Bool.eq_iff_iff, decide_eq_true_eq, foldMx_iff, List.all_eq_true]
  constructor
  · rintro ⟨_, h⟩ c hc
    have h3 := h c hc; have h4 := hb c hc
    unfold wrap64 at h3
    simp only [decide_eq_true_eq]; omega
  · intro h
    refine ⟨by omega, fun c hc => ?_⟩
    have h3 := h c hc; have h4 := hb c hc
    simp only [decide_eq_true_eq] at h3
    unfold wrap64; omega
theorem spec_IsRegion_ev (l : List S68) (hl : l.length ≤ 9223372036854775807) : Ev (fun k => spec_IsRegion.f k l) (regionB l) := by
  simp only [spec_IsRegion.f]
  refine Ev.bind (spec_IsShape_ev l hl) ?_
  unfold regionB
  cases hs : shapeB l with
  | false => simpa using Ev.now false
  | true =>
    obtain ⟨p1, p2, p3⟩ := shapeB_parts hs
    simp only [if_true, Bool.true_and]
    refine Ev.bind (spec_size l hl p1) (Ev.bind (spec_least l hl p1) ?_)
    by_cases c1 : leastX l = 0
    · by_cases c2 : leastY l = 0
      · simp only [if_pos c1, if_pos c2]
        have e1 := size_iff (·.f0) l (fun c hc => by have := p3 c hc; omega)
        have e2 := size_iff (·.f1) l (fun c hc => by have := p3 c hc; omega)
        have s1 : sizeX l = foldMx (fun c => wrap64 (wrap64 (c.f0 - 0) + 1)) l 0 := by unfold sizeX; rw [c1]
        have s2 : sizeY l = foldMx (fun c => wrap64 (wrap64 (c.f1 - 0) + 1)) l 0 := by unfold sizeY; rw [c2]
        rw [s1, s2, ← e1, ← e2]
        by_cases c3 : foldMx (fun c => wrap64 (wrap64 (c.f0 - 0) + 1)) l 0 ≤ 20
        · simp only [if_pos c3]; refine ev_eq (Ev.now _) ?_; rw [decide_eq_true c1, decide_eq_true c2, decide_eq_true c3]; simp only [Bool.true_and]
        · simp only [if_neg c3]; refine ev_eq (Ev.now _) ?_; rw [decide_eq_false c3]; simp only [Bool.false_and, Bool.and_false]
      · simp only [if_pos c1, if_neg c2]; refine ev_eq (Ev.now _) ?_; simp [c1, c2]
    · simp only [if_neg c1]; refine ev_eq (Ev.now _) ?_; simp [c1]

theorem spec_weights_loop (m : Int) (w : List Int) (hw : w.length ≤ 9223372036854775807) : ∀ d i, i + d = w.length → Ev (fun k => spec_l19Is.l0 k (i : Int) m w) ((w.drop i).all (fun x => decide (0 ≤ x) && decide (x ≤ wrap64 (m - 1)))) := by
  intro d
  induction d with
  | zero =>
    intro i h
    rw [List.drop_eq_nil_of_le (by omega)]
    exact ev_const fun k => by simp only [spec_l19Is.l0]; rw [if_neg (by omega)]; rfl
  | succ d ih =>
    intro i h
    have hi : i < w.length := by omega
    rw [List.drop_eq_getElem_cons hi, List.all_cons]
    have step : ∀ k, spec_l19Is.l0 (k + 1) (i : Int) m w = if (decide (0 ≤ w[i]) && decide (w[i] ≤ wrap64 (m - 1))) = true then spec_l19Is.l0 k ((i + 1 : Nat) : Int) m w else some false := fun k => by
      simp only [spec_l19Is.l0]
      rw [if_pos (by omega), if_pos (by omega), rd_nat w hi, wrap_succ hi hw, spec_in]; rfl
    refine Ev.step step ?_
    cases q : (decide (0 ≤ w[i]) && decide (w[i] ≤ wrap64 (m - 1))) with
    | true => simp only [if_true]; exact ev_eq (ih (i + 1) (by omega)) (by simp)
    | false => simp only [Bool.false_eq_true, if_false]; exact ev_eq (Ev.now _) (by simp)
theorem spec_weights (l : List S68) (m : Int) (w : List Int) (hw : w.length ≤ 9223372036854775807) : Ev (fun k => spec_l19Is.f k l m w) (weightB l.length m w) := by
  have hj : ∀ x, Ev (fun k => spec_l19Is.j0 k x m w) (!x && w.all (fun x => decide (0 ≤ x) && decide (x ≤ wrap64 (m - 1)))) := fun x => by
    refine Ev.step (f := fun k => if x = true then some false else spec_l19Is.l0 k 0 m w) (fun k => by simp only [spec_l19Is.j0]) ?_
    cases x with
    | true => simpa using Ev.now false
    | false => simpa using spec_weights_loop m w hw w.length 0 (by omega)
  simp only [spec_l19Is.f, spec_in, Option.bind_some, weightB]
  cases (decide (2 ≤ m) && decide (m ≤ 6)) with
  | false => simpa using hj true
  | true =>
    simp only [if_true, Bool.true_and]
    refine ev_eq (hj _) ?_
    by_cases c : (w.length : Int) = (l.length : Int)
    · simp [c]
    · simp [c]

theorem spec_rises_loop (l : List Int) (n : Int) (hl : l.length ≤ 9223372036854775807) : ∀ d i, i + d = l.length →
    Ev (fun k => spec_l01Rises.l0 k l n (i : Int)) (risesB (wrap64 (n - 1)) (l.drop i) (prevOf l i)) := by
  intro d
  induction d with
  | zero =>
    intro i h
    rw [rises_end _ _ (by omega)]
    exact ev_const fun k => by simp only [spec_l01Rises.l0]; rw [if_neg (by omega)]
  | succ d ih =>
    intro i h
    have hi : i < l.length := by omega
    have step : ∀ k, spec_l01Rises.l0 (k + 1) l n (i : Int) = if (decide (0 ≤ l[i]) && decide (l[i] ≤ wrap64 (n - 1))) = true then (if decide (prevOf l i < l[i]) = true ∨ i = 0 then spec_l01Rises.l0 k l n ((i + 1 : Nat) : Int) else some false) else some false := fun k => by
      simp only [spec_l01Rises.l0]
      rw [if_pos (by omega), if_pos (by omega), rd_nat l hi, spec_in]
      simp only [Option.bind_some, wrap_succ hi hl]
      by_cases c : (decide (0 ≤ l[i]) && decide (l[i] ≤ wrap64 (n - 1))) = true
      · rw [if_pos c, if_pos c]
        by_cases z : i = 0
        · rw [if_neg (by omega), if_pos (.inr z)]
        · have e : wrap64 ((i : Int) - 1) = ((i - 1 : Nat) : Int) := by unfold wrap64; omega
          have p : prevOf l i = l[i - 1] := by simp [prevOf, z, List.getD_eq_getElem?_getD, List.getElem?_eq_getElem (show i - 1 < l.length by omega)]
          rw [if_pos (by omega), e, if_pos (by omega), if_pos (by omega), rd_nat l (by omega), p]
          by_cases q : l[i] ≤ l[i - 1]
          · rw [if_pos q, if_neg (by simp [z]; omega)]
          · rw [if_neg q, if_pos (.inl (by simp; omega))]
      · rw [if_neg c, if_neg c]
    rw [rises_next _ _ hi]
    refine Ev.step step ?_
    by_cases c : (decide (0 ≤ l[i]) && decide (l[i] ≤ wrap64 (n - 1))) = true
    · simp only [if_pos c]
      by_cases q : decide (prevOf l i < l[i]) = true ∨ i = 0
      · simp only [if_pos q]
        refine ev_eq (ih (i + 1) (by omega)) ?_
        have q' : decide (prevOf l i < l[i]) = true := q.elim id fun z => by
          subst z
          simp only [Bool.and_eq_true, decide_eq_true_eq] at c
          simp [prevOf]; omega
        rw [c, q']; simp
      · simp only [if_neg q]
        refine ev_eq (Ev.now _) ?_
        rw [show decide (prevOf l i < l[i]) = false by simp only [not_or] at q; simpa using q.1]; simp
    · simp only [if_neg c]
      refine ev_eq (Ev.now _) ?_
      simp only [Bool.not_eq_true] at c
      rw [c]; simp
theorem spec_rises (l : List Int) (n : Int) (hl : l.length ≤ 9223372036854775807) : Ev (fun k => spec_l01Rises.f k l n) (risesB (wrap64 (n - 1)) l (-1)) := by
  have := spec_rises_loop l n hl l.length 0 (by omega)
  simpa [spec_l01Rises.f, prevOf] using this

theorem spec_WeightOfSet_ev (l : List S68) (m : Int) (w s : List Int) (hl : l.length ≤ 9223372036854775807) (hw : w.length ≤ 9223372036854775807) (hs : s.length ≤ 1048576) : Ev (fun k => spec_WeightOfSet.f k l m w s) (wofB (regionB l) l.length m w s) := by
  simp only [spec_WeightOfSet.f]
  refine Ev.bind (spec_IsRegion_ev _ hl) ?_
  unfold wofB
  cases c1 : regionB l with
  | false => simpa using Ev.now _
  | true =>
    simp only [if_true]
    refine Ev.bind (spec_weights _ m w hw) ?_
    cases c2 : weightB l.length m w with
    | false => simpa using Ev.now _
    | true =>
      simp only [if_true]
      refine Ev.bind (spec_rises s (l.length : Int) (by omega)) ?_
      cases c3 : risesB (wrap64 ((l.length : Int) - 1)) s (-1) with
      | false => simpa using Ev.now _
      | true => simp only [if_true]; exact Ev.bind (spec_wof m w s (okSet_of c2 (by have := regionB_parts c1; omega) c3) hs) (Ev.now _)

theorem impl_wof_loop (m : Int) (w s : List Int) (ok : okSet m w s) (hs : s.length ≤ 1048576) : ∀ d i (a : Int), i + d = s.length → 0 ≤ a → a ≤ 5 * i → Ev (fun k => impl_Weighting_of.l0 k a s (s.length : Int) (i : Int) m w) ((a + wsum w (s.drop i)) % m) := by
  intro d
  have hm := ok.1
  induction d with
  | zero =>
    intro i a h h0 h1
    rw [List.drop_eq_nil_of_le (by omega)]
    exact ev_const fun k => by
      simp only [impl_Weighting_of.l0]
      rw [if_neg (by omega), if_neg (show ¬ m = 0 by omega), Int.tmod_eq_emod_of_nonneg (by omega)]; simp [wsum]
  | succ d ih =>
    intro i a h h0 h1
    have hi : i < s.length := by omega
    have hx := ok.2.1 _ (List.getElem_mem hi)
    have hv := ok.2.2 _ (List.getElem_mem hi)
    rw [List.drop_eq_getElem_cons hi]
    simp only [wsum]
    refine Ev.step (f := fun k => impl_Weighting_of.l0 k (a + rd w s[i]) s (s.length : Int) ((i + 1 : Nat) : Int) m w) (fun k => ?_) (ev_eq (ih (i + 1) (a + rd w s[i]) (by omega) (by omega) (by push_cast; omega)) (by rw [Int.add_assoc]))
    simp only [impl_Weighting_of.l0]
    rw [if_pos (by omega), if_pos (by omega), if_pos (by omega), rd_nat s hi, if_pos hx.1, if_pos hx.2, wrap_id (x := a + rd w s[i]) (by omega) (by omega), wrap_succ hi (by omega)]
theorem impl_wof (m : Int) (w s : List Int) (ok : okSet m w s) (hs : s.length ≤ 1048576) : Ev (fun k => impl_Weighting_of.f k m w s) (wsum w s % m) := by
  have := impl_wof_loop m w s ok hs s.length 0 0 (by omega) (by omega) (by omega)
  simp only [impl_Weighting_of.f]
  simpa using this

theorem impl_in (a b c : Int) : impl_within.f a b c = some (decide (b ≤ a) && decide (a ≤ c)) := by
  unfold impl_within.f; by_cases h : b ≤ a
  · rw [if_pos h]; simp [h]
  · rw [if_neg h]; simp [h]

theorem impl_coord (n : Int) : impl_isCoordinate.f n = some (decide (-100 ≤ n) && decide (n ≤ 100)) := by simp [impl_isCoordinate.f, impl_in]
theorem impl_cmp (a b : Int) : cmp_Compare_int64.f a b = some (if a < b then -1 else if a > b then 1 else 0) := by
  simp only [cmp_Compare_int64.f, cmp_isNaN_int64.f, Option.bind_some, bne_self_eq_false, Bool.false_eq_true, if_false]
  split
  · rfl
  · split <;> rfl
def cmpC (a b : S68) : Int := if a.f1 < b.f1 then -1 else if a.f1 > b.f1 then 1 else if a.f0 < b.f0 then -1 else if a.f0 > b.f0 then 1 else 0
theorem impl_compare (a b : S68) : impl_compareCells.f a.f0 a.f1 b.f0 b.f1 = some (cmpC a b) := by
  simp only [impl_compareCells.f, impl_cmp, Option.bind_some, cmpC]
  by_cases h1 : a.f1 < b.f1
  · simp [h1]
  · by_cases h2 : a.f1 > b.f1
    · simp [h1, h2]
    · simp [h1, h2]
theorem cmpC_less (a b : S68) : decide (cmpC a b < 0) = lessC a b := by
  unfold cmpC lessC
  by_cases h1 : a.f1 < b.f1
  · simp [h1]
  · by_cases h2 : a.f1 > b.f1
    · simp only [h1, h2, if_false, if_true]; simp; omega
    · have e : a.f1 = b.f1 := by omega
      by_cases h3 : a.f0 < b.f0
      · simp [e, h3]
      · by_cases h4 : a.f0 > b.f0 <;> simp [e, h3, h4]
theorem impl_shape_loop (l : List S68) (hl : l.length ≤ 9223372036854775807) : ∀ d i, i + d = l.length → Ev (fun k => impl_IsShape.l0 k l l (l.length : Int) (i : Int)) (shB (l.drop i) (prevC l i) && lenB l) := by
  intro d
  induction d with
  | zero =>
    intro i h
    rw [List.drop_eq_nil_of_le (by omega)]
    exact ev_const fun k => by
      simp only [impl_IsShape.l0]; rw [if_neg (by omega)]
      by_cases c : (l.length : Int) ≥ 1
      · rw [if_pos c]; simp only [shB, lenB, Bool.true_and, decide_eq_true c]
      · rw [if_neg c]; simp only [shB, lenB, Bool.true_and, decide_eq_false c, Bool.false_and]
  | succ d ih =>
    intro i h
    have hi : i < l.length := by omega
    rw [List.drop_eq_getElem_cons hi]
    simp only [shB]
    have step : ∀ k, impl_IsShape.l0 (k + 1) l l (l.length : Int) (i : Int) = if (coordB l[i] && nextB (prevC l i) l[i]) = true then impl_IsShape.l0 k l l (l.length : Int) ((i + 1 : Nat) : Int) else some false := fun k => by
      simp only [impl_IsShape.l0]
      rw [if_pos (by omega), if_pos (by omega), if_pos (by omega), rdc_nat l hi, wrap_succ hi hl, impl_coord, impl_coord]
      simp only [Option.bind_some]
      cases h1 : (decide (-100 ≤ l[i].f0) && decide (l[i].f0 ≤ 100)) with
      | false => simp [coordB, h1]
      | true =>
        cases h2 : (decide (-100 ≤ l[i].f1) && decide (l[i].f1 ≤ 100)) with
        | false => simp [coordB, h1, h2]
        | true =>
          have hc : coordB l[i] = true := by unfold coordB; rw [h1, h2]; rfl
          simp only [if_true, hc, Bool.true_and]
          by_cases z : i = 0
          · rw [if_neg (by omega), if_pos (by simp [prevC, z, nextB])]
          · have e : wrap64 ((i : Int) - 1) = ((i - 1 : Nat) : Int) := by unfold wrap64; omega
            rw [if_pos (by omega), e, if_pos (by omega), if_pos (by omega), rdc_nat l (by omega), impl_compare, prevC_pos l z hi]
            simp only [Option.bind_some, nextB, ← cmpC_less]
            by_cases q : cmpC l[i - 1] l[i] ≥ 0
            · rw [if_pos q, if_neg (by simp; omega)]
            · rw [if_neg q, if_pos (by simp; omega)]
    refine Ev.step step ?_
    cases q : (coordB l[i] && nextB (prevC l i) l[i]) with
    | true =>
      simp only [if_true]
      refine ev_eq (ih (i + 1) (by omega)) ?_
      rw [prevC_succ l hi]
      simp only [Bool.and_eq_true] at q
      rw [q.1, q.2]; simp
    | false =>
      simp only [Bool.false_eq_true, if_false]
      refine ev_eq (Ev.now _) ?_
      rw [← Bool.and_assoc, q]; simp
theorem impl_IsShape_ev (l : List S68) (hl : l.length ≤ 9223372036854775807) : Ev (fun k => impl_IsShape.f k l) (shapeB l) := by
  have := impl_shape_loop l hl l.length 0 (by omega)
  simpa [impl_IsShape.f, prevC, shapeB] using this

theorem impl_corner_loop (l : List S68) (hl : l.length ≤ 9223372036854775807) : ∀ d i (x y : Int), i + d = l.length → Ev (fun k => impl_corner.l0 k l (l.length : Int) (i : Int) x y) (foldMn (·.f0) (l.drop i) x, foldMn (·.f1) (l.drop i) y) := by
  intro d
  induction d with
  | zero =>
    intro i x y h
    rw [List.drop_eq_nil_of_le (by omega)]
    exact ev_const fun k => by simp only [impl_corner.l0]; rw [if_neg (by omega)]; rfl
  | succ d ih =>
    intro i x y h
    have hi : i < l.length := by omega
    rw [List.drop_eq_getElem_cons hi]
    refine Ev.step (f := fun k => impl_corner.l0 k l (l.length : Int) ((i + 1 : Nat) : Int) (mn x l[i].f0) (mn y l[i].f1)) (fun k => ?_) (ih (i + 1) _ _ (by omega))
    simp only [impl_corner.l0]
    rw [if_pos (by omega), if_pos (by omega), if_pos (by omega), rdc_nat l hi, wrap_succ hi hl]
theorem impl_corner_ev (l : List S68) (hl : l.length ≤ 9223372036854775807) (h0 : 0 < l.length) : Ev (fun k => impl_corner.f k l) (leastX l, leastY l) := by
  have := impl_corner_loop l hl l.length 0 (hd0 l).f0 (hd0 l).f1 (by omega)
  simp only [impl_corner.f, if_pos (show 0 < (l.length : Int) by omega)]
  rw [List.drop_zero] at this
  exact this

theorem impl_reach_loop (l : List S68) (hl : l.length ≤ 9223372036854775807) : ∀ d i (x y : Int), i + d = l.length → Ev (fun k => impl_reach.l0 k l (l.length : Int) (i : Int) x y) (foldMx (·.f0) (l.drop i) x, foldMx (·.f1) (l.drop i) y) := by
  intro d
  induction d with
  | zero =>
    intro i x y h
    rw [List.drop_eq_nil_of_le (by omega)]
    exact ev_const fun k => by simp only [impl_reach.l0]; rw [if_neg (by omega)]; rfl
  | succ d ih =>
    intro i x y h
    have hi : i < l.length := by omega
    rw [List.drop_eq_getElem_cons hi]
    refine Ev.step (f := fun k => impl_reach.l0 k l (l.length : Int) ((i + 1 : Nat) : Int) (mx x l[i].f0) (mx y l[i].f1)) (fun k => ?_) (ih (i + 1) _ _ (by omega))
    simp only [impl_reach.l0]
    rw [if_pos (by omega), if_pos (by omega), if_pos (by omega), rdc_nat l hi, wrap_succ hi hl]
theorem impl_reach_ev (l : List S68) (hl : l.length ≤ 9223372036854775807) (h0 : 0 < l.length) : Ev (fun k => impl_reach.f k l) (foldMx (·.f0) l (hd0 l).f0, foldMx (·.f1) l (hd0 l).f1) := by
  have := impl_reach_loop l hl l.length 0 (hd0 l).f0 (hd0 l).f1 (by omega)
  simp only [impl_reach.f, if_pos (show 0 < (l.length : Int) by omega)]
  rw [List.drop_zero] at this
  exact this

theorem reach_iff (g : S68 → Int) (l : List S68) (h0 : 0 < l.length) : decide (foldMx g l (g (hd0 l)) < 20) = l.all (fun c => decide (g c < 20)) := by
  have h := foldMx_iff g 19 l (g (hd0 l))
  rw [Bool.eq_iff_iff, decide_eq_true_eq, List.all_eq_true]
  constructor
  · intro q c hc
    have := (h.mp (by omega)).2 c hc
    simp only [decide_eq_true_eq]; omega
  · intro q
    have : foldMx g l (g (hd0 l)) ≤ 19 := h.mpr ⟨by have := q _ (hd0_mem h0); simp only [decide_eq_true_eq] at this; omega, fun c hc => by have := q c hc; simp only [decide_eq_true_eq] at this; omega⟩
    omega
theorem impl_IsRegion_ev (l : List S68) (hl : l.length ≤ 9223372036854775807) : Ev (fun k => impl_IsRegion.f k l) (regionB l) := by
  simp only [impl_IsRegion.f]
  refine Ev.bind (impl_IsShape_ev l hl) ?_
  unfold regionB
  cases hs : shapeB l with
  | false => simpa using Ev.now false
  | true =>
    obtain ⟨p1, p2, p3⟩ := shapeB_parts hs
    simp only [if_true, Bool.true_and]
    refine Ev.bind (impl_corner_ev l hl p1) ?_
    by_cases c1 : leastX l = 0
    · by_cases c2 : leastY l = 0
      · have q : ¬ ((!(leastX l == 0) || !(leastY l == 0)) = true) := by simp [c1, c2]
        simp only [if_neg q]
        refine Ev.bind (impl_reach_ev l hl p1) ?_
        have e1 : decide (foldMx (·.f0) l (hd0 l).f0 < 20) = l.all (fun c => decide (c.f0 < 20)) := reach_iff (·.f0) l p1
        have e2 : decide (foldMx (·.f1) l (hd0 l).f1 < 20) = l.all (fun c => decide (c.f1 < 20)) := reach_iff (·.f1) l p1
        rw [← e1, ← e2]
        by_cases c3 : foldMx (·.f0) l (hd0 l).f0 < 20
        · simp only [if_pos c3]; refine ev_eq (Ev.now _) ?_; rw [decide_eq_true c1, decide_eq_true c2, decide_eq_true c3]; simp only [Bool.true_and]
        · simp only [if_neg c3]; refine ev_eq (Ev.now _) ?_; rw [decide_eq_false c3]; simp only [Bool.false_and, Bool.and_false]
      · have q : (!(leastX l == 0) || !(leastY l == 0)) = true := by simp [c2]
        simp only [if_pos q]; refine ev_eq (Ev.now _) ?_; simp [c2]
    · have q : (!(leastX l == 0) || !(leastY l == 0)) = true := by simp [c1]
      simp only [if_pos q]; refine ev_eq (Ev.now _) ?_; simp [c1]

theorem anyM_ev {α : Type} (p : Nat → α → Option Bool) (q : α → Bool) : ∀ l : List α, (∀ x ∈ l, Ev (fun k => p k x) (q x)) → Ev (fun k => anyM (p k) l) (l.any q)
  | [], _ => by simpa [anyM] using Ev.now false
  | x :: xs, h => by
    simp only [anyM, List.any_cons]
    refine Ev.bind (h x (List.mem_cons_self ..)) ?_
    cases c : q x with
    | true => simpa using Ev.now true
    | false => simpa using anyM_ev p q xs (fun y hy => h y (List.mem_cons_of_mem _ hy))
theorem anyM_some {α : Type} (p : α → Option Bool) (q : α → Bool) : ∀ l : List α, (∀ x ∈ l, p x = some (q x)) → anyM p l = some (l.any q)
  | [], _ => rfl
  | x :: xs, h => by
    simp only [anyM, List.any_cons, h x (List.mem_cons_self ..), Option.bind_some]
    cases c : q x with
    | true => simp
    | false => simpa using anyM_some p q xs (fun y hy => h y (List.mem_cons_of_mem _ hy))

theorem impl_weights (l : List S68) (m : Int) (w : List Int) : impl_isWeighting.f l m w = some (weightB l.length m w) := by
  simp only [impl_isWeighting.f, impl_isModulus.f, impl_in, Option.bind_some, weightB]
  cases (decide (2 ≤ m) && decide (m ≤ 6)) with
  | false => simp
  | true =>
    simp only [if_true, Bool.true_and]
    by_cases c : (w.length : Int) = (l.length : Int)
    · rw [if_pos c, anyM_some _ (fun x => !(decide (0 ≤ x) && decide (x ≤ wrap64 (m - 1)))) w (fun x _ => by simp only [impl_isWeighting_1.f, impl_in, Option.bind_some])]
      simp only [Option.bind_some, decide_eq_true c, Bool.true_and, List.any_eq_not_all_not, Bool.not_not]
    · rw [if_neg c, decide_eq_false c]; simp

theorem impl_rises_loop (l : List Int) (n : Int) (hl : l.length ≤ 9223372036854775807) : ∀ d i, i + d = l.length →
    Ev (fun k => impl_isIncreasing.l0 k l n l (l.length : Int) (i : Int)) (risesB (wrap64 (n - 1)) (l.drop i) (prevOf l i)) := by
  intro d
  induction d with
  | zero =>
    intro i h
    rw [rises_end _ _ (by omega)]
    exact ev_const fun k => by simp only [impl_isIncreasing.l0]; rw [if_neg (by omega)]
  | succ d ih =>
    intro i h
    have hi : i < l.length := by omega
    have step : ∀ k, impl_isIncreasing.l0 (k + 1) l n l (l.length : Int) (i : Int) = if (decide (0 ≤ l[i]) && decide (l[i] ≤ wrap64 (n - 1))) = true then (if decide (prevOf l i < l[i]) = true ∨ i = 0 then impl_isIncreasing.l0 k l n l (l.length : Int) ((i + 1 : Nat) : Int) else some false) else some false := fun k => by
      simp only [impl_isIncreasing.l0]
      rw [if_pos (by omega), if_pos (by omega), if_pos (by omega), rd_nat l hi, impl_in]
      simp only [Option.bind_some, wrap_succ hi hl]
      by_cases c : (decide (0 ≤ l[i]) && decide (l[i] ≤ wrap64 (n - 1))) = true
      · rw [if_pos c, if_pos c]
        by_cases z : i = 0
        · rw [if_neg (by omega), if_pos (.inr z)]
        · have e : wrap64 ((i : Int) - 1) = ((i - 1 : Nat) : Int) := by unfold wrap64; omega
          have p : prevOf l i = l[i - 1] := by simp [prevOf, z, List.getD_eq_getElem?_getD, List.getElem?_eq_getElem (show i - 1 < l.length by omega)]
          rw [if_pos (by omega), e, if_pos (by omega), if_pos (by omega), rd_nat l (by omega), p]
          by_cases q : l[i] ≤ l[i - 1]
          · rw [if_pos q, if_neg (by simp [z]; omega)]
          · rw [if_neg q, if_pos (.inl (by simp; omega))]
      · rw [if_neg c, if_neg c]
    rw [rises_next _ _ hi]
    refine Ev.step step ?_
    by_cases c : (decide (0 ≤ l[i]) && decide (l[i] ≤ wrap64 (n - 1))) = true
    · simp only [if_pos c]
      by_cases q : decide (prevOf l i < l[i]) = true ∨ i = 0
      · simp only [if_pos q]
        refine ev_eq (ih (i + 1) (by omega)) ?_
        have q' : decide (prevOf l i < l[i]) = true := q.elim id fun z => by
          subst z
          simp only [Bool.and_eq_true, decide_eq_true_eq] at c
          simp [prevOf]; omega
        rw [c, q']; simp
      · simp only [if_neg q]
        refine ev_eq (Ev.now _) ?_
        rw [show decide (prevOf l i < l[i]) = false by simp only [not_or] at q; simpa using q.1]; simp
    · simp only [if_neg c]
      refine ev_eq (Ev.now _) ?_
      simp only [Bool.not_eq_true] at c
      rw [c]; simp
theorem impl_rises (l : List Int) (n : Int) (hl : l.length ≤ 9223372036854775807) : Ev (fun k => impl_isIncreasing.f k l n) (risesB (wrap64 (n - 1)) l (-1)) := by
  have := impl_rises_loop l n hl l.length 0 (by omega)
  simpa [impl_isIncreasing.f, prevOf] using this

theorem impl_WeightOfSet_ev (l : List S68) (m : Int) (w s : List Int) (hl : l.length ≤ 9223372036854775807) (hs : s.length ≤ 1048576) : Ev (fun k => impl_WeightOfSet.f k l m w s) (wofB (regionB l) l.length m w s) := by
  simp only [impl_WeightOfSet.f, impl_weights, Option.bind_some]
  refine Ev.bind (impl_IsRegion_ev _ hl) ?_
  unfold wofB
  cases c1 : regionB l with
  | false => simpa using Ev.now _
  | true =>
    simp only [if_true]
    cases c2 : weightB l.length m w with
    | false => simpa using Ev.now _
    | true =>
      simp only [if_true]
      refine Ev.bind (impl_rises s (l.length : Int) (by omega)) ?_
      cases c3 : risesB (wrap64 ((l.length : Int) - 1)) s (-1) with
      | false => simpa using Ev.now _
      | true => simp only [if_true]; exact Ev.bind (impl_wof m w s (okSet_of c2 (by have := regionB_parts c1; omega) c3) hs) (Ev.now _)

def zipAdd (m : Int) (v w : List Int) : List Int := List.zipWith (fun a b => (a + b) % m) v w
def addB (rg : Bool) (n : Nat) (m : Int) (v : List Int) (m2 : Int) (w : List Int) : Int × List Int × Int :=
  if rg then (if weightB n m v then (if weightB n m2 w then (if m = m2 then (m, zipAdd m v w, 0) else (0, [], 2)) else (0, [], 2)) else (0, [], 2)) else (0, [], 1)
def okW (n : Nat) (m : Int) (w : List Int) : Prop := (2 ≤ m ∧ m ≤ 6) ∧ w.length = n ∧ ∀ x ∈ w, 0 ≤ x ∧ x ≤ 5
theorem okW_of {n : Nat} {m : Int} {w : List Int} (h : weightB n m w = true) : okW n m w := by
  simp only [weightB, Bool.and_eq_true, decide_eq_true_eq, List.all_eq_true] at h
  obtain ⟨⟨h1, h2⟩, h3, h4⟩ := h
  refine ⟨⟨h1, h2⟩, by omega, fun x hx => ?_⟩
  have := h4 x hx
  rw [wrap_id (by omega) (by omega)] at this
  omega
theorem zipAdd_len (m : Int) (v w : List Int) : (zipAdd m v w).length ≤ v.length := by simp [zipAdd]; omega
theorem addB_len (rg : Bool) (n : Nat) (m : Int) (v : List Int) (m2 : Int) (w : List Int) : (addB rg n m v m2 w).2.1.length ≤ v.length := by
  unfold addB
  repeat' split
  all_goals first | exact zipAdd_len m v w | simp
theorem zipAdd_snoc (m : Int) (v w : List Int) {i : Nat} (hv : i < v.length) (hw : i < w.length) : (zipAdd m v w).take (i + 1) = (zipAdd m v w).take i ++ [(v[i] + w[i]) % m] := by
  have h : i < (zipAdd m v w).length := by simp [zipAdd]; omega
  rw [List.take_succ_eq_append_getElem h]
  simp [zipAdd]
theorem add_word {n : Nat} {m : Int} {v w : List Int} (hv : okW n m v) (hw : okW n m w) {i : Nat} (h : i < n) (h1 : i < v.length) (h2 : i < w.length) : Int.tmod (wrap64 (rd v (i : Int) + rd w (i : Int))) m = (v[i] + w[i]) % m := by
  have a := hv.2.2 _ (List.getElem_mem h1)
  have b := hw.2.2 _ (List.getElem_mem h2)
  rw [rd_nat v h1, rd_nat w h2, wrap_id (by omega) (by omega), Int.tmod_eq_emod_of_nonneg (by omega)]

theorem spec_add_loop (l : List S68) (m : Int) (v w : List Int) (hv : okW l.length m v) (hw : okW l.length m w) (hl : l.length ≤ 1048576) : ∀ d i, i + d = l.length → Ev (fun k => spec_AddWeightings.l0 k l ((zipAdd m v w).take i) (i : Int) m v m w) (m, zipAdd m v w, 0) := by
  intro d
  induction d with
  | zero =>
    intro i h
    have e : (zipAdd m v w).take i = zipAdd m v w := List.take_of_length_le (by have := zipAdd_len m v w; have := hv.2.1; omega)
    rw [e]
    exact ev_const fun k => by simp only [spec_AddWeightings.l0]; rw [if_neg (by omega)]
  | succ d ih =>
    intro i h
    have h1 : i < v.length := by have := hv.2.1; omega
    have h2 : i < w.length := by have := hw.2.1; omega
    have hm := hv.1
    refine Ev.step (f := fun k => spec_AddWeightings.l0 k l ((zipAdd m v w).take (i + 1)) ((i + 1 : Nat) : Int) m v m w) (fun k => ?_) (ih (i + 1) (by omega))
    simp only [spec_AddWeightings.l0]
    rw [if_pos (by omega), if_pos (by omega), if_pos (by omega), if_pos (by omega), if_neg (by omega), if_pos (by simp; omega), add_word hv hw (by omega) h1 h2, ← zipAdd_snoc m v w h1 h2, wrap_succ h1 (by have := hv.2.1; omega)]
theorem spec_add_ev (l : List S68) (m m2 : Int) (v w : List Int) (hl : l.length ≤ 1048576) (hv : v.length ≤ 9223372036854775807) (hw : w.length ≤ 9223372036854775807) : Ev (fun k => spec_AddWeightings.f k l m v m2 w) (addB (regionB l) l.length m v m2 w) := by
  have hj : Ev (fun k => spec_AddWeightings.j0 k l true m v m2 w) (0, [], 2) := ev_const fun k => by simp only [spec_AddWeightings.j0, if_true]
  simp only [spec_AddWeightings.f]
  refine Ev.bind (spec_IsRegion_ev _ (by omega)) ?_
  unfold addB
  cases c1 : regionB l with
  | false => simpa using Ev.now _
  | true =>
    simp only [if_true]
    refine Ev.bind (spec_weights _ m v hv) ?_
    cases c2 : weightB l.length m v with
    | false => simpa using hj
    | true =>
      simp only [if_true]
      refine Ev.bind (spec_weights _ m2 w hw) ?_
      cases c3 : weightB l.length m2 w with
      | false => simpa using hj
      | true =>
        simp only [if_true]
        by_cases c : m = m2
        · subst c
          rw [if_pos rfl]
          refine Ev.step (f := fun k => spec_AddWeightings.l0 k l [] 0 m v m w) (fun k => by simp only [spec_AddWeightings.j0, bne_self_eq_false, Bool.false_eq_true, if_false]) ?_
          simpa using spec_add_loop l m v w (okW_of c2) (okW_of c3) hl l.length 0 (by omega)
        · rw [if_neg c]
          have : (m != m2) = true := bne_iff_ne.mpr c
          rw [this]
          exact hj

theorem impl_add_loop (n : Nat) (m m2 : Int) (v w : List Int) (hv : okW n m v) (hw : okW n m w) (hl : n ≤ 1048576) : ∀ d i, i + d = v.length → Ev (fun k => impl_AddWeightings.l0 k v (v.length : Int) (i : Int) m v m2 w m ((zipAdd m v w).take i)) (m, zipAdd m v w, 0) := by
  intro d
  induction d with
  | zero =>
    intro i h
    have e : (zipAdd m v w).take i = zipAdd m v w := List.take_of_length_le (by have := zipAdd_len m v w; have := hv.2.1; omega)
    rw [e]
    exact ev_const fun k => by simp only [impl_AddWeightings.l0]; rw [if_neg (by omega)]
  | succ d ih =>
    intro i h
    have h1 : i < v.length := by omega
    have h2 : i < w.length := by have := hw.2.1; have := hv.2.1; omega
    have hm := hv.1
    refine Ev.step (f := fun k => impl_AddWeightings.l0 k v (v.length : Int) ((i + 1 : Nat) : Int) m v m2 w m ((zipAdd m v w).take (i + 1))) (fun k => ?_) (ih (i + 1) (by omega))
    simp only [impl_AddWeightings.l0]
    rw [if_pos (by omega), if_pos (by omega), if_pos (by omega), if_pos (by omega), if_neg (by omega), if_pos (by have := hv.2.1; simp; omega), add_word hv hw (by have := hv.2.1; omega) h1 h2, ← zipAdd_snoc m v w h1 h2, wrap_succ h1 (by have := hv.2.1; omega)]
theorem impl_add_ev (l : List S68) (m m2 : Int) (v w : List Int) (hl : l.length ≤ 1048576) : Ev (fun k => impl_AddWeightings.f k l m v m2 w) (addB (regionB l) l.length m v m2 w) := by
  have hj : Ev (fun k => impl_AddWeightings.j0 k true m v m2 w) (0, [], 2) := ev_const fun k => by simp only [impl_AddWeightings.j0, if_true]
  simp only [impl_AddWeightings.f, impl_weights, Option.bind_some]
  refine Ev.bind (impl_IsRegion_ev _ (by omega)) ?_
  unfold addB
  cases c1 : regionB l with
  | false => simpa using Ev.now _
  | true =>
    simp only [if_true]
    cases c2 : weightB l.length m v with
    | false => simpa using hj
    | true =>
      simp only [if_true]
      cases c3 : weightB l.length m2 w with
      | false => simpa using hj
      | true =>
        simp only [if_true]
        by_cases c : m = m2
        · subst c
          rw [if_pos rfl]
          refine Ev.step (f := fun k => impl_AddWeightings.l0 k v (v.length : Int) 0 m v m w m []) (fun k => by simp only [impl_AddWeightings.j0, bne_self_eq_false, Bool.false_eq_true, if_false]) ?_
          simpa using impl_add_loop l.length m m v w (okW_of c2) (okW_of c3) hl v.length 0 (by omega)
        · rw [if_neg c]
          have : (m != m2) = true := bne_iff_ne.mpr c
          rw [this]
          exact hj


theorem is_ev (l : List S68) (m : Int) (w : List Int) (hl : l.length ≤ 9223372036854775807) (hw : w.length ≤ 9223372036854775807) : Ev (fun k => spec_IsWeighting.f k l m w) (regionB l && weightB l.length m w) ∧ Ev (fun k => impl_IsWeighting.f k l m w) (regionB l && weightB l.length m w) := by
  constructor
  · simp only [spec_IsWeighting.f]
    refine Ev.bind (spec_IsRegion_ev _ hl) ?_
    cases regionB l with
    | false => simpa using Ev.now false
    | true => simp only [if_true, Bool.true_and]; exact Ev.bind (spec_weights _ m w hw) (Ev.now _)
  · simp only [impl_IsWeighting.f, impl_weights, Option.bind_some]
    refine Ev.bind (impl_IsRegion_ev _ hl) ?_
    cases regionB l with
    | false => simpa using Ev.now false
    | true => simp only [if_true, Bool.true_and]; exact Ev.now _
/-- All places. -/
def allI (n : Nat) : List Int := (List.range n).map fun (i : Nat) => (i : Int)
theorem allI_len (n : Nat) : (allI n).length = n := by simp [allI]
theorem allI_succ (n : Nat) : allI (n + 1) = allI n ++ [(n : Int)] := by simp [allI, List.range_succ]
theorem rises_all (n : Nat) : ∀ (d i : Nat) (p : Int), i + d = n → p < (i : Int) → risesB ((n : Int) - 1) ((allI n).drop i) p = true := by
  intro d
  induction d with
  | zero => intro i p h _; rw [List.drop_eq_nil_of_le (by rw [allI_len]; omega)]; rfl
  | succ d ih =>
    intro i p h hp
    have hi : i < (allI n).length := by rw [allI_len]; omega
    have e : (allI n)[i] = (i : Int) := by simp [allI]
    rw [List.drop_eq_getElem_cons hi, e]
    simp only [risesB, Bool.and_eq_true, decide_eq_true_eq]
    exact ⟨⟨⟨by omega, by omega⟩, hp⟩, ih (i + 1) (i : Int) (by omega) (by omega)⟩
theorem wsum_app (w : List Int) : ∀ (s : List Int) (x : Int), wsum w (s ++ [x]) = wsum w s + rd w x
  | [], x => by simp [wsum]
  | y :: s, x => by simp only [List.cons_append, wsum, wsum_app w s x]; omega
theorem wsum_zip {m : Int} {v w : List Int} (hm : 0 < m) (hl : v.length = w.length) : ∀ n, n ≤ v.length → wsum (zipAdd m v w) (allI n) % m = (wsum v (allI n) + wsum w (allI n)) % m
  | 0, _ => by simp [allI, wsum]
  | n + 1, h => by
    have ih := wsum_zip hm hl n (by omega)
    have hz : n < (zipAdd m v w).length := by simp [zipAdd]; omega
    have h1 : n < v.length := by omega
    have h2 : n < w.length := by omega
    rw [allI_succ, wsum_app, wsum_app, wsum_app, rd_nat _ hz, rd_nat _ h1, rd_nat _ h2]
    have e : (zipAdd m v w)[n] = (v[n] + w[n]) % m := by simp [zipAdd]
    rw [e]
    have e2 : (wsum (zipAdd m v w) (allI n) + (v[n] + w[n]) % m) % m = (wsum (zipAdd m v w) (allI n) + (v[n] + w[n])) % m := Int.add_emod_emod _ _ _
    have e3 : (wsum (zipAdd m v w) (allI n) + (v[n] + w[n])) % m = (wsum (zipAdd m v w) (allI n) % m + (v[n] + w[n])) % m := (Int.emod_add_emod _ _ _).symm
    rw [e2, e3, ih, Int.emod_add_emod]
    congr 1
    omega
theorem sums_loop (l : List S68) (m : Int) (v w : List Int) (hr : regionB l = true) (hv : weightB l.length m v = true) (hw : weightB l.length m w = true) (hx : weightB l.length m (zipAdd m v w) = true) : ∀ d i, i + d = l.length → Ev (fun k => laws_FnWeightSums.l0 k l (allI i) (i : Int) m v m w m (zipAdd m v w)) true := by
  have h40 := regionB_parts hr
  have kv := okW_of hv
  have kw := okW_of hw
  intro d
  induction d with
  | zero =>
    intro i h
    obtain rfl : i = l.length := by omega
    have hl : l.length ≤ 9223372036854775807 := by omega
    have hs : (allI l.length).length ≤ 1048576 := by rw [allI_len]; omega
    have hri : risesB (wrap64 ((l.length : Int) - 1)) (allI l.length) (-1) = true := by
      rw [wrap_id (by omega) (by omega)]
      have := rises_all l.length l.length 0 (-1) (by omega) (by omega)
      rwa [List.drop_zero] at this
    have e1 : ∀ u, weightB l.length m u = true → wofB (regionB l) l.length m u (allI l.length) = (wsum u (allI l.length) % m, 0) := fun u hu => by
      unfold wofB; rw [if_pos hr, if_pos hu, if_pos hri]
    have p1 := impl_WeightOfSet_ev l m v (allI l.length) hl hs
    have p2 := impl_WeightOfSet_ev l m w (allI l.length) hl hs
    have p3 := impl_WeightOfSet_ev l m (zipAdd m v w) (allI l.length) hl hs
    rw [e1 v hv] at p1
    rw [e1 w hw] at p2
    rw [e1 _ hx] at p3
    refine Ev.step (fun k => by simp only [laws_FnWeightSums.l0]; rw [if_neg (by omega)]) (Ev.bind p1 (Ev.bind p2 (Ev.bind p3 ?_)))
    have hm := kv.1
    simp only [if_true, if_neg (show ¬ m = 0 by omega)]
    refine ev_eq (Ev.now _) ?_
    have b1 : 0 ≤ wsum v (allI l.length) % m := Int.emod_nonneg _ (by omega)
    have b2 : wsum v (allI l.length) % m < m := Int.emod_lt_of_pos _ (by omega)
    have b3 : 0 ≤ wsum w (allI l.length) % m := Int.emod_nonneg _ (by omega)
    have b4 : wsum w (allI l.length) % m < m := Int.emod_lt_of_pos _ (by omega)
    rw [beq_iff_eq, wrap_id (x := wsum v (allI l.length) % m + wsum w (allI l.length) % m) (by omega) (by omega), Int.tmod_eq_emod_of_nonneg (by omega), ← Int.add_emod]
    exact wsum_zip (by omega) (by rw [kv.2.1, kw.2.1]) l.length (by rw [kv.2.1]; exact Nat.le_refl _)
  | succ d ih =>
    intro i h
    have hi : i < l.length := by omega
    refine Ev.step (fun k => ?_) (ih (i + 1) (by omega))
    simp only [laws_FnWeightSums.l0]
    rw [if_pos (by omega), if_pos (by rw [allI_len]; omega), wrap_succ hi (by omega), allI_succ]
theorem zip_ok {n : Nat} {m : Int} {v w : List Int} (hv : weightB n m v = true) (hw : weightB n m w = true) : weightB n m (zipAdd m v w) = true := by
  have kv := okW_of hv
  have kw := okW_of hw
  have hm := kv.1
  unfold weightB
  simp only [Bool.and_eq_true, decide_eq_true_eq, List.all_eq_true]
  refine ⟨⟨hm.1, hm.2⟩, by simp only [zipAdd, List.length_zipWith]; rw [kv.2.1, kw.2.1]; omega, fun x hx => ?_⟩
  obtain ⟨i, hi, rfl⟩ := List.mem_iff_getElem.1 hx
  have e : (zipAdd m v w)[i] = (v[i]'(by simp [zipAdd] at hi; omega) + w[i]'(by simp [zipAdd] at hi; omega)) % m := by simp [zipAdd]
  rw [e, wrap_id (by omega) (by omega)]
  have b1 : 0 ≤ (v[i]'(by simp [zipAdd] at hi; omega) + w[i]'(by simp [zipAdd] at hi; omega)) % m := Int.emod_nonneg _ (by omega)
  have b2 : (v[i]'(by simp [zipAdd] at hi; omega) + w[i]'(by simp [zipAdd] at hi; omega)) % m < m := Int.emod_lt_of_pos _ (by omega)
  omega
theorem pure : laws_FnWeightSums.Pure := by
  intro L ⟨hL, hw⟩
  refine Ev.rounds (r := true) ?_
  simp only [laws_FnWeightSums.f, laws_big.f, Option.bind_some]
  by_cases c0 : (L.length : Int) > 4096
  · simp only [decide_eq_true c0, if_true]; exact Ev.now _
  simp only [decide_eq_false c0, Bool.false_eq_true, if_false]
  have hb : ∀ x ∈ L, 0 ≤ x ∧ x ≤ 255 := fun x hx => byte_of (hw x hx)
  obtain ⟨⟨l, m, v, m2, w⟩, hA, ha1, ha2, ha3⟩ := drawAdd L (by omega) hb
  obtain ⟨⟨l1, n1, u1, s1⟩, hS, hs1, hs2, hs3⟩ := drawSetW L (by omega) hb
  obtain ⟨⟨l2, n2, u2⟩, hI, hi1, hi2⟩ := drawIsW L (by omega) hb
  replace ha1 : l.length ≤ 60 := ha1
  replace ha2 : v.length ≤ 61 := ha2
  replace ha3 : w.length ≤ 61 := ha3
  replace hs1 : l1.length ≤ 60 := hs1
  replace hs2 : u1.length ≤ 61 := hs2
  replace hs3 : s1.length ≤ 61 := hs3
  replace hi1 : l2.length ≤ 60 := hi1
  replace hi2 : u2.length ≤ 61 := hi2
  obtain ⟨is1, is2⟩ := is_ev l2 n2 u2 (by omega) (by omega)
  have hlen := addB_len (regionB l) l.length m v m2 w
  refine Ev.bind hA (Ev.bind (impl_add_ev l m m2 v w (by omega)) (Ev.bind (spec_add_ev l m m2 v w (by omega) (by omega) (by omega)) (Ev.bind hS (Ev.bind (impl_WeightOfSet_ev l1 n1 u1 s1 (by omega) (by omega)) (Ev.bind (spec_WeightOfSet_ev l1 n1 u1 s1 (by omega) (by omega) (by omega)) (Ev.bind hI ?_))))))
  simp only [if_true]
  refine Ev.bind (likeInts _ (by omega)) ?_
  simp only [if_true]
  refine Ev.bind is2 (Ev.bind is1 ?_)
  simp only [bne_self_eq_false, Bool.false_eq_true, if_false]
  by_cases c : (addB (regionB l) l.length m v m2 w).2.2 = 0
  · simp only [if_pos c]
    unfold addB at c ⊢
    cases c1 : regionB l with
    | false => rw [c1] at c; simp at c
    | true =>
      rw [c1] at c
      simp only [if_true] at c ⊢
      cases c2 : weightB l.length m v with
      | false => rw [c2] at c; simp at c
      | true =>
        rw [c2] at c
        simp only [if_true] at c ⊢
        cases c3 : weightB l.length m2 w with
        | false => rw [c3] at c; simp at c
        | true =>
          rw [c3] at c
          simp only [if_true] at c ⊢
          by_cases c4 : m = m2
          · subst c4
            simp only [if_true]
            exact sums_loop l m v w c1 c2 c3 (zip_ok c2 c3) l.length 0 (by omega)
          · rw [if_neg c4] at c; simp at c
  · simp only [if_neg c]; exact Ev.now true

end Go.Proofs.Ytpnlidfebnkgmaa.XFnWeightSums
namespace Go.Proofs.Ytpnlidfebnkgmaa
/-- The law FnWeightSums returns true at every code: what it draws is small, and sums of weights add up. Conditions: none. -/
theorem fnWeightSums_holds : Rows.FnWeightSumsSaid := fnWeightSums.of_pure XFnWeightSums.pure
#print axioms fnWeightSums_holds
end Go.Proofs.Ytpnlidfebnkgmaa
