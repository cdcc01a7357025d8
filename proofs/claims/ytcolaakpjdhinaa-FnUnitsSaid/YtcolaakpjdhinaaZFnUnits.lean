/- The law FnUnits returns true at every code: what it draws is small, and unit literals are open. Conditions: none. -/
import Derived.Test.YtcolaakpjdhinaaXRFnUnits
namespace Go.Proofs.Ytcolaakpjdhinaa.XFnUnits
open Go.RowKit Go.Proofs.YtcolaakpjdhinaaW.PrintWords Go.Proofs.YtcolaakpjdhinaaW.PrintLast Go.Proofs.YtcolaakpjdhinaaW.PrintMore Go.Proofs.Ytcolaakpjdhinaa.U
set_option linter.unusedVariables false
set_option linter.unusedSimpArgs false

theorem wrap_succ {i n : Nat} (h : i < n) (hn : n ≤ 9223372036854775807) : wrap64 ((i : Int) + 1) = ((i + 1 : Nat) : Int) := by
  unfold wrap64; omega
theorem wrap_id {x : Int} (h0 : -9223372036854775808 ≤ x) (h1 : x ≤ 9223372036854775807) : wrap64 x = x := by
  unfold wrap64; omega
theorem rd_nat (l : List Int) {i : Nat} (h : i < l.length) : rd l (i : Int) = l[i] := by
  simp [rd, List.getD_eq_getElem?_getD, List.getElem?_eq_getElem h]
theorem ev_true {g : Nat → Option Bool} {r : Bool} (h : ∀ k, g (k + 1) = some r) : Ev g r := Ev.step (f := fun _ => some r) h (Ev.now r)
theorem ev_const {α : Type} {g : Nat → Option α} {r : α} (h : ∀ k, g (k + 1) = some r) : Ev g r := Ev.step (f := fun _ => some r) h (Ev.now r)
theorem ev_eq {α : Type} {g : Nat → Option α} {r r' : α} (h : Ev g r) (e : r = r') : Ev g r' := e ▸ h
theorem wf64 {x : Int} (h : (Lit.int .i64 x).wf = true) : -9223372036854775808 ≤ x ∧ x ≤ 9223372036854775807 := by
  simp only [Lit.wf, IntKind.min, IntKind.max, IntKind.signed, IntKind.bits, Bool.and_eq_true, decide_eq_true_eq] at h
  simpa using h

/-- A source of draws: a code, how far it is read, and the number that is carried on. -/
def Src (L : List Int) (p z : Int) : Prop := (L.length ≤ 4096 ∧ ∀ x ∈ L, 0 ≤ x ∧ x ≤ 255) ∧ (0 ≤ p ∧ p ≤ (L.length : Int)) ∧ 0 ≤ z ∧ z < 2147483647
theorem byte_of {x : Int} (h : (Lit.int .u8 x).wf = true) : 0 ≤ x ∧ x ≤ 255 := by
  simp only [Lit.wf, IntKind.min, IntKind.max, IntKind.signed, IntKind.bits, Bool.and_eq_true, decide_eq_true_eq] at h
  simpa using h
theorem rd_mem {L : List Int} {p : Int} (h0 : 0 ≤ p) (h1 : p < (L.length : Int)) : rd L p ∈ L := by
  have h : p.toNat < L.length := by omega
  show L.getD p.toNat 0 ∈ L
  rw [List.getD_eq_getElem?_getD, List.getElem?_eq_getElem h]; exact List.getElem_mem h
theorem src_z {z : Int} (h0 : 0 ≤ z) (h1 : z < 2147483647) (m c : Int) (hm : 0 ≤ m ∧ m ≤ 100000) (hc : 0 ≤ c ∧ c ≤ 1000) : 0 ≤ Int.tmod (wrap64 ((wrap64 (z * m)) + c)) 2147483647 ∧ Int.tmod (wrap64 ((wrap64 (z * m)) + c)) 2147483647 < 2147483647 := by
  have h2 : z * m ≤ 2147483647 * 100000 := Int.mul_le_mul (by omega) hm.2 hm.1 (by omega)
  have h3 : 0 ≤ z * m := Int.mul_nonneg h0 hm.1
  rw [wrap_id (x := z * m) (by omega) (by omega), wrap_id (by omega) (by omega), Int.tmod_eq_emod_of_nonneg (by omega)]
  omega
theorem tmod_rng {x n : Int} (hx : 0 ≤ x) (hn : 1 < n) : 0 ≤ Int.tmod x n ∧ Int.tmod x n < n := ⟨Int.tmod_nonneg _ hx, Int.tmod_lt_of_pos _ (by omega)⟩
theorem src_next {L : List Int} {p z : Int} (h : Src L p z) (n : Int) : ∃ r p' z', spec_l01Next.f L p z n = some (r, p', z') ∧ Src L p' z' ∧ 0 ≤ r ∧ (1 < n → r < n) ∧ (n ≤ 1 → r = 0) := by
  obtain ⟨⟨h1, h2⟩, ⟨h3, h4⟩, h5, h6⟩ := h
  have hz := src_z h5 h6 48271 29 (by omega) (by omega)
  simp only [spec_l01Next.f]
  by_cases c : n ≤ 1
  · rw [if_pos c]; exact ⟨0, p, z, rfl, ⟨⟨h1, h2⟩, ⟨h3, h4⟩, h5, h6⟩, Int.le_refl _, fun h => absurd h (by omega), fun _ => rfl⟩
  rw [if_neg c]
  generalize Int.tmod (wrap64 ((wrap64 (z * 48271)) + 29)) 2147483647 = z2 at hz
  have hd : 0 ≤ Int.tdiv z2 31 ∧ Int.tdiv z2 31 ≤ z2 := by rw [Int.tdiv_eq_ediv_of_nonneg hz.1]; omega
  generalize Int.tdiv z2 31 = d at hd
  have n0 : ¬ n = 0 := by omega
  by_cases c1 : p < (L.length : Int)
  · have hm := h2 _ (rd_mem h3 c1)
    have e : wrap64 (p + 1) = p + 1 := wrap_id (by omega) (by omega)
    have e2 : wrap64 (p + 1 - 1) = p := by rw [wrap_id (by omega) (by omega)]; omega
    simp only [if_pos c1, if_pos h3, e, e2, if_neg n0]
    have t1 := tmod_rng (x := wrap64 (rd L p)) (n := n) (by rw [wrap_id (by omega) (by omega)]; omega) (by omega)
    have t2 := tmod_rng (x := wrap64 (wrap64 d + wrap64 (rd L p))) (n := n) (by rw [wrap_id (x := d) (by omega) (by omega), wrap_id (x := rd L p) (by omega) (by omega), wrap_id (by omega) (by omega)]; omega) (by omega)
    by_cases c2 : n ≤ 256
    · rw [if_pos c2]
      by_cases c3 : Int.tmod (p + 1) 2 = 0
      · rw [if_pos c3]; exact ⟨_, _, _, rfl, ⟨⟨h1, h2⟩, ⟨by omega, by omega⟩, hz⟩, t1.1, fun _ => t1.2, fun h => absurd h c⟩
      · rw [if_neg c3]; exact ⟨_, _, _, rfl, ⟨⟨h1, h2⟩, ⟨by omega, by omega⟩, hz⟩, t2.1, fun _ => t2.2, fun h => absurd h c⟩
    · rw [if_neg c2]; exact ⟨_, _, _, rfl, ⟨⟨h1, h2⟩, ⟨by omega, by omega⟩, hz⟩, t2.1, fun _ => t2.2, fun h => absurd h c⟩
  · rw [if_neg c1, if_neg n0]
    have t := tmod_rng (x := wrap64 d) (n := n) (by rw [wrap_id (by omega) (by omega)]; omega) (by omega)
    exact ⟨_, _, _, rfl, ⟨⟨h1, h2⟩, ⟨h3, h4⟩, hz⟩, t.1, fun _ => t.2, fun h => absurd h c⟩
theorem src_from_loop (L : List Int) (h1 : L.length ≤ 4096) (h2 : ∀ x ∈ L, 0 ≤ x ∧ x ≤ 255) : ∀ (d i : Nat) (z : Int), i + d = 64 → 0 ≤ z → z < 2147483647 → ∃ z', Ev (fun k => spec_l01From.l0 k L (i : Int) L 0 z) (L, 0, z') ∧ Src L 0 z' := by
  intro d
  induction d with
  | zero =>
    intro i z hi h5 h6
    refine ⟨z, ev_const fun k => ?_, ⟨⟨h1, h2⟩, by omega, h5, h6⟩⟩
    simp only [spec_l01From.l0]
    rw [if_neg (show ¬ (i : Int) < 64 by omega)]; split <;> rfl
  | succ d ih =>
    intro i z hi h5 h6
    by_cases c : (i : Int) < (L.length : Int)
    · have hm := h2 _ (rd_mem (p := (i : Int)) (by omega) c)
      have hz := src_z h5 h6 47 (rd L (i : Int)) (by omega) (by omega)
      obtain ⟨z', hE, hS⟩ := ih (i + 1) _ (by omega) hz.1 hz.2
      refine ⟨z', Ev.step (fun k => ?_) hE, hS⟩
      simp only [spec_l01From.l0]
      rw [if_pos c, if_pos (by omega), if_pos (by omega), wrap_succ (n := 64) (by omega) (by omega), wrap_id (x := rd L (i : Int)) (by omega) (by omega)]
    · refine ⟨z, ev_const fun k => ?_, ⟨⟨h1, h2⟩, by omega, h5, h6⟩⟩
      simp only [spec_l01From.l0]
      rw [if_neg c]
theorem src_from (L : List Int) (h1 : L.length ≤ 4096) (h2 : ∀ x ∈ L, 0 ≤ x ∧ x ≤ 255) : ∃ z, Ev (fun k => spec_l01From.f k L) (L, 0, z) ∧ Src L 0 z := by
  obtain ⟨z, hE, hS⟩ := src_from_loop L h1 h2 64 0 61003 (by omega) (by omega) (by omega)
  exact ⟨z, by simpa [spec_l01From.f] using hE, hS⟩
/-- What a draw gives, where it stands in a bind. -/
theorem src_bind {α : Type} {L : List Int} {p z n : Int} (h : Src L p z) {F : Nat → Int × Int × Int → Option α} {C : α → Prop}
    (hF : ∀ r p' z', Src L p' z' → 0 ≤ r → (1 < n → r < n) → (n ≤ 1 → r = 0) → ∃ x, Ev (fun k => F k (r, p', z')) x ∧ C x) : ∃ x, Ev (fun k => (spec_l01Next.f L p z n).bind (F k)) x ∧ C x := by
  obtain ⟨r, p', z', e, hs, h0, h1, h2⟩ := src_next h n
  obtain ⟨x, hx, hc⟩ := hF r p' z' hs h0 h1 h2
  exact ⟨x, by simp only [e, Option.bind_some]; exact hx, hc⟩
theorem ex_step {α : Type} {C : α → Prop} {f g : Nat → Option α} (h : ∀ k, g (k + 1) = f k) (hf : ∃ x, Ev f x ∧ C x) : ∃ x, Ev g x ∧ C x := by
  obtain ⟨x, hx, hc⟩ := hf
  exact ⟨x, Ev.step h hx, hc⟩
theorem ex_now {α : Type} {C : α → Prop} {x : α} (hc : C x) : ∃ y, Ev (fun _ => some x) y ∧ C y := ⟨x, Ev.now x, hc⟩
theorem ex_bind {α β : Type} {C : α → Prop} {D : β → Prop} {f : Nat → Option α} {g : Nat → α → Option β} (hf : ∃ x, Ev f x ∧ C x) (hg : ∀ x, C x → ∃ y, Ev (fun k => g k x) y ∧ D y) : ∃ y, Ev (fun k => (f k).bind (g k)) y ∧ D y := by
  obtain ⟨x, hx, hc⟩ := hf
  obtain ⟨y, hy, hd⟩ := hg x hc
  exact ⟨y, Ev.bind hx hy, hd⟩

theorem drawValues_j (L : List Int) (p z : Int) (h : Src L p z) (out : List Int) (ho : out.length ≤ 500) : ∃ x, Ev (fun k => spec_l20DrawValues.j1 k out L p z) x ∧ (x.1.length ≤ 501 ∧ Src L x.2.1 x.2.2) := by
  refine ex_step (fun k => by simp only [spec_l20DrawValues.j1]; rfl) ?_
  refine src_bind h fun r p' z' hs h0 h1 h2 => ?_
  by_cases c0 : r = 0
  · simp only [if_pos c0, if_pos (show out.length < 17592186044416 by omega)]
    exact ex_now ⟨by simp; omega, hs⟩
  simp only [if_neg c0]
  by_cases c1 : r = 1
  · simp only [if_pos c1]
    by_cases c2 : (out.length : Int) > 0
    · simp only [if_pos c2, Option.bind_some]
      refine src_bind hs fun r p' z' hs h0 h1 h2 => ?_
      have h1 := h1 (by omega)
      simp only [if_pos h0, if_pos (show r < (([2, -2] : List Int).length : Int) from h1), if_pos (show 0 < (out.length : Int) from c2)]
      exact ex_now ⟨by simp; omega, hs⟩
    · simp only [if_neg c2]; exact ex_now ⟨by show out.length ≤ 501; omega, hs⟩
  · simp only [if_neg c1]; exact ex_now ⟨by show out.length ≤ 501; omega, hs⟩
theorem drawValues_loop (L : List Int) (v : Int) (cl : List (List Int)) : ∀ (d i : Nat) (p z : Int) (out : List Int), i + d = 500 → Src L p z → out.length ≤ i → ∃ x, Ev (fun k => spec_l20DrawValues.l0 k out (i : Int) L p z v cl) x ∧ (x.1.length ≤ 501 ∧ Src L x.2.1 x.2.2) := by
  intro d
  induction d with
  | zero =>
    intro i p z out hi h ho
    refine ex_step (f := fun k => spec_l20DrawValues.j1 k out L p z) (fun k => ?_) (drawValues_j L p z h out (by omega))
    simp only [spec_l20DrawValues.l0]
    rw [if_neg (show ¬ (i : Int) < 500 by omega)]; split <;> rfl
  | succ d ih =>
    intro i p z out hi h ho
    by_cases c : (i : Int) < v
    · refine ex_step (f := fun k => (spec_l01Next.f L p z 3).bind fun t => spec_l20DrawValues.l0 k (out ++ [wrap64 (t.1 - 1)]) ((i + 1 : Nat) : Int) L t.2.1 t.2.2 v cl) (fun k => ?_) (src_bind h fun r p' z' hs h0 h1 h2 => ih (i + 1) p' z' _ (by omega) hs (by simp; omega))
      simp only [spec_l20DrawValues.l0]
      rw [if_pos c, if_pos (by omega), wrap_succ (n := 500) (by omega) (by omega)]
      simp only [if_pos (show out.length < 17592186044416 by omega)]
    · refine ex_step (f := fun k => spec_l20DrawValues.j1 k out L p z) (fun k => ?_) (drawValues_j L p z h out (by omega))
      simp only [spec_l20DrawValues.l0]
      rw [if_neg c]
theorem drawValues (L : List Int) (p z v : Int) (cl : List (List Int)) (h : Src L p z) : ∃ x, Ev (fun k => spec_l20DrawValues.f k L p z v cl) x ∧ (x.1.length ≤ 501 ∧ Src L x.2.1 x.2.2) := by
  simpa [spec_l20DrawValues.f] using drawValues_loop L v cl 500 0 p z [] (by omega) h (by simp)

def smallF (L : List Int) (x : Int × List (List Int) × Int × Int) : Prop := (x.2.1.length ≤ 15 ∧ ∀ c ∈ x.2.1, c.length ≤ 7) ∧ Src L x.2.2.1 x.2.2.2
theorem snoc_small {x4 : List (List Int)} {x6 : List Int} (h4 : ∀ c ∈ x4, c.length ≤ 7) (h6 : x6.length ≤ 7) : ∀ c ∈ x4 ++ [x6], c.length ≤ 7 := fun c hc => by
  rcases List.mem_append.1 hc with h | h
  · exact h4 c h
  · rw [List.mem_singleton.1 h]; exact h6
theorem pick4 (v r : Int) : (rd_L2 [[0], [2, 1], [1, -1], [wrap64 ((wrap64 (-v)) - 1)]] r).length ≤ 7 := by
  unfold rd_L2
  rw [List.getD_eq_getElem?_getD]
  rcases hr : r.toNat with _ | _ | _ | _ | n <;> simp
theorem drawFormula_in (L : List Int) (v : Int) (hv : 1 ≤ v ∧ v ≤ 6) (m : Nat) (x4 : List (List Int)) (hm : x4.length + (m + 1) ≤ 14) (h4 : ∀ c ∈ x4, c.length ≤ 7)
    (ih : ∀ (x4 : List (List Int)) (p z : Int), Src L p z → x4.length + m ≤ 14 → (∀ c ∈ x4, c.length ≤ 7) → ∃ x, Ev (fun k => spec_l20Draw.l0 k x4 (m : Int) L p z v) x ∧ smallF L x) :
    ∀ (d i : Nat) (p z : Int) (x6 : List Int), i + d = 7 → Src L p z → x6.length ≤ i → ∃ x, Ev (fun k => spec_l20Draw.l1 k x4 ((m + 1 : Nat) : Int) x6 (i : Int) L p z v) x ∧ smallF L x := by
  have e1 : wrap64 (((m + 1 : Nat) : Int) - 1) = (m : Int) := by rw [wrap_id (by omega) (by omega)]; omega
  have hend : ∀ (i : Nat) (p z : Int) (x6 : List Int), Src L p z → x6.length ≤ 7 → ¬ (i : Int) ≤ v → ∃ x, Ev (fun k => spec_l20Draw.l1 k x4 ((m + 1 : Nat) : Int) x6 (i : Int) L p z v) x ∧ smallF L x := fun i p z x6 h h6 hi => by
    by_cases c : (x6.length : Int) > 0
    · refine ex_step (fun k => ?_) (ih (x4 ++ [x6]) p z h (by simp; omega) (snoc_small h4 h6))
      simp only [spec_l20Draw.l1, e1]
      rw [if_neg hi, if_pos c, if_pos (by omega)]
    · refine ex_step (f := fun k => (spec_l01Next.f L p z 20).bind fun t => if t.1 = 0 then spec_l20Draw.l0 k (x4 ++ [x6]) (m : Int) L t.2.1 t.2.2 v else spec_l20Draw.l0 k x4 (m : Int) L t.2.1 t.2.2 v) (fun k => ?_) (src_bind h fun r p' z' hs h0 h1 h2 => ?_)
      · simp only [spec_l20Draw.l1, e1]
        rw [if_neg hi, if_neg c]
        simp only [if_pos (show x4.length < 5864062014805 by omega)]
      · by_cases c0 : r = 0
        · simp only [if_pos c0]; exact ih (x4 ++ [x6]) p' z' hs (by simp; omega) (snoc_small h4 h6)
        · simp only [if_neg c0]; exact ih x4 p' z' hs (by omega) h4
  intro d
  induction d with
  | zero => intro i p z x6 hi h h6; exact hend i p z x6 h (by omega) (by omega)
  | succ d ihd =>
    intro i p z x6 hi h h6
    by_cases c : (i : Int) ≤ v
    · refine ex_step (f := fun k => (spec_l01Next.f L p z 5).bind fun t => if t.1 = 0 then spec_l20Draw.l1 k x4 ((m + 1 : Nat) : Int) (x6 ++ [(i : Int)]) ((i + 1 : Nat) : Int) L t.2.1 t.2.2 v else if t.1 = 1 then spec_l20Draw.l1 k x4 ((m + 1 : Nat) : Int) (x6 ++ [wrap64 (-(i : Int))]) ((i + 1 : Nat) : Int) L t.2.1 t.2.2 v else spec_l20Draw.l1 k x4 ((m + 1 : Nat) : Int) x6 ((i + 1 : Nat) : Int) L t.2.1 t.2.2 v) (fun k => ?_) (src_bind h fun r p' z' hs h0 h1 h2 => ?_)
      · simp only [spec_l20Draw.l1]
        rw [if_pos c]
        simp only [if_pos (show x6.length < 17592186044416 by omega), wrap_succ (show i < 7 by omega) (by omega)]
      · by_cases c0 : r = 0
        · simp only [if_pos c0]; exact ihd (i + 1) p' z' _ (by omega) hs (by simp; omega)
        · simp only [if_neg c0]
          by_cases c1 : r = 1
          · simp only [if_pos c1]; exact ihd (i + 1) p' z' _ (by omega) hs (by simp; omega)
          · simp only [if_neg c1]; exact ihd (i + 1) p' z' _ (by omega) hs (by omega)
    · exact hend i p z x6 h (by omega) c
theorem drawFormula_loop (L : List Int) (v : Int) (hv : 1 ≤ v ∧ v ≤ 6) : ∀ (m : Nat) (x4 : List (List Int)) (p z : Int), Src L p z → x4.length + m ≤ 14 → (∀ c ∈ x4, c.length ≤ 7) → ∃ x, Ev (fun k => spec_l20Draw.l0 k x4 (m : Int) L p z v) x ∧ smallF L x := by
  intro m
  induction m with
  | zero =>
    intro x4 p z h hm h4
    refine ex_step (fun k => by simp only [spec_l20Draw.l0]; rw [if_neg (by omega)]) ?_
    refine src_bind h fun r p' z' hs h0 h1 h2 => ?_
    by_cases c0 : r = 0
    · simp only [if_pos c0, Option.bind_some]
      refine src_bind hs fun r p' z' hs h0 h1 h2 => ?_
      simp only [if_pos h0, if_pos (show r < (([-1, 0, 400, 401] : List Int).length : Int) from h1 (by omega))]
      exact ex_now ⟨⟨by show x4.length ≤ 15; omega, h4⟩, hs⟩
    simp only [if_neg c0]
    by_cases c1 : r = 1
    · simp only [if_pos c1]
      refine src_bind hs fun r p' z' hs h0 h1 h2 => ?_
      simp only [if_pos h0, if_pos (show r < 4 from h1 (by omega)), if_pos (show x4.length < 5864062014805 by omega)]
      exact ex_now ⟨⟨by show (x4 ++ [_]).length ≤ 15; rw [List.length_append]; simp only [List.length_singleton]; omega, snoc_small h4 (pick4 v r)⟩, hs⟩
    · simp only [if_neg c1]; exact ex_now ⟨⟨by show x4.length ≤ 15; omega, h4⟩, hs⟩
  | succ m ih =>
    intro x4 p z h hm h4
    refine ex_step (f := fun k => spec_l20Draw.l1 k x4 ((m + 1 : Nat) : Int) [] ((1 : Nat) : Int) L p z v) (fun k => ?_) (drawFormula_in L v hv m x4 hm h4 ih 6 1 p z [] (by omega) h (by simp))
    simp only [spec_l20Draw.l0]
    rw [if_pos (by omega)]; rfl
theorem drawFormula (L : List Int) (p z : Int) (h : Src L p z) : ∃ x, Ev (fun k => spec_l20Draw.f k L p z) x ∧ smallF L x := by
  simp only [spec_l20Draw.f]
  refine src_bind h fun r p' z' hs h0 h1 h2 => ?_
  refine src_bind hs fun n p' z' hs g0 g1 g2 => ?_
  have h1 := h1 (by omega)
  have g1 := g1 (by omega)
  obtain ⟨m, rfl⟩ : ∃ m : Nat, n = (m : Int) := ⟨n.toNat, by omega⟩
  have e : wrap64 (1 + r) = 1 + r := wrap_id (by omega) (by omega)
  simp only [e]
  exact drawFormula_loop L (1 + r) (by omega) m [] p' z' hs (by simp only [List.length_nil]; omega) (fun _ h => absurd h List.not_mem_nil)

theorem drawSatisfies (L : List Int) (h1 : L.length ≤ 4096) (h2 : ∀ x ∈ L, 0 ≤ x ∧ x ≤ 255) : ∃ x, Ev (fun k => spec_DrawSatisfies.f k L) x ∧ ((x.2.1.length ≤ 15 ∧ ∀ c ∈ x.2.1, c.length ≤ 7) ∧ x.2.2.length ≤ 501) := by
  obtain ⟨z, hE, hS⟩ := src_from L h1 h2
  simp only [spec_DrawSatisfies.f]
  refine ex_bind (C := fun x => x = (L, 0, z)) ⟨_, hE, rfl⟩ fun x hx => ?_
  subst hx
  refine ex_bind (drawFormula L 0 z hS) fun x hx => ?_
  refine ex_bind (drawValues L _ _ _ _ hx.2) fun y hy => ?_
  exact ex_now ⟨hx.1, hy.1⟩
theorem drawUnits (L : List Int) (h1 : L.length ≤ 4096) (h2 : ∀ x ∈ L, 0 ≤ x ∧ x ≤ 255) : ∃ x, Ev (fun k => spec_DrawUnitLiterals.f k L) x ∧ ((x.2.1.length ≤ 15 ∧ ∀ c ∈ x.2.1, c.length ≤ 7) ∧ x.2.2.length ≤ 501) := by
  simp only [spec_DrawUnitLiterals.f]
  exact ex_bind (drawSatisfies L h1 h2) fun x hx => ex_now hx
theorem drawSelection20 (L : List Int) (h1 : L.length ≤ 4096) (h2 : ∀ x ∈ L, 0 ≤ x ∧ x ≤ 255) : ∃ x, Ev (fun k => spec_DrawSelectionOf.f k L) x ∧ x.length ≤ 501 := by
  obtain ⟨z, hE, hS⟩ := src_from L h1 h2
  simp only [spec_DrawSelectionOf.f]
  refine ex_bind (C := fun x => x = (L, 0, z)) ⟨_, hE, rfl⟩ fun x hx => ?_
  subst hx
  refine src_bind hS fun r p' z' hs h0 h1 h2 => ?_
  by_cases c : r = 0
  · simp only [if_pos c]
    refine src_bind hs fun r p' z' hs h0 h1 h2 => ?_
    have h1 := h1 (by omega)
    rw [wrap_id (x := 400 + r) (by omega) (by omega)]
    simp only [if_pos (show 0 ≤ 400 + r by omega), if_pos (show (400 + r).toNat ≤ 35184372088832 by omega)]
    exact ex_now (by simp; omega)
  · simp only [if_neg c]
    refine src_bind hs fun r p' z' hs h0 h1 h2 => ?_
    exact ex_bind (drawValues L _ _ _ _ hs) fun y hy => ex_now hy.1

theorem likeInts_loop (l : List Int) (hl : l.length ≤ 9223372036854775807) : ∀ d i, i + d = l.length → Ev (fun k => laws_likeInts.l0 k l l (i : Int)) true := by
  intro d
  induction d with
  | zero =>
    intro i h
    exact ev_const fun k => by simp only [laws_likeInts.l0]; rw [if_neg (by omega)]
  | succ d ih =>
    intro i h
    have hi : i < l.length := by omega
    refine Ev.step (fun k => ?_) (ih (i + 1) (by omega))
    simp only [laws_likeInts.l0]
    rw [if_pos (by omega), if_pos (by omega), if_pos (by omega), wrap_succ hi hl]; simp
theorem likeInts (l : List Int) (hl : l.length ≤ 9223372036854775807) : Ev (fun k => laws_likeInts.f k l l) true := by
  have := likeInts_loop l hl l.length 0 (by omega)
  simpa [laws_likeInts.f] using this

/-- What 'q' gives at the places from 'i' on. -/
def gatherI {α : Type} (q : Int → α → Option Int) : List α → Int → List Int
  | [], _ => []
  | x :: xs, i => (q i x).toList ++ gatherI q xs (i + 1)
theorem gatherI_length {α : Type} (q : Int → α → Option Int) : ∀ (l : List α) i, (gatherI q l i).length ≤ l.length
  | [], _ => Nat.le_refl _
  | x :: xs, i => by
    have := gatherI_length q xs (i + 1)
    simp only [gatherI, List.length_append, List.length_cons]
    cases q i x <;> simp <;> omega
theorem gatherI_loop {α β : Type} (F : Nat → List Int → Int → Option β) (g : List Int → β) (q : Int → α → Option Int) (l : List α)
    (h0 : ∀ acc, Ev (fun k => F k acc (l.length : Int)) (g acc))
    (h1 : ∀ i (h : i < l.length) acc r, acc.length ≤ i → Ev (fun k => F k (acc ++ (q i l[i]).toList) ((i + 1 : Nat) : Int)) r → Ev (fun k => F k acc (i : Int)) r) :
    ∀ d i acc, i + d = l.length → acc.length ≤ i → Ev (fun k => F k acc (i : Int)) (g (acc ++ gatherI q (l.drop i) i)) := by
  intro d
  induction d with
  | zero =>
    intro i acc h _
    rw [List.drop_eq_nil_of_le (by omega), show i = l.length by omega]
    simpa [gatherI] using h0 acc
  | succ d ih =>
    intro i acc h ha
    have hi : i < l.length := by omega
    refine h1 i hi acc _ ha ?_
    rw [List.drop_eq_getElem_cons hi]
    simp only [gatherI]
    refine ev_eq (ih (i + 1) _ (by omega) (by cases q i l[i] <;> simp <;> omega)) ?_
    simp

def absI (x : Int) : Int := if x < 0 then -x else x
theorem absI_nonneg (x : Int) : 0 ≤ absI x := by unfold absI; split <;> omega
theorem absI_mx {x : Int} (h0 : -400 ≤ x) (h1 : x ≤ 400) : mx x (wrap64 (-x)) = absI x := by
  have e : wrap64 (-x) = -x := by unfold wrap64; omega
  rw [e]; unfold mx absI; split <;> split <;> omega
def litB (n x : Int) : Bool := decide (-n ≤ x) && decide (x ≤ n)
def clB (n : Int) : List Int → Int → Bool
  | [], _ => true
  | x :: xs, p => litB n x && (decide (p < absI x) && clB n xs (absI x))
def prevA (l : List Int) (i : Nat) : Int := if i = 0 then 0 else absI (l.getD (i - 1) 0)
theorem prevA_nonneg (l : List Int) (i : Nat) : 0 ≤ prevA l i := by unfold prevA; split; exact Int.le_refl 0; exact absI_nonneg _
theorem prevA_succ (l : List Int) {i : Nat} (h : i < l.length) : prevA l (i + 1) = absI l[i] := by
  simp [prevA, List.getD_eq_getElem?_getD, List.getElem?_eq_getElem h]

def stateI (v : List Int) (x : Int) : Int := if rd v (absI x - 1) ≥ 0 then (if x < 0 then wrap64 (1 - rd v (absI x - 1)) else rd v (absI x - 1)) else rd v (absI x - 1)
def okLit (v : List Int) (x : Int) : Prop := v.length ≤ 400 ∧ 1 ≤ absI x ∧ absI x ≤ (v.length : Int)
theorem absI_bd (x : Int) : x ≤ absI x ∧ -absI x ≤ x := by unfold absI; split <;> omega
theorem clB_mem (n : Int) : ∀ (l : List Int) (p : Int), 0 ≤ p → clB n l p = true → ∀ x ∈ l, 1 ≤ absI x ∧ absI x ≤ n
  | [], _, _, _, x, hx => absurd hx List.not_mem_nil
  | y :: ys, p, h0, h, x, hx => by
    simp only [clB, litB, Bool.and_eq_true, decide_eq_true_eq] at h
    rcases List.mem_cons.mp hx with rfl | hx
    · exact ⟨by omega, by unfold absI; split <;> omega⟩
    · exact clB_mem n ys (absI y) (absI_nonneg y) h.2.2 x hx
theorem spec_value {v : List Int} {x : Int} (h : okLit v x) : spec_l20Value.f v x = some (stateI v x) := by
  obtain ⟨h1, h2, h3⟩ := h
  have hb := absI_bd x
  have e : wrap64 (absI x - 1) = absI x - 1 := by unfold wrap64; omega
  simp only [spec_l20Value.f, spec_l01Abs.f, Option.bind_some, absI_mx (show -400 ≤ x by omega) (show x ≤ 400 by omega), e, stateI]
  rw [if_pos (by omega), if_pos (by omega)]
  split
  · split <;> rfl
  · rfl
def weighB (v : List Int) : List Int → Int → Int → Bool × Int × Int
  | [], o, f => (false, o, f)
  | x :: xs, o, f => if stateI v x = 1 then (true, 0, 0) else if stateI v x = -1 then weighB v xs (wrap64 (o + 1)) (if o = 0 then x else f) else weighB v xs o f

def longL (l : List (List Int)) : Prop := l.length ≤ 9223372036854775807 ∧ ∀ x ∈ l, x.length ≤ 9223372036854775807
theorem longL_of {l : List (List Int)} {p : Int → Prop} (h : l.length ≤ maxLen ∧ ∀ x ∈ l, x.length ≤ maxLen ∧ ∀ y ∈ x, p y) : longL l := ⟨h.1, fun x hx => (h.2 x hx).1⟩

def formulaB (n : Int) (l : List (List Int)) : Bool := (decide (0 ≤ n) && decide (n ≤ 400)) && (decide ((l.length : Int) ≤ 20000) && l.all (fun x => clB n x 0))

def valB (x : Int) : Bool := decide (-1 ≤ x) && decide (x ≤ 1)

def asgB (n : Int) (v : List Int) : Bool := v.all valB && decide ((v.length : Int) = n)
theorem okClauses {n : Int} {l : List (List Int)} {v : List Int} (hf : formulaB n l = true) (hv : asgB n v = true) : ∀ c ∈ l, ∀ x ∈ c, okLit v x := fun c hc x hx => by
  simp only [formulaB, asgB, Bool.and_eq_true, decide_eq_true_eq, List.all_eq_true] at hf hv
  have := clB_mem n c 0 (Int.le_refl 0) (hf.2.2 c hc) x hx
  exact ⟨by omega, this.1, by omega⟩

def fcodeB (n : Int) (l : List (List Int)) (v : List Int) : Int := if formulaB n l then (if asgB n v then 0 else 2) else 1
theorem fcodeB_zero {n : Int} {l : List (List Int)} {v : List Int} (h : fcodeB n l v = 0) : l.length ≤ 20000 ∧ ∀ c ∈ l, ∀ x ∈ c, okLit v x := by
  unfold fcodeB at h
  cases c1 : formulaB n l with
  | false => rw [c1] at h; simp at h
  | true =>
    rw [c1] at h
    cases c2 : asgB n v with
    | false => rw [c2] at h; simp at h
    | true =>
      refine ⟨?_, okClauses c1 c2⟩
      simp only [formulaB, Bool.and_eq_true, decide_eq_true_eq] at c1
      omega

def unitBq (v : List Int) (i : Int) (c : List Int) : Option Int := if (weighB v c 0 0).1 = true then none else if (weighB v c 0 0).2.1 = 1 then some (weighB v c 0 0).2.2 else none
def unitB (n : Int) (l : List (List Int)) (v : List Int) : List Int × Int := if fcodeB n l v = 0 then (gatherI (unitBq v) l 0, 0) else ([], fcodeB n l v)
theorem unitB_len (n : Int) (l : List (List Int)) (v : List Int) : (unitB n l v).1.length ≤ 20000 := by
  unfold unitB
  by_cases c : fcodeB n l v = 0
  · rw [if_pos c]
    have := gatherI_length (unitBq v) l 0
    have := fcodeB_zero c
    show (gatherI _ _ 0).length ≤ 20000
    omega
  · rw [if_neg c]; simp

def satB (n : Int) (l : List (List Int)) (v : List Int) : Bool := formulaB n l && (asgB n v && l.all (fun c => (weighB v c 0 0).1))

theorem spec_in (a b c : Int) : spec_l01In.f a b c = some (decide (b ≤ a) && decide (a ≤ c)) := by
  unfold spec_l01In.f; by_cases h : b ≤ a
  · rw [if_pos h]; simp [h]
  · rw [if_neg h]; simp [h]

theorem spec_clause_loop (l : List Int) (n : Int) (h0 : 0 ≤ n) (h1 : n ≤ 400) (hl : l.length ≤ 9223372036854775807) : ∀ d i, i + d = l.length → (i ≠ 0 → litB n (l.getD (i - 1) 0) = true) → Ev (fun k => spec_l20Clause.l0 k l n (i : Int)) (clB n (l.drop i) (prevA l i)) := by
  intro d
  induction d with
  | zero =>
    intro i h _
    rw [List.drop_eq_nil_of_le (by omega)]
    exact ev_const fun k => by simp only [spec_l20Clause.l0]; rw [if_neg (by omega)]; rfl
  | succ d ih =>
    intro i h hp
    have hi : i < l.length := by omega
    rw [List.drop_eq_getElem_cons hi]
    simp only [clB]
    have en : wrap64 (-n) = -n := by unfold wrap64; omega
    have step : ∀ k, spec_l20Clause.l0 (k + 1) l n (i : Int) = if (litB n l[i] && decide (prevA l i < absI l[i])) = true then spec_l20Clause.l0 k l n ((i + 1 : Nat) : Int) else some false := fun k => by
      simp only [spec_l20Clause.l0]
      rw [if_pos (by omega), if_pos (by omega), rd_nat l hi, wrap_succ hi hl, spec_in, en]
      have hn := prevA_nonneg l i
      by_cases z : l[i] = 0
      · rw [if_pos z, if_neg]; rw [z]; simp [absI]; intro _; exact hn
      · rw [if_neg z]
        simp only [Option.bind_some]
        by_cases c : litB n l[i] = true
        · have c' : (decide (-n ≤ l[i]) && decide (l[i] ≤ n)) = true := c
          rw [if_pos c', c, Bool.true_and]
          simp only [Bool.and_eq_true, decide_eq_true_eq] at c'
          by_cases zi : i = 0
          · rw [if_neg (by omega), if_pos]
            simp only [prevA, zi, if_true, decide_eq_true_eq]; unfold absI; subst zi; split <;> omega
          · have e : wrap64 ((i : Int) - 1) = ((i - 1 : Nat) : Int) := by unfold wrap64; omega
            have p : prevA l i = absI l[i - 1] := by simp [prevA, zi, List.getD_eq_getElem?_getD, List.getElem?_eq_getElem (show i - 1 < l.length by omega)]
            have hp' := hp zi
            rw [List.getD_eq_getElem?_getD, List.getElem?_eq_getElem (show i - 1 < l.length by omega)] at hp'
            simp only [Option.getD_some, litB, Bool.and_eq_true, decide_eq_true_eq] at hp'
            rw [if_pos (by omega)]
            simp only [spec_l01Abs.f, Option.bind_some]
            rw [e, if_pos (by omega), if_pos (by omega), rd_nat l (by omega), absI_mx (by omega) (by omega), absI_mx (by omega) (by omega), p]
            by_cases q : absI l[i] ≤ absI l[i - 1]
            · rw [if_pos q, if_neg (by simp; omega)]
            · rw [if_neg q, if_pos (by simp; omega)]
        · have c' : ¬ (decide (-n ≤ l[i]) && decide (l[i] ≤ n)) = true := c
          rw [if_neg c', if_neg (by simp [c])]
    refine Ev.step step ?_
    cases q : (litB n l[i] && decide (prevA l i < absI l[i])) with
    | true =>
      simp only [if_true]
      simp only [Bool.and_eq_true] at q
      refine ev_eq (ih (i + 1) (by omega) (fun _ => by simpa [List.getD_eq_getElem?_getD, List.getElem?_eq_getElem hi] using q.1)) ?_
      rw [prevA_succ l hi, q.1, q.2]; simp
    | false =>
      simp only [Bool.false_eq_true, if_false]
      refine ev_eq (Ev.now _) ?_
      rw [← Bool.and_assoc, q]; simp
theorem spec_clause (l : List Int) (n : Int) (h0 : 0 ≤ n) (h1 : n ≤ 400) (hl : l.length ≤ 9223372036854775807) : Ev (fun k => spec_l20Clause.f k l n) (clB n l 0) := by
  have := spec_clause_loop l n h0 h1 hl l.length 0 (by omega) (fun h => absurd rfl h)
  simpa [spec_l20Clause.f, prevA] using this

theorem rdr_nat (l : List (List Int)) {i : Nat} (h : i < l.length) : rd_L2 l (i : Int) = l[i] := by
  simp [rd_L2, List.getD_eq_getElem?_getD, List.getElem?_eq_getElem h]

theorem spec_IsFormula_loop (n : Int) (l : List (List Int)) (h0 : 0 ≤ n) (h1 : n ≤ 400) (hl : longL l) : ∀ d i, i + d = l.length → Ev (fun k => spec_IsFormula.l0 k (i : Int) n l) ((l.drop i).all (fun x => clB n x 0)) := by
  intro d
  induction d with
  | zero =>
    intro i h
    rw [List.drop_eq_nil_of_le (by omega)]
    exact ev_const fun k => by simp only [spec_IsFormula.l0]; rw [if_neg (by omega)]; rfl
  | succ d ih =>
    intro i h
    have hi : i < l.length := by omega
    rw [List.drop_eq_getElem_cons hi, List.all_cons]
    refine Ev.step (f := fun k => (spec_l20Clause.f k l[i] n).bind fun t => if t = true then spec_IsFormula.l0 k ((i + 1 : Nat) : Int) n l else some false) (fun k => ?_) (Ev.bind (spec_clause l[i] n h0 h1 (hl.2 _ (List.getElem_mem hi))) ?_)
    · simp only [spec_IsFormula.l0]
      rw [if_pos (by omega), if_pos (by omega), rdr_nat l hi, wrap_succ hi hl.1]
    · cases clB n l[i] 0 with
      | true => simpa using ih (i + 1) (by omega)
      | false => simpa using Ev.now false
theorem spec_IsFormula_ev (n : Int) (l : List (List Int)) (hl : longL l) : Ev (fun k => spec_IsFormula.f k n l) (formulaB n l) := by
  have hj : ∀ x y, (x = false → Ev (fun k => spec_IsFormula.l0 k 0 n l) y) → Ev (fun k => spec_IsFormula.j0 k x n l) (!x && y) := fun x y hy => by
    refine Ev.step (f := fun k => if x = true then some false else spec_IsFormula.l0 k 0 n l) (fun k => by simp only [spec_IsFormula.j0]) ?_
    cases x with
    | true => simpa using Ev.now false
    | false => simpa using hy rfl
  simp only [spec_IsFormula.f, spec_in, Option.bind_some, formulaB]
  cases q : (decide (0 ≤ n) && decide (n ≤ 400)) with
  | false => simp only [Bool.false_eq_true, if_false, Bool.false_and]; simpa using hj true false (fun h => by cases h)
  | true =>
    simp only [Bool.and_eq_true, decide_eq_true_eq] at q
    simp only [if_true, Bool.true_and]
    refine ev_eq (hj _ _ (fun _ => by simpa using spec_IsFormula_loop n l q.1 q.2 hl l.length 0 (by omega))) ?_
    by_cases c : (l.length : Int) ≤ 20000
    · rw [decide_eq_true c, decide_eq_false (by omega)]; simp
    · rw [decide_eq_false c, decide_eq_true (by omega)]; simp

theorem spec_Values_loop (l : List Int) (n : Int) (hl : l.length ≤ 9223372036854775807) : ∀ d i, i + d = l.length → Ev (fun k => spec_l20Values.l0 k l n (i : Int)) ((l.drop i).all valB && decide ((l.length : Int) = n)) := by
  intro d
  induction d with
  | zero =>
    intro i h
    rw [List.drop_eq_nil_of_le (by omega)]
    exact ev_const fun k => by simp only [spec_l20Values.l0]; rw [if_neg (by omega)]; simp; rfl
  | succ d ih =>
    intro i h
    have hi : i < l.length := by omega
    rw [List.drop_eq_getElem_cons hi, List.all_cons]
    have step : ∀ k, spec_l20Values.l0 (k + 1) l n (i : Int) = if valB l[i] = true then spec_l20Values.l0 k l n ((i + 1 : Nat) : Int) else some false := fun k => by
      simp only [spec_l20Values.l0]
      rw [if_pos (by omega), if_pos (by omega), rd_nat l hi, wrap_succ hi hl, spec_in]; rfl
    refine Ev.step step ?_
    cases q : valB l[i] with
    | true => simp only [if_true]; refine ev_eq (ih (i + 1) (by omega)) ?_; simp
    | false => simp only [Bool.false_eq_true, if_false]; refine ev_eq (Ev.now _) ?_; simp
theorem spec_Values (l : List Int) (n : Int) (hl : l.length ≤ 9223372036854775807) : Ev (fun k => spec_l20Values.f k l n) (l.all valB && decide ((l.length : Int) = n)) := by
  have := spec_Values_loop l n hl l.length 0 (by omega)
  simpa [spec_l20Values.f] using this

theorem spec_code (n : Int) (l : List (List Int)) (v : List Int) (hl : longL l) (hv : v.length ≤ 9223372036854775807) : Ev (fun k => spec_l20Code.f k n l v) (if formulaB n l then (if asgB n v then 0 else 2) else 1) := by
  simp only [spec_l20Code.f]
  refine Ev.bind (spec_IsFormula_ev n l hl) ?_
  cases formulaB n l with
  | false => simpa using Ev.now (1 : Int)
  | true =>
    simp only [if_true]
    refine Ev.bind (spec_Values v n hv) ?_
    show Ev (fun _ => if asgB n v = true then some 0 else some 2) _
    cases asgB n v with
    | false => simpa using Ev.now (2 : Int)
    | true => simpa using Ev.now (0 : Int)

theorem spec_fcode (n : Int) (l : List (List Int)) (v : List Int) (hl : longL l) (hv : v.length ≤ 9223372036854775807) : Ev (fun k => spec_l20Code.f k n l v) (fcodeB n l v) := spec_code n l v hl hv

theorem spec_weigh_loop (v l : List Int) (hl : l.length ≤ 9223372036854775807) (ok : ∀ x ∈ l, okLit v x) : ∀ d i (o f : Int), i + d = l.length → Ev (fun k => spec_l20State.l0 k v l o f (i : Int)) (weighB v (l.drop i) o f) := by
  intro d
  induction d with
  | zero =>
    intro i o f h
    rw [List.drop_eq_nil_of_le (by omega)]
    exact ev_const fun k => by simp only [spec_l20State.l0]; rw [if_neg (by omega)]; rfl
  | succ d ih =>
    intro i o f h
    have hi : i < l.length := by omega
    rw [List.drop_eq_getElem_cons hi]
    simp only [weighB]
    have hv := spec_value (ok _ (List.getElem_mem hi))
    have step : ∀ k, spec_l20State.l0 (k + 1) v l o f (i : Int) = if stateI v l[i] = 1 then some (true, 0, 0) else if stateI v l[i] = -1 then spec_l20State.l0 k v l (wrap64 (o + 1)) (if o = 0 then l[i] else f) ((i + 1 : Nat) : Int) else spec_l20State.l0 k v l o f ((i + 1 : Nat) : Int) := fun k => by
      simp only [spec_l20State.l0]
      rw [if_pos (by omega), if_pos (by omega), rd_nat l hi, wrap_succ hi hl, hv]
      simp only [Option.bind_some]
      by_cases c0 : o = 0
      · simp only [if_pos c0]
      · simp only [if_neg c0]
    refine Ev.step step ?_
    by_cases c1 : stateI v l[i] = 1
    · simp only [if_pos c1]; exact Ev.now _
    · simp only [if_neg c1]
      by_cases c2 : stateI v l[i] = -1
      · simp only [if_pos c2]; exact ih (i + 1) _ _ (by omega)
      · simp only [if_neg c2]; exact ih (i + 1) _ _ (by omega)
theorem spec_weigh (v l : List Int) (hl : l.length ≤ 9223372036854775807) (ok : ∀ x ∈ l, okLit v x) : Ev (fun k => spec_l20State.f k v l) (weighB v l 0 0) := by
  have := spec_weigh_loop v l hl ok l.length 0 0 0 (by omega)
  simpa [spec_l20State.f] using this

theorem spec_UnitLiterals_ev (n : Int) (l : List (List Int)) (v : List Int) (hl : longL l) (hv : v.length ≤ 9223372036854775807) : Ev (fun k => spec_UnitLiterals.f k n l v) (unitB n l v) := by
  simp only [spec_UnitLiterals.f]
  refine Ev.bind (spec_fcode n l v hl hv) ?_
  unfold unitB
  by_cases c : fcodeB n l v = 0
  · simp only [if_pos c]
    obtain ⟨h4, ok⟩ := fcodeB_zero c
    have := gatherI_loop (fun k acc i => spec_UnitLiterals.l0 k v acc i n l) (fun acc => (acc, (0 : Int))) (unitBq v) l
      (fun acc => ev_const fun k => by simp only [spec_UnitLiterals.l0]; rw [if_neg (by omega)])
      (fun i hi acc r ha hE => by
        refine Ev.step (f := fun k => (spec_l20State.f k v l[i]).bind fun t => if t.1 = true then spec_UnitLiterals.l0 k v acc ((i + 1 : Nat) : Int) n l else if t.2.1 = 1 then spec_UnitLiterals.l0 k v (acc ++ [t.2.2]) ((i + 1 : Nat) : Int) n l else spec_UnitLiterals.l0 k v acc ((i + 1 : Nat) : Int) n l) (fun k => by
          simp only [spec_UnitLiterals.l0]
          rw [if_pos (by omega), if_pos (by omega), rdr_nat l hi, wrap_succ hi hl.1]
          simp only [if_pos (show acc.length < 17592186044416 by omega)]) ?_
        refine Ev.bind (spec_weigh v l[i] (hl.2 _ (List.getElem_mem hi)) (ok _ (List.getElem_mem hi))) ?_
        unfold unitBq at hE
        by_cases q : (weighB v l[i] 0 0).1 = true
        · simp only [if_pos q] at hE ⊢; simpa using hE
        · simp only [if_neg q] at hE ⊢
          by_cases q2 : (weighB v l[i] 0 0).2.1 = 1
          · simp only [if_pos q2] at hE ⊢; simpa using hE
          · simp only [if_neg q2] at hE ⊢; simpa using hE) l.length 0 [] (by omega) (Nat.le_refl _)
    simpa using this
  · simp only [if_neg c]; exact Ev.now _

theorem impl_in (a b c : Int) : impl_within.f a b c = some (decide (b ≤ a) && decide (a ≤ c)) := by
  unfold impl_within.f; by_cases h : b ≤ a
  · rw [if_pos h]; simp [h]
  · rw [if_neg h]; simp [h]

theorem impl_clause_loop (l : List Int) (n : Int) (h0 : 0 ≤ n) (h1 : n ≤ 400) (hl : l.length ≤ 9223372036854775807) : ∀ d i (p : Int), i + d = l.length → Ev (fun k => impl_isClause.l0 k n p l (l.length : Int) (i : Int)) (clB n (l.drop i) p) := by
  intro d
  induction d with
  | zero =>
    intro i p h
    rw [List.drop_eq_nil_of_le (by omega)]
    exact ev_const fun k => by simp only [impl_isClause.l0]; rw [if_neg (by omega)]; rfl
  | succ d ih =>
    intro i p h
    have hi : i < l.length := by omega
    rw [List.drop_eq_getElem_cons hi]
    simp only [clB]
    have en : wrap64 (-n) = -n := by unfold wrap64; omega
    have step : ∀ k, impl_isClause.l0 (k + 1) n p l (l.length : Int) (i : Int) = if (litB n l[i] && decide (p < absI l[i])) = true then impl_isClause.l0 k n (absI l[i]) l (l.length : Int) ((i + 1 : Nat) : Int) else some false := fun k => by
      simp only [impl_isClause.l0]
      rw [if_pos (by omega), if_pos (by omega), if_pos (by omega), rd_nat l hi, wrap_succ hi hl, impl_in, en]
      simp only [Option.bind_some, impl_variableOf.f]
      by_cases c : litB n l[i] = true
      · have c' : (decide (-n ≤ l[i]) && decide (l[i] ≤ n)) = true := c
        rw [if_pos c', c, Bool.true_and]
        simp only [Bool.and_eq_true, decide_eq_true_eq] at c'
        rw [absI_mx (by omega) (by omega)]
        by_cases q : absI l[i] ≤ p
        · rw [if_pos q, if_neg (by simp; omega)]
        · rw [if_neg q, if_pos (by simp; omega)]
      · have c' : ¬ (decide (-n ≤ l[i]) && decide (l[i] ≤ n)) = true := c
        rw [if_neg c', if_neg (by simp [c])]
    refine Ev.step step ?_
    cases q : (litB n l[i] && decide (p < absI l[i])) with
    | true =>
      simp only [if_true]
      refine ev_eq (ih (i + 1) (absI l[i]) (by omega)) ?_
      rw [← Bool.and_assoc, q]; simp
    | false =>
      simp only [Bool.false_eq_true, if_false]
      refine ev_eq (Ev.now _) ?_
      rw [← Bool.and_assoc, q]; simp
theorem impl_clause (l : List Int) (n : Int) (h0 : 0 ≤ n) (h1 : n ≤ 400) (hl : l.length ≤ 9223372036854775807) : Ev (fun k => impl_isClause.f k l n) (clB n l 0) := by
  have := impl_clause_loop l n h0 h1 hl l.length 0 0 (by omega)
  simpa [impl_isClause.f] using this

theorem anyM_ev {α : Type} (p : Nat → α → Option Bool) (q : α → Bool) : ∀ l : List α, (∀ x ∈ l, Ev (fun k => p k x) (q x)) → Ev (fun k => anyM (p k) l) (l.any q)
  | [], _ => by simpa [anyM] using Ev.now false
  | x :: xs, h => by
    simp only [anyM, List.any_cons]
    refine Ev.bind (h x (List.mem_cons_self ..)) ?_
    cases c : q x with
    | true => simpa using Ev.now true
    | false => simpa using anyM_ev p q xs (fun y hy => h y (List.mem_cons_of_mem _ hy))
theorem anyM_some {α : Type} (p : α → Option Bool) (q : α → Bool) : ∀ l : List α, (∀ x ∈ l, p x = some (q x)) → anyM p l = some (l.any q)
  | [], _ => rfl
  | x :: xs, h => by
    simp only [anyM, List.any_cons, h x (List.mem_cons_self ..), Option.bind_some]
    cases c : q x with
    | true => simp
    | false => simpa using anyM_some p q xs (fun y hy => h y (List.mem_cons_of_mem _ hy))

theorem impl_IsFormula_ev (n : Int) (l : List (List Int)) (hl : longL l) : Ev (fun k => impl_IsFormula.f k n l) (formulaB n l) := by
  simp only [impl_IsFormula.f, impl_in, Option.bind_some, formulaB]
  cases q : (decide (0 ≤ n) && decide (n ≤ 400)) with
  | false => simpa using Ev.now false
  | true =>
    simp only [Bool.and_eq_true, decide_eq_true_eq] at q
    have h2 := anyM_ev (fun k x => impl_IsFormula_1.f k x n) (fun x => !clB n x 0) l (fun x hx => Ev.bind (impl_clause x n q.1 q.2 (hl.2 _ hx)) (Ev.now _))
    simp only [if_true, Bool.true_and]
    by_cases c : (l.length : Int) ≤ 20000
    · simp only [if_neg (show ¬ (l.length : Int) > 20000 by omega), decide_eq_true c, Bool.true_and]
      refine Ev.bind h2 (ev_eq (Ev.now _) ?_)
      simp [List.any_eq_not_all_not]
    · simp only [if_pos (show (l.length : Int) > 20000 by omega), decide_eq_false c, Bool.false_and]
      exact Ev.now false

theorem impl_Values (l : List Int) (n : Int) : impl_isAssignment.f l n = some (l.all valB && decide ((l.length : Int) = n)) := by
  unfold impl_isAssignment.f
  by_cases c : (l.length : Int) = n
  · rw [if_pos c, anyM_some _ (fun x => !valB x) l (fun x _ => by simp only [impl_isAssignment_1.f, impl_in, Option.bind_some]; rfl)]
    simp [c, List.any_eq_not_all_not]
  · rw [if_neg c]; simp [c]

theorem impl_fcode (n : Int) (l : List (List Int)) (v : List Int) (hl : longL l) : Ev (fun k => impl_assignmentCode.f k n l v) (fcodeB n l v) := by
  simp only [impl_assignmentCode.f]
  refine Ev.bind (impl_IsFormula_ev n l hl) ?_
  unfold fcodeB
  cases formulaB n l with
  | false => simpa using Ev.now (1 : Int)
  | true =>
    simp only [if_true, impl_Values, Option.bind_some]
    show Ev (fun _ => if asgB n v = true then some 0 else some 2) _
    cases asgB n v with
    | false => simpa using Ev.now (2 : Int)
    | true => simpa using Ev.now (0 : Int)

theorem impl_value {v : List Int} {x : Int} (h : okLit v x) : impl_state.f v x = some (stateI v x) := (show impl_state.f v x = spec_l20Value.f v x from rfl).trans (spec_value h)
theorem impl_weigh_loop (v l : List Int) (hl : l.length ≤ 9223372036854775807) (ok : ∀ x ∈ l, okLit v x) : ∀ d i (o f : Int), i + d = l.length → Ev (fun k => impl_weigh.l0 k v o f l (l.length : Int) (i : Int)) (weighB v (l.drop i) o f) := by
  intro d
  induction d with
  | zero =>
    intro i o f h
    rw [List.drop_eq_nil_of_le (by omega)]
    exact ev_const fun k => by simp only [impl_weigh.l0]; rw [if_neg (by omega)]; rfl
  | succ d ih =>
    intro i o f h
    have hi : i < l.length := by omega
    rw [List.drop_eq_getElem_cons hi]
    simp only [weighB]
    have hv := impl_value (ok _ (List.getElem_mem hi))
    have step : ∀ k, impl_weigh.l0 (k + 1) v o f l (l.length : Int) (i : Int) = if stateI v l[i] = 1 then some (true, 0, 0) else if stateI v l[i] = -1 then impl_weigh.l0 k v (wrap64 (o + 1)) (if o = 0 then l[i] else f) l (l.length : Int) ((i + 1 : Nat) : Int) else impl_weigh.l0 k v o f l (l.length : Int) ((i + 1 : Nat) : Int) := fun k => by
      simp only [impl_weigh.l0]
      rw [if_pos (by omega), if_pos (by omega), if_pos (by omega), rd_nat l hi, wrap_succ hi hl, hv]
      simp only [Option.bind_some]
      by_cases c0 : o = 0
      · simp only [if_pos c0]
      · simp only [if_neg c0]
    refine Ev.step step ?_
    by_cases c1 : stateI v l[i] = 1
    · simp only [if_pos c1]; exact Ev.now _
    · simp only [if_neg c1]
      by_cases c2 : stateI v l[i] = -1
      · simp only [if_pos c2]; exact ih (i + 1) _ _ (by omega)
      · simp only [if_neg c2]; exact ih (i + 1) _ _ (by omega)
theorem impl_weigh_ev (v l : List Int) (hl : l.length ≤ 9223372036854775807) (ok : ∀ x ∈ l, okLit v x) : Ev (fun k => impl_weigh.f k v l) (weighB v l 0 0) := by
  have := impl_weigh_loop v l hl ok l.length 0 0 0 (by omega)
  simpa [impl_weigh.f] using this

theorem impl_UnitLiterals_ev (n : Int) (l : List (List Int)) (v : List Int) (hl : longL l) : Ev (fun k => impl_UnitLiterals.f k n l v) (unitB n l v) := by
  simp only [impl_UnitLiterals.f]
  refine Ev.bind (impl_fcode n l v hl) ?_
  unfold unitB
  by_cases c : fcodeB n l v = 0
  · simp only [if_pos c]
    obtain ⟨h4, ok⟩ := fcodeB_zero c
    have := gatherI_loop (fun k acc i => impl_UnitLiterals.l0 k v acc l (l.length : Int) i) (fun acc => (acc, (0 : Int))) (unitBq v) l
      (fun acc => ev_const fun k => by simp only [impl_UnitLiterals.l0]; rw [if_neg (by omega)])
      (fun i hi acc r ha hE => by
        refine Ev.step (f := fun k => (impl_weigh.f k v l[i]).bind fun t => if t.1 = true then impl_UnitLiterals.l0 k v acc l (l.length : Int) ((i + 1 : Nat) : Int) else if t.2.1 = 1 then impl_UnitLiterals.l0 k v (acc ++ [t.2.2]) l (l.length : Int) ((i + 1 : Nat) : Int) else impl_UnitLiterals.l0 k v acc l (l.length : Int) ((i + 1 : Nat) : Int)) (fun k => by
          simp only [impl_UnitLiterals.l0]
          rw [if_pos (by omega), if_pos (by omega), if_pos (by omega), rdr_nat l hi, wrap_succ hi hl.1]
          simp only [if_pos (show acc.length < 17592186044416 by omega)]) ?_
        refine Ev.bind (impl_weigh_ev v l[i] (hl.2 _ (List.getElem_mem hi)) (ok _ (List.getElem_mem hi))) ?_
        unfold unitBq at hE
        by_cases q : (weighB v l[i] 0 0).1 = true
        · simp only [if_pos q] at hE ⊢; simpa using hE
        · simp only [if_neg q] at hE ⊢
          by_cases q2 : (weighB v l[i] 0 0).2.1 = 1
          · simp only [if_pos q2] at hE ⊢; simpa using hE
          · simp only [if_neg q2] at hE ⊢; simpa using hE) l.length 0 [] (by omega) (Nat.le_refl _)
    simpa using this
  · simp only [if_neg c]; exact Ev.now _

def falseBq (v : List Int) (i : Int) (c : List Int) : Option Int := if (weighB v c 0 0).1 = true then none else if (weighB v c 0 0).2.1 = 0 then some i else none
def falseB (n : Int) (l : List (List Int)) (v : List Int) : List Int × Int := if fcodeB n l v = 0 then (gatherI (falseBq v) l 0, 0) else ([], fcodeB n l v)
theorem falseB_len (n : Int) (l : List (List Int)) (v : List Int) : (falseB n l v).1.length ≤ 20000 := by
  unfold falseB
  by_cases c : fcodeB n l v = 0
  · rw [if_pos c]
    have := gatherI_length (falseBq v) l 0
    have := fcodeB_zero c
    show (gatherI _ _ 0).length ≤ 20000
    omega
  · rw [if_neg c]; simp

theorem spec_FalseClauses_ev (n : Int) (l : List (List Int)) (v : List Int) (hl : longL l) (hv : v.length ≤ 9223372036854775807) : Ev (fun k => spec_FalseClauses.f k n l v) (falseB n l v) := by
  simp only [spec_FalseClauses.f]
  refine Ev.bind (spec_fcode n l v hl hv) ?_
  unfold falseB
  by_cases c : fcodeB n l v = 0
  · simp only [if_pos c]
    obtain ⟨h4, ok⟩ := fcodeB_zero c
    have := gatherI_loop (fun k acc i => spec_FalseClauses.l0 k v acc i n l) (fun acc => (acc, (0 : Int))) (falseBq v) l
      (fun acc => ev_const fun k => by simp only [spec_FalseClauses.l0]; rw [if_neg (by omega)])
      (fun i hi acc r ha hE => by
        refine Ev.step (f := fun k => (spec_l20State.f k v l[i]).bind fun t => if t.1 = true then spec_FalseClauses.l0 k v acc ((i + 1 : Nat) : Int) n l else if t.2.1 = 0 then spec_FalseClauses.l0 k v (acc ++ [(i : Int)]) ((i + 1 : Nat) : Int) n l else spec_FalseClauses.l0 k v acc ((i + 1 : Nat) : Int) n l) (fun k => by
          simp only [spec_FalseClauses.l0]
          rw [if_pos (by omega), if_pos (by omega), rdr_nat l hi, wrap_succ hi hl.1]
          simp only [if_pos (show acc.length < 17592186044416 by omega)]) ?_
        refine Ev.bind (spec_weigh v l[i] (hl.2 _ (List.getElem_mem hi)) (ok _ (List.getElem_mem hi))) ?_
        unfold falseBq at hE
        by_cases q : (weighB v l[i] 0 0).1 = true
        · simp only [if_pos q] at hE ⊢; simpa using hE
        · simp only [if_neg q] at hE ⊢
          by_cases q2 : (weighB v l[i] 0 0).2.1 = 0
          · simp only [if_pos q2] at hE ⊢; simpa using hE
          · simp only [if_neg q2] at hE ⊢; simpa using hE) l.length 0 [] (by omega) (Nat.le_refl _)
    simpa using this
  · simp only [if_neg c]; exact Ev.now _

theorem impl_FalseClauses_ev (n : Int) (l : List (List Int)) (v : List Int) (hl : longL l) : Ev (fun k => impl_FalseClauses.f k n l v) (falseB n l v) := by
  simp only [impl_FalseClauses.f]
  refine Ev.bind (impl_fcode n l v hl) ?_
  unfold falseB
  by_cases c : fcodeB n l v = 0
  · simp only [if_pos c]
    obtain ⟨h4, ok⟩ := fcodeB_zero c
    have := gatherI_loop (fun k acc i => impl_FalseClauses.l0 k v acc l (l.length : Int) i) (fun acc => (acc, (0 : Int))) (falseBq v) l
      (fun acc => ev_const fun k => by simp only [impl_FalseClauses.l0]; rw [if_neg (by omega)])
      (fun i hi acc r ha hE => by
        refine Ev.step (f := fun k => (impl_weigh.f k v l[i]).bind fun t => if t.1 = true then impl_FalseClauses.l0 k v acc l (l.length : Int) ((i + 1 : Nat) : Int) else if t.2.1 = 0 then impl_FalseClauses.l0 k v (acc ++ [(i : Int)]) l (l.length : Int) ((i + 1 : Nat) : Int) else impl_FalseClauses.l0 k v acc l (l.length : Int) ((i + 1 : Nat) : Int)) (fun k => by
          simp only [impl_FalseClauses.l0]
          rw [if_pos (by omega), if_pos (by omega), if_pos (by omega), rdr_nat l hi, wrap_succ hi hl.1]
          simp only [if_pos (show acc.length < 17592186044416 by omega)]) ?_
        refine Ev.bind (impl_weigh_ev v l[i] (hl.2 _ (List.getElem_mem hi)) (ok _ (List.getElem_mem hi))) ?_
        unfold falseBq at hE
        by_cases q : (weighB v l[i] 0 0).1 = true
        · simp only [if_pos q] at hE ⊢; simpa using hE
        · simp only [if_neg q] at hE ⊢
          by_cases q2 : (weighB v l[i] 0 0).2.1 = 0
          · simp only [if_pos q2] at hE ⊢; simpa using hE
          · simp only [if_neg q2] at hE ⊢; simpa using hE) l.length 0 [] (by omega) (Nat.le_refl _)
    simpa using this
  · simp only [if_neg c]; exact Ev.now _

/-- The places of all ones, from a place on. -/
def onesOf : List Int → Int → List Int
  | [], _ => []
  | x :: xs, i => if x = 1 then i :: onesOf xs (i + 1) else onesOf xs (i + 1)
theorem onesOf_length : ∀ (l : List Int) i, (onesOf l i).length ≤ l.length
  | [], _ => Nat.le_refl _
  | x :: xs, i => by simp only [onesOf]; split <;> simp only [List.length_cons] <;> have := onesOf_length xs (i + 1) <;> omega

theorem spec_Sel_loop (l : List Int) (hl : l.length ≤ 17592186044415) : ∀ d i (y : List Int), i + d = l.length → y.length ≤ i → Ev (fun k => spec_SelectionOf.l0 k l y (i : Int)) (y ++ onesOf (l.drop i) i, 0) := by
  intro d
  induction d with
  | zero =>
    intro i y h hy
    rw [List.drop_eq_nil_of_le (by omega)]
    exact ev_const fun k => by simp only [spec_SelectionOf.l0]; rw [if_neg (by omega)]; simp [onesOf]
  | succ d ih =>
    intro i y h hy
    have hi : i < l.length := by omega
    rw [List.drop_eq_getElem_cons hi]
    simp only [onesOf]
    by_cases c : l[i] = 1
    · rw [if_pos c]
      refine Ev.step (f := fun k => spec_SelectionOf.l0 k l (y ++ [(i : Int)]) ((i + 1 : Nat) : Int)) (fun k => ?_) (ev_eq (ih (i + 1) (y ++ [(i : Int)]) (by omega) (by simp; omega)) (by simp))
      simp only [spec_SelectionOf.l0]
      rw [if_pos (by omega), if_pos (by omega), rd_nat l hi, if_pos c, if_pos (by omega), wrap_succ hi (by omega)]
    · rw [if_neg c]
      refine Ev.step (f := fun k => spec_SelectionOf.l0 k l y ((i + 1 : Nat) : Int)) (fun k => ?_) (ev_eq (ih (i + 1) y (by omega) (by omega)) (by simp))
      simp only [spec_SelectionOf.l0]
      rw [if_pos (by omega), if_pos (by omega), rd_nat l hi, if_neg c, wrap_succ hi (by omega)]
def selB (l : List Int) : List Int × Int := if decide ((l.length : Int) ≤ 400) && l.all valB then (onesOf l 0, 0) else ([], 2)
theorem spec_Sel (l : List Int) (hl : l.length ≤ 17592186044415) : Ev (fun k => spec_SelectionOf.f k l) (selB l) := by
  have hL := spec_Sel_loop l hl l.length 0 [] (by omega) (by simp)
  have hj : ∀ x, Ev (fun k => spec_SelectionOf.j0 k l x) (if x then ([], 2) else (onesOf l 0, 0)) := fun x => by
    refine Ev.step (f := fun k => if x = true then some ([], 2) else spec_SelectionOf.l0 k l [] 0) (fun k => by simp only [spec_SelectionOf.j0]) ?_
    cases x with
    | true => simpa using Ev.now (([] : List Int), (2 : Int))
    | false => simpa using hL
  simp only [spec_SelectionOf.f, selB]
  by_cases c : (l.length : Int) > 400
  · simp only [if_pos c]; refine ev_eq (hj true) ?_; rw [decide_eq_false (by omega)]; rfl
  · simp only [if_neg c]
    refine Ev.bind (spec_Values l _ (by omega)) (ev_eq (hj _) ?_)
    rw [decide_eq_true (show (l.length : Int) ≤ 400 by omega)]
    cases l.all valB <;> simp

theorem impl_Sel_loop (l : List Int) (hl : l.length ≤ 17592186044415) : ∀ d i (y : List Int), i + d = l.length → y.length ≤ i → Ev (fun k => impl_SelectionOf.l0 k y l (l.length : Int) (i : Int)) (y ++ onesOf (l.drop i) i, 0) := by
  intro d
  induction d with
  | zero =>
    intro i y h hy
    rw [List.drop_eq_nil_of_le (by omega)]
    exact ev_const fun k => by simp only [impl_SelectionOf.l0]; rw [if_neg (by omega)]; simp [onesOf]
  | succ d ih =>
    intro i y h hy
    have hi : i < l.length := by omega
    rw [List.drop_eq_getElem_cons hi]
    simp only [onesOf]
    by_cases c : l[i] = 1
    · rw [if_pos c]
      refine Ev.step (f := fun k => impl_SelectionOf.l0 k (y ++ [(i : Int)]) l (l.length : Int) ((i + 1 : Nat) : Int)) (fun k => ?_) (ev_eq (ih (i + 1) (y ++ [(i : Int)]) (by omega) (by simp; omega)) (by simp))
      simp only [impl_SelectionOf.l0]
      rw [if_pos (by omega), if_pos (by omega), if_pos (by omega), rd_nat l hi, if_pos c, if_pos (by omega), wrap_succ hi (by omega)]
    · rw [if_neg c]
      refine Ev.step (f := fun k => impl_SelectionOf.l0 k y l (l.length : Int) ((i + 1 : Nat) : Int)) (fun k => ?_) (ev_eq (ih (i + 1) y (by omega) (by omega)) (by simp))
      simp only [impl_SelectionOf.l0]
      rw [if_pos (by omega), if_pos (by omega), if_pos (by omega), rd_nat l hi, if_neg c, wrap_succ hi (by omega)]
theorem impl_Sel (l : List Int) (hl : l.length ≤ 17592186044415) : Ev (fun k => impl_SelectionOf.f k l) (selB l) := by
  have hL := impl_Sel_loop l hl l.length 0 [] (by omega) (by simp)
  have hj : ∀ x, Ev (fun k => impl_SelectionOf.j0 k l x) (if x then ([], 2) else (onesOf l 0, 0)) := fun x => by
    refine Ev.step (f := fun k => if x = true then some ([], 2) else impl_SelectionOf.l0 k [] l (l.length : Int) 0) (fun k => by simp only [impl_SelectionOf.j0]) ?_
    cases x with
    | true => simpa using Ev.now (([] : List Int), (2 : Int))
    | false => simpa using hL
  simp only [impl_SelectionOf.f, selB]
  by_cases c : (l.length : Int) > 400
  · simp only [if_pos c]; refine ev_eq (hj true) ?_; rw [decide_eq_false (by omega)]; rfl
  · simp only [if_neg c, impl_Values, Option.bind_some]
    refine ev_eq (hj _) ?_
    rw [decide_eq_true (show (l.length : Int) ≤ 400 by omega)]
    cases l.all valB <;> simp

theorem impl_sat_loop (l : List (List Int)) (v : List Int) (hl : longL l) (ok : ∀ c ∈ l, ∀ x ∈ c, okLit v x) : ∀ d i, i + d = l.length → Ev (fun k => impl_Satisfies.l0 k v l (l.length : Int) (i : Int)) ((l.drop i).all (fun c => (weighB v c 0 0).1)) := by
  intro d
  induction d with
  | zero =>
    intro i h
    rw [List.drop_eq_nil_of_le (by omega)]
    exact ev_const fun k => by simp only [impl_Satisfies.l0]; rw [if_neg (by omega)]; rfl
  | succ d ih =>
    intro i h
    have hi : i < l.length := by omega
    rw [List.drop_eq_getElem_cons hi, List.all_cons]
    refine Ev.step (f := fun k => (impl_weigh.f k v l[i]).bind fun t => if t.1 = true then impl_Satisfies.l0 k v l (l.length : Int) ((i + 1 : Nat) : Int) else some false) (fun k => ?_) (Ev.bind (impl_weigh_ev v l[i] (hl.2 _ (List.getElem_mem hi)) (ok _ (List.getElem_mem hi))) ?_)
    · simp only [impl_Satisfies.l0]
      rw [if_pos (by omega), if_pos (by omega), if_pos (by omega), rdr_nat l hi, wrap_succ hi hl.1]
    · cases (weighB v l[i] 0 0).1 with
      | true => simpa using ih (i + 1) (by omega)
      | false => simpa using Ev.now false
theorem impl_Satisfies_ev (n : Int) (l : List (List Int)) (v : List Int) (hl : longL l) : Ev (fun k => impl_Satisfies.f k n l v) (satB n l v) := by
  have hj : Ev (fun k => impl_Satisfies.j0 k v true n l) false := ev_const fun k => by simp [impl_Satisfies.j0]
  simp only [impl_Satisfies.f]
  refine Ev.bind (impl_IsFormula_ev n l hl) ?_
  unfold satB
  cases h1 : formulaB n l with
  | false => simpa using hj
  | true =>
    simp only [if_true, impl_Values, Option.bind_some, Bool.true_and]
    show Ev (fun k => impl_Satisfies.j0 k v (!asgB n v) n l) _
    cases h2 : asgB n v with
    | false => simpa using hj
    | true =>
      refine Ev.step (f := fun k => impl_Satisfies.l0 k v l (l.length : Int) 0) (fun k => by simp [impl_Satisfies.j0]) ?_
      simpa using impl_sat_loop l v hl (okClauses h1 h2) l.length 0 (by omega)


theorem weighB_first (v : List Int) : ∀ (c : List Int) (o f : Int), (weighB v c o f).1 = false → (weighB v c o f).2.2 = f ∨ ((weighB v c o f).2.2 ∈ c ∧ stateI v (weighB v c o f).2.2 = -1)
  | [], o, f, _ => .inl rfl
  | x :: xs, o, f, h => by
    unfold weighB at h ⊢
    by_cases c1 : stateI v x = 1
    · rw [if_pos c1] at h; cases h
    rw [if_neg c1] at h ⊢
    by_cases c2 : stateI v x = -1
    · rw [if_pos c2] at h ⊢
      rcases weighB_first v xs _ _ h with e | ⟨e1, e2⟩
      · by_cases c0 : o = 0
        · rw [if_pos c0] at e ⊢; rw [e]; exact .inr ⟨List.mem_cons_self, c2⟩
        · rw [if_neg c0] at e ⊢; exact .inl e
      · exact .inr ⟨List.mem_cons_of_mem _ e1, e2⟩
    · rw [if_neg c2] at h ⊢
      rcases weighB_first v xs _ _ h with e | ⟨e1, e2⟩
      · exact .inl e
      · exact .inr ⟨List.mem_cons_of_mem _ e1, e2⟩
theorem weighB_open (v : List Int) : ∀ (c : List Int) (o f : Int), 0 ≤ o → o + (c.length : Int) ≤ 1000000 → (weighB v c o f).1 = false → (weighB v c o f).2.1 = o ∨ o < (weighB v c o f).2.1 ∧ (o = 0 → (weighB v c o f).2.2 ∈ c ∧ stateI v (weighB v c o f).2.2 = -1)
  | [], o, f, _, _, _ => .inl rfl
  | x :: xs, o, f, h0, hb, h => by
    simp only [List.length_cons] at hb
    unfold weighB at h ⊢
    by_cases c1 : stateI v x = 1
    · rw [if_pos c1] at h; cases h
    rw [if_neg c1] at h ⊢
    by_cases c2 : stateI v x = -1
    · rw [if_pos c2] at h ⊢
      have ew : wrap64 (o + 1) = o + 1 := wrap_id (by omega) (by omega)
      rw [ew] at h ⊢
      have hf := weighB_first v xs (o + 1) (if o = 0 then x else f) h
      have ho := weighB_open v xs (o + 1) (if o = 0 then x else f) (by omega) (by omega) h
      refine .inr ⟨by rcases ho with e | e <;> omega, fun z => ?_⟩
      rcases hf with e | ⟨e1, e2⟩
      · rw [if_pos z] at e ⊢; rw [e]; exact ⟨List.mem_cons_self, c2⟩
      · exact ⟨List.mem_cons_of_mem _ e1, e2⟩
    · rw [if_neg c2] at h ⊢
      rcases weighB_open v xs o f h0 (by omega) h with e | ⟨e1, e2⟩
      · exact .inl e
      · exact .inr ⟨e1, fun z => ⟨List.mem_cons_of_mem _ (e2 z).1, (e2 z).2⟩⟩
theorem gatherI_mem {α : Type} (q : Int → α → Option Int) : ∀ (l : List α) (i n : Int), n ∈ gatherI q l i → ∃ c ∈ l, ∃ j, q j c = some n
  | [], _, _, h => absurd h List.not_mem_nil
  | x :: xs, i, n, h => by
    simp only [gatherI, List.mem_append] at h
    rcases h with h | h
    · cases e : q i x with
      | none => rw [e] at h; exact absurd h List.not_mem_nil
      | some y => rw [e] at h; simp at h; subst h; exact ⟨x, List.mem_cons_self, i, e⟩
    · obtain ⟨c, hc, j, hj⟩ := gatherI_mem q xs (i + 1) n h
      exact ⟨c, List.mem_cons_of_mem _ hc, j, hj⟩
/-- A literal that is open: its variable has no value. -/
theorem state_open {v : List Int} {x : Int} (ha : ∀ y ∈ v, valB y = true) (h : okLit v x) (hs : stateI v x = -1) : rd v (absI x - 1) = -1 := by
  have hm := ha _ (rd_mem (L := v) (p := absI x - 1) (by have := h.2.1; omega) (by have := h.2.2; omega))
  unfold stateI at hs
  generalize rd v (absI x - 1) = y at hs hm
  simp only [valB, Bool.and_eq_true, decide_eq_true_eq] at hm
  by_cases c : y ≥ 0
  · rw [if_pos c] at hs
    by_cases d : x < 0
    · rw [if_pos d, wrap_id (by omega) (by omega)] at hs; omega
    · rw [if_neg d] at hs; omega
  · rw [if_neg c] at hs; exact hs
theorem unit_open {n : Int} {l : List (List Int)} {v : List Int} (hsm : ∀ c ∈ l, c.length ≤ 7) (h0 : fcodeB n l v = 0) : ∀ x ∈ (unitB n l v).1, okLit v x ∧ rd v (absI x - 1) = -1 := by
  intro x hx
  have hva : ∀ y ∈ v, valB y = true := by
    unfold fcodeB at h0
    cases c1 : formulaB n l with
    | false => rw [c1] at h0; simp at h0
    | true =>
      rw [c1] at h0
      cases c2 : asgB n v with
      | false => rw [c2] at h0; simp at h0
      | true => simp only [asgB, Bool.and_eq_true] at c2; exact List.all_eq_true.1 c2.1
  obtain ⟨_, ok⟩ := fcodeB_zero h0
  unfold unitB at hx
  rw [if_pos h0] at hx
  obtain ⟨c, hc, j, hj⟩ := gatherI_mem _ _ _ _ hx
  unfold unitBq at hj
  cases c1 : (weighB v c 0 0).1 with
  | true => rw [c1] at hj; simp at hj
  | false =>
    rw [c1] at hj
    simp only [Bool.false_eq_true, if_false] at hj
    by_cases c2 : (weighB v c 0 0).2.1 = 1
    · rw [if_pos c2] at hj
      rcases weighB_open v c 0 0 (by omega) (by have := hsm c hc; omega) c1 with e | ⟨_, e⟩
      · omega
      · obtain ⟨e1, e2⟩ := e rfl
        have e3 := Option.some.inj hj
        rw [e3] at e1 e2
        exact ⟨ok c hc x e1, state_open hva (ok c hc x e1) e2⟩
    · rw [if_neg c2] at hj; cases hj
theorem gatherI_false {v : List Int} {l : List (List Int)} : ∀ (i : Int), gatherI (falseBq v) l i ≠ [] → l.all (fun c => (weighB v c 0 0).1) = false := by
  induction l with
  | nil => intro i h; exact absurd rfl h
  | cons c l ih =>
    intro i h
    rw [List.all_cons]
    cases c1 : (weighB v c 0 0).1 with
    | false => rfl
    | true =>
      rw [Bool.true_and]
      refine ih (i + 1) (fun e => h ?_)
      simp only [gatherI, falseBq, c1, if_true, Option.toList_none, List.nil_append]
      exact e
theorem units_loop (n : Int) (l : List (List Int)) (v u x : List Int) (hl : longL l) (hu : u.length ≤ 9223372036854775807) (hok : ∀ y ∈ u, okLit v y ∧ rd v (absI y - 1) = -1) (hx : x.length ≠ 0 → satB n l v = false) : ∀ d i, i + d = u.length → Ev (fun k => laws_FnUnits.l0 k v u x (i : Int) n l) true := by
  intro d
  induction d with
  | zero =>
    intro i h
    by_cases c : (x.length : Int) = 0
    · exact ev_const fun k => by simp only [laws_FnUnits.l0]; rw [if_neg (by omega), if_pos c]
    · refine Ev.step (f := fun k => (impl_Satisfies.f k n l v).bind fun t => some (!t)) (fun k => by simp only [laws_FnUnits.l0]; rw [if_neg (by omega), if_neg c]) ?_
      refine Ev.bind (impl_Satisfies_ev n l v hl) (ev_eq (Ev.now _) ?_)
      rw [hx (by omega)]; rfl
  | succ d ih =>
    intro i h
    have hi : i < u.length := by omega
    obtain ⟨⟨h1, h2, h3⟩, h4⟩ := hok _ (List.getElem_mem hi)
    refine Ev.step (fun k => ?_) (ih (i + 1) (by omega))
    simp only [laws_FnUnits.l0]
    rw [if_pos (by omega), if_pos (by omega), rd_nat u hi, wrap_succ hi hu]
    by_cases c : u[i] < 0
    · have e : absI u[i] = -u[i] := by unfold absI; rw [if_pos c]
      have e2 : wrap64 (wrap64 (-u[i]) - 1) = absI u[i] - 1 := by rw [wrap_id (x := -u[i]) (by omega) (by omega), wrap_id (by omega) (by omega)]; omega
      rw [if_pos c, e2, if_pos (by omega), if_pos (by omega), if_pos h4]
    · have e : absI u[i] = u[i] := by unfold absI; rw [if_neg c]
      have e2 : wrap64 (u[i] - 1) = absI u[i] - 1 := by rw [wrap_id (by omega) (by omega)]; omega
      rw [if_neg c, e2, if_pos (by omega), if_pos (by omega), if_pos h4]
theorem pure : laws_FnUnits.Pure := by
  intro L ⟨hL, hw⟩
  refine Ev.rounds (r := true) ?_
  simp only [laws_FnUnits.f, laws_big.f, Option.bind_some]
  by_cases c0 : (L.length : Int) > 4096
  · simp only [decide_eq_true c0, if_true]; exact Ev.now _
  simp only [decide_eq_false c0, Bool.false_eq_true, if_false]
  have hb : ∀ x ∈ L, 0 ≤ x ∧ x ≤ 255 := fun x hx => byte_of (hw x hx)
  obtain ⟨⟨n, l, v⟩, hD, ⟨hl1, hl2⟩, hv⟩ := drawUnits L (by omega) hb
  obtain ⟨t, hT, ht⟩ := drawSelection20 L (by omega) hb
  replace hl1 : l.length ≤ 15 := hl1
  replace hv : v.length ≤ 501 := hv
  replace hl2 : ∀ c ∈ l, c.length ≤ 7 := hl2
  have hl : longL l := ⟨by omega, fun x hx => by have := hl2 x hx; omega⟩
  refine Ev.bind hD ?_
  have hU := unitB_len n l v
  have hF := falseB_len n l v
  refine Ev.bind (impl_UnitLiterals_ev n l v hl) (Ev.bind (spec_UnitLiterals_ev n l v hl (by omega)) (Ev.bind (impl_FalseClauses_ev n l v hl) (Ev.bind (spec_FalseClauses_ev n l v hl (by omega)) (Ev.bind hT ?_))))
  refine Ev.bind (impl_Sel t (by omega)) (Ev.bind (spec_Sel t (by omega)) ?_)
  simp only [if_true]
  refine Ev.bind (likeInts _ (by omega)) ?_
  simp only [if_true]
  refine Ev.bind (likeInts _ (by omega)) ?_
  simp only [if_true]
  have hs : (selB t).1.length ≤ 501 := by
    unfold selB
    have := onesOf_length t 0
    split <;> simp <;> omega
  refine Ev.bind (likeInts _ (by omega)) ?_
  simp only [if_true]
  by_cases c : (unitB n l v).2 = 0
  · simp only [if_pos c]
    have h0 : fcodeB n l v = 0 := by
      unfold unitB at c
      by_cases h : fcodeB n l v = 0
      · exact h
      · rw [if_neg h] at c; exact c
    refine ev_eq (units_loop n l v _ _ hl (by omega) (unit_open hl2 h0) (fun hx => ?_) _ 0 (Nat.zero_add _)) rfl
    unfold satB
    have hg : gatherI (falseBq v) l 0 ≠ [] := fun e => hx (by unfold falseB; rw [if_pos h0, e]; rfl)
    rw [gatherI_false 0 hg]; simp
  · simp only [if_neg c]; exact Ev.now true

end Go.Proofs.Ytcolaakpjdhinaa.XFnUnits
namespace Go.Proofs.Ytcolaakpjdhinaa
/-- The law FnUnits returns true at every code: what it draws is small, and unit literals are open. Conditions: none. -/
theorem fnUnits_holds : Rows.FnUnitsSaid := fnUnits.of_pure XFnUnits.pure
#print axioms fnUnits_holds
end Go.Proofs.Ytcolaakpjdhinaa
