/- append(append(append([]T{}, l[:i]...), x), l[i:]...), T of one cell: its operations in any order, and the cells of the new row. -/
import Derived.Test.YtcbpbdhglblagaaDoorPool
namespace Go.Proofs.YtcbpbdhglblagaaDoorW.PrintLast
open Go.RowKit Go.Proofs.YtcbpbdhglblagaaDoorW.PrintWords
set_option linter.unusedVariables false
set_option linter.unusedSimpArgs false
section
variable {P : Program} {ops : Array Oper} {Q : Exit → Act → World → Prop} {md : Region.Mode} {S : World → Prop} {ds : List Nat}
theorem alloc_size_ (w : World) (o : Obj) : (w.alloc o).heap.size = w.heap.size + 1 := Array.size_push ..
theorem app_run {W : World} (base : Nat) (t ty e : TypeId) (z : Value) (bytes : Nat) (ht : P.underlying t = some (.slice e)) (hinfo : (P.info? e).map (fun i => (i.zero, i.size, i.bytes)) = some (some z, 1, bytes)) (hz : z.cells.size = 1) (hb0 : 0 < bytes)
    (v : Value) (n : Nat) (xs : List Value) (hown : W.ownsRow base e 1 v n xs) (A : Option Addr) (m c : Nat) (news : List Value) (hl : news.length = m) (hc : ∀ j u, news[j]? = some u → ∃ ad, A = some ad ∧ W.cell? (ad.add j) = some u) (h1 : ∀ u ∈ news, u.oneCell' = true)
    (hbytes : (n + m) * bytes ≤ 140737488355328) (hbase : base ≤ W.heap.size) :
    ∃ v' w', (Builtin.append_ #[t, t] ty #[v, .slice A m c]).run P W = .ok v' w' ∧ w'.ownsRow base e 1 v' (n + m) (xs ++ news) ∧ W.grownBy w' v.ownBlock ∧ (v'.ownBlock = v.ownBlock ∨ v'.ownBlock = some W.heap.size) := by
  obtain ⟨i0, hi, hzz⟩ := Option.map_eq_some_iff.1 hinfo
  simp only [Prod.mk.injEq] at hzz
  obtain ⟨hz0, hz1, hz2⟩ := hzz
  have hlen : n + m ≤ 140737488355328 := Nat.le_trans (Nat.le_mul_of_pos_right _ hb0) hbytes
  rcases A with _ | ad
  · have h0 : news = [] := by
      cases news with
      | nil => rfl
      | cons u r => obtain ⟨ad, h, _⟩ := hc 0 u rfl; cases h
    subst h0
    obtain rfl : m = 0 := hl.symm
    refine ⟨v, W, ?_, by rw [List.append_nil]; exact hown, World.grownBy.refl W _, .inl rfl⟩
    rcases hown.2 with ⟨rfl, hn⟩ | ⟨g, cap, cur, rfl, _, _, hnc, _⟩
    · simp [Builtin.append_, run_underlying ht, sizeOf, typeInfo, hi, Builtin.lenOf, Builtin.firstCells]
    · simp [Builtin.append_, run_underlying ht, sizeOf, typeInfo, hi, Builtin.lenOf, Builtin.firstCells, hnc, storeCells]
  · obtain ⟨v1, w1, hrun, h2, hg, _, hat⟩ := run_append_own_at (P := P) W base t ty e i0 z 1 bytes ht hi hz0 hz1 hz2 hz (by omega) v n xs hown ad m c news (by rw [hl, Nat.mul_one]) (fun j u hj => by obtain ⟨ad', h, h'⟩ := hc j u hj; injection h with h; subst h; exact h') h1 (by simp only [maxLen]; omega) hbytes hbase
    exact ⟨v1, w1, hrun, h2, hg, hat⟩
theorem app_step_ {oi : Oper} {a : Act} {W : World} {K : Act → World → Prop} (base : Nat) (s x : Operand) (t e : TypeId) (z : Value) (bytes : Nat) (hw : Region.wanted oi (yielded ops a.tmps) = true) {N : Option Tmp} (hN : oi.dst = N)
    (ho : oi.op = .call { callee := .builtin .append, args := #[s, x], argTypes := #[t, t] }) (ht : P.underlying t = some (.slice e)) (hinfo : (P.info? e).map (fun i => (i.zero, i.size, i.bytes)) = some (some z, 1, bytes)) (hz : z.cells.size = 1) (hb0 : 0 < bytes)
    (v : Value) (n : Nat) (xs : List Value) (hown : W.ownsRow base e 1 v n xs) (A : Option Addr) (m c : Nat) (news : List Value) (hl : news.length = m) (hc : ∀ j u, news[j]? = some u → ∃ ad, A = some ad ∧ W.cell? (ad.add j) = some u) (h1 : ∀ u ∈ news, u.oneCell' = true)
    (hbytes : (n + m) * bytes ≤ 140737488355328) (hbase : base ≤ W.heap.size) (hs : a.eval s = v) (hx : a.eval x = .slice A m c)
    (h : ∀ v' w', w'.ownsRow base e 1 v' (n + m) (xs ++ news) → W.grownBy w' v.ownBlock → (v'.ownBlock = v.ownBlock ∨ v'.ownBlock = some W.heap.size) → K (a.put N v') w') : if Region.wanted oi (yielded ops a.tmps) = true then Oper.wp P oi a W K Q else K (a.put N undef) W := by
  obtain ⟨v1, w1, hr, h2, h3, h4⟩ := app_run (P := P) base t oi.type e z bytes ht hinfo hz hb0 v n xs hown A m c news hl hc h1 hbytes hbase
  subst hN
  rw [if_pos hw]
  unfold Oper.wp execOp
  simp only [ho, resolve, invoke, builtin, Sem.run_bind, Sem.run_pure, Result.andThen_ok, List.map_toArray, List.map_cons, List.map_nil, hs, hx, hr]
  exact h v1 w1 h2 h3 h4
/-- How far the operations are: what their slices hold. -/
def InsI (a0 : Act) (w : World) (e : TypeId) (T D : List Value) (vx : Value) (i0 i4 i6 i7 i11 : Nat) (t0 t4 t6 t7 t11 : Tmp) (b : Nat → Bool) (a' : Act) (w' : World) : Prop :=
  ∃ v0 v4 v6 v7 v11 : Value, a' = putSel a0 b [(i0, t0, v0), (i4, t4, v4), (i6, t6, v6), (i7, t7, v7), (i11, t11, v11)] ∧ Below w.heap.size w w' ∧ (b i0 = true → b i4 = false → w'.ownsRow w.heap.size e 1 v0 0 []) ∧ (b i4 = true → b i7 = false → w'.ownsRow w.heap.size e 1 v4 T.length T) ∧
    (b i6 = true → b i7 = false → ∃ g, v6 = .slice (some ⟨g, 0, none⟩) 1 1 ∧ g < w'.heap.size ∧ w'.heap[g]? = some (.cells #[vx] e (0, 0)) ∧ (b i0 = true → b i4 = false → some g ≠ v0.ownBlock) ∧ (b i4 = true → some g ≠ v4.ownBlock)) ∧
    (b i7 = true → b i11 = false → w'.ownsRow w.heap.size e 1 v7 (T.length + 1) (T ++ [vx])) ∧ (b i11 = true → w'.ownsRow w.heap.size e 1 v11 (T.length + 1 + D.length) (T ++ [vx] ++ D))
def insNeed (i0 i4 i6 i7 i11 : Nat) (i : Nat) : List Nat := if i = i4 then [i0] else if i = i7 then [i4, i6] else if i = i11 then [i7] else []
theorem own_lt {w : World} {base : Nat} {e : TypeId} {size n : Nat} {v : Value} {xs : List Value} (h : w.ownsRow base e size v n xs) (k : Nat) (hk : v.ownBlock = some k) : k < w.heap.size := by
  obtain ⟨cells, hc⟩ := own_typed h k hk
  exact (Array.getElem?_eq_some_iff.1 hc).1
theorem ins_ {l : Array Bool} {fuel : Nat} {a : Act} {w : World} (l0 l1 : List Bool) (i0 i4 i6 i7 i11 : Nat) (t0 t4 t6 t7 t11 t3 t10 t5 : Tmp) (n : Nat) (t e : TypeId) (z : Value) (bytes : Nat) (T D : List Value) (vx : Value) (A3 A10 : Option Addr) (c3 c10 : Nat) {o0 o4 o6 o7 o11 : Oper}
    (e3 : a.tmps[t3]? = some (.slice A3 T.length c3)) (e10 : a.tmps[t10]? = some (.slice A10 D.length c10)) (e5 : a.tmps[t5]? = some vx)
    (hc3 : ∀ j u, T[j]? = some u → ∃ ad, A3 = some ad ∧ w.cell? (ad.add j) = some u) (hc10 : ∀ j u, D[j]? = some u → ∃ ad, A10 = some ad ∧ w.cell? (ad.add j) = some u) (h1 : ∀ u ∈ T ++ [vx] ++ D, u.oneCell' = true) (hbytes : (T.length + 1 + D.length) * bytes ≤ 140737488355328)
    (hS : ∀ w', Below w.heap.size w w' → S w')
    (h : ∀ v0 v4 v6 v7 v11 w', Below w.heap.size w w' → w'.ownsRow w.heap.size e 1 v11 (T.length + 1 + D.length) (T ++ [vx] ++ D) → wpAnyLast P md ops Q S ds n l1.toArray (putSel a (fun _ => true) [(i0, t0, v0), (i4, t4, v4), (i6, t6, v6), (i7, t7, v7), (i11, t11, v11)]) w')
    (g0 : ops[i0]? = some o0 := by exact rfl) (g4 : ops[i4]? = some o4 := by exact rfl) (g6 : ops[i6]? = some o6 := by exact rfl) (g7 : ops[i7]? = some o7 := by exact rfl) (g11 : ops[i11]? = some o11 := by exact rfl)
    (d0 : o0.dst = some t0 := by exact rfl) (d4 : o4.dst = some t4 := by exact rfl) (d6 : o6.dst = some t6 := by exact rfl) (d7 : o7.dst = some t7 := by exact rfl) (d11 : o11.dst = some t11 := by exact rfl)
    (q0 : ∀ y, Region.wanted o0 y = true := by exact fun _ => rfl) (q4 : ∀ y, Region.wanted o4 y = true := by exact fun _ => rfl) (q6 : ∀ y, Region.wanted o6 y = true := by exact fun _ => rfl) (q7 : ∀ y, Region.wanted o7 y = true := by exact fun _ => rfl) (q11 : ∀ y, Region.wanted o11 y = true := by exact fun _ => rfl)
    (r0 : ∀ (ρ : Operand → Value) (W : World), (execOp ρ o0).run P W = .ok (.value (.slice (some ⟨W.heap.size, 0, none⟩) 0 0)) (W.alloc (.cells #[] e)) := by (intro ρ W; go_simp; first | done | rfl | (constructor <;> rfl)))
    (r6 : ∀ (ρ : Operand → Value) (W : World), ρ (.tmp t5) = vx → (execOp ρ o6).run P W = .ok (.value (.slice (some ⟨W.heap.size, 0, none⟩) 1 1)) (W.alloc (.cells #[vx] e)) := by (intro ρ W hx_; simp only [execOp, List.map_toArray, List.map_cons, List.map_nil, hx_]; go_simp; first | done | rfl | (constructor <;> rfl)))
    (p4 : o4.op = .call { callee := .builtin .append, args := #[.tmp t0, .tmp t3], argTypes := #[t, t] } := by exact rfl) (p7 : o7.op = .call { callee := .builtin .append, args := #[.tmp t4, .tmp t6], argTypes := #[t, t] } := by exact rfl) (p11 : o11.op = .call { callee := .builtin .append, args := #[.tmp t7, .tmp t10], argTypes := #[t, t] } := by exact rfl)
    (ht : P.underlying t = some (.slice e) := by kernel_rfl) (hinfo : (P.info? e).map (fun i => (i.zero, i.size, i.bytes)) = some (some z, 1, bytes) := by kernel_rfl) (hz : z.cells.size = 1 := by decide) (hb0 : 0 < bytes := by decide)
    (hO : [i0, i4, i6, i7, i11].Nodup := by decide) (hT : [t0, t4, t6, t7, t11].Nodup := by decide) (hF : ([t0, t4, t6, t7, t11].all fun x => !(x == t3) && !(x == t10) && !(x == t5)) = true := by decide) (hZ : ([t0, t4, t6, t7, t11].all fun x => Nat.ble (x + 1) a.tmps.size) = true := by exact rfl)
    (hc : poolB md ops l0 l1 [i0, i4, i6, i7, i11] (insNeed i0 i4 i6 i7 i11) = true := by kernel_rfl) (hl : (msk l0 [i0, i4, i6, i7, i11] (fun _ => false) == l.toList && 5 + n == fuel) = true := by kernel_rfl) :
    wpAnyLast P md ops Q S ds fuel l a w := by
  simp only [List.nodup_cons, List.mem_cons, List.not_mem_nil, or_false, not_or, List.nodup_nil, and_true, not_false_eq_true] at hO hT
  obtain ⟨⟨n04, n06, n07, n011⟩, ⟨n46, n47, n411⟩, ⟨n67, n611⟩, n711⟩ := hO
  obtain ⟨⟨m04, m06, m07, m011⟩, ⟨m46, m47, m411⟩, ⟨m67, m611⟩, m711⟩ := hT
  simp only [List.all_cons, List.all_nil, Bool.and_true, Bool.and_eq_true, Bool.not_eq_true', beq_eq_false_iff_ne, ne_eq] at hF hZ
  obtain ⟨⟨⟨f03, f010⟩, f05⟩, ⟨⟨f43, f410⟩, f45⟩, ⟨⟨f63, f610⟩, f65⟩, ⟨⟨f73, f710⟩, f75⟩, ⟨⟨f113, f1110⟩, f115⟩⟩ := hF
  obtain ⟨z0, z4, z6, z7, z11⟩ := hZ
  have src : ∀ {L : List Value} {A : Option Addr} {w' : World}, (∀ j u, L[j]? = some u → ∃ ad, A = some ad ∧ w.cell? (ad.add j) = some u) → Below w.heap.size w w' → ∀ j u, L[j]? = some u → ∃ ad, A = some ad ∧ w'.cell? (ad.add j) = some u := by
    intro L A w' hL hB j u hj
    obtain ⟨ad, h1, h2⟩ := hL j u hj
    exact ⟨ad, h1, (hB.cell (World.block_lt_of_cell? w _ h2)).trans h2⟩
  refine pool_at l0 l1 [i0, i4, i6, i7, i11] (insNeed i0 i4 i6 i7 i11) n (fun a0 b a' w' => InsI a0 w e T D vx i0 i4 i6 i7 i11 t0 t4 t6 t7 t11 b a' w') hc hl ?_ ?_ ?_ ?_
  · exact ⟨undef, undef, undef, undef, undef, rfl, Below.refl _ _, (fun h => by cases h), (fun h => by cases h), (fun h => by cases h), (fun h => by cases h), (fun h => by cases h)⟩
  · rintro b a' w' ⟨_, _, _, _, _, _, hB, _⟩
    exact hS w' hB
  · have need4 : insNeed i0 i4 i6 i7 i11 i4 = [i0] := by simp [insNeed]
    have need7 : insNeed i0 i4 i6 i7 i11 i7 = [i4, i6] := by simp [insNeed, Ne.symm n47]
    have need11 : insNeed i0 i4 i6 i7 i11 i11 = [i7] := by simp [insNeed, Ne.symm n411, Ne.symm n711]
    refine pool_cons ?_ (pool_cons ?_ (pool_cons ?_ (pool_cons ?_ (pool_cons ?_ pool_nil))))
    · intro b a' w' hI hb hne hcl
      obtain ⟨v0, v4, v6, v7, v11, rfl, hB, h0, h4, h6, h7, h11⟩ := hI
      have b4 : b i4 = false := by
        cases q : b i4 with
        | false => rfl
        | true => exact absurd (hcl i4 (by simp) q i0 (by rw [need4]; simp)) (by rw [hb]; decide)
      have b7 : b i7 = false := by
        cases q : b i7 with
        | false => rfl
        | true => exact absurd (hcl i7 (by simp) q i4 (by rw [need7]; simp)) (by rw [b4]; decide)
      have b11 : b i11 = false := by
        cases q : b i11 with
        | false => rfl
        | true => exact absurd (hcl i11 (by simp) q i7 (by rw [need11]; simp)) (by rw [b7]; decide)
      refine ⟨o0, g0, fun K hK => value_ (q0 _) rfl (r0 _ _) ?_⟩
      rw [d0]
      refine hK.out _ _ ⟨.slice (some ⟨w'.heap.size, 0, none⟩) 0 0, v4, v6, v7, v11, putSel_upk 0 hb rfl rfl (by simp [n04, n06, n07, n011, m04, m06, m07, m011, Ne.symm n04, Ne.symm n06, Ne.symm n07, Ne.symm n011, Ne.symm m04, Ne.symm m06, Ne.symm m07, Ne.symm m011]), below_alloc hB _, fun _ _ => ?_, fun q => ?_, fun q q7 => ?_, fun q => ?_, fun q => ?_⟩
      · have := World.ownsRow_lit (base := w.heap.size) (e := e) (size := 1) w' #[] 0 hB.size (by simp [maxLen]) rfl
        simpa using this
      · rw [up_ne (Ne.symm n04), b4] at q; cases q
      · rw [up_ne (Ne.symm n06)] at q
        obtain ⟨g, hv, hlt, hh, k0, k4⟩ := h6 q b7
        refine ⟨g, hv, Nat.lt_of_lt_of_le hlt (by rw [alloc_size_]; omega), (blk_below hh (below_alloc (Below.refl _ _) _)), fun _ _ he => ?_, fun q4 => ?_⟩
        · have : g = w'.heap.size := by simpa [Value.ownBlock] using he
          omega
        · rw [up_ne (Ne.symm n04), b4] at q4; cases q4
      · rw [up_ne (Ne.symm n07), b7] at q; cases q
      · rw [up_ne (Ne.symm n011), b11] at q; cases q
    · intro b a' w' hI hb hne hcl
      obtain ⟨v0, v4, v6, v7, v11, rfl, hB, h0, h4, h6, h7, h11⟩ := hI
      have b0 : b i0 = true := hne i0 (by rw [need4]; simp)
      have b7 : b i7 = false := by
        cases q : b i7 with
        | false => rfl
        | true => exact absurd (hcl i7 (by simp) q i4 (by rw [need7]; simp)) (by rw [hb]; decide)
      have b11 : b i11 = false := by
        cases q : b i11 with
        | false => rfl
        | true => exact absurd (hcl i11 (by simp) q i7 (by rw [need11]; simp)) (by rw [b7]; decide)
      have own := h0 b0 hb
      refine ⟨o4, g4, fun K hK => ?_⟩
      refine app_step_ (P := P) w.heap.size (.tmp t0) (.tmp t3) t e z bytes (q4 _) rfl p4 ht hinfo hz hb0 v0 0 [] own A3 T.length c3 T rfl (src hc3 hB) (fun u hu => h1 u (by simp [hu])) (Nat.le_trans (Nat.mul_le_mul_right _ (by omega)) hbytes) hB.size ?_ ?_ ?_
      · exact eval_of (putSel_on (e := (i0, t0, v0)) 0 rfl (by simp [Ne.symm m04, Ne.symm m06, Ne.symm m07, Ne.symm m011]) b0 z0)
      · exact eval_of ((putSel_off (by simp [f03, f43, f63, f73, f113])).trans e3)
      · intro v' w1 ho hg hat
        rw [d4]
        have hB1 : Below w.heap.size w w1 := hB.grown hg hB.size (own_base own)
        refine hK.out _ _ ⟨v0, v', v6, v7, v11, putSel_upk 1 hb rfl rfl (by simp [n04, n46, n47, n411, m04, m46, m47, m411, Ne.symm n04, Ne.symm n46, Ne.symm n47, Ne.symm n411, Ne.symm m04, Ne.symm m46, Ne.symm m47, Ne.symm m411]), hB1, fun _ q => ?_, fun _ _ => ?_, fun q q7 => ?_, fun q => ?_, fun q => ?_⟩
        · rw [up_self] at q; cases q
        · simpa using ho
        · rw [up_ne (Ne.symm n46)] at q
          obtain ⟨g, hv, hlt, hh, k0, k4⟩ := h6 q b7
          have k0' := k0 b0 hb
          refine ⟨g, hv, Nat.lt_of_lt_of_le hlt hg.size, (hg.block g hlt k0').trans hh, fun _ q4 => ?_, fun _ he => ?_⟩
          · rw [up_self] at q4; cases q4
          · rcases hat with hat | hat
            · exact k0' (he.trans hat)
            · rw [hat] at he; injection he with he; omega
        · rw [up_ne (Ne.symm n47), b7] at q; cases q
        · rw [up_ne (Ne.symm n411), b11] at q; cases q
    · intro b a' w' hI hb hne hcl
      obtain ⟨v0, v4, v6, v7, v11, rfl, hB, h0, h4, h6, h7, h11⟩ := hI
      have b7 : b i7 = false := by
        cases q : b i7 with
        | false => rfl
        | true => exact absurd (hcl i7 (by simp) q i6 (by rw [need7]; simp)) (by rw [hb]; decide)
      have b11 : b i11 = false := by
        cases q : b i11 with
        | false => rfl
        | true => exact absurd (hcl i11 (by simp) q i7 (by rw [need11]; simp)) (by rw [b7]; decide)
      refine ⟨o6, g6, fun K hK => value_ (q6 _) rfl (r6 _ _ (eval_of ((putSel_off (by simp [f05, f45, f65, f75, f115])).trans e5))) ?_⟩
      rw [d6]
      have hA : Below w'.heap.size w' (w'.alloc (.cells #[vx] e)) := below_alloc (Below.refl _ _) _
      have mv : ∀ {v : Value} {m : Nat} {xs : List Value}, w'.ownsRow w.heap.size e 1 v m xs → (w'.alloc (.cells #[vx] e)).ownsRow w.heap.size e 1 v m xs := fun ho => own_move ho (fun k hk => hA.block k (own_lt ho k hk))
      refine hK.out _ _ ⟨v0, v4, .slice (some ⟨w'.heap.size, 0, none⟩) 1 1, v7, v11, putSel_upk 2 hb rfl rfl (by simp [n06, n46, n67, n611, m06, m46, m67, m611, Ne.symm n06, Ne.symm n46, Ne.symm n67, Ne.symm n611, Ne.symm m06, Ne.symm m46, Ne.symm m67, Ne.symm m611]), below_alloc hB _, fun q q4 => ?_, fun q q7 => ?_, fun _ _ => ?_, fun q => ?_, fun q => ?_⟩
      · rw [up_ne n06] at q; rw [up_ne n46] at q4; exact mv (h0 q q4)
      · rw [up_ne n46] at q; exact mv (h4 q b7)
      · refine ⟨w'.heap.size, rfl, by rw [alloc_size_]; omega, heap_alloc_new _ _, fun q q4 he => ?_, fun q he => ?_⟩
        · rw [up_ne n06] at q; rw [up_ne n46] at q4
          have := own_lt (h0 q q4) _ he.symm
          omega
        · rw [up_ne n46] at q
          have := own_lt (h4 q b7) _ he.symm
          omega
      · rw [up_ne (Ne.symm n67), b7] at q; cases q
      · rw [up_ne (Ne.symm n611), b11] at q; cases q
    · intro b a' w' hI hb hne hcl
      obtain ⟨v0, v4, v6, v7, v11, rfl, hB, h0, h4, h6, h7, h11⟩ := hI
      have b4 : b i4 = true := hne i4 (by rw [need7]; simp)
      have b6 : b i6 = true := hne i6 (by rw [need7]; simp)
      have b11 : b i11 = false := by
        cases q : b i11 with
        | false => rfl
        | true => exact absurd (hcl i11 (by simp) q i7 (by rw [need11]; simp)) (by rw [hb]; decide)
      have own := h4 b4 hb
      obtain ⟨g, hv, hlt, hh, _, k4⟩ := h6 b6 hb
      subst hv
      refine ⟨o7, g7, fun K hK => ?_⟩
      refine app_step_ (P := P) w.heap.size (.tmp t4) (.tmp t6) t e z bytes (q7 _) rfl p7 ht hinfo hz hb0 v4 T.length T own (some ⟨g, 0, none⟩) 1 1 [vx] rfl ?_ (fun u hu => h1 u (by simp at hu; simp [hu])) (Nat.le_trans (Nat.mul_le_mul_right _ (by omega)) hbytes) hB.size ?_ ?_ ?_
      · intro j u hj
        refine ⟨_, rfl, ?_⟩
        cases j with
        | zero => rw [← hj]; exact (blk_cell hh 0)
        | succ j => simp at hj
      · exact eval_of (putSel_on (e := (i4, t4, v4)) 1 rfl (by simp [Ne.symm m46, Ne.symm m47, Ne.symm m411]) b4 z4)
      · exact eval_of (putSel_on (e := (i6, t6, _)) 2 rfl (by simp [Ne.symm m67, Ne.symm m611]) b6 z6)
      · intro v' w1 ho hg hat
        rw [d7]
        refine hK.out _ _ ⟨v0, v4, _, v', v11, putSel_upk 3 hb rfl rfl (by simp [n07, n47, n67, n711, m07, m47, m67, m711, Ne.symm n07, Ne.symm n47, Ne.symm n67, Ne.symm n711, Ne.symm m07, Ne.symm m47, Ne.symm m67, Ne.symm m711]), hB.grown hg hB.size (own_base own), fun _ q => ?_, fun _ q => ?_, fun _ q => ?_, fun _ _ => ho, fun q => ?_⟩
        · rw [up_ne n47, b4] at q; cases q
        · rw [up_self] at q; cases q
        · rw [up_self] at q; cases q
        · rw [up_ne (Ne.symm n711), b11] at q; cases q
    · intro b a' w' hI hb hne hcl
      obtain ⟨v0, v4, v6, v7, v11, rfl, hB, h0, h4, h6, h7, h11⟩ := hI
      have b7 : b i7 = true := hne i7 (by rw [need11]; simp)
      have b4 : b i4 = true := hcl i7 (by simp) b7 i4 (by rw [need7]; simp)
      have own := h7 b7 hb
      refine ⟨o11, g11, fun K hK => ?_⟩
      refine app_step_ (P := P) w.heap.size (.tmp t7) (.tmp t10) t e z bytes (q11 _) rfl p11 ht hinfo hz hb0 v7 (T.length + 1) (T ++ [vx]) own A10 D.length c10 D rfl (src hc10 hB) (fun u hu => h1 u (by simp [hu])) hbytes hB.size ?_ ?_ ?_
      · exact eval_of (putSel_on (e := (i7, t7, v7)) 3 rfl (by simp [Ne.symm m711]) b7 z7)
      · exact eval_of ((putSel_off (by simp [f010, f410, f610, f710, f1110])).trans e10)
      · intro v' w1 ho hg hat
        rw [d11]
        refine hK.out _ _ ⟨v0, v4, v6, v7, v', putSel_upk 4 hb rfl rfl (by simp [n011, n411, n611, n711, m011, m411, m611, m711, Ne.symm n011, Ne.symm n411, Ne.symm n611, Ne.symm n711, Ne.symm m011, Ne.symm m411, Ne.symm m611, Ne.symm m711]), hB.grown hg hB.size (own_base own), fun _ q => ?_, fun _ q => ?_, fun _ q => ?_, fun _ q => ?_, fun _ => ho⟩
        · rw [up_ne n411, b4] at q; cases q
        · rw [up_ne n711, b7] at q; cases q
        · rw [up_ne n711, b7] at q; cases q
        · rw [up_self] at q; cases q
  · rintro b a' w' hall ⟨v0, v4, v6, v7, v11, rfl, hB, h0, h4, h6, h7, h11⟩
    have e : putSel a b [(i0, t0, v0), (i4, t4, v4), (i6, t6, v6), (i7, t7, v7), (i11, t11, v11)] = putSel a (fun _ => true) [(i0, t0, v0), (i4, t4, v4), (i6, t6, v6), (i7, t7, v7), (i11, t11, v11)] := by
      simp only [putSel, hall i0 (by simp), hall i4 (by simp), hall i6 (by simp), hall i7 (by simp), hall i11 (by simp), if_true]
    rw [e]
    exact h v0 v4 v6 v7 v11 w' hB (h11 (hall i11 (by simp)))
open Kd in
theorem Q_ins {α : Type} {d : Kd α} (hsz : d.sz = 1) {e : TypeId} {w : World} {base : Nat} {ok okx : Nat → Prop} {A : Option Addr} {n c : Nat} {xs : List α} (h : d.Q e w base ok (.slice A n c) xs) {x : α} {vx : Value} (hx : d.M w base okx x [vx]) (hbw : base ≤ w.heap.size) {i : Nat} (hi : i ≤ xs.length) :
    ∃ T D : List Value, T.length = i ∧ D.length = xs.length - i ∧ (∀ j u, T[j]? = some u → ∃ ad, A = some ad ∧ w.cell? (ad.add j) = some u) ∧ (∀ j u, D[j]? = some u → ∃ ad, A.map (fun a => a.add i) = some ad ∧ w.cell? (ad.add j) = some u) ∧ (∀ u ∈ T ++ [vx] ++ D, u.oneCell' = true) ∧
      ∀ w' v', Below w.heap.size w w' → w'.ownsRow w.heap.size e 1 v' (T.length + 1 + D.length) (T ++ [vx] ++ D) → d.R e w' base (fun _ => True) v' (xs.take i ++ [x] ++ xs.drop i) ∧ w.grownBy w' (Value.slice A n c).ownBlock ∧ (∃ b, v'.ownBlock = some b ∧ w.heap.size ≤ b) := by
  obtain ⟨hok, inner, ho, hr⟩ := h
  obtain ⟨A', c', he, hl⟩ := q_slice ho
  injection he with h1 h2 h3
  subst h1; subst h2; subst h3
  rw [hsz] at ho hr
  have hil : inner.length = xs.length := by rw [hr.1, Nat.mul_one]
  have cells : ∀ j u, inner[j]? = some u → ∃ ad, A = some ad ∧ w.cell? (ad.add j) = some u := by
    intro j u hj
    obtain ⟨ad, ha, hc⟩ := q_cells ho (by have := (List.getElem?_eq_some_iff.1 hj).1; omega)
    exact ⟨ad, ha, hc j u hj⟩
  have hT : (inner.take i).length = i := by rw [List.length_take]; omega
  have hD : (inner.drop i).length = xs.length - i := by rw [List.length_drop]; omega
  refine ⟨inner.take i, inner.drop i, hT, hD, fun j u hj => ?_, fun j u hj => ?_, fun u hu => ?_, fun w' v' hB hown => ?_⟩
  · rw [List.getElem?_take] at hj
    split at hj
    · exact cells j u hj
    · cases hj
  · rw [List.getElem?_drop] at hj
    obtain ⟨ad, ha, hc⟩ := cells _ u hj
    exact ⟨ad.add i, by rw [ha]; rfl, by rw [Addr.add_add]; exact hc⟩
  · rw [List.append_assoc, List.mem_append, List.mem_append, List.mem_singleton] at hu
    have all : ∀ u ∈ inner, u.oneCell' = true := by
      intro u hu
      obtain ⟨q, hq, rfl⟩ := List.mem_iff_getElem.1 hu
      have hc := hr.2 q _ (List.getElem?_eq_getElem (by omega : q < xs.length))
      refine d.K_one (d.K_of_M hc) _ ?_
      rw [Nat.mul_one, List.mem_iff_getElem?]
      refine ⟨0, ?_⟩
      rw [List.getElem?_take, if_pos Nat.one_pos, List.getElem?_drop, Nat.add_zero, List.getElem?_eq_getElem hq]
    rcases hu with hu | rfl | hu
    · exact all u (List.mem_of_mem_take hu)
    · exact d.K_one (d.K_of_M hx) _ List.mem_cons_self
    · exact all u (List.mem_of_mem_drop hu)
  · have mv : ∀ {y : α} {cs : List Value} {o : Nat → Prop}, d.M w base o y cs → d.M w' base (fun k => True ∧ some k ≠ v'.ownBlock) y cs := by
      intro y cs o hy
      have h1 := d.M_move (w1 := w') (fun k hk => hB.block k hk.2.2.1) (d.M_bound hy)
      exact d.M_mono (fun k hk => ⟨trivial, fun he => by have := own_base hown k he.symm; have := hk.2.2.1; omega⟩) h1
    have hlen : (xs.take i ++ [x] ++ xs.drop i).length = (inner.take i).length + 1 + (inner.drop i).length := by simp only [List.length_append, List.length_take, List.length_drop, List.length_singleton]; omega
    have nb : ∃ b, v'.ownBlock = some b ∧ w.heap.size ≤ b := by
      rcases hown.2 with ⟨_, h0⟩ | ⟨g, cap, cur, rfl, hb, _⟩
      · omega
      · exact ⟨g, rfl, hb⟩
    refine ⟨⟨fun _ _ => trivial, inner.take i ++ [vx] ++ inner.drop i, ?_, ?_⟩, grown_of_below hB _, nb⟩
    · rw [hlen, hsz]
      obtain ⟨h1, h2⟩ := hown
      refine ⟨h1, h2.imp id ?_⟩
      rintro ⟨g, cap, cur, hv, hb, r⟩
      exact ⟨g, cap, cur, hv, by omega, r⟩
    · rw [hsz]
      have t1 := reps_take hr hi
      have t2 := reps_drop (m := i) hr
      rw [Nat.mul_one] at t1 t2
      refine reps_append (reps_append (t1.imp_ (fun _ _ hp => mv hp)) ⟨by simp, fun j p hj => ?_⟩) (t2.imp_ (fun _ _ hp => mv hp))
      cases j with
      | zero => simp only [List.getElem?_cons_zero, Option.some.injEq] at hj; subst hj; exact mv hx
      | succ j => simp at hj
end
end Go.Proofs.YtcbpbdhglblagaaDoorW.PrintLast
