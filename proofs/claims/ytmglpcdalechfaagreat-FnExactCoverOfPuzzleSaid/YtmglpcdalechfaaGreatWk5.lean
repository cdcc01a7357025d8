/- Walks: Cells sorted by the library. No condition. | The program's forms. No condition. | Cells as keys of a map. No condition. | The program's parts. No condition. | What is connected. No condition. -/
import Derived.Test.YtmglpcdalechfaaGreatBO
import Derived.Test.YtmglpcdalechfaaGreatWk4
import Derived.Test.YtmglpcdalechfaaGreatBigSort
import Derived.Test.YtmglpcdalechfaaGreatBC
import Derived.Test.YtmglpcdalechfaaGreatWk1
import Derived.Test.YtmglpcdalechfaaGreatBigSort1
import Derived.DeepKeys5
import Derived.Test.YtmglpcdalechfaaGreatWk2
import Derived.Test.YtmglpcdalechfaaGreatWk3
set_option linter.unusedVariables false
set_option linter.unusedSimpArgs false
section
open Go Go.Big
namespace Go.Proofs
set_option maxHeartbeats 2000000
theorem clone_fn (G : Gv) (l : List (Int × Int)) (H : Heap) (n : Nat) (h1 : 0 < l.length) (hl : l.length < 1000000000) :
    WC Tryz.prog G 190 [.sl 0 (cells l)] H n (fun r H' n' => ∃ o e, r = .own o e ∧ o < n' ∧ H' o = some (.arr e 142 2 (cells l) 0)) := by
  refine (.body Tryz.func190 rfl (by simp [Tryz.ntmps190]) ?_)
  rw [Tryz.ntmps190, Tryz.results190]
  have hfit : ∀ r ∈ cells l, r.length = 2 := by
    intro r hr
    obtain ⟨p, _, rfl⟩ := List.mem_map.mp hr; rfl
  have hlen := cells_len l
  have hb : l.length * 16 ≤ 140737488355328 := by omega
  generalize cells l = rows at *
  cases rows with
  | nil => simp at hlen; omega
  | cons r rs =>
    have hb2 : (rs.length + 1) * 16 ≤ 140737488355328 := by simp only [List.length_cons] at hlen; omega
    have hfd : decide (∀ x ∈ r :: rs, x.length = 2) = true := decide_eq_true hfit
    clear hb hlen hfit
    refine AL ?_
    exact ⟨n + 3, 1, by simp [retA, setF_if], by omega, by simp [upd_if]⟩
theorem decode_cells {l : List (Int × Int)} {rows : List (List PV)} (h : ∀ r ∈ rows, r ∈ cells l) : ∃ k, rows = cells k ∧ ∀ p ∈ k, p ∈ l := by
  induction rows with
  | nil => exact ⟨[], rfl, by simp⟩
  | cons r rs ih =>
    obtain ⟨k, h1, h2⟩ := ih (fun x hx => h x (List.mem_cons_of_mem _ hx))
    obtain ⟨p, hp, rfl⟩ := List.mem_map.mp (h r List.mem_cons_self)
    refine ⟨p :: k, by rw [h1]; rfl, fun x hx => ?_⟩
    rcases List.mem_cons.mp hx with rfl | hx
    · exact hp
    · exact h2 x hx
def rowC (r : List PV) : Int × Int := match r with
  | [.i _ a, .i _ b] => (a, b)
  | _ => (0, 0)
def cfC (a b : List PV) : Int := cmpC (rowC a).1 (rowC a).2 (rowC b).1 (rowC b).2
def goodC (r : List PV) : Prop := ∃ a b, r = [.i .i64 a, .i .i64 b]
def noG : Gv := fun _ _ _ _ _ _ _ => False
theorem cmpC_neg {a b c d : Int} : cmpC a b c d < 0 ↔ lessC a b c d = true := by
  rw [cmpC_cases]
  by_cases h1 : lessC a b c d = true
  · simp [h1]
  · rw [if_neg h1]
    simp only [h1]
    split <;> simp
theorem lessC_total {a b : Int × Int} (h1 : lessC a.1 a.2 b.1 b.2 = false) (h2 : lessC b.1 b.2 a.1 a.2 = false) : a = b := by
  simp only [lessC, Bool.or_eq_false_iff, Bool.and_eq_false_iff, decide_eq_false_iff_not, beq_eq_false_iff_ne] at h1 h2
  apply Prod.ext <;> omega
theorem lessC_trans' {a b c : Int × Int} (h1 : lessC a.1 a.2 b.1 b.2 = true) (h2 : lessC b.1 b.2 c.1 c.2 = true) : lessC a.1 a.2 c.1 c.2 = true := by
  simp only [lessC, Bool.or_eq_true, Bool.and_eq_true, decide_eq_true_eq, beq_iff_eq] at *; omega
theorem lessC_ntrans {a b c : Int × Int} (h1 : lessC a.1 a.2 b.1 b.2 = false) (h2 : lessC b.1 b.2 c.1 c.2 = false) : lessC a.1 a.2 c.1 c.2 = false := by
  simp only [lessC, Bool.or_eq_false_iff, Bool.and_eq_false_iff, decide_eq_false_iff_not, beq_eq_false_iff_ne] at *; omega
theorem lessC_self (a b : Int) : lessC a b a b = false := by simp [lessC]
theorem cmpCells_ok : CmpOk Tryz.prog noG 207 goodC cfC where
  gives := by
    rintro _ _ ⟨a, b, rfl⟩ ⟨c, d, rfl⟩
    exact compareCells_fn noG a b c d
  irrefl := by
    rintro _ ⟨a, b, rfl⟩
    simp [cfC, rowC, cmpC_neg, lessC_self]
  trans := by
    rintro _ _ _ ⟨a, b, rfl⟩ ⟨c, d, rfl⟩ ⟨e, f, rfl⟩
    simp only [cfC, rowC, cmpC_neg]
    exact fun h1 h2 => lessC_trans' (a := (a, b)) (b := (c, d)) (c := (e, f)) h1 h2
  ntrans := by
    rintro _ _ _ ⟨a, b, rfl⟩ ⟨c, d, rfl⟩ ⟨e, f, rfl⟩
    simp only [cfC, rowC, cmpC_neg, Bool.not_eq_true]
    exact fun h1 h2 => lessC_ntrans (a := (a, b)) (b := (c, d)) (c := (e, f)) h1 h2
theorem insM_perm (c : Int × Int) : ∀ l, (insM c l).Perm (c :: l)
  | [] => .refl _
  | p :: l => by
    unfold insM
    split
    · exact .refl _
    · exact ((insM_perm c l).cons p).trans (.swap c p l)
theorem sortM_perm (l : List (Int × Int)) : (sortM l).Perm l := by
  have : ∀ (l a : List (Int × Int)), (l.foldl (fun a c => insM c a) a).Perm (l ++ a) := by
    intro l
    induction l with
    | nil => intro a; exact .refl _
    | cons c l ih =>
      intro a
      rw [List.foldl_cons]
      refine (ih _).trans ?_
      refine ((insM_perm c a).append_left l).trans ?_
      exact List.perm_middle
  have h := this l []
  rw [List.append_nil] at h
  exact h
theorem insM_sorted (c : Int × Int) : ∀ {l : List (Int × Int)}, l.Pairwise (fun a b => lessC b.1 b.2 a.1 a.2 = false) → (insM c l).Pairwise (fun a b => lessC b.1 b.2 a.1 a.2 = false)
  | [], _ => by simp [insM]
  | p :: l, h => by
    rw [List.pairwise_cons] at h
    unfold insM
    split
    · rename_i q
      have hq : lessC p.1 p.2 c.1 c.2 = false := by
        cases z : lessC p.1 p.2 c.1 c.2 with
        | false => rfl
        | true => have := lessC_trans' (a := c) (b := p) (c := c) q z; rw [lessC_self] at this; simp at this
      rw [List.pairwise_cons, List.pairwise_cons]
      refine ⟨fun x hx => ?_, h⟩
      rcases List.mem_cons.mp hx with rfl | hx
      · exact hq
      · exact lessC_ntrans (h.1 x hx) hq
    · rename_i q
      rw [List.pairwise_cons]
      refine ⟨fun x hx => ?_, insM_sorted c h.2⟩
      rcases List.mem_cons.mp ((insM_perm c l).mem_iff.mp hx) with rfl | hx
      · simpa using q
      · exact h.1 x hx
theorem sortM_sorted (l : List (Int × Int)) : (sortM l).Pairwise (fun a b => lessC b.1 b.2 a.1 a.2 = false) := by
  have : ∀ (l a : List (Int × Int)), a.Pairwise (fun a b => lessC b.1 b.2 a.1 a.2 = false) → (l.foldl (fun a c => insM c a) a).Pairwise (fun a b => lessC b.1 b.2 a.1 a.2 = false) := by
    intro l
    induction l with
    | nil => intro a h; exact h
    | cons c l ih => intro a h; exact ih _ (insM_sorted c h)
  exact this l [] .nil
theorem sorted_unique {l : List (Int × Int)} {rows2 : List (List PV)} (hp : rows2.Perm (cells l)) (hs : rows2.Pairwise (fun a b => ¬ cfC b a < 0)) : rows2 = cells (sortM l) := by
  obtain ⟨k, rfl, _⟩ := decode_cells (l := l) (fun r hr => hp.mem_iff.mp hr)
  have hk : k.Pairwise (fun a b => lessC b.1 b.2 a.1 a.2 = false) := by
    unfold cells at hs
    rw [List.pairwise_map] at hs
    refine hs.imp fun {a b} h => ?_
    simpa [cfC, rowC, cmpC_neg] using h
  have hpk : k.Perm l := by
    have : ∀ z : List (Int × Int), (cells z).map rowC = z := fun z => by simp [cells, rowC, Function.comp_def]
    have h2 := hp.map rowC
    rwa [this, this] at h2
  congr 1
  exact List.Perm.eq_of_pairwise (fun a b _ _ h1 h2 => lessC_total h2 h1) hk (sortM_sorted l) (hpk.trans (sortM_perm l).symm)
theorem enters_cmpCells (args : Array Value) (w : World) : (callFunc 207 args).run Tryz.prog w = .ok (.enter 207 args) w := enters_of Tryz.func207 (by kernel_rfl) rfl args w
/-- The sorts that are given. -/
def sortsG : Gv := SortG Tryz.prog noG 302 2
theorem sorted_fn (G : Gv) (hG : ∀ f args H n r H' n', sortsG f args H n r H' n' → G f args H n r H' n') (l : List (Int × Int)) (h1 : 0 < l.length) (hl : l.length < 1000000000) : Gives Tryz.prog G 284 [.sl 0 (cells l)] (.sl 1 (cells (sortM l))) := by
  refine .of (.body Tryz.func284 rfl (by simp [Tryz.ntmps284]) ?_)
  rw [Tryz.ntmps284, Tryz.results284]
  replace hG := Hid.mk hG
  refine AL ?_
  refine CI ?_
  refine (clone_fn G l _ _ h1 hl).mono ?_
  rintro r H n ⟨o, e, rfl, hon, hH⟩
  refine AL ?_
  refine CI ?_
  refine WC_given (hG.out _ _ _ _ (.tup []) (H.upd o (.arr e 142 2 (cells (sortM l)) 0)) _ ⟨rfl, rfl, rfl, 207, o, e, 142, cells l, 0, cells (sortM l), goodC, cfC, rfl, hH, rfl, fun h0 => ?_, ?_, by decide, ?_, cmpCells_ok, enters_cmpCells, fun rows2 => sorted_unique⟩) ?_
  · have := cells_len l; rw [h0] at this; simp at this; omega
  · rw [cells_len]; omega
  · intro r hr
    obtain ⟨p, _, rfl⟩ := List.mem_map.mp hr
    exact ⟨_, _, rfl⟩
  have hnb : newB 0 (cells (sortM l)) := .inr (fun r hr p hp => by
    obtain ⟨c, _, rfl⟩ := List.mem_map.mp hr
    simp at hp; rcases hp with rfl | rfl <;> rfl)
  refine AL ?_
  simp [retA, backA, newSl, setF_if, upd_if, hnb]
end Go.Proofs
end
section
open Go Go.Big
namespace Go.Proofs
set_option maxHeartbeats 2000000
theorem cmpL_trich : ∀ {l k : Shape}, l.length = k.length → cmpL l k < 0 ∨ l = k ∨ cmpL k l < 0
  | [], [], _ => .inr (.inl rfl)
  | [], _ :: _, h => by simp at h
  | _ :: _, [], h => by simp at h
  | p :: l, q :: k, h => by
    have hl : l.length = k.length := by simpa using h
    simp only [cmpL]
    by_cases c1 : lessC p.1 p.2 q.1 q.2 = true
    · rw [if_pos c1]; exact .inl (by decide)
    · by_cases c2 : lessC q.1 q.2 p.1 p.2 = true
      · exact .inr (.inr (by rw [if_pos c2]; decide))
      · rw [if_neg c1, if_neg c2, if_neg c2, if_neg c1]
        simp only [Bool.not_eq_true] at c1 c2
        rcases cmpL_trich hl with h | h | h
        · exact .inl h
        · exact .inr (.inl (by rw [lessC_total c1 c2, h]))
        · exact .inr (.inr h)
theorem cmpL_self : ∀ l : Shape, cmpL l l = 0
  | [] => rfl
  | p :: l => by simp only [cmpL, lessC_self]; simpa using cmpL_self l
theorem cmpL_trans : ∀ {l k m : Shape}, l.length = k.length → k.length = m.length → cmpL l k < 0 → cmpL k m < 0 → cmpL l m < 0
  | [], [], _, _, _, h, _ => by simp [cmpL] at h
  | [], _ :: _, _, h, _, _, _ => by simp at h
  | _ :: _, [], _, h, _, _, _ => by simp at h
  | p :: l, q :: k, [], _, h, _, _ => by simp at h
  | p :: l, q :: k, r :: m, h1, h2, h3, h4 => by
    have e1 : l.length = k.length := by simpa using h1
    have e2 : k.length = m.length := by simpa using h2
    simp only [cmpL] at h3 h4 ⊢
    by_cases a1 : lessC p.1 p.2 q.1 q.2 = true
    · by_cases b1 : lessC q.1 q.2 r.1 r.2 = true
      · rw [if_pos (lessC_trans' a1 b1)]; decide
      · rw [if_neg b1] at h4
        by_cases b2 : lessC r.1 r.2 q.1 q.2 = true
        · rw [if_pos b2] at h4; simp at h4
        · simp only [Bool.not_eq_true] at b1 b2
          obtain rfl := lessC_total b1 b2
          rw [if_pos a1]; decide
    · rw [if_neg a1] at h3
      by_cases a2 : lessC q.1 q.2 p.1 p.2 = true
      · rw [if_pos a2] at h3; simp at h3
      · rw [if_neg a2] at h3
        simp only [Bool.not_eq_true] at a1 a2
        obtain rfl := lessC_total a1 a2
        by_cases b1 : lessC p.1 p.2 r.1 r.2 = true
        · rw [if_pos b1]; decide
        · rw [if_neg b1] at h4 ⊢
          by_cases b2 : lessC r.1 r.2 p.1 p.2 = true
          · rw [if_pos b2] at h4; simp at h4
          · rw [if_neg b2] at h4 ⊢
            exact cmpL_trans e1 e2 h3 h4
theorem cmpM_lt {l k : Shape} : cmpM l k < 0 ↔ l.length < k.length ∨ l.length = k.length ∧ cmpL l k < 0 := by
  unfold cmpM
  split
  · rename_i h; simp [h]
  · rename_i h
    split
    · rename_i h2; simp [h2]
    · rename_i h2; simp [h, h2]
theorem cmpM_trich (l k : Shape) : cmpM l k < 0 ∨ l = k ∨ cmpM k l < 0 := by
  rw [cmpM_lt, cmpM_lt]
  by_cases h : l.length = k.length
  · rcases cmpL_trich h with q | q | q
    · exact .inl (.inr ⟨h, q⟩)
    · exact .inr (.inl q)
    · exact .inr (.inr (.inr ⟨h.symm, q⟩))
  · by_cases h2 : l.length < k.length
    · exact .inl (.inl h2)
    · exact .inr (.inr (.inl (by omega)))
theorem cmpM_irrefl (l : Shape) : ¬ cmpM l l < 0 := by rw [cmpM_lt, cmpL_self]; simp
theorem cmpM_trans {l k m : Shape} (h1 : cmpM l k < 0) (h2 : cmpM k m < 0) : cmpM l m < 0 := by
  rw [cmpM_lt] at *
  rcases h1 with h1 | ⟨e1, h1⟩ <;> rcases h2 with h2 | ⟨e2, h2⟩
  · exact .inl (by omega)
  · exact .inl (by omega)
  · exact .inl (by omega)
  · exact .inr ⟨e1.trans e2, cmpL_trans e1 e2 h1 h2⟩
theorem cmpM_ntrans {l k m : Shape} (h1 : ¬ cmpM l k < 0) (h2 : ¬ cmpM k m < 0) : ¬ cmpM l m < 0 := by
  intro h
  rcases cmpM_trich l k with q | q | q
  · exact h1 q
  · subst q; exact h2 h
  · exact h2 (cmpM_trans q h)
theorem cmpM_total {l k : Shape} (h1 : ¬ cmpM l k < 0) (h2 : ¬ cmpM k l < 0) : l = k := by
  rcases cmpM_trich l k with q | q | q
  · exact absurd q h1
  · exact q
  · exact absurd q h2
theorem cmpM_zero {l k : Shape} : cmpM l k = 0 ↔ l = k := by
  constructor
  · intro h
    refine cmpM_total (by omega) ?_
    intro h2
    rw [cmpM_lt] at h2
    unfold cmpM at h
    split at h
    · rename_i e
      rcases h2 with h2 | ⟨_, h2⟩
      · omega
      · have : ∀ {l k : Shape}, cmpL l k = 0 → cmpL k l < 0 → l.length = k.length → False := by
          intro l
          induction l with
          | nil => intro k _ h2 e; cases k with
            | nil => simp [cmpL] at h2
            | cons => simp at e
          | cons p l ih =>
            intro k h1 h2 e
            cases k with
            | nil => simp at e
            | cons q k =>
              simp only [cmpL] at h1 h2
              by_cases c1 : lessC p.1 p.2 q.1 q.2 = true
              · rw [if_pos c1] at h1; simp at h1
              · rw [if_neg c1] at h1
                by_cases c2 : lessC q.1 q.2 p.1 p.2 = true
                · rw [if_pos c2] at h1; simp at h1
                · rw [if_neg c2] at h1
                  rw [if_neg c2, if_neg c1] at h2
                  exact ih h1 h2 (by simpa using e)
        exact this h h2 e
    · split at h <;> simp at h
  · rintro rfl; unfold cmpM; rw [if_pos rfl, cmpL_self]
def rowS (r : List PV) : Shape := match r with
  | [.sl rows] => rows.map rowC
  | _ => []
def cfS (a b : List PV) : Int := cmpM (rowS a) (rowS b)
def goodS (r : List PV) : Prop := ∃ l : Shape, r = [.sl (cells l)] ∧ l.length < 1000000000
theorem rowS_cells (l : Shape) : rowS [.sl (cells l)] = l := by
  show (cells l).map rowC = l
  simp [cells, rowC, Function.comp_def]
theorem cmpShapes_ok : CmpOk1 Tryz.prog noG 235 goodS cfS where
  gives := by
    rintro a b ⟨l, h1, h2⟩ ⟨k, h3, h4⟩
    simp only [List.cons.injEq, and_true] at h1 h3
    subst h1; subst h3
    have := compareShapes_fn noG l k h2 h4
    simpa only [cfS, rowS_cells, avOf] using this
  irrefl := by
    rintro _ ⟨l, rfl, _⟩
    simp only [cfS]; exact cmpM_irrefl _
  trans := fun a b c _ _ _ h1 h2 => cmpM_trans h1 h2
  ntrans := fun a b c _ _ _ h1 h2 => cmpM_ntrans h1 h2
theorem decode_shapes {ls : List Shape} {rows : List (List PV)} (h : ∀ r ∈ rows, r ∈ shapesR ls) : ∃ k, rows = shapesR k := by
  induction rows with
  | nil => exact ⟨[], rfl⟩
  | cons r rs ih =>
    obtain ⟨k, h1⟩ := ih (fun x hx => h x (List.mem_cons_of_mem _ hx))
    obtain ⟨p, hp, rfl⟩ := List.mem_map.mp (h r List.mem_cons_self)
    exact ⟨p :: k, by rw [h1]; rfl⟩
/-- Shapes in order. -/
def orderS (ls : List Shape) : List Shape := ls.mergeSort fun a b => !decide (cmpM b a < 0)
theorem orderS_perm (ls : List Shape) : (orderS ls).Perm ls := List.mergeSort_perm _ _
theorem orderS_sorted (ls : List Shape) : (orderS ls).Pairwise fun a b => ¬ cmpM b a < 0 := by
  have := List.pairwise_mergeSort (le := fun a b : Shape => !decide (cmpM b a < 0)) (fun a b c h1 h2 => by
    simp only [Bool.not_eq_true', decide_eq_false_iff_not] at *; exact cmpM_ntrans h2 h1) (fun a b => by
    simp only [Bool.or_eq_true, Bool.not_eq_true', decide_eq_false_iff_not]
    by_cases h : cmpM b a < 0
    · exact .inr (fun h2 => cmpM_irrefl _ (cmpM_trans h h2))
    · exact .inl h) ls
  exact this.imp (fun h => by simpa using h)
theorem shapes_unique {ls : List Shape} {rows2 : List (List PV)} (hp : rows2.Perm (shapesR ls)) (hs : rows2.Pairwise (fun a b => ¬ cfS b a < 0)) : rows2 = shapesR (orderS ls) := by
  obtain ⟨k, rfl⟩ := decode_shapes (ls := ls) (fun r hr => hp.mem_iff.mp hr)
  have hk : k.Pairwise (fun a b => ¬ cmpM b a < 0) := by
    unfold shapesR at hs
    rw [List.pairwise_map] at hs
    refine hs.imp fun {a b} h => ?_
    simpa only [cfS, rowS_cells] using h
  have hpk : k.Perm ls := by
    have : ∀ z : List Shape, (shapesR z).map rowS = z := fun z => by
      unfold shapesR; rw [List.map_map]
      have : (rowS ∘ fun l : Shape => [PV.sl (cells l)]) = id := funext fun l => rowS_cells l
      rw [this, List.map_id]
    have h2 := hp.map rowS
    rwa [this, this] at h2
  congr 1
  exact List.Perm.eq_of_pairwise (fun a b _ _ h1 h2 => cmpM_total h2 h1) hk (orderS_sorted ls) (hpk.trans (orderS_perm ls).symm)
theorem enters_cmpShapes (args : Array Value) (w : World) : (callFunc 235 args).run Tryz.prog w = .ok (.enter 235 args) w := enters_of Tryz.func235 (by kernel_rfl) rfl args w
def sortsG1 : Gv := SortG1 Tryz.prog noG 260
def tidyM (ls : List Shape) : List Shape := compactS (orderS ls)
theorem tidyShapes_fn (G : Gv) (hG : ∀ f args H n r H' n', sortsG1 f args H n r H' n' → G f args H n r H' n') (ls : List Shape) (H : Heap) (n o e : Nat) (ho : o < n) (hH : H o = some (.arr e 32 1 (shapesR ls) 1)) (h1 : 0 < ls.length) (hls : ls.length < 1000000) (hl : ∀ l ∈ ls, l.length < 1000000000) :
    WC Tryz.prog G 205 [.own o e] H n (fun r H' n' => backA H' r = some (.sl 1 (shapesR (tidyM ls)))) := by
  refine (.body Tryz.func205 rfl (by simp [Tryz.ntmps205]) ?_)
  rw [Tryz.ntmps205, Tryz.results205]
  replace hG := Hid.mk hG
  replace hl := Hid.mk hl
  refine AL ?_
  refine CI ?_
  refine WC_given (hG.out _ _ _ _ (.tup []) (H.upd o (.arr e 32 1 (shapesR (orderS ls)) 1)) _ ⟨rfl, rfl, rfl, 235, o, e, 32, shapesR ls, 1, shapesR (orderS ls), goodS, cfS, rfl, hH, rfl, fun h0 => ?_, ?_, by decide, ?_, cmpShapes_ok, enters_cmpShapes, fun rows2 => shapes_unique⟩) ?_
  · have := shapesR_len ls; rw [h0] at this; simp at this; omega
  · rw [shapesR_len]; omega
  · intro r hr
    obtain ⟨p, hp, rfl⟩ := List.mem_map.mp hr
    exact ⟨p, rfl, hl.out p hp⟩
  refine AL ?_
  refine CI ?_
  have hp := orderS_perm ls
  refine (compactFunc_fn G (orderS ls) _ _ o e (by omega) (Heap.upd_same _ _ _) (by rw [hp.length_eq]; exact hls) (fun l hl' => hl.out l (hp.mem_iff.mp hl'))).mono ?_
  clear hp
  intro r H2 n2 hb
  refine AL ?_
  simpa [retA, setF_if, tidyM] using hb
theorem form_fn (G : Gv) (hG : ∀ f args H n r H' n', sortsG f args H n r H' n' → G f args H n r H' n') (l : List (Int × Int)) (t : Nat) (h1 : 0 < l.length) (hl : l.length < 1000000000) : Gives Tryz.prog G 236 [.sl 0 (cells l), .i .i64 t] (.sl 1 (cells (formM l t))) := by
  refine .of (.body Tryz.func236 rfl (by simp [Tryz.ntmps236]) ?_)
  rw [Tryz.ntmps236, Tryz.results236]
  have hlen := cells_len l
  have b1 : ((16 : Nat) : Int) * l.length ≤ 281474976710656 := by simp; omega
  have b2 : (l.length : Int) ≤ 9223372036854775807 := by omega
  have b3 : (0 : Int) ≤ l.length := by omega
  replace hG := Hid.mk hG
  refine AL ?_
  refine .loop (.inv (fun d E H n' => ∃ i : Nat, i + d = l.length ∧ 3 < n' ∧ E 1 = .i .i64 t ∧ E 11 = .sl 0 (cells l) ∧ E 12 = .i .i64 l.length ∧ E 13 = .i .i64 i ∧ ∃ e, E 5 = .own 3 e ∧ H 3 = some (.arr e 142 2 (cells (turnL (l.take i) t)) 1)) l.length ?_ ?_)
  · simp [setF_if, argE, upd_if, turnL, cells]
  rintro d E H n' ⟨i, hi, hn3, h1', h11, h12, h13, e, h5, hH⟩
  by_cases c : (i : Int) < l.length
  · have hr := cells_at (l := l) (i := i) (by omega)
    have hw_i : IntKind.i64.wrap ((i : Int) + 1) = (i : Int) + 1 := wr64 (by omega) (by omega)
    have hrl : (cells (turnL (l.take i) t)).length = i := by simp [cells, turnL]; omega
    have hb : (i + 1) * 16 ≤ 140737488355328 := by omega
    have htk := turn_take (l := l) (i := i) t (by omega)
    have hne : ∀ k, (3 = n' + k) = False := fun k => neAdd hn3
    have z1 : (n' = 0) = False := by simp; omega
    generalize l.getD i (0, 0) = p at hr htk
    refine AL ?_
    refine CV (turnCell_fn G _ _ _) ?_
    refine AL ?_
    refine ⟨l.length - (i + 1), by omega, i + 1, by omega, ?_⟩
    refine ⟨by omega, by simp [setF_if, *], by simp [setF_if, *], by simp [setF_if, *], by simp [setF_if, *], e + 1, by simp [setF_if, *], ?_⟩
    simp only [upd_if, neAdd hn3, reduceIte, htk]
  · have e' : i = l.length := by omega
    subst e'
    rw [List.take_length] at hH
    have k1 : 0 < (turnL l t).length := by rw [turnL_len]; exact h1
    have k2 : (turnL l t).length < 1000000000 := by rw [turnL_len]; exact hl
    refine AL ?_
    refine CV (sorted_fn G hG.out _ k1 k2) ?_
    refine AL ?_
    refine CV (normal_fn G _ (by rw [sortM_len]; exact k1) (by rw [sortM_len]; exact k2)) ?_
    refine AL ?_
    simp [retA, backA, newSl, newB, formM]
def formsL (l : Shape) (t : Nat) : List Shape := (List.range t).map (formM l)
theorem forms_fn (G : Gv) (hG : ∀ f args H n r H' n', sortsG f args H n r H' n' → G f args H n r H' n') (l : Shape) (t : Nat) (H : Heap) (n : Nat) (h1 : 0 < l.length) (hl : l.length < 1000000000) (ht : t < 1000000) :
    WC Tryz.prog G 189 [.sl 0 (cells l), .i .i64 t] H n (fun r H' n' => ∃ o e, r = .own o e ∧ o < n' ∧ H' o = some (.arr e 32 1 (shapesR (formsL l t)) 1)) := by
  refine (.body Tryz.func189 rfl (by simp [Tryz.ntmps189]) ?_)
  rw [Tryz.ntmps189, Tryz.results189]
  replace hG := Hid.mk hG
  obtain ⟨m, hm⟩ : ∃ m, m = n + 1 := ⟨_, rfl⟩
  refine AL ?_
  refine .loop (.inv (fun d E H n' => ∃ (i : Nat), i + d = t ∧ m < n' ∧ E 0 = .sl 0 (cells l) ∧ E 8 = .i .i64 t ∧ E 9 = .i .i64 i ∧ ∃ e, E 5 = .own m e ∧ H m = some (.arr e 32 1 (shapesR (formsL l i)) 1)) t ?_ ?_)
  · subst hm
    exact ⟨0, by omega, by omega, by simp [setF_if, argE], by simp [setF_if, argE], by simp [setF_if, argE], 0, by simp [setF_if, argE], by simp [upd_if, formsL, shapesR]⟩
  clear hm
  rintro d E H n' ⟨i, hi, hmn, h0, h8, h9, e, h5, hH⟩
  by_cases c : (i : Int) < t
  · have hw_i : IntKind.i64.wrap ((i : Int) + 1) = (i : Int) + 1 := wr64 (by omega) (by omega)
    have hrl : (shapesR (formsL l i)).length = i := by simp [shapesR, formsL]
    have hb : (i + 1) * 24 ≤ 140737488355328 := by omega
    have htk : shapesR (formsL l i) ++ [[.sl (cells (formM l i))]] = shapesR (formsL l (i + 1)) := by simp [shapesR, formsL, List.range_succ]
    refine AL ?_
    refine CV (form_fn G hG.out l i h1 hl) ?_
    refine AL ?_
    refine ⟨t - (i + 1), by omega, i + 1, by omega, by omega, by simp [setF_if, *], by simp [setF_if, *], by simp [setF_if, *], e + 1, by simp [setF_if, *], ?_⟩
    simp only [upd_if, neAdd hmn, reduceIte, htk]
  · have e' : i = t := by omega
    subst e'
    refine AL ?_
    exact ⟨m, e, by simp [retA, setF_if, *], by omega, hH⟩
def formsI (p : PieceM) : List Shape := tidyM (formsL p.cs (if p.b then 8 else 4))
theorem formsOf_fn (G : Gv) (hG : ∀ f args H n r H' n', sortsG f args H n r H' n' → G f args H n r H' n') (hG1 : ∀ f args H n r H' n', sortsG1 f args H n r H' n' → G f args H n r H' n') (p : PieceM) (h1 : 0 < p.cs.length) (hl : p.cs.length < 1000000000) : Gives Tryz.prog G 153 [pieceA 0 p] (.sl 1 (shapesR (formsI p))) := by
  refine .of (.body Tryz.func153 rfl (by simp [Tryz.ntmps153]) ?_)
  rw [Tryz.ntmps153, Tryz.results153]
  replace hG := Hid.mk hG
  replace hG1 := Hid.mk hG1
  cases q : p.b with
  | true =>
    have hf : formsI p = tidyM (formsL p.cs 8) := by unfold formsI; rw [if_pos q]
    refine AL ?_
    refine CI ?_
    refine (forms_fn G hG.out p.cs 8 _ _ h1 hl (by omega)).mono ?_
    rintro r H2 n2 ⟨o, e, rfl, hon, hH⟩
    refine CI ?_
    refine (tidyShapes_fn G hG1.out _ _ _ o e (by omega) hH (by simp [formsL]) (by simp [formsL]) (fun x hx => by
      obtain ⟨i, _, rfl⟩ := List.mem_map.mp hx
      rw [formM_len]; exact hl)).mono ?_
    intro r H3 n3 hb
    refine AL ?_
    simpa [retA, setF_if, hf] using hb
  | false =>
    have hf : formsI p = tidyM (formsL p.cs 4) := by unfold formsI; rw [if_neg (by simp [q])]
    refine AL ?_
    refine CI ?_
    refine (forms_fn G hG.out p.cs 4 _ _ h1 hl (by omega)).mono ?_
    rintro r H2 n2 ⟨o, e, rfl, hon, hH⟩
    refine CI ?_
    refine (tidyShapes_fn G hG1.out _ _ _ o e (by omega) hH (by simp [formsL]) (by simp [formsL]) (fun x hx => by
      obtain ⟨i, _, rfl⟩ := List.mem_map.mp hx
      rw [formM_len]; exact hl)).mono ?_
    intro r H3 n3 hb
    refine AL ?_
    simpa [retA, setF_if, hf] using hb
end Go.Proofs
end
section
open Go Go.Big
namespace Go.Proofs
set_option maxHeartbeats 2000000
theorem cellKeyLaw : WideMaps.KeyLaw Tryz.prog 142 := deep_law_gate (by kernel_rfl) (by rw [show Tryz.prog.types.size = 333 by kernel_rfl]; omega) (by rw [show Tryz.prog.types.size = 333 by kernel_rfl]; decide) (by kernel_rfl) (by kernel_rfl)
theorem cellDepth : Tryz.prog.types.size + 1 = 333 + 1 := by kernel_rfl
theorem cellKey (a b : Int) (ha : wf64 a) (hb : wf64 b) : ∃ l, keyOf Tryz.prog 142 (.agg #[.int .i64 a, .int .i64 b]) = some l := by
  unfold keyOf
  rw [Tryz.underlying142]
  simp only [show (Tryz.prog.keyType 142 && Value.formed Tryz.prog 142 (.agg #[.int .i64 a, .int .i64 b])) = true by kernel_rfl, if_true, cellDepth]
  have h1 : ∀ c, wf64 c → Tryz.prog.keyLits 333 2 [.int .i64 c] = some [.int .i64 c] := fun c hc => by
    simp only [Program.keyLits, Tryz.underlying2]
    rw [if_pos ⟨trivial, hc⟩]
  have h2 : Tryz.prog.keyLits (333 + 1) 142 (Value.agg #[.int .i64 a, .int .i64 b]).cells.toList = some [.int .i64 a, .int .i64 b] := by
    rw [Program.keyLits.eq_def]
    simp only [Tryz.underlying142]
    rw [if_pos ⟨by kernel_rfl, by kernel_rfl⟩]
    simp only [Value.cells, List.mapM_cons, List.mapM_nil, List.drop_zero, List.drop_succ_cons, show Tryz.prog.cellsOf 2 = 1 by kernel_rfl, List.take_succ_cons, List.take_zero]
    simp [h1 a ha, h1 b hb]
  rw [h2]
  exact ⟨_, rfl⟩
theorem cellMap : CellMap Tryz.prog 268 := ⟨142, 3, _, Tryz.underlying268, cellKeyLaw, cellKey, Go.Proofs.BT.i3, by kernel_rfl⟩
end Go.Proofs
end
section
open Go Go.Big
namespace Go.Proofs
set_option maxHeartbeats 2000000
theorem wf_wrap (n : Int) : wf64 (IntKind.i64.wrap n) := by
  simp only [wf64, Lit.wf, IntKind.min, IntKind.max, IntKind.wrap, IntKind.bits, IntKind.signed, Bool.and_eq_true, decide_eq_true_eq]
  simp
  omega
/-- The map of the first places' cells. -/
def mapF (l : List (Int × Int)) : Nat → Int → Int → Option Int
  | 0 => fun _ _ => none
  | i + 1 => putM (mapF l i) (l.getD i (0, 0)).1 (l.getD i (0, 0)).2 (i : Int)
theorem mapF_eq {l : List (Int × Int)} (hn : l.Nodup) (a b : Int) : ∀ {i : Nat}, i ≤ l.length → mapF l i a b = Option.map (fun j : Nat => (j : Int)) ((List.range i).find? (cellAt l (a, b)))
  | 0, _ => rfl
  | i + 1, hi => by
    have ih := mapF_eq hn a b (i := i) (by omega)
    rw [List.range_succ, List.find?_append]
    show putM (mapF l i) _ _ _ a b = _
    unfold putM
    by_cases c : cellAt l (a, b) i = true
    · have h1 := c
      unfold cellAt at h1
      simp only [Bool.and_eq_true, beq_iff_eq] at h1
      rw [if_pos ⟨h1.1.symm, h1.2.symm⟩]
      have h2 : (List.range i).find? (cellAt l (a, b)) = none := by
        rw [List.find?_range_eq_none]
        intro j hj
        simp only [Bool.not_eq_true']
        cases q : cellAt l (a, b) j with
        | false => rfl
        | true =>
          exfalso
          unfold cellAt at q
          simp only [Bool.and_eq_true, beq_iff_eq] at q
          have e : l.getD j (0, 0) = l.getD i (0, 0) := Prod.ext (q.1.trans h1.1.symm) (q.2.trans h1.2.symm)
          simp only [List.getD_eq_getElem?_getD, List.getElem?_eq_getElem (show j < l.length by omega), List.getElem?_eq_getElem (show i < l.length by omega), Option.getD_some] at e
          have e2 : l[j]? = l[i]? := by rw [List.getElem?_eq_getElem (show j < l.length by omega), List.getElem?_eq_getElem (show i < l.length by omega)]; exact congrArg some e
          have := (List.getElem?_inj (i := j) (j := i) (show j < l.length by omega) hn).mp e2
          omega
      rw [h2]; simp [c]
    · rw [if_neg]
      · rw [ih]; simp [c]
      · rintro ⟨h1, h2⟩
        apply c
        unfold cellAt
        rw [← h1, ← h2]; simp
theorem mapF_all {l : List (Int × Int)} (hn : l.Nodup) (c : Int × Int) : mapF l l.length c.1 c.2 = if 0 ≤ idxM l c then some (idxM l c) else none := by
  rw [mapF_eq hn c.1 c.2 (Nat.le_refl _)]
  unfold idxM
  cases (List.range l.length).find? (cellAt l (c.1, c.2)) with
  | none => simp
  | some i => simp
theorem parts_fn (G : Gv) (l : List (Int × Int)) (hl : l.length < 1000000000) (hnd : l.Nodup) (hwf : ∀ p ∈ l, wf64 p.1 ∧ wf64 p.2) : Gives Tryz.prog G 214 [.sl 0 (cells l), .fn 166 []] (.sl 1 (ints (partsM l l.length))) := by
  refine .of (.body Tryz.func214 rfl (by simp [Tryz.ntmps214]) ?_)
  rw [Tryz.ntmps214, Tryz.results214]
  have hlen := cells_len l
  have b1 : ((8 : Nat) : Int) * l.length ≤ 281474976710656 := by simp; omega
  have b2 : (l.length : Int) ≤ 9223372036854775807 := by omega
  have b3 : (0 : Int) ≤ l.length := by omega
  have hwf := Hid.mk hwf
  refine AL ?_
  refine MN ?_
  refine AL ?_
  refine .loop (.inv (fun d E H n' => ∃ i : Nat, i + d = l.length ∧ 5 < n' ∧ E 0 = .sl 0 (cells l) ∧ E 1 = .fn 166 [] ∧ E 5 = .own 1 0 ∧ E 6 = .own 5 0 ∧ E 20 = .sl 0 (cells l) ∧ E 21 = .i .i64 l.length ∧ E 22 = .i .i64 i ∧ H 1 = some (.mp (mapF l i)) ∧ H 5 = some (.arr 0 2 1 (part (ints (List.replicate l.length (-1))) [.i .i64 0] i) 1)) l.length ?_ ?_)
  · exact ⟨0, by omega, by omega, by simp [setF_if, argE, upd_if], by simp [setF_if, argE, upd_if], by simp [setF_if, argE, upd_if], by simp [setF_if, argE, upd_if], by simp [setF_if, argE, upd_if], by simp [setF_if, argE, upd_if], by simp [setF_if, argE, upd_if], by simp [upd_if, mapF], by simp [upd_if, part_zero, ints]⟩
  · rintro d E H n' ⟨i, hi, hn4, h0, h1, h5, h6, h20, h21, h22, hH1, hH5⟩
    have hn1 : 1 < n' := by omega
    by_cases c : (i : Int) < l.length
    · have hw_i : IntKind.i64.wrap ((i : Int) + 1) = (i : Int) + 1 := wr64 (by omega) (by omega)
      have cN : i < l.length := by omega
      have hr := cells_at (l := l) (i := i) cN
      have hms : mapF l (i + 1) = putM (mapF l i) (l.getD i (0, 0)).1 (l.getD i (0, 0)).2 (i : Int) := rfl
      have hww : wf64 (l.getD i (0, 0)).1 ∧ wf64 (l.getD i (0, 0)).2 := hwf.out _ (by rw [List.getD_eq_getElem?_getD, List.getElem?_eq_getElem cN]; exact List.getElem_mem _)
      obtain ⟨hwa, hwb⟩ := hww
      generalize l.getD i (0, 0) = p at hr hms hwa hwb
      have hil : (ints (List.replicate l.length (-1))).length = l.length := by simp [ints]
      have hp := part_at (l := ints (List.replicate l.length (-1))) (z := [PV.i .i64 0]) (i := i) (by omega)
      have hs := part_set (l := ints (List.replicate l.length (-1))) (z := [PV.i .i64 0]) (i := i) (x := [PV.i .i64 (-1)]) (by simp [ints, cN])
      have hpl : i < (part (ints (List.replicate l.length (-1))) [PV.i .i64 0] i).length := (List.getElem?_eq_some_iff.mp hp).1
      refine AL ?_
      refine MP cellMap hwa hwb ?_
      refine AL ?_
      refine ⟨l.length - (i + 1), by omega, i + 1, by omega, ?_⟩
      simp [setF_if, upd_if, *]
    · have e' : i = l.length := by omega
      subst e'
      have hpa : part (ints (List.replicate l.length (-1))) [PV.i .i64 0] l.length = ints (partsM l 0) := by
        have := part_all (ints (List.replicate l.length (-1))) [PV.i .i64 0]
        rw [show (ints (List.replicate l.length (-1))).length = l.length by simp [ints]] at this
        rw [this]; rfl
      rw [hpa] at hH5
      have hfF := mapF_all hnd
      generalize mapF l l.length = F at hH1 hfF
      replace hfF := Hid.mk hfF
      refine AL ?_
      refine .loop (.inv (fun d E H n' => ∃ i : Nat, i + d = l.length ∧ 5 < n' ∧ E 0 = .sl 0 (cells l) ∧ E 1 = .fn 166 [] ∧ E 5 = .own 1 0 ∧ E 6 = .own 5 0 ∧ E 35 = .i .i64 l.length ∧ E 36 = .i .i64 i ∧ H 1 = some (.mp F) ∧ H 5 = some (.arr 0 2 1 (ints (partsM l i)) 1)) l.length ?_ ?_)
      · exact ⟨0, by omega, by omega, by simp [setF_if, *], by simp [setF_if, *], by simp [setF_if, *], by simp [setF_if, *], by simp [setF_if, *], by simp [setF_if, *], by simp [*], by simp [*]⟩
      clear h0 h1 h5 h6 h20 h21 h22 hH1 hH5 hn4 hn1 hi hpa c
      rintro d E H n' ⟨i, hi, hn4, h0, h1, h5, h6, h35, h36, hH1, hH5⟩
      have hn1 : 1 < n' := by omega
      by_cases c : (i : Int) < l.length
      · have hw_i : IntKind.i64.wrap ((i : Int) + 1) = (i : Int) + 1 := wr64 (by omega) (by omega)
        have cN : i < l.length := by omega
        have hpl := partsM_len l (i := i) (by omega)
        have hr : (ints (partsM l i))[i]? = some [.i .i64 ((partsM l i).getD i 0)] := ints_at (by omega)
        have hsucc := partsM_succ l i
        have hsd : startP l (partsM l i) i = startP l (partsM l i) i := rfl
        conv at hsd => rhs; unfold startP
        generalize partsM l i = out at hpl hr hsucc hsd hH5
        have hil := ints_len out
        generalize hx : out.getD i 0 = x at hr hsd
        by_cases c1 : x ≥ 0
        · rw [if_pos c1] at hsd
          refine AL ?_
          refine ⟨l.length - (i + 1), by omega, i + 1, by omega, ?_⟩
          simp [setF_if, upd_if, *]
        · rw [if_neg c1] at hsd
          have hset : (ints out).set i [PV.i .i64 i] = ints (out.set i (i : Int)) := by rw [ints_set]
          have hok0 : okP l (out.set i (i : Int), [(i : Int)]) := ⟨by simp [hpl], fun k hk => by simp only [List.mem_singleton] at hk; subst hk; omega⟩
          have hlt : i < (ints out).length := by omega
          replace hsd := Hid.mk hsd
          replace hok0 := Hid.mk hok0
          refine AL ?_
          refine .loop (.inv (fun d E H n' => ∃ (q e2 : Nat) (o2 dn rest : List Int), d = openN o2 + rest.length ∧ d + dn.length ≤ l.length + 1 ∧ okP l (o2, rest) ∧ runP l i d o2 rest = startP l out i ∧ 5 < q ∧ q < n' ∧ E 0 = .sl 0 (cells l) ∧ E 1 = .fn 166 [] ∧ E 5 = .own 1 0 ∧ E 6 = .own 5 0 ∧ E 9 = .i .i64 i ∧ E 10 = .own q e2 ∧ E 11 = .i .i64 dn.length ∧ E 35 = .i .i64 l.length ∧ E 36 = .i .i64 i ∧ H 1 = some (.mp F) ∧ H 5 = some (.arr 0 2 1 (ints o2) 1) ∧ H q = some (.arr e2 3 1 (ints (dn ++ rest)) 1)) (openN (out.set i (i : Int)) + 1) ?_ ?_)
          · refine ⟨n' + 14, 0, out.set i (i : Int), [], [(i : Int)], by simp, by have := openN_le (out.set i (i : Int)); simp at this; simp; omega, hok0.out, hsd.out.symm, by omega, by omega, by simp [setF_if, *], by simp [setF_if, *], by simp [setF_if, *], by simp [setF_if, *], by simp [setF_if, *], by simp [setF_if, *], by simp [setF_if, *], by simp [setF_if, *], by simp [setF_if, *], by simp [upd_if, *], by simp [upd_if, *], by simp [upd_if, ints]⟩
          clear h0 h1 h5 h6 h35 h36 hH1 hH5 hn4 hn1
          rintro d E H n' ⟨q, e2, o2, dn, rest, hd, hdl, hok, hrun, hq4, hqn, h0, h1, h5, h6, h9, h10, h11, h35, h36, hH1, hH5, hHq⟩
          have hn4 : 5 < n' := by omega
          have hn1 : 1 < n' := by omega
          have q4 : (q = 5) = False := by simp; omega
          have q4' : (5 = q) = False := by simp; omega
          have q1 : (q = 1) = False := by simp; omega
          have q1' : (1 = q) = False := by simp; omega
          have hol := ints_len o2
          have hol2 : o2.length = l.length := hok.1
          have hdr := ints_len (dn ++ rest)
          have hdr2 : (dn ++ rest).length = dn.length + rest.length := List.length_append
          by_cases cr : rest.length = 0
          · have hr0 : rest = [] := List.length_eq_zero_iff.mp cr
            rw [hr0, runP_nil] at hrun
            replace hok := Hid.mk hok
            clear hr0
            refine AL ?_
            refine ⟨l.length - (i + 1), by omega, i + 1, by omega, ?_⟩
            simp [setF_if, upd_if, *]
          · obtain ⟨c, rest, rfl⟩ : ∃ c r, rest = c :: r := by
              cases rest with
              | nil => simp at cr
              | cons c r => exact ⟨c, r, rfl⟩
            obtain ⟨hc0, hcl⟩ := hok.2 c List.mem_cons_self
            have hcN : c.toNat < l.length := by omega
            have hrc := cells_at (l := l) (i := c.toNat) hcN
            have hlt2 : ((dn.length : Int) < ((dn.length + (rest.length + 1) : Nat) : Int)) = True := by simp; omega
            have hr3 : (ints (dn ++ c :: rest))[dn.length]? = some [.i .i64 c] := by simp [ints]
            have hlt4 : (dn.length < dn.length + (rest.length + 1)) = True := by simp
            have hlt3 : dn.length < (ints (dn ++ c :: rest)).length := by rw [hdr, hdr2]; simp
            have hrunS : runP l i d o2 (c :: rest) = runP l i (d - 1) (lookAll l i (o2, rest) (l.getD c.toNat (0, 0))).1 (lookAll l i (o2, rest) (l.getD c.toNat (0, 0))).2 := by
              obtain ⟨d', rfl⟩ : ∃ d', d = d' + 1 := ⟨d - 1, by simp only [List.length_cons] at hd; omega⟩
              rfl
            have hokr : okP l (o2, rest) := ⟨hok.1, fun k hk => hok.2 k (List.mem_cons_of_mem _ hk)⟩
            have hf := foldP_ok (l := l) (i := (i : Int)) (by omega) (cs := aroundM (l.getD c.toNat (0, 0))) hokr
            have hdN : openN o2 + rest.length + 1 = d := by simp only [List.length_cons] at hd; omega
            have hwp : wf64 (l.getD c.toNat (0, 0)).1 ∧ wf64 (l.getD c.toNat (0, 0)).2 := hwf.out _ (by rw [List.getD_eq_getElem?_getD, List.getElem?_eq_getElem hcN]; exact List.getElem_mem _)
            clear hd hok hcl cr
            generalize hp : l.getD c.toNat (0, 0) = p at *
            have hwa : ∀ z ∈ aroundM p, wf64 z.1 ∧ wf64 z.2 := by
              intro z hz
              simp only [aroundM, List.mem_cons, List.not_mem_nil, or_false] at hz
              rcases hz with rfl | rfl | rfl | rfl
              · exact ⟨hwp.1, wf_wrap _⟩
              · exact ⟨wf_wrap _, hwp.2⟩
              · exact ⟨wf_wrap _, hwp.2⟩
              · exact ⟨hwp.1, wf_wrap _⟩
            replace hwa := Hid.mk hwa
            replace hf := Hid.mk hf
            replace hok := Hid.mk hokr
            replace hrunS := Hid.mk hrunS
            replace hrun := Hid.mk hrun
            clear hokr hp hx hwp
            have hal := around4 p
            have hal2 : (cells (aroundM p)).length = 4 := by rw [cells_len]; rfl
            have hw_dn_length : IntKind.i64.wrap ((dn.length : Int) + 1) = (dn.length : Int) + 1 := wr64 (by omega) (by omega)
            refine AL ?_
            refine CV (around_fn G _ _) ?_
            rw [aroundM_cells]
            refine AL ?_
            refine .loop (.inv (fun d2 E H n' => ∃ (k e3 : Nat) (s : List Int × List Int), k + d2 = 4 ∧ s = ((aroundM p).take k).foldl (lookP l i) (o2, rest) ∧ q < n' ∧ E 0 = .sl 0 (cells l) ∧ E 1 = .fn 166 [] ∧ E 5 = .own 1 0 ∧ E 6 = .own 5 0 ∧ E 9 = .i .i64 i ∧ E 10 = .own q e3 ∧ E 11 = .i .i64 dn.length ∧ E 35 = .i .i64 l.length ∧ E 36 = .i .i64 i ∧ E 64 = .sl 1 (cells (aroundM p)) ∧ E 65 = .i .i64 4 ∧ E 66 = .i .i64 k ∧ H 1 = some (.mp F) ∧ H 5 = some (.arr 0 2 1 (ints s.1) 1) ∧ H q = some (.arr e3 3 1 (ints (dn ++ c :: s.2)) 1)) 4 ?_ ?_)
            · exact ⟨0, e2, (o2, rest), by omega, rfl, by omega, by simp [setF_if, *], by simp [setF_if, *], by simp [setF_if, *], by simp [setF_if, *], by simp [setF_if, *], by simp [setF_if, *], by simp [setF_if, *], by simp [setF_if, *], by simp [setF_if, *], by simp [setF_if, *], by simp [setF_if, *], by simp [setF_if, *], by simp [upd_if, *], by simp [upd_if, *], by simp [upd_if, *]⟩
            clear h0 h1 h5 h6 h9 h10 h11 h35 h36 hH1 hH5 hHq hr3 hlt3 hdr hdr2 hlt4 hlt2
            rintro d2 E H n' ⟨k, e3, s, hk, hs, hqn2, h0, h1, h5, h6, h9, h10, h11, h35, h36, h64, h65, h66, hH1, hH5, hHq⟩
            have hn5 : 5 < n' := by omega
            have hn1 : 1 < n' := by omega
            by_cases ck : (k : Int) < 4
            · have hw_k : IntKind.i64.wrap ((k : Int) + 1) = (k : Int) + 1 := wr64 (by omega) (by omega)
              have hfk := foldP_take (l := l) (i := (i : Int)) (s := (o2, rest)) (cs := aroundM p) (k := k) (by rw [hal]; omega)
              rw [← hs] at hfk
              have hra := cells_at (l := aroundM p) (i := k) (by rw [hal]; omega)
              have hwk : wf64 ((aroundM p).getD k (0, 0)).1 ∧ wf64 ((aroundM p).getD k (0, 0)).2 := hwa.out _ (by rw [List.getD_eq_getElem?_getD, List.getElem?_eq_getElem (by rw [hal]; omega)]; exact List.getElem_mem _)
              generalize (aroundM p).getD k (0, 0) = pc at hra hfk hwk
              obtain ⟨hw1, hw2⟩ := hwk
              have hsok := foldP_ok (l := l) (i := (i : Int)) (by omega) (cs := (aroundM p).take k) hok.out
              rw [← hs] at hsok
              have hsl1 := hsok.1.1
              have hsum := hsok.2
              have hol3 := ints_len s.1
              have hoo := openN_le o2
              simp only at hsum
              have z1 : (n' = 2) = False := by simp; omega
              have z2 : (q = n' + 3) = False := by simp; omega
              have hll : (ints (dn ++ c :: s.2)).length = dn.length + (s.2.length + 1) := by simp [ints]
              have hbd : (dn.length + (s.2.length + 1) + 1) * 8 ≤ 140737488355328 := by omega
              have happ : ints (dn ++ c :: s.2) ++ [[.i .i64 (idxM l pc)]] = ints (dn ++ c :: (s.2 ++ [idxM l pc])) := by simp [ints]
              clear hsok hs hsum hoo hok hf hrun hrunS hwa
              have ha : lookP l (i : Int) s pc = if 0 ≤ idxM l pc ∧ s.1.getD (idxM l pc).toNat 0 < 0 then (s.1.set (idxM l pc).toNat (i : Int), s.2 ++ [idxM l pc]) else s := rfl
              replace ha := Hid.mk ha
              replace hfk := Hid.mk hfk
              have hF := hfF.out pc
              refine AL ?_
              refine MG cellMap hw1 hw2 ?_
              have hil3 : 0 ≤ idxM l pc → (idxM l pc).toNat < l.length := fun h => (idxM_lt h).1
              generalize idxM l pc = ix at ha hil3 hF happ
              by_cases ci : ix ≥ 0
              · rw [if_pos ci] at hF
                have hilt := hil3 ci
                have hri : (ints s.1)[ix.toNat]? = some [.i .i64 (s.1.getD ix.toNat 0)] := ints_at (by omega)
                have hset2 : (ints s.1).set ix.toNat [PV.i .i64 i] = ints (s.1.set ix.toNat (i : Int)) := by rw [ints_set]
                generalize hyv : s.1.getD ix.toNat 0 = y at hri ha
                clear hil3 hyv
                simp only [hF, Option.getD_some, Option.isSome_some]
                by_cases cy : y < 0
                · refine AL ?_
                  refine ⟨4 - (k + 1), by omega, k + 1, e3 + 1, (s.1.set ix.toNat (i : Int), s.2 ++ [ix]), by omega, by rw [hfk.out, ha.out, if_pos ⟨ci, cy⟩], by omega, by simp [setF_if, *], by simp [setF_if, *], by simp [setF_if, *], by simp [setF_if, *], by simp [setF_if, *], by simp [setF_if, *], by simp [setF_if, *], by simp [setF_if, *], by simp [setF_if, *], by simp [setF_if, *], by simp [setF_if, *], by simp [setF_if, *], by simp [upd_if, *], by simp [upd_if, *], by simp [upd_if, *]⟩
                · refine AL ?_
                  refine ⟨4 - (k + 1), by omega, k + 1, e3, s, by omega, by rw [hfk.out, ha.out, if_neg (fun h => cy h.2)], by omega, by simp [setF_if, *], by simp [setF_if, *], by simp [setF_if, *], by simp [setF_if, *], by simp [setF_if, *], by simp [setF_if, *], by simp [setF_if, *], by simp [setF_if, *], by simp [setF_if, *], by simp [setF_if, *], by simp [setF_if, *], by simp [setF_if, *], by simp [upd_if, *], by simp [upd_if, *], by simp [upd_if, *]⟩
              · rw [if_neg ci] at hF
                simp only [hF, Option.getD_none, Option.isSome_none]
                refine AL ?_
                refine ⟨4 - (k + 1), by omega, k + 1, e3, s, by omega, by rw [hfk.out, ha.out, if_neg (fun h => ci h.1)], by omega, by simp [setF_if, *], by simp [setF_if, *], by simp [setF_if, *], by simp [setF_if, *], by simp [setF_if, *], by simp [setF_if, *], by simp [setF_if, *], by simp [setF_if, *], by simp [setF_if, *], by simp [setF_if, *], by simp [setF_if, *], by simp [setF_if, *], by simp [upd_if, *], by simp [upd_if, *], by simp [upd_if, *]⟩
            · have ek : k = 4 := by omega
              subst ek
              have hs4 : s = lookAll l i (o2, rest) p := by rw [hs, show (4 : Nat) = (aroundM p).length from rfl, List.take_length]; rfl
              clear hs
              refine AL ?_
              have hf4 : okP l s ∧ openN s.1 + s.2.length = openN o2 + rest.length := by rw [hs4]; exact hf.out
              refine ⟨d - 1, by omega, q, e3, s.1, dn ++ [c], s.2, by omega, by simp only [List.length_append, List.length_singleton]; omega, hf4.1, by rw [← hrun.out, hrunS.out, ← hs4], by omega, by omega, by simp [setF_if, *], by simp [setF_if, *], by simp [setF_if, *], by simp [setF_if, *], by simp [setF_if, *], by simp [setF_if, *], by simp [setF_if, *], by simp [setF_if, *], by simp [setF_if, *], by simp [upd_if, *], by simp [upd_if, *], by simp [upd_if, *]⟩
      · have e' : i = l.length := by omega
        subst e'
        refine AL ?_
        simp [retA, backA, newSl, newB, hH5]
end Go.Proofs
end
section
open Go Go.Big
namespace Go.Proofs
set_option maxHeartbeats 2000000
def maxLF (l : List Int) (i : Nat) : Int := (l.take i).foldl maxI (l.getD 0 0)
theorem maxLF_succ {l : List Int} {i : Nat} (h : i < l.length) : maxLF l (i + 1) = maxI (maxLF l i) (l.getD i 0) := by
  unfold maxLF
  rw [List.take_succ_eq_append_getElem h, List.foldl_append]
  simp only [List.foldl_cons, List.foldl_nil, List.getD_eq_getElem?_getD, List.getElem?_eq_getElem h, Option.getD_some]
theorem maxLF_one {l : List Int} (h : 0 < l.length) : maxLF l 1 = l.getD 0 0 := by
  rw [maxLF_succ h]; simp [maxLF, maxI]
theorem max_fn (G : Gv) (l : List Int) (h1 : 0 < l.length) (hl : l.length < 1000000000) : Gives Tryz.prog G 213 [.sl 0 (ints l)] (.i .i64 (maxLF l l.length)) := by
  refine .of (.body Tryz.func213 rfl (by simp [Tryz.ntmps213]) ?_)
  rw [Tryz.ntmps213, Tryz.results213]
  have hlen := ints_len l
  have hr0 := ints_at (l := l) (i := 0) h1
  have hlt : ((l.length : Int) < 1) = False := by simp; omega
  refine AL ?_
  refine .loop (.inv (fun d E H n' => ∃ i : Nat, i + d = l.length ∧ 0 < i ∧ E 0 = .sl 0 (ints l) ∧ E 3 = .i .i64 (maxLF l i) ∧ E 4 = .i .i64 i) (l.length - 1) ?_ ?_)
  · exact ⟨1, by omega, by omega, by simp [setF_if, argE], by simp [setF_if, argE, maxLF_one h1], by simp [setF_if, argE]⟩
  rintro d E H n' ⟨i, hi, hi0, h0, h3, h4⟩
  by_cases c : (i : Int) < l.length
  · have hr := ints_at (l := l) (i := i) (by omega)
    have hw_i : IntKind.i64.wrap ((i : Int) + 1) = (i : Int) + 1 := wr64 (by omega) (by omega)
    have hs := maxLF_succ (l := l) (i := i) (by omega)
    refine AL ?_
    refine ⟨l.length - (i + 1), by omega, i + 1, by omega, ?_⟩
    simp [setF_if, *, maxI]
  · have e : i = l.length := by omega
    subst e
    refine AL ?_
    simp [retA, backA]
def connM (l : List (Int × Int)) : Bool := maxLF (partsM l l.length) l.length == 0
theorem connected_fn (G : Gv) (l : List (Int × Int)) (h1 : 0 < l.length) (hl : l.length < 1000000000) (hnd : l.Nodup) (hwf : ∀ p ∈ l, wf64 p.1 ∧ wf64 p.2) : Gives Tryz.prog G 165 [.sl 0 (cells l), .fn 166 []] (.b (connM l)) := by
  refine .of (.body Tryz.func165 rfl (by simp [Tryz.ntmps165]) ?_)
  rw [Tryz.ntmps165, Tryz.results165]
  have hp := partsM_len l (i := l.length) (Nat.le_refl _)
  refine AL ?_
  refine CV (parts_fn G l hl hnd hwf) ?_
  clear hwf hnd
  refine CV (max_fn G _ (by rw [hp]; exact h1) (by rw [hp]; exact hl)) ?_
  refine AL ?_
  simp [retA, backA, connM, hp]
def connS (l : List (Int × Int)) : Bool := zerosM (partsM l l.length)
theorem specIsConnected_fn (G : Gv) (l : List (Int × Int)) (hl : l.length < 1000000000) : Gives Tryz.prog G 160 [.sl 0 (cells l)] (.b (shapeM l && connS l)) := by
  refine .of (.body Tryz.func160 rfl (by simp [Tryz.ntmps160]) ?_)
  rw [Tryz.ntmps160, Tryz.results160]
  have hp := partsM_len l (i := l.length) (Nat.le_refl _)
  refine AL ?_
  refine CV (specIsShape_fn G l hl) ?_
  by_cases c : shapeM l = true
  · refine AL ?_
    refine CV (l02Parts_fn G l hl) ?_
    refine CV (l02One_fn G _ (by rw [hp]; exact hl)) ?_
    refine AL ?_
    simp [retA, backA, connS, c]
  · refine AL ?_
    simp [retA, backA, c]
def pieceM (p : PieceM) : Bool := regionM p.cs && connM p.cs && (decide (p.k ≥ 1) && decide (p.k ≤ 8))
def pieceS (p : PieceM) : Bool := regionS p.cs && (shapeM p.cs && connS p.cs) && (decide (p.k ≥ 1) && decide (p.k ≤ 8))
theorem lessC_trans {a b c : Int × Int} (h1 : lessC a.1 a.2 b.1 b.2 = true) (h2 : lessC b.1 b.2 c.1 c.2 = true) : lessC a.1 a.2 c.1 c.2 = true := by
  simp only [lessC, Bool.or_eq_true, Bool.and_eq_true, decide_eq_true_eq, beq_iff_eq] at *; omega
theorem lessC_irrefl (a : Int × Int) : lessC a.1 a.2 a.1 a.2 = false := by simp [lessC]
theorem shapeM_spec {l : List (Int × Int)} (h : shapeM l = true) : l.Pairwise (fun a b => lessC a.1 a.2 b.1 b.2 = true) ∧ (∀ p ∈ l, inC p.1 = true ∧ inC p.2 = true) ∧ 1 ≤ l.length ∧ l.length ≤ 40 := by
  unfold shapeM at h
  simp only [Bool.and_eq_true, List.all_eq_true, List.mem_range, decide_eq_true_eq] at h
  obtain ⟨h1, h2, h3⟩ := h
  have hat : ∀ i, (hi : i < l.length) → (inC l[i].1 = true ∧ inC l[i].2 = true) ∧ (∀ j, (hj : j + 1 = i) → lessC (l[j]'(by omega)).1 (l[j]'(by omega)).2 l[i].1 l[i].2 = true) := by
    intro i hi
    have := h1 i hi
    unfold shapeAt at this
    simp only [List.getD_eq_getElem?_getD, List.getElem?_eq_getElem hi, Option.getD_some, Bool.and_eq_true, Bool.not_eq_true', Bool.and_eq_false_iff, decide_eq_false_iff_not, Bool.not_eq_false'] at this
    refine ⟨this.1, fun j hj => ?_⟩
    subst hj
    rcases this.2 with h | h
    · omega
    · simpa [List.getElem?_eq_getElem (show j < l.length by omega)] using h
  refine ⟨?_, ?_, by omega, by omega⟩
  · rw [List.pairwise_iff_getElem]
    intro i j hi hj hij
    obtain ⟨d, rfl⟩ : ∃ d, j = i + 1 + d := ⟨j - (i + 1), by omega⟩
    clear hij
    induction d with
    | zero => exact (hat _ hj).2 i rfl
    | succ d ih => exact lessC_trans (ih (by omega)) ((hat _ hj).2 (i + 1 + d) rfl)
  · intro p hp
    obtain ⟨i, hi, rfl⟩ := List.getElem_of_mem hp
    exact (hat i hi).1
theorem shapeM_nodup {l : List (Int × Int)} (h : shapeM l = true) : l.Nodup :=
  (shapeM_spec h).1.imp fun {a b} hab e => by subst e; rw [lessC_irrefl] at hab; simp at hab
theorem inC_wf {n : Int} (h : inC n = true) : wf64 n := by
  simp only [inC, Bool.and_eq_true, decide_eq_true_eq] at h
  simp only [wf64, Lit.wf, IntKind.min, IntKind.max, IntKind.bits, IntKind.signed, Bool.and_eq_true, decide_eq_true_eq]
  simp; omega
theorem regionM_shape {l : List (Int × Int)} (h : regionM l = true) : shapeM l = true := by
  unfold regionM at h; simp only [Bool.and_eq_true] at h; exact h.1.1
theorem implIsPiece_fn (G : Gv) (p : PieceM) (hl : p.cs.length < 1000000000) : Gives Tryz.prog G 97 [pieceA 0 p] (.b (pieceM p)) := by
  refine .of (.body Tryz.func97 rfl (by simp [Tryz.ntmps97]) ?_)
  rw [Tryz.ntmps97, Tryz.results97]
  refine AL ?_
  refine CV (implIsRegion_fn G _ hl) ?_
  by_cases c : regionM p.cs = true
  · have hs := regionM_shape c
    have hsp := shapeM_spec hs
    refine AL ?_
    refine CV (connected_fn G _ (by omega) hl (shapeM_nodup hs) (fun q hq => ⟨inC_wf (hsp.2.1 q hq).1, inC_wf (hsp.2.1 q hq).2⟩)) ?_
    clear hsp
    by_cases c2 : connM p.cs = true
    · refine AL ?_
      refine CV (within_fn G _ _ _) ?_
      refine AL ?_
      simp [retA, backA, pieceM, c, c2]
    · refine AL ?_
      simp [retA, backA, pieceM, c, c2]
  · refine AL ?_
    simp [retA, backA, pieceM, c]
theorem specIsPiece_fn (G : Gv) (p : PieceM) (hl : p.cs.length < 1000000000) : Gives Tryz.prog G 94 [pieceA 0 p] (.b (pieceS p)) := by
  refine .of (.body Tryz.func94 rfl (by simp [Tryz.ntmps94]) ?_)
  rw [Tryz.ntmps94, Tryz.results94]
  refine AL ?_
  refine CV (specIsRegion_fn G _ hl) ?_
  by_cases c : regionS p.cs = true
  · refine AL ?_
    refine CV (specIsConnected_fn G _ hl) ?_
    by_cases c2 : (shapeM p.cs && connS p.cs) = true
    · refine AL ?_
      refine CV (l01In_fn G _ _ _) ?_
      refine AL ?_
      simp only [retA, backA, pieceS, c, c2, decide_true, decide_false, Bool.not_true, Bool.not_false, Bool.and_true, Bool.true_and, Bool.and_false, Bool.false_and, Bool.and_self]
    · refine AL ?_
      simp only [Bool.not_eq_true] at c2
      simp only [retA, backA, pieceS, c, c2, decide_true, decide_false, Bool.not_true, Bool.not_false, Bool.and_true, Bool.true_and, Bool.and_false, Bool.false_and, Bool.and_self]
  · refine AL ?_
    simp [retA, backA, pieceS, c]
end Go.Proofs
end
