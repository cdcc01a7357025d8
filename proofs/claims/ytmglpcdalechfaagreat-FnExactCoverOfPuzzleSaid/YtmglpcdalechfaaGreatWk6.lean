/- Walks: Pieces alike. No condition. | What is a puzzle. No condition. | What is a puzzle, the reference's. No condition. | Lists of numbers that rise, the reference's. No condition. | What is a placement. No condition. | Placements of a piece, as lists: what both programs make. No condition. -/
import Derived.Test.YtmglpcdalechfaaGreatBO
import Derived.Test.YtmglpcdalechfaaGreatWk5
import Derived.Test.YtmglpcdalechfaaGreatBC
import Derived.Test.YtmglpcdalechfaaGreatWk1
import Derived.Test.YtmglpcdalechfaaGreatWk2
set_option linter.unusedVariables false
set_option linter.unusedSimpArgs false
section
open Go Go.Big
namespace Go.Proofs
set_option maxHeartbeats 2000000
/-- A function value that asks one question of a shape, and leaves old objects as they are. -/
def Asks (G : Gv) (f : FuncId) (caps : List AV) (H0 : Heap) (n0 tg : Nat) (p : Shape → Bool) (ls : List Shape) : Prop :=
  ∀ x ∈ ls, ∀ (H : Heap) (n : Nat), n0 ≤ n → (∀ k, k < n0 → H k = H0 k) → WC Tryz.prog G f (.sl tg (cells x) :: caps) H n (fun r H' n' => r = .b (p x) ∧ n ≤ n' ∧ ∀ k, k < n0 → H' k = H0 k)
def findS (p : Shape → Bool) (ls : List Shape) : Int := match (List.range ls.length).find? (fun i => p (ls.getD i [])) with
  | some i => i
  | none => -1
theorem indexFunc_fn (G : Gv) (f : FuncId) (caps : List AV) (H0 : Heap) (n0 tg : Nat) (p : Shape → Bool) (ls : List Shape) (hp : Asks G f caps H0 n0 tg p ls) (hff : (Tryz.prog.funcs[f]?).any (fun fn => fn.body.isSome && (fn.name != "runtime.NumGoroutine")) = true) (hls : ls.length < 1000000000)
    (H : Heap) (n : Nat) (hn : n0 ≤ n) (hH : ∀ k, k < n0 → H k = H0 k) :
    WC Tryz.prog G 290 [.sl tg (shapesR ls), .fn f caps] H n (fun r H' n' => r = .i .i64 (findS p ls) ∧ n ≤ n' ∧ ∀ k, k < n0 → H' k = H0 k) := by
  refine (.body Tryz.func290 rfl (by simp [Tryz.ntmps290]) ?_)
  rw [Tryz.ntmps290, Tryz.results290]
  have hlen := shapesR_len ls
  replace hH := Hid.mk hH
  replace hp := Hid.mk hp
  refine AL ?_
  refine .loop (.inv (fun d E H n' => ∃ i : Nat, i + d = ls.length ∧ n ≤ n' ∧ E 0 = .sl tg (shapesR ls) ∧ E 1 = .fn f caps ∧ E 7 = .i .i64 ls.length ∧ E 8 = .i .i64 i ∧ (∀ k, k < n0 → H k = H0 k) ∧ (∀ j, j < i → p (ls.getD j []) = false)) ls.length ?_ ?_)
  · exact ⟨0, by omega, by omega, by simp [setF_if, argE], by simp [setF_if, argE], by simp [setF_if, argE, hlen], by simp [setF_if, argE], hH.out, fun j hj => by omega⟩
  clear hH
  rintro d E H n' ⟨i, hi, hnn, h0, h1, h7, h8, hH, hall⟩
  replace hH := Hid.mk hH
  replace hall := Hid.mk hall
  by_cases c : (i : Int) < ls.length
  · have hw_i : IntKind.i64.wrap ((i : Int) + 1) = (i : Int) + 1 := wr64 (by omega) (by omega)
    have hr := shapesR_at (ls := ls) (i := i) (by omega)
    have hmem : ls.getD i [] ∈ ls := by rw [List.getD_eq_getElem?_getD, List.getElem?_eq_getElem (by omega)]; exact List.getElem_mem _
    have hyes : p (ls.getD i []) = true → findS p ls = i := fun h => by
      unfold findS; rw [find_yes (p := fun i => p (ls.getD i [])) (i := i) (by omega) h (fun j hj => hall.out j hj)]
    have hmore : p (ls.getD i []) = false → ∀ j, j < i + 1 → p (ls.getD j []) = false := fun h j hj => by
      by_cases q : j = i
      · rw [q]; exact h
      · exact hall.out j (by omega)
    replace hyes := Hid.mk hyes
    replace hmore := Hid.mk hmore
    replace hmem := Hid.mk hmem
    generalize ls.getD i [] = x at hr hmem hyes hmore
    refine AL ?_
    refine CI (hf := hff) ?_
    refine (hp.out x hmem.out _ _ (by omega) hH.out).mono ?_
    rintro r H2 n2 ⟨rfl, hn2, hH2⟩
    replace hH2 := Hid.mk hH2
    cases cq : p x with
    | true =>
      refine AL ?_
      exact ⟨by simp [retA, setF_if, hyes.out cq], by omega, hH2.out⟩
    | false =>
      refine AL ?_
      exact ⟨ls.length - (i + 1), by omega, i + 1, by omega, by omega, by simp [setF_if, *], by simp [setF_if, *], by simp [setF_if, *], by simp [setF_if, *], hH2.out, hmore.out cq⟩
  · refine AL ?_
    have : findS p ls = -1 := by
      unfold findS; rw [find_no (p := fun i => p (ls.getD i [])) (fun j hj => hall.out j (by omega))]
    exact ⟨by simp [retA, setF_if, this], by omega, hH.out⟩
theorem findS_any (p : Shape → Bool) (ls : List Shape) : decide (findS p ls ≥ 0) = ls.any p := by
  unfold findS
  cases h : (List.range ls.length).find? (fun i => p (ls.getD i [])) with
  | none =>
    rw [List.find?_range_eq_none] at h
    symm
    simp only [List.any_eq_false]
    simp
    intro x hx
    obtain ⟨i, hi, rfl⟩ := List.getElem_of_mem hx
    have := h i hi
    simpa [List.getD_eq_getElem?_getD, hi] using this
  | some i =>
    have h1 := List.find?_some h
    have h2 := List.mem_range.mp (List.mem_of_find?_eq_some h)
    simp only [decide_eq_true_eq] at *
    have h3 : ls.any p = true := List.any_eq_true.mpr ⟨ls[i], List.getElem_mem _, by simpa [List.getD_eq_getElem?_getD, h2] using h1⟩
    rw [h3]; simp
theorem containsFunc_fn (G : Gv) (f : FuncId) (caps : List AV) (H0 : Heap) (n0 tg : Nat) (p : Shape → Bool) (ls : List Shape) (hp : Asks G f caps H0 n0 tg p ls) (hff : (Tryz.prog.funcs[f]?).any (fun fn => fn.body.isSome && (fn.name != "runtime.NumGoroutine")) = true) (hls : ls.length < 1000000000)
    (H : Heap) (n : Nat) (hn : n0 ≤ n) (hH : ∀ k, k < n0 → H k = H0 k) :
    WC Tryz.prog G 248 [.sl tg (shapesR ls), .fn f caps] H n (fun r H' n' => r = .b (ls.any p) ∧ n ≤ n' ∧ ∀ k, k < n0 → H' k = H0 k) := by
  refine (.body Tryz.func248 rfl (by simp [Tryz.ntmps248]) ?_)
  rw [Tryz.ntmps248, Tryz.results248]
  replace hH := Hid.mk hH
  replace hp := Hid.mk hp
  refine AL ?_
  refine CI ?_
  refine (indexFunc_fn G f caps H0 n0 tg p ls hp.out hff hls _ _ (by omega) hH.out).mono ?_
  rintro r H2 n2 ⟨rfl, hn2, hH2⟩
  replace hH2 := Hid.mk hH2
  have ha := findS_any p ls
  refine AL ?_
  exact ⟨by simp [retA, setF_if, ha], by omega, hH2.out⟩
theorem alike11_fn (G : Gv) (a b : Shape) (o : Nat) (T : TypeId) (H : Heap) (n tg tb : Nat) (ho : o < n) (hH : H o = some (.box T [.sl tg (cells a)])) (ha : a.length < 1000000000) (hb : b.length < 1000000000) :
    WC Tryz.prog G 250 [.sl tb (cells b), .ptr o 0 0 0] H n (fun r H' n' => r = .b (decide (a = b)) ∧ n ≤ n' ∧ H' = H) := by
  refine (.body Tryz.func250 rfl (by simp [Tryz.ntmps250]) ?_)
  rw [Tryz.ntmps250, Tryz.results250]
  refine AL ?_
  refine CV (equal_fn G a b ha hb) ?_
  refine AL ?_
  refine ⟨by simp [retA, setF_if], by omega, ?_⟩
  first | rfl | trivial
theorem alike1_fn (G : Gv) (a : Shape) (bs : List Shape) (o : Nat) (T : TypeId) (H : Heap) (n tg ta : Nat) (ho : o < n) (hH : H o = some (.box T [.sl tg (shapesR bs)])) (ha : a.length < 1000000000) (hbs : bs.length < 1000000000) (hb : ∀ b ∈ bs, b.length < 1000000000) :
    WC Tryz.prog G 249 [.sl ta (cells a), .ptr o 0 0 0] H n (fun r H' n' => r = .b (bs.any fun b => decide (a = b)) ∧ n ≤ n' ∧ ∀ k, k < n → H' k = H k) := by
  refine (.body Tryz.func249 rfl (by simp [Tryz.ntmps249]) ?_)
  rw [Tryz.ntmps249, Tryz.results249]
  replace hb := Hid.mk hb
  have hno : (o = n) = False := by simp; omega
  refine AL ?_
  refine CI ?_
  refine (containsFunc_fn G 250 [.ptr n 0 0 0] (H.upd n (.box 32 [.sl ta (cells a)])) (n + 1) tg (fun b => decide (a = b)) bs ?_ (by kernel_rfl) hbs _ _ (by omega) (fun k hk => rfl)).mono ?_
  · intro x hx H2 n2 hn2 hH2
    refine (alike11_fn G a x n _ H2 n2 ta tg (by omega) (by rw [hH2 n (by omega)]; exact Heap.upd_same _ _ _) ha (hb.out x hx)).mono ?_
    rintro r H3 n3 ⟨h1, h2, rfl⟩
    exact ⟨h1, h2, hH2⟩
  · rintro r H2 n2 ⟨rfl, hn2, hH2⟩
    replace hH2 := Hid.mk hH2
    refine AL ?_
    refine ⟨by simp [retA, setF_if], by omega, fun k hk => ?_⟩
    rw [hH2.out k (by omega), Heap.upd_ne _ _ (by omega)]
def alikeI (p q : PieceM) : Bool := (formsI p).any fun a => (formsI q).any fun b => decide (a = b)
theorem formsI_ok (p : PieceM) : (formsI p).length ≤ 8 ∧ ∀ x ∈ formsI p, x.length = p.cs.length := by
  have hc : ∀ ls : List Shape, (compactS ls).length ≤ ls.length ∧ ∀ x ∈ compactS ls, x ∈ ls := by
    intro ls
    cases ls with
    | nil => simp [compactS]
    | cons x l =>
      have : ∀ (l : List Shape) (x : Shape), (cptA x l).length ≤ l.length ∧ ∀ y ∈ cptA x l, y ∈ l := by
        intro l
        induction l with
        | nil => simp [cptA]
        | cons y l ih =>
          intro x
          unfold cptA
          split
          · obtain ⟨h1, h2⟩ := ih y
            exact ⟨by simp; omega, fun z hz => List.mem_cons_of_mem _ (h2 z hz)⟩
          · obtain ⟨h1, h2⟩ := ih y
            refine ⟨by simp; omega, fun z hz => ?_⟩
            rcases List.mem_cons.mp hz with rfl | hz
            · exact List.mem_cons_self
            · exact List.mem_cons_of_mem _ (h2 z hz)
      obtain ⟨h1, h2⟩ := this l x
      refine ⟨by simp [compactS]; omega, fun z hz => ?_⟩
      rcases List.mem_cons.mp hz with rfl | hz
      · exact List.mem_cons_self
      · exact List.mem_cons_of_mem _ (h2 z hz)
  have hp := orderS_perm (formsL p.cs (if p.b then 8 else 4))
  unfold formsI tidyM
  obtain ⟨h1, h2⟩ := hc (orderS (formsL p.cs (if p.b then 8 else 4)))
  constructor
  · have h3 : (formsL p.cs (if p.b then 8 else 4)).length ≤ 8 := by unfold formsL; simp; split <;> omega
    have := hp.length_eq
    omega
  · intro x hx
    have := hp.mem_iff.mp (h2 x hx)
    obtain ⟨i, _, rfl⟩ := List.mem_map.mp this
    exact formM_len _ _
theorem alike_fn (G : Gv) (hG : ∀ f args H n r H' n', sortsG f args H n r H' n' → G f args H n r H' n') (hG1 : ∀ f args H n r H' n', sortsG1 f args H n r H' n' → G f args H n r H' n') (p q : PieceM) (h1 : 0 < p.cs.length) (hl : p.cs.length < 1000000000) (h2 : 0 < q.cs.length) (hl2 : q.cs.length < 1000000000) : Gives Tryz.prog G 200 [pieceA 0 p, pieceA 0 q] (.b (alikeI p q)) := by
  refine .of (.body Tryz.func200 rfl (by simp [Tryz.ntmps200]) ?_)
  rw [Tryz.ntmps200, Tryz.results200]
  replace hG := Hid.mk hG
  replace hG1 := Hid.mk hG1
  refine AL ?_
  refine CV (formsOf_fn G hG.out hG1.out q h2 hl2) ?_
  refine AL ?_
  refine CV (formsOf_fn G hG.out hG1.out p h1 hl) ?_
  refine AL ?_
  refine CI ?_
  obtain ⟨k1, k2⟩ := formsI_ok p
  obtain ⟨k3, k4⟩ := formsI_ok q
  refine (containsFunc_fn G _ _ _ 10 1 (fun a => (formsI q).any fun b => decide (a = b)) (formsI p) ?_ (by kernel_rfl) (by omega) _ _ (Nat.le_refl _) (fun _ _ => rfl)).mono ?_
  · intro x hx H n hn hH
    refine (alike1_fn G x (formsI q) 5 146 H n 1 1 (by omega) (by rw [hH 5 (by omega)]; exact Heap.upd_same _ _ _) (by rw [k2 x hx]; exact hl) (by omega) (fun b hb => by rw [k4 b hb]; exact hl2)).mono ?_
    rintro r H2 n2 ⟨rfl, hn2, hH2⟩
    exact ⟨rfl, by omega, fun k hk => by rw [hH2 k (by omega), hH k hk]⟩
  · rintro r H2 n2 ⟨rfl, hn2, hH2⟩
    replace hH2 := Hid.mk hH2
    refine AL ?_
    simp [retA, backA, setF_if, alikeI]
end Go.Proofs
end
section
open Go Go.Big
namespace Go.Proofs
set_option maxHeartbeats 2000000
theorem pieces_at {l : List PieceM} {i : Nat} {p : PieceM} (h : l[i]? = some p) : (pieces l)[i]? = some (pieceR p) := by simp [pieces, h]
theorem pieceM_pos {p : PieceM} (h : pieceM p = true) : 0 < p.cs.length := by
  unfold pieceM at h; simp only [Bool.and_eq_true] at h
  exact shapeM_pos (regionM_shape h.1.1)
theorem pieceS_pos {p : PieceM} (h : pieceS p = true) : 0 < p.cs.length := by
  unfold pieceS regionS at h; simp only [Bool.and_eq_true] at h
  exact shapeM_pos h.1.1.1
/-- No piece before this one has as many cells and is alike. -/
def apartI (l : List PieceM) (i : Nat) (p : PieceM) : Bool := (l.take i).all fun q => !(decide (p.cs.length = q.cs.length) && alikeI p q)
def puzzleI (r : List (Int × Int)) (l : List PieceM) : Bool := regionM r && (decide (1 ≤ l.length) && decide (l.length ≤ 12)) && (List.range l.length).all fun i => pieceM (l.getD i ⟨[], 0, false⟩) && apartI l i (l.getD i ⟨[], 0, false⟩)
theorem take_all {p : PieceM → Bool} {l : List PieceM} {i : Nat} {x : PieceM} (h : l[i]? = some x) : (l.take (i + 1)).all p = ((l.take i).all p && p x) := by
  obtain ⟨hi, hx⟩ := List.getElem?_eq_some_iff.mp h
  rw [List.take_succ_eq_append_getElem hi, List.all_append, hx]; simp
theorem implIsPuzzle_fn (G : Gv) (hG : ∀ f args H n r H' n', sortsG f args H n r H' n' → G f args H n r H' n') (hG1 : ∀ f args H n r H' n', sortsG1 f args H n r H' n' → G f args H n r H' n') (r : List (Int × Int)) (l : List PieceM) (hr : r.length < 1000000000) (hl : l.length < 1000000000) (hc : ∀ p ∈ l, p.cs.length < 1000000000) :
    Gives Tryz.prog G 140 [.ag [.sl 0 (cells r), .sl 0 (pieces l)]] (.b (puzzleI r l)) := by
  refine .of (.body Tryz.func140 rfl (by simp [Tryz.ntmps140]) ?_)
  rw [Tryz.ntmps140, Tryz.results140]
  replace hG := Hid.mk hG
  replace hG1 := Hid.mk hG1
  replace hc := Hid.mk hc
  have hlen := pieces_len l
  refine AL ?_
  refine CV (implIsRegion_fn G r hr) ?_
  by_cases c : regionM r = true
  · by_cases c1 : (l.length : Int) < 1
    · have : puzzleI r l = false := by unfold puzzleI; simp; intro _ h; omega
      refine AL ?_
      simp [retA, backA, this]
    · by_cases c3 : (l.length : Int) > 12
      · have : puzzleI r l = false := by unfold puzzleI; simp; intro _ _ h; omega
        refine AL ?_
        simp [retA, backA, this]
      · have hno : ∀ i, i < l.length → (pieceM (l.getD i ⟨[], 0, false⟩) && apartI l i (l.getD i ⟨[], 0, false⟩)) = false → puzzleI r l = false := fun i hi h => by
          unfold puzzleI
          rw [all_no (f := fun i => pieceM (l.getD i ⟨[], 0, false⟩) && apartI l i (l.getD i ⟨[], 0, false⟩)) hi h]; simp
        replace hno := Hid.mk hno
        refine AL ?_
        refine .loop (.inv (fun d E H n' => ∃ i : Nat, i + d = l.length ∧ 0 < n' ∧ E 1 = .ptr 0 0 0 0 ∧ E 24 = .sl 0 (pieces l) ∧ E 25 = .i .i64 l.length ∧ E 26 = .i .i64 i ∧ H 0 = some (.box 35 [.sl 0 (cells r), .sl 0 (pieces l)]) ∧ (∀ j, j < i → (pieceM (l.getD j ⟨[], 0, false⟩) && apartI l j (l.getD j ⟨[], 0, false⟩)) = true)) l.length ?_ ?_)
        · exact ⟨0, by omega, by omega, by simp [setF_if, argE], by simp [setF_if, argE], by simp [setF_if, argE, hlen], by simp [setF_if, argE], by simp [upd_if], fun j hj => by omega⟩
        rintro d E H n' ⟨i, hi, hn0, h1, h24, h25, h26, hH, hall⟩
        replace hall := Hid.mk hall
        by_cases ci : (i : Int) < l.length
        · have hw_i : IntKind.i64.wrap ((i : Int) + 1) = (i : Int) + 1 := wr64 (by omega) (by omega)
          have ciN : i < l.length := by omega
          obtain ⟨p, hpi⟩ : ∃ p, l[i]? = some p := ⟨_, List.getElem?_eq_getElem ciN⟩
          have hrow := pieces_at hpi
          have hpd : l.getD i ⟨[], 0, false⟩ = p := by rw [List.getD_eq_getElem?_getD, hpi]; rfl
          have hpl := hc.out p (List.mem_of_getElem? hpi)
          have hile : (i ≤ l.length) = True := by simp; omega
          have hs0 : i - 0 = i := rfl
          have hfd : decide (∀ x ∈ pieces l, x.length = 3) = true := decide_eq_true (fun x hx => by
            obtain ⟨p, _, rfl⟩ := List.mem_map.mp hx; rfl)
          have htl : ((pieces l).take i).length = i := by rw [List.length_take, hlen]; omega
          refine AL ?_
          refine CV (implIsPiece_fn G p hpl) ?_
          by_cases cp : pieceM p = true
          · have hpos := pieceM_pos cp
            refine AL ?_
            refine .loop (.inv (fun d2 E H n' => ∃ (j n0 : Nat), j + d2 = i ∧ 0 < n0 ∧ n0 < n' ∧ E 1 = .ptr 0 0 0 0 ∧ E 4 = .ptr n0 0 0 0 ∧ E 24 = .sl 0 (pieces l) ∧ E 25 = .i .i64 l.length ∧ E 26 = .i .i64 i ∧ E 37 = .sl 0 ((pieces l).take i) ∧ E 38 = .i .i64 i ∧ E 39 = .i .i64 j ∧ H 0 = some (.box 35 [.sl 0 (cells r), .sl 0 (pieces l)]) ∧ H n0 = some (.box 68 [.sl 0 (cells p.cs), .i .i64 p.k, .b p.b]) ∧ (l.take j).all (fun q => !(decide (p.cs.length = q.cs.length) && alikeI p q)) = true) i ?_ ?_)
            · exact ⟨0, n' + 4, by omega, by omega, by omega, by simp [setF_if, *], by simp [setF_if, *], by simp [setF_if, *], by simp [setF_if, *], by simp [setF_if, *], by simp [setF_if, *], by simp [setF_if, *], by simp [setF_if, *], by simp [upd_if, *], by simp [upd_if, *], by simp⟩
            clear h1 h24 h25 h26 hH hn0 hfd hrow
            rintro d2 E H n' ⟨j, n0, hj, hn00, hn0n, h1, h4, h24, h25, h26, h37, h38, h39, hH, hH0, hap⟩
            replace hap := Hid.mk hap
            have hn0' : 0 < n' := by omega
            have z1 : (n0 = 0) = False := by simp; omega
            have z2 : (0 = n0) = False := by simp; omega
            by_cases cj : (j : Int) < i
            · have hw_j : IntKind.i64.wrap ((j : Int) + 1) = (j : Int) + 1 := wr64 (by omega) (by omega)
              have cjN : j < i := by omega
              obtain ⟨q, hqi⟩ : ∃ q, l[j]? = some q := ⟨_, List.getElem?_eq_getElem (by omega)⟩
              have hrow : ((pieces l).take i)[j]? = some (pieceR q) := by rw [List.getElem?_take_of_lt cjN]; exact pieces_at hqi
              have hql := hc.out q (List.mem_of_getElem? hqi)
              have hqp : pieceM q = true := by
                have := hall.out j cjN
                rw [List.getD_eq_getElem?_getD, hqi] at this
                simp only [Option.getD_some, Bool.and_eq_true] at this
                exact this.1
              have hq0 := pieceM_pos hqp
              have hta := take_all (p := fun q => !(decide (p.cs.length = q.cs.length) && alikeI p q)) hqi
              replace hta := Hid.mk hta
              have hpc := cells_len p.cs
              have hqc := cells_len q.cs
              by_cases ce : p.cs.length = q.cs.length
              · have hde : ((p.cs.length : Int) == (q.cs.length : Int)) = true := by simp [ce]
                replace ce := Hid.mk ce
                refine AL ?_
                refine CV (alike_fn G hG.out hG1.out p q hpos hpl hq0 hql) ?_
                by_cases ca : alikeI p q = true
                · refine AL ?_
                  have hf : apartI l i p = false := by
                    unfold apartI
                    rw [List.all_eq_false]
                    exact ⟨q, List.mem_of_getElem? (i := j) (by rw [List.getElem?_take_of_lt cjN]; exact hqi), by simp [ce.out, ca]⟩
                  have := hno.out i ciN (by rw [hpd, hf]; simp)
                  simp [retA, backA, this]
                · refine AL ?_
                  refine ⟨d2 - 1, by omega, j + 1, n0, by omega, by omega, by omega, by simp [setF_if, *], by simp [setF_if, *], by simp [setF_if, *], by simp [setF_if, *], by simp [setF_if, *], by simp [setF_if, *], by simp [setF_if, *], by simp [setF_if, *], ?_, ?_, by rw [hta.out, hap.out]; simp [ca]⟩
                  · simp only [upd_if, neAdd hn0', reduceIte, hH]
                  · simp only [upd_if, neAdd hn0n, reduceIte, hH0]
              · have hde : ((p.cs.length : Int) == (q.cs.length : Int)) = false := by simp; omega
                replace ce := Hid.mk ce
                refine AL ?_
                refine ⟨d2 - 1, by omega, j + 1, n0, by omega, by omega, by omega, by simp [setF_if, *], by simp [setF_if, *], by simp [setF_if, *], by simp [setF_if, *], by simp [setF_if, *], by simp [setF_if, *], by simp [setF_if, *], by simp [setF_if, *], ?_, ?_, by rw [hta.out, hap.out]; simp [ce.out]⟩
                · simp only [upd_if, neAdd hn0', reduceIte, hH]
                · simp only [upd_if, neAdd hn0n, reduceIte, hH0]
            · have ej : j = i := by omega
              rw [ej] at hap
              refine AL ?_
              refine ⟨l.length - (i + 1), by omega, i + 1, by omega, by omega, by simp [setF_if, *], by simp [setF_if, *], by simp [setF_if, *], by simp [setF_if, *], by simp [*], fun k hk => ?_⟩
              by_cases q : k = i
              · rw [q, hpd, cp]; exact hap.out
              · exact hall.out k (by omega)
          · refine AL ?_
            have := hno.out i ciN (by rw [hpd]; simp [cp])
            simp [retA, backA, this]
        · have : puzzleI r l = true := by
            unfold puzzleI
            rw [all_yes (f := fun i => pieceM (l.getD i ⟨[], 0, false⟩) && apartI l i (l.getD i ⟨[], 0, false⟩)) (fun j hj => hall.out j (by omega)), c]
            simp; omega
          refine AL ?_
          simp [retA, backA, this]
  · have : puzzleI r l = false := by unfold puzzleI; simp [c]
    refine AL ?_
    simp [retA, backA, this]
end Go.Proofs
end
section
open Go Go.Big
namespace Go.Proofs
set_option maxHeartbeats 2000000
theorem formsP_ok (p : PieceM) : (formsP p).length ≤ 8 ∧ ∀ x ∈ formsP p, x.length = p.cs.length := by
  unfold formsP
  obtain ⟨h1, h2⟩ := formsF_ok p.cs (if p.b then 8 else 4)
  refine ⟨Nat.le_trans h1 (by split <;> omega), h2⟩
def alikeS (p q : PieceM) : Bool := (formsP p).any fun a => (formsP q).any fun b => cmpM a b == 0
theorem take_any {p : Shape → Bool} {l : List Shape} {i : Nat} (h : i < l.length) : (l.take (i + 1)).any p = ((l.take i).any p || p (l.getD i [])) := by
  rw [List.take_succ_eq_append_getElem h, List.any_append]; simp [List.getD_eq_getElem?_getD, h]
theorem any_at {p : Shape → Bool} {l : List Shape} {i : Nat} (h : i < l.length) (hp : p (l.getD i []) = true) : l.any p = true :=
  List.any_eq_true.mpr ⟨l[i], List.getElem_mem _, by simpa [List.getD_eq_getElem?_getD, h] using hp⟩
theorem l11Alike_fn (G : Gv) (p q : PieceM) (h1 : 0 < p.cs.length) (hl : p.cs.length < 1000000000) (h2 : 0 < q.cs.length) (hl2 : q.cs.length < 1000000000) : Gives Tryz.prog G 199 [pieceA 0 p, pieceA 0 q] (.b (alikeS p q)) := by
  refine .of (.body Tryz.func199 rfl (by simp [Tryz.ntmps199]) ?_)
  rw [Tryz.ntmps199, Tryz.results199]
  obtain ⟨a1, a2⟩ := formsP_ok p
  obtain ⟨b1, b2⟩ := formsP_ok q
  replace a2 := Hid.mk a2
  replace b2 := Hid.mk b2
  have hal := shapesR_len (formsP p)
  have hbl := shapesR_len (formsP q)
  refine AL ?_
  refine CQ (l11Forms_fn G p h1 hl) ?_
  refine AL ?_
  refine CQ (l11Forms_fn G q h2 hl2) ?_
  unfold alikeS
  generalize formsP p = fa at *
  generalize formsP q = fb at *
  refine AL ?_
  refine .loop (.inv (fun d E H n' => ∃ i : Nat, i + d = fa.length ∧ E 5 = .sl 1 (shapesR fa) ∧ E 6 = .sl 1 (shapesR fb) ∧ E 7 = .i .i64 i ∧ (fa.take i).any (fun a => fb.any fun b => cmpM a b == 0) = false) fa.length ?_ ?_)
  · exact ⟨0, by omega, by simp [setF_if, argE], by simp [setF_if, argE], by simp [setF_if, argE], by simp⟩
  rintro d E H n' ⟨i, hi, h5, h6, h7, hany⟩
  replace hany := Hid.mk hany
  by_cases c : (i : Int) < fa.length
  · have hw_i : IntKind.i64.wrap ((i : Int) + 1) = (i : Int) + 1 := wr64 (by omega) (by omega)
    have cN : i < fa.length := by omega
    have hr := shapesR_at (ls := fa) (i := i) cN
    have hta := take_any (p := fun a => fb.any fun b => cmpM a b == 0) cN
    have hat := any_at (p := fun a => fb.any fun b => cmpM a b == 0) cN
    have hxl : (fa.getD i []).length < 1000000000 := by rw [a2.out _ (by rw [List.getD_eq_getElem?_getD, List.getElem?_eq_getElem cN]; exact List.getElem_mem _)]; exact hl
    replace hta := Hid.mk hta
    replace hat := Hid.mk hat
    generalize fa.getD i [] = x at hr hta hat hxl
    refine AL ?_
    refine .loop (.inv (fun d2 E H n' => ∃ j : Nat, j + d2 = fb.length ∧ E 5 = .sl 1 (shapesR fa) ∧ E 6 = .sl 1 (shapesR fb) ∧ E 7 = .i .i64 i ∧ E 8 = .i .i64 j ∧ (fb.take j).any (fun b => cmpM x b == 0) = false) fb.length ?_ ?_)
    · exact ⟨0, by omega, by simp [setF_if, *], by simp [setF_if, *], by simp [setF_if, *], by simp [setF_if, *], by simp⟩
    clear h5 h6 h7
    rintro d2 E H n' ⟨j, hj, h5, h6, h7, h8, hany2⟩
    replace hany2 := Hid.mk hany2
    by_cases cj : (j : Int) < fb.length
    · have hw_j : IntKind.i64.wrap ((j : Int) + 1) = (j : Int) + 1 := wr64 (by omega) (by omega)
      have cjN : j < fb.length := by omega
      have hrb := shapesR_at (ls := fb) (i := j) cjN
      have htb := take_any (p := fun b => cmpM x b == 0) cjN
      have hbt := any_at (p := fun b => cmpM x b == 0) cjN
      have hyl : (fb.getD j []).length < 1000000000 := by rw [b2.out _ (by rw [List.getD_eq_getElem?_getD, List.getElem?_eq_getElem cjN]; exact List.getElem_mem _)]; exact hl2
      replace htb := Hid.mk htb
      replace hbt := Hid.mk hbt
      generalize fb.getD j [] = y at hrb htb hbt hyl
      refine AL ?_
      refine CQ (specCompareShapes_fn G x y hxl hyl) ?_
      by_cases cc : (cmpM x y == 0) = true
      · refine AL ?_
        simp [retA, backA, hat.out (hbt.out cc)]
      · simp only [Bool.not_eq_true] at cc
        refine AL ?_
        exact ⟨fb.length - (j + 1), by omega, j + 1, by omega, by simp [setF_if, *], by simp [setF_if, *], by simp [setF_if, *], by simp [setF_if, *], by rw [htb.out, hany2.out, cc]; rfl⟩
    · have ej : j = fb.length := by omega
      rw [ej, List.take_length] at hany2
      refine AL ?_
      exact ⟨fa.length - (i + 1), by omega, i + 1, by omega, by simp [setF_if, *], by simp [setF_if, *], by simp [setF_if, *], by rw [hta.out, hany.out, hany2.out]; rfl⟩
  · have e' : i = fa.length := by omega
    rw [e', List.take_length] at hany
    refine AL ?_
    simp [retA, backA, hany.out]
def apartS (l : List PieceM) (i : Nat) (p : PieceM) : Bool := (l.take i).all fun q => !alikeS p q
def puzzleS (r : List (Int × Int)) (l : List PieceM) : Bool := regionS r && (decide ((l.length : Int) ≥ 1) && decide ((l.length : Int) ≤ 12)) && (List.range l.length).all fun i => pieceS (l.getD i ⟨[], 0, false⟩) && apartS l i (l.getD i ⟨[], 0, false⟩)
theorem specIsPuzzle_fn (G : Gv) (r : List (Int × Int)) (l : List PieceM) (hr : r.length < 1000000000) (hl : l.length < 1000000000) (hc : ∀ p ∈ l, p.cs.length < 1000000000) :
    Gives Tryz.prog G 136 [.ag [.sl 0 (cells r), .sl 0 (pieces l)]] (.b (puzzleS r l)) := by
  refine .of (.body Tryz.func136 rfl (by simp [Tryz.ntmps136]) ?_)
  rw [Tryz.ntmps136, Tryz.results136]
  replace hc := Hid.mk hc
  have hlen := pieces_len l
  refine AL ?_
  refine CV (specIsRegion_fn G r hr) ?_
  by_cases c : regionS r = true
  · refine AL ?_
    refine CV (l01In_fn G _ _ _) ?_
    by_cases c1 : (decide ((l.length : Int) ≥ 1) && decide ((l.length : Int) ≤ 12)) = true
    · have hno : ∀ i, i < l.length → (pieceS (l.getD i ⟨[], 0, false⟩) && apartS l i (l.getD i ⟨[], 0, false⟩)) = false → puzzleS r l = false := fun i hi h => by
        unfold puzzleS
        rw [all_no (f := fun i => pieceS (l.getD i ⟨[], 0, false⟩) && apartS l i (l.getD i ⟨[], 0, false⟩)) hi h]; simp
      replace hno := Hid.mk hno
      refine AL ?_
      refine .loop (.inv (fun d E H n' => ∃ i : Nat, i + d = l.length ∧ E 1 = .ptr 0 0 0 0 ∧ E 3 = .i .i64 i ∧ H 0 = some (.box 35 [.sl 0 (cells r), .sl 0 (pieces l)]) ∧ (∀ j, j < i → (pieceS (l.getD j ⟨[], 0, false⟩) && apartS l j (l.getD j ⟨[], 0, false⟩)) = true)) l.length ?_ ?_)
      · exact ⟨0, by omega, by simp [setF_if, argE], by simp [setF_if, argE], by simp [upd_if], fun j hj => by omega⟩
      rintro d E H n' ⟨i, hi, h1, h3, hH, hall⟩
      replace hall := Hid.mk hall
      by_cases ci : (i : Int) < l.length
      · have hw_i : IntKind.i64.wrap ((i : Int) + 1) = (i : Int) + 1 := wr64 (by omega) (by omega)
        have ciN : i < l.length := by omega
        obtain ⟨p, hpi⟩ : ∃ p, l[i]? = some p := ⟨_, List.getElem?_eq_getElem ciN⟩
        have hrow := pieces_at hpi
        have hpd : l.getD i ⟨[], 0, false⟩ = p := by rw [List.getD_eq_getElem?_getD, hpi]; rfl
        have hpl := hc.out p (List.mem_of_getElem? hpi)
        replace hpd := Hid.mk hpd
        refine AL ?_
        refine CV (specIsPiece_fn G p hpl) ?_
        by_cases cp : pieceS p = true
        · have hpos := pieceS_pos cp
          refine AL ?_
          refine .loop (.inv (fun d2 E H n' => ∃ j : Nat, j + d2 = i ∧ E 1 = .ptr 0 0 0 0 ∧ E 3 = .i .i64 i ∧ E 4 = .i .i64 j ∧ H 0 = some (.box 35 [.sl 0 (cells r), .sl 0 (pieces l)]) ∧ (l.take j).all (fun q => !alikeS p q) = true) i ?_ ?_)
          · exact ⟨0, by omega, by simp [setF_if, *], by simp [setF_if, *], by simp [setF_if, *], by simp [upd_if, *], by simp⟩
          clear h1 h3 hH
          rintro d2 E H n' ⟨j, hj, h1, h3, h4, hH, hap⟩
          replace hap := Hid.mk hap
          by_cases cj : (j : Int) < i
          · have hw_j : IntKind.i64.wrap ((j : Int) + 1) = (j : Int) + 1 := wr64 (by omega) (by omega)
            have cjN : j < i := by omega
            obtain ⟨q, hqi⟩ : ∃ q, l[j]? = some q := ⟨_, List.getElem?_eq_getElem (by omega)⟩
            have hrow2 := pieces_at hqi
            have hql := hc.out q (List.mem_of_getElem? hqi)
            have hqp : pieceS q = true := by
              have := hall.out j cjN
              rw [List.getD_eq_getElem?_getD, hqi] at this
              simp only [Option.getD_some, Bool.and_eq_true] at this
              exact this.1
            have hq0 := pieceS_pos hqp
            have hta := take_all (p := fun q => !alikeS p q) hqi
            replace hta := Hid.mk hta
            refine AL ?_
            refine CQ (l11Alike_fn G p q hpos hpl hq0 hql) ?_
            by_cases ca : alikeS p q = true
            · refine AL ?_
              have hf : apartS l i p = false := by
                unfold apartS
                rw [List.all_eq_false]
                exact ⟨q, List.mem_of_getElem? (i := j) (by rw [List.getElem?_take_of_lt cjN]; exact hqi), by simp [ca]⟩
              have := hno.out i ciN (by rw [hpd.out, hf]; simp)
              simp [retA, backA, this]
            · refine AL ?_
              exact ⟨d2 - 1, by omega, j + 1, by omega, by simp [setF_if, *], by simp [setF_if, *], by simp [setF_if, *], by simp [upd_if, *], by rw [hta.out, hap.out]; simp [ca]⟩
          · have ej : j = i := by omega
            rw [ej] at hap
            refine AL ?_
            refine ⟨l.length - (i + 1), by omega, i + 1, by omega, by simp [setF_if, *], by simp [setF_if, *], by simp [*], fun k hk => ?_⟩
            by_cases q : k = i
            · rw [q, hpd.out, cp]; exact hap.out
            · exact hall.out k (by omega)
        · refine AL ?_
          have := hno.out i ciN (by rw [hpd.out]; simp [cp])
          simp [retA, backA, this]
      · have : puzzleS r l = true := by
          unfold puzzleS
          rw [all_yes (f := fun i => pieceS (l.getD i ⟨[], 0, false⟩) && apartS l i (l.getD i ⟨[], 0, false⟩)) (fun j hj => hall.out j (by omega)), c, c1]; rfl
        refine AL ?_
        simp [retA, backA, this]
    · have : puzzleS r l = false := by
        simp only [Bool.not_eq_true] at c1
        unfold puzzleS; rw [c1]; simp
      refine AL ?_
      simp [retA, backA, this]
  · have : puzzleS r l = false := by unfold puzzleS; simp [c]
    refine AL ?_
    simp [retA, backA, this]
end Go.Proofs
end
section
open Go Go.Big
namespace Go.Proofs
set_option maxHeartbeats 2000000
theorem l01Rises_fn (G : Gv) (l : List Int) (n : Int) (hl : l.length < 4611686018427387904) : Gives Tryz.prog G 115 [.sl 0 (ints l), .i .i64 n] (.b (inc l (IntKind.i64.wrap (n - 1)))) := by
  refine .of (.body Tryz.func115 rfl (by simp [Tryz.ntmps115]) ?_)
  rw [Tryz.ntmps115, Tryz.results115]
  refine AG ?_
  refine .block (.loop (.inv (fun d E H n' => ∃ i : Nat, i + d = l.length ∧ E 0 = .sl 0 (ints l) ∧ E 1 = .i .i64 n ∧ E 5 = .i .i64 i ∧ (∀ j, j < i → incAt l (IntKind.i64.wrap (n - 1)) j = true)) l.length ?_ ?_))
  · simp [setF_if, argE]
  have hlen := ints_len l
  rintro d E H n' ⟨i, hi, h0, h1, h5, hall⟩
  refine AG ?_
  by_cases c : (i : Int) < l.length
  · refine IFT ?_
    have hr : (ints l)[i]? = some [.i .i64 (l.getD i 0)] := ints_at (by omega)
    have hat : incAt l (IntKind.i64.wrap (n - 1)) i = incAt l (IntKind.i64.wrap (n - 1)) i := rfl
    conv at hat => rhs; unfold incAt
    have hno : incAt l (IntKind.i64.wrap (n - 1)) i = false → inc l (IntKind.i64.wrap (n - 1)) = false := fun h => all_no (by omega) h
    have hw2 : IntKind.i64.wrap ((i : Int) + 1) = (i : Int) + 1 := wr64 (by omega) (by omega)
    have more : incAt l (IntKind.i64.wrap (n - 1)) i = true → ∀ j, j < i + 1 → incAt l (IntKind.i64.wrap (n - 1)) j = true := fun h j hj => by
      by_cases e : j = i
      · rw [e]; exact h
      · exact hall j (by omega)
    generalize l.getD i 0 = x at hr hat
    refine .skip ?_
    refine TH ?_
    refine .seq ?_
    refine .block ?_
    refine AQ ?_
    refine CQ (l01In_fn G _ _ _) ?_
    refine AQ ?_
    by_cases c1 : (decide (x ≥ 0) && decide (x ≤ IntKind.i64.wrap (n - 1))) = true
    · refine AQ ?_
      by_cases c3 : (i : Int) > 0
      · have hr2 : (ints l)[((i : Int) - 1).toNat]? = some [.i .i64 (l.getD (i - 1) 0)] := by rw [show ((i : Int) - 1).toNat = i - 1 by omega]; exact ints_at (by omega)
        have hw : IntKind.i64.wrap ((i : Int) - 1) = (i : Int) - 1 := wr64 (by omega) (by omega)
        have h01 : 0 ≤ (i : Int) - 1 := by omega
        generalize l.getD (i - 1) 0 = y at hr2 hat
        refine AQ ?_
        by_cases c4 : x ≤ y
        · refine IFT ?_
          refine AG ?_
          refine .ret ?_
          (try simp only [tN, tR, tE, rN, rR, rE, xN, xR, xE, reduceIte])
          refine DN ?_
          have := hno (by simp only [decide_true, decide_false, Bool.not_true, Bool.not_false, Bool.and_true, Bool.true_and, Bool.and_false, Bool.false_and, Bool.and_self, *])
          simp [retA, backA, this]
        · refine IFF ?_
          refine .skip ?_
          (try simp only [tN, tR, tE, rN, rR, rE, xN, xR, xE, reduceIte])
          refine .region ?_
          refine AG ?_
          (try simp only [tN, tR, tE, rN, rR, rE, xN, xR, xE, reduceIte])
          refine ⟨l.length - (i + 1), by omega, i + 1, by omega, ?_⟩
          simp [setF_if, *]
          exact more (by simp only [decide_true, decide_false, Bool.not_true, Bool.not_false, Bool.and_true, Bool.true_and, Bool.and_false, Bool.false_and, Bool.and_self, *])
      · refine AQ ?_
        refine IFF ?_
        refine .skip ?_
        (try simp only [tN, tR, tE, rN, rR, rE, xN, xR, xE, reduceIte])
        refine .region ?_
        refine AG ?_
        (try simp only [tN, tR, tE, rN, rR, rE, xN, xR, xE, reduceIte])
        refine ⟨l.length - (i + 1), by omega, i + 1, by omega, ?_⟩
        simp [setF_if, *]
        exact more (by simp only [decide_true, decide_false, Bool.not_true, Bool.not_false, Bool.and_true, Bool.true_and, Bool.and_false, Bool.false_and, Bool.and_self, *])
    · refine AQ ?_
      refine IFT ?_
      refine AG ?_
      refine .ret ?_
      (try simp only [tN, tR, tE, rN, rR, rE, xN, xR, xE, reduceIte])
      refine DN ?_
      have := hno (by simp only [decide_true, decide_false, Bool.not_true, Bool.not_false, Bool.and_true, Bool.true_and, Bool.and_false, Bool.false_and, Bool.and_self, *])
      simp [retA, backA, this]
  · refine IFF ?_
    refine .exit ?_
    (try simp only [tN, tR, tE, rN, rR, rE, xN, xR, xE, reduceIte])
    refine AG ?_
    refine .ret ?_
    refine DN ?_
    have : inc l (IntKind.i64.wrap (n - 1)) = true := all_yes (fun j hj => hall j (by omega))
    simp [retA, backA, this]
end Go.Proofs
end
section
open Go Go.Big
namespace Go.Proofs
set_option maxHeartbeats 2000000
theorem inc_mem {s : List Int} {m : Int} (h : inc s m = true) : ∀ k ∈ s, 0 ≤ k ∧ k ≤ m := by
  intro k hk
  obtain ⟨i, hi, rfl⟩ := List.getElem_of_mem hk
  unfold inc at h
  have := List.all_eq_true.mp h i (List.mem_range.mpr hi)
  unfold incAt at this
  simp only [List.getD_eq_getElem?_getD, List.getElem?_eq_getElem hi, Option.getD_some, Bool.and_eq_true, decide_eq_true_eq] at this
  exact this.1
theorem pickM_len (l : List (Int × Int)) (s : List Int) : (pickM l s).length = s.length := by simp [pickM]
def pc0 : PieceM := ⟨[], 0, false⟩
def ownM (r : List (Int × Int)) (s : List Int) : Shape := normM (pickM r s)
theorem ownM_len (r : List (Int × Int)) (s : List Int) : (ownM r s).length = s.length := by unfold ownM; rw [normM_len, pickM_len]
def fitS (p : PieceM) (own : Shape) : Bool := (formsP p).any fun f => cmpM f own == 0
def fitI (p : PieceM) (own : Shape) : Bool := (formsI p).any fun f => decide (f = own)
theorem l12Form_fn (G : Gv) (r : List (Int × Int)) (l : List PieceM) (k : Nat) (s : List Int) (p : PieceM) (hp : l[k]? = some p) (hp0 : 0 < p.cs.length) (hpl : p.cs.length < 1000000000) (hr : r.length < 1000000000) (hs : s.length < 1000000000) (hs0 : 0 < s.length) (hk : ∀ k ∈ s, 0 ≤ k ∧ k < r.length) :
    Gives Tryz.prog G 273 [.ag [.sl 0 (cells r), .sl 0 (pieces l)], .i .i64 k, .sl 0 (ints s)] (.b (fitS p (ownM r s))) := by
  refine .of (.body Tryz.func273 rfl (by simp [Tryz.ntmps273]) ?_)
  rw [Tryz.ntmps273, Tryz.results273]
  have hrow := pieces_at hp
  replace hk := Hid.mk hk
  refine AL ?_
  refine CV (l10Cells_fn G r s hr hs hk.out) ?_
  refine AL ?_
  refine CV (l02Normal_fn G (pickM r s) (by rw [pickM_len]; exact hs0) (by rw [pickM_len]; exact hs)) ?_
  refine AL ?_
  refine CV (l11Forms_fn G p hp0 hpl) ?_
  have how : normM (pickM r s) = ownM r s := rfl
  have hol : (ownM r s).length < 1000000000 := by rw [ownM_len]; exact hs
  rw [how]
  generalize ownM r s = own at hol
  unfold fitS
  obtain ⟨a1, a2⟩ := formsP_ok p
  have hal := shapesR_len (formsP p)
  replace a2 := Hid.mk a2
  generalize formsP p = fa at *
  clear how
  refine AL ?_
  refine .loop (.inv (fun d E H n' => ∃ i : Nat, i + d = fa.length ∧ E 7 = .sl 1 (cells own) ∧ E 8 = .sl 1 (shapesR fa) ∧ E 9 = .i .i64 i ∧ (fa.take i).any (fun f => cmpM f own == 0) = false) fa.length ?_ ?_)
  · exact ⟨0, by omega, by simp [setF_if, argE], by simp [setF_if, argE], by simp [setF_if, argE], by simp⟩
  rintro d E H n' ⟨i, hi, h7, h8, h9, hany⟩
  replace hany := Hid.mk hany
  by_cases c : (i : Int) < fa.length
  · have hw_i : IntKind.i64.wrap ((i : Int) + 1) = (i : Int) + 1 := wr64 (by omega) (by omega)
    have cN : i < fa.length := by omega
    have hr := shapesR_at (ls := fa) (i := i) cN
    have hta := take_any (p := fun f => cmpM f own == 0) cN
    have hat := any_at (p := fun f => cmpM f own == 0) cN
    have hxl : (fa.getD i []).length < 1000000000 := by rw [a2.out _ (by rw [List.getD_eq_getElem?_getD, List.getElem?_eq_getElem cN]; exact List.getElem_mem _)]; exact hpl
    replace hta := Hid.mk hta
    replace hat := Hid.mk hat
    generalize fa.getD i [] = x at hr hta hat hxl
    refine AL ?_
    refine CV (specCompareShapes_fn G x own hxl hol) ?_
    by_cases cc : (cmpM x own == 0) = true
    · refine AL ?_
      simp [retA, backA, hat.out cc]
    · simp only [Bool.not_eq_true] at cc
      refine AL ?_
      exact ⟨fa.length - (i + 1), by omega, i + 1, by omega, by simp [setF_if, *], by simp [setF_if, *], by simp [setF_if, *], by rw [hta.out, hany.out, cc]; rfl⟩
  · have e' : i = fa.length := by omega
    rw [e', List.take_length] at hany
    refine AL ?_
    simp [retA, backA, hany.out]
def placeS (r : List (Int × Int)) (l : List PieceM) (k : Int) (s : List Int) : Bool := (decide (k ≥ 0) && decide (k ≤ (l.length : Int) - 1)) && decide ((s.length : Int) > 0) && inc s ((r.length : Int) - 1) && fitS (l.getD k.toNat pc0) (ownM r s)
def placeI (r : List (Int × Int)) (l : List PieceM) (k : Int) (s : List Int) : Bool := (decide (k ≥ 0) && decide (k ≤ (l.length : Int) - 1)) && decide ((s.length : Int) > 0) && inc s ((r.length : Int) - 1) && fitI (l.getD k.toNat pc0) (ownM r s)
theorem l12Is_fn (G : Gv) (r : List (Int × Int)) (l : List PieceM) (k : Int) (s : List Int) (hr1 : 1 ≤ r.length) (hr : r.length < 1000000000) (hl1 : 1 ≤ l.length) (hl : l.length < 1000000000) (hs : s.length < 1000000000) (hp0 : ∀ p ∈ l, 0 < p.cs.length) (hpl : ∀ p ∈ l, p.cs.length < 1000000000) :
    Gives Tryz.prog G 216 [.ag [.sl 0 (cells r), .sl 0 (pieces l)], .ag [.i .i64 k, .sl 0 (ints s)]] (.b (placeS r l k s)) := by
  refine .of (.body Tryz.func216 rfl (by simp [Tryz.ntmps216]) ?_)
  rw [Tryz.ntmps216, Tryz.results216]
  have hlen := pieces_len l
  have hsl := ints_len s
  have hrl := cells_len r
  have hw1 : IntKind.i64.wrap ((l.length : Int) - 1) = (l.length : Int) - 1 := wr64 (by omega) (by omega)
  have hw2 : IntKind.i64.wrap ((r.length : Int) - 1) = (r.length : Int) - 1 := wr64 (by omega) (by omega)
  replace hp0 := Hid.mk hp0
  replace hpl := Hid.mk hpl
  refine AL ?_
  refine CV (l01In_fn G _ _ _) ?_
  by_cases c1 : (decide (k ≥ 0) && decide (k ≤ (l.length : Int) - 1)) = true
  · by_cases c2 : (s.length : Int) > 0
    · refine AL ?_
      refine CV (l01Rises_fn G s _ (by omega)) ?_
      rw [hw2]
      by_cases c3 : inc s ((r.length : Int) - 1) = true
      · have hmem := inc_mem c3
        replace hmem := Hid.mk hmem
        obtain ⟨k0, k1⟩ : 0 ≤ k ∧ k ≤ (l.length : Int) - 1 := by simpa using c1
        have hkl : k.toNat < l.length := by omega
        obtain ⟨p, hp⟩ : ∃ p, l[k.toNat]? = some p := ⟨_, List.getElem?_eq_getElem hkl⟩
        have hkk : ((k.toNat : Nat) : Int) = k := Int.toNat_of_nonneg k0
        have hf := l12Form_fn G r l k.toNat s p hp (hp0.out p (List.mem_of_getElem? hp)) (hpl.out p (List.mem_of_getElem? hp)) hr hs (by omega) (fun x hx => by have := hmem.out x hx; omega)
        rw [hkk] at hf
        have hpd : l.getD k.toNat pc0 = p := by rw [List.getD_eq_getElem?_getD, hp]; rfl
        replace hkk := Hid.mk hkk
        refine AL ?_
        refine CV hf ?_
        have : placeS r l k s = fitS p (ownM r s) := by unfold placeS; rw [c1, c3, hpd]; simp; omega
        clear hf
        refine AL ?_
        simp [retA, backA, this]
      · have : placeS r l k s = false := by
          simp only [Bool.not_eq_true] at c3
          unfold placeS; rw [c3]; simp
        refine AL ?_
        simp [retA, backA, this]
    · have : placeS r l k s = false := by
        have hcs : decide ((s.length : Int) > 0) = false := decide_eq_false c2
        unfold placeS; rw [hcs]; simp
      refine AL ?_
      simp [retA, backA, this]
  · have : placeS r l k s = false := by
      simp only [Bool.not_eq_true] at c1
      unfold placeS; rw [c1]; rfl
    refine AL ?_
    simp [retA, backA, this]
theorem puzzleS_ok {r : List (Int × Int)} {l : List PieceM} (h : puzzleS r l = true) : 1 ≤ r.length ∧ 1 ≤ l.length ∧ ∀ p ∈ l, 0 < p.cs.length := by
  unfold puzzleS at h
  simp only [Bool.and_eq_true, decide_eq_true_eq, List.all_eq_true, List.mem_range] at h
  obtain ⟨⟨h1, h2, h3⟩, h4⟩ := h
  have hr : shapeM r = true := by unfold regionS at h1; simp only [Bool.and_eq_true] at h1; exact h1.1
  refine ⟨shapeM_pos hr, by omega, fun p hp => ?_⟩
  obtain ⟨i, hi, rfl⟩ := List.getElem_of_mem hp
  have := (h4 i hi).1
  rw [List.getD_eq_getElem?_getD, List.getElem?_eq_getElem hi] at this
  exact pieceS_pos this
theorem puzzleI_ok {r : List (Int × Int)} {l : List PieceM} (h : puzzleI r l = true) : 1 ≤ r.length ∧ 1 ≤ l.length ∧ ∀ p ∈ l, 0 < p.cs.length := by
  unfold puzzleI at h
  simp only [Bool.and_eq_true, decide_eq_true_eq, List.all_eq_true, List.mem_range] at h
  obtain ⟨⟨h1, h2, h3⟩, h4⟩ := h
  refine ⟨shapeM_pos (regionM_shape h1), by omega, fun p hp => ?_⟩
  obtain ⟨i, hi, rfl⟩ := List.getElem_of_mem hp
  have := (h4 i hi).1
  rw [List.getD_eq_getElem?_getD, List.getElem?_eq_getElem hi] at this
  exact pieceM_pos this
theorem isPl1_fn (G : Gv) (a own : Shape) (o : Nat) (T : TypeId) (H : Heap) (n tg ta : Nat) (ho : o < n) (hH : H o = some (.box T [.sl tg (cells own)])) (ha : a.length < 1000000000) (hb : own.length < 1000000000) :
    WC Tryz.prog G 275 [.sl ta (cells a), .ptr o 0 0 0] H n (fun r H' n' => r = .b (decide (a = own)) ∧ n ≤ n' ∧ H' = H) := by
  refine (.body Tryz.func275 rfl (by simp [Tryz.ntmps275]) ?_)
  rw [Tryz.ntmps275, Tryz.results275]
  refine AL ?_
  refine CV (equal_fn G a own ha hb) ?_
  refine AL ?_
  refine ⟨by simp [retA, setF_if], by omega, ?_⟩
  first | rfl | trivial
theorem isPlacement_fn (G : Gv) (hG : ∀ f args H n r H' n', sortsG f args H n r H' n' → G f args H n r H' n') (hG1 : ∀ f args H n r H' n', sortsG1 f args H n r H' n' → G f args H n r H' n') (r : List (Int × Int)) (l : List PieceM) (k : Int) (s : List Int) (hr1 : 1 ≤ r.length) (hr : r.length < 1000000000) (hl1 : 1 ≤ l.length) (hl : l.length < 1000000000) (hs : s.length < 1000000000) (hp0 : ∀ p ∈ l, 0 < p.cs.length) (hpl : ∀ p ∈ l, p.cs.length < 1000000000) :
    Gives Tryz.prog G 218 [.ag [.sl 0 (cells r), .sl 0 (pieces l)], .ag [.i .i64 k, .sl 0 (ints s)]] (.b (placeI r l k s)) := by
  refine .of (.body Tryz.func218 rfl (by simp [Tryz.ntmps218]) ?_)
  rw [Tryz.ntmps218, Tryz.results218]
  replace hG := Hid.mk hG
  replace hG1 := Hid.mk hG1
  have hlen := pieces_len l
  have hsl := ints_len s
  have hrl := cells_len r
  have hw1 : IntKind.i64.wrap ((l.length : Int) - 1) = (l.length : Int) - 1 := wr64 (by omega) (by omega)
  have hw2 : IntKind.i64.wrap ((r.length : Int) - 1) = (r.length : Int) - 1 := wr64 (by omega) (by omega)
  replace hp0 := Hid.mk hp0
  replace hpl := Hid.mk hpl
  refine AL ?_
  refine CV (within_fn G _ _ _) ?_
  by_cases c1 : (decide (k ≥ 0) && decide (k ≤ (l.length : Int) - 1)) = true
  · by_cases c2 : ((s.length : Int) == 0) = true
    · have : placeI r l k s = false := by
        have : s.length = 0 := by simpa using c2
        unfold placeI; simp [this]
      refine AL ?_
      simp [retA, backA, this]
    · have hs0 : 0 < s.length := by
        have : ¬ s.length = 0 := by simpa using c2
        omega
      simp only [Bool.not_eq_true] at c2
      refine AL ?_
      refine CV (isIncreasing_fn G s _ (by omega)) ?_
      rw [hw2]
      by_cases c3 : inc s ((r.length : Int) - 1) = true
      · have hmem := inc_mem c3
        replace hmem := Hid.mk hmem
        obtain ⟨k0, k1⟩ : 0 ≤ k ∧ k ≤ (l.length : Int) - 1 := by simpa using c1
        have hkl : k.toNat < l.length := by omega
        obtain ⟨p, hp⟩ : ∃ p, l[k.toNat]? = some p := ⟨_, List.getElem?_eq_getElem hkl⟩
        have hpd : l.getD k.toNat pc0 = p := by rw [List.getD_eq_getElem?_getD, hp]; rfl
        have hrow := pieces_at hp
        have hpp0 := hp0.out p (List.mem_of_getElem? hp)
        have hppl := hpl.out p (List.mem_of_getElem? hp)
        have : placeI r l k s = fitI p (ownM r s) := by unfold placeI; rw [c1, c3, hpd]; simp; omega
        replace this := Hid.mk this
        replace hpd := Hid.mk hpd
        refine AL ?_
        refine CV (setToCells_fn G r s hr hs (fun x hx => by have := hmem.out x hx; omega)) ?_
        refine AL ?_
        refine CV (normal_fn G (pickM r s) (by rw [pickM_len]; exact hs0) (by rw [pickM_len]; exact hs)) ?_
        have how : normM (pickM r s) = ownM r s := rfl
        have hol : (ownM r s).length < 1000000000 := by rw [ownM_len]; exact hs
        rw [how]
        generalize ownM r s = own at hol this
        clear how
        refine AL ?_
        refine CV (formsOf_fn G hG.out hG1.out p hpp0 hppl) ?_
        obtain ⟨f1, f2⟩ := formsI_ok p
        replace f2 := Hid.mk f2
        refine AL ?_
        refine CI ?_
        refine (containsFunc_fn G _ _ _ _ 1 (fun a => decide (a = own)) (formsI p) ?_ (by kernel_rfl) (by omega) _ _ (Nat.le_refl _) (fun _ _ => rfl)).mono ?_
        · intro x hx H n hn hH
          refine (isPl1_fn G x own _ 32 H n 1 1 ?_ ?_ (by rw [f2.out x hx]; exact hppl) hol).mono ?_
          rotate_left
          · rw [hH _ ?_]
            · exact Heap.upd_same _ _ _
            · decide
          · rintro r H2 n2 ⟨h1, h2, rfl⟩
            exact ⟨h1, by omega, hH⟩
          · omega
        · rintro r2 H2 n2 ⟨rfl, hn2, hH2⟩
          replace hH2 := Hid.mk hH2
          refine AL ?_
          simp [retA, backA, setF_if, this.out, fitI]
      · have : placeI r l k s = false := by
          simp only [Bool.not_eq_true] at c3
          unfold placeI; rw [c3]; simp
        refine AL ?_
        simp [retA, backA, this]
  · have : placeI r l k s = false := by
      simp only [Bool.not_eq_true] at c1
      unfold placeI; rw [c1]; rfl
    refine AL ?_
    simp [retA, backA, this]
end Go.Proofs
end
section
open Go Go.Big
namespace Go.Proofs
set_option maxHeartbeats 2000000
/-- The indices of cells in a region, if all lie in it. -/
def setM (r : Shape) : Shape → Option (List Int)
  | [] => some []
  | c :: cs => if idxM r c < 0 then none else (setM r cs).map (idxM r c :: ·)
def gM (r : Shape) (i : Int) (f : Shape) (a b : Int) : Option (Int × List Int) := (setM r (movedM f a b)).map fun s => (i, s)
def offA (f : Shape) (c : Int × Int) : Int × Int := (IntKind.i64.wrap (c.1 - (f.getD 0 (0, 0)).1), IntKind.i64.wrap (c.2 - (f.getD 0 (0, 0)).2))
def rowA (r : Shape) (i : Int) (f : Shape) : List (Int × List Int) := r.filterMap fun c => gM r i f (offA f c).1 (offA f c).2
def listA (r : Shape) (i : Int) (fs : List Shape) : List (Int × List Int) := fs.flatMap (rowA r i)
def orderP (l : List (Int × List Int)) : List (Int × List Int) := l.mergeSort fun a b => !decide (cmpP b a < 0)
/-- A placement put into a list in order. -/
def insP (x : Int × List Int) : List (Int × List Int) → List (Int × List Int)
  | [] => [x]
  | y :: l => if cmpP y x < 0 then y :: insP x l else x :: y :: l
def stepB (r : Shape) (i : Int) (f : Shape) (y : Int) (out : List (Int × List Int)) (x : Nat) : List (Int × List Int) := match gM r i f x y with
  | some t => insP t out
  | none => out
def rowB (r : Shape) (i : Int) (f : Shape) (wide : Nat) (out : List (Int × List Int)) (y : Nat) : List (Int × List Int) := (List.range wide).foldl (stepB r i f y) out
def formB (r : Shape) (i : Int) (wide high : Nat) (out : List (Int × List Int)) (f : Shape) : List (Int × List Int) := (List.range high).foldl (rowB r i f wide) out
def listB (r : Shape) (i : Int) (fs : List Shape) : List (Int × List Int) := fs.foldl (formB r i (sizeM r).1.toNat (sizeM r).2.toNat) []
/- Where cells stand. -/
theorem cellAt_iff {l : Shape} {c : Int × Int} {i : Nat} : cellAt l c i = true ↔ l.getD i (0, 0) = c := by
  simp [cellAt, Prod.ext_iff]
theorem idx_mem {r : Shape} {c : Int × Int} (h : c ∈ r) : 0 ≤ idxM r c ∧ idxM r c < r.length ∧ r.getD (idxM r c).toNat (0, 0) = c := by
  unfold idxM
  cases q : (List.range r.length).find? (cellAt r c) with
  | none =>
    obtain ⟨i, hi, e⟩ := List.mem_iff_getElem.mp h
    rw [List.find?_range_eq_none] at q
    have := q i hi
    rw [Bool.not_eq_true', ← Bool.not_eq_true, cellAt_iff] at this
    exact absurd (by simp [List.getD_eq_getElem?_getD, hi, e]) this
  | some i =>
    rw [List.find?_range_eq_some] at q
    have hi : i < r.length := by simpa using q.2.1
    exact ⟨by simp, by simp [hi], by simpa using cellAt_iff.mp q.1⟩
theorem idx_not {r : Shape} {c : Int × Int} (h : c ∉ r) : idxM r c = -1 := by
  unfold idxM
  cases q : (List.range r.length).find? (cellAt r c) with
  | none => rfl
  | some i =>
    rw [List.find?_range_eq_some] at q
    have hi : i < r.length := by simpa using q.2.1
    have := cellAt_iff.mp q.1
    simp only [List.getD_eq_getElem?_getD, List.getElem?_eq_getElem hi, Option.getD_some] at this
    exact absurd (this ▸ List.getElem_mem hi) h
end Go.Proofs
end
