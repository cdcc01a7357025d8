/- Walks: Which element of a list has a property: the library's search. No condition. | Which element of a list has a property: the library's search, with a function that captures nothing. No condition. | Whether a piece has two hands: a drawn region with calls that make. Condition: the given contracts hold. | Whether a list of numbers holds one, whether two have one in common; lists and placements compared. No condition. | Lists compared as the library does it; placements compared. No condition. | Sizes of what comes in. No condition. | Lists of placements: turned into other ones, equal to itself, their size. No condition. | The parts of cells, without memory. No condition. -/
import Derived.Test.YtdbkkjoejomcmaaGreatBO
import Derived.Test.YtdbkkjoejomcmaaGreatWk1
import Derived.Test.YtdbkkjoejomcmaaGreatBC
import Derived.Test.YtdbkkjoejomcmaaGreatWk3
set_option linter.unusedVariables false
set_option linter.unusedSimpArgs false
section
open Go Go.Big
namespace Go.Proofs
set_option maxHeartbeats 2000000
/-- A function value that asks one question of an element, and leaves old objects as they are. -/
def AsksPc (G : Gv) (f : FuncId) (caps : List AV) (H0 : Heap) (n0 tg : Nat) (p : PieceM → Bool) (ls : List PieceM) : Prop :=
  ∀ x ∈ ls, ∀ (H : Heap) (n : Nat), n0 ≤ n → (∀ k, k < n0 → H k = H0 k) → WC Tryz.prog G f ((pieceA tg x) :: caps) H n (fun r H' n' => r = .b (p x) ∧ n ≤ n' ∧ ∀ k, k < n0 → H' k = H0 k)
def findPc (p : PieceM → Bool) (ls : List PieceM) : Int := match (List.range ls.length).find? (fun i => p (ls.getD i ⟨[], 0, false⟩)) with
  | some i => i
  | none => -1
theorem indexFuncPc_fn (G : Gv) (f : FuncId) (caps : List AV) (H0 : Heap) (n0 tg : Nat) (p : PieceM → Bool) (ls : List PieceM) (hp : AsksPc G f caps H0 n0 tg p ls) (hff : (Tryz.prog.funcs[f]?).any (fun fn => fn.body.isSome && (fn.name != "runtime.NumGoroutine")) = true) (hls : ls.length < 1000000000)
    (H : Heap) (n : Nat) (hn : n0 ≤ n) (hH : ∀ k, k < n0 → H k = H0 k) :
    WC Tryz.prog G 164 [.sl tg (pieces ls), .fn f caps] H n (fun r H' n' => r = .i .i64 (findPc p ls) ∧ n ≤ n' ∧ ∀ k, k < n0 → H' k = H0 k) := by
  refine (.body Tryz.func164 rfl (by simp [Tryz.ntmps164]) ?_)
  rw [Tryz.ntmps164, Tryz.results164]
  have hlen := pieces_len ls
  replace hH := Hid.mk hH
  replace hp := Hid.mk hp
  refine AL ?_
  refine .loop (.inv (fun d E H n' => ∃ i : Nat, i + d = ls.length ∧ n ≤ n' ∧ E 0 = .sl tg (pieces ls) ∧ E 1 = .fn f caps ∧ E 7 = .i .i64 ls.length ∧ E 8 = .i .i64 i ∧ (∀ k, k < n0 → H k = H0 k) ∧ (∀ j, j < i → p (ls.getD j ⟨[], 0, false⟩) = false)) ls.length ?_ ?_)
  · exact ⟨0, by omega, by omega, by simp [setF_if, argE], by simp [setF_if, argE], by simp [setF_if, argE, hlen], by simp [setF_if, argE], hH.out, fun j hj => by omega⟩
  clear hH
  rintro d E H n' ⟨i, hi, hnn, h0, h1, h7, h8, hH, hall⟩
  replace hH := Hid.mk hH
  replace hall := Hid.mk hall
  by_cases c : (i : Int) < ls.length
  · have hw_i : IntKind.i64.wrap ((i : Int) + 1) = (i : Int) + 1 := wr64 (by omega) (by omega)
    have hr : (pieces ls)[i]? = some (pieceR (ls.getD i ⟨[], 0, false⟩)) := by simp [pieces, List.getD_eq_getElem?_getD, show i < ls.length by omega]
    have hmem : ls.getD i ⟨[], 0, false⟩ ∈ ls := by rw [List.getD_eq_getElem?_getD, List.getElem?_eq_getElem (by omega)]; exact List.getElem_mem _
    have hyes : p (ls.getD i ⟨[], 0, false⟩) = true → findPc p ls = i := fun h => by
      unfold findPc; rw [find_yes (p := fun i => p (ls.getD i ⟨[], 0, false⟩)) (i := i) (by omega) h (fun j hj => hall.out j hj)]
    have hmore : p (ls.getD i ⟨[], 0, false⟩) = false → ∀ j, j < i + 1 → p (ls.getD j ⟨[], 0, false⟩) = false := fun h j hj => by
      by_cases q : j = i
      · rw [q]; exact h
      · exact hall.out j (by omega)
    replace hyes := Hid.mk hyes
    replace hmore := Hid.mk hmore
    replace hmem := Hid.mk hmem
    generalize ls.getD i ⟨[], 0, false⟩ = x at hr hmem hyes hmore
    refine AL ?_
    refine CI (hf := hff) ?_
    refine (hp.out x hmem.out _ _ (by omega) hH.out).mono ?_
    rintro r H2 n2 ⟨rfl, hn2, hH2⟩
    replace hH2 := Hid.mk hH2
    cases cq : p x with
    | true =>
      refine AL ?_
      exact ⟨by simp [retA, setF_if, hyes.out cq], by omega, hH2.out⟩
    | false =>
      refine AL ?_
      exact ⟨ls.length - (i + 1), by omega, i + 1, by omega, by omega, by simp [setF_if, *], by simp [setF_if, *], by simp [setF_if, *], by simp [setF_if, *], hH2.out, hmore.out cq⟩
  · refine AL ?_
    have : findPc p ls = -1 := by
      unfold findPc; rw [find_no (p := fun i => p (ls.getD i ⟨[], 0, false⟩)) (fun j hj => hall.out j (by omega))]
    exact ⟨by simp [retA, setF_if, this], by omega, hH.out⟩
theorem findPc_any (p : PieceM → Bool) (ls : List PieceM) : decide (findPc p ls ≥ 0) = ls.any p := by
  unfold findPc
  cases h : (List.range ls.length).find? (fun i => p (ls.getD i ⟨[], 0, false⟩)) with
  | none =>
    rw [List.find?_range_eq_none] at h
    have : ls.any p = false := by
      rw [List.any_eq_false]
      intro x hx
      obtain ⟨i, hi, e⟩ := List.mem_iff_getElem.mp hx
      have := h i hi
      rw [← e]
      simpa [List.getD_eq_getElem?_getD, hi] using this
    rw [this]; rfl
  | some i =>
    have h1 := List.find?_some h
    have h2 := List.mem_range.mp (List.mem_of_find?_eq_some h)
    simp only [decide_eq_true_eq] at *
    have h3 : ls.any p = true := List.any_eq_true.mpr ⟨ls[i], List.getElem_mem _, by simpa [List.getD_eq_getElem?_getD, h2] using h1⟩
    rw [h3]; simp
theorem containsFuncPc_fn (G : Gv) (f : FuncId) (caps : List AV) (H0 : Heap) (n0 tg : Nat) (p : PieceM → Bool) (ls : List PieceM) (hp : AsksPc G f caps H0 n0 tg p ls) (hff : (Tryz.prog.funcs[f]?).any (fun fn => fn.body.isSome && (fn.name != "runtime.NumGoroutine")) = true) (hls : ls.length < 1000000000)
    (H : Heap) (n : Nat) (hn : n0 ≤ n) (hH : ∀ k, k < n0 → H k = H0 k) :
    WC Tryz.prog G 98 [.sl tg (pieces ls), .fn f caps] H n (fun r H' n' => r = .b (ls.any p) ∧ n ≤ n' ∧ ∀ k, k < n0 → H' k = H0 k) := by
  refine (.body Tryz.func98 rfl (by simp [Tryz.ntmps98]) ?_)
  rw [Tryz.ntmps98, Tryz.results98]
  replace hH := Hid.mk hH
  replace hp := Hid.mk hp
  refine AL ?_
  refine CI ?_
  refine (indexFuncPc_fn G f caps H0 n0 tg p ls hp.out hff hls _ _ (by omega) hH.out).mono ?_
  rintro r H2 n2 ⟨rfl, hn2, hH2⟩
  replace hH2 := Hid.mk hH2
  have ha := findPc_any p ls
  refine AL ?_
  exact ⟨by simp [retA, setF_if, ha], by omega, hH2.out⟩
end Go.Proofs
end
section
open Go Go.Big
namespace Go.Proofs
set_option maxHeartbeats 2000000
theorem indexFuncPv_fn (G : Gv) (f : FuncId) (p : PieceM → Bool) (ls : List PieceM) (hp : ∀ x ∈ ls, Gives Tryz.prog G f [pieceA 0 x] (.b (p x))) (hff : (Tryz.prog.funcs[f]?).any (fun fn => fn.body.isSome && (fn.name != "runtime.NumGoroutine")) = true) (hls : ls.length < 1000000000) :
    Gives Tryz.prog G 164 [.sl 0 (pieces ls), .fn f []] (.i .i64 (findPc p ls)) := by
  refine .of (.body Tryz.func164 rfl (by simp [Tryz.ntmps164]) ?_)
  rw [Tryz.ntmps164, Tryz.results164]
  have hlen := pieces_len ls
  replace hp := Hid.mk hp
  refine AL ?_
  refine .loop (.inv (fun d E H n' => ∃ i : Nat, i + d = ls.length ∧ E 0 = .sl 0 (pieces ls) ∧ E 1 = .fn f [] ∧ E 7 = .i .i64 ls.length ∧ E 8 = .i .i64 i ∧ (∀ j, j < i → p (ls.getD j ⟨[], 0, false⟩) = false)) ls.length ?_ ?_)
  · exact ⟨0, by omega, by simp [setF_if, argE], by simp [setF_if, argE], by simp [setF_if, argE, hlen], by simp [setF_if, argE], fun j hj => by omega⟩
  rintro d E H n' ⟨i, hi, h0, h1, h7, h8, hall⟩
  replace hall := Hid.mk hall
  by_cases c : (i : Int) < ls.length
  · have hw_i : IntKind.i64.wrap ((i : Int) + 1) = (i : Int) + 1 := wr64 (by omega) (by omega)
    have hr : (pieces ls)[i]? = some (pieceR (ls.getD i ⟨[], 0, false⟩)) := by simp [pieces, List.getD_eq_getElem?_getD, show i < ls.length by omega]
    have hmem : ls.getD i ⟨[], 0, false⟩ ∈ ls := by rw [List.getD_eq_getElem?_getD, List.getElem?_eq_getElem (by omega)]; exact List.getElem_mem _
    have hyes : p (ls.getD i ⟨[], 0, false⟩) = true → findPc p ls = i := fun h => by
      unfold findPc; rw [find_yes (p := fun i => p (ls.getD i ⟨[], 0, false⟩)) (i := i) (by omega) h (fun j hj => hall.out j hj)]
    have hmore : p (ls.getD i ⟨[], 0, false⟩) = false → ∀ j, j < i + 1 → p (ls.getD j ⟨[], 0, false⟩) = false := fun h j hj => by
      by_cases q : j = i
      · rw [q]; exact h
      · exact hall.out j (by omega)
    replace hyes := Hid.mk hyes
    replace hmore := Hid.mk hmore
    replace hmem := Hid.mk hmem
    generalize ls.getD i ⟨[], 0, false⟩ = x at hr hmem hyes hmore
    refine AL ?_
    refine CV (hf := hff) (hp.out x hmem.out) ?_
    cases cq : p x with
    | true =>
      refine AL ?_
      simp [retA, backA, setF_if, hyes.out cq]
    | false =>
      refine AL ?_
      exact ⟨ls.length - (i + 1), by omega, i + 1, by omega, by simp [setF_if, *], by simp [setF_if, *], by simp [setF_if, *], by simp [setF_if, *], hmore.out cq⟩
  · refine AL ?_
    have : findPc p ls = -1 := by
      unfold findPc; rw [find_no (p := fun i => p (ls.getD i ⟨[], 0, false⟩)) (fun j hj => hall.out j (by omega))]
    simp [retA, backA, setF_if, this]
theorem containsFuncPv_fn (G : Gv) (f : FuncId) (p : PieceM → Bool) (ls : List PieceM) (hp : ∀ x ∈ ls, Gives Tryz.prog G f [pieceA 0 x] (.b (p x))) (hff : (Tryz.prog.funcs[f]?).any (fun fn => fn.body.isSome && (fn.name != "runtime.NumGoroutine")) = true) (hls : ls.length < 1000000000) :
    Gives Tryz.prog G 98 [.sl 0 (pieces ls), .fn f []] (.b (ls.any p)) := by
  refine .of (.body Tryz.func98 rfl (by simp [Tryz.ntmps98]) ?_)
  rw [Tryz.ntmps98, Tryz.results98]
  replace hp := Hid.mk hp
  refine AL ?_
  refine CV (indexFuncPv_fn G f p ls hp.out hff hls) ?_
  have ha := findPc_any p ls
  refine AL ?_
  simp [retA, backA, setF_if, ha]
end Go.Proofs
end
section
open Go Go.Big
namespace Go.Proofs
set_option maxHeartbeats 2000000
def handP (p : PieceM) : Bool := !p.b && decide ((tidyM (formsL p.cs 4)).length ≠ (tidyM (formsL p.cs 8)).length)
theorem hand_fn (G : Gv) (hk : GvOk Tryz.prog G) (hG : ∀ f args H n r H' n', sortsG f args H n r H' n' → G f args H n r H' n') (hG1 : ∀ f args H n r H' n', sortsG1 f args H n r H' n' → G f args H n r H' n') (p : PieceM) (h1 : 0 < p.cs.length) (hl : p.cs.length < 1000000000) :
    Gives Tryz.prog G 158 [pieceA 0 p] (.b (handP p)) := by
  refine .of (.body Tryz.func158 rfl (by simp [Tryz.ntmps158]) ?_)
  rw [Tryz.ntmps158, Tryz.results158]
  replace hk := Hid.mk hk
  replace hG := Hid.mk hG
  replace hG1 := Hid.mk hG1
  cases q : p.b with
  | true =>
    have hp : handP p = false := by simp [handP, q]
    refine AL ?_
    simp [retA, backA, setF_if, hp]
  | false =>
    have hp : handP p = decide ((tidyM (formsL p.cs 4)).length ≠ (tidyM (formsL p.cs 8)).length) := by simp [handP, q]
    refine AX ?_
    have hl4 : 0 < (formsL p.cs 4).length := by simp [formsL]
    have hl4' : (formsL p.cs 4).length < 1000000 := by simp [formsL]
    have hl8 : 0 < (formsL p.cs 8).length := by simp [formsL]
    have hl8' : (formsL p.cs 8).length < 1000000 := by simp [formsL]
    have hx4 : ∀ x ∈ formsL p.cs 4, x.length < 1000000000 := fun x hx => by
      obtain ⟨i, _, rfl⟩ := List.mem_map.mp hx
      rw [formM_len]; exact hl
    have hx8 : ∀ x ∈ formsL p.cs 8, x.length < 1000000000 := fun x hx => by
      obtain ⟨i, _, rfl⟩ := List.mem_map.mp hx
      rw [formM_len]; exact hl
    have f4 := fun H0 n0 => forms_own G hG.out p.cs 4 H0 n0 h1 hl (by omega)
    have f8 := fun H0 n0 => forms_own G hG.out p.cs 8 H0 n0 h1 hl (by omega)
    generalize formsL p.cs 4 = L4 at hp hl4 hl4' hx4 f4
    generalize formsL p.cs 8 = L8 at hp hl8 hl8' hx8 f8
    replace hx4 := Hid.mk hx4
    replace hx8 := Hid.mk hx8
    replace f4 := Hid.mk f4
    replace f8 := Hid.mk f8
    have s4 := shapesR_len (tidyM L4)
    have s8 := shapesR_len (tidyM L8)
    refine DMF [160, 159] [11, 12, 13] 1 ?_
    refine AX ?_
    refine CSM hk.out ?_
    refine (f4.out _ _).mono ?_
    rintro r H2 n2 ⟨hn2, hfr, o, e, ho1, ho2, rfl, hH⟩
    have g0 := hfr 0 (by omega)
    simp only [upd_if, reduceIte] at g0
    refine ⟨fun k hk' => by rw [cutH_lt (by omega)]; exact hfr k (by omega), ?_⟩
    replace hH : cutH n2 H2 o = _ := (cutH_lt ho2).trans hH
    replace g0 : cutH n2 H2 0 = _ := (cutH_lt (by omega)).trans g0
    clear hfr
    generalize cutH n2 H2 = Hc at hH g0
    refine CSF hk.out ?_
    refine (tidyShapes_own G hG1.out L4 Hc n2 o e ho2 hH hl4 hl4' hx4.out).mono ?_
    rintro r H3 n3 ⟨hn3, hfr, e3, rfl, hH3⟩
    have g3 := hfr 0 (by omega) (by omega)
    rw [g0] at g3
    have hlow : cutH n3 (frzH H3 o e3 1 (shapesR (tidyM L4))) 0 = Hc 0 := by
      rw [cutH_lt (by omega), g0]
      simp [frzH, show ¬ 0 = o by omega, g3, frzO, frzV]
    refine ⟨o, e3, 1, 1, _, _, rfl, hH3, .inl rfl, by decide, fun k hk' => (show k = 0 by omega) ▸ hlow, ?_⟩
    rw [g0] at hlow
    clear hfr hH g0 g3 hH3
    generalize cutH n3 (frzH H3 o e3 1 (shapesR (tidyM L4))) = Hd at hlow
    refine OSQ ?_ (hs := by
      intro Hx hx
      exact EV)
    refine OSQ ?_ (hs := by
      intro Hx hx
      have q0 := hx 0 (by omega)
      rw [hlow] at q0
      exact EV)
    refine OSQ ?_ (hs := by
      intro Hx hx
      have q0 := hx 0 (by omega)
      rw [hlow] at q0
      exact EV)
    refine CSM hk.out ?_
    refine (f8.out _ _).mono ?_
    rintro r H2' n4 ⟨hn4, hfr, o2, e4, ho3, ho4, rfl, hH⟩
    have g0 := hfr 0 (by omega)
    rw [hlow] at g0
    refine ⟨fun k hk' => by rw [cutH_lt (by omega)]; exact hfr k (by omega), ?_⟩
    replace hH : cutH n4 H2' o2 = _ := (cutH_lt ho4).trans hH
    replace g0 : cutH n4 H2' 0 = _ := (cutH_lt (by omega)).trans g0
    clear hfr
    generalize cutH n4 H2' = Hc2 at hH g0
    refine CSF hk.out ?_
    refine (tidyShapes_own G hG1.out L8 Hc2 n4 o2 e4 ho4 hH hl8 hl8' hx8.out).mono ?_
    rintro r H5 n5 ⟨hn5, hfr, e5, rfl, hH5⟩
    have g3 := hfr 0 (by omega) (by omega)
    rw [g0] at g3
    have hlow2 : cutH n5 (frzH H5 o2 e5 1 (shapesR (tidyM L8))) 0 = Hc2 0 := by
      rw [cutH_lt (by omega), g0]
      simp [frzH, show ¬ 0 = o2 by omega, g3, frzO, frzV]
    refine ⟨o2, e5, 1, 1, _, _, rfl, hH5, .inl rfl, by decide, fun k hk' => (show k = 0 by omega) ▸ hlow2, ?_⟩
    clear hfr hH g0 g3 hH5
    generalize cutH n5 (frzH H5 o2 e5 1 (shapesR (tidyM L8))) = He at hlow2
    refine AX ?_
    simp only [retA, backA, setF_if, hp, reduceIte, List.map_cons, List.map_nil]
    by_cases c : (tidyM L4).length = (tidyM L8).length
    · simp [c, retA, backA, setF_if]
    · have : ((tidyM L4).length : Int) ≠ (tidyM L8).length := by omega
      simp [c, this, retA, backA, setF_if]
end Go.Proofs
end
section
open Go Go.Big
namespace Go.Proofs
set_option maxHeartbeats 2000000
theorem take_anyG {α : Type} {p : α → Bool} {l : List α} {i : Nat} {x : α} (h : l[i]? = some x) : (l.take (i + 1)).any p = ((l.take i).any p || p x) := by
  obtain ⟨hi, rfl⟩ := List.getElem?_eq_some_iff.mp h
  rw [List.take_succ_eq_append_getElem hi, List.any_append]; simp
theorem any_atG {α : Type} {p : α → Bool} {l : List α} {i : Nat} {x : α} (h : l[i]? = some x) (hp : p x = true) : l.any p = true :=
  List.any_eq_true.mpr ⟨x, List.mem_of_getElem? h, hp⟩
theorem ints_row {l : List Int} {i : Nat} {x : Int} (h : l[i]? = some x) : (ints l)[i]? = some [.i .i64 x] := by simp [ints, h]
def hasM (l : List Int) (x : Int) : Bool := l.any (· == x)
def overM (a b : List Int) : Bool := a.any fun x => hasM b x
theorem l01Has_fn (G : Gv) (l : List Int) (x : Int) (hl : l.length < 1000000000) : Gives Tryz.prog G 112 [.sl 0 (ints l), .i .i64 x] (.b (hasM l x)) := by
  refine .of (.body Tryz.func112 rfl (by simp [Tryz.ntmps112]) ?_)
  rw [Tryz.ntmps112, Tryz.results112]
  have hlen := ints_len l
  refine AL ?_
  refine .loop (.inv (fun d E H n' => ∃ i : Nat, i + d = l.length ∧ E 0 = .sl 0 (ints l) ∧ E 1 = .i .i64 x ∧ E 5 = .i .i64 i ∧ (l.take i).any (· == x) = false) l.length ?_ ?_)
  · exact ⟨0, by omega, by simp [setF_if, argE], by simp [setF_if, argE], by simp [setF_if, argE], by simp⟩
  rintro d E H n' ⟨i, hi, h0, h1, h5, hany⟩
  replace hany := Hid.mk hany
  by_cases c : (i : Int) < l.length
  · have hw_i : IntKind.i64.wrap ((i : Int) + 1) = (i : Int) + 1 := wr64 (by omega) (by omega)
    obtain ⟨y, hy⟩ : ∃ y, l[i]? = some y := ⟨_, List.getElem?_eq_getElem (by omega)⟩
    have hr := ints_row hy
    have hta := take_anyG (p := (· == x)) hy
    have hat := any_atG (p := (· == x)) hy
    replace hta := Hid.mk hta
    replace hat := Hid.mk hat
    replace hy := Hid.mk hy
    by_cases ce : (y == x) = true
    · refine AL ?_
      simp [retA, backA, hasM, hat.out ce]
    · refine AL ?_
      exact ⟨l.length - (i + 1), by omega, i + 1, by omega, by simp [setF_if, *], by simp [setF_if, *], by simp [setF_if, *], by rw [hta.out, hany.out]; simpa using ce⟩
  · have e : i = l.length := by omega
    rw [e, List.take_length] at hany
    refine AL ?_
    simp [retA, backA, hasM, hany.out]
theorem l12Overlap_fn (G : Gv) (a b : List Int) (ha : a.length < 1000000000) (hb : b.length < 1000000000) : Gives Tryz.prog G 235 [.sl 0 (ints a), .sl 0 (ints b)] (.b (overM a b)) := by
  refine .of (.body Tryz.func235 rfl (by simp [Tryz.ntmps235]) ?_)
  rw [Tryz.ntmps235, Tryz.results235]
  have hlen := ints_len a
  refine AL ?_
  refine .loop (.inv (fun d E H n' => ∃ i : Nat, i + d = a.length ∧ E 0 = .sl 0 (ints a) ∧ E 1 = .sl 0 (ints b) ∧ E 5 = .i .i64 i ∧ (a.take i).any (fun x => hasM b x) = false) a.length ?_ ?_)
  · exact ⟨0, by omega, by simp [setF_if, argE], by simp [setF_if, argE], by simp [setF_if, argE], by simp⟩
  rintro d E H n' ⟨i, hi, h0, h1, h5, hany⟩
  replace hany := Hid.mk hany
  by_cases c : (i : Int) < a.length
  · have hw_i : IntKind.i64.wrap ((i : Int) + 1) = (i : Int) + 1 := wr64 (by omega) (by omega)
    obtain ⟨y, hy⟩ : ∃ y, a[i]? = some y := ⟨_, List.getElem?_eq_getElem (by omega)⟩
    have hr := ints_row hy
    have hta := take_anyG (p := fun x => hasM b x) hy
    have hat := any_atG (p := fun x => hasM b x) hy
    replace hta := Hid.mk hta
    replace hat := Hid.mk hat
    replace hy := Hid.mk hy
    refine AL ?_
    refine CV (l01Has_fn G b y hb) ?_
    by_cases ce : hasM b y = true
    · refine AL ?_
      simp [retA, backA, overM, hat.out ce]
    · refine AL ?_
      exact ⟨a.length - (i + 1), by omega, i + 1, by omega, by simp [setF_if, *], by simp [setF_if, *], by simp [setF_if, *], by rw [hta.out, hany.out]; simpa using ce⟩
  · have e : i = a.length := by omega
    rw [e, List.take_length] at hany
    refine AL ?_
    simp [retA, backA, overM, hany.out]
/-- Lists in their order. -/
def cmpN : List Int → List Int → Int
  | [], [] => 0
  | [], _ :: _ => -1
  | _ :: _, [] => 1
  | x :: l, y :: k => if x < y then -1 else if x > y then 1 else cmpN l k
theorem drop_cons {α : Type} {l : List α} {i : Nat} {x : α} (h : l[i]? = some x) : l.drop i = x :: l.drop (i + 1) := by
  obtain ⟨hi, rfl⟩ := List.getElem?_eq_some_iff.mp h
  exact List.drop_eq_getElem_cons hi
theorem l12Lists_fn (G : Gv) (a b : List Int) (ha : a.length < 1000000000) (hb : b.length < 1000000000) : Gives Tryz.prog G 203 [.sl 0 (ints a), .sl 0 (ints b)] (.i .i64 (cmpN a b)) := by
  refine .of (.body Tryz.func203 rfl (by simp [Tryz.ntmps203]) ?_)
  rw [Tryz.ntmps203, Tryz.results203]
  have hlen := ints_len a
  have hlenb := ints_len b
  refine AL ?_
  refine .loop (.inv (fun d E H n' => ∃ i : Nat, i + d = a.length ∧ i ≤ b.length ∧ E 0 = .sl 0 (ints a) ∧ E 1 = .sl 0 (ints b) ∧ E 5 = .i .i64 i ∧ cmpN (a.drop i) (b.drop i) = cmpN a b) a.length ?_ ?_)
  · exact ⟨0, by omega, by omega, by simp [setF_if, argE], by simp [setF_if, argE], by simp [setF_if, argE], by simp⟩
  rintro d E H n' ⟨i, hi, hib, h0, h1, h5, hcm⟩
  by_cases c : (i : Int) < a.length
  · by_cases cb : (i : Int) < b.length
    · have hw_i : IntKind.i64.wrap ((i : Int) + 1) = (i : Int) + 1 := wr64 (by omega) (by omega)
      obtain ⟨x, hx⟩ : ∃ x, a[i]? = some x := ⟨_, List.getElem?_eq_getElem (by omega)⟩
      obtain ⟨y, hy⟩ : ∃ y, b[i]? = some y := ⟨_, List.getElem?_eq_getElem (by omega)⟩
      have hr := ints_row hx
      have hr2 := ints_row hy
      rw [drop_cons hx, drop_cons hy, cmpN] at hcm
      replace hcm := Hid.mk hcm
      replace hx := Hid.mk hx
      replace hy := Hid.mk hy
      by_cases c1 : x < y
      · have hm := hcm.out
        rw [if_pos c1] at hm
        refine AL ?_
        simp [retA, backA, ← hm]
      · by_cases c2 : x > y
        · have hm := hcm.out
          rw [if_neg c1, if_pos c2] at hm
          refine AL ?_
          simp [retA, backA, ← hm]
        · have hm := hcm.out
          rw [if_neg c1, if_neg c2] at hm
          replace hm := Hid.mk hm
          refine AL ?_
          exact ⟨a.length - (i + 1), by omega, i + 1, by omega, by omega, by simp [setF_if, *], by simp [setF_if, *], by simp [setF_if, *], hm.out⟩
    · have e : i = b.length := by omega
      obtain ⟨x, hx⟩ : ∃ x, a[i]? = some x := ⟨_, List.getElem?_eq_getElem (by omega)⟩
      have hm : cmpN a b = 1 := by rw [← hcm, drop_cons hx, e, List.drop_length]; rfl
      have g1 : ¬ (a.length : Int) < b.length := by omega
      have g2 : (b.length : Int) < a.length := by omega
      clear hx
      refine AL ?_
      simp [retA, backA, hm]
  · have e : i = a.length := by omega
    rw [e, List.drop_length] at hcm
    by_cases g1 : (a.length : Int) < b.length
    · have hm : cmpN a b = -1 := by
        rw [← hcm]
        obtain ⟨y, hy⟩ : ∃ y, b[a.length]? = some y := ⟨_, List.getElem?_eq_getElem (by omega)⟩
        rw [drop_cons hy]; rfl
      refine AL ?_
      simp [retA, backA, hm]
    · have g2 : ¬ (b.length : Int) < a.length := by omega
      have hm : cmpN a b = 0 := by
        rw [← hcm, List.drop_of_length_le (by omega)]; rfl
      refine AL ?_
      simp [retA, backA, hm]
end Go.Proofs
end
section
open Go Go.Big
namespace Go.Proofs
set_option maxHeartbeats 2000000
theorem slicesCompare_fn (G : Gv) (a b : List Int) (ha : a.length < 1000000000) (hb : b.length < 1000000000) : Gives Tryz.prog G 188 [.sl 0 (ints a), .sl 0 (ints b)] (.i .i64 (cmpN a b)) := by
  refine .of (.body Tryz.func188 rfl (by simp [Tryz.ntmps188]) ?_)
  rw [Tryz.ntmps188, Tryz.results188]
  have hlen := ints_len a
  have hlenb := ints_len b
  refine AL ?_
  refine .loop (.inv (fun d E H n' => ∃ i : Nat, i + d = a.length ∧ i ≤ b.length ∧ E 0 = .sl 0 (ints a) ∧ E 1 = .sl 0 (ints b) ∧ E 9 = .sl 0 (ints a) ∧ E 10 = .i .i64 a.length ∧ E 11 = .i .i64 i ∧ cmpN (a.drop i) (b.drop i) = cmpN a b) a.length ?_ ?_)
  · exact ⟨0, by omega, by omega, by simp [setF_if, argE], by simp [setF_if, argE], by simp [setF_if, argE], by simp [setF_if, argE, hlen], by simp [setF_if, argE], by simp⟩
  rintro d E H n' ⟨i, hi, hib, h0, h1, h9, h10, h11, hcm⟩
  by_cases c : (i : Int) < a.length
  · by_cases cb : (i : Int) ≥ b.length
    · have e : i = b.length := by omega
      obtain ⟨x, hx⟩ : ∃ x, a[i]? = some x := ⟨_, List.getElem?_eq_getElem (by omega)⟩
      have hr := ints_row hx
      have hm : cmpN a b = 1 := by rw [← hcm, drop_cons hx, e, List.drop_length]; rfl
      clear hx e
      replace hm := Hid.mk hm
      refine AL ?_
      simp [retA, backA, hm.out]
    · have hw_i : IntKind.i64.wrap ((i : Int) + 1) = (i : Int) + 1 := wr64 (by omega) (by omega)
      obtain ⟨x, hx⟩ : ∃ x, a[i]? = some x := ⟨_, List.getElem?_eq_getElem (by omega)⟩
      obtain ⟨y, hy⟩ : ∃ y, b[i]? = some y := ⟨_, List.getElem?_eq_getElem (by omega)⟩
      have hr := ints_row hx
      have hr2 := ints_row hy
      rw [drop_cons hx, drop_cons hy, cmpN] at hcm
      replace hcm := Hid.mk hcm
      replace hx := Hid.mk hx
      replace hy := Hid.mk hy
      refine AL ?_
      refine CV (compare_fn G x y) ?_
      by_cases c1 : x < y
      · have hm := hcm.out
        rw [if_pos c1] at hm
        replace hm := Hid.mk hm
        have hcx : cmpI x y = -1 := by unfold cmpI; rw [if_pos c1]
        refine AL ?_
        simp [retA, backA, ← hm.out]
      · by_cases c2 : x > y
        · have hm := hcm.out
          rw [if_neg c1, if_pos c2] at hm
          replace hm := Hid.mk hm
          have hcx : cmpI x y = 1 := by unfold cmpI; rw [if_neg c1, if_pos c2]
          refine AL ?_
          simp [retA, backA, ← hm.out]
        · have hm := hcm.out
          rw [if_neg c1, if_neg c2] at hm
          have hcx : cmpI x y = 0 := by unfold cmpI; rw [if_neg c1, if_neg c2]
          replace hm := Hid.mk hm
          refine AL ?_
          exact ⟨a.length - (i + 1), by omega, i + 1, by omega, by omega, by simp [setF_if, *], by simp [setF_if, *], by simp [setF_if, *], by simp [setF_if, *], by simp [setF_if, *], hm.out⟩
  · have e : i = a.length := by omega
    rw [e, List.drop_length] at hcm
    by_cases g1 : (a.length : Int) < b.length
    · have hm : cmpN a b = -1 := by
        rw [← hcm]
        obtain ⟨y, hy⟩ : ∃ y, b[a.length]? = some y := ⟨_, List.getElem?_eq_getElem (by omega)⟩
        rw [drop_cons hy]; rfl
      refine AL ?_
      simp [retA, backA, hm]
    · have hm : cmpN a b = 0 := by
        rw [← hcm, List.drop_of_length_le (by omega)]; rfl
      refine AL ?_
      simp [retA, backA, hm]
/-- Placements: the piece and its cells. -/
abbrev placA (t : Nat) (x : Int × List Int) : AV := .ag [.i .i64 x.1, .sl t (ints x.2)]
def cmpP (x y : Int × List Int) : Int := if x.1 < y.1 then -1 else if x.1 > y.1 then 1 else cmpN x.2 y.2
theorem specComparePl_fn (G : Gv) (x y : Int × List Int) (hx : x.2.length < 1000000000) (hy : y.2.length < 1000000000) : Gives Tryz.prog G 166 [placA 0 x, placA 0 y] (.i .i64 (cmpP x y)) := by
  refine .of (.body Tryz.func166 rfl (by simp [Tryz.ntmps166]) ?_)
  rw [Tryz.ntmps166, Tryz.results166]
  obtain ⟨a, l⟩ := x
  obtain ⟨b, k⟩ := y
  by_cases c1 : a < b
  · have c0 : (a != b) = true := by simp; omega
    have hm : cmpP (a, l) (b, k) = -1 := by simp [cmpP, c1]
    refine AL ?_
    simp [retA, backA, hm]
  · by_cases c2 : a > b
    · have c0 : (a != b) = true := by simp; omega
      have hm : cmpP (a, l) (b, k) = 1 := by simp [cmpP, c1, c2]
      refine AL ?_
      simp [retA, backA, hm]
    · have c0 : (a != b) = false := by simp; omega
      have hm : cmpP (a, l) (b, k) = cmpN l k := by simp [cmpP, c1, c2]
      refine AL ?_
      refine CV (l12Lists_fn G l k hx hy) ?_
      refine AL ?_
      simp [retA, backA, hm]
theorem implComparePl_fn (G : Gv) (x y : Int × List Int) (hx : x.2.length < 1000000000) (hy : y.2.length < 1000000000) : Gives Tryz.prog G 139 [placA 0 x, placA 0 y] (.i .i64 (cmpP x y)) := by
  refine .of (.body Tryz.func139 rfl (by simp [Tryz.ntmps139]) ?_)
  rw [Tryz.ntmps139, Tryz.results139]
  obtain ⟨a, l⟩ := x
  obtain ⟨b, k⟩ := y
  refine AL ?_
  refine CV (compare_fn G a b) ?_
  by_cases c1 : a < b
  · have hc : cmpI a b = -1 := by unfold cmpI; rw [if_pos c1]
    have hm : cmpP (a, l) (b, k) = -1 := by simp [cmpP, c1]
    refine AL ?_
    simp [retA, backA, hm]
  · by_cases c2 : a > b
    · have hc : cmpI a b = 1 := by unfold cmpI; rw [if_neg c1, if_pos c2]
      have hm : cmpP (a, l) (b, k) = 1 := by simp [cmpP, c1, c2]
      refine AL ?_
      simp [retA, backA, hm]
    · have hc : cmpI a b = 0 := by unfold cmpI; rw [if_neg c1, if_neg c2]
      have hm : cmpP (a, l) (b, k) = cmpN l k := by simp [cmpP, c1, c2]
      refine AL ?_
      refine CV (slicesCompare_fn G l k hx hy) ?_
      refine AL ?_
      simp [retA, backA, hm]
end Go.Proofs
end
section
open Go Go.Big
namespace Go.Proofs
set_option maxHeartbeats 2000000
theorem wr64s {n : Int} (h1 : -9223372036854775808 ≤ n) (h2 : n ≤ 9223372036854775807) : IntKind.i64.wrap n = n := by
  simp only [IntKind.wrap, IntKind.bits, IntKind.signed]; simp; omega
def szN (n : Nat) (left : Int) : Int := if left - n < 0 then -1 else left - n
theorem szN_le {n : Nat} {left : Int} (h : ¬ szN n left < 0) : (n : Int) ≤ left ∧ szN n left ≤ left ∧ 0 ≤ szN n left := by
  unfold szN at *; split at h <;> simp_all <;> omega
theorem szCellS_fn (G : Gv) (l : List (Int × Int)) (left : Int) (hl : l.length ≤ 9223372036854775807) (h0 : 0 ≤ left) (h1 : left ≤ 1048576) : Gives Tryz.prog G 59 [.sl 0 (cells l), .i .i64 left] (.i .i64 (szN l.length left)) := by
  refine .of (.body Tryz.func59 rfl (by simp [Tryz.ntmps59]) ?_)
  rw [Tryz.ntmps59, Tryz.results59]
  have hlen := cells_len l
  have hw : IntKind.i64.wrap (left - l.length) = left - l.length := wr64s (by omega) (by omega)
  by_cases c : left - (l.length : Int) < 0
  · refine AL ?_
    simp [retA, backA, szN, c]
  · refine AL ?_
    simp [retA, backA, szN, c]
theorem szInt64S_fn (G : Gv) (l : List Int) (left : Int) (hl : l.length ≤ 9223372036854775807) (h0 : 0 ≤ left) (h1 : left ≤ 1048576) : Gives Tryz.prog G 84 [.sl 0 (ints l), .i .i64 left] (.i .i64 (szN l.length left)) := by
  refine .of (.body Tryz.func84 rfl (by simp [Tryz.ntmps84]) ?_)
  rw [Tryz.ntmps84, Tryz.results84]
  have hlen := ints_len l
  have hw : IntKind.i64.wrap (left - l.length) = left - l.length := wr64s (by omega) (by omega)
  by_cases c : left - (l.length : Int) < 0
  · refine AL ?_
    simp [retA, backA, szN, c]
  · refine AL ?_
    simp [retA, backA, szN, c]
theorem szPiece_fn (G : Gv) (p : PieceM) (left : Int) (hl : p.cs.length ≤ 9223372036854775807) (h0 : 0 ≤ left) (h1 : left ≤ 1048576) : Gives Tryz.prog G 115 [pieceA 0 p, .i .i64 left] (.i .i64 (szN p.cs.length left)) := by
  refine .of (.body Tryz.func115 rfl (by simp [Tryz.ntmps115]) ?_)
  rw [Tryz.ntmps115, Tryz.results115]
  refine AL ?_
  refine CV (szCellS_fn G _ _ hl h0 h1) ?_
  by_cases c : szN p.cs.length left < 0
  · refine AL ?_
    have : szN p.cs.length left = -1 := by unfold szN at *; split at c <;> simp_all
    simp [retA, backA, this]
  · refine AL ?_
    simp [retA, backA]
theorem szPlacement_fn (G : Gv) (k : Int) (l : List Int) (left : Int) (hl : l.length ≤ 9223372036854775807) (h0 : 0 ≤ left) (h1 : left ≤ 1048576) : Gives Tryz.prog G 39 [.ag [.i .i64 k, .sl 0 (ints l)], .i .i64 left] (.i .i64 (szN l.length left)) := by
  refine .of (.body Tryz.func39 rfl (by simp [Tryz.ntmps39]) ?_)
  rw [Tryz.ntmps39, Tryz.results39]
  refine AL ?_
  refine CV (szInt64S_fn G _ _ hl h0 h1) ?_
  by_cases c : szN l.length left < 0
  · refine AL ?_
    have : szN l.length left = -1 := by unfold szN at *; split at c <;> simp_all
    simp [retA, backA, this]
  · refine AL ?_
    simp [retA, backA]
def szP : List PieceM → Int → Int
  | [], left => left
  | p :: r, left => if szN p.cs.length left < 0 then -1 else szP r (szN p.cs.length left)
def szPS (l : List PieceM) (left : Int) : Int := if left - l.length < 0 then -1 else szP l (left - l.length)
theorem szPieceS_fn (G : Gv) (l : List PieceM) (left : Int) (hl : l.length ≤ 9223372036854775807) (hc : ∀ p ∈ l, p.cs.length ≤ 9223372036854775807) (h0 : 0 ≤ left) (h1 : left ≤ 1048576) : Gives Tryz.prog G 60 [.sl 0 (pieces l), .i .i64 left] (.i .i64 (szPS l left)) := by
  refine .of (.body Tryz.func60 rfl (by simp [Tryz.ntmps60]) ?_)
  rw [Tryz.ntmps60, Tryz.results60]
  have hlen := pieces_len l
  replace hc := Hid.mk hc
  have hw : IntKind.i64.wrap (left - l.length) = left - l.length := wr64s (by omega) (by omega)
  by_cases c : left - (l.length : Int) < 0
  · refine AL ?_
    simp [retA, backA, szPS, c]
  · refine AL ?_
    refine .loop (.inv (fun d E H n' => ∃ (i : Nat) (lf : Int), i + d = l.length ∧ 0 ≤ lf ∧ lf ≤ 1048576 ∧ szP (l.drop i) lf = szPS l left ∧ E 0 = .sl 0 (pieces l) ∧ E 1 = .i .i64 lf ∧ E 5 = .i .i64 i) l.length ?_ ?_)
    · exact ⟨0, left - l.length, by omega, by omega, by omega, by unfold szPS; rw [if_neg c]; rfl, by simp [setF_if, argE], by simp [setF_if, argE, hlen, hw], by simp [setF_if, argE]⟩
    have hbl : (l.length : Int) ≤ 1048576 := by omega
    clear hw c
    rintro d E H n' ⟨i, lf, hi, hl0, hl1, hsz, e0, e1, e3⟩
    by_cases c : (i : Int) < l.length
    · have cN : i < l.length := by omega
      obtain ⟨p, hpi⟩ : ∃ p, l[i]? = some p := ⟨_, List.getElem?_eq_getElem (by omega)⟩
      have hr : (pieces l)[i]? = some (pieceR p) := by simp [pieces, hpi]
      have hw_i : IntKind.i64.wrap ((i : Int) + 1) = (i : Int) + 1 := wr64 (by omega) (by omega)
      have hd : l.drop i = p :: l.drop (i + 1) := by
        rw [List.drop_eq_getElem_cons cN]; congr 1
        rw [List.getElem?_eq_getElem cN] at hpi; exact Option.some.inj hpi
      rw [hd] at hsz
      have hpc := hc.out p (List.mem_of_getElem? hpi)
      replace hsz := Hid.mk hsz
      clear hd
      refine AQ ?_
      refine AL ?_
      refine CV (szPiece_fn G _ _ hpc hl0 hl1) ?_
      by_cases c2 : szN p.cs.length lf < 0
      · refine AL ?_
        have : szPS l left = -1 := by rw [← hsz.out, szP, if_pos c2]
        simp [retA, backA, this]
      · refine AL ?_
        obtain ⟨_, g2, g3⟩ := szN_le c2
        refine ⟨l.length - (i + 1), by omega, i + 1, szN p.cs.length lf, by omega, g3, by omega, by rw [← hsz.out, szP, if_neg c2], by simp [setF_if, *], by simp [setF_if, *], by simp [setF_if, *]⟩
    · have e' : i = l.length := by omega
      subst e'
      rw [List.drop_length, szP] at hsz
      refine AL ?_
      simp [retA, backA, hsz]
def szPz (r : List (Int × Int)) (l : List PieceM) (left : Int) : Int := if szN r.length left < 0 then -1 else szPS l (szN r.length left)
theorem szPS_neg {l : List PieceM} {left : Int} (h : szPS l left < 0) : szPS l left = -1 := by
  unfold szPS at *
  split
  · rfl
  · rename_i c
    rw [if_neg c] at h
    generalize left - (l.length : Int) = x at h c
    induction l generalizing x with
    | nil => exact absurd h c
    | cons p r ih =>
      simp only [szP] at h ⊢
      split
      · rfl
      · rename_i c2
        rw [if_neg c2] at h
        exact ih _ h c2
theorem szPuzzle_fn (G : Gv) (r : List (Int × Int)) (l : List PieceM) (left : Int) (hr : r.length ≤ 9223372036854775807) (hl : l.length ≤ 9223372036854775807) (hc : ∀ p ∈ l, p.cs.length ≤ 9223372036854775807) (h0 : 0 ≤ left) (h1 : left ≤ 1048576) : Gives Tryz.prog G 15 [.ag [.sl 0 (cells r), .sl 0 (pieces l)], .i .i64 left] (.i .i64 (szPz r l left)) := by
  refine .of (.body Tryz.func15 rfl (by simp [Tryz.ntmps15]) ?_)
  rw [Tryz.ntmps15, Tryz.results15]
  refine AL ?_
  refine CV (szCellS_fn G _ _ hr h0 h1) ?_
  replace hc := Hid.mk hc
  by_cases c : szN r.length left < 0
  · refine AL ?_
    simp [retA, backA, szPz, c]
  · obtain ⟨_, g2, g3⟩ := szN_le c
    refine AL ?_
    refine CV (szPieceS_fn G _ _ hl hc.out g3 (by omega)) ?_
    by_cases c2 : szPS l (szN r.length left) < 0
    · refine AL ?_
      simp [retA, backA, szPz, c, szPS_neg c2]
    · refine AL ?_
      simp [retA, backA, szPz, c]
theorem szP_le {l : List PieceM} : ∀ {left : Int}, left ≤ 1048576 → ¬ szP l left < 0 → (∀ p ∈ l, (p.cs.length : Int) ≤ 1048576) ∧ szP l left ≤ left := by
  induction l with
  | nil => intro left _ _; exact ⟨by simp, Int.le_refl _⟩
  | cons p r ih =>
    intro left hl h
    unfold szP at h ⊢
    split at h
    · simp at h
    · rename_i c
      rw [if_neg c]
      obtain ⟨g1, g2, g3⟩ := szN_le c
      obtain ⟨h1, h2⟩ := ih (by omega) h
      refine ⟨fun x hx => ?_, by omega⟩
      rcases List.mem_cons.mp hx with rfl | hx
      · omega
      · exact h1 x hx
theorem szPz_le {r : List (Int × Int)} {l : List PieceM} {left : Int} (hl : left ≤ 1048576) (h : ¬ szPz r l left < 0) : (r.length : Int) ≤ 1048576 ∧ (l.length : Int) ≤ 1048576 ∧ (∀ p ∈ l, (p.cs.length : Int) ≤ 1048576) ∧ 0 ≤ szPz r l left ∧ szPz r l left ≤ left := by
  unfold szPz at h ⊢
  split at h
  · simp at h
  · rename_i c
    rw [if_neg c]
    obtain ⟨g1, g2, g3⟩ := szN_le c
    unfold szPS at h ⊢
    split at h
    · simp at h
    · rename_i c2
      rw [if_neg c2]
      obtain ⟨h1, h2⟩ := szP_le (by omega) h
      exact ⟨by omega, by omega, h1, by omega, by omega⟩
end Go.Proofs
end
section
open Go Go.Big
namespace Go.Proofs
set_option maxHeartbeats 2000000
abbrev placR (x : Int × List Int) : List PV := [.i .i64 x.1, .sl (ints x.2)]
def places (l : List (Int × List Int)) : List (List PV) := l.map placR
theorem places_len (l : List (Int × List Int)) : (places l).length = l.length := by simp [places]
theorem places_at {l : List (Int × List Int)} {i : Nat} {x : Int × List Int} (h : l[i]? = some x) : (places l)[i]? = some (placR x) := by simp [places, h]
theorem toPlacementS_fn (G : Gv) (l : List (Int × List Int)) (hl : l.length < 1000000000) (hc : ∀ p ∈ l, p.2.length < 1000000000) : Gives Tryz.prog G 19 [.sl 0 (places l)] (.sl 1 (places l)) := by
  refine .of (.body Tryz.func19 rfl (by simp [Tryz.ntmps19]) ?_)
  rw [Tryz.ntmps19, Tryz.results19]
  have hlen := places_len l
  have b1 : ((32 : Nat) : Int) * l.length ≤ 281474976710656 := by simp; omega
  have b2 : (l.length : Int) ≤ 9223372036854775807 := by omega
  have b3 : (0 : Int) ≤ l.length := by omega
  refine AG ?_
  refine .block (.loop (.inv (fun d E H n' => ∃ i : Nat, i + d = l.length ∧ E 0 = .sl 0 (places l) ∧ E 3 = .own 3 0 ∧ E 4 = .i .i64 i ∧ H 3 = some (.arr 0 55 2 (part (places l) [.i .i64 0, .sl []] i) 1)) l.length ?_ ?_))
  · simp [setF_if, argE, upd_if, part_zero, hlen]
  rintro d E H n' ⟨i, hi, h0, h3, h4, hH⟩
  refine AG ?_
  by_cases c : (i : Int) < l.length
  · refine IFT ?_
    obtain ⟨p, hpi⟩ : ∃ p, l[i]? = some p := ⟨_, List.getElem?_eq_getElem (by omega)⟩
    have hr : (places l)[i]? = some (placR p) := places_at hpi
    have hp := part_at (l := places l) (z := [PV.i .i64 0, PV.sl []]) (i := i) (by omega)
    have hs := part_set (z := [PV.i .i64 0, PV.sl []]) hr
    have hpl : i < (part (places l) [PV.i .i64 0, PV.sl []] i).length := (List.getElem?_eq_some_iff.mp hp).1
    have hw2 : IntKind.i64.wrap ((i : Int) + 1) = (i : Int) + 1 := wr64 (by omega) (by omega)
    refine .skip ?_
    refine AG ?_
    refine .block ?_
    refine AG ?_
    refine CV (toPlacement_fn G p.1 p.2 (hc p (List.mem_of_getElem? hpi))) ?_
    refine AG ?_
    (try simp only [tN, tR, tE, rN, rR, rE, xN, xR, xE, reduceIte])
    refine AG ?_
    (try simp only [tN, tR, tE, rN, rR, rE, xN, xR, xE, reduceIte])
    refine ⟨l.length - (i + 1), by omega, i + 1, by omega, ?_⟩
    simp [setF_if, upd_if, *]
  · refine IFF ?_
    refine .exit ?_
    (try simp only [tN, tR, tE, rN, rR, rE, xN, xR, xE, reduceIte])
    refine AG ?_
    refine .ret ?_
    refine DN ?_
    have e : i = (places l).length := by omega
    simp [retA, backA, newSl, newB, hH]
    rw [e, part_all]
theorem eqPlacementS_fn (G : Gv) (l : List (Int × List Int)) (hl : l.length < 1000000000) (hc : ∀ p ∈ l, p.2.length < 1000000000) : Gives Tryz.prog G 23 [.sl 0 (places l), .sl 0 (places l)] (.b true) := by
  refine .of (.body Tryz.func23 rfl (by simp [Tryz.ntmps23]) ?_)
  rw [Tryz.ntmps23, Tryz.results23]
  have hlen := places_len l
  refine AG ?_
  have hn : ((l.length : Int) != l.length) = false := by simp
  refine IFF ?_
  refine .skip ?_
  refine AG ?_
  refine .block (.loop (.inv (fun d E H n' => ∃ i : Nat, i + d = l.length ∧ E 0 = .sl 0 (places l) ∧ E 1 = .sl 0 (places l) ∧ E 5 = .i .i64 i) l.length ?_ ?_))
  · simp [setF_if, argE]
  rintro d E H n' ⟨i, hi, h0, h1, h5⟩
  refine AG ?_
  by_cases c : (i : Int) < l.length
  · refine IFT ?_
    obtain ⟨p, hpi⟩ : ∃ p, l[i]? = some p := ⟨_, List.getElem?_eq_getElem (by omega)⟩
    have hr : (places l)[i]? = some (placR p) := places_at hpi
    have hw2 : IntKind.i64.wrap ((i : Int) + 1) = (i : Int) + 1 := wr64 (by omega) (by omega)
    refine .skip ?_
    refine AG ?_
    refine .block ?_
    refine AQ ?_
    refine CQ (eqPlacement_fn G p.1 p.2 (hc p (List.mem_of_getElem? hpi))) ?_
    refine AQ ?_
    refine IFF ?_
    refine .skip ?_
    (try simp only [tN, tR, tE, rN, rR, rE, xN, xR, xE, reduceIte])
    refine AG ?_
    (try simp only [tN, tR, tE, rN, rR, rE, xN, xR, xE, reduceIte])
    refine ⟨l.length - (i + 1), by omega, i + 1, by omega, ?_⟩
    simp [setF_if, *]
  · refine IFF ?_
    refine .exit ?_
    (try simp only [tN, tR, tE, rN, rR, rE, xN, xR, xE, reduceIte])
    refine AG ?_
    refine .ret ?_
    refine DN ?_
    simp [retA, backA]
def szPL : List (Int × List Int) → Int → Int
  | [], left => left
  | p :: r, left => if szN p.2.length left < 0 then -1 else szPL r (szN p.2.length left)
def szPLS (l : List (Int × List Int)) (left : Int) : Int := if left - l.length < 0 then -1 else szPL l (left - l.length)
theorem szPlacementS_fn (G : Gv) (l : List (Int × List Int)) (left : Int) (hl : l.length ≤ 9223372036854775807) (hc : ∀ p ∈ l, p.2.length ≤ 9223372036854775807) (h0 : 0 ≤ left) (h1 : left ≤ 1048576) : Gives Tryz.prog G 16 [.sl 0 (places l), .i .i64 left] (.i .i64 (szPLS l left)) := by
  refine .of (.body Tryz.func16 rfl (by simp [Tryz.ntmps16]) ?_)
  rw [Tryz.ntmps16, Tryz.results16]
  have hlen := places_len l
  replace hc := Hid.mk hc
  have hw : IntKind.i64.wrap (left - l.length) = left - l.length := wr64s (by omega) (by omega)
  by_cases c : left - (l.length : Int) < 0
  · refine AL ?_
    simp [retA, backA, szPLS, c]
  · refine AL ?_
    refine .loop (.inv (fun d E H n' => ∃ (i : Nat) (lf : Int), i + d = l.length ∧ 0 ≤ lf ∧ lf ≤ 1048576 ∧ szPL (l.drop i) lf = szPLS l left ∧ E 0 = .sl 0 (places l) ∧ E 1 = .i .i64 lf ∧ E 5 = .i .i64 i) l.length ?_ ?_)
    · exact ⟨0, left - l.length, by omega, by omega, by omega, by unfold szPLS; rw [if_neg c]; rfl, by simp [setF_if, argE], by simp [setF_if, argE, hlen, hw], by simp [setF_if, argE]⟩
    have hbl : (l.length : Int) ≤ 1048576 := by omega
    clear hw c
    rintro d E H n' ⟨i, lf, hi, hl0, hl1, hsz, e0, e1, e3⟩
    by_cases c : (i : Int) < l.length
    · have cN : i < l.length := by omega
      obtain ⟨p, hpi⟩ : ∃ p, l[i]? = some p := ⟨_, List.getElem?_eq_getElem (by omega)⟩
      have hr : (places l)[i]? = some (placR p) := places_at hpi
      have hw_i : IntKind.i64.wrap ((i : Int) + 1) = (i : Int) + 1 := wr64 (by omega) (by omega)
      have hd : l.drop i = p :: l.drop (i + 1) := drop_cons hpi
      rw [hd] at hsz
      have hpc := hc.out p (List.mem_of_getElem? hpi)
      replace hsz := Hid.mk hsz
      clear hd
      refine AQ ?_
      refine AL ?_
      refine CV (szPlacement_fn G p.1 _ _ hpc hl0 hl1) ?_
      by_cases c2 : szN p.2.length lf < 0
      · refine AL ?_
        have : szPLS l left = -1 := by rw [← hsz.out, szPL, if_pos c2]
        simp [retA, backA, this]
      · refine AL ?_
        obtain ⟨_, g2, g3⟩ := szN_le c2
        refine ⟨l.length - (i + 1), by omega, i + 1, szN p.2.length lf, by omega, g3, by omega, by rw [← hsz.out, szPL, if_neg c2], by simp [setF_if, *], by simp [setF_if, *], by simp [setF_if, *]⟩
    · have e' : i = l.length := by omega
      subst e'
      rw [List.drop_length, szPL] at hsz
      refine AL ?_
      simp [retA, backA, hsz]
theorem szPL_le {l : List (Int × List Int)} : ∀ {left : Int}, left ≤ 1048576 → ¬ szPL l left < 0 → (∀ p ∈ l, (p.2.length : Int) ≤ 1048576) ∧ szPL l left ≤ left := by
  induction l with
  | nil => intro left _ _; exact ⟨by simp, Int.le_refl _⟩
  | cons p r ih =>
    intro left hl h
    unfold szPL at h ⊢
    split at h
    · simp at h
    · rename_i c
      rw [if_neg c]
      obtain ⟨g1, g2, g3⟩ := szN_le c
      obtain ⟨h1, h2⟩ := ih (by omega) h
      refine ⟨fun x hx => ?_, by omega⟩
      rcases List.mem_cons.mp hx with rfl | hx
      · omega
      · exact h1 x hx
theorem szPLS_le {l : List (Int × List Int)} {left : Int} (hl : left ≤ 1048576) (h : ¬ szPLS l left < 0) : (l.length : Int) ≤ 1048576 ∧ ∀ p ∈ l, (p.2.length : Int) ≤ 1048576 := by
  unfold szPLS at h
  split at h
  · simp at h
  · obtain ⟨h1, h2⟩ := szPL_le (by omega) h
    exact ⟨by omega, h1⟩
end Go.Proofs
end
section
open Go Go.Big
namespace Go.Proofs
set_option maxHeartbeats 2000000
def aroundM (c : Int × Int) : List (Int × Int) := [(c.1, IntKind.i64.wrap (c.2 - 1)), (IntKind.i64.wrap (c.1 - 1), c.2), (IntKind.i64.wrap (c.1 + 1), c.2), (c.1, IntKind.i64.wrap (c.2 + 1))]
/-- One neighbour is looked at: what is marked so far, and what is to be looked at later. -/
def lookP (l : List (Int × Int)) (i : Int) (s : List Int × List Int) (c : Int × Int) : List Int × List Int :=
  if 0 ≤ idxM l c ∧ s.1.getD (idxM l c).toNat 0 < 0 then (s.1.set (idxM l c).toNat i, s.2 ++ [idxM l c]) else s
def lookAll (l : List (Int × Int)) (i : Int) (s : List Int × List Int) (c : Int × Int) : List Int × List Int := (aroundM c).foldl (lookP l i) s
/-- How many are not marked. -/
def openN (out : List Int) : Nat := (out.filter fun x => decide (x < 0)).length
/-- All that is reached from a list of open ones. -/
def runP (l : List (Int × Int)) (i : Int) : Nat → List Int → List Int → List Int
  | 0, out, _ => out
  | _ + 1, out, [] => out
  | f + 1, out, c :: rest => runP l i f (lookAll l i (out, rest) (l.getD c.toNat (0, 0))).1 (lookAll l i (out, rest) (l.getD c.toNat (0, 0))).2
def startP (l : List (Int × Int)) (out : List Int) (i : Nat) : List Int := if out.getD i 0 ≥ 0 then out else runP l i (openN (out.set i (i : Int)) + 1) (out.set i (i : Int)) [(i : Int)]
def partsM (l : List (Int × Int)) (i : Nat) : List Int := (List.range i).foldl (startP l) (List.replicate l.length (-1))
theorem partsM_succ (l : List (Int × Int)) (i : Nat) : partsM l (i + 1) = startP l (partsM l i) i := by
  unfold partsM; rw [List.range_succ, List.foldl_append]; rfl
theorem idxM_lt {l : List (Int × Int)} {c : Int × Int} (h : 0 ≤ idxM l c) : (idxM l c).toNat < l.length ∧ ((idxM l c).toNat : Int) = idxM l c := by
  unfold idxM at *
  split at h
  · rename_i i hi
    have := List.mem_range.mp (List.mem_of_find?_eq_some hi)
    simp; exact this
  · omega
/-- What holds all along: places are places, marks are as long. -/
def okP (l : List (Int × Int)) (s : List Int × List Int) : Prop := s.1.length = l.length ∧ ∀ k ∈ s.2, 0 ≤ k ∧ k < l.length
theorem openN_set {out : List Int} {k : Nat} {v : Int} (hk : k < out.length) (h : out.getD k 0 < 0) (hv : 0 ≤ v) : openN (out.set k v) + 1 = openN out := by
  unfold openN
  induction out generalizing k with
  | nil => simp at hk
  | cons x xs ih =>
    cases k with
    | zero =>
      simp at h
      simp only [List.set_cons_zero, List.filter_cons, h, decide_true, if_true]
      simp [show ¬ v < 0 by omega]
    | succ k =>
      simp only [List.length_cons] at hk
      have h' : xs.getD k 0 < 0 := by simpa [List.getD_eq_getElem?_getD] using h
      have := ih (k := k) (by omega) h'
      simp only [List.set_cons_succ, List.filter_cons]
      by_cases c : x < 0
      · simp only [c, decide_true, if_true, List.length_cons]; omega
      · simp only [c, decide_false]; simpa using this
theorem lookP_ok {l : List (Int × Int)} {i : Int} {s : List Int × List Int} {c : Int × Int} (hi : 0 ≤ i) (h : okP l s) : okP l (lookP l i s c) ∧ openN (lookP l i s c).1 + (lookP l i s c).2.length = openN s.1 + s.2.length := by
  unfold lookP
  split
  · rename_i q
    obtain ⟨q1, q2⟩ := idxM_lt q.1
    refine ⟨⟨by simp [h.1], fun k hk => ?_⟩, ?_⟩
    · rcases List.mem_append.mp hk with hk | hk
      · exact h.2 k hk
      · simp only [List.mem_singleton] at hk; subst hk; exact ⟨q.1, by omega⟩
    · have := openN_set (v := i) (by rw [h.1]; exact q1) q.2 hi
      simp only [List.length_append, List.length_singleton]; omega
  · exact ⟨h, rfl⟩
theorem foldP_ok {l : List (Int × Int)} {i : Int} (hi : 0 ≤ i) : ∀ {cs : List (Int × Int)} {s : List Int × List Int}, okP l s → okP l (cs.foldl (lookP l i) s) ∧ openN (cs.foldl (lookP l i) s).1 + (cs.foldl (lookP l i) s).2.length = openN s.1 + s.2.length
  | [], s, h => ⟨h, rfl⟩
  | c :: cs, s, h => by
    obtain ⟨h1, h2⟩ := lookP_ok (c := c) hi h
    obtain ⟨h3, h4⟩ := foldP_ok hi (cs := cs) h1
    exact ⟨h3, by rw [List.foldl_cons, h4, h2]⟩
theorem runP_nil {l : List (Int × Int)} {i : Int} {f : Nat} {out : List Int} : runP l i f out [] = out := by cases f <;> rfl
theorem runP_len {l : List (Int × Int)} {i : Int} (hi : 0 ≤ i) : ∀ {f : Nat} {out rest : List Int}, okP l (out, rest) → (runP l i f out rest).length = l.length
  | 0, _, _, h => h.1
  | _ + 1, _, [], h => h.1
  | f + 1, out, c :: rest, h => runP_len hi (f := f) (foldP_ok hi (s := (out, rest)) ⟨h.1, fun k hk => h.2 k (List.mem_cons_of_mem _ hk)⟩).1
theorem startP_len {l : List (Int × Int)} {out : List Int} {i : Nat} (h : out.length = l.length) (hi : i < l.length) : (startP l out i).length = l.length := by
  unfold startP
  split
  · exact h
  · exact runP_len (by omega) ⟨by simp [h], fun k hk => by simp only [List.mem_singleton] at hk; subst hk; omega⟩
theorem partsM_len (l : List (Int × Int)) : ∀ {i : Nat}, i ≤ l.length → (partsM l i).length = l.length
  | 0, _ => by simp [partsM]
  | i + 1, h => by rw [partsM_succ]; exact startP_len (partsM_len l (by omega)) (by omega)
end Go.Proofs
end
