/- Walks: More words: shared calls as makers in drawn regions. No condition. | A word more: an owned result in a drawn region. No condition. | Shapes that grow: the program. Condition: the given contracts hold. | Shapes that grow: the program's lists. Condition: the given contracts hold. | Shapes that are their own least form: the program. Condition: the given contracts hold. | A word more: an owned struct in a drawn region. No condition. -/
import Derived.Test.YtmglpcdalechfaaGreatBO
import Derived.Test.YtmglpcdalechfaaGreatWk10
import Derived.Test.YtmglpcdalechfaaGreatBigL
import Derived.Test.YtmglpcdalechfaaGreatBC
import Derived.Test.YtmglpcdalechfaaGreatWk9
import Derived.Test.YtmglpcdalechfaaGreatBigT2
import Derived.Test.YtmglpcdalechfaaGreatBigL2
set_option linter.unusedVariables false
set_option linter.unusedSimpArgs false
section
open Go Go.Big
namespace Go.Proofs
set_option maxHeartbeats 2000000
theorem fn_of {f : FuncId} (hf : (Tryz.prog.funcs[f]?).any (fun fn => fn.body.isSome && (fn.name != "runtime.NumGoroutine")) = true) : ∃ fn, Tryz.prog.funcs[f]? = some fn ∧ fn.body.isSome = true ∧ (fn.name == "runtime.NumGoroutine") = false := by
  cases q : Tryz.prog.funcs[f]? with
  | none => rw [q] at hf; exact absurd hf (by simp)
  | some fn =>
    rw [q] at hf
    simp only [Option.any_some, Bool.and_eq_true, bne_iff_ne, ne_eq] at hf
    exact ⟨fn, rfl, hf.1, by simpa using hf.2⟩
theorem CSM {fs st : List Nat} {n0 : Nat} {N : Nat} {ds : List (Option Tmp)} {l : List Oper} {E : Env} {H : Heap} {n : Nat} {K : Env → Heap → Nat → Prop} {o : Oper} {c : Call} {f : FuncId} {args : List AV} {d : Nat} {G : Gv}
    (hG : GvOk Tryz.prog G)
    (hF : WC Tryz.prog G f args H n (fun y H1 n1 => (∀ k, k < n0 → cutH n1 H1 k = H k) ∧ WM Tryz.prog G fs st n0 N ds l (setF E d y) (cutH n1 H1) n1 K))
    (hop : o.op = .call c := by rfl) (hmk : mkF fs (.call c) = true := by rfl) (hdst : o.dst = some d := by rfl) (hw : wantR ds E o.guard = some true := by exact vB)
    (hc : calleeA E c = some (f, args) := by exact vD)
    (hf : (Tryz.prog.funcs[f]?).any (fun fn => fn.body.isSome && (fn.name != "runtime.NumGoroutine")) = true := by kernel_rfl)
    (hd : d < N := by decide) : WM Tryz.prog G fs st n0 N ds (o :: l) E H n K := by
  unfold WC at hF
  obtain ⟨y, H1, n1, hb, hlow, h⟩ := hF
  exact WM.sem hw (by rw [hdst]; simpa [dstOk] using hd) (fun hfree => ⟨fun k hk => cutH_ge hk, fun i => OneM_call hG hop hmk hc (fn_of hf) hfree hb hlow⟩) (by rw [hdst]; exact h)
theorem CSF {fs st : List Nat} {n0 : Nat} {N : Nat} {ds : List (Option Tmp)} {l : List Oper} {E : Env} {H : Heap} {n : Nat} {K : Env → Heap → Nat → Prop} {o : Oper} {c : Call} {f : FuncId} {args : List AV} {d : Nat} {G : Gv}
    (hG : GvOk Tryz.prog G)
    (hF : WC Tryz.prog G f args H n (fun y H1 n1 => ∃ x e sz t ty rows, y = .own x e ∧ H1 x = some (.arr e ty sz rows t) ∧ newB t rows ∧ t ≠ 2 ∧ (∀ k, k < n0 → cutH n1 (frzH H1 x e 1 rows) k = H k) ∧ WM Tryz.prog G fs st n0 N ds l (setF E d (.sl 1 rows)) (cutH n1 (frzH H1 x e 1 rows)) n1 K))
    (hop : o.op = .call c := by rfl) (hmk : mkF fs (.call c) = true := by rfl) (hdst : o.dst = some d := by rfl) (hw : wantR ds E o.guard = some true := by exact vB)
    (hc : calleeA E c = some (f, args) := by exact vD)
    (hf : (Tryz.prog.funcs[f]?).any (fun fn => fn.body.isSome && (fn.name != "runtime.NumGoroutine")) = true := by kernel_rfl)
    (hd : d < N := by decide) : WM Tryz.prog G fs st n0 N ds (o :: l) E H n K := by
  unfold WC at hF
  obtain ⟨y, H1, n1, hb, x, e, sz, t, ty, rows, rfl, hx, hnb, ht2, hlow, h⟩ := hF
  exact WM.sem hw (by rw [hdst]; simpa [dstOk] using hd) (fun hfree => ⟨fun k hk => cutH_ge hk, fun i => OneM_frz hG hop hmk hc (fn_of hf) hfree hb hx hnb ht2 hlow⟩) (by rw [hdst]; exact h)
theorem OSQ {fs st : List Nat} {n0 : Nat} {N : Nat} {ds : List (Option Tmp)} {l : List Oper} {E : Env} {H : Heap} {n m : Nat} {K : Env → Heap → Nat → Prop} {o : Oper} {op : Op} {d : Nat} {y : AV} {G : Gv}
    (h : WM Tryz.prog G fs st n0 N ds l (setF E d y) H m K)
    (hop : o.op = op := by rfl) (hdst : o.dst = some d := by rfl) (hw : wantR ds E o.guard = some true := by exact vB)
    (hs : ∀ Hx : Heap, (∀ k, k < n0 → Hx k = H k) → ∃ H1, stepOp Tryz.prog Hx 0 (Go.Big.look E) op = some (y, H1))
    (hn : n + 1 = m := by exact vG)
    (hk : quietOp op = true := by rfl) (hst : stD st o = true := by rfl) (hmk : mkF fs o.op = false := by rfl)
    (hd : d < N := by decide) : WM Tryz.prog G fs st n0 N ds (o :: l) E H n K := OST hs h hop hdst hw hn hk hst hmk hd
end Go.Proofs
end
section
open Go Go.Big
namespace Go.Proofs
set_option maxHeartbeats 2000000
theorem FCO {ob : List Nat} {wr : List (Nat × Nat)} {rd : List (Nat × List Nat)} {N : Nat} {ds : List (Option Tmp)} {l : List Oper} {E : Env} {H : Heap} {n : Nat} {K : Env → Heap → Nat → Prop} {o : Oper} {c : Call} {f : FuncId} {args args' : List AV} {d : Nat} {G : Gv} (a : Nat)
    (hG : GvOk Tryz.prog G)
    (hF : WC Tryz.prog G f args' (fun _ => none) 0 (fun y Hc _ => ∃ oo e sz t ty rows, y = .own oo e ∧ Hc oo = some (.arr e ty sz rows t) ∧ newB t rows ∧ t ≠ 2 ∧ WF Tryz.prog G ob wr rd N ds l (setF E d (.own n e)) (H.upd n (.arr e ty sz rows t)) (n + 1) K))
    (hop : o.op = .call c := by rfl) (hdst : o.dst = some d := by rfl) (hw : wantR ds E o.guard = some true := by exact vB)
    (hc : calleeA E c = some (f, args) := by exact vD)
    (hg : ∀ Hx : Heap, Agrees ob (fpL wr rd o) Hx H → givesA Hx args = some args' := by (intro Hx hx; exact vE))
    (hwr : wrL wr o = some a := by rfl) (hX : ob[a]? = some n := by rfl) (hnd : ob.Nodup := by assumption)
    (hf : (Tryz.prog.funcs[f]?).any (fun fn => fn.body.isSome && (fn.name != "runtime.NumGoroutine")) = true := by kernel_rfl)
    (hd : d < N := by decide) : WF Tryz.prog G ob wr rd N ds (o :: l) E H n K := by
  unfold WC at hF
  obtain ⟨y, Hc, nc, hb, oo, e, sz, t, ty, rows, rfl, hx, hnb, ht2, h⟩ := hF
  exact WF.sem (m := n + 1) hw (by rw [hdst]; simpa [dstOk] using hd) (fun hfree => ⟨fun k hk => by rw [Heap.upd_ne _ _ (by omega)]; exact hfree k (by omega), OneL_own hG hop hwr hX (hfree n (Nat.le_refl _)) hnd hc hg (fn_of hf) hb hx hnb ht2⟩) (by rw [hdst]; exact h)
end Go.Proofs
end
section
open Go Go.Big
namespace Go.Proofs
set_option maxHeartbeats 2000000
theorem slicesIndexC_fn (G : Gv) (l : Shape) (x y : Int) (hl : l.length < 1000000000) : Gives Tryz.prog G 320 [.sl 0 (cells l), cellA x y] (.i .i64 (idxM l (x, y))) := by
  refine .of (.body Tryz.func320 rfl (by simp [Tryz.ntmps320]) ?_)
  rw [Tryz.ntmps320, Tryz.results320]
  have hlen := cells_len l
  refine AL ?_
  refine .loop (.inv (fun d E H n' => ∃ i : Nat, i + d = l.length ∧ 0 < n' ∧ E 0 = .sl 0 (cells l) ∧ E 3 = .ptr 0 0 0 0 ∧ E 7 = .i .i64 l.length ∧ E 8 = .i .i64 i ∧ H 0 = some (.box 142 [.i .i64 x, .i .i64 y]) ∧ (∀ j, j < i → cellAt l (x, y) j = false)) l.length ?_ ?_)
  · exact ⟨0, by omega, by omega, by simp [setF_if, argE], by simp [setF_if, argE], by simp [setF_if, argE, hlen], by simp [setF_if, argE], by simp [upd_if], fun j hj => by omega⟩
  rintro d E H n' ⟨i, hi, hn, h0, h3, h7, h8, hH, hall⟩
  replace hall := Hid.mk hall
  by_cases c : (i : Int) < l.length
  · have hw_i : IntKind.i64.wrap ((i : Int) + 1) = (i : Int) + 1 := wr64 (by omega) (by omega)
    have hr := cells_at (l := l) (i := i) (by omega)
    have hat : cellAt l (x, y) i = (x == (l.getD i (0, 0)).1 && y == (l.getD i (0, 0)).2) := by
      unfold cellAt
      rw [Bool.beq_comm (a := x), Bool.beq_comm (a := y)]
    have hyes : cellAt l (x, y) i = true → idxM l (x, y) = i := fun h => by
      unfold idxM; rw [find_yes (p := cellAt l (x, y)) (i := i) (by omega) h (fun j hj => hall.out j hj)]
    have hmore : cellAt l (x, y) i = false → ∀ j, j < i + 1 → cellAt l (x, y) j = false := fun h j hj => by
      by_cases q : j = i
      · rw [q]; exact h
      · exact hall.out j (by omega)
    generalize cellAt l (x, y) i = ca at hat hyes hmore
    generalize l.getD i (0, 0) = p at hr hat
    replace hyes := Hid.mk hyes
    replace hmore := Hid.mk hmore
    cases ca with
    | true =>
      have hat2 := hat.symm
      clear hat
      refine AL ?_
      simp [retA, backA, hyes.out rfl]
    | false =>
      have hat2 := hat.symm
      clear hat
      refine AL ?_
      exact ⟨l.length - (i + 1), by omega, i + 1, by omega, by omega, by simp [setF_if, *], by simp [setF_if, *], by simp [setF_if, *], by simp [setF_if, *], hH, hmore.out rfl⟩
  · refine AL ?_
    have : idxM l (x, y) = -1 := by
      unfold idxM; rw [find_no (p := cellAt l (x, y)) (fun j hj => hall.out j (by omega))]
    simp [retA, backA, this]
theorem slicesContainsC_fn (G : Gv) (l : Shape) (x y : Int) (hl : l.length < 1000000000) : Gives Tryz.prog G 314 [.sl 0 (cells l), cellA x y] (.b (decide (idxM l (x, y) ≥ 0))) := by
  refine .of (.body Tryz.func314 rfl (by simp [Tryz.ntmps314]) ?_)
  rw [Tryz.ntmps314, Tryz.results314]
  have hx := slicesIndexC_fn G l x y hl
  generalize idxM l (x, y) = v at hx ⊢
  replace hx := Hid.mk hx
  refine AL ?_
  refine CV hx.out ?_
  refine AL ?_
  simp [retA, backA]
theorem cells_app1 (a : Shape) (x : Int × Int) : cells a ++ [[.i .i64 x.1, .i .i64 x.2]] = cells (a ++ [x]) := by simp [cells]
theorem beside_fn (G : Gv) (hG : ∀ f args H n r H' n', sortsG f args H n r H' n' → G f args H n r H' n') (l : Shape) (hl : l.length < 100000) (hne : 0 < (nb0 l).length) : Gives Tryz.prog G 301 [.sl 0 (cells l), .fn 166 []] (.sl 1 (cells (nbrI l))) := by
  refine .of (.body Tryz.func301 rfl (by simp [Tryz.ntmps301]) ?_)
  rw [Tryz.ntmps301, Tryz.results301]
  have hlen := cells_len l
  have hcl : ∀ i, ((l.take i).foldl (nbrD l) []).length ≤ 4 * i := fun i => by
    have h1 := nbrDs_len l (l.take i) []
    have h2 : (l.take i).length ≤ i := by rw [List.length_take]; omega
    simp only [List.length_nil] at h1
    omega
  replace hcl := Hid.mk hcl
  replace hG := Hid.mk hG
  replace hne := Hid.mk hne
  refine AL ?_
  refine .loop (.inv (fun d E H n' => ∃ i e : Nat, i + d = l.length ∧ 1 < n' ∧ E 0 = .sl 0 (cells l) ∧ E 1 = .fn 166 [] ∧ E 5 = .own 1 e ∧ E 11 = .sl 0 (cells l) ∧ E 12 = .i .i64 l.length ∧ E 13 = .i .i64 i ∧ H 1 = some (.arr e 142 2 (cells ((l.take i).foldl (nbrD l) [])) 1)) l.length ?_ ?_)
  · exact ⟨0, 0, by omega, by omega, by simp [setF_if, argE], by simp [setF_if, argE], by simp [setF_if, argE], by simp [setF_if, argE], by simp [setF_if, argE, hlen], by simp [setF_if, argE], by simp [upd_if, cells]⟩
  rintro d E H n' ⟨i, e, hi, hn, h0, h1, h5, h11, h12, h13, hH⟩
  by_cases c : (i : Int) < l.length
  · have hw_i : IntKind.i64.wrap ((i : Int) + 1) = (i : Int) + 1 := wr64 (by omega) (by omega)
    obtain ⟨p, hp⟩ : ∃ p, l[i]? = some p := ⟨_, List.getElem?_eq_getElem (by omega)⟩
    have hpr := cells_row hp
    have har : Gives Tryz.prog G 166 [cellA p.1 p.2] (.sl 1 (cells (aroundM p))) := around_fn G p.1 p.2
    have hal : (cells (aroundM p)).length = 4 := by rw [cells_len]; rfl
    have hft := fold_take (nbrD l) [] hp
    have hol := hcl.out i
    generalize (l.take i).foldl (nbrD l) [] = o0 at hH hft hol
    have hfl : ∀ k, (((aroundM p).take k).foldl (stepI l) o0).length ≤ o0.length + k := fun k => by
      have h1 := stepI_len l ((aroundM p).take k) o0
      have h2 : ((aroundM p).take k).length ≤ k := by rw [List.length_take]; omega
      omega
    have hq1 : ∀ j, (1 = n' + j) = False := fun j => by simp; omega
    replace hfl := Hid.mk hfl
    replace hp := Hid.mk hp
    replace har := Hid.mk har
    replace hft := Hid.mk hft
    refine AL ?_
    refine CV har.out ?_
    refine AL ?_
    refine .loop (.inv (fun d2 E H n' => ∃ (k e : Nat), k + d2 = 4 ∧ 1 < n' ∧ E 0 = .sl 0 (cells l) ∧ E 1 = .fn 166 [] ∧ E 5 = .own 1 e ∧ E 11 = .sl 0 (cells l) ∧ E 12 = .i .i64 l.length ∧ E 13 = .i .i64 i ∧ E 19 = .sl 1 (cells (aroundM p)) ∧ E 20 = .i .i64 4 ∧ E 21 = .i .i64 k ∧ H 1 = some (.arr e 142 2 (cells (((aroundM p).take k).foldl (stepI l) o0)) 1)) 4 ?_ ?_)
    · exact ⟨0, e, by omega, by omega, by simp [setF_if, *], by simp [setF_if, *], by simp [setF_if, *], by simp [setF_if, *], by simp [setF_if, *], by simp [setF_if, *], by simp [setF_if, *], by simp [setF_if, *], by simp [setF_if, *], by simp [upd_if, *]⟩
    clear h0 h1 h5 h11 h12 h13 hH hn hpr hq1
    rintro d2 E H n' ⟨k, e, hk, hn, h0, h1, h5, h11, h12, h13, h19, h20, h21, hH⟩
    by_cases ck : (k : Int) < 4
    · have hw_k : IntKind.i64.wrap ((k : Int) + 1) = (k : Int) + 1 := wr64 (by omega) (by omega)
      obtain ⟨a, ha⟩ : ∃ a, (aroundM p)[k]? = some a := ⟨_, List.getElem?_eq_getElem (by rw [around4]; omega)⟩
      have hak := cells_row ha
      have hfk := fold_take (stepI l) o0 ha
      have hol2 := hfl.out k
      generalize ((aroundM p).take k).foldl (stepI l) o0 = o1 at hH hfk hol2
      have hco := slicesContainsC_fn G l a.1 a.2 (by omega)
      have hk4 : k < 4 := by omega
      rw [show stepI l o1 a = (if idxM l (a.1, a.2) < 0 then o1 ++ [a] else o1) from rfl] at hfk
      generalize idxM l (a.1, a.2) = v1 at hco hfk
      have hq1 : ∀ j, (1 = n' + j) = False := fun j => by simp; omega
      have hor := cells_len o1
      have hb : (o1.length + 1) * 16 ≤ 140737488355328 := by omega
      have hap := cells_app1 o1 a
      replace ha := Hid.mk ha
      replace hfk := Hid.mk hfk
      by_cases c1 : v1 < 0
      · have hcd : decide (v1 ≥ 0) = false := by simp; omega
        rw [hcd] at hco
        have hfk2 := hfk.out
        rw [if_pos c1] at hfk2
        rw [← hfk2] at hap
        replace hfk2 := Hid.mk hfk2
        replace hco := Hid.mk hco
        refine AL ?_
        refine CV hco.out ?_
        refine AL ?_
        exact ⟨4 - (k + 1), by omega, k + 1, e + 1, by omega, by omega, by simp [setF_if, *], by simp [setF_if, *], by simp [setF_if, *], by simp [setF_if, *], by simp [setF_if, *], by simp [setF_if, *], by simp [setF_if, *], by simp [setF_if, *], by simp [setF_if, *], by simp [upd_if, joinT, *]⟩
      · have hcd : decide (v1 ≥ 0) = true := by simp; omega
        rw [hcd] at hco
        have hfk2 := hfk.out
        rw [if_neg c1] at hfk2
        replace hfk2 := Hid.mk hfk2
        replace hco := Hid.mk hco
        clear hap
        refine AL ?_
        refine CV hco.out ?_
        refine AL ?_
        exact ⟨4 - (k + 1), by omega, k + 1, e, by omega, by omega, by simp [setF_if, *], by simp [setF_if, *], by simp [setF_if, *], by simp [setF_if, *], by simp [setF_if, *], by simp [setF_if, *], by simp [setF_if, *], by simp [setF_if, *], by simp [setF_if, *], by rw [hfk2.out]; simp [upd_if, *]⟩
    · have ek : k = 4 := by omega
      have hH2 : H 1 = some (.arr e 142 2 (cells ((l.take (i + 1)).foldl (nbrD l) [])) 1) := by
        rw [hH, hft.out, ek, show (4 : Nat) = (aroundM p).length from rfl, List.take_length]; rfl
      clear hH
      refine AL ?_
      exact ⟨l.length - (i + 1), by omega, i + 1, e, by omega, by omega, by simp [setF_if, *], by simp [setF_if, *], by simp [setF_if, *], by simp [setF_if, *], by simp [setF_if, *], by simp [setF_if, *], hH2⟩
  · have ei : i = l.length := by omega
    rw [ei, List.take_length] at hH
    have hol := hcl.out l.length
    rw [List.take_length] at hol
    replace hol := Hid.mk hol
    have hH2 : H 1 = some (.arr e 142 2 (cells (nb0 l)) 1) := hH
    clear hH
    have hsl := sortM_len (nb0 l)
    have hnl : (nb0 l).length ≤ 4 * l.length := hol.out
    refine AL ?_
    refine CI ?_
    refine WC_given (hG.out _ _ _ _ (.tup []) (H.upd 1 (.arr e 142 2 (cells (sortM (nb0 l))) 1)) _ ⟨rfl, rfl, rfl, 207, 1, e, 142, cells (nb0 l), 1, cells (sortM (nb0 l)), goodC, cfC, rfl, hH2, rfl, fun h0 => ?_, ?_, by decide, ?_, cmpCells_ok, enters_cmpCells, fun rows2 => sorted_unique⟩) ?_
    · have h := cells_len (nb0 l); rw [h0] at h; simp only [List.length_nil] at h; have := hne.out; omega
    · rw [cells_len]; omega
    · intro r hr
      obtain ⟨p, _, rfl⟩ := List.mem_map.mp hr
      exact ⟨_, _, rfl⟩
    refine AL ?_
    refine CI ?_
    refine (compactC_own G (sortM (nb0 l)) _ _ 1 e 1 142 (by omega) (by simp [upd_if]) (by rw [hsl]; omega) (by decide)).mono ?_
    rintro z H4 n4 ⟨hn4, hfr, e4, t4, rfl, ht4, hH4⟩
    have hnb : newB t4 (cells (nbrI l)) := .inr (fun r hr p hp => cells_scal _ r hr p hp)
    have hH5 : H4 1 = some (.arr e4 142 2 (cells (nbrI l)) t4) := hH4
    clear hfr hH4
    generalize cells (nbrI l) = F at hH5 hnb ⊢
    refine AL ?_
    simp [retA, backA, newSl, hH5, hnb, ht4]
end Go.Proofs
end
section
open Go Go.Big
namespace Go.Proofs
set_option maxHeartbeats 2000000
theorem cptA_len (x : Shape) : ∀ l : List Shape, (cptA x l).length ≤ l.length
  | [] => by simp [cptA]
  | y :: l => by
    unfold cptA
    split
    · have := cptA_len y l; rw [List.length_cons]; rename_i h; subst h; omega
    · have := cptA_len y l; rw [List.length_cons, List.length_cons]; omega
theorem tidyM_len (ls : List Shape) : (tidyM ls).length ≤ ls.length := by
  unfold tidyM
  have h := (orderS_perm ls).length_eq
  cases q : orderS ls with
  | nil => simp [compactS]
  | cons x l =>
    rw [q] at h
    have := cptA_len x l
    rw [compactS, List.length_cons]
    rw [List.length_cons] at h
    omega
theorem nb0_pos {l : Shape} (h : 0 < (nbrS l).length) : 0 < (nb0 l).length := by
  obtain ⟨d, hd⟩ := List.exists_mem_of_length_pos h
  have h2 := ((nbrS_spec l).2 d).mp hd
  exact List.length_pos_of_mem (nb0_mem'.mpr (.inr h2))
def gForm (s : Shape) (d : Int × Int) : Shape := normM (sortM (s ++ [d]))
theorem grown_fn (G : Gv) (hA : AllG G) (hok : GvOk Tryz.prog G) {k : Nat} (s : Shape) (hp : Poly k s) (hk1 : 0 < k) (hk : k ≤ 20) : Gives Tryz.prog G 281 [.sl 0 (cells s), .fn 166 [], .fn 175 []] (.sl 1 (shapesR (grownI s))) := by
  refine .of (.body Tryz.func281 rfl (by simp [Tryz.ntmps281]) ?_)
  rw [Tryz.ntmps281, Tryz.results281]
  have hsl := hp.len
  have hpos := nbr_some hk (by omega) hp
  have hbs := beside_fn G hA.c1 s (by omega) (nb0_pos hpos)
  have hnl := nbrS_len s
  have hgi : grownI s = tidyM ((nbrI s).map (gForm s)) := rfl
  rw [hgi]
  rw [← nbr_eq] at hpos hnl
  generalize nbrI s = ds at hbs hnl hpos ⊢
  have hdl := cells_len ds
  have hcl : ∀ d, Gives Tryz.prog G 284 [.sl 0 (cells (s ++ [d]))] (.sl 1 (cells (sortM (s ++ [d])))) := fun d => sorted_fn G hA.c1 (s ++ [d]) (by simp) (by simp; omega)
  have hno : ∀ d, Gives Tryz.prog G 175 [.sl 0 (cells (sortM (s ++ [d])))] (.sl 1 (cells (gForm s d))) := fun d => normal_fn G (sortM (s ++ [d])) (by rw [sortM_len]; simp) (by rw [sortM_len]; simp; omega)
  have hclo := fun (H : Heap) n => clone_fn G s H n (by omega) (by omega)
  have hgl : ∀ d, (gForm s d).length < 1000 := fun d => by unfold gForm; rw [normM_len, sortM_len]; simp; omega
  clear hgi hp
  replace hcl := Hid.mk hcl
  replace hno := Hid.mk hno
  replace hclo := Hid.mk hclo
  replace hbs := Hid.mk hbs
  replace hA := Hid.mk hA
  replace hok := Hid.mk hok
  replace hgl := Hid.mk hgl
  replace hsl := Hid.mk hsl
  have hs20 : s.length ≤ 20 := by have := hsl.out; omega
  have hsr := cells_len s
  refine AL ?_
  refine CV hbs.out ?_
  refine AL ?_
  refine .loop (.inv (fun d E H n' => ∃ i e : Nat, i + d = ds.length ∧ 1 < n' ∧ E 0 = .sl 0 (cells s) ∧ E 2 = .fn 175 [] ∧ E 7 = .own 1 e ∧ E 13 = .sl 1 (cells ds) ∧ E 14 = .i .i64 ds.length ∧ E 15 = .i .i64 i ∧ H 1 = some (.arr e 32 1 (shapesR ((ds.take i).map (gForm s))) 1)) ds.length ?_ ?_)
  · exact ⟨0, 0, by omega, by omega, by simp [setF_if, argE], by simp [setF_if, argE], by simp [setF_if, argE], by simp [setF_if, argE], by simp [setF_if, argE, hdl], by simp [setF_if, argE], by simp [upd_if, shapesR]⟩
  rintro d E H n' ⟨i, e, hi, hn, h0, h2, h7, h13, h14, h15, hH⟩
  by_cases c : (i : Int) < ds.length
  · have hw_i : IntKind.i64.wrap ((i : Int) + 1) = (i : Int) + 1 := wr64 (by omega) (by omega)
    obtain ⟨x, hx⟩ : ∃ x, ds[i]? = some x := ⟨_, List.getElem?_eq_getElem (by omega)⟩
    have hxr := cells_row hx
    have hso := hcl.out x
    have hnx := hno.out x
    have hap := cells_app1 s x
    have hap2 : shapesR ((ds.take i).map (gForm s)) ++ [[.sl (cells (gForm s x))]] = shapesR ((ds.take (i + 1)).map (gForm s)) := by rw [take_map _ hx]; simp [shapesR]
    have hrl : (shapesR ((ds.take i).map (gForm s))).length = i := by rw [shapesR_len, List.length_map, List.length_take]; omega
    have hb : (i + 1) * 24 ≤ 140737488355328 := by omega
    have hb2 : (s.length + 1) * 16 ≤ 140737488355328 := by omega
    generalize shapesR ((ds.take i).map (gForm s)) = R at hH hap2 hrl
    generalize gForm s x = g at hnx hap2
    generalize sortM (s ++ [x]) = s2 at hso hnx
    generalize s ++ [x] = s1 at hso hap
    have hq1 : ∀ j, (1 = n' + j) = False := fun j => by simp; omega
    have hq1' : ∀ j, (n' + j = 1) = False := fun j => by simp; omega
    have hnd : [n' + 8, n' + 10, n' + 14, 1].Nodup := by simp <;> omega
    replace hx := Hid.mk hx
    replace hso := Hid.mk hso
    replace hnx := Hid.mk hnx
    refine AX ?_
    refine FD [n' + 8, n' + 10, n' + 14, 1] [(22, 0), (24, 1), (25, 0), (28, 2), (29, 3)] [(25, [1]), (26, [0]), (29, [2])] hnd ?_
    repeat first | refine FF ?_ | refine FS ?_
    refine FCO 0 hok.out ?_
    refine (hclo.out _ _).mono ?_
    rintro y Hc nc ⟨oo, ee, rfl, _, hHc⟩
    refine ⟨oo, ee, 2, 0, 142, _, rfl, hHc, .inr (fun r hr p hp => cells_scal _ r hr p hp), by decide, ?_⟩
    clear hHc
    refine FQ ?_ (hs := by
      intro Hx hx
      have f0 : Hx (n' + 3) = _ := hx.off (by simp only [List.mem_cons, List.not_mem_nil, or_false, not_or]; omega)
      simp only [setF_if, upd_if, neAdd, neLt, ltAdd, addNe, ltNe, Nat.left_eq_add, Nat.add_eq_left, Nat.reduceEqDiff, Nat.add_assoc, Nat.reduceAdd, reduceIte, *] at f0
      exact EV)
    refine FM 1 (n' + 10) ?_ (hs := by
      intro Hx hx
      exact EVM)
    refine FM 0 (n' + 8) ?_ (hs := by
      intro Hx hx
      have f0 : Hx (n' + 10) = _ := hx.at hnd 1 rfl (by decide)
      simp only [setF_if, upd_if, neAdd, neLt, ltAdd, addNe, ltNe, Nat.left_eq_add, Nat.add_eq_left, Nat.reduceEqDiff, Nat.add_assoc, Nat.reduceAdd, reduceIte, *] at f0
      have f1 : Hx (n' + 8) = _ := hx.at hnd 0 rfl (by decide)
      simp only [setF_if, upd_if, neAdd, neLt, ltAdd, addNe, ltNe, Nat.left_eq_add, Nat.add_eq_left, Nat.reduceEqDiff, Nat.add_assoc, Nat.reduceAdd, reduceIte, *] at f1
      exact EVM)
    refine FCP hso.out ?_ (hg := by
      intro Hx hx
      have f0 : Hx (n' + 8) = _ := hx.at hnd 0 rfl (by decide)
      simp only [setF_if, upd_if, neAdd, neLt, ltAdd, addNe, ltNe, Nat.left_eq_add, Nat.add_eq_left, Nat.reduceEqDiff, Nat.add_assoc, Nat.reduceAdd, reduceIte, *] at f0
      exact vE)
    refine FCP hnx.out ?_
    refine FM 2 (n' + 14) ?_ (hs := by
      intro Hx hx
      exact EVM)
    refine FM 3 (1) ?_ (hs := by
      intro Hx hx
      have f0 : Hx (n' + 14) = _ := hx.at hnd 2 rfl (by decide)
      simp only [setF_if, upd_if, neAdd, neLt, ltAdd, addNe, ltNe, Nat.left_eq_add, Nat.add_eq_left, Nat.reduceEqDiff, Nat.add_assoc, Nat.reduceAdd, reduceIte, *] at f0
      have f1 : Hx (1) = _ := hx.at hnd 3 rfl (by decide)
      simp only [setF_if, upd_if, neAdd, neLt, ltAdd, addNe, ltNe, Nat.left_eq_add, Nat.add_eq_left, Nat.reduceEqDiff, Nat.add_assoc, Nat.reduceAdd, reduceIte, *] at f1
      exact EVM)
    repeat first | refine FF ?_ | refine FS ?_
    refine WF.nil ?_
    refine AX ?_
    exact ⟨ds.length - (i + 1), by omega, i + 1, e + 1, by omega, by omega, by simp [setF_if, *], by simp [setF_if, *], by simp [setF_if, *], by simp [setF_if, *], by simp [setF_if, *], by simp [setF_if, *], by simp [upd_if, joinT, *]⟩
  · have ei : i = ds.length := by omega
    rw [ei, List.take_length] at hH
    have htd := tidyShapes_ownD G hA.out.c2 (ds.map (gForm s)) H
    have hml : (ds.map (gForm s)).length = ds.length := by simp
    have hbd : ∀ l ∈ ds.map (gForm s), l.length < 1000000000 := fun l hl => by
      obtain ⟨d, _, rfl⟩ := List.mem_map.mp hl
      have := hgl.out d; omega
    generalize ds.map (gForm s) = L at hH htd hml hbd ⊢
    replace hbd := Hid.mk hbd
    replace hml := Hid.mk hml
    replace htd := Hid.mk htd
    refine AL ?_
    refine CI ?_
    refine (htd.out _ 1 e (by omega) hH (by rw [hml.out]; exact hpos) (by rw [hml.out]; omega) hbd.out).mono ?_
    rintro r H2 n2 ⟨e', rfl, hn2, hH2⟩
    refine AL ?_
    simp [retA, backA, newSl, newB, hH2]
end Go.Proofs
end
section
open Go Go.Big
namespace Go.Proofs
set_option maxHeartbeats 2000000
theorem shapes_fit (l : List Shape) : decide (∀ r ∈ shapesR l, r.length = 1) = true := decide_eq_true fun r hr => by obtain ⟨y, _, rfl⟩ := List.mem_map.mp hr; rfl
theorem take_flatMap1 {α β : Type} {f : α → List β} {l : List α} {i : Nat} {x : α} (h : l[i]? = some x) : (l.take (i + 1)).flatMap f = (l.take i).flatMap f ++ f x := by
  obtain ⟨hi, rfl⟩ := List.getElem?_eq_some_iff.mp h
  rw [List.take_succ_eq_append_getElem hi, List.flatMap_append]; simp
theorem grownI_len {k : Nat} {s : Shape} (h : Poly k s) : (grownI s).length ≤ 4 * k := by
  rw [grown_eq h]
  have h1 := tidyM_len ((nbrS s).map fun d => normM (insM d s))
  have h2 := nbrS_len s
  rw [List.length_map] at h1
  rw [h.len] at h2
  omega
theorem grownI_mem {k : Nat} {s x : Shape} (h : Poly k s) (hx : x ∈ grownI s) : x.length = k + 1 := by
  rw [grown_eq h, tidyM_iff] at hx
  obtain ⟨d, _, rfl⟩ := List.mem_map.mp hx
  rw [normM_len, insM_len, h.len]
theorem flat_len4 {k : Nat} : ∀ {ls : List Shape}, (∀ s ∈ ls, Poly k s) → (ls.flatMap grownI).length ≤ 4 * k * ls.length
  | [], _ => by simp
  | s :: ls, h => by
    rw [List.flatMap_cons, List.length_append, List.length_cons]
    have h1 := grownI_len (h s List.mem_cons_self)
    have h2 := flat_len4 (ls := ls) (fun x hx => h x (List.mem_cons_of_mem _ hx))
    have : 4 * k * (ls.length + 1) = 4 * k * ls.length + 4 * k := by rw [Nat.mul_add, Nat.mul_one]
    omega
theorem allGrown_wc (G : Gv) (hA : AllG G) (hok : GvOk Tryz.prog G) (n : Nat) (hn1 : 1 ≤ n) (hn5 : n ≤ 5) (H0 : Heap) (n0 o0 : Nat) (ho0 : o0 < n0) (hH0 : H0 o0 = some (.arr 0 32 1 (shapesR (fixS 0)) 1)) :
    WC Tryz.prog G 233 [.i .i64 n, .own o0 0, .fn 166 [], .fn 175 []] H0 n0 (fun r H' n' => ∃ o e, r = .own o e ∧ H' o = some (.arr e 32 1 (shapesR (fixS (n - 1))) 1)) := by
  refine (.body Tryz.func233 rfl (by simp [Tryz.ntmps233]) ?_)
  rw [Tryz.ntmps233, Tryz.results233]
  replace hA := Hid.mk hA
  replace hok := Hid.mk hok
  have hwn : IntKind.i64.wrap ((n : Int) - 1) = (n : Int) - 1 := wr64 (by omega) (by omega)
  refine AL ?_
  refine .loop (.inv (fun d E H n' => ∃ m o e : Nat, m + d + 1 = n ∧ o < n' ∧ E 2 = .fn 166 [] ∧ E 3 = .fn 175 [] ∧ E 9 = .own o e ∧ E 15 = .i .i64 ((n : Int) - 1) ∧ E 16 = .i .i64 m ∧ H o = some (.arr e 32 1 (shapesR (fixS m)) 1)) (n - 1) ?_ ?_)
  · exact ⟨0, o0, 0, by omega, by omega, by simp [setF_if, argE], by simp [setF_if, argE], by simp [setF_if, argE], by simp [setF_if, argE, hwn], by simp [setF_if, argE], hH0⟩
  clear hwn ho0 hH0
  rintro d E H n' ⟨m, o, e, hm, hon, h2, h3, h9, h15, h16, hHo⟩
  have hfo := fixS_ok m (by omega)
  by_cases c : (m : Int) < (n : Int) - 1
  · have hw_m : IntKind.i64.wrap ((m : Int) + 1) = (m : Int) + 1 := wr64 (by omega) (by omega)
    have hfb := fix_bound (m := m) (by omega)
    have hnext : tidyM ((fixS m).flatMap grownI) = fixS (m + 1) := next_eq hfo.poly
    have hpos := (fix_next (by omega) (by omega) hfo).pos
    have hpos2 : 0 < ((fixS m).flatMap grownI).length := by
      have h1 : 0 < (tidyM ((fixS m).flatMap grownI)).length := by rw [hnext]; exact hpos
      have h2 := tidyM_len ((fixS m).flatMap grownI)
      omega
    have hfl := flat_len4 hfo.poly
    have hft : ∀ i, (((fixS m).take i).flatMap grownI).length ≤ 6144 := fun i => by
      have h1 := flat_len4 (ls := (fixS m).take i) (fun s hs => hfo.poly s (List.mem_of_mem_take hs))
      have h2 : ((fixS m).take i).length ≤ (fixS m).length := by rw [List.length_take]; omega
      have h3 : 4 * (m + 1) * ((fixS m).take i).length ≤ 4 * (m + 1) * (fixS m).length := Nat.mul_le_mul_left _ h2
      omega
    have hpl := hfo.poly
    have hgl : ∀ s ∈ fixS m, (grownI s).length ≤ 100 := fun s hs => by have := grownI_len (hpl s hs); omega
    have hml : ∀ x ∈ (fixS m).flatMap grownI, x.length < 1000000000 := fun x hx => by
      obtain ⟨s, hs, hx⟩ := List.mem_flatMap.mp hx
      have := grownI_mem (hpl s hs) hx; omega
    have hl9 : (fixS m).length ≤ 6144 := by
      have : 1 * (fixS m).length ≤ 4 * (m + 1) * (fixS m).length := Nat.mul_le_mul_right _ (by omega)
      omega
    have hgr : ∀ s ∈ fixS m, Gives Tryz.prog G 281 [.sl 0 (cells s), .fn 166 [], .fn 175 []] (.sl 1 (shapesR (grownI s))) := fun s hs => grown_fn G hA.out hok.out s (hpl s hs) (by omega) (by omega)
    clear hfo hfl hfb hpos hpl
    generalize fixS m = ls at hHo hnext hpos2 hft hgl hml hl9 hgr
    have hlr := shapesR_len ls
    replace hnext := Hid.mk hnext
    replace hft := Hid.mk hft
    replace hgl := Hid.mk hgl
    replace hml := Hid.mk hml
    replace hgr := Hid.mk hgr
    replace hpos2 := Hid.mk hpos2
    repeat first | refine W.seq ?_ | refine W.region ?_
    refine WR.frz o e 1 hHo (.inr ⟨rfl, .inl rfl⟩) (by decide) ?_
    intro E2 H2 hE2 hH2
    have f2 := hE2 2
    have f3 := hE2 3
    have f9 := hE2 9
    have f15 := hE2 15
    have f16 := hE2 16
    rw [h2] at f2
    rw [h3] at f3
    rw [h9] at f9
    rw [h15] at f15
    rw [h16] at f16
    simp [frzV] at f2 f3 f9 f15 f16
    clear hE2 hH2 h2 h3 h9 h15 h16 hHo hon
    refine AL ?_
    refine .loop (.inv (fun d2 E H n' => ∃ i o e : Nat, i + d2 = ls.length ∧ o < n' ∧ E 2 = .fn 166 [] ∧ E 3 = .fn 175 [] ∧ E 10 = .own o e ∧ E 15 = .i .i64 ((n : Int) - 1) ∧ E 16 = .i .i64 m ∧ E 19 = .sl 1 (shapesR ls) ∧ E 20 = .i .i64 ls.length ∧ E 21 = .i .i64 i ∧ H o = some (.arr e 32 1 (shapesR ((ls.take i).flatMap grownI)) 1)) ls.length ?_ ?_)
    · exact ⟨0, n' + 1, 0, by omega, by omega, by simp [setF_if, *], by simp [setF_if, *], by simp [setF_if, *], by simp [setF_if, *], by simp [setF_if, *], by simp [setF_if, *], by simp [setF_if, *], by simp [setF_if, *], by simp [upd_if, shapesR]⟩
    clear f2 f3 f9 f15 f16
    rintro d2 E H n' ⟨i, o, e, hi, hon, h2, h3, h10, h15, h16, h19, h20, h21, hHo⟩
    by_cases ci : (i : Int) < ls.length
    · have hw_i : IntKind.i64.wrap ((i : Int) + 1) = (i : Int) + 1 := wr64 (by omega) (by omega)
      obtain ⟨x, hx⟩ : ∃ x, ls[i]? = some x := ⟨_, List.getElem?_eq_getElem (by omega)⟩
      have hxr := shapesR_row hx
      have hgx := hgr.out x (List.mem_of_getElem? hx)
      have hgn := hgl.out x (List.mem_of_getElem? hx)
      have hfx := take_flatMap1 (f := grownI) hx
      have hft0 := hft.out i
      generalize (ls.take i).flatMap grownI = A at hHo hfx hft0
      generalize grownI x = gx at hgx hgn hfx
      have hap : shapesR A ++ shapesR gx = shapesR ((ls.take (i + 1)).flatMap grownI) := by rw [hfx]; simp [shapesR]
      have hA1 := shapesR_len A
      have hA2 := shapesR_len gx
      have hfit := shapes_fit gx
      have hb : (A.length + gx.length) * 24 ≤ 140737488355328 := by omega
      have hfit2 : (∀ (r : List PV), r ∈ shapesR gx → r.length = 1) = True := by simpa using of_decide_eq_true hfit
      replace hx := Hid.mk hx
      replace hgx := Hid.mk hgx
      replace hfx := Hid.mk hfx
      clear hgn hft0
      refine AL ?_
      refine CV hgx.out ?_
      refine AL ?_
      exact ⟨ls.length - (i + 1), by omega, i + 1, o, e + 1, by omega, by omega, by simp [setF_if, *], by simp [setF_if, *], by simp [setF_if, *], by simp [setF_if, *], by simp [setF_if, *], by simp [setF_if, *], by simp [setF_if, *], by simp [setF_if, *], by simp [upd_if, joinT, *]⟩
    · have ei : i = ls.length := by omega
      rw [ei, List.take_length] at hHo
      have hft1 := hft.out ls.length
      rw [List.take_length] at hft1
      have htd := tidyShapes_ownD G hA.out.c2 (ls.flatMap grownI) H
      have hfl2 : (ls.flatMap grownI).length < 1000000 := by omega
      have hpos3 := hpos2.out
      generalize ls.flatMap grownI = L at hHo htd hfl2 hpos3 hml hnext
      clear hft1 hpos2
      replace htd := Hid.mk htd
      refine AL ?_
      refine CI ?_
      refine (htd.out _ o e (by omega) hHo hpos3 hfl2 hml.out).mono ?_
      rintro r H2 n2 ⟨e', rfl, hn2, hH2⟩
      rw [hnext.out] at hH2
      refine AL ?_
      exact ⟨n - (m + 1 + 1), by omega, m + 1, o, e', by omega, by omega, by simp [setF_if, *], by simp [setF_if, *], by simp [setF_if, *], by simp [setF_if, *], by simp [setF_if, *], hH2⟩
  · have em : n - 1 = m := by omega
    rw [em]
    refine AL ?_
    exact ⟨o, e, by simp [retA, setF_if, h9], hHo⟩
theorem fixedShapes_fn (G : Gv) (hA : AllG G) (hok : GvOk Tryz.prog G) (n : Nat) (hn1 : 1 ≤ n) (hn5 : n ≤ 5) : Gives Tryz.prog G 186 [.i .i64 n] (.sl 1 (shapesR (fixS (n - 1)))) := by
  refine .of (.body Tryz.func186 rfl (by simp [Tryz.ntmps186]) ?_)
  rw [Tryz.ntmps186, Tryz.results186]
  have hag := allGrown_wc G hA hok n hn1 hn5
  replace hag := Hid.mk hag
  repeat first | refine W.seq ?_ | refine W.region ?_
  refine OP ?_
  refine WR.nil ?_
  refine TH ?_
  repeat first | refine W.seq ?_ | refine W.region ?_
  refine OP ?_
  refine OP ?_
  refine OP ?_
  refine WR.frz 3 0 1 (ty := 142) (sz := 2) (rows := cells [(0, 0)]) (t := 1) (by simp [upd_if, cells]) (.inr ⟨rfl, .inl rfl⟩) (by decide) ?_
  intro E2 H2 hE2 hH2
  have e3 := hE2 3
  have e5 := hE2 5
  simp [setF_if, argE, frzV] at e3 e5
  clear hE2 hH2
  refine OP ?_
  refine CI ?_
  refine (hag.out _ _ 4 (by omega) (by simp [upd_if, fixS, shapesR])).mono ?_
  rintro r H3 n3 ⟨o, e, rfl, hH3⟩
  have hnb : newB 1 (shapesR (fixS (n - 1))) := .inl (by decide)
  generalize shapesR (fixS (n - 1)) = F at hH3 hnb ⊢
  refine AL ?_
  simp [retA, backA, newSl, hH3, hnb]
theorem minFuncS_wc (G : Gv) (L : List Shape) (H : Heap) (n : Nat) (h0 : 0 < L.length) (hLn : L.length < 1000000000) (hL : ∀ x ∈ L, x.length < 1000000000) :
    WC Tryz.prog G 234 [.sl 1 (shapesR L), .fn 235 []] H n (fun z H' n' => n ≤ n' ∧ H' = H ∧ z = .sl 1 (cells (minS L))) := by
  refine (.body Tryz.func234 rfl (by simp [Tryz.ntmps234]) ?_)
  rw [Tryz.ntmps234, Tryz.results234]
  replace hL := Hid.mk hL
  have hlr := shapesR_len L
  obtain ⟨x0, hx0⟩ : ∃ x, L[0]? = some x := ⟨_, List.getElem?_eq_getElem h0⟩
  have hr0 := shapesR_row hx0
  have hge : ¬ ((L.length : Int) < 1) := by omega
  have hm0 : minS (L.take 1) = x0 := by
    cases L with
    | nil => simp at hx0
    | cons a L => simp at hx0; subst hx0; simp [minS]
  have hx0m := List.mem_of_getElem? hx0
  replace hx0 := Hid.mk hx0
  replace hm0 := Hid.mk hm0
  replace hx0m := Hid.mk hx0m
  refine AL ?_
  refine .loop (.inv (fun d E H2 n' => ∃ (i : Nat), i + d = L.length ∧ 1 ≤ i ∧ n ≤ n' ∧ H2 = H ∧ E 0 = .sl 1 (shapesR L) ∧ E 1 = .fn 235 [] ∧ E 5 = .sl 1 (cells (minS (L.take i))) ∧ E 6 = .i .i64 i ∧ minS (L.take i) ∈ L) (L.length - 1) ?_ ?_)
  · exact ⟨1, by omega, by omega, by omega, by first | rfl | trivial, by simp [setF_if, argE], by simp [setF_if, argE], by rw [hm0.out]; simp [setF_if, argE], by simp [setF_if, argE], by rw [hm0.out]; exact hx0m.out⟩
  clear hr0 hge
  rintro d E H2 n' ⟨i, hi, hi1, hn, rfl, e0', e1, e5, e6, hmem⟩
  replace hmem := Hid.mk hmem
  by_cases c : (i : Int) < L.length
  · have hw_i : IntKind.i64.wrap ((i : Int) + 1) = (i : Int) + 1 := wr64 (by omega) (by omega)
    obtain ⟨x, hx⟩ : ∃ x, L[i]? = some x := ⟨_, List.getElem?_eq_getElem (by omega)⟩
    have hxr := shapesR_row hx
    have hst := minS_take hi1 hx
    have hxm := List.mem_of_getElem? hx
    have hcm := compareShapes_fn G x (minS (L.take i)) (hL.out x hxm) (hL.out _ hmem.out)
    generalize minS (L.take i) = b at e5 hst hcm hmem
    generalize cmpM x b = v at hst hcm
    replace hx := Hid.mk hx
    replace hxm := Hid.mk hxm
    replace hcm := Hid.mk hcm
    replace hst := Hid.mk hst
    refine AL ?_
    refine CV hcm.out ?_
    by_cases cv : v < 0
    · have hst2 := hst.out
      rw [if_pos cv] at hst2
      replace hst2 := Hid.mk hst2
      refine AL ?_
      exact ⟨L.length - (i + 1), by omega, i + 1, by omega, by omega, by omega, by first | rfl | trivial, by simp [setF_if, *], by simp [setF_if, *], by rw [hst2.out]; simp [setF_if, *], by simp [setF_if, *], by rw [hst2.out]; exact hxm.out⟩
    · have hst2 := hst.out
      rw [if_neg cv] at hst2
      replace hst2 := Hid.mk hst2
      refine AL ?_
      exact ⟨L.length - (i + 1), by omega, i + 1, by omega, by omega, by omega, by first | rfl | trivial, by simp [setF_if, *], by simp [setF_if, *], by rw [hst2.out]; simp [setF_if, *], by simp [setF_if, *], by rw [hst2.out]; exact hmem.out⟩
  · have ei' : i = L.length := by omega
    rw [ei', List.take_length] at e5
    refine AL ?_
    exact ⟨by omega, by first | rfl | trivial, by simp [retA, setF_if, e5]⟩
theorem leastOf_wc (G : Gv) (L : List Shape) (H : Heap) (n : Nat) (h0 : 0 < L.length) (hLn : L.length < 1000000000) (hL : ∀ x ∈ L, x.length < 1000000000) :
    WC Tryz.prog G 188 [.sl 1 (shapesR L)] H n (fun z H' n' => n ≤ n' ∧ H' = H ∧ z = .sl 1 (cells (minS L))) := by
  refine (.body Tryz.func188 rfl (by simp [Tryz.ntmps188]) ?_)
  rw [Tryz.ntmps188, Tryz.results188]
  have hm := fun n2 => minFuncS_wc G L H n2 h0 hLn hL
  replace hm := Hid.mk hm
  clear hL
  refine AL ?_
  refine CI ?_
  refine (hm.out _).mono ?_
  rintro z H2 n2 ⟨hn2, rfl, rfl⟩
  refine AL ?_
  exact ⟨by omega, by first | rfl | trivial, by simp [retA, setF_if]⟩
theorem forms_gv (G : Gv) (hA : AllG G) (s : Shape) (h1 : 0 < s.length) (hl : s.length < 1000000000) : Gives Tryz.prog G 189 [.sl 0 (cells s), .i .i64 8] (.sl 1 (shapesR (formsL s 8))) := by
  refine .of ((forms_fn G hA.c1 s 8 _ _ h1 hl (by omega)).mono ?_)
  rintro r H n ⟨o, e, rfl, _, hH⟩
  simp [backA, newSl, hH, newB]
theorem ownForms_fn (G : Gv) (hA : AllG G) (hok : GvOk Tryz.prog G) (n : Nat) (hn1 : 1 ≤ n) (hn5 : n ≤ 5) : Gives Tryz.prog G 120 [.i .i64 n, .i .i64 8] (.sl 1 (shapesR (ownS (n - 1)))) := by
  refine .of (.body Tryz.func120 rfl (by simp [Tryz.ntmps120]) ?_)
  rw [Tryz.ntmps120, Tryz.results120]
  have hfx := fixedShapes_fn G hA hok n hn1 hn5
  have hfo := fixS_ok (n - 1) (by omega)
  have hl9 := (fixS_len (n - 1) (by omega)).1
  have hpl := hfo.poly
  unfold ownS
  generalize fixS (n - 1) = ls at hfx hl9 hpl ⊢
  clear hfo
  have hlr := shapesR_len ls
  replace hfx := Hid.mk hfx
  replace hpl := Hid.mk hpl
  replace hA := Hid.mk hA
  obtain ⟨kk, hkk⟩ : ∃ kk, kk = n - 1 + 1 := ⟨_, rfl⟩
  rw [← hkk] at hpl
  have hk5 : 0 < kk ∧ kk ≤ 5 := by omega
  replace hkk := Hid.mk hkk
  refine AL ?_
  refine CV hfx.out ?_
  refine AL ?_
  refine .loop (.inv (fun d E H n' => ∃ i e : Nat, i + d = ls.length ∧ 1 < n' ∧ E 1 = .i .i64 8 ∧ E 5 = .own 1 e ∧ E 10 = .sl 1 (shapesR ls) ∧ E 11 = .i .i64 ls.length ∧ E 12 = .i .i64 i ∧ H 1 = some (.arr e 32 1 (shapesR ((ls.take i).filter ownB)) 1)) ls.length ?_ ?_)
  · exact ⟨0, 0, by omega, by omega, by simp [setF_if, argE], by simp [setF_if, argE], by simp [setF_if, argE], by simp [setF_if, argE, hlr], by simp [setF_if, argE], by simp [upd_if, shapesR]⟩
  rintro d E H n' ⟨i, e, hi, hnn, h1, h5, h10, h11, h12, hH⟩
  by_cases c : (i : Int) < ls.length
  · have hw_i : IntKind.i64.wrap ((i : Int) + 1) = (i : Int) + 1 := wr64 (by omega) (by omega)
    obtain ⟨s, hs⟩ : ∃ s, ls[i]? = some s := ⟨_, List.getElem?_eq_getElem (by omega)⟩
    have hsr := shapesR_row hs
    have hps := hpl.out s (List.mem_of_getElem? hs)
    have hsl := hps.len
    have hft := filter_take1 (q := ownB) hs
    have hrl : (shapesR ((ls.take i).filter ownB)).length ≤ i := by
      rw [shapesR_len]
      have h1 := List.length_filter_le ownB (ls.take i)
      rw [List.length_take] at h1; omega
    have hap : shapesR ((ls.take i).filter ownB) ++ [[.sl (cells s)]] = shapesR ((ls.take i).filter ownB ++ [s]) := by simp [shapesR]
    have hfm := forms_gv G hA.out s (by omega) (by omega)
    have hFl : (formsL s 8).length = 8 := by simp [formsL]
    have hFm : ∀ x ∈ formsL s 8, x.length = s.length := fun x hx => by
      obtain ⟨t, _, rfl⟩ := List.mem_map.mp hx
      exact formM_len s t
    have hlw := fun n2 => leastOf_wc G (formsL s 8) H n2 (by omega) (by omega) (fun x hx => by rw [hFm x hx]; omega)
    have hml : (minS (formsL s 8)).length = s.length := by
      obtain ⟨m1, _⟩ := minF_fold ((List.range 7).map fun t => formM s (t + 1)) (formM s 0)
      exact hFm _ m1
    have heq := equal_fn G (minS (formsL s 8)) s (by omega) (by omega)
    rw [least_eq hps] at heq
    generalize minS (formsL s 8) = mm at hlw heq hml
    generalize formsL s 8 = FL at hfm hlw
    clear hps hFl hFm hml
    replace hs := Hid.mk hs
    replace hft := Hid.mk hft
    replace hfm := Hid.mk hfm
    replace hlw := Hid.mk hlw
    replace heq := Hid.mk heq
    replace hsl := Hid.mk hsl
    generalize (ls.take i).filter ownB = F at hH hft hrl hap
    have hb : ((shapesR F).length + 1) * 24 ≤ 140737488355328 := by omega
    have hq2 : ∀ j, (1 = n' + j) = False := fun j => by simp; omega
    refine AL ?_
    refine CV hfm.out ?_
    refine AL ?_
    refine CI ?_
    refine (hlw.out _).mono ?_
    rintro z H2 n2 ⟨hn2, rfl, rfl⟩
    have hq3 : ∀ j, (1 = n2 + j) = False := fun j => by simp; omega
    refine AL ?_
    refine CV heq.out ?_
    cases cb : ownB s with
    | true =>
      have hft2 := hft.out
      rw [cb, if_pos rfl] at hft2
      rw [← hft2] at hap
      clear hft hft2 hrl
      refine AL ?_
      exact ⟨ls.length - (i + 1), by omega, i + 1, e + 1, by omega, by omega, by simp [setF_if, *], by simp [setF_if, *], by simp [setF_if, *], by simp [setF_if, *], by simp [setF_if, *], by simp [upd_if, joinT, *]⟩
    | false =>
      have hft2 := hft.out
      rw [cb, if_neg (by decide), List.append_nil] at hft2
      replace hft2 := Hid.mk hft2
      clear hft hrl hap
      refine AL ?_
      exact ⟨ls.length - (i + 1), by omega, i + 1, e, by omega, by omega, by simp [setF_if, *], by simp [setF_if, *], by simp [setF_if, *], by simp [setF_if, *], by simp [setF_if, *], by rw [hft2.out]; exact hH⟩
  · have ei : i = ls.length := by omega
    rw [ei, List.take_length] at hH
    have hnb : newB 1 (shapesR (ls.filter ownB)) := .inl (by decide)
    generalize shapesR (ls.filter ownB) = F at hH hnb ⊢
    refine AL ?_
    simp [retA, backA, newSl, hH, hnb]
end Go.Proofs
end
section
open Go Go.Big
namespace Go.Proofs
set_option maxHeartbeats 2000000
theorem FCA {ob : List Nat} {wr : List (Nat × Nat)} {rd : List (Nat × List Nat)} {N : Nat} {ds : List (Option Tmp)} {l : List Oper} {E : Env} {H : Heap} {n : Nat} {K : Env → Heap → Nat → Prop} {o : Oper} {c : Call} {f : FuncId} {args args' : List AV} {d : Nat} {G : Gv} (a : Nat)
    (hG : GvOk Tryz.prog G)
    (hF : WC Tryz.prog G f args' (fun _ => none) 0 (fun y Hc _ => ∃ kk mm oo e sz t ty rows, y = .ag [.i kk mm, .own oo e] ∧ Hc oo = some (.arr e ty sz rows t) ∧ newB t rows ∧ t ≠ 2 ∧ WF Tryz.prog G ob wr rd N ds l (setF E d (.ag [.i kk mm, .own n e])) (H.upd n (.arr e ty sz rows t)) (n + 1) K))
    (hop : o.op = .call c := by rfl) (hdst : o.dst = some d := by rfl) (hw : wantR ds E o.guard = some true := by exact vB)
    (hc : calleeA E c = some (f, args) := by exact vD)
    (hg : ∀ Hx : Heap, Agrees ob (fpL wr rd o) Hx H → givesA Hx args = some args' := by (intro Hx hx; exact vE))
    (hwr : wrL wr o = some a := by rfl) (hX : ob[a]? = some n := by rfl) (hnd : ob.Nodup := by assumption)
    (hf : (Tryz.prog.funcs[f]?).any (fun fn => fn.body.isSome && (fn.name != "runtime.NumGoroutine")) = true := by kernel_rfl)
    (hd : d < N := by decide) : WF Tryz.prog G ob wr rd N ds (o :: l) E H n K := by
  unfold WC at hF
  obtain ⟨y, Hc, nc, hb, kk, mm, oo, e, sz, t, ty, rows, rfl, hx, hnb, ht2, h⟩ := hF
  exact WF.sem (m := n + 1) hw (by rw [hdst]; simpa [dstOk] using hd) (fun hfree => ⟨fun k hk => by rw [Heap.upd_ne _ _ (by omega)]; exact hfree k (by omega), OneL_agI hG hop hwr hX (hfree n (Nat.le_refl _)) hnd hc hg (fn_of hf) hb hx hnb ht2⟩) (by rw [hdst]; exact h)
end Go.Proofs
end
