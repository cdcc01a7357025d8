/- Words for walking without memory: what is to hold behind a run is told as a continuation. No condition. -/
import Derived.Test.YtmglpcdalechfaaGreatBig17
set_option linter.unusedVariables false
set_option linter.unusedSimpArgs false
namespace Go.Big
variable {P : Program} {G : Gv}
def WO (P : Program) (G : Gv) (N : Nat) (os : Array Oper) (l : List Nat) (E : Env) (H : Heap) (n : Nat) (K : Env → Heap → Nat → Prop) : Prop := ∃ E' H' n', Big P G (.ops N os l E H n E' H' n') ∧ K E' H' n'
def W (P : Program) (G : Gv) (N : Nat) (c : Code) (E : Env) (H : Heap) (n : Nat) (K : Exit → Env → Heap → Nat → Prop) : Prop := ∃ x E' H' n', Big P G (.code N c E H n x E' H' n') ∧ K x E' H' n'
def WL (P : Program) (G : Gv) (N : Nat) (c : Code) (E : Env) (H : Heap) (n : Nat) (K : Exit → Env → Heap → Nat → Prop) : Prop := ∃ x E' H' n', Big P G (.loop N c E H n x E' H' n') ∧ K x E' H' n'
def WC (P : Program) (G : Gv) (f : FuncId) (args : List AV) (H : Heap) (n : Nat) (K : AV → Heap → Nat → Prop) : Prop := ∃ r H' n', Big P G (.call f args H n r H' n') ∧ K r H' n'
/-- A function called by value: what it gives. -/
def Gives (P : Program) (G : Gv) (f : FuncId) (args : List AV) (y : AV) : Prop := ∃ r Hc nc, Big P G (.call f args (fun _ => none) 0 r Hc nc) ∧ backA Hc r = some y
section
variable {N : Nat} {os : Array Oper} {i : Nat} {l : List Nat} {E : Env} {H : Heap} {n : Nat}
theorem WO.nil {K : Env → Heap → Nat → Prop} (h : K E H n) : WO P G N os [] E H n K := ⟨_, _, _, .nil, h⟩
theorem WO.op {K : Env → Heap → Nat → Prop} {o : Oper} {y : AV} {H1 : Heap} (ho : os[i]? = some o) (hw : wantA os E o = some true) (hs : stepOp P H n (look E) o.op = some (y, H1)) (hd : dstOk N o.dst = true) (h : WO P G N os l (putE E o.dst y) H1 (n + 1) K) : WO P G N os (i :: l) E H n K := by
  obtain ⟨E', H', n', h1, h2⟩ := h
  exact ⟨E', H', n', .op o y H1 ho hw hs hd h1, h2⟩
theorem WO.mapr {K : Env → Heap → Nat → Prop} {o : Oper} {y : AV} {H1 : Heap} (ho : os[i]? = some o) (hw : wantA os E o = some true) (hs : MapStep P H n (look E) o.op y H1) (hd : dstOk N o.dst = true) (h : WO P G N os l (putE E o.dst y) H1 (n + 1) K) : WO P G N os (i :: l) E H n K := by
  obtain ⟨E', H', n', h1, h2⟩ := h
  exact ⟨E', H', n', .mapr o y H1 ho hw hs hd h1, h2⟩
theorem WO.skip {K : Env → Heap → Nat → Prop} {o : Oper} (ho : os[i]? = some o) (hw : wantA os E o = some false) (hd : dstOk N o.dst = true) (h : WO P G N os l (putE E o.dst (.tup [])) H n K) : WO P G N os (i :: l) E H n K := by
  obtain ⟨E', H', n', h1, h2⟩ := h
  exact ⟨E', H', n', .skip o ho hw hd h1, h2⟩
theorem WO.trim {K : Env → Heap → Nat → Prop} (d : Nat) {o e lo m : Nat} {ty : TypeId} {sz : Nat} {rows : List (List PV)} {t : Nat} (hd : E d = .vw o e lo m) (hx : H o = some (.arr e ty sz rows t)) (hm : 0 < m) (h : WO P G N os l (setF E d (.own o (e + 1))) (H.upd o (.arr (e + 1) ty sz ((rows.drop lo).take m) t)) n K) : WO P G N os l E H n K := by
  obtain ⟨E', H', n', h1, h2⟩ := h
  exact ⟨E', H', n', .trim d o e lo m ty sz rows t hd hx hm h1, h2⟩
theorem WO.trim0 {K : Env → Heap → Nat → Prop} (d : Nat) {o e lo : Nat} {ty : TypeId} {sz : Nat} {rows : List (List PV)} {t : Nat} (hd : E d = .vw o e lo 0) (hx : H o = some (.arr e ty sz rows t)) (h : WO P G N os l (setF E d (.sl 1 [])) H n K) : WO P G N os l E H n K := by
  obtain ⟨E', H', n', h1, h2⟩ := h
  exact ⟨E', H', n', .trim0 d o e lo ty sz rows t hd hx h1, h2⟩
theorem WO.callv {K : Env → Heap → Nat → Prop} {o : Oper} {c : Call} {f : FuncId} {args args' : List AV} {y : AV} {fn : Func} (ho : os[i]? = some o) (hop : o.op = .call c) (hw : wantA os E o = some true) (hc : calleeA E c = some (f, args)) (hg : givesA H args = some args')
    (hf : P.funcs[f]? = some fn) (hb : fn.body.isSome = true) (hn : (fn.name == "runtime.NumGoroutine") = false) (hd : dstOk N o.dst = true) (hF : Gives P G f args' y) (h : WO P G N os l (putE E o.dst y) H (n + 1) K) : WO P G N os (i :: l) E H n K := by
  obtain ⟨E', H', n', h1, h2⟩ := h
  obtain ⟨r, Hc, nc, h3, h4⟩ := hF
  exact ⟨E', H', n', .callv o c f args args' r y Hc nc ho hw hop hc hg ⟨fn, hf, hb, hn⟩ h3 h4 hd h1, h2⟩
theorem WO.callw {K : Env → Heap → Nat → Prop} {o : Oper} {c : Call} {f : FuncId} {args args' : List AV} {fn : Func} (ho : os[i]? = some o) (hop : o.op = .call c) (hw : wantA os E o = some true) (hc : calleeA E c = some (f, args)) (hg : givesA H args = some args')
    (hf : P.funcs[f]? = some fn) (hb : fn.body.isSome = true) (hn : (fn.name == "runtime.NumGoroutine") = false) (hd : dstOk N o.dst = true) (hF : WC P G f args' (fun _ => none) 0 (fun r Hc nc => ∃ y m, bringA n r = some y ∧ n + nc ≤ m ∧ WO P G N os l (putE E o.dst y) (bringH H Hc n) m K)) : WO P G N os (i :: l) E H n K := by
  obtain ⟨r, Hc, nc, h3, y, m, h4, h5, E', H', n', h1, h2⟩ := hF
  exact ⟨E', H', n', .callw o c f args args' r y Hc nc m ho hw hop hc hg ⟨fn, hf, hb, hn⟩ h3 h4 hd h5 h1, h2⟩
theorem WO.calli {K : Env → Heap → Nat → Prop} {o : Oper} {c : Call} {f : FuncId} {args : List AV} {fn : Func} (ho : os[i]? = some o) (hop : o.op = .call c) (hw : wantA os E o = some true) (hc : calleeA E c = some (f, args))
    (hf : P.funcs[f]? = some fn) (hb : fn.body.isSome = true) (hn : (fn.name == "runtime.NumGoroutine") = false) (hd : dstOk N o.dst = true) (hF : WC P G f args H n (fun r H1 n1 => WO P G N os l (putE E o.dst r) H1 n1 K)) : WO P G N os (i :: l) E H n K := by
  obtain ⟨r, H1, n1, h3, E', H', n', h1, h2⟩ := hF
  exact ⟨E', H', n', .calli o c f args r H1 n1 ho hw hop hc ⟨fn, hf, hb, hn⟩ h3 hd h1, h2⟩
variable {K : Exit → Env → Heap → Nat → Prop}
theorem W.mono {c : Code} {K' : Exit → Env → Heap → Nat → Prop} (h : W P G N c E H n K) (g : ∀ x E H n, K x E H n → K' x E H n) : W P G N c E H n K' := by
  obtain ⟨x, E', H', n', h1, h2⟩ := h; exact ⟨x, E', H', n', h1, g _ _ _ _ h2⟩
theorem W.skip (h : K .normal E H n) : W P G N .skip E H n K := ⟨_, _, _, _, .cskip, h⟩
theorem W.ret (h : K .ret E H n) : W P G N .ret E H n K := ⟨_, _, _, _, .ret, h⟩
theorem W.exit {id : Nat} (h : K (.exit id) E H n) : W P G N (.exit id) E H n K := ⟨_, _, _, _, .exit, h⟩
theorem W.region0 {id : Nat} (h : WO P G N os (List.range os.size) E H n (K .normal)) : W P G N (.region id os false) E H n K := by
  obtain ⟨E', H', n', h1, h2⟩ := h; exact ⟨_, E', H', n', .region h1, h2⟩
def thenK (P : Program) (G : Gv) (N : Nat) (b : Code) (K : Exit → Env → Heap → Nat → Prop) : Exit → Env → Heap → Nat → Prop
  | .normal, E, H, n => W P G N b E H n K
  | x, E, H, n => K x E H n
theorem TH {b : Code} (h : W P G N b E H n K) : thenK P G N b K .normal E H n := h
theorem W.seq {a b : Code} (h : W P G N a E H n (thenK P G N b K)) : W P G N (.seq a b) E H n K := by
  obtain ⟨x, E', H', n', h1, h2⟩ := h
  by_cases c : x = .normal
  · subst c
    obtain ⟨x, E2, H2, n2, h3, h4⟩ := h2
    exact ⟨x, E2, H2, n2, .seq h1 h3, h4⟩
  · refine ⟨x, E', H', n', .seqx h1 c, ?_⟩
    cases x <;> first | exact absurd rfl c | exact h2
theorem W.cond {c : Operand} {a b : Code} {t : Bool} (hc : look E c = .b t) (h : W P G N (if t then a else b) E H n K) : W P G N (.cond c a b) E H n K := by
  obtain ⟨x, E', H', n', h1, h2⟩ := h; exact ⟨x, E', H', n', .cond t hc h1, h2⟩
theorem W.block {id : Nat} {c : Code} (h : W P G N c E H n (fun x E H n => K (exitB id x) E H n)) : W P G N (.block id c) E H n K := by
  obtain ⟨x, E', H', n', h1, h2⟩ := h; exact ⟨_, E', H', n', .block h1, h2⟩
theorem W.loop {c : Code} (h : WL P G N c E H n K) : W P G N (.loop c) E H n K := by
  obtain ⟨x, E', H', n', h1, h2⟩ := h; exact ⟨_, E', H', n', .cloop h1, h2⟩
/-- A loop: 'I d E H n' holds at each round's head, d goes down. -/
def roundK (I : Nat → Env → Heap → Nat → Prop) (K : Exit → Env → Heap → Nat → Prop) (d : Nat) : Exit → Env → Heap → Nat → Prop
  | .normal, E, H, n => ∃ d', d' < d ∧ I d' E H n
  | x, E, H, n => K x E H n
theorem WL.inv {c : Code} (I : Nat → Env → Heap → Nat → Prop) (d : Nat) (h0 : I d E H n) (hr : ∀ d E H n, I d E H n → W P G N c E H n (roundK I K d)) : WL P G N c E H n K := by
  induction d using Nat.strongRecOn generalizing E H n with
  | _ d ih =>
    obtain ⟨x, E', H', n', h1, h2⟩ := hr d E H n h0
    by_cases e : x = .normal
    · subst e
      obtain ⟨d', hd, hi⟩ := h2
      obtain ⟨x, E2, H2, n2, h3, h4⟩ := ih d' hd hi
      exact ⟨x, E2, H2, n2, .lmore h1 h3, h4⟩
    · refine ⟨x, E', H', n', .lend h1 e, ?_⟩
      cases x <;> first | exact absurd rfl e | exact h2
/-- What is to hold at a function's end. -/
def doneK (P : Program) (rs : Array ResultVar) (K : AV → Heap → Nat → Prop) (x : Exit) (E : Env) (H : Heap) (n : Nat) : Prop := (x = .normal ∨ x = .ret) ∧ ∃ xs, resA P H E rs.toList = some xs ∧ K (retA xs) H n
theorem WC.body {f : FuncId} {args : List AV} {fn : Func} {c : Code} {K : AV → Heap → Nat → Prop} (hf : P.funcs[f]? = some fn) (hb : fn.body = some c) (hl : args.length ≤ fn.ntmps) (h : W P G fn.ntmps c (argE args) H n (doneK P fn.results K)) : WC P G f args H n K := by
  obtain ⟨x, E', H', n', h1, h2, xs, h3, h4⟩ := h
  exact ⟨_, H', n', .call fn c x xs hf hb hl h1 h2 h3, h4⟩
theorem Gives.of {f : FuncId} {args : List AV} {y : AV} (h : WC P G f args (fun _ => none) 0 (fun r H n => backA H r = some y)) : Gives P G f args y := h
theorem WC.mono {f : FuncId} {args : List AV} {K K' : AV → Heap → Nat → Prop} (h : WC P G f args H n K) (g : ∀ r H n, K r H n → K' r H n) : WC P G f args H n K' := by
  obtain ⟨r, H', n', h1, h2⟩ := h; exact ⟨r, H', n', h1, g _ _ _ h2⟩
end
@[simp] theorem look_tmp (E : Env) (t : Tmp) : look E (.tmp t) = E t := rfl
@[simp] theorem look_int (E : Env) (k : IntKind) (n : Int) : look E (.const (.int k n)) = .i k n := rfl
@[simp] theorem look_bool (E : Env) (b : Bool) : look E (.const (.bool b)) = .b b := rfl
@[simp] theorem look_str (E : Env) (b : ByteArray) : look E (.const (.string b)) = .s b := rfl
@[simp] theorem look_nil (E : Env) : look E (.const (.slice none 0 0)) = .nil := rfl
@[simp] theorem look_func (E : Env) (f : FuncId) : look E (.func f) = .fn f [] := rfl
theorem argE_nil (t : Nat) : argE [] t = .un := by simp [argE]
theorem argE_zero (x : AV) (xs : List AV) : argE (x :: xs) 0 = x := rfl
theorem argE_succ (x : AV) (xs : List AV) (t : Nat) : argE (x :: xs) (t + 1) = argE xs t := by simp [argE]
theorem setF_if {α : Type} (f : Nat → α) (n : Nat) (x : α) (k : Nat) : setF f n x k = if k = n then x else f k := rfl

/-- A region's operations from some place on; 'ds' holds where each one goes. -/
def WR (P : Program) (G : Gv) (N : Nat) (ds : List (Option Tmp)) (l : List Oper) (E : Env) (H : Heap) (n : Nat) (K : Env → Heap → Nat → Prop) : Prop :=
  ∀ (os : Array Oper) (i : Nat), os.toList.map (·.dst) = ds → os.toList.drop i = l → WO P G N os (List.range' i l.length) E H n K
def wantR (ds : List (Option Tmp)) (E : Env) : Option (Nat × Bool) → Option Bool
  | none => some true
  | some (j, want) => match ds[j]?.join with
    | some t => match E t with
      | .b b => some (b == want)
      | .tup _ => some false
      | _ => none
    | none => none
section
variable {P : Program} {G : Gv} {N : Nat} {ds : List (Option Tmp)} {l : List Oper} {E : Env} {H : Heap} {n : Nat} {K : Env → Heap → Nat → Prop} {o : Oper}
theorem wantR_eq {os : Array Oper} (h : os.toList.map (·.dst) = ds) : wantA os E o = wantR ds E o.guard := by
  subst h
  unfold wantA wantR
  cases o.guard with
  | none => rfl
  | some p =>
    obtain ⟨j, want⟩ := p
    simp only [List.getElem?_map, Array.getElem?_toList]
    cases os[j]? <;> rfl
theorem drop_head {os : Array Oper} {i : Nat} (h : os.toList.drop i = o :: l) : os[i]? = some o ∧ os.toList.drop (i + 1) = l := by
  constructor
  · rw [← Array.getElem?_toList, ← List.head?_drop, h]; rfl
  · rw [show i + 1 = i + 1 from rfl, ← List.drop_drop (i := 1), h]; rfl
theorem W.region {id : Nat} {os : List Oper} {K : Exit → Env → Heap → Nat → Prop} (h : WR P G N ds os E H n (K .normal)) (hd : os.map (·.dst) = ds := by (generalize hq : List.map _ _ = q; simp only [List.map_cons, List.map_nil] at hq; subst hq; rfl)) : W P G N (.region id os.toArray false) E H n K := by
  refine .region0 ?_
  subst hd
  have := h os.toArray 0 rfl rfl
  rw [List.range_eq_range']
  simpa using this
theorem WR.nil (h : K E H n) : WR P G N ds [] E H n K := fun _ _ _ _ => .nil h
theorem WR.op {y : AV} {H1 : Heap} (hw : wantR ds E o.guard = some true) (hs : stepOp P H n (look E) o.op = some (y, H1)) (hd : dstOk N o.dst = true) (h : WR P G N ds l (putE E o.dst y) H1 (n + 1) K) : WR P G N ds (o :: l) E H n K := by
  intro os i h1 h2
  obtain ⟨h3, h4⟩ := drop_head h2
  exact .op h3 (by rw [wantR_eq h1]; exact hw) hs hd (h os (i + 1) h1 h4)
theorem WR.mapr {y : AV} {H1 : Heap} (hw : wantR ds E o.guard = some true) (hs : MapStep P H n (look E) o.op y H1) (hd : dstOk N o.dst = true) (h : WR P G N ds l (putE E o.dst y) H1 (n + 1) K) : WR P G N ds (o :: l) E H n K := by
  intro os i h1 h2
  obtain ⟨h3, h4⟩ := drop_head h2
  exact .mapr h3 (by rw [wantR_eq h1]; exact hw) hs hd (h os (i + 1) h1 h4)
theorem WR.skip (hw : wantR ds E o.guard = some false) (hd : dstOk N o.dst = true) (h : WR P G N ds l (putE E o.dst (.tup [])) H n K) : WR P G N ds (o :: l) E H n K := by
  intro os i h1 h2
  obtain ⟨h3, h4⟩ := drop_head h2
  exact .skip h3 (by rw [wantR_eq h1]; exact hw) hd (h os (i + 1) h1 h4)
/-- A view takes the place of the array that it is a part of. -/
theorem WR.trim (d : Nat) {o e lo m : Nat} {ty : TypeId} {sz : Nat} {rows : List (List PV)} {t : Nat} (hd : E d = .vw o e lo m) (hx : H o = some (.arr e ty sz rows t)) (hm : 0 < m) (h : WR P G N ds l (setF E d (.own o (e + 1))) (H.upd o (.arr (e + 1) ty sz ((rows.drop lo).take m) t)) n K) : WR P G N ds l E H n K := by
  intro os i h1 h2
  exact .trim d hd hx hm (h os i h1 h2)
theorem WR.trim0 (d : Nat) {o e lo : Nat} {ty : TypeId} {sz : Nat} {rows : List (List PV)} {t : Nat} (hd : E d = .vw o e lo 0) (hx : H o = some (.arr e ty sz rows t)) (h : WR P G N ds l (setF E d (.sl 1 [])) H n K) : WR P G N ds l E H n K := by
  intro os i h1 h2
  exact .trim0 d hd hx (h os i h1 h2)
theorem WR.callv {c : Call} {f : FuncId} {args args' : List AV} {y : AV} {fn : Func} (hop : o.op = .call c) (hw : wantR ds E o.guard = some true) (hc : calleeA E c = some (f, args)) (hg : givesA H args = some args')
    (hf : P.funcs[f]? = some fn) (hb : fn.body.isSome = true) (hn : (fn.name == "runtime.NumGoroutine") = false) (hd : dstOk N o.dst = true) (hF : Gives P G f args' y) (h : WR P G N ds l (putE E o.dst y) H (n + 1) K) : WR P G N ds (o :: l) E H n K := by
  intro os i h1 h2
  obtain ⟨h3, h4⟩ := drop_head h2
  exact .callv h3 hop (by rw [wantR_eq h1]; exact hw) hc hg hf hb hn hd hF (h os (i + 1) h1 h4)
theorem WR.callw {c : Call} {f : FuncId} {args args' : List AV} {fn : Func} (hop : o.op = .call c) (hw : wantR ds E o.guard = some true) (hc : calleeA E c = some (f, args)) (hg : givesA H args = some args')
    (hf : P.funcs[f]? = some fn) (hb : fn.body.isSome = true) (hn : (fn.name == "runtime.NumGoroutine") = false) (hd : dstOk N o.dst = true) (hF : WC P G f args' (fun _ => none) 0 (fun r Hc nc => ∃ y m, bringA n r = some y ∧ n + nc ≤ m ∧ WR P G N ds l (putE E o.dst y) (bringH H Hc n) m K)) : WR P G N ds (o :: l) E H n K := by
  intro os i h1 h2
  obtain ⟨h3, h4⟩ := drop_head h2
  exact .callw h3 hop (by rw [wantR_eq h1]; exact hw) hc hg hf hb hn hd (hF.mono fun r Hc nc ⟨y, m, g1, g3, g2⟩ => ⟨y, m, g1, g3, g2 os (i + 1) h1 h4⟩)
theorem WR.calli {c : Call} {f : FuncId} {args : List AV} {fn : Func} (hop : o.op = .call c) (hw : wantR ds E o.guard = some true) (hc : calleeA E c = some (f, args))
    (hf : P.funcs[f]? = some fn) (hb : fn.body.isSome = true) (hn : (fn.name == "runtime.NumGoroutine") = false) (hd : dstOk N o.dst = true) (hF : WC P G f args H n (fun r H1 n1 => WR P G N ds l (putE E o.dst r) H1 n1 K)) : WR P G N ds (o :: l) E H n K := by
  intro os i h1 h2
  obtain ⟨h3, h4⟩ := drop_head h2
  exact .calli h3 hop (by rw [wantR_eq h1]; exact hw) hc hf hb hn hd (hF.mono fun r H1 n1 g => g os (i + 1) h1 h4)
end
section
variable {P : Program} {H : Heap} {n : Nat} {ρ : Operand → AV}
theorem st_move (x : Operand) : stepOp P H n ρ (.move x) = some (ρ x, H) := rfl
theorem st_assign (x : Operand) : stepOp P H n ρ (.assign x) = some (ρ x, H) := rfl
theorem st_pure {o : Op} {y : AV} (h : opPure P H ρ o = some y) (g : stepOp P H n ρ o = (match opPure P H ρ o with
    | some y => some (y, H)
    | none => opMake P H n ρ o)) : stepOp P H n ρ o = some (y, H) := by rw [g, h]
end
section
variable {P : Program} {G : Gv} {N : Nat} {b : Code} {K : Exit → Env → Heap → Nat → Prop} {I : Nat → Env → Heap → Nat → Prop} {d : Nat} {E : Env} {H : Heap} {n : Nat} {i j : Nat}
theorem tN : thenK P G N b K .normal E H n = W P G N b E H n K := rfl
theorem tR : thenK P G N b K .ret E H n = K .ret E H n := rfl
theorem tE : thenK P G N b K (.exit i) E H n = K (.exit i) E H n := rfl
theorem rN : roundK I K d .normal E H n = (∃ d', d' < d ∧ I d' E H n) := rfl
theorem rR : roundK I K d .ret E H n = K .ret E H n := rfl
theorem rE : roundK I K d (.exit i) E H n = K (.exit i) E H n := rfl
theorem xN : exitB i .normal = .normal := rfl
theorem xR : exitB i .ret = .ret := rfl
theorem xE : exitB i (.exit j) = if j = i then .normal else .exit j := rfl
end
/-- A region whose operations may come up in any order, walked in the text's order. -/
def WQ (P : Program) (G : Gv) (N : Nat) (ds : List (Option Tmp)) (l : List Oper) (E : Env) (H : Heap) (K : Env → Prop) : Prop :=
  ∀ (os : Array Oper) (i : Nat), os.toList.map (·.dst) = ds → os.toList.drop i = l → ∃ E', Big P G (.opsq N os (List.range' i l.length) E H E') ∧ K E'
section
variable {P : Program} {G : Gv} {N : Nat} {ds : List (Option Tmp)} {l : List Oper} {E : Env} {H : Heap} {n : Nat} {K : Env → Prop} {o : Oper}
theorem W.drawn {id : Nat} {os : List Oper} {K : Exit → Env → Heap → Nat → Prop} (hm : P.follows .mixedOrders = true) (hI : indep os.toArray = true) (h : WQ P G N ds os E H (fun E' => K .normal E' H n)) (hd : os.map (·.dst) = ds := by (generalize hq : List.map _ _ = q; simp only [List.map_cons, List.map_nil] at hq; subst hq; rfl)) : W P G N (.region id os.toArray true) E H n K := by
  subst hd
  obtain ⟨E', h1, h2⟩ := h os.toArray 0 rfl rfl
  refine ⟨.normal, E', H, n, .drawn hm hI ?_, h2⟩
  rw [List.range_eq_range']
  simpa using h1
theorem WQ.nil (h : K E) : WQ P G N ds [] E H K := fun _ _ _ _ => ⟨_, .qnil, h⟩
theorem WQ.op {y : AV} (hw : wantR ds E o.guard = some true) (hs : opPure P H (look E) o.op = some y) (hd : dstOk N o.dst = true) (h : WQ P G N ds l (putE E o.dst y) H K) : WQ P G N ds (o :: l) E H K := by
  intro os i h1 h2
  obtain ⟨h3, h4⟩ := drop_head h2
  obtain ⟨E', h5, h6⟩ := h os (i + 1) h1 h4
  exact ⟨E', .qop o y h3 (by rw [wantR_eq h1]; exact hw) hs hd h5, h6⟩
theorem WQ.skip (hw : wantR ds E o.guard = some false) (hd : dstOk N o.dst = true) (h : WQ P G N ds l (putE E o.dst (.tup [])) H K) : WQ P G N ds (o :: l) E H K := by
  intro os i h1 h2
  obtain ⟨h3, h4⟩ := drop_head h2
  obtain ⟨E', h5, h6⟩ := h os (i + 1) h1 h4
  exact ⟨E', .qskip o h3 (by rw [wantR_eq h1]; exact hw) hd h5, h6⟩
theorem WQ.callv {c : Call} {f : FuncId} {args args' : List AV} {y : AV} {fn : Func} (hop : o.op = .call c) (hw : wantR ds E o.guard = some true) (hc : calleeA E c = some (f, args)) (hg : givesA H args = some args')
    (hf : P.funcs[f]? = some fn) (hb : fn.body.isSome = true) (hn : (fn.name == "runtime.NumGoroutine") = false) (hd : dstOk N o.dst = true) (hF : Gives P G f args' y) (h : WQ P G N ds l (putE E o.dst y) H K) : WQ P G N ds (o :: l) E H K := by
  intro os i h1 h2
  obtain ⟨h3, h4⟩ := drop_head h2
  obtain ⟨r, Hc, nc, h5, h6⟩ := hF
  obtain ⟨E', h7, h8⟩ := h os (i + 1) h1 h4
  exact ⟨E', .qcall o c f args args' r y Hc nc h3 (by rw [wantR_eq h1]; exact hw) hop hc hg ⟨fn, hf, hb, hn⟩ h5 h6 hd h7, h8⟩
end
/-- The same where some operations change objects. -/
def WM (P : Program) (G : Gv) (fs st : List Nat) (n0 : Nat) (N : Nat) (ds : List (Option Tmp)) (l : List Oper) (E : Env) (H : Heap) (n : Nat) (K : Env → Heap → Nat → Prop) : Prop :=
  ∀ (os : Array Oper) (i : Nat), os.toList.map (·.dst) = ds → os.toList.drop i = l → ∃ E' H' n', Big P G (.opsm fs st n0 N os (List.range' i l.length) E H n E' H' n') ∧ K E' H' n'
section
variable {P : Program} {G : Gv} {fs st : List Nat} {n0 : Nat} {N : Nat} {ds : List (Option Tmp)} {l : List Oper} {E : Env} {H : Heap} {n : Nat} {K : Env → Heap → Nat → Prop} {o : Oper}
theorem W.drawnm {id : Nat} {os : List Oper} {K : Exit → Env → Heap → Nat → Prop} (hm : P.follows .mixedOrders = true) (hI : indepM fs st os.toArray = true) (h : WM P G fs st n0 N ds os E H n (K .normal)) (hd : os.map (·.dst) = ds := by (generalize hq : List.map _ _ = q; simp only [List.map_cons, List.map_nil] at hq; subst hq; rfl)) : W P G N (.region id os.toArray true) E H n K := by
  subst hd
  obtain ⟨E', H', n', h1, h2⟩ := h os.toArray 0 rfl rfl
  refine ⟨.normal, E', H', n', .drawnm fs st n0 hm hI ?_, h2⟩
  rw [List.range_eq_range']
  simpa using h1
theorem WM.nil (h : K E H n) : WM P G fs st n0 N ds [] E H n K := fun _ _ _ _ => ⟨_, _, _, .mnil, h⟩
theorem WM.op {y : AV} {H1 : Heap} (hw : wantR ds E o.guard = some true) (hs : stepOp P H n (look E) o.op = some (y, H1)) (hd : dstOk N o.dst = true) (hag : ∀ k, k < n0 → H1 k = H k) (hst : stD st o = false) (h : WM P G fs st n0 N ds l (putE E o.dst y) H1 (n + 1) K) : WM P G fs st n0 N ds (o :: l) E H n K := by
  intro os i h1 h2
  obtain ⟨h3, h4⟩ := drop_head h2
  obtain ⟨E', H', n', h5, h6⟩ := h os (i + 1) h1 h4
  exact ⟨E', H', n', .mop o y H1 h3 (by rw [wantR_eq h1]; exact hw) hs hd hag hst h5, h6⟩
theorem WM.stab {y : AV} (hw : wantR ds E o.guard = some true) (hst : stD st o = true) (hmk : mkF fs o.op = false) (hs : ∀ Hx : Heap, (∀ k, k < n0 → Hx k = H k) → opPure P Hx (look E) o.op = some y) (hd : dstOk N o.dst = true) (h : WM P G fs st n0 N ds l (putE E o.dst y) H (n + 1) K) : WM P G fs st n0 N ds (o :: l) E H n K := by
  intro os i h1 h2
  obtain ⟨h3, h4⟩ := drop_head h2
  obtain ⟨E', H', n', h5, h6⟩ := h os (i + 1) h1 h4
  exact ⟨E', H', n', .mst o y h3 (by rw [wantR_eq h1]; exact hw) hst hmk hs hd h5, h6⟩
theorem WM.sem {y : AV} {H1 : Heap} {m : Nat} (hw : wantR ds E o.guard = some true) (hd : dstOk N o.dst = true) (hs : (∀ k, n ≤ k → H k = none) → (∀ k, m ≤ k → H1 k = none) ∧ ∀ i, OneM P fs st n0 N i o E y H H1) (h : WM P G fs st n0 N ds l (putE E o.dst y) H1 m K) : WM P G fs st n0 N ds (o :: l) E H n K := by
  intro os i h1 h2
  obtain ⟨h3, h4⟩ := drop_head h2
  obtain ⟨E', H', n', h5, h6⟩ := h os (i + 1) h1 h4
  exact ⟨E', H', n', .msem o y H1 m h3 (by rw [wantR_eq h1]; exact hw) hd (fun hf => ⟨(hs hf).1, (hs hf).2 i⟩) h5, h6⟩
theorem WM.skip (hw : wantR ds E o.guard = some false) (hd : dstOk N o.dst = true) (h : WM P G fs st n0 N ds l (putE E o.dst (.tup [])) H n K) : WM P G fs st n0 N ds (o :: l) E H n K := by
  intro os i h1 h2
  obtain ⟨h3, h4⟩ := drop_head h2
  obtain ⟨E', H', n', h5, h6⟩ := h os (i + 1) h1 h4
  exact ⟨E', H', n', .mskip o h3 (by rw [wantR_eq h1]; exact hw) hd h5, h6⟩
theorem WM.callv {c : Call} {f : FuncId} {args args' : List AV} {y : AV} {fn : Func} (hop : o.op = .call c) (hw : wantR ds E o.guard = some true) (hc : calleeA E c = some (f, args)) (hg : givesA H args = some args')
    (hf : P.funcs[f]? = some fn) (hb : fn.body.isSome = true) (hn : (fn.name == "runtime.NumGoroutine") = false) (hd : dstOk N o.dst = true) (hst : stD st o = false) (hF : Gives P G f args' y) (h : WM P G fs st n0 N ds l (putE E o.dst y) H (n + 1) K) : WM P G fs st n0 N ds (o :: l) E H n K := by
  intro os i h1 h2
  obtain ⟨h3, h4⟩ := drop_head h2
  obtain ⟨r, Hc, nc, h5, h6⟩ := hF
  obtain ⟨E', H', n', h7, h8⟩ := h os (i + 1) h1 h4
  exact ⟨E', H', n', .mcall o c f args args' r y Hc nc h3 (by rw [wantR_eq h1]; exact hw) hop hc hg ⟨fn, hf, hb, hn⟩ h5 h6 hd hst h7, h8⟩
theorem WM.callw {c : Call} {f : FuncId} {args args' : List AV} {fn : Func} (hop : o.op = .call c) (hmk : mkF fs (.call c) = true) (hn0 : n0 ≤ n) (hw : wantR ds E o.guard = some true) (hc : calleeA E c = some (f, args)) (hg : givesA H args = some args')
    (hf : P.funcs[f]? = some fn) (hb : fn.body.isSome = true) (hn : (fn.name == "runtime.NumGoroutine") = false) (hd : dstOk N o.dst = true) (hF : WC P G f args' (fun _ => none) 0 (fun r Hc nc => ∃ y m, bringA n r = some y ∧ n + nc ≤ m ∧ WM P G fs st n0 N ds l (putE E o.dst y) (cutH m (bringH H Hc n)) m K)) : WM P G fs st n0 N ds (o :: l) E H n K := by
  intro os i h1 h2
  obtain ⟨h3, h4⟩ := drop_head h2
  obtain ⟨r, Hc, nc, h5, y, m, h6, h9, h10⟩ := hF
  obtain ⟨E', H', n', h7, h8⟩ := h10 os (i + 1) h1 h4
  exact ⟨E', H', n', .mcallw o c f args args' r y Hc nc m h3 (by rw [wantR_eq h1]; exact hw) hop hmk hc hg ⟨fn, hf, hb, hn⟩ h5 h6 hd h9 hn0 h7, h8⟩
end
/-- The same, each operation with the objects that it reads and writes. -/
def WF (P : Program) (G : Gv) (ob : List Nat) (wr : List (Nat × Nat)) (rd : List (Nat × List Nat)) (N : Nat) (ds : List (Option Tmp)) (l : List Oper) (E : Env) (H : Heap) (n : Nat) (K : Env → Heap → Nat → Prop) : Prop :=
  ∀ (os : Array Oper) (i : Nat), os.toList.map (·.dst) = ds → os.toList.drop i = l → ∃ E' H' n', Big P G (.opsl ob wr rd N os (List.range' i l.length) E H n E' H' n') ∧ K E' H' n'
section
variable {P : Program} {G : Gv} {ob : List Nat} {wr : List (Nat × Nat)} {rd : List (Nat × List Nat)} {N : Nat} {ds : List (Option Tmp)} {l : List Oper} {E : Env} {H : Heap} {n : Nat} {K : Env → Heap → Nat → Prop} {o : Oper}
theorem W.drawnl {id : Nat} {os : List Oper} {K : Exit → Env → Heap → Nat → Prop} (hm : P.follows .mixedOrders = true) (hI : indepL wr rd os.toArray = true) (hnd : ob.Nodup) (h : WF P G ob wr rd N ds os E H n (K .normal)) (hd : os.map (·.dst) = ds := by (generalize hq : List.map _ _ = q; simp only [List.map_cons, List.map_nil] at hq; subst hq; rfl)) : W P G N (.region id os.toArray true) E H n K := by
  subst hd
  obtain ⟨E', H', n', h1, h2⟩ := h os.toArray 0 rfl rfl
  refine ⟨.normal, E', H', n', .drawnl ob wr rd hm hI hnd ?_, h2⟩
  rw [List.range_eq_range']
  simpa using h1
theorem WF.nil (h : K E H n) : WF P G ob wr rd N ds [] E H n K := fun _ _ _ _ => ⟨_, _, _, .lnil, h⟩
theorem WF.quiet {y : AV} (hw : wantR ds E o.guard = some true) (hwr : wrL wr o = none) (hs : ∀ Hx : Heap, Agrees ob (fpL wr rd o) Hx H → opPure P Hx (look E) o.op = some y) (hd : dstOk N o.dst = true) (h : WF P G ob wr rd N ds l (putE E o.dst y) H (n + 1) K) : WF P G ob wr rd N ds (o :: l) E H n K := by
  intro os i h1 h2
  obtain ⟨h3, h4⟩ := drop_head h2
  obtain ⟨E', H', n', h5, h6⟩ := h os (i + 1) h1 h4
  exact ⟨E', H', n', .lq o y h3 (by rw [wantR_eq h1]; exact hw) hwr hs hd h5, h6⟩
theorem WF.make {y : AV} {a X : Nat} {v : Ob} (hw : wantR ds E o.guard = some true) (hwr : wrL wr o = some a) (hX : ob[a]? = some X) (hXn : X ≤ n) (hb : ∀ b, ob[b]? = some n → b ∈ fpL wr rd o) (hs : ∀ Hx : Heap, Agrees ob (fpL wr rd o) Hx H → stepOp P Hx n (look E) o.op = some (y, Hx.upd X v)) (hd : dstOk N o.dst = true) (h : WF P G ob wr rd N ds l (putE E o.dst y) (H.upd X v) (n + 1) K) : WF P G ob wr rd N ds (o :: l) E H n K := by
  intro os i h1 h2
  obtain ⟨h3, h4⟩ := drop_head h2
  obtain ⟨E', H', n', h5, h6⟩ := h os (i + 1) h1 h4
  exact ⟨E', H', n', .lm o y a X v h3 (by rw [wantR_eq h1]; exact hw) hwr hX hXn hb hs hd h5, h6⟩
theorem WF.sem {y : AV} {H1 : Heap} {m : Nat} (hw : wantR ds E o.guard = some true) (hd : dstOk N o.dst = true) (hs : (∀ k, n ≤ k → H k = none) → (∀ k, m ≤ k → H1 k = none) ∧ OneL P ob wr rd N o E y H H1) (h : WF P G ob wr rd N ds l (putE E o.dst y) H1 m K) : WF P G ob wr rd N ds (o :: l) E H n K := by
  intro os i h1 h2
  obtain ⟨h3, h4⟩ := drop_head h2
  obtain ⟨E', H', n', h5, h6⟩ := h os (i + 1) h1 h4
  exact ⟨E', H', n', .lsem o y H1 m h3 (by rw [wantR_eq h1]; exact hw) hd hs h5, h6⟩
theorem WF.skip (hw : wantR ds E o.guard = some false) (hd : dstOk N o.dst = true) (h : WF P G ob wr rd N ds l (putE E o.dst (.tup [])) H n K) : WF P G ob wr rd N ds (o :: l) E H n K := by
  intro os i h1 h2
  obtain ⟨h3, h4⟩ := drop_head h2
  obtain ⟨E', H', n', h5, h6⟩ := h os (i + 1) h1 h4
  exact ⟨E', H', n', .lskip o h3 (by rw [wantR_eq h1]; exact hw) hd h5, h6⟩
theorem WF.callv {c : Call} {f : FuncId} {args args' : List AV} {y : AV} {fn : Func} (hop : o.op = .call c) (hwr : wrL wr o = none) (hw : wantR ds E o.guard = some true) (hc : calleeA E c = some (f, args)) (hg : ∀ Hx : Heap, Agrees ob (fpL wr rd o) Hx H → givesA Hx args = some args')
    (hf : P.funcs[f]? = some fn) (hb : fn.body.isSome = true) (hn : (fn.name == "runtime.NumGoroutine") = false) (hd : dstOk N o.dst = true) (hF : Gives P G f args' y) (h : WF P G ob wr rd N ds l (putE E o.dst y) H (n + 1) K) : WF P G ob wr rd N ds (o :: l) E H n K := by
  intro os i h1 h2
  obtain ⟨h3, h4⟩ := drop_head h2
  obtain ⟨r, Hc, nc, h5, h6⟩ := hF
  obtain ⟨E', H', n', h7, h8⟩ := h os (i + 1) h1 h4
  exact ⟨E', H', n', .lcall o c f args args' r y Hc nc h3 (by rw [wantR_eq h1]; exact hw) hwr hop hc hg ⟨fn, hf, hb, hn⟩ h5 h6 hd h7, h8⟩
end
theorem Agrees.off {ob fp : List Nat} {Hx H : Heap} (h : Agrees ob fp Hx H) {k : Nat} (hk : k ∉ ob) : Hx k = H k := h k fun a ha => absurd (List.mem_of_getElem? ha) hk
theorem Agrees.at {ob fp : List Nat} {Hx H : Heap} (h : Agrees ob fp Hx H) (hn : ob.Nodup) (a : Nat) {k : Nat} (hk : ob[a]? = some k) (ha : a ∈ fp) : Hx k = H k := h k fun b hb => by rw [nodup_at hn hb hk]; exact ha
/-- What is dead is forgotten. -/
theorem W.cut {P : Program} {G : Gv} {N : Nat} {c : Code} {E : Env} {H : Heap} {n : Nat} {K : Exit → Env → Heap → Nat → Prop} (h : ∀ (E2 : Env) (H2 : Heap), (∀ k, E2 k = E k) → (∀ k, H2 k = H k) → W P G N c E2 H2 n K) : W P G N c E H n K := h E H (fun _ => rfl) (fun _ => rfl)
/-- The same; the next number is named too. -/
theorem W.cutn {P : Program} {G : Gv} {N : Nat} {c : Code} {E : Env} {H : Heap} {n : Nat} {K : Exit → Env → Heap → Nat → Prop} (h : ∀ (E2 : Env) (H2 : Heap) (m : Nat), (∀ k, E2 k = E k) → (∀ k, H2 k = H k) → m = n → W P G N c E2 H2 m K) : W P G N c E H n K := h E H n (fun _ => rfl) (fun _ => rfl) rfl
theorem doneK.normal {P : Program} {rs : Array ResultVar} {K : AV → Heap → Nat → Prop} {E : Env} {H : Heap} {n : Nat} {xs : List AV} (h : resA P H E rs.toList = some xs) (g : K (retA xs) H n) : doneK P rs K .normal E H n := ⟨.inl rfl, xs, h, g⟩
theorem doneK.ret {P : Program} {rs : Array ResultVar} {K : AV → Heap → Nat → Prop} {E : Env} {H : Heap} {n : Nat} {xs : List AV} (h : resA P H E rs.toList = some xs) (g : K (retA xs) H n) : doneK P rs K .ret E H n := ⟨.inr rfl, xs, h, g⟩
attribute [irreducible] WO W WL WC WR WQ WM WF thenK roundK doneK
end Go.Big
